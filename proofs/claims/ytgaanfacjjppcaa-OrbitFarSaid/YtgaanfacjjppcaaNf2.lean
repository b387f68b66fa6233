/- The parts of a place: there, and how great. Conditions: right elements, right ticks. A place's numbers, by those of its parts; a place at its elements' tick stands in their plane. Conditions: right elements. -/
import Derived.Test.YtgaanfacjjppcaaNk2
namespace Go.Proofs.Ytgaanfacjjppcaa.Ns
open Go Go.Proofs.Ytgaanfacjjppcaa.Ae Go.Proofs.Ytgaanfacjjppcaa.Fx Go.Proofs.Ytgaanfacjjppcaa.Tx Go.Proofs.Ytgaanfacjjppcaa.Nx Go.Proofs.Ytgaanfacjjppcaa.Np Go.Proofs.Ytgaanfacjjppcaa.Te Go.Proofs.Ytgaanfacjjppcaa.Lx Go.Proofs.Ytgaanfacjjppcaa.Rx Go.Proofs.Ytgaanfacjjppcaa.Ve Go.Proofs.Ytgaanfacjjppcaa.Orb Go.Proofs.Ytgaanfacjjppcaa.Row

theorem ckT_is (t : Int) : ckT t = (decide (t ≥ 0) && decide (t ≤ 157766400000)) := by
  rw [← rckT_eq]; unfold rckT; rw [an_eq]
theorem days_of {t : Int} (h : 0 ≤ t ∧ t ≤ 157766400000) : ∃ d, daysP t false = (d, false) ∧ 0 ≤ d ∧ d ≤ 2007708232318977 := by
  obtain ⟨d, hd, d1, d2⟩ := part_is (a := 1099511627776) (p := t) (q := 86400000) 1099511627776 157766400000 ⟨by decide, by decide⟩ ⟨by omega, h.2⟩ (by decide) (by decide) ⟨by decide, by decide⟩ (by decide)
  refine ⟨d, ?_, by omega, by omega⟩
  unfold daysP
  have : ckT t = true := by rw [ckT_is]; simp [h.1, h.2]
  rw [this, Bool.not_true, bf]
  exact hd
/-- What right elements are. -/
theorem right_is {o : El} (h : rightO o = true) : Bd 6908435304716 o.node ∧ Bd 6908435304716 o.peri ∧ Bd 6908435304716 o.m ∧ (0 ≤ o.e ∧ o.e ≤ 109951162777) ∧ (0 ≤ o.i ∧ o.i ≤ 3454217652358) ∧ (0 ≤ o.t ∧ o.t ≤ 157766400000) ∧ (7232738120603 ≤ o.a ∧ o.a ≤ 9211859050601) ∧
    ∃ m1 m2, mul o.a (wr .i64 (1099511627776 - o.e)) false = (m1, false) ∧ mul o.a (wr .i64 (1099511627776 + o.e)) false = (m2, false) ∧ 7232738120604 ≤ m1 ∧ m2 ≤ 9211859050600 ∧
      Bd 1099511627776 (2 * (m1 * 1099511627776 - o.a * (1099511627776 - o.e))) ∧ Bd 1099511627776 (2 * (m2 * 1099511627776 - o.a * (1099511627776 + o.e))) := by
  unfold rightO at h
  dsimp only at h
  simp only [Bool.and_eq_true, Bool.not_eq_true', decide_eq_true_eq, decide_eq_false_iff_not] at h
  obtain ⟨⟨⟨⟨⟨⟨⟨⟨⟨⟨h1, h2⟩, h3⟩, h4⟩, h5⟩, h6⟩, h7⟩, h8⟩, h9⟩, h10⟩, h11⟩ := h
  have far : ∀ n : Int, farA n = false → Bd 6908435304716 n := by
    intro n hn
    unfold farA oor at hn
    unfold Bd
    by_cases p : n < -6908435304716
    · rw [decide_eq_true p, bt] at hn; cases hn
    · rw [decide_eq_false p, bf] at hn
      have := of_decide_eq_false hn
      omega
  rw [ckT_is] at h8
  simp only [Bool.and_eq_true, decide_eq_true_eq] at h8
  have e1 : wr .i64 (1099511627776 - o.e) = 1099511627776 - o.e := w64_in (by omega) (by omega)
  have e2 : wr .i64 (1099511627776 + o.e) = 1099511627776 + o.e := w64_in (by omega) (by omega)
  rw [e1, e2] at h10 h11
  rw [e1] at h9
  unfold mul at h11
  obtain ⟨g1, -, m2, r2, l2⟩ := lift_got h11
  obtain ⟨-, -, m1, r1, l1⟩ := lift_got g1
  have l1 : mul o.a (1099511627776 - o.e) false = (m1, false) := l1
  have l2' : mul o.a (1099511627776 + o.e) false = (m2, false) := by
    rw [← l2]
    unfold mul
    rw [g1]
  obtain ⟨-, s1, s2, -, -⟩ := rat_spec r1
  obtain ⟨-, s3, s4, -, -⟩ := rat_spec r2
  have e : ((1099511627776 : Int).natAbs : Int) = 1099511627776 := rfl
  rw [e] at s1 s2 s3 s4
  rw [l1] at h9 h10
  dsimp only at h9 h10
  rw [l2'] at h10
  dsimp only at h10
  have a1 : 7232738120603 ≤ o.a := by
    refine Int.not_lt.1 fun hn => ?_
    have hp : o.a * (1099511627776 - o.e) ≤ 7232738120602 * (1099511627776 - o.e) := Int.mul_le_mul_of_nonneg_right (by omega) (by omega)
    omega
  have a2 : o.a ≤ 9211859050601 := by
    refine Int.not_lt.1 fun hn => ?_
    have hp : 9211859050602 * (1099511627776 + o.e) ≤ o.a * (1099511627776 + o.e) := Int.mul_le_mul_of_nonneg_right (by omega) (by omega)
    omega
  refine ⟨far _ h1, far _ h2, far _ h3, ⟨by omega, by omega⟩, ⟨by omega, by omega⟩, ⟨by omega, by omega⟩, ⟨a1, a2⟩, m1, m2, ?_, ?_, by omega, by omega, ⟨by omega, s1⟩, ⟨by omega, s3⟩⟩
  · rw [e1]; exact l1
  · rw [e2]; exact l2'
/-- The middle of a place. -/
theorem mid_is {o : El} {tick : Int} (h : rightO o = true) (ht : 0 ≤ tick ∧ tick ≤ 157766400000) :
    ∃ n r node peri x, midP o tick false = ⟨n, r, sv o.i, cv o.i, node, peri, x, false⟩ ∧ (1090000000000 ≤ r ∧ r ≤ 1099511627776) ∧ Bd 6597069766656 (r * r + o.e * o.e - 1208925819614629174706176) ∧ Bd 335000000000000 node ∧ Bd 1483000000000000 peri ∧ Bd 10000000000000 x ∧ (tick = o.t → node = o.node) := by
  obtain ⟨nb, pb, mb, eb, ib, tb, ab, -⟩ := right_is h
  obtain ⟨D1, hD1, D10, D11⟩ := days_of ht
  obtain ⟨D2, hD2, D20, D21⟩ := days_of tb
  have hd := sub_b (a := D1) (b := D2) 2007708232318977 2007708232318977 ⟨by omega, D11⟩ ⟨by omega, D21⟩ (by decide)
  have db : Bd 2007708232318977 (D1 - D2) := ⟨by omega, by omega⟩
  obtain ⟨q1, hq1, q1e⟩ := div_is (a := 3271636820114455529) (q := o.a) 3271636820114455529 ⟨by decide, by decide⟩ (by decide) ⟨by omega, by omega⟩ (by omega)
  have q1b : 0 ≤ q1 ∧ q1 ≤ 500000000000000000 := by
    constructor
    · refine Int.not_lt.1 fun hn => ?_
      have : q1 * o.a ≤ 0 := Int.mul_nonpos_of_nonpos_of_nonneg (by omega) (by omega)
      unfold Bd at q1e; omega
    · refine Int.not_lt.1 fun hn => ?_
      have : (500000000000000001 : Int) * o.a ≤ q1 * o.a := Int.mul_le_mul_of_nonneg_right (by omega) (by omega)
      unfold Bd at q1e; omega
  obtain ⟨n0, hn0, n00, n01, -⟩ := sqrt_is (a := q1) ⟨q1b.1, by omega⟩
  have n0b : n0 ≤ 741500000000000 := lt_of_sq (by decide) (by omega)
  obtain ⟨n, hn, ne⟩ := div_is (a := n0) (q := o.a) 741500000000000 ⟨by omega, n0b⟩ (by decide) ⟨by omega, by omega⟩ (by omega)
  have nb' : Bd 113000000000000 n := by
    constructor
    · refine Int.not_lt.1 fun hh => ?_
      have : n * o.a ≤ (-113000000000001) * o.a := Int.mul_le_mul_of_nonneg_right (by omega) (by omega)
      unfold Bd at ne; omega
    · refine Int.not_lt.1 fun hh => ?_
      have : (113000000000001 : Int) * o.a ≤ n * o.a := Int.mul_le_mul_of_nonneg_right (by omega) (by omega)
      unfold Bd at ne; omega
  have eb' : Bd 109951162777 o.e := ⟨by omega, eb.2⟩
  obtain ⟨e1, he1, e1b, e1e⟩ := mul_b 109951162777 109951162777 10995116279 eb' eb' (by decide)
  have ee0 : 0 ≤ o.e * o.e := Int.mul_nonneg eb.1 eb.1
  have e10 : 0 ≤ e1 := by unfold Bd at e1e; omega
  have he2 := sub_b (a := 1099511627776) (b := e1) 1099511627776 10995116279 ⟨by decide, by decide⟩ e1b (by decide)
  have e2b : 1088516511497 ≤ 1099511627776 - e1 ∧ 1099511627776 - e1 ≤ 1099511627776 := by unfold Bd at e1b; omega
  obtain ⟨r, hr, r0, r1, r2⟩ := sqrt_is (a := 1099511627776 - e1) ⟨by omega, by omega⟩
  have rhi : r ≤ 1099511627776 := lt_of_sq (by decide) (by omega)
  have rlo : 1090000000000 ≤ r := by
    refine Int.not_lt.1 fun hh => ?_
    have : (r + 1) * (r + 1) ≤ 1090000000000 * 1090000000000 := Int.mul_le_mul (by omega) (by omega) (by omega) (by decide)
    omega
  have rsq : Bd 6597069766656 (r * r + o.e * o.e - 1208925819614629174706176) := by
    have e : (r + 1) * (r + 1) = r * r + 2 * r + 1 := by grind
    rw [e] at r2
    generalize r * r = rr at *
    generalize o.e * o.e = ee at *
    unfold Bd at *
    omega
  have rb : Bd 1099511627776 r := ⟨by omega, rhi⟩
  obtain ⟨k1, hk1, k1b, k1e⟩ := mul_b 1099511627776 1099511627776 1099511627776 rb rb (by decide)
  have k1lo : 1080000000000 ≤ k1 := by
    have : (1090000000000 : Int) * 1090000000000 ≤ r * r := Int.mul_le_mul rlo rlo (by decide) (by omega)
    unfold Bd at k1e; omega
  have ab' : Bd 9211859050601 o.a := ⟨by omega, ab.2⟩
  obtain ⟨k2, hk2, k2b, k2e⟩ := mul_b 9211859050601 1099511627776 9211859050602 ab' k1b (by decide)
  have k2lo : 7100000000000 ≤ k2 := by
    have : (7232738120603 : Int) * 1080000000000 ≤ o.a * k1 := Int.mul_le_mul ab.1 k1lo (by decide) (by omega)
    unfold Bd at k2e; omega
  obtain ⟨k3, hk3, k3e⟩ := div_is (a := 7012835795048) (q := k2) 7012835795048 ⟨by decide, by decide⟩ (by decide) ⟨by omega, by unfold Bd at k2b; omega⟩ (by omega)
  have k3b : Bd 1087000000000 k3 := by
    constructor
    · refine Int.not_lt.1 fun hh => ?_
      have : k3 * k2 ≤ (-1087000000001) * k2 := Int.mul_le_mul_of_nonneg_right (by omega) (by omega)
      unfold Bd at k3e; omega
    · refine Int.not_lt.1 fun hh => ?_
      have : (1087000000001 : Int) * k2 ≤ k3 * k2 := Int.mul_le_mul_of_nonneg_right (by omega) (by omega)
      unfold Bd at k3e; omega
  obtain ⟨k4, hk4, k4b, -⟩ := mul_b 1087000000000 1087000000000 1074700000000 k3b k3b (by decide)
  obtain ⟨k5, hk5, k5b, -⟩ := mul_b (a := 1785540935) 1785540935 1074700000000 1745300000 ⟨by decide, by decide⟩ k4b (by decide)
  obtain ⟨k, hk, kb, -⟩ := mul_b 1745300000 113000000000000 179500000000 k5b nb' (by decide)
  obtain ⟨hs, hc, sb, cb, -⟩ := sc_is (a := o.i) (by omega)
  obtain ⟨t, ht', t'b, -⟩ := mul_b (a := sv o.i) 1099511627789 1099511627789 1099511627804 sb sb (by decide)
  obtain ⟨m1, hm1, m1b, -⟩ := mul_b (b := cv o.i) 179500000000 1099511627789 179500000010 kb cb (by decide)
  obtain ⟨m2, hm2, m2b, m2e⟩ := mul_b (b := D1 - D2) 179500000010 2007708232318977 328000000000000 m1b db (by decide)
  have hnode := sub_b (a := o.node) (b := m2) 6908435304716 328000000000000 nb m2b (by decide)
  have nodeb : Bd 335000000000000 (o.node - m2) := (nb.sub m2b).mono (by decide)
  obtain ⟨p1, hp1, p1e⟩ := part_is (a := t) (p := 5) (q := 2) 1099511627804 5 t'b ⟨by decide, by decide⟩ (by decide) (by decide) ⟨by decide, by decide⟩ (by decide)
  have p1b : Bd 2748779069512 p1 := by unfold Bd at *; omega
  have hp2 := sub_b (a := 2199023255552) (b := p1) 2199023255552 2748779069512 ⟨by decide, by decide⟩ p1b (by decide)
  have p2b : Bd 4947802325064 (2199023255552 - p1) := by unfold Bd at *; omega
  obtain ⟨p3, hp3, p3b, -⟩ := mul_b (b := 2199023255552 - p1) 179500000000 4947802325064 807800000000 kb p2b (by decide)
  obtain ⟨p4, hp4, p4b, -⟩ := mul_b (b := D1 - D2) 807800000000 2007708232318977 1476000000000000 p3b db (by decide)
  have hperi := add_b (a := o.peri) (b := p4) 6908435304716 1476000000000000 pb p4b (by decide)
  have perib : Bd 1483000000000000 (o.peri + p4) := (pb.add p4b).mono (by decide)
  obtain ⟨w1, hw1, w1b, -⟩ := mul_b (b := r) 179500000000 1099511627776 179500000000 kb rb (by decide)
  obtain ⟨w2, hw2, w2e⟩ := part_is (a := t) (p := 3) (q := 2) 1099511627804 3 t'b ⟨by decide, by decide⟩ (by decide) (by decide) ⟨by decide, by decide⟩ (by decide)
  have w2b : Bd 1649267441707 w2 := by unfold Bd at *; omega
  have hw3 := sub_b (a := 1099511627776) (b := w2) 1099511627776 1649267441707 ⟨by decide, by decide⟩ w2b (by decide)
  have w3b : Bd 2748779069483 (1099511627776 - w2) := by unfold Bd at *; omega
  obtain ⟨w, hw, wb, -⟩ := mul_b (b := 1099511627776 - w2) 179500000000 2748779069483 448800000000 w1b w3b (by decide)
  have hx1 := add_b (a := n) (b := w) 113000000000000 448800000000 nb' wb (by decide)
  obtain ⟨x2, hx2, x2b, -⟩ := mul_b (a := n + w) (b := D1 - D2) 113448800000000 2007708232318977 207200000000000000 (nb'.add wb) db (by decide)
  have hx3 := add_b (a := o.m) (b := x2) 6908435304716 207200000000000000 mb x2b (by decide)
  have hx4 := mod_is (a := o.m + x2) (m := 6908435304716) (by unfold Bd at *; omega) (by decide) (by decide)
  obtain ⟨x, hx, xb, -⟩ := kep_all (m := (o.m + x2) % 6908435304716) (e := o.e) ⟨by omega, by omega⟩ eb
  refine ⟨n, r, o.node - m2, o.peri + p4, x, ?_, ⟨rlo, rhi⟩, rsq, nodeb, perib, by unfold Bd at *; omega, ?_⟩
  · unfold midP midG
    simp only [hD1, hD2, hd, hq1, hn0, hn, he1, he2, hr, hk1, hk2, hk3, hk4, hk5, hk, hs, hc, ht', hm1, hm2, hnode, hp1, hp2, hp3, hp4, hperi, hw1, hw2, hw3, hw, hx1, hx2, hx3, hx4, hx]
  · intro et
    subst et
    have e : D1 = D2 := by
      rw [hD1] at hD2
      exact (Prod.mk.inj hD2).1
    rw [e, Int.sub_self, Int.mul_zero] at m2e
    unfold Bd at m2e; omega
#print axioms mid_is
end Go.Proofs.Ytgaanfacjjppcaa.Ns

namespace Go.Proofs.Ytgaanfacjjppcaa.Ns
open Go Go.Proofs.Ytgaanfacjjppcaa.Ae Go.Proofs.Ytgaanfacjjppcaa.Fx Go.Proofs.Ytgaanfacjjppcaa.Tx Go.Proofs.Ytgaanfacjjppcaa.Nx Go.Proofs.Ytgaanfacjjppcaa.Np Go.Proofs.Ytgaanfacjjppcaa.Te Go.Proofs.Ytgaanfacjjppcaa.Lx Go.Proofs.Ytgaanfacjjppcaa.Rx Go.Proofs.Ytgaanfacjjppcaa.Ve Go.Proofs.Ytgaanfacjjppcaa.Orb Go.Proofs.Ytgaanfacjjppcaa.Row

theorem about_is {u v ang : Int} (U V RU RV : Int) (hu : Bd U u) (hv : Bd V v) (ha : Bd 2305843009213693952 ang)
    (cU : (decide (U ≤ 4611686018427387904) && (decide (1099511627789 ≤ 4611686018427387904) && (decide (U * 1099511627789 < 4611686018427387904 * 1099511627776) && decide (2 * (U * 1099511627789) + 1099511627776 < 2 * ((RU + 1) * 1099511627776))))) = true)
    (cV : (decide (V ≤ 4611686018427387904) && (decide (1099511627789 ≤ 4611686018427387904) && (decide (V * 1099511627789 < 4611686018427387904 * 1099511627776) && decide (2 * (V * 1099511627789) + 1099511627776 < 2 * ((RV + 1) * 1099511627776))))) = true) (cS : decide (RU + RV ≤ 4611686018427387904) = true) (cS' : decide (RV + RU ≤ 4611686018427387904) = true) :
    ∃ x y, aboutP u v ang false = ((x, y), false) ∧ Bd (RU + RV) x ∧ Bd (RU + RV) y ∧ Bd 1099511627776 (x * 1099511627776 - (u * cv ang - v * sv ang)) ∧ Bd 1099511627776 (y * 1099511627776 - (u * sv ang + v * cv ang)) := by
  obtain ⟨hs, hc, sb, cb, -⟩ := sc_is (a := ang) (by unfold Bd at ha; omega)
  obtain ⟨p, hp, pb, pe⟩ := mul_b (b := cv ang) U 1099511627789 RU hu cb cU
  obtain ⟨q, hq, qb, qe⟩ := mul_b (b := sv ang) V 1099511627789 RV hv sb cV
  obtain ⟨r, hr, rb, re⟩ := mul_b (b := sv ang) U 1099511627789 RU hu sb cU
  obtain ⟨t, ht, tb, te⟩ := mul_b (b := cv ang) V 1099511627789 RV hv cb cV
  have hx := sub_b (a := p) (b := q) RU RV pb qb cS
  have hy := add_b (a := r) (b := t) RU RV rb tb cS
  refine ⟨p - q, r + t, ?_, pb.sub qb, rb.add tb, ?_, ?_⟩
  · unfold aboutP aboG
    simp only [hc, hs, hp, hq, hx, hr, ht, hy]
  · generalize u * cv ang = y1 at *
    generalize v * sv ang = y2 at *
    unfold Bd at *; omega
  · generalize u * sv ang = y1 at *
    generalize v * cv ang = y2 at *
    unfold Bd at *; omega
/-- A place, by its parts. -/
theorem place_is {o : El} {tick : Int} (h : rightO o = true) (ht : 0 ≤ tick ∧ tick ≤ 157766400000) :
    ∃ r node peri X u v1 v a b hh x y z, placeP o tick false = (⟨x, y, z⟩, false) ∧
      (1090000000000 ≤ r ∧ r ≤ 1099511627776) ∧ Bd 6597069766656 (r * r + o.e * o.e - 1208925819614629174706176) ∧ Bd 335000000000000 node ∧ Bd 1483000000000000 peri ∧ Bd 10000000000000 X ∧ (tick = o.t → node = o.node) ∧
      Bd 10140000000000 u ∧ Bd 9211860000000 v1 ∧ Bd 9211860000000 v ∧ Bd 19351860000400 a ∧ Bd 19351860000400 b ∧ Bd 19351860000700 hh ∧ Bd 38703720001900 x ∧ Bd 38703720001900 y ∧ Bd 19351860000700 z ∧
      Bd 1099511627776 (2 * (u * 1099511627776 - o.a * (cv X - o.e))) ∧ Bd 1099511627776 (2 * (v1 * 1099511627776 - o.a * r)) ∧ Bd 1099511627776 (2 * (v * 1099511627776 - v1 * sv X)) ∧
      Bd 1099511627776 (a * 1099511627776 - (u * cv peri - v * sv peri)) ∧ Bd 1099511627776 (b * 1099511627776 - (u * sv peri + v * cv peri)) ∧ Bd 1099511627776 (2 * (hh * 1099511627776 - b * cv o.i)) ∧
      Bd 1099511627776 (x * 1099511627776 - (a * cv node - hh * sv node)) ∧ Bd 1099511627776 (y * 1099511627776 - (a * sv node + hh * cv node)) ∧ Bd 1099511627776 (2 * (z * 1099511627776 - b * sv o.i)) := by
  obtain ⟨n, r, node, peri, X, hm, rr, rsq, nodeb, perib, Xb, hnode⟩ := mid_is h ht
  obtain ⟨-, -, -, eb, ib, tb, ab, -⟩ := right_is h
  obtain ⟨hs, hc, sb, cb, -⟩ := sc_is (a := X) (by unfold Bd at Xb; omega)
  obtain ⟨-, -, sib, cib, -⟩ := sc_is (a := o.i) (by omega)
  have ab' : Bd 9211859050601 o.a := ⟨by omega, ab.2⟩
  have h1 := sub_b (a := cv X) (b := o.e) 1099511627789 109951162777 cb ⟨by omega, eb.2⟩ (by decide)
  have b1 : Bd 1209462790566 (cv X - o.e) := by unfold Bd; omega
  obtain ⟨u, hu, ub, ue⟩ := mul_b (b := cv X - o.e) 9211859050601 1209462790566 10140000000000 ab' b1 (by decide)
  obtain ⟨v1, hv1, v1b, v1e⟩ := mul_b (b := r) 9211859050601 1099511627776 9211860000000 ab' ⟨by omega, rr.2⟩ (by decide)
  obtain ⟨v, hv, vb, ve⟩ := mul_b (a := v1) (b := sv X) 9211859060000 1099511627789 9211860000000 (by
      have : Bd (9211859050601 * 1099511627776) (o.a * r) := ab'.mul (show Bd 1099511627776 r from ⟨by omega, rr.2⟩)
      generalize o.a * r = p at *
      unfold Bd at *; omega) sb (by decide)
  obtain ⟨a, b, hab, a0, b0, ae, be⟩ := about_is (ang := peri) 10140000000000 9211860000000 10140000000200 9211860000200 ub vb (perib.mono (by decide)) (by decide) (by decide) (by decide) (by decide)
  have a0 : Bd 19351860000400 a := a0
  have b0 : Bd 19351860000400 b := b0
  obtain ⟨hh, hhh, hb, he⟩ := mul_b (b := cv o.i) 19351860000400 1099511627789 19351860000700 b0 cib (by decide)
  obtain ⟨x, y, hxy, x0, y0, xe, ye⟩ := about_is (ang := node) 19351860000400 19351860000700 19351860000800 19351860001100 a0 hb (nodeb.mono (by decide)) (by decide) (by decide) (by decide) (by decide)
  have x0 : Bd 38703720001900 x := x0
  have y0 : Bd 38703720001900 y := y0
  obtain ⟨z, hz, zb, ze⟩ := mul_b (b := sv o.i) 19351860000400 1099511627789 19351860000700 b0 sib (by decide)
  refine ⟨r, node, peri, X, u, v1, v, a, b, hh, x, y, z, ?_, rr, rsq, nodeb, perib, Xb, hnode, ub, v1b, vb, a0, b0, hb, x0, y0, zb, ue, v1e, ve, ae, be, he, xe, ye, ze⟩
  have hck : ckT tick = true := by rw [ckT_is]; simp [ht.1, ht.2]
  have hpl : planeP o (midP o tick false) = ((a, b), false) := by
    rw [hm]
    unfold planeP
    simp only [hc, h1, hu, hv1, hs, hv, hab]
  unfold placeP
  rw [h, hck, Bool.not_true, bf, bf, bf]
  dsimp only
  rw [hpl, hm]
  unfold skyP
  simp only [hhh, hxy, hz]
  rfl
/-- The plane, in numbers alone. -/
theorem plane_abs {a b h x y z s c sN cN u0 u1 d0 d1 d2 : Int} (ab : Bd 19351860000400 a) (bb : Bd 19351860000400 b) (hb : Bd 19351860000700 h) (xb : Bd 38703720001900 x) (yb : Bd 38703720001900 y)
    (sb : Bd 1099511627789 s) (cb : Bd 1099511627789 c) (snb : Bd 1099511627789 sN) (cnb : Bd 1099511627789 cN) (one : Bd 13194139533312 (sN * sN + cN * cN - 1208925819614629174706176))
    (he : Bd 1099511627776 (2 * (h * 1099511627776 - b * c))) (xe : Bd 1099511627776 (x * 1099511627776 - (a * cN - h * sN))) (ye : Bd 1099511627776 (y * 1099511627776 - (a * sN + h * cN))) (ze : Bd 1099511627776 (2 * (z * 1099511627776 - b * s)))
    (u0e : Bd 1099511627776 (2 * (u0 * 1099511627776 - s * sN))) (u1e : Bd 1099511627776 (2 * (u1 * 1099511627776 - s * cN)))
    (d0e : Bd 1099511627776 (2 * (d0 * 1099511627776 - x * u0))) (d1e : Bd 1099511627776 (2 * (d1 * 1099511627776 - y * -u1))) (d2e : Bd 1099511627776 (2 * (d2 * 1099511627776 - z * c))) : Bd 65536 (d0 + d1 + d2) := by
  have k1 := (sb.mul hb).mul one
  have k2 := sb.mul he
  have k3 := cb.mul ze
  have k4 := (sb.mul snb).mul xe
  have k5 := (sb.mul cnb).mul ye
  have k6 := xb.mul u0e
  have k7 := yb.mul u1e
  have e : 2 * 1329227995784915872903807060280344576 * (d0 + d1 + d2) =
      1208925819614629174706176 * (2 * (d0 * 1099511627776 - x * u0)) + 1208925819614629174706176 * (2 * (d1 * 1099511627776 - y * -u1)) + 1208925819614629174706176 * (2 * (d2 * 1099511627776 - z * c)) -
      2 * (s * h * (sN * sN + cN * cN - 1208925819614629174706176)) - 1099511627776 * (s * (2 * (h * 1099511627776 - b * c))) + 1099511627776 * (c * (2 * (z * 1099511627776 - b * s))) +
      2 * (s * sN * (x * 1099511627776 - (a * cN - h * sN))) - 2 * (s * cN * (y * 1099511627776 - (a * sN + h * cN))) + 1099511627776 * (x * (2 * (u0 * 1099511627776 - s * sN))) - 1099511627776 * (y * (2 * (u1 * 1099511627776 - s * cN))) := by grind
  generalize d0 + d1 + d2 = D at *
  generalize 2 * (d0 * 1099511627776 - x * u0) = y0 at *
  generalize 2 * (d1 * 1099511627776 - y * -u1) = y1 at *
  generalize 2 * (d2 * 1099511627776 - z * c) = y2 at *
  generalize s * h * (sN * sN + cN * cN - 1208925819614629174706176) = y3 at *
  generalize s * (2 * (h * 1099511627776 - b * c)) = y4 at *
  generalize c * (2 * (z * 1099511627776 - b * s)) = y5 at *
  generalize s * sN * (x * 1099511627776 - (a * cN - h * sN)) = y6 at *
  generalize s * cN * (y * 1099511627776 - (a * sN + h * cN)) = y7 at *
  generalize x * (2 * (u0 * 1099511627776 - s * sN)) = y8 at *
  generalize y * (2 * (u1 * 1099511627776 - s * cN)) = y9 at *
  unfold Bd at *
  omega
section
variable (ad su mu : Op2) (si co : Op1) (pl : El → Int → Bool → V3 × Bool) (rt : El → Bool) (ke : Op2) (nr : Op3) (dt : V3 → V3 → Bool → Int × Bool)
def envF8 : Env := (16, .flow 25 (nrmF nr)) :: (17, .text) :: envS8 ad su mu si co pl rt ke
theorem lplane_raw (o : El) : acall Try.prog (envF8 ad su mu si co pl rt ke nr) 100 10 [.agg o.av] [] ansK =
    let p := pl o o.t false
    let s := si o.i p.2
    let c := co o.i s.2
    let sn := si o.node c.2
    let u0 := mu s.1 sn.1 sn.2
    let cn := co o.node u0.2
    let u1 := mu s.1 cn.1 cn.2
    let d0 := mu p.1.x u0.1 u1.2
    let d1 := mu p.1.y (wr .i64 (0 - u1.1)) d0.2
    let e1 := ad d0.1 d1.1 d1.2
    let d2 := mu p.1.z c.1 e1.2
    let d := ad e1.1 d2.1 d2.2
    bif !(rt o) then some true else some (an (an (!d.2) (decide (d.1 ≤ 65536))) (decide (d.1 ≥ -65536))) := by kernel_rfl
def farE (m1 m2 : Int × Bool) (n : Int × Bool) : Bool := an (an (!m2.2) (decide (n.1 ≥ wr .i64 (m1.1 - 65536)))) (decide (n.1 ≤ wr .i64 (m2.1 + 65536)))
theorem lfar_raw (o : El) (t : Int) : acall Try.prog (envF8 ad su mu si co pl rt ke nr) 100 11 [.agg o.av, I t] [] ansK =
    let p := pl o t false
    let n := nr p.1.x p.1.y p.1.z p.2
    let m1 := mu o.a (wr .i64 (1099511627776 - o.e)) n.2
    let m2 := mu o.a (wr .i64 (1099511627776 + o.e)) m1.2
    bif (bif (bif !(rt o) then true else decide (t < 0)) then true else decide (t > 157766400000)) then some true else some (farE m1 m2 n) := by kernel_rfl
end
theorem envF8_ok : EnvOk Try.prog (envF8 add sub mul sinP cosP placeP rightO keplerP norm) :=
  EnvOk.f (EnvOk.t envS8_ok (enter_of Try.func17 (by kernel_rfl) rfl)) en_vNorm vnorm_con
theorem oplane_law (o : El) (w : World) : Calls Try.prog 10 #[.agg ⟨[.int .i64 o.a, .int .i64 o.e, .int .i64 o.i, .int .i64 o.node, .int .i64 o.peri, .int .i64 o.m, .int .i64 o.t]⟩] w fun e w' => e = .returned (.bool true) ∧ Go.RowKit.Below w.heap.size w w' := by
  refine law_true envF8_ok ((lplane_raw add sub mul sinP cosP placeP rightO keplerP norm o).trans ?_) (RL.cons (elR _ o) (RL_nil.2 rfl))
  dsimp only
  cases h : rightO o with
  | false => rw [Bool.not_false, bt]
  | true =>
    rw [Bool.not_true, bf]
    obtain ⟨nb, -, -, eb, ib, tb, -⟩ := right_is h
    obtain ⟨r, node, peri, X, u, v1, v, a, b, hh, x, y, z, hp, -, -, -, -, -, hnode, -, -, -, ab, bb, hb, xb, yb, zb, -, -, -, -, -, he, xe, ye, ze⟩ := place_is h tb
    obtain rfl := hnode rfl
    obtain ⟨hs, hc, sb, cb, -⟩ := sc_is (a := o.i) (by omega)
    obtain ⟨hsn, hcn, snb, cnb, one⟩ := sc_is (a := o.node) (by unfold Bd at nb; omega)
    obtain ⟨u0, hu0, u0b, u0e⟩ := mul_b (a := sv o.i) (b := sv o.node) 1099511627789 1099511627789 1099511627804 sb snb (by decide)
    obtain ⟨u1, hu1, u1b, u1e⟩ := mul_b (a := sv o.i) (b := cv o.node) 1099511627789 1099511627789 1099511627804 sb cnb (by decide)
    have hneg : wr .i64 (0 - u1) = -u1 := by
      unfold Bd at u1b
      rw [w64_in (n := 0 - u1) (by omega) (by omega)]; omega
    obtain ⟨d0, hd0, d0b, d0e⟩ := mul_b (a := x) (b := u0) 38703720001900 1099511627804 38703720003000 xb u0b (by decide)
    obtain ⟨d1, hd1, d1b, d1e⟩ := mul_b (a := y) (b := -u1) 38703720001900 1099511627804 38703720003000 yb u1b.neg (by decide)
    obtain ⟨d2, hd2, d2b, d2e⟩ := mul_b (a := z) (b := cv o.i) 19351860000700 1099511627789 19351860001000 zb cb (by decide)
    have e1 := add_b (a := d0) (b := d1) 38703720003000 38703720003000 d0b d1b (by decide)
    have e2 := add_b (a := d0 + d1) (b := d2) 77407440006000 19351860001000 (d0b.add d1b) d2b (by decide)
    have fin := plane_abs ab bb hb xb yb sb cb snb cnb one he xe ye ze u0e u1e d0e d1e d2e
    simp only [hp, hs, hc, hsn, hu0, hcn, hu1, hneg, hd0, hd1, e1, hd2, e2]
    unfold Bd at fin
    unfold an
    simp [fin.1, fin.2]
#print axioms oplane_law
end Go.Proofs.Ytgaanfacjjppcaa.Ns
