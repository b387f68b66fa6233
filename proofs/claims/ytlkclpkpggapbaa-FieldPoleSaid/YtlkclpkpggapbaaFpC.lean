/- The field near a pole, and the law of the poles. Conditions: as each says. -/
import Derived.Test.YtlkclpkpggapbaaFpB
namespace Go.Proofs.Ytlkclpkpggapbaa.Fd
open Go Go.Proofs.Ytlkclpkpggapbaa.Ae Go.Proofs.Ytlkclpkpggapbaa.Fx Go.Proofs.Ytlkclpkpggapbaa.Lx Go.Proofs.Ytlkclpkpggapbaa.Tx Go.Proofs.Ytlkclpkpggapbaa.Te Go.Proofs.Ytlkclpkpggapbaa.Rx Go.Proofs.Ytlkclpkpggapbaa.Row Go.Proofs.Ytlkclpkpggapbaa.Ve Go.Proofs.Ytlkclpkpggapbaa.Nx Go.Proofs.Ytlkclpkpggapbaa.Ns

theorem mul_oneL {a : Int} (ha : Bd 1125899906842624 a) : mul 1099511627776 a false = (a, false) := by
  obtain ⟨r, hr, r1, r2⟩ := mul_is (a := 1099511627776) (b := a) (A := 1099511627776) (B := 1125899906842624) ⟨by decide, by decide⟩ ha (by decide) (by decide) (by decide)
  have : r = a := by omega
  rw [hr, this]
theorem mul_zeroL {a : Int} (ha : Bd 1125899906842624 a) : mul 0 a false = (0, false) := by
  obtain ⟨r, hr, r1, r2⟩ := mul_is (a := 0) (b := a) (A := 0) (B := 1125899906842624) ⟨by decide, by decide⟩ ha (by decide) (by decide) (by decide)
  rw [Int.zero_mul] at r1 r2
  have : r = 0 := by omega
  rw [hr, this]
theorem cs_one {u v : Int} (hu : Bd 1099511627776 u) (hv : Bd 1099511627776 v) : (cs u v 1).1 = (u, v) := by
  have hs := cs_step hu hv (m := 0) (by decide)
  have e0 : (cs u v 0).1 = (1099511627776, 0) := rfl
  rw [e0] at hs
  have e : next u v 1099511627776 0 false = ((u, v), false) := by
    unfold next nextG
    rw [mul_oneL (hu.mono (by decide))]
    dsimp only
    rw [mul_zeroL (hv.mono (by decide))]
    dsimp only
    have h1 := sub_is (a := u) (b := 0) (by unfold Bd at hu; omega) (by omega) (by unfold Bd at hu; omega)
    rw [h1]
    dsimp only
    rw [mul_zeroL (hu.mono (by decide))]
    dsimp only
    rw [mul_oneL (hv.mono (by decide))]
    dsimp only
    have h2 := add_is (a := 0) (b := v) (by omega) (by unfold Bd at hv; omega) (by unfold Bd at hv; omega)
    rw [h2, Int.sub_zero, Int.zero_add]
  rw [e] at hs
  exact (congrArg Prod.fst hs).symm
def sumUp (w : Int → Int) (r tick : Int) : Int := 2 * (w 1 * (tau r 1 * gk tick (1, 0))) + 3 * (w 2 * (tau r 2 * gk tick (2, 0))) + 4 * (w 3 * (tau r 3 * gk tick (3, 0))) + 5 * (w 4 * (tau r 4 * gk tick (4, 0))) + 6 * (w 5 * (tau r 5 * gk tick (5, 0))) + 7 * (w 6 * (tau r 6 * gk tick (6, 0)))
def sumG (q : Int → Int) (r tick : Int) : Int := q 1 * (tau r 1 * gk tick (1, 1)) + q 2 * (tau r 2 * gk tick (2, 1)) + q 3 * (tau r 3 * gk tick (3, 1)) + q 4 * (tau r 4 * gk tick (4, 1)) + q 5 * (tau r 5 * gk tick (5, 1)) + q 6 * (tau r 6 * gk tick (6, 1))
def sumH (q : Int → Int) (r tick : Int) : Int := q 1 * (tau r 1 * hk tick (1, 1)) + q 2 * (tau r 2 * hk tick (2, 1)) + q 3 * (tau r 3 * hk tick (3, 1)) + q 4 * (tau r 4 * hk tick (4, 1)) + q 5 * (tau r 5 * hk tick (5, 1)) + q 6 * (tau r 6 * hk tick (6, 1))
theorem sumW_skip {f : MK → Int} {k : MK} {l : List MK} (h : f k = 0) : sumW f (k :: l) = sumW f l := by
  conv => lhs; unfold sumW
  rw [h, Int.zero_add]
def mzero : List MK := [(1, 0), (2, 0), (3, 0), (4, 0), (5, 0), (6, 0)]
def mone : List MK := [(1, 1), (2, 1), (3, 1), (4, 1), (5, 1), (6, 1)]
theorem sum_filter {f : MK → Int} {p : MK → Bool} (h : ∀ k, p k = false → f k = 0) : ∀ l : List MK, sumW f l = sumW f (l.filter p)
  | [] => rfl
  | k :: l => by
    cases hp : p k with
    | true =>
      rw [List.filter_cons_of_pos hp]
      unfold sumW
      rw [sum_filter h l]
    | false =>
      rw [List.filter_cons_of_neg (by rw [hp]; decide), sumW_skip (h k hp)]
      exact sum_filter h l
theorem mainU_is (w : Int → Int) (r tick u v : Int) : sumW (mainU w r tick u v) keys27 = 1208925819614629174706176 * sumUp w r tick := by
  rw [sum_filter (p := fun k => k.2 == 0) (fun k hk => by unfold mainU; rw [hk]; rfl) keys27]
  have e : keys27.filter (fun k => k.2 == 0) = mzero := by kernel_rfl
  rw [e]
  have key : ∀ n : Int, mainU w r tick u v (n, 0) = (n + 1) * (tau r n.toNat * (w n * 1099511627776) * (gk tick (n, 0) * 1099511627776)) := by
    intro n
    have e : mainU w r tick u v (n, 0) = (n + 1) * (tau r n.toNat * (w n * 1099511627776) * (gk tick (n, 0) * 1099511627776 + Fd.hk tick (n, 0) * 0)) := rfl
    rw [e, Int.mul_zero, Int.add_zero]
  simp only [mzero, sumW, key]
  unfold sumUp
  have t : (1 : Int).toNat = 1 ∧ (2 : Int).toNat = 2 ∧ (3 : Int).toNat = 3 ∧ (4 : Int).toNat = 4 ∧ (5 : Int).toNat = 5 ∧ (6 : Int).toNat = 6 := ⟨rfl, rfl, rfl, rfl, rfl, rfl⟩
  obtain ⟨t1, t2, t3, t4, t5, t6⟩ := t
  rw [t1, t2, t3, t4, t5, t6]
  generalize tau r 1 = x1
  generalize tau r 2 = x2
  generalize tau r 3 = x3
  generalize tau r 4 = x4
  generalize tau r 5 = x5
  generalize tau r 6 = x6
  grind
theorem mainS_is (q : Int → Int) (sg r tick : Int) {u v : Int} (hu : Bd 1099511627776 u) (hv : Bd 1099511627776 v) : sumW (mainS q sg r tick u v) keys27 = sg * (sumG q r tick * u + sumH q r tick * v) := by
  rw [sum_filter (p := fun k => k.2 == 1) (fun k hk => by unfold mainS; rw [hk]; rfl) keys27]
  have e : keys27.filter (fun k => k.2 == 1) = mone := by kernel_rfl
  rw [e]
  have hc := cs_one hu hv
  have key : ∀ n : Int, mainS q sg r tick u v (n, 1) = tau r n.toNat * (sg * q n) * (gk tick (n, 1) * u + Fd.hk tick (n, 1) * v) := by
    intro n
    have e : mainS q sg r tick u v (n, 1) = tau r n.toNat * (sg * q n) * (gk tick (n, 1) * (cs u v 1).1.1 + Fd.hk tick (n, 1) * (cs u v 1).1.2) := rfl
    rw [e, hc]
  simp only [mone, sumW, key]
  unfold sumG sumH
  have t : (1 : Int).toNat = 1 ∧ (2 : Int).toNat = 2 ∧ (3 : Int).toNat = 3 ∧ (4 : Int).toNat = 4 ∧ (5 : Int).toNat = 5 ∧ (6 : Int).toNat = 6 := ⟨rfl, rfl, rfl, rfl, rfl, rfl⟩
  obtain ⟨t1, t2, t3, t4, t5, t6⟩ := t
  rw [t1, t2, t3, t4, t5, t6]
  grind
theorem mainE_is (q : Int → Int) (r tick : Int) {u v : Int} (hu : Bd 1099511627776 u) (hv : Bd 1099511627776 v) : sumW (mainE q r tick u v) keys27 = sumG q r tick * v - sumH q r tick * u := by
  rw [sum_filter (p := fun k => k.2 == 1) (fun k hk => by unfold mainE; rw [hk]; rfl) keys27]
  have e : keys27.filter (fun k => k.2 == 1) = mone := by kernel_rfl
  rw [e]
  have hc := cs_one hu hv
  have key : ∀ n : Int, mainE q r tick u v (n, 1) = 1 * (tau r n.toNat * q n * (gk tick (n, 1) * v - Fd.hk tick (n, 1) * u)) := by
    intro n
    have e : mainE q r tick u v (n, 1) = 1 * (tau r n.toNat * q n * (gk tick (n, 1) * (cs u v 1).1.2 - Fd.hk tick (n, 1) * (cs u v 1).1.1)) := rfl
    rw [e, hc]
  simp only [mone, sumW, key]
  unfold sumG sumH
  have t : (1 : Int).toNat = 1 ∧ (2 : Int).toNat = 2 ∧ (3 : Int).toNat = 3 ∧ (4 : Int).toNat = 4 ∧ (5 : Int).toNat = 5 ∧ (6 : Int).toNat = 6 := ⟨rfl, rfl, rfl, rfl, rfl, rfl⟩
  obtain ⟨t1, t2, t3, t4, t5, t6⟩ := t
  rw [t1, t2, t3, t4, t5, t6]
  grind
def chkN (k : MK) (L : Int) : Option Unit := numI k fun G H => bif wit L G && wit L H then some () else none
theorem num_bd {k : MK} {L : Int} (h : chkN k L = some ()) (hk : k ∈ keys27) {tick : Int} (ht : 0 ≤ tick ∧ tick ≤ 157766400000) : Bd L (gk tick k) ∧ Bd L (Fd.hk tick k) := by
  obtain ⟨g, h', G, H, hn, ig, ih, h⟩ := num_in hk ht h
  have eg : gk tick k = g := by unfold gk; rw [hn]
  have eh : Fd.hk tick k = h' := by unfold Fd.hk; rw [hn]
  rw [eg, eh]
  cases hw : wit L G && wit L H with
  | false => rw [hw] at h; cases h
  | true =>
    simp only [Bool.and_eq_true] at hw
    exact ⟨wit_bd hw.1 ig, wit_bd hw.2 ih⟩
/-- Bounds of the numbers of order 0 and 1: in units of 2^-40. -/
theorem nums0 {tick : Int} (ht : 0 ≤ tick ∧ tick ≤ 157766400000) : Bd 33000000000000 (gk tick (1, 0)) ∧ Bd 3100000000000 (gk tick (2, 0)) ∧ Bd 1540000000000 (gk tick (3, 0)) ∧ Bd 1000000000000 (gk tick (4, 0)) ∧ Bd 270000000000 (gk tick (5, 0)) ∧ Bd 80000000000 (gk tick (6, 0)) :=
  ⟨(num_bd (L := 33000000000000) (by kernel_rfl) (by decide) ht).1, (num_bd (L := 3100000000000) (by kernel_rfl) (by decide) ht).1, (num_bd (L := 1540000000000) (by kernel_rfl) (by decide) ht).1, (num_bd (L := 1000000000000) (by kernel_rfl) (by decide) ht).1, (num_bd (L := 270000000000) (by kernel_rfl) (by decide) ht).1, (num_bd (L := 80000000000) (by kernel_rfl) (by decide) ht).1⟩
theorem nums1 {tick : Int} (ht : 0 ≤ tick ∧ tick ≤ 157766400000) : (Bd 5100000000000 (gk tick (1, 1)) ∧ Bd 5100000000000 (hk tick (1, 1))) ∧ (Bd 3700000000000 (gk tick (2, 1)) ∧ Bd 3700000000000 (hk tick (2, 1))) ∧ (Bd 2700000000000 (gk tick (3, 1)) ∧ Bd 2700000000000 (hk tick (3, 1))) ∧
    (Bd 900000000000 (gk tick (4, 1)) ∧ Bd 900000000000 (hk tick (4, 1))) ∧ (Bd 420000000000 (gk tick (5, 1)) ∧ Bd 420000000000 (hk tick (5, 1))) ∧ (Bd 80000000000 (gk tick (6, 1)) ∧ Bd 80000000000 (hk tick (6, 1))) :=
  ⟨num_bd (by kernel_rfl) (by decide) ht, num_bd (by kernel_rfl) (by decide) ht, num_bd (by kernel_rfl) (by decide) ht, num_bd (by kernel_rfl) (by decide) ht, num_bd (by kernel_rfl) (by decide) ht, num_bd (by kernel_rfl) (by decide) ht⟩
/-- Six products, each of a known size. -/
theorem six {q1 q2 q3 q4 q5 q6 t1 t2 t3 t4 t5 t6 g1 g2 g3 g4 g5 g6 A1 A2 A3 A4 A5 A6 T1 T2 T3 T4 T5 T6 G1 G2 G3 G4 G5 G6 : Int} (a1 : Bd A1 q1) (a2 : Bd A2 q2) (a3 : Bd A3 q3) (a4 : Bd A4 q4) (a5 : Bd A5 q5) (a6 : Bd A6 q6)
    (b1 : Bd T1 t1) (b2 : Bd T2 t2) (b3 : Bd T3 t3) (b4 : Bd T4 t4) (b5 : Bd T5 t5) (b6 : Bd T6 t6) (c1 : Bd G1 g1) (c2 : Bd G2 g2) (c3 : Bd G3 g3) (c4 : Bd G4 g4) (c5 : Bd G5 g5) (c6 : Bd G6 g6) :
    Bd (A1 * (T1 * G1) + A2 * (T2 * G2) + A3 * (T3 * G3) + A4 * (T4 * G4) + A5 * (T5 * G5) + A6 * (T6 * G6)) (q1 * (t1 * g1) + q2 * (t2 * g2) + q3 * (t3 * g3) + q4 * (t4 * g4) + q5 * (t5 * g5) + q6 * (t6 * g6)) :=
  (((((a1.mul (b1.mul c1)).add (a2.mul (b2.mul c2))).add (a3.mul (b3.mul c3))).add (a4.mul (b4.mul c4))).add (a5.mul (b5.mul c5))).add (a6.mul (b6.mul c6))
theorem six_sub (q1 q2 q3 q4 q5 q6 t1 t2 t3 t4 t5 t6 s1 s2 s3 s4 s5 s6 g1 g2 g3 g4 g5 g6 : Int) :
    (q1 * (t1 * g1) + q2 * (t2 * g2) + q3 * (t3 * g3) + q4 * (t4 * g4) + q5 * (t5 * g5) + q6 * (t6 * g6)) - (q1 * (s1 * g1) + q2 * (s2 * g2) + q3 * (s3 * g3) + q4 * (s4 * g4) + q5 * (s5 * g5) + q6 * (s6 * g6)) =
    q1 * ((t1 - s1) * g1) + q2 * ((t2 - s2) * g2) + q3 * ((t3 - s3) * g3) + q4 * ((t4 - s4) * g4) + q5 * ((t5 - s5) * g5) + q6 * ((t6 - s6) * g6) := by grind
structure Pole (q : Int → Int) : Prop where
  (q1 : Bd 1099511627776 (q 1)) (q2 : Bd 1904382000000 (q 2)) (q3 : Bd 2693162000000 (q 3)) (q4 : Bd 3476740000000 (q 4)) (q5 : Bd 4258050000000 (q 5)) (q6 : Bd 5037950000000 (q 6))
theorem poleN : Pole qN := ⟨⟨by decide, by decide⟩, ⟨by decide, by decide⟩, ⟨by decide, by decide⟩, ⟨by decide, by decide⟩, ⟨by decide, by decide⟩, ⟨by decide, by decide⟩⟩
theorem poleS : Pole qS := ⟨⟨by decide, by decide⟩, ⟨by decide, by decide⟩, ⟨by decide, by decide⟩, ⟨by decide, by decide⟩, ⟨by decide, by decide⟩, ⟨by decide, by decide⟩⟩
theorem t_bd {r : Int} (h : In01 (rho r)) (n : Nat) : Bd 1099511627776 (tau r n) := ⟨by have := (tau_in h n).1; omega, (tau_in h n).2⟩
/-- 24 One, in the sums' own units. -/
theorem sumG_bd {q : Int → Int} (hq : Pole q) {tick : Int} (ht : 0 ≤ tick ∧ tick ≤ 157766400000) {r : Int} (hr : In01 (rho r)) : Bd (26388279066624 * 1208925819614629174706176) (sumG q r tick) ∧ Bd (26388279066624 * 1208925819614629174706176) (sumH q r tick) := by
  obtain ⟨⟨g1, h1⟩, ⟨g2, h2⟩, ⟨g3, h3⟩, ⟨g4, h4⟩, ⟨g5, h5⟩, ⟨g6, h6⟩⟩ := nums1 ht
  constructor
  · exact (six hq.q1 hq.q2 hq.q3 hq.q4 hq.q5 hq.q6 (t_bd hr 1) (t_bd hr 2) (t_bd hr 3) (t_bd hr 4) (t_bd hr 5) (t_bd hr 6) g1 g2 g3 g4 g5 g6).mono (by decide)
  · exact (six hq.q1 hq.q2 hq.q3 hq.q4 hq.q5 hq.q6 (t_bd hr 1) (t_bd hr 2) (t_bd hr 3) (t_bd hr 4) (t_bd hr 5) (t_bd hr 6) h1 h2 h3 h4 h5 h6).mono (by decide)
theorem sumG_near {q : Int → Int} (hq : Pole q) {tick : Int} (ht : 0 ≤ tick ∧ tick ≤ 157766400000) {r r' : Int} (hr : In01 (rho r)) (hr' : In01 (rho r')) (hd : Bd 26500000 (rho r - rho r')) :
    Bd (10995116277 * 1208925819614629174706176) (sumG q r tick - sumG q r' tick) ∧ Bd (10995116277 * 1208925819614629174706176) (sumH q r tick - sumH q r' tick) := by
  obtain ⟨⟨g1, h1⟩, ⟨g2, h2⟩, ⟨g3, h3⟩, ⟨g4, h4⟩, ⟨g5, h5⟩, ⟨g6, h6⟩⟩ := nums1 ht
  have d := tau_near hr hr' hd
  constructor
  · unfold sumG
    rw [six_sub]
    exact (six hq.q1 hq.q2 hq.q3 hq.q4 hq.q5 hq.q6 (d 1) (d 2) (d 3) (d 4) (d 5) (d 6) g1 g2 g3 g4 g5 g6).mono (by decide)
  · unfold sumH
    rw [six_sub]
    exact (six hq.q1 hq.q2 hq.q3 hq.q4 hq.q5 hq.q6 (d 1) (d 2) (d 3) (d 4) (d 5) (d 6) h1 h2 h3 h4 h5 h6).mono (by decide)
structure Sgn (w : Int → Int) : Prop where
  (w1 : Bd 1 (w 1)) (w2 : Bd 1 (w 2)) (w3 : Bd 1 (w 3)) (w4 : Bd 1 (w 4)) (w5 : Bd 1 (w 5)) (w6 : Bd 1 (w 6))
theorem sgnN : Sgn wN := ⟨⟨by decide, by decide⟩, ⟨by decide, by decide⟩, ⟨by decide, by decide⟩, ⟨by decide, by decide⟩, ⟨by decide, by decide⟩, ⟨by decide, by decide⟩⟩
theorem sgnS : Sgn wS := ⟨⟨by decide, by decide⟩, ⟨by decide, by decide⟩, ⟨by decide, by decide⟩, ⟨by decide, by decide⟩, ⟨by decide, by decide⟩, ⟨by decide, by decide⟩⟩
theorem sumUp_six (w : Int → Int) (r tick : Int) : sumUp w r tick = (2 * w 1) * (tau r 1 * gk tick (1, 0)) + (3 * w 2) * (tau r 2 * gk tick (2, 0)) + (4 * w 3) * (tau r 3 * gk tick (3, 0)) + (5 * w 4) * (tau r 4 * gk tick (4, 0)) + (6 * w 5) * (tau r 5 * gk tick (5, 0)) + (7 * w 6) * (tau r 6 * gk tick (6, 0)) := by
  unfold sumUp
  grind
theorem sumUp_bd {w : Int → Int} (hw : Sgn w) {tick : Int} (ht : 0 ≤ tick ∧ tick ≤ 157766400000) {r : Int} (hr : In01 (rho r)) : Bd (93458488360960 * 1099511627776) (sumUp w r tick) := by
  obtain ⟨g1, g2, g3, g4, g5, g6⟩ := nums0 ht
  rw [sumUp_six]
  exact (six (scale_bd (by decide) hw.w1) (scale_bd (by decide) hw.w2) (scale_bd (by decide) hw.w3) (scale_bd (by decide) hw.w4) (scale_bd (by decide) hw.w5) (scale_bd (by decide) hw.w6) (t_bd hr 1) (t_bd hr 2) (t_bd hr 3) (t_bd hr 4) (t_bd hr 5) (t_bd hr 6) g1 g2 g3 g4 g5 g6).mono (by decide)
theorem sumUp_near {w : Int → Int} (hw : Sgn w) {tick : Int} (ht : 0 ≤ tick ∧ tick ≤ 157766400000) {r r' : Int} (hr : In01 (rho r)) (hr' : In01 (rho r')) (hd : Bd 26500000 (rho r - rho r')) :
    Bd (10995116277 * 1099511627776) (sumUp w r tick - sumUp w r' tick) := by
  obtain ⟨g1, g2, g3, g4, g5, g6⟩ := nums0 ht
  have d := tau_near hr hr' hd
  rw [sumUp_six, sumUp_six, six_sub]
  exact (six (scale_bd (by decide) hw.w1) (scale_bd (by decide) hw.w2) (scale_bd (by decide) hw.w3) (scale_bd (by decide) hw.w4) (scale_bd (by decide) hw.w5) (scale_bd (by decide) hw.w6) (d 1) (d 2) (d 3) (d 4) (d 5) (d 6) g1 g2 g3 g4 g5 g6).mono (by decide)
/-- The distances of a place near a pole. -/
theorem rad_is {x y z Z : Int} (hx : Bd 34359738368 x) (hy : Bd 34359738368 y) (hZ : 7013000000000 ≤ Z ∧ Z ≤ 9100000000000) (hz : z = Z ∨ z = -Z) :
    ∃ r w, norm x y z false = (r, false) ∧ norm x y 0 false = (w, false) ∧ Z ≤ r ∧ r ≤ Z + 168347100 ∧ 0 ≤ w ∧ w ≤ 48592008999 ∧ w * w ≤ x * x + y * y ∧ x * x + y * y < (w + 1) * (w + 1) := by
  have sx : x * x ≤ 34359738368 * 34359738368 := sq_le hx
  have sy : y * y ≤ 34359738368 * 34359738368 := sq_le hy
  have nx := sq_nonneg x
  have ny := sq_nonneg y
  have bz : Bd 9100000000000 z := by rcases hz with rfl | rfl <;> exact ⟨by omega, by omega⟩
  have ez : z * z = Z * Z := by rcases hz with rfl | rfl <;> grind
  obtain ⟨r, hr, r0, -, r1, r2⟩ := norm_is (a := x) (b := y) (c := z) 9100000000000 (hx.mono (by decide)) (hy.mono (by decide)) bz (by decide)
  obtain ⟨w, hw, w0, -, w1, w2⟩ := norm_is (a := x) (b := y) (c := 0) 34359738368 hx hy ⟨by decide, by decide⟩ (by decide)
  rw [ez] at r1 r2
  rw [Int.mul_zero, Int.add_zero] at w1 w2
  refine ⟨r, w, hr, hw, ?_, ?_, w0, ?_, w1, w2⟩
  · refine Int.not_lt.1 fun hn => ?_
    have : (r + 1) * (r + 1) ≤ Z * Z := Int.mul_le_mul (by omega) (by omega) (by omega) (by omega)
    generalize (r + 1) * (r + 1) = p at *
    generalize Z * Z = q at *
    omega
  · refine Int.not_lt.1 fun hn => ?_
    have h1 : (Z + 168347101) * (Z + 168347101) ≤ r * r := Int.mul_le_mul (by omega) (by omega) (by omega) (by omega)
    have e : (Z + 168347101) * (Z + 168347101) = Z * Z + 336694202 * Z + 28340746415104201 := by grind
    rw [e] at h1
    generalize r * r = p at *
    generalize Z * Z = q at *
    omega
  · refine Int.not_lt.1 fun hn => ?_
    have h1 : (48592009000 : Int) * 48592009000 ≤ w * w := Int.mul_le_mul (by omega) (by omega) (by omega) (by omega)
    generalize w * w = p at *
    omega
/-- The Earth's radius by distances that are near. -/
theorem rho_near {r r' Z : Int} (hZ : 7013000000000 ≤ Z ∧ Z ≤ 9100000000000) (h1 : Z ≤ r ∧ r ≤ Z + 168347100) (h2 : Z ≤ r' ∧ r' ≤ Z + 168347100) : Bd 26500000 (rho r - rho r') := by
  obtain ⟨-, i1, b1⟩ := rho_is (r := r) ⟨by omega, by omega⟩
  obtain ⟨-, i2, b2⟩ := rho_is (r := r') ⟨by omega, by omega⟩
  have p := (show Bd 1099511627776 (rho r') from ⟨by have := i2.1; omega, i2.2⟩).mul (show Bd 168347100 (r' - r) from ⟨by omega, by omega⟩)
  have e : (rho r - rho r') * r = (rho r * r - 7005208482886 * 1099511627776) - (rho r' * r' - 7005208482886 * 1099511627776) + rho r' * (r' - r) := by grind
  generalize rho r * r = A at *
  generalize rho r' * r' = B at *
  generalize rho r' * (r' - r) = C at *
  unfold Bd at *
  constructor
  · refine Int.not_lt.1 fun hn => ?_
    have h : (rho r - rho r') * r ≤ (-26500001) * r := Int.mul_le_mul_of_nonneg_right (by omega) (by omega)
    omega
  · refine Int.not_lt.1 fun hn => ?_
    have h : 26500001 * r ≤ (rho r - rho r') * r := Int.mul_le_mul_of_nonneg_right (by omega) (by omega)
    omega
/-- The direction of a place near a pole. -/
theorem dir_north {z r w : Int} (hz : 7013000000000 ≤ z ∧ z ≤ 9100000000000) (hr : z ≤ r ∧ r ≤ z + 168347100) (hw : 0 ≤ w ∧ w ≤ 48592008999) : ∃ c s, div z r false = (c, false) ∧ div w r false = (s, false) ∧ In cN c ∧ In sP s := by
  obtain ⟨c, hc, c1, c2⟩ := div_is (a := z) (q := r) 9100000000000 ⟨by omega, by omega⟩ (by decide) (by omega) (by omega)
  obtain ⟨s, hs, s1, s2⟩ := div_is (a := w) (q := r) 48592008999 ⟨by omega, by omega⟩ (by decide) (by omega) (by omega)
  refine ⟨c, s, hc, hs, ⟨?_, ?_⟩, ⟨?_, ?_⟩⟩
  · refine Int.not_lt.1 fun hn => ?_
    have hn : c < 1099485227776 := hn
    have : c * r ≤ 1099485227775 * r := Int.mul_le_mul_of_nonneg_right (by omega) (by omega)
    generalize c * r = p at *
    omega
  · refine Int.not_lt.1 fun hn => ?_
    have hn : 1099511627777 < c := hn
    have : 1099511627778 * r ≤ c * r := Int.mul_le_mul_of_nonneg_right (by omega) (by omega)
    generalize c * r = p at *
    omega
  · refine Int.not_lt.1 fun hn => ?_
    have hn : s < 0 := hn
    have : s * r ≤ (-1) * r := Int.mul_le_mul_of_nonneg_right (by omega) (by omega)
    generalize s * r = p at *
    omega
  · refine Int.not_lt.1 fun hn => ?_
    have hn : 7618500000 < s := hn
    have : 7618500001 * r ≤ s * r := Int.mul_le_mul_of_nonneg_right (by omega) (by omega)
    generalize s * r = p at *
    omega
theorem dir_south {z r w Z : Int} (hZ : 7013000000000 ≤ Z ∧ Z ≤ 9100000000000) (hz : z = -Z) (hr : Z ≤ r ∧ r ≤ Z + 168347100) (hw : 0 ≤ w ∧ w ≤ 48592008999) : ∃ c s, div z r false = (c, false) ∧ div w r false = (s, false) ∧ In cS c ∧ In sP s := by
  obtain ⟨c', s, -, hs, -, hS⟩ := dir_north hZ hr hw
  obtain ⟨c, hc, c1, c2⟩ := div_is (a := z) (q := r) 9100000000000 ⟨by omega, by omega⟩ (by decide) (by omega) (by omega)
  refine ⟨c, s, hc, hs, ⟨?_, ?_⟩, hS⟩
  · refine Int.not_lt.1 fun hn => ?_
    have hn : c < -1099511627777 := hn
    have : c * r ≤ (-1099511627778) * r := Int.mul_le_mul_of_nonneg_right (by omega) (by omega)
    generalize c * r = p at *
    omega
  · refine Int.not_lt.1 fun hn => ?_
    have hn : -1099485227776 < c := hn
    have : (-1099485227775) * r ≤ c * r := Int.mul_le_mul_of_nonneg_right (by omega) (by omega)
    generalize c * r = p at *
    omega
/-- The squares of the horizontal direction are 1 together, but for 2^-18. -/
theorem uv_one {x y w u v : Int} (hw : 1048576 ≤ w) (h1 : w * w ≤ x * x + y * y) (h2 : x * x + y * y < (w + 1) * (w + 1)) (hx : Bd w x) (hy : Bd w y) (hu : Bd w (2 * (u * w - x * 1099511627776))) (hv : Bd w (2 * (v * w - y * 1099511627776))) :
    Bd 4611686018427387904 (u * u + v * v - 1208925819614629174706176) := by
  obtain ⟨α, hα⟩ : ∃ α, α = u * w - x * 1099511627776 := ⟨_, rfl⟩
  obtain ⟨β, hβ⟩ : ∃ β, β = v * w - y * 1099511627776 := ⟨_, rfl⟩
  rw [← hα] at hu
  rw [← hβ] at hv
  have p1 := hx.mul hu
  have p2 := hy.mul hv
  have p3 := hu.mul hu
  have p4 := hv.mul hv
  have e : 4 * ((u * u + v * v - 1208925819614629174706176) * (w * w)) = 4 * 1208925819614629174706176 * (x * x + y * y - w * w) + 4398046511104 * (x * (2 * α) + y * (2 * β)) + (2 * α * (2 * α) + 2 * β * (2 * β)) := by
    have a1 : u * w = α + x * 1099511627776 := by omega
    have a2 : v * w = β + y * 1099511627776 := by omega
    grind
  have e2 : (w + 1) * (w + 1) = w * w + 2 * w + 1 := by grind
  rw [e2] at h2
  have h3 : 1048576 * w ≤ w * w := Int.mul_le_mul_of_nonneg_right hw (by omega)
  generalize x * (2 * α) = A at *
  generalize y * (2 * β) = B at *
  generalize 2 * α * (2 * α) = C at *
  generalize 2 * β * (2 * β) = D at *
  generalize x * x + y * y = S at *
  generalize u * u + v * v - 1208925819614629174706176 = E at *
  have hW : 0 < w * w := Int.mul_pos (by omega) (by omega)
  generalize w * w = W at *
  unfold Bd at *
  constructor
  · refine Int.not_lt.1 fun hn => ?_
    have : E * W ≤ (-4611686018427387905) * W := Int.mul_le_mul_of_nonneg_right (by omega) (by omega)
    generalize E * W = F at *
    omega
  · refine Int.not_lt.1 fun hn => ?_
    have : 4611686018427387905 * W ≤ E * W := Int.mul_le_mul_of_nonneg_right (by omega) (by omega)
    generalize E * W = F at *
    omega
/-- What the three sums say of the field. -/
theorem from_sums {sg U G H up south east c s u v a X Y Z : Int} (hsg : sg = 1 ∨ sg = -1) (hU : Bd (93458488360960 * 1099511627776) U) (hG : Bd (26388279066624 * 1208925819614629174706176) G) (hH : Bd (26388279066624 * 1208925819614629174706176) H)
    (h1 : Bd (2858730232218 * 1329227995784915872903807060280344576) (1329227995784915872903807060280344576 * up - 1208925819614629174706176 * U)) (h2 : Bd (1759218604442 * 1329227995784915872903807060280344576) (1329227995784915872903807060280344576 * -south - sg * (G * u + H * v)))
    (h3 : Bd (714682558055 * 1329227995784915872903807060280344576) (1329227995784915872903807060280344576 * east - (G * v - H * u)))
    (hc : Bd 26400000 (c - sg * 1099511627776)) (hs : In sP s) (hu : Bd 1099511627776 u) (hv : Bd 1099511627776 v) (huv : Bd 4611686018427387904 (u * u + v * v - 1208925819614629174706176))
    (ha : Bd 1099511627776 (1099511627776 * a - (up * s + south * c))) (hX : Bd 1099511627776 (1099511627776 * X - (a * u - east * v))) (hY : Bd 1099511627776 (1099511627776 * Y - (a * v + east * u))) (hZ : Bd 1099511627776 (1099511627776 * Z - (up * c - south * s))) :
    Bd (3 * 1208925819614629174706176) (1099511627776 * Z - sg * U) ∧ Bd (3 * 1329227995784915872903807060280344576) (1208925819614629174706176 * X + G) ∧ Bd (3 * 1329227995784915872903807060280344576) (1208925819614629174706176 * Y + H) := by
  have bs : Bd 7618500000 s := ⟨by have := hs.1; change 0 ≤ s at this; omega, hs.2⟩
  have bup : Bd 96317218593179 up := by unfold Bd at *; omega
  have g1 := hG.mul hu
  have g2 := hH.mul hv
  have bso : Bd 54535776737691 south := by
    generalize G * u = A at *
    generalize H * v = B at *
    unfold Bd at *
    rcases hsg with rfl | rfl <;> omega
  have k1 := bup.mul hc
  have k2 := bso.mul bs
  have k3 := bup.mul bs
  have k4 := bso.mul hc
  refine ⟨?_, ?_⟩
  · have e : up * c = up * (c - sg * 1099511627776) + sg * (1099511627776 * up) := by grind
    rw [e] at hZ
    generalize up * (c - sg * 1099511627776) = A at *
    generalize south * s = B at *
    unfold Bd at *
    rcases hsg with rfl | rfl <;> omega
  · have e : south * c = south * (c - sg * 1099511627776) + sg * (1099511627776 * south) := by grind
    rw [e] at ha
    have hA : Bd (2428230000000 * 1329227995784915872903807060280344576) (1329227995784915872903807060280344576 * a + (G * u + H * v)) := by
      generalize south * (c - sg * 1099511627776) = A at *
      generalize up * s = B at *
      generalize G * u + H * v = C at *
      unfold Bd at *
      rcases hsg with rfl | rfl <;> omega
    have m1 := hA.mul hu
    have m2 := h3.mul hv
    have m3 := hG.mul huv
    have m4 := hA.mul hv
    have m5 := h3.mul hu
    have m6 := hH.mul huv
    have e1 : 1329227995784915872903807060280344576 * (a * u - east * v) + G * 1208925819614629174706176 = (1329227995784915872903807060280344576 * a + (G * u + H * v)) * u - (1329227995784915872903807060280344576 * east - (G * v - H * u)) * v - G * (u * u + v * v - 1208925819614629174706176) := by grind
    have e2 : 1329227995784915872903807060280344576 * (a * v + east * u) + H * 1208925819614629174706176 = (1329227995784915872903807060280344576 * a + (G * u + H * v)) * v + (1329227995784915872903807060280344576 * east - (G * v - H * u)) * u - H * (u * u + v * v - 1208925819614629174706176) := by grind
    generalize (1329227995784915872903807060280344576 * a + (G * u + H * v)) * u = M1 at *
    generalize (1329227995784915872903807060280344576 * east - (G * v - H * u)) * v = M2 at *
    generalize G * (u * u + v * v - 1208925819614629174706176) = M3 at *
    generalize (1329227995784915872903807060280344576 * a + (G * u + H * v)) * v = M4 at *
    generalize (1329227995784915872903807060280344576 * east - (G * v - H * u)) * u = M5 at *
    generalize H * (u * u + v * v - 1208925819614629174706176) = M6 at *
    generalize a * u - east * v = N1 at *
    generalize a * v + east * u = N2 at *
    clear e h1 h2 hA ha hZ h3 g1 g2 k1 k2 k3 k4 huv
    unfold Bd at *
    constructor
    · omega
    · omega
theorem earP_is (x y z t : Int) : earP ⟨x, y, z⟩ t false =
    (let r := norm x y z false
    bif (bif (bif !(ckT t) then true else decide (r.1 < 6597069766656)) then true else decide (r.1 > 10995116277760)) then (V3.zero, true) else
    bif r.2 then (V3.zero, r.2) else
    let w := norm x y 0 r.2
    let c := div z r.1 w.2
    let s := div w.1 r.1 c.2
    bif decide (w.1 ≥ 1048576) then
      let u := div x w.1 s.2
      let v := div y w.1 u.2
      eBodyVP t r.1 c.1 s.1 u.1 v.1 v.2
    else eBodyVP t r.1 c.1 s.1 1099511627776 0 s.2) := rfl
/-- Horizontal directions. -/
theorem uv_is {x y w : Int} (hw : 1048576 ≤ w) (hw2 : w ≤ 48592008999) (h1 : w * w ≤ x * x + y * y) (h2 : x * x + y * y < (w + 1) * (w + 1)) :
    ∃ u v, div x w false = (u, false) ∧ div y w false = (v, false) ∧ Bd 1099511627776 u ∧ Bd 1099511627776 v ∧ Bd 4611686018427387904 (u * u + v * v - 1208925819614629174706176) := by
  have key : ∀ a : Int, a * a < (w + 1) * (w + 1) → Bd w a := by
    intro a ha
    constructor
    · refine Int.not_lt.1 fun hn => ?_
      have : (w + 1) * (w + 1) ≤ (-a) * (-a) := Int.mul_le_mul (by omega) (by omega) (by omega) (by omega)
      rw [Int.neg_mul_neg] at this
      omega
    · refine Int.not_lt.1 fun hn => ?_
      have : (w + 1) * (w + 1) ≤ a * a := Int.mul_le_mul (by omega) (by omega) (by omega) (by omega)
      omega
  have bx := key x (by have := sq_nonneg y; omega)
  have bY := key y (by have := sq_nonneg x; omega)
  obtain ⟨u, hu, nu⟩ := div_is (a := x) (q := w) w bx (by omega) (by omega) (by omega)
  obtain ⟨v, hv, nv⟩ := div_is (a := y) (q := w) w bY (by omega) (by omega) (by omega)
  have du := div_unit (a := x) (q := w) (bad := false) (by rw [hu]) (by omega) bx
  have dv := div_unit (a := y) (q := w) (bad := false) (by rw [hv]) (by omega) bY
  rw [hu] at du
  rw [hv] at dv
  exact ⟨u, v, hu, hv, du, dv, uv_one hw h1 h2 bx bY nu nv⟩
theorem body_at {w q : Int → Int} {sg : Int} {C : Iv} (hK : termsI C sP (poleK w q sg) = some ()) (hP : Pole q) (hS : Sgn w) (hsg : sg = 1 ∨ sg = -1) (hC : ∀ c, In C c → Bd 26400000 (c - sg * 1099511627776) ∧ Bd 1099511627777 c)
    {tick r c s u v : Int} (ht : 0 ≤ tick ∧ tick ≤ 157766400000) (hr : 7005208482886 ≤ r ∧ r ≤ 4611686018427387904) (hc : In C c) (hs : In sP s) (hu : Bd 1099511627776 u) (hv : Bd 1099511627776 v) (huv : Bd 4611686018427387904 (u * u + v * v - 1208925819614629174706176)) :
    ∃ X Y Z, eBodyVP tick r c s u v false = (⟨X, Y, Z⟩, false) ∧ Bd (3 * 1208925819614629174706176) (1099511627776 * Z - sg * sumUp w r tick) ∧ Bd (3 * 1329227995784915872903807060280344576) (1208925819614629174706176 * X + sumG q r tick) ∧ Bd (3 * 1329227995784915872903807060280344576) (1208925819614629174706176 * Y + sumH q r tick) := by
  obtain ⟨-, hr1, -⟩ := rho_is hr
  obtain ⟨e, he, hb, b1, b2, b3, r1, r2, r3⟩ := body_pole hK ht hr hc hs hu hv
  obtain ⟨X, Y, Z, a, hl, ha, hX, hY, hZ⟩ := last_is (c := c) (s := s) (u := u) (v := v) hb (b1.mono (by decide)) (b2.mono (by decide)) (b3.mono (by decide)) (hC c hc).2 (show Bd 1099511627777 s from ⟨by have h := hs.1; change 0 ≤ s at h; omega, by have h := hs.2; change s ≤ 7618500000 at h; omega⟩) (hu.mono (by decide)) (hv.mono (by decide))
  rw [mainU_is] at r1
  rw [mainS_is q sg r tick hu hv] at r2
  rw [mainE_is q r tick hu hv] at r3
  unfold Q3 at r1 r2 r3
  obtain ⟨g1, g2⟩ := sumG_bd hP ht hr1
  obtain ⟨z1, z2, z3⟩ := from_sums hsg (sumUp_bd hS ht hr1) g1 g2 r1 r2 r3 (hC c hc).1 hs hu hv huv ha hX hY hZ
  exact ⟨X, Y, Z, he.trans hl, z1, z2, z3⟩
/-- The field at a place near a pole. -/
theorem place_at {w q : Int → Int} {sg : Int} {C : Iv} (hK : termsI C sP (poleK w q sg) = some ()) (hP : Pole q) (hS : Sgn w) (hsg : sg = 1 ∨ sg = -1) (hC : ∀ c, In C c → Bd 26400000 (c - sg * 1099511627776) ∧ Bd 1099511627777 c)
    {tick x y z Z : Int} (ht : 0 ≤ tick ∧ tick ≤ 157766400000) (hx : Bd 34359738368 x) (hy : Bd 34359738368 y) (hZ : 7013000000000 ≤ Z ∧ Z ≤ 9100000000000) (hz : z = Z ∨ z = -Z)
    (hD : ∀ r w : Int, Z ≤ r ∧ r ≤ Z + 168347100 → 0 ≤ w ∧ w ≤ 48592008999 → ∃ c s, div z r false = (c, false) ∧ div w r false = (s, false) ∧ In C c ∧ In sP s) :
    ∃ r X Y V, earP ⟨x, y, z⟩ tick false = (⟨X, Y, V⟩, false) ∧ (Z ≤ r ∧ r ≤ Z + 168347100) ∧ Bd (3 * 1208925819614629174706176) (1099511627776 * V - sg * sumUp w r tick) ∧ Bd (3 * 1329227995784915872903807060280344576) (1208925819614629174706176 * X + sumG q r tick) ∧ Bd (3 * 1329227995784915872903807060280344576) (1208925819614629174706176 * Y + sumH q r tick) := by
  obtain ⟨r, W, hr, hw, r1, r2, w0, w1, w2, w3⟩ := rad_is hx hy hZ hz
  obtain ⟨c, s, hc, hs, ic, is⟩ := hD r W ⟨r1, r2⟩ ⟨w0, w1⟩
  have hk : ckT tick = true := by rw [ck_is]; simp [ht.1, ht.2]
  have k1 : decide (r < 6597069766656) = false := decide_eq_false (by omega)
  have k2 : decide (r > 10995116277760) = false := decide_eq_false (by omega)
  have e := earP_is x y z tick
  dsimp only at e
  rw [hr] at e
  dsimp only at e
  rw [hk, Bool.not_true, bf, k1, bf, k2, bf, bf, hw] at e
  dsimp only at e
  rw [hc] at e
  dsimp only at e
  rw [hs] at e
  dsimp only at e
  cases hd : decide (W ≥ 1048576) with
  | true =>
    obtain ⟨u, v, eu, ev, bu, bv, buv⟩ := uv_is (of_decide_eq_true hd) w1 w2 w3
    rw [hd, bt, eu] at e
    dsimp only at e
    rw [ev] at e
    obtain ⟨X, Y, V, h, z1, z2, z3⟩ := body_at hK hP hS hsg hC ht (r := r) ⟨by omega, by omega⟩ ic is bu bv buv
    exact ⟨r, X, Y, V, e.trans h, ⟨r1, r2⟩, z1, z2, z3⟩
  | false =>
    rw [hd, bf] at e
    obtain ⟨X, Y, V, h, z1, z2, z3⟩ := body_at hK hP hS hsg hC ht (r := r) (u := 1099511627776) (v := 0) ⟨by omega, by omega⟩ ic is ⟨by decide, by decide⟩ ⟨by decide, by decide⟩ ⟨by decide, by decide⟩
    exact ⟨r, X, Y, V, e.trans h, ⟨r1, r2⟩, z1, z2, z3⟩
/-- Two places above one another's pole: the fields are near. -/
theorem two_near {w q : Int → Int} {sg : Int} (hP : Pole q) (hS : Sgn w) (hsg : sg = 1 ∨ sg = -1) {tick Z r r' X Y V X' Y' V' : Int} (ht : 0 ≤ tick ∧ tick ≤ 157766400000) (hZ : 7013000000000 ≤ Z ∧ Z ≤ 9100000000000) (h1 : Z ≤ r ∧ r ≤ Z + 168347100) (h2 : Z ≤ r' ∧ r' ≤ Z + 168347100)
    (a1 : Bd (3 * 1208925819614629174706176) (1099511627776 * V - sg * sumUp w r tick)) (a2 : Bd (3 * 1329227995784915872903807060280344576) (1208925819614629174706176 * X + sumG q r tick)) (a3 : Bd (3 * 1329227995784915872903807060280344576) (1208925819614629174706176 * Y + sumH q r tick))
    (b1 : Bd (3 * 1208925819614629174706176) (1099511627776 * V' - sg * sumUp w r' tick)) (b2 : Bd (3 * 1329227995784915872903807060280344576) (1208925819614629174706176 * X' + sumG q r' tick)) (b3 : Bd (3 * 1329227995784915872903807060280344576) (1208925819614629174706176 * Y' + sumH q r' tick)) :
    Bd 8796093022208 (X - X') ∧ Bd 8796093022208 (Y - Y') ∧ Bd 8796093022208 (V - V') := by
  have hd := rho_near hZ h1 h2
  obtain ⟨-, i1, -⟩ := rho_is (r := r) ⟨by omega, by omega⟩
  obtain ⟨-, i2, -⟩ := rho_is (r := r') ⟨by omega, by omega⟩
  have n1 := sumUp_near hS ht i1 i2 hd
  obtain ⟨n2, n3⟩ := sumG_near hP ht i1 i2 hd
  refine ⟨?_, ?_, ?_⟩
  · clear n1 n3 a1 a3 b1 b3 hd
    unfold Bd at *
    omega
  · clear n1 n2 a1 a2 b1 b2 hd
    unfold Bd at *
    omega
  · clear n2 n3 a2 a3 b2 b3 hd
    unfold Bd at *
    rcases hsg with rfl | rfl <;> omega
section
variable (ea : V3 → Int → Bool → V3 × Bool) (nr : Op3)
def envLP : Env := [(8, .pure anyArgs yesF), (11, .flow 25 (vtF ea)), (15, .flow 25 (nrmF nr))]
def farB (d : Int) : Bool := bif decide (d > 8796093022208) then true else decide (d < -8796093022208)
theorem lpole_raw (p : V3) (t : Int) : acall Try.prog (envLP ea nr) 100 6 [p.av, I t] [] ansK =
    bif (bif (bif (bif (bif decide (p.z > 9100000000000) then true else decide (p.z < -9100000000000)) then true else (bif decide (p.z > -7013000000000) then decide (p.z < 7013000000000) else false)) then true else decide (t < 0)) then true else decide (t > 157766400000)) then some true else
    bif (bif (bif (bif decide (p.x > 34359738368) then true else decide (p.x < -34359738368)) then true else decide (p.y > 34359738368)) then true else decide (p.y < -34359738368)) then some true else
    let a := ea ⟨0, 0, p.z⟩ t false
    let b := ea p t a.2
    bif farB (wr .i64 (a.1.x - b.1.x)) then some false else
    bif farB (wr .i64 (a.1.y - b.1.y)) then some false else
    bif farB (wr .i64 (a.1.z - b.1.z)) then some false else
    bif !b.2 then some (an true (decide ((nr a.1.x a.1.y a.1.z b.2).1 > 10995116277760))) else some false := by kernel_rfl
end
/-- Later powers are smaller. -/
theorem tau_le {r : Int} (h : In01 (rho r)) (n : Nat) : tau r (n + 1) ≤ tau r n := by
  have h1 := tau_in h n
  obtain ⟨x, hx, i, b⟩ := mul_01 h1 h
  have e : tau r (n + 1) = x := by
    conv => lhs; unfold tau
    rw [hx]
  rw [e]
  have : tau r n * rho r ≤ tau r n * 1099511627776 := Int.mul_le_mul_of_nonneg_left h.2 h1.1
  generalize tau r n * rho r = p at *
  unfold Bd at b
  omega
theorem tau1_ge {r : Int} (h : 7013000000000 ≤ r ∧ r ≤ 9100168347100) : 483000000000 ≤ tau r 1 := by
  obtain ⟨-, i, b⟩ := rho_is (r := r) ⟨by omega, by omega⟩
  have h0 : 846000000000 ≤ rho r := by
    refine Int.not_lt.1 fun hn => ?_
    have : rho r * r ≤ 845999999999 * r := Int.mul_le_mul_of_nonneg_right (by omega) (by omega)
    generalize rho r * r = p at *
    unfold Bd at b
    omega
  have h1 : 650000000000 ≤ tau r 0 := by
    obtain ⟨x, hx, -, n⟩ := mul_01 i i
    have e : tau r 0 = x := by unfold tau; rw [hx]
    rw [e]
    have : (846000000000 : Int) * 846000000000 ≤ rho r * rho r := Int.mul_le_mul h0 h0 (by decide) (by omega)
    generalize rho r * rho r = p at *
    unfold Bd at n
    omega
  obtain ⟨x, hx, -, n⟩ := mul_01 (tau_in i 0) i
  have e : tau r 1 = x := by
    conv => lhs; unfold tau
    rw [hx]
  rw [e]
  have : (650000000000 : Int) * 846000000000 ≤ tau r 0 * rho r := Int.mul_le_mul h1 h0 (by decide) (by omega)
  generalize tau r 0 * rho r = p at *
  unfold Bd at n
  omega
theorem g10_is {tick : Int} (ht : 0 ≤ tick ∧ tick ≤ 157766400000) : gk tick (1, 0) ≤ -32000000000000 := by
  have h : numI (1, 0) (fun G _ => bif decide (G.2 ≤ -32000000000000) then some () else none) = some () := by kernel_rfl
  obtain ⟨g, h', G, H, hn, ig, ih, h⟩ := num_in (k := (1, 0)) (by decide) ht h
  have eg : gk tick (1, 0) = g := by unfold gk; rw [hn]
  rw [eg]
  cases hw : decide (G.2 ≤ -32000000000000) with
  | false => rw [hw] at h; cases h
  | true =>
    have := of_decide_eq_true hw
    unfold In at ig
    omega
theorem prod_sm {t t1 g L : Int} (h : 0 ≤ t ∧ t ≤ t1) (hg : Bd L g) : Bd (t1 * L) (t * g) := (show Bd t1 t from ⟨by omega, h.2⟩).mul hg
/-- The vertical's sum is great. -/
theorem sumUp_ge {w : Int → Int} (hS : Sgn w) (hw1 : w 1 = 1 ∨ w 1 = -1) {tick : Int} (ht : 0 ≤ tick ∧ tick ≤ 157766400000) {r : Int} (h : 7013000000000 ≤ r ∧ r ≤ 9100168347100) : sumUp w r tick ≥ 15 * 1208925819614629174706176 ∨ sumUp w r tick ≤ -(15 * 1208925819614629174706176) := by
  obtain ⟨-, hr, -⟩ := rho_is (r := r) ⟨by omega, by omega⟩
  obtain ⟨g1, g2, g3, g4, g5, g6⟩ := nums0 ht
  have l2 : tau r 2 ≤ tau r 1 := tau_le hr 1
  have l3 : tau r 3 ≤ tau r 2 := tau_le hr 2
  have l4 : tau r 4 ≤ tau r 3 := tau_le hr 3
  have l5 : tau r 5 ≤ tau r 4 := tau_le hr 4
  have l6 : tau r 6 ≤ tau r 5 := tau_le hr 5
  have p2 := scale_bd (n := 3) (by decide) (hS.w2.mul (prod_sm (t1 := tau r 1) ⟨(tau_in hr 2).1, by omega⟩ g2))
  have p3 := scale_bd (n := 4) (by decide) (hS.w3.mul (prod_sm (t1 := tau r 1) ⟨(tau_in hr 3).1, by omega⟩ g3))
  have p4 := scale_bd (n := 5) (by decide) (hS.w4.mul (prod_sm (t1 := tau r 1) ⟨(tau_in hr 4).1, by omega⟩ g4))
  have p5 := scale_bd (n := 6) (by decide) (hS.w5.mul (prod_sm (t1 := tau r 1) ⟨(tau_in hr 5).1, by omega⟩ g5))
  have p6 := scale_bd (n := 7) (by decide) (hS.w6.mul (prod_sm (t1 := tau r 1) ⟨(tau_in hr 6).1, by omega⟩ g6))
  have t1 := tau1_ge h
  have gg := g10_is ht
  have big : tau r 1 * gk tick (1, 0) ≤ tau r 1 * (-32000000000000) := Int.mul_le_mul_of_nonneg_left gg (by omega)
  unfold sumUp
  generalize w 2 * (tau r 2 * gk tick (2, 0)) = A2 at *
  generalize w 3 * (tau r 3 * gk tick (3, 0)) = A3 at *
  generalize w 4 * (tau r 4 * gk tick (4, 0)) = A4 at *
  generalize w 5 * (tau r 5 * gk tick (5, 0)) = A5 at *
  generalize w 6 * (tau r 6 * gk tick (6, 0)) = A6 at *
  generalize tau r 1 * gk tick (1, 0) = A1 at *
  unfold Bd at *
  rcases hw1 with e | e <;> rw [e] <;> omega
theorem or_no {a b : Bool} (h : (bif a then true else b) = false) : a = false ∧ b = false := by cases a <;> cases b <;> simp_all
theorem and_no {a b : Bool} (h : (bif a then b else false) = false) : a = false ∨ b = false := by cases a <;> cases b <;> simp_all
theorem far_no {d : Int} (h : Bd 8796093022208 d) : farB (wr .i64 d) = false := by
  have e : wr .i64 d = d := by
    have := h.1
    have := h.2
    rw [wr_i64]
    omega
  rw [e]
  unfold farB
  rw [decide_eq_false (by have := h.2; omega), bf]
  exact decide_eq_false (by have := h.1; omega)
theorem north_c : ∀ c, In cN c → Bd 26400000 (c - 1 * 1099511627776) ∧ Bd 1099511627777 c := by
  intro c h
  have h1 : 1099485227776 ≤ c := h.1
  have h2 : c ≤ 1099511627777 := h.2
  exact ⟨⟨by omega, by omega⟩, ⟨by omega, by omega⟩⟩
theorem south_c : ∀ c, In cS c → Bd 26400000 (c - (-1) * 1099511627776) ∧ Bd 1099511627777 c := by
  intro c h
  have h1 : -1099511627777 ≤ c := h.1
  have h2 : c ≤ -1099485227776 := h.2
  exact ⟨⟨by omega, by omega⟩, ⟨by omega, by omega⟩⟩
theorem norm_ge {V : V3} (hx : Bd 1125899906842624 V.x) (hy : Bd 1125899906842624 V.y) (hz : Bd 1125899906842624 V.z) (h : V.z ≥ 11000000000000 ∨ V.z ≤ -11000000000000) : (norm V.x V.y V.z false).1 > 10995116277760 := by
  obtain ⟨n, hn, n0, -, n1, n2⟩ := norm_is (a := V.x) (b := V.y) (c := V.z) 1125899906842624 hx hy hz (by decide)
  rw [hn]
  refine Int.not_le.1 fun hle => ?_
  have s1 : (n + 1) * (n + 1) ≤ 10995116277761 * 10995116277761 := Int.mul_le_mul (by dsimp only at hle; omega) (by dsimp only at hle; omega) (by omega) (by omega)
  have s2 : (11000000000000 : Int) * 11000000000000 ≤ V.z * V.z := by
    rcases h with h | h
    · exact Int.mul_le_mul h h (by decide) (by omega)
    · have e : (11000000000000 : Int) * 11000000000000 ≤ (-V.z) * (-V.z) := Int.mul_le_mul (by omega) (by omega) (by decide) (by omega)
      rw [Int.neg_mul_neg] at e
      exact e
  have := sq_nonneg V.x
  have := sq_nonneg V.y
  generalize V.x * V.x = A at *
  generalize V.y * V.y = B at *
  generalize V.z * V.z = C at *
  generalize (n + 1) * (n + 1) = D at *
  omega
theorem pair_law {w q : Int → Int} {sg : Int} {C : Iv} (hK : termsI C sP (poleK w q sg) = some ()) (hP : Pole q) (hS : Sgn w) (hw1 : w 1 = 1 ∨ w 1 = -1) (hsg : sg = 1 ∨ sg = -1) (hC : ∀ c, In C c → Bd 26400000 (c - sg * 1099511627776) ∧ Bd 1099511627777 c)
    {tick x y z Z : Int} (ht : 0 ≤ tick ∧ tick ≤ 157766400000) (hx : Bd 34359738368 x) (hy : Bd 34359738368 y) (hZ : 7013000000000 ≤ Z ∧ Z ≤ 9100000000000) (hz : z = Z ∨ z = -Z)
    (hD : ∀ r w : Int, Z ≤ r ∧ r ≤ Z + 168347100 → 0 ≤ w ∧ w ≤ 48592008999 → ∃ c s, div z r false = (c, false) ∧ div w r false = (s, false) ∧ In C c ∧ In sP s) :
    ∃ A B : V3, earP ⟨0, 0, z⟩ tick false = (A, false) ∧ earP ⟨x, y, z⟩ tick false = (B, false) ∧ Bd 8796093022208 (A.x - B.x) ∧ Bd 8796093022208 (A.y - B.y) ∧ Bd 8796093022208 (A.z - B.z) ∧ (norm A.x A.y A.z false).1 > 10995116277760 := by
  obtain ⟨r, X, Y, V, h, hr, a1, a2, a3⟩ := place_at hK hP hS hsg hC ht (x := 0) (y := 0) ⟨by decide, by decide⟩ ⟨by decide, by decide⟩ hZ hz hD
  obtain ⟨r', X', Y', V', h', hr', b1, b2, b3⟩ := place_at hK hP hS hsg hC ht hx hy hZ hz hD
  obtain ⟨d1, d2, d3⟩ := two_near hP hS hsg ht hZ hr hr' a1 a2 a3 b1 b2 b3
  obtain ⟨-, i, -⟩ := rho_is (r := r) ⟨by omega, by omega⟩
  have g0 := sumUp_bd hS ht i
  obtain ⟨g1, g2⟩ := sumG_bd hP ht i
  have ge := sumUp_ge hS hw1 ht (r := r) ⟨by omega, by omega⟩
  refine ⟨⟨X, Y, V⟩, ⟨X', Y', V'⟩, h, h', d1, d2, d3, norm_ge ?_ ?_ ?_ ?_⟩
  · clear a1 a3 b1 b2 b3 d1 d2 d3 g0 g2 ge
    unfold Bd at *; dsimp only; omega
  · clear a1 a2 b1 b2 b3 d1 d2 d3 g0 g1 ge
    unfold Bd at *; dsimp only; omega
  · clear a2 a3 b1 b2 b3 d1 d2 d3 g1 g2 ge
    unfold Bd at *; dsimp only
    rcases hsg with rfl | rfl <;> omega
  · clear a2 a3 b1 b2 b3 d1 d2 d3 g1 g2 g0
    unfold Bd at *; dsimp only
    rcases hsg with rfl | rfl <;> omega
theorem envLP_ok : EnvOk Try.prog (envLP earP norm) :=
  EnvOk.p (EnvOk.f (EnvOk.f ok_nil en_vNorm vnorm_con) en_Earth earth_con) (enter_of Try.func8 (by kernel_rfl) rfl) awake10_ok
theorem pole_law (p : V3) (t : Int) (w : World) : Calls Try.prog 6 #[.agg ⟨[.int .i64 p.x, .int .i64 p.y, .int .i64 p.z]⟩, .int .i64 t] w fun e w' => e = .returned (.bool true) ∧ Go.RowKit.Below w.heap.size w w' := by
  refine law_true envLP_ok ((lpole_raw earP norm p t).trans ?_) (RL.cons (vec_r p) (RL.cons (R_int _ _ _) (RL_nil.2 rfl)))
  have key : ∀ (b1 b2 : Bool) (Y : Option Bool), (b1 = false → b2 = false → Y = some true) → (bif b1 then some true else bif b2 then some true else Y) = some true := by
    intro b1 b2 Y h
    cases b1
    · cases b2
      · exact h rfl rfl
      · rfl
    · rfl
  refine key _ _ _ fun g1 g2 => ?_
  obtain ⟨g1, t2⟩ := or_no g1
  obtain ⟨g1, t1⟩ := or_no g1
  obtain ⟨g1, z3⟩ := or_no g1
  obtain ⟨z1, z2⟩ := or_no g1
  have z3 := and_no z3
  obtain ⟨g2, y2⟩ := or_no g2
  obtain ⟨g2, y1⟩ := or_no g2
  obtain ⟨x1, x2⟩ := or_no g2
  simp only [decide_eq_false_iff_not] at t1 t2 z1 z2 z3 x1 x2 y1 y2
  have ht : 0 ≤ t ∧ t ≤ 157766400000 := ⟨by omega, by omega⟩
  have hx : Bd 34359738368 p.x := ⟨by omega, by omega⟩
  have hy : Bd 34359738368 p.y := ⟨by omega, by omega⟩
  have main : ∃ A B : V3, earP ⟨0, 0, p.z⟩ t false = (A, false) ∧ earP ⟨p.x, p.y, p.z⟩ t false = (B, false) ∧ Bd 8796093022208 (A.x - B.x) ∧ Bd 8796093022208 (A.y - B.y) ∧ Bd 8796093022208 (A.z - B.z) ∧ (norm A.x A.y A.z false).1 > 10995116277760 := by
    rcases Int.le_total 0 p.z with h | h
    · have hZ : 7013000000000 ≤ p.z ∧ p.z ≤ 9100000000000 := ⟨by omega, by omega⟩
      exact pair_law north_ok poleN sgnN (.inl rfl) (.inl rfl) north_c ht hx hy hZ (.inl rfl) fun r w h1 h2 => dir_north hZ h1 h2
    · have hZ : 7013000000000 ≤ -p.z ∧ -p.z ≤ 9100000000000 := ⟨by omega, by omega⟩
      exact pair_law south_ok poleS sgnS (.inr rfl) (.inr rfl) south_c ht hx hy hZ (.inr (by omega)) fun r w h1 h2 => dir_south hZ (by omega) h1 h2
  obtain ⟨A, B, e1, e2, d1, d2, d3, hn⟩ := main
  have e2 : earP p t false = (B, false) := e2
  dsimp only
  rw [e1]
  dsimp only
  rw [e2]
  dsimp only
  rw [far_no d1, bf, far_no d2, bf, far_no d3, bf, Bool.not_false, bt, decide_eq_true hn]
  rfl
end Go.Proofs.Ytlkclpkpggapbaa.Fd
