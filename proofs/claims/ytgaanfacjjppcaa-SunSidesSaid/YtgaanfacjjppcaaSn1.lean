/- The sun's direction: there, and its squares 1 together. Conditions: right ticks. -/
import Derived.Test.YtgaanfacjjppcaaNa1
import Derived.Test.YtgaanfacjjppcaaSu3
namespace Go.Proofs.Ytgaanfacjjppcaa.Ns
open Go Go.Proofs.Ytgaanfacjjppcaa.Ae Go.Proofs.Ytgaanfacjjppcaa.Fx Go.Proofs.Ytgaanfacjjppcaa.Tx Go.Proofs.Ytgaanfacjjppcaa.Nx Go.Proofs.Ytgaanfacjjppcaa.Np Go.Proofs.Ytgaanfacjjppcaa.Te Go.Proofs.Ytgaanfacjjppcaa.Ve Go.Proofs.Ytgaanfacjjppcaa.Orb Go.Proofs.Ytgaanfacjjppcaa.Su Go.Proofs.Ytgaanfacjjppcaa.Row

theorem ckT_yes {t : Int} (h : 0 ≤ t ∧ t ≤ 157766400000) : ckT t = true := by
  rw [← rckT_eq]
  unfold rckT an
  simp [h.1, h.2]
theorem days_is {t : Int} (h : 0 ≤ t ∧ t ≤ 157766400000) : ∃ d, daysP t false = (d, false) ∧ 0 ≤ d ∧ d ≤ 2007708232318977 := by
  obtain ⟨d, hd, d1, d2⟩ := part_is (a := 1099511627776) (p := t) (q := 86400000) 1099511627776 157766400000 ⟨by decide, by decide⟩ ⟨by omega, h.2⟩ (by decide) (by decide) ⟨by decide, by decide⟩ (by decide)
  refine ⟨d, ?_, by omega, by omega⟩
  unfold daysP
  rw [ckT_yes h, Bool.not_true, bf]
  exact hd
theorem tip_sq {s c se ce y z : Int} (hs : Bd 1099511627789 s) (hse : Bd 1099511627789 se) (hce : Bd 1099511627789 ce)
    (h1 : Bd 13194139533312 (s * s + c * c - 1208925819614629174706176)) (h2 : Bd 13194139533312 (se * se + ce * ce - 1208925819614629174706176))
    (hy : Bd 1099511627776 (2 * (y * 1099511627776 - ce * s))) (hz : Bd 1099511627776 (2 * (z * 1099511627776 - se * s))) :
    Bd 30786325577728 (c * c + y * y + z * z - 1208925819614629174706176) := by
  have k1 := (hs.mul hs).mul h2
  have k2 := (hce.mul hs).mul hy
  have k3 := (hse.mul hs).mul hz
  have k4 := hy.mul hy
  have k5 := hz.mul hz
  have e : 4835703278458516698824704 * (c * c + y * y + z * z - 1208925819614629174706176) =
      4835703278458516698824704 * (s * s + c * c - 1208925819614629174706176) + 4 * (s * s * (se * se + ce * ce - 1208925819614629174706176)) + 4 * (ce * s * (2 * (y * 1099511627776 - ce * s))) + 4 * (se * s * (2 * (z * 1099511627776 - se * s))) +
      2 * (y * 1099511627776 - ce * s) * (2 * (y * 1099511627776 - ce * s)) + 2 * (z * 1099511627776 - se * s) * (2 * (z * 1099511627776 - se * s)) := by grind
  generalize c * c + y * y + z * z - 1208925819614629174706176 = T at *
  generalize s * s + c * c - 1208925819614629174706176 = U at *
  generalize s * s * (se * se + ce * ce - 1208925819614629174706176) = x1 at *
  generalize ce * s * (2 * (y * 1099511627776 - ce * s)) = x2 at *
  generalize se * s * (2 * (z * 1099511627776 - se * s)) = x3 at *
  generalize 2 * (y * 1099511627776 - ce * s) * (2 * (y * 1099511627776 - ce * s)) = x4 at *
  generalize 2 * (z * 1099511627776 - se * s) * (2 * (z * 1099511627776 - se * s)) = x5 at *
  unfold Bd at *
  omega
theorem dir_is {t : Int} (h : 0 ≤ t ∧ t ≤ 157766400000) : ∃ x y z, dirP t false = (⟨x, y, z⟩, false) ∧ Bd 1099511627789 x ∧ Bd 1099511627804 y ∧ Bd 1099511627804 z ∧ Bd 30786325577728 (x * x + y * y + z * z - 1208925819614629174706176) := by
  obtain ⟨d, hd, d0, d1⟩ := days_is h
  have db : Bd 2007708232318977 d := ⟨by omega, d1⟩
  obtain ⟨g1, hg1, g1b, -⟩ := mul_b 18913766030 2007708232318977 40000000000000 (a := 18913766030) (b := d) ⟨by decide, by decide⟩ db (by decide)
  have hg2 := add_b (a := 6870645337657) (b := g1) 6870645337657 40000000000000 ⟨by decide, by decide⟩ g1b (by decide)
  have hg := mod_is (a := 6870645337657 + g1) (m := 6908435304716) (by unfold Bd at g1b; omega) (by decide) (by decide)
  obtain ⟨q1, hq1, q1b, -⟩ := mul_b 18914669500 2007708232318977 40000000000000 (a := 18914669500) (b := d) ⟨by decide, by decide⟩ db (by decide)
  have hq2 := add_b (a := 5399914965875) (b := q1) 5399914965875 40000000000000 ⟨by decide, by decide⟩ q1b (by decide)
  have hq := mod_is (a := 5399914965875 + q1) (m := 6908435304716) (by unfold Bd at q1b; omega) (by decide) (by decide)
  have hang : angP t false = ⟨d, (6870645337657 + g1) % 6908435304716, (5399914965875 + q1) % 6908435304716, false⟩ := by
    unfold angP angG
    simp only [hd, hg1, hg2, hg, hq1, hq2, hq]
  have gb : 0 ≤ (6870645337657 + g1) % 6908435304716 ∧ (6870645337657 + g1) % 6908435304716 < 6908435304716 := by omega
  have qb : Bd 6908435304716 ((5399914965875 + q1) % 6908435304716) := ⟨by omega, by omega⟩
  generalize (6870645337657 + g1) % 6908435304716 = g at *
  generalize (5399914965875 + q1) % 6908435304716 = q at *
  obtain ⟨s1, -, s1b, -⟩ := sc_is (a := g) (by omega)
  obtain ⟨s2, -, s2b, -⟩ := sc_is (a := 2 * g) (by omega)
  obtain ⟨a1, ha1, a1b, -⟩ := mul_b 36749037801 1099511627789 36749037815 (a := 36749037801) (b := sv g) ⟨by decide, by decide⟩ s1b (by decide)
  have ha2 := add_b (a := q) (b := a1) 6908435304716 36749037815 qb a1b (by decide)
  obtain ⟨w1, hw1, w1b, -⟩ := mul_b 383801961 1099511627789 383801971 (a := 383801961) (b := sv (2 * g)) ⟨by decide, by decide⟩ s2b (by decide)
  have hl := add_b (a := q + a1) (b := w1) 6945184342531 383801971 (qb.add a1b) w1b (by decide)
  have lb : Bd 6945568144502 (q + a1 + w1) := (qb.add a1b).add w1b
  have hlon : lonP (angP t false) = (q + a1 + w1, false) := by
    rw [hang]
    unfold lonP lonG
    dsimp only
    rw [w64_in (n := 2 * g) (by omega) (by omega)]
    simp only [s1, ha1, ha2, s2, hw1, hl]
  generalize q + a1 + w1 = l at *
  obtain ⟨e1, he1, e1b, -⟩ := mul_b 6908 2007708232318977 20000000 (a := 6908) (b := d) ⟨by decide, by decide⟩ db (by decide)
  have he := sub_b (a := 449733620800) (b := e1) 449733620800 20000000 ⟨by decide, by decide⟩ e1b (by decide)
  obtain ⟨sl, cl, slb, clb, l1⟩ := sc_is (a := l) (by unfold Bd at lb; omega)
  obtain ⟨se, ce, seb, ceb, e2⟩ := sc_is (a := 449733620800 - e1) (by unfold Bd at e1b; omega)
  obtain ⟨y, hy, yb, y1⟩ := mul_b 1099511627789 1099511627789 1099511627804 (a := cv (449733620800 - e1)) (b := sv l) ceb slb (by decide)
  obtain ⟨z, hz, zb, z1⟩ := mul_b 1099511627789 1099511627789 1099511627804 (a := sv (449733620800 - e1)) (b := sv l) seb slb (by decide)
  refine ⟨cv l, y, z, ?_, clb, yb, zb, tip_sq slb seb ceb l1 e2 y1 z1⟩
  unfold dirP
  rw [hlon, hang]
  unfold tipP
  simp only [he1, he, sl, cl, ce, hy, se, hz]
  rfl
theorem one_len {n s : Int} (h0 : 0 ≤ n) (h1 : n * n ≤ s) (h2 : s < (n + 1) * (n + 1)) (hs : Bd 30786325577728 (s - 1208925819614629174706176)) : Bd 64 (n - 1099511627776) := by
  unfold Bd at *
  constructor
  · refine Int.not_lt.1 fun hn => ?_
    have : (n + 1) * (n + 1) ≤ 1099511627712 * 1099511627712 := Int.mul_le_mul (by omega) (by omega) (by omega) (by decide)
    omega
  · refine Int.not_lt.1 fun hn => ?_
    have : (1099511627841 : Int) * 1099511627841 ≤ n * n := Int.mul_le_mul (by omega) (by omega) (by decide) (by omega)
    omega
theorem sone_law (t : Int) (w : World) : Calls Try.prog 4 #[.int .i64 t] w fun e w' => e = .returned (.bool true) ∧ Go.RowKit.Below w.heap.size w w' := by
  refine law_true envL9_ok ((lone_raw shaP dirP dirP dotP scaP norm t).trans ?_) (RL.cons (R_int _ _ _) (RL_nil.2 rfl))
  dsimp only
  by_cases h : 0 ≤ t ∧ t ≤ 157766400000
  · obtain ⟨x, y, z, hv, xb, yb, zb, hsq⟩ := dir_is h
    obtain ⟨n, hn, n0, -, n1, n2⟩ := norm_is (a := x) (b := y) (c := z) 1099511627804 (xb.mono (by decide)) yb zb (by decide)
    have hd := one_len n0 n1 n2 hsq
    rw [hv]
    dsimp only
    rw [hn]
    dsimp only
    unfold Bd at hd
    rw [w64_in (n := n - 1099511627776) (by omega) (by omega)]
    unfold an
    simp [show ¬ t < 0 by omega, show ¬ t > 157766400000 by omega, hd.1, hd.2]
  · by_cases h0 : t < 0
    · simp [h0]
    · have : t > 157766400000 := by omega
      simp [this]
#print axioms sone_law
end Go.Proofs.Ytgaanfacjjppcaa.Ns
