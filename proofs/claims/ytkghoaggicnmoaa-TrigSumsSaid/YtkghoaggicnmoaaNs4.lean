/- The sine and the cosine of an angle below half of pi: there, and their squares 1 together. Conditions: as each says. -/
import Derived.Test.YtkghoaggicnmoaaNs3
namespace Go.Proofs.Ytkghoaggicnmoaa.Ns
open Go Go.Proofs.Ytkghoaggicnmoaa.Ae Go.Proofs.Ytkghoaggicnmoaa.Fx Go.Proofs.Ytkghoaggicnmoaa.Tx Go.Proofs.Ytkghoaggicnmoaa.Nx Go.Proofs.Ytkghoaggicnmoaa.Np

theorem cE_pos : 0 < cE.2 := of_decide_eq_true (by kernel_rfl)
theorem sE_pos : 0 < sE.2 := of_decide_eq_true (by kernel_rfl)
theorem err0 : err 0 10 0 = 31 := by kernel_rfl
theorem err1 : err 1 10 0 = 15 := by kernel_rfl
theorem sq_arg {t : Int} (ht : 0 ≤ t ∧ t ≤ 1727108826179) : ∃ u, mul t t false = (u, false) ∧ (2 * (u * 1099511627776 - t * t) ≤ 1099511627776 ∧ -1099511627776 ≤ 2 * (u * 1099511627776 - t * t)) ∧ (0 ≤ u ∧ u ≤ 2713000000000) := by
  obtain ⟨u, hu, u1, u2⟩ := mul_is (a := t) (b := t) (A := 1727108826179) (B := 1727108826179) ⟨by omega, ht.2⟩ ⟨by omega, ht.2⟩ (by decide) (by decide) (by decide)
  have tt : 0 ≤ t * t ∧ t * t ≤ 2982904897465403235740041 := ⟨Int.mul_nonneg ht.1 ht.1, Int.mul_le_mul ht.2 ht.2 ht.1 (by decide)⟩
  exact ⟨u, hu, ⟨u1, u2⟩, by omega⟩
theorem cos_ser {t : Int} (ht : 0 ≤ t ∧ t ≤ 1727108826179) : ∃ c, serP t 0 false = (c, false) ∧ (-1099511627776 ≤ c ∧ c ≤ 1099511627776) ∧ (-(32 * cE.2) ≤ 16 * (c * cE.2 - cE.1.at t 0) ∧ 16 * (c * cE.2 - cE.1.at t 0) ≤ 32 * cE.2) := by
  obtain ⟨u, hu, u1, u2⟩ := sq_arg ht
  obtain ⟨v, hv, -, -, vb, -, ve⟩ := serL_ok (first := 0) (.inl rfl) ht u1 u2 10 1099511627776 1099511627776 1 0 (by decide) (by decide) (by decide) ⟨by decide, by decide⟩ ⟨by decide, by decide⟩
  have hh := horE_at t 0 0 10 (.c 1099511627776, 1)
  change hor t 0 10 (1099511627776, 1) = (cE.1.at t 0, cE.2) at hh
  rw [hh, err0] at ve
  dsimp only at ve
  have hp := cE_pos
  refine ⟨v, ?_, vb, by omega⟩
  unfold serP
  simp only [hu, hv]
  rfl
theorem sin_ser {t : Int} (ht : 0 ≤ t ∧ t ≤ 1727108826179) : ∃ s, serP t 1 false = (s, false) ∧ (0 ≤ s ∧ s ≤ 1737000000000) ∧ (-(32 * (1099511627776 * sE.2)) ≤ 16 * (s * (1099511627776 * sE.2) - t * sE.1.at t 0) ∧ 16 * (s * (1099511627776 * sE.2) - t * sE.1.at t 0) ≤ 32 * (1099511627776 * sE.2)) := by
  obtain ⟨u, hu, u1, u2⟩ := sq_arg ht
  obtain ⟨v, hv, -, -, vb, v0, ve⟩ := serL_ok (first := 1) (.inr rfl) ht u1 u2 10 1099511627776 1099511627776 1 0 (by decide) (by decide) (by decide) ⟨by decide, by decide⟩ ⟨by decide, by decide⟩
  have hh := horE_at t 0 1 10 (.c 1099511627776, 1)
  change hor t 1 10 (1099511627776, 1) = (sE.1.at t 0, sE.2) at hh
  rw [hh, err1] at ve
  dsimp only at ve
  have hp := sE_pos
  have v0 := v0 rfl
  obtain ⟨s, hs, s1, s2⟩ := mul_is (a := t) (b := v) (A := 1727108826179) (B := 1099511627776) ⟨by omega, ht.2⟩ vb (by decide) (by decide) (by decide)
  have tv0 := Int.mul_nonneg ht.1 v0
  have tv := mul_le' (a := t) (b := v) (A := 1727108826179) (B := 1099511627776) ⟨by omega, ht.2⟩ vb
  refine ⟨s, ?_, by omega, ?_⟩
  · unfold serP
    simp only [hu, hv]
    rw [show ((1 : Int) == 1) = true from rfl, bt]
    exact hs
  · generalize hb : sE.2 = b at *
    generalize sE.1.at t 0 = A at *
    have k1 := mul_le' (a := t) (b := 16 * (v * b - A)) (A := 1727108826179) (B := 15 * b) ⟨by omega, ht.2⟩ ve
    generalize he : 2 * (s * 1099511627776 - t * v) = e at s1 s2
    have k2 := mul_le' (a := e) (b := b) (A := 1099511627776) (B := b) ⟨by omega, by omega⟩ ⟨by omega, by omega⟩
    have e1 : t * (16 * (v * b - A)) = 16 * (t * v * b) - 16 * (t * A) := by rw [Int.mul_left_comm, Int.mul_sub, Int.mul_sub, ← Int.mul_assoc t v b]
    have e2 : e * b = 2 * (s * (1099511627776 * b)) - 2 * (t * v * b) := by rw [← he, Int.mul_assoc, Int.sub_mul, Int.mul_sub, Int.mul_assoc s]
    rw [e1] at k1
    rw [e2] at k2
    generalize t * v * b = T at *
    generalize t * A = U at *
    generalize s * (1099511627776 * b) = W at *
    omega
/-- The squares are 1 together. -/
theorem pair_one {t : Int} (ht : 0 ≤ t ∧ t ≤ 1727108826179) : ∃ s c, serP t 1 false = (s, false) ∧ serP t 0 false = (c, false) ∧ (0 ≤ s ∧ s ≤ 1737000000000) ∧ (-1099511627776 ≤ c ∧ c ≤ 1099511627776) ∧
    (-13194139533312 ≤ s * s + c * c - 1208925819614629174706176 ∧ s * s + c * c - 1208925819614629174706176 ≤ 13194139533312) := by
  obtain ⟨s, hs, sb, se⟩ := sin_ser ht
  obtain ⟨c, hc, cb, ce⟩ := cos_ser ht
  refine ⟨s, c, hs, hc, sb, cb, ?_⟩
  have hP := oneE_small ht
  have e : oneE.at t 0 = cE.2 * cE.2 * (t * sE.1.at t 0 * (t * sE.1.at t 0)) + 1099511627776 * sE.2 * (1099511627776 * sE.2) * (cE.1.at t 0 * cE.1.at t 0) - 1099511627776 * 1099511627776 * (cE.2 * cE.2 * (1099511627776 * sE.2 * (1099511627776 * sE.2))) := by kernel_rfl
  rw [e] at hP
  have p0 := cE_pos
  have p1 := sE_pos
  exact one_abs p0 (Int.mul_pos (by decide) p1) se ce ⟨by omega, sb.2⟩ cb hP
#print axioms pair_one
end Go.Proofs.Ytkghoaggicnmoaa.Ns
