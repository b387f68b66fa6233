/- The squares of the two series are 1 together, but for few units. Conditions: angles of 0 to half of pi. The sine and the cosine of an angle below half of pi: there, and their squares 1 together. Conditions: as each says. -/
import Derived.Test.YtkghoaggicnmoaaNs2
import Derived.Test.YtkghoaggicnmoaaNp1
namespace Go.Proofs.Ytkghoaggicnmoaa.Ns
open Go Go.Proofs.Ytkghoaggicnmoaa.Ae Go.Proofs.Ytkghoaggicnmoaa.Fx Go.Proofs.Ytkghoaggicnmoaa.Tx Go.Proofs.Ytkghoaggicnmoaa.Nx Go.Proofs.Ytkghoaggicnmoaa.Np

/-- hor, as a term. -/
def horE (first : Int) : Nat → E × Int → E × Int
  | 0, s => s
  | k + 1, s => horE first k (.sub (.c (1099511627776 * (s.2 * (dv first k * 1208925819614629174706176)))) (.mul (.mul .x .x) s.1), s.2 * (dv first k * 1208925819614629174706176))
theorem horE_at (t y first : Int) : ∀ (k : Nat) (s : E × Int), hor t first k (s.1.at t y, s.2) = ((horE first k s).1.at t y, (horE first k s).2)
  | 0, s => rfl
  | k + 1, s => by
    unfold hor horE
    rw [← horE_at t y first k]
    rfl
abbrev cE : E × Int := horE 0 10 (.c 1099511627776, 1)
abbrev sE : E × Int := horE 1 10 (.c 1099511627776, 1)
def oneE : E := .sub (.add (.mul (.c (cE.2 * cE.2)) (.mul (.mul .x sE.1) (.mul .x sE.1))) (.mul (.c (1099511627776 * sE.2 * (1099511627776 * sE.2))) (.mul cE.1 cE.1))) (.c (1099511627776 * 1099511627776 * (cE.2 * cE.2 * (1099511627776 * sE.2 * (1099511627776 * sE.2)))))
theorem oneE_small {t : Int} (ht : 0 ≤ t ∧ t ≤ 1727108826179) : -(1000000000000 * (cE.2 * cE.2 * (1099511627776 * sE.2 * (1099511627776 * sE.2)))) ≤ oneE.at t 0 ∧ oneE.at t 0 ≤ 1000000000000 * (cE.2 * cE.2 * (1099511627776 * sE.2 * (1099511627776 * sE.2))) :=
  E.small oneE (X := 1727108826179) (Y := 0) ⟨by omega, ht.2⟩ ⟨by decide, by decide⟩ (by kernel_rfl)
/-- A square, by what stands near. -/
theorem sq_near {s b X S : Int} (hb : 0 < b) (h : -(32 * b) ≤ 16 * (s * b - X) ∧ 16 * (s * b - X) ≤ 32 * b) (hs : -S ≤ s ∧ s ≤ S) :
    -((4 * S + 4) * (b * b)) ≤ s * s * (b * b) - X * X ∧ s * s * (b * b) - X * X ≤ (4 * S + 4) * (b * b) := by
  generalize he : s * b - X = e at h
  have hX : X = s * b - e := by omega
  have hsb := mul_le' hs (show -b ≤ b ∧ b ≤ b by omega)
  have k := mul_le' (a := e) (b := 2 * (s * b) - e) (A := 2 * b) (B := 2 * (S * b) + 2 * b) ⟨by omega, by omega⟩ ⟨by omega, by omega⟩
  have e1 : s * s * (b * b) - X * X = e * (2 * (s * b) - e) := by
    rw [hX]
    have m1 : s * s * (b * b) = (s * b) * (s * b) := by rw [Int.mul_assoc s s, Int.mul_left_comm s b b, ← Int.mul_assoc s b]
    rw [m1]
    generalize s * b = y
    rw [Int.mul_sub, Int.sub_mul, Int.sub_mul, Int.mul_sub]
    have m2 : e * (2 * y) = 2 * (y * e) := by rw [Int.mul_left_comm, Int.mul_comm e y]
    have m3 : e * y = y * e := Int.mul_comm ..
    rw [m2, m3]; omega
  have e2 : 2 * b * (2 * (S * b) + 2 * b) = (4 * S + 4) * (b * b) := by
    have m1 : 2 * b * (2 * (S * b)) = 4 * S * (b * b) := by
      rw [Int.mul_assoc 2 b, Int.mul_left_comm b 2, Int.mul_left_comm b S b, ← Int.mul_assoc 2 2, ← Int.mul_assoc (2 * 2) S]; rfl
    have m2 : 2 * b * (2 * b) = 4 * (b * b) := by rw [Int.mul_assoc 2 b, Int.mul_left_comm b 2, ← Int.mul_assoc 2 2]; rfl
    rw [Int.mul_add, m1, m2, Int.add_mul]
  rw [e1, ← e2]
  exact k
theorem one_abs {s c X Y b0 b1 : Int} (h0 : 0 < b0) (h1 : 0 < b1) (hs : -(32 * b1) ≤ 16 * (s * b1 - X) ∧ 16 * (s * b1 - X) ≤ 32 * b1) (hc : -(32 * b0) ≤ 16 * (c * b0 - Y) ∧ 16 * (c * b0 - Y) ≤ 32 * b0)
    (sB : -1737000000000 ≤ s ∧ s ≤ 1737000000000) (cB : -1099511627776 ≤ c ∧ c ≤ 1099511627776)
    (hP : -(1000000000000 * (b0 * b0 * (b1 * b1))) ≤ b0 * b0 * (X * X) + b1 * b1 * (Y * Y) - 1099511627776 * 1099511627776 * (b0 * b0 * (b1 * b1)) ∧ b0 * b0 * (X * X) + b1 * b1 * (Y * Y) - 1099511627776 * 1099511627776 * (b0 * b0 * (b1 * b1)) ≤ 1000000000000 * (b0 * b0 * (b1 * b1))) :
    -13194139533312 ≤ s * s + c * c - 1208925819614629174706176 ∧ s * s + c * c - 1208925819614629174706176 ≤ 13194139533312 := by
  have ds := sq_near h1 hs sB
  have dc := sq_near h0 hc cB
  have p0 : 0 < b0 * b0 := Int.mul_pos h0 h0
  have p1 : 0 < b1 * b1 := Int.mul_pos h1 h1
  generalize b0 * b0 = a0 at *
  generalize b1 * b1 = a1 at *
  have pM : 0 < a0 * a1 := Int.mul_pos p0 p1
  have u1 := Int.mul_le_mul_of_nonneg_left ds.1 (show 0 ≤ a0 by omega)
  have u2 := Int.mul_le_mul_of_nonneg_left ds.2 (show 0 ≤ a0 by omega)
  have v1 := Int.mul_le_mul_of_nonneg_left dc.1 (show 0 ≤ a1 by omega)
  have v2 := Int.mul_le_mul_of_nonneg_left dc.2 (show 0 ≤ a1 by omega)
  rw [Int.mul_sub] at u1 u2 v1 v2
  have r1 : a0 * (s * s * a1) = s * s * (a0 * a1) := Int.mul_left_comm ..
  have r2 : a1 * (c * c * a0) = c * c * (a0 * a1) := by rw [Int.mul_left_comm, Int.mul_comm a1 a0]
  have r3 : a0 * ((4 * 1737000000000 + 4) * a1) = (4 * 1737000000000 + 4) * (a0 * a1) := Int.mul_left_comm ..
  have r4 : a1 * ((4 * 1099511627776 + 4) * a0) = (4 * 1099511627776 + 4) * (a0 * a1) := by rw [Int.mul_left_comm, Int.mul_comm a1 a0]
  rw [Int.mul_neg, r1, r3] at u1
  rw [r1, r3] at u2
  rw [Int.mul_neg, r2, r4] at v1
  rw [r2, r4] at v2
  have tot : (s * s + c * c - 1208925819614629174706176) * (a0 * a1) = s * s * (a0 * a1) + c * c * (a0 * a1) - 1208925819614629174706176 * (a0 * a1) := by rw [Int.sub_mul, Int.add_mul]
  generalize s * s + c * c - 1208925819614629174706176 = D at *
  generalize a0 * a1 = M at *
  generalize s * s * M = sM at *
  generalize c * c * M = cM at *
  generalize a0 * (X * X) = XM at *
  generalize a1 * (Y * Y) = YM at *
  constructor
  · refine Int.le_of_mul_le_mul_right (a := M) ?_ pM
    rw [tot]; omega
  · refine Int.le_of_mul_le_mul_right (a := M) ?_ pM
    rw [tot]; omega
end Go.Proofs.Ytkghoaggicnmoaa.Ns

namespace Go.Proofs.Ytkghoaggicnmoaa.Ns
open Go Go.Proofs.Ytkghoaggicnmoaa.Ae Go.Proofs.Ytkghoaggicnmoaa.Fx Go.Proofs.Ytkghoaggicnmoaa.Tx Go.Proofs.Ytkghoaggicnmoaa.Nx Go.Proofs.Ytkghoaggicnmoaa.Np

theorem cE_pos : 0 < cE.2 := of_decide_eq_true (by kernel_rfl)
theorem sE_pos : 0 < sE.2 := of_decide_eq_true (by kernel_rfl)
theorem err0 : err 0 10 0 = 31 := by kernel_rfl
theorem err1 : err 1 10 0 = 15 := by kernel_rfl
theorem sq_arg {t : Int} (ht : 0 ≤ t ∧ t ≤ 1727108826179) : ∃ u, mul t t false = (u, false) ∧ (2 * (u * 1099511627776 - t * t) ≤ 1099511627776 ∧ -1099511627776 ≤ 2 * (u * 1099511627776 - t * t)) ∧ (0 ≤ u ∧ u ≤ 2713000000000) := by
  obtain ⟨u, hu, u1, u2⟩ := mul_is (a := t) (b := t) (A := 1727108826179) (B := 1727108826179) ⟨by omega, ht.2⟩ ⟨by omega, ht.2⟩ (by decide) (by decide) (by decide)
  have tt : 0 ≤ t * t ∧ t * t ≤ 2982904897465403235740041 := ⟨Int.mul_nonneg ht.1 ht.1, Int.mul_le_mul ht.2 ht.2 ht.1 (by decide)⟩
  exact ⟨u, hu, ⟨u1, u2⟩, by omega⟩
theorem cos_ser {t : Int} (ht : 0 ≤ t ∧ t ≤ 1727108826179) : ∃ c, serP t 0 false = (c, false) ∧ (-1099511627776 ≤ c ∧ c ≤ 1099511627776) ∧ (-(32 * cE.2) ≤ 16 * (c * cE.2 - cE.1.at t 0) ∧ 16 * (c * cE.2 - cE.1.at t 0) ≤ 32 * cE.2) := by
  obtain ⟨u, hu, u1, u2⟩ := sq_arg ht
  obtain ⟨v, hv, -, -, vb, -, ve⟩ := serL_ok (first := 0) (.inl rfl) ht u1 u2 10 1099511627776 1099511627776 1 0 (by decide) (by decide) (by decide) ⟨by decide, by decide⟩ ⟨by decide, by decide⟩
  have hh := horE_at t 0 0 10 (.c 1099511627776, 1)
  change hor t 0 10 (1099511627776, 1) = (cE.1.at t 0, cE.2) at hh
  rw [hh, err0] at ve
  dsimp only at ve
  have hp := cE_pos
  refine ⟨v, ?_, vb, by omega⟩
  unfold serP
  simp only [hu, hv]
  rfl
theorem sin_ser {t : Int} (ht : 0 ≤ t ∧ t ≤ 1727108826179) : ∃ s, serP t 1 false = (s, false) ∧ (0 ≤ s ∧ s ≤ 1737000000000) ∧ (-(32 * (1099511627776 * sE.2)) ≤ 16 * (s * (1099511627776 * sE.2) - t * sE.1.at t 0) ∧ 16 * (s * (1099511627776 * sE.2) - t * sE.1.at t 0) ≤ 32 * (1099511627776 * sE.2)) := by
  obtain ⟨u, hu, u1, u2⟩ := sq_arg ht
  obtain ⟨v, hv, -, -, vb, v0, ve⟩ := serL_ok (first := 1) (.inr rfl) ht u1 u2 10 1099511627776 1099511627776 1 0 (by decide) (by decide) (by decide) ⟨by decide, by decide⟩ ⟨by decide, by decide⟩
  have hh := horE_at t 0 1 10 (.c 1099511627776, 1)
  change hor t 1 10 (1099511627776, 1) = (sE.1.at t 0, sE.2) at hh
  rw [hh, err1] at ve
  dsimp only at ve
  have hp := sE_pos
  have v0 := v0 rfl
  obtain ⟨s, hs, s1, s2⟩ := mul_is (a := t) (b := v) (A := 1727108826179) (B := 1099511627776) ⟨by omega, ht.2⟩ vb (by decide) (by decide) (by decide)
  have tv0 := Int.mul_nonneg ht.1 v0
  have tv := mul_le' (a := t) (b := v) (A := 1727108826179) (B := 1099511627776) ⟨by omega, ht.2⟩ vb
  refine ⟨s, ?_, by omega, ?_⟩
  · unfold serP
    simp only [hu, hv]
    rw [show ((1 : Int) == 1) = true from rfl, bt]
    exact hs
  · generalize hb : sE.2 = b at *
    generalize sE.1.at t 0 = A at *
    have k1 := mul_le' (a := t) (b := 16 * (v * b - A)) (A := 1727108826179) (B := 15 * b) ⟨by omega, ht.2⟩ ve
    generalize he : 2 * (s * 1099511627776 - t * v) = e at s1 s2
    have k2 := mul_le' (a := e) (b := b) (A := 1099511627776) (B := b) ⟨by omega, by omega⟩ ⟨by omega, by omega⟩
    have e1 : t * (16 * (v * b - A)) = 16 * (t * v * b) - 16 * (t * A) := by rw [Int.mul_left_comm, Int.mul_sub, Int.mul_sub, ← Int.mul_assoc t v b]
    have e2 : e * b = 2 * (s * (1099511627776 * b)) - 2 * (t * v * b) := by rw [← he, Int.mul_assoc, Int.sub_mul, Int.mul_sub, Int.mul_assoc s]
    rw [e1] at k1
    rw [e2] at k2
    generalize t * v * b = T at *
    generalize t * A = U at *
    generalize s * (1099511627776 * b) = W at *
    omega
/-- The squares are 1 together. -/
theorem pair_one {t : Int} (ht : 0 ≤ t ∧ t ≤ 1727108826179) : ∃ s c, serP t 1 false = (s, false) ∧ serP t 0 false = (c, false) ∧ (0 ≤ s ∧ s ≤ 1737000000000) ∧ (-1099511627776 ≤ c ∧ c ≤ 1099511627776) ∧
    (-13194139533312 ≤ s * s + c * c - 1208925819614629174706176 ∧ s * s + c * c - 1208925819614629174706176 ≤ 13194139533312) := by
  obtain ⟨s, hs, sb, se⟩ := sin_ser ht
  obtain ⟨c, hc, cb, ce⟩ := cos_ser ht
  refine ⟨s, c, hs, hc, sb, cb, ?_⟩
  have hP := oneE_small ht
  have e : oneE.at t 0 = cE.2 * cE.2 * (t * sE.1.at t 0 * (t * sE.1.at t 0)) + 1099511627776 * sE.2 * (1099511627776 * sE.2) * (cE.1.at t 0 * cE.1.at t 0) - 1099511627776 * 1099511627776 * (cE.2 * cE.2 * (1099511627776 * sE.2 * (1099511627776 * sE.2))) := by kernel_rfl
  rw [e] at hP
  have p0 := cE_pos
  have p1 := sE_pos
  exact one_abs p0 (Int.mul_pos (by decide) p1) se ce ⟨by omega, sb.2⟩ cb hP
#print axioms pair_one
end Go.Proofs.Ytkghoaggicnmoaa.Ns
