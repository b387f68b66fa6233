/- The squares of the two series are 1 together, but for few units. Conditions: angles of 0 to half of pi. -/
import Derived.Test.YtkghoaggicnmoaaNs2
import Derived.Test.YtkghoaggicnmoaaNp1
namespace Go.Proofs.Ytkghoaggicnmoaa.Ns
open Go Go.Proofs.Ytkghoaggicnmoaa.Ae Go.Proofs.Ytkghoaggicnmoaa.Fx Go.Proofs.Ytkghoaggicnmoaa.Tx Go.Proofs.Ytkghoaggicnmoaa.Nx Go.Proofs.Ytkghoaggicnmoaa.Np

/-- hor, as a term. -/
def horE (first : Int) : Nat → E × Int → E × Int
  | 0, s => s
  | k + 1, s => horE first k (.sub (.c (1099511627776 * (s.2 * (dv first k * 1208925819614629174706176)))) (.mul (.mul .x .x) s.1), s.2 * (dv first k * 1208925819614629174706176))
theorem horE_at (t y first : Int) : ∀ (k : Nat) (s : E × Int), hor t first k (s.1.at t y, s.2) = ((horE first k s).1.at t y, (horE first k s).2)
  | 0, s => rfl
  | k + 1, s => by
    unfold hor horE
    rw [← horE_at t y first k]
    rfl
abbrev cE : E × Int := horE 0 10 (.c 1099511627776, 1)
abbrev sE : E × Int := horE 1 10 (.c 1099511627776, 1)
def oneE : E := .sub (.add (.mul (.c (cE.2 * cE.2)) (.mul (.mul .x sE.1) (.mul .x sE.1))) (.mul (.c (1099511627776 * sE.2 * (1099511627776 * sE.2))) (.mul cE.1 cE.1))) (.c (1099511627776 * 1099511627776 * (cE.2 * cE.2 * (1099511627776 * sE.2 * (1099511627776 * sE.2)))))
theorem oneE_small {t : Int} (ht : 0 ≤ t ∧ t ≤ 1727108826179) : -(1000000000000 * (cE.2 * cE.2 * (1099511627776 * sE.2 * (1099511627776 * sE.2)))) ≤ oneE.at t 0 ∧ oneE.at t 0 ≤ 1000000000000 * (cE.2 * cE.2 * (1099511627776 * sE.2 * (1099511627776 * sE.2))) :=
  E.small oneE (X := 1727108826179) (Y := 0) ⟨by omega, ht.2⟩ ⟨by decide, by decide⟩ (by kernel_rfl)
/-- A square, by what stands near. -/
theorem sq_near {s b X S : Int} (hb : 0 < b) (h : -(32 * b) ≤ 16 * (s * b - X) ∧ 16 * (s * b - X) ≤ 32 * b) (hs : -S ≤ s ∧ s ≤ S) :
    -((4 * S + 4) * (b * b)) ≤ s * s * (b * b) - X * X ∧ s * s * (b * b) - X * X ≤ (4 * S + 4) * (b * b) := by
  generalize he : s * b - X = e at h
  have hX : X = s * b - e := by omega
  have hsb := mul_le' hs (show -b ≤ b ∧ b ≤ b by omega)
  have k := mul_le' (a := e) (b := 2 * (s * b) - e) (A := 2 * b) (B := 2 * (S * b) + 2 * b) ⟨by omega, by omega⟩ ⟨by omega, by omega⟩
  have e1 : s * s * (b * b) - X * X = e * (2 * (s * b) - e) := by
    rw [hX]
    have m1 : s * s * (b * b) = (s * b) * (s * b) := by rw [Int.mul_assoc s s, Int.mul_left_comm s b b, ← Int.mul_assoc s b]
    rw [m1]
    generalize s * b = y
    rw [Int.mul_sub, Int.sub_mul, Int.sub_mul, Int.mul_sub]
    have m2 : e * (2 * y) = 2 * (y * e) := by rw [Int.mul_left_comm, Int.mul_comm e y]
    have m3 : e * y = y * e := Int.mul_comm ..
    rw [m2, m3]; omega
  have e2 : 2 * b * (2 * (S * b) + 2 * b) = (4 * S + 4) * (b * b) := by
    have m1 : 2 * b * (2 * (S * b)) = 4 * S * (b * b) := by
      rw [Int.mul_assoc 2 b, Int.mul_left_comm b 2, Int.mul_left_comm b S b, ← Int.mul_assoc 2 2, ← Int.mul_assoc (2 * 2) S]; rfl
    have m2 : 2 * b * (2 * b) = 4 * (b * b) := by rw [Int.mul_assoc 2 b, Int.mul_left_comm b 2, ← Int.mul_assoc 2 2]; rfl
    rw [Int.mul_add, m1, m2, Int.add_mul]
  rw [e1, ← e2]
  exact k
theorem one_abs {s c X Y b0 b1 : Int} (h0 : 0 < b0) (h1 : 0 < b1) (hs : -(32 * b1) ≤ 16 * (s * b1 - X) ∧ 16 * (s * b1 - X) ≤ 32 * b1) (hc : -(32 * b0) ≤ 16 * (c * b0 - Y) ∧ 16 * (c * b0 - Y) ≤ 32 * b0)
    (sB : -1737000000000 ≤ s ∧ s ≤ 1737000000000) (cB : -1099511627776 ≤ c ∧ c ≤ 1099511627776)
    (hP : -(1000000000000 * (b0 * b0 * (b1 * b1))) ≤ b0 * b0 * (X * X) + b1 * b1 * (Y * Y) - 1099511627776 * 1099511627776 * (b0 * b0 * (b1 * b1)) ∧ b0 * b0 * (X * X) + b1 * b1 * (Y * Y) - 1099511627776 * 1099511627776 * (b0 * b0 * (b1 * b1)) ≤ 1000000000000 * (b0 * b0 * (b1 * b1))) :
    -13194139533312 ≤ s * s + c * c - 1208925819614629174706176 ∧ s * s + c * c - 1208925819614629174706176 ≤ 13194139533312 := by
  have ds := sq_near h1 hs sB
  have dc := sq_near h0 hc cB
  have p0 : 0 < b0 * b0 := Int.mul_pos h0 h0
  have p1 : 0 < b1 * b1 := Int.mul_pos h1 h1
  generalize b0 * b0 = a0 at *
  generalize b1 * b1 = a1 at *
  have pM : 0 < a0 * a1 := Int.mul_pos p0 p1
  have u1 := Int.mul_le_mul_of_nonneg_left ds.1 (show 0 ≤ a0 by omega)
  have u2 := Int.mul_le_mul_of_nonneg_left ds.2 (show 0 ≤ a0 by omega)
  have v1 := Int.mul_le_mul_of_nonneg_left dc.1 (show 0 ≤ a1 by omega)
  have v2 := Int.mul_le_mul_of_nonneg_left dc.2 (show 0 ≤ a1 by omega)
  rw [Int.mul_sub] at u1 u2 v1 v2
  have r1 : a0 * (s * s * a1) = s * s * (a0 * a1) := Int.mul_left_comm ..
  have r2 : a1 * (c * c * a0) = c * c * (a0 * a1) := by rw [Int.mul_left_comm, Int.mul_comm a1 a0]
  have r3 : a0 * ((4 * 1737000000000 + 4) * a1) = (4 * 1737000000000 + 4) * (a0 * a1) := Int.mul_left_comm ..
  have r4 : a1 * ((4 * 1099511627776 + 4) * a0) = (4 * 1099511627776 + 4) * (a0 * a1) := by rw [Int.mul_left_comm, Int.mul_comm a1 a0]
  rw [Int.mul_neg, r1, r3] at u1
  rw [r1, r3] at u2
  rw [Int.mul_neg, r2, r4] at v1
  rw [r2, r4] at v2
  have tot : (s * s + c * c - 1208925819614629174706176) * (a0 * a1) = s * s * (a0 * a1) + c * c * (a0 * a1) - 1208925819614629174706176 * (a0 * a1) := by rw [Int.sub_mul, Int.add_mul]
  generalize s * s + c * c - 1208925819614629174706176 = D at *
  generalize a0 * a1 = M at *
  generalize s * s * M = sM at *
  generalize c * c * M = cM at *
  generalize a0 * (X * X) = XM at *
  generalize a1 * (Y * Y) = YM at *
  constructor
  · refine Int.le_of_mul_le_mul_right (a := M) ?_ pM
    rw [tot]; omega
  · refine Int.le_of_mul_le_mul_right (a := M) ?_ pM
    rw [tot]; omega
end Go.Proofs.Ytkghoaggicnmoaa.Ns
