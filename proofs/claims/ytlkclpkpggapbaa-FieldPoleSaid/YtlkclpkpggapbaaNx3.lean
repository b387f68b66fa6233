/- Plain facts on lengths. Conditions: none. -/
import Derived.Test.YtlkclpkpggapbaaNx1
namespace Go.Proofs.Ytlkclpkpggapbaa.Nx
open Go Go.Proofs.Ytlkclpkpggapbaa.Ae Go.Proofs.Ytlkclpkpggapbaa.Fx

/-- An answer that is there. -/
theorem lift_got {bad : Bool} {l : List Int} {o : Option Int} (h : (lift bad l o).2 = false) : bad = false ∧ (∀ n ∈ l, okn n = true) ∧ ∃ r, o = some r ∧ lift bad l o = (r, false) := by
  unfold lift at h ⊢
  split at h
  · cases h
  · rename_i hn
    rw [if_neg hn]
    simp only [Bool.or_eq_true, not_or, Bool.not_eq_true, List.any_eq_false] at hn
    obtain ⟨h1, h2⟩ := hn
    cases o with
    | none => cases h
    | some r => exact ⟨h1, fun n hn => by simpa using h2 n hn, r, rfl, rfl⟩
theorem mul_abs {a b A B : Int} (h1 : -A ≤ a ∧ a ≤ A) (h2 : -B ≤ b ∧ b ≤ B) : -(A * B) ≤ a * b ∧ a * b ≤ A * B := by
  have hA : 0 ≤ A := by omega
  have hB : 0 ≤ B := by omega
  have key : (a * b).natAbs ≤ (A * B).natAbs := by
    rw [Int.natAbs_mul, Int.natAbs_mul]
    exact Nat.mul_le_mul (by omega) (by omega)
  have : 0 ≤ A * B := Int.mul_nonneg hA hB
  omega
theorem sq_abs (a : Int) : ((a.natAbs * a.natAbs : Nat) : Int) = a * a := Int.natAbs_mul_self
theorem sq_nonneg (a : Int) : 0 ≤ a * a := by rw [← sq_abs]; omega
theorem sq_le {a A : Int} (h : -A ≤ a ∧ a ≤ A) : a * a ≤ A * A := (mul_abs h h).2
theorem le_of_sq {a n : Int} (hn : 0 ≤ n) (h : a * a ≤ n * n) : -n ≤ a ∧ a ≤ n := by
  have : a.natAbs * a.natAbs ≤ n.natAbs * n.natAbs := by
    have h1 := sq_abs a
    have h2 := sq_abs n
    omega
  have := Nat.mul_self_le_mul_self_iff.1 this
  omega
/-- A length that is there. -/
theorem norm_got {a b c : Int} {bad : Bool} (h : (norm a b c bad).2 = false) : bad = false ∧ ∃ n : Int, norm a b c bad = (n, false) ∧ 0 ≤ n ∧ n ≤ 4611686018427387904 ∧ n * n ≤ a * a + b * b + c * c ∧ a * a + b * b + c * c < (n + 1) * (n + 1) := by
  unfold norm at h ⊢
  obtain ⟨h1, h2, r, h3, h4⟩ := lift_got h
  have ha := okn_iff'.1 (h2 a (by simp))
  have hb := okn_iff'.1 (h2 b (by simp))
  have hc := okn_iff'.1 (h2 c (by simp))
  refine ⟨h1, r, h4, ?_⟩
  unfold upTo at h3
  split at h3
  · cases h3
  · rename_i hle
    cases h3
    have sa := Nat.mul_self_le_mul_self (show a.natAbs ≤ 4611686018427387904 by omega)
    have sb := Nat.mul_self_le_mul_self (show b.natAbs ≤ 4611686018427387904 by omega)
    have sc := Nat.mul_self_le_mul_self (show c.natAbs ≤ 4611686018427387904 by omega)
    have hN : a.natAbs * a.natAbs + b.natAbs * b.natAbs + c.natAbs * c.natAbs < 2 ^ 128 := by omega
    obtain ⟨q1, q2⟩ := isq_ok hN
    generalize hr : isq (a.natAbs * a.natAbs + b.natAbs * b.natAbs + c.natAbs * c.natAbs) = r at *
    rw [← sq_abs a, ← sq_abs b, ← sq_abs c]
    generalize a.natAbs * a.natAbs = A at *
    generalize b.natAbs * b.natAbs = B at *
    generalize c.natAbs * c.natAbs = C at *
    have e1 : (r : Int) * (r : Int) = ((r * r : Nat) : Int) := (Int.natCast_mul r r).symm
    have e2 : ((r : Int) + 1) * ((r : Int) + 1) = (((r + 1) * (r + 1) : Nat) : Int) := by rw [Int.natCast_mul]; simp
    rw [e1, e2]
    generalize r * r = R at *
    generalize (r + 1) * (r + 1) = R1 at *
    omega
end Go.Proofs.Ytlkclpkpggapbaa.Nx
