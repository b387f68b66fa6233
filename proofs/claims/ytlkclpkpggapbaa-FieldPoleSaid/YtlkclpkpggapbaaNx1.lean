/- Plain facts on rounded quotients: how near they are, and when they are there. Conditions: as each says. -/
import Derived.Test.YtlkclpkpggapbaaFxN
namespace Go.Proofs.Ytlkclpkpggapbaa.Nx
open Go Go.Proofs.Ytlkclpkpggapbaa.Ae Go.Proofs.Ytlkclpkpggapbaa.Fx

theorem okn_iff' {n : Int} : okn n = true ↔ -4611686018427387904 ≤ n ∧ n ≤ 4611686018427387904 := by
  unfold okn; simp

/-- A rounded quotient of naturals. -/
theorem rnd_nat {p z : Nat} (hz : 0 < z) : 2 * ((2 * p + z) / (2 * z) * z) ≤ 2 * p + z ∧ 2 * p + z < 2 * ((2 * p + z) / (2 * z) * z) + 2 * z := by
  have h1 := Nat.div_add_mod (2 * p + z) (2 * z)
  have h2 := Nat.mod_lt (2 * p + z) (show 2 * z > 0 by omega)
  have e : 2 * z * ((2 * p + z) / (2 * z)) = 2 * ((2 * p + z) / (2 * z) * z) := by
    rw [Nat.mul_assoc, Nat.mul_comm z]
  omega

theorem natAbs_mul_sign (a b : Int) : a * b = if Bool.xor (decide (a < 0)) (decide (b < 0)) then -((a.natAbs * b.natAbs : Nat) : Int) else ((a.natAbs * b.natAbs : Nat) : Int) := by
  rw [Int.natCast_mul]
  by_cases ha : a < 0 <;> by_cases hb : b < 0
  · have e1 : (a.natAbs : Int) = -a := by omega
    have e2 : (b.natAbs : Int) = -b := by omega
    simp [ha, hb, e1, e2, Int.neg_mul, Int.mul_neg]
  · have e1 : (a.natAbs : Int) = -a := by omega
    have e2 : (b.natAbs : Int) = b := by omega
    simp [ha, hb, e1, e2, Int.neg_mul, Int.mul_neg]
  · have e1 : (a.natAbs : Int) = a := by omega
    have e2 : (b.natAbs : Int) = -b := by omega
    simp [ha, hb, e1, e2, Int.neg_mul, Int.mul_neg]
  · have e1 : (a.natAbs : Int) = a := by omega
    have e2 : (b.natAbs : Int) = b := by omega
    simp [ha, hb, e1, e2, Int.neg_mul, Int.mul_neg]

/-- What a rounded quotient says: r c is a b, but for half of c. -/
theorem rat_spec {a b c r : Int} (h : rat a b c = some r) : c ≠ 0 ∧ 2 * (r * c - a * b) ≤ c.natAbs ∧ -(c.natAbs : Int) ≤ 2 * (r * c - a * b) ∧ -4611686018427387904 ≤ r ∧ r ≤ 4611686018427387904 := by
  unfold rat at h
  by_cases hc : c = 0
  · rw [if_pos hc] at h; cases h
  rw [if_neg hc] at h
  dsimp only at h
  obtain ⟨r1, r2⟩ := rnd_nat (p := a.natAbs * b.natAbs) (z := c.natAbs) (by omega)
  generalize hr0 : (2 * (a.natAbs * b.natAbs) + c.natAbs) / (2 * c.natAbs) = r0 at *
  split at h
  · cases h
  rename_i hle
  rw [natAbs_mul_sign a b]
  have hs : sgn3 a b c = Bool.xor (Bool.xor (decide (a < 0)) (decide (b < 0))) (decide (c < 0)) := by
    unfold sgn3; cases decide (a < 0) <;> cases decide (b < 0) <;> cases decide (c < 0) <;> rfl
  rw [hs] at h
  generalize a.natAbs * b.natAbs = p at *
  generalize Bool.xor (decide (a < 0)) (decide (b < 0)) = s at *
  refine ⟨hc, ?_⟩
  by_cases hn : c < 0
  · have e : c = -(c.natAbs : Int) := by omega
    rw [decide_eq_true hn] at h
    have em : ∀ r : Int, r * c = -(r * (c.natAbs : Int)) := fun r => by rw [e, Int.mul_neg]; simp
    have en : ((r0 * c.natAbs : Nat) : Int) = (r0 : Int) * (c.natAbs : Int) := Int.natCast_mul _ _
    rw [em]
    generalize c.natAbs = z at *
    generalize r0 * z = q at *
    cases s
    · simp only [Bool.false_xor, if_true, Option.some.injEq] at h
      subst h
      have : -(r0 : Int) * (z : Int) = -(q : Int) := by rw [en, Int.neg_mul]
      rw [this]; simp only [Bool.false_eq_true, if_false]; omega
    · simp only [Bool.xor_self, Bool.false_eq_true, if_false, Option.some.injEq] at h
      subst h
      rw [← en]; simp only [if_true]; omega
  · have e : c = (c.natAbs : Int) := by omega
    rw [decide_eq_false hn] at h
    have em : ∀ r : Int, r * c = r * (c.natAbs : Int) := fun r => by rw [← e]
    have en : ((r0 * c.natAbs : Nat) : Int) = (r0 : Int) * (c.natAbs : Int) := Int.natCast_mul _ _
    rw [em]
    generalize c.natAbs = z at *
    generalize r0 * z = q at *
    cases s
    · simp only [Bool.xor_self, Bool.false_eq_true, if_false, Option.some.injEq] at h
      subst h
      rw [← en]; simp only [Bool.false_eq_true, if_false]; omega
    · simp only [Bool.xor_false, if_true, Option.some.injEq] at h
      subst h
      have : -(r0 : Int) * (z : Int) = -(q : Int) := by rw [en, Int.neg_mul]
      rw [this]; simp only [if_true]; omega

/-- A quotient that is small enough is there. -/
theorem rat_some {a b c : Int} (hc : c ≠ 0) (h : (a * b).natAbs < 4611686018427387904 * c.natAbs) : ∃ r, rat a b c = some r := by
  unfold rat
  rw [if_neg hc]
  dsimp only
  rw [Int.natAbs_mul] at h
  have hz : 0 < c.natAbs := by omega
  have : ¬ (2 * (a.natAbs * b.natAbs) + c.natAbs) / (2 * c.natAbs) > 4611686018427387904 := by
    have : (2 * (a.natAbs * b.natAbs) + c.natAbs) / (2 * c.natAbs) < 4611686018427387905 := by
      rw [Nat.div_lt_iff_lt_mul (by omega)]
      have : 4611686018427387905 * (2 * c.natAbs) = 2 * (4611686018427387904 * c.natAbs) + 2 * c.natAbs := by omega
      omega
    omega
  rw [if_neg this]
  split <;> exact ⟨_, rfl⟩

theorem lift2 {a b : Int} (ha : okn a = true) (hb : okn b = true) (o : Option Int) : lift false [a, b] o = resB false o := by
  unfold lift; simp [ha, hb]
theorem lift3 {a b c : Int} (ha : okn a = true) (hb : okn b = true) (hc : okn c = true) (o : Option Int) : lift false [a, b, c] o = resB false o := by
  unfold lift; simp [ha, hb, hc]
theorem lift1 {a : Int} (ha : okn a = true) (o : Option Int) : lift false [a] o = resB false o := by
  unfold lift; simp [ha]
end Go.Proofs.Ytlkclpkpggapbaa.Nx
