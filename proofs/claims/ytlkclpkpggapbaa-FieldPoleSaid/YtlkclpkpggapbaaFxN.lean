/- What the methods of a flow come to, in plain numbers. Conditions: none. -/
import Derived.Test.YtlkclpkpggapbaaFx0b
namespace Go.Proofs.Ytlkclpkpggapbaa.Fx
open Go Go.Proofs.Ytlkclpkpggapbaa.Ae

/-- Choices that are made (not by rfl: so that the kernel need not compare the ways). -/
theorem bt {α : Type} (a b : α) : (bif true then a else b) = a := by simp only [cond_true]
theorem bf {α : Type} (a b : α) : (bif false then a else b) = b := by simp only [cond_false]

abbrev Most : Int := 4611686018427387904
/-- A number of the flow. -/
def okn (n : Int) : Bool := decide (-4611686018427387904 ≤ n) && decide (n ≤ 4611686018427387904)

/-- An answer, or nothing and a bad flow. -/
def resB (bad : Bool) : Option Int → Int × Bool
  | some r => (r, bad)
  | none => (0, true)
/-- What a method comes to: nothing where the flow is bad or something is no number, or where o is none. -/
def lift (bad : Bool) (l : List Int) (o : Option Int) : Int × Bool :=
  if bad || l.any (fun n => !okn n) then (0, true) else resB false o

/-- Is a b / c below 0 (or a nothing with a sign)? -/
def sgn3 (a b c : Int) : Bool := Bool.xor (decide (a < 0)) (Bool.xor (decide (b < 0)) (decide (c < 0)))
/-- a b / c, to the nearest, halves away from 0. -/
def rat (a b c : Int) : Option Int :=
  if c = 0 then none else
  let r : Nat := (2 * (a.natAbs * b.natAbs) + c.natAbs) / (2 * c.natAbs)
  if r > 4611686018427387904 then none else
  if sgn3 a b c then some (-(r : Int)) else some r

/-- The greatest whose square isn't above, bit by bit. -/
def isqB (N : Nat) : Nat → Nat → Nat
  | 0, r => r
  | k + 1, r => isqB N k (if (r + 2 ^ k) * (r + 2 ^ k) ≤ N then r + 2 ^ k else r)
def isq (N : Nat) : Nat := isqB N 64 0

/-- A size, where it is a number. -/
def upTo (r : Nat) : Option Int := if r > 4611686018427387904 then none else some r
def add (a b : Int) (bad : Bool) : Int × Bool := lift bad [a, b] (if okn (a + b) then some (a + b) else none)
def sub (a b : Int) (bad : Bool) : Int × Bool := lift bad [a, b] (if okn (a - b) then some (a - b) else none)
def mul (a b : Int) (bad : Bool) : Int × Bool := lift bad [a, b] (rat a b 1099511627776)
def div (a b : Int) (bad : Bool) : Int × Bool := lift bad [a, b] (rat a 1099511627776 b)
def part (a p q : Int) (bad : Bool) : Int × Bool := lift bad [a, p, q] (rat a p q)
def sqrt (a : Int) (bad : Bool) : Int × Bool := lift bad [a] (if a < 0 then none else some (isq (a.toNat * 1099511627776)))
def norm (a b c : Int) (bad : Bool) : Int × Bool := lift bad [a, b, c] (upTo (isq (a.natAbs * a.natAbs + b.natAbs * b.natAbs + c.natAbs * c.natAbs)))
def mod (a m : Int) (bad : Bool) : Int × Bool := lift bad [a, m] (if m ≤ 0 then none else some (a % m))

/-! ### Roots -/
theorem isqB_ok (N : Nat) : ∀ (k r : Nat), r * r ≤ N → N < (r + 2 ^ k) * (r + 2 ^ k) → isqB N k r * isqB N k r ≤ N ∧ N < (isqB N k r + 1) * (isqB N k r + 1)
  | 0, r, h1, h2 => by simpa [isqB] using ⟨h1, h2⟩
  | k + 1, r, h1, h2 => by
    unfold isqB
    split
    · rename_i h
      refine isqB_ok N k _ h ?_
      have e : r + 2 ^ k + 2 ^ k = r + 2 ^ (k + 1) := by rw [Nat.pow_succ]; omega
      rw [e]; exact h2
    · rename_i h
      exact isqB_ok N k r h1 (by omega)
theorem isq_ok {N : Nat} (h : N < 2 ^ 128) : isq N * isq N ≤ N ∧ N < (isq N + 1) * (isq N + 1) := by
  refine isqB_ok N 64 0 (by simp) ?_
  have : (0 + 2 ^ 64) * (0 + 2 ^ 64) = 2 ^ 128 := by rw [Nat.zero_add, ← Nat.pow_add]
  rw [this]; exact h
theorem isq_unique {N r s : Nat} (h1 : r * r ≤ N) (h2 : N < (r + 1) * (r + 1)) (h3 : s * s ≤ N) (h4 : N < (s + 1) * (s + 1)) : r = s := by
  rcases Nat.lt_trichotomy r s with h | h | h
  · have : (r + 1) * (r + 1) ≤ s * s := Nat.mul_self_le_mul_self h
    omega
  · exact h
  · have : (s + 1) * (s + 1) ≤ r * r := Nat.mul_self_le_mul_self h
    omega
/-- A search bit by bit, from any bit on that is high enough, comes to the root. -/
theorem isqB_isq {N k r : Nat} (h : N < 2 ^ 128) (h1 : r * r ≤ N) (h2 : N < (r + 2 ^ k) * (r + 2 ^ k)) : isqB N k r = isq N := by
  obtain ⟨a1, a2⟩ := isqB_ok N k r h1 h2
  obtain ⟨b1, b2⟩ := isq_ok h
  exact isq_unique a1 a2 b1 b2

end Go.Proofs.Ytlkclpkpggapbaa.Fx
