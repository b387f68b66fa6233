/- Polynomials of two numbers, with numbers for coefficients: what they come to, and how great that may be, told by their coefficients. Conditions: none. -/
import Derived.Test.YtkghoaggicnmoaaFxN
namespace Go.Proofs.Ytkghoaggicnmoaa.Np
open Go

/-- Of one number. -/
def ev : List Int → Int → Int
  | [], _ => 0
  | c :: p, y => c + y * ev p y
def padd : List Int → List Int → List Int
  | [], q => q
  | p, [] => p
  | c :: p, d :: q => (c + d) :: padd p q
def pscl (k : Int) : List Int → List Int
  | [] => []
  | c :: p => (k * c) :: pscl k p
def pmul : List Int → List Int → List Int
  | [], _ => []
  | c :: p, q => padd (pscl c q) (0 :: pmul p q)
theorem ev_add (y : Int) : ∀ p q, ev (padd p q) y = ev p y + ev q y
  | [], q => by simp [padd, ev]
  | c :: p, [] => by simp [padd, ev]
  | c :: p, d :: q => by simp only [padd, ev, ev_add y p q, Int.mul_add]; omega
theorem ev_scl (y k : Int) : ∀ p, ev (pscl k p) y = k * ev p y
  | [] => by simp [pscl, ev]
  | c :: p => by simp only [pscl, ev, ev_scl y k p, Int.mul_add, Int.mul_left_comm y k]
theorem ev_mul (y : Int) : ∀ p q, ev (pmul p q) y = ev p y * ev q y
  | [], q => by simp [pmul, ev]
  | c :: p, q => by simp only [pmul, ev_add, ev_scl, ev, ev_mul y p q, Int.add_mul, Int.mul_assoc, Int.zero_add]
def bnd : List Int → Int → Int
  | [], _ => 0
  | c :: p, Y => (c.natAbs : Int) + Y * bnd p Y
theorem bnd_nonneg {Y : Int} (hY : 0 ≤ Y) : ∀ p, 0 ≤ bnd p Y
  | [] => by simp [bnd]
  | c :: p => by
    have := Int.mul_nonneg hY (bnd_nonneg hY p)
    simp only [bnd]; omega
theorem mul_le' {a b A B : Int} (h1 : -A ≤ a ∧ a ≤ A) (h2 : -B ≤ b ∧ b ≤ B) : -(A * B) ≤ a * b ∧ a * b ≤ A * B := by
  have key : (a * b).natAbs ≤ (A * B).natAbs := by
    rw [Int.natAbs_mul, Int.natAbs_mul]
    exact Nat.mul_le_mul (by omega) (by omega)
  have : 0 ≤ A * B := Int.mul_nonneg (by omega) (by omega)
  omega
theorem ev_bnd {y Y : Int} (hy : -Y ≤ y ∧ y ≤ Y) : ∀ p, -(bnd p Y) ≤ ev p y ∧ ev p y ≤ bnd p Y
  | [] => by simp [ev, bnd]
  | c :: p => by
    have := mul_le' hy (ev_bnd hy p)
    simp only [ev, bnd]; omega

/-! ### Of two -/
def ev2 : List (List Int) → Int → Int → Int
  | [], _, _ => 0
  | c :: p, x, y => ev c y + x * ev2 p x y
def qadd : List (List Int) → List (List Int) → List (List Int)
  | [], q => q
  | p, [] => p
  | c :: p, d :: q => padd c d :: qadd p q
def qscl (k : List Int) : List (List Int) → List (List Int)
  | [] => []
  | c :: p => pmul k c :: qscl k p
def qmul : List (List Int) → List (List Int) → List (List Int)
  | [], _ => []
  | c :: p, q => qadd (qscl c q) ([] :: qmul p q)
theorem ev2_add (x y : Int) : ∀ p q, ev2 (qadd p q) x y = ev2 p x y + ev2 q x y
  | [], q => by simp [qadd, ev2]
  | c :: p, [] => by simp [qadd, ev2]
  | c :: p, d :: q => by simp only [qadd, ev2, ev_add, ev2_add x y p q, Int.mul_add]; omega
theorem ev2_scl (x y : Int) (k : List Int) : ∀ p, ev2 (qscl k p) x y = ev k y * ev2 p x y
  | [] => by simp [qscl, ev2]
  | c :: p => by simp only [qscl, ev2, ev_mul, ev2_scl x y k p, Int.mul_add, Int.mul_left_comm x]
theorem ev2_mul (x y : Int) : ∀ p q, ev2 (qmul p q) x y = ev2 p x y * ev2 q x y
  | [], q => by simp [qmul, ev2]
  | c :: p, q => by simp only [qmul, ev2_add, ev2_scl, ev2, ev, ev2_mul x y p q, Int.add_mul, Int.mul_assoc, Int.zero_add]
def bnd2 : List (List Int) → Int → Int → Int
  | [], _, _ => 0
  | c :: p, X, Y => bnd c Y + X * bnd2 p X Y
theorem ev2_bnd {x y X Y : Int} (hx : -X ≤ x ∧ x ≤ X) (hy : -Y ≤ y ∧ y ≤ Y) : ∀ p, -(bnd2 p X Y) ≤ ev2 p x y ∧ ev2 p x y ≤ bnd2 p X Y
  | [] => by simp [ev2, bnd2]
  | c :: p => by
    have h1 := mul_le' hx (ev2_bnd hx hy p)
    have h2 := ev_bnd hy c
    simp only [ev2, bnd2]; omega

/-! ### Terms -/
inductive E where
  | x | y
  | c (n : Int)
  | add (a b : E)
  | sub (a b : E)
  | mul (a b : E)
def E.at (x y : Int) : E → Int
  | .x => x
  | .y => y
  | .c n => n
  | .add a b => a.at x y + b.at x y
  | .sub a b => a.at x y - b.at x y
  | .mul a b => a.at x y * b.at x y
def E.nf : E → List (List Int)
  | .x => [[], [1]]
  | .y => [[0, 1]]
  | .c n => [[n]]
  | .add a b => qadd a.nf b.nf
  | .sub a b => qadd a.nf (qscl [-1] b.nf)
  | .mul a b => qmul a.nf b.nf
theorem E.nf_at (x y : Int) : ∀ e : E, ev2 e.nf x y = e.at x y
  | .x => by simp [E.nf, E.at, ev2, ev]
  | .y => by simp [E.nf, E.at, ev2, ev]
  | .c n => by simp [E.nf, E.at, ev2, ev]
  | .add a b => by simp only [E.nf, E.at, ev2_add, E.nf_at x y a, E.nf_at x y b]
  | .sub a b => by
    have h : ev [-1] y = -1 := by simp [ev]
    simp only [E.nf, E.at, ev2_add, ev2_scl, E.nf_at x y a, E.nf_at x y b, h]; omega
  | .mul a b => by simp only [E.nf, E.at, ev2_mul, E.nf_at x y a, E.nf_at x y b]
/-- A term is small, told by its coefficients. -/
theorem E.small (e : E) {x y X Y K : Int} (hx : -X ≤ x ∧ x ≤ X) (hy : -Y ≤ y ∧ y ≤ Y) (h : decide (bnd2 e.nf X Y ≤ K) = true) : -K ≤ e.at x y ∧ e.at x y ≤ K := by
  have := ev2_bnd hx hy e.nf
  rw [E.nf_at] at this
  have := of_decide_eq_true h
  omega
#print axioms E.small
end Go.Proofs.Ytkghoaggicnmoaa.Np
