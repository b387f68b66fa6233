/- Plain facts on lengths and directions. Conditions: none. -/
import Derived.Test.YtgaanfacjjppcaaNx1
import Derived.Test.YtgaanfacjjppcaaVe1
namespace Go.Proofs.Ytgaanfacjjppcaa.Nx
open Go Go.Proofs.Ytgaanfacjjppcaa.Ae Go.Proofs.Ytgaanfacjjppcaa.Fx Go.Proofs.Ytgaanfacjjppcaa.Ve

/-- An answer that is there. -/
theorem lift_got {bad : Bool} {l : List Int} {o : Option Int} (h : (lift bad l o).2 = false) : bad = false ∧ (∀ n ∈ l, okn n = true) ∧ ∃ r, o = some r ∧ lift bad l o = (r, false) := by
  unfold lift at h ⊢
  split at h
  · cases h
  · rename_i hn
    rw [if_neg hn]
    simp only [Bool.or_eq_true, not_or, Bool.not_eq_true, List.any_eq_false] at hn
    obtain ⟨h1, h2⟩ := hn
    cases o with
    | none => cases h
    | some r => exact ⟨h1, fun n hn => by simpa using h2 n hn, r, rfl, rfl⟩
theorem mul_abs {a b A B : Int} (h1 : -A ≤ a ∧ a ≤ A) (h2 : -B ≤ b ∧ b ≤ B) : -(A * B) ≤ a * b ∧ a * b ≤ A * B := by
  have hA : 0 ≤ A := by omega
  have hB : 0 ≤ B := by omega
  have key : (a * b).natAbs ≤ (A * B).natAbs := by
    rw [Int.natAbs_mul, Int.natAbs_mul]
    exact Nat.mul_le_mul (by omega) (by omega)
  have : 0 ≤ A * B := Int.mul_nonneg hA hB
  omega
theorem sq_abs (a : Int) : ((a.natAbs * a.natAbs : Nat) : Int) = a * a := Int.natAbs_mul_self
theorem sq_nonneg (a : Int) : 0 ≤ a * a := by rw [← sq_abs]; omega
theorem sq_le {a A : Int} (h : -A ≤ a ∧ a ≤ A) : a * a ≤ A * A := (mul_abs h h).2
theorem le_of_sq {a n : Int} (hn : 0 ≤ n) (h : a * a ≤ n * n) : -n ≤ a ∧ a ≤ n := by
  have : a.natAbs * a.natAbs ≤ n.natAbs * n.natAbs := by
    have h1 := sq_abs a
    have h2 := sq_abs n
    omega
  have := Nat.mul_self_le_mul_self_iff.1 this
  omega
/-- A length that is there. -/
theorem norm_got {a b c : Int} {bad : Bool} (h : (norm a b c bad).2 = false) : bad = false ∧ ∃ n : Int, norm a b c bad = (n, false) ∧ 0 ≤ n ∧ n ≤ 4611686018427387904 ∧ n * n ≤ a * a + b * b + c * c ∧ a * a + b * b + c * c < (n + 1) * (n + 1) := by
  unfold norm at h ⊢
  obtain ⟨h1, h2, r, h3, h4⟩ := lift_got h
  have ha := okn_iff'.1 (h2 a (by simp))
  have hb := okn_iff'.1 (h2 b (by simp))
  have hc := okn_iff'.1 (h2 c (by simp))
  refine ⟨h1, r, h4, ?_⟩
  unfold upTo at h3
  split at h3
  · cases h3
  · rename_i hle
    cases h3
    have sa := Nat.mul_self_le_mul_self (show a.natAbs ≤ 4611686018427387904 by omega)
    have sb := Nat.mul_self_le_mul_self (show b.natAbs ≤ 4611686018427387904 by omega)
    have sc := Nat.mul_self_le_mul_self (show c.natAbs ≤ 4611686018427387904 by omega)
    have hN : a.natAbs * a.natAbs + b.natAbs * b.natAbs + c.natAbs * c.natAbs < 2 ^ 128 := by omega
    obtain ⟨q1, q2⟩ := isq_ok hN
    generalize hr : isq (a.natAbs * a.natAbs + b.natAbs * b.natAbs + c.natAbs * c.natAbs) = r at *
    rw [← sq_abs a, ← sq_abs b, ← sq_abs c]
    generalize a.natAbs * a.natAbs = A at *
    generalize b.natAbs * b.natAbs = B at *
    generalize c.natAbs * c.natAbs = C at *
    have e1 : (r : Int) * (r : Int) = ((r * r : Nat) : Int) := (Int.natCast_mul r r).symm
    have e2 : ((r : Int) + 1) * ((r : Int) + 1) = (((r + 1) * (r + 1) : Nat) : Int) := by rw [Int.natCast_mul]; simp
    rw [e1, e2]
    generalize r * r = R at *
    generalize (r + 1) * (r + 1) = R1 at *
    omega
/-- A direction that is there: by its length n, of 2^20 at least, but for halves. -/
theorem unit_got {v : V3} {bad : Bool} (h : (unit v bad).2 = false) : bad = false ∧ ∃ n x y z : Int, unit v bad = (⟨x, y, z⟩, false) ∧ 1048576 ≤ n ∧ n ≤ 4611686018427387904 ∧ n * n ≤ v.x * v.x + v.y * v.y + v.z * v.z ∧ v.x * v.x + v.y * v.y + v.z * v.z < (n + 1) * (n + 1) ∧
    (-n ≤ 2 * (x * n - v.x * 1099511627776) ∧ 2 * (x * n - v.x * 1099511627776) ≤ n) ∧ (-n ≤ 2 * (y * n - v.y * 1099511627776) ∧ 2 * (y * n - v.y * 1099511627776) ≤ n) ∧ (-n ≤ 2 * (z * n - v.z * 1099511627776) ∧ 2 * (z * n - v.z * 1099511627776) ≤ n) := by
  unfold unit unitG at h ⊢
  dsimp only at h ⊢
  generalize hb0 : (bif decide ((norm v.x v.y v.z bad).1 < 1048576) then true else (norm v.x v.y v.z bad).2) = b0 at *
  cases hz : (div v.z (norm v.x v.y v.z bad).1 (div v.y (norm v.x v.y v.z bad).1 (div v.x (norm v.x v.y v.z bad).1 b0).2).2).2 with
  | true => rw [hz] at h; cases h
  | false =>
    obtain ⟨g1, -, z, hz1, hz2⟩ := lift_got hz
    obtain ⟨g2, -, y, hy1, hy2⟩ := lift_got g1
    obtain ⟨g3, -, x, hx1, hx2⟩ := lift_got g2
    have hn : ¬ (norm v.x v.y v.z bad).1 < 1048576 := fun hlt => by
      rw [decide_eq_true hlt] at hb0; simp only [cond_true] at hb0; rw [← hb0] at g3; cases g3
    rw [decide_eq_false hn] at hb0
    simp only [cond_false] at hb0
    rw [← hb0] at g3
    obtain ⟨e0, n, e1, n0, n1, n2, n3⟩ := norm_got g3
    refine ⟨e0, n, x, y, z, ?_⟩
    have ex : div v.x (norm v.x v.y v.z bad).1 b0 = (x, false) := hx2
    have ey : div v.y (norm v.x v.y v.z bad).1 (div v.x (norm v.x v.y v.z bad).1 b0).2 = (y, false) := hy2
    have ez : div v.z (norm v.x v.y v.z bad).1 (div v.y (norm v.x v.y v.z bad).1 (div v.x (norm v.x v.y v.z bad).1 b0).2).2 = (z, false) := hz2
    rw [ez, ey, ex]
    rw [e1] at hn hx1 hy1 hz1
    dsimp only at hn hx1 hy1 hz1
    obtain ⟨-, x1, x2, -, -⟩ := rat_spec hx1
    obtain ⟨-, y1, y2, -, -⟩ := rat_spec hy1
    obtain ⟨-, z1, z2, -, -⟩ := rat_spec hz1
    exact ⟨rfl, by omega, n1, n2, n3, ⟨by omega, by omega⟩, ⟨by omega, by omega⟩, ⟨by omega, by omega⟩⟩
/-- The squares of a direction's parts. -/
theorem unit_sq {a b c n x y z : Int} (hn : 1048576 ≤ n) (h1 : n * n ≤ a * a + b * b + c * c) (h2 : a * a + b * b + c * c < (n + 1) * (n + 1))
    (hx : -n ≤ 2 * (x * n - a * 1099511627776) ∧ 2 * (x * n - a * 1099511627776) ≤ n) (hy : -n ≤ 2 * (y * n - b * 1099511627776) ∧ 2 * (y * n - b * 1099511627776) ≤ n) (hz : -n ≤ 2 * (z * n - c * 1099511627776) ∧ 2 * (z * n - c * 1099511627776) ≤ n) :
    x * x + y * y + z * z ≤ 1208925819614629174706176 + 4 * 1099511627776 + 2305843009213693952 ∧ 1208925819614629174706176 - 4 * 1099511627776 ≤ x * x + y * y + z * z := by
  have hS : a * a + b * b + c * c ≤ n * n + 2 * n := by
    have : (n + 1) * (n + 1) = n * n + 2 * n + 1 := by rw [Int.add_mul, Int.mul_add]; omega
    omega
  have ha : -(n + 1) ≤ a ∧ a ≤ n + 1 := le_of_sq (by omega) (by have := sq_nonneg b; have := sq_nonneg c; omega)
  have hb : -(n + 1) ≤ b ∧ b ≤ n + 1 := le_of_sq (by omega) (by have := sq_nonneg a; have := sq_nonneg c; omega)
  have hc : -(n + 1) ≤ c ∧ c ≤ n + 1 := le_of_sq (by omega) (by have := sq_nonneg a; have := sq_nonneg b; omega)
  have part : ∀ {a x : Int}, (-(n + 1) ≤ a ∧ a ≤ n + 1) → (-n ≤ 2 * (x * n - a * 1099511627776) ∧ 2 * (x * n - a * 1099511627776) ≤ n) →
      4 * (x * x * (n * n)) ≤ 4 * 1208925819614629174706176 * (a * a) + 4 * 1099511627776 * (n * n + n) + n * n ∧ 4 * 1208925819614629174706176 * (a * a) - 4 * 1099511627776 * (n * n + n) ≤ 4 * (x * x * (n * n)) := by
    intro a x ha hx
    generalize he : 2 * (x * n - a * 1099511627776) = e at hx
    have e1 : 2 * (x * n) = 2199023255552 * a + e := by omega
    have e2 : (2 * (x * n)) * (2 * (x * n)) = 4 * (x * x * (n * n)) := by
      have : 2 * (x * n) * (2 * (x * n)) = 4 * ((x * n) * (x * n)) := by rw [Int.mul_assoc, Int.mul_left_comm (x * n) 2, ← Int.mul_assoc 2 2]; rfl
      rw [this, Int.mul_assoc x n, Int.mul_left_comm n x n, ← Int.mul_assoc x x]
    have e3 : (2199023255552 * a + e) * (2199023255552 * a + e) = 4 * 1208925819614629174706176 * (a * a) + 4398046511104 * (a * e) + e * e := by
      have m1 : (2199023255552 * a) * (2199023255552 * a) = 4 * 1208925819614629174706176 * (a * a) := by rw [Int.mul_assoc, Int.mul_left_comm a, ← Int.mul_assoc]; rfl
      have m2 : (2199023255552 * a) * e = 2199023255552 * (a * e) := Int.mul_assoc ..
      have m3 : e * (2199023255552 * a) = 2199023255552 * (a * e) := by rw [Int.mul_left_comm, Int.mul_comm e a]
      rw [Int.add_mul, Int.mul_add, Int.mul_add, m1, m2, m3]; omega
    have b1 := mul_abs ha hx
    have b2 := sq_le hx
    have b3 := sq_nonneg e
    have e4 : (n + 1) * n = n * n + n := by rw [Int.add_mul]; omega
    rw [e4] at b1
    rw [e1, e3] at e2
    generalize x * x * (n * n) = X at *
    generalize a * a = A at *
    generalize a * e = Q at *
    generalize e * e = E at *
    generalize n * n = N at *
    omega
  obtain ⟨x1, x2⟩ := part ha hx
  obtain ⟨y1, y2⟩ := part hb hy
  obtain ⟨z1, z2⟩ := part hc hz
  have hnn : 1048576 * n ≤ n * n := Int.mul_le_mul_of_nonneg_right hn (by omega)
  have hpos : 0 < n * n := Int.mul_pos (by omega) (by omega)
  have sum : (x * x + y * y + z * z) * (n * n) = x * x * (n * n) + y * y * (n * n) + z * z * (n * n) := by rw [Int.add_mul, Int.add_mul]
  generalize x * x * (n * n) = X at *
  generalize y * y * (n * n) = Y at *
  generalize z * z * (n * n) = Z at *
  generalize x * x + y * y + z * z = T at *
  generalize a * a = A at *
  generalize b * b = B at *
  generalize c * c = C at *
  constructor
  · refine Int.le_of_mul_le_mul_right (a := n * n) ?_ hpos
    rw [sum]
    generalize n * n = N at *
    omega
  · refine Int.le_of_mul_le_mul_right (a := n * n) ?_ hpos
    rw [sum]
    generalize n * n = N at *
    omega
/-- The square of what is left of a number without its last 20 bits. -/
theorem sq20_near {x q Q : Int} (hq : q = x / 1048576) (h : -Q ≤ q ∧ q ≤ Q) : x * x - 1099511627776 * (q * q) ≤ 2199023255552 * Q + 1099511627776 ∧ -(2199023255552 * Q + 1099511627776) ≤ x * x - 1099511627776 * (q * q) := by
  have h1 := Int.emod_add_mul_ediv x 1048576
  have h2 := Int.emod_nonneg x (show (1048576 : Int) ≠ 0 by decide)
  have h3 := Int.emod_lt_of_pos x (show (0 : Int) < 1048576 by decide)
  rw [← hq] at h1
  generalize x % 1048576 = r at *
  have e : x * x = 1099511627776 * (q * q) + r * (2097152 * q + r) := by
    rw [← h1]
    have m1 : (1048576 * q) * (1048576 * q) = 1099511627776 * (q * q) := by rw [Int.mul_assoc, Int.mul_left_comm q, ← Int.mul_assoc]; rfl
    have m2 : r * (2097152 * q + r) = 2097152 * (r * q) + r * r := by rw [Int.mul_add, Int.mul_left_comm]
    have m3 : r * (1048576 * q) = 1048576 * (r * q) := Int.mul_left_comm ..
    have m4 : (1048576 * q) * r = 1048576 * (r * q) := by rw [Int.mul_assoc, Int.mul_comm q r]
    rw [Int.add_mul, Int.mul_add, Int.mul_add, m1, m2, m3, m4]; omega
  have b := mul_abs (a := r) (b := 2097152 * q + r) (A := 1048576) (B := 2097152 * Q + 1048576) ⟨by omega, by omega⟩ ⟨by omega, by omega⟩
  generalize r * (2097152 * q + r) = P at *
  generalize q * q = S at *
  rw [e]
  omega
#print axioms unit_sq
end Go.Proofs.Ytgaanfacjjppcaa.Nx
