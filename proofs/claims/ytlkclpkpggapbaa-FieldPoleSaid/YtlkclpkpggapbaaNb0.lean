/- Operations on numbers whose sizes are known: they are there, and how near. Conditions: as each says. -/
import Derived.Test.YtlkclpkpggapbaaNs2
import Derived.Test.YtlkclpkpggapbaaNx3
namespace Go.Proofs.Ytlkclpkpggapbaa.Ns
open Go Go.Proofs.Ytlkclpkpggapbaa.Ae Go.Proofs.Ytlkclpkpggapbaa.Fx Go.Proofs.Ytlkclpkpggapbaa.Tx Go.Proofs.Ytlkclpkpggapbaa.Nx

/-- Between -K and K. -/
def Bd (K n : Int) : Prop := -K ≤ n ∧ n ≤ K
theorem Bd.mul {a b A B : Int} (h1 : Bd A a) (h2 : Bd B b) : Bd (A * B) (a * b) := Ns.mul_le' h1 h2
theorem Bd.mono {A B n : Int} (h : Bd A n) (hAB : A ≤ B) : Bd B n := ⟨by have := h.1; omega, by have := h.2; omega⟩
theorem Bd.ok {A n : Int} (h : Bd A n) (hA : A ≤ 4611686018427387904) : okn n = true := okn_of ⟨by have := h.1; omega, by have := h.2; omega⟩
theorem Bd.add {A B m n : Int} (h : Bd A m) (h' : Bd B n) : Bd (A + B) (m + n) := ⟨by have := h.1; have := h'.1; omega, by have := h.2; have := h'.2; omega⟩
theorem Bd.sub {A B m n : Int} (h : Bd A m) (h' : Bd B n) : Bd (A + B) (m - n) := ⟨by have := h.1; have := h'.2; omega, by have := h.2; have := h'.1; omega⟩
theorem Bd.neg {A n : Int} (h : Bd A n) : Bd A (-n) := ⟨by have := h.2; omega, by have := h.1; omega⟩
theorem mul_b {a b : Int} (A B R : Int) (ha : Bd A a) (hb : Bd B b) (hR : (decide (A ≤ 4611686018427387904) && (decide (B ≤ 4611686018427387904) && (decide (A * B < 4611686018427387904 * 1099511627776) && decide (2 * (A * B) + 1099511627776 < 2 * ((R + 1) * 1099511627776))))) = true) :
    ∃ r, mul a b false = (r, false) ∧ Bd R r ∧ Bd 1099511627776 (2 * (r * 1099511627776 - a * b)) := by
  simp only [Bool.and_eq_true, decide_eq_true_eq] at hR
  obtain ⟨h1, h2, h3, h4⟩ := hR
  obtain ⟨r, hr, r1, r2⟩ := mul_is ha hb h1 h2 h3
  have hab := ha.mul hb
  generalize a * b = p at *
  generalize A * B = P at *
  refine ⟨r, hr, ⟨?_, ?_⟩, ⟨by omega, r1⟩⟩
  · unfold Bd at hab; omega
  · unfold Bd at hab; omega
theorem add_b {a b : Int} (A B : Int) (ha : Bd A a) (hb : Bd B b) (h : decide (A + B ≤ 4611686018427387904) = true) : add a b false = (a + b, false) := by
  have h := of_decide_eq_true h
  unfold Bd at ha hb
  exact add_is (by omega) (by omega) (by omega)
theorem sub_b {a b : Int} (A B : Int) (ha : Bd A a) (hb : Bd B b) (h : decide (A + B ≤ 4611686018427387904) = true) : sub a b false = (a - b, false) := by
  have h := of_decide_eq_true h
  unfold Bd at ha hb
  exact sub_is (by omega) (by omega) (by omega)
/-- A part, of numbers whose sizes are known. -/
theorem part_is {a p q : Int} (A P : Int) (ha : Bd A a) (hp : Bd P p) (hA : A ≤ 4611686018427387904) (hP : P ≤ 4611686018427387904) (hq : 0 < q ∧ q ≤ 4611686018427387904) (h : A * P < 4611686018427387904 * q) :
    ∃ r, Fx.part a p q false = (r, false) ∧ Bd q (2 * (r * q - a * p)) := by
  have hab := ha.mul hp
  obtain ⟨r, hr⟩ := rat_some (a := a) (b := p) (c := q) (by omega) (by
    have e : (q.natAbs : Int) = q := by omega
    unfold Bd at hab
    omega)
  obtain ⟨-, s1, s2, -, -⟩ := rat_spec hr
  have e : (q.natAbs : Int) = q := by omega
  rw [e] at s1 s2
  refine ⟨r, ?_, ⟨by omega, by omega⟩⟩
  unfold Fx.part
  rw [lift3 (ha.ok hA) (hp.ok hP) (okn_of (by omega)), hr]; rfl
/-- A quotient, of numbers whose sizes are known. -/
theorem div_is {a q : Int} (A : Int) (ha : Bd A a) (hA : A ≤ 4611686018427387904) (hq : 0 < q ∧ q ≤ 4611686018427387904) (h : A * 1099511627776 < 4611686018427387904 * q) :
    ∃ r, div a q false = (r, false) ∧ Bd q (2 * (r * q - a * 1099511627776)) := by
  have hab := ha.mul (show Bd 1099511627776 1099511627776 from ⟨by decide, by decide⟩)
  obtain ⟨r, hr⟩ := rat_some (a := a) (b := 1099511627776) (c := q) (by omega) (by
    have e : (q.natAbs : Int) = q := by omega
    unfold Bd at hab
    omega)
  obtain ⟨-, s1, s2, -, -⟩ := rat_spec hr
  have e : (q.natAbs : Int) = q := by omega
  rw [e] at s1 s2
  refine ⟨r, ?_, ⟨by omega, by omega⟩⟩
  unfold Fx.div
  rw [lift2 (ha.ok hA) (okn_of (by omega)), hr]; rfl
/-- A length, of numbers whose sizes are known. -/
theorem norm_is {a b c : Int} (A : Int) (ha : Bd A a) (hb : Bd A b) (hc : Bd A c) (hA : A ≤ 2305843009213693952) :
    ∃ n : Int, norm a b c false = (n, false) ∧ 0 ≤ n ∧ n ≤ 4611686018427387904 ∧ n * n ≤ a * a + b * b + c * c ∧ a * a + b * b + c * c < (n + 1) * (n + 1) := by
  have sa := sq_le (show -2305843009213693952 ≤ a ∧ a ≤ 2305843009213693952 from ha.mono hA)
  have sb := sq_le (show -2305843009213693952 ≤ b ∧ b ≤ 2305843009213693952 from hb.mono hA)
  have sc := sq_le (show -2305843009213693952 ≤ c ∧ c ≤ 2305843009213693952 from hc.mono hA)
  have h : (norm a b c false).2 = false := by
    unfold norm
    rw [lift3 (ha.ok (by omega)) (hb.ok (by omega)) (hc.ok (by omega))]
    have ea := sq_abs a
    have eb := sq_abs b
    have ec := sq_abs c
    generalize a.natAbs * a.natAbs = x at *
    generalize b.natAbs * b.natAbs = y at *
    generalize c.natAbs * c.natAbs = z at *
    have hN : x + y + z < 2 ^ 128 := by omega
    obtain ⟨q1, q2⟩ := isq_ok hN
    unfold upTo
    split
    · rename_i hgt
      have := Nat.mul_self_le_mul_self (show 4611686018427387905 ≤ isq (x + y + z) by omega)
      omega
    · rfl
  obtain ⟨-, n, h1, h2, h3, h4, h5⟩ := norm_got h
  exact ⟨n, h1, h2, h3, h4, h5⟩
theorem sqrt_is {a : Int} (h : 0 ≤ a ∧ a ≤ 4611686018427387904) : ∃ r : Int, sqrt a false = (r, false) ∧ 0 ≤ r ∧ r * r ≤ a * 1099511627776 ∧ a * 1099511627776 < (r + 1) * (r + 1) := by
  have hN : a.toNat * 1099511627776 < 2 ^ 128 := by omega
  obtain ⟨q1, q2⟩ := isq_ok hN
  refine ⟨(isq (a.toNat * 1099511627776) : Nat), ?_, by omega, ?_, ?_⟩
  · unfold sqrt
    rw [lift1 (okn_of (by omega)), if_neg (by omega)]; rfl
  · have e : ((isq (a.toNat * 1099511627776) : Nat) : Int) * ((isq (a.toNat * 1099511627776) : Nat) : Int) = ((isq (a.toNat * 1099511627776) * isq (a.toNat * 1099511627776) : Nat) : Int) := (Int.natCast_mul _ _).symm
    rw [e]; omega
  · have e : (((isq (a.toNat * 1099511627776) : Nat) : Int) + 1) * (((isq (a.toNat * 1099511627776) : Nat) : Int) + 1) = (((isq (a.toNat * 1099511627776) + 1) * (isq (a.toNat * 1099511627776) + 1) : Nat) : Int) := by rw [Int.natCast_mul]; simp
    rw [e]; omega
theorem lt_of_sq {a b : Int} (ha : 0 ≤ b) (h : a * a ≤ b * b) : a ≤ b := by
  refine Int.not_lt.1 fun hn => ?_
  have : (b + 1) * (b + 1) ≤ a * a := Int.mul_le_mul (by omega) (by omega) (by omega) (by omega)
  grind
#print axioms norm_is
end Go.Proofs.Ytlkclpkpggapbaa.Ns
