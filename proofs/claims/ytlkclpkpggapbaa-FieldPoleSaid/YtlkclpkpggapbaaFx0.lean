/- Plain facts on words of 64 bits: products, lengths, quotients, roots. Conditions: the numbers are words. -/
import Derived.Test.YtlkclpkpggapbaaAe1
namespace Go.Proofs.Ytlkclpkpggapbaa.Fx
open Go Go.Proofs.Ytlkclpkpggapbaa.Ae

/-! ### Bits -/
theorem ofInt_toNat {x : Int} (h0 : 0 ≤ x) (h1 : x < 18446744073709551616) : (BitVec.ofInt 64 x).toNat = x.toNat := by
  rw [BitVec.toNat_ofInt]
  have : x % ((2 ^ 64 : Nat) : Int) = x := Int.emod_eq_of_lt h0 (by simpa using h1)
  rw [this]

theorem wr_u64 (n : Int) : wr .u64 n = n % 18446744073709551616 := by simp only [wr]
theorem wr_i64 (n : Int) : wr .i64 n = (n + 9223372036854775808) % 18446744073709551616 - 9223372036854775808 := by simp only [wr, w64]
/-- An integer of its kind stays as it is. -/
theorem w64_in {n : Int} (h0 : -9223372036854775808 ≤ n) (h1 : n < 9223372036854775808) : wr .i64 n = n := by rw [wr_i64]; omega
theorem wu64_in {n : Int} (h0 : 0 ≤ n) (h1 : n < 18446744073709551616) : wr .u64 n = n := by rw [wr_u64]; omega

theorem bor_eq {x y : Int} (hx : 0 ≤ x) (hx1 : x < 18446744073709551616) (hy : 0 ≤ y) (hy1 : y < 18446744073709551616) : bor .u64 x y = ((x.toNat ||| y.toNat : Nat) : Int) := by
  unfold bor
  rw [wr_eq, wr_u64]
  show ((BitVec.ofInt 64 x ||| BitVec.ofInt 64 y).toNat : Int) % _ = _
  rw [BitVec.toNat_or, ofInt_toNat hx hx1, ofInt_toNat hy hy1]
  apply Int.emod_eq_of_lt (Int.natCast_nonneg _)
  have := Nat.or_lt_two_pow (x := x.toNat) (y := y.toNat) (n := 64) (by omega) (by omega)
  omega

theorem band_eq {x y : Int} (hx : 0 ≤ x) (hx1 : x < 18446744073709551616) (hy : 0 ≤ y) (hy1 : y < 18446744073709551616) : band .u64 x y = ((x.toNat &&& y.toNat : Nat) : Int) := by
  unfold band
  rw [wr_eq, wr_u64]
  show ((BitVec.ofInt 64 x &&& BitVec.ofInt 64 y).toNat : Int) % _ = _
  rw [BitVec.toNat_and, ofInt_toNat hx hx1, ofInt_toNat hy hy1]
  apply Int.emod_eq_of_lt (Int.natCast_nonneg _)
  have := Nat.and_lt_two_pow (n := 64) x.toNat (y := y.toNat) (by omega)
  omega

theorem band32 {x : Int} (hx : 0 ≤ x) (hx1 : x < 18446744073709551616) : band .u64 x 4294967295 = x % 4294967296 := by
  rw [band_eq hx hx1 (by omega) (by omega)]
  have : ((4294967295 : Int).toNat) = 2 ^ 32 - 1 := by decide
  rw [this, Nat.and_two_pow_sub_one_eq_mod]
  omega

/-- a multiple of 2^i beside something smaller. -/
theorem or_add {a b i : Nat} (h : b < 2 ^ i) : 2 ^ i * a ||| b = 2 ^ i * a + b := (Nat.two_pow_add_eq_or_of_lt h a).symm

/-! ### Products of 128 bits -/
def mulHi (x y : Int) : Int :=
  let x0 := band .u64 x 4294967295
  let x1 := x / 4294967296
  let y0 := band .u64 y 4294967295
  let y1 := y / 4294967296
  let w0 := wr .u64 (x0 * y0)
  let t := wr .u64 (wr .u64 (x1 * y0) + w0 / 4294967296)
  let w1 := band .u64 t 4294967295
  let w2 := t / 4294967296
  let w1 := wr .u64 (w1 + wr .u64 (x0 * y1))
  wr .u64 (wr .u64 (wr .u64 (x1 * y1) + w2) + w1 / 4294967296)

theorem mul_lt {a b : Int} (ha : 0 ≤ a) (ha1 : a ≤ 4294967295) (hb : 0 ≤ b) (hb1 : b ≤ 4294967295) : 0 ≤ a * b ∧ a * b ≤ 18446744065119617025 := by
  refine ⟨Int.mul_nonneg ha hb, ?_⟩
  have h1 : a * b ≤ 4294967295 * b := Int.mul_le_mul_of_nonneg_right ha1 hb
  omega

theorem mulHi_eq {x y : Int} (hx : 0 ≤ x) (hx1 : x < 18446744073709551616) (hy : 0 ≤ y) (hy1 : y < 18446744073709551616) : mulHi x y = x * y / 18446744073709551616 := by
  unfold mulHi
  rw [band32 hx hx1, band32 hy hy1]
  simp only [wr_u64]
  have ex : x = x / 4294967296 * 4294967296 + x % 4294967296 := by omega
  have ey : y = y / 4294967296 * 4294967296 + y % 4294967296 := by omega
  have a0 : 0 ≤ x % 4294967296 ∧ x % 4294967296 ≤ 4294967295 := by omega
  have a1 : 0 ≤ x / 4294967296 ∧ x / 4294967296 ≤ 4294967295 := by omega
  have b0 : 0 ≤ y % 4294967296 ∧ y % 4294967296 ≤ 4294967295 := by omega
  have b1 : 0 ≤ y / 4294967296 ∧ y / 4294967296 ≤ 4294967295 := by omega
  generalize x % 4294967296 = x0 at *
  generalize x / 4294967296 = x1 at *
  generalize y % 4294967296 = y0 at *
  generalize y / 4294967296 = y1 at *
  have e : x * y = x1 * y1 * 18446744073709551616 + (x1 * y0 + x0 * y1) * 4294967296 + x0 * y0 := by
    rw [ex, ey]
    simp only [Int.add_mul, Int.mul_add]
    have e1 : x1 * 4294967296 * (y1 * 4294967296) = x1 * y1 * 18446744073709551616 := by
      rw [Int.mul_assoc, Int.mul_left_comm 4294967296 y1 4294967296, ← Int.mul_assoc]; rfl
    have e2 : x0 * (y1 * 4294967296) = x0 * y1 * 4294967296 := by rw [Int.mul_assoc]
    have e3 : x1 * 4294967296 * y0 = x1 * y0 * 4294967296 := by rw [Int.mul_right_comm]
    rw [e1, e2, e3]
    omega
  rw [e]
  have p00 := mul_lt a0.1 a0.2 b0.1 b0.2
  have p01 := mul_lt a0.1 a0.2 b1.1 b1.2
  have p10 := mul_lt a1.1 a1.2 b0.1 b0.2
  have p11 := mul_lt a1.1 a1.2 b1.1 b1.2
  generalize x0 * y0 = q00 at *
  generalize x0 * y1 = q01 at *
  generalize x1 * y0 = q10 at *
  generalize x1 * y1 = q11 at *
  have t1 : q00 % 18446744073709551616 = q00 := by omega
  have t2 : q10 % 18446744073709551616 = q10 := by omega
  have t3 : q01 % 18446744073709551616 = q01 := by omega
  have t4 : q11 % 18446744073709551616 = q11 := by omega
  rw [t1, t2, t3, t4]
  have t5 : (q10 + q00 / 4294967296) % 18446744073709551616 = q10 + q00 / 4294967296 := by omega
  rw [t5, band32 (by omega) (by omega)]
  omega

/-! ### Knuth's digit -/
section
variable {ρ : Type}
def kn (yn1 yn0 un : Int) (K : Int → Int → Option ρ) : Nat → Int → Int → Option ρ
  | 0, q, r => bif (bif decide (q ≥ 4294967296) then true else decide (wr .u64 (q * yn0) > wr .u64 (wr .u64 (4294967296 * r) + un))) then (bif decide (wr .u64 (r + yn1) ≥ 4294967296) then none else none) else K q r
  | k + 1, q, r =>
    bif (bif decide (q ≥ 4294967296) then true else decide (wr .u64 (q * yn0) > wr .u64 (wr .u64 (4294967296 * r) + un))) then
      bif decide (wr .u64 (r + yn1) ≥ 4294967296) then K (wr .u64 (q - 1)) (wr .u64 (r + yn1)) else kn yn1 yn0 un K k (wr .u64 (q - 1)) (wr .u64 (r + yn1))
    else K q r

theorem digit {u y yn1 yn0 q r : Int} (hy : y = yn1 * 4294967296 + yn0) (hr : q * yn1 + r = u) :
    q * y = u * 4294967296 - r * 4294967296 + q * yn0 := by
  subst hy; subst hr
  rw [Int.mul_add, Int.add_mul, ← Int.mul_assoc]
  omega

/-- q * yn0 is a word where q is at most 2^32 + 1. -/
theorem qy_bound {q yn0 : Int} (hq0 : 0 ≤ q) (hq : q ≤ 4294967297) (h0 : 0 ≤ yn0) (h1 : yn0 ≤ 4294967295) : 0 ≤ q * yn0 ∧ q * yn0 ≤ 18446744073709551615 := by
  refine ⟨Int.mul_nonneg hq0 h0, ?_⟩
  have h2 : q * yn0 ≤ 4294967297 * yn0 := Int.mul_le_mul_of_nonneg_right hq h0
  omega

def knTest (yn0 un q r : Int) : Bool := bif decide (q ≥ 4294967296) then true else decide (wr .u64 (q * yn0) > wr .u64 (wr .u64 (4294967296 * r) + un))

theorem kn_step {y yn1 yn0 u d Q q r : Int} (hy : y = yn1 * 4294967296 + yn0) (h1 : 2147483648 ≤ yn1) (h0 : 0 ≤ yn0) (h0' : yn0 < 4294967296)
    (hd : 0 ≤ d) (hd' : d < 4294967296) (hQ0 : 0 ≤ Q) (hQ : Q * y ≤ u * 4294967296 + d) (hQ' : u * 4294967296 + d < Q * y + y) (huy : u < y)
    (hq : q * yn1 + r = u) (hqQ : Q ≤ q) (hr : 0 ≤ r) (hr' : r < 4294967296) (hq1 : q ≤ 4294967297) :
    (knTest yn0 d q r = false → q = Q) ∧ (knTest yn0 d q r = true → Q ≤ q - 1) := by
  have hdg := digit (u := u) hy hq
  have hyp : 0 < y := by omega
  have hqb := qy_bound (q := q) (by omega) hq1 h0 (by omega)
  have w1 : wr .u64 (q * yn0) = q * yn0 := by rw [wr_u64]; omega
  have w2 : wr .u64 (4294967296 * r) = 4294967296 * r := by rw [wr_u64]; omega
  have w3 : wr .u64 (4294967296 * r + d) = 4294967296 * r + d := by rw [wr_u64]; omega
  have up : Q + 1 ≤ q → Q * y + y ≤ q * y := fun h => by
    have := Int.mul_le_mul_of_nonneg_right h (Int.le_of_lt hyp)
    rw [Int.add_mul, Int.one_mul] at this; exact this
  have QB : Q < 4294967296 := by
    apply Int.lt_of_not_ge
    intro h
    have := Int.mul_le_mul_of_nonneg_right h (Int.le_of_lt hyp)
    omega
  unfold knTest
  rw [w1, w2, w3]
  constructor
  · intro ht
    by_cases h : q ≥ 4294967296
    · simp [h] at ht
    · rw [decide_eq_false h] at ht
      simp only [cond_false, decide_eq_false_iff_not] at ht
      by_cases hlt : Q + 1 ≤ q
      · have := up hlt; omega
      · omega
  · intro ht
    by_cases e : q = Q
    · exfalso
      subst e
      have h : ¬ q ≥ 4294967296 := by omega
      rw [decide_eq_false h] at ht
      simp only [cond_false, decide_eq_true_eq] at ht
      omega
    · omega

theorem kn_break {y yn1 yn0 u d Q q r : Int} (hy : y = yn1 * 4294967296 + yn0) (h1 : 2147483648 ≤ yn1) (h0 : 0 ≤ yn0) (h0' : yn0 < 4294967296)
    (hd : 0 ≤ d) (hQ' : u * 4294967296 + d < Q * y + y)
    (hq : q * yn1 + r = u) (hqQ : Q ≤ q) (hr : 4294967296 ≤ r) (hq1 : q ≤ 4294967296) : q = Q := by
  have hdg := digit (u := u) hy hq
  have hyp : 0 < y := by omega
  have h2 : q * yn0 ≤ 4294967296 * yn0 := Int.mul_le_mul_of_nonneg_right hq1 h0
  by_cases hlt : Q + 1 ≤ q
  · have := Int.mul_le_mul_of_nonneg_right hlt (Int.le_of_lt hyp)
    rw [Int.add_mul, Int.one_mul] at this
    omega
  · omega

/-- The quotient Q is reached from the guess. -/
theorem kn_eq {y yn1 yn0 u d Q q r : Int} (hy : y = yn1 * 4294967296 + yn0) (h1 : 2147483648 ≤ yn1) (h1' : yn1 < 4294967296) (h0 : 0 ≤ yn0) (h0' : yn0 < 4294967296)
    (hd : 0 ≤ d) (hd' : d < 4294967296) (hQ0 : 0 ≤ Q) (hQ : Q * y ≤ u * 4294967296 + d) (hQ' : u * 4294967296 + d < Q * y + y) (huy : u < y)
    (hq : q * yn1 + r = u) (hqQ : Q ≤ q) (hr : 0 ≤ r) (hr' : r < 4294967296) (hq1 : q ≤ 4294967297) (K : Int → Int → Option ρ) (k : Nat) : ∃ r', kn yn1 yn0 d K (k + 2) q r = K Q r' := by
  have s1 := kn_step hy h1 h0 h0' hd hd' hQ0 hQ hQ' huy hq hqQ hr hr' hq1
  simp only [kn]
  change ∃ r', (bif knTest yn0 d q r then _ else _) = _
  cases ht : knTest yn0 d q r with
  | false => exact ⟨r, by rw [s1.1 ht]; rfl⟩
  | true =>
    have hq2 := s1.2 ht
    have w1 : wr .u64 (q - 1) = q - 1 := by rw [wr_u64]; omega
    have w2 : wr .u64 (r + yn1) = r + yn1 := by rw [wr_u64]; omega
    have e1 : (q - 1) * yn1 + (r + yn1) = u := by rw [Int.sub_mul]; omega
    simp only [cond_true, w1, w2]
    by_cases hb : r + yn1 ≥ 4294967296
    · rw [decide_eq_true hb]
      refine ⟨r + yn1, ?_⟩
      rw [kn_break hy h1 h0 h0' hd hQ' e1 hq2 hb (by omega)]; rfl
    · rw [decide_eq_false hb]
      simp only [cond_false]
      have s2 := kn_step hy h1 h0 h0' hd hd' hQ0 hQ hQ' huy e1 hq2 (by omega) (by omega) (by omega)
      change ∃ r', (bif knTest yn0 d (q - 1) (r + yn1) then _ else _) = _
      cases ht2 : knTest yn0 d (q - 1) (r + yn1) with
      | false => exact ⟨r + yn1, by rw [s2.1 ht2]; rfl⟩
      | true =>
        have hq3 := s2.2 ht2
        have w3 : wr .u64 (q - 1 - 1) = q - 1 - 1 := by rw [wr_u64]; omega
        have w4 : wr .u64 (r + yn1 + yn1) = r + yn1 + yn1 := by rw [wr_u64]; omega
        have e2 : (q - 1 - 1) * yn1 + (r + yn1 + yn1) = u := by rw [Int.sub_mul]; omega
        simp only [cond_true, w3, w4]
        have hb2 : r + yn1 + yn1 ≥ 4294967296 := by omega
        rw [decide_eq_true hb2]
        refine ⟨r + yn1 + yn1, ?_⟩
        rw [kn_break hy h1 h0 h0' hd hQ' e2 hq3 hb2 (by omega)]; rfl

/-- A guess: it is above by so little. -/
theorem guess {y yn1 yn0 u d Q : Int} (hy : y = yn1 * 4294967296 + yn0) (h1 : 2147483648 ≤ yn1) (h0 : 0 ≤ yn0) (h0' : yn0 < 4294967296)
    (hd' : d < 4294967296) (hQ : Q * y ≤ u * 4294967296 + d) (hQ0 : 0 ≤ Q) (hu : 0 ≤ u) (huy : u < y) :
    u / yn1 * yn1 + u % yn1 = u ∧ Q ≤ u / yn1 ∧ 0 ≤ u % yn1 ∧ u % yn1 < yn1 ∧ u / yn1 ≤ 4294967297 := by
  have hp : 0 < yn1 := by omega
  refine ⟨?_, ?_, Int.emod_nonneg _ (by omega), Int.emod_lt_of_pos _ hp, ?_⟩
  · have := Int.emod_add_mul_ediv u yn1; rw [Int.mul_comm] at this; omega
  · rw [Int.le_ediv_iff_mul_le hp]
    have e : Q * y = Q * yn1 * 4294967296 + Q * yn0 := by rw [hy, Int.mul_add, ← Int.mul_assoc]
    have : 0 ≤ Q * yn0 := Int.mul_nonneg hQ0 h0
    omega
  · have : u / yn1 < 4294967298 := by
      rw [Int.ediv_lt_iff_lt_mul hp]
      have : (4294967298 : Int) * yn1 = yn1 * 4294967296 + 2 * yn1 := by omega
      omega
    omega

/-! ### How many bits -/
def lenTab : ByteArray := ⟨(([0, 1, 2, 2, 3, 3, 3, 3, 4, 4, 4, 4, 4, 4, 4, 4] : List UInt8) ++ List.replicate 16 5 ++ List.replicate 32 6 ++ List.replicate 64 7 ++ List.replicate 128 8).toArray⟩
def lenI (x : Int) : Int :=
  let c := decide (x ≥ 4294967296)
  let n := bif c then 32 else 0
  let x := bif c then x / 4294967296 else x
  let c := decide (x ≥ 65536)
  let n := bif c then wr .i64 (n + 16) else n
  let x := bif c then x / 65536 else x
  let c := decide (x ≥ 256)
  let n := bif c then wr .i64 (n + 8) else n
  let x := bif c then x / 256 else x
  let i := wr .u8 x
  wr .i64 (n + wr .i64 ((lenTab.data.getD i.toNat 0).toNat : Int))

theorem tab_ok : ∀ i : Fin 256, i.val ≠ 0 → 2 ^ ((lenTab.data.getD i.val 0).toNat - 1) ≤ i.val ∧ i.val < 2 ^ (lenTab.data.getD i.val 0).toNat ∧ 1 ≤ (lenTab.data.getD i.val 0).toNat ∧ (lenTab.data.getD i.val 0).toNat ≤ 8 := by decide +kernel

/-- The number of bits of x: k and those of what is left of x behind k bits. -/
theorem bits_of {x k t : Nat} (h1 : 2 ^ (t - 1) ≤ x / 2 ^ k) (h2 : x / 2 ^ k < 2 ^ t) (ht : 1 ≤ t) : 2 ^ (k + t - 1) ≤ x ∧ x < 2 ^ (k + t) := by
  have hp : 0 < 2 ^ k := Nat.two_pow_pos k
  constructor
  · have := (Nat.le_div_iff_mul_le hp).1 h1
    rw [← Nat.pow_add] at this
    rw [show k + t - 1 = t - 1 + k by omega]; exact this
  · have := (Nat.div_lt_iff_lt_mul hp).1 h2
    rw [← Nat.pow_add] at this
    rw [show k + t = t + k by omega]; exact this

/-- One halving of what is to be counted. -/
theorem len_step {x n z B : Int} {k b : Nat} (hB : ((2 ^ b : Nat) : Int) = B) (hb : b ≤ 32) (hk : k ≤ 64) (hz : z = x / ((2 ^ k : Nat) : Int)) (hn : n = k) (h1 : 1 ≤ z) (h2 : z < B * B) :
    ∃ k' : Nat, k' ≤ k + b ∧ (bif decide (z ≥ B) then wr .i64 (n + b) else n) = (k' : Int) ∧ (bif decide (z ≥ B) then z / B else z) = x / ((2 ^ k' : Nat) : Int) ∧
      1 ≤ (bif decide (z ≥ B) then z / B else z) ∧ (bif decide (z ≥ B) then z / B else z) < B := by
  have hBp : 0 < B := by rw [← hB]; exact Int.natCast_pos.2 (Nat.two_pow_pos b)
  by_cases c : z ≥ B
  · refine ⟨k + b, Nat.le_refl _, ?_, ?_, ?_, ?_⟩
    · rw [decide_eq_true c, hn, cond_true, w64_in (by omega) (by omega)]; omega
    · rw [decide_eq_true c, hz, ← hB]
      simp only [cond_true]
      rw [Int.ediv_ediv_of_nonneg (Int.natCast_nonneg _), Nat.pow_add, Int.natCast_mul]
    · rw [decide_eq_true c]; simp only [cond_true]
      rw [Int.le_ediv_iff_mul_le hBp]; omega
    · rw [decide_eq_true c]; simp only [cond_true]
      rw [Int.ediv_lt_iff_lt_mul hBp]; exact h2
  · refine ⟨k, by omega, ?_, ?_, ?_, ?_⟩ <;> rw [decide_eq_false c] <;> simp only [cond_false]
    · exact hn
    · exact hz
    · exact h1
    · omega

theorem len_end {x n z : Int} {k : Nat} (hz : z = x / ((2 ^ k : Nat) : Int)) (hn : n = k) (hk : k ≤ 56) (h0 : 1 ≤ z) (h1 : z < 256) (hx : 0 < x) :
    ∃ s : Nat, wr .i64 (n + wr .i64 ((lenTab.data.getD (wr .u8 z).toNat 0).toNat : Int)) = (s : Int) ∧ 1 ≤ s ∧ s ≤ 64 ∧ 2 ^ (s - 1) ≤ x.toNat ∧ x.toNat < 2 ^ s := by
  have hw : wr .u8 z = z := by show z % 256 = z; omega
  rw [hw]
  have hlt : z.toNat < 256 := by omega
  obtain ⟨t1, t2, t3, t4⟩ := tab_ok ⟨z.toNat, hlt⟩ (by simp; omega)
  simp only at t1 t2 t3 t4
  generalize (lenTab.data.getD z.toNat 0).toNat = t at *
  have hzx : z.toNat = x.toNat / 2 ^ k := by
    rw [hz]
    have e : x / ((2 ^ k : Nat) : Int) = ((x.toNat / 2 ^ k : Nat) : Int) := by
      rw [Int.natCast_ediv, Int.toNat_of_nonneg (Int.le_of_lt hx)]
    rw [e]; rfl
  rw [hzx] at t1 t2
  obtain ⟨b1, b2⟩ := bits_of t1 t2 t3
  refine ⟨k + t, ?_, by omega, by omega, b1, b2⟩
  rw [hn, w64_in (n := (t : Int)) (by omega) (by omega), w64_in (by omega) (by omega)]
  omega

theorem lenI_ok {x : Int} (h0 : 0 < x) (h1 : x < 18446744073709551616) : ∃ s : Nat, lenI x = (s : Int) ∧ 1 ≤ s ∧ s ≤ 64 ∧ 2 ^ (s - 1) ≤ x.toNat ∧ x.toNat < 2 ^ s := by
  unfold lenI
  dsimp only
  obtain ⟨k1, a1, a2, a3, a4, a5⟩ := len_step (x := x) (n := 0) (z := x) (B := 4294967296) (k := 0) (b := 32) (by kernel_rfl) (by omega) (by omega) (by simp) rfl (by omega) (by omega)
  have e32 : (bif decide (x ≥ 4294967296) then (32 : Int) else 0) = (bif decide (x ≥ 4294967296) then wr .i64 (0 + ((32 : Nat) : Int)) else 0) := by
    cases decide (x ≥ 4294967296) <;> rfl
  rw [e32, a2]
  generalize (bif decide (x ≥ 4294967296) then x / 4294967296 else x) = z1 at *
  obtain ⟨k2, b1, b2, b3, b4, b5⟩ := len_step (x := x) (n := k1) (z := z1) (B := 65536) (k := k1) (b := 16) (by kernel_rfl) (by omega) (by omega) a3 rfl a4 (by omega)
  rw [show ((16 : Int)) = ((16 : Nat) : Int) from rfl, b2]
  generalize (bif decide (z1 ≥ 65536) then z1 / 65536 else z1) = z2 at *
  obtain ⟨k3, c1, c2, c3, c4, c5⟩ := len_step (x := x) (n := k2) (z := z2) (B := 256) (k := k2) (b := 8) (by kernel_rfl) (by omega) (by omega) b3 rfl b4 (by omega)
  rw [show ((8 : Int)) = ((8 : Nat) : Int) from rfl, c2]
  generalize (bif decide (z2 ≥ 256) then z2 / 256 else z2) = z3 at *
  exact len_end c3 rfl (by omega) c4 c5 h0

/-! ### A quotient of 128 bits by 64 -/
def lzI (x : Int) : Int := wr .i64 (64 - lenI x)
def in64 (x : Int) : Bool := decide (0 ≤ x) && decide (x < 18446744073709551616)
def sft (left : Bool) (x y : Int) (K : Int → Option ρ) : Option ρ :=
  bif decide (y < 0) then none else bif left then K (wr .u64 (x * p2 (min y.toNat 64))) else K (x / p2 (min y.toNat 64))
def qt (x y : Int) (K : Int → Option ρ) : Option ρ := bif y == 0 then none else K (wr .u64 (x.tdiv y))
def divRaw (lz : Int → Int) (k1 k2 : Nat) (hi lo y : Int) (K : Int → Int → Option ρ) : Option ρ :=
  bif y == 0 then none else bif decide (y ≤ hi) then none else
  bif hi == 0 then bif y == 0 then none else bif y == 0 then none else K (wr .u64 (lo.tdiv y)) (lo.tmod y) else
  bif in64 y then
    let s := wr .u64 (lz y)
    sft true y s fun y =>
    let yn1 := y / 4294967296
    let yn0 := band .u64 y 4294967295
    sft true hi s fun a =>
    sft false lo (wr .u64 (64 - s)) fun b =>
    let un32 := bor .u64 a b
    sft true lo s fun un10 =>
    let un1 := un10 / 4294967296
    let un0 := band .u64 un10 4294967295
    qt un32 yn1 fun q1 =>
    kn yn1 yn0 un1 (fun q1 _ =>
      let un21 := wr .u64 (wr .u64 (wr .u64 (un32 * 4294967296) + un1) - wr .u64 (q1 * y))
      qt un21 yn1 fun q0 =>
      kn yn1 yn0 un0 (fun q0 _ => sft false (wr .u64 (wr .u64 (wr .u64 (un21 * 4294967296) + un0) - wr .u64 (q0 * y))) s fun r => K (wr .u64 (wr .u64 (q1 * 4294967296) + q0)) r)
        k2 q0 (wr .u64 (un21 - wr .u64 (q0 * yn1)))) k1 q1 (wr .u64 (un32 - wr .u64 (q1 * yn1)))
  else none

end
#print axioms mulHi_eq
end Go.Proofs.Ytlkclpkpggapbaa.Fx
