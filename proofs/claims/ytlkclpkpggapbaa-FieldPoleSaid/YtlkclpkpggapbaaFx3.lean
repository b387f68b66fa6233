/- The methods of the program's flow come to what the plain functions say. Conditions: none. -/
import Derived.Test.YtlkclpkpggapbaaFx2
import Derived.Test.YtlkclpkpggapbaaFxN
namespace Go.Proofs.Ytlkclpkpggapbaa.Fx
open Go Go.Proofs.Ytlkclpkpggapbaa.Ae

theorem sz_eq {n : Int} (h : rng n = true) : sz n = (n.natAbs : Int) ∧ (n.natAbs : Int) ≤ 9223372036854775808 := by
  unfold rng at h
  simp only [Bool.and_eq_true, decide_eq_true_eq] at h
  unfold sz
  by_cases c : n < 0
  · rw [decide_eq_true c]; simp only [bt]
    rw [wr_u64, wr_i64]; omega
  · rw [decide_eq_false c]; simp only [bf]
    rw [wr_u64]; omega
theorem sb_eq (n : Int) : sb n = if n < 0 then 1 else 0 := by
  unfold sb
  by_cases c : n < 0
  · rw [decide_eq_true c, if_pos c]; rfl
  · rw [decide_eq_false c, if_neg c]; rfl

/-- The sign of a product of three. -/
theorem signs (a b c : Int) : (bxor .u64 (bxor .u64 (sb a) (sb b)) (sb c) == 1) = sgn3 a b c := by
  unfold sgn3
  rw [sb_eq, sb_eq, sb_eq]
  by_cases ha : a < 0 <;> by_cases hb : b < 0 <;> by_cases hc : c < 0 <;> simp only [ha, hb, hc, if_true, if_false, decide_true, decide_false] <;> decide

theorem mulHi_low {x y : Int} (hx : 0 ≤ x) (hx1 : x < 18446744073709551616) (hy : 0 ≤ y) (hy1 : y < 18446744073709551616) :
    0 ≤ mulHi x y ∧ 0 ≤ wr .u64 (x * y) ∧ wr .u64 (x * y) < 18446744073709551616 ∧ mulHi x y * 18446744073709551616 + wr .u64 (x * y) = x * y := by
  rw [mulHi_eq hx hx1 hy hy1, wr_u64]
  have := Int.mul_nonneg hx hy
  generalize x * y = p at *
  omega

def ratF (a b c : Int) (bad : Bool) : Int × Bool := resB bad (rat a b c)

theorem give_big {n : Int} (h : n > 4611686018427387904 ∨ n < -4611686018427387904) (bad : Bool) : giveRaw n bad = some (.int .i64 0, true) := by
  unfold giveRaw
  rcases h with h | h
  · rw [decide_eq_true h]; rfl
  · rw [decide_eq_true h]; cases decide (n > 4611686018427387904) <;> rfl
theorem give_in {n : Int} (h : n ≤ 4611686018427387904) (h' : -4611686018427387904 ≤ n) (bad : Bool) : giveRaw n bad = some (.int .i64 n, bad) := by
  unfold giveRaw
  rw [decide_eq_false (by omega), decide_eq_false (by omega)]; rfl

/-- A rounded quotient. -/
theorem round_eq {p z n left : Nat} (hz : 0 < z) (h : z * n + left = p) (hl : left < z) : (2 * p + z) / (2 * z) = if z ≤ 2 * left then n + 1 else n := by
  have e : 2 * p + z = 2 * z * n + (2 * left + z) := by rw [← h, Nat.mul_add, ← Nat.mul_assoc]; omega
  rw [e, Nat.mul_add_div (by omega)]
  split
  · rw [Nat.div_eq_of_lt_le (k := 1)] <;> omega
  · rw [Nat.div_eq_of_lt] <;> omega

theorem ratio_eq {a b c : Int} (ha : rng a = true) (hb : rng b = true) (hc : rng c = true) (bad : Bool) :
    ratioRaw sz sb mulHi qtI rmI a b c bad = some (.int .i64 (ratF a b c bad).1, (ratF a b c bad).2) := by
  obtain ⟨ea, ua⟩ := sz_eq ha
  obtain ⟨eb, ub⟩ := sz_eq hb
  obtain ⟨ec, uc⟩ := sz_eq hc
  unfold ratioRaw
  rw [ea, eb, ec]
  obtain ⟨m1, m2, m3, m4⟩ := mulHi_low (x := (a.natAbs : Int)) (y := (b.natAbs : Int)) (by omega) (by omega) (by omega) (by omega)
  have hp : (a.natAbs : Int) * (b.natAbs : Int) = ((a.natAbs * b.natAbs : Nat) : Int) := by rw [Int.natCast_mul]
  rw [signs]
  dsimp only
  rw [hp] at m2 m3 m4 ⊢
  unfold ratF rat
  have hcz : c = 0 ↔ c.natAbs = 0 := by omega
  generalize sgn3 a b c = sg at *
  generalize a.natAbs * b.natAbs = p at *
  generalize c.natAbs = z at *
  generalize mulHi (a.natAbs : Int) (b.natAbs : Int) = h at *
  generalize wr .u64 (p : Int) = l at *
  by_cases z0 : z = 0
  · rw [if_pos (hcz.2 z0)]
    have : ((z : Int) == 0) = true := by simp; exact z0
    rw [this]; simp only [bt, resB]
  · rw [if_neg (fun e => z0 (hcz.1 e))]
    have e0 : ((z : Int) == 0) = false := by simp; exact z0
    rw [e0]
    simp only [bf]
    by_cases hz : h ≥ (z : Int)
    · rw [decide_eq_true hz]
      have hbig : (2 * p + z) / (2 * z) > 4611686018427387904 := by
        have : 18446744073709551616 ≤ (2 * p + z) / (2 * z) := by
          rw [Nat.le_div_iff_mul_le (by omega)]
          omega
        omega
      rw [if_pos hbig]; simp only [bt, bf, resB]
    · rw [decide_eq_false hz]
      have hC : divC [.int .u64 h, .int .u64 l, .int .u64 (z : Int)] = true := by
        simp only [divC, in64, Bool.and_eq_true, decide_eq_true_eq]; omega
      rw [hC]
      simp only [bt, bf]
      have hq : qtI h l (z : Int) = ((p / z : Nat) : Int) := by unfold qtI; rw [m4]; exact (Int.natCast_ediv _ _).symm
      have hr : rmI h l (z : Int) = ((p % z : Nat) : Int) := by unfold rmI; rw [m4]; exact (Int.natCast_emod _ _).symm
      rw [hq, hr]
      have hdm := Nat.div_add_mod p z
      have hml := Nat.mod_lt p (show z > 0 by omega)
      have hround := round_eq (show 0 < z by omega) hdm hml
      generalize p / z = n at *
      generalize p % z = left at *
      rw [hround]
      by_cases hn : (n : Int) > 4611686018427387904
      · rw [decide_eq_true hn]
        have : (if z ≤ 2 * left then n + 1 else n) > 4611686018427387904 := by split <;> omega
        rw [if_pos this]; simp only [bt, resB]
      · rw [decide_eq_false hn]
        simp only [bf]
        have hw : wr .u64 ((z : Int) - (left : Int)) = (z : Int) - left := wu64_in (by omega) (by omega)
        have hn0 : (n : Int) ≤ 4611686018427387904 := by omega
        rw [hw, wu64_in (n := (n : Int) + 1) (by omega) (by omega)]
        have hn' : (bif decide ((left : Int) ≥ (z : Int) - left) then (n : Int) + 1 else (n : Int)) = ((if z ≤ 2 * left then n + 1 else n : Nat) : Int) := by
          by_cases hh : z ≤ 2 * left
          · rw [decide_eq_true (by omega), if_pos hh]; rfl
          · rw [decide_eq_false (by omega), if_neg hh]; rfl
        rw [hn']
        have hle : (if z ≤ 2 * left then n + 1 else n) ≤ 4611686018427387905 := by split <;> omega
        generalize (if z ≤ 2 * left then n + 1 else n) = r at *
        rw [w64_in (n := (r : Int)) (by omega) (by omega), w64_in (n := 0 - (r : Int)) (by omega) (by omega)]
        by_cases hbig : r > 4611686018427387904
        · rw [if_pos hbig, give_big (n := 0 - (r : Int)) (.inr (by omega)), give_big (n := (r : Int)) (.inl (by omega))]
          cases sg <;> simp only [bt, bf, resB]
        · rw [if_neg hbig, give_in (n := 0 - (r : Int)) (by omega) (by omega), give_in (n := (r : Int)) (by omega) (by omega)]
          cases sg
          · simp only [bf, Bool.false_eq_true, if_false, resB]
          · simp only [bt, if_true, Int.zero_sub, resB]

/-! ### Roots -/
theorem rootRaw_eq {hi lo : Int} (h0 : 0 ≤ hi) (l0 : 0 ≤ lo) (l1 : lo < 18446744073709551616) : ∀ (k r : Nat), k ≤ 63 → (∃ q, r = 2 ^ k * q) → r < 2 ^ 63 →
    rootRaw mulHi hi lo k (r : Int) (((2 ^ k : Nat) : Int) / 2) = (isqB (hi.toNat * 18446744073709551616 + lo.toNat) k r : Int)
  | 0, r, _, _, _ => rfl
  | k + 1, r, hk, ⟨q, hq⟩, hr => by
    have hpk : 2 ^ (k + 1) = 2 * 2 ^ k := by rw [Nat.pow_succ]; omega
    have hbit : ((2 ^ (k + 1) : Nat) : Int) / 2 = ((2 ^ k : Nat) : Int) := by rw [hpk]; omega
    have hpos : 0 < 2 ^ k := Nat.two_pow_pos k
    have hk63 : 2 ^ (k + 1) ≤ 2 ^ 63 := Nat.pow_le_pow_right (by omega) hk
    have h63 : (2 : Nat) ^ 63 = 9223372036854775808 := by kernel_rfl
    -- what is left above
    have hroom : r + 2 ^ (k + 1) ≤ 2 ^ 63 := by
      have e : (2 : Nat) ^ 63 = 2 ^ (k + 1) * 2 ^ (62 - k) := by rw [← Nat.pow_add]; congr 1; omega
      rw [e, hq] at hr ⊢
      have hql := Nat.lt_of_mul_lt_mul_left hr
      have := Nat.mul_le_mul_left (2 ^ (k + 1)) (show q + 1 ≤ 2 ^ (62 - k) from hql)
      rw [Nat.mul_add, Nat.mul_one] at this
      exact this
    rw [hbit]
    unfold rootRaw isqB
    dsimp only
    have ht : bor .u64 (r : Int) ((2 ^ k : Nat) : Int) = ((r + 2 ^ k : Nat) : Int) := by
      rw [bor_eq (by omega) (by omega) (by omega) (by omega), Int.toNat_natCast, Int.toNat_natCast, hq, or_add (by omega)]
    rw [ht]
    have hrec : ((2 ^ k : Nat) : Int) / 2 = ((2 ^ k : Nat) : Int) / 2 := rfl
    generalize hte : r + 2 ^ k = t at *
    obtain ⟨m1, m2, m3, m4⟩ := mulHi_low (x := (t : Int)) (y := (t : Int)) (by omega) (by omega) (by omega) (by omega)
    have hc : (bif decide (mulHi (t : Int) t < hi) then true else bif mulHi (t : Int) t == hi then decide (wr .u64 ((t : Int) * t) ≤ lo) else false) = decide (t * t ≤ hi.toNat * 18446744073709551616 + lo.toNat) := by
      have e : (t : Int) * t = ((t * t : Nat) : Int) := by rw [Int.natCast_mul]
      rw [e] at m2 m3 m4 ⊢
      generalize mulHi (t : Int) t = h at *
      generalize wr .u64 ((t * t : Nat) : Int) = l at *
      generalize t * t = tt at *
      by_cases c1 : h < hi
      · rw [decide_eq_true c1, decide_eq_true (show tt ≤ hi.toNat * 18446744073709551616 + lo.toNat by omega)]; rfl
      · rw [decide_eq_false c1]
        simp only [bf]
        by_cases c2 : h = hi
        · have : (h == hi) = true := by simp; exact c2
          rw [this]
          simp only [bt]
          by_cases c3 : l ≤ lo
          · rw [decide_eq_true c3, decide_eq_true (show tt ≤ hi.toNat * 18446744073709551616 + lo.toNat by omega)]
          · rw [decide_eq_false c3, decide_eq_false (show ¬ tt ≤ hi.toNat * 18446744073709551616 + lo.toNat by omega)]
        · have : (h == hi) = false := by simp; exact c2
          rw [this]
          simp only [bf]
          rw [decide_eq_false (show ¬ tt ≤ hi.toNat * 18446744073709551616 + lo.toNat by omega)]
    rw [hc]
    have hd1 : ∃ q', r = 2 ^ k * q' := ⟨2 * q, by rw [hq, hpk, Nat.mul_comm 2, Nat.mul_assoc]⟩
    have hd2 : ∃ q', t = 2 ^ k * q' := ⟨2 * q + 1, by rw [← hte, Nat.mul_add, Nat.mul_one, hq, hpk, Nat.mul_comm 2, Nat.mul_assoc]⟩
    by_cases c : t * t ≤ hi.toNat * 18446744073709551616 + lo.toNat
    · rw [decide_eq_true c, if_pos c]
      exact rootRaw_eq h0 l0 l1 k t (by omega) hd2 (by omega)
    · rw [decide_eq_false c, if_neg c]
      exact rootRaw_eq h0 l0 l1 k r (by omega) hd1 hr

def rootI (hi lo : Int) : Int := rootRaw mulHi hi lo 63 0 4611686018427387904
theorem rootI_eq {hi lo : Int} (h0 : 0 ≤ hi) (h1 : hi < 4611686018427387904) (l0 : 0 ≤ lo) (l1 : lo < 18446744073709551616) : rootI hi lo = (isq (hi.toNat * 18446744073709551616 + lo.toNat) : Int) := by
  have h := rootRaw_eq h0 l0 l1 63 0 (by omega) ⟨0, by simp⟩ (Nat.two_pow_pos 63)
  have h63 : (2 : Nat) ^ 63 = 9223372036854775808 := by kernel_rfl
  have h128 : (2 : Nat) ^ 128 = 340282366920938463463374607431768211456 := by kernel_rfl
  have e : (((2 ^ 63 : Nat) : Int) / 2) = 4611686018427387904 := by rw [h63]; omega
  rw [e] at h
  unfold rootI
  refine Eq.trans h ?_
  rw [isqB_isq (by rw [h128]; omega) (by simp) (by rw [h63]; omega)]

#print axioms ratio_eq
#print axioms rootI_eq
end Go.Proofs.Ytlkclpkpggapbaa.Fx
