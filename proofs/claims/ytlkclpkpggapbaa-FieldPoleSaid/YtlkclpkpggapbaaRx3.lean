/- The reference's words of 128 bits, in plain numbers. Conditions: words are words. -/
import Derived.Test.YtlkclpkpggapbaaRx2
import Derived.Test.YtlkclpkpggapbaaFx3
namespace Go.Proofs.Ytlkclpkpggapbaa.Rx
open Go Go.Proofs.Ytlkclpkpggapbaa.Ae Go.Proofs.Ytlkclpkpggapbaa.Fx

theorem in64_iff {x : Int} : in64 x = true ↔ 0 ≤ x ∧ x < 18446744073709551616 := by simp [in64]

/-- What a word of 128 bits stands for. -/
theorem wa_val {h1 l1 h2 l2 : Int} (_a1 : 0 ≤ h1) (_a2 : h1 < 18446744073709551616) (a3 : 0 ≤ l1) (a4 : l1 < 18446744073709551616) (_b1 : 0 ≤ h2) (_b2 : h2 < 18446744073709551616) (b3 : 0 ≤ l2) (b4 : l2 < 18446744073709551616) :
    0 ≤ waH h1 l1 h2 l2 ∧ waH h1 l1 h2 l2 < 18446744073709551616 ∧ 0 ≤ wr .u64 (l1 + l2) ∧ wr .u64 (l1 + l2) < 18446744073709551616 ∧
    waH h1 l1 h2 l2 * 18446744073709551616 + wr .u64 (l1 + l2) = (h1 * 18446744073709551616 + l1 + (h2 * 18446744073709551616 + l2)) % 340282366920938463463374607431768211456 := by
  unfold waH
  simp only [wr_u64]
  by_cases c : (l1 + l2) % 18446744073709551616 < l1
  · rw [decide_eq_true c, bt]; omega
  · rw [decide_eq_false c, bf]; omega

theorem mod_step {M s t c b' : Int} : ((s + c * t) % M + (t + t) % M * b') % M = (s + t * (c + 2 * b')) % M := by
  have e1 : s + c * t = M * ((s + c * t) / M) + (s + c * t) % M := (Int.mul_ediv_add_emod _ _).symm
  have e2 : t + t = M * ((t + t) / M) + (t + t) % M := (Int.mul_ediv_add_emod _ _).symm
  generalize (s + c * t) / M = q1 at *
  generalize (s + c * t) % M = r1 at *
  generalize (t + t) / M = q2 at *
  generalize (t + t) % M = r2 at *
  have e3 : s + t * (c + 2 * b') = (r1 + r2 * b') + M * (q1 + q2 * b') := by
    have h1 : t * (c + 2 * b') = c * t + (t + t) * b' := by grind
    rw [h1, ← Int.add_assoc, e1, e2]; grind
  rw [e3, Int.add_mul_emod_self_left]

theorem timesRaw_eq : ∀ (k : Nat) (sh sl th tl b : Int), 0 ≤ sh → sh < 18446744073709551616 → 0 ≤ sl → sl < 18446744073709551616 → 0 ≤ th → th < 18446744073709551616 → 0 ≤ tl → tl < 18446744073709551616 →
    0 ≤ b → b < 18446744073709551616 → b < p2 k → ∃ rh rl, timesRaw waH k sh sl th tl b = some (w rh rl) ∧ 0 ≤ rh ∧ rh < 18446744073709551616 ∧ 0 ≤ rl ∧ rl < 18446744073709551616 ∧
      rh * 18446744073709551616 + rl = (sh * 18446744073709551616 + sl + (th * 18446744073709551616 + tl) * b) % 340282366920938463463374607431768211456
  | 0, sh, sl, th, tl, b, a1, a2, a3, a4, b1, b2, b3, b4, c1, c2, c3 => by
    have : b = 0 := by
      have e : p2 0 = 1 := by kernel_rfl
      rw [e] at c3; omega
    subst this
    refine ⟨sh, sl, ?_, a1, a2, a3, a4, ?_⟩
    · unfold timesRaw
      rw [decide_eq_false (by omega), bf]
    · rw [Int.mul_zero]; omega
  | k + 1, sh, sl, th, tl, b, a1, a2, a3, a4, b1, b2, b3, b4, c1, c2, c3 => by
    unfold timesRaw
    by_cases hb : b > 0
    · rw [decide_eq_true hb, bt]
      dsimp only
      have e2 : p2 (k + 1) = p2 k * 2 := by rw [p2_add]; rfl
      have hd : wr .u64 (b.tdiv 2) = b / 2 := by rw [Int.tdiv_eq_ediv_of_nonneg c1, wu64_in (by omega) (by omega)]
      have hm : b.tmod 2 = b % 2 := Int.tmod_eq_emod_of_nonneg c1
      rw [hd, hm]
      obtain ⟨t1, t2, t3, t4, t5⟩ := wa_val b1 b2 b3 b4 b1 b2 b3 b4
      obtain ⟨s1, s2, s3, s4, s5⟩ := wa_val a1 a2 a3 a4 b1 b2 b3 b4
      have hbs : b = b % 2 + 2 * (b / 2) := by omega
      by_cases hc : b % 2 = 1
      · have e : (b % 2 == 1) = true := by simp; exact hc
        rw [e, bt, bt]
        obtain ⟨rh, rl, r1, r2, r3, r4, r5, r6⟩ := timesRaw_eq k _ _ _ _ (b / 2) s1 s2 s3 s4 t1 t2 t3 t4 (by omega) (by omega) (by omega)
        refine ⟨rh, rl, r1, r2, r3, r4, r5, ?_⟩
        rw [r6, s5, t5]
        have := mod_step (M := 340282366920938463463374607431768211456) (s := sh * 18446744073709551616 + sl) (t := th * 18446744073709551616 + tl) (c := 1) (b' := b / 2)
        rw [Int.one_mul] at this
        rw [this, ← hc, ← hbs]
      · have e : (b % 2 == 1) = false := by simp; omega
        rw [e, bf, bf]
        obtain ⟨rh, rl, r1, r2, r3, r4, r5, r6⟩ := timesRaw_eq k _ _ _ _ (b / 2) a1 a2 a3 a4 t1 t2 t3 t4 (by omega) (by omega) (by omega)
        refine ⟨rh, rl, r1, r2, r3, r4, r5, ?_⟩
        rw [r6, t5]
        have := mod_step (M := 340282366920938463463374607431768211456) (s := sh * 18446744073709551616 + sl) (t := th * 18446744073709551616 + tl) (c := 0) (b' := b / 2)
        rw [Int.zero_mul, Int.add_zero, Int.emod_add_emod] at this
        rw [this]
        have hc0 : b % 2 = 0 := by omega
        rw [← hc0, ← hbs]
    · have : b = 0 := by omega
      subst this
      rw [decide_eq_false (by omega), bf]
      refine ⟨sh, sl, rfl, a1, a2, a3, a4, ?_⟩
      rw [Int.mul_zero]; omega

def timesP (wa : Int → Int → Int → Int → Int) : Nat → Int → Int → Int → Int → Int → Int × Int
  | 0, sh, sl, _, _, _ => (sh, sl)
  | k + 1, sh, sl, th, tl, b =>
    bif decide (b > 0) then
      let c := b.tmod 2 == 1
      timesP wa k (bif c then wa sh sl th tl else sh) (bif c then wr .u64 (sl + tl) else sl) (wa th tl th tl) (wr .u64 (tl + tl)) (wr .u64 (b.tdiv 2))
    else (sh, sl)
theorem timesP_eq {wa : Int → Int → Int → Int → Int} : ∀ (k : Nat) (sh sl th tl b : Int), b < p2 k → b < 18446744073709551616 → timesRaw wa k sh sl th tl b = some (w (timesP wa k sh sl th tl b).1 (timesP wa k sh sl th tl b).2)
  | 0, sh, sl, th, tl, b, h, _ => by
    have e : p2 0 = 1 := by kernel_rfl
    rw [e] at h
    unfold timesRaw timesP
    rw [decide_eq_false (by omega), bf]
  | k + 1, sh, sl, th, tl, b, h, h' => by
    unfold timesRaw timesP
    by_cases hb : b > 0
    · rw [decide_eq_true hb, bt, bt]
      dsimp only
      have e2 : p2 (k + 1) = p2 k * 2 := by rw [p2_add]; rfl
      have hd : wr .u64 (b.tdiv 2) = b / 2 := by rw [Int.tdiv_eq_ediv_of_nonneg (by omega), wu64_in (by omega) (by omega)]
      rw [hd]
      exact timesP_eq k _ _ _ _ _ (by omega) (by omega)
    · rw [decide_eq_false hb, bf, bf]
theorem timesP_all {wa : Int → Int → Int → Int → Int} (sh sl th tl b : Int) : timesRaw wa 65 sh sl th tl b = some (w (timesP wa 65 sh sl th tl b).1 (timesP wa 65 sh sl th tl b).2) := by
  unfold timesRaw timesP
  by_cases hb : b > 0
  · rw [decide_eq_true hb, bt, bt]
    dsimp only
    have hd : wr .u64 (b.tdiv 2) < 18446744073709551616 := by rw [wr_u64]; omega
    exact timesP_eq 64 _ _ _ _ _ (by rw [p2_64]; exact hd) hd
  · rw [decide_eq_false hb, bf, bf]
/-- The words of a product, as the loop finds them. -/
def thI (a b : Int) : Int := (timesP waH 65 0 0 0 a b).1
def tlI (a b : Int) : Int := (timesP waH 65 0 0 0 a b).2
theorem times_eq {a b : Int} (ha : in64 a = true) (hb : in64 b = true) : thI a b = a * b / 18446744073709551616 ∧ tlI a b = a * b % 18446744073709551616 := by
  have ha := in64_iff.1 ha
  have hb := in64_iff.1 hb
  obtain ⟨rh, rl, r1, r2, r3, r4, r5, r6⟩ := timesRaw_eq 65 0 0 0 a b (by omega) (by omega) (by omega) (by omega) (by omega) (by omega) ha.1 ha.2 hb.1 hb.2 (by rw [show 65 = 64 + 1 by rfl, p2_add, p2_64, show p2 1 = 2 by kernel_rfl]; omega)
  rw [timesP_all] at r1
  simp only [w, Option.some.injEq, AV.agg.injEq, List.cons.injEq, AV.int.injEq, true_and, and_true] at r1
  unfold thI tlI
  rw [r1.1, r1.2]
  have hle : a * b ≤ 18446744073709551615 * 18446744073709551615 := Int.mul_le_mul (by omega) (by omega) hb.1 (by omega)
  have h0 := Int.mul_nonneg ha.1 hb.1
  have e : (0 * 18446744073709551616 + 0 + (0 * 18446744073709551616 + a) * b) = a * b := by
    rw [Int.zero_mul, Int.zero_add, Int.zero_add, Int.zero_add]
  rw [e] at r6
  generalize a * b = p at *
  omega

/-! ### Over -/
theorem overRaw_eq {b lo h : Int} (hb : 0 < b) (hb1 : b < 18446744073709551616) (hl0 : 0 ≤ lo) (hl1 : lo < 18446744073709551616) : ∀ (n : Nat) (left q : Int), n ≤ 64 → 0 ≤ left → left < b → 0 ≤ q →
    q * b + left = h * p2 (64 - n) + lo / p2 n → h < b → 0 ≤ h → ((overRaw b lo n left q).2 = (h * 18446744073709551616 + lo) / b ∧ (overRaw b lo n left q).1 = (h * 18446744073709551616 + lo) % b)
  | 0, left, q, _, l0, l1, q0, inv, hh, hh0 => by
    unfold overRaw
    dsimp only
    have e0 : p2 0 = 1 := by kernel_rfl
    rw [Nat.sub_zero, p2_64, e0, Int.ediv_one] at inv
    rw [← inv]
    constructor
    · rw [Int.add_comm, Int.add_mul_ediv_right _ _ (by omega), Int.ediv_eq_zero_of_lt l0 l1, Int.zero_add]
    · rw [Int.add_comm, Int.add_mul_emod_self_right, Int.emod_eq_of_lt l0 l1]
  | n + 1, left, q, hn, l0, l1, q0, inv, hh, hh0 => by
    unfold overRaw
    dsimp only
    have hmin : min n 64 = n := by omega
    rw [hmin]
    have hpn := p2_pos n
    have e2 : p2 (n + 1) = p2 n * 2 := by rw [p2_add]; rfl
    have e3 : p2 (64 - n) = p2 (64 - (n + 1)) * 2 := by rw [show 64 - n = 64 - (n + 1) + 1 by omega, p2_add]; rfl
    -- the bit that comes
    have hz0 : 0 ≤ lo / p2 n := Int.ediv_nonneg hl0 (by omega)
    have hz1 : lo / p2 n < 18446744073709551616 := by
      have := Int.ediv_le_self (p2 n) hl0; omega
    have hbit : band .u64 (lo / p2 n) 1 = lo / p2 n % 2 := by
      rw [band_eq hz0 hz1 (by omega) (by omega)]
      have : ((1 : Int)).toNat = 2 ^ 1 - 1 := by decide
      rw [this, Nat.and_two_pow_sub_one_eq_mod]
      omega
    have hz : lo / p2 (n + 1) = lo / p2 n / 2 := by rw [e2, Int.ediv_ediv_of_nonneg (by omega)]
    rw [hbit]
    have hlow : wr .u64 (left * 2) = left * 2 % 18446744073709551616 := wr_u64 _
    have hor : bor .u64 (left * 2 % 18446744073709551616) (lo / p2 n % 2) = left * 2 % 18446744073709551616 + lo / p2 n % 2 := by
      rw [bor_eq (by omega) (by omega) (by omega) (by omega)]
      have hev : (left * 2 % 18446744073709551616).toNat = 2 ^ 1 * ((left * 2 % 18446744073709551616).toNat / 2) := by omega
      rw [hev, or_add (by omega), ← hev]
      omega
    rw [hlow, hor]
    have hinv2 : q * 2 * b + (left * 2 + lo / p2 n % 2) = h * p2 (64 - n) + lo / p2 n := by
      rw [e3, ← Int.mul_assoc]
      rw [hz] at inv
      have : q * 2 * b = q * b * 2 := Int.mul_right_comm _ _ _
      generalize h * p2 (64 - (n + 1)) = hp at *
      generalize lo / p2 n = z at *
      generalize q * b = qb at *
      omega
    have hbb : 0 ≤ lo / p2 n % 2 ∧ lo / p2 n % 2 ≤ 1 := by omega
    generalize lo / p2 n % 2 = bit at *
    -- the quotient is a word
    have hq2 : q * 2 < 18446744073709551616 := by
      have hle : p2 (64 - n) ≤ 18446744073709551616 := by
        have : p2 (64 - n) * p2 n = 18446744073709551616 := by rw [← p2_add, show 64 - n + n = 64 by omega, p2_64]
        have h1 : 1 ≤ p2 n := by omega
        have := Int.mul_le_mul_of_nonneg_left h1 (Int.le_of_lt (p2_pos (64 - n)))
        omega
      apply Int.lt_of_not_ge
      intro hge
      have hzlt : lo / p2 n < p2 (64 - n) := by
        rw [Int.ediv_lt_iff_lt_mul hpn, ← p2_add, show 64 - n + n = 64 by omega, p2_64]; exact hl1
      have m1 : h * p2 (64 - n) ≤ (b - 1) * p2 (64 - n) := Int.mul_le_mul_of_nonneg_right (by omega) (Int.le_of_lt (p2_pos _))
      rw [Int.sub_mul, Int.one_mul] at m1
      have m2 : p2 (64 - n) * b ≤ q * 2 * b := Int.mul_le_mul_of_nonneg_right (by omega) (by omega)
      rw [Int.mul_comm (p2 (64 - n)) b] at m2
      omega
    have hw2 : wr .u64 (q * 2) = q * 2 := wu64_in (by omega) hq2
    rw [hw2]
    by_cases hc : left * 2 + bit ≥ b
    · have ec : (bif left / 9223372036854775808 == 1 then true else decide (left * 2 % 18446744073709551616 + bit ≥ b)) = true := by
        by_cases ht : left / 9223372036854775808 = 1
        · have : (left / 9223372036854775808 == 1) = true := by simp; exact ht
          rw [this, bt]
        · have : (left / 9223372036854775808 == 1) = false := by simp; exact ht
          rw [this, bf]
          exact decide_eq_true (by omega)
      rw [ec, bt, bt]
      have e5 : wr .u64 (left * 2 % 18446744073709551616 + bit - b) = left * 2 + bit - b := by rw [wr_u64]; omega
      rw [e5]
      have hq3 : wr .u64 (q * 2 + 1) = q * 2 + 1 := wu64_in (by omega) (by omega)
      rw [hq3]
      refine overRaw_eq hb hb1 hl0 hl1 n _ _ (by omega) (by omega) (by omega) (by omega) ?_ hh hh0
      rw [Int.add_mul, Int.one_mul, ← hinv2]; omega
    · have ec : (bif left / 9223372036854775808 == 1 then true else decide (left * 2 % 18446744073709551616 + bit ≥ b)) = false := by
        have : (left / 9223372036854775808 == 1) = false := by simp; omega
        rw [this, bf]
        exact decide_eq_false (by omega)
      rw [ec, bf, bf]
      have e5 : left * 2 % 18446744073709551616 + bit = left * 2 + bit := by omega
      rw [e5]
      refine overRaw_eq hb hb1 hl0 hl1 n _ _ (by omega) (by omega) (by omega) (by omega) ?_ hh hh0
      rw [← hinv2]

#print axioms times_eq
#print axioms overRaw_eq
end Go.Proofs.Ytlkclpkpggapbaa.Rx
