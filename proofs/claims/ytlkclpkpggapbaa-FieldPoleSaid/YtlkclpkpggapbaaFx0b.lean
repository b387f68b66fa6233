/- The library's quotient of 128 bits by 64, as the machine reckons it, is the quotient. Conditions: the quotient is a word. -/
import Derived.Test.YtlkclpkpggapbaaFx0
namespace Go.Proofs.Ytlkclpkpggapbaa.Fx
open Go Go.Proofs.Ytlkclpkpggapbaa.Ae
section
variable {ρ : Type}

theorem p2_pos (n : Nat) : 0 < p2 n := Int.natCast_pos.2 (Nat.two_pow_pos n)
theorem p2_add (a b : Nat) : p2 (a + b) = p2 a * p2 b := by unfold p2; rw [Nat.pow_add, Int.natCast_mul]
theorem p2_64 : p2 64 = 18446744073709551616 := by kernel_rfl
theorem p2_63 : p2 63 = 9223372036854775808 := by kernel_rfl

theorem sft_left {x : Int} {S : Nat} (hS : S ≤ 64) (h0 : 0 ≤ x * p2 S) (h1 : x * p2 S < 18446744073709551616) (K : Int → Option ρ) : sft true x (S : Int) K = K (x * p2 S) := by
  unfold sft
  rw [decide_eq_false (by omega)]
  simp only [cond_false, cond_true]
  rw [show min ((S : Int)).toNat 64 = S by omega, wu64_in h0 h1]
theorem sft_left' {x : Int} {S : Nat} (hS : S ≤ 64) (K : Int → Option ρ) : sft true x (S : Int) K = K (x * p2 S % 18446744073709551616) := by
  unfold sft
  rw [decide_eq_false (by omega)]
  simp only [cond_false, cond_true]
  rw [show min ((S : Int)).toNat 64 = S by omega, wr_u64]
theorem sft_right {x : Int} {S : Nat} (hS : S ≤ 64) (K : Int → Option ρ) : sft false x (S : Int) K = K (x / p2 S) := by
  unfold sft
  rw [decide_eq_false (by omega)]
  simp only [cond_false]
  rw [show min ((S : Int)).toNat 64 = S by omega]
theorem qt_eq {x y : Int} (hx : 0 ≤ x) (hx1 : x < 18446744073709551616) (hy : 0 < y) (K : Int → Option ρ) : qt x y K = K (x / y) := by
  unfold qt
  have : (y == 0) = false := by simp; omega
  rw [this]
  simp only [cond_false]
  rw [Int.tdiv_eq_ediv_of_nonneg hx]
  have h1 : 0 ≤ x / y := Int.ediv_nonneg hx (Int.le_of_lt hy)
  have h2 : x / y ≤ x := Int.ediv_le_self y hx
  rw [wu64_in h1 (by omega)]

/-- One digit of the quotient. -/
theorem one_digit {y u d : Int} (hy : 9223372036854775808 ≤ y) (hy1 : y < 18446744073709551616) (hd : 0 ≤ d) (hd' : d < 4294967296) (hu : 0 ≤ u) (huy : u < y) (K : Int → Option ρ) (k : Nat) :
    qt u (y / 4294967296) (fun q => kn (y / 4294967296) (band .u64 y 4294967295) d (fun q _ => K q) (k + 2) q (wr .u64 (u - wr .u64 (q * (y / 4294967296))))) = K ((u * 4294967296 + d) / y) := by
  have hyp : 0 < y := by omega
  rw [qt_eq hu (by omega) (by omega), band32 (by omega) hy1]
  have hsplit : y = y / 4294967296 * 4294967296 + y % 4294967296 := by omega
  have hm := Int.emod_add_mul_ediv (u * 4294967296 + d) y
  have hr0 := Int.emod_nonneg (u * 4294967296 + d) (show y ≠ 0 by omega)
  have hr1 := Int.emod_lt_of_pos (u * 4294967296 + d) hyp
  rw [Int.mul_comm y] at hm
  have hQ0 : 0 ≤ (u * 4294967296 + d) / y := Int.ediv_nonneg (by omega) (by omega)
  obtain ⟨g1, g2, g3, g4, g5⟩ := guess (u := u) (d := d) (Q := (u * 4294967296 + d) / y) hsplit (by omega) (by omega) (by omega) hd' (by omega) hQ0 hu huy
  have hqy : 0 ≤ u / (y / 4294967296) * (y / 4294967296) := Int.mul_nonneg (Int.ediv_nonneg hu (by omega)) (by omega)
  have w1 : wr .u64 (u / (y / 4294967296) * (y / 4294967296)) = u / (y / 4294967296) * (y / 4294967296) := wu64_in hqy (by omega)
  have w2 : wr .u64 (u - u / (y / 4294967296) * (y / 4294967296)) = u % (y / 4294967296) := by rw [wu64_in (by omega) (by omega)]; omega
  rw [w1, w2]
  obtain ⟨r', hr'⟩ := kn_eq (u := u) (d := d) (Q := (u * 4294967296 + d) / y) hsplit (by omega) (by omega) (by omega) (by omega) hd hd' hQ0 (by omega) (by omega) huy g1 g2 g3 (by omega) g5 (fun q _ => K q) k
  rw [hr']

/-- What is left behind a digit. -/
theorem left_digit {y u d : Int} (hy : 0 < y) (hy1 : y < 18446744073709551616) :
    wr .u64 (wr .u64 (wr .u64 (u * 4294967296) + d) - wr .u64 ((u * 4294967296 + d) / y * y)) = (u * 4294967296 + d) % y := by
  have hm := Int.emod_add_mul_ediv (u * 4294967296 + d) y
  have hr0 := Int.emod_nonneg (u * 4294967296 + d) (show y ≠ 0 by omega)
  have hr1 := Int.emod_lt_of_pos (u * 4294967296 + d) hy
  rw [Int.mul_comm y] at hm
  simp only [wr_u64]
  generalize (u * 4294967296 + d) / y * y = p at *
  generalize (u * 4294967296 + d) % y = r at *
  omega

theorem digit_lt {y u d : Int} (hy : 0 < y) (hd' : d < 4294967296) (huy : u < y) : (u * 4294967296 + d) / y < 4294967296 := by
  rw [Int.ediv_lt_iff_lt_mul hy]; omega

theorem divRaw_eq {hi lo y : Int} (h0 : 0 ≤ hi) (h1 : hi < y) (hy1 : y < 18446744073709551616) (l0 : 0 ≤ lo) (l1 : lo < 18446744073709551616) (K : Int → Int → Option ρ) :
    divRaw lzI 6 2 hi lo y K = K ((hi * 18446744073709551616 + lo) / y) ((hi * 18446744073709551616 + lo) % y) := by
  have hyp : 0 < y := by omega
  unfold divRaw
  have e0 : (y == 0) = false := by simp; omega
  rw [e0, decide_eq_false (by omega : ¬ y ≤ hi)]
  simp only [cond_false]
  by_cases hz : hi = 0
  · subst hz
    simp only [BEq.rfl, cond_true]
    rw [Int.tdiv_eq_ediv_of_nonneg l0, Int.tmod_eq_emod_of_nonneg l0]
    have a1 : 0 ≤ lo / y := Int.ediv_nonneg l0 (by omega)
    have a2 : lo / y ≤ lo := Int.ediv_le_self y l0
    rw [wu64_in a1 (by omega)]
    simp
  · have e1 : (hi == 0) = false := by simp; exact hz
    have e2 : in64 y = true := by unfold in64; simp; omega
    rw [e1, e2]
    simp only [cond_false, cond_true]
    obtain ⟨t, ht, t1, t2, t3, t4⟩ := lenI_ok hyp hy1
    have hs : wr .u64 (lzI y) = ((64 - t : Nat) : Int) := by
      unfold lzI
      rw [ht, w64_in (by omega) (by omega), wu64_in (by omega) (by omega)]; omega
    rw [hs]
    have hs2 : wr .u64 (64 - ((64 - t : Nat) : Int)) = (t : Int) := by rw [wu64_in (by omega) (by omega)]; omega
    generalize hSe : 64 - t = S at *
    have hP := p2_pos S
    have hPc := p2_pos t
    have hPP : p2 S * p2 t = 18446744073709551616 := by rw [← p2_add, show S + t = 64 by omega, p2_64]
    have hPP2 : p2 S * p2 (t - 1) = 9223372036854775808 := by rw [← p2_add, show S + (t - 1) = 63 by omega, p2_63]
    have hylo : p2 (t - 1) ≤ y := by unfold p2; omega
    have hyhi : y < p2 t := by unfold p2; omega
    generalize p2 (t - 1) = P1 at *
    have hYlo : 9223372036854775808 ≤ y * p2 S := by
      have := Int.mul_le_mul_of_nonneg_right hylo (Int.le_of_lt hP)
      rw [Int.mul_comm P1] at this; omega
    have hYhi : y * p2 S < 18446744073709551616 := by
      have := Int.mul_lt_mul_of_pos_right hyhi hP
      rw [Int.mul_comm (p2 t)] at this; omega
    rw [sft_left (by omega) (by omega) hYhi]
    have haY : hi * p2 S ≤ y * p2 S - p2 S := by
      have := Int.mul_le_mul_of_nonneg_right (show hi ≤ y - 1 by omega) (Int.le_of_lt hP)
      rw [Int.sub_mul, Int.one_mul] at this; exact this
    have ha0 : 0 ≤ hi * p2 S := Int.mul_nonneg h0 (Int.le_of_lt hP)
    rw [sft_left (by omega) ha0 (by omega), hs2, sft_right (by omega)]
    have hb0 : 0 ≤ lo / p2 t := Int.ediv_nonneg l0 (Int.le_of_lt hPc)
    have hb1 : lo / p2 t < p2 S := by rw [Int.ediv_lt_iff_lt_mul hPc, hPP]; exact l1
    have hor : bor .u64 (hi * p2 S) (lo / p2 t) = hi * p2 S + lo / p2 t := by
      rw [bor_eq ha0 (by omega) hb0 (by omega)]
      have x1 : (hi * p2 S).toNat = 2 ^ S * hi.toNat := by
        obtain ⟨n, hn⟩ := Int.eq_ofNat_of_zero_le h0
        rw [hn]
        show ((n : Int) * ((2 ^ S : Nat) : Int)).toNat = 2 ^ S * ((n : Int)).toNat
        rw [← Int.natCast_mul, Int.toNat_natCast, Int.toNat_natCast, Nat.mul_comm]
      rw [x1, or_add ((Int.toNat_lt hb0).2 hb1), ← x1]
      omega
    rw [hor, sft_left' (by omega)]
    have hdiv : lo * p2 S / 18446744073709551616 = lo / p2 t := by
      rw [← hPP, Int.mul_comm lo, Int.mul_ediv_mul_of_pos _ _ hP]
    have hsum : (hi * p2 S + lo / p2 t) * 18446744073709551616 + lo * p2 S % 18446744073709551616 = (hi * 18446744073709551616 + lo) * p2 S := by
      have := Int.emod_add_mul_ediv (lo * p2 S) 18446744073709551616
      rw [hdiv] at this
      have e3 : hi * 18446744073709551616 * p2 S = hi * p2 S * 18446744073709551616 := Int.mul_right_comm _ _ _
      rw [Int.add_mul, Int.add_mul, e3]; omega
    have hl0 : 0 ≤ lo * p2 S % 18446744073709551616 := Int.emod_nonneg _ (by omega)
    have hl1 : lo * p2 S % 18446744073709551616 < 18446744073709551616 := Int.emod_lt_of_pos _ (by omega)
    generalize hu : hi * p2 S + lo / p2 t = u at *
    generalize lo * p2 S % 18446744073709551616 = v at *
    generalize hY : y * p2 S = Y at *
    have huY : u < Y := by omega
    have hu0 : 0 ≤ u := by omega
    rw [band32 (x := v) hl0 hl1]
    have d1 : 0 ≤ v / 4294967296 ∧ v / 4294967296 < 4294967296 := by omega
    have d0 : 0 ≤ v % 4294967296 ∧ v % 4294967296 < 4294967296 := by omega
    have hv : v = v / 4294967296 * 4294967296 + v % 4294967296 := by omega
    generalize v / 4294967296 = v1 at *
    generalize v % 4294967296 = v0 at *
    have key1 := one_digit (ρ := ρ) hYlo hYhi d1.1 d1.2 hu0 huY (fun q1 =>
      qt (wr .u64 (wr .u64 (wr .u64 (u * 4294967296) + v1) - wr .u64 (q1 * Y))) (Y / 4294967296) fun q0 =>
      kn (Y / 4294967296) (band .u64 Y 4294967295) v0 (fun q0 _ => sft false (wr .u64 (wr .u64 (wr .u64 (wr .u64 (wr .u64 (wr .u64 (u * 4294967296) + v1) - wr .u64 (q1 * Y)) * 4294967296) + v0) - wr .u64 (q0 * Y))) (S : Int) fun r => K (wr .u64 (wr .u64 (q1 * 4294967296) + q0)) r)
        2 q0 (wr .u64 (wr .u64 (wr .u64 (wr .u64 (u * 4294967296) + v1) - wr .u64 (q1 * Y)) - wr .u64 (q0 * (Y / 4294967296))))) 4
    refine Eq.trans key1 ?_
    rw [left_digit (by omega) hYhi]
    have hm1 := Int.emod_add_mul_ediv (u * 4294967296 + v1) Y
    have hr0 := Int.emod_nonneg (u * 4294967296 + v1) (show Y ≠ 0 by omega)
    have hr1 := Int.emod_lt_of_pos (u * 4294967296 + v1) (show 0 < Y by omega)
    have hq1 := digit_lt (y := Y) (u := u) (d := v1) (by omega) d1.2 huY
    have hq10 : 0 ≤ (u * 4294967296 + v1) / Y := Int.ediv_nonneg (by omega) (by omega)
    generalize hu2 : (u * 4294967296 + v1) % Y = u2 at *
    generalize (u * 4294967296 + v1) / Y = Q1 at *
    refine Eq.trans (one_digit (ρ := ρ) hYlo hYhi d0.1 d0.2 hr0 hr1 (fun q0 => sft false (wr .u64 (wr .u64 (wr .u64 (u2 * 4294967296) + v0) - wr .u64 (q0 * Y))) (S : Int) fun r => K (wr .u64 (wr .u64 (Q1 * 4294967296) + q0)) r) 0) ?_
    rw [left_digit (by omega) hYhi, sft_right (by omega)]
    have hm2 := Int.emod_add_mul_ediv (u2 * 4294967296 + v0) Y
    have hr20 := Int.emod_nonneg (u2 * 4294967296 + v0) (show Y ≠ 0 by omega)
    have hr21 := Int.emod_lt_of_pos (u2 * 4294967296 + v0) (show 0 < Y by omega)
    have hq0 := digit_lt (y := Y) (u := u2) (d := v0) (by omega) d0.2 hr1
    have hq00 : 0 ≤ (u2 * 4294967296 + v0) / Y := Int.ediv_nonneg (by omega) (by omega)
    generalize (u2 * 4294967296 + v0) % Y = R at *
    generalize (u2 * 4294967296 + v0) / Y = Q0 at *
    rw [wu64_in (n := Q1 * 4294967296) (by omega) (by omega), wu64_in (by omega) (by omega)]
    -- the whole
    have eQ : Y * (Q1 * 4294967296 + Q0) = Y * Q1 * 4294967296 + Y * Q0 := by rw [Int.mul_add, ← Int.mul_assoc]
    have whole : (hi * 18446744073709551616 + lo) * p2 S = Y * (Q1 * 4294967296 + Q0) + R := by
      rw [← hsum, eQ]; omega
    generalize Q1 * 4294967296 + Q0 = Q at *
    generalize hi * 18446744073709551616 + lo = N at *
    have hR : R = (N - y * Q) * p2 S := by
      rw [Int.sub_mul]
      have : Y * Q = y * Q * p2 S := by rw [← hY, Int.mul_right_comm]
      omega
    have hRd : R / p2 S = N - y * Q := by rw [hR]; exact Int.mul_ediv_cancel _ (by omega)
    have hN0 : 0 ≤ N - y * Q := by rw [← hRd]; exact Int.ediv_nonneg hr20 (by omega)
    have hN1 : N - y * Q < y := by
      rw [← hRd, Int.ediv_lt_iff_lt_mul hP, hY]; exact hr21
    have hNQ : N / y = Q := by
      rw [Int.ediv_eq_iff_of_pos hyp]
      constructor
      · rw [Int.mul_comm]; omega
      · rw [Int.mul_comm Q]; omega
    have hNr : N % y = N - y * Q := by
      have := Int.emod_add_mul_ediv N y
      rw [hNQ] at this; omega
    rw [hRd, hNQ, hNr]

end
#print axioms divRaw_eq
end Go.Proofs.Ytlkclpkpggapbaa.Fx
