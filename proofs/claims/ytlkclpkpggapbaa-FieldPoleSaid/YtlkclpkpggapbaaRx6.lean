/- The contracts of the methods of the reference's flow: the same plain numbers. Conditions: none. -/
import Derived.Test.YtlkclpkpggapbaaRx5
namespace Go.Proofs.Ytlkclpkpggapbaa.Rx
open Go Go.Proofs.Ytlkclpkpggapbaa.Ae Go.Proofs.Ytlkclpkpggapbaa.Fx

theorem rnum_eq (n : Int) : rnum n = okn n := by
  unfold rnum okn
  by_cases h : n ≥ -4611686018427387904
  · rw [decide_eq_true h, bt, Bool.true_and]
  · rw [decide_eq_false h, bf, Bool.false_and]
theorem rtakeB_eq : ∀ (l : List Int) (bad : Bool), rtakeB bad l = (bad || l.any (fun n => !okn n))
  | [], bad => by simp [rtakeB]
  | n :: l, bad => by
    unfold rtakeB
    rw [rtakeB_eq l, List.any_cons, rnum_eq, ← Bool.or_assoc]
    cases bad <;> cases okn n <;> rfl
theorem ropRaw_bad {bad : Bool} {l : List Int} (h : (bad || l.any (fun n => !okn n)) = true) (k : Bool → Option (AV × Bool)) : ropRaw bad l k = some (.int .i64 0, true) := by
  unfold ropRaw
  rw [rtakeB_eq, h]; rfl
theorem ropRaw_ok {bad : Bool} {l : List Int} (h : (bad || l.any (fun n => !okn n)) = false) (k : Bool → Option (AV × Bool)) : ropRaw bad l k = k false := by
  unfold ropRaw
  rw [rtakeB_eq, h]; rfl

theorem rmul_plain (a b : Int) (bad : Bool) : ropRaw bad [a, b] (rrRaw ratF a b 1099511627776) = av (mul a b bad) := by
  unfold mul
  cases h : (bad || [a, b].any (fun n => !okn n)) with
  | true => rw [ropRaw_bad h, lift_bad h]; rfl
  | false =>
    obtain ⟨_, h1, h2⟩ := all_ok2 h
    rw [ropRaw_ok h, lift_ok h, rrRaw_eq (rng_of h1) (rng_of h2) rng_one]
theorem rdiv_plain (a b : Int) (bad : Bool) : ropRaw bad [a, b] (rrRaw ratF a 1099511627776 b) = av (div a b bad) := by
  unfold div
  cases h : (bad || [a, b].any (fun n => !okn n)) with
  | true => rw [ropRaw_bad h, lift_bad h]; rfl
  | false =>
    obtain ⟨_, h1, h2⟩ := all_ok2 h
    rw [ropRaw_ok h, lift_ok h, rrRaw_eq (rng_of h1) rng_one (rng_of h2)]
theorem rpart_plain (a b c : Int) (bad : Bool) : ropRaw bad [a, b, c] (rrRaw ratF a b c) = av (Fx.part a b c bad) := by
  unfold Fx.part
  cases h : (bad || [a, b, c].any (fun n => !okn n)) with
  | true => rw [ropRaw_bad h, lift_bad h]; rfl
  | false =>
    obtain ⟨_, h1, h2, h3⟩ := all_ok3 h
    rw [ropRaw_ok h, lift_ok h, rrRaw_eq (rng_of h1) (rng_of h2) (rng_of h3)]

theorem raddS_eq {a b : Int} (ha : -4611686018427387904 ≤ a ∧ a ≤ 4611686018427387904) (hb : -4611686018427387904 ≤ b ∧ b ≤ 4611686018427387904) :
    raddS a b * 2 ≤ a + b + 1 ∧ a + b - 1 ≤ raddS a b * 2 := by
  unfold raddS
  have e1 := Int.tmod_add_mul_tdiv a 2
  have e2 := Int.tmod_add_mul_tdiv b 2
  have l1 : -2 < a.tmod 2 ∧ a.tmod 2 < 2 := ⟨by have := Int.tmod_lt_of_pos (-a) (show (0 : Int) < 2 by omega); rw [Int.neg_tmod] at this; omega, Int.tmod_lt_of_pos a (by omega)⟩
  have l2 : -2 < b.tmod 2 ∧ b.tmod 2 < 2 := ⟨by have := Int.tmod_lt_of_pos (-b) (show (0 : Int) < 2 by omega); rw [Int.neg_tmod] at this; omega, Int.tmod_lt_of_pos b (by omega)⟩
  generalize a.tmod 2 = r1 at *
  generalize b.tmod 2 = r2 at *
  generalize a.tdiv 2 = q1 at *
  generalize b.tdiv 2 = q2 at *
  rw [w64_in (n := q1) (by omega) (by omega), w64_in (n := q2) (by omega) (by omega), w64_in (n := q1 + q2) (by omega) (by omega), w64_in (n := r1 + r2) (by omega) (by omega)]
  have e3 := Int.tmod_add_mul_tdiv (r1 + r2) 2
  have l3 : -2 < (r1 + r2).tmod 2 ∧ (r1 + r2).tmod 2 < 2 := ⟨by have := Int.tmod_lt_of_pos (-(r1 + r2)) (show (0 : Int) < 2 by omega); rw [Int.neg_tmod] at this; omega, Int.tmod_lt_of_pos (r1 + r2) (by omega)⟩
  generalize (r1 + r2).tmod 2 = r3 at *
  generalize (r1 + r2).tdiv 2 = q3 at *
  rw [w64_in (n := q3) (by omega) (by omega), w64_in (n := q1 + q2 + q3) (by omega) (by omega)]
  omega

def raddK (a b : Int) (bad : Bool) : Option (AV × Bool) :=
  bif decide (raddS a b > 2305843009213693952) then some (.int .i64 0, true) else bif decide (raddS a b < -2305843009213693952) then some (.int .i64 0, true) else bif !rnum (wr .i64 (a + b)) then some (.int .i64 0, true) else some (.int .i64 (wr .i64 (a + b)), bad)
theorem raddK_eq {a b : Int} (ha : -4611686018427387904 ≤ a ∧ a ≤ 4611686018427387904) (hb : -4611686018427387904 ≤ b ∧ b ≤ 4611686018427387904) : raddK a b false = av (resB false (if okn (a + b) then some (a + b) else none)) := by
  unfold raddK
  have hS := raddS_eq ha hb
  generalize raddS a b = S at *
  rw [rnum_eq]
  by_cases hs : okn (a + b) = true
  · have i3 := okn_iff.1 hs
    rw [if_pos hs, decide_eq_false (by omega), bf, decide_eq_false (by omega), bf, w64_in (by omega) (by omega), hs, Bool.not_true, bf]; rfl
  · rw [if_neg hs]
    by_cases c1 : S > 2305843009213693952
    · rw [decide_eq_true c1, bt]; rfl
    · rw [decide_eq_false c1, bf]
      by_cases c2 : S < -2305843009213693952
      · rw [decide_eq_true c2, bt]; rfl
      · rw [decide_eq_false c2, bf, w64_in (by omega) (by omega)]
        have : okn (a + b) = false := by simpa using hs
        rw [this, Bool.not_false, bt]; rfl
theorem radd_plain (a b : Int) (bad : Bool) : ropRaw bad [a, b] (raddK a b) = av (add a b bad) := by
  unfold add
  cases h : (bad || [a, b].any (fun n => !okn n)) with
  | true => rw [ropRaw_bad h, lift_bad h]; rfl
  | false =>
    obtain ⟨_, h1, h2⟩ := all_ok2 h
    rw [ropRaw_ok h, lift_ok h, raddK_eq (okn_iff.1 h1) (okn_iff.1 h2)]
theorem rsub_plain (a b : Int) (bad : Bool) : (ropRaw bad [a, b] fun bad => some (.int .i64 (add a (wr .i64 (0 - b)) bad).1, (add a (wr .i64 (0 - b)) bad).2)) = av (sub a b bad) := by
  unfold sub
  cases h : (bad || [a, b].any (fun n => !okn n)) with
  | true => rw [ropRaw_bad h, lift_bad h]; rfl
  | false =>
    obtain ⟨_, h1, h2⟩ := all_ok2 h
    rw [ropRaw_ok h, lift_ok h]
    have i1 := okn_iff.1 h1
    have i2 := okn_iff.1 h2
    have hb : wr .i64 (0 - b) = -b := by rw [w64_in (by omega) (by omega)]; omega
    have h3 : okn (-b) = true := okn_iff.2 (by omega)
    rw [hb]
    unfold add
    rw [lift_ok (l := [a, -b]) (by simp [h1, h3])]
    rfl
theorem rmod_plain (a m : Int) (bad : Bool) : (ropRaw bad [a, m] fun bad => bif decide (m ≤ 0) then some (.int .i64 0, true) else bif m == 0 then none else some (.int .i64 (bif decide (a.tmod m < 0) then wr .i64 (a.tmod m + m) else a.tmod m), bad)) = av (mod a m bad) := by
  unfold mod
  cases h : (bad || [a, m].any (fun n => !okn n)) with
  | true => rw [ropRaw_bad h, lift_bad h]; rfl
  | false =>
    obtain ⟨_, h1, h2⟩ := all_ok2 h
    rw [ropRaw_ok h, lift_ok h]
    have i1 := okn_iff.1 h1
    have i2 := okn_iff.1 h2
    by_cases hn : m ≤ 0
    · rw [decide_eq_true hn, if_pos hn]; rfl
    · rw [decide_eq_false hn, if_neg hn, bf]
      have e0 : (m == 0) = false := by simp; omega
      rw [e0, bf]
      have hm : 0 < m := by omega
      have t1 : -m < a.tmod m ∧ a.tmod m < m := ⟨by have := Int.tmod_lt_of_pos (-a) hm; rw [Int.neg_tmod] at this; omega, Int.tmod_lt_of_pos a hm⟩
      have e2 := Int.tmod_add_mul_tdiv a m
      have e1 : a % m = if a.tmod m < 0 then a.tmod m + m else a.tmod m := by
        conv => lhs; rw [← e2]
        rw [Int.add_mul_emod_self_left]
        split
        · rw [← Int.add_emod_right, Int.emod_eq_of_lt (by omega) (by omega)]
        · rw [Int.emod_eq_of_lt (by omega) (by omega)]
      rw [e1]
      by_cases c : a.tmod m < 0
      · rw [decide_eq_true c, bt, if_pos c, w64_in (by omega) (by omega)]; rfl
      · rw [decide_eq_false c, bf, if_neg c]; rfl

/-! ### Roots -/
def abI (h1 l1 h2 l2 : Int) : Bool := bif decide (h1 > h2) then true else bif h1 == h2 then decide (l1 > l2) else false
theorem abI_eq {h1 l1 h2 l2 : Int} (a3 : 0 ≤ l1) (a4 : l1 < 18446744073709551616) (b3 : 0 ≤ l2) (b4 : l2 < 18446744073709551616) :
    abI h1 l1 h2 l2 = decide (h1 * 18446744073709551616 + l1 > h2 * 18446744073709551616 + l2) := by
  unfold abI
  by_cases c1 : h1 > h2
  · rw [decide_eq_true c1, bt]; exact (decide_eq_true (by omega)).symm
  · rw [decide_eq_false c1, bf]
    by_cases c2 : h1 = h2
    · have : (h1 == h2) = true := by simp; exact c2
      rw [this, bt]
      by_cases c3 : l1 > l2
      · rw [decide_eq_true c3, decide_eq_true (by omega)]
      · rw [decide_eq_false c3, decide_eq_false (by omega)]
    · have : (h1 == h2) = false := by simp; exact c2
      rw [this, bf]; exact (decide_eq_false (by omega)).symm
theorem rroot_eq {h l : Int} {N : Nat} (hN : h * 18446744073709551616 + l = (N : Int)) (l0 : 0 ≤ l) (l1 : l < 18446744073709551616) : ∀ (k r : Nat), r + 2 ^ k ≤ 2 ^ 63 → rroot thI tlI abI h l k (r : Int) = (isqB N k r : Int)
  | 0, r, _ => rfl
  | k + 1, r, hr => by
    have hpk : 2 ^ (k + 1) = 2 * 2 ^ k := by rw [Nat.pow_succ]; omega
    have h63 : (2 : Nat) ^ 63 = 9223372036854775808 := by kernel_rfl
    have hk : k ≤ 62 := by
      apply Nat.le_of_not_lt
      intro hlt
      have := Nat.pow_lt_pow_right (a := 2) (by omega) (show 63 < k + 1 by omega)
      omega
    unfold rroot isqB
    dsimp only
    have hm : min k 64 = k := by omega
    have ht : wr .u64 ((r : Int) + wr .u64 (1 * p2 (min k 64))) = ((r + 2 ^ k : Nat) : Int) := by
      have hp : p2 k = ((2 ^ k : Nat) : Int) := rfl
      rw [hm, Int.one_mul, hp, wu64_in (n := ((2 ^ k : Nat) : Int)) (by omega) (by omega), wu64_in (by omega) (by omega), Int.natCast_add]
    rw [ht]
    generalize hte : r + 2 ^ k = t at *
    obtain ⟨t1, t2⟩ := times_eq (a := (t : Int)) (b := (t : Int)) (in64_iff.2 (by omega)) (in64_iff.2 (by omega))
    rw [t1, t2, abI_eq (by omega) (by omega) l0 l1, hN]
    have e : (t : Int) * t = ((t * t : Nat) : Int) := by rw [Int.natCast_mul]
    rw [e]
    by_cases c : t * t ≤ N
    · rw [decide_eq_false (by omega), if_pos c, Bool.not_false, bt]
      exact rroot_eq hN l0 l1 k t (by omega)
    · rw [decide_eq_true (by omega), if_neg c, Bool.not_true, bf]
      exact rroot_eq hN l0 l1 k r (by omega)

theorem rsqrt_plain (a : Int) (bad : Bool) : (ropRaw bad [a] fun bad => bif decide (a < 0) then some (.int .i64 0, true) else rgive (rroot thI tlI abI (thI (wr .u64 a) 1099511627776) (tlI (wr .u64 a) 1099511627776) 52 0) false bad) = av (sqrt a bad) := by
  unfold sqrt
  cases h : (bad || [a].any (fun n => !okn n)) with
  | true => rw [ropRaw_bad h, lift_bad h]; rfl
  | false =>
    obtain ⟨_, h1⟩ := all_ok1 h
    rw [ropRaw_ok h, lift_ok h]
    have i1 := okn_iff.1 h1
    by_cases hn : a < 0
    · rw [decide_eq_true hn, if_pos hn, bt]; rfl
    · rw [decide_eq_false hn, if_neg hn, bf]
      rw [wu64_in (n := a) (by omega) (by omega)]
      obtain ⟨t1, t2⟩ := times_eq (a := a) (b := 1099511627776) (in64_iff.2 (by omega)) (in64_iff.2 (by omega))
      have hr := rroot_eq (h := thI a 1099511627776) (l := tlI a 1099511627776) (N := a.toNat * 1099511627776) (by rw [t1, t2]; omega) (by omega) (by omega) 52 0 (by decide)
      have h0 : ((0 : Nat) : Int) = 0 := rfl
      rw [h0] at hr
      rw [hr]
      have h104 : ((0 + 2 ^ 52) * (0 + 2 ^ 52) : Nat) = 20282409603651670423947251286016 := by kernel_rfl
      have h128 : (2 : Nat) ^ 128 = 340282366920938463463374607431768211456 := by kernel_rfl
      rw [isqB_isq (by rw [h128]; omega) (by omega) (by rw [h104]; omega)]
      have hr := (isq_ok (N := a.toNat * 1099511627776) (by rw [h128]; omega)).1
      have hle : isq (a.toNat * 1099511627776) ≤ 4611686018427387904 := by
        apply Nat.le_of_not_lt
        intro hlt
        have := Nat.mul_self_le_mul_self (show 4611686018427387904 ≤ isq (a.toNat * 1099511627776) by omega)
        omega
      generalize isq (a.toNat * 1099511627776) = r at *
      rw [rgive_in (by omega) (by omega)]
      rfl
theorem rnorm_plain (a b c : Int) (bad : Bool) : (ropRaw bad [a, b, c] fun bad =>
        rgive (rroot thI tlI abI (waH (waH (thI (sz a) (sz a)) (tlI (sz a) (sz a)) (thI (sz b) (sz b)) (tlI (sz b) (sz b))) (wr .u64 (tlI (sz a) (sz a) + tlI (sz b) (sz b))) (thI (sz c) (sz c)) (tlI (sz c) (sz c)))
          (wr .u64 (wr .u64 (tlI (sz a) (sz a) + tlI (sz b) (sz b)) + tlI (sz c) (sz c))) 63 0) false bad) = av (norm a b c bad) := by
  unfold norm
  cases h : (bad || [a, b, c].any (fun n => !okn n)) with
  | true => rw [ropRaw_bad h, lift_bad h]; rfl
  | false =>
    obtain ⟨_, h1, h2, h3⟩ := all_ok3 h
    rw [ropRaw_ok h, lift_ok h]
    have sq : ∀ n : Int, okn n = true → ∃ q : Nat, n.natAbs * n.natAbs = q ∧ q ≤ 21267647932558653966460912964485513216 ∧ thI (sz n) (sz n) = (q : Int) / 18446744073709551616 ∧ tlI (sz n) (sz n) = (q : Int) % 18446744073709551616 := fun n hn => by
      have i := okn_iff.1 hn
      have := Nat.mul_le_mul (show n.natAbs ≤ 4611686018427387904 by omega) (show n.natAbs ≤ 4611686018427387904 by omega)
      obtain ⟨e1, e2⟩ := sz_eq (rng_of hn)
      obtain ⟨t1, t2⟩ := times_eq (a := (n.natAbs : Int)) (b := (n.natAbs : Int)) (in64_iff.2 (by omega)) (in64_iff.2 (by omega))
      refine ⟨_, rfl, by omega, ?_, ?_⟩
      · rw [e1, t1, Int.natCast_mul]
      · rw [e1, t2, Int.natCast_mul]
    obtain ⟨qa, a1, a2, a3, a4⟩ := sq a h1
    obtain ⟨qb, b1, b2, b3, b4⟩ := sq b h2
    obtain ⟨qc, c1, c2, c3, c4⟩ := sq c h3
    rw [a1, b1, c1]
    generalize thI (sz a) (sz a) = ah at *
    generalize tlI (sz a) (sz a) = al at *
    generalize thI (sz b) (sz b) = bh at *
    generalize tlI (sz b) (sz b) = bl at *
    generalize thI (sz c) (sz c) = ch at *
    generalize tlI (sz c) (sz c) = cl at *
    obtain ⟨s1, s2, s3, s4, s5⟩ := wa_val (h1 := ah) (l1 := al) (h2 := bh) (l2 := bl) (by omega) (by omega) (by omega) (by omega) (by omega) (by omega) (by omega) (by omega)
    generalize waH ah al bh bl = sh at *
    generalize wr .u64 (al + bl) = sl at *
    obtain ⟨u1, u2, u3, u4, u5⟩ := wa_val (h1 := sh) (l1 := sl) (h2 := ch) (l2 := cl) s1 s2 s3 s4 (by omega) (by omega) (by omega) (by omega)
    generalize waH sh sl ch cl = vh at *
    generalize wr .u64 (sl + cl) = vl at *
    have hr := rroot_eq (h := vh) (l := vl) (N := qa + qb + qc) (by omega) u3 u4 63 0 (by decide)
    have h0 : ((0 : Nat) : Int) = 0 := rfl
    rw [h0] at hr
    rw [hr]
    have h126 : ((0 + 2 ^ 63) * (0 + 2 ^ 63) : Nat) = 85070591730234615865843651857942052864 := by kernel_rfl
    have h128 : (2 : Nat) ^ 128 = 340282366920938463463374607431768211456 := by kernel_rfl
    rw [isqB_isq (by rw [h128]; omega) (by omega) (by rw [h126]; omega)]
    unfold upTo
    generalize isq (qa + qb + qc) = r at *
    by_cases hb : r > 4611686018427387904
    · rw [if_pos hb, rgive_big (by omega)]; rfl
    · rw [if_neg hb, rgive_in (by omega) (by omega)]; rfl

/-! ### The contracts -/
theorem above_con : PureOk Try.prog 61 anyA (abF abI) := by
  refine pure_of ok_nil 40 _ _ _ ?_
  rintro args v - h
  unfold abF at h
  split at h <;> cases h
  exact ⟨rfl, rfl, by kernel_rfl⟩
theorem rbase_ok {ad : Int → Int → Bool → Int × Bool} (hA : RMeth 29 (int2 ad)) : EnvOk Try.prog (envN sz thI tlI abI ratF ad) :=
  EnvOk.t (EnvOk.e (EnvOk.t (EnvOk.c (EnvOk.p (EnvOk.p (EnvOk.p (EnvOk.c (EnvOk.e ok_nil en_rAdd hA) en_add wa_ok) en_above above_con) en_times times_con) en_size rsize_con) en_number number_ok) en_rgive) en_rratio rratio_con) en_rtake
def envA : Env := [(49, .text), (51, .calc numF)]
theorem radd_raw' (a b : Int) (bad : Bool) : acall Try.prog envA 60 29 [.ptr 0 0, .int .i64 a, .int .i64 b] [.cells [.bool bad] 27] (flowK 27) =
    ropRaw bad [a, b] (raddK a b) := by kernel_rfl
theorem radd_con : RMeth 29 (int2 add) := by
  have hE : EnvOk Try.prog envA := EnvOk.t (EnvOk.c ok_nil en_number number_ok) en_rtake
  refine flow_of hE 60 _ _ (fun _ => true) _ ?_
  intro args g _ h bad
  obtain ⟨a, b, rfl, hg⟩ := int2_some h
  rw [radd_raw', radd_plain, hg]
theorem rsub_con : RMeth 37 (int2 sub) := by
  refine flow_of (rbase_ok radd_con) 60 _ _ (fun _ => true) _ ?_
  intro args g _ h bad
  obtain ⟨a, b, rfl, hg⟩ := int2_some h
  rw [rsub_raw, rsub_plain, hg]
theorem rmul_con : RMeth 30 (int2 mul) := by
  refine flow_of (rbase_ok radd_con) 60 _ _ (fun _ => true) _ ?_
  intro args g _ h bad
  obtain ⟨a, b, rfl, hg⟩ := int2_some h
  rw [rmul_raw, rmul_plain, hg]
theorem rdiv_con : RMeth 27 (int2 div) := by
  refine flow_of (rbase_ok radd_con) 60 _ _ (fun _ => true) _ ?_
  intro args g _ h bad
  obtain ⟨a, b, rfl, hg⟩ := int2_some h
  rw [rdiv_raw, rdiv_plain, hg]
theorem rpart_con : RMeth 26 (int3 Fx.part) := by
  refine flow_of (rbase_ok radd_con) 60 _ _ (fun _ => true) _ ?_
  intro args g _ h bad
  obtain ⟨a, b, c, rfl, hg⟩ := int3_some h
  rw [rpart_raw, rpart_plain, hg]
theorem rmod_con : RMeth 67 (int2 mod) := by
  refine flow_of (rbase_ok radd_con) 60 _ _ (fun _ => true) _ ?_
  intro args g _ h bad
  obtain ⟨a, b, rfl, hg⟩ := int2_some h
  rw [rmod_raw, rmod_plain, hg]
theorem rsqrt_con : RMeth 64 (int1 sqrt) := by
  refine flow_of (rbase_ok radd_con) 90 _ _ (fun _ => true) _ ?_
  intro args g _ h bad
  obtain ⟨a, rfl, hg⟩ := int1_some h
  rw [rsqrt_raw, rsqrt_plain, hg]
theorem rnorm_con : RMeth 36 (int3 norm) := by
  refine flow_of (rbase_ok radd_con) 110 _ _ (fun _ => true) _ ?_
  intro args g _ h bad
  obtain ⟨a, b, c, rfl, hg⟩ := int3_some h
  rw [rnorm_raw, rnorm_plain, hg]
#print axioms rnorm_con
#print axioms rsqrt_con
#print axioms radd_con
end Go.Proofs.Ytlkclpkpggapbaa.Rx
