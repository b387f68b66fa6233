/- The contracts of the methods of the reference's flow: the same plain numbers. Conditions: none. -/
import Derived.Test.YtcagaaaibhifdaaJd
import Derived.Test.YtcagaaaibhifdaaJc
namespace Go.Proofs.Ytcagaaaibhifdaa.Rx
open Go Go.Proofs.Ytcagaaaibhifdaa.Ae Go.Proofs.Ytcagaaaibhifdaa.Fx

theorem rnum_eq (n : Int) : rnum n = okn n := by
  unfold rnum okn
  by_cases h : n ≥ -4611686018427387904
  · rw [decide_eq_true h, bt, Bool.true_and]
  · rw [decide_eq_false h, bf, Bool.false_and]
theorem rtakeB_eq : ∀ (l : List Int) (bad : Bool), rtakeB bad l = (bad || l.any (fun n => !okn n))
  | [], bad => by simp [rtakeB]
  | n :: l, bad => by
    unfold rtakeB
    rw [rtakeB_eq l, List.any_cons, rnum_eq, ← Bool.or_assoc]
    cases bad <;> cases okn n <;> rfl
theorem ropRaw_bad {bad : Bool} {l : List Int} (h : (bad || l.any (fun n => !okn n)) = true) (k : Bool → Option (AV × Bool)) : ropRaw bad l k = some (.int .i64 0, true) := by
  unfold ropRaw
  rw [rtakeB_eq, h]; rfl
theorem ropRaw_ok {bad : Bool} {l : List Int} (h : (bad || l.any (fun n => !okn n)) = false) (k : Bool → Option (AV × Bool)) : ropRaw bad l k = k false := by
  unfold ropRaw
  rw [rtakeB_eq, h]; rfl

theorem rmul_plain (a b : Int) (bad : Bool) : ropRaw bad [a, b] (rrRaw ratF a b 1099511627776) = av (mul a b bad) := by
  unfold mul
  cases h : (bad || [a, b].any (fun n => !okn n)) with
  | true => rw [ropRaw_bad h, lift_bad h]; rfl
  | false =>
    obtain ⟨_, h1, h2⟩ := all_ok2 h
    rw [ropRaw_ok h, lift_ok h, rrRaw_eq (rng_of h1) (rng_of h2) rng_one]
theorem rdiv_plain (a b : Int) (bad : Bool) : ropRaw bad [a, b] (rrRaw ratF a 1099511627776 b) = av (div a b bad) := by
  unfold div
  cases h : (bad || [a, b].any (fun n => !okn n)) with
  | true => rw [ropRaw_bad h, lift_bad h]; rfl
  | false =>
    obtain ⟨_, h1, h2⟩ := all_ok2 h
    rw [ropRaw_ok h, lift_ok h, rrRaw_eq (rng_of h1) rng_one (rng_of h2)]
theorem rpart_plain (a b c : Int) (bad : Bool) : ropRaw bad [a, b, c] (rrRaw ratF a b c) = av (Fx.part a b c bad) := by
  unfold Fx.part
  cases h : (bad || [a, b, c].any (fun n => !okn n)) with
  | true => rw [ropRaw_bad h, lift_bad h]; rfl
  | false =>
    obtain ⟨_, h1, h2, h3⟩ := all_ok3 h
    rw [ropRaw_ok h, lift_ok h, rrRaw_eq (rng_of h1) (rng_of h2) (rng_of h3)]

theorem raddS_eq {a b : Int} (ha : -4611686018427387904 ≤ a ∧ a ≤ 4611686018427387904) (hb : -4611686018427387904 ≤ b ∧ b ≤ 4611686018427387904) :
    raddS a b * 2 ≤ a + b + 1 ∧ a + b - 1 ≤ raddS a b * 2 := by
  unfold raddS
  have e1 := Int.tmod_add_mul_tdiv a 2
  have e2 := Int.tmod_add_mul_tdiv b 2
  have l1 : -2 < a.tmod 2 ∧ a.tmod 2 < 2 := ⟨by have := Int.tmod_lt_of_pos (-a) (show (0 : Int) < 2 by omega); rw [Int.neg_tmod] at this; omega, Int.tmod_lt_of_pos a (by omega)⟩
  have l2 : -2 < b.tmod 2 ∧ b.tmod 2 < 2 := ⟨by have := Int.tmod_lt_of_pos (-b) (show (0 : Int) < 2 by omega); rw [Int.neg_tmod] at this; omega, Int.tmod_lt_of_pos b (by omega)⟩
  generalize a.tmod 2 = r1 at *
  generalize b.tmod 2 = r2 at *
  generalize a.tdiv 2 = q1 at *
  generalize b.tdiv 2 = q2 at *
  rw [w64_in (n := q1) (by omega) (by omega), w64_in (n := q2) (by omega) (by omega), w64_in (n := q1 + q2) (by omega) (by omega), w64_in (n := r1 + r2) (by omega) (by omega)]
  have e3 := Int.tmod_add_mul_tdiv (r1 + r2) 2
  have l3 : -2 < (r1 + r2).tmod 2 ∧ (r1 + r2).tmod 2 < 2 := ⟨by have := Int.tmod_lt_of_pos (-(r1 + r2)) (show (0 : Int) < 2 by omega); rw [Int.neg_tmod] at this; omega, Int.tmod_lt_of_pos (r1 + r2) (by omega)⟩
  generalize (r1 + r2).tmod 2 = r3 at *
  generalize (r1 + r2).tdiv 2 = q3 at *
  rw [w64_in (n := q3) (by omega) (by omega), w64_in (n := q1 + q2 + q3) (by omega) (by omega)]
  omega

def raddK (a b : Int) (bad : Bool) : Option (AV × Bool) :=
  bif decide (raddS a b > 2305843009213693952) then some (.int .i64 0, true) else bif decide (raddS a b < -2305843009213693952) then some (.int .i64 0, true) else bif !rnum (wr .i64 (a + b)) then some (.int .i64 0, true) else some (.int .i64 (wr .i64 (a + b)), bad)
theorem raddK_eq {a b : Int} (ha : -4611686018427387904 ≤ a ∧ a ≤ 4611686018427387904) (hb : -4611686018427387904 ≤ b ∧ b ≤ 4611686018427387904) : raddK a b false = av (resB false (if okn (a + b) then some (a + b) else none)) := by
  unfold raddK
  have hS := raddS_eq ha hb
  generalize raddS a b = S at *
  rw [rnum_eq]
  by_cases hs : okn (a + b) = true
  · have i3 := okn_iff.1 hs
    rw [if_pos hs, decide_eq_false (by omega), bf, decide_eq_false (by omega), bf, w64_in (by omega) (by omega), hs, Bool.not_true, bf]; rfl
  · rw [if_neg hs]
    by_cases c1 : S > 2305843009213693952
    · rw [decide_eq_true c1, bt]; rfl
    · rw [decide_eq_false c1, bf]
      by_cases c2 : S < -2305843009213693952
      · rw [decide_eq_true c2, bt]; rfl
      · rw [decide_eq_false c2, bf, w64_in (by omega) (by omega)]
        have : okn (a + b) = false := by simpa using hs
        rw [this, Bool.not_false, bt]; rfl
theorem radd_plain (a b : Int) (bad : Bool) : ropRaw bad [a, b] (raddK a b) = av (add a b bad) := by
  unfold add
  cases h : (bad || [a, b].any (fun n => !okn n)) with
  | true => rw [ropRaw_bad h, lift_bad h]; rfl
  | false =>
    obtain ⟨_, h1, h2⟩ := all_ok2 h
    rw [ropRaw_ok h, lift_ok h, raddK_eq (okn_iff.1 h1) (okn_iff.1 h2)]
theorem rsub_plain (a b : Int) (bad : Bool) : (ropRaw bad [a, b] fun bad => some (.int .i64 (add a (wr .i64 (0 - b)) bad).1, (add a (wr .i64 (0 - b)) bad).2)) = av (sub a b bad) := by
  unfold sub
  cases h : (bad || [a, b].any (fun n => !okn n)) with
  | true => rw [ropRaw_bad h, lift_bad h]; rfl
  | false =>
    obtain ⟨_, h1, h2⟩ := all_ok2 h
    rw [ropRaw_ok h, lift_ok h]
    have i1 := okn_iff.1 h1
    have i2 := okn_iff.1 h2
    have hb : wr .i64 (0 - b) = -b := by rw [w64_in (by omega) (by omega)]; omega
    have h3 : okn (-b) = true := okn_iff.2 (by omega)
    rw [hb]
    unfold add
    rw [lift_ok (l := [a, -b]) (by simp [h1, h3])]
    rfl
theorem rmod_plain (a m : Int) (bad : Bool) : (ropRaw bad [a, m] fun bad => bif decide (m ≤ 0) then some (.int .i64 0, true) else bif m == 0 then none else some (.int .i64 (bif decide (a.tmod m < 0) then wr .i64 (a.tmod m + m) else a.tmod m), bad)) = av (mod a m bad) := by
  unfold mod
  cases h : (bad || [a, m].any (fun n => !okn n)) with
  | true => rw [ropRaw_bad h, lift_bad h]; rfl
  | false =>
    obtain ⟨_, h1, h2⟩ := all_ok2 h
    rw [ropRaw_ok h, lift_ok h]
    have i1 := okn_iff.1 h1
    have i2 := okn_iff.1 h2
    by_cases hn : m ≤ 0
    · rw [decide_eq_true hn, if_pos hn]; rfl
    · rw [decide_eq_false hn, if_neg hn, bf]
      have e0 : (m == 0) = false := by simp; omega
      rw [e0, bf]
      have hm : 0 < m := by omega
      have t1 : -m < a.tmod m ∧ a.tmod m < m := ⟨by have := Int.tmod_lt_of_pos (-a) hm; rw [Int.neg_tmod] at this; omega, Int.tmod_lt_of_pos a hm⟩
      have e2 := Int.tmod_add_mul_tdiv a m
      have e1 : a % m = if a.tmod m < 0 then a.tmod m + m else a.tmod m := by
        conv => lhs; rw [← e2]
        rw [Int.add_mul_emod_self_left]
        split
        · rw [← Int.add_emod_right, Int.emod_eq_of_lt (by omega) (by omega)]
        · rw [Int.emod_eq_of_lt (by omega) (by omega)]
      rw [e1]
      by_cases c : a.tmod m < 0
      · rw [decide_eq_true c, bt, if_pos c, w64_in (by omega) (by omega)]; rfl
      · rw [decide_eq_false c, bf, if_neg c]; rfl

/-! ### Roots -/
def abI (h1 l1 h2 l2 : Int) : Bool := bif decide (h1 > h2) then true else bif h1 == h2 then decide (l1 > l2) else false
theorem abI_eq {h1 l1 h2 l2 : Int} (a3 : 0 ≤ l1) (a4 : l1 < 18446744073709551616) (b3 : 0 ≤ l2) (b4 : l2 < 18446744073709551616) :
    abI h1 l1 h2 l2 = decide (h1 * 18446744073709551616 + l1 > h2 * 18446744073709551616 + l2) := by
  unfold abI
  by_cases c1 : h1 > h2
  · rw [decide_eq_true c1, bt]; exact (decide_eq_true (by omega)).symm
  · rw [decide_eq_false c1, bf]
    by_cases c2 : h1 = h2
    · have : (h1 == h2) = true := by simp; exact c2
      rw [this, bt]
      by_cases c3 : l1 > l2
      · rw [decide_eq_true c3, decide_eq_true (by omega)]
      · rw [decide_eq_false c3, decide_eq_false (by omega)]
    · have : (h1 == h2) = false := by simp; exact c2
      rw [this, bf]; exact (decide_eq_false (by omega)).symm
theorem rroot_eq {h l : Int} {N : Nat} (hN : h * 18446744073709551616 + l = (N : Int)) (l0 : 0 ≤ l) (l1 : l < 18446744073709551616) : ∀ (k r : Nat), r + 2 ^ k ≤ 2 ^ 63 → rroot thI tlI abI h l k (r : Int) = (isqB N k r : Int)
  | 0, r, _ => rfl
  | k + 1, r, hr => by
    have hpk : 2 ^ (k + 1) = 2 * 2 ^ k := by rw [Nat.pow_succ]; omega
    have h63 : (2 : Nat) ^ 63 = 9223372036854775808 := by kernel_rfl
    have hk : k ≤ 62 := by
      apply Nat.le_of_not_lt
      intro hlt
      have := Nat.pow_lt_pow_right (a := 2) (by omega) (show 63 < k + 1 by omega)
      omega
    unfold rroot isqB
    dsimp only
    have hm : min k 64 = k := by omega
    have ht : wr .u64 ((r : Int) + wr .u64 (1 * p2 (min k 64))) = ((r + 2 ^ k : Nat) : Int) := by
      have hp : p2 k = ((2 ^ k : Nat) : Int) := rfl
      rw [hm, Int.one_mul, hp, wu64_in (n := ((2 ^ k : Nat) : Int)) (by omega) (by omega), wu64_in (by omega) (by omega), Int.natCast_add]
    rw [ht]
    generalize hte : r + 2 ^ k = t at *
    obtain ⟨t1, t2⟩ := times_eq (a := (t : Int)) (b := (t : Int)) (in64_iff.2 (by omega)) (in64_iff.2 (by omega))
    rw [t1, t2, abI_eq (by omega) (by omega) l0 l1, hN]
    have e : (t : Int) * t = ((t * t : Nat) : Int) := by rw [Int.natCast_mul]
    rw [e]
    by_cases c : t * t ≤ N
    · rw [decide_eq_false (by omega), if_pos c, Bool.not_false, bt]
      exact rroot_eq hN l0 l1 k t (by omega)
    · rw [decide_eq_true (by omega), if_neg c, Bool.not_true, bf]
      exact rroot_eq hN l0 l1 k r (by omega)

theorem rsqrt_plain (a : Int) (bad : Bool) : (ropRaw bad [a] fun bad => bif decide (a < 0) then some (.int .i64 0, true) else rgive (rroot thI tlI abI (thI (wr .u64 a) 1099511627776) (tlI (wr .u64 a) 1099511627776) 52 0) false bad) = av (sqrt a bad) := by
  unfold sqrt
  cases h : (bad || [a].any (fun n => !okn n)) with
  | true => rw [ropRaw_bad h, lift_bad h]; rfl
  | false =>
    obtain ⟨_, h1⟩ := all_ok1 h
    rw [ropRaw_ok h, lift_ok h]
    have i1 := okn_iff.1 h1
    by_cases hn : a < 0
    · rw [decide_eq_true hn, if_pos hn, bt]; rfl
    · rw [decide_eq_false hn, if_neg hn, bf]
      rw [wu64_in (n := a) (by omega) (by omega)]
      obtain ⟨t1, t2⟩ := times_eq (a := a) (b := 1099511627776) (in64_iff.2 (by omega)) (in64_iff.2 (by omega))
      have hr := rroot_eq (h := thI a 1099511627776) (l := tlI a 1099511627776) (N := a.toNat * 1099511627776) (by rw [t1, t2]; omega) (by omega) (by omega) 52 0 (by decide)
      have h0 : ((0 : Nat) : Int) = 0 := rfl
      rw [h0] at hr
      rw [hr]
      have h104 : ((0 + 2 ^ 52) * (0 + 2 ^ 52) : Nat) = 20282409603651670423947251286016 := by kernel_rfl
      have h128 : (2 : Nat) ^ 128 = 340282366920938463463374607431768211456 := by kernel_rfl
      rw [isqB_isq (by rw [h128]; omega) (by omega) (by rw [h104]; omega)]
      have hr := (isq_ok (N := a.toNat * 1099511627776) (by rw [h128]; omega)).1
      have hle : isq (a.toNat * 1099511627776) ≤ 4611686018427387904 := by
        apply Nat.le_of_not_lt
        intro hlt
        have := Nat.mul_self_le_mul_self (show 4611686018427387904 ≤ isq (a.toNat * 1099511627776) by omega)
        omega
      generalize isq (a.toNat * 1099511627776) = r at *
      rw [rgive_in (by omega) (by omega)]
      rfl
theorem rnorm_plain (a b c : Int) (bad : Bool) : (ropRaw bad [a, b, c] fun bad =>
        rgive (rroot thI tlI abI (waH (waH (thI (sz a) (sz a)) (tlI (sz a) (sz a)) (thI (sz b) (sz b)) (tlI (sz b) (sz b))) (wr .u64 (tlI (sz a) (sz a) + tlI (sz b) (sz b))) (thI (sz c) (sz c)) (tlI (sz c) (sz c)))
          (wr .u64 (wr .u64 (tlI (sz a) (sz a) + tlI (sz b) (sz b)) + tlI (sz c) (sz c))) 63 0) false bad) = av (norm a b c bad) := by
  unfold norm
  cases h : (bad || [a, b, c].any (fun n => !okn n)) with
  | true => rw [ropRaw_bad h, lift_bad h]; rfl
  | false =>
    obtain ⟨_, h1, h2, h3⟩ := all_ok3 h
    rw [ropRaw_ok h, lift_ok h]
    have sq : ∀ n : Int, okn n = true → ∃ q : Nat, n.natAbs * n.natAbs = q ∧ q ≤ 21267647932558653966460912964485513216 ∧ thI (sz n) (sz n) = (q : Int) / 18446744073709551616 ∧ tlI (sz n) (sz n) = (q : Int) % 18446744073709551616 := fun n hn => by
      have i := okn_iff.1 hn
      have := Nat.mul_le_mul (show n.natAbs ≤ 4611686018427387904 by omega) (show n.natAbs ≤ 4611686018427387904 by omega)
      obtain ⟨e1, e2⟩ := sz_eq (rng_of hn)
      obtain ⟨t1, t2⟩ := times_eq (a := (n.natAbs : Int)) (b := (n.natAbs : Int)) (in64_iff.2 (by omega)) (in64_iff.2 (by omega))
      refine ⟨_, rfl, by omega, ?_, ?_⟩
      · rw [e1, t1, Int.natCast_mul]
      · rw [e1, t2, Int.natCast_mul]
    obtain ⟨qa, a1, a2, a3, a4⟩ := sq a h1
    obtain ⟨qb, b1, b2, b3, b4⟩ := sq b h2
    obtain ⟨qc, c1, c2, c3, c4⟩ := sq c h3
    rw [a1, b1, c1]
    generalize thI (sz a) (sz a) = ah at *
    generalize tlI (sz a) (sz a) = al at *
    generalize thI (sz b) (sz b) = bh at *
    generalize tlI (sz b) (sz b) = bl at *
    generalize thI (sz c) (sz c) = ch at *
    generalize tlI (sz c) (sz c) = cl at *
    obtain ⟨s1, s2, s3, s4, s5⟩ := wa_val (h1 := ah) (l1 := al) (h2 := bh) (l2 := bl) (by omega) (by omega) (by omega) (by omega) (by omega) (by omega) (by omega) (by omega)
    generalize waH ah al bh bl = sh at *
    generalize wr .u64 (al + bl) = sl at *
    obtain ⟨u1, u2, u3, u4, u5⟩ := wa_val (h1 := sh) (l1 := sl) (h2 := ch) (l2 := cl) s1 s2 s3 s4 (by omega) (by omega) (by omega) (by omega)
    generalize waH sh sl ch cl = vh at *
    generalize wr .u64 (sl + cl) = vl at *
    have hr := rroot_eq (h := vh) (l := vl) (N := qa + qb + qc) (by omega) u3 u4 63 0 (by decide)
    have h0 : ((0 : Nat) : Int) = 0 := rfl
    rw [h0] at hr
    rw [hr]
    have h126 : ((0 + 2 ^ 63) * (0 + 2 ^ 63) : Nat) = 85070591730234615865843651857942052864 := by kernel_rfl
    have h128 : (2 : Nat) ^ 128 = 340282366920938463463374607431768211456 := by kernel_rfl
    rw [isqB_isq (by rw [h128]; omega) (by omega) (by rw [h126]; omega)]
    unfold upTo
    generalize isq (qa + qb + qc) = r at *
    by_cases hb : r > 4611686018427387904
    · rw [if_pos hb, rgive_big (by omega)]; rfl
    · rw [if_neg hb, rgive_in (by omega) (by omega)]; rfl

/-! ### The contracts -/
theorem above_con : PureOk Try.prog 61 anyA (abF abI) := by
  refine pure_of ok_nil 40 _ _ _ ?_
  rintro args v - h
  unfold abF at h
  split at h <;> cases h
  exact ⟨rfl, rfl, by kernel_rfl⟩
theorem rbase_ok {ad : Int → Int → Bool → Int × Bool} (hA : RMeth 29 (int2 ad)) : EnvOk Try.prog (envN sz thI tlI abI ratF ad) :=
  EnvOk.t (EnvOk.e (EnvOk.t (EnvOk.c (EnvOk.p (EnvOk.p (EnvOk.p (EnvOk.c (EnvOk.e ok_nil en_rAdd hA) en_add wa_ok) en_above above_con) en_times times_con) en_size rsize_con) en_number number_ok) en_rgive) en_rratio rratio_con) en_rtake
def envA : Env := [(49, .text), (51, .calc numF)]
theorem radd_raw' (a b : Int) (bad : Bool) : acall Try.prog envA 60 29 [.ptr 0 0, .int .i64 a, .int .i64 b] [.cells [.bool bad] 27] (flowK 27) =
    ropRaw bad [a, b] (raddK a b) := by kernel_rfl
theorem radd_con : RMeth 29 (int2 add) := by
  have hE : EnvOk Try.prog envA := EnvOk.t (EnvOk.c ok_nil en_number number_ok) en_rtake
  refine flow_of hE 60 _ _ (fun _ => true) _ ?_
  intro args g _ h bad
  obtain ⟨a, b, rfl, hg⟩ := int2_some h
  rw [radd_raw', radd_plain, hg]
theorem rsub_con : RMeth 37 (int2 sub) := by
  refine flow_of (rbase_ok radd_con) 60 _ _ (fun _ => true) _ ?_
  intro args g _ h bad
  obtain ⟨a, b, rfl, hg⟩ := int2_some h
  rw [rsub_raw, rsub_plain, hg]
theorem rmul_con : RMeth 30 (int2 mul) := by
  refine flow_of (rbase_ok radd_con) 60 _ _ (fun _ => true) _ ?_
  intro args g _ h bad
  obtain ⟨a, b, rfl, hg⟩ := int2_some h
  rw [rmul_raw, rmul_plain, hg]
theorem rdiv_con : RMeth 27 (int2 div) := by
  refine flow_of (rbase_ok radd_con) 60 _ _ (fun _ => true) _ ?_
  intro args g _ h bad
  obtain ⟨a, b, rfl, hg⟩ := int2_some h
  rw [rdiv_raw, rdiv_plain, hg]
theorem rpart_con : RMeth 26 (int3 Fx.part) := by
  refine flow_of (rbase_ok radd_con) 60 _ _ (fun _ => true) _ ?_
  intro args g _ h bad
  obtain ⟨a, b, c, rfl, hg⟩ := int3_some h
  rw [rpart_raw, rpart_plain, hg]
theorem rmod_con : RMeth 67 (int2 mod) := by
  refine flow_of (rbase_ok radd_con) 60 _ _ (fun _ => true) _ ?_
  intro args g _ h bad
  obtain ⟨a, b, rfl, hg⟩ := int2_some h
  rw [rmod_raw, rmod_plain, hg]
theorem rsqrt_con : RMeth 64 (int1 sqrt) := by
  refine flow_of (rbase_ok radd_con) 90 _ _ (fun _ => true) _ ?_
  intro args g _ h bad
  obtain ⟨a, rfl, hg⟩ := int1_some h
  rw [rsqrt_raw, rsqrt_plain, hg]
theorem rnorm_con : RMeth 36 (int3 norm) := by
  refine flow_of (rbase_ok radd_con) 110 _ _ (fun _ => true) _ ?_
  intro args g _ h bad
  obtain ⟨a, b, c, rfl, hg⟩ := int3_some h
  rw [rnorm_raw, rnorm_plain, hg]
#print axioms rnorm_con
#print axioms rsqrt_con
#print axioms radd_con
end Go.Proofs.Ytcagaaaibhifdaa.Rx

/- Methods in the interpreter's list of callees. Conditions: none. -/
namespace Go.Proofs.Ytcagaaaibhifdaa.Lx
open Go Go.Proofs.Ytcagaaaibhifdaa.Ae Go.Proofs.Ytcagaaaibhifdaa.Fx

abbrev m2 (T : TypeId) (f : Int → Int → Bool → Int × Bool) : Ae.Spec := .flow T (int2 f)
abbrev m3 (T : TypeId) (f : Int → Int → Int → Bool → Int × Bool) : Ae.Spec := .flow T (int3 f)
abbrev m1 (T : TypeId) (f : Int → Bool → Int × Bool) : Ae.Spec := .flow T (int1 f)
theorem _root_.Go.Proofs.Ytcagaaaibhifdaa.Ae.EnvOk.f {P : Program} {env : Env} (t : EnvOk P env) {f : FuncId} (h : EnterOk P f) {T : TypeId} {F : List AV → Option (Bool → AV × Bool)} (k : EffOk P f (fun _ => true) (flowSpec T F)) : EnvOk P ((f, .flow T F) :: env) := EnvOk.cons (s := .flow T F) ⟨h, k⟩ t
end Go.Proofs.Ytcagaaaibhifdaa.Lx

/- The functions of package trig and of its reference, as the interpreter finds them. Conditions: none. -/
namespace Go.Proofs.Ytcagaaaibhifdaa.Tx
open Go Go.Proofs.Ytcagaaaibhifdaa.Ae Go.Proofs.Ytcagaaaibhifdaa.Fx Go.Proofs.Ytcagaaaibhifdaa.Lx

abbrev Op1 := Int → Bool → Int × Bool
abbrev Op2 := Int → Int → Bool → Int × Bool
abbrev Op3 := Int → Int → Int → Bool → Int × Bool

section
variable (ad su mu di mo : Op2) (sq : Op1) (pa : Op3)

/-! ### The program's -/
def serL (u first : Int) : Nat → Int × Bool → Int × Bool
  | 0, s => s
  | k + 1, s =>
    let n : Int := ((2 * (k + 1) : Nat) : Int)
    let s1 := mu u s.1 s.2
    let s2 := pa s1.1 1 (wr .i64 (wr .i64 (wr .i64 (n + first) - 1) * wr .i64 (n + first))) s1.2
    serL u first k (su 1099511627776 s2.1 s2.2)
def serRaw (t first : Int) (bad : Bool) : Option (AV × Bool) :=
  let u := mu t t bad
  let v := serL su mu pa u.1 first 10 (1099511627776, u.2)
  bif first == 1 then some (.int .i64 (mu t v.1 v.2).1, (mu t v.1 v.2).2) else some (.int .i64 v.1, v.2)
def envS : Env := [(22, m2 25 mu), (34, m2 25 su), (19, m3 25 pa)]
theorem ser_raw (t first : Int) (bad : Bool) : acall Try.prog (envS su mu pa) 60 72 [.ptr 0 0, .int .i64 t, .int .i64 first] [.cells [.bool bad] 25] (flowK 25) = serRaw su mu pa t first bad := by kernel_rfl
end
section
variable (mo se : Op2)
def turnRaw (a q : Int) (bad : Bool) : Option (AV × Bool) :=
  let r := mo a 6908435304716 bad
  bif r.2 then some (.int .i64 0, r.2) else
  let k := (wr .i64 (wr .i64 (r.1.tdiv 1727108826179) + q)).tmod 4
  let v := se (r.1.tmod 1727108826179) (wr .i64 (1 - k.tmod 2)) r.2
  bif decide (k > 1) then some (.int .i64 (wr .i64 (0 - v.1)), v.2) else some (.int .i64 v.1, v.2)
def envU : Env := [(65, m2 25 mo), (72, m2 25 se)]
theorem turn_raw (a q : Int) (bad : Bool) : acall Try.prog (envU mo se) 60 66 [.ptr 0 0, .int .i64 a, .int .i64 q] [.cells [.bool bad] 25] (flowK 25) = turnRaw mo se a q bad := by kernel_rfl
end
section
variable (tu : Op2)
def envV : Env := [(66, m2 25 tu)]
theorem sin_raw (a : Int) (bad : Bool) : acall Try.prog (envV tu) 60 41 [.ptr 0 0, .int .i64 a] [.cells [.bool bad] 25] (flowK 25) = some (.int .i64 (tu a 0 bad).1, (tu a 0 bad).2) := by kernel_rfl
theorem cos_raw (a : Int) (bad : Bool) : acall Try.prog (envV tu) 60 40 [.ptr 0 0, .int .i64 a] [.cells [.bool bad] 25] (flowK 25) = some (.int .i64 (tu a 1 bad).1, (tu a 1 bad).2) := by kernel_rfl
end

/-! ### The reference's -/
section
variable (su mu : Op2) (pa : Op3)
def rserL (u first : Int) : Nat → Int × Bool → Int × Bool
  | 0, s => s
  | k + 1, s =>
    let n : Int := ((2 * (k + 1) : Nat) : Int)
    let s1 := mu u s.1 s.2
    let s2 := pa s1.1 1 ((n + first - 1) * (n + first)) s1.2
    rserL u first k (su 1099511627776 s2.1 s2.2)
def renvS : Env := [(30, m2 27 mu), (37, m2 27 su), (26, m3 27 pa)]
theorem rs_raw (t : Int) (bad : Bool) : acall Try.prog (renvS su mu pa) 60 69 [.ptr 0 0, .int .i64 t] [.cells [.bool bad] 27] (flowK 27) =
    let v := rserL su mu pa (mu t t bad).1 1 10 (1099511627776, (mu t t bad).2)
    some (.int .i64 (mu t v.1 v.2).1, (mu t v.1 v.2).2) := by kernel_rfl
theorem rc_raw (t : Int) (bad : Bool) : acall Try.prog (renvS su mu pa) 60 68 [.ptr 0 0, .int .i64 t] [.cells [.bool bad] 27] (flowK 27) =
    let v := rserL su mu pa (mu t t bad).1 0 10 (1099511627776, (mu t t bad).2)
    some (.int .i64 v.1, v.2) := by kernel_rfl
end
section
variable (mo : Op2) (s c : Op1)
def rcase (k : Int) (p q r t : Option (AV × Bool)) : Option (AV × Bool) := bif k == 0 then p else bif k == 1 then q else bif k == 2 then r else t
def rend (v : Int × Bool) (neg : Bool) : Option (AV × Bool) := some (.int .i64 (bif neg then wr .i64 (0 - v.1) else v.1), v.2)
def rsinRaw (a : Int) (bad : Bool) : Option (AV × Bool) :=
  let r := mo a 6908435304716 bad
  bif r.2 then some (.int .i64 0, r.2) else
  let k := wr .i64 (r.1.tdiv 1727108826179)
  let t := wr .i64 (r.1 - wr .i64 (k * 1727108826179))
  rcase k (rend (s t r.2) false) (rend (c t r.2) false) (rend (s t r.2) true) (rend (c t r.2) true)
def rcosRaw (a : Int) (bad : Bool) : Option (AV × Bool) :=
  let r := mo a 6908435304716 bad
  bif r.2 then some (.int .i64 0, r.2) else
  let k := wr .i64 (r.1.tdiv 1727108826179)
  let t := wr .i64 (r.1 - wr .i64 (k * 1727108826179))
  rcase k (rend (c t r.2) false) (rend (s t r.2) true) (rend (c t r.2) true) (rend (s t r.2) false)
def renvU : Env := [(67, m2 27 mo), (69, m1 27 s), (68, m1 27 c)]
theorem rsin_raw (a : Int) (bad : Bool) : acall Try.prog (renvU mo s c) 60 44 [.ptr 0 0, .int .i64 a] [.cells [.bool bad] 27] (flowK 27) = rsinRaw mo s c a bad := by kernel_rfl
theorem rcos_raw (a : Int) (bad : Bool) : acall Try.prog (renvU mo s c) 60 43 [.ptr 0 0, .int .i64 a] [.cells [.bool bad] 27] (flowK 27) = rcosRaw mo s c a bad := by kernel_rfl
end
end Go.Proofs.Ytcagaaaibhifdaa.Tx

/- The contracts of sines and cosines, the program's and the reference's: the same plain functions. Conditions: none. -/
namespace Go.Proofs.Ytcagaaaibhifdaa.Tx
open Go Go.Proofs.Ytcagaaaibhifdaa.Ae Go.Proofs.Ytcagaaaibhifdaa.Fx Go.Proofs.Ytcagaaaibhifdaa.Lx Go.Proofs.Ytcagaaaibhifdaa.Rx

def serP (t first : Int) (bad : Bool) : Int × Bool :=
  let u := mul t t bad
  let v := serL sub mul Fx.part u.1 first 10 (1099511627776, u.2)
  bif first == 1 then mul t v.1 v.2 else v
def turnP (a q : Int) (bad : Bool) : Int × Bool :=
  let r := mod a 6908435304716 bad
  bif r.2 then (0, r.2) else
  let k := (wr .i64 (wr .i64 (r.1.tdiv 1727108826179) + q)).tmod 4
  let v := serP (r.1.tmod 1727108826179) (wr .i64 (1 - k.tmod 2)) r.2
  bif decide (k > 1) then (wr .i64 (0 - v.1), v.2) else v
def sinP (a : Int) (bad : Bool) : Int × Bool := turnP a 0 bad
def cosP (a : Int) (bad : Bool) : Int × Bool := turnP a 1 bad

theorem serRaw_eq (t first : Int) (bad : Bool) : serRaw sub mul Fx.part t first bad = av (serP t first bad) := by
  unfold serRaw serP
  dsimp only
  cases (first == 1) <;> rfl
theorem turnRaw_eq (a q : Int) (bad : Bool) : turnRaw mod serP a q bad = av (turnP a q bad) := by
  unfold turnRaw turnP
  dsimp only
  cases (mod a 6908435304716 bad).2
  · simp only [cond_false]
    cases decide ((wr .i64 (wr .i64 ((mod a 6908435304716 bad).1.tdiv 1727108826179) + q)).tmod 4 > 1) <;> rfl
  · rfl

theorem en_series : EnterOk Try.prog 72 := enter_of Try.func72 (by kernel_rfl) rfl
theorem en_turn : EnterOk Try.prog 66 := enter_of Try.func66 (by kernel_rfl) rfl
theorem en_Sin : EnterOk Try.prog 41 := enter_of Try.func41 (by kernel_rfl) rfl
theorem en_Cos : EnterOk Try.prog 40 := enter_of Try.func40 (by kernel_rfl) rfl
theorem en_rs : EnterOk Try.prog 69 := enter_of Try.func69 (by kernel_rfl) rfl
theorem en_rc : EnterOk Try.prog 68 := enter_of Try.func68 (by kernel_rfl) rfl
theorem en_rSin : EnterOk Try.prog 44 := enter_of Try.func44 (by kernel_rfl) rfl
theorem en_rCos : EnterOk Try.prog 43 := enter_of Try.func43 (by kernel_rfl) rfl
theorem en_rMul : EnterOk Try.prog 30 := enter_of Try.func30 (by kernel_rfl) rfl
theorem en_rDiv : EnterOk Try.prog 27 := enter_of Try.func27 (by kernel_rfl) rfl
theorem en_rPart : EnterOk Try.prog 26 := enter_of Try.func26 (by kernel_rfl) rfl
theorem en_rMod : EnterOk Try.prog 67 := enter_of Try.func67 (by kernel_rfl) rfl
theorem en_rSqrt : EnterOk Try.prog 64 := enter_of Try.func64 (by kernel_rfl) rfl
theorem en_rNorm : EnterOk Try.prog 36 := enter_of Try.func36 (by kernel_rfl) rfl
theorem en_rSub : EnterOk Try.prog 37 := enter_of Try.func37 (by kernel_rfl) rfl

theorem ser_con : Meth 72 (int2 serP) := by
  refine flow_of (EnvOk.f (EnvOk.f (EnvOk.f ok_nil en_part part_con) en_sub sub_con) en_mul mul_con) 60 _ _ (fun _ => true) _ ?_
  intro args g _ h bad
  obtain ⟨a, b, rfl, hg⟩ := int2_some h
  exact (ser_raw sub mul Fx.part a b bad).trans ((serRaw_eq a b bad).trans (hg bad).symm)
theorem turn_con : Meth 66 (int2 turnP) := by
  refine flow_of (EnvOk.f (EnvOk.f ok_nil en_series ser_con) en_mod mod_con) 60 _ _ (fun _ => true) _ ?_
  intro args g _ h bad
  obtain ⟨a, b, rfl, hg⟩ := int2_some h
  exact (turn_raw mod serP a b bad).trans ((turnRaw_eq a b bad).trans (hg bad).symm)
theorem sin_con : Meth 41 (int1 sinP) := by
  refine flow_of (EnvOk.f ok_nil en_turn turn_con) 60 _ _ (fun _ => true) _ ?_
  intro args g _ h bad
  obtain ⟨a, rfl, hg⟩ := int1_some h
  exact (sin_raw turnP a bad).trans (hg bad).symm
theorem cos_con : Meth 40 (int1 cosP) := by
  refine flow_of (EnvOk.f ok_nil en_turn turn_con) 60 _ _ (fun _ => true) _ ?_
  intro args g _ h bad
  obtain ⟨a, rfl, hg⟩ := int1_some h
  exact (cos_raw turnP a bad).trans (hg bad).symm

/-! ### The reference's -/
theorem rserL_1 (su mu : Op2) (pa : Op3) (u : Int) (s : Int × Bool) : rserL su mu pa u 1 10 s = serL su mu pa u 1 10 s := by kernel_rfl
theorem rserL_0 (su mu : Op2) (pa : Op3) (u : Int) (s : Int × Bool) : rserL su mu pa u 0 10 s = serL su mu pa u 0 10 s := by kernel_rfl
def sP (t : Int) (bad : Bool) : Int × Bool := serP t 1 bad
def cP (t : Int) (bad : Bool) : Int × Bool := serP t 0 bad
theorem rs_con : RMeth 69 (int1 sP) := by
  refine flow_of (EnvOk.f (EnvOk.f (EnvOk.f ok_nil en_rPart rpart_con) en_rSub rsub_con) en_rMul rmul_con) 60 _ _ (fun _ => true) _ ?_
  intro args g _ h bad
  obtain ⟨a, rfl, hg⟩ := int1_some h
  refine (rs_raw sub mul Fx.part a bad).trans (Eq.trans ?_ (hg bad).symm)
  dsimp only
  rw [rserL_1]; rfl
theorem rc_con : RMeth 68 (int1 cP) := by
  refine flow_of (EnvOk.f (EnvOk.f (EnvOk.f ok_nil en_rPart rpart_con) en_rSub rsub_con) en_rMul rmul_con) 60 _ _ (fun _ => true) _ ?_
  intro args g _ h bad
  obtain ⟨a, rfl, hg⟩ := int1_some h
  refine (rc_raw sub mul Fx.part a bad).trans (Eq.trans ?_ (hg bad).symm)
  dsimp only
  rw [rserL_0]; rfl

theorem mod_range {a m : Int} {bad : Bool} (hm : 0 < m) (h : (mod a m bad).2 = false) : 0 ≤ (mod a m bad).1 ∧ (mod a m bad).1 < m := by
  unfold mod at *
  rw [if_neg (show ¬ m ≤ 0 by omega)] at *
  unfold lift at *
  split at h
  · cases h
  · rename_i hc
    rw [if_neg hc]
    exact ⟨Int.emod_nonneg _ (by omega), Int.emod_lt_of_pos _ hm⟩

theorem quarter {r : Int} (h0 : 0 ≤ r) (h1 : r < 6908435304716) : ∃ k t : Int, r.tdiv 1727108826179 = k ∧ r.tmod 1727108826179 = t ∧ wr .i64 (r - wr .i64 (wr .i64 k * 1727108826179)) = t ∧ wr .i64 k = k ∧ (k = 0 ∨ k = 1 ∨ k = 2 ∨ k = 3) ∧ r = k * 1727108826179 + t ∧ 0 ≤ t ∧ t < 1727108826179 := by
  refine ⟨r / 1727108826179, r % 1727108826179, Int.tdiv_eq_ediv_of_nonneg h0, Int.tmod_eq_emod_of_nonneg h0, ?_, w64_in (by omega) (by omega), by omega, by omega, by omega, by omega⟩
  rw [w64_in (n := r / 1727108826179) (by omega) (by omega), w64_in (n := r / 1727108826179 * 1727108826179) (by omega) (by omega), w64_in (by omega) (by omega)]
  omega

theorem rcase0 (p q r t : Option (AV × Bool)) : rcase 0 p q r t = p := by
  unfold rcase; rw [show ((0 : Int) == 0) = true from by decide, bt]
theorem rcase1 (p q r t : Option (AV × Bool)) : rcase 1 p q r t = q := by
  unfold rcase; rw [show ((1 : Int) == 0) = false from by decide, bf, show ((1 : Int) == 1) = true from by decide, bt]
theorem rcase2 (p q r t : Option (AV × Bool)) : rcase 2 p q r t = r := by
  unfold rcase; rw [show ((2 : Int) == 0) = false from by decide, bf, show ((2 : Int) == 1) = false from by decide, bf, show ((2 : Int) == 2) = true from by decide, bt]
theorem rcase3 (p q r t : Option (AV × Bool)) : rcase 3 p q r t = t := by
  unfold rcase; rw [show ((3 : Int) == 0) = false from by decide, bf, show ((3 : Int) == 1) = false from by decide, bf, show ((3 : Int) == 2) = false from by decide, bf]
theorem rend_f (v : Int × Bool) : rend v false = av v := by unfold rend; rw [bf]; rfl
theorem rend_t (v : Int × Bool) : rend v true = av (wr .i64 (0 - v.1), v.2) := by unfold rend; rw [bt]; rfl
theorem rsinRaw_eq (a : Int) (bad : Bool) : rsinRaw mod sP cP a bad = av (sinP a bad) := by
  unfold rsinRaw sinP turnP
  dsimp only
  cases hb : (mod a 6908435304716 bad).2 with
  | true => rfl
  | false =>
    obtain ⟨h0, h1⟩ := mod_range (by omega) hb
    generalize (mod a 6908435304716 bad).1 = r at *
    obtain ⟨k, t, e1, e2, e3, e4, hk, _⟩ := quarter h0 h1
    simp only [cond_false]
    rw [e1, e2, e3, e4]
    unfold sP cP
    generalize serP t = F
    rcases hk with rfl | rfl | rfl | rfl
    · rw [rcase0, show (wr .i64 ((0 : Int) + 0)).tmod 4 = 0 from by decide, show wr .i64 (1 - (0 : Int).tmod 2) = 1 from by decide, show decide ((0 : Int) > 1) = false from by decide, bf, rend_f]
    · rw [rcase1, show (wr .i64 ((1 : Int) + 0)).tmod 4 = 1 from by decide, show wr .i64 (1 - (1 : Int).tmod 2) = 0 from by decide, show decide ((1 : Int) > 1) = false from by decide, bf, rend_f]
    · rw [rcase2, show (wr .i64 ((2 : Int) + 0)).tmod 4 = 2 from by decide, show wr .i64 (1 - (2 : Int).tmod 2) = 1 from by decide, show decide ((2 : Int) > 1) = true from by decide, bt, rend_t]
    · rw [rcase3, show (wr .i64 ((3 : Int) + 0)).tmod 4 = 3 from by decide, show wr .i64 (1 - (3 : Int).tmod 2) = 0 from by decide, show decide ((3 : Int) > 1) = true from by decide, bt, rend_t]
theorem rcosRaw_eq (a : Int) (bad : Bool) : rcosRaw mod sP cP a bad = av (cosP a bad) := by
  unfold rcosRaw cosP turnP
  dsimp only
  cases hb : (mod a 6908435304716 bad).2 with
  | true => rfl
  | false =>
    obtain ⟨h0, h1⟩ := mod_range (by omega) hb
    generalize (mod a 6908435304716 bad).1 = r at *
    obtain ⟨k, t, e1, e2, e3, e4, hk, _⟩ := quarter h0 h1
    simp only [cond_false]
    rw [e1, e2, e3, e4]
    unfold sP cP
    generalize serP t = F
    rcases hk with rfl | rfl | rfl | rfl
    · rw [rcase0, show (wr .i64 ((0 : Int) + 1)).tmod 4 = 1 from by decide, show wr .i64 (1 - (1 : Int).tmod 2) = 0 from by decide, show decide ((1 : Int) > 1) = false from by decide, bf, rend_f]
    · rw [rcase1, show (wr .i64 ((1 : Int) + 1)).tmod 4 = 2 from by decide, show wr .i64 (1 - (2 : Int).tmod 2) = 1 from by decide, show decide ((2 : Int) > 1) = true from by decide, bt, rend_t]
    · rw [rcase2, show (wr .i64 ((2 : Int) + 1)).tmod 4 = 3 from by decide, show wr .i64 (1 - (3 : Int).tmod 2) = 0 from by decide, show decide ((3 : Int) > 1) = true from by decide, bt, rend_t]
    · rw [rcase3, show (wr .i64 ((3 : Int) + 1)).tmod 4 = 0 from by decide, show wr .i64 (1 - (0 : Int).tmod 2) = 1 from by decide, show decide ((0 : Int) > 1) = false from by decide, bf, rend_f]
theorem rsin_con : RMeth 44 (int1 sinP) := by
  refine flow_of (EnvOk.f (EnvOk.f (EnvOk.f ok_nil en_rc rc_con) en_rs rs_con) en_rMod rmod_con) 60 _ _ (fun _ => true) _ ?_
  intro args g _ h bad
  obtain ⟨a, rfl, hg⟩ := int1_some h
  exact (rsin_raw mod sP cP a bad).trans ((rsinRaw_eq a bad).trans (hg bad).symm)
theorem rcos_con : RMeth 43 (int1 cosP) := by
  refine flow_of (EnvOk.f (EnvOk.f (EnvOk.f ok_nil en_rc rc_con) en_rs rs_con) en_rMod rmod_con) 60 _ _ (fun _ => true) _ ?_
  intro args g _ h bad
  obtain ⟨a, rfl, hg⟩ := int1_some h
  exact (rcos_raw mod sP cP a bad).trans ((rcosRaw_eq a bad).trans (hg bad).symm)
#print axioms rcos_con
end Go.Proofs.Ytcagaaaibhifdaa.Tx

/- Shorthands of the texts above. Conditions: none. -/
namespace Go.Proofs.Ytcagaaaibhifdaa.Te
open Go Go.Proofs.Ytcagaaaibhifdaa.Ae Go.Proofs.Ytcagaaaibhifdaa.Fx Go.Proofs.Ytcagaaaibhifdaa.Lx Go.Proofs.Ytcagaaaibhifdaa.Tx Go.Proofs.Ytcagaaaibhifdaa.Row Go.Proofs.Ytcagaaaibhifdaa.Rx
abbrev I (n : Int) : AV := .int .i64 n
def pK (v : AV) (_ : List AB) : Option AV := bif v.noPtr then some v else none
def an (a b : Bool) : Bool := bif a then b else false
def oor (a b : Bool) : Bool := bif a then true else b
def yesF : List AV → Option AV
  | [] => some (.bool true)
  | _ => none
/-- A frame, or none. -/
structure Fr where
  (k : Int)
  s : ByteArray
  ok : Bool
def Fr.av (x : Fr) : AV := .tup [.agg [I x.k, .str x.s], .bool x.ok]
def fEq (k k' : Int) (s s' : ByteArray) : Bool := (k == k') && ((s == s') && true)
theorem an_eq (a b : Bool) : an a b = (a && b) := by cases a <;> rfl
theorem dand (p q : Prop) [Decidable p] [Decidable q] : (decide p && decide q) = decide (p ∧ q) := by
  by_cases hp : p <;> by_cases hq : q <;> simp [hp, hq]
theorem p2_8 : p2 8 = 256 := by decide
theorem u8_eq (n : Int) : wr .u8 n = n % 256 := rfl
theorem or_small {a b : Nat} (hb : b < 256) : 256 * a ||| b = 256 * a + b := by
  have h : b < 2 ^ 8 := by omega
  have := or_add (a := a) (i := 8) h
  have e : (2 : Nat) ^ 8 = 256 := by decide
  rw [e] at this; exact this
/-- A byte beside others. -/
theorem bor64_lo {x b : Int} (hx : 0 ≤ x) (hx1 : x < 36028797018963968) (hb : 0 ≤ b ∧ b < 256) : bor .i64 (x * 256) b = x * 256 + b := by
  have h : bor .i64 (x * 256) b = wr .i64 ((BitVec.ofInt 64 (x * 256) ||| BitVec.ofInt 64 b).toNat : Int) := by unfold bor; rw [wr_eq]; rfl
  rw [h, BitVec.toNat_or, ofInt_toNat (by omega) (by omega), ofInt_toNat (by omega) (by omega)]
  have e : (x * 256).toNat = 256 * x.toNat := by omega
  rw [e, or_small (by omega), w64_in (by omega) (by omega)]
  omega
theorem ofInt16_toNat {x : Int} (h0 : 0 ≤ x) (h1 : x < 65536) : (BitVec.ofInt 16 x).toNat = x.toNat := by
  rw [BitVec.toNat_ofInt]
  have : x % ((2 ^ 16 : Nat) : Int) = x := Int.emod_eq_of_lt h0 (by simpa using h1)
  rw [this]
theorem bor16_lo {x b : Int} (hx : 0 ≤ x ∧ x < 256) (hb : 0 ≤ b ∧ b < 256) : bor .u16 (x * 256) b = x * 256 + b := by
  have h : bor .u16 (x * 256) b = wr .u16 ((BitVec.ofInt 16 (x * 256) ||| BitVec.ofInt 16 b).toNat : Int) := by unfold bor; rw [wr_eq]; rfl
  rw [h, BitVec.toNat_or, ofInt16_toNat (by omega) (by omega), ofInt16_toNat (by omega) (by omega)]
  have e : (x * 256).toNat = 256 * x.toNat := by omega
  rw [e, or_small (by omega)]
  have : wr .u16 (((256 * x.toNat + b.toNat : Nat)) : Int) = ((256 * x.toNat + b.toNat : Nat) : Int) % 65536 := rfl
  rw [this]
  omega
def B (g : Nat → Int) : Prop := ∀ i, 0 ≤ g i ∧ g i < 256
/-- What stands in bytes. -/
def sg (a b : Int) : Int := if a * 256 + b ≥ 32768 then a * 256 + b - 65536 else a * 256 + b
def gOf (s : ByteArray) (i : Nat) : Int := ((s.data.getD i 0).toNat : Int)
theorem gOf_B (s : ByteArray) : B (gOf s) := fun i => by
  unfold gOf
  have := (s.data.getD i 0).toNat_lt
  omega
theorem R_strG (m : List Nat) (s : ByteArray) {V : Value} (h : R m (.str s) V) : R m (.strG s s.size (gOf s)) V := by
  simp only [R] at h ⊢
  exact ⟨h, trivial, fun i _ => rfl⟩
theorem R_strF (m : List Nat) (s : ByteArray) (lo : Nat) (ex : List Int) (hlo : lo ≤ s.size) (hex : ∀ c ∈ ex, (s.size : Int) ≠ c) {V : Value} (h : R m (.str s) V) : R m (.strF s lo (gOf s) ex) V := by
  simp only [R] at h ⊢
  exact ⟨h, ⟨hlo, fun i _ => rfl⟩, hex⟩
theorem RL_frame {m : List Nat} {k : Int} {s : ByteArray} {a : AV} (h : ∀ V, R m (.str s) V → R m a V) {Vs : List Value} (hv : RL m [.agg [I k, .str s]] Vs) : RL m [.agg [I k, a]] Vs := by
  obtain ⟨V, Vs', rfl, h1, h2⟩ := RL_cons.1 hv
  refine RL.cons ?_ h2
  simp only [R] at h1 ⊢
  obtain ⟨Ws, rfl, h3⟩ := h1
  obtain ⟨W1, Ws1, rfl, h4, h5⟩ := RL_cons.1 h3
  obtain ⟨W2, Ws2, rfl, h6, h7⟩ := RL_cons.1 h5
  refine ⟨_, rfl, RL.cons h4 (RL.cons (h _ h6) h7)⟩
theorem oor_t (c : Bool) : oor c true = true := by cases c <;> rfl
theorem oor_f (c : Bool) : oor c false = c := by cases c <;> rfl
theorem gOf_strOf (l : List Int) {i : Nat} {n : Int} (h : l[i]? = some n) (h0 : 0 ≤ n ∧ n < 256) : gOf (strOf l) i = n := by
  unfold gOf strOf
  simp [Array.getD_eq_getD_getElem?, h]
  omega
theorem strOf_size (l : List Int) : (strOf l).size = l.length := by simp [strOf, ByteArray.size]
theorem bytes_refl (s : ByteArray) : (s == s) = true := by
  rw [beq_toListBytes]; simp
theorem fEq_refl (k : Int) (s : ByteArray) : fEq k k s s = true := by unfold fEq; rw [bytes_refl]; simp
theorem byte_back (s : ByteArray) (i : Nat) : UInt8.ofNat (gOf s i).toNat = s.data.getD i 0 := by
  unfold gOf; simp
theorem strOf_gOf {s : ByteArray} {l : List Int} (hl : l.length = s.size) (h : ∀ i, i < s.size → l[i]? = some (gOf s i)) : strOf l = s := by
  have : (strOf l).data = s.data := by
    apply Array.ext
    · rw [show (strOf l).data.size = (strOf l).size from rfl, strOf_size, hl]; rfl
    · intro i h1 h2
      have hi : i < s.size := h2
      have e := h i hi
      obtain ⟨hl2, e2⟩ := List.getElem?_eq_some_iff.1 e
      have : (strOf l).data[i] = UInt8.ofNat (l[i]).toNat := by simp [strOf]
      rw [this, e2, byte_back, Array.getD_eq_getD_getElem?, Array.getElem?_eq_getElem h2]
      rfl
  cases s; cases hq : strOf l; rw [hq] at this; simpa using this
theorem oor_eq (a b : Bool) : oor a b = (a || b) := by cases a <;> rfl
theorem eq_t {a b : Int} (h : a = b) : (a == b) = true := by simpa using h
theorem eq_f {a b : Int} (h : ¬ a = b) : (a == b) = false := by simpa using h
theorem ne_t {a b : Int} (h : ¬ a = b) : (a != b) = true := by simpa using h
theorem ne_f {a b : Int} (h : a = b) : (a != b) = false := by simpa using h
def ckT (t : Int) : Bool := an (decide (0 ≤ t)) (decide (t ≤ 157766400000))
end Go.Proofs.Ytcagaaaibhifdaa.Te

/- Three numbers, and their length. Conditions: none. -/
namespace Go.Proofs.Ytcagaaaibhifdaa.Ve
open Go Go.Proofs.Ytcagaaaibhifdaa.Ae Go.Proofs.Ytcagaaaibhifdaa.Fx Go.Proofs.Ytcagaaaibhifdaa.Lx Go.Proofs.Ytcagaaaibhifdaa.Tx Go.Proofs.Ytcagaaaibhifdaa.Rx Go.Proofs.Ytcagaaaibhifdaa.Te

structure V3 where
  x : Int
  y : Int
  z : Int
def V3.av (v : V3) : AV := .agg [I v.x, I v.y, I v.z]
abbrev V3.zero : V3 := ⟨0, 0, 0⟩
/-- A length's shape. -/
def nrmF (nr : Op3) : List AV → Option (Bool → AV × Bool)
  | [.agg [.int .i64 a, .int .i64 b, .int .i64 c]] => some fun bad => (.int .i64 (nr a b c bad).1, (nr a b c bad).2)
  | _ => none
theorem nrmF_some {nr : Op3} {args : List AV} {g : Bool → AV × Bool} (h : nrmF nr args = some g) : ∃ a b c, args = [.agg [I a, I b, I c]] ∧ ∀ bad, g bad = (.int .i64 (nr a b c bad).1, (nr a b c bad).2) := by
  unfold nrmF at h
  split at h <;> cases h
  exact ⟨_, _, _, rfl, fun _ => rfl⟩
section
variable (nr : Op3)
theorem vnorm_raw (a b c : Int) (bad : Bool) : acall Try.prog [(32, m3 25 nr)] 60 13 [.ptr 0 0, .agg [I a, I b, I c]] [.cells [.bool bad] 25] (flowK 25) = some (I (nr a b c bad).1, (nr a b c bad).2) := by kernel_rfl
theorem rvnorm_raw (a b c : Int) (bad : Bool) : acall Try.prog [(36, m3 27 nr)] 60 35 [.ptr 0 0, .agg [I a, I b, I c]] [.cells [.bool bad] 27] (flowK 27) = some (I (nr a b c bad).1, (nr a b c bad).2) := by kernel_rfl
end
theorem en_vNorm : EnterOk Try.prog 13 := enter_of Try.func13 (by kernel_rfl) rfl
theorem en_vrNorm : EnterOk Try.prog 35 := enter_of Try.func35 (by kernel_rfl) rfl
theorem vnorm_con : Meth 13 (nrmF norm) := by
  refine flow_of (EnvOk.f ok_nil (enter_of Try.func32 (by kernel_rfl) rfl) norm_con) 60 _ _ (fun _ => true) _ ?_
  intro args g _ h bad
  obtain ⟨a, b, c, rfl, hg⟩ := nrmF_some h
  exact (vnorm_raw norm a b c bad).trans (congrArg some (hg bad).symm)
theorem rvnorm_con : RMeth 35 (nrmF norm) := by
  refine flow_of (EnvOk.f ok_nil en_rNorm rnorm_con) 60 _ _ (fun _ => true) _ ?_
  intro args g _ h bad
  obtain ⟨a, b, c, rfl, hg⟩ := nrmF_some h
  exact (rvnorm_raw norm a b c bad).trans (congrArg some (hg bad).symm)
#print axioms rvnorm_con
end Go.Proofs.Ytcagaaaibhifdaa.Ve

/- Ticks as days, and the numbers of the field's model, as the interpreter finds them. Conditions: none. -/
namespace Go.Proofs.Ytcagaaaibhifdaa.Fd
open Go Go.Proofs.Ytcagaaaibhifdaa.Ae Go.Proofs.Ytcagaaaibhifdaa.Fx Go.Proofs.Ytcagaaaibhifdaa.Lx Go.Proofs.Ytcagaaaibhifdaa.Tx Go.Proofs.Ytcagaaaibhifdaa.Te Go.Proofs.Ytcagaaaibhifdaa.Rx Go.Proofs.Ytcagaaaibhifdaa.Row Go.Proofs.Ytcagaaaibhifdaa.Ve

def daysP (t : Int) (bad : Bool) : Int × Bool := Fx.part 1099511627776 t 86400000 (bif !(ckT t) then true else bad)
section
variable (ad su mu di mo : Op2) (pa : Op3) (da : Op1)
def daysG (t : Int) (bad : Bool) : Option (AV × Bool) :=
  bif !(ckT t) then some (I (pa 1099511627776 t 86400000 true).1, (pa 1099511627776 t 86400000 true).2) else some (I (pa 1099511627776 t 86400000 bad).1, (pa 1099511627776 t 86400000 bad).2)
def rckT (t : Int) : Bool := an (decide (t ≥ 0)) (decide (t ≤ 157766400000))
theorem days_raw (u : Int) (bad : Bool) : acall Try.prog [(31, .text), (18, .text), (19, m3 25 pa)] 60 16 [.ptr 0 0, I u] [.cells [.bool bad] 25] (flowK 25) = daysG pa u bad := by kernel_rfl
theorem rdays_raw (u : Int) (bad : Bool) : acall Try.prog [(48, .text), (24, .text), (26, m3 27 pa)] 60 23 [.ptr 0 0, I u] [.cells [.bool bad] 27] (flowK 27) = daysG pa u bad := by kernel_rfl
/-- The model's rows: degree, order, g, h. -/
abbrev Tab4 := List (Int × Int × Int × Int)
def tabA : Tab4 := [(1, 0, -293500, 0), (1, 1, -14103, 45455), (2, 0, -25562, 0), (2, 1, 29509, -31336), (2, 2, 16487, -8142), (3, 0, 13609, 0), (3, 1, -24042, -569), (3, 2, 12438, 2376), (3, 3, 4534, -5496), (4, 0, 8947, 0), (4, 1, 7996, 2786), (4, 2, 558, -1340), (4, 3, -2811, 2120), (4, 4, 120, -3754), (5, 0, -2329, 0), (5, 1, 3690, 453), (5, 2, 1872, 2200), (5, 3, -1387, -1229), (5, 4, -1419, 429), (5, 5, 209, 1062), (6, 0, 643, 0), (6, 1, 638, -184), (6, 2, 767, 168), (6, 3, -1157, 489), (6, 4, -409, -598), (6, 5, 149, 109), (6, 6, -608, 728)]
def tabB : Tab4 := [(1, 0, 126, 0), (1, 1, 100, -215), (2, 0, -112, 0), (2, 1, -53, -273), (2, 2, -83, -111)]
def has : Tab4 → Int → Int → Bool
  | [], _, _ => false
  | (a, b, _, _) :: l, n, m => bif n == a && m == b then true else has l n m
def pickG : Tab4 → Int → Int → Int
  | [], _, _ => 0
  | (a, b, g, _) :: l, n, m => bif n == a && m == b then g else pickG l n m
def pickH : Tab4 → Int → Int → Int
  | [], _, _ => 0
  | (a, b, _, h) :: l, n, m => bif n == a && m == b then h else pickH l n m
def num0 (bad : Bool) : Option (AV × Bool) := some (.tup [I 0, I 0], bad)
def numE (g h g2 h2 : Int) (old : Bool) (d : Int × Bool) : Option (AV × Bool) :=
  let p := pa 1099511627776 g 10000 d.2
  let q := pa 1099511627776 h 10000 p.2
  bif old then
    let y := di d.1 401596622045184 q.2
    let p1 := pa 1099511627776 g2 10000 y.2
    let p2 := mu y.1 p1.1 p1.2
    let p3 := ad p.1 p2.1 p2.2
    let q1 := pa 1099511627776 h2 10000 p3.2
    let q2 := mu y.1 q1.1 q1.2
    let q3 := ad q.1 q2.1 q2.2
    some (.tup [I p3.1, I q3.1], q3.2)
  else some (.tup [I p.1, I q.1], q.2)
def numRaw (n m t : Int) (bad : Bool) : Option (AV × Bool) :=
  let d := da t bad
  bif !(has tabA n m) then num0 true else
  bif d.2 then num0 d.2 else numE ad mu di pa (pickG tabA n m) (pickH tabA n m) (pickG tabB n m) (pickH tabB n m) (has tabB n m) d
def envM : Env := [(16, m1 25 da), (21, m2 25 ad), (22, m2 25 mu), (20, m2 25 di), (19, m3 25 pa), (18, .text), (17, .text)]
theorem number_raw (n m t : Int) (bad : Bool) : acall Try.prog (envM ad mu di pa da) 1000 9 [.ptr 0 0, I n, I m, I t] [.cells [.bool bad] 25] (flowK 25) = numRaw ad mu di pa da n m t bad := by kernel_rfl
/-! ### The reference's -/
def swRaw : Tab4 → Int → Option AV
  | [], _ => some (.tup [I 0, I 0])
  | (a, b, g, h) :: l, k => bif k == 10 * a + b then some (.tup [I g, I h]) else swRaw l k
theorem rtable_raw (n m : Int) : acall Try.prog [] 200 25 [I n, I m] [] pK = swRaw tabA (wr .i64 (wr .i64 (n * 10) + m)) := by kernel_rfl
theorem ryearly_raw (n m : Int) : acall Try.prog [] 200 28 [I n, I m] [] pK = swRaw tabB (wr .i64 (wr .i64 (n * 10) + m)) := by kernel_rfl
abbrev IP := Int → Int → Int × Int
def ipF (f : IP) : List AV → Option AV
  | [.int .i64 a, .int .i64 b] => some (.tup [I (f a b).1, I (f a b).2])
  | _ => none
variable (ta ye : IP)
def rnumRaw (n m t : Int) (bad : Bool) : Option (AV × Bool) :=
  let d := da t bad
  bif (bif (bif (bif decide (n < 1) then true else decide (n > 6)) then true else decide (m < 0)) then true else decide (m > n)) then num0 true else
  bif d.2 then num0 d.2 else numE ad mu di pa (ta n m).1 (ta n m).2 (ye n m).1 (ye n m).2 (decide (n ≤ 2)) d
def renvM : Env := [(23, m1 27 da), (29, m2 27 ad), (30, m2 27 mu), (27, m2 27 di), (26, m3 27 pa), (24, .text), (25, .pure anyArgs (ipF ta)), (28, .pure anyArgs (ipF ye))]
theorem rnumber_raw (n m t : Int) (bad : Bool) : acall Try.prog (renvM ad mu di pa da ta ye) 200 10 [.ptr 0 0, I n, I m, I t] [.cells [.bool bad] 27] (flowK 27) = rnumRaw ad mu di pa da ta ye n m t bad := by kernel_rfl
end
end Go.Proofs.Ytcagaaaibhifdaa.Fd

/- Contracts of ticks as days and of the model's numbers, the program's and the reference's: the same plain functions. Conditions: none. -/
namespace Go.Proofs.Ytcagaaaibhifdaa.Fd
open Go Go.Proofs.Ytcagaaaibhifdaa.Ae Go.Proofs.Ytcagaaaibhifdaa.Fx Go.Proofs.Ytcagaaaibhifdaa.Lx Go.Proofs.Ytcagaaaibhifdaa.Tx Go.Proofs.Ytcagaaaibhifdaa.Te Go.Proofs.Ytcagaaaibhifdaa.Rx Go.Proofs.Ytcagaaaibhifdaa.Row Go.Proofs.Ytcagaaaibhifdaa.Ve

theorem daysG_eq (t : Int) (bad : Bool) : daysG Fx.part t bad = some (I (daysP t bad).1, (daysP t bad).2) := by
  unfold daysG daysP
  cases ckT t <;> rfl
theorem en_fFail : EnterOk Try.prog 18 := enter_of Try.func18 (by kernel_rfl) rfl
theorem en_rFail : EnterOk Try.prog 24 := enter_of Try.func24 (by kernel_rfl) rfl
theorem en_rAdd : EnterOk Try.prog 29 := enter_of Try.func29 (by kernel_rfl) rfl
theorem en_fAdd : EnterOk Try.prog 21 := enter_of Try.func21 (by kernel_rfl) rfl
theorem en_fSqrt : EnterOk Try.prog 57 := enter_of Try.func57 (by kernel_rfl) rfl
theorem en_fMod : EnterOk Try.prog 65 := enter_of Try.func65 (by kernel_rfl) rfl
theorem en_fPart : EnterOk Try.prog 19 := enter_of Try.func19 (by kernel_rfl) rfl
theorem days_con : Meth 16 (int1 daysP) := by
  refine flow_of (EnvOk.t (EnvOk.t (EnvOk.f ok_nil en_fPart part_con) en_fFail) (enter_of Try.func31 (by kernel_rfl) rfl)) 60 _ _ (fun _ => true) _ ?_
  intro args g _ h bad
  obtain ⟨a, rfl, hg⟩ := int1_some h
  exact (days_raw Fx.part a bad).trans ((daysG_eq a bad).trans (hg bad).symm)
theorem rdays_con : RMeth 23 (int1 daysP) := by
  refine flow_of (EnvOk.t (EnvOk.t (EnvOk.f ok_nil en_rPart rpart_con) en_rFail) (enter_of Try.func48 (by kernel_rfl) rfl)) 60 _ _ (fun _ => true) _ ?_
  intro args g _ h bad
  obtain ⟨a, rfl, hg⟩ := int1_some h
  exact (rdays_raw Fx.part a bad).trans ((daysG_eq a bad).trans (hg bad).symm)
/-! ### The tables -/
def swI (f : Int × Int → Int) : Tab4 → Int → Int
  | [], _ => 0
  | (a, b, g, h) :: l, k => bif k == 10 * a + b then f (g, h) else swI f l k
theorem swRaw_eq : ∀ (l : Tab4) (k : Int), swRaw l k = some (.tup [I (swI Prod.fst l k), I (swI Prod.snd l k)])
  | [], _ => rfl
  | (a, b, g, h) :: l, k => by
    unfold swRaw swI
    rw [swRaw_eq l k]
    cases (k == 10 * a + b) <;> rfl
def tblP (l : Tab4) (n m : Int) : Int × Int := (swI Prod.fst l (wr .i64 (wr .i64 (n * 10) + m)), swI Prod.snd l (wr .i64 (wr .i64 (n * 10) + m)))
theorem ipF_some {f : IP} {args : List AV} {v : AV} (h : ipF f args = some v) : ∃ a b, args = [I a, I b] ∧ v = .tup [I (f a b).1, I (f a b).2] := by
  unfold ipF at h
  split at h <;> cases h
  exact ⟨_, _, rfl, rfl⟩
theorem rtable_con : PureOk Try.prog 25 anyArgs (ipF (tblP tabA)) := by
  refine pure_of ok_nil 200 _ _ _ ?_
  intro args v _ h
  obtain ⟨a, b, rfl, rfl⟩ := ipF_some h
  exact ⟨rfl, rfl, (rtable_raw a b).trans (swRaw_eq _ _)⟩
theorem ryearly_con : PureOk Try.prog 28 anyArgs (ipF (tblP tabB)) := by
  refine pure_of ok_nil 200 _ _ _ ?_
  intro args v _ h
  obtain ⟨a, b, rfl, rfl⟩ := ipF_some h
  exact ⟨rfl, rfl, (ryearly_raw a b).trans (swRaw_eq _ _)⟩
/-! ### The numbers -/
abbrev Op3p := Int → Int → Int → Bool → (Int × Int) × Bool
def numF (f : Op3p) : List AV → Option (Bool → AV × Bool)
  | [.int .i64 n, .int .i64 m, .int .i64 t] => some fun bad => (.tup [I (f n m t bad).1.1, I (f n m t bad).1.2], (f n m t bad).2)
  | _ => none
theorem numF_some {f : Op3p} {args : List AV} {g : Bool → AV × Bool} (h : numF f args = some g) : ∃ n m t, args = [I n, I m, I t] ∧ ∀ bad, g bad = (.tup [I (f n m t bad).1.1, I (f n m t bad).1.2], (f n m t bad).2) := by
  unfold numF at h
  split at h <;> cases h
  exact ⟨_, _, _, rfl, fun _ => rfl⟩
def numEP (g h g2 h2 : Int) (old : Bool) (d : Int × Bool) : (Int × Int) × Bool :=
  let p := Fx.part 1099511627776 g 10000 d.2
  let q := Fx.part 1099511627776 h 10000 p.2
  bif old then
    let y := div d.1 401596622045184 q.2
    let p1 := Fx.part 1099511627776 g2 10000 y.2
    let p2 := mul y.1 p1.1 p1.2
    let p3 := add p.1 p2.1 p2.2
    let q1 := Fx.part 1099511627776 h2 10000 p3.2
    let q2 := mul y.1 q1.1 q1.2
    let q3 := add q.1 q2.1 q2.2
    ((p3.1, q3.1), q3.2)
  else ((p.1, q.1), q.2)
def numP (n m t : Int) (bad : Bool) : (Int × Int) × Bool :=
  let d := daysP t bad
  bif !(has tabA n m) then ((0, 0), true) else
  bif d.2 then ((0, 0), true) else numEP (pickG tabA n m) (pickH tabA n m) (pickG tabB n m) (pickH tabB n m) (has tabB n m) d
theorem numE_eq (g h g2 h2 : Int) (old : Bool) (d : Int × Bool) : numE add mul div Fx.part g h g2 h2 old d = some (.tup [I (numEP g h g2 h2 old d).1.1, I (numEP g h g2 h2 old d).1.2], (numEP g h g2 h2 old d).2) := by
  unfold numE numEP
  dsimp only
  cases old <;> rfl
theorem numRaw_eq (n m t : Int) (bad : Bool) : numRaw add mul div Fx.part daysP n m t bad = some (.tup [I (numP n m t bad).1.1, I (numP n m t bad).1.2], (numP n m t bad).2) := by
  unfold numRaw numP
  dsimp only
  cases has tabA n m
  · rfl
  · cases hd : (daysP t bad).2
    · rw [Bool.not_true, bf, bf, bf, bf]; exact numE_eq ..
    · rfl
theorem has_iff : ∀ (l : Tab4) (n m : Int), has l n m = l.any (fun r => n == r.1 && m == r.2.1)
  | [], _, _ => rfl
  | (a, b, g, h) :: l, n, m => by
    unfold has
    rw [has_iff l, List.any_cons]
    cases (n == a && m == b) <;> rfl
theorem has_out {n m : Int} (h : has tabA n m = true) : 1 ≤ n ∧ n ≤ 6 ∧ 0 ≤ m ∧ m ≤ n := by
  rw [has_iff] at h
  simp only [tabA, List.any_cons, List.any_nil, Bool.or_false, Bool.or_eq_true, Bool.and_eq_true, beq_iff_eq] at h
  omega
section
variable (ad mu di : Op2) (pa : Op3) (da : Op1)
theorem rnum_in (n m t : Int) (bad : Bool) (h : 1 ≤ n ∧ n ≤ 6 ∧ 0 ≤ m ∧ m ≤ n) : rnumRaw ad mu di pa da (tblP tabA) (tblP tabB) n m t bad = numRaw ad mu di pa da n m t bad := by
  have hn : n = 1 ∨ n = 2 ∨ n = 3 ∨ n = 4 ∨ n = 5 ∨ n = 6 := by omega
  have hm : m = 0 ∨ m = 1 ∨ m = 2 ∨ m = 3 ∨ m = 4 ∨ m = 5 ∨ m = 6 := by omega
  rcases hn with rfl | rfl | rfl | rfl | rfl | rfl <;> rcases hm with rfl | rfl | rfl | rfl | rfl | rfl | rfl <;> first | (exfalso; omega) | (change _ = _; kernel_rfl)
theorem rnum_eq (n m t : Int) (bad : Bool) : rnumRaw ad mu di pa da (tblP tabA) (tblP tabB) n m t bad = numRaw ad mu di pa da n m t bad := by
  by_cases h : 1 ≤ n ∧ n ≤ 6 ∧ 0 ≤ m ∧ m ≤ n
  · exact rnum_in ad mu di pa da n m t bad h
  · have h1 : has tabA n m = false := by
      cases hb : has tabA n m with
      | false => rfl
      | true => exact absurd (has_out hb) h
    have h2 : (bif (bif (bif decide (n < 1) then true else decide (n > 6)) then true else decide (m < 0)) then true else decide (m > n)) = true := by
      by_cases a1 : n < 1
      · rw [decide_eq_true a1, bt, bt, bt]
      · rw [decide_eq_false a1, bf]
        by_cases a2 : n > 6
        · rw [decide_eq_true a2, bt, bt]
        · rw [decide_eq_false a2, bf]
          by_cases a3 : m < 0
          · rw [decide_eq_true a3, bt]
          · rw [decide_eq_false a3, bf]
            exact decide_eq_true (by omega)
    unfold rnumRaw numRaw
    rw [h1, h2]
    rfl
end
theorem number_con : Meth 9 (numF numP) := by
  refine flow_of (EnvOk.f (EnvOk.f (EnvOk.f (EnvOk.f (EnvOk.f (EnvOk.t (EnvOk.t ok_nil (enter_of Try.func17 (by kernel_rfl) rfl)) en_fFail) en_fPart part_con) Fx.en_div div_meth) Fx.en_mul mul_con) en_fAdd add_con) (enter_of Try.func16 (by kernel_rfl) rfl) days_con) 1000 _ _ (fun _ => true) _ ?_
  intro args g _ h bad
  obtain ⟨n, m, t, rfl, hg⟩ := numF_some h
  exact (number_raw add mul div Fx.part daysP n m t bad).trans ((numRaw_eq n m t bad).trans (congrArg some (hg bad).symm))
theorem rnumber_con : RMeth 10 (numF numP) := by
  refine flow_of (EnvOk.f (EnvOk.f (EnvOk.f (EnvOk.f (EnvOk.f (EnvOk.t (EnvOk.p (EnvOk.p ok_nil (enter_of Try.func28 (by kernel_rfl) rfl) ryearly_con) (enter_of Try.func25 (by kernel_rfl) rfl) rtable_con) en_rFail) en_rPart rpart_con) en_rDiv rdiv_con) en_rMul rmul_con) en_rAdd radd_con) (enter_of Try.func23 (by kernel_rfl) rfl) rdays_con) 200 _ _ (fun _ => true) _ ?_
  intro args g _ h bad
  obtain ⟨n, m, t, rfl, hg⟩ := numF_some h
  exact (rnumber_raw add mul div Fx.part daysP (tblP tabA) (tblP tabB) n m t bad).trans ((rnum_eq add mul div Fx.part daysP n m t bad).trans ((numRaw_eq n m t bad).trans (congrArg some (hg bad).symm)))
#print axioms rnumber_con
end Go.Proofs.Ytcagaaaibhifdaa.Fd

/- Contracts of function values of two arguments that keep where the flow's pointer lies. Conditions: none. -/
namespace Go.Proofs.Ytcagaaaibhifdaa.Ae
open Go

def cloK (tb T : TypeId) (v : AV) (H : List AB) : Option (AV × Bool) :=
  match H with
  | .cells [.ptr 1 0] t' :: .cells [.bool b] t :: _ => bif Nat.beq t' tb && Nat.beq t T && v.noPtr then some (v, b) else none
  | _ => none
theorem clo_of {P : Program} {env : Env} (hE : EnvOk P env) (fuel : Nat) (f : FuncId) (T : TypeId) (F : List AV → Option (Bool → AV × Bool))
    (h : ∀ a b g, F [a, b] = some g → ∀ tb y, acall P env fuel f [a, b, .ptr 0 0] [.cells [.ptr 1 0] tb, .cells [.bool y] T] (cloK tb T) = some (g y)) : EffOk P f (fun _ => true) (cloSpec T F) := by
  intro args H v H' _ hv m Args w hA hH
  unfold cloSpec at hv
  split at hv
  · rename_i a b x _dbg
    split at hv
    · rename_i j tb hx
      split at hv
      · rename_i y t hj
        cases hb : (Nat.beq t T && AV.noPtrL [a, b]) with
        | false => rw [hb] at hv; cases hv
        | true =>
          rw [hb] at hv
          simp only [Bool.and_eq_true] at hb
          obtain ⟨ht, hn⟩ := hb
          obtain rfl := Nat.eq_of_beq_eq_true ht
          simp only [cond_true] at hv
          split at hv
          · rename_i g hg
            simp only [Option.some.injEq, Prod.mk.injEq] at hv
            obtain ⟨rfl, rfl⟩ := hv
            obtain ⟨cx, ox, hcx, hwx, hBx⟩ := hH.at_ x hx
            obtain ⟨cj, oj, hcj, hwj, hBj⟩ := hH.at_ j hj
            have hne : x ≠ j := fun e => by subst e; rw [hx] at hj; cases hj
            have hcne : cx ≠ cj := fun e => by subst e; exact hne (hH.nodup _ _ _ _ _ hcx hcj hx hj rfl rfl)
            have ptr1 : ∀ {m1 : List Nat} {Vs : List Value}, RL m [.ptr j 0] Vs → m1[1]? = some cj → RL m1 [.ptr 1 0] Vs := fun {m1 Vs} hr h1 => by
              obtain ⟨V, _, rfl, hV, e⟩ := RL_cons.1 hr
              rw [RL_nil.1 e]
              refine RL.cons ?_ (RL_nil.2 rfl)
              simp only [R] at hV ⊢
              obtain ⟨c', hc', e⟩ := hV
              rw [hcj] at hc'; cases hc'
              exact ⟨cj, h1, e⟩
            have hH1 : HR [cx, cj] [.cells [.ptr 1 0] tb, .cells [.bool y] t] w := by
              refine ⟨rfl, ?_, fun i B hB' _ => ?_⟩
              · intro i j' b' B C h1 h2 _ _ _ _
                rcases i with _ | _ | i <;> rcases j' with _ | _ | j' <;> simp at h1 h2 <;> omega
              · rcases i with _ | _ | i
                · simp at hB'
                  subst hB'
                  obtain ⟨Vs, h1, h2⟩ := hBx
                  exact ⟨cx, ox, by simp, hwx, ⟨Vs, h1, ptr1 h2 (by simp)⟩, trivial⟩
                · simp at hB'
                  subst hB'
                  obtain ⟨Vs, h1, h2⟩ := hBj
                  exact ⟨cj, oj, by simp, hwj, ⟨Vs, h1, RL_noPtr _ (by simp [AV.noPtrL, AV.noPtr]) h2⟩, trivial⟩
                · simp at hB'
            have hA1 : RL [cx, cj] [a, b, .ptr 0 0] Args.toList := by
              obtain ⟨V0, V1, e0, h0, h1⟩ := RL_cons.1 hA
              obtain ⟨V2, V3, e2, h2, h3⟩ := RL_cons.1 h1
              obtain ⟨V4, V5, e4, h4, h5⟩ := RL_cons.1 h3
              simp only [AV.noPtrL, Bool.and_eq_true] at hn
              rw [e0, e2, e4, RL_nil.1 h5]
              refine RL.cons (R_noPtr a hn.1 h0) (RL.cons (R_noPtr b hn.2.1 h2) (RL.cons ?_ (RL_nil.2 rfl)))
              simp only [R] at h4 ⊢
              obtain ⟨c', hc', e⟩ := h4
              rw [hcx] at hc'; cases hc'
              exact ⟨cx, by simp, e⟩
            refine (acall_ok hE (h a b g hg tb y) hA1 hH1).mono fun e w' ⟨v', V, m', H', e1, e2, e3, e4, e5⟩ => ?_
            unfold cloK at e5
            split at e5
            · rename_i t2 b' t' Hr
              cases hb' : (Nat.beq t2 tb && Nat.beq t' t && v'.noPtr) with
              | false => rw [hb'] at e5; cases e5
              | true =>
                rw [hb'] at e5
                simp only [Bool.and_eq_true] at hb'
                obtain ⟨⟨ht2, ht'⟩, hnv⟩ := hb'
                obtain rfl := Nat.eq_of_beq_eq_true ht'
                obtain rfl := Nat.eq_of_beq_eq_true ht2
                simp only [cond_true, Option.some.injEq] at e5
                rw [← e5]
                obtain ⟨xs, hxs, hxss⟩ := e4.pre
                obtain ⟨c2, o2, hc2, hw2, hB2⟩ := e3.at_ 1 (B := .cells [.bool b'] t') rfl
                rw [hxs] at hc2
                simp at hc2
                subst hc2
                obtain ⟨c3, o3, hc3, hw3, hB3⟩ := e3.at_ 0 (B := .cells [.ptr 1 0] t2) rfl
                rw [hxs] at hc3
                simp at hc3
                subst hc3
                have live : ∀ {i : Nat} {B : AB}, (H.set j (.cells [.bool b'] t'))[i]? = some B → B.live = true → ∃ B', H[i]? = some B' ∧ B'.live = true := fun {i B} hB' hl => by
                  by_cases hij : j = i
                  · subst hij; exact ⟨_, hj, rfl⟩
                  · rw [List.getElem?_set_ne hij] at hB'; exact ⟨B, hB', hl⟩
                refine ⟨V, m, e1, R_noPtr v' hnv e2, ⟨by simp [hH.len], ?_, ?_⟩, ⟨⟨[], by simp⟩, e4.os, e4.tape, e4.output, e4.size, ?_⟩⟩
                · intro i i' b3 B C h1 h2 h3 h4 h5 h6
                  obtain ⟨B', b1, b2⟩ := live h3 h5
                  obtain ⟨C', d1, d2⟩ := live h4 h6
                  exact hH.nodup i i' b3 B' C' h1 h2 b1 d1 b2 d2
                · intro i B hB' hl
                  by_cases hij : j = i
                  · subst hij
                    have hlt : j < H.length := (List.getElem?_eq_some_iff.1 hj).1
                    simp [hlt] at hB'
                    subst hB'
                    obtain ⟨Vs', h1, h2⟩ := hB2
                    exact ⟨cj, o2, hcj, hw2, ⟨Vs', h1, RL_noPtr _ (by simp [AV.noPtrL, AV.noPtr]) h2⟩, trivial⟩
                  · rw [List.getElem?_set_ne hij] at hB'
                    by_cases hix : x = i
                    · subst hix
                      rw [hx] at hB'
                      cases hB'
                      obtain ⟨Vs', h1, h2⟩ := hB3
                      refine ⟨cx, o3, hcx, hw3, ⟨Vs', h1, ?_⟩, trivial⟩
                      obtain ⟨W, _, rfl, hW, e⟩ := RL_cons.1 h2
                      rw [RL_nil.1 e]
                      refine RL.cons ?_ (RL_nil.2 rfl)
                      simp only [R] at hW ⊢
                      obtain ⟨c', hc', e⟩ := hW
                      rw [hxs] at hc'
                      simp at hc'
                      subst hc'
                      exact ⟨cj, hcj, e⟩
                    · obtain ⟨c4, o4, h1, h2, h3, h4⟩ := hH.all i B hB' hl
                      refine ⟨c4, o4, h1, ?_, h3, h4⟩
                      have hlt3 := (Array.getElem?_eq_some_iff.1 h2).1
                      rw [e4.block c4 hlt3 ?_]
                      · exact h2
                      · simp only [List.mem_cons, List.not_mem_nil, or_false, not_or]
                        exact ⟨fun e => by subst e; exact hix (hH.nodup _ _ _ _ _ hcx h1 hx hB' rfl hl), fun e => by subst e; exact hij (hH.nodup _ _ _ _ _ hcj h1 hj hB' rfl hl)⟩
                · intro k hk hkm
                  refine e4.block k hk ?_
                  simp only [List.mem_cons, List.not_mem_nil, or_false, not_or]
                  exact ⟨fun e => by subst e; exact hkm (List.mem_of_getElem? hcx), fun e => by subst e; exact hkm (List.mem_of_getElem? hcj)⟩
            · cases e5
          · cases hv
      · cases hv
    · cases hv
  · cases hv
theorem EnvOk.clo {P : Program} {env : Env} (t : EnvOk P env) {f : FuncId} (h : EnterOk P f) {T : TypeId} {F : List AV → Option (Bool → AV × Bool)} (k : EffOk P f (fun _ => true) (cloSpec T F)) : EnvOk P ((f, .clo T F) :: env) := EnvOk.cons (s := .clo T F) ⟨h, k⟩ t
#print axioms clo_of
end Go.Proofs.Ytcagaaaibhifdaa.Ae

/- The terms of the field, as the interpreter finds them. Conditions: none. -/
namespace Go.Proofs.Ytcagaaaibhifdaa.Fd
open Go Go.Proofs.Ytcagaaaibhifdaa.Ae Go.Proofs.Ytcagaaaibhifdaa.Fx Go.Proofs.Ytcagaaaibhifdaa.Lx Go.Proofs.Ytcagaaaibhifdaa.Tx Go.Proofs.Ytcagaaaibhifdaa.Te Go.Proofs.Ytcagaaaibhifdaa.Rx Go.Proofs.Ytcagaaaibhifdaa.Row Go.Proofs.Ytcagaaaibhifdaa.Ve

abbrev Tri := Int × Int × Int
abbrev TT := List (MK × Tri)
def lookT (k : MK) : TT → Tri
  | [] => (0, 0, 0)
  | (k', v) :: l => bif keqB k k' then v else lookT k l
section
variable (ad su mu di rt : Op2) (pa : Op3) (sq : Op1) (c s : Int)
/-- One round: the entry of a degree and an order below it. -/
def rndG (n m : Int) (x y : Tri) (bad : Bool) : Tri × Bool :=
  let r1 := rt (n - 1) m bad
  let r2 := rt n m r1.2
  let a := di r1.1 r2.1 r2.2
  let p1 := pa 1099511627776 (2 * n - 1) 1 a.2
  let r3 := rt n m p1.2
  let b := di p1.1 r3.1 r3.2
  let t1 := mu c x.1 b.2
  let t2 := mu b.1 t1.1 t1.2
  let t3 := mu a.1 y.1 t2.2
  let P := su t2.1 t3.1 t3.2
  let u1 := mu c x.2.1 P.2
  let u2 := mu s x.1 u1.2
  let u3 := su u1.1 u2.1 u2.2
  let u4 := mu b.1 u3.1 u3.2
  let u5 := mu a.1 y.2.1 u4.2
  let D := su u4.1 u5.1 u5.2
  let v1 := mu c x.2.2 D.2
  let v2 := mu b.1 v1.1 v1.2
  let v3 := mu a.1 y.2.2 v2.2
  let Qq := su v2.1 v3.1 v3.2
  ((P.1, D.1, Qq.1), Qq.2)
/-- The entry of a degree and as great an order. -/
def diaG (n : Int) (x : Tri) (bad : Bool) : Tri × Bool :=
  let p0 := pa 1099511627776 (2 * n - 1) (2 * n) bad
  let j := sq p0.1 p0.2
  let t1 := mu s x.1 j.2
  let P := mu j.1 t1.1 t1.2
  let u1 := mu s x.2.1 P.2
  let u2 := mu c x.1 u1.2
  let u3 := ad u1.1 u2.1 u2.2
  let D := mu j.1 u3.1 u3.2
  let v1 := mu s x.2.2 D.2
  let Qq := mu j.1 v1.1 v1.2
  ((P.1, D.1, Qq.1), Qq.2)
/-- All rounds: (n, m) with m below n, or n and n. -/
def rounds : List MK := [(1, 0), (2, 0), (2, 1), (2, 2), (3, 0), (3, 1), (3, 2), (3, 3), (4, 0), (4, 1), (4, 2), (4, 3), (4, 4), (5, 0), (5, 1), (5, 2), (5, 3), (5, 4), (5, 5), (6, 0), (6, 1), (6, 2), (6, 3), (6, 4), (6, 5), (6, 6)]
def stepT (k : MK) (T : TT) (bad : Bool) : Tri × Bool :=
  bif k.1 == k.2 then diaG ad mu pa sq c s k.1 (lookT (k.1 - 1, k.1 - 1) T) bad else rndG su mu di rt pa c s k.1 k.2 (lookT (k.1 - 1, k.2) T) (lookT (k.1 - 2, k.2) T) bad
def putT' (k : MK) (v : Tri) : TT → TT
  | [] => [(k, v)]
  | e :: l => bif kltB k e.1 then (k, v) :: e :: l else e :: putT' k v l
def foldT : List MK → TT → Bool → TT × Bool
  | [], T, bad => (T, bad)
  | k :: l, T, bad =>
    let r := stepT ad su mu di rt pa sq c s k T bad
    foldT l (putT' k r.1 T) r.2
def termsG (bad : Bool) : TT × Bool := foldT ad su mu di rt pa sq c s rounds [((0, 0), (1099511627776, 0, 0)), ((1, 1), (s, c, 1099511627776))] bad
def KT (v : AV) (H : List AB) : Option (List (MK × AV) × Bool) := match v with
  | .map i => match H[i]?, H[0]? with
    | some (AB.map true es), some (AB.cells [AV.bool b] t) => bif Nat.beq t 25 then some (es, b) else none
    | _, _ => none
  | _ => none
def envT : Env := [(57, m1 25 sq), (21, m2 25 ad), (34, m2 25 su), (22, m2 25 mu), (20, m2 25 di), (19, m3 25 pa), (56, .clo 25 (int2 rt))]
def triAV (v : Tri) : AV := .agg [I v.1, I v.2.1, I v.2.2]
def ttAV (T : TT) : List (MK × AV) := T.map fun e => (e.1, triAV e.2)
end
end Go.Proofs.Ytcagaaaibhifdaa.Fd

/- The field in the Earth's axes, as the interpreter finds it. Conditions: none. -/
namespace Go.Proofs.Ytcagaaaibhifdaa.Fd
open Go Go.Proofs.Ytcagaaaibhifdaa.Ae Go.Proofs.Ytcagaaaibhifdaa.Fx Go.Proofs.Ytcagaaaibhifdaa.Lx Go.Proofs.Ytcagaaaibhifdaa.Tx Go.Proofs.Ytcagaaaibhifdaa.Te Go.Proofs.Ytcagaaaibhifdaa.Rx Go.Proofs.Ytcagaaaibhifdaa.Row Go.Proofs.Ytcagaaaibhifdaa.Ve

def keys28 : List MK := [(0, 0), (1, 0), (1, 1), (2, 0), (2, 1), (2, 2), (3, 0), (3, 1), (3, 2), (3, 3), (4, 0), (4, 1), (4, 2), (4, 3), (4, 4), (5, 0), (5, 1), (5, 2), (5, 3), (5, 4), (5, 5), (6, 0), (6, 1), (6, 2), (6, 3), (6, 4), (6, 5), (6, 6)]
def keys27 : List MK := [(1, 0), (1, 1), (2, 0), (2, 1), (2, 2), (3, 0), (3, 1), (3, 2), (3, 3), (4, 0), (4, 1), (4, 2), (4, 3), (4, 4), (5, 0), (5, 1), (5, 2), (5, 3), (5, 4), (5, 5), (6, 0), (6, 1), (6, 2), (6, 3), (6, 4), (6, 5), (6, 6)]
abbrev TmF := Int → Int → Bool → (MK → Tri) × Bool
def tabOf (f : MK → Tri) : List (MK × AV) := keys28.map fun k => (k, triAV (f k))
def tmSpec (tm : TmF) : List AV → List AB → Option (AV × List AB)
  | [.ptr j 0, .int .i64 c, .int .i64 s], H =>
    match H[j]? with
    | some (AB.cells [AV.bool y] t) => bif Nat.beq t 25 then some (.map H.length, H.set j (.cells [.bool (tm c s y).2] 25) ++ [.map true (tabOf (tm c s y).1)]) else none
    | _ => none
  | _, _ => none
structure Es where
  (t cos sin up south east : Int)
  bad : Bool
section
variable (ad su mu di : Op2) (pa nr : Op3) (nu : Op3p) (tm : TmF)
def eStep (u v ratio tick : Int) (T : MK → Tri) (k : MK) (e : Es) : Es :=
  let t := bif k.2 == 0 then mu e.t ratio e.bad else (e.t, e.bad)
  let cos := bif k.2 == 0 then 1099511627776 else e.cos
  let sin := bif k.2 == 0 then 0 else e.sin
  let x := T k
  let g := nu k.1 k.2 tick t.2
  let e1 := mu g.1.1 cos g.2
  let e2 := mu g.1.2 sin e1.2
  let ev := ad e1.1 e2.1 e2.2
  let o1 := mu g.1.1 sin ev.2
  let o2 := mu g.1.2 cos o1.2
  let od := su o1.1 o2.1 o2.2
  let a1 := mu ev.1 x.1 od.2
  let a2 := mu t.1 a1.1 a1.2
  let a3 := pa a2.1 (k.1 + 1) 1 a2.2
  let up := ad e.up a3.1 a3.2
  let b1 := mu ev.1 x.2.1 up.2
  let b2 := mu t.1 b1.1 b1.2
  let south := su e.south b2.1 b2.2
  let c1 := mu od.1 x.2.2 south.2
  let c2 := mu t.1 c1.1 c1.2
  let c3 := pa c2.1 k.2 1 c2.2
  let east := ad e.east c3.1 c3.2
  let d1 := mu cos u east.2
  let d2 := mu sin v d1.2
  let d := su d1.1 d2.1 d2.2
  let d3 := mu sin u d.2
  let d4 := mu cos v d3.2
  let d' := ad d3.1 d4.1 d4.2
  ⟨t.1, d.1, d'.1, up.1, south.1, east.1, d'.2⟩
def eFold (u v ratio tick : Int) (T : MK → Tri) : List MK → Es → Es
  | [], e => e
  | k :: l, e => eFold u v ratio tick T l (eStep ad su mu pa nu u v ratio tick T k e)
def endE (x y z : Int) (bad : Bool) : Option (AV × Bool) := bif bad then some (V3.zero.av, bad) else some (V3.av ⟨x, y, z⟩, bad)
def eLast (c s u v : Int) (e : Es) : Option (AV × Bool) :=
  let a1 := mu e.up s e.bad
  let a2 := mu e.south c a1.2
  let a := ad a1.1 a2.1 a2.2
  let x1 := mu a.1 u a.2
  let x2 := mu e.east v x1.2
  let x := su x1.1 x2.1 x2.2
  let y1 := mu a.1 v x.2
  let y2 := mu e.east u y1.2
  let y := ad y1.1 y2.1 y2.2
  let z1 := mu e.up c y.2
  let z2 := mu e.south s z1.2
  let z := su z1.1 z2.1 z2.2
  endE x.1 y.1 z.1 z.2
def eBody (tick r c s u v : Int) (bad : Bool) : Option (AV × Bool) :=
  let T := tm c s bad
  let ratio := di 7005208482886 r T.2
  let t0 := mu ratio.1 ratio.1 ratio.2
  eLast ad su mu c s u v (eFold ad su mu pa nu u v ratio.1 tick T.1 keys27 ⟨t0.1, 0, 0, 0, 0, 0, t0.2⟩)
def envE : Env := [(21, m2 25 ad), (34, m2 25 su), (22, m2 25 mu), (20, m2 25 di), (19, m3 25 pa), (32, m3 25 nr), (9, .flow 25 (numF nu)), (33, .eff anyArgs (tmSpec tm)), (13, .flow 25 (nrmF nr)), (31, .text), (18, .text)]
end
end Go.Proofs.Ytcagaaaibhifdaa.Fd

/- The field in the Earth's axes, as the interpreter finds it. Conditions: none. -/
namespace Go.Proofs.Ytcagaaaibhifdaa.Fd
open Go Go.Proofs.Ytcagaaaibhifdaa.Ae Go.Proofs.Ytcagaaaibhifdaa.Fx Go.Proofs.Ytcagaaaibhifdaa.Lx Go.Proofs.Ytcagaaaibhifdaa.Tx Go.Proofs.Ytcagaaaibhifdaa.Te Go.Proofs.Ytcagaaaibhifdaa.Rx Go.Proofs.Ytcagaaaibhifdaa.Row Go.Proofs.Ytcagaaaibhifdaa.Ve
section
variable (ad su mu di : Op2) (pa nr : Op3) (nu : Op3p) (tm : TmF)
def earthG (x y z t : Int) (bad : Bool) : Option (AV × Bool) :=
  let r := nr x y z bad
  bif (bif (bif !(ckT t) then true else decide (r.1 < 6597069766656)) then true else decide (r.1 > 10995116277760)) then some (V3.zero.av, true) else
  bif r.2 then some (V3.zero.av, r.2) else
  let w := nr x y 0 r.2
  let c := di z r.1 w.2
  let s := di w.1 r.1 c.2
  bif decide (w.1 ≥ 1048576) then
    let u := di x w.1 s.2
    let v := di y w.1 u.2
    eBody ad su mu di pa nu tm t r.1 c.1 s.1 u.1 v.1 v.2
  else eBody ad su mu di pa nu tm t r.1 c.1 s.1 1099511627776 0 s.2
theorem earth_raw (x y z t : Int) (bad : Bool) : acall Try.prog (envE ad su mu di pa nr nu tm) 2000 11 [.ptr 0 0, V3.av ⟨x, y, z⟩, I t] [.cells [.bool bad] 25] (flowK 25) = earthG ad su mu di pa nr nu tm x y z t bad := by kernel_rfl
end
end Go.Proofs.Ytcagaaaibhifdaa.Fd
