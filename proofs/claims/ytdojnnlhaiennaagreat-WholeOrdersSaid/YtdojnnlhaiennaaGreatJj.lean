/- The contracts of the methods of the reference's flow: the same plain numbers. Conditions: none. -/
import Derived.Test.YtdojnnlhaiennaaGreatJi
import Derived.Test.YtdojnnlhaiennaaGreatJd
import Derived.ProofKit
import Derived.Below
import Derived.ChangeSame
import Derived.OpenShut
namespace Go.Proofs.YtdojnnlhaiennaaGreat.Rx
open Go Go.Proofs.YtdojnnlhaiennaaGreat.Ae Go.Proofs.YtdojnnlhaiennaaGreat.Fx

theorem rnum_eq (n : Int) : rnum n = okn n := by
  unfold rnum okn
  by_cases h : n ≥ -4611686018427387904
  · rw [decide_eq_true h, bt, Bool.true_and]
  · rw [decide_eq_false h, bf, Bool.false_and]
theorem rtakeB_eq : ∀ (l : List Int) (bad : Bool), rtakeB bad l = (bad || l.any (fun n => !okn n))
  | [], bad => by simp [rtakeB]
  | n :: l, bad => by
    unfold rtakeB
    rw [rtakeB_eq l, List.any_cons, rnum_eq, ← Bool.or_assoc]
    cases bad <;> cases okn n <;> rfl
theorem ropRaw_bad {bad : Bool} {l : List Int} (h : (bad || l.any (fun n => !okn n)) = true) (k : Bool → Option (AV × Bool)) : ropRaw bad l k = some (.int .i64 0, true) := by
  unfold ropRaw
  rw [rtakeB_eq, h]; rfl
theorem ropRaw_ok {bad : Bool} {l : List Int} (h : (bad || l.any (fun n => !okn n)) = false) (k : Bool → Option (AV × Bool)) : ropRaw bad l k = k false := by
  unfold ropRaw
  rw [rtakeB_eq, h]; rfl

theorem rmul_plain (a b : Int) (bad : Bool) : ropRaw bad [a, b] (rrRaw ratF a b 1099511627776) = av (mul a b bad) := by
  unfold mul
  cases h : (bad || [a, b].any (fun n => !okn n)) with
  | true => rw [ropRaw_bad h, lift_bad h]; rfl
  | false =>
    obtain ⟨_, h1, h2⟩ := all_ok2 h
    rw [ropRaw_ok h, lift_ok h, rrRaw_eq (rng_of h1) (rng_of h2) rng_one]
theorem rdiv_plain (a b : Int) (bad : Bool) : ropRaw bad [a, b] (rrRaw ratF a 1099511627776 b) = av (div a b bad) := by
  unfold div
  cases h : (bad || [a, b].any (fun n => !okn n)) with
  | true => rw [ropRaw_bad h, lift_bad h]; rfl
  | false =>
    obtain ⟨_, h1, h2⟩ := all_ok2 h
    rw [ropRaw_ok h, lift_ok h, rrRaw_eq (rng_of h1) rng_one (rng_of h2)]
theorem rpart_plain (a b c : Int) (bad : Bool) : ropRaw bad [a, b, c] (rrRaw ratF a b c) = av (Fx.part a b c bad) := by
  unfold Fx.part
  cases h : (bad || [a, b, c].any (fun n => !okn n)) with
  | true => rw [ropRaw_bad h, lift_bad h]; rfl
  | false =>
    obtain ⟨_, h1, h2, h3⟩ := all_ok3 h
    rw [ropRaw_ok h, lift_ok h, rrRaw_eq (rng_of h1) (rng_of h2) (rng_of h3)]

theorem raddS_eq {a b : Int} (ha : -4611686018427387904 ≤ a ∧ a ≤ 4611686018427387904) (hb : -4611686018427387904 ≤ b ∧ b ≤ 4611686018427387904) :
    raddS a b * 2 ≤ a + b + 1 ∧ a + b - 1 ≤ raddS a b * 2 := by
  unfold raddS
  have e1 := Int.tmod_add_mul_tdiv a 2
  have e2 := Int.tmod_add_mul_tdiv b 2
  have l1 : -2 < a.tmod 2 ∧ a.tmod 2 < 2 := ⟨by have := Int.tmod_lt_of_pos (-a) (show (0 : Int) < 2 by omega); rw [Int.neg_tmod] at this; omega, Int.tmod_lt_of_pos a (by omega)⟩
  have l2 : -2 < b.tmod 2 ∧ b.tmod 2 < 2 := ⟨by have := Int.tmod_lt_of_pos (-b) (show (0 : Int) < 2 by omega); rw [Int.neg_tmod] at this; omega, Int.tmod_lt_of_pos b (by omega)⟩
  generalize a.tmod 2 = r1 at *
  generalize b.tmod 2 = r2 at *
  generalize a.tdiv 2 = q1 at *
  generalize b.tdiv 2 = q2 at *
  rw [w64_in (n := q1) (by omega) (by omega), w64_in (n := q2) (by omega) (by omega), w64_in (n := q1 + q2) (by omega) (by omega), w64_in (n := r1 + r2) (by omega) (by omega)]
  have e3 := Int.tmod_add_mul_tdiv (r1 + r2) 2
  have l3 : -2 < (r1 + r2).tmod 2 ∧ (r1 + r2).tmod 2 < 2 := ⟨by have := Int.tmod_lt_of_pos (-(r1 + r2)) (show (0 : Int) < 2 by omega); rw [Int.neg_tmod] at this; omega, Int.tmod_lt_of_pos (r1 + r2) (by omega)⟩
  generalize (r1 + r2).tmod 2 = r3 at *
  generalize (r1 + r2).tdiv 2 = q3 at *
  rw [w64_in (n := q3) (by omega) (by omega), w64_in (n := q1 + q2 + q3) (by omega) (by omega)]
  omega

def raddK (a b : Int) (bad : Bool) : Option (AV × Bool) :=
  bif decide (raddS a b > 2305843009213693952) then some (.int .i64 0, true) else bif decide (raddS a b < -2305843009213693952) then some (.int .i64 0, true) else bif !rnum (wr .i64 (a + b)) then some (.int .i64 0, true) else some (.int .i64 (wr .i64 (a + b)), bad)
theorem raddK_eq {a b : Int} (ha : -4611686018427387904 ≤ a ∧ a ≤ 4611686018427387904) (hb : -4611686018427387904 ≤ b ∧ b ≤ 4611686018427387904) : raddK a b false = av (resB false (if okn (a + b) then some (a + b) else none)) := by
  unfold raddK
  have hS := raddS_eq ha hb
  generalize raddS a b = S at *
  rw [rnum_eq]
  by_cases hs : okn (a + b) = true
  · have i3 := okn_iff.1 hs
    rw [if_pos hs, decide_eq_false (by omega), bf, decide_eq_false (by omega), bf, w64_in (by omega) (by omega), hs, Bool.not_true, bf]; rfl
  · rw [if_neg hs]
    by_cases c1 : S > 2305843009213693952
    · rw [decide_eq_true c1, bt]; rfl
    · rw [decide_eq_false c1, bf]
      by_cases c2 : S < -2305843009213693952
      · rw [decide_eq_true c2, bt]; rfl
      · rw [decide_eq_false c2, bf, w64_in (by omega) (by omega)]
        have : okn (a + b) = false := by simpa using hs
        rw [this, Bool.not_false, bt]; rfl
theorem radd_plain (a b : Int) (bad : Bool) : ropRaw bad [a, b] (raddK a b) = av (add a b bad) := by
  unfold add
  cases h : (bad || [a, b].any (fun n => !okn n)) with
  | true => rw [ropRaw_bad h, lift_bad h]; rfl
  | false =>
    obtain ⟨_, h1, h2⟩ := all_ok2 h
    rw [ropRaw_ok h, lift_ok h, raddK_eq (okn_iff.1 h1) (okn_iff.1 h2)]
theorem rsub_plain (a b : Int) (bad : Bool) : (ropRaw bad [a, b] fun bad => some (.int .i64 (add a (wr .i64 (0 - b)) bad).1, (add a (wr .i64 (0 - b)) bad).2)) = av (sub a b bad) := by
  unfold sub
  cases h : (bad || [a, b].any (fun n => !okn n)) with
  | true => rw [ropRaw_bad h, lift_bad h]; rfl
  | false =>
    obtain ⟨_, h1, h2⟩ := all_ok2 h
    rw [ropRaw_ok h, lift_ok h]
    have i1 := okn_iff.1 h1
    have i2 := okn_iff.1 h2
    have hb : wr .i64 (0 - b) = -b := by rw [w64_in (by omega) (by omega)]; omega
    have h3 : okn (-b) = true := okn_iff.2 (by omega)
    rw [hb]
    unfold add
    rw [lift_ok (l := [a, -b]) (by simp [h1, h3])]
    rfl
theorem rmod_plain (a m : Int) (bad : Bool) : (ropRaw bad [a, m] fun bad => bif decide (m ≤ 0) then some (.int .i64 0, true) else bif m == 0 then none else some (.int .i64 (bif decide (a.tmod m < 0) then wr .i64 (a.tmod m + m) else a.tmod m), bad)) = av (mod a m bad) := by
  unfold mod
  cases h : (bad || [a, m].any (fun n => !okn n)) with
  | true => rw [ropRaw_bad h, lift_bad h]; rfl
  | false =>
    obtain ⟨_, h1, h2⟩ := all_ok2 h
    rw [ropRaw_ok h, lift_ok h]
    have i1 := okn_iff.1 h1
    have i2 := okn_iff.1 h2
    by_cases hn : m ≤ 0
    · rw [decide_eq_true hn, if_pos hn]; rfl
    · rw [decide_eq_false hn, if_neg hn, bf]
      have e0 : (m == 0) = false := by simp; omega
      rw [e0, bf]
      have hm : 0 < m := by omega
      have t1 : -m < a.tmod m ∧ a.tmod m < m := ⟨by have := Int.tmod_lt_of_pos (-a) hm; rw [Int.neg_tmod] at this; omega, Int.tmod_lt_of_pos a hm⟩
      have e2 := Int.tmod_add_mul_tdiv a m
      have e1 : a % m = if a.tmod m < 0 then a.tmod m + m else a.tmod m := by
        conv => lhs; rw [← e2]
        rw [Int.add_mul_emod_self_left]
        split
        · rw [← Int.add_emod_right, Int.emod_eq_of_lt (by omega) (by omega)]
        · rw [Int.emod_eq_of_lt (by omega) (by omega)]
      rw [e1]
      by_cases c : a.tmod m < 0
      · rw [decide_eq_true c, bt, if_pos c, w64_in (by omega) (by omega)]; rfl
      · rw [decide_eq_false c, bf, if_neg c]; rfl

/-! ### Roots -/
def abI (h1 l1 h2 l2 : Int) : Bool := bif decide (h1 > h2) then true else bif h1 == h2 then decide (l1 > l2) else false
theorem abI_eq {h1 l1 h2 l2 : Int} (a3 : 0 ≤ l1) (a4 : l1 < 18446744073709551616) (b3 : 0 ≤ l2) (b4 : l2 < 18446744073709551616) :
    abI h1 l1 h2 l2 = decide (h1 * 18446744073709551616 + l1 > h2 * 18446744073709551616 + l2) := by
  unfold abI
  by_cases c1 : h1 > h2
  · rw [decide_eq_true c1, bt]; exact (decide_eq_true (by omega)).symm
  · rw [decide_eq_false c1, bf]
    by_cases c2 : h1 = h2
    · have : (h1 == h2) = true := by simp; exact c2
      rw [this, bt]
      by_cases c3 : l1 > l2
      · rw [decide_eq_true c3, decide_eq_true (by omega)]
      · rw [decide_eq_false c3, decide_eq_false (by omega)]
    · have : (h1 == h2) = false := by simp; exact c2
      rw [this, bf]; exact (decide_eq_false (by omega)).symm
theorem rroot_eq {h l : Int} {N : Nat} (hN : h * 18446744073709551616 + l = (N : Int)) (l0 : 0 ≤ l) (l1 : l < 18446744073709551616) : ∀ (k r : Nat), r + 2 ^ k ≤ 2 ^ 63 → rroot thI tlI abI h l k (r : Int) = (isqB N k r : Int)
  | 0, r, _ => rfl
  | k + 1, r, hr => by
    have hpk : 2 ^ (k + 1) = 2 * 2 ^ k := by rw [Nat.pow_succ]; omega
    have h63 : (2 : Nat) ^ 63 = 9223372036854775808 := by kernel_rfl
    have hk : k ≤ 62 := by
      apply Nat.le_of_not_lt
      intro hlt
      have := Nat.pow_lt_pow_right (a := 2) (by omega) (show 63 < k + 1 by omega)
      omega
    unfold rroot isqB
    dsimp only
    have hm : min k 64 = k := by omega
    have ht : wr .u64 ((r : Int) + wr .u64 (1 * p2 (min k 64))) = ((r + 2 ^ k : Nat) : Int) := by
      have hp : p2 k = ((2 ^ k : Nat) : Int) := rfl
      rw [hm, Int.one_mul, hp, wu64_in (n := ((2 ^ k : Nat) : Int)) (by omega) (by omega), wu64_in (by omega) (by omega), Int.natCast_add]
    rw [ht]
    generalize hte : r + 2 ^ k = t at *
    obtain ⟨t1, t2⟩ := times_eq (a := (t : Int)) (b := (t : Int)) (in64_iff.2 (by omega)) (in64_iff.2 (by omega))
    rw [t1, t2, abI_eq (by omega) (by omega) l0 l1, hN]
    have e : (t : Int) * t = ((t * t : Nat) : Int) := by rw [Int.natCast_mul]
    rw [e]
    by_cases c : t * t ≤ N
    · rw [decide_eq_false (by omega), if_pos c, Bool.not_false, bt]
      exact rroot_eq hN l0 l1 k t (by omega)
    · rw [decide_eq_true (by omega), if_neg c, Bool.not_true, bf]
      exact rroot_eq hN l0 l1 k r (by omega)

theorem rsqrt_plain (a : Int) (bad : Bool) : (ropRaw bad [a] fun bad => bif decide (a < 0) then some (.int .i64 0, true) else rgive (rroot thI tlI abI (thI (wr .u64 a) 1099511627776) (tlI (wr .u64 a) 1099511627776) 52 0) false bad) = av (sqrt a bad) := by
  unfold sqrt
  cases h : (bad || [a].any (fun n => !okn n)) with
  | true => rw [ropRaw_bad h, lift_bad h]; rfl
  | false =>
    obtain ⟨_, h1⟩ := all_ok1 h
    rw [ropRaw_ok h, lift_ok h]
    have i1 := okn_iff.1 h1
    by_cases hn : a < 0
    · rw [decide_eq_true hn, if_pos hn, bt]; rfl
    · rw [decide_eq_false hn, if_neg hn, bf]
      rw [wu64_in (n := a) (by omega) (by omega)]
      obtain ⟨t1, t2⟩ := times_eq (a := a) (b := 1099511627776) (in64_iff.2 (by omega)) (in64_iff.2 (by omega))
      have hr := rroot_eq (h := thI a 1099511627776) (l := tlI a 1099511627776) (N := a.toNat * 1099511627776) (by rw [t1, t2]; omega) (by omega) (by omega) 52 0 (by decide)
      have h0 : ((0 : Nat) : Int) = 0 := rfl
      rw [h0] at hr
      rw [hr]
      have h104 : ((0 + 2 ^ 52) * (0 + 2 ^ 52) : Nat) = 20282409603651670423947251286016 := by kernel_rfl
      have h128 : (2 : Nat) ^ 128 = 340282366920938463463374607431768211456 := by kernel_rfl
      rw [isqB_isq (by rw [h128]; omega) (by omega) (by rw [h104]; omega)]
      have hr := (isq_ok (N := a.toNat * 1099511627776) (by rw [h128]; omega)).1
      have hle : isq (a.toNat * 1099511627776) ≤ 4611686018427387904 := by
        apply Nat.le_of_not_lt
        intro hlt
        have := Nat.mul_self_le_mul_self (show 4611686018427387904 ≤ isq (a.toNat * 1099511627776) by omega)
        omega
      generalize isq (a.toNat * 1099511627776) = r at *
      rw [rgive_in (by omega) (by omega)]
      rfl
theorem rnorm_plain (a b c : Int) (bad : Bool) : (ropRaw bad [a, b, c] fun bad =>
        rgive (rroot thI tlI abI (waH (waH (thI (sz a) (sz a)) (tlI (sz a) (sz a)) (thI (sz b) (sz b)) (tlI (sz b) (sz b))) (wr .u64 (tlI (sz a) (sz a) + tlI (sz b) (sz b))) (thI (sz c) (sz c)) (tlI (sz c) (sz c)))
          (wr .u64 (wr .u64 (tlI (sz a) (sz a) + tlI (sz b) (sz b)) + tlI (sz c) (sz c))) 63 0) false bad) = av (norm a b c bad) := by
  unfold norm
  cases h : (bad || [a, b, c].any (fun n => !okn n)) with
  | true => rw [ropRaw_bad h, lift_bad h]; rfl
  | false =>
    obtain ⟨_, h1, h2, h3⟩ := all_ok3 h
    rw [ropRaw_ok h, lift_ok h]
    have sq : ∀ n : Int, okn n = true → ∃ q : Nat, n.natAbs * n.natAbs = q ∧ q ≤ 21267647932558653966460912964485513216 ∧ thI (sz n) (sz n) = (q : Int) / 18446744073709551616 ∧ tlI (sz n) (sz n) = (q : Int) % 18446744073709551616 := fun n hn => by
      have i := okn_iff.1 hn
      have := Nat.mul_le_mul (show n.natAbs ≤ 4611686018427387904 by omega) (show n.natAbs ≤ 4611686018427387904 by omega)
      obtain ⟨e1, e2⟩ := sz_eq (rng_of hn)
      obtain ⟨t1, t2⟩ := times_eq (a := (n.natAbs : Int)) (b := (n.natAbs : Int)) (in64_iff.2 (by omega)) (in64_iff.2 (by omega))
      refine ⟨_, rfl, by omega, ?_, ?_⟩
      · rw [e1, t1, Int.natCast_mul]
      · rw [e1, t2, Int.natCast_mul]
    obtain ⟨qa, a1, a2, a3, a4⟩ := sq a h1
    obtain ⟨qb, b1, b2, b3, b4⟩ := sq b h2
    obtain ⟨qc, c1, c2, c3, c4⟩ := sq c h3
    rw [a1, b1, c1]
    generalize thI (sz a) (sz a) = ah at *
    generalize tlI (sz a) (sz a) = al at *
    generalize thI (sz b) (sz b) = bh at *
    generalize tlI (sz b) (sz b) = bl at *
    generalize thI (sz c) (sz c) = ch at *
    generalize tlI (sz c) (sz c) = cl at *
    obtain ⟨s1, s2, s3, s4, s5⟩ := wa_val (h1 := ah) (l1 := al) (h2 := bh) (l2 := bl) (by omega) (by omega) (by omega) (by omega) (by omega) (by omega) (by omega) (by omega)
    generalize waH ah al bh bl = sh at *
    generalize wr .u64 (al + bl) = sl at *
    obtain ⟨u1, u2, u3, u4, u5⟩ := wa_val (h1 := sh) (l1 := sl) (h2 := ch) (l2 := cl) s1 s2 s3 s4 (by omega) (by omega) (by omega) (by omega)
    generalize waH sh sl ch cl = vh at *
    generalize wr .u64 (sl + cl) = vl at *
    have hr := rroot_eq (h := vh) (l := vl) (N := qa + qb + qc) (by omega) u3 u4 63 0 (by decide)
    have h0 : ((0 : Nat) : Int) = 0 := rfl
    rw [h0] at hr
    rw [hr]
    have h126 : ((0 + 2 ^ 63) * (0 + 2 ^ 63) : Nat) = 85070591730234615865843651857942052864 := by kernel_rfl
    have h128 : (2 : Nat) ^ 128 = 340282366920938463463374607431768211456 := by kernel_rfl
    rw [isqB_isq (by rw [h128]; omega) (by omega) (by rw [h126]; omega)]
    unfold upTo
    generalize isq (qa + qb + qc) = r at *
    by_cases hb : r > 4611686018427387904
    · rw [if_pos hb, rgive_big (by omega)]; rfl
    · rw [if_neg hb, rgive_in (by omega) (by omega)]; rfl

/-! ### The contracts -/
theorem above_con : PureOk Tryz.prog 62 anyA (abF abI) := by
  refine pure_of ok_nil 40 _ _ _ ?_
  rintro args v - h
  unfold abF at h
  split at h <;> cases h
  exact ⟨rfl, rfl, by kernel_rfl⟩
theorem rbase_ok {ad : Int → Int → Bool → Int × Bool} (hA : RMeth 50 (int2 ad)) : EnvOk Tryz.prog (envN sz thI tlI abI ratF ad) :=
  EnvOk.t (EnvOk.e (EnvOk.t (EnvOk.c (EnvOk.p (EnvOk.p (EnvOk.p (EnvOk.c (EnvOk.e ok_nil en_rAdd hA) en_add wa_ok) en_above above_con) en_times times_con) en_size rsize_con) en_number number_ok) en_rgive) en_rratio rratio_con) en_rtake
def envA : Env := [(40, .text), (93, .calc numF)]
theorem radd_raw' (a b : Int) (bad : Bool) : acall Tryz.prog envA 60 50 [.ptr 0 0, .int .i64 a, .int .i64 b] [.cells [.bool bad] 74] (flowK 74) =
    ropRaw bad [a, b] (raddK a b) := by kernel_rfl
theorem radd_con : RMeth 50 (int2 add) := by
  have hE : EnvOk Tryz.prog envA := EnvOk.t (EnvOk.c ok_nil en_number number_ok) en_rtake
  refine flow_of hE 60 _ _ (fun _ => true) _ ?_
  intro args g _ h bad
  obtain ⟨a, b, rfl, hg⟩ := int2_some h
  rw [radd_raw', radd_plain, hg]
theorem rsub_con : RMeth 46 (int2 sub) := by
  refine flow_of (rbase_ok radd_con) 60 _ _ (fun _ => true) _ ?_
  intro args g _ h bad
  obtain ⟨a, b, rfl, hg⟩ := int2_some h
  rw [rsub_raw, rsub_plain, hg]
theorem rmul_con : RMeth 47 (int2 mul) := by
  refine flow_of (rbase_ok radd_con) 60 _ _ (fun _ => true) _ ?_
  intro args g _ h bad
  obtain ⟨a, b, rfl, hg⟩ := int2_some h
  rw [rmul_raw, rmul_plain, hg]
theorem rdiv_con : RMeth 38 (int2 div) := by
  refine flow_of (rbase_ok radd_con) 60 _ _ (fun _ => true) _ ?_
  intro args g _ h bad
  obtain ⟨a, b, rfl, hg⟩ := int2_some h
  rw [rdiv_raw, rdiv_plain, hg]
theorem rpart_con : RMeth 16 (int3 Fx.part) := by
  refine flow_of (rbase_ok radd_con) 60 _ _ (fun _ => true) _ ?_
  intro args g _ h bad
  obtain ⟨a, b, c, rfl, hg⟩ := int3_some h
  rw [rpart_raw, rpart_plain, hg]
theorem rmod_con : RMeth 100 (int2 mod) := by
  refine flow_of (rbase_ok radd_con) 60 _ _ (fun _ => true) _ ?_
  intro args g _ h bad
  obtain ⟨a, b, rfl, hg⟩ := int2_some h
  rw [rmod_raw, rmod_plain, hg]
theorem rsqrt_con : RMeth 97 (int1 sqrt) := by
  refine flow_of (rbase_ok radd_con) 90 _ _ (fun _ => true) _ ?_
  intro args g _ h bad
  obtain ⟨a, rfl, hg⟩ := int1_some h
  rw [rsqrt_raw, rsqrt_plain, hg]
theorem rnorm_con : RMeth 24 (int3 norm) := by
  refine flow_of (rbase_ok radd_con) 110 _ _ (fun _ => true) _ ?_
  intro args g _ h bad
  obtain ⟨a, b, c, rfl, hg⟩ := int3_some h
  rw [rnorm_raw, rnorm_plain, hg]
#print axioms rnorm_con
#print axioms rsqrt_con
#print axioms radd_con
end Go.Proofs.YtdojnnlhaiennaaGreat.Rx

/- From a walk of the interpreter to a row. Conditions: none. -/
namespace Go.Proofs.YtdojnnlhaiennaaGreat.Row
open Go Go.Proofs.YtdojnnlhaiennaaGreat.Ae Go.RowKit Go.ChangeShapes Go.WideShapes

theorem post_none {H : Type} {enc : TypeId × Value → H} {P : Program} {f : Func} {s : ChangeSpec} {apart fresh handsOn again : Bool} {W W' : World} {args : Array Value} {v : Value} {ds gs : List (DataW H)}
    (hW : DataW.Whole enc P f.params.toList s.vars apart W args.toList ds gs [])
    (hres : ∀ (b : Nat) (sp : Nat → Bool) (hd : Bool), DataW.TrodAll enc P W' b sp hd f.resultTypes.toList (v.resultList f.resultTypes.size) (s.fn H (ds ++ gs)).results [])
    (hargs : ∀ sp : Nat → Bool, (∀ p ∈ ([] : List MemPlace), sp p.block = true) → DataW.TrodAll enc P W' 0 sp true f.params.toList args.toList (s.fn H (ds ++ gs)).args [])
    (hvars : ∀ sp : Nat → Bool, (∀ p ∈ ([] : List MemPlace), sp p.block = true) → DataW.TrodVars enc P W' sp s.vars (s.fn H (ds ++ gs)).vars [])
    (hk : W.keptBut W' (· ∈ ([] : List MemPlace)))
    (hok : ∀ (j : Nat) (t : TypeId) (r : Value), f.resultTypes[j]? = some t → (v.resultList f.resultTypes.size)[j]? = some r → Value.okWide P W' .any 0 t r) :
    s.post enc P f apart fresh handsOn again W args v W' := by
  refine ⟨ds, gs, [], [], [], [], hW, hres _ _ _, hargs _ (fun p hp => by cases hp), hvars _ (fun p hp => by cases hp), World.keptBut_mono (fun p hp => by cases hp) hk, fun _ => ?_⟩
  refine ⟨hok, _, _, [], ⟨[], [], trodAll_append (hargs _ (fun p hp => by cases hp)) (hres _ _ _), hvars _ (fun p hp => by cases hp), rfl, ?_, ?_⟩, ?_⟩
  · intro b off hp; cases hp
  · intro _; exact List.nodup_nil
  · intro p hp _; cases hp

/-- The law's answer. -/
def ansK (v : AV) (_ : List AB) : Option Bool :=
  match v with
  | .bool b => some b
  | _ => none
/-- A law that the interpreter finds true. -/
theorem law_true {P : Program} {env : Env} (hE : EnvOk P env) {fuel : Nat} {fid : FuncId} {args : List AV} {Args : Array Value} {w : World} (h : acall P env fuel fid args [] ansK = some true) (hA : RL [] args Args.toList) :
    Calls P fid Args w fun e w' => e = .returned (.bool true) ∧ Below w.heap.size w w' := by
  have hH : HR [] [] w := ⟨rfl, by simp, fun i B hB _ => by simp at hB⟩
  refine (acall_ok hE h hA hH).mono fun e w' ⟨v, V, m', H', e1, e2, e3, e4, e5⟩ => ?_
  unfold ansK at e5
  split at e5
  · cases e5
    simp only [R] at e2
    subst e2
    exact ⟨e1, e4.os, e4.tape, e4.output, e4.size, fun k hk => e4.block k hk (by simp)⟩
  · cases e5
end Go.Proofs.YtdojnnlhaiennaaGreat.Row

/- Methods in the interpreter's list of callees. Conditions: none. -/
namespace Go.Proofs.YtdojnnlhaiennaaGreat.Lx
open Go Go.Proofs.YtdojnnlhaiennaaGreat.Ae Go.Proofs.YtdojnnlhaiennaaGreat.Fx

abbrev m2 (T : TypeId) (f : Int → Int → Bool → Int × Bool) : Ae.Spec := .flow T (int2 f)
abbrev m3 (T : TypeId) (f : Int → Int → Int → Bool → Int × Bool) : Ae.Spec := .flow T (int3 f)
abbrev m1 (T : TypeId) (f : Int → Bool → Int × Bool) : Ae.Spec := .flow T (int1 f)
theorem _root_.Go.Proofs.YtdojnnlhaiennaaGreat.Ae.EnvOk.f {P : Program} {env : Env} (t : EnvOk P env) {f : FuncId} (h : EnterOk P f) {T : TypeId} {F : List AV → Option (Bool → AV × Bool)} (k : EffOk P f (fun _ => true) (flowSpec T F)) : EnvOk P ((f, .flow T F) :: env) := EnvOk.cons (s := .flow T F) ⟨h, k⟩ t
end Go.Proofs.YtdojnnlhaiennaaGreat.Lx

/- The functions of package trig and of its reference, as the interpreter finds them. Conditions: none. -/
namespace Go.Proofs.YtdojnnlhaiennaaGreat.Tx
open Go Go.Proofs.YtdojnnlhaiennaaGreat.Ae Go.Proofs.YtdojnnlhaiennaaGreat.Fx Go.Proofs.YtdojnnlhaiennaaGreat.Lx

abbrev Op1 := Int → Bool → Int × Bool
abbrev Op2 := Int → Int → Bool → Int × Bool
abbrev Op3 := Int → Int → Int → Bool → Int × Bool

section
variable (ad su mu di mo : Op2) (sq : Op1) (pa : Op3)

/-! ### The program's -/
def serL (u first : Int) : Nat → Int × Bool → Int × Bool
  | 0, s => s
  | k + 1, s =>
    let n : Int := ((2 * (k + 1) : Nat) : Int)
    let s1 := mu u s.1 s.2
    let s2 := pa s1.1 1 (wr .i64 (wr .i64 (wr .i64 (n + first) - 1) * wr .i64 (n + first))) s1.2
    serL u first k (su 1099511627776 s2.1 s2.2)
def serRaw (t first : Int) (bad : Bool) : Option (AV × Bool) :=
  let u := mu t t bad
  let v := serL su mu pa u.1 first 10 (1099511627776, u.2)
  bif first == 1 then some (.int .i64 (mu t v.1 v.2).1, (mu t v.1 v.2).2) else some (.int .i64 v.1, v.2)
def envS : Env := [(127, m2 112 mu), (75, m2 112 su), (74, m3 112 pa)]
theorem ser_raw (t first : Int) (bad : Bool) : acall Tryz.prog (envS su mu pa) 60 202 [.ptr 0 0, .int .i64 t, .int .i64 first] [.cells [.bool bad] 112] (flowK 112) = serRaw su mu pa t first bad := by kernel_rfl
end
section
variable (mo se : Op2)
def turnRaw (a q : Int) (bad : Bool) : Option (AV × Bool) :=
  let r := mo a 6908435304716 bad
  bif r.2 then some (.int .i64 0, r.2) else
  let k := (wr .i64 (wr .i64 (r.1.tdiv 1727108826179) + q)).tmod 4
  let v := se (r.1.tmod 1727108826179) (wr .i64 (1 - k.tmod 2)) r.2
  bif decide (k > 1) then some (.int .i64 (wr .i64 (0 - v.1)), v.2) else some (.int .i64 v.1, v.2)
def envU : Env := [(131, m2 112 mo), (202, m2 112 se)]
theorem turn_raw (a q : Int) (bad : Bool) : acall Tryz.prog (envU mo se) 60 180 [.ptr 0 0, .int .i64 a, .int .i64 q] [.cells [.bool bad] 112] (flowK 112) = turnRaw mo se a q bad := by kernel_rfl
end
section
variable (tu : Op2)
def envV : Env := [(180, m2 112 tu)]
theorem sin_raw (a : Int) (bad : Bool) : acall Tryz.prog (envV tu) 60 128 [.ptr 0 0, .int .i64 a] [.cells [.bool bad] 112] (flowK 112) = some (.int .i64 (tu a 0 bad).1, (tu a 0 bad).2) := by kernel_rfl
theorem cos_raw (a : Int) (bad : Bool) : acall Tryz.prog (envV tu) 60 129 [.ptr 0 0, .int .i64 a] [.cells [.bool bad] 112] (flowK 112) = some (.int .i64 (tu a 1 bad).1, (tu a 1 bad).2) := by kernel_rfl
end

/-! ### The reference's -/
section
variable (su mu : Op2) (pa : Op3)
def rserL (u first : Int) : Nat → Int × Bool → Int × Bool
  | 0, s => s
  | k + 1, s =>
    let n : Int := ((2 * (k + 1) : Nat) : Int)
    let s1 := mu u s.1 s.2
    let s2 := pa s1.1 1 ((n + first - 1) * (n + first)) s1.2
    rserL u first k (su 1099511627776 s2.1 s2.2)
def renvS : Env := [(47, m2 74 mu), (46, m2 74 su), (16, m3 74 pa)]
theorem rs_raw (t : Int) (bad : Bool) : acall Tryz.prog (renvS su mu pa) 60 166 [.ptr 0 0, .int .i64 t] [.cells [.bool bad] 74] (flowK 74) =
    let v := rserL su mu pa (mu t t bad).1 1 10 (1099511627776, (mu t t bad).2)
    some (.int .i64 (mu t v.1 v.2).1, (mu t v.1 v.2).2) := by kernel_rfl
theorem rc_raw (t : Int) (bad : Bool) : acall Tryz.prog (renvS su mu pa) 60 167 [.ptr 0 0, .int .i64 t] [.cells [.bool bad] 74] (flowK 74) =
    let v := rserL su mu pa (mu t t bad).1 0 10 (1099511627776, (mu t t bad).2)
    some (.int .i64 v.1, v.2) := by kernel_rfl
end
section
variable (mo : Op2) (s c : Op1)
def rcase (k : Int) (p q r t : Option (AV × Bool)) : Option (AV × Bool) := bif k == 0 then p else bif k == 1 then q else bif k == 2 then r else t
def rend (v : Int × Bool) (neg : Bool) : Option (AV × Bool) := some (.int .i64 (bif neg then wr .i64 (0 - v.1) else v.1), v.2)
def rsinRaw (a : Int) (bad : Bool) : Option (AV × Bool) :=
  let r := mo a 6908435304716 bad
  bif r.2 then some (.int .i64 0, r.2) else
  let k := wr .i64 (r.1.tdiv 1727108826179)
  let t := wr .i64 (r.1 - wr .i64 (k * 1727108826179))
  rcase k (rend (s t r.2) false) (rend (c t r.2) false) (rend (s t r.2) true) (rend (c t r.2) true)
def rcosRaw (a : Int) (bad : Bool) : Option (AV × Bool) :=
  let r := mo a 6908435304716 bad
  bif r.2 then some (.int .i64 0, r.2) else
  let k := wr .i64 (r.1.tdiv 1727108826179)
  let t := wr .i64 (r.1 - wr .i64 (k * 1727108826179))
  rcase k (rend (c t r.2) false) (rend (s t r.2) true) (rend (c t r.2) true) (rend (s t r.2) false)
def renvU : Env := [(100, m2 74 mo), (166, m1 74 s), (167, m1 74 c)]
theorem rsin_raw (a : Int) (bad : Bool) : acall Tryz.prog (renvU mo s c) 60 98 [.ptr 0 0, .int .i64 a] [.cells [.bool bad] 74] (flowK 74) = rsinRaw mo s c a bad := by kernel_rfl
theorem rcos_raw (a : Int) (bad : Bool) : acall Tryz.prog (renvU mo s c) 60 99 [.ptr 0 0, .int .i64 a] [.cells [.bool bad] 74] (flowK 74) = rcosRaw mo s c a bad := by kernel_rfl
end
end Go.Proofs.YtdojnnlhaiennaaGreat.Tx

/- The contracts of sines and cosines, the program's and the reference's: the same plain functions. Conditions: none. -/
namespace Go.Proofs.YtdojnnlhaiennaaGreat.Tx
open Go Go.Proofs.YtdojnnlhaiennaaGreat.Ae Go.Proofs.YtdojnnlhaiennaaGreat.Fx Go.Proofs.YtdojnnlhaiennaaGreat.Lx Go.Proofs.YtdojnnlhaiennaaGreat.Rx

def serP (t first : Int) (bad : Bool) : Int × Bool :=
  let u := mul t t bad
  let v := serL sub mul Fx.part u.1 first 10 (1099511627776, u.2)
  bif first == 1 then mul t v.1 v.2 else v
def turnP (a q : Int) (bad : Bool) : Int × Bool :=
  let r := mod a 6908435304716 bad
  bif r.2 then (0, r.2) else
  let k := (wr .i64 (wr .i64 (r.1.tdiv 1727108826179) + q)).tmod 4
  let v := serP (r.1.tmod 1727108826179) (wr .i64 (1 - k.tmod 2)) r.2
  bif decide (k > 1) then (wr .i64 (0 - v.1), v.2) else v
def sinP (a : Int) (bad : Bool) : Int × Bool := turnP a 0 bad
def cosP (a : Int) (bad : Bool) : Int × Bool := turnP a 1 bad

theorem serRaw_eq (t first : Int) (bad : Bool) : serRaw sub mul Fx.part t first bad = av (serP t first bad) := by
  unfold serRaw serP
  dsimp only
  cases (first == 1) <;> rfl
theorem turnRaw_eq (a q : Int) (bad : Bool) : turnRaw mod serP a q bad = av (turnP a q bad) := by
  unfold turnRaw turnP
  dsimp only
  cases (mod a 6908435304716 bad).2
  · simp only [cond_false]
    cases decide ((wr .i64 (wr .i64 ((mod a 6908435304716 bad).1.tdiv 1727108826179) + q)).tmod 4 > 1) <;> rfl
  · rfl

theorem en_series : EnterOk Tryz.prog 202 := enter_of Tryz.func202 (by kernel_rfl) rfl
theorem en_turn : EnterOk Tryz.prog 180 := enter_of Tryz.func180 (by kernel_rfl) rfl
theorem en_Sin : EnterOk Tryz.prog 128 := enter_of Tryz.func128 (by kernel_rfl) rfl
theorem en_Cos : EnterOk Tryz.prog 129 := enter_of Tryz.func129 (by kernel_rfl) rfl
theorem en_rs : EnterOk Tryz.prog 166 := enter_of Tryz.func166 (by kernel_rfl) rfl
theorem en_rc : EnterOk Tryz.prog 167 := enter_of Tryz.func167 (by kernel_rfl) rfl
theorem en_rSin : EnterOk Tryz.prog 98 := enter_of Tryz.func98 (by kernel_rfl) rfl
theorem en_rCos : EnterOk Tryz.prog 99 := enter_of Tryz.func99 (by kernel_rfl) rfl
theorem en_rMul : EnterOk Tryz.prog 47 := enter_of Tryz.func47 (by kernel_rfl) rfl
theorem en_rDiv : EnterOk Tryz.prog 38 := enter_of Tryz.func38 (by kernel_rfl) rfl
theorem en_rPart : EnterOk Tryz.prog 16 := enter_of Tryz.func16 (by kernel_rfl) rfl
theorem en_rMod : EnterOk Tryz.prog 100 := enter_of Tryz.func100 (by kernel_rfl) rfl
theorem en_rSqrt : EnterOk Tryz.prog 97 := enter_of Tryz.func97 (by kernel_rfl) rfl
theorem en_rNorm : EnterOk Tryz.prog 24 := enter_of Tryz.func24 (by kernel_rfl) rfl
theorem en_rSub : EnterOk Tryz.prog 46 := enter_of Tryz.func46 (by kernel_rfl) rfl

theorem ser_con : Meth 202 (int2 serP) := by
  refine flow_of (EnvOk.f (EnvOk.f (EnvOk.f ok_nil en_part part_con) en_sub sub_con) en_mul mul_con) 60 _ _ (fun _ => true) _ ?_
  intro args g _ h bad
  obtain ⟨a, b, rfl, hg⟩ := int2_some h
  exact (ser_raw sub mul Fx.part a b bad).trans ((serRaw_eq a b bad).trans (hg bad).symm)
theorem turn_con : Meth 180 (int2 turnP) := by
  refine flow_of (EnvOk.f (EnvOk.f ok_nil en_series ser_con) en_mod mod_con) 60 _ _ (fun _ => true) _ ?_
  intro args g _ h bad
  obtain ⟨a, b, rfl, hg⟩ := int2_some h
  exact (turn_raw mod serP a b bad).trans ((turnRaw_eq a b bad).trans (hg bad).symm)
theorem sin_con : Meth 128 (int1 sinP) := by
  refine flow_of (EnvOk.f ok_nil en_turn turn_con) 60 _ _ (fun _ => true) _ ?_
  intro args g _ h bad
  obtain ⟨a, rfl, hg⟩ := int1_some h
  exact (sin_raw turnP a bad).trans (hg bad).symm
theorem cos_con : Meth 129 (int1 cosP) := by
  refine flow_of (EnvOk.f ok_nil en_turn turn_con) 60 _ _ (fun _ => true) _ ?_
  intro args g _ h bad
  obtain ⟨a, rfl, hg⟩ := int1_some h
  exact (cos_raw turnP a bad).trans (hg bad).symm

/-! ### The reference's -/
theorem rserL_1 (su mu : Op2) (pa : Op3) (u : Int) (s : Int × Bool) : rserL su mu pa u 1 10 s = serL su mu pa u 1 10 s := by kernel_rfl
theorem rserL_0 (su mu : Op2) (pa : Op3) (u : Int) (s : Int × Bool) : rserL su mu pa u 0 10 s = serL su mu pa u 0 10 s := by kernel_rfl
def sP (t : Int) (bad : Bool) : Int × Bool := serP t 1 bad
def cP (t : Int) (bad : Bool) : Int × Bool := serP t 0 bad
theorem rs_con : RMeth 166 (int1 sP) := by
  refine flow_of (EnvOk.f (EnvOk.f (EnvOk.f ok_nil en_rPart rpart_con) en_rSub rsub_con) en_rMul rmul_con) 60 _ _ (fun _ => true) _ ?_
  intro args g _ h bad
  obtain ⟨a, rfl, hg⟩ := int1_some h
  refine (rs_raw sub mul Fx.part a bad).trans (Eq.trans ?_ (hg bad).symm)
  dsimp only
  rw [rserL_1]; rfl
theorem rc_con : RMeth 167 (int1 cP) := by
  refine flow_of (EnvOk.f (EnvOk.f (EnvOk.f ok_nil en_rPart rpart_con) en_rSub rsub_con) en_rMul rmul_con) 60 _ _ (fun _ => true) _ ?_
  intro args g _ h bad
  obtain ⟨a, rfl, hg⟩ := int1_some h
  refine (rc_raw sub mul Fx.part a bad).trans (Eq.trans ?_ (hg bad).symm)
  dsimp only
  rw [rserL_0]; rfl

theorem mod_range {a m : Int} {bad : Bool} (hm : 0 < m) (h : (mod a m bad).2 = false) : 0 ≤ (mod a m bad).1 ∧ (mod a m bad).1 < m := by
  unfold mod at *
  rw [if_neg (show ¬ m ≤ 0 by omega)] at *
  unfold lift at *
  split at h
  · cases h
  · rename_i hc
    rw [if_neg hc]
    exact ⟨Int.emod_nonneg _ (by omega), Int.emod_lt_of_pos _ hm⟩

theorem quarter {r : Int} (h0 : 0 ≤ r) (h1 : r < 6908435304716) : ∃ k t : Int, r.tdiv 1727108826179 = k ∧ r.tmod 1727108826179 = t ∧ wr .i64 (r - wr .i64 (wr .i64 k * 1727108826179)) = t ∧ wr .i64 k = k ∧ (k = 0 ∨ k = 1 ∨ k = 2 ∨ k = 3) ∧ r = k * 1727108826179 + t ∧ 0 ≤ t ∧ t < 1727108826179 := by
  refine ⟨r / 1727108826179, r % 1727108826179, Int.tdiv_eq_ediv_of_nonneg h0, Int.tmod_eq_emod_of_nonneg h0, ?_, w64_in (by omega) (by omega), by omega, by omega, by omega, by omega⟩
  rw [w64_in (n := r / 1727108826179) (by omega) (by omega), w64_in (n := r / 1727108826179 * 1727108826179) (by omega) (by omega), w64_in (by omega) (by omega)]
  omega

theorem rcase0 (p q r t : Option (AV × Bool)) : rcase 0 p q r t = p := by
  unfold rcase; rw [show ((0 : Int) == 0) = true from by decide, bt]
theorem rcase1 (p q r t : Option (AV × Bool)) : rcase 1 p q r t = q := by
  unfold rcase; rw [show ((1 : Int) == 0) = false from by decide, bf, show ((1 : Int) == 1) = true from by decide, bt]
theorem rcase2 (p q r t : Option (AV × Bool)) : rcase 2 p q r t = r := by
  unfold rcase; rw [show ((2 : Int) == 0) = false from by decide, bf, show ((2 : Int) == 1) = false from by decide, bf, show ((2 : Int) == 2) = true from by decide, bt]
theorem rcase3 (p q r t : Option (AV × Bool)) : rcase 3 p q r t = t := by
  unfold rcase; rw [show ((3 : Int) == 0) = false from by decide, bf, show ((3 : Int) == 1) = false from by decide, bf, show ((3 : Int) == 2) = false from by decide, bf]
theorem rend_f (v : Int × Bool) : rend v false = av v := by unfold rend; rw [bf]; rfl
theorem rend_t (v : Int × Bool) : rend v true = av (wr .i64 (0 - v.1), v.2) := by unfold rend; rw [bt]; rfl
theorem rsinRaw_eq (a : Int) (bad : Bool) : rsinRaw mod sP cP a bad = av (sinP a bad) := by
  unfold rsinRaw sinP turnP
  dsimp only
  cases hb : (mod a 6908435304716 bad).2 with
  | true => rfl
  | false =>
    obtain ⟨h0, h1⟩ := mod_range (by omega) hb
    generalize (mod a 6908435304716 bad).1 = r at *
    obtain ⟨k, t, e1, e2, e3, e4, hk, _⟩ := quarter h0 h1
    simp only [cond_false]
    rw [e1, e2, e3, e4]
    unfold sP cP
    generalize serP t = F
    rcases hk with rfl | rfl | rfl | rfl
    · rw [rcase0, show (wr .i64 ((0 : Int) + 0)).tmod 4 = 0 from by decide, show wr .i64 (1 - (0 : Int).tmod 2) = 1 from by decide, show decide ((0 : Int) > 1) = false from by decide, bf, rend_f]
    · rw [rcase1, show (wr .i64 ((1 : Int) + 0)).tmod 4 = 1 from by decide, show wr .i64 (1 - (1 : Int).tmod 2) = 0 from by decide, show decide ((1 : Int) > 1) = false from by decide, bf, rend_f]
    · rw [rcase2, show (wr .i64 ((2 : Int) + 0)).tmod 4 = 2 from by decide, show wr .i64 (1 - (2 : Int).tmod 2) = 1 from by decide, show decide ((2 : Int) > 1) = true from by decide, bt, rend_t]
    · rw [rcase3, show (wr .i64 ((3 : Int) + 0)).tmod 4 = 3 from by decide, show wr .i64 (1 - (3 : Int).tmod 2) = 0 from by decide, show decide ((3 : Int) > 1) = true from by decide, bt, rend_t]
theorem rcosRaw_eq (a : Int) (bad : Bool) : rcosRaw mod sP cP a bad = av (cosP a bad) := by
  unfold rcosRaw cosP turnP
  dsimp only
  cases hb : (mod a 6908435304716 bad).2 with
  | true => rfl
  | false =>
    obtain ⟨h0, h1⟩ := mod_range (by omega) hb
    generalize (mod a 6908435304716 bad).1 = r at *
    obtain ⟨k, t, e1, e2, e3, e4, hk, _⟩ := quarter h0 h1
    simp only [cond_false]
    rw [e1, e2, e3, e4]
    unfold sP cP
    generalize serP t = F
    rcases hk with rfl | rfl | rfl | rfl
    · rw [rcase0, show (wr .i64 ((0 : Int) + 1)).tmod 4 = 1 from by decide, show wr .i64 (1 - (1 : Int).tmod 2) = 0 from by decide, show decide ((1 : Int) > 1) = false from by decide, bf, rend_f]
    · rw [rcase1, show (wr .i64 ((1 : Int) + 1)).tmod 4 = 2 from by decide, show wr .i64 (1 - (2 : Int).tmod 2) = 1 from by decide, show decide ((2 : Int) > 1) = true from by decide, bt, rend_t]
    · rw [rcase2, show (wr .i64 ((2 : Int) + 1)).tmod 4 = 3 from by decide, show wr .i64 (1 - (3 : Int).tmod 2) = 0 from by decide, show decide ((3 : Int) > 1) = true from by decide, bt, rend_t]
    · rw [rcase3, show (wr .i64 ((3 : Int) + 1)).tmod 4 = 0 from by decide, show wr .i64 (1 - (0 : Int).tmod 2) = 1 from by decide, show decide ((0 : Int) > 1) = false from by decide, bf, rend_f]
theorem rsin_con : RMeth 98 (int1 sinP) := by
  refine flow_of (EnvOk.f (EnvOk.f (EnvOk.f ok_nil en_rc rc_con) en_rs rs_con) en_rMod rmod_con) 60 _ _ (fun _ => true) _ ?_
  intro args g _ h bad
  obtain ⟨a, rfl, hg⟩ := int1_some h
  exact (rsin_raw mod sP cP a bad).trans ((rsinRaw_eq a bad).trans (hg bad).symm)
theorem rcos_con : RMeth 99 (int1 cosP) := by
  refine flow_of (EnvOk.f (EnvOk.f (EnvOk.f ok_nil en_rc rc_con) en_rs rs_con) en_rMod rmod_con) 60 _ _ (fun _ => true) _ ?_
  intro args g _ h bad
  obtain ⟨a, rfl, hg⟩ := int1_some h
  exact (rcos_raw mod sP cP a bad).trans ((rcosRaw_eq a bad).trans (hg bad).symm)
#print axioms rcos_con
end Go.Proofs.YtdojnnlhaiennaaGreat.Tx

/- Shorthands of the texts above. Conditions: none. -/
namespace Go.Proofs.YtdojnnlhaiennaaGreat.Te
open Go Go.Proofs.YtdojnnlhaiennaaGreat.Ae Go.Proofs.YtdojnnlhaiennaaGreat.Fx Go.Proofs.YtdojnnlhaiennaaGreat.Lx Go.Proofs.YtdojnnlhaiennaaGreat.Tx Go.Proofs.YtdojnnlhaiennaaGreat.Row Go.Proofs.YtdojnnlhaiennaaGreat.Rx
abbrev I (n : Int) : AV := .int .i64 n
def pK (v : AV) (_ : List AB) : Option AV := bif v.noPtr then some v else none
def an (a b : Bool) : Bool := bif a then b else false
def oor (a b : Bool) : Bool := bif a then true else b
def yesF : List AV → Option AV
  | [] => some (.bool true)
  | _ => none
/-- A frame, or none. -/
structure Fr where
  (k : Int)
  s : ByteArray
  ok : Bool
def Fr.av (x : Fr) : AV := .tup [.agg [I x.k, .str x.s], .bool x.ok]
def fEq (k k' : Int) (s s' : ByteArray) : Bool := (k == k') && ((s == s') && true)
theorem an_eq (a b : Bool) : an a b = (a && b) := by cases a <;> rfl
theorem dand (p q : Prop) [Decidable p] [Decidable q] : (decide p && decide q) = decide (p ∧ q) := by
  by_cases hp : p <;> by_cases hq : q <;> simp [hp, hq]
theorem p2_8 : p2 8 = 256 := by decide
theorem u8_eq (n : Int) : wr .u8 n = n % 256 := rfl
theorem or_small {a b : Nat} (hb : b < 256) : 256 * a ||| b = 256 * a + b := by
  have h : b < 2 ^ 8 := by omega
  have := or_add (a := a) (i := 8) h
  have e : (2 : Nat) ^ 8 = 256 := by decide
  rw [e] at this; exact this
/-- A byte beside others. -/
theorem bor64_lo {x b : Int} (hx : 0 ≤ x) (hx1 : x < 36028797018963968) (hb : 0 ≤ b ∧ b < 256) : bor .i64 (x * 256) b = x * 256 + b := by
  have h : bor .i64 (x * 256) b = wr .i64 ((BitVec.ofInt 64 (x * 256) ||| BitVec.ofInt 64 b).toNat : Int) := by unfold bor; rw [wr_eq]; rfl
  rw [h, BitVec.toNat_or, ofInt_toNat (by omega) (by omega), ofInt_toNat (by omega) (by omega)]
  have e : (x * 256).toNat = 256 * x.toNat := by omega
  rw [e, or_small (by omega), w64_in (by omega) (by omega)]
  omega
theorem ofInt16_toNat {x : Int} (h0 : 0 ≤ x) (h1 : x < 65536) : (BitVec.ofInt 16 x).toNat = x.toNat := by
  rw [BitVec.toNat_ofInt]
  have : x % ((2 ^ 16 : Nat) : Int) = x := Int.emod_eq_of_lt h0 (by simpa using h1)
  rw [this]
theorem bor16_lo {x b : Int} (hx : 0 ≤ x ∧ x < 256) (hb : 0 ≤ b ∧ b < 256) : bor .u16 (x * 256) b = x * 256 + b := by
  have h : bor .u16 (x * 256) b = wr .u16 ((BitVec.ofInt 16 (x * 256) ||| BitVec.ofInt 16 b).toNat : Int) := by unfold bor; rw [wr_eq]; rfl
  rw [h, BitVec.toNat_or, ofInt16_toNat (by omega) (by omega), ofInt16_toNat (by omega) (by omega)]
  have e : (x * 256).toNat = 256 * x.toNat := by omega
  rw [e, or_small (by omega)]
  have : wr .u16 (((256 * x.toNat + b.toNat : Nat)) : Int) = ((256 * x.toNat + b.toNat : Nat) : Int) % 65536 := rfl
  rw [this]
  omega
def B (g : Nat → Int) : Prop := ∀ i, 0 ≤ g i ∧ g i < 256
/-- What stands in bytes. -/
def sg (a b : Int) : Int := if a * 256 + b ≥ 32768 then a * 256 + b - 65536 else a * 256 + b
def gOf (s : ByteArray) (i : Nat) : Int := ((s.data.getD i 0).toNat : Int)
theorem gOf_B (s : ByteArray) : B (gOf s) := fun i => by
  unfold gOf
  have := (s.data.getD i 0).toNat_lt
  omega
theorem R_strG (m : List Nat) (s : ByteArray) {V : Value} (h : R m (.str s) V) : R m (.strG s s.size (gOf s)) V := by
  simp only [R] at h ⊢
  exact ⟨h, trivial, fun i _ => rfl⟩
theorem R_strF (m : List Nat) (s : ByteArray) (lo : Nat) (ex : List Int) (hlo : lo ≤ s.size) (hex : ∀ c ∈ ex, (s.size : Int) ≠ c) {V : Value} (h : R m (.str s) V) : R m (.strF s lo (gOf s) ex) V := by
  simp only [R] at h ⊢
  exact ⟨h, ⟨hlo, fun i _ => rfl⟩, hex⟩
theorem RL_frame {m : List Nat} {k : Int} {s : ByteArray} {a : AV} (h : ∀ V, R m (.str s) V → R m a V) {Vs : List Value} (hv : RL m [.agg [I k, .str s]] Vs) : RL m [.agg [I k, a]] Vs := by
  obtain ⟨V, Vs', rfl, h1, h2⟩ := RL_cons.1 hv
  refine RL.cons ?_ h2
  simp only [R] at h1 ⊢
  obtain ⟨Ws, rfl, h3⟩ := h1
  obtain ⟨W1, Ws1, rfl, h4, h5⟩ := RL_cons.1 h3
  obtain ⟨W2, Ws2, rfl, h6, h7⟩ := RL_cons.1 h5
  refine ⟨_, rfl, RL.cons h4 (RL.cons (h _ h6) h7)⟩
theorem oor_t (c : Bool) : oor c true = true := by cases c <;> rfl
theorem oor_f (c : Bool) : oor c false = c := by cases c <;> rfl
theorem gOf_strOf (l : List Int) {i : Nat} {n : Int} (h : l[i]? = some n) (h0 : 0 ≤ n ∧ n < 256) : gOf (strOf l) i = n := by
  unfold gOf strOf
  simp [Array.getD_eq_getD_getElem?, h]
  omega
theorem strOf_size (l : List Int) : (strOf l).size = l.length := by simp [strOf, ByteArray.size]
theorem bytes_refl (s : ByteArray) : (s == s) = true := by
  rw [beq_toListBytes]; simp
theorem fEq_refl (k : Int) (s : ByteArray) : fEq k k s s = true := by unfold fEq; rw [bytes_refl]; simp
theorem byte_back (s : ByteArray) (i : Nat) : UInt8.ofNat (gOf s i).toNat = s.data.getD i 0 := by
  unfold gOf; simp
theorem strOf_gOf {s : ByteArray} {l : List Int} (hl : l.length = s.size) (h : ∀ i, i < s.size → l[i]? = some (gOf s i)) : strOf l = s := by
  have : (strOf l).data = s.data := by
    apply Array.ext
    · rw [show (strOf l).data.size = (strOf l).size from rfl, strOf_size, hl]; rfl
    · intro i h1 h2
      have hi : i < s.size := h2
      have e := h i hi
      obtain ⟨hl2, e2⟩ := List.getElem?_eq_some_iff.1 e
      have : (strOf l).data[i] = UInt8.ofNat (l[i]).toNat := by simp [strOf]
      rw [this, e2, byte_back, Array.getD_eq_getD_getElem?, Array.getElem?_eq_getElem h2]
      rfl
  cases s; cases hq : strOf l; rw [hq] at this; simpa using this
theorem oor_eq (a b : Bool) : oor a b = (a || b) := by cases a <;> rfl
theorem eq_t {a b : Int} (h : a = b) : (a == b) = true := by simpa using h
theorem eq_f {a b : Int} (h : ¬ a = b) : (a == b) = false := by simpa using h
theorem ne_t {a b : Int} (h : ¬ a = b) : (a != b) = true := by simpa using h
theorem ne_f {a b : Int} (h : a = b) : (a != b) = false := by simpa using h
def ckT (t : Int) : Bool := an (decide (0 ≤ t)) (decide (t ≤ 157766400000))
end Go.Proofs.YtdojnnlhaiennaaGreat.Te

/- Three numbers, and their length. Conditions: none. -/
namespace Go.Proofs.YtdojnnlhaiennaaGreat.Ve
open Go Go.Proofs.YtdojnnlhaiennaaGreat.Ae Go.Proofs.YtdojnnlhaiennaaGreat.Fx Go.Proofs.YtdojnnlhaiennaaGreat.Lx Go.Proofs.YtdojnnlhaiennaaGreat.Tx Go.Proofs.YtdojnnlhaiennaaGreat.Rx Go.Proofs.YtdojnnlhaiennaaGreat.Te

structure V3 where
  x : Int
  y : Int
  z : Int
def V3.av (v : V3) : AV := .agg [I v.x, I v.y, I v.z]
abbrev V3.zero : V3 := ⟨0, 0, 0⟩
/-- A length's shape. -/
def nrmF (nr : Op3) : List AV → Option (Bool → AV × Bool)
  | [.agg [.int .i64 a, .int .i64 b, .int .i64 c]] => some fun bad => (.int .i64 (nr a b c bad).1, (nr a b c bad).2)
  | _ => none
theorem nrmF_some {nr : Op3} {args : List AV} {g : Bool → AV × Bool} (h : nrmF nr args = some g) : ∃ a b c, args = [.agg [I a, I b, I c]] ∧ ∀ bad, g bad = (.int .i64 (nr a b c bad).1, (nr a b c bad).2) := by
  unfold nrmF at h
  split at h <;> cases h
  exact ⟨_, _, _, rfl, fun _ => rfl⟩
section
variable (nr : Op3)
theorem vnorm_raw (a b c : Int) (bad : Bool) : acall Tryz.prog [(121, m3 112 nr)] 60 77 [.ptr 0 0, .agg [I a, I b, I c]] [.cells [.bool bad] 112] (flowK 112) = some (I (nr a b c bad).1, (nr a b c bad).2) := by kernel_rfl
theorem rvnorm_raw (a b c : Int) (bad : Bool) : acall Tryz.prog [(24, m3 74 nr)] 60 21 [.ptr 0 0, .agg [I a, I b, I c]] [.cells [.bool bad] 74] (flowK 74) = some (I (nr a b c bad).1, (nr a b c bad).2) := by kernel_rfl
end
theorem en_vNorm : EnterOk Tryz.prog 77 := enter_of Tryz.func77 (by kernel_rfl) rfl
theorem en_vrNorm : EnterOk Tryz.prog 21 := enter_of Tryz.func21 (by kernel_rfl) rfl
theorem vnorm_con : Meth 77 (nrmF norm) := by
  refine flow_of (EnvOk.f ok_nil (enter_of Tryz.func121 (by kernel_rfl) rfl) norm_con) 60 _ _ (fun _ => true) _ ?_
  intro args g _ h bad
  obtain ⟨a, b, c, rfl, hg⟩ := nrmF_some h
  exact (vnorm_raw norm a b c bad).trans (congrArg some (hg bad).symm)
theorem rvnorm_con : RMeth 21 (nrmF norm) := by
  refine flow_of (EnvOk.f ok_nil en_rNorm rnorm_con) 60 _ _ (fun _ => true) _ ?_
  intro args g _ h bad
  obtain ⟨a, b, c, rfl, hg⟩ := nrmF_some h
  exact (rvnorm_raw norm a b c bad).trans (congrArg some (hg bad).symm)
#print axioms rvnorm_con
end Go.Proofs.YtdojnnlhaiennaaGreat.Ve

/- Directions of three numbers, the program's and the reference's: contracts. Conditions: none. -/
namespace Go.Proofs.YtdojnnlhaiennaaGreat.Ve
open Go Go.Proofs.YtdojnnlhaiennaaGreat.Ae Go.Proofs.YtdojnnlhaiennaaGreat.Fx Go.Proofs.YtdojnnlhaiennaaGreat.Lx Go.Proofs.YtdojnnlhaiennaaGreat.Tx Go.Proofs.YtdojnnlhaiennaaGreat.Rx Go.Proofs.YtdojnnlhaiennaaGreat.Te

/-- A direction's shape. -/
def dirF (u : V3 → Bool → V3 × Bool) : List AV → Option (Bool → AV × Bool)
  | [.agg [.int .i64 a, .int .i64 b, .int .i64 c]] => some fun bad => ((u ⟨a, b, c⟩ bad).1.av, (u ⟨a, b, c⟩ bad).2)
  | _ => none
theorem dirF_some {u : V3 → Bool → V3 × Bool} {args : List AV} {g : Bool → AV × Bool} (h : dirF u args = some g) : ∃ a b c, args = [.agg [I a, I b, I c]] ∧ ∀ bad, g bad = ((u ⟨a, b, c⟩ bad).1.av, (u ⟨a, b, c⟩ bad).2) := by
  unfold dirF at h
  split at h <;> cases h
  exact ⟨_, _, _, rfl, fun _ => rfl⟩
section
variable (nr : Op3) (di : Op2)
def unitG (v : V3) (bad : Bool) : V3 × Bool :=
  let n := nr v.x v.y v.z bad
  let b0 := bif decide (n.1 < 1048576) then true else n.2
  let x := di v.x n.1 b0
  let y := di v.y n.1 x.2
  let z := di v.z n.1 y.2
  bif z.2 then (V3.zero, true) else (⟨x.1, y.1, z.1⟩, false)
def unitRaw (a b c : Int) (bad : Bool) : Option (AV × Bool) :=
  let n := nr a b c bad
  let go : Bool → Option (AV × Bool) := fun b0 =>
    let x := di a n.1 b0
    let y := di b n.1 x.2
    let z := di c n.1 y.2
    bif z.2 then some (V3.zero.av, z.2) else some (V3.av ⟨x.1, y.1, z.1⟩, z.2)
  bif decide (n.1 < 1048576) then go true else go n.2
theorem unit_raw (a b c : Int) (bad : Bool) : acall Tryz.prog [(77, .flow 112 (nrmF nr)), (125, m2 112 di), (116, .text), (172, .text), (123, .text)] 80 114 [.ptr 0 0, .agg [I a, I b, I c]] [.cells [.bool bad] 112] (flowK 112) = unitRaw nr di a b c bad := by kernel_rfl
theorem runit_raw (a b c : Int) (bad : Bool) : acall Tryz.prog [(21, .flow 74 (nrmF nr)), (38, m2 74 di), (95, .text), (37, .text)] 80 105 [.ptr 0 0, .agg [I a, I b, I c]] [.cells [.bool bad] 74] (flowK 74) = unitRaw nr di a b c bad := by kernel_rfl
theorem unitRaw_eq (a b c : Int) (bad : Bool) : unitRaw nr di a b c bad = some ((unitG nr di ⟨a, b, c⟩ bad).1.av, (unitG nr di ⟨a, b, c⟩ bad).2) := by
  unfold unitRaw unitG
  dsimp only
  cases decide ((nr a b c bad).1 < 1048576)
  · simp only [cond_false]
    cases h : (di c (nr a b c bad).1 (di b (nr a b c bad).1 (di a (nr a b c bad).1 (nr a b c bad).2).2).2).2 <;> rfl
  · simp only [cond_true]
    cases h : (di c (nr a b c bad).1 (di b (nr a b c bad).1 (di a (nr a b c bad).1 true).2).2).2 <;> rfl
end
def unit : V3 → Bool → V3 × Bool := unitG norm div
abbrev eText (f : FuncId) : Prop := EnterOk Tryz.prog f
theorem en_vUnit : EnterOk Tryz.prog 114 := enter_of Tryz.func114 (by kernel_rfl) rfl
theorem en_vrUnit : EnterOk Tryz.prog 105 := enter_of Tryz.func105 (by kernel_rfl) rfl
theorem unit_con : Meth 114 (dirF unit) := by
  refine flow_of (EnvOk.f (EnvOk.f (EnvOk.t (EnvOk.t (EnvOk.t ok_nil (enter_of Tryz.func123 (by kernel_rfl) rfl)) (enter_of Tryz.func172 (by kernel_rfl) rfl)) (enter_of Tryz.func116 (by kernel_rfl) rfl)) (enter_of Tryz.func125 (by kernel_rfl) rfl) div_meth) en_vNorm vnorm_con) 80 _ _ (fun _ => true) _ ?_
  intro args g _ h bad
  obtain ⟨a, b, c, rfl, hg⟩ := dirF_some h
  exact (unit_raw norm div a b c bad).trans ((unitRaw_eq norm div a b c bad).trans (congrArg some (hg bad).symm))
theorem runit_con : RMeth 105 (dirF unit) := by
  refine flow_of (EnvOk.f (EnvOk.f (EnvOk.t (EnvOk.t ok_nil (enter_of Tryz.func37 (by kernel_rfl) rfl)) (enter_of Tryz.func95 (by kernel_rfl) rfl)) en_rDiv rdiv_con) en_vrNorm rvnorm_con) 80 _ _ (fun _ => true) _ ?_
  intro args g _ h bad
  obtain ⟨a, b, c, rfl, hg⟩ := dirF_some h
  exact (runit_raw norm div a b c bad).trans ((unitRaw_eq norm div a b c bad).trans (congrArg some (hg bad).symm))
#print axioms runit_con
end Go.Proofs.YtdojnnlhaiennaaGreat.Ve

/- What the sensors' texts rest on. Conditions: none. -/

/- The functions of package sensor and of its reference, as the interpreter finds them. Conditions: none. -/
namespace Go.Proofs.YtdojnnlhaiennaaGreat.Se
open Go Go.Proofs.YtdojnnlhaiennaaGreat.Ae Go.Proofs.YtdojnnlhaiennaaGreat.Fx Go.Proofs.YtdojnnlhaiennaaGreat.Lx Go.Proofs.YtdojnnlhaiennaaGreat.Tx Go.Proofs.YtdojnnlhaiennaaGreat.Ve Go.Proofs.YtdojnnlhaiennaaGreat.Te

/-- A reading: kind, tick, three numbers. -/
structure Rdg where
  k : Int
  t : Int
  v : V3
def Rdg.zero : Rdg := ⟨0, 0, V3.zero⟩
def Rdg.av (r : Rdg) : AV := .agg [I r.k, I r.t, I r.v.x, I r.v.y, I r.v.z]
def rdT (r : Rdg) (b : Bool) : Option AV := some (.tup [r.av, .bool b])
def none5 : Option AV := rdT Rdg.zero false

/-! ### Two bytes -/
def wdI (a b : Int) : Int := bor .u16 (wr .u16 (wr .u16 a * p2 (min (Int.toNat 8) IntKind.u16.bits))) (wr .u16 b)
def wdC : List AV → Bool
  | [.strG _ n _] => decide (1 < (n : Int))
  | _ => false
def wdF (wd : Int → Int → Int) : List AV → Option AV
  | [.strG _ _ g] => some (.int .u16 (wd (g 0) (g 1)))
  | _ => none
theorem ltN_eq (i : Int) (n : Nat) : ltN i n = (decide (0 ≤ i) && decide (i < (n : Int))) := by
  by_cases h : 0 ≤ i ∧ i < (n : Int)
  · rw [ltN_of h.1 h.2, decide_eq_true h.1, decide_eq_true h.2]; rfl
  · have h1 : ltN i n = false := by
      cases hb : ltN i n with
      | false => rfl
      | true => exact absurd (ltN_ok hb) h
    rw [h1]
    by_cases h0 : 0 ≤ i
    · rw [decide_eq_true h0, decide_eq_false (fun h2 => h ⟨h0, h2⟩)]; rfl
    · rw [decide_eq_false h0]; rfl
theorem word_raw' (s : ByteArray) (n : Nat) (g : Nat → Int) : acall Tryz.prog [] 40 113 [.strG s n g] [] pK =
    bif ltN (0) n then (bif ltN (1) n then some (.int .u16 (wdI (g 0) (g 1))) else none) else none := by kernel_rfl
theorem word_raw (s : ByteArray) (n : Nat) (g : Nat → Int) : acall Tryz.prog [] 40 113 [.strG s n g] [] pK =
    bif decide (0 ≤ 0) && decide (0 < (n : Int)) then (bif decide (0 ≤ 1) && decide (1 < (n : Int)) then some (.int .u16 (wdI (g 0) (g 1))) else none) else none := by
  rw [word_raw', ltN_eq, ltN_eq]
  rfl
def cntI (a b : Int) : Int := wr .i64 (wr .i64 (wr .i64 a * 256) + wr .i64 b)
def sgI (a b : Int) : Int := bif decide (cntI a b ≥ 32768) then wr .i64 (cntI a b - 65536) else cntI a b
theorem count_raw' (s : ByteArray) (n : Nat) (g : Nat → Int) (i : Int) : acall Tryz.prog [] 40 107 [.strG s n g, I i] [] pK =
    bif ltN (i) n then
      bif ltN (wr .i64 (i + 1)) n then some (I (wr .i64 (wr .i64 (wr .i64 (g i.toNat) * 256) + wr .i64 (g (wr .i64 (i + 1)).toNat)))) else none
    else none := by kernel_rfl
theorem count_raw (s : ByteArray) (n : Nat) (g : Nat → Int) (i : Int) : acall Tryz.prog [] 40 107 [.strG s n g, I i] [] pK =
    bif decide (0 ≤ i) && decide (i < (n : Int)) then
      bif decide (0 ≤ wr .i64 (i + 1)) && decide (wr .i64 (i + 1) < (n : Int)) then some (I (wr .i64 (wr .i64 (wr .i64 (g i.toNat) * 256) + wr .i64 (g (wr .i64 (i + 1)).toNat)))) else none
    else none := by
  simp only [← ltN_eq]
  exact count_raw' _ _ _ _
theorem signed_raw' (s : ByteArray) (n : Nat) (g : Nat → Int) (i : Int) : acall Tryz.prog [(107, .text)] 40 106 [.strG s n g, I i] [] pK =
    bif ltN (i) n then
      bif ltN (wr .i64 (i + 1)) n then
        let c := wr .i64 (wr .i64 (wr .i64 (g i.toNat) * 256) + wr .i64 (g (wr .i64 (i + 1)).toNat))
        bif decide (c ≥ 32768) then some (I (wr .i64 (c - 65536))) else some (I c)
      else none
    else none := by kernel_rfl
theorem signed_raw (s : ByteArray) (n : Nat) (g : Nat → Int) (i : Int) : acall Tryz.prog [(107, .text)] 40 106 [.strG s n g, I i] [] pK =
    bif decide (0 ≤ i) && decide (i < (n : Int)) then
      bif decide (0 ≤ wr .i64 (i + 1)) && decide (wr .i64 (i + 1) < (n : Int)) then
        let c := wr .i64 (wr .i64 (wr .i64 (g i.toNat) * 256) + wr .i64 (g (wr .i64 (i + 1)).toNat))
        bif decide (c ≥ 32768) then some (I (wr .i64 (c - 65536))) else some (I c)
      else none
    else none := by
  simp only [← ltN_eq]
  exact signed_raw' _ _ _ _

/-! ### Reading -/
section
variable (pa nr : Op3) (un : V3 → Bool → V3 × Bool) (wd cn sg : Int → Int → Int)
def envSR : Env := [(112, .text), (113, .pure wdC (wdF wd)), (30, .text), (74, m3 112 pa), (77, .flow 112 (nrmF nr)), (114, .flow 112 (dirF un))]
def tkA (t b : Int) : Int := bor .i64 (wr .i64 (t * p2 (min (Int.toNat 8) IntKind.i64.bits))) (wr .i64 b)
def tick (g : Nat → Int) : Int := tkA (tkA (tkA (tkA (tkA (tkA 0 (g 0)) (g 1)) (g 2)) (g 3)) (g 4)) (g 5)
def okT (t : Int) : Bool := bif decide (0 ≤ t) then decide (t ≤ 157766400000) else false
def gy (ok : Bool) (n : Int) : Bool := bif (bif ok then decide (n ≤ 30000) else false) then decide (n ≥ -30000) else false
def shl25 (n : Int) : Int := wr .i64 (n * p2 (min (Int.toNat 25) IntKind.i64.bits))
theorem read1_raw (s : ByteArray) (g : Nat → Int) : acall Tryz.prog (envSR pa nr un wd) 200 69 [.agg [I 1, .strG s 12 g]] [] pK =
    let t := tick g
    let n0 := wr .i64 (wr .i16 (wd (g 6) (g 7)))
    let n1 := wr .i64 (wr .i16 (wd (g 8) (g 9)))
    let n2 := wr .i64 (wr .i16 (wd (g 10) (g 11)))
    bif !(gy (gy (gy (okT t) n0) n1) n2) then none5 else rdT ⟨1, t, ⟨shl25 n0, shl25 n1, shl25 n2⟩⟩ true := by kernel_rfl
theorem read3_raw (s : ByteArray) (g : Nat → Int) : acall Tryz.prog (envSR pa nr un wd) 200 69 [.agg [I 3, .strG s 12 g]] [] pK =
    let t := tick g
    let n0 := wr .i64 (wr .i16 (wd (g 6) (g 7)))
    let n1 := wr .i64 (wr .i16 (wd (g 8) (g 9)))
    let n2 := wr .i64 (wr .i16 (wd (g 10) (g 11)))
    let a := pa 1099511627776 n0 100 false
    let b := pa 1099511627776 n1 100 a.2
    let c := pa 1099511627776 n2 100 b.2
    let n := (nr a.1 b.1 c.1 c.2).1
    bif !(an (an (okT t) (decide (n ≥ 1099511627776))) (decide (n ≤ 131941395333120))) then none5 else rdT ⟨3, t, ⟨a.1, b.1, c.1⟩⟩ true := by kernel_rfl
def lt2 (lit : Bool) (a b : Int) : Bool := bif lit then true else decide ((if b > a then b else a) ≥ 2000)
def df (a b : Int) : Int := wr .i64 (wr .i64 (wr .i64 a - wr .i64 b) * p2 (min (Int.toNat 24) IntKind.i64.bits))
theorem read2_raw (s : ByteArray) (g : Nat → Int) : acall Tryz.prog (envSR pa nr un wd) 200 69 [.agg [I 2, .strG s 18 g]] [] pK =
    let t := tick g
    let a0 := wd (g 6) (g 7)
    let b0 := wd (g 8) (g 9)
    let a1 := wd (g 10) (g 11)
    let b1 := wd (g 12) (g 13)
    let a2 := wd (g 14) (g 15)
    let b2 := wd (g 16) (g 17)
    let u := un ⟨df a0 b0, df a1 b1, df a2 b2⟩ false
    bif !(an (an (okT t) (lt2 (lt2 (lt2 false a0 b0) a1 b1) a2 b2)) (!u.2)) then none5 else rdT ⟨2, t, u.1⟩ true := by kernel_rfl
theorem read1_no (s : ByteArray) (g : Nat → Int) : acall Tryz.prog (envSR pa nr un wd) 200 69 [.agg [I 1, .strF s 0 g [12]]] [] pK = none5 := by kernel_rfl
theorem read3_no (s : ByteArray) (g : Nat → Int) : acall Tryz.prog (envSR pa nr un wd) 200 69 [.agg [I 3, .strF s 0 g [12]]] [] pK = none5 := by kernel_rfl
theorem read2_no (s : ByteArray) (g : Nat → Int) : acall Tryz.prog (envSR pa nr un wd) 200 69 [.agg [I 2, .strF s 0 g [18]]] [] pK = none5 := by kernel_rfl
end
end Go.Proofs.YtdojnnlhaiennaaGreat.Se

/- A sensor's reading: the program's and the reference's functions are the same plain one. Conditions: none. -/
namespace Go.Proofs.YtdojnnlhaiennaaGreat.Se
open Go Go.Proofs.YtdojnnlhaiennaaGreat.Ae Go.Proofs.YtdojnnlhaiennaaGreat.Fx Go.Proofs.YtdojnnlhaiennaaGreat.Lx Go.Proofs.YtdojnnlhaiennaaGreat.Tx Go.Proofs.YtdojnnlhaiennaaGreat.Ve Go.Proofs.YtdojnnlhaiennaaGreat.Te Go.Proofs.YtdojnnlhaiennaaGreat.Rx

/-! ### The rest of the raw forms -/
section
variable (pa nr : Op3) (un : V3 → Bool → V3 × Bool) (wd cn sg : Int → Int → Int)
theorem readL_no (k : Int) (s : ByteArray) : acall Tryz.prog (envSR pa nr un wd) 200 69 [.agg [.intF .i64 k [] [0] [1, 2, 3], .str s]] [] pK = none5 := by kernel_rfl
theorem readH_no (k : Int) (s : ByteArray) : acall Tryz.prog (envSR pa nr un wd) 200 69 [.agg [.intF .i64 k [4] [] [1, 2, 3], .str s]] [] pK = none5 := by kernel_rfl
def cnC : List AV → Bool
  | [.strG _ n _, .int .i64 i] => decide (0 ≤ i) && decide (i + 1 < (n : Int)) && decide (n < 1000)
  | _ => false
def cnF (cn : Int → Int → Int) : List AV → Option AV
  | [.strG _ _ g, .int .i64 i] => some (I (cn (g i.toNat) (g (i + 1).toNat)))
  | _ => none
def renvSR : Env := [(66, .text), (107, .pure cnC (cnF cn)), (106, .pure cnC (cnF sg)), (16, m3 74 pa), (21, .flow 74 (nrmF nr)), (105, .flow 74 (dirF un))]
def rtA (t b : Int) : Int := wr .i64 (wr .i64 (t * 256) + wr .i64 b)
def rtick (g : Nat → Int) : Int := rtA (rtA (rtA (rtA (rtA (rtA 0 (g 0)) (g 1)) (g 2)) (g 3)) (g 4)) (g 5)
def rokT (t : Int) : Bool := bif decide (t ≥ 0) then decide (t ≤ 157766400000) else false
def far (n : Int) : Bool := bif decide (n > 30000) then true else decide (n < -30000)
theorem rread1_raw (s : ByteArray) (g : Nat → Int) : acall Tryz.prog (renvSR pa nr un cn sg) 200 58 [.agg [I 1, .strG s 12 g]] [] pK =
    let t := rtick g
    let n0 := sg (g 6) (g 7)
    let n1 := sg (g 8) (g 9)
    let n2 := sg (g 10) (g 11)
    bif !(rokT t) then none5 else bif far n0 then none5 else bif far n1 then none5 else bif far n2 then none5 else
      rdT ⟨1, t, ⟨wr .i64 (n0 * 33554432), wr .i64 (n1 * 33554432), wr .i64 (n2 * 33554432)⟩⟩ true := by kernel_rfl
theorem rread3_raw (s : ByteArray) (g : Nat → Int) : acall Tryz.prog (renvSR pa nr un cn sg) 200 58 [.agg [I 3, .strG s 12 g]] [] pK =
    let t := rtick g
    let a := pa 1099511627776 (sg (g 6) (g 7)) 100 false
    let b := pa 1099511627776 (sg (g 8) (g 9)) 100 a.2
    let c := pa 1099511627776 (sg (g 10) (g 11)) 100 b.2
    let n := (nr a.1 b.1 c.1 c.2).1
    bif !(rokT t) then none5 else bif (bif decide (n < 1099511627776) then true else decide (n > 131941395333120)) then none5 else rdT ⟨3, t, ⟨a.1, b.1, c.1⟩⟩ true := by kernel_rfl
def rlt2 (lit : Bool) (a b : Int) : Bool := bif (bif lit then true else decide (a ≥ 2000)) then true else decide (b ≥ 2000)
def rdf (a b : Int) : Int := wr .i64 (wr .i64 (a - b) * 16777216)
theorem rread2_raw (s : ByteArray) (g : Nat → Int) : acall Tryz.prog (renvSR pa nr un cn sg) 200 58 [.agg [I 2, .strG s 18 g]] [] pK =
    let t := rtick g
    let a0 := cn (g 6) (g 7)
    let b0 := cn (g 8) (g 9)
    let a1 := cn (g 10) (g 11)
    let b1 := cn (g 12) (g 13)
    let a2 := cn (g 14) (g 15)
    let b2 := cn (g 16) (g 17)
    let u := un ⟨rdf a0 b0, rdf a1 b1, rdf a2 b2⟩ false
    bif !(rokT t) then none5 else bif (bif !(rlt2 (rlt2 (rlt2 false a0 b0) a1 b1) a2 b2) then true else u.2) then none5 else rdT ⟨2, t, u.1⟩ true := by kernel_rfl
theorem rread1_no (s : ByteArray) (g : Nat → Int) : acall Tryz.prog (renvSR pa nr un cn sg) 200 58 [.agg [I 1, .strF s 0 g [12]]] [] pK = none5 := by kernel_rfl
theorem rread3_no (s : ByteArray) (g : Nat → Int) : acall Tryz.prog (renvSR pa nr un cn sg) 200 58 [.agg [I 3, .strF s 0 g [12]]] [] pK = none5 := by kernel_rfl
theorem rread2_no (s : ByteArray) (g : Nat → Int) : acall Tryz.prog (renvSR pa nr un cn sg) 200 58 [.agg [I 2, .strF s 0 g [18]]] [] pK = none5 := by kernel_rfl
theorem rreadL_no (k : Int) (s : ByteArray) : acall Tryz.prog (renvSR pa nr un cn sg) 200 58 [.agg [.intF .i64 k [] [0] [1, 2, 3], .str s]] [] pK = none5 := by kernel_rfl
theorem rreadH_no (k : Int) (s : ByteArray) : acall Tryz.prog (renvSR pa nr un cn sg) 200 58 [.agg [.intF .i64 k [4] [] [1, 2, 3], .str s]] [] pK = none5 := by kernel_rfl
end

/-! ### Two bytes, six bytes -/
theorem word_con : PureOk Tryz.prog 113 wdC (wdF wdI) := by
  refine pure_of ok_nil 40 _ _ _ ?_
  rintro args v hC h
  unfold wdF at h
  split at h <;> cases h
  rename_i s n g
  simp only [wdC, decide_eq_true_eq] at hC
  refine ⟨rfl, rfl, (word_raw s n g).trans ?_⟩
  rw [decide_eq_true (show 0 < (n : Int) by omega), decide_eq_true hC]
  rfl
theorem count_con : PureOk Tryz.prog 107 cnC (cnF cntI) := by
  refine pure_of ok_nil 40 _ _ _ ?_
  rintro args v hC h
  unfold cnF at h
  split at h <;> cases h
  rename_i s n g i
  simp only [cnC, Bool.and_eq_true, decide_eq_true_eq] at hC
  refine ⟨rfl, rfl, (count_raw s n g i).trans ?_⟩
  rw [w64_in (n := i + 1) (by omega) (by omega), decide_eq_true (show 0 ≤ i by omega), decide_eq_true (show i < (n : Int) by omega), decide_eq_true (show 0 ≤ i + 1 by omega), decide_eq_true (show i + 1 < (n : Int) by omega)]
  rfl
theorem signed_con : PureOk Tryz.prog 106 cnC (cnF sgI) := by
  refine pure_of (EnvOk.t ok_nil (enter_of Tryz.func107 (by kernel_rfl) rfl)) 40 _ _ _ ?_
  rintro args v hC h
  unfold cnF at h
  split at h <;> cases h
  rename_i s n g i
  simp only [cnC, Bool.and_eq_true, decide_eq_true_eq] at hC
  refine ⟨rfl, rfl, (signed_raw s n g i).trans ?_⟩
  rw [w64_in (n := i + 1) (by omega) (by omega), decide_eq_true (show 0 ≤ i by omega), decide_eq_true (show i < (n : Int) by omega), decide_eq_true (show 0 ≤ i + 1 by omega), decide_eq_true (show i + 1 < (n : Int) by omega)]
  simp only [Bool.and_self, cond_true]
  unfold sgI cntI
  generalize wr .i64 (wr .i64 (wr .i64 (g i.toNat) * 256) + wr .i64 (g (i + 1).toNat)) = c
  cases decide (c ≥ 32768)
  · rw [bf, bf]
  · rw [bt, bt]
abbrev By (n : Int) : Prop := 0 ≤ n ∧ n < 256
theorem wdI_eq {a b : Int} (ha : By a) (hb : By b) : wdI a b = a * 256 + b := by
  unfold wdI
  have e0 : p2 (min (Int.toNat 8) IntKind.u16.bits) = 256 := by decide
  have e1 : wr .u16 a = a := by show a % 65536 = a; omega
  have e2 : wr .u16 b = b := by show b % 65536 = b; omega
  have e3 : wr .u16 (a * 256) = a * 256 := by show a * 256 % 65536 = a * 256; omega
  rw [e0, e1, e2, e3, bor16_lo ha hb]
theorem i16_eq {a b : Int} (ha : By a) (hb : By b) : wr .i64 (wr .i16 (wdI a b)) = Te.sg a b := by
  rw [wdI_eq ha hb]
  unfold Te.sg
  have e4 : wr .i16 (a * 256 + b) = (a * 256 + b + 32768) % 65536 - 32768 := rfl
  rw [e4, w64_in (by omega) (by omega)]
  split <;> omega
theorem cntI_eq {a b : Int} (ha : By a) (hb : By b) : cntI a b = a * 256 + b := by
  unfold cntI
  rw [w64_in (n := a) (by omega) (by omega), w64_in (n := a * 256) (by omega) (by omega), w64_in (n := b) (by omega) (by omega), w64_in (n := a * 256 + b) (by omega) (by omega)]
theorem sgI_eq {a b : Int} (ha : By a) (hb : By b) : sgI a b = Te.sg a b := by
  unfold sgI Te.sg
  rw [cntI_eq ha hb]
  by_cases h : a * 256 + b ≥ 32768
  · rw [decide_eq_true h, bt, if_pos h, w64_in (by omega) (by omega)]
  · rw [decide_eq_false h, bf, if_neg h]
theorem tkA_eq {t b : Int} (ht : 0 ≤ t) (ht1 : t < 36028797018963968) (hb : By b) : tkA t b = t * 256 + b := by
  unfold tkA
  have e0 : p2 (min (Int.toNat 8) IntKind.i64.bits) = 256 := by decide
  rw [e0, w64_in (n := t * 256) (by omega) (by omega), w64_in (n := b) (by omega) (by omega), bor64_lo ht ht1 hb]
theorem rtA_eq {t b : Int} (ht : 0 ≤ t) (ht1 : t < 36028797018963968) (hb : By b) : rtA t b = t * 256 + b := by
  unfold rtA
  rw [w64_in (n := t * 256) (by omega) (by omega), w64_in (n := b) (by omega) (by omega), w64_in (by omega) (by omega)]
def tickP (g : Nat → Int) : Int := ((((g 0 * 256 + g 1) * 256 + g 2) * 256 + g 3) * 256 + g 4) * 256 + g 5
theorem tick_eq {g : Nat → Int} (hg : B g) : tick g = tickP g := by
  have h0 := hg 0; have h1 := hg 1; have h2 := hg 2; have h3 := hg 3; have h4 := hg 4; have h5 := hg 5
  unfold tick tickP
  rw [tkA_eq (t := 0) (by omega) (by omega) h0, tkA_eq (by omega) (by omega) h1, tkA_eq (by omega) (by omega) h2, tkA_eq (by omega) (by omega) h3, tkA_eq (by omega) (by omega) h4, tkA_eq (by omega) (by omega) h5]
  simp only [Int.zero_mul, Int.zero_add]
theorem rtick_eq {g : Nat → Int} (hg : B g) : rtick g = tickP g := by
  have h0 := hg 0; have h1 := hg 1; have h2 := hg 2; have h3 := hg 3; have h4 := hg 4; have h5 := hg 5
  unfold rtick tickP
  rw [rtA_eq (t := 0) (by omega) (by omega) h0, rtA_eq (by omega) (by omega) h1, rtA_eq (by omega) (by omega) h2, rtA_eq (by omega) (by omega) h3, rtA_eq (by omega) (by omega) h4, rtA_eq (by omega) (by omega) h5]
  simp only [Int.zero_mul, Int.zero_add]

/-! ### The plain function -/
def okP (t : Int) : Bool := decide (0 ≤ t ∧ t ≤ 157766400000)
def in3 (n : Int) : Bool := decide (-30000 ≤ n ∧ n ≤ 30000)
def lit (a b : Int) : Bool := decide (2000 ≤ a ∨ 2000 ≤ b)
def u2 (g : Nat → Int) (i : Nat) : Int := g i * 256 + g (i + 1)
def s2 (g : Nat → Int) (i : Nat) : Int := Te.sg (g i) (g (i + 1))
def cut (c : Bool) (r : Rdg) : Rdg × Bool := if c = true then (r, true) else (Rdg.zero, false)
def rd1 (g : Nat → Int) : Rdg × Bool := cut (okP (tickP g) && in3 (s2 g 6) && in3 (s2 g 8) && in3 (s2 g 10)) ⟨1, tickP g, ⟨s2 g 6 * 33554432, s2 g 8 * 33554432, s2 g 10 * 33554432⟩⟩
def fld (g : Nat → Int) : V3 × Bool :=
  let a := Fx.part 1099511627776 (s2 g 6) 100 false
  let b := Fx.part 1099511627776 (s2 g 8) 100 a.2
  let c := Fx.part 1099511627776 (s2 g 10) 100 b.2
  (⟨a.1, b.1, c.1⟩, c.2)
def rd3 (g : Nat → Int) : Rdg × Bool :=
  let v := fld g
  let n := (norm v.1.x v.1.y v.1.z v.2).1
  cut (okP (tickP g) && decide (1099511627776 ≤ n ∧ n ≤ 131941395333120)) ⟨3, tickP g, v.1⟩
def sunV (g : Nat → Int) : V3 := ⟨(u2 g 6 - u2 g 8) * 16777216, (u2 g 10 - u2 g 12) * 16777216, (u2 g 14 - u2 g 16) * 16777216⟩
def rd2 (g : Nat → Int) : Rdg × Bool :=
  let u := unit (sunV g) false
  cut (okP (tickP g) && (lit (u2 g 6) (u2 g 8) || lit (u2 g 10) (u2 g 12) || lit (u2 g 14) (u2 g 16)) && !u.2) ⟨2, tickP g, u.1⟩
def readS (k : Int) (s : ByteArray) : Rdg × Bool :=
  if k = 1 ∧ s.size = 12 then rd1 (gOf s) else if k = 3 ∧ s.size = 12 then rd3 (gOf s) else if k = 2 ∧ s.size = 18 then rd2 (gOf s) else (Rdg.zero, false)
theorem cut_eq {c c' : Bool} (h : c = c') (r : Rdg) : (bif !c then none5 else rdT r true) = rdT (cut c' r).1 (cut c' r).2 := by
  subst h; cases c <;> rfl
theorem cut_eq2 {a b c : Bool} (h : (a && !b) = c) (r : Rdg) : (bif !a then none5 else bif b then none5 else rdT r true) = rdT (cut c r).1 (cut c r).2 := by
  subst h; cases a <;> cases b <;> rfl
theorem okT_eq (t : Int) : okT t = okP t := by
  unfold okT okP
  exact (an_eq _ _).trans (dand _ _)
theorem rokT_eq (t : Int) : rokT t = okP t := by
  unfold rokT okP
  simp only [ge_iff_le]
  exact (an_eq _ _).trans (dand _ _)
theorem gy_eq (ok : Bool) (n : Int) : gy ok n = (ok && in3 n) := by
  unfold gy in3
  have : (bif (bif ok then decide (n ≤ 30000) else false) then decide (n ≥ -30000) else false) = (ok && (decide (n ≤ 30000) && decide (n ≥ -30000))) := by cases ok <;> cases decide (n ≤ 30000) <;> rfl
  rw [this, dand]
  congr 1
  exact decide_eq_decide.2 ⟨fun h => ⟨h.2, h.1⟩, fun h => ⟨h.2, h.1⟩⟩
theorem far_eq (n : Int) : far n = !(in3 n) := by
  unfold far in3
  have : (bif decide (n > 30000) then true else decide (n < -30000)) = (decide (n > 30000) || decide (n < -30000)) := by cases decide (n > 30000) <;> rfl
  rw [this]
  by_cases h : -30000 ≤ n ∧ n ≤ 30000
  · rw [decide_eq_true h, decide_eq_false (show ¬ n > 30000 by omega), decide_eq_false (show ¬ n < -30000 by omega)]; rfl
  · rw [decide_eq_false h]
    by_cases h2 : n > 30000
    · rw [decide_eq_true h2]; rfl
    · rw [decide_eq_true (show n < -30000 by omega)]; simp
theorem sg_in {a b : Int} (ha : By a) (hb : By b) : -32768 ≤ Te.sg a b ∧ Te.sg a b ≤ 32767 := by unfold Te.sg; split <;> omega
theorem shl25_eq {n : Int} (h : -32768 ≤ n ∧ n ≤ 32767) : shl25 n = n * 33554432 := by
  unfold shl25
  have e0 : p2 (min (Int.toNat 25) IntKind.i64.bits) = 33554432 := by decide
  rw [e0, w64_in (by omega) (by omega)]
theorem lt2_eq (l : Bool) (a b : Int) : lt2 l a b = (l || lit a b) := by
  unfold lt2 lit
  cases l
  · simp only [cond_false, Bool.false_or]
    refine decide_eq_decide.2 ?_
    split <;> omega
  · rfl
theorem rlt2_eq (l : Bool) (a b : Int) : rlt2 l a b = (l || lit a b) := by
  unfold rlt2 lit
  cases l
  · simp only [cond_false, Bool.false_or]
    by_cases h : a ≥ 2000
    · rw [decide_eq_true h, bt, decide_eq_true (.inl h)]
    · rw [decide_eq_false h, bf]
      exact decide_eq_decide.2 ⟨fun h => .inr h, fun h => h.resolve_left (by omega)⟩
  · rfl
theorem df_eq {a b : Int} (ha : 0 ≤ a ∧ a < 65536) (hb : 0 ≤ b ∧ b < 65536) : df a b = (a - b) * 16777216 := by
  unfold df
  have e0 : p2 (min (Int.toNat 24) IntKind.i64.bits) = 16777216 := by decide
  rw [e0, w64_in (n := a) (by omega) (by omega), w64_in (n := b) (by omega) (by omega), w64_in (n := a - b) (by omega) (by omega), w64_in (by omega) (by omega)]
theorem rdf_eq {a b : Int} (ha : 0 ≤ a ∧ a < 65536) (hb : 0 ≤ b ∧ b < 65536) : rdf a b = (a - b) * 16777216 := by
  unfold rdf
  rw [w64_in (n := a - b) (by omega) (by omega), w64_in (by omega) (by omega)]
theorem u2_in {g : Nat → Int} (hg : B g) (i : Nat) : 0 ≤ u2 g i ∧ u2 g i < 65536 := by
  have := hg i; have := hg (i + 1); unfold u2; omega
theorem s2_in {g : Nat → Int} (hg : B g) (i : Nat) : -32768 ≤ s2 g i ∧ s2 g i ≤ 32767 := sg_in (hg i) (hg (i + 1))
#print axioms df_eq
end Go.Proofs.YtdojnnlhaiennaaGreat.Se

/- A sensor's reading: the contracts. Conditions: none. -/
namespace Go.Proofs.YtdojnnlhaiennaaGreat.Se
open Go Go.Proofs.YtdojnnlhaiennaaGreat.Ae Go.Proofs.YtdojnnlhaiennaaGreat.Fx Go.Proofs.YtdojnnlhaiennaaGreat.Lx Go.Proofs.YtdojnnlhaiennaaGreat.Tx Go.Proofs.YtdojnnlhaiennaaGreat.Ve Go.Proofs.YtdojnnlhaiennaaGreat.Te Go.Proofs.YtdojnnlhaiennaaGreat.Rx

def rdOut (r : Rdg × Bool) : AV := .tup [r.1.av, .bool r.2]
def sreadF (rd : Int → ByteArray → Rdg × Bool) : List AV → Option AV
  | [.agg [.int .i64 k, .str s]] => some (rdOut (rd k s))
  | _ => none
theorem sreadF_some {rd : Int → ByteArray → Rdg × Bool} {args : List AV} {v : AV} (h : sreadF rd args = some v) : ∃ k s, args = [.agg [I k, .str s]] ∧ v = rdOut (rd k s) := by
  unfold sreadF at h
  split at h <;> cases h
  exact ⟨_, _, rfl, rfl⟩
theorem R_intF (m : List Nat) (k : Int) (lo hi ex : List Int) (h : (∀ l ∈ lo, l ≤ k) ∧ ∀ l ∈ hi, k ≤ l) (hex : ∀ c ∈ ex, k ≠ c) {V : Value} (hv : R m (I k) V) : R m (.intF .i64 k lo hi ex) V := by
  simp only [R] at hv ⊢
  exact ⟨hv, h, hex⟩
theorem RL_kind {m : List Nat} {k : Int} {s : AV} {a : AV} (h : ∀ V, R m (I k) V → R m a V) {Vs : List Value} (hv : RL m [.agg [I k, s]] Vs) : RL m [.agg [a, s]] Vs := by
  obtain ⟨V, Vs', rfl, h1, h2⟩ := RL_cons.1 hv
  refine RL.cons ?_ h2
  simp only [R] at h1 ⊢
  obtain ⟨Ws, rfl, h3⟩ := h1
  obtain ⟨W1, Ws1, rfl, h4, h5⟩ := RL_cons.1 h3
  exact ⟨_, rfl, RL.cons (h _ h4) h5⟩
/-- A function of a frame that agrees with the plain one at all its kinds. -/
theorem sread_of {f : FuncId} {env : Env} (hE : EnvOk Tryz.prog env)
    (h1 : ∀ s, s.size = 12 → acall Tryz.prog env 200 f [.agg [I 1, .strG s 12 (gOf s)]] [] pK = rdT (rd1 (gOf s)).1 (rd1 (gOf s)).2)
    (h3 : ∀ s, s.size = 12 → acall Tryz.prog env 200 f [.agg [I 3, .strG s 12 (gOf s)]] [] pK = rdT (rd3 (gOf s)).1 (rd3 (gOf s)).2)
    (h2 : ∀ s, s.size = 18 → acall Tryz.prog env 200 f [.agg [I 2, .strG s 18 (gOf s)]] [] pK = rdT (rd2 (gOf s)).1 (rd2 (gOf s)).2)
    (n1 : ∀ s g, acall Tryz.prog env 200 f [.agg [I 1, .strF s 0 g [12]]] [] pK = none5)
    (n3 : ∀ s g, acall Tryz.prog env 200 f [.agg [I 3, .strF s 0 g [12]]] [] pK = none5)
    (n2 : ∀ s g, acall Tryz.prog env 200 f [.agg [I 2, .strF s 0 g [18]]] [] pK = none5)
    (lo : ∀ k s, acall Tryz.prog env 200 f [.agg [.intF .i64 k [] [0] [1, 2, 3], .str s]] [] pK = none5)
    (hi : ∀ k s, acall Tryz.prog env 200 f [.agg [.intF .i64 k [4] [] [1, 2, 3], .str s]] [] pK = none5) : PureOk Tryz.prog f anyArgs (sreadF readS) := by
  refine pure_of' hE 200 _ _ _ ?_
  rintro args v - h
  obtain ⟨k, s, rfl, rfl⟩ := sreadF_some h
  have G : ∀ n, s.size = n → ∀ m Vs, RL m [.agg [I k, .str s]] Vs → RL m [.agg [I k, .strG s n (gOf s)]] Vs := fun n hn m Vs hv => RL_frame (fun V hV => by rw [← hn]; exact R_strG m s hV) hv
  have F : ∀ n : Int, (s.size : Int) ≠ n → ∀ m Vs, RL m [.agg [I k, .str s]] Vs → RL m [.agg [I k, .strF s 0 (gOf s) [n]]] Vs := fun n hn m Vs hv => RL_frame (fun V hV => R_strF m s 0 [n] (by omega) (by simpa using hn) hV) hv
  have z : ¬ (k = 1 ∧ s.size = 12) → ¬ (k = 3 ∧ s.size = 12) → ¬ (k = 2 ∧ s.size = 18) → none5 = some (rdOut (readS k s)) := fun a b c => by unfold readS; rw [if_neg a, if_neg b, if_neg c]; rfl
  refine ⟨rfl, ?_⟩
  by_cases k1 : k = 1
  · subst k1
    by_cases hs : s.size = 12
    · refine ⟨[.agg [I 1, .strG s 12 (gOf s)]], rfl, G 12 hs, (h1 s hs).trans ?_⟩
      unfold readS; rw [if_pos ⟨rfl, hs⟩]; rfl
    · exact ⟨[.agg [I 1, .strF s 0 (gOf s) [12]]], rfl, F 12 (by omega), (n1 s _).trans (z (by omega) (by omega) (by omega))⟩
  by_cases k3 : k = 3
  · subst k3
    by_cases hs : s.size = 12
    · refine ⟨[.agg [I 3, .strG s 12 (gOf s)]], rfl, G 12 hs, (h3 s hs).trans ?_⟩
      unfold readS; rw [if_neg (by omega), if_pos ⟨rfl, hs⟩]; rfl
    · exact ⟨[.agg [I 3, .strF s 0 (gOf s) [12]]], rfl, F 12 (by omega), (n3 s _).trans (z (by omega) (by omega) (by omega))⟩
  by_cases k2 : k = 2
  · subst k2
    by_cases hs : s.size = 18
    · refine ⟨[.agg [I 2, .strG s 18 (gOf s)]], rfl, G 18 hs, (h2 s hs).trans ?_⟩
      unfold readS; rw [if_neg (by omega), if_neg (by omega), if_pos ⟨rfl, hs⟩]; rfl
    · exact ⟨[.agg [I 2, .strF s 0 (gOf s) [18]]], rfl, F 18 (by omega), (n2 s _).trans (z (by omega) (by omega) (by omega))⟩
  have e : ∀ c ∈ [(1 : Int), 2, 3], k ≠ c := by simp; omega
  rcases (show k ≤ 0 ∨ 4 ≤ k by omega) with l | l
  · exact ⟨[.agg [.intF .i64 k [] [0] [1, 2, 3], .str s]], rfl, fun m Vs hv => RL_kind (fun V hV => R_intF m k _ _ _ ⟨by simp, by simpa using l⟩ e hV) hv, (lo k s).trans (z (by omega) (by omega) (by omega))⟩
  · exact ⟨[.agg [.intF .i64 k [4] [] [1, 2, 3], .str s]], rfl, fun m Vs hv => RL_kind (fun V hV => R_intF m k _ _ _ ⟨by simpa using l, by simp⟩ e hV) hv, (hi k s).trans (z (by omega) (by omega) (by omega))⟩

/-! ### The two functions -/
theorem in_wd {g : Nat → Int} (hg : B g) (i j : Nat) (e : j = i + 1) : wr .i64 (wr .i16 (wdI (g i) (g j))) = s2 g i := by subst e; exact i16_eq (hg i) (hg _)
theorem in_sg {g : Nat → Int} (hg : B g) (i j : Nat) (e : j = i + 1) : sgI (g i) (g j) = s2 g i := by subst e; exact sgI_eq (hg i) (hg _)
theorem in_uw {g : Nat → Int} (hg : B g) (i j : Nat) (e : j = i + 1) : wdI (g i) (g j) = u2 g i := by subst e; exact wdI_eq (hg i) (hg _)
theorem in_cn {g : Nat → Int} (hg : B g) (i j : Nat) (e : j = i + 1) : cntI (g i) (g j) = u2 g i := by subst e; exact cntI_eq (hg i) (hg _)
theorem sread_con : PureOk Tryz.prog 69 anyArgs (sreadF readS) := by
  have hE : EnvOk Tryz.prog (envSR Fx.part norm unit wdI) := EnvOk.t (EnvOk.p (EnvOk.t (EnvOk.f (EnvOk.f (EnvOk.f ok_nil en_vUnit unit_con) en_vNorm vnorm_con) (enter_of Tryz.func74 (by kernel_rfl) rfl) part_con) (enter_of Tryz.func30 (by kernel_rfl) rfl)) (enter_of Tryz.func113 (by kernel_rfl) rfl) word_con) (enter_of Tryz.func112 (by kernel_rfl) rfl)
  refine sread_of hE (fun s hs => ?_) (fun s hs => ?_) (fun s hs => ?_) (read1_no _ _ _ _) (read3_no _ _ _ _) (read2_no _ _ _ _) (readL_no _ _ _ _) (readH_no _ _ _ _)
  · have hg := gOf_B s
    refine (read1_raw Fx.part norm unit wdI s (gOf s)).trans ?_
    dsimp only
    rw [tick_eq hg, in_wd hg 6 7 rfl, in_wd hg 8 9 rfl, in_wd hg 10 11 rfl, shl25_eq (s2_in hg 6), shl25_eq (s2_in hg 8), shl25_eq (s2_in hg 10), gy_eq, gy_eq, gy_eq, okT_eq]
    exact cut_eq rfl _
  · have hg := gOf_B s
    refine (read3_raw Fx.part norm unit wdI s (gOf s)).trans ?_
    dsimp only
    rw [tick_eq hg, in_wd hg 6 7 rfl, in_wd hg 8 9 rfl, in_wd hg 10 11 rfl, okT_eq, an_eq, an_eq]
    refine cut_eq ?_ _
    rw [Bool.and_assoc, dand]
    rfl
  · have hg := gOf_B s
    refine (read2_raw Fx.part norm unit wdI s (gOf s)).trans ?_
    dsimp only
    rw [tick_eq hg, in_uw hg 6 7 rfl, in_uw hg 8 9 rfl, in_uw hg 10 11 rfl, in_uw hg 12 13 rfl, in_uw hg 14 15 rfl, in_uw hg 16 17 rfl, df_eq (u2_in hg 6) (u2_in hg 8), df_eq (u2_in hg 10) (u2_in hg 12), df_eq (u2_in hg 14) (u2_in hg 16), okT_eq, an_eq, an_eq, lt2_eq, lt2_eq, lt2_eq, Bool.false_or]
    exact cut_eq rfl _
theorem rread_con : PureOk Tryz.prog 58 anyArgs (sreadF readS) := by
  have hE : EnvOk Tryz.prog (renvSR Fx.part norm unit cntI sgI) := EnvOk.t (EnvOk.p (EnvOk.p (EnvOk.f (EnvOk.f (EnvOk.f ok_nil en_vrUnit runit_con) en_vrNorm rvnorm_con) en_rPart rpart_con) (enter_of Tryz.func106 (by kernel_rfl) rfl) signed_con) (enter_of Tryz.func107 (by kernel_rfl) rfl) count_con) (enter_of Tryz.func66 (by kernel_rfl) rfl)
  refine sread_of hE (fun s hs => ?_) (fun s hs => ?_) (fun s hs => ?_) (rread1_no _ _ _ _ _) (rread3_no _ _ _ _ _) (rread2_no _ _ _ _ _) (rreadL_no _ _ _ _ _) (rreadH_no _ _ _ _ _)
  · have hg := gOf_B s
    refine (rread1_raw Fx.part norm unit cntI sgI s (gOf s)).trans ?_
    dsimp only
    have h6 := s2_in hg 6; have h8 := s2_in hg 8; have h10 := s2_in hg 10
    rw [rtick_eq hg, in_sg hg 6 7 rfl, in_sg hg 8 9 rfl, in_sg hg 10 11 rfl, w64_in (by omega) (by omega), w64_in (by omega) (by omega), w64_in (by omega) (by omega), far_eq, far_eq, far_eq, rokT_eq]
    unfold rd1 cut
    cases okP (tickP (gOf s)) <;> cases in3 (s2 (gOf s) 6) <;> cases in3 (s2 (gOf s) 8) <;> cases in3 (s2 (gOf s) 10) <;> rfl
  · have hg := gOf_B s
    refine (rread3_raw Fx.part norm unit cntI sgI s (gOf s)).trans ?_
    dsimp only
    rw [rtick_eq hg, in_sg hg 6 7 rfl, in_sg hg 8 9 rfl, in_sg hg 10 11 rfl, rokT_eq]
    refine cut_eq2 ?_ _
    show _ = (okP (tickP (gOf s)) && decide (1099511627776 ≤ (norm (fld (gOf s)).1.x (fld (gOf s)).1.y (fld (gOf s)).1.z (fld (gOf s)).2).1 ∧ (norm (fld (gOf s)).1.x (fld (gOf s)).1.y (fld (gOf s)).1.z (fld (gOf s)).2).1 ≤ 131941395333120))
    congr 1
    show (!(bif decide ((norm (fld (gOf s)).1.x (fld (gOf s)).1.y (fld (gOf s)).1.z (fld (gOf s)).2).1 < 1099511627776) then true else decide ((norm (fld (gOf s)).1.x (fld (gOf s)).1.y (fld (gOf s)).1.z (fld (gOf s)).2).1 > 131941395333120))) = _
    generalize (norm (fld (gOf s)).1.x (fld (gOf s)).1.y (fld (gOf s)).1.z (fld (gOf s)).2).1 = n
    by_cases h : n < 1099511627776
    · rw [decide_eq_true h, bt, decide_eq_false (show ¬ (1099511627776 ≤ n ∧ n ≤ 131941395333120) by omega)]; rfl
    · rw [decide_eq_false h, bf]
      by_cases h2 : n > 131941395333120
      · rw [decide_eq_true h2, decide_eq_false (show ¬ (1099511627776 ≤ n ∧ n ≤ 131941395333120) by omega)]; rfl
      · rw [decide_eq_false h2, decide_eq_true (show 1099511627776 ≤ n ∧ n ≤ 131941395333120 by omega)]; rfl
  · have hg := gOf_B s
    refine (rread2_raw Fx.part norm unit cntI sgI s (gOf s)).trans ?_
    dsimp only
    rw [rtick_eq hg, in_cn hg 6 7 rfl, in_cn hg 8 9 rfl, in_cn hg 10 11 rfl, in_cn hg 12 13 rfl, in_cn hg 14 15 rfl, in_cn hg 16 17 rfl, rdf_eq (u2_in hg 6) (u2_in hg 8), rdf_eq (u2_in hg 10) (u2_in hg 12), rdf_eq (u2_in hg 14) (u2_in hg 16), rokT_eq, rlt2_eq, rlt2_eq, rlt2_eq, Bool.false_or]
    refine cut_eq2 ?_ _
    show (okP (tickP (gOf s)) && !(bif !(lit (u2 (gOf s) 6) (u2 (gOf s) 8) || lit (u2 (gOf s) 10) (u2 (gOf s) 12) || lit (u2 (gOf s) 14) (u2 (gOf s) 16)) then true else (unit (sunV (gOf s)) false).2)) = _
    cases okP (tickP (gOf s)) <;> cases (lit (u2 (gOf s) 6) (u2 (gOf s) 8) || lit (u2 (gOf s) 10) (u2 (gOf s) 12) || lit (u2 (gOf s) 14) (u2 (gOf s) 16)) <;> cases (unit (sunV (gOf s)) false).2 <;> rfl
#print axioms rread_con
end Go.Proofs.YtdojnnlhaiennaaGreat.Se

/- A sensor's frame, and what is fresh: the program's and the reference's functions are the same plain ones. Conditions: none. -/
namespace Go.Proofs.YtdojnnlhaiennaaGreat.Se
open Go Go.Proofs.YtdojnnlhaiennaaGreat.Ae Go.Proofs.YtdojnnlhaiennaaGreat.Fx Go.Proofs.YtdojnnlhaiennaaGreat.Lx Go.Proofs.YtdojnnlhaiennaaGreat.Tx Go.Proofs.YtdojnnlhaiennaaGreat.Ve Go.Proofs.YtdojnnlhaiennaaGreat.Te Go.Proofs.YtdojnnlhaiennaaGreat.Rx

/-- Six counts. -/
structure Six where
  (c0 c1 c2 c3 c4 c5 : Int)
def Six.av (c : Six) : AV := .agg [I c.c0, I c.c1, I c.c2, I c.c3, I c.c4, I c.c5]
def noFr : Option AV := some (Fr.av ⟨0, ⟨#[]⟩, false⟩)
def aFr (k : Int) (l : List Int) : Option AV := some (Fr.av ⟨k, strOf l, true⟩)
def tb (t : Int) : List Int := [wr .u8 (t / p2 40), wr .u8 (t / p2 32), wr .u8 (t / p2 24), wr .u8 (t / p2 16), wr .u8 (t / p2 8), wr .u8 (t / p2 0)]
def two (c : Int) : List Int := [wr .u8 (c / p2 8), wr .u8 c]
def s16 (c : Int) : Bool := c != wr .i64 (wr .i16 c)
def no16 (c : Int) : Bool := bif decide (c < 0) then true else decide (c > 65535)
def no16' (c : Int) : Bool := bif no16 c then true else false
theorem no16'_eq (c : Int) : no16' c = no16 c := by unfold no16'; cases no16 c <;> rfl
def envSW : Env := [(112, .text), (30, .text)]
def w3 (k t c0 c1 c2 : Int) : Option AV := bif !(okT t) then noFr else bif s16 c0 then noFr else bif s16 c1 then noFr else bif s16 c2 then noFr else aFr k (tb t ++ two c0 ++ two c1 ++ two c2)
def rc (c : Int) : Int := bif decide (c < 0) then wr .i64 (c + 65536) else c
def rtwo (c : Int) : List Int := [wr .u8 (wr .i64 ((rc c).tdiv 256)), wr .u8 ((rc c).tmod 256)]
def rs16 (c : Int) : Bool := bif decide (c < -32768) then true else decide (c > 32767)
def renvSW : Env := [(66, .text)]
def rw3 (k t c0 c1 c2 : Int) : Option AV := bif !(rokT t) then noFr else bif rs16 c0 then noFr else bif rs16 c1 then noFr else bif rs16 c2 then noFr else aFr k (tb t ++ rtwo c0 ++ rtwo c1 ++ rtwo c2)
theorem rwrite1_raw (t : Int) (c : Six) : acall Tryz.prog renvSW 200 57 [I 1, I t, c.av] [] pK = rw3 1 t c.c0 c.c1 c.c2 := by kernel_rfl
theorem rwrite3_raw (t : Int) (c : Six) : acall Tryz.prog renvSW 200 57 [I 3, I t, c.av] [] pK = rw3 3 t c.c0 c.c1 c.c2 := by kernel_rfl
theorem rwrite2_raw (t : Int) (c : Six) : acall Tryz.prog renvSW 200 57 [I 2, I t, c.av] [] pK =
    bif !(rokT t) then noFr else bif no16 c.c0 then noFr else bif no16 c.c1 then noFr else bif no16 c.c2 then noFr else bif no16 c.c3 then noFr else bif no16 c.c4 then noFr else bif no16 c.c5 then noFr else
      aFr 2 (tb t ++ rtwo c.c0 ++ rtwo c.c1 ++ rtwo c.c2 ++ rtwo c.c3 ++ rtwo c.c4 ++ rtwo c.c5) := by kernel_rfl
theorem rwriteL_raw (k t : Int) (c : Six) : acall Tryz.prog renvSW 200 57 [.intF .i64 k [] [0] [1, 2, 3], I t, c.av] [] pK = noFr := by kernel_rfl
theorem rwriteH_raw (k t : Int) (c : Six) : acall Tryz.prog renvSW 200 57 [.intF .i64 k [4] [] [1, 2, 3], I t, c.av] [] pK = noFr := by kernel_rfl

/-! ### The plain function -/
def i16 (c : Int) : Bool := decide (-32768 ≤ c ∧ c ≤ 32767)
def i17 (c : Int) : Bool := decide (0 ≤ c ∧ c ≤ 65535)
def w3P (k t c0 c1 c2 : Int) : Fr := if (okP t && i16 c0 && i16 c1 && i16 c2) = true then ⟨k, strOf (tb t ++ two c0 ++ two c1 ++ two c2), true⟩ else ⟨0, ⟨#[]⟩, false⟩
def w6P (t : Int) (c : Six) : Fr := if (okP t && i17 c.c0 && i17 c.c1 && i17 c.c2 && i17 c.c3 && i17 c.c4 && i17 c.c5) = true then ⟨2, strOf (tb t ++ two c.c0 ++ two c.c1 ++ two c.c2 ++ two c.c3 ++ two c.c4 ++ two c.c5), true⟩ else ⟨0, ⟨#[]⟩, false⟩
def writeS (k t : Int) (c : Six) : Fr := if k = 1 ∨ k = 3 then w3P k t c.c0 c.c1 c.c2 else if k = 2 then w6P t c else ⟨0, ⟨#[]⟩, false⟩
theorem s16_eq (c : Int) : s16 c = !(i16 c) := by
  unfold s16 i16
  have e : wr .i64 (wr .i16 c) = (c + 32768) % 65536 - 32768 := by
    have : wr .i16 c = (c + 32768) % 65536 - 32768 := rfl
    rw [this]; exact w64_in (by omega) (by omega)
  rw [e]
  by_cases h : -32768 ≤ c ∧ c ≤ 32767
  · have : (c + 32768) % 65536 - 32768 = c := by omega
    rw [this, decide_eq_true h]; simp
  · have : c ≠ (c + 32768) % 65536 - 32768 := by omega
    rw [decide_eq_false h]; simpa using this
theorem rng_eq (c lo hi : Int) : (bif decide (c < lo) then true else decide (c > hi)) = !(decide (lo ≤ c ∧ c ≤ hi)) := by
  by_cases h : c < lo
  · rw [decide_eq_true h, bt, decide_eq_false (by omega)]; rfl
  · rw [decide_eq_false h, bf]
    by_cases h2 : c > hi
    · rw [decide_eq_true h2, decide_eq_false (by omega)]; rfl
    · rw [decide_eq_false h2, decide_eq_true (by omega)]; rfl
theorem no16_eq (c : Int) : no16 c = !(i17 c) := rng_eq c 0 65535
theorem rs16_eq (c : Int) : rs16 c = !(i16 c) := rng_eq c (-32768) 32767
theorem rtwo_eq {c : Int} (h : -32768 ≤ c ∧ c ≤ 65535) : rtwo c = two c := by
  unfold rtwo two
  have e8 : p2 8 = 256 := by decide
  have hc : 0 ≤ rc c ∧ rc c ≤ 65535 ∧ rc c % 65536 = c % 65536 := by
    unfold rc
    by_cases hn : c < 0
    · rw [decide_eq_true hn, bt, w64_in (by omega) (by omega)]; omega
    · rw [decide_eq_false hn, bf]; omega
  generalize rc c = d at *
  have e1 : d.tdiv 256 = d / 256 := Int.tdiv_eq_ediv_of_nonneg hc.1
  have e2 : d.tmod 256 = d % 256 := Int.tmod_eq_emod_of_nonneg hc.1
  rw [e1, e2, e8, w64_in (by omega) (by omega), u8_eq, u8_eq, u8_eq, u8_eq]
  have e3 : d / 256 % 256 = c / 256 % 256 := by omega
  have e4 : d % 256 % 256 = c % 256 := by omega
  rw [e3, e4]
theorem i16_in {c : Int} (h : i16 c = true) : -32768 ≤ c ∧ c ≤ 32767 := of_decide_eq_true h
theorem i17_in {c : Int} (h : i17 c = true) : 0 ≤ c ∧ c ≤ 65535 := of_decide_eq_true h
theorem w3_eq (k t c0 c1 c2 : Int) : w3 k t c0 c1 c2 = some (w3P k t c0 c1 c2).av := by
  unfold w3 w3P
  rw [okT_eq, s16_eq, s16_eq, s16_eq]
  cases okP t <;> cases i16 c0 <;> cases i16 c1 <;> cases i16 c2 <;> rfl
theorem rw3_eq (k t c0 c1 c2 : Int) : rw3 k t c0 c1 c2 = some (w3P k t c0 c1 c2).av := by
  unfold rw3 w3P
  rw [rokT_eq, rs16_eq, rs16_eq, rs16_eq]
  cases okP t with
  | false => rfl
  | true =>
  cases h0 : i16 c0 with
  | false => rfl
  | true =>
  cases h1 : i16 c1 with
  | false => rfl
  | true =>
  cases h2 : i16 c2 with
  | false => rfl
  | true =>
  have h0 := i16_in h0; have h1 := i16_in h1; have h2 := i16_in h2
  rw [rtwo_eq (by omega), rtwo_eq (by omega), rtwo_eq (by omega)]
  rfl
theorem w6_eq (t : Int) (c : Six) : (bif !(okT t) then noFr else bif no16' c.c0 then noFr else bif no16' c.c1 then noFr else bif no16' c.c2 then noFr else bif no16' c.c3 then noFr else bif no16' c.c4 then noFr else bif no16' c.c5 then noFr else
      aFr 2 (tb t ++ two c.c0 ++ two c.c1 ++ two c.c2 ++ two c.c3 ++ two c.c4 ++ two c.c5)) = some (w6P t c).av := by
  unfold w6P
  rw [okT_eq, no16'_eq, no16'_eq, no16'_eq, no16'_eq, no16'_eq, no16'_eq, no16_eq, no16_eq, no16_eq, no16_eq, no16_eq, no16_eq]
  cases okP t <;> cases i17 c.c0 <;> cases i17 c.c1 <;> cases i17 c.c2 <;> cases i17 c.c3 <;> cases i17 c.c4 <;> cases i17 c.c5 <;> rfl
theorem rw6_eq (t : Int) (c : Six) : (bif !(rokT t) then noFr else bif no16 c.c0 then noFr else bif no16 c.c1 then noFr else bif no16 c.c2 then noFr else bif no16 c.c3 then noFr else bif no16 c.c4 then noFr else bif no16 c.c5 then noFr else
      aFr 2 (tb t ++ rtwo c.c0 ++ rtwo c.c1 ++ rtwo c.c2 ++ rtwo c.c3 ++ rtwo c.c4 ++ rtwo c.c5)) = some (w6P t c).av := by
  rw [← w6_eq, no16'_eq, no16'_eq, no16'_eq, no16'_eq, no16'_eq, no16'_eq, okT_eq, rokT_eq, no16_eq, no16_eq, no16_eq, no16_eq, no16_eq, no16_eq]
  cases okP t with
  | false => rfl
  | true =>
  cases h0 : i17 c.c0 with
  | false => rfl
  | true =>
  cases h1 : i17 c.c1 with
  | false => rfl
  | true =>
  cases h2 : i17 c.c2 with
  | false => rfl
  | true =>
  cases h3 : i17 c.c3 with
  | false => rfl
  | true =>
  cases h4 : i17 c.c4 with
  | false => rfl
  | true =>
  cases h5 : i17 c.c5 with
  | false => rfl
  | true =>
  have h0 := i17_in h0; have h1 := i17_in h1; have h2 := i17_in h2; have h3 := i17_in h3; have h4 := i17_in h4; have h5 := i17_in h5
  rw [rtwo_eq (by omega), rtwo_eq (by omega), rtwo_eq (by omega), rtwo_eq (by omega), rtwo_eq (by omega), rtwo_eq (by omega)]
def swriteF (wf : Int → Int → Six → Fr) : List AV → Option AV
  | [.int .i64 k, .int .i64 t, .agg [.int .i64 a, .int .i64 b, .int .i64 c, .int .i64 d, .int .i64 e, .int .i64 f]] => some (wf k t ⟨a, b, c, d, e, f⟩).av
  | _ => none
theorem swriteF_some {wf : Int → Int → Six → Fr} {args : List AV} {v : AV} (h : swriteF wf args = some v) : ∃ k t c, args = [I k, I t, Six.av c] ∧ v = (wf k t c).av := by
  unfold swriteF at h
  split at h <;> cases h
  exact ⟨_, _, ⟨_, _, _, _, _, _⟩, rfl, rfl⟩
theorem RL_first {m : List Nat} {k : Int} {r : List AV} {a : AV} (h : ∀ V, R m (I k) V → R m a V) {Vs : List Value} (hv : RL m (I k :: r) Vs) : RL m (a :: r) Vs := by
  obtain ⟨V, Vs', rfl, h1, h2⟩ := RL_cons.1 hv
  exact RL.cons (h _ h1) h2
theorem rswrite_con : PureOk Tryz.prog 57 anyArgs (swriteF writeS) := by
  have hE : EnvOk Tryz.prog renvSW := EnvOk.t ok_nil (enter_of Tryz.func66 (by kernel_rfl) rfl)
  refine pure_of' hE 200 _ _ _ ?_
  rintro args v - h
  obtain ⟨k, t, c, rfl, rfl⟩ := swriteF_some h
  refine ⟨rfl, ?_⟩
  by_cases k1 : k = 1
  · subst k1
    exact ⟨_, rfl, fun m Vs hv => hv, (rwrite1_raw t c).trans (rw3_eq ..)⟩
  by_cases k3 : k = 3
  · subst k3
    exact ⟨_, rfl, fun m Vs hv => hv, (rwrite3_raw t c).trans (rw3_eq ..)⟩
  by_cases k2 : k = 2
  · subst k2
    exact ⟨_, rfl, fun m Vs hv => hv, (rwrite2_raw t c).trans (rw6_eq ..)⟩
  have z : noFr = some (writeS k t c).av := by
    unfold writeS
    rw [if_neg (by omega), if_neg k2]
    rfl
  rcases (show k ≤ 0 ∨ 4 ≤ k by omega) with l | l
  · exact ⟨[.intF .i64 k [] [0] [1, 2, 3], I t, c.av], rfl, fun m Vs hv => RL_first (fun V hV => R_intF m k _ _ _ ⟨by simp, by simpa using l⟩ (by simp; omega) hV) hv, (rwriteL_raw k t c).trans z⟩
  · exact ⟨[.intF .i64 k [4] [] [1, 2, 3], I t, c.av], rfl, fun m Vs hv => RL_first (fun V hV => R_intF m k _ _ _ ⟨by simpa using l, by simp⟩ (by simp; omega) hV) hv, (rwriteH_raw k t c).trans z⟩

/-! ### Fresh -/
def freshP (t n : Int) : Bool := bif decide (t ≤ n) then decide (wr .u64 (wr .u64 n - wr .u64 t) ≤ 500) else false
theorem fresh_raw (k t a b c n : Int) : acall Tryz.prog [] 60 70 [.agg [I k, I t, I a, I b, I c], I n] [] pK = some (.bool (freshP t n)) := by kernel_rfl
def freshF : List AV → Option AV
  | [.agg [.int .i64 _, .int .i64 t, .int .i64 _, .int .i64 _, .int .i64 _], .int .i64 n] => some (.bool (freshP t n))
  | _ => none
theorem freshF_some {args : List AV} {v : AV} (h : freshF args = some v) : ∃ k t a b c n, args = [.agg [I k, I t, I a, I b, I c], I n] ∧ v = .bool (freshP t n) := by
  unfold freshF at h
  split at h <;> cases h
  exact ⟨_, _, _, _, _, _, rfl, rfl⟩
theorem fresh_con : PureOk Tryz.prog 70 anyArgs freshF := by
  refine pure_of ok_nil 60 _ _ _ ?_
  rintro args v - h
  obtain ⟨k, t, a, b, c, n, rfl, rfl⟩ := freshF_some h
  exact ⟨rfl, rfl, fresh_raw k t a b c n⟩
#print axioms rswrite_con
end Go.Proofs.YtdojnnlhaiennaaGreat.Se

/- Which elements are right: the program's and the reference's answers are the same. Conditions: none. -/
namespace Go.Proofs.YtdojnnlhaiennaaGreat.Orb
open Go Go.Proofs.YtdojnnlhaiennaaGreat.Ae Go.Proofs.YtdojnnlhaiennaaGreat.Fx Go.Proofs.YtdojnnlhaiennaaGreat.Lx Go.Proofs.YtdojnnlhaiennaaGreat.Tx Go.Proofs.YtdojnnlhaiennaaGreat.Te Go.Proofs.YtdojnnlhaiennaaGreat.Rx Go.Proofs.YtdojnnlhaiennaaGreat.Row

structure El where
  (a e i node peri m t : Int)
def El.av (o : El) : List AV := [I o.a, I o.e, I o.i, I o.node, I o.peri, I o.m, I o.t]
def chkS : List Bool → Option AV → Option AV
  | [], k => k
  | b :: l, k => bif b then some (.bool false) else chkS l k
def farA (n : Int) : Bool := oor (decide (n < -6908435304716)) (decide (n > 6908435304716))
def inA (n : Int) : Bool := an (decide (n ≥ -6908435304716)) (decide (n ≤ 6908435304716))
section
variable (mu : Op2)
theorem oright_raw (o : El) : acall Tryz.prog [(30, .text), (127, m2 112 mu)] 60 122 [.agg o.av] [] pK =
    let m1 := mu o.a (wr .i64 (1099511627776 - o.e)) false
    let m2 := mu o.a (wr .i64 (1099511627776 + o.e)) m1.2
    chkS [farA o.node, farA o.peri, farA o.m, decide (o.e < 0), decide (o.e > 109951162777), decide (o.i < 0), decide (o.i > 3454217652358), !(ckT o.t)]
      (bif decide (m1.1 ≥ 7232738120604) then (bif decide (m2.1 ≤ 9211859050600) then some (.bool !m2.2) else some (.bool false)) else some (.bool false)) := by kernel_rfl
theorem roright_raw (o : El) : acall Tryz.prog [(66, .text), (65, .text), (47, m2 74 mu)] 60 28 [.agg o.av] [] pK =
    let m1 := mu o.a (wr .i64 (1099511627776 - o.e)) false
    let m2 := mu o.a (wr .i64 (1099511627776 + o.e)) m1.2
    chkS [decide (o.e < 0), decide (o.e > 109951162777), decide (o.i < 0), decide (o.i > 3454217652358), !(inA o.node), !(inA o.peri), !(inA o.m), !(an (decide (o.t ≥ 0)) (decide (o.t ≤ 157766400000)))]
      (some (.bool (an (an (!m2.2) (decide (m1.1 ≥ 7232738120604))) (decide (m2.1 ≤ 9211859050600))))) := by kernel_rfl
end
def El.zero : El := ⟨0, 0, 0, 0, 0, 0, 0⟩
def elF (f : El → Bool) : List AV → Option AV
  | [.agg [.int .i64 a, .int .i64 e, .int .i64 i, .int .i64 n, .int .i64 p, .int .i64 m, .int .i64 t]] => some (.bool (f ⟨a, e, i, n, p, m, t⟩))
  | _ => none
/-! ### Which elements are right -/
def rightO (o : El) : Bool :=
  let m1 := mul o.a (wr .i64 (1099511627776 - o.e)) false
  let m2 := mul o.a (wr .i64 (1099511627776 + o.e)) m1.2
  !(farA o.node) && !(farA o.peri) && !(farA o.m) && !(decide (o.e < 0)) && !(decide (o.e > 109951162777)) && !(decide (o.i < 0)) && !(decide (o.i > 3454217652358)) && ckT o.t && decide (m1.1 ≥ 7232738120604) && decide (m2.1 ≤ 9211859050600) && !m2.2
theorem chkS_eq : ∀ (l : List Bool) (b : Bool), chkS l (some (.bool b)) = some (.bool (l.all (fun x => !x) && b))
  | [], b => by simp [chkS]
  | x :: l, b => by
    simp only [chkS]
    rw [chkS_eq l]
    cases x <;> simp
theorem inA_eq (n : Int) : inA n = !(farA n) := by
  unfold inA farA
  rw [an_eq, oor_eq']
  by_cases h1 : n < -6908435304716 <;> by_cases h2 : n > 6908435304716 <;> simp [h1, h2] <;> omega
where oor_eq' (a b : Bool) : oor a b = (a || b) := by cases a <;> rfl
theorem rightRaw_eq (o : El) (m1 m2 : Int × Bool) :
    chkS [farA o.node, farA o.peri, farA o.m, decide (o.e < 0), decide (o.e > 109951162777), decide (o.i < 0), decide (o.i > 3454217652358), !(ckT o.t)]
      (bif decide (m1.1 ≥ 7232738120604) then (bif decide (m2.1 ≤ 9211859050600) then some (.bool !m2.2) else some (.bool false)) else some (.bool false)) =
    some (.bool (!(farA o.node) && !(farA o.peri) && !(farA o.m) && !(decide (o.e < 0)) && !(decide (o.e > 109951162777)) && !(decide (o.i < 0)) && !(decide (o.i > 3454217652358)) && ckT o.t && decide (m1.1 ≥ 7232738120604) && decide (m2.1 ≤ 9211859050600) && !m2.2)) := by
  have e : (bif decide (m1.1 ≥ 7232738120604) then (bif decide (m2.1 ≤ 9211859050600) then some (AV.bool !m2.2) else some (.bool false)) else some (.bool false)) = some (.bool (decide (m1.1 ≥ 7232738120604) && (decide (m2.1 ≤ 9211859050600) && !m2.2))) := by
    cases decide (m1.1 ≥ 7232738120604) <;> cases decide (m2.1 ≤ 9211859050600) <;> rfl
  rw [e, chkS_eq]
  simp only [List.all_cons, List.all_nil, Bool.not_not, Bool.and_true, Bool.and_assoc]
theorem rrightRaw_eq (o : El) (m1 m2 : Int × Bool) :
    chkS [decide (o.e < 0), decide (o.e > 109951162777), decide (o.i < 0), decide (o.i > 3454217652358), !(inA o.node), !(inA o.peri), !(inA o.m), !(an (decide (o.t ≥ 0)) (decide (o.t ≤ 157766400000)))]
      (some (.bool (an (an (!m2.2) (decide (m1.1 ≥ 7232738120604))) (decide (m2.1 ≤ 9211859050600))))) =
    some (.bool (!(farA o.node) && !(farA o.peri) && !(farA o.m) && !(decide (o.e < 0)) && !(decide (o.e > 109951162777)) && !(decide (o.i < 0)) && !(decide (o.i > 3454217652358)) && ckT o.t && decide (m1.1 ≥ 7232738120604) && decide (m2.1 ≤ 9211859050600) && !m2.2)) := by
  rw [chkS_eq]
  simp only [List.all_cons, List.all_nil, Bool.not_not, Bool.and_true, inA_eq, an_eq]
  have ec : ckT o.t = (decide (o.t ≥ 0) && decide (o.t ≤ 157766400000)) := by unfold ckT; rw [an_eq]
  rw [ec]
  congr 2
  generalize farA o.node = b0
  generalize farA o.peri = b1
  generalize farA o.m = b2
  generalize decide (o.e < 0) = b3
  generalize decide (o.e > 109951162777) = b4
  generalize decide (o.i < 0) = b5
  generalize decide (o.i > 3454217652358) = b6
  generalize decide (o.t ≥ 0) = b7
  generalize decide (o.t ≤ 157766400000) = b8
  generalize decide (m1.1 ≥ 7232738120604) = b9
  generalize decide (m2.1 ≤ 9211859050600) = b10
  generalize m2.2 = b11
  ac_rfl
theorem elF_some {f : El → Bool} {args : List AV} {v : AV} (h : elF f args = some v) : ∃ o : El, args = [.agg o.av] ∧ v = .bool (f o) := by
  unfold elF at h
  split at h <;> cases h
  rename_i a e i n p m t
  exact ⟨⟨a, e, i, n, p, m, t⟩, rfl, rfl⟩
theorem oright_con : PureOk Tryz.prog 122 anyArgs (elF rightO) := by
  have hE : EnvOk Tryz.prog [(30, .text), (127, m2 112 mul)] := EnvOk.t (EnvOk.f ok_nil Fx.en_mul mul_con) (enter_of Tryz.func30 (by kernel_rfl) rfl)
  refine pure_of hE 60 _ _ _ ?_
  rintro args v - h
  obtain ⟨o, rfl, rfl⟩ := elF_some h
  exact ⟨rfl, rfl, (oright_raw mul o).trans (rightRaw_eq o _ _)⟩
theorem roright_con : PureOk Tryz.prog 28 anyArgs (elF rightO) := by
  have hE : EnvOk Tryz.prog [(66, .text), (65, .text), (47, m2 74 mul)] := EnvOk.t (EnvOk.t (EnvOk.f ok_nil en_rMul rmul_con) (enter_of Tryz.func65 (by kernel_rfl) rfl)) (enter_of Tryz.func66 (by kernel_rfl) rfl)
  refine pure_of hE 60 _ _ _ ?_
  rintro args v - h
  obtain ⟨o, rfl, rfl⟩ := elF_some h
  exact ⟨rfl, rfl, (roright_raw mul o).trans (rrightRaw_eq o _ _)⟩

end Go.Proofs.YtdojnnlhaiennaaGreat.Orb

/- The functions of package telem and of its reference, as the interpreter finds them. Conditions: none. -/
namespace Go.Proofs.YtdojnnlhaiennaaGreat.Te
open Go Go.Proofs.YtdojnnlhaiennaaGreat.Ae Go.Proofs.YtdojnnlhaiennaaGreat.Fx Go.Proofs.YtdojnnlhaiennaaGreat.Lx Go.Proofs.YtdojnnlhaiennaaGreat.Tx


/-- What is told: tick, mode, faults, ack, err, rejects, attitude, dipole. -/
structure Tell where
  (t m f a e r q0 q1 q2 q3 d0 d1 d2 : Int)
def Tell.av (x : Tell) : List AV := [I x.t, I x.m, I x.f, I x.a, I x.e, I x.r, I x.q0, I x.q1, I x.q2, I x.q3, I x.d0, I x.d1, I x.d2]
def Tell.zero : Tell := ⟨0, 0, 0, 0, 0, 0, 0, 0, 0, 0, 0, 0, 0⟩

def no16 (n : Int) : Bool := n != wr .i64 (wr .i16 n)
def no8 (n : Int) : Bool := n != wr .i64 (wr .u8 n)
def chk : List Bool → Option AV → Option AV
  | [], k => k
  | b :: l, k => bif b then some (.bool false) else chk l k
def lastB (x : Tell) : Bool := an (an (an (an (an (ckT x.t) (decide (x.m ≥ 0))) (decide (x.m ≤ 3))) (decide (x.f ≥ 0))) (decide (x.f ≤ 15))) (x.r == wr .i64 (wr .u16 x.r))
theorem right_raw (x : Tell) : acall Tryz.prog [(162, .text), (30, .text)] 60 163 [.agg x.av] [] pK =
    chk [no16 x.q0, no16 x.q1, no16 x.q2, no16 x.q3, no16 x.d0, no16 x.d1, no16 x.d2, no8 x.a, no8 x.e] (some (.bool (lastB x))) := by kernel_rfl

section
variable (pa : Op3) (rt : Tell → Bool)
def rightF (rt : Tell → Bool) : List AV → Option AV
  | [.agg [.int .i64 t, .int .i64 m, .int .i64 f, .int .i64 a, .int .i64 e, .int .i64 r, .int .i64 q0, .int .i64 q1, .int .i64 q2, .int .i64 q3, .int .i64 d0, .int .i64 d1, .int .i64 d2]] => some (.bool (rt ⟨t, m, f, a, e, r, q0, q1, q2, q3, d0, d1, d2⟩))
  | _ => none
structure Seven where
  (p0 p1 p2 p3 e0 e1 e2 : Int)
  bad : Bool
def seven (q0 q1 q2 q3 m0 m1 m2 : Int) : Seven :=
  let p0 := pa q0 1 67108864 false
  let p1 := pa q1 1 67108864 p0.2
  let p2 := pa q2 1 67108864 p1.2
  let p3 := pa q3 1 67108864 p2.2
  let e0 := pa m0 10000 1099511627776 p3.2
  let e1 := pa m1 10000 1099511627776 e0.2
  let e2 := pa m2 10000 1099511627776 e1.2
  ⟨p0.1, p1.1, p2.1, p3.1, e0.1, e1.1, e2.1, e2.2⟩
def Seven.tup (s : Seven) : AV := .tup [.agg [I s.p0, I s.p1, I s.p2, I s.p3], .agg [I s.e0, I s.e1, I s.e2]]
def Seven.none : AV := .tup [.agg [I 0, I 0, I 0, I 0], .agg [I 0, I 0, I 0]]
def countsRaw (s : Seven) : Option AV :=
  bif s.bad then some Seven.none else bif !(rt ⟨0, 0, 0, 0, 0, 0, s.p0, s.p1, s.p2, s.p3, s.e0, s.e1, s.e2⟩) then some Seven.none else some s.tup
def envC : Env := [(162, .text), (163, .pure anyArgs (rightF rt)), (74, m3 112 pa)]
theorem counts_raw (q0 q1 q2 q3 m0 m1 m2 : Int) : acall Tryz.prog (envC pa rt) 60 90 [.agg [I q0, I q1, I q2, I q3], .agg [I m0, I m1, I m2]] [] pK = countsRaw rt (seven pa q0 q1 q2 q3 m0 m1 m2) := by kernel_rfl
def inR (ok : Bool) (n : Int) : Bool := an (an ok (decide (n ≥ -32768))) (decide (n ≤ 32767))
def rcountsRaw (s : Seven) : Option AV :=
  bif oor (!(inR (inR (inR (inR (inR (inR (inR true s.p0) s.p1) s.p2) s.p3) s.e0) s.e1) s.e2)) s.bad then some Seven.none else some s.tup
def renvC : Env := [(16, m3 74 pa)]
end
end Go.Proofs.YtdojnnlhaiennaaGreat.Te

/- Frames of what is told, written and read, as the interpreter finds them. Conditions: none. -/
namespace Go.Proofs.YtdojnnlhaiennaaGreat.Te
open Go Go.Proofs.YtdojnnlhaiennaaGreat.Ae Go.Proofs.YtdojnnlhaiennaaGreat.Fx Go.Proofs.YtdojnnlhaiennaaGreat.Lx Go.Proofs.YtdojnnlhaiennaaGreat.Tx

def noFrame : AV := .tup [.agg [I 0, .str ⟨#[]⟩], .bool false]
section
variable (rt : Tell → Bool)
def two (n : Int) : List Int := [wr .u8 (n / p2 8), wr .u8 n]
def wBytes (x : Tell) : List Int := [wr .u8 (x.t / p2 40), wr .u8 (x.t / p2 32), wr .u8 (x.t / p2 24), wr .u8 (x.t / p2 16), wr .u8 (x.t / p2 8), wr .u8 (x.t / p2 0),
  wr .u8 x.m, wr .u8 x.f, wr .u8 x.a, wr .u8 x.e, wr .u8 (x.r / p2 8), wr .u8 x.r] ++ two x.q0 ++ two x.q1 ++ two x.q2 ++ two x.q3 ++ two x.d0 ++ two x.d1 ++ two x.d2
def envR : Env := [(162, .text), (163, .pure anyArgs (rightF rt))]
theorem write_raw (x : Tell) : acall Tryz.prog (envR rt) 80 91 [.agg x.av] [] pK =
    bif !(rt x) then some noFrame else some (.tup [.agg [I 32, .str (strOf (wBytes x))], .bool true]) := by kernel_rfl

def rtwo (n : Int) : List Int :=
  let n' := bif decide (n < 0) then wr .i64 (n + 65536) else n
  [wr .u8 (wr .i64 (n'.tdiv 256)), wr .u8 (n'.tmod 256)]
def rwBytes (x : Tell) : List Int := [wr .u8 (x.t / p2 40), wr .u8 (x.t / p2 32), wr .u8 (x.t / p2 24), wr .u8 (x.t / p2 16), wr .u8 (x.t / p2 8), wr .u8 (x.t / p2 0),
  wr .u8 x.m, wr .u8 x.f, wr .u8 x.a, wr .u8 x.e] ++ rtwo x.r ++ rtwo x.q0 ++ rtwo x.q1 ++ rtwo x.q2 ++ rtwo x.q3 ++ rtwo x.d0 ++ rtwo x.d1 ++ rtwo x.d2
/-! ### Reading -/
def noTell : AV := .tup [.agg Tell.zero.av, .bool false]
def tk (t b : Int) : Int := bor .i64 (wr .i64 (t * p2 8)) (wr .i64 b)
def cnt (a b : Int) : Int := wr .i64 (wr .i16 (bor .u16 (wr .u16 (wr .u16 a * p2 8)) (wr .u16 b)))
def rdTell (g : Nat → Int) : Tell :=
  ⟨tk (tk (tk (tk (tk (tk 0 (g 0)) (g 1)) (g 2)) (g 3)) (g 4)) (g 5), wr .i64 (g 6), wr .i64 (g 7), wr .i64 (g 8), wr .i64 (g 9), bor .i64 (wr .i64 (wr .i64 (g 10) * p2 8)) (wr .i64 (g 11)),
    cnt (g 12) (g 13), cnt (g 14) (g 15), cnt (g 16) (g 17), cnt (g 18) (g 19), cnt (g 20) (g 21), cnt (g 22) (g 23), cnt (g 24) (g 25)⟩
end
end Go.Proofs.YtdojnnlhaiennaaGreat.Te

/- The reference of package telem, as the interpreter finds it; the laws' shapes. Conditions: none. -/
namespace Go.Proofs.YtdojnnlhaiennaaGreat.Te
open Go Go.Proofs.YtdojnnlhaiennaaGreat.Ae Go.Proofs.YtdojnnlhaiennaaGreat.Fx Go.Proofs.YtdojnnlhaiennaaGreat.Lx Go.Proofs.YtdojnnlhaiennaaGreat.Tx Go.Proofs.YtdojnnlhaiennaaGreat.Row

def inn (n a b : Int) : Bool := an (decide (n ≥ a)) (decide (n ≤ b))
def chain : List Bool → Bool → Option AV
  | [], k => some (.bool k)
  | b :: l, k => bif b then chain l k else some (.bool false)
def rck (t : Int) : Bool := an (decide (t ≥ 0)) (decide (t ≤ 157766400000))
theorem rright_raw (x : Tell) : acall Tryz.prog [(170, .text), (66, .text)] 80 109 [.agg x.av] [] pK =
    chain [rck x.t, inn x.m 0 3, inn x.f 0 15, inn x.a 0 255, inn x.e 0 255, inn x.r 0 65535, inn x.q0 (-32768) 32767, inn x.q1 (-32768) 32767, inn x.q2 (-32768) 32767, inn x.q3 (-32768) 32767, inn x.d0 (-32768) 32767, inn x.d1 (-32768) 32767] (inn x.d2 (-32768) 32767) := by kernel_rfl

theorem ltN_eq (i : Int) (n : Nat) : ltN i n = (decide (0 ≤ i) && decide (i < (n : Int))) := by
  by_cases h : 0 ≤ i ∧ i < (n : Int)
  · rw [ltN_of h.1 h.2, decide_eq_true h.1, decide_eq_true h.2]; rfl
  · have h1 : ltN i n = false := by
      cases hb : ltN i n with
      | false => rfl
      | true => exact absurd (ltN_ok hb) h
    rw [h1]
    by_cases h0 : 0 ≤ i
    · rw [decide_eq_true h0, decide_eq_false (fun h2 => h ⟨h0, h2⟩)]; rfl
    · rw [decide_eq_false h0]; rfl
theorem rcount_raw' (s : ByteArray) (n : Nat) (g : Nat → Int) (i : Int) : acall Tryz.prog [] 40 108 [.strG s n g, I i] [] pK =
    bif ltN (i) n then
      bif ltN (wr .i64 (i + 1)) n then
        let c := wr .i64 (wr .i64 (wr .i64 (g i.toNat) * 256) + wr .i64 (g (wr .i64 (i + 1)).toNat))
        bif decide (c ≥ 32768) then some (I (wr .i64 (c - 65536))) else some (I c)
      else none
    else none := by kernel_rfl
theorem rcount_raw (s : ByteArray) (n : Nat) (g : Nat → Int) (i : Int) : acall Tryz.prog [] 40 108 [.strG s n g, I i] [] pK =
    bif decide (0 ≤ i) && decide (i < (n : Int)) then
      bif decide (0 ≤ wr .i64 (i + 1)) && decide (wr .i64 (i + 1) < (n : Int)) then
        let c := wr .i64 (wr .i64 (wr .i64 (g i.toNat) * 256) + wr .i64 (g (wr .i64 (i + 1)).toNat))
        bif decide (c ≥ 32768) then some (I (wr .i64 (c - 65536))) else some (I c)
      else none
    else none := by
  simp only [← ltN_eq]
  exact rcount_raw' _ _ _ _
section
variable (rt : Tell → Bool) (cn : Int → Int → Int)
def cntC : List AV → Bool
  | [.strG _ n _, .int .i64 i] => decide (0 ≤ i) && decide (i + 1 < (n : Int)) && decide (n < 1000)
  | _ => false
def cntF (cn : Int → Int → Int) : List AV → Option AV
  | [.strG _ _ g, .int .i64 i] => some (I (cn (g i.toNat) (g (i + 1).toNat)))
  | _ => none
def renvD : Env := [(108, .pure cntC (cntF cn)), (109, .pure anyArgs (rightF rt))]
def rtk (t b : Int) : Int := wr .i64 (wr .i64 (t * 256) + wr .i64 b)
def rrdTell (g : Nat → Int) : Tell :=
  ⟨rtk (rtk (rtk (rtk (rtk (rtk 0 (g 0)) (g 1)) (g 2)) (g 3)) (g 4)) (g 5), wr .i64 (g 6), wr .i64 (g 7), wr .i64 (g 8), wr .i64 (g 9), wr .i64 (wr .i64 (wr .i64 (g 10) * 256) + wr .i64 (g 11)),
    cn (g 12) (g 13), cn (g 14) (g 15), cn (g 16) (g 17), cn (g 18) (g 19), cn (g 20) (g 21), cn (g 22) (g 23), cn (g 24) (g 25)⟩
theorem rread_raw (k : Int) (s : ByteArray) (g : Nat → Int) : acall Tryz.prog (renvD rt cn) 80 64 [.agg [I k, .strG s 26 g]] [] pK =
    bif oor (k != 32) false then some noTell else bif !(rt (rrdTell cn g)) then some noTell else some (.tup [.agg (rrdTell cn g).av, .bool true]) := by kernel_rfl
theorem rread_no (k : Int) (s : ByteArray) (g : Nat → Int) : acall Tryz.prog (renvD rt cn) 80 64 [.agg [I k, .strF s 0 g [26]]] [] pK = bif oor (k != 32) true then some noTell else none := by kernel_rfl
end

/-! ### The laws -/
structure Rd where
  t : Tell
  ok : Bool
def Rd.av (x : Rd) : AV := .tup [.agg x.t.av, .bool x.ok]
section
variable (wf : Tell → Fr) (rd : Int → ByteArray → Rd)
def writeF : List AV → Option AV
  | [.agg [.int .i64 t, .int .i64 m, .int .i64 f, .int .i64 a, .int .i64 e, .int .i64 r, .int .i64 q0, .int .i64 q1, .int .i64 q2, .int .i64 q3, .int .i64 d0, .int .i64 d1, .int .i64 d2]] => some (wf ⟨t, m, f, a, e, r, q0, q1, q2, q3, d0, d1, d2⟩).av
  | _ => none
def readF : List AV → Option AV
  | [.agg [.int .i64 k, .str s]] => some (rd k s).av
  | _ => none
def frEq (x y : Fr) : Bool := an (x.k == y.k) (an (x.s == y.s) true)
end
section
variable (wf rwf : Tell → Fr) (rd rrd : Int → ByteArray → Rd)
def tlEq (x y : Tell) : Bool := (x.t == y.t) && ((x.m == y.m) && ((x.f == y.f) && ((x.a == y.a) && ((x.e == y.e) && ((x.r == y.r) &&
  (((x.q0 == y.q0) && ((x.q1 == y.q1) && ((x.q2 == y.q2) && ((x.q3 == y.q3) && true)))) && (((x.d0 == y.d0) && ((x.d1 == y.d1) && ((x.d2 == y.d2) && true))) && true)))))))
end
end Go.Proofs.YtdojnnlhaiennaaGreat.Te

/- What is told, as plain numbers: the program's and the reference's functions are the same ones. Conditions: none. -/
namespace Go.Proofs.YtdojnnlhaiennaaGreat.Te
open Go Go.Proofs.YtdojnnlhaiennaaGreat.Ae Go.Proofs.YtdojnnlhaiennaaGreat.Fx Go.Proofs.YtdojnnlhaiennaaGreat.Lx Go.Proofs.YtdojnnlhaiennaaGreat.Tx Go.Proofs.YtdojnnlhaiennaaGreat.Row Go.Proofs.YtdojnnlhaiennaaGreat.Rx

/-! ### Which may be told -/
def i16 (n : Int) : Bool := decide (-32768 ≤ n ∧ n ≤ 32767)
def rightP (x : Tell) : Bool := decide (0 ≤ x.t ∧ x.t ≤ 157766400000) && decide (0 ≤ x.m ∧ x.m ≤ 3) && decide (0 ≤ x.f ∧ x.f ≤ 15) && decide (0 ≤ x.a ∧ x.a ≤ 255) && decide (0 ≤ x.e ∧ x.e ≤ 255) && decide (0 ≤ x.r ∧ x.r ≤ 65535) &&
  i16 x.q0 && i16 x.q1 && i16 x.q2 && i16 x.q3 && i16 x.d0 && i16 x.d1 && i16 x.d2

theorem no16_eq (n : Int) : no16 n = !(i16 n) := by
  unfold no16 i16
  have e : wr .i64 (wr .i16 n) = (n + 32768) % 65536 - 32768 := by
    have : wr .i16 n = (n + 32768) % 65536 - 32768 := rfl
    rw [this]; exact w64_in (by omega) (by omega)
  rw [e]
  by_cases h : -32768 ≤ n ∧ n ≤ 32767
  · have : (n + 32768) % 65536 - 32768 = n := by omega
    rw [this, decide_eq_true h]; simp
  · have : n ≠ (n + 32768) % 65536 - 32768 := by omega
    rw [decide_eq_false h]; simpa using this
theorem no8_eq (n : Int) : no8 n = !(decide (0 ≤ n ∧ n ≤ 255)) := by
  unfold no8
  have e : wr .i64 (wr .u8 n) = n % 256 := by
    have : wr .u8 n = n % 256 := rfl
    rw [this]; exact w64_in (by omega) (by omega)
  rw [e]
  by_cases h : 0 ≤ n ∧ n ≤ 255
  · have : n % 256 = n := by omega
    rw [this, decide_eq_true h]; simp
  · have : n ≠ n % 256 := by omega
    rw [decide_eq_false h]; simpa using this
theorem lastB_eq (x : Tell) : lastB x = (decide (0 ≤ x.t ∧ x.t ≤ 157766400000) && decide (0 ≤ x.m ∧ x.m ≤ 3) && decide (0 ≤ x.f ∧ x.f ≤ 15) && decide (0 ≤ x.r ∧ x.r ≤ 65535)) := by
  unfold lastB ckT
  simp only [an_eq]
  have e : (x.r == wr .i64 (wr .u16 x.r)) = decide (0 ≤ x.r ∧ x.r ≤ 65535) := by
    have e : wr .i64 (wr .u16 x.r) = x.r % 65536 := by
      have : wr .u16 x.r = x.r % 65536 := rfl
      rw [this]; exact w64_in (by omega) (by omega)
    rw [e]
    by_cases h : 0 ≤ x.r ∧ x.r ≤ 65535
    · have : x.r % 65536 = x.r := by omega
      rw [this, decide_eq_true h]; simp
    · have : x.r ≠ x.r % 65536 := by omega
      rw [decide_eq_false h]; simpa using this
  rw [e]
  simp only [ge_iff_le, dand, and_assoc]
theorem chk_eq : ∀ (l : List Bool) (b : Bool), chk l (some (.bool b)) = some (.bool (l.all (fun x => !x) && b))
  | [], b => by simp [chk]
  | x :: l, b => by
    simp only [chk]
    rw [chk_eq l]
    cases x <;> simp
theorem chain_eq : ∀ (l : List Bool) (b : Bool), chain l b = some (.bool (l.all (fun x => x) && b))
  | [], b => by simp [chain]
  | x :: l, b => by
    simp only [chain]
    rw [chain_eq l]
    cases x <;> simp
theorem right_con : PureOk Tryz.prog 163 anyArgs (rightF rightP) := by
  have hE : EnvOk Tryz.prog [(162, .text), (30, .text)] := EnvOk.t (EnvOk.t ok_nil (enter_of Tryz.func30 (by kernel_rfl) rfl)) (enter_of Tryz.func162 (by kernel_rfl) rfl)
  refine pure_of hE 60 _ _ _ ?_
  rintro args v - h
  unfold rightF at h
  split at h <;> cases h
  rename_i t m f a e r q0 q1 q2 q3 d0 d1 d2
  refine ⟨rfl, rfl, (right_raw ⟨t, m, f, a, e, r, q0, q1, q2, q3, d0, d1, d2⟩).trans ?_⟩
  rw [chk_eq, lastB_eq]
  simp only [no16_eq, no8_eq, List.all_cons, List.all_nil, Bool.not_not, rightP, Bool.and_true]
  congr 2
  generalize i16 q0 = b0
  generalize i16 q1 = b1
  generalize i16 q2 = b2
  generalize i16 q3 = b3
  generalize i16 d0 = b4
  generalize i16 d1 = b5
  generalize i16 d2 = b6
  generalize decide (0 ≤ t ∧ t ≤ 157766400000) = c0
  generalize decide (0 ≤ m ∧ m ≤ 3) = c1
  generalize decide (0 ≤ f ∧ f ≤ 15) = c2
  generalize decide (0 ≤ a ∧ a ≤ 255) = c3
  generalize decide (0 ≤ e ∧ e ≤ 255) = c4
  generalize decide (0 ≤ r ∧ r ≤ 65535) = c5
  ac_rfl
theorem inn_eq (n a b : Int) : inn n a b = decide (a ≤ n ∧ n ≤ b) := by
  unfold inn; rw [an_eq]; simp only [ge_iff_le, dand]
theorem rright_con : PureOk Tryz.prog 109 anyArgs (rightF rightP) := by
  have hE : EnvOk Tryz.prog [(170, .text), (66, .text)] := EnvOk.t (EnvOk.t ok_nil (enter_of Tryz.func66 (by kernel_rfl) rfl)) (enter_of Tryz.func170 (by kernel_rfl) rfl)
  refine pure_of hE 80 _ _ _ ?_
  rintro args v - h
  unfold rightF at h
  split at h <;> cases h
  rename_i t m f a e r q0 q1 q2 q3 d0 d1 d2
  refine ⟨rfl, rfl, (rright_raw ⟨t, m, f, a, e, r, q0, q1, q2, q3, d0, d1, d2⟩).trans ?_⟩
  rw [chain_eq]
  simp only [inn_eq, rck, an_eq, ge_iff_le, dand, List.all_cons, List.all_nil, rightP, i16, Bool.and_true, and_assoc]

/-! ### Writing -/
def writeP (x : Tell) : Fr := if rightP x then ⟨32, strOf (wBytes x), true⟩ else ⟨0, ⟨#[]⟩, false⟩
theorem writeRaw_eq (x : Tell) : (bif !(rightP x) then some noFrame else some (.tup [.agg [I 32, .str (strOf (wBytes x))], .bool true])) = some (writeP x).av := by
  unfold writeP
  cases rightP x
  · simp only [Bool.not_false, cond_true, Bool.false_eq_true, if_false]; rfl
  · simp only [Bool.not_true, cond_false, if_true]; rfl
theorem rtwo_eq {n : Int} (h : -32768 ≤ n ∧ n ≤ 65535) : rtwo n = two n := by
  unfold rtwo two
  dsimp only
  rw [p2_8, w64_in (n := n + 65536) (by omega) (by omega)]
  by_cases hn : n < 0
  · rw [decide_eq_true hn, bt]
    have h1 : (n + 65536).tdiv 256 = (n + 65536) / 256 := Int.tdiv_eq_ediv_of_nonneg (by omega)
    have h2 : (n + 65536).tmod 256 = (n + 65536) % 256 := Int.tmod_eq_emod_of_nonneg (by omega)
    rw [h1, h2, w64_in (by omega) (by omega), u8_eq, u8_eq, u8_eq, u8_eq]
    have e1 : (n + 65536) / 256 % 256 = n / 256 % 256 := by omega
    have e2 : (n + 65536) % 256 % 256 = n % 256 := by omega
    rw [e1, e2]
  · rw [decide_eq_false hn, bf]
    have h1 : n.tdiv 256 = n / 256 := Int.tdiv_eq_ediv_of_nonneg (by omega)
    have h2 : n.tmod 256 = n % 256 := Int.tmod_eq_emod_of_nonneg (by omega)
    simp only [h1, h2, w64_in (n := n / 256) (by omega) (by omega), u8_eq]
    have e2 : n % 256 % 256 = n % 256 := by omega
    rw [e2]
structure RightX (x : Tell) : Prop where
  t : 0 ≤ x.t ∧ x.t ≤ 157766400000
  m : 0 ≤ x.m ∧ x.m ≤ 3
  f : 0 ≤ x.f ∧ x.f ≤ 15
  a : 0 ≤ x.a ∧ x.a ≤ 255
  e : 0 ≤ x.e ∧ x.e ≤ 255
  r : 0 ≤ x.r ∧ x.r ≤ 65535
  q0 : -32768 ≤ x.q0 ∧ x.q0 ≤ 32767
  q1 : -32768 ≤ x.q1 ∧ x.q1 ≤ 32767
  q2 : -32768 ≤ x.q2 ∧ x.q2 ≤ 32767
  q3 : -32768 ≤ x.q3 ∧ x.q3 ≤ 32767
  d0 : -32768 ≤ x.d0 ∧ x.d0 ≤ 32767
  d1 : -32768 ≤ x.d1 ∧ x.d1 ≤ 32767
  d2 : -32768 ≤ x.d2 ∧ x.d2 ≤ 32767
theorem rightX {x : Tell} (h : rightP x = true) : RightX x := by
  simp only [rightP, i16, Bool.and_eq_true, decide_eq_true_eq] at h
  obtain ⟨⟨⟨⟨⟨⟨⟨⟨⟨⟨⟨⟨h0, h1⟩, h2⟩, h3⟩, h4⟩, h5⟩, h6⟩, h7⟩, h8⟩, h9⟩, h10⟩, h11⟩, h12⟩ := h
  exact ⟨h0, h1, h2, h3, h4, h5, h6, h7, h8, h9, h10, h11, h12⟩
theorem rwBytes_eq {x : Tell} (h : rightP x = true) : rwBytes x = wBytes x := by
  obtain ⟨_, _, _, _, _, r, q0, q1, q2, q3, d0, d1, d2⟩ := rightX h
  unfold rwBytes wBytes
  rw [rtwo_eq ⟨by omega, r.2⟩, rtwo_eq ⟨q0.1, by omega⟩, rtwo_eq ⟨q1.1, by omega⟩, rtwo_eq ⟨q2.1, by omega⟩, rtwo_eq ⟨q3.1, by omega⟩, rtwo_eq ⟨d0.1, by omega⟩, rtwo_eq ⟨d1.1, by omega⟩, rtwo_eq ⟨d2.1, by omega⟩]
  rfl
theorem writeF_some {wf : Tell → Fr} {args : List AV} {v : AV} (h : writeF wf args = some v) : ∃ x : Tell, args = [.agg x.av] ∧ v = (wf x).av := by
  unfold writeF at h
  split at h <;> cases h
  rename_i t m f a e r q0 q1 q2 q3 d0 d1 d2
  exact ⟨⟨t, m, f, a, e, r, q0, q1, q2, q3, d0, d1, d2⟩, rfl, rfl⟩
theorem write_con : PureOk Tryz.prog 91 anyArgs (writeF writeP) := by
  have hE : EnvOk Tryz.prog (envR rightP) := EnvOk.t (EnvOk.p ok_nil (enter_of Tryz.func163 (by kernel_rfl) rfl) right_con) (enter_of Tryz.func162 (by kernel_rfl) rfl)
  refine pure_of hE 80 _ _ _ ?_
  rintro args v - h
  obtain ⟨x, rfl, rfl⟩ := writeF_some h
  exact ⟨rfl, rfl, (write_raw rightP x).trans (writeRaw_eq x)⟩
end Go.Proofs.YtdojnnlhaiennaaGreat.Te

/- Frames of what is told, read: the program's and the reference's functions are the same one; the three laws of layer 17. Conditions: none. -/
namespace Go.Proofs.YtdojnnlhaiennaaGreat.Te
open Go Go.Proofs.YtdojnnlhaiennaaGreat.Ae Go.Proofs.YtdojnnlhaiennaaGreat.Fx Go.Proofs.YtdojnnlhaiennaaGreat.Lx Go.Proofs.YtdojnnlhaiennaaGreat.Tx Go.Proofs.YtdojnnlhaiennaaGreat.Row Go.Proofs.YtdojnnlhaiennaaGreat.Rx

/-! ### Bytes -/
def dTell (g : Nat → Int) : Tell :=
  ⟨((((g 0 * 256 + g 1) * 256 + g 2) * 256 + g 3) * 256 + g 4) * 256 + g 5, g 6, g 7, g 8, g 9, g 10 * 256 + g 11,
    sg (g 12) (g 13), sg (g 14) (g 15), sg (g 16) (g 17), sg (g 18) (g 19), sg (g 20) (g 21), sg (g 22) (g 23), sg (g 24) (g 25)⟩
theorem cnt_eq {a b : Int} (ha : 0 ≤ a ∧ a < 256) (hb : 0 ≤ b ∧ b < 256) : cnt a b = sg a b := by
  unfold cnt sg
  have e1 : wr .u16 a = a := by show a % 65536 = a; omega
  have e2 : wr .u16 b = b := by show b % 65536 = b; omega
  have e3 : wr .u16 (a * 256) = a * 256 := by show a * 256 % 65536 = a * 256; omega
  rw [p2_8, e1, e2, e3, bor16_lo ha hb]
  have e4 : wr .i16 (a * 256 + b) = (a * 256 + b + 32768) % 65536 - 32768 := rfl
  rw [e4, w64_in (by omega) (by omega)]
  split <;> omega
theorem tk_eq {t b : Int} (ht : 0 ≤ t) (ht1 : t < 36028797018963968) (hb : 0 ≤ b ∧ b < 256) : tk t b = t * 256 + b := by
  unfold tk
  rw [p2_8, w64_in (n := t * 256) (by omega) (by omega), w64_in (n := b) (by omega) (by omega), bor64_lo ht ht1 hb]
theorem rtk_eq {t b : Int} (ht : 0 ≤ t) (ht1 : t < 36028797018963968) (hb : 0 ≤ b ∧ b < 256) : rtk t b = t * 256 + b := by
  unfold rtk
  rw [w64_in (n := t * 256) (by omega) (by omega), w64_in (n := b) (by omega) (by omega), w64_in (by omega) (by omega)]
theorem rdTell_eq {g : Nat → Int} (hg : B g) : rdTell g = dTell g := by
  have h0 := hg 0; have h1 := hg 1; have h2 := hg 2; have h3 := hg 3; have h4 := hg 4; have h5 := hg 5; have h6 := hg 6; have h7 := hg 7; have h8 := hg 8; have h9 := hg 9; have h10 := hg 10; have h11 := hg 11
  unfold rdTell dTell
  rw [cnt_eq (hg 12) (hg 13), cnt_eq (hg 14) (hg 15), cnt_eq (hg 16) (hg 17), cnt_eq (hg 18) (hg 19), cnt_eq (hg 20) (hg 21), cnt_eq (hg 22) (hg 23), cnt_eq (hg 24) (hg 25)]
  rw [tk_eq (t := 0) (by omega) (by omega) h0, tk_eq (by omega) (by omega) h1, tk_eq (by omega) (by omega) h2, tk_eq (by omega) (by omega) h3, tk_eq (by omega) (by omega) h4, tk_eq (by omega) (by omega) h5]
  rw [p2_8, w64_in (n := g 10) (by omega) (by omega), w64_in (n := g 10 * 256) (by omega) (by omega), w64_in (n := g 11) (by omega) (by omega), bor64_lo (by omega) (by omega) h11]
  rw [w64_in (n := g 6) (by omega) (by omega), w64_in (n := g 7) (by omega) (by omega), w64_in (n := g 8) (by omega) (by omega), w64_in (n := g 9) (by omega) (by omega)]
  simp only [Int.zero_mul, Int.zero_add]
theorem rrdTell_eq {g : Nat → Int} (hg : B g) : rrdTell sg g = dTell g := by
  have h0 := hg 0; have h1 := hg 1; have h2 := hg 2; have h3 := hg 3; have h4 := hg 4; have h5 := hg 5; have h6 := hg 6; have h7 := hg 7; have h8 := hg 8; have h9 := hg 9; have h10 := hg 10; have h11 := hg 11
  unfold rrdTell dTell
  rw [rtk_eq (t := 0) (by omega) (by omega) h0, rtk_eq (by omega) (by omega) h1, rtk_eq (by omega) (by omega) h2, rtk_eq (by omega) (by omega) h3, rtk_eq (by omega) (by omega) h4, rtk_eq (by omega) (by omega) h5]
  rw [w64_in (n := g 10) (by omega) (by omega), w64_in (n := g 10 * 256) (by omega) (by omega), w64_in (n := g 11) (by omega) (by omega), w64_in (n := g 10 * 256 + g 11) (by omega) (by omega)]
  rw [w64_in (n := g 6) (by omega) (by omega), w64_in (n := g 7) (by omega) (by omega), w64_in (n := g 8) (by omega) (by omega), w64_in (n := g 9) (by omega) (by omega)]
  simp only [Int.zero_mul, Int.zero_add]

/-! ### Reading -/

def readP (k : Int) (s : ByteArray) : Rd := if k = 32 ∧ s.size = 26 ∧ rightP (dTell (gOf s)) = true then ⟨dTell (gOf s), true⟩ else ⟨Tell.zero, false⟩
theorem readF_some {rd : Int → ByteArray → Rd} {args : List AV} {v : AV} (h : readF rd args = some v) : ∃ k s, args = [.agg [I k, .str s]] ∧ v = (rd k s).av := by
  unfold readF at h
  split at h <;> cases h
  exact ⟨_, _, rfl, rfl⟩
theorem readRaw_eq (k : Int) (s : ByteArray) (hs : s.size = 26) : (bif oor (k != 32) false then some noTell else bif !(rightP (dTell (gOf s))) then some noTell else some (.tup [.agg (dTell (gOf s)).av, .bool true])) = some (readP k s).av := by
  rw [oor_f]
  unfold readP
  by_cases hk : k = 32
  · subst hk
    rw [show ((32 : Int) != 32) = false from by decide, bf]
    cases hr : rightP (dTell (gOf s))
    · rw [if_neg (by simp)]; rfl
    · rw [if_pos ⟨rfl, hs, rfl⟩]; rfl
  · have : (k != 32) = true := by simpa using hk
    rw [this, bt, if_neg (fun h => hk h.1)]; rfl
def cnR (a b : Int) : Int :=
  let c := wr .i64 (wr .i64 (wr .i64 a * 256) + wr .i64 b)
  bif decide (c ≥ 32768) then wr .i64 (c - 65536) else c
theorem count_con : PureOk Tryz.prog 108 cntC (cntF cnR) := by
  refine pure_of ok_nil 40 _ _ _ ?_
  rintro args v hC h
  unfold cntF at h
  split at h <;> cases h
  rename_i s n g i
  simp only [cntC, Bool.and_eq_true, decide_eq_true_eq] at hC
  refine ⟨rfl, rfl, (rcount_raw s n g i).trans ?_⟩
  rw [w64_in (n := i + 1) (by omega) (by omega), decide_eq_true (show 0 ≤ i by omega), decide_eq_true (show i < (n : Int) by omega), decide_eq_true (show 0 ≤ i + 1 by omega), decide_eq_true (show i + 1 < (n : Int) by omega)]
  simp only [Bool.and_self, cond_true]
  unfold cnR
  dsimp only
  generalize wr .i64 (wr .i64 (wr .i64 (g i.toNat) * 256) + wr .i64 (g (i + 1).toNat)) = c
  cases decide (c ≥ 32768)
  · rw [bf, bf]
  · rw [bt, bt]
theorem cnR_eq {a b : Int} (ha : 0 ≤ a ∧ a < 256) (hb : 0 ≤ b ∧ b < 256) : cnR a b = sg a b := by
  unfold cnR sg
  rw [w64_in (n := a) (by omega) (by omega), w64_in (n := a * 256) (by omega) (by omega), w64_in (n := b) (by omega) (by omega), w64_in (n := a * 256 + b) (by omega) (by omega)]
  dsimp only
  by_cases h : a * 256 + b ≥ 32768
  · rw [decide_eq_true h, bt, if_pos h, w64_in (by omega) (by omega)]
  · rw [decide_eq_false h, bf, if_neg h]
theorem rrdTell_eq' {g : Nat → Int} (hg : B g) : rrdTell cnR g = dTell g := by
  rw [← rrdTell_eq hg]
  unfold rrdTell
  rw [cnR_eq (hg 12) (hg 13), cnR_eq (hg 14) (hg 15), cnR_eq (hg 16) (hg 17), cnR_eq (hg 18) (hg 19), cnR_eq (hg 20) (hg 21), cnR_eq (hg 22) (hg 23), cnR_eq (hg 24) (hg 25)]
theorem rread_con : PureOk Tryz.prog 64 anyArgs (readF readP) := by
  have hE : EnvOk Tryz.prog (renvD rightP cnR) := EnvOk.p (EnvOk.p ok_nil (enter_of Tryz.func109 (by kernel_rfl) rfl) rright_con) (enter_of Tryz.func108 (by kernel_rfl) rfl) count_con
  refine pure_of' hE 80 _ _ _ ?_
  rintro args v - h
  obtain ⟨k, s, rfl, rfl⟩ := readF_some h
  refine ⟨rfl, ?_⟩
  by_cases hs : s.size = 26
  · refine ⟨[.agg [I k, .strG s 26 (gOf s)]], rfl, fun m Vs hv => RL_frame (fun V hV => by rw [← hs]; exact R_strG m s hV) hv, (rread_raw rightP cnR k s (gOf s)).trans ?_⟩
    rw [rrdTell_eq' (gOf_B s)]
    exact readRaw_eq k s hs
  · refine ⟨[.agg [I k, .strF s 0 (gOf s) [26]]], rfl, fun m Vs hv => RL_frame (fun V hV => R_strF m s 0 [26] (by omega) (by simp; omega) hV) hv, (rread_no rightP cnR k s (gOf s)).trans ?_⟩
    rw [oor_t, bt]
    unfold readP
    rw [if_neg (fun h => hs h.2.1)]; rfl

/-! ### What is written is read as that -/
theorem two_sg {n : Int} (h : -32768 ≤ n ∧ n ≤ 32767) : sg (n / 256 % 256) (n % 256) = n := by
  unfold sg; split <;> omega
theorem dTell_wBytes {x : Tell} (h : rightP x = true) : dTell (gOf (strOf (wBytes x))) = x := by
  obtain ⟨t, m, f, a, e, r, q0, q1, q2, q3, d0, d1, d2⟩ := rightX h
  have hp : p2 40 = 1099511627776 ∧ p2 32 = 4294967296 ∧ p2 24 = 16777216 ∧ p2 16 = 65536 ∧ p2 8 = 256 ∧ p2 0 = 1 := by decide
  obtain ⟨p1, p2', p3, p4, p5, p6⟩ := hp
  have G : ∀ (i : Nat) (n : Int), (wBytes x)[i]? = some (wr .u8 n) → gOf (strOf (wBytes x)) i = n % 256 := fun i n h => gOf_strOf _ (n := n % 256) h (by omega)
  unfold dTell
  rw [G 0 (x.t / p2 40) rfl, G 1 (x.t / p2 32) rfl, G 2 (x.t / p2 24) rfl, G 3 (x.t / p2 16) rfl, G 4 (x.t / p2 8) rfl, G 5 (x.t / p2 0) rfl, G 6 x.m rfl, G 7 x.f rfl, G 8 x.a rfl, G 9 x.e rfl, G 10 (x.r / p2 8) rfl, G 11 x.r rfl,
    G 12 (x.q0 / p2 8) rfl, G 13 x.q0 rfl, G 14 (x.q1 / p2 8) rfl, G 15 x.q1 rfl, G 16 (x.q2 / p2 8) rfl, G 17 x.q2 rfl, G 18 (x.q3 / p2 8) rfl, G 19 x.q3 rfl, G 20 (x.d0 / p2 8) rfl, G 21 x.d0 rfl, G 22 (x.d1 / p2 8) rfl, G 23 x.d1 rfl, G 24 (x.d2 / p2 8) rfl, G 25 x.d2 rfl]
  rw [p1, p2', p3, p4, p5, p6, two_sg q0, two_sg q1, two_sg q2, two_sg q3, two_sg d0, two_sg d1, two_sg d2]
  have e1 : ((((x.t / 1099511627776 % 256 * 256 + x.t / 4294967296 % 256) * 256 + x.t / 16777216 % 256) * 256 + x.t / 65536 % 256) * 256 + x.t / 256 % 256) * 256 + x.t / 1 % 256 = x.t := by omega
  have e2 : x.m % 256 = x.m := by omega
  have e3 : x.f % 256 = x.f := by omega
  have e4 : x.a % 256 = x.a := by omega
  have e5 : x.e % 256 = x.e := by omega
  have e6 : x.r / 256 % 256 * 256 + x.r % 256 = x.r := by omega
  rw [e1, e2, e3, e4, e5, e6]
theorem readP_writeP (x : Tell) : readP (writeP x).k (writeP x).s = ⟨if rightP x then x else Tell.zero, rightP x⟩ := by
  unfold writeP
  cases h : rightP x
  · simp only [Bool.false_eq_true, if_false]
    unfold readP
    rw [if_neg (fun h => by have := h.1; omega)]
  · simp only [if_true]
    unfold readP
    rw [dTell_wBytes h, if_pos ⟨rfl, by rw [strOf_size]; rfl, h⟩]
theorem tlEq_refl (x : Tell) : tlEq x x = true := by unfold tlEq; simp
theorem twrites_plain (t : Tell) :
    (let x := writeP t
    let y := writeP t
    bif oor (!(fEq x.k y.k x.s y.s)) (x.ok != y.ok) then some false else
    let r := readP x.k x.s
    some (an (r.ok == x.ok) (oor (!x.ok) (tlEq r.t t)))) = some true := by
  dsimp only
  rw [fEq_refl, readP_writeP]
  have e : (writeP t).ok = rightP t := by unfold writeP; cases rightP t <;> rfl
  rw [e]
  cases h : rightP t
  · rfl
  · simp only [if_true, tlEq_refl]; rfl

/-! ### What is read is written as just that frame -/
theorem list26 {α : Type} {l : List α} (h : l.length = 26) : ∃ a b c d e f g h i j k m n o p q r s t u v w x y z aa, l = [a, b, c, d, e, f, g, h, i, j, k, m, n, o, p, q, r, s, t, u, v, w, x, y, z, aa] := by
  match l, h with
  | [a, b, c, d, e, f, g, h, i, j, k, m, n, o, p, q, r, s, t, u, v, w, x, y, z, aa], _ => exact ⟨a, b, c, d, e, f, g, h, i, j, k, m, n, o, p, q, r, s, t, u, v, w, x, y, z, aa, rfl⟩
theorem two_hi {a b : Int} (ha : 0 ≤ a ∧ a < 256) (hb : 0 ≤ b ∧ b < 256) : sg a b / 256 % 256 = a ∧ sg a b % 256 = b := by
  unfold sg; split <;> omega
theorem wBytes_back {s : ByteArray} (hs : s.size = 26) : strOf (wBytes (dTell (gOf s))) = s := by
  have hg := gOf_B s
  refine strOf_gOf (by rw [hs]; rfl) (fun i hi => ?_)
  rw [hs] at hi
  have hp : p2 40 = 1099511627776 ∧ p2 32 = 4294967296 ∧ p2 24 = 16777216 ∧ p2 16 = 65536 ∧ p2 8 = 256 ∧ p2 0 = 1 := by decide
  obtain ⟨p1, p2', p3, p4, p5, p6⟩ := hp
  have h0 := hg 0; have h1 := hg 1; have h2 := hg 2; have h3 := hg 3; have h4 := hg 4; have h5 := hg 5; have h6 := hg 6; have h7 := hg 7; have h8 := hg 8; have h9 := hg 9; have h10 := hg 10; have h11 := hg 11
  have t1 := two_hi (hg 12) (hg 13); have t2 := two_hi (hg 14) (hg 15); have t3 := two_hi (hg 16) (hg 17); have t4 := two_hi (hg 18) (hg 19); have t5 := two_hi (hg 20) (hg 21); have t6 := two_hi (hg 22) (hg 23); have t7 := two_hi (hg 24) (hg 25)
  generalize gOf s = g at *
  have key : wBytes (dTell g) = [g 0, g 1, g 2, g 3, g 4, g 5, g 6, g 7, g 8, g 9, g 10, g 11, g 12, g 13, g 14, g 15, g 16, g 17, g 18, g 19, g 20, g 21, g 22, g 23, g 24, g 25] := by
    unfold wBytes dTell two
    simp only [u8_eq, p1, p2', p3, p4, p5, p6, t1.1, t1.2, t2.1, t2.2, t3.1, t3.2, t4.1, t4.2, t5.1, t5.2, t6.1, t6.2, t7.1, t7.2, List.cons_append, List.nil_append]
    generalize g 0 = b0 at *
    generalize g 1 = b1 at *
    generalize g 2 = b2 at *
    generalize g 3 = b3 at *
    generalize g 4 = b4 at *
    generalize g 5 = b5 at *
    have e0 : (((((b0 * 256 + b1) * 256 + b2) * 256 + b3) * 256 + b4) * 256 + b5) / 1099511627776 % 256 = b0 := by omega
    have e1 : (((((b0 * 256 + b1) * 256 + b2) * 256 + b3) * 256 + b4) * 256 + b5) / 4294967296 % 256 = b1 := by omega
    have e2 : (((((b0 * 256 + b1) * 256 + b2) * 256 + b3) * 256 + b4) * 256 + b5) / 16777216 % 256 = b2 := by omega
    have e3 : (((((b0 * 256 + b1) * 256 + b2) * 256 + b3) * 256 + b4) * 256 + b5) / 65536 % 256 = b3 := by omega
    have e4 : (((((b0 * 256 + b1) * 256 + b2) * 256 + b3) * 256 + b4) * 256 + b5) / 256 % 256 = b4 := by omega
    have e5 : (((((b0 * 256 + b1) * 256 + b2) * 256 + b3) * 256 + b4) * 256 + b5) / 1 % 256 = b5 := by omega
    have e6 : g 6 % 256 = g 6 := by omega
    have e7 : g 7 % 256 = g 7 := by omega
    have e8 : g 8 % 256 = g 8 := by omega
    have e9 : g 9 % 256 = g 9 := by omega
    have e10 : (g 10 * 256 + g 11) / 256 % 256 = g 10 := by omega
    have e11 : (g 10 * 256 + g 11) % 256 = g 11 := by omega
    rw [e0, e1, e2, e3, e4, e5, e6, e7, e8, e9, e10, e11]
  rw [key]
  match i, hi with
  | 0, _ | 1, _ | 2, _ | 3, _ | 4, _ | 5, _ | 6, _ | 7, _ | 8, _ | 9, _ | 10, _ | 11, _ | 12, _ | 13, _ | 14, _ | 15, _ | 16, _ | 17, _ | 18, _ | 19, _ | 20, _ | 21, _ | 22, _ | 23, _ | 24, _ | 25, _ => rfl
  | n + 26, h => exact absurd h (by omega)
theorem treads_plain (k : Int) (s : ByteArray) :
    (let x := readP k s
    let y := readP k s
    bif oor (!(tlEq x.t y.t)) (x.ok != y.ok) then some false else
    bif !x.ok then some true else
    let z := writeP x.t
    some (an z.ok (fEq k z.k s z.s))) = some true := by
  dsimp only
  rw [tlEq_refl]
  unfold readP
  by_cases h : k = 32 ∧ s.size = 26 ∧ rightP (dTell (gOf s)) = true
  · rw [if_pos h]
    obtain ⟨rfl, h2, h3⟩ := h
    unfold writeP
    simp only [h3, if_true, wBytes_back h2, fEq_refl]
    rfl
  · rw [if_neg h]; rfl
#print axioms treads_plain
end Go.Proofs.YtdojnnlhaiennaaGreat.Te

/- Orders, written and read, as the interpreter finds them. Conditions: none. -/
namespace Go.Proofs.YtdojnnlhaiennaaGreat.Orb
open Go Go.Proofs.YtdojnnlhaiennaaGreat.Ae Go.Proofs.YtdojnnlhaiennaaGreat.Fx Go.Proofs.YtdojnnlhaiennaaGreat.Lx Go.Proofs.YtdojnnlhaiennaaGreat.Tx Go.Proofs.YtdojnnlhaiennaaGreat.Te Go.Proofs.YtdojnnlhaiennaaGreat.Rx Go.Proofs.YtdojnnlhaiennaaGreat.Row

structure Ord where
  (q c : Int)
  el : El
def Ord.cells (o : Ord) : List AV := [I o.q, I o.c, I o.el.a, I o.el.e, I o.el.i, I o.el.node, I o.el.peri, I o.el.m, I o.el.t]
structure RO where
  o : Ord
  e : Int
def RO.av (x : RO) : AV := .tup [.agg x.o.cells, I x.e]
def ro (q c : Int) (el : El) (e : Int) : Option AV := some (RO.av ⟨⟨q, c, el⟩, e⟩)
section
variable (rt : El → Bool)
def envOR : Env := [(173, .text), (174, .text), (122, .pure anyArgs (elF rt))]
def is24 (c : Int) : Bool := bif c == 2 then c == 2 else c == 4
theorem oread0_raw (k : Int) (s : ByteArray) (g : Nat → Int) : acall Tryz.prog (envOR rt) 120 115 [.agg [I k, .strG s 0 g]] [] pK = bif oor (k != 16) true then ro 0 0 El.zero 1 else none := by kernel_rfl
theorem oread1_raw (k : Int) (s : ByteArray) (g : Nat → Int) : acall Tryz.prog (envOR rt) 120 115 [.agg [I k, .strG s 1 g]] [] pK = bif oor (k != 16) true then ro 0 0 El.zero 1 else none := by kernel_rfl
theorem oread2_raw (k : Int) (s : ByteArray) (g : Nat → Int) : acall Tryz.prog (envOR rt) 120 115 [.agg [I k, .strG s 2 g]] [] pK =
    let q := wr .i64 (g 0)
    let c := wr .i64 (g 1)
    bif oor (k != 16) false then ro 0 0 El.zero 1 else
    bif c == 1 then (bif c == 3 then none else ro q c El.zero 0) else
    bif is24 c then (bif c == 3 then none else ro q c El.zero 0) else
    bif c == 3 then ro q 0 El.zero 1 else ro q 0 El.zero 2 := by kernel_rfl
def num (g : Nat → Int) (i : Nat) : Int := tk (tk (tk (tk (tk (tk (tk (tk 0 (g (i + 0))) (g (i + 1))) (g (i + 2))) (g (i + 3))) (g (i + 4))) (g (i + 5))) (g (i + 6))) (g (i + 7))
def rdEl (g : Nat → Int) : El := ⟨num g 2, num g 10, num g 18, num g 26, num g 34, num g 42, num g 50⟩
theorem oread58_raw (k : Int) (s : ByteArray) (g : Nat → Int) : acall Tryz.prog (envOR rt) 120 115 [.agg [I k, .strG s 58 g]] [] pK =
    let q := wr .i64 (g 0)
    let c := wr .i64 (g 1)
    bif oor (k != 16) false then ro 0 0 El.zero 1 else
    bif c == 1 then ro q 0 El.zero 1 else
    bif is24 c then ro q 0 El.zero 1 else
    bif c == 3 then (bif c == 3 then (bif !(rt (rdEl g)) then ro q 0 El.zero 3 else ro q c (rdEl g) 0) else ro q c El.zero 0) else ro q 0 El.zero 2 := by kernel_rfl
theorem oreadF_raw (k : Int) (s : ByteArray) (g : Nat → Int) : acall Tryz.prog (envOR rt) 120 115 [.agg [I k, .strF s 2 g [2, 58]]] [] pK =
    let q := wr .i64 (g 0)
    let c := wr .i64 (g 1)
    bif oor (k != 16) false then ro 0 0 El.zero 1 else
    bif c == 1 then ro q 0 El.zero 1 else
    bif is24 c then ro q 0 El.zero 1 else
    bif c == 3 then ro q 0 El.zero 1 else ro q 0 El.zero 2 := by kernel_rfl

/-! ### Writing -/
def pb (n : Int) : List Int := [wr .u8 (n / p2 56), wr .u8 (n / p2 48), wr .u8 (n / p2 40), wr .u8 (n / p2 32), wr .u8 (n / p2 24), wr .u8 (n / p2 16), wr .u8 (n / p2 8), wr .u8 (n / p2 0)]
def oBytes (o : Ord) : List Int := [wr .u8 o.q, wr .u8 o.c] ++ pb o.el.a ++ pb o.el.e ++ pb o.el.i ++ pb o.el.node ++ pb o.el.peri ++ pb o.el.m ++ pb o.el.t
def wTail (o : Ord) : Option AV := bif o.c == 3 then (bif !(rt o.el) then some noFrame else some (.tup [.agg [I 16, .str (strOf (oBytes o))], .bool true])) else some (.tup [.agg [I 16, .str (strOf [wr .u8 o.q, wr .u8 o.c])], .bool true])
def rpb (n : Int) : List Int := [wr .u8 (wr .u64 n / p2 56), wr .u8 (wr .u64 n / p2 48), wr .u8 (wr .u64 n / p2 40), wr .u8 (wr .u64 n / p2 32), wr .u8 (wr .u64 n / p2 24), wr .u8 (wr .u64 n / p2 16), wr .u8 (wr .u64 n / p2 8), wr .u8 (wr .u64 n / p2 0)]
def roBytes (o : Ord) : List Int := [wr .u8 o.q, wr .u8 o.c] ++ rpb o.el.a ++ rpb o.el.e ++ rpb o.el.i ++ rpb o.el.node ++ rpb o.el.peri ++ rpb o.el.m ++ rpb o.el.t
def rwTail (o : Ord) : Option AV := bif o.c == 3 then (bif !(rt o.el) then some noFrame else some (.tup [.agg [I 16, .str (strOf (roBytes o))], .bool true])) else some (.tup [.agg [I 16, .str (strOf [wr .u8 o.q, wr .u8 o.c])], .bool true])
theorem rowrite_raw (o : Ord) : acall Tryz.prog [(28, .pure anyArgs (elF rt))] 150 39 [.agg o.cells] [] pK =
    bif oor (oor (oor (decide (o.q < 0)) (decide (o.q > 255))) (decide (o.c < 1))) (decide (o.c > 4)) then some noFrame else rwTail rt o := by kernel_rfl
end
end Go.Proofs.YtdojnnlhaiennaaGreat.Orb

/- Orders as plain numbers; their laws. Conditions: none. -/
namespace Go.Proofs.YtdojnnlhaiennaaGreat.Orb
open Go Go.Proofs.YtdojnnlhaiennaaGreat.Ae Go.Proofs.YtdojnnlhaiennaaGreat.Fx Go.Proofs.YtdojnnlhaiennaaGreat.Lx Go.Proofs.YtdojnnlhaiennaaGreat.Tx Go.Proofs.YtdojnnlhaiennaaGreat.Te Go.Proofs.YtdojnnlhaiennaaGreat.Rx Go.Proofs.YtdojnnlhaiennaaGreat.Row

/-! ### Reading -/
def readO (k : Int) (s : ByteArray) : RO :=
  if k = 16 ∧ 2 ≤ s.size then
    if gOf s 1 = 1 ∨ gOf s 1 = 2 ∨ gOf s 1 = 4 then
      if s.size = 2 then ⟨⟨gOf s 0, gOf s 1, El.zero⟩, 0⟩ else ⟨⟨gOf s 0, 0, El.zero⟩, 1⟩
    else if gOf s 1 = 3 then
      if s.size = 58 then (if rightO (rdEl (gOf s)) then ⟨⟨gOf s 0, 3, rdEl (gOf s)⟩, 0⟩ else ⟨⟨gOf s 0, 0, El.zero⟩, 3⟩) else ⟨⟨gOf s 0, 0, El.zero⟩, 1⟩
    else ⟨⟨gOf s 0, 0, El.zero⟩, 2⟩
  else ⟨⟨0, 0, El.zero⟩, 1⟩
def oreadF (rd : Int → ByteArray → RO) : List AV → Option AV
  | [.agg [.int .i64 k, .str s]] => some (rd k s).av
  | _ => none
theorem oreadF_some {rd : Int → ByteArray → RO} {args : List AV} {v : AV} (h : oreadF rd args = some v) : ∃ k s, args = [.agg [I k, .str s]] ∧ v = (rd k s).av := by
  unfold oreadF at h
  split at h <;> cases h
  exact ⟨_, _, rfl, rfl⟩
theorem envOR_ok : EnvOk Tryz.prog (envOR rightO) := EnvOk.t (EnvOk.t (EnvOk.p ok_nil (enter_of Tryz.func122 (by kernel_rfl) rfl) oright_con) (enter_of Tryz.func174 (by kernel_rfl) rfl)) (enter_of Tryz.func173 (by kernel_rfl) rfl)
theorem is24_t {c : Int} (h : c = 2 ∨ c = 4) : is24 c = true := by
  unfold is24
  rcases h with rfl | rfl <;> decide
theorem is24_f {c : Int} (h2 : ¬ c = 2) (h4 : ¬ c = 4) : is24 c = false := by
  unfold is24; rw [eq_f h2, bf, eq_f h4]
theorem gw (s : ByteArray) (i : Nat) : wr .i64 (gOf s i) = gOf s i := by have := gOf_B s i; exact w64_in (by omega) (by omega)
/-- The orders' tree, by its parts. -/
theorem tree_eq {q c : Int} {n1 n2 x1 x2 x3 x4 : Option AV} (h1 : c = 1 → x1 = n1) (h24 : c = 2 ∨ c = 4 → x2 = n1) (h3 : c = 3 → x3 = n2) (h0 : ¬ c = 1 → ¬ c = 2 → ¬ c = 4 → ¬ c = 3 → x4 = ro q 0 El.zero 2) :
    (bif c == 1 then x1 else bif is24 c then x2 else bif c == 3 then x3 else x4) = if c = 1 ∨ c = 2 ∨ c = 4 then n1 else if c = 3 then n2 else ro q 0 El.zero 2 := by
  by_cases c1 : c = 1
  · rw [eq_t c1, bt, if_pos (.inl c1), h1 c1]
  · rw [eq_f c1, bf]
    by_cases c24 : c = 2 ∨ c = 4
    · rw [is24_t c24, bt, if_pos (.inr c24), h24 c24]
    · have c2 : ¬ c = 2 := fun e => c24 (.inl e)
      have c4 : ¬ c = 4 := fun e => c24 (.inr e)
      rw [is24_f c2 c4, bf, if_neg (by rintro (h | h | h) <;> contradiction)]
      by_cases c3 : c = 3
      · rw [eq_t c3, bt, if_pos c3, h3 c3]
      · rw [eq_f c3, bf, if_neg c3, h0 c1 c2 c4 c3]
theorem oread_con : PureOk Tryz.prog 115 anyArgs (oreadF readO) := by
  refine pure_of' envOR_ok 120 _ _ _ ?_
  rintro args v - h
  obtain ⟨k, s, rfl, rfl⟩ := oreadF_some h
  refine ⟨rfl, ?_⟩
  have strG : ∀ n, s.size = n → ∀ m Vs, RL m [.agg [I k, .str s]] Vs → RL m [.agg [I k, .strG s n (gOf s)]] Vs := fun n hn m Vs hv => RL_frame (fun V hV => by rw [← hn]; exact R_strG m s hV) hv
  have none1 : ¬ (k = 16 ∧ 2 ≤ s.size) → some (readO k s).av = ro 0 0 El.zero 1 := fun hn => by unfold readO; rw [if_neg hn]; rfl
  have kind : ∀ (X : Option AV), (k = 16 → X = some (readO k s).av) → 2 ≤ s.size → (bif oor (k != 16) false then ro 0 0 El.zero 1 else X) = some (readO k s).av := fun X hX h2 => by
    rw [oor_f]
    by_cases hk : k = 16
    · rw [ne_f hk, bf, hX hk]
    · rw [ne_t hk, bt, none1 (fun h => hk h.1)]
  rcases Nat.lt_or_ge s.size 2 with hlt | hge
  · rcases (show s.size = 0 ∨ s.size = 1 by omega) with hs | hs
    · exact ⟨_, rfl, strG 0 hs, (oread0_raw rightO k s (gOf s)).trans (by rw [oor_t, bt, none1 (fun h => by omega)])⟩
    · exact ⟨_, rfl, strG 1 hs, (oread1_raw rightO k s (gOf s)).trans (by rw [oor_t, bt, none1 (fun h => by omega)])⟩
  · have rd : ∀ (hk : k = 16), some (readO k s).av = if gOf s 1 = 1 ∨ gOf s 1 = 2 ∨ gOf s 1 = 4 then (if s.size = 2 then ro (gOf s 0) (gOf s 1) El.zero 0 else ro (gOf s 0) 0 El.zero 1) else if gOf s 1 = 3 then
        (if s.size = 58 then (if rightO (rdEl (gOf s)) then ro (gOf s 0) 3 (rdEl (gOf s)) 0 else ro (gOf s 0) 0 El.zero 3) else ro (gOf s 0) 0 El.zero 1) else ro (gOf s 0) 0 El.zero 2 := fun hk => by
      unfold readO
      rw [if_pos ⟨hk, hge⟩]
      repeat' split
      all_goals first | rfl | contradiction
    by_cases hs : s.size = 2
    · refine ⟨_, rfl, strG 2 hs, (oread2_raw rightO k s (gOf s)).trans (kind _ (fun hk => ?_) hge)⟩
      rw [rd hk, if_pos hs, if_neg (show ¬ s.size = 58 by omega), gw, gw]
      exact tree_eq (fun e => by rw [eq_f (show ¬ gOf s 1 = 3 by omega), bf]) (fun e => by rw [eq_f (show ¬ gOf s 1 = 3 by omega), bf]) (fun _ => rfl) (fun _ _ _ _ => rfl)
    · by_cases hs' : s.size = 58
      · refine ⟨_, rfl, strG 58 hs', (oread58_raw rightO k s (gOf s)).trans (kind _ (fun hk => ?_) hge)⟩
        rw [rd hk, if_neg hs, if_pos hs', gw, gw]
        refine tree_eq (fun _ => rfl) (fun _ => rfl) (fun e => ?_) (fun _ _ _ _ => rfl)
        rw [eq_t e, bt, e]
        cases rightO (rdEl (gOf s)) <;> rfl
      · refine ⟨[.agg [I k, .strF s 2 (gOf s) [2, 58]]], rfl, fun m Vs hv => RL_frame (fun V hV => R_strF m s 2 [2, 58] hge (by simp; omega) hV) hv, (oreadF_raw rightO k s (gOf s)).trans (kind _ (fun hk => ?_) hge)⟩
        rw [rd hk, if_neg hs, if_neg hs', gw, gw]
        exact tree_eq (fun _ => rfl) (fun _ => rfl) (fun _ => rfl) (fun _ _ _ _ => rfl)

/-! ### Writing -/
def writeO (o : Ord) : Fr :=
  if 0 ≤ o.q ∧ o.q ≤ 255 then
    if o.c = 1 ∨ o.c = 2 ∨ o.c = 4 then ⟨16, strOf [wr .u8 o.q, wr .u8 o.c], true⟩
    else if o.c = 3 ∧ rightO o.el = true then ⟨16, strOf (oBytes o), true⟩ else ⟨0, ⟨#[]⟩, false⟩
  else ⟨0, ⟨#[]⟩, false⟩
def owriteF (wf : Ord → Fr) : List AV → Option AV
  | [.agg [.int .i64 q, .int .i64 c, .int .i64 a, .int .i64 e, .int .i64 i, .int .i64 n, .int .i64 p, .int .i64 m, .int .i64 t]] => some (wf ⟨q, c, a, e, i, n, p, m, t⟩).av
  | _ => none
theorem owriteF_some {wf : Ord → Fr} {args : List AV} {v : AV} (h : owriteF wf args = some v) : ∃ o : Ord, args = [.agg o.cells] ∧ v = (wf o).av := by
  unfold owriteF at h
  split at h <;> cases h
  rename_i q c a e i n p m t
  exact ⟨⟨q, c, a, e, i, n, p, m, t⟩, rfl, rfl⟩
theorem wTail_24 {o : Ord} (h : ¬ o.c = 3) (rt : El → Bool) : wTail rt o = some (.tup [.agg [I 16, .str (strOf [wr .u8 o.q, wr .u8 o.c])], .bool true]) := by
  unfold wTail; rw [eq_f h, bf]
theorem wTail_3 {o : Ord} (h : o.c = 3) (rt : El → Bool) : wTail rt o = if rt o.el = true then some (.tup [.agg [I 16, .str (strOf (oBytes o))], .bool true]) else some noFrame := by
  unfold wTail; rw [eq_t h, bt]
  cases rt o.el <;> rfl
theorem owriteRaw_eq (o : Ord) : (bif decide (o.q < 0) then some noFrame else bif decide (o.q > 255) then some noFrame else
    bif o.c == 1 then wTail rightO o else bif is24 o.c then wTail rightO o else bif o.c == 3 then wTail rightO o else some noFrame) = some (writeO o).av := by
  unfold writeO
  by_cases h0 : o.q < 0
  · rw [decide_eq_true h0, bt, if_neg (by omega)]; rfl
  rw [decide_eq_false h0, bf]
  by_cases h1 : o.q > 255
  · rw [decide_eq_true h1, bt, if_neg (by omega)]; rfl
  rw [decide_eq_false h1, bf, if_pos (by omega)]
  by_cases c1 : o.c = 1
  · rw [eq_t c1, bt, if_pos (.inl c1), wTail_24 (by omega)]; rfl
  rw [eq_f c1, bf]
  by_cases c24 : o.c = 2 ∨ o.c = 4
  · rw [is24_t c24, bt, if_pos (.inr c24), wTail_24 (by omega)]; rfl
  have c2 : ¬ o.c = 2 := fun e => c24 (.inl e)
  have c4 : ¬ o.c = 4 := fun e => c24 (.inr e)
  rw [is24_f c2 c4, bf, if_neg (by rintro (h | h | h) <;> contradiction)]
  by_cases c3 : o.c = 3
  · rw [eq_t c3, bt, wTail_3 c3]
    by_cases hr : rightO o.el = true
    · rw [if_pos hr, if_pos ⟨c3, hr⟩]; rfl
    · rw [if_neg hr, if_neg (fun h => hr h.2)]; rfl
  · rw [eq_f c3, bf, if_neg (fun h => c3 h.1)]; rfl
theorem pnums : p2 56 = 72057594037927936 ∧ p2 48 = 281474976710656 ∧ p2 40 = 1099511627776 ∧ p2 32 = 4294967296 ∧ p2 24 = 16777216 ∧ p2 16 = 65536 ∧ p2 8 = 256 ∧ p2 0 = 1 := by decide
theorem rpb_eq (n : Int) : rpb n = pb n := by
  obtain ⟨p1, p2', p3, p4, p5, p6, p7, p8⟩ := pnums
  unfold rpb pb
  simp only [u8_eq, wr_u64, p1, p2', p3, p4, p5, p6, p7, p8]
  have e1 : n % 18446744073709551616 / 72057594037927936 % 256 = n / 72057594037927936 % 256 := by omega
  have e2 : n % 18446744073709551616 / 281474976710656 % 256 = n / 281474976710656 % 256 := by omega
  have e3 : n % 18446744073709551616 / 1099511627776 % 256 = n / 1099511627776 % 256 := by omega
  have e4 : n % 18446744073709551616 / 4294967296 % 256 = n / 4294967296 % 256 := by omega
  have e5 : n % 18446744073709551616 / 16777216 % 256 = n / 16777216 % 256 := by omega
  have e6 : n % 18446744073709551616 / 65536 % 256 = n / 65536 % 256 := by omega
  have e7 : n % 18446744073709551616 / 256 % 256 = n / 256 % 256 := by omega
  have e8 : n % 18446744073709551616 / 1 % 256 = n / 1 % 256 := by omega
  rw [e1, e2, e3, e4, e5, e6, e7, e8]
theorem rwTail_eq (o : Ord) (rt : El → Bool) : rwTail rt o = wTail rt o := by
  unfold rwTail wTail roBytes oBytes
  simp only [rpb_eq]
theorem rowrite_con : PureOk Tryz.prog 39 anyArgs (owriteF writeO) := by
  refine pure_of (EnvOk.p ok_nil (enter_of Tryz.func28 (by kernel_rfl) rfl) roright_con) 150 _ _ _ ?_
  rintro args v - h
  obtain ⟨o, rfl, rfl⟩ := owriteF_some h
  refine ⟨rfl, rfl, (rowrite_raw rightO o).trans (Eq.trans ?_ (owriteRaw_eq o))⟩
  rw [rwTail_eq]
  by_cases h0 : o.q < 0
  · rw [decide_eq_true h0, bt]; rfl
  by_cases h1 : o.q > 255
  · rw [decide_eq_true h1, decide_eq_false h0]; rfl
  by_cases h2 : o.c < 1
  · rw [decide_eq_false h0, decide_eq_false h1, decide_eq_true h2, eq_f (show ¬ o.c = 1 by omega), is24_f (by omega) (by omega), eq_f (show ¬ o.c = 3 by omega)]; rfl
  by_cases h3 : o.c > 4
  · rw [decide_eq_false h0, decide_eq_false h1, decide_eq_false h2, decide_eq_true h3, eq_f (show ¬ o.c = 1 by omega), is24_f (by omega) (by omega), eq_f (show ¬ o.c = 3 by omega)]; rfl
  rw [decide_eq_false h0, decide_eq_false h1, decide_eq_false h2, decide_eq_false h3]
  simp only [oor, bf]
  rcases (show o.c = 1 ∨ o.c = 2 ∨ o.c = 3 ∨ o.c = 4 by omega) with h | h | h | h
  · rw [eq_t h, bt]
  · rw [eq_f (show ¬ o.c = 1 by omega), bf, is24_t (.inl h), bt]
  · rw [eq_f (show ¬ o.c = 1 by omega), bf, is24_f (by omega) (by omega), bf, eq_t h, bt]
  · rw [eq_f (show ¬ o.c = 1 by omega), bf, is24_t (.inr h), bt]
#print axioms rowrite_con
end Go.Proofs.YtdojnnlhaiennaaGreat.Orb

/- The laws of layer 17 are true. Conditions: none. -/
namespace Go.Proofs.YtdojnnlhaiennaaGreat.Te
open Go Go.Proofs.YtdojnnlhaiennaaGreat.Ae Go.Proofs.YtdojnnlhaiennaaGreat.Fx Go.Proofs.YtdojnnlhaiennaaGreat.Lx Go.Proofs.YtdojnnlhaiennaaGreat.Tx Go.Proofs.YtdojnnlhaiennaaGreat.Row Go.Proofs.YtdojnnlhaiennaaGreat.Rx

def Seven.tell (s : Seven) : Tell := ⟨0, 0, 0, 0, 0, 0, s.p0, s.p1, s.p2, s.p3, s.e0, s.e1, s.e2⟩
def cutP (s : Seven) : Seven := if s.bad = false ∧ rightP s.tell = true then s else ⟨0, 0, 0, 0, 0, 0, 0, false⟩
def cntsP (q0 q1 q2 q3 m0 m1 m2 : Int) : Seven := cutP (seven Fx.part q0 q1 q2 q3 m0 m1 m2)
theorem countsRaw_eq (s : Seven) : countsRaw rightP s = some (cutP s).tup := by
  unfold countsRaw cutP
  cases hb : s.bad
  · rw [bf]
    change (bif !(rightP s.tell) then _ else _) = _
    cases hr : rightP s.tell
    · rw [if_neg (by simp)]; rfl
    · rw [if_pos ⟨rfl, rfl⟩]; rfl
  · rw [bt, if_neg (by simp)]; rfl
theorem inR_eq (ok : Bool) (n : Int) : inR ok n = (ok && i16 n) := by
  unfold inR i16
  rw [an_eq, an_eq, Bool.and_assoc]
  simp only [ge_iff_le, dand]
theorem rcountsRaw_eq (s : Seven) : rcountsRaw s = some (cutP s).tup := by
  unfold rcountsRaw cutP
  have e : inR (inR (inR (inR (inR (inR (inR true s.p0) s.p1) s.p2) s.p3) s.e0) s.e1) s.e2 = rightP s.tell := by
    simp only [inR_eq, Bool.true_and]
    unfold rightP Seven.tell
    simp
  rw [e, oor_eq]
  cases hb : s.bad
  · cases hr : rightP s.tell
    · rw [if_neg (by simp)]; rfl
    · rw [if_pos ⟨rfl, rfl⟩]; rfl
  · cases hr : rightP s.tell
    · rw [if_neg (by simp)]; rfl
    · rw [if_neg (by simp)]; rfl
def countF (c : Int → Int → Int → Int → Int → Int → Int → Seven) : List AV → Option AV
  | [.agg [.int .i64 q0, .int .i64 q1, .int .i64 q2, .int .i64 q3], .agg [.int .i64 m0, .int .i64 m1, .int .i64 m2]] => some (c q0 q1 q2 q3 m0 m1 m2).tup
  | _ => none
theorem counts_con : PureOk Tryz.prog 90 anyArgs (countF cntsP) := by
  have hE : EnvOk Tryz.prog (envC Fx.part rightP) := EnvOk.t (EnvOk.p (EnvOk.f ok_nil en_part part_con) (enter_of Tryz.func163 (by kernel_rfl) rfl) right_con) (enter_of Tryz.func162 (by kernel_rfl) rfl)
  refine pure_of hE 60 _ _ _ ?_
  rintro args v - h
  unfold countF at h
  split at h <;> cases h
  exact ⟨rfl, rfl, (counts_raw Fx.part rightP _ _ _ _ _ _ _).trans (countsRaw_eq _)⟩
section
variable (c d : Int → Int → Int → Int → Int → Int → Int → Seven) (wf : Tell → Fr)
def envK : Env := [(90, .pure anyArgs (countF c)), (91, .pure anyArgs (writeF wf))]
def sevenEq (a b : Seven) : Bool := an ((a.p0 == b.p0) && ((a.p1 == b.p1) && ((a.p2 == b.p2) && ((a.p3 == b.p3) && true)))) ((a.e0 == b.e0) && ((a.e1 == b.e1) && ((a.e2 == b.e2) && true)))
end
theorem en_Write : EnterOk Tryz.prog 91 := enter_of Tryz.func91 (by kernel_rfl) rfl
theorem en_Counts : EnterOk Tryz.prog 90 := enter_of Tryz.func90 (by kernel_rfl) rfl
theorem envK_ok : EnvOk Tryz.prog (envK cntsP writeP) := EnvOk.p (EnvOk.p ok_nil en_Write write_con) en_Counts counts_con
theorem cutP_right (s : Seven) : rightP (cutP s).tell = true := by
  unfold cutP
  split
  · rename_i h; exact h.2
  · rfl
theorem sevenEq_refl (a : Seven) : sevenEq a a = true := by unfold sevenEq; simp [an]
end Go.Proofs.YtdojnnlhaiennaaGreat.Te
