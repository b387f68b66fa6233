/- The contracts of the angles, the program's and the reference's: the same plain functions. Conditions: none. -/
import Derived.Test.YtkghoaggicnmoaaTx2
import Derived.Test.YtkghoaggicnmoaaTxA
namespace Go.Proofs.Ytkghoaggicnmoaa.Tx
open Go Go.Proofs.Ytkghoaggicnmoaa.Ae Go.Proofs.Ytkghoaggicnmoaa.Fx Go.Proofs.Ytkghoaggicnmoaa.Lx Go.Proofs.Ytkghoaggicnmoaa.Rx

theorem bor_zero {x y : Int} (hx : -9223372036854775808 ≤ x ∧ x < 9223372036854775808) (hy : -9223372036854775808 ≤ y ∧ y < 9223372036854775808) : (bor .i64 x y == 0) = (bif x == 0 then y == 0 else false) := by
  have hb : bor .i64 x y = wr .i64 ((BitVec.ofInt 64 x ||| BitVec.ofInt 64 y).toNat : Int) := by
    unfold bor; rw [wr_eq]; rfl
  have key : bor .i64 x y = 0 ↔ x = 0 ∧ y = 0 := by
    rw [hb, wr_i64]
    have hlt : (BitVec.ofInt 64 x ||| BitVec.ofInt 64 y).toNat < 2 ^ 64 := BitVec.isLt _
    have e64 : (2 : Nat) ^ 64 = 18446744073709551616 := by kernel_rfl
    rw [e64] at hlt
    constructor
    · intro h
      have h0 : (BitVec.ofInt 64 x ||| BitVec.ofInt 64 y).toNat = 0 := by omega
      have h1 : BitVec.ofInt 64 x ||| BitVec.ofInt 64 y = 0#64 := BitVec.eq_of_toNat_eq (by rw [h0]; rfl)
      have h2 := BitVec.or_eq_zero_iff.1 h1
      have f : ∀ z : Int, -9223372036854775808 ≤ z ∧ z < 9223372036854775808 → BitVec.ofInt 64 z = 0#64 → z = 0 := fun z hz h => by
        have := congrArg BitVec.toNat h
        rw [BitVec.toNat_ofInt] at this
        simp at this
        omega
      exact ⟨f x hx h2.1, f y hy h2.2⟩
    · rintro ⟨rfl, rfl⟩
      decide
  by_cases h : x = 0
  · subst h
    rw [show ((0 : Int) == 0) = true from by decide, bt]
    by_cases h' : y = 0
    · subst h'; rw [beq_iff_eq.2 (key.2 ⟨rfl, rfl⟩)]; decide
    · have e1 : (y == 0) = false := by simpa using h'
      have e2 : (bor .i64 0 y == 0) = false := by simp only [beq_eq_false_iff_ne]; exact fun e => h' (key.1 e).2
      rw [e1, e2]
  · have e1 : (x == 0) = false := by simpa using h
    have e2 : (bor .i64 x y == 0) = false := by simp only [beq_eq_false_iff_ne]; exact fun e => h (key.1 e).1
    rw [e1, bf, e2]

def atFin (z : Int × Bool) (y x : Int) (c : Bool) : Int × Bool :=
  let z1 := bif c then wr .i64 (1727108826179 - z.1) else z.1
  let z2 := bif decide (x < 0) then wr .i64 (3454217652358 - z1) else z1
  (bif decide (y < 0) then wr .i64 (0 - z2) else z2, z.2)
def atTan (t : Int × Bool) : Int × Bool := atT add sub mul div sqrt Fx.part t
def atP (y x : Int) (bad : Bool) : Int × Bool :=
  let b1 := (add x 0 (add y 0 bad).2).2
  bif (bif b1 then true else bor .i64 x y == 0) then (0, b1) else
  let a := absI x
  let b := absI y
  atFin (atTan (div (minI a b) (maxI a b) b1)) y x (decide (b > a))

theorem atEnd_eq (z : Int × Bool) (y x : Int) (c : Bool) : atEnd z y x c = av (atFin z y x c) := by
  unfold atEnd atFin
  dsimp only
  generalize (bif decide (x < 0) then wr .i64 (3454217652358 - bif c then wr .i64 (1727108826179 - z.1) else z.1) else bif c then wr .i64 (1727108826179 - z.1) else z.1) = u
  cases decide (y < 0)
  · rw [bf, bf]; rfl
  · rw [bt, bt]; rfl
theorem ratEnd_eq (z : Int × Bool) (y x : Int) (c : Bool) : ratEnd z y x c = av (atFin z y x c) := rfl
theorem atRaw_eq (y x : Int) (bad : Bool) : atRaw add sub mul div sqrt Fx.part y x bad = av (atP y x bad) := by
  unfold atRaw atP
  dsimp only
  generalize (add x 0 (add y 0 bad).2).2 = b1
  cases (bif b1 then true else bor .i64 x y == 0)
  · rw [bf, bf]; exact atEnd_eq _ _ _ _
  · rw [bt, bt]; rfl

theorem add_okn {a b : Int} {bad : Bool} (h : (add a b bad).2 = false) : okn a = true ∧ bad = false := by
  unfold add lift at h
  split at h
  · cases h
  · rename_i hc
    simp at hc
    exact ⟨hc.2.1, hc.1⟩

theorem ratRaw_eq (y x : Int) (bad : Bool) : ratRaw add sub mul div sqrt Fx.part y x bad = av (atP y x bad) := by
  unfold ratRaw atP
  dsimp only
  cases hb : (add x 0 (add y 0 bad).2).2 with
  | true => rw [bt, bt, bt, bt]; rfl
  | false =>
    obtain ⟨ox, hb2⟩ := add_okn hb
    obtain ⟨oy, _⟩ := add_okn hb2
    have ix := okn_iff.1 ox
    have iy := okn_iff.1 oy
    rw [bf, bf, bor_zero (by omega) (by omega)]
    have ea : ∀ z : Int, -4611686018427387904 ≤ z ∧ z ≤ 4611686018427387904 → rabs z = absI z := fun z hz => by
      unfold rabs absI maxI
      rw [w64_in (n := 0 - z) (by omega) (by omega)]
      by_cases h : z < 0
      · rw [decide_eq_true h, bt, if_pos (by omega)]
      · rw [decide_eq_false h, bf]; split <;> omega
    rw [ea x ix, ea y iy]
    generalize absI x = a
    generalize absI y = b
    cases (bif x == 0 then y == 0 else false)
    · rw [bf, bf]
      by_cases h : b > a
      · have e1 : minI a b = a := by unfold minI; rw [if_neg (by omega)]
        have e2 : maxI a b = b := by unfold maxI; rw [if_pos h]
        rw [e1, e2, decide_eq_true h, bt, ratEnd_eq]; rfl
      · have e1 : minI a b = b := by unfold minI; split <;> omega
        have e2 : maxI a b = a := by unfold maxI; rw [if_neg h]
        rw [e1, e2, decide_eq_false h, bf, ratEnd_eq]; rfl
    · rw [bt, bt]; rfl

theorem en_At : EnterOk Try.prog 44 := enter_of Try.func44 (by kernel_rfl) rfl
theorem en_As : EnterOk Try.prog 46 := enter_of Try.func46 (by kernel_rfl) rfl
theorem en_Ac : EnterOk Try.prog 48 := enter_of Try.func48 (by kernel_rfl) rfl
theorem en_rAt : EnterOk Try.prog 45 := enter_of Try.func45 (by kernel_rfl) rfl
theorem en_rAs : EnterOk Try.prog 47 := enter_of Try.func47 (by kernel_rfl) rfl
theorem en_rAc : EnterOk Try.prog 49 := enter_of Try.func49 (by kernel_rfl) rfl
theorem en_rFail : EnterOk Try.prog 68 := enter_of Try.func68 (by kernel_rfl) rfl

theorem at_con : Meth 44 (int2 atP) := by
  refine flow_of (EnvOk.f (EnvOk.f (EnvOk.f (EnvOk.f (EnvOk.f (EnvOk.f ok_nil en_sqrt sqrt_con) en_part part_con) en_div div_meth) Fx.en_add add_con) en_sub sub_con) en_mul mul_con) 60 _ _ (fun _ => true) _ ?_
  intro args g _ h bad
  obtain ⟨a, b, rfl, hg⟩ := int2_some h
  exact (at_raw add sub mul div sqrt Fx.part a b bad).trans ((atRaw_eq a b bad).trans (hg bad).symm)
theorem rat_con : RMeth 45 (int2 atP) := by
  refine flow_of (EnvOk.f (EnvOk.f (EnvOk.f (EnvOk.f (EnvOk.f (EnvOk.f ok_nil en_rSqrt rsqrt_con) en_rPart rpart_con) en_rDiv rdiv_con) en_rAdd radd_con) en_rSub rsub_con) en_rMul rmul_con) 60 _ _ (fun _ => true) _ ?_
  intro args g _ h bad
  obtain ⟨a, b, rfl, hg⟩ := int2_some h
  exact (rat_raw add sub mul div sqrt Fx.part a b bad).trans ((ratRaw_eq a b bad).trans (hg bad).symm)

def asP (s : Int) (bad : Bool) : Int × Bool :=
  bif (bif decide (s > 1099511627776) then true else decide (s < -1099511627776)) then (0, true) else
  bif bad then (0, bad) else
  let m := mul s s bad
  let d := sub 1099511627776 m.1 m.2
  let q := sqrt d.1 d.2
  atP s q.1 q.2
theorem asRaw_eq (s : Int) (bad : Bool) : asRaw mul sub sqrt atP s bad = av (asP s bad) := by
  unfold asRaw asP
  cases (bif decide (s > 1099511627776) then true else decide (s < -1099511627776))
  · rw [bf, bf]
    cases bad
    · rw [bf, bf]; rfl
    · rw [bt, bt]; rfl
  · rw [bt, bt]; rfl
def acP (c : Int) (bad : Bool) : Int × Bool :=
  let a := asP c bad
  bif a.2 then (0, a.2) else (wr .i64 (1727108826179 - a.1), a.2)
theorem acRaw_eq (c : Int) (bad : Bool) : acRaw asP c bad = av (acP c bad) := by
  unfold acRaw acP
  dsimp only
  generalize asP c bad = a
  obtain ⟨a1, a2⟩ := a
  cases a2 <;> rfl
theorem as_con : Meth 46 (int1 asP) := by
  refine flow_of (EnvOk.f (EnvOk.f (EnvOk.f (EnvOk.t (EnvOk.f ok_nil en_At at_con) en_fail) en_sqrt sqrt_con) en_sub sub_con) en_mul mul_con) 60 _ _ (fun _ => true) _ ?_
  intro args g _ h bad
  obtain ⟨a, rfl, hg⟩ := int1_some h
  exact (as_raw mul sub sqrt atP a bad).trans ((asRaw_eq a bad).trans (hg bad).symm)
theorem ras_con : RMeth 47 (int1 asP) := by
  refine flow_of (EnvOk.f (EnvOk.f (EnvOk.f (EnvOk.t (EnvOk.f ok_nil en_rAt rat_con) en_rFail) en_rSqrt rsqrt_con) en_rSub rsub_con) en_rMul rmul_con) 60 _ _ (fun _ => true) _ ?_
  intro args g _ h bad
  obtain ⟨a, rfl, hg⟩ := int1_some h
  exact (ras_raw mul sub sqrt atP a bad).trans ((asRaw_eq a bad).trans (hg bad).symm)
theorem ac_con : Meth 48 (int1 acP) := by
  refine flow_of (EnvOk.f ok_nil en_As as_con) 60 _ _ (fun _ => true) _ ?_
  intro args g _ h bad
  obtain ⟨a, rfl, hg⟩ := int1_some h
  exact (ac_raw asP a bad).trans ((acRaw_eq a bad).trans (hg bad).symm)
theorem rac_con : RMeth 49 (int1 acP) := by
  refine flow_of (EnvOk.f ok_nil en_rAs ras_con) 60 _ _ (fun _ => true) _ ?_
  intro args g _ h bad
  obtain ⟨a, rfl, hg⟩ := int1_some h
  exact (rac_raw asP a bad).trans ((acRaw_eq a bad).trans (hg bad).symm)
#print axioms rac_con
end Go.Proofs.Ytkghoaggicnmoaa.Tx
