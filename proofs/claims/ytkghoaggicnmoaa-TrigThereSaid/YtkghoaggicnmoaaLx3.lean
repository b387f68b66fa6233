/- The laws of layer 1 whose answers are the document's: they are true of the plain functions. Conditions: none. -/
import Derived.Test.YtkghoaggicnmoaaLx2
import Derived.Test.YtkghoaggicnmoaaRow
namespace Go.Proofs.Ytkghoaggicnmoaa.Lx
open Go Go.Proofs.Ytkghoaggicnmoaa.Ae Go.Proofs.Ytkghoaggicnmoaa.Fx Go.Proofs.Ytkghoaggicnmoaa.Rx Go.Proofs.Ytkghoaggicnmoaa.Row

theorem en_awake : EnterOk Try.prog 19 := enter_of Try.func19 (by kernel_rfl) rfl
theorem en_same : EnterOk Try.prog 20 := enter_of Try.func20 (by kernel_rfl) rfl
theorem en_rMul : EnterOk Try.prog 22 := enter_of Try.func22 (by kernel_rfl) rfl
theorem awake_eq (k : Option Bool) : awakeRaw mul k = k := by
  have h : mul 1649267441664 1649267441664 false = (2473901162496, false) := by kernel_rfl
  unfold awakeRaw
  rw [h]
  rfl
theorem same_eq (p : Int × Bool) : sameRaw p p = some true := by
  unfold sameRaw
  rw [beq_self_eq_true, bt, beq_self_eq_true]
theorem envW_ok {t : Env} (h : EnvOk Try.prog t) : EnvOk Try.prog (envW mul ++ t) := EnvOk.t (EnvOk.t (EnvOk.f h Fx.en_mul mul_con) en_same) en_awake
theorem products_law (a b : Int) (bad : Bool) (w : World) : Calls Try.prog 3 #[.int .i64 a, .int .i64 b, .bool bad] w fun e w' => e = .returned (.bool true) ∧ Go.RowKit.Below w.heap.size w w' :=
  law_true (envW_ok (EnvOk.f ok_nil en_rMul rmul_con)) ((products_raw mul mul a b bad).trans ((awake_eq _).trans (same_eq _))) (RL.cons (R_int _ _ _) (RL.cons (R_int _ _ _) (RL.cons (R_bool _ _) (RL_nil.2 rfl))))
theorem en_rDiv : EnterOk Try.prog 24 := enter_of Try.func24 (by kernel_rfl) rfl
theorem en_rPart : EnterOk Try.prog 26 := enter_of Try.func26 (by kernel_rfl) rfl
theorem en_rMod : EnterOk Try.prog 28 := enter_of Try.func28 (by kernel_rfl) rfl
theorem en_rSqrt : EnterOk Try.prog 34 := enter_of Try.func34 (by kernel_rfl) rfl
theorem en_rNorm : EnterOk Try.prog 36 := enter_of Try.func36 (by kernel_rfl) rfl
theorem en_rSub : EnterOk Try.prog 32 := enter_of Try.func32 (by kernel_rfl) rfl
theorem quot_law (a b : Int) (bad : Bool) (w : World) : Calls Try.prog 4 #[.int .i64 a, .int .i64 b, .bool bad] w fun e w' => e = .returned (.bool true) ∧ Go.RowKit.Below w.heap.size w w' :=
  law_true (envW_ok (EnvOk.f (EnvOk.f ok_nil en_rDiv rdiv_con) Fx.en_div div_meth)) ((quot_raw mul div div a b bad).trans ((awake_eq _).trans (same_eq _))) (RL.cons (R_int _ _ _) (RL.cons (R_int _ _ _) (RL.cons (R_bool _ _) (RL_nil.2 rfl))))
theorem parts_law (a b c : Int) (w : World) : Calls Try.prog 5 #[.int .i64 a, .int .i64 b, .int .i64 c] w fun e w' => e = .returned (.bool true) ∧ Go.RowKit.Below w.heap.size w w' :=
  law_true (envW_ok (EnvOk.f (EnvOk.f ok_nil en_rPart rpart_con) Fx.en_part part_con)) ((parts_raw mul Fx.part Fx.part a b c).trans ((awake_eq _).trans (same_eq _))) (RL.cons (R_int _ _ _) (RL.cons (R_int _ _ _) (RL.cons (R_int _ _ _) (RL_nil.2 rfl))))
theorem left_law (a b : Int) (bad : Bool) (w : World) : Calls Try.prog 7 #[.int .i64 a, .int .i64 b, .bool bad] w fun e w' => e = .returned (.bool true) ∧ Go.RowKit.Below w.heap.size w w' :=
  law_true (envW_ok (EnvOk.f (EnvOk.f ok_nil en_rMod rmod_con) Fx.en_mod mod_con)) ((left_raw mul mod mod a b bad).trans ((awake_eq _).trans (same_eq _))) (RL.cons (R_int _ _ _) (RL.cons (R_int _ _ _) (RL.cons (R_bool _ _) (RL_nil.2 rfl))))
theorem roots_law (a : Int) (bad : Bool) (w : World) : Calls Try.prog 9 #[.int .i64 a, .bool bad] w fun e w' => e = .returned (.bool true) ∧ Go.RowKit.Below w.heap.size w w' :=
  law_true (envW_ok (EnvOk.f (EnvOk.f ok_nil en_rSqrt rsqrt_con) Fx.en_sqrt sqrt_con)) ((roots_raw mul sqrt sqrt a bad).trans ((awake_eq _).trans (same_eq _))) (RL.cons (R_int _ _ _) (RL.cons (R_bool _ _) (RL_nil.2 rfl)))
theorem norms_law (a b c : Int) (w : World) : Calls Try.prog 10 #[.int .i64 a, .int .i64 b, .int .i64 c] w fun e w' => e = .returned (.bool true) ∧ Go.RowKit.Below w.heap.size w w' :=
  law_true (envW_ok (EnvOk.f (EnvOk.f ok_nil en_rNorm rnorm_con) Fx.en_norm norm_con)) ((norms_raw mul norm norm a b c).trans ((awake_eq _).trans (same_eq _))) (RL.cons (R_int _ _ _) (RL.cons (R_int _ _ _) (RL.cons (R_int _ _ _) (RL_nil.2 rfl))))
theorem sums_eq (p r : Int × Bool) : (bif p.1 == p.1 then bif p.2 == p.2 then sameRaw r r else some false else some false) = some true := by
  rw [beq_self_eq_true, bt, beq_self_eq_true, bt, same_eq]
theorem sums_law (a b : Int) (bad : Bool) (w : World) : Calls Try.prog 8 #[.int .i64 a, .int .i64 b, .bool bad] w fun e w' => e = .returned (.bool true) ∧ Go.RowKit.Below w.heap.size w w' :=
  law_true (envW_ok (EnvOk.f (EnvOk.f (EnvOk.f (EnvOk.f ok_nil en_rSub rsub_con) Fx.en_sub sub_con) en_rAdd radd_con) Fx.en_add add_con)) ((sums_raw mul add add sub sub a b bad).trans ((awake_eq _).trans (sums_eq _ _))) (RL.cons (R_int _ _ _) (RL.cons (R_int _ _ _) (RL.cons (R_bool _ _) (RL_nil.2 rfl))))
end Go.Proofs.Ytkghoaggicnmoaa.Lx
