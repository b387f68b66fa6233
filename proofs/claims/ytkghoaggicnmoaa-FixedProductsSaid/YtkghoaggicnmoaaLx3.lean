/- The laws of layer 1 whose answers are the document's: they are true of the plain functions. Conditions: none. -/
import Derived.Test.YtkghoaggicnmoaaLx2
import Derived.Test.YtkghoaggicnmoaaRow
namespace Go.Proofs.Ytkghoaggicnmoaa.Lx
open Go Go.Proofs.Ytkghoaggicnmoaa.Ae Go.Proofs.Ytkghoaggicnmoaa.Fx Go.Proofs.Ytkghoaggicnmoaa.Rx Go.Proofs.Ytkghoaggicnmoaa.Row

theorem en_awake : EnterOk Try.prog 19 := enter_of Try.func19 (by kernel_rfl) rfl
theorem en_same : EnterOk Try.prog 20 := enter_of Try.func20 (by kernel_rfl) rfl
theorem en_rMul : EnterOk Try.prog 22 := enter_of Try.func22 (by kernel_rfl) rfl
theorem awake_eq (k : Option Bool) : awakeRaw mul k = k := by
  have h : mul 1649267441664 1649267441664 false = (2473901162496, false) := by kernel_rfl
  unfold awakeRaw
  rw [h]
  rfl
theorem same_eq (p : Int × Bool) : sameRaw p p = some true := by
  unfold sameRaw
  rw [beq_self_eq_true, bt, beq_self_eq_true]
theorem envW_ok {t : Env} (h : EnvOk Try.prog t) : EnvOk Try.prog (envW mul ++ t) := EnvOk.t (EnvOk.t (EnvOk.e h Fx.en_mul mul_con) en_same) en_awake
theorem products_law (a b : Int) (bad : Bool) (w : World) : Calls Try.prog 3 #[.int .i64 a, .int .i64 b, .bool bad] w fun e w' => e = .returned (.bool true) ∧ Go.RowKit.Below w.heap.size w w' :=
  law_true (envW_ok (EnvOk.e ok_nil en_rMul rmul_con)) ((products_raw mul mul a b bad).trans ((awake_eq _).trans (same_eq _))) (RL.cons (R_int _ _ _) (RL.cons (R_int _ _ _) (RL.cons (R_bool _ _) (RL_nil.2 rfl))))
end Go.Proofs.Ytkghoaggicnmoaa.Lx
