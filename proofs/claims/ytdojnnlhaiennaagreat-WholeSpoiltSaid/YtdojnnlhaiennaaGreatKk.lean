/- Products of rows: a contract of a known shape. Conditions: none. -/
import Derived.Test.YtdojnnlhaiennaaGreatKj
import Derived.Test.YtdojnnlhaiennaaGreatKe
namespace Go.Proofs.YtdojnnlhaiennaaGreat.Qx
open Go Go.Proofs.YtdojnnlhaiennaaGreat.Ae Go.Proofs.YtdojnnlhaiennaaGreat.Fx Go.Proofs.YtdojnnlhaiennaaGreat.Lx
noncomputable def meanEnv : Env := [(192, .text), (191, .text), (127, .flow 112 (int2 mul)), (74, .flow 112 (int3 Fx.part)), (76, .flow 112 (int2 add))]
theorem meanEnv_ok : EnvOk Tryz.prog meanEnv := EnvOk.t (EnvOk.t (EnvOk.f (EnvOk.f (EnvOk.f (ok_nil) (enter_of Tryz.func76 (by kernel_rfl) rfl) add_con) (enter_of Tryz.func74 (by kernel_rfl) rfl) part_con) (enter_of Tryz.func127 (by kernel_rfl) rfl) mul_con) (enter_of Tryz.func191 (by kernel_rfl) rfl)) (enter_of Tryz.func192 (by kernel_rfl) rfl)
noncomputable def prEnv : Env := [(190, .see (seeF Tryz.prog meanEnv [] 300 190)), (127, .flow 112 (int2 mul)), (76, .flow 112 (int2 add)), (74, .flow 112 (int3 Fx.part))]
theorem prEnv_ok : EnvOk Tryz.prog prEnv := EnvOk.cons (s := .see _) ⟨(enter_of Tryz.func190 (by kernel_rfl) rfl), see_of meanEnv_ok 300 _⟩ (EnvOk.f (EnvOk.f (EnvOk.f (ok_nil) (enter_of Tryz.func74 (by kernel_rfl) rfl) part_con) (enter_of Tryz.func76 (by kernel_rfl) rfl) add_con) (enter_of Tryz.func127 (by kernel_rfl) rfl) mul_con)
theorem pr_ex : ∃ q1 q2 : Q2, EffOk Tryz.prog 149 (fun _ => true) (seeSpec (rowsF 112 186 78 M36 q1 q2)) :=
  rows_ex prEnv_ok [] 900 _ _ _ _ _ (fun x b => by kernel_rfl) (fun x b => by kernel_rfl)
noncomputable def qPr1 : Q2 := Classical.choose pr_ex
noncomputable def qPr2 : Q2 := Classical.choose (Classical.choose_spec pr_ex)
theorem pr_con : EffOk Tryz.prog 149 (fun _ => true) (seeSpec (rowsF 112 186 78 M36 qPr1 qPr2)) := Classical.choose_spec (Classical.choose_spec pr_ex)
end Go.Proofs.YtdojnnlhaiennaaGreat.Qx

