/- Vectors: contracts of a known shape. Conditions: none. -/
import Derived.Test.YtdojnnlhaiennaaGreatJe
import Derived.Test.YtdojnnlhaiennaaGreatJg
import Derived.Test.YtdojnnlhaiennaaGreatJj
namespace Go.Proofs.YtdojnnlhaiennaaGreat.Qx
open Go Go.Proofs.YtdojnnlhaiennaaGreat.Ae Go.Proofs.YtdojnnlhaiennaaGreat.Fx Go.Proofs.YtdojnnlhaiennaaGreat.Lx
abbrev N1 : Sh := .num .i64
abbrev V : Sh := .agg [N1, N1, N1]
abbrev V2 : Sh := .agg [N1, N1, N1, N1, N1, N1]
abbrev Qs : Sh := .agg [N1, N1, N1, N1]
abbrev M9 : Sh := .agg [N1, N1, N1, N1, N1, N1, N1, N1, N1]
abbrev R6 : Sh := .agg [N1, N1, N1, N1, N1, N1]
def Ns : Nat → List Sh
  | 0 => []
  | n + 1 => N1 :: Ns n
abbrev M36 : Sh := .agg (Ns 36)
abbrev G43 : Sh := .agg (Ns 43)
abbrev X78 : Sh := .agg (Ns 78)
abbrev six : Sh := .lit .i64 6
noncomputable def qvAdd_env : Env := [(76, .flow 112 (int2 add)), (117, .text), (116, .text)]
theorem qvAdd_env_ok : EnvOk Tryz.prog qvAdd_env := EnvOk.f (EnvOk.t (EnvOk.t (ok_nil) (enter_of Tryz.func116 (by kernel_rfl) rfl)) (enter_of Tryz.func117 (by kernel_rfl) rfl)) (enter_of Tryz.func76 (by kernel_rfl) rfl) add_con
theorem qvAdd_ex : ∃ q : QF, Meth 72 (shF [V, V] (V) q) := flow_ex qvAdd_env_ok [] 400 _ _ _ _ (fun x b => by kernel_rfl)
noncomputable def qvAdd : QF := Classical.choose qvAdd_ex
theorem qvAdd_con : Meth 72 (shF [V, V] (V) qvAdd) := Classical.choose_spec qvAdd_ex
noncomputable def qvSub_env : Env := [(75, .flow 112 (int2 sub)), (183, .text), (116, .text)]
theorem qvSub_env_ok : EnvOk Tryz.prog qvSub_env := EnvOk.f (EnvOk.t (EnvOk.t (ok_nil) (enter_of Tryz.func116 (by kernel_rfl) rfl)) (enter_of Tryz.func183 (by kernel_rfl) rfl)) (enter_of Tryz.func75 (by kernel_rfl) rfl) sub_con
theorem qvSub_ex : ∃ q : QF, Meth 137 (shF [V, V] (V) q) := flow_ex qvSub_env_ok [] 400 _ _ _ _ (fun x b => by kernel_rfl)
noncomputable def qvSub : QF := Classical.choose qvSub_ex
theorem qvSub_con : Meth 137 (shF [V, V] (V) qvSub) := Classical.choose_spec qvSub_ex
noncomputable def qvSca_env : Env := [(127, .flow 112 (int2 mul)), (184, .text), (116, .text)]
theorem qvSca_env_ok : EnvOk Tryz.prog qvSca_env := EnvOk.f (EnvOk.t (EnvOk.t (ok_nil) (enter_of Tryz.func116 (by kernel_rfl) rfl)) (enter_of Tryz.func184 (by kernel_rfl) rfl)) (enter_of Tryz.func127 (by kernel_rfl) rfl) mul_con
theorem qvSca_ex : ∃ q : QF, Meth 138 (shF [V, N1] (V) q) := flow_ex qvSca_env_ok [] 400 _ _ _ _ (fun x b => by kernel_rfl)
noncomputable def qvSca : QF := Classical.choose qvSca_ex
theorem qvSca_con : Meth 138 (shF [V, N1] (V) qvSca) := Classical.choose_spec qvSca_ex
noncomputable def qvDot_env : Env := [(127, .flow 112 (int2 mul)), (76, .flow 112 (int2 add))]
theorem qvDot_env_ok : EnvOk Tryz.prog qvDot_env := EnvOk.f (EnvOk.f (ok_nil) (enter_of Tryz.func76 (by kernel_rfl) rfl) add_con) (enter_of Tryz.func127 (by kernel_rfl) rfl) mul_con
theorem qvDot_ex : ∃ q : QF, Meth 136 (shF [V, V] (N1) q) := flow_ex qvDot_env_ok [] 400 _ _ _ _ (fun x b => by kernel_rfl)
noncomputable def qvDot : QF := Classical.choose qvDot_ex
theorem qvDot_con : Meth 136 (shF [V, V] (N1) qvDot) := Classical.choose_spec qvDot_ex
noncomputable def qvCro_env : Env := [(127, .flow 112 (int2 mul)), (75, .flow 112 (int2 sub)), (205, .text), (116, .text)]
theorem qvCro_env_ok : EnvOk Tryz.prog qvCro_env := EnvOk.f (EnvOk.f (EnvOk.t (EnvOk.t (ok_nil) (enter_of Tryz.func116 (by kernel_rfl) rfl)) (enter_of Tryz.func205 (by kernel_rfl) rfl)) (enter_of Tryz.func75 (by kernel_rfl) rfl) sub_con) (enter_of Tryz.func127 (by kernel_rfl) rfl) mul_con
theorem qvCro_ex : ∃ q : QF, Meth 185 (shF [V, V] (V) q) := flow_ex qvCro_env_ok [] 400 _ _ _ _ (fun x b => by kernel_rfl)
noncomputable def qvCro : QF := Classical.choose qvCro_ex
theorem qvCro_con : Meth 185 (shF [V, V] (V) qvCro) := Classical.choose_spec qvCro_ex
noncomputable def qvNrm_env : Env := [(121, .flow 112 (int3 norm))]
theorem qvNrm_env_ok : EnvOk Tryz.prog qvNrm_env := EnvOk.f (ok_nil) (enter_of Tryz.func121 (by kernel_rfl) rfl) norm_con
theorem qvNrm_ex : ∃ q : QF, Meth 77 (shF [V] (N1) q) := flow_ex qvNrm_env_ok [] 400 _ _ _ _ (fun x b => by kernel_rfl)
noncomputable def qvNrm : QF := Classical.choose qvNrm_ex
theorem qvNrm_con : Meth 77 (shF [V] (N1) qvNrm) := Classical.choose_spec qvNrm_ex
noncomputable def qvUni_env : Env := [(77, .flow 112 (shF [V] (N1) qvNrm)), (123, .text), (125, .flow 112 (int2 div)), (172, .text), (116, .text)]
theorem qvUni_env_ok : EnvOk Tryz.prog qvUni_env := EnvOk.f (EnvOk.t (EnvOk.f (EnvOk.t (EnvOk.t (ok_nil) (enter_of Tryz.func116 (by kernel_rfl) rfl)) (enter_of Tryz.func172 (by kernel_rfl) rfl)) (enter_of Tryz.func125 (by kernel_rfl) rfl) div_meth) (enter_of Tryz.func123 (by kernel_rfl) rfl)) (enter_of Tryz.func77 (by kernel_rfl) rfl) qvNrm_con
theorem qvUni_ex : ∃ q : QF, Meth 114 (shF [V] (V) q) := flow_ex qvUni_env_ok [] 400 _ _ _ _ (fun x b => by kernel_rfl)
noncomputable def qvUni : QF := Classical.choose qvUni_ex
theorem qvUni_con : Meth 114 (shF [V] (V) qvUni) := Classical.choose_spec qvUni_ex
noncomputable def qvPar_env : Env := [(136, .flow 112 (shF [V, V] (N1) qvDot)), (185, .flow 112 (shF [V, V] (V) qvCro)), (77, .flow 112 (shF [V] (N1) qvNrm)), (114, .flow 112 (shF [V] (V) qvUni))]
theorem qvPar_env_ok : EnvOk Tryz.prog qvPar_env := EnvOk.f (EnvOk.f (EnvOk.f (EnvOk.f (ok_nil) (enter_of Tryz.func114 (by kernel_rfl) rfl) qvUni_con) (enter_of Tryz.func77 (by kernel_rfl) rfl) qvNrm_con) (enter_of Tryz.func185 (by kernel_rfl) rfl) qvCro_con) (enter_of Tryz.func136 (by kernel_rfl) rfl) qvDot_con
theorem qvPar_ex : ∃ q : QF, Meth 139 (shF [V, V] (.tup [N1, N1]) q) := flow_ex qvPar_env_ok [] 400 _ _ _ _ (fun x b => by kernel_rfl)
noncomputable def qvPar : QF := Classical.choose qvPar_ex
theorem qvPar_con : Meth 139 (shF [V, V] (.tup [N1, N1]) qvPar) := Classical.choose_spec qvPar_ex
end Go.Proofs.YtdojnnlhaiennaaGreat.Qx

/- Attitudes: contracts of a known shape. Conditions: none. -/
namespace Go.Proofs.YtdojnnlhaiennaaGreat.Qx
open Go Go.Proofs.YtdojnnlhaiennaaGreat.Ae Go.Proofs.YtdojnnlhaiennaaGreat.Fx Go.Proofs.YtdojnnlhaiennaaGreat.Lx
noncomputable def qqPar_env : Env := []
theorem qqPar_env_ok : EnvOk Tryz.prog qqPar_env := ok_nil
theorem qqPar_ex : ∃ q : QP, PureOk Tryz.prog 189 anyArgs (shP [Qs] (.tup [V, N1]) q) := pure_ex qqPar_env_ok [] 400 _ _ _ (fun x => by kernel_rfl)
noncomputable def qqPar : QP := Classical.choose qqPar_ex
theorem qqPar_con : PureOk Tryz.prog 189 anyArgs (shP [Qs] (.tup [V, N1]) qqPar) := Classical.choose_spec qqPar_ex
noncomputable def qqBac_env : Env := []
theorem qqBac_env_ok : EnvOk Tryz.prog qqBac_env := ok_nil
theorem qqBac_ex : ∃ q : QP, PureOk Tryz.prog 147 anyArgs (shP [Qs] (Qs) q) := pure_ex qqBac_env_ok [] 400 _ _ _ (fun x => by kernel_rfl)
noncomputable def qqBac : QP := Classical.choose qqBac_ex
theorem qqBac_con : PureOk Tryz.prog 147 anyArgs (shP [Qs] (Qs) qqBac) := Classical.choose_spec qqBac_ex
noncomputable def qqPla_env : Env := []
theorem qqPla_env_ok : EnvOk Tryz.prog qqPla_env := ok_nil
theorem qqPla_ex : ∃ q : QP, PureOk Tryz.prog 187 anyArgs (shP [Qs] (Qs) q) := pure_ex qqPla_env_ok [] 400 _ _ _ (fun x => by kernel_rfl)
noncomputable def qqPla : QP := Classical.choose qqPla_ex
theorem qqPla_con : PureOk Tryz.prog 187 anyArgs (shP [Qs] (Qs) qqPla) := Classical.choose_spec qqPla_ex
noncomputable def qqMul_env : Env := [(75, .flow 112 (int2 sub)), (127, .flow 112 (int2 mul)), (136, .flow 112 (shF [V, V] (N1) qvDot)), (185, .flow 112 (shF [V, V] (V) qvCro)), (72, .flow 112 (shF [V, V] (V) qvAdd)), (138, .flow 112 (shF [V, N1] (V) qvSca)), (189, .pure anyArgs (shP [Qs] (.tup [V, N1]) qqPar)), (188, .text)]
theorem qqMul_env_ok : EnvOk Tryz.prog qqMul_env := EnvOk.f (EnvOk.f (EnvOk.f (EnvOk.f (EnvOk.f (EnvOk.f (EnvOk.p (EnvOk.t (ok_nil) (enter_of Tryz.func188 (by kernel_rfl) rfl)) (enter_of Tryz.func189 (by kernel_rfl) rfl) qqPar_con) (enter_of Tryz.func138 (by kernel_rfl) rfl) qvSca_con) (enter_of Tryz.func72 (by kernel_rfl) rfl) qvAdd_con) (enter_of Tryz.func185 (by kernel_rfl) rfl) qvCro_con) (enter_of Tryz.func136 (by kernel_rfl) rfl) qvDot_con) (enter_of Tryz.func127 (by kernel_rfl) rfl) mul_con) (enter_of Tryz.func75 (by kernel_rfl) rfl) sub_con
theorem qqMul_ex : ∃ q : QF, Meth 146 (shF [Qs, Qs] (Qs) q) := flow_ex qqMul_env_ok [] 400 _ _ _ _ (fun x b => by kernel_rfl)
noncomputable def qqMul : QF := Classical.choose qqMul_ex
theorem qqMul_con : Meth 146 (shF [Qs, Qs] (Qs) qqMul) := Classical.choose_spec qqMul_ex
noncomputable def qqUni_env : Env := [(187, .pure anyArgs (shP [Qs] (Qs) qqPla)), (123, .text), (125, .flow 112 (int2 div)), (121, .flow 112 (int3 norm))]
theorem qqUni_env_ok : EnvOk Tryz.prog qqUni_env := EnvOk.p (EnvOk.t (EnvOk.f (EnvOk.f (ok_nil) (enter_of Tryz.func121 (by kernel_rfl) rfl) norm_con) (enter_of Tryz.func125 (by kernel_rfl) rfl) div_meth) (enter_of Tryz.func123 (by kernel_rfl) rfl)) (enter_of Tryz.func187 (by kernel_rfl) rfl) qqPla_con
theorem qqUni_ex : ∃ q : QF, Meth 143 (shF [Qs] (Qs) q) := flow_ex qqUni_env_ok [] 400 _ _ _ _ (fun x b => by kernel_rfl)
noncomputable def qqUni : QF := Classical.choose qqUni_ex
theorem qqUni_con : Meth 143 (shF [Qs] (Qs) qqUni) := Classical.choose_spec qqUni_ex
noncomputable def qqTur_env : Env := [(185, .flow 112 (shF [V, V] (V) qvCro)), (137, .flow 112 (shF [V, V] (V) qvSub)), (72, .flow 112 (shF [V, V] (V) qvAdd)), (138, .flow 112 (shF [V, N1] (V) qvSca)), (189, .pure anyArgs (shP [Qs] (.tup [V, N1]) qqPar))]
theorem qqTur_env_ok : EnvOk Tryz.prog qqTur_env := EnvOk.f (EnvOk.f (EnvOk.f (EnvOk.f (EnvOk.p (ok_nil) (enter_of Tryz.func189 (by kernel_rfl) rfl) qqPar_con) (enter_of Tryz.func138 (by kernel_rfl) rfl) qvSca_con) (enter_of Tryz.func72 (by kernel_rfl) rfl) qvAdd_con) (enter_of Tryz.func137 (by kernel_rfl) rfl) qvSub_con) (enter_of Tryz.func185 (by kernel_rfl) rfl) qvCro_con
theorem qqTur_ex : ∃ q : QF, Meth 152 (shF [Qs, V] (V) q) := flow_ex qqTur_env_ok [] 400 _ _ _ _ (fun x b => by kernel_rfl)
noncomputable def qqTur : QF := Classical.choose qqTur_ex
theorem qqTur_con : Meth 152 (shF [Qs, V] (V) qqTur) := Classical.choose_spec qqTur_ex
noncomputable def qqFro_env : Env := [(143, .flow 112 (shF [Qs] (Qs) qqUni)), (125, .flow 112 (int2 div)), (127, .flow 112 (int2 mul)), (75, .flow 112 (int2 sub)), (76, .flow 112 (int2 add)), (136, .flow 112 (shF [V, V] (N1) qvDot))]
theorem qqFro_env_ok : EnvOk Tryz.prog qqFro_env := EnvOk.f (EnvOk.f (EnvOk.f (EnvOk.f (EnvOk.f (EnvOk.f (ok_nil) (enter_of Tryz.func136 (by kernel_rfl) rfl) qvDot_con) (enter_of Tryz.func76 (by kernel_rfl) rfl) add_con) (enter_of Tryz.func75 (by kernel_rfl) rfl) sub_con) (enter_of Tryz.func127 (by kernel_rfl) rfl) mul_con) (enter_of Tryz.func125 (by kernel_rfl) rfl) div_meth) (enter_of Tryz.func143 (by kernel_rfl) rfl) qqUni_con
theorem qqFro_ex : ∃ q : QF, Meth 186 (shF [V] (Qs) q) := flow_ex qqFro_env_ok [] 400 _ _ _ _ (fun x b => by kernel_rfl)
noncomputable def qqFro : QF := Classical.choose qqFro_ex
theorem qqFro_con : Meth 186 (shF [V] (Qs) qqFro) := Classical.choose_spec qqFro_ex
noncomputable def qqToR_env : Env := [(125, .flow 112 (int2 div)), (127, .flow 112 (int2 mul)), (76, .flow 112 (int2 add)), (189, .pure anyArgs (shP [Qs] (.tup [V, N1]) qqPar)), (187, .pure anyArgs (shP [Qs] (Qs) qqPla)), (188, .text)]
theorem qqToR_env_ok : EnvOk Tryz.prog qqToR_env := EnvOk.f (EnvOk.f (EnvOk.f (EnvOk.p (EnvOk.p (EnvOk.t (ok_nil) (enter_of Tryz.func188 (by kernel_rfl) rfl)) (enter_of Tryz.func187 (by kernel_rfl) rfl) qqPla_con) (enter_of Tryz.func189 (by kernel_rfl) rfl) qqPar_con) (enter_of Tryz.func76 (by kernel_rfl) rfl) add_con) (enter_of Tryz.func127 (by kernel_rfl) rfl) mul_con) (enter_of Tryz.func125 (by kernel_rfl) rfl) div_meth
theorem qqToR_ex : ∃ q : QF, Meth 145 (shF [Qs] (V) q) := flow_ex qqToR_env_ok [] 400 _ _ _ _ (fun x b => by kernel_rfl)
noncomputable def qqToR : QF := Classical.choose qqToR_ex
theorem qqToR_con : Meth 145 (shF [Qs] (V) qqToR) := Classical.choose_spec qqToR_ex
end Go.Proofs.YtdojnnlhaiennaaGreat.Qx

/- Two directions, and the field's change: contracts of a known shape. Conditions: none. -/
namespace Go.Proofs.YtdojnnlhaiennaaGreat.Qx
open Go Go.Proofs.YtdojnnlhaiennaaGreat.Ae Go.Proofs.YtdojnnlhaiennaaGreat.Fx Go.Proofs.YtdojnnlhaiennaaGreat.Lx
noncomputable def qqFrM_env : Env := [(143, .flow 112 (shF [Qs] (Qs) qqUni)), (75, .flow 112 (int2 sub)), (76, .flow 112 (int2 add)), (72, .flow 112 (shF [V, V] (V) qvAdd)), (188, .text)]
theorem qqFrM_env_ok : EnvOk Tryz.prog qqFrM_env := EnvOk.f (EnvOk.f (EnvOk.f (EnvOk.f (EnvOk.t (ok_nil) (enter_of Tryz.func188 (by kernel_rfl) rfl)) (enter_of Tryz.func72 (by kernel_rfl) rfl) qvAdd_con) (enter_of Tryz.func76 (by kernel_rfl) rfl) add_con) (enter_of Tryz.func75 (by kernel_rfl) rfl) sub_con) (enter_of Tryz.func143 (by kernel_rfl) rfl) qqUni_con
theorem qqFrM_ex : ∃ q : QF, Meth 161 (shF [M9] (Qs) q) := flow_ex qqFrM_env_ok [(155, 74)] 600 _ _ _ _ (fun x b => by kernel_rfl)
noncomputable def qqFrM : QF := Classical.choose qqFrM_ex
theorem qqFrM_con : Meth 161 (shF [M9] (Qs) qqFrM) := Classical.choose_spec qqFrM_ex
noncomputable def qtApa_env : Env := [(139, .flow 112 (shF [V, V] (.tup [N1, N1]) qvPar))]
theorem qtApa_env_ok : EnvOk Tryz.prog qtApa_env := EnvOk.f (ok_nil) (enter_of Tryz.func139 (by kernel_rfl) rfl) qvPar_con
theorem qtApa_ex : ∃ q : QF, Meth 82 (shF [V, V] (.flag) q) := flow_ex qtApa_env_ok [] 400 _ _ _ _ (fun x b => by kernel_rfl)
noncomputable def qtApa : QF := Classical.choose qtApa_ex
theorem qtApa_con : Meth 82 (shF [V, V] (.flag) qtApa) := Classical.choose_spec qtApa_ex
noncomputable def qtFra_env : Env := [(185, .flow 112 (shF [V, V] (V) qvCro)), (114, .flow 112 (shF [V] (V) qvUni))]
theorem qtFra_env_ok : EnvOk Tryz.prog qtFra_env := EnvOk.f (EnvOk.f (ok_nil) (enter_of Tryz.func114 (by kernel_rfl) rfl) qvUni_con) (enter_of Tryz.func185 (by kernel_rfl) rfl) qvCro_con
theorem qtFra_ex : ∃ q : QF, Meth 160 (shF [V2] (M9) q) := flow_ex qtFra_env_ok [] 400 _ _ _ _ (fun x b => by kernel_rfl)
noncomputable def qtFra : QF := Classical.choose qtFra_ex
theorem qtFra_con : Meth 160 (shF [V2] (M9) qtFra) := Classical.choose_spec qtFra_ex
noncomputable def qbBet_env : Env := []
theorem qbBet_env_ok : EnvOk Tryz.prog qbBet_env := ok_nil
theorem qbBet_ex : ∃ q : QP, PureOk Tryz.prog 73 anyArgs (shP [N1, N1] (.tup [N1, .flag]) q) := pure_ex qbBet_env_ok [] 400 _ _ _ (fun x => by kernel_rfl)
noncomputable def qbBet : QP := Classical.choose qbBet_ex
theorem qbBet_con : PureOk Tryz.prog 73 anyArgs (shP [N1, N1] (.tup [N1, .flag]) qbBet) := Classical.choose_spec qbBet_ex
noncomputable def qbSte_env : Env := [(74, .flow 112 (int3 Fx.part)), (75, .flow 112 (int2 sub)), (76, .flow 112 (int2 add)), (73, .pure anyArgs (shP [N1, N1] (.tup [N1, .flag]) qbBet)), (72, .flow 112 (shF [V, V] (V) qvAdd))]
theorem qbSte_env_ok : EnvOk Tryz.prog qbSte_env := EnvOk.f (EnvOk.f (EnvOk.f (EnvOk.p (EnvOk.f (ok_nil) (enter_of Tryz.func72 (by kernel_rfl) rfl) qvAdd_con) (enter_of Tryz.func73 (by kernel_rfl) rfl) qbBet_con) (enter_of Tryz.func76 (by kernel_rfl) rfl) add_con) (enter_of Tryz.func75 (by kernel_rfl) rfl) sub_con) (enter_of Tryz.func74 (by kernel_rfl) rfl) part_con
theorem qbSte_ex : ∃ q : QF, Meth 32 (shF [.agg (.flag :: Ns 7), V, N1] (.agg (.flag :: Ns 7)) q) := flow_ex qbSte_env_ok [] 400 _ _ _ _ (fun x b => by kernel_rfl)
noncomputable def qbSte : QF := Classical.choose qbSte_ex
theorem qbSte_con : Meth 32 (shF [.agg (.flag :: Ns 7), V, N1] (.agg (.flag :: Ns 7)) qbSte) := Classical.choose_spec qbSte_ex
noncomputable def qbDip_env : Env := [(127, .flow 112 (int2 mul))]
theorem qbDip_env_ok : EnvOk Tryz.prog qbDip_env := EnvOk.f (ok_nil) (enter_of Tryz.func127 (by kernel_rfl) rfl) mul_con
theorem qbDip_ex : ∃ q : QF, Meth 89 (shF [.agg (.flag :: Ns 7)] (V) q) := flow_ex qbDip_env_ok [] 400 _ _ _ _ (fun x b => by kernel_rfl)
noncomputable def qbDip : QF := Classical.choose qbDip_ex
theorem qbDip_con : Meth 89 (shF [.agg (.flag :: Ns 7)] (V) qbDip) := Classical.choose_spec qbDip_ex
end Go.Proofs.YtdojnnlhaiennaaGreat.Qx

/- Roots of matrices: a contract of a known shape. Conditions: none. -/
namespace Go.Proofs.YtdojnnlhaiennaaGreat.Qx
open Go Go.Proofs.YtdojnnlhaiennaaGreat.Ae Go.Proofs.YtdojnnlhaiennaaGreat.Fx Go.Proofs.YtdojnnlhaiennaaGreat.Lx
noncomputable def lessEnv : Env := [(127, .flow 112 (int2 mul)), (75, .flow 112 (int2 sub))]
theorem lessEnv_ok : EnvOk Tryz.prog lessEnv := EnvOk.f (EnvOk.f (ok_nil) (enter_of Tryz.func75 (by kernel_rfl) rfl) sub_con) (enter_of Tryz.func127 (by kernel_rfl) rfl) mul_con
noncomputable def sumEnv : Env := [(127, .flow 112 (int2 mul)), (76, .flow 112 (int2 add))]
theorem sumEnv_ok : EnvOk Tryz.prog sumEnv := EnvOk.f (EnvOk.f (ok_nil) (enter_of Tryz.func76 (by kernel_rfl) rfl) add_con) (enter_of Tryz.func127 (by kernel_rfl) rfl) mul_con
noncomputable def qmRoo_env : Env := [(126, .flow 112 (int1 sqrt)), (125, .flow 112 (int2 div)), (76, .flow 112 (int2 add)), (194, .see (seeF Tryz.prog lessEnv [] 300 194)), (193, .text), (123, .text)]
theorem qmRoo_env_ok : EnvOk Tryz.prog qmRoo_env := EnvOk.f (EnvOk.f (EnvOk.f (EnvOk.cons (s := .see _) ⟨(enter_of Tryz.func194 (by kernel_rfl) rfl), see_of lessEnv_ok 300 _⟩ (EnvOk.t (EnvOk.t (ok_nil) (enter_of Tryz.func123 (by kernel_rfl) rfl)) (enter_of Tryz.func193 (by kernel_rfl) rfl))) (enter_of Tryz.func76 (by kernel_rfl) rfl) add_con) (enter_of Tryz.func125 (by kernel_rfl) rfl) div_meth) (enter_of Tryz.func126 (by kernel_rfl) rfl) sqrt_con
theorem qmRoo_ex : ∃ q : QF, Meth 153 (shF [M36, six] (M36) q) := flow_ex qmRoo_env_ok [] 800 _ _ _ _ (fun x b => by kernel_rfl)
noncomputable def qmRoo : QF := Classical.choose qmRoo_ex
theorem qmRoo_con : Meth 153 (shF [M36, six] (M36) qmRoo) := Classical.choose_spec qmRoo_ex
end Go.Proofs.YtdojnnlhaiennaaGreat.Qx

/- Equations of matrices: contracts of a known shape. Conditions: none. -/
namespace Go.Proofs.YtdojnnlhaiennaaGreat.Qx
open Go Go.Proofs.YtdojnnlhaiennaaGreat.Ae Go.Proofs.YtdojnnlhaiennaaGreat.Fx Go.Proofs.YtdojnnlhaiennaaGreat.Lx
noncomputable def qmSol_env : Env := [(125, .flow 112 (int2 div)), (127, .flow 112 (int2 mul)), (75, .flow 112 (int2 sub)), (76, .flow 112 (int2 add)), (194, .see (seeF Tryz.prog lessEnv [] 300 194)), (193, .text), (123, .text)]
theorem qmSol_env_ok : EnvOk Tryz.prog qmSol_env := EnvOk.f (EnvOk.f (EnvOk.f (EnvOk.f (EnvOk.cons (s := .see _) ⟨(enter_of Tryz.func194 (by kernel_rfl) rfl), see_of lessEnv_ok 300 _⟩ (EnvOk.t (EnvOk.t (ok_nil) (enter_of Tryz.func123 (by kernel_rfl) rfl)) (enter_of Tryz.func193 (by kernel_rfl) rfl))) (enter_of Tryz.func76 (by kernel_rfl) rfl) add_con) (enter_of Tryz.func75 (by kernel_rfl) rfl) sub_con) (enter_of Tryz.func127 (by kernel_rfl) rfl) mul_con) (enter_of Tryz.func125 (by kernel_rfl) rfl) div_meth
theorem qmSol_ex : ∃ q : QF, Meth 154 (shF [M36, R6, six] (R6) q) := flow_ex qmSol_env_ok [] 800 _ _ _ _ (fun x b => by kernel_rfl)
noncomputable def qmSol : QF := Classical.choose qmSol_ex
theorem qmSol_con : Meth 154 (shF [M36, R6, six] (R6) qmSol) := Classical.choose_spec qmSol_ex
noncomputable def qmApp_env : Env := [(195, .see (seeF Tryz.prog sumEnv [] 300 195)), (193, .text), (123, .text)]
theorem qmApp_env_ok : EnvOk Tryz.prog qmApp_env := EnvOk.cons (s := .see _) ⟨(enter_of Tryz.func195 (by kernel_rfl) rfl), see_of sumEnv_ok 300 _⟩ (EnvOk.t (EnvOk.t (ok_nil) (enter_of Tryz.func123 (by kernel_rfl) rfl)) (enter_of Tryz.func193 (by kernel_rfl) rfl))
theorem qmApp_ex : ∃ q : QF, Meth 155 (shF [M36, R6, six] (R6) q) := flow_ex qmApp_env_ok [] 800 _ _ _ _ (fun x b => by kernel_rfl)
noncomputable def qmApp : QF := Classical.choose qmApp_ex
theorem qmApp_con : Meth 155 (shF [M36, R6, six] (R6) qmApp) := Classical.choose_spec qmApp_ex
end Go.Proofs.YtdojnnlhaiennaaGreat.Qx

/- The filter's parts: contracts of a known shape. Conditions: none. -/
namespace Go.Proofs.YtdojnnlhaiennaaGreat.Qx
open Go Go.Proofs.YtdojnnlhaiennaaGreat.Ae Go.Proofs.YtdojnnlhaiennaaGreat.Fx Go.Proofs.YtdojnnlhaiennaaGreat.Lx
noncomputable def qfSta_env : Env := []
theorem qfSta_env_ok : EnvOk Tryz.prog qfSta_env := ok_nil
theorem qfSta_ex : ∃ q : QP, PureOk Tryz.prog 87 anyArgs (shP [Qs] (G43) q) := pure_ex qfSta_env_ok [] 400 _ _ _ (fun x => by kernel_rfl)
noncomputable def qfSta : QP := Classical.choose qfSta_ex
theorem qfSta_con : PureOk Tryz.prog 87 anyArgs (shP [Qs] (G43) qfSta) := Classical.choose_spec qfSta_ex
noncomputable def qfSpr_env : Env := [(76, .flow 112 (int2 add))]
theorem qfSpr_env_ok : EnvOk Tryz.prog qfSpr_env := EnvOk.f (ok_nil) (enter_of Tryz.func76 (by kernel_rfl) rfl) add_con
theorem qfSpr_ex : ∃ q : QF, Meth 85 (shF [G43] (N1) q) := flow_ex qfSpr_env_ok [] 400 _ _ _ _ (fun x b => by kernel_rfl)
noncomputable def qfSpr : QF := Classical.choose qfSpr_ex
theorem qfSpr_con : Meth 85 (shF [G43] (N1) qfSpr) := Classical.choose_spec qfSpr_ex
noncomputable def qfPoi_env : Env := [(127, .flow 112 (int2 mul)), (126, .flow 112 (int1 sqrt)), (153, .flow 112 (shF [M36, six] (M36) qmRoo))]
theorem qfPoi_env_ok : EnvOk Tryz.prog qfPoi_env := EnvOk.f (EnvOk.f (EnvOk.f (ok_nil) (enter_of Tryz.func153 (by kernel_rfl) rfl) qmRoo_con) (enter_of Tryz.func126 (by kernel_rfl) rfl) sqrt_con) (enter_of Tryz.func127 (by kernel_rfl) rfl) mul_con
theorem qfPoi_ex : ∃ q : QF, Meth 140 (shF [G43] (X78) q) := flow_ex qfPoi_env_ok [] 400 _ _ _ _ (fun x b => by kernel_rfl)
noncomputable def qfPoi : QF := Classical.choose qfPoi_ex
theorem qfPoi_con : Meth 140 (shF [G43] (X78) qfPoi) := Classical.choose_spec qfPoi_ex
noncomputable def qfHal_env : Env := []
theorem qfHal_env_ok : EnvOk Tryz.prog qfHal_env := ok_nil
theorem qfHal_ex : ∃ q : QP, PureOk Tryz.prog 141 anyArgs (shP [R6] (.tup [V, V]) q) := pure_ex qfHal_env_ok [] 400 _ _ _ (fun x => by kernel_rfl)
noncomputable def qfHal : QP := Classical.choose qfHal_ex
theorem qfHal_con : PureOk Tryz.prog 141 anyArgs (shP [R6] (.tup [V, V]) qfHal) := Classical.choose_spec qfHal_ex
noncomputable def qfJoi_env : Env := []
theorem qfJoi_env_ok : EnvOk Tryz.prog qfJoi_env := ok_nil
theorem qfJoi_ex : ∃ q : QP, PureOk Tryz.prog 144 anyArgs (shP [V, V] (R6) q) := pure_ex qfJoi_env_ok [] 400 _ _ _ (fun x => by kernel_rfl)
noncomputable def qfJoi : QP := Classical.choose qfJoi_ex
theorem qfJoi_con : PureOk Tryz.prog 144 anyArgs (shP [V, V] (R6) qfJoi) := Classical.choose_spec qfJoi_ex
noncomputable def qfTur_env : Env := [(146, .flow 112 (shF [Qs, Qs] (Qs) qqMul)), (186, .flow 112 (shF [V] (Qs) qqFro))]
theorem qfTur_env_ok : EnvOk Tryz.prog qfTur_env := EnvOk.f (EnvOk.f (ok_nil) (enter_of Tryz.func186 (by kernel_rfl) rfl) qqFro_con) (enter_of Tryz.func146 (by kernel_rfl) rfl) qqMul_con
theorem qfTur_ex : ∃ q : QF, Meth 142 (shF [V, Qs] (Qs) q) := flow_ex qfTur_env_ok [] 400 _ _ _ _ (fun x b => by kernel_rfl)
noncomputable def qfTur : QF := Classical.choose qfTur_ex
theorem qfTur_con : Meth 142 (shF [V, Qs] (Qs) qfTur) := Classical.choose_spec qfTur_ex
noncomputable def qfSet_env : Env := [(72, .flow 112 (shF [V, V] (V) qvAdd)), (142, .flow 112 (shF [V, Qs] (Qs) qfTur)), (143, .flow 112 (shF [Qs] (Qs) qqUni)), (141, .pure anyArgs (shP [R6] (.tup [V, V]) qfHal))]
theorem qfSet_env_ok : EnvOk Tryz.prog qfSet_env := EnvOk.f (EnvOk.f (EnvOk.f (EnvOk.p (ok_nil) (enter_of Tryz.func141 (by kernel_rfl) rfl) qfHal_con) (enter_of Tryz.func143 (by kernel_rfl) rfl) qqUni_con) (enter_of Tryz.func142 (by kernel_rfl) rfl) qfTur_con) (enter_of Tryz.func72 (by kernel_rfl) rfl) qvAdd_con
theorem qfSet_ex : ∃ q : QF, Meth 151 (shF [Qs, V, R6, M36] (.tup [G43, .flag]) q) := flow_ex qfSet_env_ok [] 400 _ _ _ _ (fun x b => by kernel_rfl)
noncomputable def qfSet : QF := Classical.choose qfSet_ex
theorem qfSet_con : Meth 151 (shF [Qs, V, R6, M36] (.tup [G43, .flag]) qfSet) := Classical.choose_spec qfSet_ex
end Go.Proofs.YtdojnnlhaiennaaGreat.Qx
