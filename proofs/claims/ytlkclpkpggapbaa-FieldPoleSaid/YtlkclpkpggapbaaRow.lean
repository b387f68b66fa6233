/- From a walk of the interpreter to a row. Conditions: none. -/
import Derived.Test.YtlkclpkpggapbaaAe7
import Derived.ProofKit
import Derived.Below
import Derived.ChangeSame
import Derived.OpenShut
namespace Go.Proofs.Ytlkclpkpggapbaa.Row
open Go Go.Proofs.Ytlkclpkpggapbaa.Ae Go.RowKit Go.ChangeShapes Go.WideShapes

theorem post_none {H : Type} {enc : TypeId × Value → H} {P : Program} {f : Func} {s : ChangeSpec} {apart fresh handsOn again : Bool} {W W' : World} {args : Array Value} {v : Value} {ds gs : List (DataW H)}
    (hW : DataW.Whole enc P f.params.toList s.vars apart W args.toList ds gs [])
    (hres : ∀ (b : Nat) (sp : Nat → Bool) (hd : Bool), DataW.TrodAll enc P W' b sp hd f.resultTypes.toList (v.resultList f.resultTypes.size) (s.fn H (ds ++ gs)).results [])
    (hargs : ∀ sp : Nat → Bool, (∀ p ∈ ([] : List MemPlace), sp p.block = true) → DataW.TrodAll enc P W' 0 sp true f.params.toList args.toList (s.fn H (ds ++ gs)).args [])
    (hvars : ∀ sp : Nat → Bool, (∀ p ∈ ([] : List MemPlace), sp p.block = true) → DataW.TrodVars enc P W' sp s.vars (s.fn H (ds ++ gs)).vars [])
    (hk : W.keptBut W' (· ∈ ([] : List MemPlace)))
    (hok : ∀ (j : Nat) (t : TypeId) (r : Value), f.resultTypes[j]? = some t → (v.resultList f.resultTypes.size)[j]? = some r → Value.okWide P W' .any 0 t r) :
    s.post enc P f apart fresh handsOn again W args v W' := by
  refine ⟨ds, gs, [], [], [], [], hW, hres _ _ _, hargs _ (fun p hp => by cases hp), hvars _ (fun p hp => by cases hp), World.keptBut_mono (fun p hp => by cases hp) hk, fun _ => ?_⟩
  refine ⟨hok, _, _, [], ⟨[], [], trodAll_append (hargs _ (fun p hp => by cases hp)) (hres _ _ _), hvars _ (fun p hp => by cases hp), rfl, ?_, ?_⟩, ?_⟩
  · intro b off hp; cases hp
  · intro _; exact List.nodup_nil
  · intro p hp _; cases hp

/-- The law's answer. -/
def ansK (v : AV) (_ : List AB) : Option Bool :=
  match v with
  | .bool b => some b
  | _ => none
/-- A law that the interpreter finds true. -/
theorem law_true {P : Program} {env : Env} (hE : EnvOk P env) {fuel : Nat} {fid : FuncId} {args : List AV} {Args : Array Value} {w : World} (h : acall P env fuel fid args [] ansK = some true) (hA : RL [] args Args.toList) :
    Calls P fid Args w fun e w' => e = .returned (.bool true) ∧ Below w.heap.size w w' := by
  have hH : HR [] [] w := ⟨rfl, by simp, fun i B hB _ => by simp at hB⟩
  refine (acall_ok hE h hA hH).mono fun e w' ⟨v, V, m', H', e1, e2, e3, e4, e5⟩ => ?_
  unfold ansK at e5
  split at e5
  · cases e5
    simp only [R] at e2
    subst e2
    exact ⟨e1, e4.os, e4.tape, e4.output, e4.size, fun k hk => e4.block k hk (by simp)⟩
  · cases e5
end Go.Proofs.Ytlkclpkpggapbaa.Row
