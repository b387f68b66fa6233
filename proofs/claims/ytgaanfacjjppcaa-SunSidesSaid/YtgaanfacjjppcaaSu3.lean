/- The laws of layer 9, as the interpreter finds them; the one of the direction. Conditions: none. -/
import Derived.Test.YtgaanfacjjppcaaSu2
namespace Go.Proofs.Ytgaanfacjjppcaa.Su
open Go Go.Proofs.Ytgaanfacjjppcaa.Ae Go.Proofs.Ytgaanfacjjppcaa.Fx Go.Proofs.Ytgaanfacjjppcaa.Lx Go.Proofs.Ytgaanfacjjppcaa.Tx Go.Proofs.Ytgaanfacjjppcaa.Te Go.Proofs.Ytgaanfacjjppcaa.Rx Go.Proofs.Ytgaanfacjjppcaa.Row Go.Proofs.Ytgaanfacjjppcaa.Ve Go.Proofs.Ytgaanfacjjppcaa.Orb

def vEq (a b : V3) : Bool := (a.x == b.x) && ((a.y == b.y) && ((a.z == b.z) && true))
theorem vEq_refl (a : V3) : vEq a a = true := by unfold vEq; simp
def boolF (u : V3 → V3 → Bool → Bool × Bool) : List AV → Option (Bool → AV × Bool)
  | [.agg [.int .i64 a, .int .i64 b, .int .i64 c], .agg [.int .i64 d, .int .i64 e, .int .i64 f]] => some fun bad => (.bool (u ⟨a, b, c⟩ ⟨d, e, f⟩ bad).1, (u ⟨a, b, c⟩ ⟨d, e, f⟩ bad).2)
  | _ => none
theorem boolF_some {u : V3 → V3 → Bool → Bool × Bool} {args : List AV} {g : Bool → AV × Bool} (h : boolF u args = some g) : ∃ a b : V3, args = [a.av, b.av] ∧ ∀ bad, g bad = (.bool (u a b bad).1, (u a b bad).2) := by
  unfold boolF at h
  split at h <;> cases h
  exact ⟨⟨_, _, _⟩, ⟨_, _, _⟩, rfl, fun _ => rfl⟩
section
variable (dt : V3 → V3 → Bool → Int × Bool) (sc : V3 → Int → Bool → V3 × Bool) (sb : V3 → V3 → Bool → V3 × Bool) (nr : Op3)
def shaG (a b : V3) (bad : Bool) : Bool × Bool :=
  let c := dt a b bad
  let s := sc b c.1 c.2
  let d := sb a s.1 s.2
  let n := nr d.1.x d.1.y d.1.z d.2
  (an (an (!n.2) (decide (c.1 < 0))) (decide (n.1 < 7012835795048)), n.2)
theorem shaded_raw (a b : V3) (bad : Bool) : acall Try.prog [(17, .flow 25 (vv1F dt)), (19, .flow 25 (vkF sc)), (45, .flow 25 (vvF sb)), (16, .flow 25 (nrmF nr))] 100 18 [.ptr 0 0, a.av, b.av] [.cells [.bool bad] 25] (flowK 25) =
    some (.bool (shaG dt sc sb nr a b bad).1, (shaG dt sc sb nr a b bad).2) := by kernel_rfl
end
def shaP : V3 → V3 → Bool → Bool × Bool := shaG dotP scaP vsubP norm
theorem sha_con : Meth 18 (boolF shaP) := by
  refine flow_of (EnvOk.f (EnvOk.f (EnvOk.f (EnvOk.f ok_nil en_vNorm vnorm_con) (enter_of Try.func45 (by kernel_rfl) rfl) vsub_con) (enter_of Try.func19 (by kernel_rfl) rfl) sca_con) (enter_of Try.func17 (by kernel_rfl) rfl) dot_con) 100 _ _ (fun _ => true) _ ?_
  intro args g _ h bad
  obtain ⟨a, b, rfl, hg⟩ := boolF_some h
  exact (shaded_raw dotP scaP vsubP norm a b bad).trans (congrArg some (hg bad).symm)
section
variable (sh : V3 → V3 → Bool → Bool × Bool) (di rdi : Int → Bool → V3 × Bool) (dt : V3 → V3 → Bool → Int × Bool) (sc : V3 → Int → Bool → V3 × Bool) (nr : Op3)
def envA9 : Env := [(18, .flow 25 (boolF sh)), (14, .flow 25 (tickF di))]
def awk9 : Option AV :=
  let s := sh ⟨-7696581394432, 0, 0⟩ ⟨1099511627776, 0, 0⟩ false
  bif s.1 then (bif an true (!s.2) then some (.bool (an true (!(vEq (di 0 s.2).1 V3.zero)))) else some (.bool false)) else some (.bool false)
theorem awake9_raw : acall Try.prog (envA9 sh di) 100 13 [] [] pK = awk9 sh di := by kernel_rfl
def envL9 : Env := (13, .pure anyArgs yesF) :: (15, .flow 27 (tickF rdi)) :: (17, .flow 25 (vv1F dt)) :: (19, .flow 25 (vkF sc)) :: (16, .flow 25 (nrmF nr)) :: envA9 sh di
theorem ldir_raw (t : Int) (b : Bool) : acall Try.prog (envL9 sh di rdi dt sc nr) 100 3 [I t, .bool b] [] ansK =
    bif vEq (di t b).1 (rdi t b).1 then some (an true ((di t b).2 == (rdi t b).2)) else some false := by kernel_rfl
theorem lone_raw (t : Int) : acall Try.prog (envL9 sh di rdi dt sc nr) 100 4 [I t] [] ansK =
    let v := di t false
    let n := nr v.1.x v.1.y v.1.z v.2
    let d := wr .i64 (n.1 - 1099511627776)
    bif (bif decide (t < 0) then true else decide (t > 157766400000)) then some true else some (an (an (!n.2) (decide (d ≤ 64))) (decide (d ≥ -64))) := by kernel_rfl
def sideEnd (k : Int) (s : V3) (bad : Bool) : Option Bool :=
  let p := sc s (wr .i64 (0 - k)) bad
  let h := sh p.1 s p.2
  bif h.1 then some (an true (!h.2)) else some false
theorem lsides_raw (p : V3) (t k : Int) : acall Try.prog (envL9 sh di rdi dt sc nr) 100 5 [p.av, I t, I k] [] ansK =
    let s := di t false
    let n := nr p.x p.y p.z s.2
    let d := dt p s.1 n.2
    let h := sh p s.1 d.2
    bif s.2 then some true else bif decide (n.1 > 1099511627776000) then some true else bif n.2 then some true else bif decide (k < 1099511627776) then some true else bif decide (k > 1099511627776000) then some true else
    bif decide (d.1 ≥ 0) then (bif h.1 then some false else sideEnd sh sc k s.1 h.2) else sideEnd sh sc k s.1 d.2 := by kernel_rfl
end
theorem awk9_yes : awk9 shaP dirP = some (.bool true) := by kernel_rfl
theorem envA9_ok : EnvOk Try.prog (envA9 shaP dirP) := EnvOk.f (EnvOk.f ok_nil (enter_of Try.func14 (by kernel_rfl) rfl) dir_con) (enter_of Try.func18 (by kernel_rfl) rfl) sha_con
theorem awake9_ok : PureOk Try.prog 13 anyArgs yesF := by
  refine pure_of envA9_ok 100 _ _ _ ?_
  rintro args v - h
  unfold yesF at h
  split at h <;> cases h
  exact ⟨rfl, rfl, (awake9_raw shaP dirP).trans awk9_yes⟩
theorem envL9_ok : EnvOk Try.prog (envL9 shaP dirP dirP dotP scaP norm) :=
  EnvOk.p (EnvOk.f (EnvOk.f (EnvOk.f (EnvOk.f envA9_ok en_vNorm vnorm_con) (enter_of Try.func19 (by kernel_rfl) rfl) sca_con) (enter_of Try.func17 (by kernel_rfl) rfl) dot_con) (enter_of Try.func15 (by kernel_rfl) rfl) rdir_con) (enter_of Try.func13 (by kernel_rfl) rfl) awake9_ok
theorem sdir_law (t : Int) (b : Bool) (w : World) : Calls Try.prog 3 #[.int .i64 t, .bool b] w fun e w' => e = .returned (.bool true) ∧ Go.RowKit.Below w.heap.size w w' :=
  law_true envL9_ok ((ldir_raw shaP dirP dirP dotP scaP norm t b).trans (by rw [vEq_refl]; simp [an])) (RL.cons (R_int _ _ _) (RL.cons (R_bool _ _) (RL_nil.2 rfl)))
#print axioms sdir_law
end Go.Proofs.Ytgaanfacjjppcaa.Su
