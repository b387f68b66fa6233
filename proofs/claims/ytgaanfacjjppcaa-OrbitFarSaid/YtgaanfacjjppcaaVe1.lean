/- Lengths and directions of three numbers, the program's and the reference's: contracts. Conditions: none. -/
import Derived.Test.YtgaanfacjjppcaaPk
namespace Go.Proofs.Ytgaanfacjjppcaa.Ve
open Go Go.Proofs.Ytgaanfacjjppcaa.Ae Go.Proofs.Ytgaanfacjjppcaa.Fx Go.Proofs.Ytgaanfacjjppcaa.Lx Go.Proofs.Ytgaanfacjjppcaa.Tx Go.Proofs.Ytgaanfacjjppcaa.Rx Go.Proofs.Ytgaanfacjjppcaa.Te

structure V3 where
  x : Int
  y : Int
  z : Int
def V3.av (v : V3) : AV := .agg [I v.x, I v.y, I v.z]
abbrev V3.zero : V3 := ⟨0, 0, 0⟩
/-- A length's shape. -/
def nrmF (nr : Op3) : List AV → Option (Bool → AV × Bool)
  | [.agg [.int .i64 a, .int .i64 b, .int .i64 c]] => some fun bad => (.int .i64 (nr a b c bad).1, (nr a b c bad).2)
  | _ => none
/-- A direction's shape. -/
def dirF (u : V3 → Bool → V3 × Bool) : List AV → Option (Bool → AV × Bool)
  | [.agg [.int .i64 a, .int .i64 b, .int .i64 c]] => some fun bad => ((u ⟨a, b, c⟩ bad).1.av, (u ⟨a, b, c⟩ bad).2)
  | _ => none
theorem nrmF_some {nr : Op3} {args : List AV} {g : Bool → AV × Bool} (h : nrmF nr args = some g) : ∃ a b c, args = [.agg [I a, I b, I c]] ∧ ∀ bad, g bad = (.int .i64 (nr a b c bad).1, (nr a b c bad).2) := by
  unfold nrmF at h
  split at h <;> cases h
  exact ⟨_, _, _, rfl, fun _ => rfl⟩
theorem dirF_some {u : V3 → Bool → V3 × Bool} {args : List AV} {g : Bool → AV × Bool} (h : dirF u args = some g) : ∃ a b c, args = [.agg [I a, I b, I c]] ∧ ∀ bad, g bad = ((u ⟨a, b, c⟩ bad).1.av, (u ⟨a, b, c⟩ bad).2) := by
  unfold dirF at h
  split at h <;> cases h
  exact ⟨_, _, _, rfl, fun _ => rfl⟩
section
variable (nr : Op3) (di : Op2)
def unitG (v : V3) (bad : Bool) : V3 × Bool :=
  let n := nr v.x v.y v.z bad
  let b0 := bif decide (n.1 < 1048576) then true else n.2
  let x := di v.x n.1 b0
  let y := di v.y n.1 x.2
  let z := di v.z n.1 y.2
  bif z.2 then (V3.zero, true) else (⟨x.1, y.1, z.1⟩, false)
theorem vnorm_raw (a b c : Int) (bad : Bool) : acall Try.prog [(44, m3 25 nr)] 60 16 [.ptr 0 0, .agg [I a, I b, I c]] [.cells [.bool bad] 25] (flowK 25) = some (I (nr a b c bad).1, (nr a b c bad).2) := by kernel_rfl
theorem rvnorm_raw (a b c : Int) (bad : Bool) : acall Try.prog [(91, m3 27 nr)] 60 71 [.ptr 0 0, .agg [I a, I b, I c]] [.cells [.bool bad] 27] (flowK 27) = some (I (nr a b c bad).1, (nr a b c bad).2) := by kernel_rfl
def unitRaw (a b c : Int) (bad : Bool) : Option (AV × Bool) :=
  let n := nr a b c bad
  let go : Bool → Option (AV × Bool) := fun b0 =>
    let x := di a n.1 b0
    let y := di b n.1 x.2
    let z := di c n.1 y.2
    bif z.2 then some (V3.zero.av, z.2) else some (V3.av ⟨x.1, y.1, z.1⟩, z.2)
  bif decide (n.1 < 1048576) then go true else go n.2
theorem unit_raw (a b c : Int) (bad : Bool) : acall Try.prog [(16, .flow 25 (nrmF nr)), (53, m2 25 di), (46, .text), (90, .text), (52, .text)] 80 69 [.ptr 0 0, .agg [I a, I b, I c]] [.cells [.bool bad] 25] (flowK 25) = unitRaw nr di a b c bad := by kernel_rfl
theorem runit_raw (a b c : Int) (bad : Bool) : acall Try.prog [(71, .flow 27 (nrmF nr)), (55, m2 27 di), (92, .text), (54, .text)] 80 73 [.ptr 0 0, .agg [I a, I b, I c]] [.cells [.bool bad] 27] (flowK 27) = unitRaw nr di a b c bad := by kernel_rfl
theorem unitRaw_eq (a b c : Int) (bad : Bool) : unitRaw nr di a b c bad = some ((unitG nr di ⟨a, b, c⟩ bad).1.av, (unitG nr di ⟨a, b, c⟩ bad).2) := by
  unfold unitRaw unitG
  dsimp only
  cases decide ((nr a b c bad).1 < 1048576)
  · simp only [cond_false]
    cases h : (di c (nr a b c bad).1 (di b (nr a b c bad).1 (di a (nr a b c bad).1 (nr a b c bad).2).2).2).2 <;> rfl
  · simp only [cond_true]
    cases h : (di c (nr a b c bad).1 (di b (nr a b c bad).1 (di a (nr a b c bad).1 true).2).2).2 <;> rfl
end
def unit : V3 → Bool → V3 × Bool := unitG norm div
abbrev eText (f : FuncId) : Prop := EnterOk Try.prog f
theorem en_vNorm : EnterOk Try.prog 16 := enter_of Try.func16 (by kernel_rfl) rfl
theorem en_vUnit : EnterOk Try.prog 69 := enter_of Try.func69 (by kernel_rfl) rfl
theorem en_vrNorm : EnterOk Try.prog 71 := enter_of Try.func71 (by kernel_rfl) rfl
theorem en_vrUnit : EnterOk Try.prog 73 := enter_of Try.func73 (by kernel_rfl) rfl
theorem vnorm_con : Meth 16 (nrmF norm) := by
  refine flow_of (EnvOk.f ok_nil (enter_of Try.func44 (by kernel_rfl) rfl) norm_con) 60 _ _ (fun _ => true) _ ?_
  intro args g _ h bad
  obtain ⟨a, b, c, rfl, hg⟩ := nrmF_some h
  exact (vnorm_raw norm a b c bad).trans (congrArg some (hg bad).symm)
theorem rvnorm_con : RMeth 71 (nrmF norm) := by
  refine flow_of (EnvOk.f ok_nil en_rNorm rnorm_con) 60 _ _ (fun _ => true) _ ?_
  intro args g _ h bad
  obtain ⟨a, b, c, rfl, hg⟩ := nrmF_some h
  exact (rvnorm_raw norm a b c bad).trans (congrArg some (hg bad).symm)
theorem unit_con : Meth 69 (dirF unit) := by
  refine flow_of (EnvOk.f (EnvOk.f (EnvOk.t (EnvOk.t (EnvOk.t ok_nil (enter_of Try.func52 (by kernel_rfl) rfl)) (enter_of Try.func90 (by kernel_rfl) rfl)) (enter_of Try.func46 (by kernel_rfl) rfl)) (enter_of Try.func53 (by kernel_rfl) rfl) div_meth) en_vNorm vnorm_con) 80 _ _ (fun _ => true) _ ?_
  intro args g _ h bad
  obtain ⟨a, b, c, rfl, hg⟩ := dirF_some h
  exact (unit_raw norm div a b c bad).trans ((unitRaw_eq norm div a b c bad).trans (congrArg some (hg bad).symm))
theorem runit_con : RMeth 73 (dirF unit) := by
  refine flow_of (EnvOk.f (EnvOk.f (EnvOk.t (EnvOk.t ok_nil (enter_of Try.func54 (by kernel_rfl) rfl)) (enter_of Try.func92 (by kernel_rfl) rfl)) en_rDiv rdiv_con) en_vrNorm rvnorm_con) 80 _ _ (fun _ => true) _ ?_
  intro args g _ h bad
  obtain ⟨a, b, c, rfl, hg⟩ := dirF_some h
  exact (runit_raw norm div a b c bad).trans ((unitRaw_eq norm div a b c bad).trans (congrArg some (hg bad).symm))
#print axioms runit_con
end Go.Proofs.Ytgaanfacjjppcaa.Ve
