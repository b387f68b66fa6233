/- Three numbers, and their length. Conditions: none. -/
import Derived.Test.YtlkclpkpggapbaaPk
namespace Go.Proofs.Ytlkclpkpggapbaa.Ve
open Go Go.Proofs.Ytlkclpkpggapbaa.Ae Go.Proofs.Ytlkclpkpggapbaa.Fx Go.Proofs.Ytlkclpkpggapbaa.Lx Go.Proofs.Ytlkclpkpggapbaa.Tx Go.Proofs.Ytlkclpkpggapbaa.Rx Go.Proofs.Ytlkclpkpggapbaa.Te

structure V3 where
  x : Int
  y : Int
  z : Int
def V3.av (v : V3) : AV := .agg [I v.x, I v.y, I v.z]
abbrev V3.zero : V3 := ⟨0, 0, 0⟩
/-- A length's shape. -/
def nrmF (nr : Op3) : List AV → Option (Bool → AV × Bool)
  | [.agg [.int .i64 a, .int .i64 b, .int .i64 c]] => some fun bad => (.int .i64 (nr a b c bad).1, (nr a b c bad).2)
  | _ => none
theorem nrmF_some {nr : Op3} {args : List AV} {g : Bool → AV × Bool} (h : nrmF nr args = some g) : ∃ a b c, args = [.agg [I a, I b, I c]] ∧ ∀ bad, g bad = (.int .i64 (nr a b c bad).1, (nr a b c bad).2) := by
  unfold nrmF at h
  split at h <;> cases h
  exact ⟨_, _, _, rfl, fun _ => rfl⟩
section
variable (nr : Op3)
theorem vnorm_raw (a b c : Int) (bad : Bool) : acall Try.prog [(32, m3 25 nr)] 60 15 [.ptr 0 0, .agg [I a, I b, I c]] [.cells [.bool bad] 25] (flowK 25) = some (I (nr a b c bad).1, (nr a b c bad).2) := by kernel_rfl
theorem rvnorm_raw (a b c : Int) (bad : Bool) : acall Try.prog [(36, m3 27 nr)] 60 35 [.ptr 0 0, .agg [I a, I b, I c]] [.cells [.bool bad] 27] (flowK 27) = some (I (nr a b c bad).1, (nr a b c bad).2) := by kernel_rfl
end
theorem en_vNorm : EnterOk Try.prog 15 := enter_of Try.func15 (by kernel_rfl) rfl
theorem en_vrNorm : EnterOk Try.prog 35 := enter_of Try.func35 (by kernel_rfl) rfl
theorem vnorm_con : Meth 15 (nrmF norm) := by
  refine flow_of (EnvOk.f ok_nil (enter_of Try.func32 (by kernel_rfl) rfl) norm_con) 60 _ _ (fun _ => true) _ ?_
  intro args g _ h bad
  obtain ⟨a, b, c, rfl, hg⟩ := nrmF_some h
  exact (vnorm_raw norm a b c bad).trans (congrArg some (hg bad).symm)
theorem rvnorm_con : RMeth 35 (nrmF norm) := by
  refine flow_of (EnvOk.f ok_nil en_rNorm rnorm_con) 60 _ _ (fun _ => true) _ ?_
  intro args g _ h bad
  obtain ⟨a, b, c, rfl, hg⟩ := nrmF_some h
  exact (rvnorm_raw norm a b c bad).trans (congrArg some (hg bad).symm)
#print axioms rvnorm_con
end Go.Proofs.Ytlkclpkpggapbaa.Ve
