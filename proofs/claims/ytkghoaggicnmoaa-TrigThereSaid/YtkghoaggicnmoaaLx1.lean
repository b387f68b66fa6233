/- Methods in the interpreter's list of callees. Conditions: none. -/
import Derived.Test.YtkghoaggicnmoaaRx6
import Derived.Test.YtkghoaggicnmoaaRow
namespace Go.Proofs.Ytkghoaggicnmoaa.Lx
open Go Go.Proofs.Ytkghoaggicnmoaa.Ae Go.Proofs.Ytkghoaggicnmoaa.Fx

abbrev m2 (T : TypeId) (f : Int → Int → Bool → Int × Bool) : Ae.Spec := .flow T (int2 f)
abbrev m3 (T : TypeId) (f : Int → Int → Int → Bool → Int × Bool) : Ae.Spec := .flow T (int3 f)
abbrev m1 (T : TypeId) (f : Int → Bool → Int × Bool) : Ae.Spec := .flow T (int1 f)
theorem _root_.Go.Proofs.Ytkghoaggicnmoaa.Ae.EnvOk.f {P : Program} {env : Env} (t : EnvOk P env) {f : FuncId} (h : EnterOk P f) {T : TypeId} {F : List AV → Option (Bool → AV × Bool)} (k : EffOk P f (fun _ => true) (flowSpec T F)) : EnvOk P ((f, .flow T F) :: env) := EnvOk.cons (s := .flow T F) ⟨h, k⟩ t
end Go.Proofs.Ytkghoaggicnmoaa.Lx
