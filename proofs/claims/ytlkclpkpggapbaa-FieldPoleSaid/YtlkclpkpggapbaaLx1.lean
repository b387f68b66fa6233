/- Methods in the interpreter's list of callees. Conditions: none. -/
import Derived.Test.YtlkclpkpggapbaaRx6
import Derived.Test.YtlkclpkpggapbaaRow
namespace Go.Proofs.Ytlkclpkpggapbaa.Lx
open Go Go.Proofs.Ytlkclpkpggapbaa.Ae Go.Proofs.Ytlkclpkpggapbaa.Fx

abbrev m2 (T : TypeId) (f : Int → Int → Bool → Int × Bool) : Ae.Spec := .flow T (int2 f)
abbrev m3 (T : TypeId) (f : Int → Int → Int → Bool → Int × Bool) : Ae.Spec := .flow T (int3 f)
abbrev m1 (T : TypeId) (f : Int → Bool → Int × Bool) : Ae.Spec := .flow T (int1 f)
theorem _root_.Go.Proofs.Ytlkclpkpggapbaa.Ae.EnvOk.f {P : Program} {env : Env} (t : EnvOk P env) {f : FuncId} (h : EnterOk P f) {T : TypeId} {F : List AV → Option (Bool → AV × Bool)} (k : EffOk P f (fun _ => true) (flowSpec T F)) : EnvOk P ((f, .flow T F) :: env) := EnvOk.cons (s := .flow T F) ⟨h, k⟩ t
end Go.Proofs.Ytlkclpkpggapbaa.Lx
