/- Methods in the interpreter's list of callees. Conditions: none. -/
import Derived.Test.YtkghoaggicnmoaaRx6
import Derived.Test.YtkghoaggicnmoaaRow
namespace Go.Proofs.Ytkghoaggicnmoaa.Lx
open Go Go.Proofs.Ytkghoaggicnmoaa.Ae Go.Proofs.Ytkghoaggicnmoaa.Fx

abbrev m2 (T : TypeId) (f : Int → Int → Bool → Int × Bool) : Ae.Spec := .eff (fun _ => true) (flowSpec T (int2 f))
abbrev m3 (T : TypeId) (f : Int → Int → Int → Bool → Int × Bool) : Ae.Spec := .eff (fun _ => true) (flowSpec T (int3 f))
abbrev m1 (T : TypeId) (f : Int → Bool → Int × Bool) : Ae.Spec := .eff (fun _ => true) (flowSpec T (int1 f))
end Go.Proofs.Ytkghoaggicnmoaa.Lx
