/- The terms of the field, as the interpreter finds them. Conditions: none. -/
import Derived.Test.YtcagaaaibhifdaaJe
namespace Go.Proofs.Ytcagaaaibhifdaa.Fd
open Go Go.Proofs.Ytcagaaaibhifdaa.Ae Go.Proofs.Ytcagaaaibhifdaa.Fx Go.Proofs.Ytcagaaaibhifdaa.Lx Go.Proofs.Ytcagaaaibhifdaa.Tx Go.Proofs.Ytcagaaaibhifdaa.Te Go.Proofs.Ytcagaaaibhifdaa.Rx Go.Proofs.Ytcagaaaibhifdaa.Row Go.Proofs.Ytcagaaaibhifdaa.Ve
section
variable (ad su mu di rt : Op2) (pa : Op3) (sq : Op1)
theorem terms_raw (c s : Int) (bad : Bool) : acall Try.prog (envT ad su mu di rt pa sq) 2000 33 [.ptr 0 0, I c, I s] [.cells [.bool bad] 25] KT = some (ttAV (termsG ad su mu di rt pa sq c s bad).1, (termsG ad su mu di rt pa sq c s bad).2) := by kernel_rfl
end
end Go.Proofs.Ytcagaaaibhifdaa.Fd

