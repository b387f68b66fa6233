/- The terms of the field, as the interpreter finds them. Conditions: none. -/
import Derived.Test.YtdojnnlhaiennaaGreatKn
namespace Go.Proofs.YtdojnnlhaiennaaGreat.Fd
open Go Go.Proofs.YtdojnnlhaiennaaGreat.Ae Go.Proofs.YtdojnnlhaiennaaGreat.Fx Go.Proofs.YtdojnnlhaiennaaGreat.Lx Go.Proofs.YtdojnnlhaiennaaGreat.Tx Go.Proofs.YtdojnnlhaiennaaGreat.Te Go.Proofs.YtdojnnlhaiennaaGreat.Rx Go.Proofs.YtdojnnlhaiennaaGreat.Row Go.Proofs.YtdojnnlhaiennaaGreat.Ve
section
variable (ad su mu di rt : Op2) (pa : Op3) (sq : Op1)
theorem terms_raw (c s : Int) (bad : Bool) : acall Tryz.prog (envT ad su mu di rt pa sq) 2000 181 [.ptr 0 0, I c, I s] [.cells [.bool bad] 112] KT = some (ttAV (termsG ad su mu di rt pa sq c s bad).1, (termsG ad su mu di rt pa sq c s bad).2) := by kernel_rfl
end
end Go.Proofs.YtdojnnlhaiennaaGreat.Fd

