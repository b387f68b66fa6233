/- The field in the Earth's axes, as the interpreter finds it. Conditions: none. -/
import Derived.Test.YtlkclpkpggapbaaFd6
namespace Go.Proofs.Ytlkclpkpggapbaa.Fd
open Go Go.Proofs.Ytlkclpkpggapbaa.Ae Go.Proofs.Ytlkclpkpggapbaa.Fx Go.Proofs.Ytlkclpkpggapbaa.Lx Go.Proofs.Ytlkclpkpggapbaa.Tx Go.Proofs.Ytlkclpkpggapbaa.Te Go.Proofs.Ytlkclpkpggapbaa.Rx Go.Proofs.Ytlkclpkpggapbaa.Row Go.Proofs.Ytlkclpkpggapbaa.Ve
section
variable (ad su mu di : Op2) (pa nr : Op3) (nu : Op3p) (tm : TmF)
def earthG (x y z t : Int) (bad : Bool) : Option (AV × Bool) :=
  let r := nr x y z bad
  bif (bif (bif !(ckT t) then true else decide (r.1 < 6597069766656)) then true else decide (r.1 > 10995116277760)) then some (V3.zero.av, true) else
  bif r.2 then some (V3.zero.av, r.2) else
  let w := nr x y 0 r.2
  let c := di z r.1 w.2
  let s := di w.1 r.1 c.2
  bif decide (w.1 ≥ 1048576) then
    let u := di x w.1 s.2
    let v := di y w.1 u.2
    eBody ad su mu di pa nu tm t r.1 c.1 s.1 u.1 v.1 v.2
  else eBody ad su mu di pa nu tm t r.1 c.1 s.1 1099511627776 0 s.2
theorem earth_raw (x y z t : Int) (bad : Bool) : acall Try.prog (envE ad su mu di pa nr nu tm) 2000 11 [.ptr 0 0, V3.av ⟨x, y, z⟩, I t] [.cells [.bool bad] 25] (flowK 25) = earthG ad su mu di pa nr nu tm x y z t bad := by kernel_rfl
end
end Go.Proofs.Ytlkclpkpggapbaa.Fd
