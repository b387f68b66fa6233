/- The reference's field in the Earth's axes, as the interpreter finds it. Conditions: none. -/
import Derived.Test.YtlkclpkpggapbaaFd6
import Derived.Test.YtlkclpkpggapbaaFd5
namespace Go.Proofs.Ytlkclpkpggapbaa.Fd
open Go Go.Proofs.Ytlkclpkpggapbaa.Ae Go.Proofs.Ytlkclpkpggapbaa.Fx Go.Proofs.Ytlkclpkpggapbaa.Lx Go.Proofs.Ytlkclpkpggapbaa.Tx Go.Proofs.Ytlkclpkpggapbaa.Te Go.Proofs.Ytlkclpkpggapbaa.Rx Go.Proofs.Ytlkclpkpggapbaa.Row Go.Proofs.Ytlkclpkpggapbaa.Ve
def lgF (lg : TmF) : List AV → Option (Bool → AV × Bool)
  | [.int .i64 c, .int .i64 s] => some fun bad => (.tup [arrOf fun k => ((lg c s bad).1 k).1, arrOf fun k => ((lg c s bad).1 k).2.1, arrOf fun k => ((lg c s bad).1 k).2.2], (lg c s bad).2)
  | _ => none
section
variable (ad su mu di : Op2) (pa nr : Op3) (nu : Op3p) (lg : TmF) (da : Op1)
def csn (u v : Int) (bad : Bool) : Nat → (Int × Int) × Bool
  | 0 => ((1099511627776, 0), bad)
  | m + 1 =>
    let p := csn u v bad m
    let d1 := mu p.1.1 u p.2
    let d2 := mu p.1.2 v d1.2
    let d := su d1.1 d2.1 d2.2
    let d3 := mu p.1.2 u d.2
    let d4 := mu p.1.1 v d3.2
    let d' := ad d3.1 d4.1 d4.2
    ((d.1, d'.1), d'.2)
def reStep (ratio tick : Int) (C : Nat → Int × Int) (T : MK → Tri) (k : MK) (e : Es) : Es :=
  let t := bif k.2 == 0 then mu e.t ratio e.bad else (e.t, e.bad)
  let cos := (C k.2.toNat).1
  let sin := (C k.2.toNat).2
  let x := T k
  let g := nu k.1 k.2 tick t.2
  let e1 := mu g.1.1 cos g.2
  let e2 := mu g.1.2 sin e1.2
  let ev := ad e1.1 e2.1 e2.2
  let o1 := mu g.1.1 sin ev.2
  let o2 := mu g.1.2 cos o1.2
  let od := su o1.1 o2.1 o2.2
  let a1 := mu ev.1 x.1 od.2
  let a2 := mu t.1 a1.1 a1.2
  let a3 := pa a2.1 (k.1 + 1) 1 a2.2
  let up := ad e.up a3.1 a3.2
  let b1 := mu ev.1 x.2.1 up.2
  let b2 := mu t.1 b1.1 b1.2
  let south := su e.south b2.1 b2.2
  bif k.2 == 0 then ⟨t.1, 0, 0, up.1, south.1, e.east, south.2⟩ else
  let c1 := mu od.1 x.2.2 south.2
  let c2 := mu t.1 c1.1 c1.2
  let c3 := pa c2.1 k.2 1 c2.2
  let east := ad e.east c3.1 c3.2
  ⟨t.1, 0, 0, up.1, south.1, east.1, east.2⟩
def reFold (ratio tick : Int) (C : Nat → Int × Int) (T : MK → Tri) : List MK → Es → Es
  | [], e => e
  | k :: l, e => reFold ratio tick C T l (reStep ad su mu pa nu ratio tick C T k e)
def reBody (tick r c s u v : Int) (bad : Bool) : Option (AV × Bool) :=
  let T := lg c s (csn ad su mu u v bad 6).2
  let ratio := di 7005208482886 r T.2
  let t0 := mu ratio.1 ratio.1 ratio.2
  eLast ad su mu c s u v (reFold ad su mu pa nu ratio.1 tick (fun m => (csn ad su mu u v bad m).1) T.1 keys27 ⟨t0.1, 0, 0, 0, 0, 0, t0.2⟩)
def rearthG (x y z t : Int) (bad : Bool) : Option (AV × Bool) :=
  let r := nr x y z bad
  let d := da t r.2
  bif (bif decide (r.1 < 6597069766656) then true else decide (r.1 > 10995116277760)) then some (V3.zero.av, true) else
  bif d.2 then some (V3.zero.av, d.2) else
  let w := nr x y 0 d.2
  let c := di z r.1 w.2
  let s := di w.1 r.1 c.2
  bif decide (w.1 ≥ 1048576) then
    let u := di x w.1 s.2
    let v := di y w.1 u.2
    reBody ad su mu di pa nu lg t r.1 c.1 s.1 u.1 v.1 v.2
  else reBody ad su mu di pa nu lg t r.1 c.1 s.1 1099511627776 0 s.2
def renvE : Env := [(29, m2 27 ad), (37, m2 27 su), (30, m2 27 mu), (27, m2 27 di), (26, m3 27 pa), (36, m3 27 nr), (10, .flow 27 (numF nu)), (38, .flow 27 (lgF lg)), (35, .flow 27 (nrmF nr)), (23, m1 27 da), (24, .text)]
theorem rearth_raw (x y z t : Int) (bad : Bool) : acall Try.prog (renvE ad su mu di pa nr nu lg da) 2000 12 [.ptr 0 0, V3.av ⟨x, y, z⟩, I t] [.cells [.bool bad] 27] (flowK 27) = rearthG ad su mu di pa nr nu lg da x y z t bad := by kernel_rfl
end
end Go.Proofs.Ytlkclpkpggapbaa.Fd
