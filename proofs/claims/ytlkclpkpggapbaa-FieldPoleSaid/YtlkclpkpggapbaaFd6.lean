/- The field in the Earth's axes, as the interpreter finds it. Conditions: none. -/
import Derived.Test.YtlkclpkpggapbaaFd3
namespace Go.Proofs.Ytlkclpkpggapbaa.Fd
open Go Go.Proofs.Ytlkclpkpggapbaa.Ae Go.Proofs.Ytlkclpkpggapbaa.Fx Go.Proofs.Ytlkclpkpggapbaa.Lx Go.Proofs.Ytlkclpkpggapbaa.Tx Go.Proofs.Ytlkclpkpggapbaa.Te Go.Proofs.Ytlkclpkpggapbaa.Rx Go.Proofs.Ytlkclpkpggapbaa.Row Go.Proofs.Ytlkclpkpggapbaa.Ve

def keys28 : List MK := [(0, 0), (1, 0), (1, 1), (2, 0), (2, 1), (2, 2), (3, 0), (3, 1), (3, 2), (3, 3), (4, 0), (4, 1), (4, 2), (4, 3), (4, 4), (5, 0), (5, 1), (5, 2), (5, 3), (5, 4), (5, 5), (6, 0), (6, 1), (6, 2), (6, 3), (6, 4), (6, 5), (6, 6)]
def keys27 : List MK := [(1, 0), (1, 1), (2, 0), (2, 1), (2, 2), (3, 0), (3, 1), (3, 2), (3, 3), (4, 0), (4, 1), (4, 2), (4, 3), (4, 4), (5, 0), (5, 1), (5, 2), (5, 3), (5, 4), (5, 5), (6, 0), (6, 1), (6, 2), (6, 3), (6, 4), (6, 5), (6, 6)]
abbrev TmF := Int → Int → Bool → (MK → Tri) × Bool
def tabOf (f : MK → Tri) : List (MK × AV) := keys28.map fun k => (k, triAV (f k))
def tmSpec (tm : TmF) : List AV → List AB → Option (AV × List AB)
  | [.ptr j 0, .int .i64 c, .int .i64 s], H =>
    match H[j]? with
    | some (AB.cells [AV.bool y] t) => bif Nat.beq t 25 then some (.map H.length, H.set j (.cells [.bool (tm c s y).2] 25) ++ [.map true (tabOf (tm c s y).1)]) else none
    | _ => none
  | _, _ => none
structure Es where
  (t cos sin up south east : Int)
  bad : Bool
section
variable (ad su mu di : Op2) (pa nr : Op3) (nu : Op3p) (tm : TmF)
def eStep (u v ratio tick : Int) (T : MK → Tri) (k : MK) (e : Es) : Es :=
  let t := bif k.2 == 0 then mu e.t ratio e.bad else (e.t, e.bad)
  let cos := bif k.2 == 0 then 1099511627776 else e.cos
  let sin := bif k.2 == 0 then 0 else e.sin
  let x := T k
  let g := nu k.1 k.2 tick t.2
  let e1 := mu g.1.1 cos g.2
  let e2 := mu g.1.2 sin e1.2
  let ev := ad e1.1 e2.1 e2.2
  let o1 := mu g.1.1 sin ev.2
  let o2 := mu g.1.2 cos o1.2
  let od := su o1.1 o2.1 o2.2
  let a1 := mu ev.1 x.1 od.2
  let a2 := mu t.1 a1.1 a1.2
  let a3 := pa a2.1 (k.1 + 1) 1 a2.2
  let up := ad e.up a3.1 a3.2
  let b1 := mu ev.1 x.2.1 up.2
  let b2 := mu t.1 b1.1 b1.2
  let south := su e.south b2.1 b2.2
  let c1 := mu od.1 x.2.2 south.2
  let c2 := mu t.1 c1.1 c1.2
  let c3 := pa c2.1 k.2 1 c2.2
  let east := ad e.east c3.1 c3.2
  let d1 := mu cos u east.2
  let d2 := mu sin v d1.2
  let d := su d1.1 d2.1 d2.2
  let d3 := mu sin u d.2
  let d4 := mu cos v d3.2
  let d' := ad d3.1 d4.1 d4.2
  ⟨t.1, d.1, d'.1, up.1, south.1, east.1, d'.2⟩
def eFold (u v ratio tick : Int) (T : MK → Tri) : List MK → Es → Es
  | [], e => e
  | k :: l, e => eFold u v ratio tick T l (eStep ad su mu pa nu u v ratio tick T k e)
def endE (x y z : Int) (bad : Bool) : Option (AV × Bool) := bif bad then some (V3.zero.av, bad) else some (V3.av ⟨x, y, z⟩, bad)
def eLast (c s u v : Int) (e : Es) : Option (AV × Bool) :=
  let a1 := mu e.up s e.bad
  let a2 := mu e.south c a1.2
  let a := ad a1.1 a2.1 a2.2
  let x1 := mu a.1 u a.2
  let x2 := mu e.east v x1.2
  let x := su x1.1 x2.1 x2.2
  let y1 := mu a.1 v x.2
  let y2 := mu e.east u y1.2
  let y := ad y1.1 y2.1 y2.2
  let z1 := mu e.up c y.2
  let z2 := mu e.south s z1.2
  let z := su z1.1 z2.1 z2.2
  endE x.1 y.1 z.1 z.2
def eBody (tick r c s u v : Int) (bad : Bool) : Option (AV × Bool) :=
  let T := tm c s bad
  let ratio := di 7005208482886 r T.2
  let t0 := mu ratio.1 ratio.1 ratio.2
  eLast ad su mu c s u v (eFold ad su mu pa nu u v ratio.1 tick T.1 keys27 ⟨t0.1, 0, 0, 0, 0, 0, t0.2⟩)
def envE : Env := [(21, m2 25 ad), (34, m2 25 su), (22, m2 25 mu), (20, m2 25 di), (19, m3 25 pa), (32, m3 25 nr), (9, .flow 25 (numF nu)), (33, .eff anyArgs (tmSpec tm)), (15, .flow 25 (nrmF nr)), (31, .text), (18, .text)]
end
end Go.Proofs.Ytlkclpkpggapbaa.Fd
