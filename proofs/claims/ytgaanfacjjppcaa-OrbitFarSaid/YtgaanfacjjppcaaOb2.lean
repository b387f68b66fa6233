/- The place, as the interpreter finds it. Conditions: none. -/
import Derived.Test.YtgaanfacjjppcaaOb1
namespace Go.Proofs.Ytgaanfacjjppcaa.Orb
open Go Go.Proofs.Ytgaanfacjjppcaa.Ae Go.Proofs.Ytgaanfacjjppcaa.Fx Go.Proofs.Ytgaanfacjjppcaa.Lx Go.Proofs.Ytgaanfacjjppcaa.Tx Go.Proofs.Ytgaanfacjjppcaa.Te Go.Proofs.Ytgaanfacjjppcaa.Rx Go.Proofs.Ytgaanfacjjppcaa.Row Go.Proofs.Ytgaanfacjjppcaa.Ve

section
variable (ad su mu di mo ke : Op2) (sq si co da : Op1) (pa : Op3) (ab : Op33) (rt : El → Bool)
/-- What the ellipse, its plane and its turning come to: n, r, s, c, node, peri, and Kepler's angle. -/
structure Mid where
  (n r s c node peri x : Int)
  bad : Bool
def midG (o : El) (tick : Int) (bad : Bool) : Mid :=
  let D1 := da tick bad
  let D2 := da o.t D1.2
  let d := su D1.1 D2.1 D2.2
  let q1 := di 3271636820114455529 o.a d.2
  let q2 := sq q1.1 q1.2
  let n := di q2.1 o.a q2.2
  let e1 := mu o.e o.e n.2
  let e2 := su 1099511627776 e1.1 e1.2
  let r := sq e2.1 e2.2
  let k1 := mu r.1 r.1 r.2
  let k2 := mu o.a k1.1 k1.2
  let k3 := di 7012835795048 k2.1 k2.2
  let k4 := mu k3.1 k3.1 k3.2
  let k5 := mu 1785540935 k4.1 k4.2
  let k := mu k5.1 n.1 k5.2
  let s := si o.i k.2
  let c := co o.i s.2
  let t := mu s.1 s.1 c.2
  let m1 := mu k.1 c.1 t.2
  let m2 := mu m1.1 d.1 m1.2
  let node := su o.node m2.1 m2.2
  let p1 := pa t.1 5 2 node.2
  let p2 := su 2199023255552 p1.1 p1.2
  let p3 := mu k.1 p2.1 p2.2
  let p4 := mu p3.1 d.1 p3.2
  let peri := ad o.peri p4.1 p4.2
  let w1 := mu k.1 r.1 peri.2
  let w2 := pa t.1 3 2 w1.2
  let w3 := su 1099511627776 w2.1 w2.2
  let w := mu w1.1 w3.1 w3.2
  let x1 := ad n.1 w.1 w.2
  let x2 := mu x1.1 d.1 x1.2
  let x3 := ad o.m x2.1 x2.2
  let x4 := mo x3.1 6908435304716 x3.2
  let x := ke x4.1 o.e x4.2
  ⟨n.1, r.1, s.1, c.1, node.1, peri.1, x.1, x.2⟩
def endV (x y z : Int) (bad : Bool) : Option (AV × Bool) := bif bad then some (V3.zero.av, bad) else some (V3.av ⟨x, y, z⟩, bad)
def plcRaw (o : El) (tick : Int) (bad : Bool) : Option (AV × Bool) :=
  let m := midG ad su mu di mo ke sq si co da pa o tick bad
  let y1 := co m.x m.bad
  let y2 := su y1.1 o.e y1.2
  let u := mu o.a y2.1 y2.2
  let v1 := mu o.a m.r u.2
  let v2 := si m.x v1.2
  let v := mu v1.1 v2.1 v2.2
  let p := ab u.1 v.1 m.peri v.2
  let h := mu p.1.2 m.c p.2
  let q := ab p.1.1 h.1 m.node h.2
  let z := mu p.1.2 m.s q.2
  endV q.1.1 q.1.2 z.1 z.2
def placeRaw (ok : Int → Bool) (o : El) (tick : Int) (bad : Bool) : Option (AV × Bool) :=
  bif !(rt o) then some (V3.zero.av, true) else bif !(ok tick) then some (V3.zero.av, true) else bif bad then some (V3.zero.av, bad) else plcRaw ad su mu di mo ke sq si co da pa ab o tick bad
def envP8 : Env := [(29, m1 25 si), (30, m1 25 co), (36, m2 25 ad), (27, m2 25 su), (28, m2 25 mu), (53, m2 25 di), (58, m2 25 mo), (56, m1 25 sq), (57, m3 25 pa),
  (34, m1 25 da), (23, m2 25 ke), (59, .flow 25 (tup2F ab)), (21, .pure anyArgs (elF rt)), (49, .text), (52, .text)]
theorem place_raw (o : El) (tick : Int) (bad : Bool) : acall Try.prog (envP8 ad su mu di mo ke sq si co da pa ab rt) 150 25 [.ptr 0 0, .agg o.av, I tick] [.cells [.bool bad] 25] (flowK 25) = placeRaw ad su mu di mo ke sq si co da pa ab rt ckT o tick bad := by kernel_rfl
end
end Go.Proofs.Ytgaanfacjjppcaa.Orb
