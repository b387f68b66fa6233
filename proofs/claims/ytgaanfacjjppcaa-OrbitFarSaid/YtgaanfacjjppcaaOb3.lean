/- The reference's place, and the laws, as the interpreter finds them. Conditions: none. -/
import Derived.Test.YtgaanfacjjppcaaOb2
namespace Go.Proofs.Ytgaanfacjjppcaa.Orb
open Go Go.Proofs.Ytgaanfacjjppcaa.Ae Go.Proofs.Ytgaanfacjjppcaa.Fx Go.Proofs.Ytgaanfacjjppcaa.Lx Go.Proofs.Ytgaanfacjjppcaa.Tx Go.Proofs.Ytgaanfacjjppcaa.Te Go.Proofs.Ytgaanfacjjppcaa.Rx Go.Proofs.Ytgaanfacjjppcaa.Row Go.Proofs.Ytgaanfacjjppcaa.Ve

section
variable (ad su mu di mo ke : Op2) (sq si co da : Op1) (pa : Op3) (rt : El → Bool)
def rplcRaw (o : El) (tick : Int) (bad : Bool) : Option (AV × Bool) :=
  let m := midG ad su mu di mo ke sq si co da pa o tick bad
  let y1 := co m.x m.bad
  let y2 := su y1.1 o.e y1.2
  let u := mu o.a y2.1 y2.2
  let v1 := mu o.a m.r u.2
  let v2 := si m.x v1.2
  let v := mu v1.1 v2.1 v2.2
  let cp := co m.peri v.2
  let sp := si m.peri cp.2
  let a1 := mu u.1 cp.1 sp.2
  let a2 := mu v.1 sp.1 a1.2
  let a := su a1.1 a2.1 a2.2
  let b1 := mu u.1 sp.1 a.2
  let b2 := mu v.1 cp.1 b1.2
  let b := ad b1.1 b2.1 b2.2
  let cn := co m.node b.2
  let sn := si m.node cn.2
  let h1 := mu a.1 cn.1 sn.2
  let h2 := mu b.1 m.c h1.2
  let h3 := mu h2.1 sn.1 h2.2
  let x := su h1.1 h3.1 h3.2
  let g1 := mu a.1 sn.1 x.2
  let g2 := mu b.1 m.c g1.2
  let g3 := mu g2.1 cn.1 g2.2
  let y := ad g1.1 g3.1 g3.2
  let z := mu b.1 m.s y.2
  endV x.1 y.1 z.1 z.2
def rplaceRaw (ok : Int → Bool) (o : El) (tick : Int) (bad : Bool) : Option (AV × Bool) :=
  bif !(rt o) then some (V3.zero.av, true) else bif !(ok tick) then some (V3.zero.av, true) else bif bad then some (V3.zero.av, bad) else rplcRaw ad su mu di mo ke sq si co da pa o tick bad
def renvP8 : Env := [(41, m1 27 si), (43, m1 27 co), (39, m2 27 ad), (42, m2 27 su), (40, m2 27 mu), (55, m2 27 di), (38, m2 27 mo), (60, m1 27 sq), (61, m3 27 pa),
  (37, m1 27 da), (24, m2 27 ke), (22, .pure anyArgs (elF rt)), (51, .text), (54, .text)]
theorem rplace_raw (o : El) (tick : Int) (bad : Bool) : acall Try.prog (renvP8 ad su mu di mo ke sq si co da pa rt) 150 26 [.ptr 0 0, .agg o.av, I tick] [.cells [.bool bad] 27] (flowK 27) = rplaceRaw ad su mu di mo ke sq si co da pa rt rckT o tick bad := by kernel_rfl
end
end Go.Proofs.Ytgaanfacjjppcaa.Orb
