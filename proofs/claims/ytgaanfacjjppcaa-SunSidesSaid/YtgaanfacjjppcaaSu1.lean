/- Package sun and its reference, and what they use of vec, as the interpreter finds them. Conditions: none. -/
import Derived.Test.YtgaanfacjjppcaaOb4
namespace Go.Proofs.Ytgaanfacjjppcaa.Su
open Go Go.Proofs.Ytgaanfacjjppcaa.Ae Go.Proofs.Ytgaanfacjjppcaa.Fx Go.Proofs.Ytgaanfacjjppcaa.Lx Go.Proofs.Ytgaanfacjjppcaa.Tx Go.Proofs.Ytgaanfacjjppcaa.Te Go.Proofs.Ytgaanfacjjppcaa.Rx Go.Proofs.Ytgaanfacjjppcaa.Row Go.Proofs.Ytgaanfacjjppcaa.Ve Go.Proofs.Ytgaanfacjjppcaa.Orb

section
variable (ad su mu di mo : Op2) (sq si co da : Op1) (pa nr : Op3)
/-! ### Of vec -/
def dotG (a b : V3) (bad : Bool) : Int × Bool :=
  let m0 := mu a.x b.x bad
  let m1 := mu a.y b.y m0.2
  let s := ad m0.1 m1.1 m1.2
  let m2 := mu a.z b.z s.2
  ad s.1 m2.1 m2.2
def scaG (a : V3) (k : Int) (bad : Bool) : V3 × Bool :=
  let x := mu a.x k bad
  let y := mu a.y k x.2
  let z := mu a.z k y.2
  endP x.1 y.1 z.1 z.2
def subG (a b : V3) (bad : Bool) : V3 × Bool :=
  let x := su a.x b.x bad
  let y := su a.y b.y x.2
  let z := su a.z b.z y.2
  endP x.1 y.1 z.1 z.2
def scaRaw (a : V3) (k : Int) (bad : Bool) : Option (AV × Bool) :=
  let x := mu a.x k bad
  let y := mu a.y k x.2
  let z := mu a.z k y.2
  endV x.1 y.1 z.1 z.2
def subRaw (a b : V3) (bad : Bool) : Option (AV × Bool) :=
  let x := su a.x b.x bad
  let y := su a.y b.y x.2
  let z := su a.z b.z y.2
  endV x.1 y.1 z.1 z.2
theorem dot_raw (a b : V3) (bad : Bool) : acall Try.prog [(36, m2 25 ad), (28, m2 25 mu)] 60 17 [.ptr 0 0, a.av, b.av] [.cells [.bool bad] 25] (flowK 25) = some (I (dotG ad mu a b bad).1, (dotG ad mu a b bad).2) := by kernel_rfl
theorem sca_raw (a : V3) (k : Int) (bad : Bool) : acall Try.prog [(28, m2 25 mu), (46, .text), (47, .text)] 80 19 [.ptr 0 0, a.av, I k] [.cells [.bool bad] 25] (flowK 25) = scaRaw mu a k bad := by kernel_rfl
theorem sub_raw (a b : V3) (bad : Bool) : acall Try.prog [(27, m2 25 su), (46, .text), (84, .text)] 80 45 [.ptr 0 0, a.av, b.av] [.cells [.bool bad] 25] (flowK 25) = subRaw su a b bad := by kernel_rfl
/-! ### The direction -/
structure Ang where
  (d g q : Int)
  bad : Bool
def angG (tick : Int) (bad : Bool) : Ang :=
  let d := da tick bad
  let g1 := mu 18913766030 d.1 d.2
  let g2 := ad 6870645337657 g1.1 g1.2
  let g := mo g2.1 6908435304716 g2.2
  let q1 := mu 18914669500 d.1 g.2
  let q2 := ad 5399914965875 q1.1 q1.2
  let q := mo q2.1 6908435304716 q2.2
  ⟨d.1, g.1, q.1, q.2⟩
def lonG (x : Ang) : Int × Bool :=
  let s1 := si x.g x.bad
  let a1 := mu 36749037801 s1.1 s1.2
  let a2 := ad x.q a1.1 a1.2
  let s2 := si (wr .i64 (2 * x.g)) a2.2
  let b1 := mu 383801961 s2.1 s2.2
  ad a2.1 b1.1 b1.2
def rlonG (x : Ang) : Int × Bool :=
  let s1 := si x.g x.bad
  let a1 := mu 36749037801 s1.1 s1.2
  let s2 := si (wr .i64 (2 * x.g)) a1.2
  let b1 := mu 383801961 s2.1 s2.2
  let a2 := ad x.q a1.1 b1.2
  ad a2.1 b1.1 a2.2
def tipRaw (d : Int) (l : Int × Bool) : Option (AV × Bool) :=
  let e1 := mu 6908 d l.2
  let e := su 449733620800 e1.1 e1.2
  let s := si l.1 e.2
  let c1 := co l.1 s.2
  let c2 := co e.1 c1.2
  let y := mu c2.1 s.1 c2.2
  let s3 := si e.1 y.2
  let z := mu s3.1 s.1 s3.2
  endV c1.1 y.1 z.1 z.2
def dirRaw (tick : Int) (bad : Bool) : Option (AV × Bool) :=
  let x := angG ad mu mo da tick bad
  tipRaw su mu si co x.d (lonG ad mu si x)
def rdirRaw (tick : Int) (bad : Bool) : Option (AV × Bool) :=
  let x := angG ad mu mo da tick bad
  tipRaw su mu si co x.d (rlonG ad mu si x)
theorem dir_raw (tick : Int) (bad : Bool) : acall Try.prog [(29, m1 25 si), (30, m1 25 co), (36, m2 25 ad), (27, m2 25 su), (28, m2 25 mu), (58, m2 25 mo), (34, m1 25 da), (35, .text)] 100 14 [.ptr 0 0, I tick] [.cells [.bool bad] 25] (flowK 25) = dirRaw ad su mu mo si co da tick bad := by kernel_rfl
theorem rdir_raw (tick : Int) (bad : Bool) : acall Try.prog [(41, m1 27 si), (43, m1 27 co), (39, m2 27 ad), (42, m2 27 su), (40, m2 27 mu), (38, m2 27 mo), (37, m1 27 da)] 100 15 [.ptr 0 0, I tick] [.cells [.bool bad] 27] (flowK 27) = rdirRaw ad su mu mo si co da tick bad := by kernel_rfl
end
end Go.Proofs.Ytgaanfacjjppcaa.Su
