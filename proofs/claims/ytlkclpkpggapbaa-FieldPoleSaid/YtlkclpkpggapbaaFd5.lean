/- The reference's terms of the field, as the interpreter finds them. Conditions: none. -/
import Derived.Test.YtlkclpkpggapbaaFd3
namespace Go.Proofs.Ytlkclpkpggapbaa.Fd
open Go Go.Proofs.Ytlkclpkpggapbaa.Ae Go.Proofs.Ytlkclpkpggapbaa.Fx Go.Proofs.Ytlkclpkpggapbaa.Lx Go.Proofs.Ytlkclpkpggapbaa.Tx Go.Proofs.Ytlkclpkpggapbaa.Te Go.Proofs.Ytlkclpkpggapbaa.Rx Go.Proofs.Ytlkclpkpggapbaa.Row Go.Proofs.Ytlkclpkpggapbaa.Ve
section
variable (ad su mu di kk : Op2) (pa : Op3) (sq : Op1) (c s : Int)
def rrndG (n m : Int) (x y : Tri) (bad : Bool) : Tri × Bool :=
  let r := kk n m bad
  let k1 := kk (n - 1) m r.2
  let a := di k1.1 r.1 k1.2
  let p1 := pa 1099511627776 (2 * n - 1) 1 a.2
  let b := di p1.1 r.1 p1.2
  let t1 := mu c x.1 b.2
  let t2 := mu b.1 t1.1 t1.2
  let t3 := mu a.1 y.1 t2.2
  let P := su t2.1 t3.1 t3.2
  let u1 := mu c x.2.1 P.2
  let u2 := mu s x.1 u1.2
  let u3 := su u1.1 u2.1 u2.2
  let u4 := mu b.1 u3.1 u3.2
  let u5 := mu a.1 y.2.1 u4.2
  let D := su u4.1 u5.1 u5.2
  bif m == 0 then ((P.1, D.1, 0), D.2) else
  let v1 := mu c x.2.2 D.2
  let v2 := mu b.1 v1.1 v1.2
  let v3 := mu a.1 y.2.2 v2.2
  let Qq := su v2.1 v3.1 v3.2
  ((P.1, D.1, Qq.1), Qq.2)
def rstepT (k : MK) (T : TT) (bad : Bool) : Tri × Bool :=
  bif k.1 == k.2 then diaG ad mu pa sq c s k.1 (lookT (k.1 - 1, k.1 - 1) T) bad else rrndG su mu di kk pa c s k.1 k.2 (lookT (k.1 - 1, k.2) T) (lookT (k.1 - 2, k.2) T) bad
def rfoldT : List MK → TT → Bool → TT × Bool
  | [], T, bad => (T, bad)
  | k :: l, T, bad =>
    let r := rstepT ad su mu di kk pa sq c s k T bad
    rfoldT l (putT' k r.1 T) r.2
def legG (bad : Bool) : TT × Bool := rfoldT ad su mu di kk pa sq c s rounds [((0, 0), (1099511627776, 0, 0)), ((1, 1), (s, c, 1099511627776))] bad
def keys49 : List MK := (List.range 49).map fun i => (((i / 7 : Nat) : Int), ((i % 7 : Nat) : Int))
def arrOf (f : MK → Int) : AV := .agg (keys49.map fun k => I (f k))
def lgAV (T : TT) : AV := .tup [arrOf fun k => (lookT k T).1, arrOf fun k => (lookT k T).2.1, arrOf fun k => (lookT k T).2.2]
def envG : Env := [(64, m1 27 sq), (29, m2 27 ad), (37, m2 27 su), (30, m2 27 mu), (27, m2 27 di), (26, m3 27 pa), (63, m2 27 kk)]
theorem leg_raw (bad : Bool) : acall Try.prog (envG ad su mu di kk pa sq) 2000 38 [.ptr 0 0, I c, I s] [.cells [.bool bad] 27] (flowK 27) = some (lgAV (legG ad su mu di kk pa sq c s bad).1, (legG ad su mu di kk pa sq c s bad).2) := by kernel_rfl
end
end Go.Proofs.Ytlkclpkpggapbaa.Fd
