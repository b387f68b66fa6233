/- The terms of the field, as the interpreter finds them. Conditions: none. -/
import Derived.Test.YtlkclpkpggapbaaFd2
import Derived.Test.YtlkclpkpggapbaaAeC
namespace Go.Proofs.Ytlkclpkpggapbaa.Fd
open Go Go.Proofs.Ytlkclpkpggapbaa.Ae Go.Proofs.Ytlkclpkpggapbaa.Fx Go.Proofs.Ytlkclpkpggapbaa.Lx Go.Proofs.Ytlkclpkpggapbaa.Tx Go.Proofs.Ytlkclpkpggapbaa.Te Go.Proofs.Ytlkclpkpggapbaa.Rx Go.Proofs.Ytlkclpkpggapbaa.Row Go.Proofs.Ytlkclpkpggapbaa.Ve

abbrev Tri := Int × Int × Int
abbrev TT := List (MK × Tri)
def lookT (k : MK) : TT → Tri
  | [] => (0, 0, 0)
  | (k', v) :: l => bif keqB k k' then v else lookT k l
section
variable (ad su mu di rt : Op2) (pa : Op3) (sq : Op1) (c s : Int)
/-- One round: the entry of a degree and an order below it. -/
def rndG (n m : Int) (x y : Tri) (bad : Bool) : Tri × Bool :=
  let r1 := rt (n - 1) m bad
  let r2 := rt n m r1.2
  let a := di r1.1 r2.1 r2.2
  let p1 := pa 1099511627776 (2 * n - 1) 1 a.2
  let r3 := rt n m p1.2
  let b := di p1.1 r3.1 r3.2
  let t1 := mu c x.1 b.2
  let t2 := mu b.1 t1.1 t1.2
  let t3 := mu a.1 y.1 t2.2
  let P := su t2.1 t3.1 t3.2
  let u1 := mu c x.2.1 P.2
  let u2 := mu s x.1 u1.2
  let u3 := su u1.1 u2.1 u2.2
  let u4 := mu b.1 u3.1 u3.2
  let u5 := mu a.1 y.2.1 u4.2
  let D := su u4.1 u5.1 u5.2
  let v1 := mu c x.2.2 D.2
  let v2 := mu b.1 v1.1 v1.2
  let v3 := mu a.1 y.2.2 v2.2
  let Qq := su v2.1 v3.1 v3.2
  ((P.1, D.1, Qq.1), Qq.2)
/-- The entry of a degree and as great an order. -/
def diaG (n : Int) (x : Tri) (bad : Bool) : Tri × Bool :=
  let p0 := pa 1099511627776 (2 * n - 1) (2 * n) bad
  let j := sq p0.1 p0.2
  let t1 := mu s x.1 j.2
  let P := mu j.1 t1.1 t1.2
  let u1 := mu s x.2.1 P.2
  let u2 := mu c x.1 u1.2
  let u3 := ad u1.1 u2.1 u2.2
  let D := mu j.1 u3.1 u3.2
  let v1 := mu s x.2.2 D.2
  let Qq := mu j.1 v1.1 v1.2
  ((P.1, D.1, Qq.1), Qq.2)
/-- All rounds: (n, m) with m below n, or n and n. -/
def rounds : List MK := [(1, 0), (2, 0), (2, 1), (2, 2), (3, 0), (3, 1), (3, 2), (3, 3), (4, 0), (4, 1), (4, 2), (4, 3), (4, 4), (5, 0), (5, 1), (5, 2), (5, 3), (5, 4), (5, 5), (6, 0), (6, 1), (6, 2), (6, 3), (6, 4), (6, 5), (6, 6)]
def stepT (k : MK) (T : TT) (bad : Bool) : Tri × Bool :=
  bif k.1 == k.2 then diaG ad mu pa sq c s k.1 (lookT (k.1 - 1, k.1 - 1) T) bad else rndG su mu di rt pa c s k.1 k.2 (lookT (k.1 - 1, k.2) T) (lookT (k.1 - 2, k.2) T) bad
def putT' (k : MK) (v : Tri) : TT → TT
  | [] => [(k, v)]
  | e :: l => bif kltB k e.1 then (k, v) :: e :: l else e :: putT' k v l
def foldT : List MK → TT → Bool → TT × Bool
  | [], T, bad => (T, bad)
  | k :: l, T, bad =>
    let r := stepT ad su mu di rt pa sq c s k T bad
    foldT l (putT' k r.1 T) r.2
def termsG (bad : Bool) : TT × Bool := foldT ad su mu di rt pa sq c s rounds [((0, 0), (1099511627776, 0, 0)), ((1, 1), (s, c, 1099511627776))] bad
def KT (v : AV) (H : List AB) : Option (List (MK × AV) × Bool) := match v with
  | .map i => match H[i]?, H[0]? with
    | some (AB.map true es), some (AB.cells [AV.bool b] t) => bif Nat.beq t 25 then some (es, b) else none
    | _, _ => none
  | _ => none
def envT : Env := [(57, m1 25 sq), (21, m2 25 ad), (34, m2 25 su), (22, m2 25 mu), (20, m2 25 di), (19, m3 25 pa), (56, .clo 25 (int2 rt))]
def triAV (v : Tri) : AV := .agg [I v.1, I v.2.1, I v.2.2]
def ttAV (T : TT) : List (MK × AV) := T.map fun e => (e.1, triAV e.2)
end
end Go.Proofs.Ytlkclpkpggapbaa.Fd
