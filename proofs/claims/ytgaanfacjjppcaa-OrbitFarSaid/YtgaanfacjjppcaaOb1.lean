/- The functions of package orbit and of its reference, as the interpreter finds them. Conditions: none. -/
import Derived.Test.YtgaanfacjjppcaaOr1
import Derived.Test.YtgaanfacjjppcaaVe1
namespace Go.Proofs.Ytgaanfacjjppcaa.Orb
open Go Go.Proofs.Ytgaanfacjjppcaa.Ae Go.Proofs.Ytgaanfacjjppcaa.Fx Go.Proofs.Ytgaanfacjjppcaa.Lx Go.Proofs.Ytgaanfacjjppcaa.Tx Go.Proofs.Ytgaanfacjjppcaa.Te Go.Proofs.Ytgaanfacjjppcaa.Rx Go.Proofs.Ytgaanfacjjppcaa.Row Go.Proofs.Ytgaanfacjjppcaa.Ve

abbrev Op33 := Int → Int → Int → Bool → (Int × Int) × Bool
def tup2F (ab : Op33) : List AV → Option (Bool → AV × Bool)
  | [.int .i64 u, .int .i64 v, .int .i64 a] => some fun bad => (.tup [I (ab u v a bad).1.1, I (ab u v a bad).1.2], (ab u v a bad).2)
  | _ => none
section
variable (ad su mu di mo ke : Op2) (sq si co da : Op1) (pa : Op3) (ab : Op33) (rt : El → Bool)
def aboG (u v a : Int) (bad : Bool) : (Int × Int) × Bool :=
  let c := co a bad
  let s := si a c.2
  let p := mu u c.1 s.2
  let q := mu v s.1 p.2
  let x := su p.1 q.1 q.2
  let r := mu u s.1 x.2
  let t := mu v c.1 r.2
  let y := ad r.1 t.1 t.2
  ((x.1, y.1), y.2)
theorem about_raw (u v a : Int) (bad : Bool) : acall Try.prog [(29, m1 25 si), (30, m1 25 co), (36, m2 25 ad), (27, m2 25 su), (28, m2 25 mu)] 60 59 [.ptr 0 0, I u, I v, I a] [.cells [.bool bad] 25] (flowK 25) =
    some (.tup [I (aboG ad su mu si co u v a bad).1.1, I (aboG ad su mu si co u v a bad).1.2], (aboG ad su mu si co u v a bad).2) := by kernel_rfl
def daysG (ok : Int → Bool) (t : Int) (bad : Bool) : Option (AV × Bool) :=
  bif !(ok t) then some (I (pa 1099511627776 t 86400000 true).1, (pa 1099511627776 t 86400000 true).2) else some (I (pa 1099511627776 t 86400000 bad).1, (pa 1099511627776 t 86400000 bad).2)
theorem days_raw (u : Int) (bad : Bool) : acall Try.prog [(49, .text), (52, .text), (57, m3 25 pa)] 60 34 [.ptr 0 0, I u] [.cells [.bool bad] 25] (flowK 25) = daysG pa ckT u bad := by kernel_rfl
def rckT (t : Int) : Bool := an (decide (t ≥ 0)) (decide (t ≤ 157766400000))
theorem rdays_raw (u : Int) (bad : Bool) : acall Try.prog [(51, .text), (54, .text), (61, m3 27 pa)] 60 37 [.ptr 0 0, I u] [.cells [.bool bad] 27] (flowK 27) = daysG pa rckT u bad := by kernel_rfl
def kepS (m e : Int) (x : Int × Bool) : Int × Bool :=
  let a1 := si x.1 x.2
  let a2 := mu e a1.1 a1.2
  let a3 := su x.1 a2.1 a2.2
  let o := su a3.1 m a3.2
  let c := co x.1 o.2
  let b1 := mu e c.1 c.2
  let b2 := su 1099511627776 b1.1 b1.2
  let q := di o.1 b2.1 b2.2
  su x.1 q.1 q.2
def kepG (m e : Int) (bad : Bool) : Int × Bool :=
  let S := kepS su mu di si co m e
  S (S (S (S (S (S (ad m 0 bad))))))
def kepRaw (m e : Int) (bad : Bool) : Option (AV × Bool) :=
  let G := kepG ad su mu di si co m e
  bif (bif decide (e < 0) then true else decide (e > 109951162777)) then some (I (G true).1, (G true).2) else some (I (G bad).1, (G bad).2)
def envK8 : Env := [(29, m1 25 si), (30, m1 25 co), (36, m2 25 ad), (27, m2 25 su), (28, m2 25 mu), (53, m2 25 di), (52, .text)]
theorem kepler_raw (m e : Int) (bad : Bool) : acall Try.prog (envK8 ad su mu di si co) 100 23 [.ptr 0 0, I m, I e] [.cells [.bool bad] 25] (flowK 25) = kepRaw ad su mu di si co m e bad := by kernel_rfl
def renvK8 : Env := [(41, m1 27 si), (43, m1 27 co), (39, m2 27 ad), (42, m2 27 su), (40, m2 27 mu), (55, m2 27 di), (54, .text)]
theorem rkepler_raw (m e : Int) (bad : Bool) : acall Try.prog (renvK8 ad su mu di si co) 100 24 [.ptr 0 0, I m, I e] [.cells [.bool bad] 27] (flowK 27) = kepRaw ad su mu di si co m e bad := by kernel_rfl
end
end Go.Proofs.Ytgaanfacjjppcaa.Orb
