/- The angle of a point, as the interpreter finds it. Conditions: none. -/
import Derived.Test.YtkghoaggicnmoaaTx1
namespace Go.Proofs.Ytkghoaggicnmoaa.Tx
open Go Go.Proofs.Ytkghoaggicnmoaa.Ae Go.Proofs.Ytkghoaggicnmoaa.Fx Go.Proofs.Ytkghoaggicnmoaa.Lx

section
variable (ad su mu di : Op2) (sq : Op1) (pa : Op3)
/-- The half of an angle, by its tangent. -/
def halfT (s : Int × Bool) : Int × Bool :=
  let m := mu s.1 s.1 s.2
  let p := ad 1099511627776 m.1 m.2
  let q := sq p.1 p.2
  let d := ad 1099511627776 q.1 q.2
  di s.1 d.1 d.2
def atL (u : Int) : Nat → Int × Bool → Int × Bool
  | 0, s => s
  | k + 1, s =>
    let p := pa 1099511627776 1 ((2 * k + 1 : Nat) : Int) s.2
    let m := mu u s.1 p.2
    atL u k (su p.1 m.1 m.2)
/-- What is done with a tangent: the angle, four times. -/
def atT (t0 : Int × Bool) : Int × Bool :=
  let t := halfT ad mu di sq (halfT ad mu di sq t0)
  let u := mu t.1 t.1 t.2
  let v := atL su mu pa u.1 13 (0, u.2)
  let z := mu t.1 v.1 v.2
  (wr .i64 (4 * z.1), z.2)
def maxI (x y : Int) : Int := if y > x then y else x
def minI (x y : Int) : Int := if y < x then y else x
def absI (x : Int) : Int := maxI x (wr .i64 (0 - x))
def atEnd (z : Int × Bool) (y x : Int) (c : Bool) : Option (AV × Bool) :=
  let z1 := bif c then wr .i64 (1727108826179 - z.1) else z.1
  let z2 := bif decide (x < 0) then wr .i64 (3454217652358 - z1) else z1
  bif decide (y < 0) then some (.int .i64 (wr .i64 (0 - z2)), z.2) else some (.int .i64 z2, z.2)
def atRaw (y x : Int) (bad : Bool) : Option (AV × Bool) :=
  let b1 := (ad x 0 (ad y 0 bad).2).2
  bif (bif b1 then true else bor .i64 x y == 0) then some (.int .i64 0, b1) else
  let a := absI x
  let b := absI y
  atEnd (atT ad su mu di sq pa (di (minI a b) (maxI a b) b1)) y x (decide (b > a))
def envX : Env := [(21, m2 25 mu), (31, m2 25 su), (29, m2 25 ad), (23, m2 25 di), (25, m3 25 pa), (33, m1 25 sq)]
theorem at_raw (y x : Int) (bad : Bool) : acall Try.prog (envX ad su mu di sq pa) 60 44 [.ptr 0 0, .int .i64 y, .int .i64 x] [.cells [.bool bad] 25] (flowK 25) = atRaw ad su mu di sq pa y x bad := by kernel_rfl
end
section
variable (mu su : Op2) (sq : Op1) (at2 : Op2)
def asRaw (s : Int) (bad : Bool) : Option (AV × Bool) :=
  bif (bif decide (s > 1099511627776) then true else decide (s < -1099511627776)) then some (.int .i64 0, true) else
  bif bad then some (.int .i64 0, bad) else
  let m := mu s s bad
  let d := su 1099511627776 m.1 m.2
  let q := sq d.1 d.2
  some (.int .i64 (at2 s q.1 q.2).1, (at2 s q.1 q.2).2)
def envY : Env := [(21, m2 25 mu), (31, m2 25 su), (33, m1 25 sq), (43, .text), (44, m2 25 at2)]
theorem as_raw (s : Int) (bad : Bool) : acall Try.prog (envY mu su sq at2) 60 46 [.ptr 0 0, .int .i64 s] [.cells [.bool bad] 25] (flowK 25) = asRaw mu su sq at2 s bad := by kernel_rfl
def renvY : Env := [(22, m2 27 mu), (32, m2 27 su), (34, m1 27 sq), (68, .text), (45, m2 27 at2)]
theorem ras_raw (s : Int) (bad : Bool) : acall Try.prog (renvY mu su sq at2) 60 47 [.ptr 0 0, .int .i64 s] [.cells [.bool bad] 27] (flowK 27) = asRaw mu su sq at2 s bad := by kernel_rfl
end
section
variable (asn : Op1)
def acRaw (c : Int) (bad : Bool) : Option (AV × Bool) :=
  let a := asn c bad
  bif a.2 then some (.int .i64 0, a.2) else some (.int .i64 (wr .i64 (1727108826179 - a.1)), a.2)
def envZ : Env := [(46, m1 25 asn)]
theorem ac_raw (c : Int) (bad : Bool) : acall Try.prog (envZ asn) 60 48 [.ptr 0 0, .int .i64 c] [.cells [.bool bad] 25] (flowK 25) = acRaw asn c bad := by kernel_rfl
def renvZ : Env := [(47, m1 27 asn)]
theorem rac_raw (c : Int) (bad : Bool) : acall Try.prog (renvZ asn) 60 49 [.ptr 0 0, .int .i64 c] [.cells [.bool bad] 27] (flowK 27) = acRaw asn c bad := by kernel_rfl
end
section
variable (ad su mu di : Op2) (sq : Op1) (pa : Op3)
def rabs (x : Int) : Int := bif decide (x < 0) then wr .i64 (0 - x) else x
def ratEnd (z : Int × Bool) (y x : Int) (c : Bool) : Option (AV × Bool) :=
  let z1 := bif c then wr .i64 (1727108826179 - z.1) else z.1
  let z2 := bif decide (x < 0) then wr .i64 (3454217652358 - z1) else z1
  some (.int .i64 (bif decide (y < 0) then wr .i64 (0 - z2) else z2), z.2)
def ratRaw (y x : Int) (bad : Bool) : Option (AV × Bool) :=
  let b1 := (ad x 0 (ad y 0 bad).2).2
  bif (bif b1 then true else bif x == 0 then y == 0 else false) then some (.int .i64 0, b1) else
  let a := rabs x
  let b := rabs y
  bif decide (b > a) then ratEnd (atT ad su mu di sq pa (di a b b1)) y x (decide (b > a)) else ratEnd (atT ad su mu di sq pa (di b a b1)) y x (decide (b > a))
def renvX : Env := [(22, m2 27 mu), (32, m2 27 su), (30, m2 27 ad), (24, m2 27 di), (26, m3 27 pa), (34, m1 27 sq)]
theorem rat_raw (y x : Int) (bad : Bool) : acall Try.prog (renvX ad su mu di sq pa) 60 45 [.ptr 0 0, .int .i64 y, .int .i64 x] [.cells [.bool bad] 27] (flowK 27) = ratRaw ad su mu di sq pa y x bad := by kernel_rfl
end
end Go.Proofs.Ytkghoaggicnmoaa.Tx
