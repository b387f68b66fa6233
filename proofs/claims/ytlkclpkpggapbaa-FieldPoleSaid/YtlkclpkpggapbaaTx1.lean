/- The functions of package trig and of its reference, as the interpreter finds them. Conditions: none. -/
import Derived.Test.YtlkclpkpggapbaaLx1
namespace Go.Proofs.Ytlkclpkpggapbaa.Tx
open Go Go.Proofs.Ytlkclpkpggapbaa.Ae Go.Proofs.Ytlkclpkpggapbaa.Fx Go.Proofs.Ytlkclpkpggapbaa.Lx

abbrev Op1 := Int → Bool → Int × Bool
abbrev Op2 := Int → Int → Bool → Int × Bool
abbrev Op3 := Int → Int → Int → Bool → Int × Bool

section
variable (ad su mu di mo : Op2) (sq : Op1) (pa : Op3)

/-! ### The program's -/
def serL (u first : Int) : Nat → Int × Bool → Int × Bool
  | 0, s => s
  | k + 1, s =>
    let n : Int := ((2 * (k + 1) : Nat) : Int)
    let s1 := mu u s.1 s.2
    let s2 := pa s1.1 1 (wr .i64 (wr .i64 (wr .i64 (n + first) - 1) * wr .i64 (n + first))) s1.2
    serL u first k (su 1099511627776 s2.1 s2.2)
def serRaw (t first : Int) (bad : Bool) : Option (AV × Bool) :=
  let u := mu t t bad
  let v := serL su mu pa u.1 first 10 (1099511627776, u.2)
  bif first == 1 then some (.int .i64 (mu t v.1 v.2).1, (mu t v.1 v.2).2) else some (.int .i64 v.1, v.2)
def envS : Env := [(22, m2 25 mu), (34, m2 25 su), (19, m3 25 pa)]
theorem ser_raw (t first : Int) (bad : Bool) : acall Try.prog (envS su mu pa) 60 72 [.ptr 0 0, .int .i64 t, .int .i64 first] [.cells [.bool bad] 25] (flowK 25) = serRaw su mu pa t first bad := by kernel_rfl
end
section
variable (mo se : Op2)
def turnRaw (a q : Int) (bad : Bool) : Option (AV × Bool) :=
  let r := mo a 6908435304716 bad
  bif r.2 then some (.int .i64 0, r.2) else
  let k := (wr .i64 (wr .i64 (r.1.tdiv 1727108826179) + q)).tmod 4
  let v := se (r.1.tmod 1727108826179) (wr .i64 (1 - k.tmod 2)) r.2
  bif decide (k > 1) then some (.int .i64 (wr .i64 (0 - v.1)), v.2) else some (.int .i64 v.1, v.2)
def envU : Env := [(65, m2 25 mo), (72, m2 25 se)]
theorem turn_raw (a q : Int) (bad : Bool) : acall Try.prog (envU mo se) 60 66 [.ptr 0 0, .int .i64 a, .int .i64 q] [.cells [.bool bad] 25] (flowK 25) = turnRaw mo se a q bad := by kernel_rfl
end
section
variable (tu : Op2)
def envV : Env := [(66, m2 25 tu)]
theorem sin_raw (a : Int) (bad : Bool) : acall Try.prog (envV tu) 60 41 [.ptr 0 0, .int .i64 a] [.cells [.bool bad] 25] (flowK 25) = some (.int .i64 (tu a 0 bad).1, (tu a 0 bad).2) := by kernel_rfl
theorem cos_raw (a : Int) (bad : Bool) : acall Try.prog (envV tu) 60 40 [.ptr 0 0, .int .i64 a] [.cells [.bool bad] 25] (flowK 25) = some (.int .i64 (tu a 1 bad).1, (tu a 1 bad).2) := by kernel_rfl
end

/-! ### The reference's -/
section
variable (su mu : Op2) (pa : Op3)
def rserL (u first : Int) : Nat → Int × Bool → Int × Bool
  | 0, s => s
  | k + 1, s =>
    let n : Int := ((2 * (k + 1) : Nat) : Int)
    let s1 := mu u s.1 s.2
    let s2 := pa s1.1 1 ((n + first - 1) * (n + first)) s1.2
    rserL u first k (su 1099511627776 s2.1 s2.2)
def renvS : Env := [(30, m2 27 mu), (37, m2 27 su), (26, m3 27 pa)]
theorem rs_raw (t : Int) (bad : Bool) : acall Try.prog (renvS su mu pa) 60 69 [.ptr 0 0, .int .i64 t] [.cells [.bool bad] 27] (flowK 27) =
    let v := rserL su mu pa (mu t t bad).1 1 10 (1099511627776, (mu t t bad).2)
    some (.int .i64 (mu t v.1 v.2).1, (mu t v.1 v.2).2) := by kernel_rfl
theorem rc_raw (t : Int) (bad : Bool) : acall Try.prog (renvS su mu pa) 60 68 [.ptr 0 0, .int .i64 t] [.cells [.bool bad] 27] (flowK 27) =
    let v := rserL su mu pa (mu t t bad).1 0 10 (1099511627776, (mu t t bad).2)
    some (.int .i64 v.1, v.2) := by kernel_rfl
end
section
variable (mo : Op2) (s c : Op1)
def rcase (k : Int) (p q r t : Option (AV × Bool)) : Option (AV × Bool) := bif k == 0 then p else bif k == 1 then q else bif k == 2 then r else t
def rend (v : Int × Bool) (neg : Bool) : Option (AV × Bool) := some (.int .i64 (bif neg then wr .i64 (0 - v.1) else v.1), v.2)
def rsinRaw (a : Int) (bad : Bool) : Option (AV × Bool) :=
  let r := mo a 6908435304716 bad
  bif r.2 then some (.int .i64 0, r.2) else
  let k := wr .i64 (r.1.tdiv 1727108826179)
  let t := wr .i64 (r.1 - wr .i64 (k * 1727108826179))
  rcase k (rend (s t r.2) false) (rend (c t r.2) false) (rend (s t r.2) true) (rend (c t r.2) true)
def rcosRaw (a : Int) (bad : Bool) : Option (AV × Bool) :=
  let r := mo a 6908435304716 bad
  bif r.2 then some (.int .i64 0, r.2) else
  let k := wr .i64 (r.1.tdiv 1727108826179)
  let t := wr .i64 (r.1 - wr .i64 (k * 1727108826179))
  rcase k (rend (c t r.2) false) (rend (s t r.2) true) (rend (c t r.2) true) (rend (s t r.2) false)
def renvU : Env := [(67, m2 27 mo), (69, m1 27 s), (68, m1 27 c)]
theorem rsin_raw (a : Int) (bad : Bool) : acall Try.prog (renvU mo s c) 60 44 [.ptr 0 0, .int .i64 a] [.cells [.bool bad] 27] (flowK 27) = rsinRaw mo s c a bad := by kernel_rfl
theorem rcos_raw (a : Int) (bad : Bool) : acall Try.prog (renvU mo s c) 60 43 [.ptr 0 0, .int .i64 a] [.cells [.bool bad] 27] (flowK 27) = rcosRaw mo s c a bad := by kernel_rfl
end
end Go.Proofs.Ytlkclpkpggapbaa.Tx
