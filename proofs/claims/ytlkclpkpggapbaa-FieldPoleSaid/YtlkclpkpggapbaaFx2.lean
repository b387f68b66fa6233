/- The contracts of the methods of a flow, as the interpreter finds them. Conditions: none. -/
import Derived.Test.YtlkclpkpggapbaaFx1d
namespace Go.Proofs.Ytlkclpkpggapbaa.Fx
open Go Go.Proofs.Ytlkclpkpggapbaa.Ae

section
variable (sz sb : Int → Int) (mh : Int → Int → Int) (qt rm : Int → Int → Int → Int)

/-! ### ratio -/
def giveRaw (n : Int) (bad : Bool) : Option (AV × Bool) :=
  bif (bif decide (n > 4611686018427387904) then true else decide (n < -4611686018427387904)) then some (.int .i64 0, true) else some (.int .i64 n, bad)
def ratioRaw (a b c : Int) (bad : Bool) : Option (AV × Bool) :=
  let x := sz a
  let y := sz b
  let z := sz c
  let h := mh x y
  let l := wr .u64 (x * y)
  bif (bif z == 0 then true else decide (h ≥ z)) then some (.int .i64 0, true) else
  bif divC [.int .u64 h, .int .u64 l, .int .u64 z] then
    let n := qt h l z
    let left := rm h l z
    bif decide (n > 4611686018427387904) then some (.int .i64 0, true) else
    let n' := bif decide (left ≥ wr .u64 (z - left)) then wr .u64 (n + 1) else n
    bif bxor .u64 (bxor .u64 (sb a) (sb b)) (sb c) == 1 then giveRaw (wr .i64 (0 - wr .i64 n')) bad else giveRaw (wr .i64 n') bad
  else none
def envQ : Env := [(52, .pure anyArgs (sizeF sz sb)), (53, .pure anyArgs (mulF mh)), (70, .pure divC (divF qt rm)), (47, .text)]
theorem ratio_raw (a b c : Int) (bad : Bool) : acall Try.prog (envQ sz sb mh qt rm) 60 46 [.ptr 0 0, .int .i64 a, .int .i64 b, .int .i64 c] [.cells [.bool bad] 25] (flowK 25) =
    ratioRaw sz sb mh qt rm a b c bad := by kernel_rfl

/-! ### The methods -/
variable (rr : Int → Int → Int → Bool → Int × Bool) (ad : Int → Int → Bool → Int × Bool) (rt : Int → Int → Int) (asu aca : Int → Int → Int → Int)
def int3 (rr : Int → Int → Int → Bool → Int × Bool) : List AV → Option (Bool → AV × Bool)
  | [.int .i64 a, .int .i64 b, .int .i64 c] => some fun bad => (.int .i64 (rr a b c bad).1, (rr a b c bad).2)
  | _ => none
def int2 (ad : Int → Int → Bool → Int × Bool) : List AV → Option (Bool → AV × Bool)
  | [.int .i64 a, .int .i64 b] => some fun bad => (.int .i64 (ad a b bad).1, (ad a b bad).2)
  | _ => none
def int1 (ad : Int → Bool → Int × Bool) : List AV → Option (Bool → AV × Bool)
  | [.int .i64 a] => some fun bad => (.int .i64 (ad a bad).1, (ad a bad).2)
  | _ => none
def rng (n : Int) : Bool := decide (-9223372036854775808 ≤ n) && decide (n < 9223372036854775808)
def ratC : List AV → Bool
  | [.int .i64 a, .int .i64 b, .int .i64 c] => rng a && rng b && rng c
  | _ => false
def rootF (rt : Int → Int → Int) : List AV → Option AV
  | [.int .u64 a, .int .u64 b] => some (.int .u64 (rt a b))
  | _ => none
def addC : List AV → Bool
  | [.int .u64 x, .int .u64 y, .int .u64 c] => decide (0 ≤ x) && decide (0 ≤ y) && decide (0 ≤ c) && decide (c ≤ 1)
  | _ => false
def addF (asu aca : Int → Int → Int → Int) : List AV → Option AV
  | [.int .u64 x, .int .u64 y, .int .u64 c] => some (.tup [.int .u64 (asu x y c), .int .u64 (aca x y c)])
  | _ => none
def envM : Env := [(45, .text), (46, .eff (fun l => ratC l.tail) (flowSpec 25 (int3 rr))), (47, .text), (18, .text),
  (55, .pure anyArgs (rootF rt)), (52, .pure anyArgs (sizeF sz sb)), (53, .pure anyArgs (mulF mh)), (54, .ext addC (addF asu aca)), (21, .eff (fun _ => true) (flowSpec 25 (int2 ad)))]
/-- Is it still well, behind these numbers? -/
def takeB : Bool → List Int → Bool
  | bad, [] => bad
  | bad, n :: l => takeB (bif (bif bad then true else decide (n > 4611686018427387904)) then true else decide (n < -4611686018427387904)) l
def opRaw (bad : Bool) (l : List Int) (k : Bool → Option (AV × Bool)) : Option (AV × Bool) :=
  bif !(!takeB bad l) then some (.int .i64 0, takeB bad l) else k (takeB bad l)
def rrRaw (a b c : Int) (bad : Bool) : Option (AV × Bool) :=
  bif ratC [.int .i64 a, .int .i64 b, .int .i64 c] then some (.int .i64 (rr a b c bad).1, (rr a b c bad).2) else none
theorem mul_raw (a b : Int) (bad : Bool) : acall Try.prog (envM sz sb mh rr ad rt asu aca) 60 22 [.ptr 0 0, .int .i64 a, .int .i64 b] [.cells [.bool bad] 25] (flowK 25) =
    opRaw bad [a, b] (rrRaw rr a b 1099511627776) := by kernel_rfl
theorem div_raw2 (a b : Int) (bad : Bool) : acall Try.prog (envM sz sb mh rr ad rt asu aca) 60 20 [.ptr 0 0, .int .i64 a, .int .i64 b] [.cells [.bool bad] 25] (flowK 25) =
    opRaw bad [a, b] (rrRaw rr a 1099511627776 b) := by kernel_rfl
theorem part_raw (a b c : Int) (bad : Bool) : acall Try.prog (envM sz sb mh rr ad rt asu aca) 60 19 [.ptr 0 0, .int .i64 a, .int .i64 b, .int .i64 c] [.cells [.bool bad] 25] (flowK 25) =
    opRaw bad [a, b, c] (rrRaw rr a b c) := by kernel_rfl
theorem add_raw (a b : Int) (bad : Bool) : acall Try.prog (envM sz sb mh rr ad rt asu aca) 60 21 [.ptr 0 0, .int .i64 a, .int .i64 b] [.cells [.bool bad] 25] (flowK 25) =
    opRaw bad [a, b] fun bad => bif (bif (bif !(!(bif a == 4611686018427387904 then b == 4611686018427387904 else false)) then true else decide (wr .i64 (a + b) > 4611686018427387904)) then true else decide (wr .i64 (a + b) < -4611686018427387904)) then some (.int .i64 0, true) else some (.int .i64 (wr .i64 (a + b)), bad) := by kernel_rfl
def normStep (n hi lo : Int) (k : Int → Int → Option (AV × Bool)) : Option (AV × Bool) :=
  let h := mh (sz n) (sz n)
  let l := wr .u64 (sz n * sz n)
  bif addC [.int .u64 lo, .int .u64 l, .int .u64 0] then
    bif addC [.int .u64 hi, .int .u64 h, .int .u64 (aca lo l 0)] then k (asu hi h (aca lo l 0)) (asu lo l 0) else none
  else none
theorem norm_raw (a b c : Int) (bad : Bool) : acall Try.prog (envM sz sb mh rr ad rt asu aca) 60 32 [.ptr 0 0, .int .i64 a, .int .i64 b, .int .i64 c] [.cells [.bool bad] 25] (flowK 25) =
    opRaw bad [a, b, c] fun bad =>
    normStep sz mh asu aca a 0 0 fun hi lo => normStep sz mh asu aca b hi lo fun hi lo => normStep sz mh asu aca c hi lo fun hi lo =>
    bif (bif (bif !(decide (rt hi lo ≤ 4611686018427387904)) then true else decide (wr .i64 (rt hi lo) > 4611686018427387904)) then true else decide (wr .i64 (rt hi lo) < -4611686018427387904)) then some (.int .i64 0, true) else some (.int .i64 (wr .i64 (rt hi lo)), bad) := by kernel_rfl
theorem sub_raw (a b : Int) (bad : Bool) : acall Try.prog (envM sz sb mh rr ad rt asu aca) 60 34 [.ptr 0 0, .int .i64 a, .int .i64 b] [.cells [.bool bad] 25] (flowK 25) =
    opRaw bad [a, b] fun bad => some (.int .i64 (ad a (wr .i64 (0 - b)) bad).1, (ad a (wr .i64 (0 - b)) bad).2) := by kernel_rfl
theorem sqrt_raw (a : Int) (bad : Bool) : acall Try.prog (envM sz sb mh rr ad rt asu aca) 60 57 [.ptr 0 0, .int .i64 a] [.cells [.bool bad] 25] (flowK 25) =
    bif (bif !(!takeB bad [a]) then true else decide (a < 0)) then some (.int .i64 0, true) else giveRaw (wr .i64 (rt (wr .u64 a / 16777216) (wr .u64 (wr .u64 a * 1099511627776)))) (takeB bad [a]) := by kernel_rfl
theorem mod_raw (a m : Int) (bad : Bool) : acall Try.prog (envM sz sb mh rr ad rt asu aca) 60 65 [.ptr 0 0, .int .i64 a, .int .i64 m] [.cells [.bool bad] 25] (flowK 25) =
    bif (bif !(!takeB bad [a, m]) then true else decide (m ≤ 0)) then some (.int .i64 0, true) else
    bif m == 0 then none else bif m == 0 then none else some (.int .i64 ((wr .i64 (a.tmod m + m)).tmod m), takeB bad [a, m]) := by kernel_rfl
end
end Go.Proofs.Ytlkclpkpggapbaa.Fx
