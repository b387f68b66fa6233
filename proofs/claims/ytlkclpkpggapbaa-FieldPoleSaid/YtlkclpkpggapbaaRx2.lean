/- The methods of the reference's flow, as the interpreter finds them. Conditions: none. -/
import Derived.Test.YtlkclpkpggapbaaRx1
import Derived.Test.YtlkclpkpggapbaaFx2
namespace Go.Proofs.Ytlkclpkpggapbaa.Rx
open Go Go.Proofs.Ytlkclpkpggapbaa.Ae Go.Proofs.Ytlkclpkpggapbaa.Fx

section
variable (s : Int → Int) (th tl : Int → Int → Int) (rq : Int → Int → Int → Int) (ro : Int → Int → Int → Bool)
def rsizeF : List AV → Option AV
  | [.int .i64 n] => some (.int .u64 (s n))
  | _ => none
def timesF : List AV → Option AV
  | [.int .u64 a, .int .u64 b] => some (w (th a b) (tl a b))
  | _ => none
def roundedF : List AV → Option AV
  | [.agg [.int .u64 h, .int .u64 l], .int .u64 b] => some (.tup [.int .u64 (rq h l b), .bool (ro h l b)])
  | _ => none
def rgive (q : Int) (below : Bool) (bad : Bool) : Option (AV × Bool) :=
  bif decide (q > 4611686018427387904) then some (.int .i64 0, true) else bif below then some (.int .i64 (wr .i64 (0 - wr .i64 q)), bad) else some (.int .i64 (wr .i64 q), bad)
def rratRaw (a b c : Int) (bad : Bool) : Option (AV × Bool) :=
  let h := th (s a) (s b)
  let l := tl (s a) (s b)
    bif !(ro h l (s c)) then some (.int .i64 0, true) else
    let n := bif decide (a < 0) then wr .i64 (0 + 1) else 0
    let n := bif decide (b < 0) then wr .i64 (n + 1) else n
    let n := bif decide (c < 0) then wr .i64 (n + 1) else n
    rgive (rq h l (s c)) (n.tmod 2 == 1) bad
def envS : Env := [(60, .pure anyA (rsizeF s)), (59, .pure anyA (timesF th tl)), (71, .pure anyA (roundedF rq ro)), (62, .text)]
theorem rrat_raw (a b c : Int) (bad : Bool) : acall Try.prog (envS s th tl rq ro) 60 50 [.ptr 0 0, .int .i64 a, .int .i64 b, .int .i64 c] [.cells [.bool bad] 27] (flowK 27) =
    rratRaw s th tl rq ro a b c bad := by kernel_rfl

variable (ab : Int → Int → Int → Int → Bool) (rr : Int → Int → Int → Bool → Int × Bool) (ad : Int → Int → Bool → Int × Bool)
def abF : List AV → Option AV
  | [.agg [.int .u64 h1, .int .u64 l1], .agg [.int .u64 h2, .int .u64 l2]] => some (.bool (ab h1 l1 h2 l2))
  | _ => none
def envN : Env := [(49, .text), (50, .eff (fun l => ratC l.tail) (flowSpec 27 (int3 rr))), (62, .text),
  (51, .calc numF), (60, .pure anyA (rsizeF s)), (59, .pure anyA (timesF th tl)), (61, .pure anyA (abF ab)), (58, .calc (waF waH)), (29, .eff (fun _ => true) (flowSpec 27 (int2 ad)))]
def rnum (n : Int) : Bool := bif decide (n ≥ -4611686018427387904) then decide (n ≤ 4611686018427387904) else false
def rtakeB : Bool → List Int → Bool
  | bad, [] => bad
  | bad, n :: l => rtakeB (bif !rnum n then true else bad) l
def ropRaw (bad : Bool) (l : List Int) (k : Bool → Option (AV × Bool)) : Option (AV × Bool) :=
  bif !(!rtakeB bad l) then some (.int .i64 0, rtakeB bad l) else k (rtakeB bad l)
theorem rmul_raw (a b : Int) (bad : Bool) : acall Try.prog (envN s th tl ab rr ad) 60 30 [.ptr 0 0, .int .i64 a, .int .i64 b] [.cells [.bool bad] 27] (flowK 27) =
    ropRaw bad [a, b] (rrRaw rr a b 1099511627776) := by kernel_rfl
theorem rdiv_raw (a b : Int) (bad : Bool) : acall Try.prog (envN s th tl ab rr ad) 60 27 [.ptr 0 0, .int .i64 a, .int .i64 b] [.cells [.bool bad] 27] (flowK 27) =
    ropRaw bad [a, b] (rrRaw rr a 1099511627776 b) := by kernel_rfl
theorem rpart_raw (a b c : Int) (bad : Bool) : acall Try.prog (envN s th tl ab rr ad) 60 26 [.ptr 0 0, .int .i64 a, .int .i64 b, .int .i64 c] [.cells [.bool bad] 27] (flowK 27) =
    ropRaw bad [a, b, c] (rrRaw rr a b c) := by kernel_rfl
theorem rsub_raw (a b : Int) (bad : Bool) : acall Try.prog (envN s th tl ab rr ad) 60 37 [.ptr 0 0, .int .i64 a, .int .i64 b] [.cells [.bool bad] 27] (flowK 27) =
    ropRaw bad [a, b] fun bad => some (.int .i64 (ad a (wr .i64 (0 - b)) bad).1, (ad a (wr .i64 (0 - b)) bad).2) := by kernel_rfl
theorem rmod_raw (a m : Int) (bad : Bool) : acall Try.prog (envN s th tl ab rr ad) 60 67 [.ptr 0 0, .int .i64 a, .int .i64 m] [.cells [.bool bad] 27] (flowK 27) =
    ropRaw bad [a, m] fun bad => bif decide (m ≤ 0) then some (.int .i64 0, true) else bif m == 0 then none else some (.int .i64 (bif decide (a.tmod m < 0) then wr .i64 (a.tmod m + m) else a.tmod m), bad) := by kernel_rfl
end
end Go.Proofs.Ytlkclpkpggapbaa.Rx
