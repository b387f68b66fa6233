/- The contracts of the reference's words of 128 bits, as the interpreter finds them. Conditions: none. -/
import Derived.Test.YtlkclpkpggapbaaProg
import Derived.Test.YtlkclpkpggapbaaAe7
import Derived.Test.YtlkclpkpggapbaaFxN
namespace Go.Proofs.Ytlkclpkpggapbaa.Rx
open Go Go.Proofs.Ytlkclpkpggapbaa.Ae Go.Proofs.Ytlkclpkpggapbaa.Fx

abbrev anyA : List AV → Bool := fun _ => true
def w (h l : Int) : AV := .agg [.int .u64 h, .int .u64 l]

/-! ### add -/
def waH (h1 l1 h2 l2 : Int) : Int := bif decide (wr .u64 (l1 + l2) < l1) then wr .u64 (wr .u64 (h1 + h2) + 1) else wr .u64 (h1 + h2)
def waF (wa : Int → Int → Int → Int → Int) : List AV → Option AV
  | [.agg [.int .u64 h1, .int .u64 l1], .agg [.int .u64 h2, .int .u64 l2]] => some (w (wa h1 l1 h2 l2) (wr .u64 (l1 + l2)))
  | _ => none
theorem wa_ok : PureOk Try.prog 58 anyA (waF waH) := by
  refine pure_of (EnvOk.nil _) 40 _ _ _ ?_
  rintro args v - h
  unfold waF at h
  split at h <;> cases h
  exact ⟨rfl, rfl, by kernel_rfl⟩

/-! ### Times -/
section
variable (wa : Int → Int → Int → Int → Int)
def timesRaw : Nat → Int → Int → Int → Int → Int → Option AV
  | 0, sh, sl, _, _, b => bif decide (b > 0) then none else some (w sh sl)
  | k + 1, sh, sl, th, tl, b =>
    bif decide (b > 0) then
      let c := b.tmod 2 == 1
      timesRaw k (bif c then wa sh sl th tl else sh) (bif c then wr .u64 (sl + tl) else sl) (wa th tl th tl) (wr .u64 (tl + tl)) (wr .u64 (b.tdiv 2))
    else some (w sh sl)
def envT : Env := [(58, .calc (waF wa))]
theorem times_raw (a b : Int) : acall Try.prog (envT wa) 75 59 [.int .u64 a, .int .u64 b] [] (fun v _ => bif v.noPtr then some v else none) = timesRaw wa 65 0 0 0 a b := by kernel_rfl
end

/-! ### Over -/
def overRaw (b lo : Int) : Nat → Int → Int → Int × Int
  | 0, left, q => (left, q)
  | n + 1, left, q =>
    let top := left / 9223372036854775808
    let l1 := bor .u64 (wr .u64 (left * 2)) (band .u64 (lo / p2 (min n 64)) 1)
    let q1 := wr .u64 (q * 2)
    let c := bif top == 1 then true else decide (l1 ≥ b)
    overRaw b lo n (bif c then wr .u64 (l1 - b) else l1) (bif c then wr .u64 (q1 + 1) else q1)
theorem over_raw (h l b : Int) : acall Try.prog [] 90 74 [w h l, .int .u64 b] [] (fun v _ => bif v.noPtr then some v else none) =
    bif (bif b == 0 then true else decide (h ≥ b)) then some (.tup [.int .u64 0, .int .u64 0, .bool false]) else
    some (.tup [.int .u64 (overRaw b l 64 h 0).2, .int .u64 (overRaw b l 64 h 0).1, .bool true]) := by kernel_rfl

/-! ### Rounded, size, number, above -/
section
variable (ok : Int → Int → Int → Bool) (qo lo : Int → Int → Int → Int)
def overF : List AV → Option AV
  | [.agg [.int .u64 h, .int .u64 l], .int .u64 b] => some (.tup [.int .u64 (qo h l b), .int .u64 (lo h l b), .bool (ok h l b)])
  | _ => none
def envO : Env := [(74, .pure anyA (overF ok qo lo))]
theorem rounded_raw (h l b : Int) : acall Try.prog (envO ok qo lo) 40 71 [w h l, .int .u64 b] [] (fun v _ => bif v.noPtr then some v else none) =
    bif (bif !(ok h l b) then true else decide (qo h l b > 4611686018427387904)) then some (.tup [.int .u64 0, .bool false]) else
    some (.tup [.int .u64 (bif decide (lo h l b ≥ wr .u64 (b - lo h l b)) then wr .u64 (qo h l b + 1) else qo h l b), .bool true]) := by kernel_rfl
end
theorem rsize_raw (n : Int) : acall Try.prog [] 30 60 [.int .i64 n] [] (fun v _ => bif v.noPtr then some v else none) =
    bif decide (n < 0) then some (.int .u64 (wr .u64 (wr .i64 (0 - n)))) else some (.int .u64 (wr .u64 n)) := by kernel_rfl
def numF : List AV → Option AV
  | [.int .i64 n] => some (.bool (bif decide (n ≥ -4611686018427387904) then decide (n ≤ 4611686018427387904) else false))
  | _ => none
theorem number_ok : PureOk Try.prog 51 anyA numF := by
  refine pure_of (EnvOk.nil _) 40 _ _ _ ?_
  rintro args v - h
  unfold numF at h
  split at h <;> cases h
  exact ⟨rfl, rfl, by kernel_rfl⟩
def aboveF : List AV → Option AV
  | [.agg [.int .u64 h1, .int .u64 l1], .agg [.int .u64 h2, .int .u64 l2]] => some (.bool (bif decide (h1 > h2) then true else bif h1 == h2 then decide (l1 > l2) else false))
  | _ => none
theorem above_ok : PureOk Try.prog 61 anyA aboveF := by
  refine pure_of (EnvOk.nil _) 40 _ _ _ ?_
  rintro args v - h
  unfold aboveF at h
  split at h <;> cases h
  exact ⟨rfl, rfl, by kernel_rfl⟩

end Go.Proofs.Ytlkclpkpggapbaa.Rx
