/- The contract of math/bits.Div64. Conditions: the quotient is a word. -/
import Derived.Test.YtdojnnlhaiennaaGreatKe
namespace Go.Proofs.YtdojnnlhaiennaaGreat.Fx
open Go Go.Proofs.YtdojnnlhaiennaaGreat.Ae

/-! ### Div64 -/
def lzC : List AV → Bool
  | [.int .u64 x] => in64 x
  | _ => false
def envD (lz : Int → Int) : Env := [(201, .pure lzC (lzF lz))]
theorem div_raw (lz : Int → Int) (hi lo y : Int) : acall Tryz.prog (envD lz) 29 177 [.int .u64 hi, .int .u64 lo, .int .u64 y] [] (fun v _ => bif v.noPtr then some v else none) =
    divRaw lz 6 2 hi lo y fun q r => some (.tup [.int .u64 q, .int .u64 r]) := by kernel_rfl

/-- Where the quotient is a word. -/
def divC : List AV → Bool
  | [.int .u64 hi, .int .u64 lo, .int .u64 y] => decide (0 ≤ hi) && decide (hi < y) && decide (y < 18446744073709551616) && in64 lo
  | _ => false
def divF (qt rm : Int → Int → Int → Int) : List AV → Option AV
  | [.int .u64 hi, .int .u64 lo, .int .u64 y] => some (.tup [.int .u64 (qt hi lo y), .int .u64 (rm hi lo y)])
  | _ => none
def qtI (hi lo y : Int) : Int := (hi * 18446744073709551616 + lo) / y
def rmI (hi lo y : Int) : Int := (hi * 18446744073709551616 + lo) % y
theorem div_ok (hE : EnvOk Tryz.prog (envD lzI)) : PureOk Tryz.prog 177 divC (divF qtI rmI) := by
  refine pure_of hE 29 _ _ _ ?_
  intro args v hC h
  unfold divF at h
  split at h <;> cases h
  rename_i hi lo y
  simp only [divC, in64, Bool.and_eq_true, decide_eq_true_eq] at hC
  obtain ⟨⟨⟨c1, c2⟩, c3⟩, c4, c5⟩ := hC
  refine ⟨rfl, rfl, ?_⟩
  rw [div_raw, divRaw_eq c1 c2 c3 c4 c5]
  rfl

end Go.Proofs.YtdojnnlhaiennaaGreat.Fx

