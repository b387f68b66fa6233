/- The contracts of the inner functions of package fixed and of math/bits, as the interpreter finds them. Conditions: none. -/
import Derived.Test.YtlkclpkpggapbaaProg
import Derived.Test.YtlkclpkpggapbaaAe7
import Derived.Test.YtlkclpkpggapbaaFx0b
namespace Go.Proofs.Ytlkclpkpggapbaa.Fx
open Go Go.Proofs.Ytlkclpkpggapbaa.Ae

abbrev anyArgs : List AV → Bool := fun _ => true

/-! ### size -/
def sz (n : Int) : Int := bif decide (n < 0) then wr .u64 (wr .i64 (0 - n)) else wr .u64 n
def sb (n : Int) : Int := bif decide (n < 0) then 1 else 0
def sizeF (sz sb : Int → Int) : List AV → Option AV
  | [.int .i64 n] => some (.tup [.int .u64 (sz n), .int .u64 (sb n)])
  | _ => none
theorem size_raw (n : Int) : acall Try.prog [] 30 52 [.int .i64 n] [] (fun v _ => bif v.noPtr then some v else none) =
    bif decide (n < 0) then some (.tup [.int .u64 (wr .u64 (wr .i64 (0 - n))), .int .u64 1]) else some (.tup [.int .u64 (wr .u64 n), .int .u64 0]) := by kernel_rfl
theorem size_ok : PureOk Try.prog 52 anyArgs (sizeF sz sb) := by
  refine pure_of (EnvOk.nil _) 30 _ _ _ ?_
  rintro args v - h
  unfold sizeF at h
  split at h <;> cases h
  rename_i n
  refine ⟨rfl, rfl, ?_⟩
  rw [size_raw, sz, sb]
  cases decide (n < 0) <;> rfl

/-! ### Mul64 -/
def mulF (mh : Int → Int → Int) : List AV → Option AV
  | [.int .u64 x, .int .u64 y] => some (.tup [.int .u64 (mh x y), .int .u64 (wr .u64 (x * y))])
  | _ => none
theorem mul_ok : PureOk Try.prog 53 anyArgs (mulF mulHi) := by
  refine pure_of (EnvOk.nil _) 60 _ _ _ ?_
  rintro args v - h
  unfold mulF at h
  split at h <;> cases h
  exact ⟨rfl, rfl, by kernel_rfl⟩

/-! ### Len64 -/
def lzF (lz : Int → Int) : List AV → Option AV
  | [.int .u64 x] => some (.int .i64 (lz x))
  | _ => none
def lenF : List AV → Option AV
  | [.int .u64 x] => some (.int .i64 (lenI x))
  | _ => none
def len1 : List AV → Bool
  | [.int .u64 x] => in64 x
  | _ => false
theorem len_raw (x : Int) : acall Try.prog [] 60 75 [.int .u64 x] [] (fun v _ => bif v.noPtr then some v else none) =
  let c := decide (x ≥ 4294967296)
  let n := bif c then 32 else 0
  let x := bif c then x / 4294967296 else x
  let c := decide (x ≥ 65536)
  let n := bif c then wr .i64 (n + 16) else n
  let x := bif c then x / 65536 else x
  let c := decide (x ≥ 256)
  let n := bif c then wr .i64 (n + 8) else n
  let x := bif c then x / 256 else x
  let i := wr .u8 x
  bif decide (0 ≤ i) && decide (i < 256) then some (.int .i64 (wr .i64 (n + wr .i64 ((lenTab.data.getD i.toNat 0).toNat : Int)))) else none := by kernel_rfl
theorem len_ok : PureOk Try.prog 75 anyArgs lenF := by
  refine pure_of (EnvOk.nil _) 60 _ _ _ ?_
  rintro args v - h
  unfold lenF at h
  split at h <;> cases h
  rename_i x
  refine ⟨rfl, rfl, ?_⟩
  rw [len_raw]
  dsimp only
  have h8 : ∀ z : Int, (decide (0 ≤ wr .u8 z) && decide (wr .u8 z < 256)) = true := fun z => by
    have : wr .u8 z = z % 256 := by simp only [wr]
    rw [this]; simp; omega
  rw [h8]
  rfl
theorem lz_ok (hE : EnvOk Try.prog [(75, .pure anyArgs lenF)]) : PureOk Try.prog 73 anyArgs (lzF lzI) := by
  refine pure_of hE 60 _ _ _ ?_
  rintro args v - h
  unfold lzF at h
  split at h <;> cases h
  exact ⟨rfl, rfl, by kernel_rfl⟩

/-! ### root -/
def envR (mh : Int → Int → Int) : Env := [(53, .pure anyArgs (mulF mh))]
def rootRaw (mh : Int → Int → Int) (high low : Int) : Nat → Int → Int → Int
  | 0, r, _ => r
  | k + 1, r, bit =>
    let t := bor .u64 r bit
    let h := mh t t
    let l := wr .u64 (t * t)
    let c := bif decide (h < high) then true else bif h == high then decide (l ≤ low) else false
    rootRaw mh high low k (bif c then t else r) (bit / 2)
theorem root_raw (mh : Int → Int → Int) (high low : Int) : acall Try.prog (envR mh) 120 55 [.int .u64 high, .int .u64 low] [] (fun v _ => bif v.noPtr then some v else none) = some (.int .u64 (rootRaw mh high low 63 0 4611686018427387904)) := by kernel_rfl

end Go.Proofs.Ytlkclpkpggapbaa.Fx
