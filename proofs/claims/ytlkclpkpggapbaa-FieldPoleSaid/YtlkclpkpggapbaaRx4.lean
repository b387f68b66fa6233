/- The reference's sums, roots and lengths, as the interpreter finds them. Conditions: none. -/
import Derived.Test.YtlkclpkpggapbaaRx2
namespace Go.Proofs.Ytlkclpkpggapbaa.Rx
open Go Go.Proofs.Ytlkclpkpggapbaa.Ae Go.Proofs.Ytlkclpkpggapbaa.Fx

section
variable (s : Int → Int) (th tl : Int → Int → Int) (ab : Int → Int → Int → Int → Bool) (rr : Int → Int → Int → Bool → Int × Bool) (ad : Int → Int → Bool → Int × Bool)
def raddS (a b : Int) : Int := wr .i64 (wr .i64 (wr .i64 (a.tdiv 2) + wr .i64 (b.tdiv 2)) + wr .i64 ((wr .i64 (a.tmod 2 + b.tmod 2)).tdiv 2))
theorem radd_raw (a b : Int) (bad : Bool) : acall Try.prog (envN s th tl ab rr ad) 60 29 [.ptr 0 0, .int .i64 a, .int .i64 b] [.cells [.bool bad] 27] (flowK 27) =
    ropRaw bad [a, b] fun bad => bif decide (raddS a b > 2305843009213693952) then some (.int .i64 0, true) else bif decide (raddS a b < -2305843009213693952) then some (.int .i64 0, true) else bif !rnum (wr .i64 (a + b)) then some (.int .i64 0, true) else some (.int .i64 (wr .i64 (a + b)), bad) := by kernel_rfl
/-- A search bit by bit. -/
def rroot (h l : Int) : Nat → Int → Int
  | 0, r => r
  | i + 1, r =>
    let t := wr .u64 (r + wr .u64 (1 * p2 (min i 64)))
    rroot h l i (bif !(ab (th t t) (tl t t) h l) then t else r)
theorem rsqrt_raw (a : Int) (bad : Bool) : acall Try.prog (envN s th tl ab rr ad) 90 64 [.ptr 0 0, .int .i64 a] [.cells [.bool bad] 27] (flowK 27) =
    ropRaw bad [a] fun bad => bif decide (a < 0) then some (.int .i64 0, true) else
        rgive (rroot th tl ab (th (wr .u64 a) 1099511627776) (tl (wr .u64 a) 1099511627776) 52 0) false bad := by kernel_rfl
theorem rnorm_raw (a b c : Int) (bad : Bool) : acall Try.prog (envN s th tl ab rr ad) 110 36 [.ptr 0 0, .int .i64 a, .int .i64 b, .int .i64 c] [.cells [.bool bad] 27] (flowK 27) =
    ropRaw bad [a, b, c] fun bad =>
        rgive (rroot th tl ab (waH (waH (th (s a) (s a)) (tl (s a) (s a)) (th (s b) (s b)) (tl (s b) (s b))) (wr .u64 (tl (s a) (s a) + tl (s b) (s b))) (th (s c) (s c)) (tl (s c) (s c)))
          (wr .u64 (wr .u64 (tl (s a) (s a) + tl (s b) (s b)) + tl (s c) (s c))) 63 0) false bad := by kernel_rfl
end
end Go.Proofs.Ytlkclpkpggapbaa.Rx
