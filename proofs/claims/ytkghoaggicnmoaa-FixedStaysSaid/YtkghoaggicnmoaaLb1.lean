/- The law of quotients and products (FixedBack) and of flows that are bad (FixedStays), as the interpreter finds them. Conditions: none. -/
import Derived.Test.YtkghoaggicnmoaaLx3
namespace Go.Proofs.Ytkghoaggicnmoaa.Lx
open Go Go.Proofs.Ytkghoaggicnmoaa.Ae Go.Proofs.Ytkghoaggicnmoaa.Fx Go.Proofs.Ytkghoaggicnmoaa.Rx Go.Proofs.Ytkghoaggicnmoaa.Row

/-- A function without arguments that says true. -/
def yesF : List AV → Option AV
  | [] => some (.bool true)
  | _ => none
theorem awake1_ok : PureOk Try.prog 19 anyArgs yesF := by
  refine pure_of (EnvOk.e ok_nil Fx.en_mul mul_con) 60 _ _ _ ?_
  rintro args v - h
  unfold yesF at h
  split at h <;> cases h
  exact ⟨rfl, rfl, by kernel_rfl⟩
section
variable (mu f2 : Int → Int → Bool → Int × Bool)
def backRaw (a b : Int) : Option Bool :=
  bif (bif (bif (bif (bif decide (a > 1125899906842624) then true else decide (a < -1125899906842624)) then true else decide (b > 1125899906842624)) then true else decide (b < -1125899906842624)) then true else b == 0) then some true else
  let q := f2 a b false
  bif q.2 then some (q.1 == 0) else
  let m := mu q.1 b q.2
  bif m.2 then some (m.1 == 0) else
  let d := wr .i64 (m.1 - a)
  some (decide ((bif decide (d < 0) then wr .i64 (0 - d) else d) ≤ wr .i64 (wr .i64 ((bif decide (b < 0) then wr .i64 (0 - b) else b).tdiv 2199023255552) + 1)))
theorem back_raw (a b : Int) : acall Try.prog [(19, .pure anyArgs yesF), (23, m2 25 f2), (21, m2 25 mu)] 60 6 [.int .i64 a, .int .i64 b] [] ansK = backRaw mu f2 a b := by kernel_rfl
end
theorem stays_raw (a b c : Int) : acall Try.prog [(19, .pure anyArgs yesF), (50, .text), (43, .text), (29, .text), (31, .text), (21, .text), (23, .text), (33, .text), (25, .text), (27, .text), (35, .text)] 60 15 [.int .i64 a, .int .i64 b, .int .i64 c] [] ansK = some true := by kernel_rfl
end Go.Proofs.Ytkghoaggicnmoaa.Lx
