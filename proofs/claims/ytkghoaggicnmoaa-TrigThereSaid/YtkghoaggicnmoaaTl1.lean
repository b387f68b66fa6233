/- The laws of layer 2 whose answers are the document's: they are true. Conditions: none. -/
import Derived.Test.YtkghoaggicnmoaaTxB
import Derived.Test.YtkghoaggicnmoaaLx3
namespace Go.Proofs.Ytkghoaggicnmoaa.Tl
open Go Go.Proofs.Ytkghoaggicnmoaa.Ae Go.Proofs.Ytkghoaggicnmoaa.Fx Go.Proofs.Ytkghoaggicnmoaa.Lx Go.Proofs.Ytkghoaggicnmoaa.Rx Go.Proofs.Ytkghoaggicnmoaa.Tx Go.Proofs.Ytkghoaggicnmoaa.Row

def yesF : List AV → Option AV
  | [] => some (.bool true)
  | _ => none
theorem sin_H : sinP 1727108826179 false = (1099511627776, false) := by kernel_rfl
theorem awake2_raw (si : Op1) : acall Try.prog [(38, m1 25 si)] 60 37 [] [] (fun v _ => bif v.noPtr then some v else none) = some (.bool (bif (si 1727108826179 false).1 == 1099511627776 then !(si 1727108826179 false).2 else false)) := by kernel_rfl
theorem awake2_ok : PureOk Try.prog 37 anyArgs yesF := by
  refine pure_of (EnvOk.f ok_nil en_Sin sin_con) 60 _ _ _ ?_
  rintro args v - h
  unfold yesF at h
  split at h <;> cases h
  refine ⟨rfl, rfl, ?_⟩
  rw [awake2_raw, sin_H]
  rfl
theorem en_awake2 : EnterOk Try.prog 37 := enter_of Try.func37 (by kernel_rfl) rfl
theorem awake2_con {env : Env} (h : EnvOk Try.prog env) : EnvOk Try.prog ((37, .pure anyArgs yesF) :: env) := EnvOk.p h en_awake2 awake2_ok

section
variable (p q r s : Op1) (p2 q2 : Op2)
theorem tsin_raw (a : Int) (bad : Bool) : acall Try.prog [(37, .pure anyArgs yesF), (38, m1 25 p), (39, m1 27 q)] 60 11 [.int .i64 a, .bool bad] [] ansK =
    sameRaw (p a bad) (q a bad) := by kernel_rfl
theorem tcos_raw (a : Int) (bad : Bool) : acall Try.prog [(37, .pure anyArgs yesF), (40, m1 25 p), (41, m1 27 q)] 60 12 [.int .i64 a, .bool bad] [] ansK =
    sameRaw (p a bad) (q a bad) := by kernel_rfl
theorem tat_raw (y x : Int) (bad : Bool) : acall Try.prog [(37, .pure anyArgs yesF), (44, m2 25 p2), (45, m2 27 q2)] 60 16 [.int .i64 y, .int .i64 x, .bool bad] [] ansK =
    sameRaw (p2 y x bad) (q2 y x bad) := by kernel_rfl
theorem tback_raw (a : Int) (bad : Bool) : acall Try.prog [(37, .pure anyArgs yesF), (46, m1 25 p), (47, m1 27 q), (48, m1 25 r), (49, m1 27 s)] 60 17 [.int .i64 a, .bool bad] [] ansK =
    bif (p a bad).1 == (q a bad).1 then bif (p a bad).2 == (q a bad).2 then sameRaw (r a bad) (s a bad) else some false else some false := by kernel_rfl
end
theorem sin_law (a : Int) (bad : Bool) (w : World) : Calls Try.prog 11 #[.int .i64 a, .bool bad] w fun e w' => e = .returned (.bool true) ∧ Go.RowKit.Below w.heap.size w w' :=
  law_true (awake2_con (EnvOk.f (EnvOk.f ok_nil en_rSin rsin_con) en_Sin sin_con)) ((tsin_raw sinP sinP a bad).trans (same_eq _)) (RL.cons (R_int _ _ _) (RL.cons (R_bool _ _) (RL_nil.2 rfl)))
theorem cos_law (a : Int) (bad : Bool) (w : World) : Calls Try.prog 12 #[.int .i64 a, .bool bad] w fun e w' => e = .returned (.bool true) ∧ Go.RowKit.Below w.heap.size w w' :=
  law_true (awake2_con (EnvOk.f (EnvOk.f ok_nil en_rCos rcos_con) en_Cos cos_con)) ((tcos_raw cosP cosP a bad).trans (same_eq _)) (RL.cons (R_int _ _ _) (RL.cons (R_bool _ _) (RL_nil.2 rfl)))
theorem at_law (y x : Int) (bad : Bool) (w : World) : Calls Try.prog 16 #[.int .i64 y, .int .i64 x, .bool bad] w fun e w' => e = .returned (.bool true) ∧ Go.RowKit.Below w.heap.size w w' :=
  law_true (awake2_con (EnvOk.f (EnvOk.f ok_nil en_rAt rat_con) en_At at_con)) ((tat_raw atP atP y x bad).trans (same_eq _)) (RL.cons (R_int _ _ _) (RL.cons (R_int _ _ _) (RL.cons (R_bool _ _) (RL_nil.2 rfl))))
theorem back_law (a : Int) (bad : Bool) (w : World) : Calls Try.prog 17 #[.int .i64 a, .bool bad] w fun e w' => e = .returned (.bool true) ∧ Go.RowKit.Below w.heap.size w w' :=
  law_true (awake2_con (EnvOk.f (EnvOk.f (EnvOk.f (EnvOk.f ok_nil en_rAc rac_con) en_Ac ac_con) en_rAs ras_con) en_As as_con)) ((tback_raw asP asP acP acP a bad).trans (sums_eq _ _)) (RL.cons (R_int _ _ _) (RL.cons (R_bool _ _) (RL_nil.2 rfl)))
#print axioms back_law
end Go.Proofs.Ytkghoaggicnmoaa.Tl
