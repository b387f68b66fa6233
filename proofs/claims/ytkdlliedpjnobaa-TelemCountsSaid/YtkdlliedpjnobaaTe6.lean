/- The laws of layer 17 are true. Conditions: none. -/
import Derived.Test.YtkdlliedpjnobaaTe5
namespace Go.Proofs.Ytkdlliedpjnobaa.Te
open Go Go.Proofs.Ytkdlliedpjnobaa.Ae Go.Proofs.Ytkdlliedpjnobaa.Fx Go.Proofs.Ytkdlliedpjnobaa.Lx Go.Proofs.Ytkdlliedpjnobaa.Tx Go.Proofs.Ytkdlliedpjnobaa.Row Go.Proofs.Ytkdlliedpjnobaa.Rx

def Seven.tell (s : Seven) : Tell := ⟨0, 0, 0, 0, 0, 0, s.p0, s.p1, s.p2, s.p3, s.e0, s.e1, s.e2⟩
def cutP (s : Seven) : Seven := if s.bad = false ∧ rightP s.tell = true then s else ⟨0, 0, 0, 0, 0, 0, 0, false⟩
def cntsP (q0 q1 q2 q3 m0 m1 m2 : Int) : Seven := cutP (seven Fx.part q0 q1 q2 q3 m0 m1 m2)
theorem countsRaw_eq (s : Seven) : countsRaw rightP s = some (cutP s).tup := by
  unfold countsRaw cutP
  cases hb : s.bad
  · rw [bf]
    change (bif !(rightP s.tell) then _ else _) = _
    cases hr : rightP s.tell
    · rw [if_neg (by simp)]; rfl
    · rw [if_pos ⟨rfl, rfl⟩]; rfl
  · rw [bt, if_neg (by simp)]; rfl
theorem inR_eq (ok : Bool) (n : Int) : inR ok n = (ok && i16 n) := by
  unfold inR i16
  rw [an_eq, an_eq, Bool.and_assoc]
  simp only [ge_iff_le, dand]
theorem oor_eq (a b : Bool) : oor a b = (a || b) := by cases a <;> rfl
theorem rcountsRaw_eq (s : Seven) : rcountsRaw s = some (cutP s).tup := by
  unfold rcountsRaw cutP
  have e : inR (inR (inR (inR (inR (inR (inR true s.p0) s.p1) s.p2) s.p3) s.e0) s.e1) s.e2 = rightP s.tell := by
    simp only [inR_eq, Bool.true_and]
    unfold rightP Seven.tell
    simp
  rw [e, oor_eq]
  cases hb : s.bad
  · cases hr : rightP s.tell
    · rw [if_neg (by simp)]; rfl
    · rw [if_pos ⟨rfl, rfl⟩]; rfl
  · cases hr : rightP s.tell
    · rw [if_neg (by simp)]; rfl
    · rw [if_neg (by simp)]; rfl
def countF (c : Int → Int → Int → Int → Int → Int → Int → Seven) : List AV → Option AV
  | [.agg [.int .i64 q0, .int .i64 q1, .int .i64 q2, .int .i64 q3], .agg [.int .i64 m0, .int .i64 m1, .int .i64 m2]] => some (c q0 q1 q2 q3 m0 m1 m2).tup
  | _ => none
theorem counts_con : PureOk Try.prog 15 anyArgs (countF cntsP) := by
  have hE : EnvOk Try.prog (envC Fx.part rightP) := EnvOk.t (EnvOk.p (EnvOk.f ok_nil en_part part_con) (enter_of Try.func37 (by kernel_rfl) rfl) right_con) (enter_of Try.func35 (by kernel_rfl) rfl)
  refine pure_of hE 60 _ _ _ ?_
  rintro args v - h
  unfold countF at h
  split at h <;> cases h
  exact ⟨rfl, rfl, (counts_raw Fx.part rightP _ _ _ _ _ _ _).trans (countsRaw_eq _)⟩
theorem rcounts_con : PureOk Try.prog 16 anyArgs (countF cntsP) := by
  refine pure_of (EnvOk.f ok_nil en_rPart rpart_con) 60 _ _ _ ?_
  rintro args v - h
  unfold countF at h
  split at h <;> cases h
  exact ⟨rfl, rfl, (rcounts_raw Fx.part _ _ _ _ _ _ _).trans (rcountsRaw_eq _)⟩

section
variable (c d : Int → Int → Int → Int → Int → Int → Int → Seven) (wf : Tell → Fr)
def envK : Env := [(15, .pure anyArgs (countF c)), (17, .pure anyArgs (writeF wf))]
theorem awake17_raw : acall Try.prog (envK c wf) 60 14 [] [] pK =
    let s := c 0 0 0 1099511627776 219902325555 0 0
    let w := wf s.tell
    some (.bool (an (an (an (s.p3 == 16384) (s.e0 == 2000)) w.ok) (((w.s.size : Nat) : Int) == 26))) := by kernel_rfl
def sevenEq (a b : Seven) : Bool := an ((a.p0 == b.p0) && ((a.p1 == b.p1) && ((a.p2 == b.p2) && ((a.p3 == b.p3) && true)))) ((a.e0 == b.e0) && ((a.e1 == b.e1) && ((a.e2 == b.e2) && true)))
theorem tcounts_raw (q0 q1 q2 q3 m0 m1 m2 : Int) : acall Try.prog ([(14, .pure anyArgs yesF), (16, .pure anyArgs (countF d))] ++ envK c wf) 60 3 [.agg [I q0, I q1, I q2, I q3], .agg [I m0, I m1, I m2]] [] ansK =
    some (an (sevenEq (c q0 q1 q2 q3 m0 m1 m2) (d q0 q1 q2 q3 m0 m1 m2)) (wf (c q0 q1 q2 q3 m0 m1 m2).tell).ok) := by kernel_rfl
end
theorem en_Write : EnterOk Try.prog 17 := enter_of Try.func17 (by kernel_rfl) rfl
theorem en_Counts : EnterOk Try.prog 15 := enter_of Try.func15 (by kernel_rfl) rfl
theorem envK_ok : EnvOk Try.prog (envK cntsP writeP) := EnvOk.p (EnvOk.p ok_nil en_Write write_con) en_Counts counts_con
theorem awake17_ok : PureOk Try.prog 14 anyArgs yesF := by
  refine pure_of envK_ok 60 _ _ _ ?_
  rintro args v - h
  unfold yesF at h
  split at h <;> cases h
  refine ⟨rfl, rfl, (awake17_raw cntsP writeP).trans ?_⟩
  have h1 : cntsP 0 0 0 1099511627776 219902325555 0 0 = ⟨0, 0, 0, 16384, 2000, 0, 0, false⟩ := by kernel_rfl
  have h2 : ∀ s : Seven, s = ⟨0, 0, 0, 16384, 2000, 0, 0, false⟩ → some (AV.bool (an (an (an (s.p3 == 16384) (s.e0 == 2000)) (writeP s.tell).ok) ((((writeP s.tell).s.size : Nat) : Int) == 26))) = some (AV.bool true) := fun s e => by
    subst e; kernel_rfl
  exact h2 _ h1
theorem awake17_con {env : Env} (h : EnvOk Try.prog env) : EnvOk Try.prog ((14, .pure anyArgs yesF) :: env) := EnvOk.p h (enter_of Try.func14 (by kernel_rfl) rfl) awake17_ok
theorem cutP_right (s : Seven) : rightP (cutP s).tell = true := by
  unfold cutP
  split
  · rename_i h; exact h.2
  · rfl
theorem sevenEq_refl (a : Seven) : sevenEq a a = true := by unfold sevenEq; simp [an]
theorem counts_law (q0 q1 q2 q3 m0 m1 m2 : Int) (w : World) : Calls Try.prog 3 #[.agg ⟨[.int .i64 q0, .int .i64 q1, .int .i64 q2, .int .i64 q3]⟩, .agg ⟨[.int .i64 m0, .int .i64 m1, .int .i64 m2]⟩] w fun e w' => e = .returned (.bool true) ∧ Go.RowKit.Below w.heap.size w w' := by
  refine law_true (awake17_con (EnvOk.p envK_ok (enter_of Try.func16 (by kernel_rfl) rfl) rcounts_con)) ((tcounts_raw cntsP cntsP writeP q0 q1 q2 q3 m0 m1 m2).trans ?_) (RL.cons ?_ (RL.cons ?_ (RL_nil.2 rfl)))
  · rw [sevenEq_refl]
    have : (writeP (cntsP q0 q1 q2 q3 m0 m1 m2).tell).ok = true := by
      unfold writeP cntsP
      rw [if_pos (cutP_right _)]
    rw [this]; rfl
  · simp only [R]; exact ⟨_, rfl, RL.cons (R_int _ _ _) (RL.cons (R_int _ _ _) (RL.cons (R_int _ _ _) (RL.cons (R_int _ _ _) (RL_nil.2 rfl))))⟩
  · simp only [R]; exact ⟨_, rfl, RL.cons (R_int _ _ _) (RL.cons (R_int _ _ _) (RL.cons (R_int _ _ _) (RL_nil.2 rfl)))⟩
theorem envT_ok : EnvOk Try.prog (envT writeP writeP readP readP) :=
  awake17_con (EnvOk.p (EnvOk.p (EnvOk.p (EnvOk.p ok_nil (enter_of Try.func20 (by kernel_rfl) rfl) rread_con) (enter_of Try.func19 (by kernel_rfl) rfl) read_con) (enter_of Try.func18 (by kernel_rfl) rfl) rwrite_con) en_Write write_con)
theorem writes_law (x : Tell) (w : World) : Calls Try.prog 4 #[.agg ⟨[.int .i64 x.t, .int .i64 x.m, .int .i64 x.f, .int .i64 x.a, .int .i64 x.e, .int .i64 x.r, .int .i64 x.q0, .int .i64 x.q1, .int .i64 x.q2, .int .i64 x.q3, .int .i64 x.d0, .int .i64 x.d1, .int .i64 x.d2]⟩] w fun e w' => e = .returned (.bool true) ∧ Go.RowKit.Below w.heap.size w w' := by
  refine law_true envT_ok ((twrites_raw writeP writeP readP readP x).trans (twrites_plain x)) (RL.cons ?_ (RL_nil.2 rfl))
  simp only [R]
  exact ⟨_, rfl, RL.cons (R_int _ _ _) (RL.cons (R_int _ _ _) (RL.cons (R_int _ _ _) (RL.cons (R_int _ _ _) (RL.cons (R_int _ _ _) (RL.cons (R_int _ _ _) (RL.cons (R_int _ _ _) (RL.cons (R_int _ _ _) (RL.cons (R_int _ _ _) (RL.cons (R_int _ _ _) (RL.cons (R_int _ _ _) (RL.cons (R_int _ _ _) (RL.cons (R_int _ _ _) (RL_nil.2 rfl)))))))))))))⟩
theorem reads_law (k : Int) (s : ByteArray) (w : World) : Calls Try.prog 5 #[.agg ⟨[.int .i64 k, .string s]⟩] w fun e w' => e = .returned (.bool true) ∧ Go.RowKit.Below w.heap.size w w' := by
  refine law_true envT_ok ((treads_raw writeP writeP readP readP k s).trans (treads_plain k s)) (RL.cons ?_ (RL_nil.2 rfl))
  simp only [R]
  exact ⟨_, rfl, RL.cons (R_int _ _ _) (RL.cons (R_str _ _) (RL_nil.2 rfl))⟩
#print axioms reads_law
#print axioms counts_law
end Go.Proofs.Ytkdlliedpjnobaa.Te
