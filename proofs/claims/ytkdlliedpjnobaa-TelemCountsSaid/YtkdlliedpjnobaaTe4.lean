/- What is told, as plain numbers: the program's and the reference's functions are the same ones. Conditions: none. -/
import Derived.Test.YtkdlliedpjnobaaTe3
namespace Go.Proofs.Ytkdlliedpjnobaa.Te
open Go Go.Proofs.Ytkdlliedpjnobaa.Ae Go.Proofs.Ytkdlliedpjnobaa.Fx Go.Proofs.Ytkdlliedpjnobaa.Lx Go.Proofs.Ytkdlliedpjnobaa.Tx Go.Proofs.Ytkdlliedpjnobaa.Row Go.Proofs.Ytkdlliedpjnobaa.Rx

/-! ### Which may be told -/
def i16 (n : Int) : Bool := decide (-32768 ≤ n ∧ n ≤ 32767)
def rightP (x : Tell) : Bool := decide (0 ≤ x.t ∧ x.t ≤ 157766400000) && decide (0 ≤ x.m ∧ x.m ≤ 3) && decide (0 ≤ x.f ∧ x.f ≤ 15) && decide (0 ≤ x.a ∧ x.a ≤ 255) && decide (0 ≤ x.e ∧ x.e ≤ 255) && decide (0 ≤ x.r ∧ x.r ≤ 65535) &&
  i16 x.q0 && i16 x.q1 && i16 x.q2 && i16 x.q3 && i16 x.d0 && i16 x.d1 && i16 x.d2

theorem no16_eq (n : Int) : no16 n = !(i16 n) := by
  unfold no16 i16
  have e : wr .i64 (wr .i16 n) = (n + 32768) % 65536 - 32768 := by
    have : wr .i16 n = (n + 32768) % 65536 - 32768 := rfl
    rw [this]; exact w64_in (by omega) (by omega)
  rw [e]
  by_cases h : -32768 ≤ n ∧ n ≤ 32767
  · have : (n + 32768) % 65536 - 32768 = n := by omega
    rw [this, decide_eq_true h]; simp
  · have : n ≠ (n + 32768) % 65536 - 32768 := by omega
    rw [decide_eq_false h]; simpa using this
theorem no8_eq (n : Int) : no8 n = !(decide (0 ≤ n ∧ n ≤ 255)) := by
  unfold no8
  have e : wr .i64 (wr .u8 n) = n % 256 := by
    have : wr .u8 n = n % 256 := rfl
    rw [this]; exact w64_in (by omega) (by omega)
  rw [e]
  by_cases h : 0 ≤ n ∧ n ≤ 255
  · have : n % 256 = n := by omega
    rw [this, decide_eq_true h]; simp
  · have : n ≠ n % 256 := by omega
    rw [decide_eq_false h]; simpa using this
theorem an_eq (a b : Bool) : an a b = (a && b) := by cases a <;> rfl
theorem dand (p q : Prop) [Decidable p] [Decidable q] : (decide p && decide q) = decide (p ∧ q) := by
  by_cases hp : p <;> by_cases hq : q <;> simp [hp, hq]
theorem lastB_eq (x : Tell) : lastB x = (decide (0 ≤ x.t ∧ x.t ≤ 157766400000) && decide (0 ≤ x.m ∧ x.m ≤ 3) && decide (0 ≤ x.f ∧ x.f ≤ 15) && decide (0 ≤ x.r ∧ x.r ≤ 65535)) := by
  unfold lastB ckT
  simp only [an_eq]
  have e : (x.r == wr .i64 (wr .u16 x.r)) = decide (0 ≤ x.r ∧ x.r ≤ 65535) := by
    have e : wr .i64 (wr .u16 x.r) = x.r % 65536 := by
      have : wr .u16 x.r = x.r % 65536 := rfl
      rw [this]; exact w64_in (by omega) (by omega)
    rw [e]
    by_cases h : 0 ≤ x.r ∧ x.r ≤ 65535
    · have : x.r % 65536 = x.r := by omega
      rw [this, decide_eq_true h]; simp
    · have : x.r ≠ x.r % 65536 := by omega
      rw [decide_eq_false h]; simpa using this
  rw [e]
  simp only [ge_iff_le, dand, and_assoc]
theorem chk_eq : ∀ (l : List Bool) (b : Bool), chk l (some (.bool b)) = some (.bool (l.all (fun x => !x) && b))
  | [], b => by simp [chk]
  | x :: l, b => by
    simp only [chk]
    rw [chk_eq l]
    cases x <;> simp
theorem chain_eq : ∀ (l : List Bool) (b : Bool), chain l b = some (.bool (l.all (fun x => x) && b))
  | [], b => by simp [chain]
  | x :: l, b => by
    simp only [chain]
    rw [chain_eq l]
    cases x <;> simp
theorem right_con : PureOk Try.prog 37 anyArgs (rightF rightP) := by
  have hE : EnvOk Try.prog [(35, .text), (47, .text)] := EnvOk.t (EnvOk.t ok_nil (enter_of Try.func47 (by kernel_rfl) rfl)) (enter_of Try.func35 (by kernel_rfl) rfl)
  refine pure_of hE 60 _ _ _ ?_
  rintro args v - h
  unfold rightF at h
  split at h <;> cases h
  rename_i t m f a e r q0 q1 q2 q3 d0 d1 d2
  refine ⟨rfl, rfl, (right_raw ⟨t, m, f, a, e, r, q0, q1, q2, q3, d0, d1, d2⟩).trans ?_⟩
  rw [chk_eq, lastB_eq]
  simp only [no16_eq, no8_eq, List.all_cons, List.all_nil, Bool.not_not, rightP, Bool.and_true]
  congr 2
  generalize i16 q0 = b0
  generalize i16 q1 = b1
  generalize i16 q2 = b2
  generalize i16 q3 = b3
  generalize i16 d0 = b4
  generalize i16 d1 = b5
  generalize i16 d2 = b6
  generalize decide (0 ≤ t ∧ t ≤ 157766400000) = c0
  generalize decide (0 ≤ m ∧ m ≤ 3) = c1
  generalize decide (0 ≤ f ∧ f ≤ 15) = c2
  generalize decide (0 ≤ a ∧ a ≤ 255) = c3
  generalize decide (0 ≤ e ∧ e ≤ 255) = c4
  generalize decide (0 ≤ r ∧ r ≤ 65535) = c5
  ac_rfl
theorem inn_eq (n a b : Int) : inn n a b = decide (a ≤ n ∧ n ≤ b) := by
  unfold inn; rw [an_eq]; simp only [ge_iff_le, dand]
theorem rright_con : PureOk Try.prog 39 anyArgs (rightF rightP) := by
  have hE : EnvOk Try.prog [(84, .text), (51, .text)] := EnvOk.t (EnvOk.t ok_nil (enter_of Try.func51 (by kernel_rfl) rfl)) (enter_of Try.func84 (by kernel_rfl) rfl)
  refine pure_of hE 80 _ _ _ ?_
  rintro args v - h
  unfold rightF at h
  split at h <;> cases h
  rename_i t m f a e r q0 q1 q2 q3 d0 d1 d2
  refine ⟨rfl, rfl, (rright_raw ⟨t, m, f, a, e, r, q0, q1, q2, q3, d0, d1, d2⟩).trans ?_⟩
  rw [chain_eq]
  simp only [inn_eq, rck, an_eq, ge_iff_le, dand, List.all_cons, List.all_nil, rightP, i16, Bool.and_true, and_assoc]

/-! ### Writing -/
def writeP (x : Tell) : Fr := if rightP x then ⟨32, strOf (wBytes x), true⟩ else ⟨0, ⟨#[]⟩, false⟩
theorem writeRaw_eq (x : Tell) : (bif !(rightP x) then some noFrame else some (.tup [.agg [I 32, .str (strOf (wBytes x))], .bool true])) = some (writeP x).av := by
  unfold writeP
  cases rightP x
  · simp only [Bool.not_false, cond_true, Bool.false_eq_true, if_false]; rfl
  · simp only [Bool.not_true, cond_false, if_true]; rfl
theorem p2_8 : p2 8 = 256 := by decide
theorem u8_eq (n : Int) : wr .u8 n = n % 256 := rfl
theorem rtwo_eq {n : Int} (h : -32768 ≤ n ∧ n ≤ 65535) : rtwo n = two n := by
  unfold rtwo two
  dsimp only
  rw [p2_8, w64_in (n := n + 65536) (by omega) (by omega)]
  by_cases hn : n < 0
  · rw [decide_eq_true hn, bt]
    have h1 : (n + 65536).tdiv 256 = (n + 65536) / 256 := Int.tdiv_eq_ediv_of_nonneg (by omega)
    have h2 : (n + 65536).tmod 256 = (n + 65536) % 256 := Int.tmod_eq_emod_of_nonneg (by omega)
    rw [h1, h2, w64_in (by omega) (by omega), u8_eq, u8_eq, u8_eq, u8_eq]
    have e1 : (n + 65536) / 256 % 256 = n / 256 % 256 := by omega
    have e2 : (n + 65536) % 256 % 256 = n % 256 := by omega
    rw [e1, e2]
  · rw [decide_eq_false hn, bf]
    have h1 : n.tdiv 256 = n / 256 := Int.tdiv_eq_ediv_of_nonneg (by omega)
    have h2 : n.tmod 256 = n % 256 := Int.tmod_eq_emod_of_nonneg (by omega)
    simp only [h1, h2, w64_in (n := n / 256) (by omega) (by omega), u8_eq]
    have e2 : n % 256 % 256 = n % 256 := by omega
    rw [e2]
structure RightX (x : Tell) : Prop where
  t : 0 ≤ x.t ∧ x.t ≤ 157766400000
  m : 0 ≤ x.m ∧ x.m ≤ 3
  f : 0 ≤ x.f ∧ x.f ≤ 15
  a : 0 ≤ x.a ∧ x.a ≤ 255
  e : 0 ≤ x.e ∧ x.e ≤ 255
  r : 0 ≤ x.r ∧ x.r ≤ 65535
  q0 : -32768 ≤ x.q0 ∧ x.q0 ≤ 32767
  q1 : -32768 ≤ x.q1 ∧ x.q1 ≤ 32767
  q2 : -32768 ≤ x.q2 ∧ x.q2 ≤ 32767
  q3 : -32768 ≤ x.q3 ∧ x.q3 ≤ 32767
  d0 : -32768 ≤ x.d0 ∧ x.d0 ≤ 32767
  d1 : -32768 ≤ x.d1 ∧ x.d1 ≤ 32767
  d2 : -32768 ≤ x.d2 ∧ x.d2 ≤ 32767
theorem rightX {x : Tell} (h : rightP x = true) : RightX x := by
  simp only [rightP, i16, Bool.and_eq_true, decide_eq_true_eq] at h
  obtain ⟨⟨⟨⟨⟨⟨⟨⟨⟨⟨⟨⟨h0, h1⟩, h2⟩, h3⟩, h4⟩, h5⟩, h6⟩, h7⟩, h8⟩, h9⟩, h10⟩, h11⟩, h12⟩ := h
  exact ⟨h0, h1, h2, h3, h4, h5, h6, h7, h8, h9, h10, h11, h12⟩
theorem rwBytes_eq {x : Tell} (h : rightP x = true) : rwBytes x = wBytes x := by
  obtain ⟨_, _, _, _, _, r, q0, q1, q2, q3, d0, d1, d2⟩ := rightX h
  unfold rwBytes wBytes
  rw [rtwo_eq ⟨by omega, r.2⟩, rtwo_eq ⟨q0.1, by omega⟩, rtwo_eq ⟨q1.1, by omega⟩, rtwo_eq ⟨q2.1, by omega⟩, rtwo_eq ⟨q3.1, by omega⟩, rtwo_eq ⟨d0.1, by omega⟩, rtwo_eq ⟨d1.1, by omega⟩, rtwo_eq ⟨d2.1, by omega⟩]
  rfl
theorem writeF_some {wf : Tell → Fr} {args : List AV} {v : AV} (h : writeF wf args = some v) : ∃ x : Tell, args = [.agg x.av] ∧ v = (wf x).av := by
  unfold writeF at h
  split at h <;> cases h
  rename_i t m f a e r q0 q1 q2 q3 d0 d1 d2
  exact ⟨⟨t, m, f, a, e, r, q0, q1, q2, q3, d0, d1, d2⟩, rfl, rfl⟩
theorem write_con : PureOk Try.prog 17 anyArgs (writeF writeP) := by
  have hE : EnvOk Try.prog (envR rightP) := EnvOk.t (EnvOk.p ok_nil (enter_of Try.func37 (by kernel_rfl) rfl) right_con) (enter_of Try.func35 (by kernel_rfl) rfl)
  refine pure_of hE 80 _ _ _ ?_
  rintro args v - h
  obtain ⟨x, rfl, rfl⟩ := writeF_some h
  exact ⟨rfl, rfl, (write_raw rightP x).trans (writeRaw_eq x)⟩
theorem rwrite_con : PureOk Try.prog 18 anyArgs (writeF writeP) := by
  have hE : EnvOk Try.prog (renvR rightP) := EnvOk.t (EnvOk.p ok_nil (enter_of Try.func39 (by kernel_rfl) rfl) rright_con) (enter_of Try.func40 (by kernel_rfl) rfl)
  refine pure_of hE 80 _ _ _ ?_
  rintro args v - h
  obtain ⟨x, rfl, rfl⟩ := writeF_some h
  refine ⟨rfl, rfl, (rwrite_raw rightP x).trans (Eq.trans ?_ (writeRaw_eq x))⟩
  cases hr : rightP x
  · rfl
  · rw [rwBytes_eq hr]

#print axioms rwrite_con
end Go.Proofs.Ytkdlliedpjnobaa.Te
