/- Contracts of ticks as days and of the model's numbers, the program's and the reference's: the same plain functions. Conditions: none. -/
import Derived.Test.YtlkclpkpggapbaaFd1
namespace Go.Proofs.Ytlkclpkpggapbaa.Fd
open Go Go.Proofs.Ytlkclpkpggapbaa.Ae Go.Proofs.Ytlkclpkpggapbaa.Fx Go.Proofs.Ytlkclpkpggapbaa.Lx Go.Proofs.Ytlkclpkpggapbaa.Tx Go.Proofs.Ytlkclpkpggapbaa.Te Go.Proofs.Ytlkclpkpggapbaa.Rx Go.Proofs.Ytlkclpkpggapbaa.Row Go.Proofs.Ytlkclpkpggapbaa.Ve

theorem daysG_eq (t : Int) (bad : Bool) : daysG Fx.part t bad = some (I (daysP t bad).1, (daysP t bad).2) := by
  unfold daysG daysP
  cases ckT t <;> rfl
theorem en_fFail : EnterOk Try.prog 18 := enter_of Try.func18 (by kernel_rfl) rfl
theorem en_rFail : EnterOk Try.prog 24 := enter_of Try.func24 (by kernel_rfl) rfl
theorem en_rAdd : EnterOk Try.prog 29 := enter_of Try.func29 (by kernel_rfl) rfl
theorem en_fAdd : EnterOk Try.prog 21 := enter_of Try.func21 (by kernel_rfl) rfl
theorem en_fSqrt : EnterOk Try.prog 57 := enter_of Try.func57 (by kernel_rfl) rfl
theorem en_fMod : EnterOk Try.prog 65 := enter_of Try.func65 (by kernel_rfl) rfl
theorem en_fPart : EnterOk Try.prog 19 := enter_of Try.func19 (by kernel_rfl) rfl
theorem days_con : Meth 16 (int1 daysP) := by
  refine flow_of (EnvOk.t (EnvOk.t (EnvOk.f ok_nil en_fPart part_con) en_fFail) (enter_of Try.func31 (by kernel_rfl) rfl)) 60 _ _ (fun _ => true) _ ?_
  intro args g _ h bad
  obtain ⟨a, rfl, hg⟩ := int1_some h
  exact (days_raw Fx.part a bad).trans ((daysG_eq a bad).trans (hg bad).symm)
theorem rdays_con : RMeth 23 (int1 daysP) := by
  refine flow_of (EnvOk.t (EnvOk.t (EnvOk.f ok_nil en_rPart rpart_con) en_rFail) (enter_of Try.func48 (by kernel_rfl) rfl)) 60 _ _ (fun _ => true) _ ?_
  intro args g _ h bad
  obtain ⟨a, rfl, hg⟩ := int1_some h
  exact (rdays_raw Fx.part a bad).trans ((daysG_eq a bad).trans (hg bad).symm)
/-! ### The tables -/
def swI (f : Int × Int → Int) : Tab4 → Int → Int
  | [], _ => 0
  | (a, b, g, h) :: l, k => bif k == 10 * a + b then f (g, h) else swI f l k
theorem swRaw_eq : ∀ (l : Tab4) (k : Int), swRaw l k = some (.tup [I (swI Prod.fst l k), I (swI Prod.snd l k)])
  | [], _ => rfl
  | (a, b, g, h) :: l, k => by
    unfold swRaw swI
    rw [swRaw_eq l k]
    cases (k == 10 * a + b) <;> rfl
def tblP (l : Tab4) (n m : Int) : Int × Int := (swI Prod.fst l (wr .i64 (wr .i64 (n * 10) + m)), swI Prod.snd l (wr .i64 (wr .i64 (n * 10) + m)))
theorem ipF_some {f : IP} {args : List AV} {v : AV} (h : ipF f args = some v) : ∃ a b, args = [I a, I b] ∧ v = .tup [I (f a b).1, I (f a b).2] := by
  unfold ipF at h
  split at h <;> cases h
  exact ⟨_, _, rfl, rfl⟩
theorem rtable_con : PureOk Try.prog 25 anyArgs (ipF (tblP tabA)) := by
  refine pure_of ok_nil 200 _ _ _ ?_
  intro args v _ h
  obtain ⟨a, b, rfl, rfl⟩ := ipF_some h
  exact ⟨rfl, rfl, (rtable_raw a b).trans (swRaw_eq _ _)⟩
theorem ryearly_con : PureOk Try.prog 28 anyArgs (ipF (tblP tabB)) := by
  refine pure_of ok_nil 200 _ _ _ ?_
  intro args v _ h
  obtain ⟨a, b, rfl, rfl⟩ := ipF_some h
  exact ⟨rfl, rfl, (ryearly_raw a b).trans (swRaw_eq _ _)⟩
/-! ### The numbers -/
abbrev Op3p := Int → Int → Int → Bool → (Int × Int) × Bool
def numF (f : Op3p) : List AV → Option (Bool → AV × Bool)
  | [.int .i64 n, .int .i64 m, .int .i64 t] => some fun bad => (.tup [I (f n m t bad).1.1, I (f n m t bad).1.2], (f n m t bad).2)
  | _ => none
theorem numF_some {f : Op3p} {args : List AV} {g : Bool → AV × Bool} (h : numF f args = some g) : ∃ n m t, args = [I n, I m, I t] ∧ ∀ bad, g bad = (.tup [I (f n m t bad).1.1, I (f n m t bad).1.2], (f n m t bad).2) := by
  unfold numF at h
  split at h <;> cases h
  exact ⟨_, _, _, rfl, fun _ => rfl⟩
def numEP (g h g2 h2 : Int) (old : Bool) (d : Int × Bool) : (Int × Int) × Bool :=
  let p := Fx.part 1099511627776 g 10000 d.2
  let q := Fx.part 1099511627776 h 10000 p.2
  bif old then
    let y := div d.1 401596622045184 q.2
    let p1 := Fx.part 1099511627776 g2 10000 y.2
    let p2 := mul y.1 p1.1 p1.2
    let p3 := add p.1 p2.1 p2.2
    let q1 := Fx.part 1099511627776 h2 10000 p3.2
    let q2 := mul y.1 q1.1 q1.2
    let q3 := add q.1 q2.1 q2.2
    ((p3.1, q3.1), q3.2)
  else ((p.1, q.1), q.2)
def numP (n m t : Int) (bad : Bool) : (Int × Int) × Bool :=
  let d := daysP t bad
  bif !(has tabA n m) then ((0, 0), true) else
  bif d.2 then ((0, 0), true) else numEP (pickG tabA n m) (pickH tabA n m) (pickG tabB n m) (pickH tabB n m) (has tabB n m) d
theorem numE_eq (g h g2 h2 : Int) (old : Bool) (d : Int × Bool) : numE add mul div Fx.part g h g2 h2 old d = some (.tup [I (numEP g h g2 h2 old d).1.1, I (numEP g h g2 h2 old d).1.2], (numEP g h g2 h2 old d).2) := by
  unfold numE numEP
  dsimp only
  cases old <;> rfl
theorem numRaw_eq (n m t : Int) (bad : Bool) : numRaw add mul div Fx.part daysP n m t bad = some (.tup [I (numP n m t bad).1.1, I (numP n m t bad).1.2], (numP n m t bad).2) := by
  unfold numRaw numP
  dsimp only
  cases has tabA n m
  · rfl
  · cases hd : (daysP t bad).2
    · rw [Bool.not_true, bf, bf, bf, bf]; exact numE_eq ..
    · rfl
theorem has_iff : ∀ (l : Tab4) (n m : Int), has l n m = l.any (fun r => n == r.1 && m == r.2.1)
  | [], _, _ => rfl
  | (a, b, g, h) :: l, n, m => by
    unfold has
    rw [has_iff l, List.any_cons]
    cases (n == a && m == b) <;> rfl
theorem has_out {n m : Int} (h : has tabA n m = true) : 1 ≤ n ∧ n ≤ 6 ∧ 0 ≤ m ∧ m ≤ n := by
  rw [has_iff] at h
  simp only [tabA, List.any_cons, List.any_nil, Bool.or_false, Bool.or_eq_true, Bool.and_eq_true, beq_iff_eq] at h
  omega
section
variable (ad mu di : Op2) (pa : Op3) (da : Op1)
theorem rnum_in (n m t : Int) (bad : Bool) (h : 1 ≤ n ∧ n ≤ 6 ∧ 0 ≤ m ∧ m ≤ n) : rnumRaw ad mu di pa da (tblP tabA) (tblP tabB) n m t bad = numRaw ad mu di pa da n m t bad := by
  have hn : n = 1 ∨ n = 2 ∨ n = 3 ∨ n = 4 ∨ n = 5 ∨ n = 6 := by omega
  have hm : m = 0 ∨ m = 1 ∨ m = 2 ∨ m = 3 ∨ m = 4 ∨ m = 5 ∨ m = 6 := by omega
  rcases hn with rfl | rfl | rfl | rfl | rfl | rfl <;> rcases hm with rfl | rfl | rfl | rfl | rfl | rfl | rfl <;> first | (exfalso; omega) | (change _ = _; kernel_rfl)
theorem rnum_eq (n m t : Int) (bad : Bool) : rnumRaw ad mu di pa da (tblP tabA) (tblP tabB) n m t bad = numRaw ad mu di pa da n m t bad := by
  by_cases h : 1 ≤ n ∧ n ≤ 6 ∧ 0 ≤ m ∧ m ≤ n
  · exact rnum_in ad mu di pa da n m t bad h
  · have h1 : has tabA n m = false := by
      cases hb : has tabA n m with
      | false => rfl
      | true => exact absurd (has_out hb) h
    have h2 : (bif (bif (bif decide (n < 1) then true else decide (n > 6)) then true else decide (m < 0)) then true else decide (m > n)) = true := by
      by_cases a1 : n < 1
      · rw [decide_eq_true a1, bt, bt, bt]
      · rw [decide_eq_false a1, bf]
        by_cases a2 : n > 6
        · rw [decide_eq_true a2, bt, bt]
        · rw [decide_eq_false a2, bf]
          by_cases a3 : m < 0
          · rw [decide_eq_true a3, bt]
          · rw [decide_eq_false a3, bf]
            exact decide_eq_true (by omega)
    unfold rnumRaw numRaw
    rw [h1, h2]
    rfl
end
theorem number_con : Meth 9 (numF numP) := by
  refine flow_of (EnvOk.f (EnvOk.f (EnvOk.f (EnvOk.f (EnvOk.f (EnvOk.t (EnvOk.t ok_nil (enter_of Try.func17 (by kernel_rfl) rfl)) en_fFail) en_fPart part_con) Fx.en_div div_meth) Fx.en_mul mul_con) en_fAdd add_con) (enter_of Try.func16 (by kernel_rfl) rfl) days_con) 1000 _ _ (fun _ => true) _ ?_
  intro args g _ h bad
  obtain ⟨n, m, t, rfl, hg⟩ := numF_some h
  exact (number_raw add mul div Fx.part daysP n m t bad).trans ((numRaw_eq n m t bad).trans (congrArg some (hg bad).symm))
theorem rnumber_con : RMeth 10 (numF numP) := by
  refine flow_of (EnvOk.f (EnvOk.f (EnvOk.f (EnvOk.f (EnvOk.f (EnvOk.t (EnvOk.p (EnvOk.p ok_nil (enter_of Try.func28 (by kernel_rfl) rfl) ryearly_con) (enter_of Try.func25 (by kernel_rfl) rfl) rtable_con) en_rFail) en_rPart rpart_con) en_rDiv rdiv_con) en_rMul rmul_con) en_rAdd radd_con) (enter_of Try.func23 (by kernel_rfl) rfl) rdays_con) 200 _ _ (fun _ => true) _ ?_
  intro args g _ h bad
  obtain ⟨n, m, t, rfl, hg⟩ := numF_some h
  exact (rnumber_raw add mul div Fx.part daysP (tblP tabA) (tblP tabB) n m t bad).trans ((rnum_eq add mul div Fx.part daysP n m t bad).trans ((numRaw_eq n m t bad).trans (congrArg some (hg bad).symm)))
#print axioms rnumber_con
end Go.Proofs.Ytlkclpkpggapbaa.Fd
