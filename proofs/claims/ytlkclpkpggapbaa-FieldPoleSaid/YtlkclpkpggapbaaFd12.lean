/- The laws of layer 10 of numbers and of the field in the Earth's axes. Conditions: none. -/
import Derived.Test.YtlkclpkpggapbaaFd11
namespace Go.Proofs.Ytlkclpkpggapbaa.Fd
open Go Go.Proofs.Ytlkclpkpggapbaa.Ae Go.Proofs.Ytlkclpkpggapbaa.Fx Go.Proofs.Ytlkclpkpggapbaa.Lx Go.Proofs.Ytlkclpkpggapbaa.Tx Go.Proofs.Ytlkclpkpggapbaa.Te Go.Proofs.Ytlkclpkpggapbaa.Rx Go.Proofs.Ytlkclpkpggapbaa.Row Go.Proofs.Ytlkclpkpggapbaa.Ve

def vEq (a b : V3) : Bool := (a.x == b.x) && ((a.y == b.y) && ((a.z == b.z) && true))
theorem vEq_refl (a : V3) : vEq a a = true := by unfold vEq; simp
section
variable (ea rea : V3 → Int → Bool → V3 × Bool) (nu rnu : Op3p)
def envA10 : Env := [(11, .flow 25 (vtF ea)), (9, .flow 25 (numF nu))]
def awk10 : Option AV :=
  let e := ea ⟨7005208482886, 0, 0⟩ 0 false
  let g := nu 1 0 0 e.2
  some (.bool (an (an (an (decide (e.1.z > 27487790694400)) (decide (e.1.z < 32985348833280))) (!g.2)) (decide (g.1.1 < -31885837205504))))
theorem awake10_raw : acall Try.prog (envA10 ea nu) 100 8 [] [] pK = awk10 ea nu := by kernel_rfl
def envL10 : Env := (8, .pure anyArgs yesF) :: (12, .flow 27 (vtF rea)) :: (10, .flow 27 (numF rnu)) :: envA10 ea nu
theorem lnum_raw (n m t : Int) : acall Try.prog (envL10 ea rea nu rnu) 100 3 [I n, I m, I t] [] ansK =
    bif (nu n m t false).1.1 == (rnu n m t false).1.1 then (bif an true ((nu n m t false).1.2 == (rnu n m t false).1.2) then some (an true ((nu n m t false).2 == (rnu n m t false).2)) else some false) else some false := by kernel_rfl
theorem lear_raw (p : V3) (t : Int) (b : Bool) : acall Try.prog (envL10 ea rea nu rnu) 100 4 [p.av, I t, .bool b] [] ansK =
    bif vEq (ea p t b).1 (rea p t b).1 then some (an true ((ea p t b).2 == (rea p t b).2)) else some false := by kernel_rfl
end
/-! ### The awake place, number by number -/
section
variable {α : Type}
def fN (m : Nat) (k : Nat → α) : α := match m with
  | 0 => k 0
  | m + 1 => k (m + 1)
def fI (n : Int) (k : Int → α) : α := match n with
  | .ofNat m => fN m fun m => k (.ofNat m)
  | .negSucc m => fN m fun m => k (.negSucc m)
def fB (b : Bool) (k : Bool → α) : α := match b with
  | true => k true
  | false => k false
theorem fN_eq (m : Nat) (k : Nat → α) : fN m k = k m := by cases m <;> rfl
theorem fI_eq (n : Int) (k : Int → α) : fI n k = k n := by cases n with
  | ofNat m => exact fN_eq m fun m => k (.ofNat m)
  | negSucc m => exact fN_eq m fun m => k (.negSucc m)
theorem fB_eq (b : Bool) (k : Bool → α) : fB b k = k b := by cases b <;> rfl
def forceT : TT → (TT → α) → α
  | [], K => K []
  | e :: T, K => forceT T fun T => K (e :: T)
theorem forceT_eq : ∀ (T : TT) (K : TT → α), forceT T K = K T
  | [], K => rfl
  | e :: T, K => by unfold forceT; exact forceT_eq T _
def foldS (c s : Int) : List MK → TT → Bool → (TT → Bool → α) → α
  | [], T, b, K => K T b
  | k :: l, T, b, K => fI (stepT add sub mul div rootP Fx.part sqrt c s k T b).1.1 fun x => fI (stepT add sub mul div rootP Fx.part sqrt c s k T b).1.2.1 fun y => fI (stepT add sub mul div rootP Fx.part sqrt c s k T b).1.2.2 fun z =>
      fB (stepT add sub mul div rootP Fx.part sqrt c s k T b).2 fun b => forceT (putT' k (x, y, z) T) fun T => foldS c s l T b K
theorem foldS_eq (c s : Int) (K : TT → Bool → α) : ∀ (l : List MK) (T : TT) (b : Bool), foldS c s l T b K = K (foldT add sub mul div rootP Fx.part sqrt c s l T b).1 (foldT add sub mul div rootP Fx.part sqrt c s l T b).2
  | [], T, b => rfl
  | k :: l, T, b => by
    unfold foldS foldT
    rw [fI_eq, fI_eq, fI_eq, fB_eq, forceT_eq]
    exact foldS_eq c s K l _ _
def eFoldS (u v ratio tick : Int) (T : MK → Tri) : List MK → Es → (Es → α) → α
  | [], e, K => K e
  | k :: l, e, K => fI (eStepP u v ratio tick T k e).t fun t => fI (eStepP u v ratio tick T k e).cos fun c => fI (eStepP u v ratio tick T k e).sin fun s => fI (eStepP u v ratio tick T k e).up fun up =>
      fI (eStepP u v ratio tick T k e).south fun so => fI (eStepP u v ratio tick T k e).east fun ea => fB (eStepP u v ratio tick T k e).bad fun b => eFoldS u v ratio tick T l ⟨t, c, s, up, so, ea, b⟩ K
theorem eFoldS_eq (u v ratio tick : Int) (T : MK → Tri) (K : Es → α) : ∀ (l : List MK) (e : Es), eFoldS u v ratio tick T l e K = K (eFold add sub mul Fx.part numP u v ratio tick T l e)
  | [], e => rfl
  | k :: l, e => by
    unfold eFoldS eFold
    rw [fI_eq, fI_eq, fI_eq, fI_eq, fI_eq, fI_eq, fB_eq]
    exact eFoldS_eq u v ratio tick T K l _
def tailS (tick r c s u v : Int) (T : TT) (b : Bool) (K : V3 × Bool → α) : α :=
  fI (div 7005208482886 r b).1 fun ra => fB (div 7005208482886 r b).2 fun b => fI (mul ra ra b).1 fun t => fB (mul ra ra b).2 fun b =>
    eFoldS u v ra tick (fun k => lookT k T) keys27 ⟨t, 0, 0, 0, 0, 0, b⟩ fun e => K (eLastV add sub mul c s u v e)
def bodyS (tick r c s u v : Int) (bad : Bool) (K : V3 × Bool → α) : α :=
  foldS c s rounds [((0, 0), (1099511627776, 0, 0)), ((1, 1), (s, c, 1099511627776))] bad fun T b => tailS tick r c s u v T b K
end
section
variable (ad su mu di : Op2) (pa : Op3) (nu : Op3p) (tm : TmF)
def tailG (tick r c s u v : Int) (T : (MK → Tri) × Bool) : V3 × Bool :=
  let ratio := di 7005208482886 r T.2
  let t0 := mu ratio.1 ratio.1 ratio.2
  eLastV ad su mu c s u v (eFold ad su mu pa nu u v ratio.1 tick T.1 keys27 ⟨t0.1, 0, 0, 0, 0, 0, t0.2⟩)
theorem eBody_tail (tick r c s u v : Int) (bad : Bool) : eBodyV ad su mu di pa nu tm tick r c s u v bad = tailG ad su mu di pa nu tick r c s u v (tm c s bad) := rfl
end
def tailP : Int → Int → Int → Int → Int → Int → (MK → Tri) × Bool → V3 × Bool := tailG add sub mul div Fx.part numP
theorem tailS_eq {α : Type} (tick r c s u v : Int) (T : TT) (b : Bool) (K : V3 × Bool → α) : tailS tick r c s u v T b K = K (tailP tick r c s u v (fun k => lookT k T, b)) := by
  unfold tailS tailP tailG
  rw [fI_eq, fB_eq, fI_eq, fB_eq]
  exact eFoldS_eq u v _ tick _ (fun e => K (eLastV add sub mul c s u v e)) keys27 _
def eBodyVP : Int → Int → Int → Int → Int → Int → Bool → V3 × Bool := eBodyV add sub mul div Fx.part numP tmP
theorem tmP_fold (c s : Int) (bad : Bool) : tmP c s bad = (fun k => lookT k (foldT add sub mul div rootP Fx.part sqrt c s rounds [((0, 0), (1099511627776, 0, 0)), ((1, 1), (s, c, 1099511627776))] bad).1, (foldT add sub mul div rootP Fx.part sqrt c s rounds [((0, 0), (1099511627776, 0, 0)), ((1, 1), (s, c, 1099511627776))] bad).2) := by kernel_rfl
theorem bodyS_eq {α : Type} (tick r c s u v : Int) (bad : Bool) (K : V3 × Bool → α) : bodyS tick r c s u v bad K = K (eBodyVP tick r c s u v bad) := by
  refine (foldS_eq c s (fun T b => tailS tick r c s u v T b K) rounds _ bad).trans ((tailS_eq tick r c s u v _ _ K).trans (congrArg K ?_))
  rw [← tmP_fold]
  exact (eBody_tail add sub mul div Fx.part numP tmP tick r c s u v bad).symm
theorem earP_awake : earP ⟨7005208482886, 0, 0⟩ 0 false = eBodyVP 0 7005208482886 0 1099511627776 1099511627776 0 false := by kernel_rfl
def okE (p : V3 × Bool) : Bool := decide (p.1.z > 27487790694400) && (decide (p.1.z < 32985348833280) && !p.2)
def okN (p : (Int × Int) × Bool) : Bool := decide (p.1.1 < -31885837205504) && !p.2
theorem awake_num : okN (numP 1 0 0 false) = true := by kernel_rfl
theorem awake_ear : okE (earP ⟨7005208482886, 0, 0⟩ 0 false) = true := by
  rw [earP_awake]
  refine (bodyS_eq 0 7005208482886 0 1099511627776 1099511627776 0 false okE).symm.trans ?_
  kernel_rfl
theorem awk10_yes : awk10 earP numP = some (.bool true) := by
  have h := awake_ear
  unfold okE at h
  simp only [Bool.and_eq_true, Bool.not_eq_true'] at h
  obtain ⟨h1, h2, h3⟩ := h
  have g := awake_num
  unfold okN at g
  simp only [Bool.and_eq_true, Bool.not_eq_true'] at g
  obtain ⟨g1, g2⟩ := g
  unfold awk10
  dsimp only
  rw [h1, h2, h3, g1, g2]
  rfl
theorem envA10_ok : EnvOk Try.prog (envA10 earP numP) := EnvOk.f (EnvOk.f ok_nil en_Number number_con) en_Earth earth_con
theorem awake10_ok : PureOk Try.prog 8 anyArgs yesF := by
  refine pure_of envA10_ok 100 _ _ _ ?_
  rintro args v - h
  unfold yesF at h
  split at h <;> cases h
  exact ⟨rfl, rfl, (awake10_raw earP numP).trans awk10_yes⟩
theorem envL10_ok : EnvOk Try.prog (envL10 earP earP numP numP) :=
  EnvOk.p (EnvOk.f (EnvOk.f envA10_ok en_rNumber rnumber_con) en_rEarth rearth_con) (enter_of Try.func8 (by kernel_rfl) rfl) awake10_ok
theorem vec_r (p : V3) {m : List Nat} : R m p.av (.agg ⟨[.int .i64 p.x, .int .i64 p.y, .int .i64 p.z]⟩) := by
  unfold V3.av; simp only [R]; exact ⟨_, rfl, RL.cons (R_int _ _ _) (RL.cons (R_int _ _ _) (RL.cons (R_int _ _ _) (RL_nil.2 rfl)))⟩
theorem num_law (n m t : Int) (w : World) : Calls Try.prog 3 #[.int .i64 n, .int .i64 m, .int .i64 t] w fun e w' => e = .returned (.bool true) ∧ Go.RowKit.Below w.heap.size w w' :=
  law_true envL10_ok ((lnum_raw earP earP numP numP n m t).trans (by rw [beq_self_eq_true, beq_self_eq_true, beq_self_eq_true]; rfl)) (RL.cons (R_int _ _ _) (RL.cons (R_int _ _ _) (RL.cons (R_int _ _ _) (RL_nil.2 rfl))))
theorem ear_law (p : V3) (t : Int) (b : Bool) (w : World) : Calls Try.prog 4 #[.agg ⟨[.int .i64 p.x, .int .i64 p.y, .int .i64 p.z]⟩, .int .i64 t, .bool b] w fun e w' => e = .returned (.bool true) ∧ Go.RowKit.Below w.heap.size w w' :=
  law_true envL10_ok ((lear_raw earP earP numP numP p t b).trans (by rw [vEq_refl]; simp [an])) (RL.cons (vec_r p) (RL.cons (R_int _ _ _) (RL.cons (R_bool _ _) (RL_nil.2 rfl))))
#print axioms ear_law
end Go.Proofs.Ytlkclpkpggapbaa.Fd
