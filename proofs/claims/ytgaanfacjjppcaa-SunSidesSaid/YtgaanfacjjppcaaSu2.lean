/- The sun's direction, and who is shaded: the same plain functions. Conditions: none. -/
import Derived.Test.YtgaanfacjjppcaaSu1
namespace Go.Proofs.Ytgaanfacjjppcaa.Su
open Go Go.Proofs.Ytgaanfacjjppcaa.Ae Go.Proofs.Ytgaanfacjjppcaa.Fx Go.Proofs.Ytgaanfacjjppcaa.Lx Go.Proofs.Ytgaanfacjjppcaa.Tx Go.Proofs.Ytgaanfacjjppcaa.Te Go.Proofs.Ytgaanfacjjppcaa.Rx Go.Proofs.Ytgaanfacjjppcaa.Row Go.Proofs.Ytgaanfacjjppcaa.Ve Go.Proofs.Ytgaanfacjjppcaa.Orb

section
variable {ad mu : Op2} {si : Op1} (hm : ∀ a b, mu a b true = (0, true)) (ha : ∀ a b, ad a b true = (0, true)) (hi : ∀ a, si a true = (0, true))
include hm ha hi in
theorem lon_eq (x : Ang) : rlonG ad mu si x = lonG ad mu si x := by
  unfold rlonG lonG
  dsimp only
  cases x.bad
  · rcases h1 : si x.g false with ⟨v1, f1⟩
    dsimp only
    cases f1
    · rcases h2 : mu 36749037801 v1 false with ⟨v2, f2⟩
      dsimp only
      cases f2
      · rcases h3 : ad x.q v2 false with ⟨v3, f3⟩
        rcases h4 : si (wr .i64 (2 * x.g)) false with ⟨v4, f4⟩
        dsimp only
        cases f3
        · rw [h4]
          dsimp only
          cases f4
          · rcases h5 : mu 383801961 v4 false with ⟨v5, f5⟩
            dsimp only
            cases f5
            · rw [h3]
            · simp only [hm, ha, hi]
          · simp only [hm, ha, hi]
        · simp only [hm, ha, hi]
          cases f4
          · rcases h5 : mu 383801961 v4 false with ⟨v5, f5⟩
            dsimp only
            cases f5
            · rw [h3]; simp only [hm, ha, hi]
            · simp only [hm, ha, hi]
          · simp only [hm, ha, hi]
      · simp only [hm, ha, hi]
    · simp only [hm, ha, hi]
  · simp only [hm, ha, hi]
end
def angP : Int → Bool → Ang := angG add mul mod daysP
def lonP : Ang → Int × Bool := lonG add mul sinP
def tipP (d : Int) (l : Int × Bool) : V3 × Bool :=
  let e1 := mul 6908 d l.2
  let e := sub 449733620800 e1.1 e1.2
  let s := sinP l.1 e.2
  let c1 := cosP l.1 s.2
  let c2 := cosP e.1 c1.2
  let y := mul c2.1 s.1 c2.2
  let s3 := sinP e.1 y.2
  let z := mul s3.1 s.1 s3.2
  endP c1.1 y.1 z.1 z.2
def dirP (tick : Int) (bad : Bool) : V3 × Bool := tipP (angP tick bad).d (lonP (angP tick bad))
theorem tip_eq (d : Int) (l : Int × Bool) : tipRaw sub mul sinP cosP d l = some ((tipP d l).1.av, (tipP d l).2) := endV_eq ..
theorem dirRaw_eq (tick : Int) (bad : Bool) : dirRaw add sub mul mod sinP cosP daysP tick bad = some ((dirP tick bad).1.av, (dirP tick bad).2) := tip_eq ..
theorem rdirRaw_eq (tick : Int) (bad : Bool) : rdirRaw add sub mul mod sinP cosP daysP tick bad = some ((dirP tick bad).1.av, (dirP tick bad).2) := by
  rw [← dirRaw_eq]
  unfold rdirRaw dirRaw
  dsimp only
  rw [lon_eq mul_bad add_bad sin_bad]
def tickF (u : Int → Bool → V3 × Bool) : List AV → Option (Bool → AV × Bool)
  | [.int .i64 t] => some fun bad => ((u t bad).1.av, (u t bad).2)
  | _ => none
theorem tickF_some {u : Int → Bool → V3 × Bool} {args : List AV} {g : Bool → AV × Bool} (h : tickF u args = some g) : ∃ t, args = [I t] ∧ ∀ bad, g bad = ((u t bad).1.av, (u t bad).2) := by
  unfold tickF at h
  split at h <;> cases h
  exact ⟨_, rfl, fun _ => rfl⟩
def vv1F (u : V3 → V3 → Bool → Int × Bool) : List AV → Option (Bool → AV × Bool)
  | [.agg [.int .i64 a, .int .i64 b, .int .i64 c], .agg [.int .i64 d, .int .i64 e, .int .i64 f]] => some fun bad => (I (u ⟨a, b, c⟩ ⟨d, e, f⟩ bad).1, (u ⟨a, b, c⟩ ⟨d, e, f⟩ bad).2)
  | _ => none
theorem vv1F_some {u : V3 → V3 → Bool → Int × Bool} {args : List AV} {g : Bool → AV × Bool} (h : vv1F u args = some g) : ∃ a b : V3, args = [a.av, b.av] ∧ ∀ bad, g bad = (I (u a b bad).1, (u a b bad).2) := by
  unfold vv1F at h
  split at h <;> cases h
  exact ⟨⟨_, _, _⟩, ⟨_, _, _⟩, rfl, fun _ => rfl⟩
def vvF (u : V3 → V3 → Bool → V3 × Bool) : List AV → Option (Bool → AV × Bool)
  | [.agg [.int .i64 a, .int .i64 b, .int .i64 c], .agg [.int .i64 d, .int .i64 e, .int .i64 f]] => some fun bad => ((u ⟨a, b, c⟩ ⟨d, e, f⟩ bad).1.av, (u ⟨a, b, c⟩ ⟨d, e, f⟩ bad).2)
  | _ => none
theorem vvF_some {u : V3 → V3 → Bool → V3 × Bool} {args : List AV} {g : Bool → AV × Bool} (h : vvF u args = some g) : ∃ a b : V3, args = [a.av, b.av] ∧ ∀ bad, g bad = ((u a b bad).1.av, (u a b bad).2) := by
  unfold vvF at h
  split at h <;> cases h
  exact ⟨⟨_, _, _⟩, ⟨_, _, _⟩, rfl, fun _ => rfl⟩
def vkF (u : V3 → Int → Bool → V3 × Bool) : List AV → Option (Bool → AV × Bool)
  | [.agg [.int .i64 a, .int .i64 b, .int .i64 c], .int .i64 k] => some fun bad => ((u ⟨a, b, c⟩ k bad).1.av, (u ⟨a, b, c⟩ k bad).2)
  | _ => none
theorem vkF_some {u : V3 → Int → Bool → V3 × Bool} {args : List AV} {g : Bool → AV × Bool} (h : vkF u args = some g) : ∃ (a : V3) (k : Int), args = [a.av, I k] ∧ ∀ bad, g bad = ((u a k bad).1.av, (u a k bad).2) := by
  unfold vkF at h
  split at h <;> cases h
  exact ⟨⟨_, _, _⟩, _, rfl, fun _ => rfl⟩
def dotP : V3 → V3 → Bool → Int × Bool := dotG add mul
def scaP : V3 → Int → Bool → V3 × Bool := scaG mul
def vsubP : V3 → V3 → Bool → V3 × Bool := subG sub
theorem dot_con : Meth 17 (vv1F dotP) := by
  refine flow_of (EnvOk.f (EnvOk.f ok_nil Fx.en_mul mul_con) en_fAdd add_con) 60 _ _ (fun _ => true) _ ?_
  intro args g _ h bad
  obtain ⟨a, b, rfl, hg⟩ := vv1F_some h
  exact (dot_raw add mul a b bad).trans (congrArg some (hg bad).symm)
theorem sca_con : Meth 19 (vkF scaP) := by
  refine flow_of (EnvOk.f (EnvOk.t (EnvOk.t ok_nil (enter_of Try.func47 (by kernel_rfl) rfl)) (enter_of Try.func46 (by kernel_rfl) rfl)) Fx.en_mul mul_con) 80 _ _ (fun _ => true) _ ?_
  intro args g _ h bad
  obtain ⟨a, b, rfl, hg⟩ := vkF_some h
  exact (sca_raw mul a b bad).trans ((endV_eq ..).trans (congrArg some (hg bad).symm))
theorem vsub_con : Meth 45 (vvF vsubP) := by
  refine flow_of (EnvOk.f (EnvOk.t (EnvOk.t ok_nil (enter_of Try.func84 (by kernel_rfl) rfl)) (enter_of Try.func46 (by kernel_rfl) rfl)) en_sub sub_con) 80 _ _ (fun _ => true) _ ?_
  intro args g _ h bad
  obtain ⟨a, b, rfl, hg⟩ := vvF_some h
  exact (sub_raw sub a b bad).trans ((endV_eq ..).trans (congrArg some (hg bad).symm))
theorem en_fDays : EnterOk Try.prog 34 := enter_of Try.func34 (by kernel_rfl) rfl
theorem en_rDays : EnterOk Try.prog 37 := enter_of Try.func37 (by kernel_rfl) rfl
theorem dir_con : Meth 14 (tickF dirP) := by
  refine flow_of (EnvOk.f (EnvOk.f (EnvOk.f (EnvOk.f (EnvOk.f (EnvOk.f (EnvOk.f (EnvOk.t ok_nil (enter_of Try.func35 (by kernel_rfl) rfl)) en_fDays days_con) en_fMod mod_con) Fx.en_mul mul_con) en_sub sub_con) en_fAdd add_con) en_Cos cos_con) en_Sin sin_con) 100 _ _ (fun _ => true) _ ?_
  intro args g _ h bad
  obtain ⟨t, rfl, hg⟩ := tickF_some h
  exact (dir_raw add sub mul mod sinP cosP daysP t bad).trans ((dirRaw_eq t bad).trans (congrArg some (hg bad).symm))
theorem rdir_con : RMeth 15 (tickF dirP) := by
  refine flow_of (EnvOk.f (EnvOk.f (EnvOk.f (EnvOk.f (EnvOk.f (EnvOk.f (EnvOk.f ok_nil en_rDays rdays_con) en_rMod rmod_con) en_rMul rmul_con) en_rSub rsub_con) Rx.en_rAdd radd_con) en_rCos rcos_con) en_rSin rsin_con) 100 _ _ (fun _ => true) _ ?_
  intro args g _ h bad
  obtain ⟨t, rfl, hg⟩ := tickF_some h
  exact (rdir_raw add sub mul mod sinP cosP daysP t bad).trans ((rdirRaw_eq t bad).trans (congrArg some (hg bad).symm))
#print axioms rdir_con
end Go.Proofs.Ytgaanfacjjppcaa.Su
