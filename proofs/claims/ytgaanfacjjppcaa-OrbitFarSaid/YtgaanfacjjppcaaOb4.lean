/- Kepler's angle and the place: the program's and the reference's are the same plain functions. Conditions: none. -/
import Derived.Test.YtgaanfacjjppcaaOb3
namespace Go.Proofs.Ytgaanfacjjppcaa.Orb
open Go Go.Proofs.Ytgaanfacjjppcaa.Ae Go.Proofs.Ytgaanfacjjppcaa.Fx Go.Proofs.Ytgaanfacjjppcaa.Lx Go.Proofs.Ytgaanfacjjppcaa.Tx Go.Proofs.Ytgaanfacjjppcaa.Te Go.Proofs.Ytgaanfacjjppcaa.Rx Go.Proofs.Ytgaanfacjjppcaa.Row Go.Proofs.Ytgaanfacjjppcaa.Ve

def daysP (t : Int) (bad : Bool) : Int × Bool := Fx.part 1099511627776 t 86400000 (bif !(ckT t) then true else bad)
def keplerP (m e : Int) (bad : Bool) : Int × Bool := kepG add sub mul div sinP cosP m e (bif (bif decide (e < 0) then true else decide (e > 109951162777)) then true else bad)
def aboutP : Op33 := aboG add sub mul sinP cosP
theorem rckT_eq (t : Int) : rckT t = ckT t := rfl
theorem daysG_eq (t : Int) (bad : Bool) : daysG Fx.part ckT t bad = some (I (daysP t bad).1, (daysP t bad).2) := by
  unfold daysG daysP
  cases ckT t <;> rfl
theorem kepRaw_eq (m e : Int) (bad : Bool) : kepRaw add sub mul div sinP cosP m e bad = some (I (keplerP m e bad).1, (keplerP m e bad).2) := by
  unfold kepRaw keplerP
  dsimp only
  cases (bif decide (e < 0) then true else decide (e > 109951162777)) <;> rfl
theorem tup2F_some {ab : Op33} {args : List AV} {g : Bool → AV × Bool} (h : tup2F ab args = some g) : ∃ u v a, args = [I u, I v, I a] ∧ ∀ bad, g bad = (.tup [I (ab u v a bad).1.1, I (ab u v a bad).1.2], (ab u v a bad).2) := by
  unfold tup2F at h
  split at h <;> cases h
  exact ⟨_, _, _, rfl, fun _ => rfl⟩
theorem days_con : Meth 34 (int1 daysP) := by
  refine flow_of (EnvOk.t (EnvOk.t (EnvOk.f ok_nil (enter_of Try.func57 (by kernel_rfl) rfl) part_con) (enter_of Try.func52 (by kernel_rfl) rfl)) (enter_of Try.func49 (by kernel_rfl) rfl)) 60 _ _ (fun _ => true) _ ?_
  intro args g _ h bad
  obtain ⟨a, rfl, hg⟩ := int1_some h
  exact (days_raw Fx.part a bad).trans ((daysG_eq a bad).trans (hg bad).symm)
theorem rdays_con : RMeth 37 (int1 daysP) := by
  refine flow_of (EnvOk.t (EnvOk.t (EnvOk.f ok_nil en_rPart rpart_con) (enter_of Try.func54 (by kernel_rfl) rfl)) (enter_of Try.func51 (by kernel_rfl) rfl)) 60 _ _ (fun _ => true) _ ?_
  intro args g _ h bad
  obtain ⟨a, rfl, hg⟩ := int1_some h
  exact (rdays_raw Fx.part a bad).trans ((daysG_eq a bad).trans (hg bad).symm)
theorem en_fFail : EnterOk Try.prog 52 := enter_of Try.func52 (by kernel_rfl) rfl
theorem en_rFail : EnterOk Try.prog 54 := enter_of Try.func54 (by kernel_rfl) rfl
theorem en_rAdd : EnterOk Try.prog 39 := enter_of Try.func39 (by kernel_rfl) rfl
theorem en_fAdd : EnterOk Try.prog 36 := enter_of Try.func36 (by kernel_rfl) rfl
theorem en_fSqrt : EnterOk Try.prog 56 := enter_of Try.func56 (by kernel_rfl) rfl
theorem en_fMod : EnterOk Try.prog 58 := enter_of Try.func58 (by kernel_rfl) rfl
theorem en_fPart : EnterOk Try.prog 57 := enter_of Try.func57 (by kernel_rfl) rfl
theorem about_con : Meth 59 (tup2F aboutP) := by
  refine flow_of (EnvOk.f (EnvOk.f (EnvOk.f (EnvOk.f (EnvOk.f ok_nil Fx.en_mul mul_con) en_sub sub_con) en_fAdd add_con) en_Cos cos_con) en_Sin sin_con) 60 _ _ (fun _ => true) _ ?_
  intro args g _ h bad
  obtain ⟨u, v, a, rfl, hg⟩ := tup2F_some h
  exact (about_raw add sub mul sinP cosP u v a bad).trans (congrArg some (hg bad).symm)
theorem envK8_ok : EnvOk Try.prog (envK8 add sub mul div sinP cosP) := EnvOk.f (EnvOk.f (EnvOk.f (EnvOk.f (EnvOk.f (EnvOk.f (EnvOk.t ok_nil en_fFail) Fx.en_div div_meth) Fx.en_mul mul_con) en_sub sub_con) en_fAdd add_con) en_Cos cos_con) en_Sin sin_con
theorem renvK8_ok : EnvOk Try.prog (renvK8 add sub mul div sinP cosP) := EnvOk.f (EnvOk.f (EnvOk.f (EnvOk.f (EnvOk.f (EnvOk.f (EnvOk.t ok_nil en_rFail) en_rDiv rdiv_con) en_rMul rmul_con) en_rSub rsub_con) en_rAdd radd_con) en_rCos rcos_con) en_rSin rsin_con
theorem kepler_con : Meth 23 (int2 keplerP) := by
  refine flow_of envK8_ok 100 _ _ (fun _ => true) _ ?_
  intro args g _ h bad
  obtain ⟨a, b, rfl, hg⟩ := int2_some h
  exact (kepler_raw add sub mul div sinP cosP a b bad).trans ((kepRaw_eq a b bad).trans (hg bad).symm)
theorem rkepler_con : RMeth 24 (int2 keplerP) := by
  refine flow_of renvK8_ok 100 _ _ (fun _ => true) _ ?_
  intro args g _ h bad
  obtain ⟨a, b, rfl, hg⟩ := int2_some h
  exact (rkepler_raw add sub mul div sinP cosP a b bad).trans ((kepRaw_eq a b bad).trans (hg bad).symm)

/-! ### The place -/
def tailP (ad su mu : Op2) (si co : Op1) (a b cc ss node : Int) (bad : Bool) : Option (AV × Bool) :=
  let h := mu b cc bad
  let q := aboG ad su mu si co a h.1 node h.2
  let z := mu b ss q.2
  endV q.1.1 q.1.2 z.1 z.2
def tailR (ad su mu : Op2) (si co : Op1) (a b cc ss node : Int) (bad : Bool) : Option (AV × Bool) :=
  let cn := co node bad
  let sn := si node cn.2
  let h1 := mu a cn.1 sn.2
  let h2 := mu b cc h1.2
  let h3 := mu h2.1 sn.1 h2.2
  let x := su h1.1 h3.1 h3.2
  let g1 := mu a sn.1 x.2
  let g2 := mu b cc g1.2
  let g3 := mu g2.1 cn.1 g2.2
  let y := ad g1.1 g3.1 g3.2
  let z := mu b ss y.2
  endV x.1 y.1 z.1 z.2
section
variable {ad su mu : Op2} {si co : Op1} (hm : ∀ a b, mu a b true = (0, true)) (ha : ∀ a b, ad a b true = (0, true)) (hs : ∀ a b, su a b true = (0, true)) (hi : ∀ a, si a true = (0, true)) (hc : ∀ a, co a true = (0, true))
include hm ha hs hi hc in
/-- The last steps, in the one order and in the other. -/
theorem tail_eq (a b cc ss node : Int) (bad : Bool) : tailP ad su mu si co a b cc ss node bad = tailR ad su mu si co a b cc ss node bad := by
  unfold tailP tailR
  unfold aboG
  dsimp only
  cases bad
  · rcases hh : mu b cc false with ⟨hv, hf⟩
    rcases hcn : co node false with ⟨cn, cf⟩
    cases hf
    · dsimp only
      rw [hcn]
      dsimp only
      cases cf
      · rcases hsn : si node false with ⟨sn, sf⟩
        dsimp only
        cases sf
        · rcases h1 : mu a cn false with ⟨v1, f1⟩
          dsimp only
          cases f1
          · rw [hh]
            dsimp only
            rcases h3 : mu hv sn false with ⟨v3, f3⟩
            dsimp only
            cases f3
            · rcases hx : su v1 v3 false with ⟨vx, fx⟩
              dsimp only
              cases fx
              · rcases hg : mu a sn false with ⟨vg, fg⟩
                dsimp only
                cases fg
                · rw [hh]
                · simp only [hm, ha, hs, hi, hc]
              · simp only [hm, ha, hs, hi, hc]
            · simp only [hm, ha, hs, hi, hc]
          · simp only [hm, ha, hs, hi, hc]
        · simp only [hm, ha, hs, hi, hc]
      · simp only [hm, ha, hs, hi, hc]
    · dsimp only
      simp only [hm, ha, hs, hi, hc]
      cases cf
      · rcases hsn : si node false with ⟨sn, sf⟩
        dsimp only
        cases sf
        · rcases h1 : mu a cn false with ⟨v1, f1⟩
          dsimp only
          cases f1
          · rw [hh]
            simp only [hm, ha, hs, hi, hc]
          · simp only [hm, ha, hs, hi, hc]
        · simp only [hm, ha, hs, hi, hc]
      · simp only [hm, ha, hs, hi, hc]
  · simp only [hm, ha, hs, hi, hc]
end
theorem mul_bad (a b : Int) : mul a b true = (0, true) := rfl
theorem add_bad (a b : Int) : add a b true = (0, true) := rfl
theorem sub_bad (a b : Int) : sub a b true = (0, true) := rfl
theorem sin_bad (a : Int) : sinP a true = (0, true) := by unfold sinP turnP; rw [show mod a 6908435304716 true = (0, true) from rfl]; rfl
theorem cos_bad (a : Int) : cosP a true = (0, true) := by unfold cosP turnP; rw [show mod a 6908435304716 true = (0, true) from rfl]; rfl
def endP (x y z : Int) (bad : Bool) : V3 × Bool := bif bad then (V3.zero, true) else (⟨x, y, z⟩, false)
theorem endV_eq (x y z : Int) (bad : Bool) : endV x y z bad = some ((endP x y z bad).1.av, (endP x y z bad).2) := by cases bad <;> rfl
def midP : El → Int → Bool → Mid := midG add sub mul div mod keplerP sqrt sinP cosP daysP Fx.part
/-- The place in its plane. -/
def planeP (o : El) (m : Mid) : (Int × Int) × Bool :=
  let y1 := cosP m.x m.bad
  let y2 := sub y1.1 o.e y1.2
  let u := mul o.a y2.1 y2.2
  let v1 := mul o.a m.r u.2
  let v2 := sinP m.x v1.2
  let v := mul v1.1 v2.1 v2.2
  aboutP u.1 v.1 m.peri v.2
def skyP (m : Mid) (p : (Int × Int) × Bool) : V3 × Bool :=
  let h := mul p.1.2 m.c p.2
  let q := aboutP p.1.1 h.1 m.node h.2
  let z := mul p.1.2 m.s q.2
  endP q.1.1 q.1.2 z.1 z.2
def placeP (o : El) (tick : Int) (bad : Bool) : V3 × Bool :=
  bif !(rightO o) then (V3.zero, true) else bif !(ckT tick) then (V3.zero, true) else bif bad then (V3.zero, true) else
  let m := midP o tick bad
  skyP m (planeP o m)
theorem plcRaw_eq (o : El) (tick : Int) (bad : Bool) : plcRaw add sub mul div mod keplerP sqrt sinP cosP daysP Fx.part aboutP o tick bad = some ((skyP (midP o tick bad) (planeP o (midP o tick bad))).1.av, (skyP (midP o tick bad) (planeP o (midP o tick bad))).2) := endV_eq ..
section
variable (ad su mu di mo ke : Op2) (sq si co da : Op1) (pa : Op3)
def plnG (o : El) (m : Mid) : (Int × Int) × Bool :=
  let y1 := co m.x m.bad
  let y2 := su y1.1 o.e y1.2
  let u := mu o.a y2.1 y2.2
  let v1 := mu o.a m.r u.2
  let v2 := si m.x v1.2
  let v := mu v1.1 v2.1 v2.2
  aboG ad su mu si co u.1 v.1 m.peri v.2
theorem plc_tail (o : El) (tick : Int) (bad : Bool) : plcRaw ad su mu di mo ke sq si co da pa (aboG ad su mu si co) o tick bad =
    (let m := midG ad su mu di mo ke sq si co da pa o tick bad; let p := plnG ad su mu si co o m; tailP ad su mu si co p.1.1 p.1.2 m.c m.s m.node p.2) := by kernel_rfl
theorem rplc_tail (o : El) (tick : Int) (bad : Bool) : rplcRaw ad su mu di mo ke sq si co da pa o tick bad =
    (let m := midG ad su mu di mo ke sq si co da pa o tick bad; let p := plnG ad su mu si co o m; tailR ad su mu si co p.1.1 p.1.2 m.c m.s m.node p.2) := by kernel_rfl
theorem rplcRaw_gen (hm : ∀ a b, mu a b true = (0, true)) (ha : ∀ a b, ad a b true = (0, true)) (hs : ∀ a b, su a b true = (0, true)) (hi : ∀ a, si a true = (0, true)) (hc : ∀ a, co a true = (0, true)) (o : El) (tick : Int) (bad : Bool) :
    rplcRaw ad su mu di mo ke sq si co da pa o tick bad = plcRaw ad su mu di mo ke sq si co da pa (aboG ad su mu si co) o tick bad := by
  rw [plc_tail, rplc_tail]
  exact (tail_eq hm ha hs hi hc _ _ _ _ _ _).symm
end
theorem rplcRaw_eq (o : El) (tick : Int) (bad : Bool) : rplcRaw add sub mul div mod keplerP sqrt sinP cosP daysP Fx.part o tick bad = plcRaw add sub mul div mod keplerP sqrt sinP cosP daysP Fx.part aboutP o tick bad :=
  rplcRaw_gen _ _ _ _ _ _ _ _ _ _ _ mul_bad add_bad sub_bad sin_bad cos_bad o tick bad
theorem placeRaw_eq (o : El) (tick : Int) (bad : Bool) : placeRaw add sub mul div mod keplerP sqrt sinP cosP daysP Fx.part aboutP rightO ckT o tick bad = some ((placeP o tick bad).1.av, (placeP o tick bad).2) := by
  unfold placeRaw placeP
  rw [plcRaw_eq]
  cases rightO o
  · rfl
  · cases ckT tick
    · rfl
    · cases bad
      · simp only [Bool.not_true, cond_false]
      · rfl
theorem rplaceRaw_eq (o : El) (tick : Int) (bad : Bool) : rplaceRaw add sub mul div mod keplerP sqrt sinP cosP daysP Fx.part rightO rckT o tick bad = some ((placeP o tick bad).1.av, (placeP o tick bad).2) := by
  rw [← placeRaw_eq]
  unfold rplaceRaw placeRaw
  rw [rplcRaw_eq, rckT_eq]
def plcF (pl : El → Int → Bool → V3 × Bool) : List AV → Option (Bool → AV × Bool)
  | [.agg [.int .i64 a, .int .i64 e, .int .i64 i, .int .i64 n, .int .i64 p, .int .i64 m, .int .i64 t], .int .i64 k] => some fun bad => ((pl ⟨a, e, i, n, p, m, t⟩ k bad).1.av, (pl ⟨a, e, i, n, p, m, t⟩ k bad).2)
  | _ => none
theorem plcF_some {pl : El → Int → Bool → V3 × Bool} {args : List AV} {g : Bool → AV × Bool} (h : plcF pl args = some g) : ∃ (o : El) (k : Int), args = [.agg o.av, I k] ∧ ∀ bad, g bad = ((pl o k bad).1.av, (pl o k bad).2) := by
  unfold plcF at h
  split at h <;> cases h
  exact ⟨⟨_, _, _, _, _, _, _⟩, _, rfl, fun _ => rfl⟩
theorem place_con : Meth 25 (plcF placeP) := by
  have hE : EnvOk Try.prog (envP8 add sub mul div mod keplerP sqrt sinP cosP daysP Fx.part aboutP rightO) :=
    EnvOk.f (EnvOk.f (EnvOk.f (EnvOk.f (EnvOk.f (EnvOk.f (EnvOk.f (EnvOk.f (EnvOk.f (EnvOk.f (EnvOk.f (EnvOk.f (EnvOk.p (EnvOk.t (EnvOk.t ok_nil en_fFail) (enter_of Try.func49 (by kernel_rfl) rfl)) (enter_of Try.func21 (by kernel_rfl) rfl) oright_con)
      (enter_of Try.func59 (by kernel_rfl) rfl) about_con) (enter_of Try.func23 (by kernel_rfl) rfl) kepler_con) (enter_of Try.func34 (by kernel_rfl) rfl) days_con)
      en_fPart part_con) en_fSqrt sqrt_con) en_fMod mod_con) Fx.en_div div_meth) Fx.en_mul mul_con) en_sub sub_con) en_fAdd add_con) en_Cos cos_con) en_Sin sin_con
  refine flow_of hE 150 _ _ (fun _ => true) _ ?_
  intro args g _ h bad
  obtain ⟨o, k, rfl, hg⟩ := plcF_some h
  exact (place_raw add sub mul div mod keplerP sqrt sinP cosP daysP Fx.part aboutP rightO o k bad).trans ((placeRaw_eq o k bad).trans (congrArg some (hg bad).symm))
theorem rplace_con : RMeth 26 (plcF placeP) := by
  have hE : EnvOk Try.prog (renvP8 add sub mul div mod keplerP sqrt sinP cosP daysP Fx.part rightO) :=
    EnvOk.f (EnvOk.f (EnvOk.f (EnvOk.f (EnvOk.f (EnvOk.f (EnvOk.f (EnvOk.f (EnvOk.f (EnvOk.f (EnvOk.f (EnvOk.p (EnvOk.t (EnvOk.t ok_nil en_rFail) (enter_of Try.func51 (by kernel_rfl) rfl)) (enter_of Try.func22 (by kernel_rfl) rfl) roright_con)
      (enter_of Try.func24 (by kernel_rfl) rfl) rkepler_con) (enter_of Try.func37 (by kernel_rfl) rfl) rdays_con)
      en_rPart rpart_con) en_rSqrt rsqrt_con) en_rMod rmod_con) en_rDiv rdiv_con) en_rMul rmul_con) en_rSub rsub_con) en_rAdd radd_con) en_rCos rcos_con) en_rSin rsin_con
  refine flow_of hE 150 _ _ (fun _ => true) _ ?_
  intro args g _ h bad
  obtain ⟨o, k, rfl, hg⟩ := plcF_some h
  exact (rplace_raw add sub mul div mod keplerP sqrt sinP cosP daysP Fx.part rightO o k bad).trans ((rplaceRaw_eq o k bad).trans (congrArg some (hg bad).symm))
#print axioms rplace_con
end Go.Proofs.Ytgaanfacjjppcaa.Orb
