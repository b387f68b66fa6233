/- The field in the sky's axes, the program's and the reference's; the law. Conditions: none. -/
import Derived.Test.YtlkclpkpggapbaaFd12
namespace Go.Proofs.Ytlkclpkpggapbaa.Fd
open Go Go.Proofs.Ytlkclpkpggapbaa.Ae Go.Proofs.Ytlkclpkpggapbaa.Fx Go.Proofs.Ytlkclpkpggapbaa.Lx Go.Proofs.Ytlkclpkpggapbaa.Tx Go.Proofs.Ytlkclpkpggapbaa.Te Go.Proofs.Ytlkclpkpggapbaa.Rx Go.Proofs.Ytlkclpkpggapbaa.Row Go.Proofs.Ytlkclpkpggapbaa.Ve

section
variable (ad su mu mo : Op2) (pa : Op3) (da tu si co : Op1) (ea sk rsk : V3 → Int → Bool → V3 × Bool)
def turnE (t : Int) (d : Int × Bool) : Int × Bool :=
  let p := pa 6908435304716 (t.tmod 86400000) 86400000 d.2
  let a := ad 5399947124839 p.1 p.2
  let m := mu 18914669620 d.1 a.2
  let b := ad a.1 m.1 m.2
  mo b.1 6908435304716 b.2
theorem turn_raw (t : Int) (bad : Bool) : acall Try.prog [(21, m2 25 ad), (22, m2 25 mu), (65, m2 25 mo), (19, m3 25 pa), (16, m1 25 da)] 100 39 [.ptr 0 0, I t] [.cells [.bool bad] 25] (flowK 25) =
    some (I (turnE ad mu mo pa t (da t bad)).1, (turnE ad mu mo pa t (da t bad)).2) := by kernel_rfl
theorem rturn_raw (t : Int) (bad : Bool) : acall Try.prog [(29, m2 27 ad), (30, m2 27 mu), (67, m2 27 mo), (26, m3 27 pa), (23, m1 27 da)] 100 42 [.ptr 0 0, I t] [.cells [.bool bad] 27] (flowK 27) =
    bif (da t bad).2 then some (I 0, (da t bad).2) else some (I (turnE ad mu mo pa t (da t bad)).1, (turnE ad mu mo pa t (da t bad)).2) := by kernel_rfl
def skyE {β : Type} (k : Int → Int → Int → Bool → β) (x y z t : Int) (bad : Bool) : β :=
  let q := tu t bad
  let c := co q.1 q.2
  let s := si q.1 c.2
  let x1 := mu x c.1 s.2
  let x2 := mu y s.1 x1.2
  let xx := ad x1.1 x2.1 x2.2
  let y1 := mu y c.1 xx.2
  let y2 := mu x s.1 y1.2
  let yy := su y1.1 y2.1 y2.2
  let b := ea ⟨xx.1, yy.1, z⟩ t yy.2
  let u1 := mu b.1.x c.1 b.2
  let u2 := mu b.1.y s.1 u1.2
  let u := su u1.1 u2.1 u2.2
  let v1 := mu b.1.y c.1 u.2
  let v2 := mu b.1.x s.1 v1.2
  let v := ad v1.1 v2.1 v2.2
  k u.1 v.1 b.1.z v.2
def envS : Env := [(21, m2 25 ad), (34, m2 25 su), (22, m2 25 mu), (41, m1 25 si), (40, m1 25 co), (39, m1 25 tu), (11, .flow 25 (vtF ea))]
theorem sky_raw (x y z t : Int) (bad : Bool) : acall Try.prog (envS ad su mu tu si co ea) 100 13 [.ptr 0 0, V3.av ⟨x, y, z⟩, I t] [.cells [.bool bad] 25] (flowK 25) =
    skyE ad su mu tu si co ea endE x y z t bad := by kernel_rfl
def renvS : Env := [(29, m2 27 ad), (37, m2 27 su), (30, m2 27 mu), (44, m1 27 si), (43, m1 27 co), (42, m1 27 tu), (12, .flow 27 (vtF ea))]
theorem rsky_raw (x y z t : Int) (bad : Bool) : acall Try.prog (renvS ad su mu tu si co ea) 100 14 [.ptr 0 0, V3.av ⟨x, y, z⟩, I t] [.cells [.bool bad] 27] (flowK 27) =
    skyE ad su mu tu si co ea endE x y z t bad := by kernel_rfl
theorem sky_v (x y z t : Int) (bad : Bool) : skyE ad su mu tu si co ea endE x y z t bad = someV (skyE ad su mu tu si co ea endV x y z t bad) := endE_v _ _ _ _
def envL10s : Env := [(8, .pure anyArgs yesF), (14, .flow 27 (vtF rsk)), (13, .flow 25 (vtF sk))]
theorem lsky_raw (p : V3) (t : Int) (b : Bool) : acall Try.prog (envL10s sk rsk) 100 5 [p.av, I t, .bool b] [] ansK =
    bif vEq (sk p t b).1 (rsk p t b).1 then some (an true ((sk p t b).2 == (rsk p t b).2)) else some false := by kernel_rfl
end
def turnP (t : Int) (bad : Bool) : Int × Bool := turnE add mul mod Fx.part t (daysP t bad)
theorem mod_badT (a b : Int) : mod a b true = (0, true) := rfl
theorem turnE_bad (t d : Int) : turnE add mul mod Fx.part t (d, true) = (0, true) := rfl
theorem turn_con : Meth 39 (int1 turnP) := by
  refine flow_of (EnvOk.f (EnvOk.f (EnvOk.f (EnvOk.f (EnvOk.f ok_nil (enter_of Try.func16 (by kernel_rfl) rfl) days_con) en_fPart part_con) en_fMod mod_con) Fx.en_mul mul_con) en_fAdd add_con) 100 _ _ (fun _ => true) _ ?_
  intro args g _ h bad
  obtain ⟨a, rfl, hg⟩ := int1_some h
  exact (turn_raw add mul mod Fx.part daysP a bad).trans (hg bad).symm
theorem rturn_con : RMeth 42 (int1 turnP) := by
  refine flow_of (EnvOk.f (EnvOk.f (EnvOk.f (EnvOk.f (EnvOk.f ok_nil (enter_of Try.func23 (by kernel_rfl) rfl) rdays_con) en_rPart rpart_con) en_rMod rmod_con) en_rMul rmul_con) en_rAdd radd_con) 100 _ _ (fun _ => true) _ ?_
  intro args g _ h bad
  obtain ⟨a, rfl, hg⟩ := int1_some h
  refine (rturn_raw add mul mod Fx.part daysP a bad).trans (Eq.trans (b := some (I (turnP a bad).1, (turnP a bad).2)) ?_ (hg bad).symm)
  unfold turnP
  generalize daysP a bad = d
  obtain ⟨d, b⟩ := d
  cases b with
  | true => rw [turnE_bad]; rfl
  | false => rw [bf]
def skyP (p : V3) (t : Int) (bad : Bool) : V3 × Bool := skyE add sub mul turnP sinP cosP earP endV p.x p.y p.z t bad
theorem sky_con : Meth 13 (vtF skyP) := by
  refine flow_of (EnvOk.f (EnvOk.f (EnvOk.f (EnvOk.f (EnvOk.f (EnvOk.f (EnvOk.f ok_nil en_Earth earth_con) (enter_of Try.func39 (by kernel_rfl) rfl) turn_con) (enter_of Try.func40 (by kernel_rfl) rfl) cos_con) (enter_of Try.func41 (by kernel_rfl) rfl) sin_con) Fx.en_mul mul_con) Fx.en_sub sub_con) en_fAdd add_con) 100 _ _ (fun _ => true) _ ?_
  intro args g _ h bad
  obtain ⟨p, t, rfl, hg⟩ := vtF_some h
  exact (sky_raw add sub mul turnP sinP cosP earP p.x p.y p.z t bad).trans ((sky_v add sub mul turnP sinP cosP earP p.x p.y p.z t bad).trans (congrArg some (hg bad).symm))
theorem rsky_con : RMeth 14 (vtF skyP) := by
  refine flow_of (EnvOk.f (EnvOk.f (EnvOk.f (EnvOk.f (EnvOk.f (EnvOk.f (EnvOk.f ok_nil en_rEarth rearth_con) (enter_of Try.func42 (by kernel_rfl) rfl) rturn_con) (enter_of Try.func43 (by kernel_rfl) rfl) rcos_con) (enter_of Try.func44 (by kernel_rfl) rfl) rsin_con) en_rMul rmul_con) en_rSub rsub_con) en_rAdd radd_con) 100 _ _ (fun _ => true) _ ?_
  intro args g _ h bad
  obtain ⟨p, t, rfl, hg⟩ := vtF_some h
  exact (rsky_raw add sub mul turnP sinP cosP earP p.x p.y p.z t bad).trans ((sky_v add sub mul turnP sinP cosP earP p.x p.y p.z t bad).trans (congrArg some (hg bad).symm))
theorem envL10s_ok : EnvOk Try.prog (envL10s skyP skyP) :=
  EnvOk.p (EnvOk.f (EnvOk.f ok_nil (enter_of Try.func13 (by kernel_rfl) rfl) sky_con) (enter_of Try.func14 (by kernel_rfl) rfl) rsky_con) (enter_of Try.func8 (by kernel_rfl) rfl) awake10_ok
theorem sky_law (p : V3) (t : Int) (b : Bool) (w : World) : Calls Try.prog 5 #[.agg ⟨[.int .i64 p.x, .int .i64 p.y, .int .i64 p.z]⟩, .int .i64 t, .bool b] w fun e w' => e = .returned (.bool true) ∧ Go.RowKit.Below w.heap.size w w' :=
  law_true envL10s_ok ((lsky_raw skyP skyP p t b).trans (by rw [vEq_refl]; simp [an])) (RL.cons (vec_r p) (RL.cons (R_int _ _ _) (RL.cons (R_bool _ _) (RL_nil.2 rfl))))
#print axioms sky_law
end Go.Proofs.Ytlkclpkpggapbaa.Fd
