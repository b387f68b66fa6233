/- The field in the Earth's axes, the program's and the reference's: one plain function, and its contracts. Conditions: none. -/
import Derived.Test.YtlkclpkpggapbaaFd10
namespace Go.Proofs.Ytlkclpkpggapbaa.Fd
open Go Go.Proofs.Ytlkclpkpggapbaa.Ae Go.Proofs.Ytlkclpkpggapbaa.Fx Go.Proofs.Ytlkclpkpggapbaa.Lx Go.Proofs.Ytlkclpkpggapbaa.Tx Go.Proofs.Ytlkclpkpggapbaa.Te Go.Proofs.Ytlkclpkpggapbaa.Rx Go.Proofs.Ytlkclpkpggapbaa.Row Go.Proofs.Ytlkclpkpggapbaa.Ve Go.Proofs.Ytlkclpkpggapbaa.Nx Go.Proofs.Ytlkclpkpggapbaa.Ns

def someV (p : V3 × Bool) : Option (AV × Bool) := some (p.1.av, p.2)
def endV (x y z : Int) (bad : Bool) : V3 × Bool := (bif bad then V3.zero else ⟨x, y, z⟩, bad)
theorem endE_v (x y z : Int) (bad : Bool) : endE x y z bad = someV (endV x y z bad) := by cases bad <;> rfl
theorem cond_v {b : Bool} {p q : Option (AV × Bool)} {P Q : V3 × Bool} (hp : p = someV P) (hq : q = someV Q) : (bif b then p else q) = someV (bif b then P else Q) := by
  cases b
  · exact hq
  · exact hp
section
variable (ad su mu di : Op2) (pa nr : Op3) (nu : Op3p) (tm : TmF)
def eLastV (c s u v : Int) (e : Es) : V3 × Bool :=
  let a1 := mu e.up s e.bad
  let a2 := mu e.south c a1.2
  let a := ad a1.1 a2.1 a2.2
  let x1 := mu a.1 u a.2
  let x2 := mu e.east v x1.2
  let x := su x1.1 x2.1 x2.2
  let y1 := mu a.1 v x.2
  let y2 := mu e.east u y1.2
  let y := ad y1.1 y2.1 y2.2
  let z1 := mu e.up c y.2
  let z2 := mu e.south s z1.2
  let z := su z1.1 z2.1 z2.2
  endV x.1 y.1 z.1 z.2
theorem eLast_v (c s u v : Int) (e : Es) : eLast ad su mu c s u v e = someV (eLastV ad su mu c s u v e) := endE_v _ _ _ _
def eBodyV (tick r c s u v : Int) (bad : Bool) : V3 × Bool :=
  let T := tm c s bad
  let ratio := di 7005208482886 r T.2
  let t0 := mu ratio.1 ratio.1 ratio.2
  eLastV ad su mu c s u v (eFold ad su mu pa nu u v ratio.1 tick T.1 keys27 ⟨t0.1, 0, 0, 0, 0, 0, t0.2⟩)
theorem eBody_v (tick r c s u v : Int) (bad : Bool) : eBody ad su mu di pa nu tm tick r c s u v bad = someV (eBodyV ad su mu di pa nu tm tick r c s u v bad) := eLast_v ..
def earthV (x y z t : Int) (bad : Bool) : V3 × Bool :=
  let r := nr x y z bad
  bif (bif (bif !(ckT t) then true else decide (r.1 < 6597069766656)) then true else decide (r.1 > 10995116277760)) then (V3.zero, true) else
  bif r.2 then (V3.zero, r.2) else
  let w := nr x y 0 r.2
  let c := di z r.1 w.2
  let s := di w.1 r.1 c.2
  bif decide (w.1 ≥ 1048576) then
    let u := di x w.1 s.2
    let v := di y w.1 u.2
    eBodyV ad su mu di pa nu tm t r.1 c.1 s.1 u.1 v.1 v.2
  else eBodyV ad su mu di pa nu tm t r.1 c.1 s.1 1099511627776 0 s.2
theorem earth_v (x y z t : Int) (bad : Bool) : earthG ad su mu di pa nr nu tm x y z t bad = someV (earthV ad su mu di pa nr nu tm x y z t bad) := by
  unfold earthG earthV
  exact cond_v rfl (cond_v rfl (cond_v (eBody_v ..) (eBody_v ..)))
end
theorem div_flag {a q : Int} {bad : Bool} (h : (div a q bad).2 = false) : bad = false ∧ rat a 1099511627776 q = some (div a q bad).1 := by
  unfold div at h ⊢
  obtain ⟨h1, -, r, h3, h4⟩ := lift_got h
  rw [h4]
  exact ⟨h1, h3⟩
theorem div_unit {a q : Int} {bad : Bool} (h : (div a q bad).2 = false) (hq : 0 < q) (ha : -q ≤ a ∧ a ≤ q) : Bd 1099511627776 (div a q bad).1 := by
  obtain ⟨-, h2⟩ := div_flag h
  generalize (div a q bad).1 = r at *
  obtain ⟨-, s1, s2, -, -⟩ := rat_spec h2
  have e : (q.natAbs : Int) = q := by omega
  rw [e] at s1 s2
  constructor
  · refine Int.not_lt.1 fun hn => ?_
    have : r * q ≤ (-1099511627777) * q := Int.mul_le_mul_of_nonneg_right (by omega) (by omega)
    generalize r * q = p at *
    omega
  · refine Int.not_lt.1 fun hn => ?_
    have : 1099511627777 * q ≤ r * q := Int.mul_le_mul_of_nonneg_right (by omega) (by omega)
    generalize r * q = p at *
    omega
theorem days_true (t : Int) : daysP t true = (0, true) := by
  unfold daysP
  cases (!(ckT t)) <;> rfl
theorem days_out {t : Int} (h : ckT t = false) (bad : Bool) : daysP t bad = (0, true) := by
  unfold daysP
  rw [h]; rfl
theorem ck_is (t : Int) : ckT t = (decide (t ≥ 0) && decide (t ≤ 157766400000)) := by
  have e : rckT t = ckT t := rfl
  rw [← e]; unfold rckT; rw [an_eq]
theorem days_in {t : Int} (h : ckT t = true) : (daysP t false).2 = false := by
  unfold daysP
  rw [h]
  have ht : t ≥ 0 ∧ t ≤ 157766400000 := by rw [ck_is] at h; simpa using h
  obtain ⟨r, hr, -⟩ := part_is (a := 1099511627776) (p := t) (q := 86400000) 1099511627776 157766400000 ⟨by decide, by decide⟩ ⟨by omega, by omega⟩ (by decide) (by decide) (by decide) (by decide)
  exact congrArg Prod.snd hr
def earthP : Int → Int → Int → Int → Bool → V3 × Bool := earthV add sub mul div Fx.part norm numP tmP
def earthO : Int → Int → Int → Int → Bool → Option (AV × Bool) := earthG add sub mul div Fx.part norm numP tmP
def rearthO : Int → Int → Int → Int → Bool → Option (AV × Bool) := rearthG add sub mul div Fx.part norm numP tmP daysP
def zt : Option (AV × Bool) := some (V3.zero.av, true)
theorem earthO_is (x y z t : Int) (bad : Bool) : earthO x y z t bad =
    (let r := norm x y z bad
    bif (bif (bif !(ckT t) then true else decide (r.1 < 6597069766656)) then true else decide (r.1 > 10995116277760)) then zt else
    bif r.2 then some (V3.zero.av, r.2) else
    let w := norm x y 0 r.2
    let c := div z r.1 w.2
    let s := div w.1 r.1 c.2
    bif decide (w.1 ≥ 1048576) then
      let u := div x w.1 s.2
      let v := div y w.1 u.2
      eBodyP t r.1 c.1 s.1 u.1 v.1 v.2
    else eBodyP t r.1 c.1 s.1 1099511627776 0 s.2) := rfl
theorem rearthO_is (x y z t : Int) (bad : Bool) : rearthO x y z t bad =
    (let r := norm x y z bad
    let d := daysP t r.2
    bif (bif decide (r.1 < 6597069766656) then true else decide (r.1 > 10995116277760)) then zt else
    bif d.2 then some (V3.zero.av, d.2) else
    let w := norm x y 0 d.2
    let c := div z r.1 w.2
    let s := div w.1 r.1 c.2
    bif decide (w.1 ≥ 1048576) then
      let u := div x w.1 s.2
      let v := div y w.1 u.2
      reBodyP t r.1 c.1 s.1 u.1 v.1 v.2
    else reBodyP t r.1 c.1 s.1 1099511627776 0 s.2) := rfl
theorem body_any {t r c s u v : Int} {bad : Bool} (h : bad = false → Bd 1099511627776 u ∧ Bd 1099511627776 v) : reBodyP t r c s u v bad = eBodyP t r c s u v bad := by
  cases bad with
  | true => rw [(body_bad t r c s u v).1, (body_bad t r c s u v).2]
  | false => exact body_eq (h rfl).1 (h rfl).2
theorem earth_same (x y z t : Int) (bad : Bool) : rearthO x y z t bad = earthO x y z t bad := by
  rw [earthO_is, rearthO_is]
  dsimp only
  generalize norm x y z bad = r
  obtain ⟨r, rb⟩ := r
  dsimp only
  cases ht : ckT t with
  | false =>
    rw [days_out ht, Bool.not_false, bt, bt, bt]
    dsimp only
    rw [bt]
    cases (bif decide (r < 6597069766656) then true else decide (r > 10995116277760)) with
    | true => rw [bt]
    | false => rw [bf]; rfl
  | true =>
    rw [Bool.not_true, bf]
    cases hc : (bif decide (r < 6597069766656) then true else decide (r > 10995116277760)) with
    | true => rw [bt, bt]
    | false =>
      rw [bf, bf]
      cases rb with
      | true =>
        rw [days_true]
        dsimp only
        rw [bt, bt]
      | false =>
        rw [days_in ht, bf, bf]
        have hn := @norm_got x y 0 false
        generalize norm x y 0 false = w at *
        obtain ⟨w, wb⟩ := w
        dsimp only
        cases hw : decide (w ≥ 1048576) with
        | false =>
          rw [bf, bf]
          exact body_any fun _ => ⟨⟨by decide, by decide⟩, ⟨by decide, by decide⟩⟩
        | true =>
          rw [bt, bt]
          refine body_any fun hv => ?_
          obtain ⟨hu, -⟩ := div_flag hv
          obtain ⟨hs, -⟩ := div_flag hu
          obtain ⟨hc, -⟩ := div_flag hs
          obtain ⟨hb, -⟩ := div_flag hc
          obtain ⟨-, n, h1, h2, h3, h4, h5⟩ := hn hb
          obtain ⟨rfl, -⟩ := Prod.mk.inj h1
          have hw' := of_decide_eq_true hw
          have ex : x * x < (w + 1) * (w + 1) := by have := sq_nonneg y; omega
          have ey : y * y < (w + 1) * (w + 1) := by have := sq_nonneg x; omega
          have key : ∀ a : Int, a * a < (w + 1) * (w + 1) → -w ≤ a ∧ a ≤ w := by
            intro a ha
            constructor
            · refine Int.not_lt.1 fun hn => ?_
              have : (w + 1) * (w + 1) ≤ (-a) * (-a) := Int.mul_le_mul (by omega) (by omega) (by omega) (by omega)
              rw [Int.neg_mul_neg] at this
              omega
            · refine Int.not_lt.1 fun hn => ?_
              have : (w + 1) * (w + 1) ≤ a * a := Int.mul_le_mul (by omega) (by omega) (by omega) (by omega)
              omega
          exact ⟨div_unit hu (by omega) (key x ex), div_unit hv (by omega) (key y ey)⟩
/-! ### Contracts -/
def vtF (u : V3 → Int → Bool → V3 × Bool) : List AV → Option (Bool → AV × Bool)
  | [.agg [.int .i64 a, .int .i64 b, .int .i64 c], .int .i64 t] => some fun bad => ((u ⟨a, b, c⟩ t bad).1.av, (u ⟨a, b, c⟩ t bad).2)
  | _ => none
theorem vtF_some {u : V3 → Int → Bool → V3 × Bool} {args : List AV} {g : Bool → AV × Bool} (h : vtF u args = some g) : ∃ (p : V3) (t : Int), args = [p.av, I t] ∧ ∀ bad, g bad = ((u p t bad).1.av, (u p t bad).2) := by
  unfold vtF at h
  split at h <;> cases h
  exact ⟨⟨_, _, _⟩, _, rfl, fun _ => rfl⟩
def earP (p : V3) (t : Int) (bad : Bool) : V3 × Bool := earthP p.x p.y p.z t bad
theorem en_Earth : EnterOk Try.prog 11 := enter_of Try.func11 (by kernel_rfl) rfl
theorem en_rEarth : EnterOk Try.prog 12 := enter_of Try.func12 (by kernel_rfl) rfl
theorem en_Number : EnterOk Try.prog 9 := enter_of Try.func9 (by kernel_rfl) rfl
theorem en_rNumber : EnterOk Try.prog 10 := enter_of Try.func10 (by kernel_rfl) rfl
theorem envE_ok : EnvOk Try.prog (envE add sub mul div Fx.part norm numP tmP) :=
  EnvOk.f (EnvOk.f (EnvOk.f (EnvOk.f (EnvOk.f (EnvOk.f (EnvOk.f (EnvOk.e (EnvOk.f (EnvOk.t (EnvOk.t ok_nil en_fFail) (enter_of Try.func31 (by kernel_rfl) rfl)) en_vNorm vnorm_con) (enter_of Try.func33 (by kernel_rfl) rfl) terms_con) en_Number number_con) (enter_of Try.func32 (by kernel_rfl) rfl) norm_con) en_fPart part_con) Fx.en_div div_meth) Fx.en_mul mul_con) Fx.en_sub sub_con) en_fAdd add_con
theorem renvE_ok : EnvOk Try.prog (renvE add sub mul div Fx.part norm numP tmP daysP) :=
  EnvOk.f (EnvOk.f (EnvOk.f (EnvOk.f (EnvOk.f (EnvOk.f (EnvOk.f (EnvOk.f (EnvOk.f (EnvOk.f (EnvOk.t ok_nil en_rFail) (enter_of Try.func23 (by kernel_rfl) rfl) rdays_con) (enter_of Try.func35 (by kernel_rfl) rfl) rvnorm_con) (enter_of Try.func38 (by kernel_rfl) rfl) leg_con) en_rNumber rnumber_con) en_rNorm rnorm_con) en_rPart rpart_con) en_rDiv rdiv_con) en_rMul rmul_con) en_rSub rsub_con) en_rAdd radd_con
theorem earth_o (x y z t : Int) (bad : Bool) : earthO x y z t bad = someV (earthP x y z t bad) := earth_v add sub mul div Fx.part norm numP tmP x y z t bad
theorem earth_con : Meth 11 (vtF earP) := by
  refine flow_of envE_ok 2000 _ _ (fun _ => true) _ ?_
  intro args g _ h bad
  obtain ⟨p, t, rfl, hg⟩ := vtF_some h
  exact (earth_raw add sub mul div Fx.part norm numP tmP p.x p.y p.z t bad).trans ((earth_o p.x p.y p.z t bad).trans (congrArg some (hg bad).symm))
theorem rearth_con : RMeth 12 (vtF earP) := by
  refine flow_of renvE_ok 2000 _ _ (fun _ => true) _ ?_
  intro args g _ h bad
  obtain ⟨p, t, rfl, hg⟩ := vtF_some h
  exact (rearth_raw add sub mul div Fx.part norm numP tmP daysP p.x p.y p.z t bad).trans ((earth_same p.x p.y p.z t bad).trans ((earth_o p.x p.y p.z t bad).trans (congrArg some (hg bad).symm)))
#print axioms rearth_con
end Go.Proofs.Ytlkclpkpggapbaa.Fd
