/- The sine and the cosine of a series' angle: their quotient is the tangent that was given. Conditions: tangents of up to a fifth. -/
import Derived.Test.YtkghoaggicnmoaaNt1
namespace Go.Proofs.Ytkghoaggicnmoaa.Ns
open Go Go.Proofs.Ytkghoaggicnmoaa.Ae Go.Proofs.Ytkghoaggicnmoaa.Fx Go.Proofs.Ytkghoaggicnmoaa.Tx Go.Proofs.Ytkghoaggicnmoaa.Nx Go.Proofs.Ytkghoaggicnmoaa.Np

/-- hoa, as a term. -/
def hoaE : Nat → E × Int → E × Int
  | 0, s => s
  | k + 1, s => hoaE k (.sub (.c (1099511627776 * (s.2 * 1208925819614629174706176))) (.mul (.c ((2 * k + 1 : Nat) : Int)) (.mul (.mul .x .x) s.1)), s.2 * (((2 * k + 1 : Nat) : Int) * 1208925819614629174706176))
theorem hoaE_at (t y : Int) : ∀ (k : Nat) (s : E × Int), hoa t k (s.1.at t y, s.2) = ((hoaE k s).1.at t y, (hoaE k s).2)
  | 0, s => rfl
  | k + 1, s => by
    unfold hoa hoaE
    rw [← hoaE_at t y k]
    rfl
abbrev pE : E × Int := hoaE 13 (.c 0, 1)
def pD : Int := 1099511627776 * pE.2
theorem pE_pos : 0 < pE.2 := of_decide_eq_true (by kernel_rfl)
theorem pD_pos : 0 < pD := Int.mul_pos (by decide) pE_pos
/-- The angle itself, D times, is the series' number but for D. -/
theorem angle_is {t u : Int} (ht : 0 ≤ t ∧ t ≤ 218730000000) (hu : mul t t false = (u, false)) (ue : Bd 1099511627776 (2 * (u * 1099511627776 - t * t))) :
    ∃ v z, atL sub mul Fx.part u 13 (0, false) = (v, false) ∧ mul t v false = (z, false) ∧ 0 ≤ z ∧ z ≤ 229669000000 ∧ Bd pD (z * pD - t * pE.1.at t 0) := by
  obtain ⟨v, hv, hB, vb, v0, ve⟩ := atL_is ht ue 13 0 0 1 (by decide) (by decide) ⟨by decide, by decide⟩ ⟨by decide, by decide⟩
  have hh := hoaE_at t 0 13 (.c 0, 1)
  change hoa t 13 (0, 1) = (pE.1.at t 0, pE.2) at hh
  rw [hh] at ve hB
  dsimp only at ve hB
  have v0 := v0 (by decide)
  have tb : Bd 218730000000 t := ⟨by omega, ht.2⟩
  obtain ⟨z, hz, zb, ze⟩ := mul_b 218730000000 1154487209165 229669000000 tb vb (by decide)
  have tv0 := Int.mul_nonneg ht.1 v0
  refine ⟨v, z, hv, hz, by unfold Bd at ze; omega, zb.2, ?_⟩
  unfold pD
  generalize pE.2 = B at *
  generalize pE.1.at t 0 = A at *
  have k1 := ze.mul (show Bd B B from ⟨by omega, by omega⟩)
  have k2 := tb.mul ve
  have e : 16 * (z * (1099511627776 * B) - t * A) = 8 * (2 * (z * 1099511627776 - t * v) * B) + t * (16 * (v * B - A)) := by grind
  generalize z * (1099511627776 * B) - t * A = x at *
  generalize 2 * (z * 1099511627776 - t * v) * B = y1 at *
  generalize t * (16 * (v * B - A)) = y2 at *
  unfold Bd at *
  omega
/-- Seven terms are enough: in the second variable. -/
def hoaY : Nat → E × Int → E × Int
  | 0, s => s
  | k + 1, s => hoaY k (.sub (.c (1099511627776 * (s.2 * 1208925819614629174706176))) (.mul (.c ((2 * k + 1 : Nat) : Int)) (.mul (.mul .y .y) s.1)), s.2 * (((2 * k + 1 : Nat) : Int) * 1208925819614629174706176))
theorem hoaY_at (x t : Int) : ∀ (k : Nat) (s : E × Int), hoa t k (s.1.at x t, s.2) = ((hoaY k s).1.at x t, (hoaY k s).2)
  | 0, s => rfl
  | k + 1, s => by
    unfold hoa hoaY
    rw [← hoaY_at x t k]
    rfl
abbrev p13 : E × Int := hoaY 13 (.c 0, 1)
abbrev p7 : E × Int := hoaY 7 (.c 0, 1)
def qD : Int := 1099511627776 * p7.2
theorem p7_pos : 0 < p7.2 := of_decide_eq_true (by kernel_rfl)
theorem qD_pos : 0 < qD := Int.mul_pos (by decide) p7_pos
theorem p13_at (t : Int) : pE.1.at t 0 = p13.1.at 0 t := by
  have h1 := hoaE_at t 0 13 (.c 0, 1)
  have h2 := hoaY_at 0 t 13 (.c 0, 1)
  have h3 : ((E.c 0).at t 0, (1 : Int)) = ((E.c 0).at 0 t, 1) := rfl
  dsimp only at h1 h2
  rw [h3, h2] at h1
  exact (congrArg Prod.fst h1).symm
def cutP : E := .sub (.mul (.c qD) (.mul .y p13.1)) (.mul (.c pD) (.mul .y p7.1))
theorem cutP_small {t : Int} (h : 0 ≤ t ∧ t ≤ 218730000000) : Bd (3 * (qD * pD)) (qD * (t * p13.1.at 0 t) - pD * (t * p7.1.at 0 t)) :=
  E.small cutP (x := 0) (y := t) (X := 0) (Y := 218730000000) ⟨by decide, by decide⟩ ⟨by omega, h.2⟩ (by kernel_rfl)
/-- hor, D times as fine. -/
def horD (u first : Int) : Nat → Int × Int → Int × Int
  | 0, s => s
  | k + 1, s => horD u first k (1099511627776 * (s.2 * (dv first k * 1208925819614629174706176 * (qD * qD))) - u * u * s.1, s.2 * (dv first k * 1208925819614629174706176 * (qD * qD)))
def horDE (u : E) (first : Int) : Nat → E × Int → E × Int
  | 0, s => s
  | k + 1, s => horDE u first k (.sub (.c (1099511627776 * (s.2 * (dv first k * 1208925819614629174706176 * (qD * qD))))) (.mul (.mul u u) s.1), s.2 * (dv first k * 1208925819614629174706176 * (qD * qD)))
theorem horDE_at (u : E) (x y first : Int) : ∀ (k : Nat) (s : E × Int), horD (u.at x y) first k (s.1.at x y, s.2) = ((horDE u first k s).1.at x y, (horDE u first k s).2)
  | 0, s => rfl
  | k + 1, s => by
    unfold horD horDE
    rw [← horDE_at u x y first k]
    rfl
def lamD : Nat → Int → Int
  | 0, l => l
  | k + 1, l => lamD k (l * (qD * qD))
theorem horD_is (z first : Int) : ∀ (k : Nat) (l A B : Int), horD (z * qD) first k (l * A, l * B) = (lamD k l * (hor z first k (A, B)).1, lamD k l * (hor z first k (A, B)).2)
  | 0, l, A, B => rfl
  | k + 1, l, A, B => by
    unfold horD hor lamD
    have e1 : 1099511627776 * (l * B * (dv first k * 1208925819614629174706176 * (qD * qD))) - z * qD * (z * qD) * (l * A) = l * (qD * qD) * (1099511627776 * (B * (dv first k * 1208925819614629174706176)) - z * z * A) := by grind
    have e2 : l * B * (dv first k * 1208925819614629174706176 * (qD * qD)) = l * (qD * qD) * (B * (dv first k * 1208925819614629174706176)) := by grind
    dsimp only
    rw [e1, e2]
    exact horD_is z first k _ _ _
theorem lamD_pos : ∀ (k : Nat) (l : Int), 0 < l → 0 < lamD k l
  | 0, _, h => h
  | k + 1, l, h => lamD_pos k _ (Int.mul_pos h (Int.mul_pos qD_pos qD_pos))
/-- Four steps are enough. -/
abbrev s4 : E × Int := horE 1 4 (.c 1099511627776, 1)
abbrev c4 : E × Int := horE 0 4 (.c 1099511627776, 1)
theorem s4_pos : 0 < s4.2 := of_decide_eq_true (by kernel_rfl)
theorem c4_pos : 0 < c4.2 := of_decide_eq_true (by kernel_rfl)
def cutS : E := .sub (.mul (.c (1099511627776 * s4.2)) (.mul .x sE.1)) (.mul (.c b1) (.mul .x s4.1))
def cutC : E := .sub (.mul (.c c4.2) cE.1) (.mul (.c b0) c4.1)
theorem cutS_small {x : Int} (h : 0 ≤ x ∧ x ≤ 229670000000) : Bd (b1 * (1099511627776 * s4.2)) (1099511627776 * s4.2 * Bp x - b1 * (x * s4.1.at x 0)) :=
  E.small cutS (x := x) (y := 0) (X := 229670000000) (Y := 0) ⟨by omega, h.2⟩ ⟨by decide, by decide⟩ (by kernel_rfl)
theorem cutC_small {x : Int} (h : 0 ≤ x ∧ x ≤ 229670000000) : Bd (b0 * c4.2) (c4.2 * Ap x - b0 * c4.1.at x 0) :=
  E.small cutC (x := x) (y := 0) (X := 229670000000) (Y := 0) ⟨by omega, h.2⟩ ⟨by decide, by decide⟩ (by kernel_rfl)
abbrev uE : E := .mul .y p7.1
abbrev sD : E × Int := horDE uE 1 4 (.c 1099511627776, 1)
abbrev cD : E × Int := horDE uE 0 4 (.c 1099511627776, 1)
def tanE : E := .sub (.mul (.c cD.2) (.mul uE sD.1)) (.mul (.c (qD * sD.2)) (.mul .y cD.1))
theorem tanE_small {t : Int} (ht : 0 ≤ t ∧ t ≤ 218730000000) : Bd (3 * 1099511627776 * (qD * (sD.2 * cD.2))) (tanE.at 0 t) :=
  E.small tanE (x := 0) (y := t) (X := 0) (Y := 218730000000) ⟨by decide, by decide⟩ ⟨by omega, ht.2⟩ (by kernel_rfl)
def lipS : E := .sub (.mul xy (horDE xy 1 4 (.c 1099511627776, 1)).1) (.mul .x (horDE .x 1 4 (.c 1099511627776, 1)).1)
def lipC : E := .sub (horDE xy 0 4 (.c 1099511627776, 1)).1 (horDE .x 0 4 (.c 1099511627776, 1)).1
theorem lipS_small {x e : Int} (hx : Bd (229670000000 * qD) x) (he : Bd (4 * qD) e) : Bd (5 * (qD * (1099511627776 * sD.2))) (lipS.at x e) :=
  E.small lipS hx he (by kernel_rfl)
theorem lipC_small {x e : Int} (hx : Bd (229670000000 * qD) x) (he : Bd (4 * qD) e) : Bd cD.2 (lipC.at x e) :=
  E.small lipC hx he (by kernel_rfl)
#print axioms tanE_small
end Go.Proofs.Ytkghoaggicnmoaa.Ns
