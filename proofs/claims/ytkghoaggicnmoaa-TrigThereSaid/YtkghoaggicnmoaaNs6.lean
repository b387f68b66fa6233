/- The series' polynomials: those of a sum, and of what is left of a quarter. Conditions: as each says. -/
import Derived.Test.YtkghoaggicnmoaaNs5
namespace Go.Proofs.Ytkghoaggicnmoaa.Ns
open Go Go.Proofs.Ytkghoaggicnmoaa.Ae Go.Proofs.Ytkghoaggicnmoaa.Fx Go.Proofs.Ytkghoaggicnmoaa.Tx Go.Proofs.Ytkghoaggicnmoaa.Nx Go.Proofs.Ytkghoaggicnmoaa.Np

/-- hor, of any term. -/
def horT (u : E) (first : Int) : Nat → E × Int → E × Int
  | 0, s => s
  | k + 1, s => horT u first k (.sub (.c (1099511627776 * (s.2 * (dv first k * 1208925819614629174706176)))) (.mul (.mul u u) s.1), s.2 * (dv first k * 1208925819614629174706176))
theorem horT_at (u : E) (x y first : Int) : ∀ (k : Nat) (s : E × Int), hor (u.at x y) first k (s.1.at x y, s.2) = ((horT u first k s).1.at x y, (horT u first k s).2)
  | 0, s => rfl
  | k + 1, s => by
    unfold hor horT
    rw [← horT_at u x y first k]
    rfl
abbrev cT (u : E) : E × Int := horT u 0 10 (.c 1099511627776, 1)
abbrev sT (u : E) : E × Int := horT u 1 10 (.c 1099511627776, 1)
/-- The two polynomials, b0 and b1 times. -/
def Ap (t : Int) : Int := cE.1.at t 0
def Bp (t : Int) : Int := t * sE.1.at t 0
def b0 : Int := cE.2
def b1 : Int := 1099511627776 * sE.2
theorem cT_at (u : E) (x y : Int) : (cT u).1.at x y = Ap (u.at x y) := by
  have h1 := horT_at u x y 0 10 (.c 1099511627776, 1)
  have h2 := horE_at (u.at x y) 0 0 10 (.c 1099511627776, 1)
  have h3 : ((E.c 1099511627776).at x y, (1 : Int)) = ((E.c 1099511627776).at (u.at x y) 0, 1) := rfl
  dsimp only at h1 h2
  rw [h3, h2] at h1
  exact (congrArg Prod.fst h1).symm
theorem sT_at (u : E) (x y : Int) : u.at x y * (sT u).1.at x y = Bp (u.at x y) := by
  have h1 := horT_at u x y 1 10 (.c 1099511627776, 1)
  have h2 := horE_at (u.at x y) 0 1 10 (.c 1099511627776, 1)
  have h3 : ((E.c 1099511627776).at x y, (1 : Int)) = ((E.c 1099511627776).at (u.at x y) 0, 1) := rfl
  dsimp only at h1 h2
  rw [h3, h2] at h1
  exact congrArg (fun z => u.at x y * z) (congrArg Prod.fst h1).symm
theorem b0_pos : 0 < b0 := cE_pos
theorem b1_pos : 0 < b1 := Int.mul_pos (by decide) sE_pos
abbrev xy : E := .add .x .y
def addS : E := .sub (.mul (.c (1099511627776 * b0)) (.mul xy (sT xy).1)) (.add (.mul (.mul .x (sT .x).1) (cT .y).1) (.mul (cT .x).1 (.mul .y (sT .y).1)))
theorem addS_at (x y : Int) : addS.at x y = 1099511627776 * b0 * Bp (x + y) - (Bp x * Ap y + Ap x * Bp y) := by
  have e1 := sT_at xy x y
  have e2 := sT_at .x x y
  have e3 := sT_at .y x y
  have e4 := cT_at .x x y
  have e5 := cT_at .y x y
  have h : addS.at x y = 1099511627776 * b0 * (E.at x y xy * (sT xy).1.at x y) - (E.at x y .x * (sT .x).1.at x y * (cT .y).1.at x y + (cT .x).1.at x y * (E.at x y .y * (sT .y).1.at x y)) := rfl
  rw [h, e1, e2, e3, e4, e5]
  rfl
def addC : E := .add (.sub (.mul (.c (1099511627776 * b0 * (b1 * b1))) (cT xy).1) (.mul (.c (b1 * b1)) (.mul (cT .x).1 (cT .y).1))) (.mul (.c (b0 * b0)) (.mul (.mul .x (sT .x).1) (.mul .y (sT .y).1)))
theorem addC_at (x y : Int) : addC.at x y = 1099511627776 * b0 * (b1 * b1) * Ap (x + y) - b1 * b1 * (Ap x * Ap y) + b0 * b0 * (Bp x * Bp y) := by
  have e1 := cT_at xy x y
  have e2 := sT_at .x x y
  have e3 := sT_at .y x y
  have e4 := cT_at .x x y
  have e5 := cT_at .y x y
  have h : addC.at x y = 1099511627776 * b0 * (b1 * b1) * (cT xy).1.at x y - b1 * b1 * ((cT .x).1.at x y * (cT .y).1.at x y) + b0 * b0 * (E.at x y .x * (sT .x).1.at x y * (E.at x y .y * (sT .y).1.at x y)) := rfl
  rw [h, e1, e2, e3, e4, e5]
  rfl
theorem addS_small {x y : Int} (hx : 0 ≤ x ∧ x ≤ 1727108826179) (hy : 0 ≤ y ∧ y ≤ 863554413090) : -(274877906944 * (b0 * b1)) ≤ addS.at x y ∧ addS.at x y ≤ 274877906944 * (b0 * b1) :=
  E.small addS (X := 1727108826179) (Y := 863554413090) ⟨by omega, hx.2⟩ ⟨by omega, hy.2⟩ (by kernel_rfl)
theorem addC_small {x y : Int} (hx : 0 ≤ x ∧ x ≤ 1727108826179) (hy : 0 ≤ y ∧ y ≤ 863554413090) : -(274877906944 * (b0 * b0 * (b1 * b1))) ≤ addC.at x y ∧ addC.at x y ≤ 274877906944 * (b0 * b0 * (b1 * b1)) :=
  E.small addC (X := 1727108826179) (Y := 863554413090) ⟨by omega, hx.2⟩ ⟨by omega, hy.2⟩ (by kernel_rfl)
abbrev hx : E := .sub (.c 1727108826179) .x
def refS : E := .sub (.mul (.c b0) (.mul hx (sT hx).1)) (.mul (.c b1) (cT .x).1)
def refC : E := .sub (.mul (.c b1) (cT hx).1) (.mul (.c b0) (.mul .x (sT .x).1))
theorem refS_at (x y : Int) : refS.at x y = b0 * Bp (1727108826179 - x) - b1 * Ap x := by
  have e1 := sT_at hx x y
  have e4 := cT_at .x x y
  have h : refS.at x y = b0 * (E.at x y hx * (sT hx).1.at x y) - b1 * (cT .x).1.at x y := rfl
  rw [h, e1, e4]
  rfl
theorem refC_at (x y : Int) : refC.at x y = b1 * Ap (1727108826179 - x) - b0 * Bp x := by
  have e1 := cT_at hx x y
  have e4 := sT_at .x x y
  have h : refC.at x y = b1 * (cT hx).1.at x y - b0 * (E.at x y .x * (sT .x).1.at x y) := rfl
  rw [h, e1, e4]
  rfl
theorem refS_small {x : Int} (h : 0 ≤ x ∧ x ≤ 863554413090) : -(b0 * b1) ≤ 4 * refS.at x 0 ∧ 4 * refS.at x 0 ≤ b0 * b1 := by
  have := E.small (.mul (.c 4) refS) (x := x) (y := 0) (X := 863554413090) (Y := 0) (K := b0 * b1) ⟨by omega, h.2⟩ ⟨by decide, by decide⟩ (by kernel_rfl)
  exact this
theorem refC_small {x : Int} (h : 0 ≤ x ∧ x ≤ 863554413090) : -(b0 * b1) ≤ 2 * refC.at x 0 ∧ 2 * refC.at x 0 ≤ b0 * b1 := by
  have := E.small (.mul (.c 2) refC) (x := x) (y := 0) (X := 863554413090) (Y := 0) (K := b0 * b1) ⟨by omega, h.2⟩ ⟨by decide, by decide⟩ (by kernel_rfl)
  exact this
#print axioms refC_small
end Go.Proofs.Ytkghoaggicnmoaa.Ns
