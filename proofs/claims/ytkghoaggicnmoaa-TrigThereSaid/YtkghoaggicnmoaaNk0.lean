/- Sines and cosines of small angles, and of angles turned round. Conditions: as each says. -/
import Derived.Test.YtkghoaggicnmoaaNa1
namespace Go.Proofs.Ytkghoaggicnmoaa.Ns
open Go Go.Proofs.Ytkghoaggicnmoaa.Ae Go.Proofs.Ytkghoaggicnmoaa.Fx Go.Proofs.Ytkghoaggicnmoaa.Tx Go.Proofs.Ytkghoaggicnmoaa.Nx Go.Proofs.Ytkghoaggicnmoaa.Np

def dS : E := .sub (.mul .x (sT .x).1) (.mul (.c b1) .x)
def dC : E := .sub (cT .x).1 (.c (1099511627776 * b0))
theorem dS_at (x y : Int) : dS.at x y = Bp x - b1 * x := by
  have e := sT_at .x x y
  have h : dS.at x y = E.at x y .x * (sT .x).1.at x y - b1 * x := rfl
  rw [h, e]; rfl
theorem dC_at (x y : Int) : dC.at x y = Ap x - 1099511627776 * b0 := by
  have e := cT_at .x x y
  have h : dC.at x y = (cT .x).1.at x y - 1099511627776 * b0 := rfl
  rw [h, e]; rfl
theorem near0 {x X K1 K2 : Int} (hx : 0 ≤ x ∧ x ≤ X) (hX : X ≤ 1727108826179) (h1 : decide (bnd2 dS.nf X 0 ≤ K1 * b1) = true) (h2 : decide (bnd2 dC.nf X 0 ≤ K2 * b0) = true) :
    Bd (K1 + 2) (Sv x - x) ∧ Bd (K2 + 2) (Cv x - 1099511627776) := by
  obtain ⟨-, -, t3, t4⟩ := val_is (t := x) ⟨hx.1, by omega⟩
  have s := E.small dS (x := x) (y := 0) (X := X) (Y := 0) ⟨by omega, hx.2⟩ ⟨by decide, by decide⟩ h1
  have c := E.small dC (x := x) (y := 0) (X := X) (Y := 0) ⟨by omega, hx.2⟩ ⟨by decide, by decide⟩ h2
  rw [dS_at] at s
  rw [dC_at] at c
  constructor
  · refine Bd.cancel b1_pos ?_
    have e : (Sv x - x) * b1 = (Sv x * b1 - Bp x) + (Bp x - b1 * x) := by grind
    have e2 : (K1 + 2) * b1 = K1 * b1 + 2 * b1 := Int.add_mul ..
    rw [e, e2]
    generalize Sv x * b1 - Bp x = p at *
    generalize Bp x - b1 * x = q at *
    generalize K1 * b1 = r at *
    unfold Bd at *; omega
  · refine Bd.cancel b0_pos ?_
    have e : (Cv x - 1099511627776) * b0 = (Cv x * b0 - Ap x) + (Ap x - 1099511627776 * b0) := by grind
    have e2 : (K2 + 2) * b0 = K2 * b0 + 2 * b0 := Int.add_mul ..
    rw [e, e2]
    generalize Cv x * b0 - Ap x = p at *
    generalize Ap x - 1099511627776 * b0 = q at *
    generalize K2 * b0 = r at *
    unfold Bd at *; omega
/-- The angle turned round. -/
theorem neg_law {a : Int} (ha : -4611686018427387904 ≤ a ∧ a ≤ 4611686018427387904) : Bd 4 (sv (-a) + sv a) ∧ Bd 4 (cv (-a) - cv a) := by
  obtain ⟨k, t, e1, t0, t1, -, -, q1⟩ := turn_is (a := a) ha
  obtain ⟨l, u, e2, u0, u1, -, -, q2⟩ := turn_is (a := -a) (by omega)
  have hk : 0 ≤ k ∧ k ≤ 3 := by unfold quad at q1; omega
  have hl : 0 ≤ l ∧ l ≤ 3 := by unfold quad at q2; omega
  by_cases h0 : t = 0
  · have hu : u = 0 ∧ (k + l) % 4 = 0 := by omega
    obtain ⟨rfl, h4⟩ := hu
    subst h0
    have hS : Sv 0 = 0 := by kernel_rfl
    rw [hS] at q1 q2
    unfold quad at q1 q2
    unfold Bd
    omega
  · have hu : u = 1727108826179 - t ∧ (k + l) % 4 = 3 := by omega
    obtain ⟨rfl, h4⟩ := hu
    obtain ⟨r1, r2⟩ := ref_half (t := t) ⟨t0, by omega⟩
    unfold quad at q1 q2
    unfold Bd at *
    omega
theorem near_sc {q X K1 K2 : Int} (hq : Bd X q) (hX : X < 1727108826179) (h1 : decide (bnd2 dS.nf X 0 ≤ K1 * b1) = true) (h2 : decide (bnd2 dC.nf X 0 ≤ K2 * b0) = true) :
    Bd (K1 + 6) (sv q - q) ∧ Bd (K2 + 6) (cv q - 1099511627776) := by
  have key : ∀ q : Int, 0 ≤ q → q ≤ X → Bd (K1 + 2) (sv q - q) ∧ Bd (K2 + 2) (cv q - 1099511627776) := by
    intro q h0 hqX
    obtain ⟨k, t, e1, t0, t1, -, -, q1⟩ := turn_is (a := q) (by omega)
    have : k = 0 ∧ t = q := by unfold quad at q1; omega
    obtain ⟨rfl, rfl⟩ := this
    have n := near0 ⟨h0, hqX⟩ (by omega) h1 h2
    unfold quad at q1
    have : sv t = Sv t ∧ cv t = Cv t := by omega
    rw [this.1, this.2]; exact n
  by_cases h0 : 0 ≤ q
  · obtain ⟨n1, n2⟩ := key q h0 hq.2
    exact ⟨n1.mono (by omega), n2.mono (by omega)⟩
  · obtain ⟨n1, n2⟩ := key (-q) (by omega) (by have := hq.1; omega)
    obtain ⟨g1, g2⟩ := neg_law (a := q) (by unfold Bd at hq; omega)
    unfold Bd at *
    omega
#print axioms near_sc
end Go.Proofs.Ytkghoaggicnmoaa.Ns
