/- The addition law of sines and cosines at all angles. Conditions: as each says. -/
import Derived.Test.YtkghoaggicnmoaaNs7
namespace Go.Proofs.Ytkghoaggicnmoaa.Ns
open Go Go.Proofs.Ytkghoaggicnmoaa.Ae Go.Proofs.Ytkghoaggicnmoaa.Fx Go.Proofs.Ytkghoaggicnmoaa.Tx Go.Proofs.Ytkghoaggicnmoaa.Nx Go.Proofs.Ytkghoaggicnmoaa.Np

/-- A product, of what is near. -/
theorem near_mul {M a b a' b' : Int} (hM : M = 1099511627789) (ha : Bd M a) (hb : Bd M b) (h1 : Bd 4 (a' - a)) (h2 : Bd 4 (b' - b)) : Bd (8796093022344) (a' * b' - a * b) := by
  have k1 := ha.mul h2
  have k2 := hb.mul h1
  have k3 := h1.mul h2
  have e : a' * b' - a * b = a * (b' - b) + b * (a' - a) + (a' - a) * (b' - b) := by grind
  rw [e]
  subst hM
  generalize a * (b' - b) = x at *
  generalize b * (a' - a) = y at *
  generalize (a' - a) * (b' - b) = z at *
  unfold Bd at *; omega
/-- The sum of two angles, together above a quarter. -/
theorem add_over {t u : Int} (ht : t ≤ 1727108826179) (hu : u ≤ 1727108826179) (h : 1727108826179 ≤ t + u) :
    Bd (32 * 1099511627776) (Cv (t + u - 1727108826179) * 1099511627776 - (Sv t * Cv u + Cv t * Sv u)) ∧ Bd (32 * 1099511627776) (-Sv (t + u - 1727108826179) * 1099511627776 - (Cv t * Cv u - Sv t * Sv u)) := by
  obtain ⟨k1, k2⟩ := add_half (t := 1727108826179 - t) (u := 1727108826179 - u) (by omega) (by omega) (by omega)
  obtain ⟨r1, r2⟩ := ref_half (t := t) ⟨by omega, ht⟩
  obtain ⟨r3, r4⟩ := ref_half (t := u) ⟨by omega, hu⟩
  obtain ⟨r5, r6⟩ := ref_half (t := 1727108826179 - t + (1727108826179 - u)) ⟨by omega, by omega⟩
  rw [show 1727108826179 - (1727108826179 - t + (1727108826179 - u)) = t + u - 1727108826179 from by omega] at r5 r6
  obtain ⟨t1, t2, -, -⟩ := val_is (t := t) ⟨by omega, ht⟩
  obtain ⟨u1, u2, -, -⟩ := val_is (t := u) ⟨by omega, hu⟩
  have n1 := near_mul rfl t2 u1 r1 r4
  have n2 := near_mul rfl t1 u2 r2 r3
  have n3 := near_mul rfl t1 u1 r2 r4
  have n4 := near_mul rfl t2 u2 r1 r3
  generalize Sv (1727108826179 - t + (1727108826179 - u)) = Sx at *
  generalize Cv (1727108826179 - t + (1727108826179 - u)) = Cx at *
  generalize Sv (1727108826179 - t) * Cv (1727108826179 - u) = p1 at *
  generalize Cv (1727108826179 - t) * Sv (1727108826179 - u) = p2 at *
  generalize Cv (1727108826179 - t) * Cv (1727108826179 - u) = p3 at *
  generalize Sv (1727108826179 - t) * Sv (1727108826179 - u) = p4 at *
  generalize Cv t * Sv u = q1 at *
  generalize Sv t * Cv u = q2 at *
  generalize Sv t * Sv u = q3 at *
  generalize Cv t * Cv u = q4 at *
  unfold Bd at *
  constructor <;> omega
theorem quad_add {k l S C S' C' s c s' c' m : Int} (h : quad k S C s c) (h' : quad l S' C' s' c') (hm : (k + l) % 4 = m) : quad m (S * C' + C * S') (C * C' - S * S') (s * c' + c * s') (c * c' - s * s') := by
  unfold quad at *
  rcases h with ⟨rfl, rfl, rfl⟩ | ⟨rfl, rfl, rfl⟩ | ⟨rfl, rfl, rfl⟩ | ⟨rfl, rfl, rfl⟩ <;> rcases h' with ⟨rfl, rfl, rfl⟩ | ⟨rfl, rfl, rfl⟩ | ⟨rfl, rfl, rfl⟩ | ⟨rfl, rfl, rfl⟩ <;> subst hm
  · exact .inl ⟨by decide, by grind, by grind⟩
  · exact .inr (.inl ⟨by decide, by grind, by grind⟩)
  · exact .inr (.inr (.inl ⟨by decide, by grind, by grind⟩))
  · exact .inr (.inr (.inr ⟨by decide, by grind, by grind⟩))
  · exact .inr (.inl ⟨by decide, by grind, by grind⟩)
  · exact .inr (.inr (.inl ⟨by decide, by grind, by grind⟩))
  · exact .inr (.inr (.inr ⟨by decide, by grind, by grind⟩))
  · exact .inl ⟨by decide, by grind, by grind⟩
  · exact .inr (.inr (.inl ⟨by decide, by grind, by grind⟩))
  · exact .inr (.inr (.inr ⟨by decide, by grind, by grind⟩))
  · exact .inl ⟨by decide, by grind, by grind⟩
  · exact .inr (.inl ⟨by decide, by grind, by grind⟩)
  · exact .inr (.inr (.inr ⟨by decide, by grind, by grind⟩))
  · exact .inl ⟨by decide, by grind, by grind⟩
  · exact .inr (.inl ⟨by decide, by grind, by grind⟩)
  · exact .inr (.inr (.inl ⟨by decide, by grind, by grind⟩))
theorem quad_near {K m S C X Y s c x y : Int} (h : quad m S C s c) (h' : quad m X Y x y) (h1 : Bd K (S * 1099511627776 - X)) (h2 : Bd K (C * 1099511627776 - Y)) : Bd K (s * 1099511627776 - x) ∧ Bd K (c * 1099511627776 - y) := by
  unfold quad Bd at *
  omega
theorem quad_next {m S C s c m' : Int} (h : quad m S C s c) (hm : (m + 3) % 4 = m') : quad m' C (-S) s c := by
  unfold quad at *
  omega
/-- The addition law. -/
theorem add_law {a b : Int} (ha : -2305843009213693952 ≤ a ∧ a ≤ 2305843009213693952) (hb : -2305843009213693952 ≤ b ∧ b ≤ 2305843009213693952) :
    Bd (32 * 1099511627776) (sv (a + b) * 1099511627776 - (sv a * cv b + cv a * sv b)) ∧ Bd (32 * 1099511627776) (cv (a + b) * 1099511627776 - (cv a * cv b - sv a * sv b)) := by
  obtain ⟨k, t, e1, t0, t1, -, -, q1⟩ := turn_is (a := a) (by omega)
  obtain ⟨l, u, e2, u0, u1, -, -, q2⟩ := turn_is (a := b) (by omega)
  obtain ⟨m, w, e3, w0, w1, -, -, q3⟩ := turn_is (a := a + b) (by omega)
  have hk : 0 ≤ k ∧ k ≤ 3 := by unfold quad at q1; omega
  have hl : 0 ≤ l ∧ l ≤ 3 := by unfold quad at q2; omega
  have hm : 0 ≤ m ∧ m ≤ 3 := by unfold quad at q3; omega
  by_cases hlt : t + u < 1727108826179
  · have : w = t + u ∧ (k + l) % 4 = m := by omega
    obtain ⟨rfl, h4⟩ := this
    obtain ⟨g1, g2⟩ := add_half t0 u0 (by omega)
    have q4 := quad_add q1 q2 h4
    exact quad_near q3 q4 ⟨by unfold Bd at g1; omega, by unfold Bd at g1; omega⟩ ⟨by unfold Bd at g2; omega, by unfold Bd at g2; omega⟩
  · have : w = t + u - 1727108826179 ∧ (k + l) % 4 = (m + 3) % 4 := by omega
    obtain ⟨rfl, h4⟩ := this
    obtain ⟨g1, g2⟩ := add_over (t := t) (u := u) (by omega) (by omega) (by omega)
    have q4 := quad_add q1 q2 h4
    exact quad_near (quad_next q3 rfl) q4 g1 g2
#print axioms add_law
end Go.Proofs.Ytkghoaggicnmoaa.Ns
