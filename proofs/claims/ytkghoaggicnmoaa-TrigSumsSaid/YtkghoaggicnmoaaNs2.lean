/- The series of the sine and the cosine stand for polynomials, but for few units. Conditions: angles of 0 to half of pi. -/
import Derived.Test.YtkghoaggicnmoaaNs1
namespace Go.Proofs.Ytkghoaggicnmoaa.Ns
open Go Go.Proofs.Ytkghoaggicnmoaa.Ae Go.Proofs.Ytkghoaggicnmoaa.Fx Go.Proofs.Ytkghoaggicnmoaa.Tx Go.Proofs.Ytkghoaggicnmoaa.Nx

/-- The divisor of a step. -/
def dv (first : Int) (k : Nat) : Int := (2 * (k : Int) + 1 + first) * (2 * (k : Int) + 2 + first)
/-- Numerator and denominator, step by step. -/
def hor (t first : Int) : Nat → Int × Int → Int × Int
  | 0, s => s
  | k + 1, s => hor t first k (1099511627776 * (s.2 * (dv first k * 1208925819614629174706176)) - t * t * s.1, s.2 * (dv first k * 1208925819614629174706176))
def erS (d E : Int) : Int := (2983000000000000000000000 * E + 8 * 1208925819614629174706176 * (d + 2)) / (d * 1208925819614629174706176) + 1
def err (first : Int) : Nat → Int → Int
  | 0, E => E
  | k + 1, E => err first k (erS (dv first k) E)
theorem erS_ok {d E : Int} (hd : 0 < d) (hE : 0 ≤ E) : 2983000000000000000000000 * E + 8 * 1208925819614629174706176 * (d + 2) ≤ erS d E * (d * 1208925819614629174706176) ∧ 0 ≤ erS d E := by
  have hp : 0 < d * 1208925819614629174706176 := by omega
  have h1 := Int.emod_add_mul_ediv (2983000000000000000000000 * E + 8 * 1208925819614629174706176 * (d + 2)) (d * 1208925819614629174706176)
  have h2 := Int.emod_lt_of_pos (2983000000000000000000000 * E + 8 * 1208925819614629174706176 * (d + 2)) hp
  have h3 : 0 ≤ (2983000000000000000000000 * E + 8 * 1208925819614629174706176 * (d + 2)) / (d * 1208925819614629174706176) := Int.ediv_nonneg (by omega) (by omega)
  unfold erS
  rw [Int.add_mul, Int.one_mul, Int.mul_comm (_ / _)]
  omega
theorem dv_eq {first : Int} (hf : first = 0 ∨ first = 1) {k : Nat} (hk : k < 10) :
    wr .i64 (wr .i64 (wr .i64 (((2 * (k + 1) : Nat) : Int) + first) - 1) * wr .i64 (((2 * (k + 1) : Nat) : Int) + first)) = dv first k ∧ 2 ≤ dv first k ∧ dv first k ≤ 420 ∧ (1 ≤ k ∨ first = 1 → 6 ≤ dv first k) := by
  have : k = 0 ∨ k = 1 ∨ k = 2 ∨ k = 3 ∨ k = 4 ∨ k = 5 ∨ k = 6 ∨ k = 7 ∨ k = 8 ∨ k = 9 := by omega
  rcases hf with rfl | rfl <;> rcases this with rfl | rfl | rfl | rfl | rfl | rfl | rfl | rfl | rfl | rfl <;> decide
/-- All steps. -/
theorem serL_ok {t u first : Int} (hf : first = 0 ∨ first = 1) (ht : 0 ≤ t ∧ t ≤ 1727108826179) (hu : 2 * (u * 1099511627776 - t * t) ≤ 1099511627776 ∧ -1099511627776 ≤ 2 * (u * 1099511627776 - t * t)) (hu0 : 0 ≤ u ∧ u ≤ 2713000000000) :
    ∀ (k : Nat) (v A B E : Int), k ≤ 10 → 0 < B → 0 ≤ E → (0 ≤ v ∧ v ≤ 1099511627776) → (-(E * B) ≤ 16 * (v * B - A) ∧ 16 * (v * B - A) ≤ E * B) →
      ∃ v', serL sub mul Fx.part u first k (v, false) = (v', false) ∧ 0 < (hor t first k (A, B)).2 ∧ 0 ≤ err first k E ∧ (-1099511627776 ≤ v' ∧ v' ≤ 1099511627776) ∧ (first = 1 → 0 ≤ v') ∧
        (-(err first k E * (hor t first k (A, B)).2) ≤ 16 * (v' * (hor t first k (A, B)).2 - (hor t first k (A, B)).1) ∧ 16 * (v' * (hor t first k (A, B)).2 - (hor t first k (A, B)).1) ≤ err first k E * (hor t first k (A, B)).2)
  | 0, v, A, B, E, _, hB, hE0, hv, hE => ⟨v, rfl, hB, hE0, ⟨by omega, hv.2⟩, fun _ => hv.1, hE⟩
  | k + 1, v, A, B, E, hk, hB, hE0, hv, hE => by
    obtain ⟨d1, d2, d3, d4⟩ := dv_eq hf (show k < 10 by omega)
    obtain ⟨w, hw, w1, w2⟩ := mul_is (a := u) (b := v) (A := 2713000000000) (B := 1099511627776) ⟨by omega, hu0.2⟩ ⟨by omega, hv.2⟩ (by decide) (by decide) (by decide)
    have huv := mul_le' (a := u) (b := v) (A := 2713000000000) (B := 1099511627776) ⟨by omega, hu0.2⟩ ⟨by omega, hv.2⟩
    have huv0 := Int.mul_nonneg hu0.1 hv.1
    have hw0 : 0 ≤ w ∧ w ≤ 2713000000001 := by omega
    obtain ⟨p, hp, p1, p2⟩ := part1_is (a := w) (d := dv first k) (by omega) ⟨by omega, by omega⟩
    unfold serL
    simp only [d1, hw, hp]
    have hp0 : 0 ≤ p ∧ p ≤ 2713000000002 ∧ (6 ≤ dv first k → p ≤ 1099511627776) ∧ p ≤ 2199023255552 := by
      generalize dv first k = d at *
      have key : ∀ m : Int, 0 ≤ m → m < p → (m + 1) * d ≤ p * d := fun m h1 h2 => Int.mul_le_mul_of_nonneg_right (by omega) (by omega)
      refine ⟨?_, ?_, fun h6 => ?_, ?_⟩
      · refine Int.not_lt.1 fun hn => ?_
        have : p * d ≤ (-1) * d := Int.mul_le_mul_of_nonneg_right (by omega) (by omega)
        generalize p * d = P at *
        omega
      · refine Int.not_lt.1 fun hn => ?_
        have := key 2713000000002 (by decide) hn
        generalize p * d = P at *
        omega
      · refine Int.not_lt.1 fun hn => ?_
        have := key 1099511627776 (by decide) hn
        generalize p * d = P at *
        omega
      · refine Int.not_lt.1 fun hn => ?_
        have := key 2199023255552 (by decide) hn
        generalize p * d = P at *
        omega
    rw [sub_is (a := 1099511627776) (b := p) (by omega) (by omega) (by omega)]
    obtain ⟨e1, e2⟩ := erS_ok (d := dv first k) (E := E) (by omega) hE0
    have st := step hB d2 hu ht hv ⟨w1, w2⟩ ⟨p1, p2⟩ hE hE0 e1
    have hB' : 0 < B * (dv first k * 1208925819614629174706176) := Int.mul_pos hB (by omega)
    by_cases h6 : 6 ≤ dv first k
    · have hp6 := hp0.2.2.1 h6
      exact serL_ok hf ht hu hu0 k (1099511627776 - p) _ _ _ (by omega) hB' e2 ⟨by omega, by omega⟩ st
    · have hk0 : k = 0 ∧ first ≠ 1 := by
        constructor
        · refine Decidable.byContradiction fun h => h6 (d4 (.inl (by omega)))
        · exact fun h => h6 (d4 (.inr h))
      obtain ⟨rfl, hf1⟩ := hk0
      exact ⟨1099511627776 - p, rfl, hB', e2, ⟨by omega, by omega⟩, fun h => absurd h hf1, st⟩
#print axioms serL_ok
end Go.Proofs.Ytkghoaggicnmoaa.Ns
