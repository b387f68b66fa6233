/- The steps by which an angle is found: half of it, and the series. Conditions: as each says. -/
import Derived.Test.YtkghoaggicnmoaaNk0
import Derived.Test.YtkghoaggicnmoaaTxB
namespace Go.Proofs.Ytkghoaggicnmoaa.Ns
open Go Go.Proofs.Ytkghoaggicnmoaa.Ae Go.Proofs.Ytkghoaggicnmoaa.Fx Go.Proofs.Ytkghoaggicnmoaa.Tx Go.Proofs.Ytkghoaggicnmoaa.Nx Go.Proofs.Ytkghoaggicnmoaa.Np

/-- Half of an angle, in numbers alone. -/
theorem half_abs {t m q d u : Int} (t0 : 0 ≤ t ∧ t ≤ 1099511627776) (me : Bd 1099511627776 (2 * (m * 1099511627776 - t * t))) (q0 : 1099511627776 ≤ q ∧ q ≤ 1561306511442) (q1 : q * q ≤ (1099511627776 + m) * 1099511627776) (q2 : (1099511627776 + m) * 1099511627776 < (q + 1) * (q + 1))
    (hd : d = 1099511627776 + q) (u0 : 0 ≤ u ∧ u ≤ 1099511627776) (ue : Bd d (2 * (u * d - t * 1099511627776))) : Bd 3626777458843887524118528 (t * (1208925819614629174706176 - u * u) - 2 * u * 1208925819614629174706176) := by
  obtain ⟨r, hr⟩ : ∃ r, r = (1099511627776 + m) * 1099511627776 - q * q := ⟨_, rfl⟩
  have rb : Bd (2 * q) r := by
    have e : (q + 1) * (q + 1) = q * q + 2 * q + 1 := by grind
    rw [e] at q2
    unfold Bd; omega
  have rb' : Bd 3122613022884 r := rb.mono (by omega)
  have tb : Bd 1099511627776 t := ⟨by omega, t0.2⟩
  have ub : Bd 1099511627776 u := ⟨by omega, u0.2⟩
  have db : Bd d d := ⟨by omega, by omega⟩
  have qq : Bd 1208925819614629174706176 1208925819614629174706176 := ⟨by decide, by decide⟩
  have k1 := (tb.mul qq).mul (me.sub (rb'.add rb'))
  have k2 := (tb.mul tb).mul ue
  have k3 := (((tb.mul ub).add (qq.add qq)).mul db).mul ue
  have e : 2 * (t * (1208925819614629174706176 - u * u) - 2 * u * 1208925819614629174706176) * (d * d) = t * 1208925819614629174706176 * (2 * (m * 1099511627776 - t * t) - (r + r)) - 1099511627776 * (t * t * (2 * (u * d - t * 1099511627776))) - (t * u + (1208925819614629174706176 + 1208925819614629174706176)) * d * (2 * (u * d - t * 1099511627776)) := by
    subst hr hd; grind
  have dd : (2199023255552 : Int) * 2199023255552 ≤ d * d := Int.mul_le_mul (by omega) (by omega) (by decide) (by omega)
  have hp : 0 < d * d := by omega
  refine Bd.cancel hp ?_
  have e2 : 1099511627776 * 1099511627776 * d = 1208925819614629174706176 * d := by omega
  have e3 : (1099511627776 * 1099511627776 + (1208925819614629174706176 + 1208925819614629174706176)) * d * d = 3626777458843887524118528 * (d * d) := by
    have : ((1099511627776 * 1099511627776 + (1208925819614629174706176 + 1208925819614629174706176) : Int)) = 3626777458843887524118528 := by decide
    rw [this, Int.mul_assoc]
  rw [e2] at k2
  rw [e3] at k3
  have e4 : 2 * (t * (1208925819614629174706176 - u * u) - 2 * u * 1208925819614629174706176) * (d * d) = 2 * ((t * (1208925819614629174706176 - u * u) - 2 * u * 1208925819614629174706176) * (d * d)) := Int.mul_assoc ..
  rw [e4] at e
  generalize (t * (1208925819614629174706176 - u * u) - 2 * u * 1208925819614629174706176) * (d * d) = X at *
  generalize t * 1208925819614629174706176 * (2 * (m * 1099511627776 - t * t) - (r + r)) = y1 at *
  generalize t * t * (2 * (u * d - t * 1099511627776)) = y2 at *
  generalize (t * u + (1208925819614629174706176 + 1208925819614629174706176)) * d * (2 * (u * d - t * 1099511627776)) = y3 at *
  generalize d * d = D at *
  unfold Bd at *
  omega
theorem half_is {t : Int} (T U : Int) (ht : 0 ≤ t ∧ t ≤ T) (hT : decide (T ≤ 1099511627776) = true) (hU : (decide (0 ≤ U) && decide (T * (1208925819614629174706176 - (U + 1) * (U + 1)) < 2 * (U + 1) * 1208925819614629174706176 - 3626777458843887524118528)) = true) :
    ∃ u, halfT add mul div sqrt (t, false) = (u, false) ∧ (0 ≤ u ∧ u ≤ U) ∧ Bd 3626777458843887524118528 (t * (1208925819614629174706176 - u * u) - 2 * u * 1208925819614629174706176) := by
  have hT := of_decide_eq_true hT
  simp only [Bool.and_eq_true, decide_eq_true_eq] at hU
  have tb : Bd 1099511627776 t := ⟨by omega, by omega⟩
  obtain ⟨m, hm, mb, me⟩ := mul_b 1099511627776 1099511627776 1099511627776 tb tb (by decide)
  have tt : 0 ≤ t * t := Int.mul_nonneg ht.1 ht.1
  have m0 : 0 ≤ m := by unfold Bd at me; omega
  have h1 := add_b (a := 1099511627776) (b := m) 1099511627776 1099511627776 ⟨by decide, by decide⟩ mb (by decide)
  have m1 : m ≤ 1099511627776 := mb.2
  obtain ⟨q, hq, q0, q1, q2⟩ := sqrt_is (a := 1099511627776 + m) ⟨by omega, by omega⟩
  have qlo : 1099511627776 ≤ q := by
    refine Int.not_lt.1 fun hn => ?_
    have : (q + 1) * (q + 1) ≤ 1099511627776 * 1099511627776 := Int.mul_le_mul (by omega) (by omega) (by omega) (by decide)
    omega
  have qhi : q ≤ 1561306511442 := lt_of_sq (by decide) (by omega)
  have h2 := add_b (a := 1099511627776) (b := q) 1099511627776 1561306511442 ⟨by decide, by decide⟩ ⟨by omega, qhi⟩ (by decide)
  obtain ⟨u, hu, ue⟩ := div_is (a := t) (q := 1099511627776 + q) 1099511627776 tb (by decide) ⟨by omega, by omega⟩ (by omega)
  have u0 : 0 ≤ u := by
    refine Int.not_lt.1 fun hn => ?_
    have : u * (1099511627776 + q) ≤ (-1) * (1099511627776 + q) := Int.mul_le_mul_of_nonneg_right (by omega) (by omega)
    unfold Bd at ue; omega
  have u1 : u ≤ 1099511627776 := by
    refine Int.not_lt.1 fun hn => ?_
    have : (1099511627776 : Int) * (1099511627776 + q) ≤ u * (1099511627776 + q) := Int.mul_le_mul_of_nonneg_right (by omega) (by omega)
    unfold Bd at ue; omega
  have F := half_abs ⟨ht.1, by omega⟩ me ⟨qlo, qhi⟩ q1 q2 rfl ⟨u0, u1⟩ ue
  refine ⟨u, ?_, ⟨u0, ?_⟩, F⟩
  · unfold halfT
    simp only [hm, h1, hq, h2, hu]
  · refine Int.not_lt.1 fun hn => ?_
    have s1 : (U + 1) * (U + 1) ≤ u * u := Int.mul_le_mul (by omega) (by omega) (by omega) (by omega)
    have s2 : u * u ≤ 1099511627776 * 1099511627776 := Int.mul_le_mul u1 u1 u0 (by decide)
    have s3 : t * (1208925819614629174706176 - u * u) ≤ T * (1208925819614629174706176 - u * u) := Int.mul_le_mul_of_nonneg_right ht.2 (by omega)
    have s4 : T * (1208925819614629174706176 - u * u) ≤ T * (1208925819614629174706176 - (U + 1) * (U + 1)) := Int.mul_le_mul_of_nonneg_left (by omega) (by omega)
    unfold Bd at F
    omega
/-- The series, exactly: its numerator and its denominator. -/
def hoa (t : Int) : Nat → Int × Int → Int × Int
  | 0, s => s
  | k + 1, s => hoa t k (1099511627776 * (s.2 * 1208925819614629174706176) - ((2 * k + 1 : Nat) : Int) * (t * t * s.1), s.2 * (((2 * k + 1 : Nat) : Int) * 1208925819614629174706176))
theorem at_step {t u v A B n p m : Int} (hB : 0 < B) (hn : 1 ≤ n) (ht : 0 ≤ t ∧ t ≤ 218730000000) (ue : Bd 1099511627776 (2 * (u * 1099511627776 - t * t))) (vb : Bd 1154487209165 v) (hE : Bd (26 * B) (16 * (v * B - A)))
    (pe : Bd n (2 * (p * n - 1099511627776))) (me : Bd 1099511627776 (2 * (m * 1099511627776 - u * v))) :
    Bd (26 * (B * (n * 1208925819614629174706176))) (16 * ((p - m) * (B * (n * 1208925819614629174706176)) - (1099511627776 * (B * 1208925819614629174706176) - n * (t * t * A)))) := by
  have Bb : Bd B B := ⟨by omega, by omega⟩
  have nb : Bd n n := ⟨by omega, by omega⟩
  have tb : Bd 218730000000 t := ⟨by omega, ht.2⟩
  have k1 := pe.mul Bb
  have k2 := (nb.mul (tb.mul tb)).mul hE
  have k3 := ((nb.mul Bb).mul vb).mul ue
  have k4 := (nb.mul Bb).mul me
  have e : 16 * ((p - m) * (B * (n * 1208925819614629174706176)) - (1099511627776 * (B * 1208925819614629174706176) - n * (t * t * A))) =
      8 * 1208925819614629174706176 * (2 * (p * n - 1099511627776) * B) - n * (t * t) * (16 * (v * B - A)) - 8 * (n * B * v * (2 * (u * 1099511627776 - t * t))) - 8 * 1099511627776 * (n * B * (2 * (m * 1099511627776 - u * v))) := by grind
  rw [e]
  have e1 : B * (n * 1208925819614629174706176) = 1208925819614629174706176 * (n * B) := by grind
  have e2 : n * (218730000000 * 218730000000) * (26 * B) = 1243913135400000000000000 * (n * B) := by grind
  have e3 : n * B * 1154487209165 * 1099511627776 = 1269372110595580535767040 * (n * B) := by grind
  have e4 : n * B * 1099511627776 = 1099511627776 * (n * B) := Int.mul_comm ..
  rw [e1]
  rw [e2] at k2
  rw [e3] at k3
  rw [e4] at k4
  generalize n * B = N at *
  generalize 2 * (p * n - 1099511627776) * B = y1 at *
  generalize n * (t * t) * (16 * (v * B - A)) = y2 at *
  generalize N * v * (2 * (u * 1099511627776 - t * t)) = y3 at *
  generalize N * (2 * (m * 1099511627776 - u * v)) = y4 at *
  unfold Bd at *
  omega
theorem atL_is {t u : Int} (ht : 0 ≤ t ∧ t ≤ 218730000000) (ue : Bd 1099511627776 (2 * (u * 1099511627776 - t * t))) :
    ∀ (k : Nat) (v A B : Int), k ≤ 13 → 0 < B → Bd 1154487209165 v → Bd (26 * B) (16 * (v * B - A)) →
      ∃ v', atL sub mul Fx.part u k (v, false) = (v', false) ∧ 0 < (hoa t k (A, B)).2 ∧ Bd 1154487209165 v' ∧ (1 ≤ k → 0 ≤ v') ∧ Bd (26 * (hoa t k (A, B)).2) (16 * (v' * (hoa t k (A, B)).2 - (hoa t k (A, B)).1))
  | 0, v, A, B, _, hB, vb, hE => ⟨v, rfl, hB, vb, fun h => absurd h (by decide), hE⟩
  | k + 1, v, A, B, hk, hB, vb, hE => by
    have tb : Bd 218730000000 t := ⟨by omega, ht.2⟩
    have tt := (tb.mul tb).2
    have tt0 : 0 ≤ t * t := Int.mul_nonneg ht.1 ht.1
    have ub : Bd 43600000000 u := by unfold Bd at *; omega
    obtain ⟨n, hn⟩ : ∃ n : Int, n = ((2 * k + 1 : Nat) : Int) := ⟨_, rfl⟩
    have n1 : 1 ≤ n ∧ n ≤ 25 := by omega
    obtain ⟨p, hp, pe⟩ := part_is (a := 1099511627776) (p := 1) (q := n) 1099511627776 1 ⟨by decide, by decide⟩ ⟨by decide, by decide⟩ (by decide) (by decide) ⟨by omega, by omega⟩ (by omega)
    rw [Int.mul_one] at pe
    obtain ⟨m, hm, mb, me⟩ := mul_b 43600000000 1154487209165 45780000000 ub vb (by decide)
    have pb : 0 ≤ p ∧ p ≤ 1099511627777 := by
      constructor
      · refine Int.not_lt.1 fun hneg => ?_
        have : p * n ≤ (-1) * n := Int.mul_le_mul_of_nonneg_right (by omega) (by omega)
        unfold Bd at pe; omega
      · refine Int.not_lt.1 fun hneg => ?_
        have h1 : (1099511627778 : Int) * n ≤ p * n := Int.mul_le_mul_of_nonneg_right (by omega) (by omega)
        unfold Bd at pe; omega
    have hs := sub_b (a := p) (b := m) 1099511627777 45780000000 ⟨by omega, pb.2⟩ mb (by decide)
    have st := at_step hB n1.1 ht ue vb hE pe me
    have hB' : 0 < B * (n * 1208925819614629174706176) := Int.mul_pos hB (by omega)
    have vb' : Bd 1154487209165 (p - m) := by unfold Bd at *; omega
    obtain ⟨v', hv, h1, h2, h3, h4⟩ := atL_is ht ue k (p - m) _ _ (by omega) hB' vb' st
    unfold atL
    simp only [← hn, hp, hm, hs]
    refine ⟨v', hv, ?_, h2, ?_, ?_⟩
    · unfold hoa; rw [← hn]; exact h1
    · intro _
      cases k with
      | zero =>
        have n0 : n = 1 := by omega
        subst n0
        have ev : v' = p - m := by
          unfold atL at hv
          exact ((Prod.mk.inj hv).1).symm
        rw [ev]
        unfold Bd at *; omega
      | succ k => exact h3 (by omega)
    · unfold hoa; rw [← hn]; exact h4
#print axioms atL_is
end Go.Proofs.Ytkghoaggicnmoaa.Ns
