/- One step of Kepler's equation. Conditions: as each says. -/
import Derived.Test.YtgaanfacjjppcaaNk0
import Derived.Test.YtgaanfacjjppcaaOb4
namespace Go.Proofs.Ytgaanfacjjppcaa.Ns
open Go Go.Proofs.Ytgaanfacjjppcaa.Ae Go.Proofs.Ytgaanfacjjppcaa.Fx Go.Proofs.Ytgaanfacjjppcaa.Tx Go.Proofs.Ytgaanfacjjppcaa.Nx Go.Proofs.Ytgaanfacjjppcaa.Np Go.Proofs.Ytgaanfacjjppcaa.Orb

/-- What is left of Kepler's equation behind a step, of numbers alone. -/
theorem kep_abs {G q e s c s' Sq Cq b1 b2 o a2 x m K1 K2 X G1 : Int} (hs : Bd 1099511627789 s) (hc : Bd 1099511627789 c) (he : Bd 109951162777 e)
    (hS : Bd K1 (Sq - -q)) (hC : Bd K2 (Cq - 1099511627776)) (hadd : Bd (32 * 1099511627776) (s' * 1099511627776 - (s * Cq + c * Sq)))
    (hG : G = (x - m) * 1099511627776 - e * s) (ha2 : Bd 1099511627776 (2 * (a2 * 1099511627776 - e * s))) (ho : o = x - a2 - m) (hb1 : Bd 1099511627776 (2 * (b1 * 1099511627776 - e * c))) (hb2 : b2 = 1099511627776 - b1)
    (hb : b2 ≤ 1209462790570) (hq : Bd b2 (2 * (q * b2 - o * 1099511627776))) (hqX : Bd X q)
    (hcond : 1208925819614629174706176 + 1329818401594124082872320 + X * 1099511627776 + 219902325554 * (1099511627789 * K1 + 1099511627789 * K2 + 32 * 1099511627776) ≤ 2199023255552 * G1) :
    Bd G1 ((x - q - m) * 1099511627776 - e * s') := by
  have k1 := hs.mul hC
  have k2 := hc.mul hS
  have k3 := he.mul ((k1.add k2).add hadd)
  have k4 := hqX.mul hb1
  have e1 : 2199023255552 * ((x - q - m) * 1099511627776 - e * s') = 1099511627776 * (2 * (a2 * 1099511627776 - e * s)) - 1099511627776 * (2 * (q * b2 - o * 1099511627776)) - q * (2 * (b1 * 1099511627776 - e * c)) - 2 * (e * (s * (Cq - 1099511627776) + c * (Sq - -q) + (s' * 1099511627776 - (s * Cq + c * Sq)))) := by
    subst ho hb2; grind
  generalize (x - q - m) * 1099511627776 - e * s' = T at *
  generalize e * (s * (Cq - 1099511627776) + c * (Sq - -q) + (s' * 1099511627776 - (s * Cq + c * Sq))) = y1 at *
  generalize q * (2 * (b1 * 1099511627776 - e * c)) = y2 at *
  generalize 2 * (q * b2 - o * 1099511627776) = y3 at *
  generalize 2 * (a2 * 1099511627776 - e * s) = y4 at *
  have e3 : 109951162777 * (1099511627789 * K2 + 1099511627789 * K1 + 32 * 1099511627776) = 109951162777 * (1099511627789 * K1 + 1099511627789 * K2 + 32 * 1099511627776) := by omega
  unfold Bd at *
  omega
theorem kep_step {x m e : Int} (G0 O X K1 K2 G1 : Int) (hx : Bd 10000000000000 x) (hm : Bd 10000000000000 m) (he : 0 ≤ e ∧ e ≤ 109951162777)
    (hG : Bd G0 ((x - m) * 1099511627776 - e * sv x)) (hO : decide (2 * G0 + 1099511627776 < 2 * ((O + 1) * 1099511627776)) = true) (hX : decide (2 * O * 1099511627776 < (2 * X + 1) * 989560464980) = true) (hX' : decide (X < 1727108826179) = true) (hO' : decide (O ≤ 1099511627776) = true)
    (h1 : decide (bnd2 dS.nf X 0 ≤ K1 * b1) = true) (h2 : decide (bnd2 dC.nf X 0 ≤ K2 * b0) = true)
    (hcond : decide (1208925819614629174706176 + 1329818401594124082872320 + X * 1099511627776 + 219902325554 * (1099511627789 * (K1 + 6) + 1099511627789 * (K2 + 6) + 32 * 1099511627776) ≤ 2199023255552 * G1) = true) :
    ∃ x', kepS sub mul div sinP cosP m e (x, false) = (x', false) ∧ Bd X (x' - x) ∧ Bd G1 ((x' - m) * 1099511627776 - e * sv x') := by
  have hO := of_decide_eq_true hO
  have hX := of_decide_eq_true hX
  have hX' := of_decide_eq_true hX'
  have hO' := of_decide_eq_true hO'
  have hcond := of_decide_eq_true hcond
  have heb : Bd 109951162777 e := ⟨by omega, he.2⟩
  obtain ⟨hs, hc, sb, cb, -⟩ := sc_is (a := x) (by unfold Bd at hx; omega)
  obtain ⟨a2, ha2, a2b, a2e⟩ := mul_b 109951162777 1099511627789 109951162779 heb sb (by decide)
  have h3 := sub_b (a := x) (b := a2) 10000000000000 109951162779 hx a2b (by decide)
  have h4 := sub_b (a := x - a2) (b := m) 10109951162779 10000000000000 (hx.sub a2b) hm (by decide)
  obtain ⟨b1', hb1, b1b, b1e⟩ := mul_b 109951162777 1099511627789 109951162779 heb cb (by decide)
  have h5 := sub_b (a := 1099511627776) (b := b1') 1099511627776 109951162779 ⟨by decide, by decide⟩ b1b (by decide)
  have b2b : 989560464997 ≤ 1099511627776 - b1' ∧ 1099511627776 - b1' ≤ 1209462790555 := by unfold Bd at b1b; omega
  have ob : Bd O (x - a2 - m) := by
    have ee : 2 * ((x - a2 - m) * 1099511627776) = 2 * ((x - m) * 1099511627776 - e * sv x) - 2 * (a2 * 1099511627776 - e * sv x) := by grind
    generalize 2 * (a2 * 1099511627776 - e * sv x) = y1 at *
    generalize (x - m) * 1099511627776 - e * sv x = y2 at *
    unfold Bd at *; omega
  obtain ⟨q, hq, qe⟩ := div_is (a := x - a2 - m) (q := 1099511627776 - b1') O ob (by omega) ⟨by omega, by omega⟩ (by omega)
  have qb : Bd X q := by
    have bb := b2b
    generalize 1099511627776 - b1' = b2 at *
    have qe2 : Bd b2 (2 * (q * b2) - 2 * ((x - a2 - m) * 1099511627776)) := by unfold Bd at *; omega
    have key : ∀ r : Int, X + 1 ≤ r → (2 * X + 2) * b2 ≤ 2 * (r * b2) := fun r hr => by
      have := Int.mul_le_mul_of_nonneg_right hr (show 0 ≤ b2 by omega)
      grind
    have big : 2 * O * 1099511627776 < (2 * X + 1) * b2 := by
      have hXn : 0 ≤ 2 * X + 1 := by
        refine Int.not_lt.1 fun hn => ?_
        have h0 : 0 ≤ O := by unfold Bd at ob; omega
        omega
      have := Int.mul_le_mul_of_nonneg_left (show (989560464980 : Int) ≤ b2 by omega) hXn
      omega
    have e1 : (2 * X + 2) * b2 = (2 * X + 1) * b2 + b2 := by grind
    refine ⟨Int.not_lt.1 fun hn => ?_, Int.not_lt.1 fun hn => ?_⟩
    · have := key (-q) (by omega)
      rw [Int.neg_mul] at this
      generalize q * b2 = qb2 at *
      unfold Bd at *; omega
    · have := key q (by omega)
      generalize q * b2 = qb2 at *
      unfold Bd at *; omega
  have h6 := sub_b (a := x) (b := q) 10000000000000 1727108826179 hx (qb.mono (by omega)) (by decide)
  obtain ⟨n1, n2⟩ := near_sc (q := -q) (K1 := K1) (K2 := K2) (X := X) qb.neg (by omega) h1 h2
  obtain ⟨ad, -⟩ := add_law (a := x) (b := -q) (by unfold Bd at hx; omega) (by unfold Bd at qb; omega)
  rw [← Int.sub_eq_add_neg] at ad
  refine ⟨x - q, ?_, ?_, kep_abs sb cb heb n1 n2 ad rfl a2e rfl b1e rfl (by omega) qe qb hcond⟩
  · unfold kepS
    simp only [hs, ha2, h3, h4, hc, hb1, h5, hq, h6]
  · unfold Bd at *; omega
#print axioms kep_step
end Go.Proofs.Ytgaanfacjjppcaa.Ns
