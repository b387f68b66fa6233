/- The addition law of the series' values below a quarter, and what is left of a quarter. Conditions: as each says. -/
import Derived.Test.YtkghoaggicnmoaaNs6
namespace Go.Proofs.Ytkghoaggicnmoaa.Ns
open Go Go.Proofs.Ytkghoaggicnmoaa.Ae Go.Proofs.Ytkghoaggicnmoaa.Fx Go.Proofs.Ytkghoaggicnmoaa.Tx Go.Proofs.Ytkghoaggicnmoaa.Nx Go.Proofs.Ytkghoaggicnmoaa.Np

/-- Between -K and K. -/
def Bd (K n : Int) : Prop := -K ≤ n ∧ n ≤ K
theorem Bd.mul {a b A B : Int} (h1 : Bd A a) (h2 : Bd B b) : Bd (A * B) (a * b) := Ns.mul_le' h1 h2
theorem Bd.cancel {n K b : Int} (hb : 0 < b) (h : Bd (K * b) (n * b)) : Bd K n := by
  obtain ⟨h1, h2⟩ := h
  constructor
  · refine Int.le_of_mul_le_mul_right (a := b) ?_ hb
    rw [Int.neg_mul]; exact h1
  · exact Int.le_of_mul_le_mul_right (a := b) h2 hb
theorem prod_near {M S C p q B A : Int} (hp : 0 < p) (hq : 0 < q) (hS : Bd M S) (hC : Bd M C) (h1 : Bd (2 * p) (S * p - B)) (h2 : Bd (2 * q) (C * q - A)) :
    Bd ((4 * M + 4) * (p * q)) (S * C * (p * q) - B * A) := by
  obtain ⟨β, hβ⟩ : ∃ β, β = S * p - B := ⟨_, rfl⟩
  obtain ⟨α, hα⟩ : ∃ α, α = C * q - A := ⟨_, rfl⟩
  rw [← hβ] at h1
  rw [← hα] at h2
  have hpp : Bd p p := ⟨by omega, by omega⟩
  have hqq : Bd q q := ⟨by omega, by omega⟩
  have k1 := (hS.mul hpp).mul h2
  have k2 := (hC.mul hqq).mul h1
  have k3 := h1.mul h2
  have e : S * C * (p * q) - B * A = S * p * α + C * q * β - β * α := by
    have eB : B = S * p - β := by omega
    have eA : A = C * q - α := by omega
    rw [eB, eA]; grind
  rw [e]
  unfold Bd at *
  clear hβ hα e hS hC h1 h2 hpp hqq
  grind
theorem sin_add_abs {M S0 C0 S1 C1 S2 B0 A0 B1 A1 B2 p q : Int} (hp : 0 < p) (hq : 0 < q) (hM : M = 1099511627789) (b1 : Bd M S0) (b2 : Bd M C0) (b3 : Bd M S1) (b4 : Bd M C1)
    (s0 : Bd (2 * p) (S0 * p - B0)) (c0 : Bd (2 * q) (C0 * q - A0)) (s1 : Bd (2 * p) (S1 * p - B1)) (c1 : Bd (2 * q) (C1 * q - A1)) (s2 : Bd (2 * p) (S2 * p - B2))
    (h : Bd (274877906944 * (q * p)) (1099511627776 * q * B2 - (B0 * A1 + A0 * B1))) :
    Bd (11 * 1099511627776) (S2 * 1099511627776 - (S0 * C1 + C0 * S1)) := by
  have k1 := prod_near hp hq b1 b4 s0 c1
  have k2 := prod_near hp hq b3 b2 s1 c0
  have hqq : Bd q q := ⟨by omega, by omega⟩
  have k3 := s2.mul hqq
  have hpq : 0 < p * q := Int.mul_pos hp hq
  refine Bd.cancel hpq ?_
  have e : (S2 * 1099511627776 - (S0 * C1 + C0 * S1)) * (p * q) = 1099511627776 * ((S2 * p - B2) * q) - (S0 * C1 * (p * q) - B0 * A1) - (S1 * C0 * (p * q) - B1 * A0) + (1099511627776 * q * B2 - (B0 * A1 + A0 * B1)) := by grind
  rw [e]
  subst hM
  have e2 : q * p = p * q := Int.mul_comm ..
  have e3 : 2 * p * q = 2 * (p * q) := Int.mul_assoc ..
  rw [e2] at h
  rw [e3] at k3
  generalize p * q = P at *
  generalize (S2 * p - B2) * q = x1 at *
  generalize S0 * C1 * P - B0 * A1 = x2 at *
  generalize S1 * C0 * P - B1 * A0 = x3 at *
  generalize 1099511627776 * q * B2 - (B0 * A1 + A0 * B1) = x4 at *
  unfold Bd at *
  omega
theorem cos_add_abs {M S0 C0 S1 C1 C2 B0 A0 B1 A1 A2 p q : Int} (hp : 0 < p) (hq : 0 < q) (hM : M = 1099511627789) (b1 : Bd M S0) (b2 : Bd M C0) (b3 : Bd M S1) (b4 : Bd M C1)
    (s0 : Bd (2 * p) (S0 * p - B0)) (c0 : Bd (2 * q) (C0 * q - A0)) (s1 : Bd (2 * p) (S1 * p - B1)) (c1 : Bd (2 * q) (C1 * q - A1)) (c2 : Bd (2 * q) (C2 * q - A2))
    (h : Bd (274877906944 * (q * q * (p * p))) (1099511627776 * q * (p * p) * A2 - p * p * (A0 * A1) + q * q * (B0 * B1))) :
    Bd (11 * 1099511627776) (C2 * 1099511627776 - (C0 * C1 - S0 * S1)) := by
  have k1 := prod_near hq hq b2 b4 c0 c1
  have k2 := prod_near hp hp b1 b3 s0 s1
  have hpp : Bd (p * p) (p * p) := ⟨by have := Int.mul_pos hp hp; omega, by omega⟩
  have hqq : Bd (q * q) (q * q) := ⟨by have := Int.mul_pos hq hq; omega, by omega⟩
  have hqp : Bd (q * (p * p)) (q * (p * p)) := ⟨by have := Int.mul_pos hq (Int.mul_pos hp hp); omega, by omega⟩
  have k3 := c2.mul hqp
  have k4 := k1.mul hpp
  have k5 := k2.mul hqq
  have hpq : 0 < q * q * (p * p) := Int.mul_pos (Int.mul_pos hq hq) (Int.mul_pos hp hp)
  refine Bd.cancel hpq ?_
  have e : (C2 * 1099511627776 - (C0 * C1 - S0 * S1)) * (q * q * (p * p)) = 1099511627776 * ((C2 * q - A2) * (q * (p * p))) - (C0 * C1 * (q * q) - A0 * A1) * (p * p) + (S0 * S1 * (p * p) - B0 * B1) * (q * q) + (1099511627776 * q * (p * p) * A2 - p * p * (A0 * A1) + q * q * (B0 * B1)) := by grind
  rw [e]
  subst hM
  have e3 : 2 * q * (q * (p * p)) = 2 * (q * q * (p * p)) := by grind
  have e4 : (4 * 1099511627789 + 4) * (q * q) * (p * p) = (4 * 1099511627789 + 4) * (q * q * (p * p)) := by grind
  have e5 : (4 * 1099511627789 + 4) * (p * p) * (q * q) = (4 * 1099511627789 + 4) * (q * q * (p * p)) := by grind
  rw [e3] at k3
  rw [e4] at k4
  rw [e5] at k5
  generalize q * q * (p * p) = P at *
  generalize (C2 * q - A2) * (q * (p * p)) = x1 at *
  generalize (C0 * C1 * (q * q) - A0 * A1) * (p * p) = x2 at *
  generalize (S0 * S1 * (p * p) - B0 * B1) * (q * q) = x3 at *
  generalize 1099511627776 * q * (p * p) * A2 - p * p * (A0 * A1) + q * q * (B0 * B1) = x4 at *
  unfold Bd at *
  omega
/-- The values, by the polynomials. -/
theorem val_is {t : Int} (ht : 0 ≤ t ∧ t ≤ 1727108826179) : Bd 1099511627789 (Sv t) ∧ Bd 1099511627789 (Cv t) ∧ Bd (2 * b1) (Sv t * b1 - Bp t) ∧ Bd (2 * b0) (Cv t * b0 - Ap t) := by
  obtain ⟨-, -, h1, h2, -, h3, h4⟩ := ser_is ht
  refine ⟨⟨by omega, h1.2⟩, ⟨by omega, by omega⟩, ?_, ?_⟩
  · change -(32 * b1) ≤ 16 * (Sv t * b1 - Bp t) ∧ 16 * (Sv t * b1 - Bp t) ≤ 32 * b1 at h3
    unfold Bd; omega
  · change -(32 * b0) ≤ 16 * (Cv t * b0 - Ap t) ∧ 16 * (Cv t * b0 - Ap t) ≤ 32 * b0 at h4
    unfold Bd; omega
/-- The sum of two angles, together below a quarter. -/
theorem add_half {t u : Int} (ht : 0 ≤ t) (hu : 0 ≤ u) (h : t + u ≤ 1727108826179) :
    Bd (11 * 1099511627776) (Sv (t + u) * 1099511627776 - (Sv t * Cv u + Cv t * Sv u)) ∧ Bd (11 * 1099511627776) (Cv (t + u) * 1099511627776 - (Cv t * Cv u - Sv t * Sv u)) := by
  have key : ∀ t u : Int, 0 ≤ t → 0 ≤ u → u ≤ t → t + u ≤ 1727108826179 →
    Bd (11 * 1099511627776) (Sv (t + u) * 1099511627776 - (Sv t * Cv u + Cv t * Sv u)) ∧ Bd (11 * 1099511627776) (Cv (t + u) * 1099511627776 - (Cv t * Cv u - Sv t * Sv u)) := by
    intro t u ht hu hut h
    obtain ⟨t1, t2, t3, t4⟩ := val_is (t := t) ⟨ht, by omega⟩
    obtain ⟨u1, u2, u3, u4⟩ := val_is (t := u) ⟨hu, by omega⟩
    obtain ⟨-, -, v3, v4⟩ := val_is (t := t + u) ⟨by omega, h⟩
    have aS := addS_small (x := t) (y := u) ⟨ht, by omega⟩ ⟨hu, by omega⟩
    have aC := addC_small (x := t) (y := u) ⟨ht, by omega⟩ ⟨hu, by omega⟩
    rw [addS_at] at aS
    rw [addC_at] at aC
    exact ⟨sin_add_abs b1_pos b0_pos rfl t1 t2 u1 u2 t3 t4 u3 u4 v3 aS, cos_add_abs b1_pos b0_pos rfl t1 t2 u1 u2 t3 t4 u3 u4 v4 aC⟩
  by_cases hle : u ≤ t
  · exact key t u ht hu hle h
  · obtain ⟨k1, k2⟩ := key u t hu ht (by omega) (by omega)
    rw [Int.add_comm u t] at k1 k2
    refine ⟨?_, ?_⟩
    · rw [show Sv t * Cv u + Cv t * Sv u = Sv u * Cv t + Cv u * Sv t from by rw [Int.mul_comm (Cv u), Int.mul_comm (Sv u)]; omega]; exact k1
    · rw [show Cv t * Cv u - Sv t * Sv u = Cv u * Cv t - Sv u * Sv t from by rw [Int.mul_comm (Cv u), Int.mul_comm (Sv u)]]; exact k2
/-- What is left of a quarter: the sine for the cosine. -/
theorem ref_half {t : Int} (ht : 0 ≤ t ∧ t ≤ 1727108826179) : Bd 4 (Sv (1727108826179 - t) - Cv t) ∧ Bd 4 (Cv (1727108826179 - t) - Sv t) := by
  have key : ∀ t : Int, 0 ≤ t → t ≤ 863554413090 → Bd 4 (Sv (1727108826179 - t) - Cv t) ∧ Bd 4 (Cv (1727108826179 - t) - Sv t) := by
    intro t h0 h1
    obtain ⟨-, -, t3, t4⟩ := val_is (t := t) ⟨h0, by omega⟩
    obtain ⟨-, -, u3, u4⟩ := val_is (t := 1727108826179 - t) ⟨by omega, by omega⟩
    have rS := refS_small (x := t) ⟨h0, h1⟩
    have rC := refC_small (x := t) ⟨h0, h1⟩
    rw [refS_at] at rS
    rw [refC_at] at rC
    have p0 := b0_pos
    have p1 := b1_pos
    generalize Bp t = B at *
    generalize Ap t = A at *
    generalize Bp (1727108826179 - t) = B' at *
    generalize Ap (1727108826179 - t) = A' at *
    generalize Sv t = S at *
    generalize Cv t = C at *
    generalize Sv (1727108826179 - t) = S' at *
    generalize Cv (1727108826179 - t) = C' at *
    generalize b0 = q at *
    generalize b1 = p at *
    have hpp : Bd p p := ⟨by omega, by omega⟩
    have hqq : Bd q q := ⟨by omega, by omega⟩
    have hpq : 0 < 4 * (p * q) := by have := Int.mul_pos p1 p0; omega
    have m1 := t3.mul hqq
    have m2 := t4.mul hpp
    have m3 := u3.mul hqq
    have m4 := u4.mul hpp
    have e2 : q * p = p * q := Int.mul_comm ..
    have e3 : 2 * p * q = 2 * (p * q) := Int.mul_assoc ..
    have e4 : 2 * q * p = 2 * (p * q) := by grind
    rw [e3] at m1 m3
    rw [e4] at m2 m4
    rw [e2] at rS rC
    -- over 4 p q the difference is 17 at most, below 5 times 4
    have f1 : Bd (17 * (p * q)) ((S' - C) * (4 * (p * q))) := by
      have e : (S' - C) * (4 * (p * q)) = 4 * ((S' * p - B') * q) - 4 * ((C * q - A) * p) + 4 * (q * B' - p * A) := by grind
      rw [e]
      generalize p * q = P at *
      generalize (S' * p - B') * q = x1 at *
      generalize (C * q - A) * p = x2 at *
      generalize q * B' - p * A = x3 at *
      unfold Bd at *; omega
    have f2 : Bd (18 * (p * q)) ((C' - S) * (4 * (p * q))) := by
      have e : (C' - S) * (4 * (p * q)) = 4 * ((C' * q - A') * p) - 4 * ((S * p - B) * q) + 4 * (p * A' - q * B) := by grind
      rw [e]
      generalize p * q = P at *
      generalize (C' * q - A') * p = x1 at *
      generalize (S * p - B) * q = x2 at *
      generalize p * A' - q * B = x3 at *
      unfold Bd at *; omega
    have fin : ∀ n : Int, Bd (18 * (p * q)) (n * (4 * (p * q))) → Bd 4 n := by
      intro n hn
      have hP : 0 < p * q := by omega
      generalize p * q = P at *
      have g1 : Bd 18 (4 * n) := Bd.cancel hP (by rw [show 4 * n * P = n * (4 * P) from by grind]; exact hn)
      unfold Bd at *; omega
    exact ⟨fin _ ⟨by unfold Bd at f1; omega, by unfold Bd at f1; omega⟩, fin _ f2⟩
  by_cases hle : t ≤ 863554413090
  · exact key t ht.1 hle
  · obtain ⟨k1, k2⟩ := key (1727108826179 - t) (by omega) (by omega)
    rw [show 1727108826179 - (1727108826179 - t) = t from by omega] at k1 k2
    unfold Bd at *
    omega
#print axioms add_half
#print axioms ref_half
end Go.Proofs.Ytkghoaggicnmoaa.Ns
