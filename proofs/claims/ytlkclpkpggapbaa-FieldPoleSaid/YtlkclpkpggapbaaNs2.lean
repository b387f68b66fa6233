/- The series of the sine and the cosine: each step's rounding. Conditions: as each says. The series of the sine and the cosine stand for polynomials, but for few units. Conditions: angles of 0 to half of pi. -/
import Derived.Test.YtlkclpkpggapbaaNx1
import Derived.Test.YtlkclpkpggapbaaTx2
namespace Go.Proofs.Ytlkclpkpggapbaa.Ns
open Go Go.Proofs.Ytlkclpkpggapbaa.Ae Go.Proofs.Ytlkclpkpggapbaa.Fx Go.Proofs.Ytlkclpkpggapbaa.Tx Go.Proofs.Ytlkclpkpggapbaa.Nx

abbrev Q : Int := 1099511627776
theorem okn_of {n : Int} (h : -4611686018427387904 ≤ n ∧ n ≤ 4611686018427387904) : okn n = true := okn_iff'.2 h
theorem mul_le' {a b A B : Int} (h1 : -A ≤ a ∧ a ≤ A) (h2 : -B ≤ b ∧ b ≤ B) : -(A * B) ≤ a * b ∧ a * b ≤ A * B := by
  have key : (a * b).natAbs ≤ (A * B).natAbs := by
    rw [Int.natAbs_mul, Int.natAbs_mul]
    exact Nat.mul_le_mul (by omega) (by omega)
  have : 0 ≤ A * B := Int.mul_nonneg (by omega) (by omega)
  omega
/-- A product that is small enough. -/
theorem mul_is {a b A B : Int} (h1 : -A ≤ a ∧ a ≤ A) (h2 : -B ≤ b ∧ b ≤ B) (hA : A ≤ 4611686018427387904) (hB : B ≤ 4611686018427387904) (hAB : A * B < 4611686018427387904 * 1099511627776) :
    ∃ r, mul a b false = (r, false) ∧ 2 * (r * 1099511627776 - a * b) ≤ 1099511627776 ∧ -1099511627776 ≤ 2 * (r * 1099511627776 - a * b) := by
  have hab := mul_le' h1 h2
  obtain ⟨r, hr⟩ := rat_some (a := a) (b := b) (c := 1099511627776) (by decide) (by
    have e : (1099511627776 : Int).natAbs = 1099511627776 := rfl
    rw [e]; omega)
  have hm : mul a b false = (r, false) := by
    unfold mul
    rw [lift2 (okn_of (by omega)) (okn_of (by omega)), hr]; rfl
  obtain ⟨-, s1, s2, -, -⟩ := rat_spec hr
  have e : ((1099511627776 : Int).natAbs : Int) = 1099511627776 := rfl
  rw [e] at s1 s2
  exact ⟨r, hm, s1, s2⟩
theorem sub_is {a b : Int} (ha : -4611686018427387904 ≤ a ∧ a ≤ 4611686018427387904) (hb : -4611686018427387904 ≤ b ∧ b ≤ 4611686018427387904) (h : -4611686018427387904 ≤ a - b ∧ a - b ≤ 4611686018427387904) : sub a b false = (a - b, false) := by
  unfold sub
  rw [lift2 (okn_of ha) (okn_of hb), if_pos (okn_of h)]; rfl
theorem add_is {a b : Int} (ha : -4611686018427387904 ≤ a ∧ a ≤ 4611686018427387904) (hb : -4611686018427387904 ≤ b ∧ b ≤ 4611686018427387904) (h : -4611686018427387904 ≤ a + b ∧ a + b ≤ 4611686018427387904) : add a b false = (a + b, false) := by
  unfold add
  rw [lift2 (okn_of ha) (okn_of hb), if_pos (okn_of h)]; rfl
theorem part1_is {a d : Int} (ha : -4611686018427387904 ≤ a ∧ a ≤ 4611686018427387904) (hd : 1 ≤ d ∧ d ≤ 1000) :
    ∃ r, Fx.part a 1 d false = (r, false) ∧ 2 * (r * d - a) ≤ d ∧ -d ≤ 2 * (r * d - a) := by
  have ha' : (a * 1).natAbs ≤ 4611686018427387904 := by omega
  by_cases h1 : (a * 1).natAbs < 4611686018427387904 * d.natAbs
  · obtain ⟨r, hr⟩ := rat_some (a := a) (b := 1) (c := d) (by omega) h1
    obtain ⟨-, s1, s2, -, -⟩ := rat_spec hr
    refine ⟨r, ?_, by omega, by omega⟩
    unfold Fx.part
    rw [lift3 (okn_of ha) (okn_of (by omega)) (okn_of (by omega)), hr]; rfl
  · have hd1 : d = 1 ∧ a.natAbs = 4611686018427387904 := by omega
    obtain ⟨rfl, h⟩ := hd1
    have : a = 4611686018427387904 ∨ a = -4611686018427387904 := by omega
    rcases this with rfl | rfl
    · exact ⟨4611686018427387904, by kernel_rfl, by decide, by decide⟩
    · exact ⟨-4611686018427387904, by kernel_rfl, by decide, by decide⟩
/-- One step: the value v stands for A / B but for E / 16. -/
theorem step {t u v A B d E : Int} (hB : 0 < B) (hd : 2 ≤ d) (hu : 2 * (u * 1099511627776 - t * t) ≤ 1099511627776 ∧ -1099511627776 ≤ 2 * (u * 1099511627776 - t * t)) (ht : 0 ≤ t ∧ t ≤ 1727108826179) (hv : 0 ≤ v ∧ v ≤ 1099511627776)
    {w p : Int} (hw : 2 * (w * 1099511627776 - u * v) ≤ 1099511627776 ∧ -1099511627776 ≤ 2 * (w * 1099511627776 - u * v)) (hp : 2 * (p * d - w) ≤ d ∧ -d ≤ 2 * (p * d - w))
    (hE : -(E * B) ≤ 16 * (v * B - A) ∧ 16 * (v * B - A) ≤ E * B) (hE0 : 0 ≤ E) {E' : Int} (hE' : 2983000000000000000000000 * E + 8 * 1208925819614629174706176 * (d + 2) ≤ E' * (d * 1208925819614629174706176)) :
    -(E' * (B * (d * 1208925819614629174706176))) ≤ 16 * ((1099511627776 - p) * (B * (d * 1208925819614629174706176)) - (1099511627776 * (B * (d * 1208925819614629174706176)) - t * t * A)) ∧
    16 * ((1099511627776 - p) * (B * (d * 1208925819614629174706176)) - (1099511627776 * (B * (d * 1208925819614629174706176)) - t * t * A)) ≤ E' * (B * (d * 1208925819614629174706176)) := by
  generalize h1 : 2 * (p * d - w) = d1 at hp
  generalize h2 : 2 * (w * 1099511627776 - u * v) = d2 at hw
  generalize h3 : 2 * (u * 1099511627776 - t * t) = d3 at hu
  -- 2 p d Q Q = 2 t t v + v d3 + Q d2 + Q Q d1
  have k1 : 2 * (p * d) = 2 * w + d1 := by omega
  have k2 : 2 * (w * 1099511627776) = 2 * (u * v) + d2 := by omega
  have k3 : 2 * (u * 1099511627776) = 2 * (t * t) + d3 := by omega
  have k4 : 2 * (u * 1099511627776) * v = 2 * (t * t * v) + d3 * v := by rw [k3, Int.add_mul, Int.mul_assoc]
  have k5 : 2 * (u * 1099511627776) * v = 2199023255552 * (u * v) := by rw [Int.mul_comm u, ← Int.mul_assoc, Int.mul_assoc]; rfl
  have main : 2417851639229258349412352 * (p * d) = 2 * (t * t * v) + d3 * v + 1099511627776 * d2 + 1208925819614629174706176 * d1 := by
    generalize p * d = P at *
    generalize u * v = U at *
    generalize t * t * v = T at *
    omega
  have tt : 0 ≤ t * t ∧ t * t ≤ 2982904897465403235740041 := ⟨Int.mul_nonneg ht.1 ht.1, Int.mul_le_mul ht.2 ht.2 ht.1 (by decide)⟩
  have vd : -(1099511627776 * 1099511627776) ≤ d3 * v ∧ d3 * v ≤ 1099511627776 * 1099511627776 := mul_le' ⟨by omega, hu.1⟩ ⟨by omega, hv.2⟩
  -- the difference
  have diff : 2 * ((1099511627776 - p) * (B * (d * 1208925819614629174706176)) - (1099511627776 * (B * (d * 1208925819614629174706176)) - t * t * A)) = B * (2 * (t * t * v) - 2417851639229258349412352 * (p * d)) - 2 * (t * t * (v * B - A)) := by
    have e1 : p * (B * (d * 1208925819614629174706176)) = 1208925819614629174706176 * (B * (p * d)) := by
      rw [Int.mul_left_comm p B, ← Int.mul_assoc p d, Int.mul_comm (p * d), Int.mul_left_comm B]
    have e2 : t * t * (v * B - A) = B * (t * t * v) - t * t * A := by rw [Int.mul_sub, ← Int.mul_assoc (t * t) v B, Int.mul_comm (t * t * v) B]
    rw [Int.sub_mul, e1, e2, Int.mul_sub B, Int.mul_left_comm B 2, Int.mul_left_comm B 2417851639229258349412352]
    omega
  have rest : B * (2 * (t * t * v) - (2 * (t * t * v) + d3 * v + 1099511627776 * d2 + 1208925819614629174706176 * d1)) = -(B * (d3 * v + 1099511627776 * d2 + 1208925819614629174706176 * d1)) := by
    rw [← Int.mul_neg]; congr 1; omega
  rw [main, rest] at diff
  have b1 := mul_le' (a := B) (b := d3 * v + 1099511627776 * d2 + 1208925819614629174706176 * d1) (A := B) (B := 1208925819614629174706176 * (d + 2)) ⟨by omega, by omega⟩ ⟨by omega, by omega⟩
  have b2 := mul_le' (a := t * t) (b := 16 * (v * B - A)) (A := 2982904897465403235740041) (B := E * B) ⟨by omega, by omega⟩ hE
  have b3 : t * t * (16 * (v * B - A)) = 16 * (t * t * (v * B - A)) := Int.mul_left_comm ..
  have b4 := Int.mul_le_mul_of_nonneg_left hE' (show 0 ≤ B by omega)
  have b5 : B * (2983000000000000000000000 * E + 8 * 1208925819614629174706176 * (d + 2)) = 2983000000000000000000000 * (E * B) + 8 * (B * (1208925819614629174706176 * (d + 2))) := by
    rw [Int.mul_add, Int.mul_left_comm B, Int.mul_comm B E, Int.mul_assoc 8, Int.mul_left_comm B 8]
  have b6 : B * (E' * (d * 1208925819614629174706176)) = E' * (B * (d * 1208925819614629174706176)) := Int.mul_left_comm ..
  have b7 : 0 ≤ E * B := Int.mul_nonneg hE0 (by omega)
  rw [b5, b6] at b4
  generalize E' * (B * (d * 1208925819614629174706176)) = R at *
  generalize B * (d3 * v + 1099511627776 * d2 + 1208925819614629174706176 * d1) = S at *
  generalize B * (1208925819614629174706176 * (d + 2)) = S2 at *
  generalize E * B = EB at *
  generalize t * t * (v * B - A) = W at *
  generalize (1099511627776 - p) * (B * (d * 1208925819614629174706176)) - (1099511627776 * (B * (d * 1208925819614629174706176)) - t * t * A) = D at *
  omega
end Go.Proofs.Ytlkclpkpggapbaa.Ns

namespace Go.Proofs.Ytlkclpkpggapbaa.Ns
open Go Go.Proofs.Ytlkclpkpggapbaa.Ae Go.Proofs.Ytlkclpkpggapbaa.Fx Go.Proofs.Ytlkclpkpggapbaa.Tx Go.Proofs.Ytlkclpkpggapbaa.Nx

/-- The divisor of a step. -/
def dv (first : Int) (k : Nat) : Int := (2 * (k : Int) + 1 + first) * (2 * (k : Int) + 2 + first)
/-- Numerator and denominator, step by step. -/
def hor (t first : Int) : Nat → Int × Int → Int × Int
  | 0, s => s
  | k + 1, s => hor t first k (1099511627776 * (s.2 * (dv first k * 1208925819614629174706176)) - t * t * s.1, s.2 * (dv first k * 1208925819614629174706176))
def erS (d E : Int) : Int := (2983000000000000000000000 * E + 8 * 1208925819614629174706176 * (d + 2)) / (d * 1208925819614629174706176) + 1
def err (first : Int) : Nat → Int → Int
  | 0, E => E
  | k + 1, E => err first k (erS (dv first k) E)
theorem erS_ok {d E : Int} (hd : 0 < d) (hE : 0 ≤ E) : 2983000000000000000000000 * E + 8 * 1208925819614629174706176 * (d + 2) ≤ erS d E * (d * 1208925819614629174706176) ∧ 0 ≤ erS d E := by
  have hp : 0 < d * 1208925819614629174706176 := by omega
  have h1 := Int.emod_add_mul_ediv (2983000000000000000000000 * E + 8 * 1208925819614629174706176 * (d + 2)) (d * 1208925819614629174706176)
  have h2 := Int.emod_lt_of_pos (2983000000000000000000000 * E + 8 * 1208925819614629174706176 * (d + 2)) hp
  have h3 : 0 ≤ (2983000000000000000000000 * E + 8 * 1208925819614629174706176 * (d + 2)) / (d * 1208925819614629174706176) := Int.ediv_nonneg (by omega) (by omega)
  unfold erS
  rw [Int.add_mul, Int.one_mul, Int.mul_comm (_ / _)]
  omega
theorem dv_eq {first : Int} (hf : first = 0 ∨ first = 1) {k : Nat} (hk : k < 10) :
    wr .i64 (wr .i64 (wr .i64 (((2 * (k + 1) : Nat) : Int) + first) - 1) * wr .i64 (((2 * (k + 1) : Nat) : Int) + first)) = dv first k ∧ 2 ≤ dv first k ∧ dv first k ≤ 420 ∧ (1 ≤ k ∨ first = 1 → 6 ≤ dv first k) := by
  have : k = 0 ∨ k = 1 ∨ k = 2 ∨ k = 3 ∨ k = 4 ∨ k = 5 ∨ k = 6 ∨ k = 7 ∨ k = 8 ∨ k = 9 := by omega
  rcases hf with rfl | rfl <;> rcases this with rfl | rfl | rfl | rfl | rfl | rfl | rfl | rfl | rfl | rfl <;> decide
/-- All steps. -/
theorem serL_ok {t u first : Int} (hf : first = 0 ∨ first = 1) (ht : 0 ≤ t ∧ t ≤ 1727108826179) (hu : 2 * (u * 1099511627776 - t * t) ≤ 1099511627776 ∧ -1099511627776 ≤ 2 * (u * 1099511627776 - t * t)) (hu0 : 0 ≤ u ∧ u ≤ 2713000000000) :
    ∀ (k : Nat) (v A B E : Int), k ≤ 10 → 0 < B → 0 ≤ E → (0 ≤ v ∧ v ≤ 1099511627776) → (-(E * B) ≤ 16 * (v * B - A) ∧ 16 * (v * B - A) ≤ E * B) →
      ∃ v', serL sub mul Fx.part u first k (v, false) = (v', false) ∧ 0 < (hor t first k (A, B)).2 ∧ 0 ≤ err first k E ∧ (-1099511627776 ≤ v' ∧ v' ≤ 1099511627776) ∧ (first = 1 → 0 ≤ v') ∧
        (-(err first k E * (hor t first k (A, B)).2) ≤ 16 * (v' * (hor t first k (A, B)).2 - (hor t first k (A, B)).1) ∧ 16 * (v' * (hor t first k (A, B)).2 - (hor t first k (A, B)).1) ≤ err first k E * (hor t first k (A, B)).2)
  | 0, v, A, B, E, _, hB, hE0, hv, hE => ⟨v, rfl, hB, hE0, ⟨by omega, hv.2⟩, fun _ => hv.1, hE⟩
  | k + 1, v, A, B, E, hk, hB, hE0, hv, hE => by
    obtain ⟨d1, d2, d3, d4⟩ := dv_eq hf (show k < 10 by omega)
    obtain ⟨w, hw, w1, w2⟩ := mul_is (a := u) (b := v) (A := 2713000000000) (B := 1099511627776) ⟨by omega, hu0.2⟩ ⟨by omega, hv.2⟩ (by decide) (by decide) (by decide)
    have huv := mul_le' (a := u) (b := v) (A := 2713000000000) (B := 1099511627776) ⟨by omega, hu0.2⟩ ⟨by omega, hv.2⟩
    have huv0 := Int.mul_nonneg hu0.1 hv.1
    have hw0 : 0 ≤ w ∧ w ≤ 2713000000001 := by omega
    obtain ⟨p, hp, p1, p2⟩ := part1_is (a := w) (d := dv first k) (by omega) ⟨by omega, by omega⟩
    unfold serL
    simp only [d1, hw, hp]
    have hp0 : 0 ≤ p ∧ p ≤ 2713000000002 ∧ (6 ≤ dv first k → p ≤ 1099511627776) ∧ p ≤ 2199023255552 := by
      generalize dv first k = d at *
      have key : ∀ m : Int, 0 ≤ m → m < p → (m + 1) * d ≤ p * d := fun m h1 h2 => Int.mul_le_mul_of_nonneg_right (by omega) (by omega)
      refine ⟨?_, ?_, fun h6 => ?_, ?_⟩
      · refine Int.not_lt.1 fun hn => ?_
        have : p * d ≤ (-1) * d := Int.mul_le_mul_of_nonneg_right (by omega) (by omega)
        generalize p * d = P at *
        omega
      · refine Int.not_lt.1 fun hn => ?_
        have := key 2713000000002 (by decide) hn
        generalize p * d = P at *
        omega
      · refine Int.not_lt.1 fun hn => ?_
        have := key 1099511627776 (by decide) hn
        generalize p * d = P at *
        omega
      · refine Int.not_lt.1 fun hn => ?_
        have := key 2199023255552 (by decide) hn
        generalize p * d = P at *
        omega
    rw [sub_is (a := 1099511627776) (b := p) (by omega) (by omega) (by omega)]
    obtain ⟨e1, e2⟩ := erS_ok (d := dv first k) (E := E) (by omega) hE0
    have st := step hB d2 hu ht hv ⟨w1, w2⟩ ⟨p1, p2⟩ hE hE0 e1
    have hB' : 0 < B * (dv first k * 1208925819614629174706176) := Int.mul_pos hB (by omega)
    by_cases h6 : 6 ≤ dv first k
    · have hp6 := hp0.2.2.1 h6
      exact serL_ok hf ht hu hu0 k (1099511627776 - p) _ _ _ (by omega) hB' e2 ⟨by omega, by omega⟩ st
    · have hk0 : k = 0 ∧ first ≠ 1 := by
        constructor
        · refine Decidable.byContradiction fun h => h6 (d4 (.inl (by omega)))
        · exact fun h => h6 (d4 (.inr h))
      obtain ⟨rfl, hf1⟩ := hk0
      exact ⟨1099511627776 - p, rfl, hB', e2, ⟨by omega, by omega⟩, fun h => absurd h hf1, st⟩
#print axioms serL_ok
end Go.Proofs.Ytlkclpkpggapbaa.Ns
