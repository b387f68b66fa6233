/- The series of the sine and the cosine: each step's rounding. Conditions: as each says. -/
import Derived.Test.YtkghoaggicnmoaaNx1
import Derived.Test.YtkghoaggicnmoaaTx2
namespace Go.Proofs.Ytkghoaggicnmoaa.Ns
open Go Go.Proofs.Ytkghoaggicnmoaa.Ae Go.Proofs.Ytkghoaggicnmoaa.Fx Go.Proofs.Ytkghoaggicnmoaa.Tx Go.Proofs.Ytkghoaggicnmoaa.Nx

abbrev Q : Int := 1099511627776
theorem okn_of {n : Int} (h : -4611686018427387904 ≤ n ∧ n ≤ 4611686018427387904) : okn n = true := okn_iff'.2 h
theorem mul_le' {a b A B : Int} (h1 : -A ≤ a ∧ a ≤ A) (h2 : -B ≤ b ∧ b ≤ B) : -(A * B) ≤ a * b ∧ a * b ≤ A * B := by
  have key : (a * b).natAbs ≤ (A * B).natAbs := by
    rw [Int.natAbs_mul, Int.natAbs_mul]
    exact Nat.mul_le_mul (by omega) (by omega)
  have : 0 ≤ A * B := Int.mul_nonneg (by omega) (by omega)
  omega
/-- A product that is small enough. -/
theorem mul_is {a b A B : Int} (h1 : -A ≤ a ∧ a ≤ A) (h2 : -B ≤ b ∧ b ≤ B) (hA : A ≤ 4611686018427387904) (hB : B ≤ 4611686018427387904) (hAB : A * B < 4611686018427387904 * 1099511627776) :
    ∃ r, mul a b false = (r, false) ∧ 2 * (r * 1099511627776 - a * b) ≤ 1099511627776 ∧ -1099511627776 ≤ 2 * (r * 1099511627776 - a * b) := by
  have hab := mul_le' h1 h2
  obtain ⟨r, hr⟩ := rat_some (a := a) (b := b) (c := 1099511627776) (by decide) (by
    have e : (1099511627776 : Int).natAbs = 1099511627776 := rfl
    rw [e]; omega)
  have hm : mul a b false = (r, false) := by
    unfold mul
    rw [lift2 (okn_of (by omega)) (okn_of (by omega)), hr]; rfl
  obtain ⟨-, s1, s2, -, -⟩ := rat_spec hr
  have e : ((1099511627776 : Int).natAbs : Int) = 1099511627776 := rfl
  rw [e] at s1 s2
  exact ⟨r, hm, s1, s2⟩
theorem sub_is {a b : Int} (ha : -4611686018427387904 ≤ a ∧ a ≤ 4611686018427387904) (hb : -4611686018427387904 ≤ b ∧ b ≤ 4611686018427387904) (h : -4611686018427387904 ≤ a - b ∧ a - b ≤ 4611686018427387904) : sub a b false = (a - b, false) := by
  unfold sub
  rw [lift2 (okn_of ha) (okn_of hb), if_pos (okn_of h)]; rfl
theorem add_is {a b : Int} (ha : -4611686018427387904 ≤ a ∧ a ≤ 4611686018427387904) (hb : -4611686018427387904 ≤ b ∧ b ≤ 4611686018427387904) (h : -4611686018427387904 ≤ a + b ∧ a + b ≤ 4611686018427387904) : add a b false = (a + b, false) := by
  unfold add
  rw [lift2 (okn_of ha) (okn_of hb), if_pos (okn_of h)]; rfl
theorem part1_is {a d : Int} (ha : -4611686018427387904 ≤ a ∧ a ≤ 4611686018427387904) (hd : 1 ≤ d ∧ d ≤ 1000) :
    ∃ r, Fx.part a 1 d false = (r, false) ∧ 2 * (r * d - a) ≤ d ∧ -d ≤ 2 * (r * d - a) := by
  have ha' : (a * 1).natAbs ≤ 4611686018427387904 := by omega
  by_cases h1 : (a * 1).natAbs < 4611686018427387904 * d.natAbs
  · obtain ⟨r, hr⟩ := rat_some (a := a) (b := 1) (c := d) (by omega) h1
    obtain ⟨-, s1, s2, -, -⟩ := rat_spec hr
    refine ⟨r, ?_, by omega, by omega⟩
    unfold Fx.part
    rw [lift3 (okn_of ha) (okn_of (by omega)) (okn_of (by omega)), hr]; rfl
  · have hd1 : d = 1 ∧ a.natAbs = 4611686018427387904 := by omega
    obtain ⟨rfl, h⟩ := hd1
    have : a = 4611686018427387904 ∨ a = -4611686018427387904 := by omega
    rcases this with rfl | rfl
    · exact ⟨4611686018427387904, by kernel_rfl, by decide, by decide⟩
    · exact ⟨-4611686018427387904, by kernel_rfl, by decide, by decide⟩
/-- One step: the value v stands for A / B but for E / 16. -/
theorem step {t u v A B d E : Int} (hB : 0 < B) (hd : 2 ≤ d) (hu : 2 * (u * 1099511627776 - t * t) ≤ 1099511627776 ∧ -1099511627776 ≤ 2 * (u * 1099511627776 - t * t)) (ht : 0 ≤ t ∧ t ≤ 1727108826179) (hv : 0 ≤ v ∧ v ≤ 1099511627776)
    {w p : Int} (hw : 2 * (w * 1099511627776 - u * v) ≤ 1099511627776 ∧ -1099511627776 ≤ 2 * (w * 1099511627776 - u * v)) (hp : 2 * (p * d - w) ≤ d ∧ -d ≤ 2 * (p * d - w))
    (hE : -(E * B) ≤ 16 * (v * B - A) ∧ 16 * (v * B - A) ≤ E * B) (hE0 : 0 ≤ E) {E' : Int} (hE' : 2983000000000000000000000 * E + 8 * 1208925819614629174706176 * (d + 2) ≤ E' * (d * 1208925819614629174706176)) :
    -(E' * (B * (d * 1208925819614629174706176))) ≤ 16 * ((1099511627776 - p) * (B * (d * 1208925819614629174706176)) - (1099511627776 * (B * (d * 1208925819614629174706176)) - t * t * A)) ∧
    16 * ((1099511627776 - p) * (B * (d * 1208925819614629174706176)) - (1099511627776 * (B * (d * 1208925819614629174706176)) - t * t * A)) ≤ E' * (B * (d * 1208925819614629174706176)) := by
  generalize h1 : 2 * (p * d - w) = d1 at hp
  generalize h2 : 2 * (w * 1099511627776 - u * v) = d2 at hw
  generalize h3 : 2 * (u * 1099511627776 - t * t) = d3 at hu
  -- 2 p d Q Q = 2 t t v + v d3 + Q d2 + Q Q d1
  have k1 : 2 * (p * d) = 2 * w + d1 := by omega
  have k2 : 2 * (w * 1099511627776) = 2 * (u * v) + d2 := by omega
  have k3 : 2 * (u * 1099511627776) = 2 * (t * t) + d3 := by omega
  have k4 : 2 * (u * 1099511627776) * v = 2 * (t * t * v) + d3 * v := by rw [k3, Int.add_mul, Int.mul_assoc]
  have k5 : 2 * (u * 1099511627776) * v = 2199023255552 * (u * v) := by rw [Int.mul_comm u, ← Int.mul_assoc, Int.mul_assoc]; rfl
  have main : 2417851639229258349412352 * (p * d) = 2 * (t * t * v) + d3 * v + 1099511627776 * d2 + 1208925819614629174706176 * d1 := by
    generalize p * d = P at *
    generalize u * v = U at *
    generalize t * t * v = T at *
    omega
  have tt : 0 ≤ t * t ∧ t * t ≤ 2982904897465403235740041 := ⟨Int.mul_nonneg ht.1 ht.1, Int.mul_le_mul ht.2 ht.2 ht.1 (by decide)⟩
  have vd : -(1099511627776 * 1099511627776) ≤ d3 * v ∧ d3 * v ≤ 1099511627776 * 1099511627776 := mul_le' ⟨by omega, hu.1⟩ ⟨by omega, hv.2⟩
  -- the difference
  have diff : 2 * ((1099511627776 - p) * (B * (d * 1208925819614629174706176)) - (1099511627776 * (B * (d * 1208925819614629174706176)) - t * t * A)) = B * (2 * (t * t * v) - 2417851639229258349412352 * (p * d)) - 2 * (t * t * (v * B - A)) := by
    have e1 : p * (B * (d * 1208925819614629174706176)) = 1208925819614629174706176 * (B * (p * d)) := by
      rw [Int.mul_left_comm p B, ← Int.mul_assoc p d, Int.mul_comm (p * d), Int.mul_left_comm B]
    have e2 : t * t * (v * B - A) = B * (t * t * v) - t * t * A := by rw [Int.mul_sub, ← Int.mul_assoc (t * t) v B, Int.mul_comm (t * t * v) B]
    rw [Int.sub_mul, e1, e2, Int.mul_sub B, Int.mul_left_comm B 2, Int.mul_left_comm B 2417851639229258349412352]
    omega
  have rest : B * (2 * (t * t * v) - (2 * (t * t * v) + d3 * v + 1099511627776 * d2 + 1208925819614629174706176 * d1)) = -(B * (d3 * v + 1099511627776 * d2 + 1208925819614629174706176 * d1)) := by
    rw [← Int.mul_neg]; congr 1; omega
  rw [main, rest] at diff
  have b1 := mul_le' (a := B) (b := d3 * v + 1099511627776 * d2 + 1208925819614629174706176 * d1) (A := B) (B := 1208925819614629174706176 * (d + 2)) ⟨by omega, by omega⟩ ⟨by omega, by omega⟩
  have b2 := mul_le' (a := t * t) (b := 16 * (v * B - A)) (A := 2982904897465403235740041) (B := E * B) ⟨by omega, by omega⟩ hE
  have b3 : t * t * (16 * (v * B - A)) = 16 * (t * t * (v * B - A)) := Int.mul_left_comm ..
  have b4 := Int.mul_le_mul_of_nonneg_left hE' (show 0 ≤ B by omega)
  have b5 : B * (2983000000000000000000000 * E + 8 * 1208925819614629174706176 * (d + 2)) = 2983000000000000000000000 * (E * B) + 8 * (B * (1208925819614629174706176 * (d + 2))) := by
    rw [Int.mul_add, Int.mul_left_comm B, Int.mul_comm B E, Int.mul_assoc 8, Int.mul_left_comm B 8]
  have b6 : B * (E' * (d * 1208925819614629174706176)) = E' * (B * (d * 1208925819614629174706176)) := Int.mul_left_comm ..
  have b7 : 0 ≤ E * B := Int.mul_nonneg hE0 (by omega)
  rw [b5, b6] at b4
  generalize E' * (B * (d * 1208925819614629174706176)) = R at *
  generalize B * (d3 * v + 1099511627776 * d2 + 1208925819614629174706176 * d1) = S at *
  generalize B * (1208925819614629174706176 * (d + 2)) = S2 at *
  generalize E * B = EB at *
  generalize t * t * (v * B - A) = W at *
  generalize (1099511627776 - p) * (B * (d * 1208925819614629174706176)) - (1099511627776 * (B * (d * 1208925819614629174706176)) - t * t * A) = D at *
  omega
end Go.Proofs.Ytkghoaggicnmoaa.Ns
