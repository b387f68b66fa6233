/- Who stands on the sun's side, and who stands right behind the Earth. Conditions: none. -/
import Derived.Test.YtgaanfacjjppcaaSn1
namespace Go.Proofs.Ytgaanfacjjppcaa.Ns
open Go Go.Proofs.Ytgaanfacjjppcaa.Ae Go.Proofs.Ytgaanfacjjppcaa.Fx Go.Proofs.Ytgaanfacjjppcaa.Tx Go.Proofs.Ytgaanfacjjppcaa.Nx Go.Proofs.Ytgaanfacjjppcaa.Np Go.Proofs.Ytgaanfacjjppcaa.Te Go.Proofs.Ytgaanfacjjppcaa.Ve Go.Proofs.Ytgaanfacjjppcaa.Orb Go.Proofs.Ytgaanfacjjppcaa.Su Go.Proofs.Ytgaanfacjjppcaa.Row

theorem dir_there {t : Int} (h : (dirP t false).2 = false) : 0 ≤ t ∧ t ≤ 157766400000 := by
  refine Decidable.byContradiction fun hn => ?_
  have hc : ckT t = false := by
    rw [← rckT_eq]
    unfold rckT an
    by_cases h0 : 0 ≤ t
    · have : ¬ t ≤ 157766400000 := by omega
      simp [this]
    · simp [h0]
  have hd : daysP t false = (0, true) := by
    unfold daysP
    rw [hc, Bool.not_false, bt]; rfl
  have hb : (dirP t false).2 = true := by
    unfold dirP lonP lonG angP angG tipP
    have mod_bad : ∀ a m : Int, mod a m true = (0, true) := fun _ _ => rfl
    simp only [hd, mul_bad, add_bad, sub_bad, sin_bad, cos_bad, mod_bad]
    rfl
  rw [h] at hb; cases hb
/-- A dot's parts. -/
theorem dot_is {a b : V3} (ha : Bd 1099511627876000 a.x ∧ Bd 1099511627876000 a.y ∧ Bd 1099511627876000 a.z) (hb : Bd 1099511627804 b.x ∧ Bd 1099511627804 b.y ∧ Bd 1099511627804 b.z) :
    ∃ c, dotP a b false = (c, false) ∧ Bd 3298534884000000 c ∧ Bd 3298534883328 (2 * (c * 1099511627776 - (a.x * b.x + a.y * b.y + a.z * b.z))) := by
  obtain ⟨m0, h0, b0, e0⟩ := mul_b 1099511627876000 1099511627804 1099511627976000 ha.1 hb.1 (by decide)
  obtain ⟨m1, h1, b1, e1⟩ := mul_b 1099511627876000 1099511627804 1099511627976000 ha.2.1 hb.2.1 (by decide)
  obtain ⟨m2, h2, b2, e2⟩ := mul_b 1099511627876000 1099511627804 1099511627976000 ha.2.2 hb.2.2 (by decide)
  have s1 := add_b 1099511627976000 1099511627976000 b0 b1 (by decide)
  have s2 := add_b 2199023255952000 1099511627976000 (b0.add b1) b2 (by decide)
  refine ⟨m0 + m1 + m2, ?_, ?_, ?_⟩
  · unfold dotP dotG
    simp only [h0, h1, s1, h2, s2]
  · unfold Bd at *; omega
  · generalize a.x * b.x = p at *
    generalize a.y * b.y = q at *
    generalize a.z * b.z = r at *
    unfold Bd at *; omega
theorem sha_is {a b : V3} (ha : Bd 1099511627876000 a.x ∧ Bd 1099511627876000 a.y ∧ Bd 1099511627876000 a.z) (hb : Bd 1099511627804 b.x ∧ Bd 1099511627804 b.y ∧ Bd 1099511627804 b.z) :
    ∃ c n x y z, dotP a b false = (c, false) ∧ Bd 3298534884000000 c ∧ Bd 3298534883328 (2 * (c * 1099511627776 - (a.x * b.x + a.y * b.y + a.z * b.z))) ∧
      shaP a b false = (decide (c < 0) && decide (n < 7012835795048), false) ∧ 0 ≤ n ∧ n * n ≤ (a.x - x) * (a.x - x) + (a.y - y) * (a.y - y) + (a.z - z) * (a.z - z) ∧
      Bd 1099511627776 (2 * (x * 1099511627776 - b.x * c)) ∧ Bd 1099511627776 (2 * (y * 1099511627776 - b.y * c)) ∧ Bd 1099511627776 (2 * (z * 1099511627776 - b.z * c)) := by
  obtain ⟨c, hc, cb, ce⟩ := dot_is ha hb
  obtain ⟨x, h0, x0, e0⟩ := mul_b 1099511627804 3298534884000000 3298534885000000 hb.1 cb (by decide)
  obtain ⟨y, h1, y0, e1⟩ := mul_b 1099511627804 3298534884000000 3298534885000000 hb.2.1 cb (by decide)
  obtain ⟨z, h2, z0, e2⟩ := mul_b 1099511627804 3298534884000000 3298534885000000 hb.2.2 cb (by decide)
  have d0 := sub_b 1099511627876000 3298534885000000 ha.1 x0 (by decide)
  have d1 := sub_b 1099511627876000 3298534885000000 ha.2.1 y0 (by decide)
  have d2 := sub_b 1099511627876000 3298534885000000 ha.2.2 z0 (by decide)
  obtain ⟨n, hn, n0, -, n1, -⟩ := norm_is (a := a.x - x) (b := a.y - y) (c := a.z - z) 4398046512876000 (ha.1.sub x0) (ha.2.1.sub y0) (ha.2.2.sub z0) (by decide)
  refine ⟨c, n, x, y, z, hc, cb, ce, ?_, n0, n1, e0, e1, e2⟩
  unfold shaP shaG
  have hs : scaP b c false = (⟨x, y, z⟩, false) := by
    unfold scaP scaG
    simp only [h0, h1, h2]; rfl
  have hd : vsubP a ⟨x, y, z⟩ false = (⟨a.x - x, a.y - y, a.z - z⟩, false) := by
    unfold vsubP subG
    simp only [d0, d1, d2]; rfl
  simp only [hc, hs, hd, hn]
  unfold an
  cases decide (c < 0) <;> cases decide (n < 7012835795048) <;> rfl
theorem sq_back {a n : Int} (h : a * a < (n + 1) * (n + 1)) (hn : 0 ≤ n) : Bd n a := by
  unfold Bd
  constructor
  · refine Int.not_lt.1 fun hlt => ?_
    have : (n + 1) * (n + 1) ≤ (-a) * (-a) := Int.mul_le_mul (by omega) (by omega) (by omega) (by omega)
    grind
  · refine Int.not_lt.1 fun hlt => ?_
    have : (n + 1) * (n + 1) ≤ a * a := Int.mul_le_mul (by omega) (by omega) (by omega) (by omega)
    omega
/-- Right behind: how far the dot is from -k. -/
theorem behind_dot {k c x y z p q r : Int} (hk : 1099511627776 ≤ k ∧ k ≤ 1099511627776000) (hx : Bd 1099511627804 x) (hy : Bd 1099511627804 y) (hz : Bd 1099511627804 z)
    (hs : Bd 30786325577728 (x * x + y * y + z * z - 1208925819614629174706176))
    (ep : Bd 1099511627776 (2 * (p * 1099511627776 - x * -k))) (eq : Bd 1099511627776 (2 * (q * 1099511627776 - y * -k))) (er : Bd 1099511627776 (2 * (r * 1099511627776 - z * -k)))
    (ec : Bd 3298534883328 (2 * (c * 1099511627776 - (p * x + q * y + r * z)))) : Bd 28010 (c + k) := by
  have k1 := ep.mul hx
  have k2 := eq.mul hy
  have k3 := er.mul hz
  have hkk : Bd 1099511627776000 k := ⟨by omega, hk.2⟩
  have k4 := hkk.mul hs
  have e : 2417851639229258349412352 * (c + k) = 1099511627776 * (2 * (c * 1099511627776 - (p * x + q * y + r * z))) + 2 * (p * 1099511627776 - x * -k) * x + 2 * (q * 1099511627776 - y * -k) * y + 2 * (r * 1099511627776 - z * -k) * z - 2 * (k * (x * x + y * y + z * z - 1208925819614629174706176)) := by grind
  generalize 2 * (c * 1099511627776 - (p * x + q * y + r * z)) = x0 at *
  generalize 2 * (p * 1099511627776 - x * -k) * x = x1 at *
  generalize 2 * (q * 1099511627776 - y * -k) * y = x2 at *
  generalize 2 * (r * 1099511627776 - z * -k) * z = x3 at *
  generalize k * (x * x + y * y + z * z - 1208925819614629174706176) = x4 at *
  unfold Bd at *
  omega
theorem behind_part {k c x p u : Int} (hc : Bd 28010 (c + k)) (hx : Bd 1099511627804 x) (ep : Bd 1099511627776 (2 * (p * 1099511627776 - x * -k))) (eu : Bd 1099511627776 (2 * (u * 1099511627776 - x * c))) : Bd 28020 (p - u) := by
  have k1 := hx.mul hc
  have e : 2 * 1099511627776 * (p - u) = 2 * (p * 1099511627776 - x * -k) - 2 * (u * 1099511627776 - x * c) - 2 * (x * (c + k)) := by grind
  generalize 2 * (p * 1099511627776 - x * -k) = x1 at *
  generalize 2 * (u * 1099511627776 - x * c) = x2 at *
  generalize x * (c + k) = x3 at *
  unfold Bd at *
  omega
theorem side_end {k : Int} {s : V3} (hk : 1099511627776 ≤ k ∧ k ≤ 1099511627776000) (hx : Bd 1099511627804 s.x) (hy : Bd 1099511627804 s.y) (hz : Bd 1099511627804 s.z)
    (hs : Bd 30786325577728 (s.x * s.x + s.y * s.y + s.z * s.z - 1208925819614629174706176)) : sideEnd shaP scaP k s false = some true := by
  have hkk : Bd 1099511627776000 (-k) := ⟨by omega, by omega⟩
  obtain ⟨p, h0, p0, e0⟩ := mul_b 1099511627804 1099511627776000 1099511627876000 hx hkk (by decide)
  obtain ⟨q, h1, q0, e1⟩ := mul_b 1099511627804 1099511627776000 1099511627876000 hy hkk (by decide)
  obtain ⟨r, h2, r0, e2⟩ := mul_b 1099511627804 1099511627776000 1099511627876000 hz hkk (by decide)
  obtain ⟨c, n, x, y, z, -, cb, ce, hsh, n0, n1, u0, u1, u2⟩ := sha_is (a := ⟨p, q, r⟩) (b := s) ⟨p0, q0, r0⟩ ⟨hx, hy, hz⟩
  dsimp only at ce n1
  have hc := behind_dot hk hx hy hz hs e0 e1 e2 ce
  have d0 := behind_part hc hx e0 u0
  have d1 := behind_part hc hy e1 u1
  have d2 := behind_part hc hz e2 u2
  have s0 := d0.mul d0
  have s1 := d1.mul d1
  have s2 := d2.mul d2
  have hn : n < 7012835795048 := by
    refine Int.not_le.1 fun hle => ?_
    have : (7012835795048 : Int) * 7012835795048 ≤ n * n := Int.mul_le_mul hle hle (by decide) (by omega)
    unfold Bd at *
    omega
  have hc0 : c < 0 := by unfold Bd at hc; omega
  have hsc : scaP s (wr .i64 (0 - k)) false = (⟨p, q, r⟩, false) := by
    rw [w64_in (n := 0 - k) (by omega) (by omega), show 0 - k = -k from by omega]
    unfold scaP scaG
    simp only [h0, h1, h2]; rfl
  unfold sideEnd
  simp only [hsc, hsh]
  rw [decide_eq_true hc0, decide_eq_true hn]
  rfl
theorem ssides_law (p : V3) (t k : Int) (w : World) : Calls Try.prog 5 #[.agg ⟨[.int .i64 p.x, .int .i64 p.y, .int .i64 p.z]⟩, .int .i64 t, .int .i64 k] w fun e w' => e = .returned (.bool true) ∧ Go.RowKit.Below w.heap.size w w' := by
  refine law_true envL9_ok ((lsides_raw shaP dirP dirP dotP scaP norm p t k).trans ?_) (RL.cons (by unfold V3.av; simp only [R]; exact ⟨_, rfl, RL.cons (R_int _ _ _) (RL.cons (R_int _ _ _) (RL.cons (R_int _ _ _) (RL_nil.2 rfl)))⟩) (RL.cons (R_int _ _ _) (RL.cons (R_int _ _ _) (RL_nil.2 rfl))))
  dsimp only
  cases hd : (dirP t false).2 with
  | true => rw [bt]
  | false =>
    rw [bf]
    obtain ⟨x, y, z, hv, xb, yb, zb, hsq⟩ := dir_is (dir_there hd)
    have xb := xb.mono (B := 1099511627804) (by decide)
    rw [hv]
    dsimp only
    by_cases hn1 : (norm p.x p.y p.z false).1 > 1099511627776000
    · rw [decide_eq_true hn1, bt]
    rw [decide_eq_false hn1, bf]
    cases hn : (norm p.x p.y p.z false).2 with
    | true => rw [bt]
    | false =>
      rw [bf]
      obtain ⟨-, n, en, n0, -, -, n2⟩ := norm_got hn
      rw [en] at hn1
      dsimp only at hn1
      by_cases hk0 : k < 1099511627776
      · rw [decide_eq_true hk0, bt]
      rw [decide_eq_false hk0, bf]
      by_cases hk1 : k > 1099511627776000
      · rw [decide_eq_true hk1, bt]
      rw [decide_eq_false hk1, bf]
      have px := sq_nonneg p.x
      have py := sq_nonneg p.y
      have pz := sq_nonneg p.z
      have bx := (sq_back (a := p.x) (n := n) (by omega) n0).mono (B := 1099511627876000) (by omega)
      have by' := (sq_back (a := p.y) (n := n) (by omega) n0).mono (B := 1099511627876000) (by omega)
      have bz := (sq_back (a := p.z) (n := n) (by omega) n0).mono (B := 1099511627876000) (by omega)
      obtain ⟨c, m, _, _, _, hc, -, -, hsh, -⟩ := sha_is (a := p) (b := ⟨x, y, z⟩) ⟨bx, by', bz⟩ ⟨xb, yb, zb⟩
      rw [hc]
      dsimp only
      rw [hsh]
      have fin := side_end (k := k) (s := ⟨x, y, z⟩) ⟨by omega, by omega⟩ xb yb zb hsq
      by_cases hc0 : c < 0
      · rw [decide_eq_false (show ¬ c ≥ 0 by omega), bf]; exact fin
      · rw [decide_eq_true (show c ≥ 0 by omega), bt, decide_eq_false hc0]
        dsimp only
        rw [Bool.false_and, bf]; exact fin
#print axioms ssides_law
end Go.Proofs.Ytgaanfacjjppcaa.Ns
