/- A point's angle: its sine and its cosine are the point's, at the distance 1. Conditions: as each says. -/
import Derived.Test.YtkghoaggicnmoaaNt3
import Derived.Test.YtkghoaggicnmoaaTn1
namespace Go.Proofs.Ytkghoaggicnmoaa.Ns
open Go Go.Proofs.Ytkghoaggicnmoaa.Ae Go.Proofs.Ytkghoaggicnmoaa.Fx Go.Proofs.Ytkghoaggicnmoaa.Lx Go.Proofs.Ytkghoaggicnmoaa.Rx Go.Proofs.Ytkghoaggicnmoaa.Tx Go.Proofs.Ytkghoaggicnmoaa.Row Go.Proofs.Ytkghoaggicnmoaa.Tl Go.Proofs.Ytkghoaggicnmoaa.Nx Go.Proofs.Ytkghoaggicnmoaa.Np

/-- Twice an angle. -/
theorem dbl_abs {S C t1 t2 s1 c1 : Int} (T1 T2 K K' : Int) (Sb : Bd 1099511627789 S) (Cb : Bd 1099511627789 C) (h1 : Bd T1 t1) (h2 : Bd T2 t2) (G : Bd K (S * 1099511627776 - t2 * C)) (F : Bd 3626777458843887524118528 (t1 * (1208925819614629174706176 - t2 * t2) - 2 * t2 * 1208925819614629174706176))
    (es : Bd (32 * 1099511627776) (s1 * 1099511627776 - (S * C + C * S))) (ec : Bd (32 * 1099511627776) (c1 * 1099511627776 - (C * C - S * S)))
    (hK : decide (1099511627789 * 1099511627789 * 3626777458843887524118528 + 2 * 1208925819614629174706176 * (1099511627789 * K) + T1 * K * (2 * T2 * 1099511627789 + K) + 1329227995784915872903807060280344576 * (32 * 1099511627776) + 1208925819614629174706176 * (T1 * (32 * 1099511627776)) ≤ 1329227995784915872903807060280344576 * K') = true) :
    Bd K' (s1 * 1099511627776 - t1 * c1) := by
  have hK := of_decide_eq_true hK
  have k1 := (Cb.mul Cb).mul F
  have k2 := Cb.mul G
  have t2b : Bd (2 * T2) (2 * t2) := by unfold Bd at *; omega
  have k3 := (h1.mul G).mul ((t2b.mul Cb).add G)
  have k4 := h1.mul ec
  have e : 1329227995784915872903807060280344576 * (s1 * 1099511627776 - t1 * c1) = 2 * 1208925819614629174706176 * (C * (S * 1099511627776 - t2 * C)) - C * C * (t1 * (1208925819614629174706176 - t2 * t2) - 2 * t2 * 1208925819614629174706176) + t1 * (S * 1099511627776 - t2 * C) * (2 * t2 * C + (S * 1099511627776 - t2 * C)) +
      1329227995784915872903807060280344576 * (s1 * 1099511627776 - (S * C + C * S)) - 1208925819614629174706176 * (t1 * (c1 * 1099511627776 - (C * C - S * S))) := by grind
  generalize s1 * 1099511627776 - t1 * c1 = X at *
  generalize C * (S * 1099511627776 - t2 * C) = y1 at *
  generalize C * C * (t1 * (1208925819614629174706176 - t2 * t2) - 2 * t2 * 1208925819614629174706176) = y2 at *
  generalize t1 * (S * 1099511627776 - t2 * C) * (2 * t2 * C + (S * 1099511627776 - t2 * C)) = y3 at *
  generalize s1 * 1099511627776 - (S * C + C * S) = y4 at *
  generalize t1 * (c1 * 1099511627776 - (C * C - S * S)) = y5 at *
  unfold Bd at *
  omega
theorem sq_mono {a b : Int} (ha : 0 ≤ a) (h : a ≤ b) : a * a ≤ b * b := Int.mul_le_mul h h ha (by omega)
/-- A direction with a tangent, and a point with that tangent. -/
theorem fin_abs {s c t p m n : Int} (hs : 0 ≤ s) (hc : 0 ≤ c) (sb : Bd 1099511627789 s) (cb : Bd 1099511627789 c) (one : Bd 13194139533312 (s * s + c * c - 1208925819614629174706176)) (G : Bd 329853488332800 (s * 1099511627776 - t * c))
    (hp : 0 ≤ p) (hm : 0 ≤ m) (te : Bd m (2 * (t * m - p * 1099511627776))) (hn : 1099511627776 ≤ n) (n1 : n * n ≤ m * m + p * p) (n2 : m * m + p * p < (n + 1) * (n + 1)) :
    (∀ d, Bd n (2 * (d * n - p * 1099511627776)) → Bd 320 (s - d)) ∧ (∀ d, Bd n (2 * (d * n - m * 1099511627776)) → Bd 320 (c - d)) := by
  have pp : 0 ≤ p * p := Int.mul_nonneg hp hp
  have mm : 0 ≤ m * m := Int.mul_nonneg hm hm
  have mn : m ≤ n := by
    refine Int.not_lt.1 fun hh => ?_
    have : (n + 1) * (n + 1) ≤ m * m := Int.mul_le_mul (by omega) (by omega) (by omega) (by omega)
    omega
  have pn : p ≤ n := by
    refine Int.not_lt.1 fun hh => ?_
    have : (n + 1) * (n + 1) ≤ p * p := Int.mul_le_mul (by omega) (by omega) (by omega) (by omega)
    omega
  have mb : Bd m m := ⟨by omega, by omega⟩
  have nb : Bd n n := ⟨by omega, by omega⟩
  have pnb : Bd n p := ⟨by omega, pn⟩
  have mnb : Bd n m := ⟨by omega, mn⟩
  obtain ⟨X, hX⟩ : ∃ X, X = s * m - c * p := ⟨_, rfl⟩
  obtain ⟨Y, hY⟩ : ∃ Y, Y = c * m + s * p := ⟨_, rfl⟩
  have Xb : Bd (301 * n) X := by
    have k1 := G.mul mb
    have k2 := cb.mul te
    have e : 2 * 1099511627776 * X = 2 * ((s * 1099511627776 - t * c) * m) + c * (2 * (t * m - p * 1099511627776)) := by subst hX; grind
    generalize (s * 1099511627776 - t * c) * m = y1 at *
    generalize c * (2 * (t * m - p * 1099511627776)) = y2 at *
    unfold Bd at *; omega
  have Y0 : 0 ≤ Y := by
    have h1 := Int.mul_nonneg hc hm
    have h2 := Int.mul_nonneg hs hp
    omega
  have nn : 1099511627776 * n ≤ n * n := Int.mul_le_mul_of_nonneg_right hn (by omega)
  have nn1 : (n + 1) * (n + 1) = n * n + 2 * n + 1 := by grind
  rw [nn1] at n2
  have XY : X * X + Y * Y = (s * s + c * c) * (m * m + p * p) := by subst hX hY; grind
  have XX : 0 ≤ X * X ∧ X * X ≤ 90601 * (n * n) := by
    have h1 := (Xb.mul Xb).2
    have e : 301 * n * (301 * n) = 90601 * (n * n) := by grind
    rw [e] at h1
    have := Int.natAbs_mul_self (a := X)
    exact ⟨by omega, h1⟩
  have Yb : Bd (8 * n) (Y - 1099511627776 * n) := by
    -- the squares
    have N0 : 0 ≤ m * m + p * p := by omega
    have a1 : (s * s + c * c) * (m * m + p * p) ≤ 1208925819627823314239488 * (m * m + p * p) := Int.mul_le_mul_of_nonneg_right (by unfold Bd at one; omega) N0
    have a2 : 1208925819601435035172864 * (m * m + p * p) ≤ (s * s + c * c) * (m * m + p * p) := Int.mul_le_mul_of_nonneg_right (by unfold Bd at one; omega) N0
    constructor
    · refine Int.not_lt.1 fun hh => ?_
      have h1 := sq_mono Y0 (show Y ≤ 1099511627768 * n by omega)
      have e : 1099511627768 * n * (1099511627768 * n) = 1208925819597037988661824 * (n * n) := by grind
      rw [e] at h1
      generalize n * n = N at *
      generalize m * m + p * p = M at *
      generalize (s * s + c * c) * M = W at *
      omega
    · refine Int.not_lt.1 fun hh => ?_
      have h1 := sq_mono (show 0 ≤ 1099511627784 * n by omega) (show 1099511627784 * n ≤ Y by omega)
      have e : 1099511627784 * n * (1099511627784 * n) = 1208925819632221360750656 * (n * n) := by grind
      rw [e] at h1
      generalize n * n = N at *
      generalize m * m + p * p = M at *
      generalize (s * s + c * c) * M = W at *
      omega
  have hnn : 0 < n * n := by omega
  obtain ⟨v, hv⟩ : ∃ v, v = m * m + p * p - n * n := ⟨_, rfl⟩
  have vb : Bd (2 * n) v := ⟨by omega, by omega⟩
  have k0 := sb.mul vb
  have k0' := cb.mul vb
  have k1 := Xb.mul mnb
  have k1' := Xb.mul pnb
  have k2 := pnb.mul Yb
  have k2' := mnb.mul Yb
  have r1 : 301 * n * n = 301 * (n * n) := Int.mul_assoc ..
  have r2 : n * (8 * n) = 8 * (n * n) := Int.mul_left_comm ..
  have r3 : 1099511627789 * (2 * n) = 2199023255578 * n := by omega
  rw [r1] at k1 k1'
  rw [r2] at k2 k2'
  rw [r3] at k0 k0'
  constructor
  · intro d hd
    have k3 := hd.mul nb
    have e : 2 * (n * n * (s - d)) = 2 * (X * m) + 2 * (p * (Y - 1099511627776 * n)) - 2 * (s * v) - 2 * (d * n - p * 1099511627776) * n := by subst hX hY hv; grind
    refine Bd.cancelN hnn ?_
    have r : n * n * 320 = 320 * (n * n) := Int.mul_comm ..
    rw [r]
    generalize n * n * (s - d) = Z at *
    generalize X * m = y1 at *
    generalize p * (Y - 1099511627776 * n) = y2 at *
    generalize s * v = y3 at *
    generalize 2 * (d * n - p * 1099511627776) * n = y4 at *
    generalize n * n = N at *
    unfold Bd at *
    omega
  · intro d hd
    have k3 := hd.mul nb
    have e : 2 * (n * n * (c - d)) = 2 * (m * (Y - 1099511627776 * n)) - 2 * (X * p) - 2 * (c * v) - 2 * (d * n - m * 1099511627776) * n := by subst hX hY hv; grind
    refine Bd.cancelN hnn ?_
    have r : n * n * 320 = 320 * (n * n) := Int.mul_comm ..
    rw [r]
    generalize n * n * (c - d) = Z at *
    generalize X * p = y1 at *
    generalize m * (Y - 1099511627776 * n) = y2 at *
    generalize c * v = y3 at *
    generalize 2 * (d * n - m * 1099511627776) * n = y4 at *
    generalize n * n = N at *
    unfold Bd at *
    omega
/-- A quarter on. -/
theorem shift_H {a : Int} (ha : -4611684000000000000 ≤ a ∧ a ≤ 4611684000000000000) : sv (a + 1727108826179) = cv a ∧ cv (a + 1727108826179) = -sv a := by
  obtain ⟨k, t, e1, t0, t1, -, -, q1⟩ := turn_is (a := a) (by omega)
  obtain ⟨l, u, e2, u0, u1, -, -, q2⟩ := turn_is (a := a + 1727108826179) (by omega)
  have hk : 0 ≤ k ∧ k ≤ 3 := by unfold quad at q1; omega
  have hl : 0 ≤ l ∧ l ≤ 3 := by unfold quad at q2; omega
  have : u = t ∧ l = (k + 1) % 4 := by omega
  obtain ⟨rfl, hl'⟩ := this
  unfold quad at q1 q2
  omega
theorem sv_of {z : Int} (hz : 0 ≤ z ∧ z < 1727108826179) : sv z = Sv z ∧ cv z = Cv z := by
  obtain ⟨k, t, e1, t0, t1, -, -, q1⟩ := turn_is (a := z) (by omega)
  have : k = 0 ∧ t = z := by unfold quad at q1; omega
  obtain ⟨rfl, rfl⟩ := this
  unfold quad at q1
  omega
/-- The angle of a tangent of up to 1. -/
theorem atTan_is {t : Int} (ht : 0 ≤ t ∧ t ≤ 1099511627776) : ∃ z, atTan (t, false) = (z, false) ∧ 0 ≤ z ∧ z ≤ 918676000000 ∧ 0 ≤ sv z ∧ 0 ≤ cv z ∧ Bd 329853488332800 (sv z * 1099511627776 - t * cv z) := by
  obtain ⟨t1, h1, b1', F1⟩ := half_is (t := t) 1099511627776 455432628220 ht (by decide) (by decide)
  obtain ⟨t2, h2, b2', F2⟩ := half_is (t := t1) 455432628220 218706460900 b1' (by decide) (by decide)
  have tb2 : Bd 218706460900 t2 := ⟨by omega, b2'.2⟩
  obtain ⟨u, hu, ub, ue⟩ := mul_b 218706460900 218706460900 43600000000 tb2 tb2 (by decide)
  obtain ⟨v, w, hv, hw, w0, w1, G0⟩ := tan_is (t := t2) ⟨b2'.1, by omega⟩ hu ue
  obtain ⟨eS, eC⟩ := sv_of (z := w) ⟨w0, by omega⟩
  rw [← eS, ← eC] at G0
  obtain ⟨-, -, Sb, Cb, -⟩ := sc_is (a := w) (by omega)
  obtain ⟨ls, lc⟩ := add_law (a := w) (b := w) (by omega) (by omega)
  have G1 := dbl_abs 455432628220 218706460900 (13 * 1099511627776) (78 * 1099511627776) Sb Cb ⟨by omega, b1'.2⟩ tb2 G0 F2 ls lc (by decide)
  obtain ⟨-, -, Sb2, Cb2, -⟩ := sc_is (a := w + w) (by omega)
  obtain ⟨ls2, lc2⟩ := add_law (a := w + w) (b := w + w) (by omega) (by omega)
  have G2 := dbl_abs 1099511627776 455432628220 (78 * 1099511627776) (300 * 1099511627776) Sb2 Cb2 ⟨by omega, ht.2⟩ ⟨by omega, b1'.2⟩ G1 F1 ls2 lc2 (by decide)
  have e4 : w + w + (w + w) = 4 * w := by omega
  rw [e4] at G2
  refine ⟨4 * w, ?_, by omega, by omega, ?_, ?_, G2⟩
  · unfold atTan atT
    simp only [h1, h2, hu, hv, hw]
    rw [w64_in (n := 4 * w) (by omega) (by omega)]
  · obtain ⟨e5, -⟩ := sv_of (z := 4 * w) ⟨by omega, by omega⟩
    obtain ⟨-, -, h, -⟩ := ser_is (t := 4 * w) ⟨by omega, by omega⟩
    omega
  · obtain ⟨-, e5⟩ := sv_of (z := 4 * w) ⟨by omega, by omega⟩
    obtain ⟨-, n2⟩ := near0 (x := 4 * w) (X := 918676000000) (K1 := 1099511627776) (K2 := 549755813888) ⟨by omega, by omega⟩ (by decide) (by kernel_rfl) (by kernel_rfl)
    unfold Bd at n2
    omega
/-- An angle that stands for a direction. -/
def Near (K n a y x : Int) : Prop := (∀ d, Bd n (2 * (d * n - y * 1099511627776)) → Bd K (sv a - d)) ∧ (∀ d, Bd n (2 * (d * n - x * 1099511627776)) → Bd K (cv a - d))
theorem near_neg {K n a y x : Int} (ha : Bd 10000000000000 a) (h : Near K n a y x) : Near (K + 4) n (-a) (-y) x := by
  obtain ⟨g1, g2⟩ := neg_law (a := a) (by unfold Bd at ha; omega)
  constructor
  · intro d hd
    have := h.1 (-d) (by
      rw [Int.neg_mul] at hd
      rw [Int.neg_mul]
      generalize d * n = w at *
      unfold Bd at *; omega)
    unfold Bd at *; omega
  · intro d hd
    have := h.2 d hd
    unfold Bd at *; omega
theorem near_turn {K n a y x : Int} (ha : Bd 10000000000000 a) (h : Near K n a y x) : Near K n (a + 1727108826179) x (-y) := by
  obtain ⟨g1, g2⟩ := shift_H (a := a) (by unfold Bd at ha; omega)
  constructor
  · intro d hd
    have := h.2 d hd
    rw [g1]; exact this
  · intro d hd
    have := h.1 (-d) (by
      rw [Int.neg_mul] at hd
      rw [Int.neg_mul]
      generalize d * n = w at *
      unfold Bd at *; omega)
    rw [g2]
    unfold Bd at *; omega
theorem Near.mono {K L n a y x : Int} (h : Near K n a y x) (hKL : K ≤ L) : Near L n a y x := ⟨fun d hd => (h.1 d hd).mono hKL, fun d hd => (h.2 d hd).mono hKL⟩
theorem absI_is {x : Int} (h : Bd 4611686018427387904 x) : absI x = if x < 0 then -x else x := by
  unfold Bd at h
  unfold absI maxI
  rw [w64_in (n := 0 - x) (by omega) (by omega)]
  split <;> split <;> omega
theorem at_is {y x n : Int} (hn : 1099511627776 ≤ n ∧ n ≤ 1099511627776000) (n1 : n * n ≤ x * x + y * y) (n2 : x * x + y * y < (n + 1) * (n + 1)) (yb : Bd n y) (xb : Bd n x) :
    ∃ a, atP y x false = (a, false) ∧ Bd 10000000000000 a ∧ Near 340 n a y x := by
  have h1 := add_b (a := y) (b := 0) 1099511627776000 0 (yb.mono hn.2) ⟨by decide, by decide⟩ (by decide)
  have h2 := add_b (a := x) (b := 0) 1099511627776000 0 (xb.mono hn.2) ⟨by decide, by decide⟩ (by decide)
  have hb : (bor .i64 x y == 0) = false := by
    rw [bor_zero (by unfold Bd at xb; omega) (by unfold Bd at yb; omega)]
    by_cases hx0 : x = 0
    · subst hx0
      have : y ≠ 0 := by
        rintro rfl
        have : 1099511627776 * 1099511627776 ≤ n * n := Int.mul_le_mul hn.1 hn.1 (by decide) (by omega)
        omega
      simp [this]
    · simp [hx0]
  obtain ⟨a, ha⟩ : ∃ a, a = absI x := ⟨_, rfl⟩
  obtain ⟨b, hb'⟩ : ∃ b, b = absI y := ⟨_, rfl⟩
  have ea := absI_is (xb.mono (B := 4611686018427387904) (by omega))
  have eb := absI_is (yb.mono (B := 4611686018427387904) (by omega))
  rw [← ha] at ea
  rw [← hb'] at eb
  have ab : 0 ≤ a ∧ a ≤ n := by unfold Bd at xb; split at ea <;> omega
  have bb : 0 ≤ b ∧ b ≤ n := by unfold Bd at yb; split at eb <;> omega
  have aa : a * a = x * x := by split at ea <;> subst ea <;> grind
  have bbq : b * b = y * y := by split at eb <;> subst eb <;> grind
  have QQ : (1099511627776 : Int) * 1099511627776 ≤ n * n := Int.mul_le_mul hn.1 hn.1 (by decide) (by omega)
  obtain ⟨p, hp⟩ : ∃ p, p = minI a b := ⟨_, rfl⟩
  obtain ⟨m, hm⟩ : ∃ m, m = maxI a b := ⟨_, rfl⟩
  have pm : (b > a ∧ p = a ∧ m = b) ∨ (¬ b > a ∧ p = b ∧ m = a) := by
    subst hp hm
    unfold minI maxI
    by_cases h : b > a
    · rw [if_pos h, if_neg (show ¬ b < a by omega)]; exact .inl ⟨h, rfl, rfl⟩
    · rw [if_neg h]
      by_cases h' : b < a
      · rw [if_pos h']; exact .inr ⟨h, rfl, rfl⟩
      · rw [if_neg h']; exact .inr ⟨h, by omega, rfl⟩
  have sq : m * m + p * p = x * x + y * y := by
    rcases pm with ⟨-, rfl, rfl⟩ | ⟨-, rfl, rfl⟩ <;> omega
  have pb : 0 ≤ p ∧ p ≤ m ∧ m ≤ n := by omega
  have mlo : 700000000000 ≤ m := by
    refine Int.not_lt.1 fun hh => ?_
    have h3 : m * m ≤ 700000000000 * 700000000000 := Int.mul_le_mul (by omega) (by omega) (by omega) (by decide)
    have h4 : p * p ≤ 700000000000 * 700000000000 := Int.mul_le_mul (by omega) (by omega) (by omega) (by decide)
    omega
  obtain ⟨t, ht, te⟩ := div_is (a := p) (q := m) 1099511627776000 ⟨by omega, by omega⟩ (by decide) ⟨by omega, by omega⟩ (by omega)
  have tb : 0 ≤ t ∧ t ≤ 1099511627776 := by
    constructor
    · refine Int.not_lt.1 fun hh => ?_
      have : t * m ≤ (-1) * m := Int.mul_le_mul_of_nonneg_right (by omega) (by omega)
      unfold Bd at te; omega
    · refine Int.not_lt.1 fun hh => ?_
      have : (1099511627777 : Int) * m ≤ t * m := Int.mul_le_mul_of_nonneg_right (by omega) (by omega)
      unfold Bd at te; omega
  obtain ⟨z, hz, z0, z1, s0, c0, G⟩ := atTan_is tb
  obtain ⟨-, -, sb, cb, one⟩ := sc_is (a := z) (by omega)
  have nz : Near 320 n z p m := fin_abs s0 c0 sb cb one G pb.1 (by omega) te hn.1 (by omega) (by omega)
  -- the quarter, the half, the sign
  obtain ⟨z1', e1, b1', n1'⟩ : ∃ z1', (bif decide (b > a) then wr .i64 (1727108826179 - z) else z) = z1' ∧ (0 ≤ z1' ∧ z1' ≤ 2000000000000) ∧ Near 330 n z1' b a := by
    rcases pm with ⟨h, rfl, rfl⟩ | ⟨h, rfl, rfl⟩
    · rw [decide_eq_true h, bt, w64_in (n := 1727108826179 - z) (by omega) (by omega)]
      refine ⟨_, rfl, ⟨by omega, by omega⟩, ?_⟩
      have k := near_turn (by unfold Bd; omega) (near_neg (by unfold Bd; omega) nz)
      rw [Int.neg_neg, show -z + 1727108826179 = 1727108826179 - z from by omega] at k
      exact k.mono (by decide)
    · rw [decide_eq_false h, bf]
      exact ⟨_, rfl, ⟨by omega, by omega⟩, nz.mono (by decide)⟩
  obtain ⟨z2, e2, b2', n2'⟩ : ∃ z2, (bif decide (x < 0) then wr .i64 (3454217652358 - z1') else z1') = z2 ∧ (0 ≤ z2 ∧ z2 ≤ 4000000000000) ∧ Near 335 n z2 b x := by
    by_cases h : x < 0
    · rw [decide_eq_true h, bt, w64_in (n := 3454217652358 - z1') (by omega) (by omega)]
      refine ⟨_, rfl, ⟨by omega, by omega⟩, ?_⟩
      have k := near_turn (by unfold Bd; omega) (near_turn (by unfold Bd; omega) (near_neg (by unfold Bd; omega) n1'))
      rw [show -z1' + 1727108826179 + 1727108826179 = 3454217652358 - z1' from by omega, Int.neg_neg] at k
      rw [if_pos h] at ea
      rw [ea, Int.neg_neg] at k
      exact k.mono (by decide)
    · rw [decide_eq_false h, bf]
      rw [if_neg h] at ea
      rw [ea] at n1'
      exact ⟨_, rfl, ⟨by omega, by omega⟩, n1'.mono (by decide)⟩
  obtain ⟨z3, e3, b3', n3'⟩ : ∃ z3, (bif decide (y < 0) then wr .i64 (0 - z2) else z2) = z3 ∧ Bd 10000000000000 z3 ∧ Near 340 n z3 y x := by
    by_cases h : y < 0
    · rw [decide_eq_true h, bt, w64_in (n := 0 - z2) (by omega) (by omega)]
      refine ⟨_, rfl, ⟨by omega, by omega⟩, ?_⟩
      have k := near_neg (by unfold Bd; omega) n2'
      rw [if_pos h] at eb
      rw [eb, Int.neg_neg] at k
      rw [show 0 - z2 = -z2 from by omega]
      exact k.mono (by decide)
    · rw [decide_eq_false h, bf]
      rw [if_neg h] at eb
      rw [eb] at n2'
      exact ⟨_, rfl, ⟨by omega, by omega⟩, n2'.mono (by decide)⟩
  refine ⟨z3, ?_, b3', n3'⟩
  unfold atP
  simp only [h1, h2, hb]
  rw [bf, bf, ← ha, ← hb', ← hp, ← hm, ht, hz]
  unfold atFin
  dsimp only
  rw [e1, e2, e3]
section
variable (si co : Op1) (ad su mu di at' : Op2) (nr : Op3)
theorem tthere_raw (y x : Int) : acall Try.prog (envN si co ad su mu di at' nr) 100 18 [.int .i64 y, .int .i64 x] [] ansK =
    let n := nr y x 0 false
    let a := at' y x n.2
    let s := si a.1 a.2
    let c := co a.1 s.2
    let d1 := di y n.1 c.2
    let d2 := di x n.1 d1.2
    let u := wr .i64 (s.1 - d1.1)
    let v := wr .i64 (c.1 - d2.1)
    bif (bif (bif n.2 then true else decide (n.1 < 1099511627776)) then true else decide (n.1 > 1099511627776000)) then some true else
    some (bif (bif (bif (bif !d2.2 then decide (u ≤ 1024) else false) then decide (u ≥ -1024) else false) then decide (v ≤ 1024) else false) then decide (v ≥ -1024) else false) := by kernel_rfl
end
theorem tthere_law (y x : Int) (w : World) : Calls Try.prog 18 #[.int .i64 y, .int .i64 x] w fun e w' => e = .returned (.bool true) ∧ Go.RowKit.Below w.heap.size w w' := by
  refine law_true envN_ok ((tthere_raw sinP cosP add sub mul div atP norm y x).trans ?_) (RL.cons (R_int _ _ _) (RL.cons (R_int _ _ _) (RL_nil.2 rfl)))
  dsimp only
  cases hn : (norm y x 0 false).2 with
  | true => rw [bt, bt, bt]
  | false =>
    rw [bf]
    obtain ⟨-, n, en, n0, -, n1, n2⟩ := norm_got hn
    rw [en]
    dsimp only
    by_cases h1 : n < 1099511627776
    · rw [decide_eq_true h1, bt, bt]
    rw [decide_eq_false h1, bf]
    by_cases h2 : n > 1099511627776000
    · rw [decide_eq_true h2, bt]
    rw [decide_eq_false h2, bf]
    have yy : 0 ≤ y * y := sq_nonneg y
    have xx : 0 ≤ x * x := sq_nonneg x
    have back : ∀ a : Int, a * a < (n + 1) * (n + 1) → Bd n a := by
      intro a h
      constructor
      · refine Int.not_lt.1 fun hlt => ?_
        have : (n + 1) * (n + 1) ≤ (-a) * (-a) := Int.mul_le_mul (by omega) (by omega) (by omega) (by omega)
        grind
      · refine Int.not_lt.1 fun hlt => ?_
        have : (n + 1) * (n + 1) ≤ a * a := Int.mul_le_mul (by omega) (by omega) (by omega) (by omega)
        omega
    have yb := back y (by omega)
    have xb := back x (by omega)
    obtain ⟨a, ha, ab, hN⟩ := at_is (y := y) (x := x) (n := n) ⟨by omega, by omega⟩ (by omega) (by omega) yb xb
    obtain ⟨hs, hc, sb, cb, -⟩ := sc_is (a := a) (by unfold Bd at ab; omega)
    obtain ⟨d1, hd1, e1⟩ := div_is (a := y) (q := n) 1099511627776000 (yb.mono (by omega)) (by decide) ⟨by omega, by omega⟩ (by omega)
    obtain ⟨d2, hd2, e2⟩ := div_is (a := x) (q := n) 1099511627776000 (xb.mono (by omega)) (by decide) ⟨by omega, by omega⟩ (by omega)
    have f1 := hN.1 d1 e1
    have f2 := hN.2 d2 e2
    simp only [ha, hs, hc, hd1, hd2]
    unfold Bd at f1 f2
    rw [w64_in (n := sv a - d1) (by omega) (by omega), w64_in (n := cv a - d2) (by omega) (by omega), Bool.not_false, bt, decide_eq_true (by omega), bt, decide_eq_true (by omega), bt, decide_eq_true (by omega), bt, decide_eq_true (by omega)]
#print axioms tthere_law
end Go.Proofs.Ytkghoaggicnmoaa.Ns
