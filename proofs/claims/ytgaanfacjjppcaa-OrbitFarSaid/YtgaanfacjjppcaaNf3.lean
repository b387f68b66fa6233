/- A place is as far as the ellipse lets it be. Conditions: right elements, right ticks. -/
import Derived.Test.YtgaanfacjjppcaaNf2
namespace Go.Proofs.Ytgaanfacjjppcaa.Ns
open Go Go.Proofs.Ytgaanfacjjppcaa.Ae Go.Proofs.Ytgaanfacjjppcaa.Fx Go.Proofs.Ytgaanfacjjppcaa.Tx Go.Proofs.Ytgaanfacjjppcaa.Nx Go.Proofs.Ytgaanfacjjppcaa.Np Go.Proofs.Ytgaanfacjjppcaa.Te Go.Proofs.Ytgaanfacjjppcaa.Lx Go.Proofs.Ytgaanfacjjppcaa.Rx Go.Proofs.Ytgaanfacjjppcaa.Ve Go.Proofs.Ytgaanfacjjppcaa.Orb Go.Proofs.Ytgaanfacjjppcaa.Row

/-- A turn keeps the squares. -/
theorem rot_sq {u v x y s c U : Int} (hU : U = 19351860000700) (ub : Bd U u) (vb : Bd U v) (sb : Bd 1099511627789 s) (cb : Bd 1099511627789 c) (one : Bd 13194139533312 (s * s + c * c - 1208925819614629174706176))
    (xe : Bd 1099511627776 (x * 1099511627776 - (u * c - v * s))) (ye : Bd 1099511627776 (y * 1099511627776 - (u * s + v * c))) : Bd 8796093022208000 (x * x + y * y - (u * u + v * v)) := by
  have k1 := (ub.mul ub).mul one
  have k2 := (vb.mul vb).mul one
  have k3 := ((ub.mul cb).sub (vb.mul sb)).mul xe
  have k4 := ((ub.mul sb).add (vb.mul cb)).mul ye
  have k5 := xe.mul xe
  have k6 := ye.mul ye
  have e : 1208925819614629174706176 * (x * x + y * y - (u * u + v * v)) = u * u * (s * s + c * c - 1208925819614629174706176) + v * v * (s * s + c * c - 1208925819614629174706176) +
      2 * ((u * c - v * s) * (x * 1099511627776 - (u * c - v * s))) + 2 * ((u * s + v * c) * (y * 1099511627776 - (u * s + v * c))) + (x * 1099511627776 - (u * c - v * s)) * (x * 1099511627776 - (u * c - v * s)) + (y * 1099511627776 - (u * s + v * c)) * (y * 1099511627776 - (u * s + v * c)) := by grind
  generalize x * x + y * y - (u * u + v * v) = T at *
  generalize u * u * (s * s + c * c - 1208925819614629174706176) = y1 at *
  generalize v * v * (s * s + c * c - 1208925819614629174706176) = y2 at *
  generalize (u * c - v * s) * (x * 1099511627776 - (u * c - v * s)) = y3 at *
  generalize (u * s + v * c) * (y * 1099511627776 - (u * s + v * c)) = y4 at *
  generalize (x * 1099511627776 - (u * c - v * s)) * (x * 1099511627776 - (u * c - v * s)) = y5 at *
  generalize (y * 1099511627776 - (u * s + v * c)) * (y * 1099511627776 - (u * s + v * c)) = y6 at *
  subst hU
  unfold Bd at *
  omega
/-- A number's two parts. -/
theorem two_sq {b h z s c U : Int} (hU : U = 19351860000700) (bb : Bd U b) (sb : Bd 1099511627789 s) (cb : Bd 1099511627789 c) (one : Bd 13194139533312 (s * s + c * c - 1208925819614629174706176))
    (he : Bd 1099511627776 (2 * (h * 1099511627776 - b * c))) (ze : Bd 1099511627776 (2 * (z * 1099511627776 - b * s))) : Bd 8796093022208000 (h * h + z * z - b * b) := by
  have hz : Bd U 0 := ⟨by subst hU; decide, by subst hU; decide⟩
  have := rot_sq (u := b) (v := 0) (x := h) (y := z) hU bb hz sb cb one (by rw [Int.zero_mul, Int.sub_zero]; unfold Bd at *; omega) (by rw [Int.zero_mul, Int.add_zero]; unfold Bd at *; omega)
  rw [Int.zero_mul, Int.add_zero] at this
  exact this
/-- In its plane: the square is that of A (1 - e cos x). -/
theorem ell_sq {A e r s c u v1 v : Int} (Ab : Bd 9211859050601 A) (eb : Bd 109951162777 e) (rb : Bd 1099511627776 r) (sb : Bd 1099511627789 s) (cb : Bd 1099511627789 c) (one : Bd 13194139533312 (s * s + c * c - 1208925819614629174706176)) (rsq : Bd 6597069766656 (r * r + e * e - 1208925819614629174706176))
    (ue : Bd 1099511627776 (2 * (u * 1099511627776 - A * (c - e)))) (v1e : Bd 1099511627776 (2 * (v1 * 1099511627776 - A * r))) (ve : Bd 1099511627776 (2 * (v * 1099511627776 - v1 * s))) :
    Bd (3298534883328000 * 1461501637330902918203684832716283019655932542976) ((u * u + v * v) * 1461501637330902918203684832716283019655932542976 - A * (1208925819614629174706176 - e * c) * (A * (1208925819614629174706176 - e * c))) := by
  -- x1 = 2 A (c - e) Q, x2 = 2 A r s; u Q^2 = (x1 + e1)/2, v Q^2 = (x2 + e2)/2
  have d1 := ue.mul (show Bd 1099511627776 1099511627776 from ⟨by decide, by decide⟩)
  have d2 := (v1e.mul sb).add (ve.mul (show Bd 1099511627776 1099511627776 from ⟨by decide, by decide⟩))
  have b1 := (Ab.mul (cb.sub eb)).mul (show Bd 1099511627776 1099511627776 from ⟨by decide, by decide⟩)
  have b2 := (Ab.mul rb).mul sb
  have k1 := b1.mul d1
  have k2 := b2.mul d2
  have k3 := d1.mul d1
  have k4 := d2.mul d2
  have k5 := ((Ab.mul Ab).mul (sb.mul sb)).mul rsq
  have hqe : Bd (1208925819614629174706176 + 109951162777 * 109951162777) (1208925819614629174706176 - e * e) := (show Bd 1208925819614629174706176 1208925819614629174706176 from ⟨by decide, by decide⟩).sub (eb.mul eb)
  have k6 := ((Ab.mul Ab).mul hqe).mul one
  have e0 : 4 * ((u * u + v * v) * 1461501637330902918203684832716283019655932542976 - A * (1208925819614629174706176 - e * c) * (A * (1208925819614629174706176 - e * c))) =
      4 * (A * (c - e) * 1099511627776 * (2 * (u * 1099511627776 - A * (c - e)) * 1099511627776)) + 4 * (A * r * s * (2 * (v1 * 1099511627776 - A * r) * s + 2 * (v * 1099511627776 - v1 * s) * 1099511627776)) +
      2 * (u * 1099511627776 - A * (c - e)) * 1099511627776 * (2 * (u * 1099511627776 - A * (c - e)) * 1099511627776) + (2 * (v1 * 1099511627776 - A * r) * s + 2 * (v * 1099511627776 - v1 * s) * 1099511627776) * (2 * (v1 * 1099511627776 - A * r) * s + 2 * (v * 1099511627776 - v1 * s) * 1099511627776) +
      4 * (A * A * (s * s) * (r * r + e * e - 1208925819614629174706176)) + 4 * (A * A * (1208925819614629174706176 - e * e) * (s * s + c * c - 1208925819614629174706176)) := by grind
  generalize (u * u + v * v) * 1461501637330902918203684832716283019655932542976 - A * (1208925819614629174706176 - e * c) * (A * (1208925819614629174706176 - e * c)) = T at *
  generalize A * (c - e) * 1099511627776 * (2 * (u * 1099511627776 - A * (c - e)) * 1099511627776) = y1 at *
  generalize A * r * s * (2 * (v1 * 1099511627776 - A * r) * s + 2 * (v * 1099511627776 - v1 * s) * 1099511627776) = y2 at *
  generalize 2 * (u * 1099511627776 - A * (c - e)) * 1099511627776 * (2 * (u * 1099511627776 - A * (c - e)) * 1099511627776) = y3 at *
  generalize (2 * (v1 * 1099511627776 - A * r) * s + 2 * (v * 1099511627776 - v1 * s) * 1099511627776) * (2 * (v1 * 1099511627776 - A * r) * s + 2 * (v * 1099511627776 - v1 * s) * 1099511627776) = y4 at *
  generalize A * A * (s * s) * (r * r + e * e - 1208925819614629174706176) = y5 at *
  generalize A * A * (1208925819614629174706176 - e * e) * (s * s + c * c - 1208925819614629174706176) = y6 at *
  unfold Bd at *
  omega
/-- From the squares to the length. -/
theorem far_len {A e c S n m1 m2 : Int} (Ab : 7232738120603 ≤ A ∧ A ≤ 9211859050601) (eb : 0 ≤ e ∧ e ≤ 109951162777) (cb : Bd 1099511627789 c)
    (hS : Bd (32985348833280000 * 1461501637330902918203684832716283019655932542976) (S * 1461501637330902918203684832716283019655932542976 - A * (1208925819614629174706176 - e * c) * (A * (1208925819614629174706176 - e * c))))
    (hn0 : 0 ≤ n) (hn1 : n * n ≤ S) (hn2 : S < (n + 1) * (n + 1)) (h1 : Bd 1099511627776 (2 * (m1 * 1099511627776 - A * (1099511627776 - e)))) (h2 : Bd 1099511627776 (2 * (m2 * 1099511627776 - A * (1099511627776 + e)))) (h3 : 7232738120604 ≤ m1) (h4 : m2 ≤ 9211859050600) :
    m1 - 65536 ≤ n ∧ n ≤ m2 + 65536 := by
  have Abb : Bd 9211859050601 A := ⟨by omega, Ab.2⟩
  have ebb : Bd 109951162777 e := ⟨by omega, eb.2⟩
  have ae0 : 0 ≤ A * e := Int.mul_nonneg (by omega) eb.1
  have ae1 := (Abb.mul ebb).2
  have p1 : A * e * c ≤ A * e * 1099511627789 := Int.mul_le_mul_of_nonneg_left cb.2 ae0
  have p2 : A * e * -1099511627789 ≤ A * e * c := Int.mul_le_mul_of_nonneg_left cb.1 ae0
  -- W = A (Q^2 - e c) between (m1 - 12) Q^2 and (m2 + 12) Q^2
  have w1 : A * (1208925819614629174706176 - e * c) = A * 1208925819614629174706176 - A * e * c := by grind
  have q1 : A * (1099511627776 - e) = A * 1099511627776 - A * e := by grind
  have q2 : A * (1099511627776 + e) = A * 1099511627776 + A * e := by grind
  rw [q1] at h1
  rw [q2] at h2
  have lo : (m1 - 12) * 1208925819614629174706176 ≤ A * (1208925819614629174706176 - e * c) := by
    rw [w1]
    generalize A * e * c = x at *
    generalize A * e = y at *
    unfold Bd at h1
    omega
  have hi : A * (1208925819614629174706176 - e * c) ≤ (m2 + 12) * 1208925819614629174706176 := by
    rw [w1]
    generalize A * e * c = x at *
    generalize A * e = y at *
    unfold Bd at h2
    omega
  have m2lo : 7232738120600 ≤ m2 := by
    generalize A * e = y at *
    unfold Bd at h2; omega
  generalize A * (1208925819614629174706176 - e * c) = W at *
  have lo2 : (m1 - 12) * 1208925819614629174706176 * ((m1 - 12) * 1208925819614629174706176) ≤ W * W := Int.mul_le_mul lo lo (by omega) (by omega)
  have hi2 : W * W ≤ (m2 + 12) * 1208925819614629174706176 * ((m2 + 12) * 1208925819614629174706176) := Int.mul_le_mul hi hi (by omega) (by omega)
  have r1 : (m1 - 12) * 1208925819614629174706176 * ((m1 - 12) * 1208925819614629174706176) = (m1 - 12) * (m1 - 12) * 1461501637330902918203684832716283019655932542976 := by grind
  have r2 : (m2 + 12) * 1208925819614629174706176 * ((m2 + 12) * 1208925819614629174706176) = (m2 + 12) * (m2 + 12) * 1461501637330902918203684832716283019655932542976 := by grind
  rw [r1] at lo2
  rw [r2] at hi2
  have s1 : (m1 - 12) * (m1 - 12) - 32985348833280001 ≤ S := by
    generalize (m1 - 12) * (m1 - 12) = x at *
    generalize W * W = y at *
    unfold Bd at hS; omega
  have s2 : S ≤ (m2 + 12) * (m2 + 12) + 32985348833280001 := by
    generalize (m2 + 12) * (m2 + 12) = x at *
    generalize W * W = y at *
    unfold Bd at hS; omega
  constructor
  · refine Int.not_lt.1 fun hlt => ?_
    have t1 : (n + 1) * (n + 1) ≤ (m1 - 65536) * (m1 - 65536) := Int.mul_le_mul (by omega) (by omega) (by omega) (by omega)
    have t2 : (m1 - 12) * (m1 - 12) - (m1 - 65536) * (m1 - 65536) = 65524 * (2 * m1 - 65548) := by grind
    omega
  · refine Int.not_lt.1 fun hlt => ?_
    have t1 : (m2 + 65536) * (m2 + 65536) ≤ n * n := Int.mul_le_mul (by omega) (by omega) (by omega) (by omega)
    have t2 : (m2 + 65536) * (m2 + 65536) - (m2 + 12) * (m2 + 12) = 65524 * (2 * m2 + 65548) := by grind
    omega
theorem ofar_law (o : El) (t : Int) (w : World) : Calls Try.prog 11 #[.agg ⟨[.int .i64 o.a, .int .i64 o.e, .int .i64 o.i, .int .i64 o.node, .int .i64 o.peri, .int .i64 o.m, .int .i64 o.t]⟩, .int .i64 t] w fun e w' => e = .returned (.bool true) ∧ Go.RowKit.Below w.heap.size w w' := by
  refine law_true envF8_ok ((lfar_raw add sub mul sinP cosP placeP rightO keplerP norm o t).trans ?_) (RL.cons (elR _ o) (RL.cons (R_int _ _ _) (RL_nil.2 rfl)))
  dsimp only
  cases h : rightO o with
  | false => rw [Bool.not_false, bt, bt, bt]
  | true =>
    rw [Bool.not_true, bf]
    by_cases h0 : t < 0
    · rw [decide_eq_true h0, bt, bt]
    rw [decide_eq_false h0, bf]
    by_cases h1 : t > 157766400000
    · rw [decide_eq_true h1, bt]
    rw [decide_eq_false h1, bf]
    obtain ⟨-, -, -, eb, ib, -, Ab, m1, m2, hm1, hm2, m1b, m2b, m1e, m2e⟩ := right_is h
    obtain ⟨r, node, peri, X, u, v1, v, a, b, hh, x, y, z, hp, rr, rsq, nodeb, perib, Xb, -, ub, v1b, vb, ab, bb, hb, xb, yb, zb, ue, v1e, ve, ae, be, he, xe, ye, ze⟩ := place_is (tick := t) h ⟨by omega, by omega⟩
    obtain ⟨-, -, sXb, cXb, oneX⟩ := sc_is (a := X) (by unfold Bd at Xb; omega)
    obtain ⟨-, -, sPb, cPb, oneP⟩ := sc_is (a := peri) (by unfold Bd at perib; omega)
    obtain ⟨-, -, sNb, cNb, oneN⟩ := sc_is (a := node) (by unfold Bd at nodeb; omega)
    obtain ⟨-, -, sIb, cIb, oneI⟩ := sc_is (a := o.i) (by omega)
    obtain ⟨n, hn, n0, -, n1, n2⟩ := norm_is (a := x) (b := y) (c := z) 38703720001900 xb yb (zb.mono (by decide)) (by decide)
    have q1 := rot_sq rfl (ub.mono (by decide)) (vb.mono (by decide)) sPb cPb oneP ae be
    have q2 := rot_sq rfl (ab.mono (by decide)) hb sNb cNb oneN xe ye
    have q3 := two_sq rfl (bb.mono (by decide)) sIb cIb oneI he ze
    have q4 := ell_sq (A := o.a) (e := o.e) (r := r) ⟨by omega, Ab.2⟩ ⟨by omega, eb.2⟩ ⟨by omega, rr.2⟩ sXb cXb oneX rsq ue v1e ve
    have hS : Bd (32985348833280000 * 1461501637330902918203684832716283019655932542976) ((x * x + y * y + z * z) * 1461501637330902918203684832716283019655932542976 - o.a * (1208925819614629174706176 - o.e * cv X) * (o.a * (1208925819614629174706176 - o.e * cv X))) := by
      have e : (x * x + y * y + z * z) * 1461501637330902918203684832716283019655932542976 = (x * x + y * y - (a * a + hh * hh)) * 1461501637330902918203684832716283019655932542976 + (hh * hh + z * z - b * b) * 1461501637330902918203684832716283019655932542976 + (a * a + b * b - (u * u + v * v)) * 1461501637330902918203684832716283019655932542976 + (u * u + v * v) * 1461501637330902918203684832716283019655932542976 := by grind
      rw [e]
      generalize x * x + y * y - (a * a + hh * hh) = y1 at *
      generalize hh * hh + z * z - b * b = y2 at *
      generalize a * a + b * b - (u * u + v * v) = y3 at *
      generalize (u * u + v * v) * 1461501637330902918203684832716283019655932542976 = y4 at *
      generalize o.a * (1208925819614629174706176 - o.e * cv X) * (o.a * (1208925819614629174706176 - o.e * cv X)) = y5 at *
      unfold Bd at *
      omega
    have fin := far_len Ab eb cXb hS n0 n1 n2 m1e m2e m1b m2b
    have mlo : -65536 ≤ m1 ∧ m1 ≤ 20000000000000 := by
      have p1 : o.a * (1099511627776 - o.e) ≤ o.a * 1099511627776 := Int.mul_le_mul_of_nonneg_left (by omega) (by omega)
      unfold Bd at m1e
      omega
    have mhi : -65536 ≤ m2 := by omega
    have e1 : wr .i64 (m1 - 65536) = m1 - 65536 := w64_in (by omega) (by omega)
    have e2 : wr .i64 (m2 + 65536) = m2 + 65536 := w64_in (by omega) (by omega)
    simp only [hp, hn, hm1, hm2]
    unfold farE
    dsimp only
    rw [e1, e2]
    unfold an
    simp [fin.1, fin.2]
#print axioms ofar_law
end Go.Proofs.Ytgaanfacjjppcaa.Ns
