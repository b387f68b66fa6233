/- The sine and the cosine of any angle, by the series' values and the quarter. Conditions: as each says. -/
import Derived.Test.YtkghoaggicnmoaaNs4
namespace Go.Proofs.Ytkghoaggicnmoaa.Ns
open Go Go.Proofs.Ytkghoaggicnmoaa.Ae Go.Proofs.Ytkghoaggicnmoaa.Fx Go.Proofs.Ytkghoaggicnmoaa.Tx Go.Proofs.Ytkghoaggicnmoaa.Nx Go.Proofs.Ytkghoaggicnmoaa.Np

def Sv (t : Int) : Int := (serP t 1 false).1
def Cv (t : Int) : Int := (serP t 0 false).1
def sv (a : Int) : Int := (sinP a false).1
def cv (a : Int) : Int := (cosP a false).1

theorem ser_is {t : Int} (ht : 0 ≤ t ∧ t ≤ 1727108826179) : serP t 1 false = (Sv t, false) ∧ serP t 0 false = (Cv t, false) ∧ (0 ≤ Sv t ∧ Sv t ≤ 1099511627789) ∧ (-1099511627776 ≤ Cv t ∧ Cv t ≤ 1099511627776) ∧
    (-13194139533312 ≤ Sv t * Sv t + Cv t * Cv t - 1208925819614629174706176 ∧ Sv t * Sv t + Cv t * Cv t - 1208925819614629174706176 ≤ 13194139533312) ∧
    (-(32 * (1099511627776 * sE.2)) ≤ 16 * (Sv t * (1099511627776 * sE.2) - t * sE.1.at t 0) ∧ 16 * (Sv t * (1099511627776 * sE.2) - t * sE.1.at t 0) ≤ 32 * (1099511627776 * sE.2)) ∧
    (-(32 * cE.2) ≤ 16 * (Cv t * cE.2 - cE.1.at t 0) ∧ 16 * (Cv t * cE.2 - cE.1.at t 0) ≤ 32 * cE.2) := by
  obtain ⟨s, c, hs, hc, sb, cb, hP⟩ := pair_one ht
  obtain ⟨s', hs', -, se⟩ := sin_ser ht
  obtain ⟨c', hc', -, ce⟩ := cos_ser ht
  have es : Sv t = s := by unfold Sv; rw [hs]
  have es' : Sv t = s' := by unfold Sv; rw [hs']
  have ec : Cv t = c := by unfold Cv; rw [hc]
  have ec' : Cv t = c' := by unfold Cv; rw [hc']
  subst es ec
  rw [← es'] at se
  rw [← ec'] at ce
  refine ⟨hs, hc, ⟨sb.1, ?_⟩, cb, hP, se, ce⟩
  refine Int.not_lt.1 fun hn => ?_
  have h1 : (1099511627790 : Int) * 1099511627790 ≤ Sv t * Sv t := Int.mul_le_mul (by omega) (by omega) (by decide) (by omega)
  have h2 : 0 ≤ Cv t * Cv t := by
    have := Int.natAbs_mul_self (a := Cv t)
    omega
  omega

theorem mod_is {a m : Int} (ha : -4611686018427387904 ≤ a ∧ a ≤ 4611686018427387904) (hm : 0 < m) (hm' : m ≤ 4611686018427387904) : mod a m false = (a % m, false) := by
  unfold mod
  rw [if_neg (show ¬ m ≤ 0 by omega), lift2 (okn_of ha) (okn_of (by omega))]; rfl

/-- What a quarter does to the two. -/
def quad (k S C s c : Int) : Prop := (k = 0 ∧ s = S ∧ c = C) ∨ (k = 1 ∧ s = C ∧ c = -S) ∨ (k = 2 ∧ s = -S ∧ c = -C) ∨ (k = 3 ∧ s = -C ∧ c = S)
theorem turnP_is {a q : Int} (ha : -4611686018427387904 ≤ a ∧ a ≤ 4611686018427387904) {k t : Int} (e1 : (a % 6908435304716).tdiv 1727108826179 = k) (e2 : (a % 6908435304716).tmod 1727108826179 = t) :
    turnP a q false = bif decide ((wr .i64 (wr .i64 k + q)).tmod 4 > 1) then (wr .i64 (0 - (serP t (wr .i64 (1 - ((wr .i64 (wr .i64 k + q)).tmod 4).tmod 2)) false).1), (serP t (wr .i64 (1 - ((wr .i64 (wr .i64 k + q)).tmod 4).tmod 2)) false).2) else serP t (wr .i64 (1 - ((wr .i64 (wr .i64 k + q)).tmod 4).tmod 2)) false := by
  unfold turnP
  rw [mod_is ha (by decide) (by decide)]
  dsimp only
  rw [bf, e1, e2]
theorem turn_is {a : Int} (ha : -4611686018427387904 ≤ a ∧ a ≤ 4611686018427387904) :
    ∃ k t : Int, a % 6908435304716 = k * 1727108826179 + t ∧ 0 ≤ t ∧ t < 1727108826179 ∧ (sinP a false = (sv a, false) ∧ cosP a false = (cv a, false) ∧ quad k (Sv t) (Cv t) (sv a) (cv a)) := by
  obtain ⟨k, t, e1, e2, -, e4, hk, er, t0, t1⟩ := quarter (r := a % 6908435304716) (by omega) (by omega)
  refine ⟨k, t, er, t0, t1, ?_⟩
  obtain ⟨hs, hc, sb, cb, -⟩ := ser_is (t := t) ⟨t0, by omega⟩
  have key : ∀ q : Int, q = 0 ∨ q = 1 → turnP a q false = ((turnP a q false).1, false) ∧ ((turnP a q false).1 = if (k + q) % 4 = 0 then Sv t else if (k + q) % 4 = 1 then Cv t else if (k + q) % 4 = 2 then -Sv t else -Cv t) := by
    intro q hq
    have hkq : (k + q) % 4 = 0 ∨ (k + q) % 4 = 1 ∨ (k + q) % 4 = 2 ∨ (k + q) % 4 = 3 := by omega
    have em : (wr .i64 (wr .i64 k + q)).tmod 4 = (k + q) % 4 := by
      rw [e4, w64_in (by omega) (by omega)]
      exact Int.tmod_eq_emod_of_nonneg (by omega)
    rw [turnP_is ha e1 e2, em]
    have wn : ∀ x : Int, -1099511627789 ≤ x → x ≤ 1099511627789 → wr .i64 (0 - x) = -x := fun x h1 h2 => by rw [w64_in (by omega) (by omega)]; omega
    rcases hkq with h | h | h | h <;> rw [h]
    · rw [show wr .i64 (1 - (0 : Int).tmod 2) = 1 from by decide, show decide ((0 : Int) > 1) = false from by decide, bf, hs]; exact ⟨rfl, rfl⟩
    · rw [show wr .i64 (1 - (1 : Int).tmod 2) = 0 from by decide, show decide ((1 : Int) > 1) = false from by decide, bf, hc]; exact ⟨rfl, rfl⟩
    · rw [show wr .i64 (1 - (2 : Int).tmod 2) = 1 from by decide, show decide ((2 : Int) > 1) = true from by decide, bt, hs, wn _ (by omega) (by omega)]; exact ⟨rfl, rfl⟩
    · rw [show wr .i64 (1 - (3 : Int).tmod 2) = 0 from by decide, show decide ((3 : Int) > 1) = true from by decide, bt, hc, wn _ (by omega) (by omega)]; exact ⟨rfl, rfl⟩
  obtain ⟨k0, s0⟩ := key 0 (.inl rfl)
  obtain ⟨k1, s1⟩ := key 1 (.inr rfl)
  refine ⟨k0, k1, ?_⟩
  have es : sv a = (turnP a 0 false).1 := rfl
  have ec : cv a = (turnP a 1 false).1 := rfl
  rw [es, ec, s0, s1]
  unfold quad
  rcases hk with rfl | rfl | rfl | rfl
  · exact .inl ⟨rfl, rfl, rfl⟩
  · exact .inr (.inl ⟨rfl, rfl, rfl⟩)
  · exact .inr (.inr (.inl ⟨rfl, rfl, rfl⟩))
  · exact .inr (.inr (.inr ⟨rfl, rfl, rfl⟩))

/-- All that is said of a sine and a cosine apart from their angle. -/
theorem sc_is {a : Int} (ha : -4611686018427387904 ≤ a ∧ a ≤ 4611686018427387904) :
    sinP a false = (sv a, false) ∧ cosP a false = (cv a, false) ∧ (-1099511627789 ≤ sv a ∧ sv a ≤ 1099511627789) ∧ (-1099511627789 ≤ cv a ∧ cv a ≤ 1099511627789) ∧
    (-13194139533312 ≤ sv a * sv a + cv a * cv a - 1208925819614629174706176 ∧ sv a * sv a + cv a * cv a - 1208925819614629174706176 ≤ 13194139533312) := by
  obtain ⟨k, t, -, t0, t1, h1, h2, hq⟩ := turn_is ha
  obtain ⟨-, -, sb, cb, hP, -⟩ := ser_is (t := t) ⟨t0, by omega⟩
  refine ⟨h1, h2, ?_⟩
  generalize Sv t = S at *
  generalize Cv t = C at *
  rcases hq with ⟨-, h3, h4⟩ | ⟨-, h3, h4⟩ | ⟨-, h3, h4⟩ | ⟨-, h3, h4⟩ <;> rw [h3, h4] <;> refine ⟨by omega, by omega, ?_⟩ <;> grind
#print axioms sc_is
end Go.Proofs.Ytkghoaggicnmoaa.Ns
