/- Kepler's angle solves his equation. Conditions: as each says. -/
import Derived.Test.YtgaanfacjjppcaaNk1
import Derived.Test.YtgaanfacjjppcaaOb5
namespace Go.Proofs.Ytgaanfacjjppcaa.Ns
open Go Go.Proofs.Ytgaanfacjjppcaa.Ae Go.Proofs.Ytgaanfacjjppcaa.Fx Go.Proofs.Ytgaanfacjjppcaa.Tx Go.Proofs.Ytgaanfacjjppcaa.Nx Go.Proofs.Ytgaanfacjjppcaa.Np Go.Proofs.Ytgaanfacjjppcaa.Te Go.Proofs.Ytgaanfacjjppcaa.Lx Go.Proofs.Ytgaanfacjjppcaa.Rx Go.Proofs.Ytgaanfacjjppcaa.Ve Go.Proofs.Ytgaanfacjjppcaa.Orb Go.Proofs.Ytgaanfacjjppcaa.Row

theorem kep_all {m e : Int} (hm : 0 ≤ m ∧ m ≤ 6908435304716) (he : 0 ≤ e ∧ e ≤ 109951162777) :
    ∃ x, keplerP m e false = (x, false) ∧ Bd 200000000000 (x - m) ∧ Bd 6212240712425 ((x - m) * 1099511627776 - e * sv x) := by
  have mb : Bd 10000000000000 m := ⟨by omega, by omega⟩
  have h0 := add_b (a := m) (b := 0) 10000000000000 0 mb ⟨by decide, by decide⟩ (by decide)
  rw [Int.add_zero] at h0
  obtain ⟨-, -, sb, -⟩ := sc_is (a := m) (by omega)
  have g0 : Bd 120892581962232575610053 ((m - m) * 1099511627776 - e * sv m) := by
    have hb : Bd 109951162777 e := ⟨by omega, he.2⟩
    have := hb.mul (show Bd 1099511627789 (sv m) from sb)
    have e0 : (m - m) * 1099511627776 = 0 := by rw [Int.sub_self, Int.zero_mul]
    rw [e0]
    unfold Bd at *
    omega
  obtain ⟨x1, s1, d1, g1⟩ := kep_step (x := m) 120892581962232575610053 109951162779 122167958647 251529616 6794094311 774674549325684627085 mb mb he g0 (by decide) (by decide) (by decide) (by decide) (by kernel_rfl) (by kernel_rfl) (by decide)
  obtain ⟨x2, s2, d2, g2⟩ := kep_step (x := x1) 774674549325684627085 704562399 782847112 67 278692 30655868914711063 (by unfold Bd at *; omega) mb he g1 (by decide) (by decide) (by decide) (by decide) (by kernel_rfl) (by kernel_rfl) (by decide)
  obtain ⟨x3, s3, d3, g3⟩ := kep_step (x := x2) 30655868914711063 27882 30982 1 1 6212240712425 (by unfold Bd at *; omega) mb he g2 (by decide) (by decide) (by decide) (by decide) (by kernel_rfl) (by kernel_rfl) (by decide)
  obtain ⟨x4, s4, d4, g4⟩ := kep_step (x := x3) 6212240712425 7 9 1 1 6212240712425 (by unfold Bd at *; omega) mb he g3 (by decide) (by decide) (by decide) (by decide) (by kernel_rfl) (by kernel_rfl) (by decide)
  obtain ⟨x5, s5, d5, g5⟩ := kep_step (x := x4) 6212240712425 7 9 1 1 6212240712425 (by unfold Bd at *; omega) mb he g4 (by decide) (by decide) (by decide) (by decide) (by kernel_rfl) (by kernel_rfl) (by decide)
  obtain ⟨x6, s6, d6, g6⟩ := kep_step (x := x5) 6212240712425 7 9 1 1 6212240712425 (by unfold Bd at *; omega) mb he g5 (by decide) (by decide) (by decide) (by decide) (by kernel_rfl) (by kernel_rfl) (by decide)
  refine ⟨x6, ?_, by unfold Bd at *; omega, g6⟩
  unfold keplerP
  rw [decide_eq_false (show ¬ e < 0 by omega), bf, decide_eq_false (show ¬ e > 109951162777 by omega), bf]
  unfold kepG
  simp only [h0, s1, s2, s3, s4, s5, s6]
section
variable (ad su mu : Op2) (si co : Op1) (pl : El → Int → Bool → V3 × Bool) (rt : El → Bool) (ke : Op2) (nr : Op3) (dt : V3 → V3 → Bool → Int × Bool)
def envS8 : Env := (20, .pure anyArgs yesF) :: (23, m2 25 ke) :: (36, m2 25 ad) :: (27, m2 25 su) :: (28, m2 25 mu) :: (29, m1 25 si) :: (30, m1 25 co) :: envA8 pl rt
theorem lsolves_raw (m e : Int) : acall Try.prog (envS8 ad su mu si co pl rt ke) 100 9 [I m, I e] [] ansK =
    let x := ke m e false
    let a1 := si x.1 x.2
    let a2 := mu e a1.1 a1.2
    let a3 := su x.1 a2.1 a2.2
    let d := su a3.1 m a3.2
    bif (bif (bif (bif decide (m < 0) then true else decide (m > 6908435304716)) then true else decide (e < 0)) then true else decide (e > 109951162777)) then some true else some (an (an (!d.2) (decide (d.1 ≤ 64))) (decide (d.1 ≥ -64))) := by kernel_rfl
end
theorem envS8_ok : EnvOk Try.prog (envS8 add sub mul sinP cosP placeP rightO keplerP) :=
  EnvOk.p (EnvOk.f (EnvOk.f (EnvOk.f (EnvOk.f (EnvOk.f (EnvOk.f envA8_ok en_Cos cos_con) en_Sin sin_con) Fx.en_mul mul_con) en_sub sub_con) en_fAdd add_con) (enter_of Try.func23 (by kernel_rfl) rfl) kepler_con) (enter_of Try.func20 (by kernel_rfl) rfl) awake8_ok
theorem osolves_law (m e : Int) (w : World) : Calls Try.prog 9 #[.int .i64 m, .int .i64 e] w fun e w' => e = .returned (.bool true) ∧ Go.RowKit.Below w.heap.size w w' := by
  refine law_true envS8_ok ((lsolves_raw add sub mul sinP cosP placeP rightO keplerP m e).trans ?_) (RL.cons (R_int _ _ _) (RL.cons (R_int _ _ _) (RL_nil.2 rfl)))
  dsimp only
  by_cases h1 : m < 0
  · rw [decide_eq_true h1, bt, bt, bt, bt]
  rw [decide_eq_false h1, bf]
  by_cases h2 : m > 6908435304716
  · rw [decide_eq_true h2, bt, bt, bt]
  rw [decide_eq_false h2, bf]
  by_cases h3 : e < 0
  · rw [decide_eq_true h3, bt, bt]
  rw [decide_eq_false h3, bf]
  by_cases h4 : e > 109951162777
  · rw [decide_eq_true h4, bt]
  rw [decide_eq_false h4, bf]
  obtain ⟨x, hx, xb, g⟩ := kep_all (m := m) (e := e) ⟨by omega, by omega⟩ ⟨by omega, by omega⟩
  have xb' : Bd 10000000000000 x := by unfold Bd at *; omega
  have heb : Bd 109951162777 e := ⟨by omega, by omega⟩
  obtain ⟨hs, -, sb, -⟩ := sc_is (a := x) (by unfold Bd at xb'; omega)
  obtain ⟨a2, ha2, a2b, a2e⟩ := mul_b 109951162777 1099511627789 109951162779 heb sb (by decide)
  have h5 := sub_b (a := x) (b := a2) 10000000000000 109951162779 xb' a2b (by decide)
  have h6 := sub_b (a := x - a2) (b := m) 10109951162779 10000000000000 (xb'.sub a2b) ⟨by omega, by omega⟩ (by decide)
  have fin : Bd 64 (x - a2 - m) := by
    generalize e * sv x = p at *
    unfold Bd at *; omega
  simp only [hx, hs, ha2, h5, h6]
  unfold Bd at fin
  unfold an
  simp [fin.1, fin.2]
#print axioms osolves_law
end Go.Proofs.Ytgaanfacjjppcaa.Ns
