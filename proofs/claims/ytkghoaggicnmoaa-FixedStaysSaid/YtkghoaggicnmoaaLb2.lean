/- FixedBack and FixedStays are true. Conditions: none. -/
import Derived.Test.YtkghoaggicnmoaaLb1
import Derived.Test.YtkghoaggicnmoaaNx1
namespace Go.Proofs.Ytkghoaggicnmoaa.Lx
open Go Go.Proofs.Ytkghoaggicnmoaa.Ae Go.Proofs.Ytkghoaggicnmoaa.Fx Go.Proofs.Ytkghoaggicnmoaa.Rx Go.Proofs.Ytkghoaggicnmoaa.Row Go.Proofs.Ytkghoaggicnmoaa.Nx

theorem back_plain (a b : Int) : backRaw mul div a b = some true := by
  unfold backRaw
  cases hg : (bif (bif (bif (bif decide (a > 1125899906842624) then true else decide (a < -1125899906842624)) then true else decide (b > 1125899906842624)) then true else decide (b < -1125899906842624)) then true else b == 0) with
  | true => rfl
  | false =>
    have hb : -1125899906842624 ≤ a ∧ a ≤ 1125899906842624 ∧ -1125899906842624 ≤ b ∧ b ≤ 1125899906842624 ∧ b ≠ 0 := by
      by_cases h1 : a > 1125899906842624
      · simp [h1] at hg
      by_cases h2 : a < -1125899906842624
      · simp [h2] at hg
      by_cases h3 : b > 1125899906842624
      · simp [h3] at hg
      by_cases h4 : b < -1125899906842624
      · simp [h4] at hg
      simp [h1, h2, h3, h4] at hg
      omega
    obtain ⟨a1, a2, b1, b2, b0⟩ := hb
    rw [bf]
    have oa : okn a = true := okn_iff'.2 (by omega)
    have ob : okn b = true := okn_iff'.2 (by omega)
    have ed : div a b false = resB false (rat a 1099511627776 b) := lift2 oa ob _
    rw [ed]
    cases hq : rat a 1099511627776 b with
    | none => rfl
    | some q =>
      obtain ⟨_, q1, q2, q3, q4⟩ := rat_spec hq
      have oq : okn q = true := okn_iff'.2 (by omega)
      have em : mul q b false = resB false (rat q b 1099511627776) := lift2 oq ob _
      have e0 : resB false (some q) = (q, false) := rfl
      rw [e0]
      dsimp only
      rw [bf, em]
      cases hm : rat q b 1099511627776 with
      | none => rfl
      | some m =>
        obtain ⟨_, m1, m2, m3, m4⟩ := rat_spec hm
        have e1 : resB false (some m) = (m, false) := rfl
        rw [e1]
        dsimp only
        rw [bf]
        generalize q * b = p at *
        have hd : wr .i64 (m - a) = m - a := w64_in (by omega) (by omega)
        rw [hd, w64_in (n := 0 - (m - a)) (by omega) (by omega), w64_in (n := 0 - b) (by omega) (by omega)]
        have ew : (bif decide (b < 0) then 0 - b else b) = (b.natAbs : Int) := by
          by_cases h : b < 0
          · rw [decide_eq_true h, bt]; omega
          · rw [decide_eq_false h, bf]; omega
        have ed : (bif decide (m - a < 0) then 0 - (m - a) else m - a) = ((m - a).natAbs : Int) := by
          by_cases h : m - a < 0
          · rw [decide_eq_true h, bt]; omega
          · rw [decide_eq_false h, bf]; omega
        rw [ew, ed, Int.tdiv_eq_ediv_of_nonneg (by omega), w64_in (n := (b.natAbs : Int) / 2199023255552) (by omega) (by omega), w64_in (n := (b.natAbs : Int) / 2199023255552 + 1) (by omega) (by omega)]
        congr 1
        exact decide_eq_true (by omega)

theorem awake1_con {env : Env} (h : EnvOk Try.prog env) : EnvOk Try.prog ((19, .pure anyArgs yesF) :: env) := EnvOk.p h en_awake awake1_ok
theorem back_law (a b : Int) (w : World) : Calls Try.prog 6 #[.int .i64 a, .int .i64 b] w fun e w' => e = .returned (.bool true) ∧ Go.RowKit.Below w.heap.size w w' :=
  law_true (awake1_con (EnvOk.f (EnvOk.f ok_nil Fx.en_mul mul_con) Fx.en_div div_meth)) ((back_raw mul div a b).trans (back_plain a b)) (RL.cons (R_int _ _ _) (RL.cons (R_int _ _ _) (RL_nil.2 rfl)))
theorem stays_law (a b c : Int) (w : World) : Calls Try.prog 15 #[.int .i64 a, .int .i64 b, .int .i64 c] w fun e w' => e = .returned (.bool true) ∧ Go.RowKit.Below w.heap.size w w' :=
  law_true (awake1_con (EnvOk.t (EnvOk.t (EnvOk.t (EnvOk.t (EnvOk.t (EnvOk.t (EnvOk.t (EnvOk.t (EnvOk.t (EnvOk.t ok_nil Fx.en_norm) Fx.en_mod) Fx.en_part) Fx.en_sqrt) Fx.en_div) Fx.en_mul) Fx.en_sub) Fx.en_add) Fx.en_fail) Fx.en_take)) (stays_raw a b c) (RL.cons (R_int _ _ _) (RL.cons (R_int _ _ _) (RL.cons (R_int _ _ _) (RL_nil.2 rfl))))
end Go.Proofs.Ytkghoaggicnmoaa.Lx
