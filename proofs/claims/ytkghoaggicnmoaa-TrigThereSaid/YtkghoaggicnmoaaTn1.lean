/- Three laws of layer 2 (TrigOne, TrigSums, TrigThere), as the interpreter finds them; the first two. Conditions: none. -/
import Derived.Test.YtkghoaggicnmoaaTl1
import Derived.Test.YtkghoaggicnmoaaNa1
namespace Go.Proofs.Ytkghoaggicnmoaa.Ns
open Go Go.Proofs.Ytkghoaggicnmoaa.Ae Go.Proofs.Ytkghoaggicnmoaa.Fx Go.Proofs.Ytkghoaggicnmoaa.Lx Go.Proofs.Ytkghoaggicnmoaa.Rx Go.Proofs.Ytkghoaggicnmoaa.Tx Go.Proofs.Ytkghoaggicnmoaa.Row Go.Proofs.Ytkghoaggicnmoaa.Tl Go.Proofs.Ytkghoaggicnmoaa.Nx Go.Proofs.Ytkghoaggicnmoaa.Np

section
variable (si co : Op1) (ad su mu di at' : Op2) (nr : Op3)
def envN : Env := [(37, .pure anyArgs yesF), (42, .text), (38, m1 25 si), (40, m1 25 co), (44, m2 25 at'), (29, m2 25 ad), (31, m2 25 su), (21, m2 25 mu), (23, m2 25 di), (35, m3 25 nr)]
def nearB (a b : Int) : Bool := bif decide (wr .i64 (a - b) ≤ 256) then decide (wr .i64 (b - a) ≤ 256) else false
theorem tone_raw (a : Int) : acall Try.prog (envN si co ad su mu di at' nr) 100 13 [.int .i64 a] [] ansK =
    let s := si a false
    let c := co a s.2
    let m1 := mu s.1 s.1 c.2
    let m2 := mu c.1 c.1 m1.2
    let r := ad m1.1 m2.1 m2.2
    bif (bif decide (a > 4611686018427387904) then true else decide (a < -4611686018427387904)) then some true else some (bif nearB r.1 1099511627776 then !r.2 else false) := by kernel_rfl
theorem tsums_raw (a b : Int) : acall Try.prog (envN si co ad su mu di at' nr) 100 14 [.int .i64 a, .int .i64 b] [] ansK =
    let s := si a false
    let c := co a s.2
    let t := si b c.2
    let d := co b t.2
    let x := si (wr .i64 (a + b)) d.2
    let m1 := mu s.1 d.1 x.2
    let m2 := mu c.1 t.1 m1.2
    let r := ad m1.1 m2.1 m2.2
    let y := co (wr .i64 (a + b)) r.2
    let m3 := mu c.1 d.1 y.2
    let m4 := mu s.1 t.1 m3.2
    let q := su m3.1 m4.1 m4.2
    bif (bif (bif (bif decide (a > 17592186044416) then true else decide (a < -17592186044416)) then true else decide (b > 17592186044416)) then true else decide (b < -17592186044416)) then some true else
    bif nearB x.1 r.1 then (bif nearB y.1 q.1 then some (!q.2) else some false) else some false := by kernel_rfl
end
theorem envN_ok : EnvOk Try.prog (envN sinP cosP add sub mul div atP norm) :=
  awake2_con (EnvOk.t (EnvOk.f (EnvOk.f (EnvOk.f (EnvOk.f (EnvOk.f (EnvOk.f (EnvOk.f (EnvOk.f ok_nil Fx.en_norm norm_con) Fx.en_div div_meth) Fx.en_mul mul_con) Fx.en_sub sub_con) Fx.en_add add_con) en_At at_con) en_Cos cos_con) en_Sin sin_con) (enter_of Try.func42 (by kernel_rfl) rfl))
theorem nearB_yes {a b : Int} (ha : Bd 4000000000000 a) (h : Bd 256 (a - b)) : nearB a b = true := by
  unfold Bd at ha h
  unfold nearB
  rw [w64_in (n := a - b) (by omega) (by omega), w64_in (n := b - a) (by omega) (by omega), decide_eq_true (by omega), bt, decide_eq_true (by omega)]
theorem tone_law (a : Int) (w : World) : Calls Try.prog 13 #[.int .i64 a] w fun e w' => e = .returned (.bool true) ∧ Go.RowKit.Below w.heap.size w w' := by
  refine law_true envN_ok ((tone_raw sinP cosP add sub mul div atP norm a).trans ?_) (RL.cons (R_int _ _ _) (RL_nil.2 rfl))
  dsimp only
  by_cases h1 : a > 4611686018427387904
  · rw [decide_eq_true h1, bt, bt]
  rw [decide_eq_false h1, bf]
  by_cases h2 : a < -4611686018427387904
  · rw [decide_eq_true h2, bt]
  rw [decide_eq_false h2, bf]
  obtain ⟨hs, hc, sb, cb, hP⟩ := sc_is (a := a) (by omega)
  obtain ⟨m1, e1, b1, d1⟩ := mul_b 1099511627789 1099511627789 1099511627804 (a := sv a) (b := sv a) sb sb (by decide)
  obtain ⟨m2, e2, b2, d2⟩ := mul_b 1099511627789 1099511627789 1099511627804 (a := cv a) (b := cv a) cb cb (by decide)
  have e3 := add_b (a := m1) (b := m2) 1099511627804 1099511627804 b1 b2 (by decide)
  simp only [hs, hc, e1, e2, e3]
  rw [nearB_yes, bt]; rfl
  · unfold Bd at *; omega
  · generalize sv a * sv a = x at *
    generalize cv a * cv a = y at *
    unfold Bd at *; omega
theorem tsums_law (a b : Int) (w : World) : Calls Try.prog 14 #[.int .i64 a, .int .i64 b] w fun e w' => e = .returned (.bool true) ∧ Go.RowKit.Below w.heap.size w w' := by
  refine law_true envN_ok ((tsums_raw sinP cosP add sub mul div atP norm a b).trans ?_) (RL.cons (R_int _ _ _) (RL.cons (R_int _ _ _) (RL_nil.2 rfl)))
  dsimp only
  by_cases h1 : a > 17592186044416
  · rw [decide_eq_true h1, bt, bt, bt, bt]
  rw [decide_eq_false h1, bf]
  by_cases h2 : a < -17592186044416
  · rw [decide_eq_true h2, bt, bt, bt]
  rw [decide_eq_false h2, bf]
  by_cases h3 : b > 17592186044416
  · rw [decide_eq_true h3, bt, bt]
  rw [decide_eq_false h3, bf]
  by_cases h4 : b < -17592186044416
  · rw [decide_eq_true h4, bt]
  rw [decide_eq_false h4, bf]
  rw [w64_in (n := a + b) (by omega) (by omega)]
  obtain ⟨hs, hc, sb, cb, -⟩ := sc_is (a := a) (by omega)
  obtain ⟨ht, hd, tb, db, -⟩ := sc_is (a := b) (by omega)
  obtain ⟨hx, hy, xb, yb, -⟩ := sc_is (a := a + b) (by omega)
  obtain ⟨l1, l2⟩ := add_law (a := a) (b := b) (by omega) (by omega)
  obtain ⟨m1, e1, b1, d1⟩ := mul_b 1099511627789 1099511627789 1099511627804 (a := sv a) (b := cv b) sb db (by decide)
  obtain ⟨m2, e2, b2, d2⟩ := mul_b 1099511627789 1099511627789 1099511627804 (a := cv a) (b := sv b) cb tb (by decide)
  obtain ⟨m3, e3, b3, d3⟩ := mul_b 1099511627789 1099511627789 1099511627804 (a := cv a) (b := cv b) cb db (by decide)
  obtain ⟨m4, e4, b4, d4⟩ := mul_b 1099511627789 1099511627789 1099511627804 (a := sv a) (b := sv b) sb tb (by decide)
  have e5 := add_b (a := m1) (b := m2) 1099511627804 1099511627804 b1 b2 (by decide)
  have e6 := sub_b (a := m3) (b := m4) 1099511627804 1099511627804 b3 b4 (by decide)
  simp only [hs, hc, ht, hd, hx, hy, e1, e2, e3, e4, e5, e6]
  generalize sv a * cv b = p1 at *
  generalize cv a * sv b = p2 at *
  generalize cv a * cv b = p3 at *
  generalize sv a * sv b = p4 at *
  rw [nearB_yes (a := sv (a + b)), bt, nearB_yes (a := cv (a + b)), bt]; rfl
  all_goals unfold Bd at *; omega
#print axioms tone_law
#print axioms tsums_law
end Go.Proofs.Ytkghoaggicnmoaa.Ns
