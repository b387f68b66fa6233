/- Three laws of layer 8: which elements are right, Kepler's angle, the place. Conditions: none. -/
import Derived.Test.YtgaanfacjjppcaaOb4
namespace Go.Proofs.Ytgaanfacjjppcaa.Orb
open Go Go.Proofs.Ytgaanfacjjppcaa.Ae Go.Proofs.Ytgaanfacjjppcaa.Fx Go.Proofs.Ytgaanfacjjppcaa.Lx Go.Proofs.Ytgaanfacjjppcaa.Tx Go.Proofs.Ytgaanfacjjppcaa.Te Go.Proofs.Ytgaanfacjjppcaa.Rx Go.Proofs.Ytgaanfacjjppcaa.Row Go.Proofs.Ytgaanfacjjppcaa.Ve

abbrev rnd : El := ⟨7696581394432, 0, 0, 0, 0, 0, 0⟩
def vEq (a b : V3) : Bool := (a.x == b.x) && ((a.y == b.y) && ((a.z == b.z) && true))
theorem vEq_refl (a : V3) : vEq a a = true := by unfold vEq; simp
section
variable (pl rpl : El → Int → Bool → V3 × Bool) (rt rrt : El → Bool) (ke rke : Op2)
def envA8 : Env := [(21, .pure anyArgs (elF rt)), (25, .flow 25 (plcF pl)), (48, .text)]
def awk8 (p : V3 × Bool) (r : Bool) : Bool := an (an (an (an (an r (!p.2)) (decide (wr .i64 (p.1.x - 7696581394432) ≤ 64))) (decide (wr .i64 (p.1.x - 7696581394432) ≥ -64))) (decide (p.1.y ≤ 64))) (decide (p.1.y ≥ -64))
theorem awake8_raw : acall Try.prog (envA8 pl rt) 100 20 [] [] pK = some (.bool (awk8 (pl rnd 0 false) (rt rnd))) := by kernel_rfl
def envL8 : Env := (20, .pure anyArgs yesF) :: (22, .pure anyArgs (elF rrt)) :: (26, .flow 27 (plcF rpl)) :: (24, m2 27 rke) :: (23, m2 25 ke) :: envA8 pl rt
theorem lright_raw (o : El) : acall Try.prog (envL8 pl rpl rt rrt ke rke) 100 6 [.agg o.av] [] ansK = some (rt o == rrt o) := by kernel_rfl
theorem lkepler_raw (m e : Int) (b : Bool) : acall Try.prog (envL8 pl rpl rt rrt ke rke) 100 7 [I m, I e, .bool b] [] ansK =
    bif (ke m e b).1 == (rke m e b).1 then some (an true ((ke m e b).2 == (rke m e b).2)) else some false := by kernel_rfl
theorem lplace_raw (o : El) (t : Int) (b : Bool) : acall Try.prog (envL8 pl rpl rt rrt ke rke) 100 8 [.agg o.av, I t, .bool b] [] ansK =
    bif vEq (pl o t b).1 (rpl o t b).1 then some (an true ((pl o t b).2 == (rpl o t b).2)) else some false := by kernel_rfl
end
theorem awk8_yes : awk8 (placeP rnd 0 false) (rightO rnd) = true := by kernel_rfl
theorem en_oPlace : EnterOk Try.prog 25 := enter_of Try.func25 (by kernel_rfl) rfl
theorem en_oRight : EnterOk Try.prog 21 := enter_of Try.func21 (by kernel_rfl) rfl
theorem envA8_ok : EnvOk Try.prog (envA8 placeP rightO) := EnvOk.p (EnvOk.f (EnvOk.t ok_nil (enter_of Try.func48 (by kernel_rfl) rfl)) en_oPlace place_con) en_oRight oright_con
theorem awake8_ok : PureOk Try.prog 20 anyArgs yesF := by
  refine pure_of envA8_ok 100 _ _ _ ?_
  rintro args v - h
  unfold yesF at h
  split at h <;> cases h
  exact ⟨rfl, rfl, (awake8_raw placeP rightO).trans (by rw [awk8_yes])⟩
theorem envL8_ok : EnvOk Try.prog (envL8 placeP placeP rightO rightO keplerP keplerP) :=
  EnvOk.p (EnvOk.p (EnvOk.f (EnvOk.f (EnvOk.f envA8_ok (enter_of Try.func23 (by kernel_rfl) rfl) kepler_con) (enter_of Try.func24 (by kernel_rfl) rfl) rkepler_con) (enter_of Try.func26 (by kernel_rfl) rfl) rplace_con) (enter_of Try.func22 (by kernel_rfl) rfl) roright_con) (enter_of Try.func20 (by kernel_rfl) rfl) awake8_ok
theorem elR (m : List Nat) (o : El) : R m (.agg o.av) (.agg ⟨[.int .i64 o.a, .int .i64 o.e, .int .i64 o.i, .int .i64 o.node, .int .i64 o.peri, .int .i64 o.m, .int .i64 o.t]⟩) := by
  unfold El.av
  simp only [R]
  exact ⟨_, rfl, RL.cons (R_int _ _ _) (RL.cons (R_int _ _ _) (RL.cons (R_int _ _ _) (RL.cons (R_int _ _ _) (RL.cons (R_int _ _ _) (RL.cons (R_int _ _ _) (RL.cons (R_int _ _ _) (RL_nil.2 rfl)))))))⟩
theorem oright_law (o : El) (w : World) : Calls Try.prog 6 #[.agg ⟨[.int .i64 o.a, .int .i64 o.e, .int .i64 o.i, .int .i64 o.node, .int .i64 o.peri, .int .i64 o.m, .int .i64 o.t]⟩] w fun e w' => e = .returned (.bool true) ∧ Go.RowKit.Below w.heap.size w w' :=
  law_true envL8_ok ((lright_raw placeP placeP rightO rightO keplerP keplerP o).trans (by simp)) (RL.cons (elR _ o) (RL_nil.2 rfl))
theorem okepler_law (m e : Int) (b : Bool) (w : World) : Calls Try.prog 7 #[.int .i64 m, .int .i64 e, .bool b] w fun e w' => e = .returned (.bool true) ∧ Go.RowKit.Below w.heap.size w w' :=
  law_true envL8_ok ((lkepler_raw placeP placeP rightO rightO keplerP keplerP m e b).trans (by simp [an])) (RL.cons (R_int _ _ _) (RL.cons (R_int _ _ _) (RL.cons (R_bool _ _) (RL_nil.2 rfl))))
theorem oplace_law (o : El) (t : Int) (b : Bool) (w : World) : Calls Try.prog 8 #[.agg ⟨[.int .i64 o.a, .int .i64 o.e, .int .i64 o.i, .int .i64 o.node, .int .i64 o.peri, .int .i64 o.m, .int .i64 o.t]⟩, .int .i64 t, .bool b] w fun e w' => e = .returned (.bool true) ∧ Go.RowKit.Below w.heap.size w w' :=
  law_true envL8_ok ((lplace_raw placeP placeP rightO rightO keplerP keplerP o t b).trans (by rw [vEq_refl]; simp [an])) (RL.cons (elR _ o) (RL.cons (R_int _ _ _) (RL.cons (R_bool _ _) (RL_nil.2 rfl))))
#print axioms oplace_law
#print axioms okepler_law
#print axioms oright_law
end Go.Proofs.Ytgaanfacjjppcaa.Orb
