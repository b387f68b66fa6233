/- Which elements are right: the program's and the reference's answers are the same. Conditions: none. -/
import Derived.Test.YtgaanfacjjppcaaPk
namespace Go.Proofs.Ytgaanfacjjppcaa.Orb
open Go Go.Proofs.Ytgaanfacjjppcaa.Ae Go.Proofs.Ytgaanfacjjppcaa.Fx Go.Proofs.Ytgaanfacjjppcaa.Lx Go.Proofs.Ytgaanfacjjppcaa.Tx Go.Proofs.Ytgaanfacjjppcaa.Te Go.Proofs.Ytgaanfacjjppcaa.Rx Go.Proofs.Ytgaanfacjjppcaa.Row

structure El where
  (a e i node peri m t : Int)
def El.av (o : El) : List AV := [I o.a, I o.e, I o.i, I o.node, I o.peri, I o.m, I o.t]
def chkS : List Bool → Option AV → Option AV
  | [], k => k
  | b :: l, k => bif b then some (.bool false) else chkS l k
def farA (n : Int) : Bool := oor (decide (n < -6908435304716)) (decide (n > 6908435304716))
def inA (n : Int) : Bool := an (decide (n ≥ -6908435304716)) (decide (n ≤ 6908435304716))
section
variable (mu : Op2)
theorem oright_raw (o : El) : acall Try.prog [(49, .text), (28, m2 25 mu)] 60 21 [.agg o.av] [] pK =
    let m1 := mu o.a (wr .i64 (1099511627776 - o.e)) false
    let m2 := mu o.a (wr .i64 (1099511627776 + o.e)) m1.2
    chkS [farA o.node, farA o.peri, farA o.m, decide (o.e < 0), decide (o.e > 109951162777), decide (o.i < 0), decide (o.i > 3454217652358), !(ckT o.t)]
      (bif decide (m1.1 ≥ 7232738120604) then (bif decide (m2.1 ≤ 9211859050600) then some (.bool !m2.2) else some (.bool false)) else some (.bool false)) := by kernel_rfl
theorem roright_raw (o : El) : acall Try.prog [(51, .text), (50, .text), (40, m2 27 mu)] 60 22 [.agg o.av] [] pK =
    let m1 := mu o.a (wr .i64 (1099511627776 - o.e)) false
    let m2 := mu o.a (wr .i64 (1099511627776 + o.e)) m1.2
    chkS [decide (o.e < 0), decide (o.e > 109951162777), decide (o.i < 0), decide (o.i > 3454217652358), !(inA o.node), !(inA o.peri), !(inA o.m), !(an (decide (o.t ≥ 0)) (decide (o.t ≤ 157766400000)))]
      (some (.bool (an (an (!m2.2) (decide (m1.1 ≥ 7232738120604))) (decide (m2.1 ≤ 9211859050600))))) := by kernel_rfl
end
def El.zero : El := ⟨0, 0, 0, 0, 0, 0, 0⟩
def elF (f : El → Bool) : List AV → Option AV
  | [.agg [.int .i64 a, .int .i64 e, .int .i64 i, .int .i64 n, .int .i64 p, .int .i64 m, .int .i64 t]] => some (.bool (f ⟨a, e, i, n, p, m, t⟩))
  | _ => none
/-! ### Which elements are right -/
def rightO (o : El) : Bool :=
  let m1 := mul o.a (wr .i64 (1099511627776 - o.e)) false
  let m2 := mul o.a (wr .i64 (1099511627776 + o.e)) m1.2
  !(farA o.node) && !(farA o.peri) && !(farA o.m) && !(decide (o.e < 0)) && !(decide (o.e > 109951162777)) && !(decide (o.i < 0)) && !(decide (o.i > 3454217652358)) && ckT o.t && decide (m1.1 ≥ 7232738120604) && decide (m2.1 ≤ 9211859050600) && !m2.2
theorem chkS_eq : ∀ (l : List Bool) (b : Bool), chkS l (some (.bool b)) = some (.bool (l.all (fun x => !x) && b))
  | [], b => by simp [chkS]
  | x :: l, b => by
    simp only [chkS]
    rw [chkS_eq l]
    cases x <;> simp
theorem inA_eq (n : Int) : inA n = !(farA n) := by
  unfold inA farA
  rw [an_eq, oor_eq']
  by_cases h1 : n < -6908435304716 <;> by_cases h2 : n > 6908435304716 <;> simp [h1, h2] <;> omega
where oor_eq' (a b : Bool) : oor a b = (a || b) := by cases a <;> rfl
theorem rightRaw_eq (o : El) (m1 m2 : Int × Bool) :
    chkS [farA o.node, farA o.peri, farA o.m, decide (o.e < 0), decide (o.e > 109951162777), decide (o.i < 0), decide (o.i > 3454217652358), !(ckT o.t)]
      (bif decide (m1.1 ≥ 7232738120604) then (bif decide (m2.1 ≤ 9211859050600) then some (.bool !m2.2) else some (.bool false)) else some (.bool false)) =
    some (.bool (!(farA o.node) && !(farA o.peri) && !(farA o.m) && !(decide (o.e < 0)) && !(decide (o.e > 109951162777)) && !(decide (o.i < 0)) && !(decide (o.i > 3454217652358)) && ckT o.t && decide (m1.1 ≥ 7232738120604) && decide (m2.1 ≤ 9211859050600) && !m2.2)) := by
  have e : (bif decide (m1.1 ≥ 7232738120604) then (bif decide (m2.1 ≤ 9211859050600) then some (AV.bool !m2.2) else some (.bool false)) else some (.bool false)) = some (.bool (decide (m1.1 ≥ 7232738120604) && (decide (m2.1 ≤ 9211859050600) && !m2.2))) := by
    cases decide (m1.1 ≥ 7232738120604) <;> cases decide (m2.1 ≤ 9211859050600) <;> rfl
  rw [e, chkS_eq]
  simp only [List.all_cons, List.all_nil, Bool.not_not, Bool.and_true, Bool.and_assoc]
theorem rrightRaw_eq (o : El) (m1 m2 : Int × Bool) :
    chkS [decide (o.e < 0), decide (o.e > 109951162777), decide (o.i < 0), decide (o.i > 3454217652358), !(inA o.node), !(inA o.peri), !(inA o.m), !(an (decide (o.t ≥ 0)) (decide (o.t ≤ 157766400000)))]
      (some (.bool (an (an (!m2.2) (decide (m1.1 ≥ 7232738120604))) (decide (m2.1 ≤ 9211859050600))))) =
    some (.bool (!(farA o.node) && !(farA o.peri) && !(farA o.m) && !(decide (o.e < 0)) && !(decide (o.e > 109951162777)) && !(decide (o.i < 0)) && !(decide (o.i > 3454217652358)) && ckT o.t && decide (m1.1 ≥ 7232738120604) && decide (m2.1 ≤ 9211859050600) && !m2.2)) := by
  rw [chkS_eq]
  simp only [List.all_cons, List.all_nil, Bool.not_not, Bool.and_true, inA_eq, an_eq]
  have ec : ckT o.t = (decide (o.t ≥ 0) && decide (o.t ≤ 157766400000)) := by unfold ckT; rw [an_eq]
  rw [ec]
  congr 2
  generalize farA o.node = b0
  generalize farA o.peri = b1
  generalize farA o.m = b2
  generalize decide (o.e < 0) = b3
  generalize decide (o.e > 109951162777) = b4
  generalize decide (o.i < 0) = b5
  generalize decide (o.i > 3454217652358) = b6
  generalize decide (o.t ≥ 0) = b7
  generalize decide (o.t ≤ 157766400000) = b8
  generalize decide (m1.1 ≥ 7232738120604) = b9
  generalize decide (m2.1 ≤ 9211859050600) = b10
  generalize m2.2 = b11
  ac_rfl
theorem elF_some {f : El → Bool} {args : List AV} {v : AV} (h : elF f args = some v) : ∃ o : El, args = [.agg o.av] ∧ v = .bool (f o) := by
  unfold elF at h
  split at h <;> cases h
  rename_i a e i n p m t
  exact ⟨⟨a, e, i, n, p, m, t⟩, rfl, rfl⟩
theorem oright_con : PureOk Try.prog 21 anyArgs (elF rightO) := by
  have hE : EnvOk Try.prog [(49, .text), (28, m2 25 mul)] := EnvOk.t (EnvOk.f ok_nil Fx.en_mul mul_con) (enter_of Try.func49 (by kernel_rfl) rfl)
  refine pure_of hE 60 _ _ _ ?_
  rintro args v - h
  obtain ⟨o, rfl, rfl⟩ := elF_some h
  exact ⟨rfl, rfl, (oright_raw mul o).trans (rightRaw_eq o _ _)⟩
theorem roright_con : PureOk Try.prog 22 anyArgs (elF rightO) := by
  have hE : EnvOk Try.prog [(51, .text), (50, .text), (40, m2 27 mul)] := EnvOk.t (EnvOk.t (EnvOk.f ok_nil en_rMul rmul_con) (enter_of Try.func50 (by kernel_rfl) rfl)) (enter_of Try.func51 (by kernel_rfl) rfl)
  refine pure_of hE 60 _ _ _ ?_
  rintro args v - h
  obtain ⟨o, rfl, rfl⟩ := elF_some h
  exact ⟨rfl, rfl, (roright_raw mul o).trans (rrightRaw_eq o _ _)⟩

end Go.Proofs.Ytgaanfacjjppcaa.Orb
