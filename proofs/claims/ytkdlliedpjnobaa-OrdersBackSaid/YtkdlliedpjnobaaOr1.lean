/- Which elements are right: the program's and the reference's answers are the same. Conditions: none. -/
import Derived.Test.YtkdlliedpjnobaaTe1
namespace Go.Proofs.Ytkdlliedpjnobaa.Orb
open Go Go.Proofs.Ytkdlliedpjnobaa.Ae Go.Proofs.Ytkdlliedpjnobaa.Fx Go.Proofs.Ytkdlliedpjnobaa.Lx Go.Proofs.Ytkdlliedpjnobaa.Tx Go.Proofs.Ytkdlliedpjnobaa.Te Go.Proofs.Ytkdlliedpjnobaa.Rx

structure El where
  (a e i node peri m t : Int)
def El.av (o : El) : List AV := [I o.a, I o.e, I o.i, I o.node, I o.peri, I o.m, I o.t]
def chkS : List Bool → Option AV → Option AV
  | [], k => k
  | b :: l, k => bif b then some (.bool false) else chkS l k
def farA (n : Int) : Bool := oor (decide (n < -6908435304716)) (decide (n > 6908435304716))
def inA (n : Int) : Bool := an (decide (n ≥ -6908435304716)) (decide (n ≤ 6908435304716))
section
variable (mu : Op2)
theorem oright_raw (o : El) : acall Try.prog [(47, .text), (62, m2 62 mu)] 60 43 [.agg o.av] [] pK =
    let m1 := mu o.a (wr .i64 (1099511627776 - o.e)) false
    let m2 := mu o.a (wr .i64 (1099511627776 + o.e)) m1.2
    chkS [farA o.node, farA o.peri, farA o.m, decide (o.e < 0), decide (o.e > 109951162777), decide (o.i < 0), decide (o.i > 3454217652358), !(ckT o.t)]
      (bif decide (m1.1 ≥ 7232738120604) then (bif decide (m2.1 ≤ 9211859050600) then some (.bool !m2.2) else some (.bool false)) else some (.bool false)) := by kernel_rfl
theorem roright_raw (o : El) : acall Try.prog [(51, .text), (85, .text), (74, m2 64 mu)] 60 45 [.agg o.av] [] pK =
    let m1 := mu o.a (wr .i64 (1099511627776 - o.e)) false
    let m2 := mu o.a (wr .i64 (1099511627776 + o.e)) m1.2
    chkS [decide (o.e < 0), decide (o.e > 109951162777), decide (o.i < 0), decide (o.i > 3454217652358), !(inA o.node), !(inA o.peri), !(inA o.m), !(an (decide (o.t ≥ 0)) (decide (o.t ≤ 157766400000)))]
      (some (.bool (an (an (!m2.2) (decide (m1.1 ≥ 7232738120604))) (decide (m2.1 ≤ 9211859050600))))) := by kernel_rfl
end
end Go.Proofs.Ytkdlliedpjnobaa.Orb
