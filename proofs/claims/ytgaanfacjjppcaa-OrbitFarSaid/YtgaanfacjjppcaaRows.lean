/-
  No cell of these rows narrows 'for every input' (looked for: loops, veiled, ifaces, maps, wideKeys, modest, calm, conditions, laid).
  DERIVED. THE GIVEN ROWS OF THIS SEAT. 10 by the template 'for every input the law returns true; each argument reads behind the call as it read before'; 0 by the template 'total and deterministic' (their statements: YtgaanfacjjppcaaTotals.lean).
  GIVEN WITH THE SEED: the statements are not yours to turn. If you find one false, say at which input.
  Laid BY PROGRAM, IN A SANDBOX (cutbox-rows.mjs): the forced cells as the released guide's own fill.sh prints them over the translation 0bb4e207d69cbaf0… (all of the seat's roots in one cut). By AI agents, Wed Nov 11 2026. No macro, syntax, notation, axiom, sorry.
-/
import Derived.Test.YtgaanfacjjppcaaChecked
import GoSem.Claim
import GoSem.ClaimJoined
import GoSem.ClaimMapViews
import Derived.JoinedTies
import Derived.KernelRfl
namespace Go.Proofs.Ytgaanfacjjppcaa
/- THE CELL 'sum', in the pinned program and in every row, IS THE sha256 OF THE DUMP (.gsa) THAT YtgaanfacjjppcaaProg.lean LOADS. Nothing in Lean hashes anything: it is a label: what it is worth is what the hold of that sum in a sandbox is worth. -/
noncomputable def Try.pinned : Pinned := { name := "ytgaanfacjjppcaa", sum := "0bb4e207d69cbaf023b041b669d9590c577e48a10f0964d08154f27c5ea40bd4", checked := Try.checked }
namespace Rows
def none {H : Type} : Left H := { results := [], args := [] }

/-- 'alidadelaw09.SunDirection': WHATEVER THE INPUT: true; the input reads as it did. -/
def sunDirectionSpec : ChangeSpec := { name := "sunDirection", fn := fun _ => fun
  | [d1, d2] => { results := [.lit (.bool true)], args := [d1, d2] }
  | _ => none }
def sunDirectionRow : OpenClaim := { program := "ytgaanfacjjppcaa", sum := "0bb4e207d69cbaf023b041b669d9590c577e48a10f0964d08154f27c5ea40bd4", func := "alidade/alidadelaw09.SunDirection", spec := "sunDirection", inPlace := ["math/bits.Add64"], unfollowed := true, recurses := true, named := ["math/bits.divideError", "math/bits.overflowError"], apart := false }
def SunDirectionSaid : Prop := sunDirectionRow.holds Try.pinned (OpenSpec.ofChange sunDirectionSpec)

/-- ITS FALSE NEIGHBOUR: 'it returns false'. Refute it at one input. -/
def sunDirectionWrong : ChangeSpec := { name := "sunDirection", fn := fun _ => fun
  | [d1, d2] => { results := [.lit (.bool false)], args := [d1, d2] }
  | _ => none }
def SunDirectionWrongFalsely : Prop := sunDirectionRow.holds Try.pinned (OpenSpec.ofChange sunDirectionWrong)

/-- 'alidadelaw09.SunOne': WHATEVER THE INPUT: true; the input reads as it did. -/
def sunOneSpec : ChangeSpec := { name := "sunOne", fn := fun _ => fun
  | [d] => { results := [.lit (.bool true)], args := [d] }
  | _ => none }
def sunOneRow : OpenClaim := { program := "ytgaanfacjjppcaa", sum := "0bb4e207d69cbaf023b041b669d9590c577e48a10f0964d08154f27c5ea40bd4", func := "alidade/alidadelaw09.SunOne", spec := "sunOne", inPlace := ["math/bits.Add64"], unfollowed := true, recurses := true, named := ["math/bits.divideError", "math/bits.overflowError"], apart := false }
def SunOneSaid : Prop := sunOneRow.holds Try.pinned (OpenSpec.ofChange sunOneSpec)

/-- ITS FALSE NEIGHBOUR: 'it returns false'. Refute it at one input. -/
def sunOneWrong : ChangeSpec := { name := "sunOne", fn := fun _ => fun
  | [d] => { results := [.lit (.bool false)], args := [d] }
  | _ => none }
def SunOneWrongFalsely : Prop := sunOneRow.holds Try.pinned (OpenSpec.ofChange sunOneWrong)

/-- 'alidadelaw09.SunSides': WHATEVER THE INPUT: true; the input reads as it did. -/
def sunSidesSpec : ChangeSpec := { name := "sunSides", fn := fun _ => fun
  | [d1, d2, d3] => { results := [.lit (.bool true)], args := [d1, d2, d3] }
  | _ => none }
def sunSidesRow : OpenClaim := { program := "ytgaanfacjjppcaa", sum := "0bb4e207d69cbaf023b041b669d9590c577e48a10f0964d08154f27c5ea40bd4", func := "alidade/alidadelaw09.SunSides", spec := "sunSides", inPlace := ["math/bits.Add64"], unfollowed := true, recurses := true, named := ["math/bits.divideError", "math/bits.overflowError"], apart := false }
def SunSidesSaid : Prop := sunSidesRow.holds Try.pinned (OpenSpec.ofChange sunSidesSpec)

/-- ITS FALSE NEIGHBOUR: 'it returns false'. Refute it at one input. -/
def sunSidesWrong : ChangeSpec := { name := "sunSides", fn := fun _ => fun
  | [d1, d2, d3] => { results := [.lit (.bool false)], args := [d1, d2, d3] }
  | _ => none }
def SunSidesWrongFalsely : Prop := sunSidesRow.holds Try.pinned (OpenSpec.ofChange sunSidesWrong)

/-- 'alidadelaw08.OrbitRight': WHATEVER THE INPUT: true; the input reads as it did. -/
def orbitRightSpec : ChangeSpec := { name := "orbitRight", fn := fun _ => fun
  | [d] => { results := [.lit (.bool true)], args := [d] }
  | _ => none }
def orbitRightRow : OpenClaim := { program := "ytgaanfacjjppcaa", sum := "0bb4e207d69cbaf023b041b669d9590c577e48a10f0964d08154f27c5ea40bd4", func := "alidade/alidadelaw08.OrbitRight", spec := "orbitRight", named := ["math/bits.divideError", "math/bits.overflowError"], apart := false }
def OrbitRightSaid : Prop := orbitRightRow.holds Try.pinned (OpenSpec.ofChange orbitRightSpec)

/-- ITS FALSE NEIGHBOUR: 'it returns false'. Refute it at one input. -/
def orbitRightWrong : ChangeSpec := { name := "orbitRight", fn := fun _ => fun
  | [d] => { results := [.lit (.bool false)], args := [d] }
  | _ => none }
def OrbitRightWrongFalsely : Prop := orbitRightRow.holds Try.pinned (OpenSpec.ofChange orbitRightWrong)

/-- 'alidadelaw08.OrbitKepler': WHATEVER THE INPUT: true; the input reads as it did. -/
def orbitKeplerSpec : ChangeSpec := { name := "orbitKepler", fn := fun _ => fun
  | [d1, d2, d3] => { results := [.lit (.bool true)], args := [d1, d2, d3] }
  | _ => none }
def orbitKeplerRow : OpenClaim := { program := "ytgaanfacjjppcaa", sum := "0bb4e207d69cbaf023b041b669d9590c577e48a10f0964d08154f27c5ea40bd4", func := "alidade/alidadelaw08.OrbitKepler", spec := "orbitKepler", named := ["math/bits.divideError", "math/bits.overflowError"], apart := false }
def OrbitKeplerSaid : Prop := orbitKeplerRow.holds Try.pinned (OpenSpec.ofChange orbitKeplerSpec)

/-- ITS FALSE NEIGHBOUR: 'it returns false'. Refute it at one input. -/
def orbitKeplerWrong : ChangeSpec := { name := "orbitKepler", fn := fun _ => fun
  | [d1, d2, d3] => { results := [.lit (.bool false)], args := [d1, d2, d3] }
  | _ => none }
def OrbitKeplerWrongFalsely : Prop := orbitKeplerRow.holds Try.pinned (OpenSpec.ofChange orbitKeplerWrong)

/-- 'alidadelaw08.OrbitPlace': WHATEVER THE INPUT: true; the input reads as it did. -/
def orbitPlaceSpec : ChangeSpec := { name := "orbitPlace", fn := fun _ => fun
  | [d1, d2, d3] => { results := [.lit (.bool true)], args := [d1, d2, d3] }
  | _ => none }
def orbitPlaceRow : OpenClaim := { program := "ytgaanfacjjppcaa", sum := "0bb4e207d69cbaf023b041b669d9590c577e48a10f0964d08154f27c5ea40bd4", func := "alidade/alidadelaw08.OrbitPlace", spec := "orbitPlace", named := ["math/bits.divideError", "math/bits.overflowError"], apart := false }
def OrbitPlaceSaid : Prop := orbitPlaceRow.holds Try.pinned (OpenSpec.ofChange orbitPlaceSpec)

/-- ITS FALSE NEIGHBOUR: 'it returns false'. Refute it at one input. -/
def orbitPlaceWrong : ChangeSpec := { name := "orbitPlace", fn := fun _ => fun
  | [d1, d2, d3] => { results := [.lit (.bool false)], args := [d1, d2, d3] }
  | _ => none }
def OrbitPlaceWrongFalsely : Prop := orbitPlaceRow.holds Try.pinned (OpenSpec.ofChange orbitPlaceWrong)

/-- 'alidadelaw08.OrbitSolves': WHATEVER THE INPUT: true; the input reads as it did. -/
def orbitSolvesSpec : ChangeSpec := { name := "orbitSolves", fn := fun _ => fun
  | [d1, d2] => { results := [.lit (.bool true)], args := [d1, d2] }
  | _ => none }
def orbitSolvesRow : OpenClaim := { program := "ytgaanfacjjppcaa", sum := "0bb4e207d69cbaf023b041b669d9590c577e48a10f0964d08154f27c5ea40bd4", func := "alidade/alidadelaw08.OrbitSolves", spec := "orbitSolves", named := ["math/bits.divideError", "math/bits.overflowError"], apart := false }
def OrbitSolvesSaid : Prop := orbitSolvesRow.holds Try.pinned (OpenSpec.ofChange orbitSolvesSpec)

/-- ITS FALSE NEIGHBOUR: 'it returns false'. Refute it at one input. -/
def orbitSolvesWrong : ChangeSpec := { name := "orbitSolves", fn := fun _ => fun
  | [d1, d2] => { results := [.lit (.bool false)], args := [d1, d2] }
  | _ => none }
def OrbitSolvesWrongFalsely : Prop := orbitSolvesRow.holds Try.pinned (OpenSpec.ofChange orbitSolvesWrong)

/-- 'alidadelaw08.OrbitPlane': WHATEVER THE INPUT: true; the input reads as it did. -/
def orbitPlaneSpec : ChangeSpec := { name := "orbitPlane", fn := fun _ => fun
  | [d] => { results := [.lit (.bool true)], args := [d] }
  | _ => none }
def orbitPlaneRow : OpenClaim := { program := "ytgaanfacjjppcaa", sum := "0bb4e207d69cbaf023b041b669d9590c577e48a10f0964d08154f27c5ea40bd4", func := "alidade/alidadelaw08.OrbitPlane", spec := "orbitPlane", named := ["math/bits.divideError", "math/bits.overflowError"], apart := false }
def OrbitPlaneSaid : Prop := orbitPlaneRow.holds Try.pinned (OpenSpec.ofChange orbitPlaneSpec)

/-- ITS FALSE NEIGHBOUR: 'it returns false'. Refute it at one input. -/
def orbitPlaneWrong : ChangeSpec := { name := "orbitPlane", fn := fun _ => fun
  | [d] => { results := [.lit (.bool false)], args := [d] }
  | _ => none }
def OrbitPlaneWrongFalsely : Prop := orbitPlaneRow.holds Try.pinned (OpenSpec.ofChange orbitPlaneWrong)

/-- 'alidadelaw08.OrbitFar': WHATEVER THE INPUT: true; the input reads as it did. -/
def orbitFarSpec : ChangeSpec := { name := "orbitFar", fn := fun _ => fun
  | [d1, d2] => { results := [.lit (.bool true)], args := [d1, d2] }
  | _ => none }
def orbitFarRow : OpenClaim := { program := "ytgaanfacjjppcaa", sum := "0bb4e207d69cbaf023b041b669d9590c577e48a10f0964d08154f27c5ea40bd4", func := "alidade/alidadelaw08.OrbitFar", spec := "orbitFar", inPlace := ["math/bits.Add64"], named := ["math/bits.divideError", "math/bits.overflowError"], apart := false }
def OrbitFarSaid : Prop := orbitFarRow.holds Try.pinned (OpenSpec.ofChange orbitFarSpec)

/-- ITS FALSE NEIGHBOUR: 'it returns false'. Refute it at one input. -/
def orbitFarWrong : ChangeSpec := { name := "orbitFar", fn := fun _ => fun
  | [d1, d2] => { results := [.lit (.bool false)], args := [d1, d2] }
  | _ => none }
def OrbitFarWrongFalsely : Prop := orbitFarRow.holds Try.pinned (OpenSpec.ofChange orbitFarWrong)

/-- 'alidadelaw12.SensorReads': WHATEVER THE INPUT: true; the input reads as it did. -/
def sensorReadsSpec : ChangeSpec := { name := "sensorReads", fn := fun _ => fun
  | [d] => { results := [.lit (.bool true)], args := [d] }
  | _ => none }
def sensorReadsRow : OpenClaim := { program := "ytgaanfacjjppcaa", sum := "0bb4e207d69cbaf023b041b669d9590c577e48a10f0964d08154f27c5ea40bd4", func := "alidade/alidadelaw12.SensorReads", spec := "sensorReads", inPlace := ["math/bits.Add64"], unfollowed := true, recurses := true, named := ["math/bits.divideError", "math/bits.overflowError"], apart := false }
def SensorReadsSaid : Prop := sensorReadsRow.holds Try.pinned (OpenSpec.ofChange sensorReadsSpec)

/-- ITS FALSE NEIGHBOUR: 'it returns false'. Refute it at one input. -/
def sensorReadsWrong : ChangeSpec := { name := "sensorReads", fn := fun _ => fun
  | [d] => { results := [.lit (.bool false)], args := [d] }
  | _ => none }
def SensorReadsWrongFalsely : Prop := sensorReadsRow.holds Try.pinned (OpenSpec.ofChange sensorReadsWrong)

/- THE SECOND FORM. 'bulk': how many values and letters a reading holds, each counted each time it is reached (what is shared counts as often as it is met; a slice's spare places count too). A statement '..UptoSaid' is the law's where the arguments, and the package variables that the reading takes, are together of bulk at most 1048576: NARROWER than '..Said'. Prove '..Said' where nothing that the law and all that it calls make is longer than what came in: it says more and counts as full. Else prove '..UptoSaid'. A law counts once. -/
mutual
def uptoBulk {H : Type} : DataW H → Nat
  | .lit (.string bytes) => bytes.length + 1
  | .lit _ => 1
  | .nil => 1
  | .ptr d => uptoBulk d + 1
  | .slice elems spare => uptoBulkAll elems + uptoBulkAll spare + 1
  | .agg parts => uptoBulkAll parts + 1
  | .iface _ d => uptoBulk d + 1
  | .map entries => uptoBulkEntries entries + 1
  | .held _ => 1
def uptoBulkAll {H : Type} : List (DataW H) → Nat
  | [] => 0
  | d :: r => uptoBulk d + uptoBulkAll r
def uptoBulkEntries {H : Type} : List (Lit × DataW H) → Nat
  | [] => 0
  | x :: r => uptoBulkEntry x + uptoBulkEntries r
def uptoBulkEntry {H : Type} : Lit × DataW H → Nat
  | (.string bytes, d) => bytes.length + uptoBulk d + 1
  | (_, d) => uptoBulk d + 1
 end
def uptoSmall : (H : Type) → List (DataW H) → Bool := fun _ ds => decide (uptoBulkAll ds ≤ 1048576)
def OpenSpec.upto (s : _root_.Go.ChangeSpec) : _root_.Go.OpenSpec := { _root_.Go.OpenSpec.ofChange s with cond := some uptoSmall }

/-- 'alidadelaw09.SunDirection', WHERE WHAT IT READS IS OF BULK AT MOST 1048576: true; the input reads as it did. -/
def sunDirectionUptoRow : OpenClaim := { program := "ytgaanfacjjppcaa", sum := "0bb4e207d69cbaf023b041b669d9590c577e48a10f0964d08154f27c5ea40bd4", func := "alidade/alidadelaw09.SunDirection", spec := "sunDirection", inPlace := ["math/bits.Add64"], unfollowed := true, recurses := true, named := ["math/bits.divideError", "math/bits.overflowError"], apart := false, narrowed := true }
def SunDirectionUptoSaid : Prop := sunDirectionUptoRow.holds Try.pinned (OpenSpec.upto sunDirectionSpec)

/-- 'alidadelaw09.SunOne', WHERE WHAT IT READS IS OF BULK AT MOST 1048576: true; the input reads as it did. -/
def sunOneUptoRow : OpenClaim := { program := "ytgaanfacjjppcaa", sum := "0bb4e207d69cbaf023b041b669d9590c577e48a10f0964d08154f27c5ea40bd4", func := "alidade/alidadelaw09.SunOne", spec := "sunOne", inPlace := ["math/bits.Add64"], unfollowed := true, recurses := true, named := ["math/bits.divideError", "math/bits.overflowError"], apart := false, narrowed := true }
def SunOneUptoSaid : Prop := sunOneUptoRow.holds Try.pinned (OpenSpec.upto sunOneSpec)

/-- 'alidadelaw09.SunSides', WHERE WHAT IT READS IS OF BULK AT MOST 1048576: true; the input reads as it did. -/
def sunSidesUptoRow : OpenClaim := { program := "ytgaanfacjjppcaa", sum := "0bb4e207d69cbaf023b041b669d9590c577e48a10f0964d08154f27c5ea40bd4", func := "alidade/alidadelaw09.SunSides", spec := "sunSides", inPlace := ["math/bits.Add64"], unfollowed := true, recurses := true, named := ["math/bits.divideError", "math/bits.overflowError"], apart := false, narrowed := true }
def SunSidesUptoSaid : Prop := sunSidesUptoRow.holds Try.pinned (OpenSpec.upto sunSidesSpec)

/-- 'alidadelaw08.OrbitRight', WHERE WHAT IT READS IS OF BULK AT MOST 1048576: true; the input reads as it did. -/
def orbitRightUptoRow : OpenClaim := { program := "ytgaanfacjjppcaa", sum := "0bb4e207d69cbaf023b041b669d9590c577e48a10f0964d08154f27c5ea40bd4", func := "alidade/alidadelaw08.OrbitRight", spec := "orbitRight", named := ["math/bits.divideError", "math/bits.overflowError"], apart := false, narrowed := true }
def OrbitRightUptoSaid : Prop := orbitRightUptoRow.holds Try.pinned (OpenSpec.upto orbitRightSpec)

/-- 'alidadelaw08.OrbitKepler', WHERE WHAT IT READS IS OF BULK AT MOST 1048576: true; the input reads as it did. -/
def orbitKeplerUptoRow : OpenClaim := { program := "ytgaanfacjjppcaa", sum := "0bb4e207d69cbaf023b041b669d9590c577e48a10f0964d08154f27c5ea40bd4", func := "alidade/alidadelaw08.OrbitKepler", spec := "orbitKepler", named := ["math/bits.divideError", "math/bits.overflowError"], apart := false, narrowed := true }
def OrbitKeplerUptoSaid : Prop := orbitKeplerUptoRow.holds Try.pinned (OpenSpec.upto orbitKeplerSpec)

/-- 'alidadelaw08.OrbitPlace', WHERE WHAT IT READS IS OF BULK AT MOST 1048576: true; the input reads as it did. -/
def orbitPlaceUptoRow : OpenClaim := { program := "ytgaanfacjjppcaa", sum := "0bb4e207d69cbaf023b041b669d9590c577e48a10f0964d08154f27c5ea40bd4", func := "alidade/alidadelaw08.OrbitPlace", spec := "orbitPlace", named := ["math/bits.divideError", "math/bits.overflowError"], apart := false, narrowed := true }
def OrbitPlaceUptoSaid : Prop := orbitPlaceUptoRow.holds Try.pinned (OpenSpec.upto orbitPlaceSpec)

/-- 'alidadelaw08.OrbitSolves', WHERE WHAT IT READS IS OF BULK AT MOST 1048576: true; the input reads as it did. -/
def orbitSolvesUptoRow : OpenClaim := { program := "ytgaanfacjjppcaa", sum := "0bb4e207d69cbaf023b041b669d9590c577e48a10f0964d08154f27c5ea40bd4", func := "alidade/alidadelaw08.OrbitSolves", spec := "orbitSolves", named := ["math/bits.divideError", "math/bits.overflowError"], apart := false, narrowed := true }
def OrbitSolvesUptoSaid : Prop := orbitSolvesUptoRow.holds Try.pinned (OpenSpec.upto orbitSolvesSpec)

/-- 'alidadelaw08.OrbitPlane', WHERE WHAT IT READS IS OF BULK AT MOST 1048576: true; the input reads as it did. -/
def orbitPlaneUptoRow : OpenClaim := { program := "ytgaanfacjjppcaa", sum := "0bb4e207d69cbaf023b041b669d9590c577e48a10f0964d08154f27c5ea40bd4", func := "alidade/alidadelaw08.OrbitPlane", spec := "orbitPlane", named := ["math/bits.divideError", "math/bits.overflowError"], apart := false, narrowed := true }
def OrbitPlaneUptoSaid : Prop := orbitPlaneUptoRow.holds Try.pinned (OpenSpec.upto orbitPlaneSpec)

/-- 'alidadelaw08.OrbitFar', WHERE WHAT IT READS IS OF BULK AT MOST 1048576: true; the input reads as it did. -/
def orbitFarUptoRow : OpenClaim := { program := "ytgaanfacjjppcaa", sum := "0bb4e207d69cbaf023b041b669d9590c577e48a10f0964d08154f27c5ea40bd4", func := "alidade/alidadelaw08.OrbitFar", spec := "orbitFar", inPlace := ["math/bits.Add64"], named := ["math/bits.divideError", "math/bits.overflowError"], apart := false, narrowed := true }
def OrbitFarUptoSaid : Prop := orbitFarUptoRow.holds Try.pinned (OpenSpec.upto orbitFarSpec)

/-- 'alidadelaw12.SensorReads', WHERE WHAT IT READS IS OF BULK AT MOST 1048576: true; the input reads as it did. -/
def sensorReadsUptoRow : OpenClaim := { program := "ytgaanfacjjppcaa", sum := "0bb4e207d69cbaf023b041b669d9590c577e48a10f0964d08154f27c5ea40bd4", func := "alidade/alidadelaw12.SensorReads", spec := "sensorReads", inPlace := ["math/bits.Add64"], unfollowed := true, recurses := true, named := ["math/bits.divideError", "math/bits.overflowError"], apart := false, narrowed := true }
def SensorReadsUptoSaid : Prop := sensorReadsUptoRow.holds Try.pinned (OpenSpec.upto sensorReadsSpec)

end Rows
end Go.Proofs.Ytgaanfacjjppcaa
