/-
  No cell of these rows narrows 'for every input' (looked for: loops, veiled, ifaces, maps, wideKeys, modest, calm, conditions, laid).
  DERIVED. THE GIVEN ROWS OF THIS SEAT. 11 by the template 'for every input the law returns true; each argument reads behind the call as it read before'; 0 by the template 'total and deterministic' (their statements: YtkdlliedpjnobaaTotals.lean).
  GIVEN WITH THE SEED: the statements are not yours to turn. If you find one false, say at which input.
  Laid BY PROGRAM, IN A SANDBOX (cutbox-rows.mjs): the forced cells as the released guide's own fill.sh prints them over the translation 341ce6cdc9995088… (all of the seat's roots in one cut). By AI agents, Wed Nov 11 2026. No macro, syntax, notation, axiom, sorry.
-/
import Derived.Test.YtkdlliedpjnobaaChecked
import GoSem.Claim
import GoSem.ClaimJoined
import GoSem.ClaimMapViews
import Derived.JoinedTies
import Derived.KernelRfl
namespace Go.Proofs.Ytkdlliedpjnobaa
/- THE CELL 'sum', in the pinned program and in every row, IS THE sha256 OF THE DUMP (.gsa) THAT YtkdlliedpjnobaaProg.lean LOADS. Nothing in Lean hashes anything: it is a label: what it is worth is what the hold of that sum in a sandbox is worth. -/
noncomputable def Try.pinned : Pinned := { name := "ytkdlliedpjnobaa", sum := "341ce6cdc999508800404898bcdaf1e7f0bfc45a6e9d72dc79666f00966ff036", checked := Try.checked }
namespace Rows
def none {H : Type} : Left H := { results := [], args := [] }

/-- 'alidadelaw17.TelemCounts': WHATEVER THE INPUT: true; the input reads as it did. -/
def telemCountsSpec : ChangeSpec := { name := "telemCounts", fn := fun _ => fun
  | [d1, d2] => { results := [.lit (.bool true)], args := [d1, d2] }
  | _ => none }
def telemCountsRow : OpenClaim := { program := "ytkdlliedpjnobaa", sum := "341ce6cdc999508800404898bcdaf1e7f0bfc45a6e9d72dc79666f00966ff036", func := "alidade/alidadelaw17.TelemCounts", spec := "telemCounts", named := ["math/bits.divideError", "math/bits.overflowError"], apart := false }
def TelemCountsSaid : Prop := telemCountsRow.holds Try.pinned (OpenSpec.ofChange telemCountsSpec)

/-- ITS FALSE NEIGHBOUR: 'it returns false'. Refute it at one input. -/
def telemCountsWrong : ChangeSpec := { name := "telemCounts", fn := fun _ => fun
  | [d1, d2] => { results := [.lit (.bool false)], args := [d1, d2] }
  | _ => none }
def TelemCountsWrongFalsely : Prop := telemCountsRow.holds Try.pinned (OpenSpec.ofChange telemCountsWrong)

/-- 'alidadelaw17.TelemWrites': WHATEVER THE INPUT: true; the input reads as it did. -/
def telemWritesSpec : ChangeSpec := { name := "telemWrites", fn := fun _ => fun
  | [d] => { results := [.lit (.bool true)], args := [d] }
  | _ => none }
def telemWritesRow : OpenClaim := { program := "ytkdlliedpjnobaa", sum := "341ce6cdc999508800404898bcdaf1e7f0bfc45a6e9d72dc79666f00966ff036", func := "alidade/alidadelaw17.TelemWrites", spec := "telemWrites", named := ["math/bits.divideError", "math/bits.overflowError"], apart := false }
def TelemWritesSaid : Prop := telemWritesRow.holds Try.pinned (OpenSpec.ofChange telemWritesSpec)

/-- ITS FALSE NEIGHBOUR: 'it returns false'. Refute it at one input. -/
def telemWritesWrong : ChangeSpec := { name := "telemWrites", fn := fun _ => fun
  | [d] => { results := [.lit (.bool false)], args := [d] }
  | _ => none }
def TelemWritesWrongFalsely : Prop := telemWritesRow.holds Try.pinned (OpenSpec.ofChange telemWritesWrong)

/-- 'alidadelaw17.TelemReads': WHATEVER THE INPUT: true; the input reads as it did. -/
def telemReadsSpec : ChangeSpec := { name := "telemReads", fn := fun _ => fun
  | [d] => { results := [.lit (.bool true)], args := [d] }
  | _ => none }
def telemReadsRow : OpenClaim := { program := "ytkdlliedpjnobaa", sum := "341ce6cdc999508800404898bcdaf1e7f0bfc45a6e9d72dc79666f00966ff036", func := "alidade/alidadelaw17.TelemReads", spec := "telemReads", named := ["math/bits.divideError", "math/bits.overflowError"], apart := false }
def TelemReadsSaid : Prop := telemReadsRow.holds Try.pinned (OpenSpec.ofChange telemReadsSpec)

/-- ITS FALSE NEIGHBOUR: 'it returns false'. Refute it at one input. -/
def telemReadsWrong : ChangeSpec := { name := "telemReads", fn := fun _ => fun
  | [d] => { results := [.lit (.bool false)], args := [d] }
  | _ => none }
def TelemReadsWrongFalsely : Prop := telemReadsRow.holds Try.pinned (OpenSpec.ofChange telemReadsWrong)

/-- 'alidadelaw16.OrdersWrite': WHATEVER THE INPUT: true; the input reads as it did. -/
def ordersWriteSpec : ChangeSpec := { name := "ordersWrite", fn := fun _ => fun
  | [d] => { results := [.lit (.bool true)], args := [d] }
  | _ => none }
def ordersWriteRow : OpenClaim := { program := "ytkdlliedpjnobaa", sum := "341ce6cdc999508800404898bcdaf1e7f0bfc45a6e9d72dc79666f00966ff036", func := "alidade/alidadelaw16.OrdersWrite", spec := "ordersWrite", named := ["math/bits.divideError", "math/bits.overflowError"], apart := false }
def OrdersWriteSaid : Prop := ordersWriteRow.holds Try.pinned (OpenSpec.ofChange ordersWriteSpec)

/-- ITS FALSE NEIGHBOUR: 'it returns false'. Refute it at one input. -/
def ordersWriteWrong : ChangeSpec := { name := "ordersWrite", fn := fun _ => fun
  | [d] => { results := [.lit (.bool false)], args := [d] }
  | _ => none }
def OrdersWriteWrongFalsely : Prop := ordersWriteRow.holds Try.pinned (OpenSpec.ofChange ordersWriteWrong)

/-- 'alidadelaw16.OrdersBack': WHATEVER THE INPUT: true; the input reads as it did. -/
def ordersBackSpec : ChangeSpec := { name := "ordersBack", fn := fun _ => fun
  | [d] => { results := [.lit (.bool true)], args := [d] }
  | _ => none }
def ordersBackRow : OpenClaim := { program := "ytkdlliedpjnobaa", sum := "341ce6cdc999508800404898bcdaf1e7f0bfc45a6e9d72dc79666f00966ff036", func := "alidade/alidadelaw16.OrdersBack", spec := "ordersBack", named := ["math/bits.divideError", "math/bits.overflowError"], apart := false }
def OrdersBackSaid : Prop := ordersBackRow.holds Try.pinned (OpenSpec.ofChange ordersBackSpec)

/-- ITS FALSE NEIGHBOUR: 'it returns false'. Refute it at one input. -/
def ordersBackWrong : ChangeSpec := { name := "ordersBack", fn := fun _ => fun
  | [d] => { results := [.lit (.bool false)], args := [d] }
  | _ => none }
def OrdersBackWrongFalsely : Prop := ordersBackRow.holds Try.pinned (OpenSpec.ofChange ordersBackWrong)

/-- 'alidadelaw12.SensorReads': WHATEVER THE INPUT: true; the input reads as it did. -/
def sensorReadsSpec : ChangeSpec := { name := "sensorReads", fn := fun _ => fun
  | [d] => { results := [.lit (.bool true)], args := [d] }
  | _ => none }
def sensorReadsRow : OpenClaim := { program := "ytkdlliedpjnobaa", sum := "341ce6cdc999508800404898bcdaf1e7f0bfc45a6e9d72dc79666f00966ff036", func := "alidade/alidadelaw12.SensorReads", spec := "sensorReads", inPlace := ["math/bits.Add64"], unfollowed := true, recurses := true, named := ["math/bits.divideError", "math/bits.overflowError"], apart := false }
def SensorReadsSaid : Prop := sensorReadsRow.holds Try.pinned (OpenSpec.ofChange sensorReadsSpec)

/-- ITS FALSE NEIGHBOUR: 'it returns false'. Refute it at one input. -/
def sensorReadsWrong : ChangeSpec := { name := "sensorReads", fn := fun _ => fun
  | [d] => { results := [.lit (.bool false)], args := [d] }
  | _ => none }
def SensorReadsWrongFalsely : Prop := sensorReadsRow.holds Try.pinned (OpenSpec.ofChange sensorReadsWrong)

/-- 'alidadelaw12.SensorWrites': WHATEVER THE INPUT: true; the input reads as it did. -/
def sensorWritesSpec : ChangeSpec := { name := "sensorWrites", fn := fun _ => fun
  | [d1, d2, d3] => { results := [.lit (.bool true)], args := [d1, d2, d3] }
  | _ => none }
def sensorWritesRow : OpenClaim := { program := "ytkdlliedpjnobaa", sum := "341ce6cdc999508800404898bcdaf1e7f0bfc45a6e9d72dc79666f00966ff036", func := "alidade/alidadelaw12.SensorWrites", spec := "sensorWrites", inPlace := ["math/bits.Add64"], unfollowed := true, recurses := true, named := ["math/bits.divideError", "math/bits.overflowError"], apart := false }
def SensorWritesSaid : Prop := sensorWritesRow.holds Try.pinned (OpenSpec.ofChange sensorWritesSpec)

/-- ITS FALSE NEIGHBOUR: 'it returns false'. Refute it at one input. -/
def sensorWritesWrong : ChangeSpec := { name := "sensorWrites", fn := fun _ => fun
  | [d1, d2, d3] => { results := [.lit (.bool false)], args := [d1, d2, d3] }
  | _ => none }
def SensorWritesWrongFalsely : Prop := sensorWritesRow.holds Try.pinned (OpenSpec.ofChange sensorWritesWrong)

/-- 'alidadelaw12.SensorFresh': WHATEVER THE INPUT: true; the input reads as it did. -/
def sensorFreshSpec : ChangeSpec := { name := "sensorFresh", fn := fun _ => fun
  | [d1, d2] => { results := [.lit (.bool true)], args := [d1, d2] }
  | _ => none }
def sensorFreshRow : OpenClaim := { program := "ytkdlliedpjnobaa", sum := "341ce6cdc999508800404898bcdaf1e7f0bfc45a6e9d72dc79666f00966ff036", func := "alidade/alidadelaw12.SensorFresh", spec := "sensorFresh", inPlace := ["math/bits.Add64"], unfollowed := true, recurses := true, named := ["math/bits.divideError", "math/bits.overflowError"], apart := false }
def SensorFreshSaid : Prop := sensorFreshRow.holds Try.pinned (OpenSpec.ofChange sensorFreshSpec)

/-- ITS FALSE NEIGHBOUR: 'it returns false'. Refute it at one input. -/
def sensorFreshWrong : ChangeSpec := { name := "sensorFresh", fn := fun _ => fun
  | [d1, d2] => { results := [.lit (.bool false)], args := [d1, d2] }
  | _ => none }
def SensorFreshWrongFalsely : Prop := sensorFreshRow.holds Try.pinned (OpenSpec.ofChange sensorFreshWrong)

/-- 'alidadelaw12.SensorBack': WHATEVER THE INPUT: true; the input reads as it did. -/
def sensorBackSpec : ChangeSpec := { name := "sensorBack", fn := fun _ => fun
  | [d1, d2, d3] => { results := [.lit (.bool true)], args := [d1, d2, d3] }
  | _ => none }
def sensorBackRow : OpenClaim := { program := "ytkdlliedpjnobaa", sum := "341ce6cdc999508800404898bcdaf1e7f0bfc45a6e9d72dc79666f00966ff036", func := "alidade/alidadelaw12.SensorBack", spec := "sensorBack", inPlace := ["math/bits.Add64"], unfollowed := true, recurses := true, named := ["math/bits.divideError", "math/bits.overflowError"], apart := false }
def SensorBackSaid : Prop := sensorBackRow.holds Try.pinned (OpenSpec.ofChange sensorBackSpec)

/-- ITS FALSE NEIGHBOUR: 'it returns false'. Refute it at one input. -/
def sensorBackWrong : ChangeSpec := { name := "sensorBack", fn := fun _ => fun
  | [d1, d2, d3] => { results := [.lit (.bool false)], args := [d1, d2, d3] }
  | _ => none }
def SensorBackWrongFalsely : Prop := sensorBackRow.holds Try.pinned (OpenSpec.ofChange sensorBackWrong)

/-- 'alidadelaw12.SensorLong': WHATEVER THE INPUT: true; the input reads as it did. -/
def sensorLongSpec : ChangeSpec := { name := "sensorLong", fn := fun _ => fun
  | [d] => { results := [.lit (.bool true)], args := [d] }
  | _ => none }
def sensorLongRow : OpenClaim := { program := "ytkdlliedpjnobaa", sum := "341ce6cdc999508800404898bcdaf1e7f0bfc45a6e9d72dc79666f00966ff036", func := "alidade/alidadelaw12.SensorLong", spec := "sensorLong", inPlace := ["math/bits.Add64"], unfollowed := true, recurses := true, named := ["math/bits.divideError", "math/bits.overflowError"], apart := false }
def SensorLongSaid : Prop := sensorLongRow.holds Try.pinned (OpenSpec.ofChange sensorLongSpec)

/-- ITS FALSE NEIGHBOUR: 'it returns false'. Refute it at one input. -/
def sensorLongWrong : ChangeSpec := { name := "sensorLong", fn := fun _ => fun
  | [d] => { results := [.lit (.bool false)], args := [d] }
  | _ => none }
def SensorLongWrongFalsely : Prop := sensorLongRow.holds Try.pinned (OpenSpec.ofChange sensorLongWrong)

/-- 'alidadelaw08.OrbitPlace': WHATEVER THE INPUT: true; the input reads as it did. -/
def orbitPlaceSpec : ChangeSpec := { name := "orbitPlace", fn := fun _ => fun
  | [d1, d2, d3] => { results := [.lit (.bool true)], args := [d1, d2, d3] }
  | _ => none }
def orbitPlaceRow : OpenClaim := { program := "ytkdlliedpjnobaa", sum := "341ce6cdc999508800404898bcdaf1e7f0bfc45a6e9d72dc79666f00966ff036", func := "alidade/alidadelaw08.OrbitPlace", spec := "orbitPlace", named := ["math/bits.divideError", "math/bits.overflowError"], apart := false }
def OrbitPlaceSaid : Prop := orbitPlaceRow.holds Try.pinned (OpenSpec.ofChange orbitPlaceSpec)

/-- ITS FALSE NEIGHBOUR: 'it returns false'. Refute it at one input. -/
def orbitPlaceWrong : ChangeSpec := { name := "orbitPlace", fn := fun _ => fun
  | [d1, d2, d3] => { results := [.lit (.bool false)], args := [d1, d2, d3] }
  | _ => none }
def OrbitPlaceWrongFalsely : Prop := orbitPlaceRow.holds Try.pinned (OpenSpec.ofChange orbitPlaceWrong)

/- THE SECOND FORM. 'bulk': how many values and letters a reading holds, each counted each time it is reached (what is shared counts as often as it is met; a slice's spare places count too). A statement '..UptoSaid' is the law's where the arguments, and the package variables that the reading takes, are together of bulk at most 1048576: NARROWER than '..Said'. Prove '..Said' where nothing that the law and all that it calls make is longer than what came in: it says more and counts as full. Else prove '..UptoSaid'. A law counts once. -/
mutual
def uptoBulk {H : Type} : DataW H → Nat
  | .lit (.string bytes) => bytes.length + 1
  | .lit _ => 1
  | .nil => 1
  | .ptr d => uptoBulk d + 1
  | .slice elems spare => uptoBulkAll elems + uptoBulkAll spare + 1
  | .agg parts => uptoBulkAll parts + 1
  | .iface _ d => uptoBulk d + 1
  | .map entries => uptoBulkEntries entries + 1
  | .held _ => 1
def uptoBulkAll {H : Type} : List (DataW H) → Nat
  | [] => 0
  | d :: r => uptoBulk d + uptoBulkAll r
def uptoBulkEntries {H : Type} : List (Lit × DataW H) → Nat
  | [] => 0
  | x :: r => uptoBulkEntry x + uptoBulkEntries r
def uptoBulkEntry {H : Type} : Lit × DataW H → Nat
  | (.string bytes, d) => bytes.length + uptoBulk d + 1
  | (_, d) => uptoBulk d + 1
 end
def uptoSmall : (H : Type) → List (DataW H) → Bool := fun _ ds => decide (uptoBulkAll ds ≤ 1048576)
def OpenSpec.upto (s : _root_.Go.ChangeSpec) : _root_.Go.OpenSpec := { _root_.Go.OpenSpec.ofChange s with cond := some uptoSmall }

/-- 'alidadelaw17.TelemCounts', WHERE WHAT IT READS IS OF BULK AT MOST 1048576: true; the input reads as it did. -/
def telemCountsUptoRow : OpenClaim := { program := "ytkdlliedpjnobaa", sum := "341ce6cdc999508800404898bcdaf1e7f0bfc45a6e9d72dc79666f00966ff036", func := "alidade/alidadelaw17.TelemCounts", spec := "telemCounts", named := ["math/bits.divideError", "math/bits.overflowError"], apart := false, narrowed := true }
def TelemCountsUptoSaid : Prop := telemCountsUptoRow.holds Try.pinned (OpenSpec.upto telemCountsSpec)

/-- 'alidadelaw17.TelemWrites', WHERE WHAT IT READS IS OF BULK AT MOST 1048576: true; the input reads as it did. -/
def telemWritesUptoRow : OpenClaim := { program := "ytkdlliedpjnobaa", sum := "341ce6cdc999508800404898bcdaf1e7f0bfc45a6e9d72dc79666f00966ff036", func := "alidade/alidadelaw17.TelemWrites", spec := "telemWrites", named := ["math/bits.divideError", "math/bits.overflowError"], apart := false, narrowed := true }
def TelemWritesUptoSaid : Prop := telemWritesUptoRow.holds Try.pinned (OpenSpec.upto telemWritesSpec)

/-- 'alidadelaw17.TelemReads', WHERE WHAT IT READS IS OF BULK AT MOST 1048576: true; the input reads as it did. -/
def telemReadsUptoRow : OpenClaim := { program := "ytkdlliedpjnobaa", sum := "341ce6cdc999508800404898bcdaf1e7f0bfc45a6e9d72dc79666f00966ff036", func := "alidade/alidadelaw17.TelemReads", spec := "telemReads", named := ["math/bits.divideError", "math/bits.overflowError"], apart := false, narrowed := true }
def TelemReadsUptoSaid : Prop := telemReadsUptoRow.holds Try.pinned (OpenSpec.upto telemReadsSpec)

/-- 'alidadelaw16.OrdersWrite', WHERE WHAT IT READS IS OF BULK AT MOST 1048576: true; the input reads as it did. -/
def ordersWriteUptoRow : OpenClaim := { program := "ytkdlliedpjnobaa", sum := "341ce6cdc999508800404898bcdaf1e7f0bfc45a6e9d72dc79666f00966ff036", func := "alidade/alidadelaw16.OrdersWrite", spec := "ordersWrite", named := ["math/bits.divideError", "math/bits.overflowError"], apart := false, narrowed := true }
def OrdersWriteUptoSaid : Prop := ordersWriteUptoRow.holds Try.pinned (OpenSpec.upto ordersWriteSpec)

/-- 'alidadelaw16.OrdersBack', WHERE WHAT IT READS IS OF BULK AT MOST 1048576: true; the input reads as it did. -/
def ordersBackUptoRow : OpenClaim := { program := "ytkdlliedpjnobaa", sum := "341ce6cdc999508800404898bcdaf1e7f0bfc45a6e9d72dc79666f00966ff036", func := "alidade/alidadelaw16.OrdersBack", spec := "ordersBack", named := ["math/bits.divideError", "math/bits.overflowError"], apart := false, narrowed := true }
def OrdersBackUptoSaid : Prop := ordersBackUptoRow.holds Try.pinned (OpenSpec.upto ordersBackSpec)

/-- 'alidadelaw12.SensorReads', WHERE WHAT IT READS IS OF BULK AT MOST 1048576: true; the input reads as it did. -/
def sensorReadsUptoRow : OpenClaim := { program := "ytkdlliedpjnobaa", sum := "341ce6cdc999508800404898bcdaf1e7f0bfc45a6e9d72dc79666f00966ff036", func := "alidade/alidadelaw12.SensorReads", spec := "sensorReads", inPlace := ["math/bits.Add64"], unfollowed := true, recurses := true, named := ["math/bits.divideError", "math/bits.overflowError"], apart := false, narrowed := true }
def SensorReadsUptoSaid : Prop := sensorReadsUptoRow.holds Try.pinned (OpenSpec.upto sensorReadsSpec)

/-- 'alidadelaw12.SensorWrites', WHERE WHAT IT READS IS OF BULK AT MOST 1048576: true; the input reads as it did. -/
def sensorWritesUptoRow : OpenClaim := { program := "ytkdlliedpjnobaa", sum := "341ce6cdc999508800404898bcdaf1e7f0bfc45a6e9d72dc79666f00966ff036", func := "alidade/alidadelaw12.SensorWrites", spec := "sensorWrites", inPlace := ["math/bits.Add64"], unfollowed := true, recurses := true, named := ["math/bits.divideError", "math/bits.overflowError"], apart := false, narrowed := true }
def SensorWritesUptoSaid : Prop := sensorWritesUptoRow.holds Try.pinned (OpenSpec.upto sensorWritesSpec)

/-- 'alidadelaw12.SensorFresh', WHERE WHAT IT READS IS OF BULK AT MOST 1048576: true; the input reads as it did. -/
def sensorFreshUptoRow : OpenClaim := { program := "ytkdlliedpjnobaa", sum := "341ce6cdc999508800404898bcdaf1e7f0bfc45a6e9d72dc79666f00966ff036", func := "alidade/alidadelaw12.SensorFresh", spec := "sensorFresh", inPlace := ["math/bits.Add64"], unfollowed := true, recurses := true, named := ["math/bits.divideError", "math/bits.overflowError"], apart := false, narrowed := true }
def SensorFreshUptoSaid : Prop := sensorFreshUptoRow.holds Try.pinned (OpenSpec.upto sensorFreshSpec)

/-- 'alidadelaw12.SensorBack', WHERE WHAT IT READS IS OF BULK AT MOST 1048576: true; the input reads as it did. -/
def sensorBackUptoRow : OpenClaim := { program := "ytkdlliedpjnobaa", sum := "341ce6cdc999508800404898bcdaf1e7f0bfc45a6e9d72dc79666f00966ff036", func := "alidade/alidadelaw12.SensorBack", spec := "sensorBack", inPlace := ["math/bits.Add64"], unfollowed := true, recurses := true, named := ["math/bits.divideError", "math/bits.overflowError"], apart := false, narrowed := true }
def SensorBackUptoSaid : Prop := sensorBackUptoRow.holds Try.pinned (OpenSpec.upto sensorBackSpec)

/-- 'alidadelaw12.SensorLong', WHERE WHAT IT READS IS OF BULK AT MOST 1048576: true; the input reads as it did. -/
def sensorLongUptoRow : OpenClaim := { program := "ytkdlliedpjnobaa", sum := "341ce6cdc999508800404898bcdaf1e7f0bfc45a6e9d72dc79666f00966ff036", func := "alidade/alidadelaw12.SensorLong", spec := "sensorLong", inPlace := ["math/bits.Add64"], unfollowed := true, recurses := true, named := ["math/bits.divideError", "math/bits.overflowError"], apart := false, narrowed := true }
def SensorLongUptoSaid : Prop := sensorLongUptoRow.holds Try.pinned (OpenSpec.upto sensorLongSpec)

/-- 'alidadelaw08.OrbitPlace', WHERE WHAT IT READS IS OF BULK AT MOST 1048576: true; the input reads as it did. -/
def orbitPlaceUptoRow : OpenClaim := { program := "ytkdlliedpjnobaa", sum := "341ce6cdc999508800404898bcdaf1e7f0bfc45a6e9d72dc79666f00966ff036", func := "alidade/alidadelaw08.OrbitPlace", spec := "orbitPlace", named := ["math/bits.divideError", "math/bits.overflowError"], apart := false, narrowed := true }
def OrbitPlaceUptoSaid : Prop := orbitPlaceUptoRow.holds Try.pinned (OpenSpec.upto orbitPlaceSpec)

end Rows
end Go.Proofs.Ytkdlliedpjnobaa
