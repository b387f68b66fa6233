/-
  No cell of these rows narrows 'for every input' (looked for: loops, veiled, ifaces, maps, wideKeys, modest, calm, conditions, laid).
  DERIVED. THE GIVEN ROWS OF THIS SEAT. 5 by the template 'for every input the law returns true; each argument reads behind the call as it read before'; 0 by the template 'total and deterministic' (their statements: YtcagaaaibhifdaaTotals.lean).
  GIVEN WITH THE SEED: the statements are not yours to turn. If you find one false, say at which input.
  Laid BY PROGRAM, IN A SANDBOX (cutbox-rows.mjs): the forced cells as the released guide's own fill.sh prints them over the translation 18d41fdd2767f6cb… (all of the seat's roots in one cut). By AI agents, Wed Nov 11 2026. No macro, syntax, notation, axiom, sorry.
-/
import Derived.Test.YtcagaaaibhifdaaChecked
import GoSem.Claim
import GoSem.ClaimJoined
import GoSem.ClaimMapViews
import Derived.JoinedTies
import Derived.KernelRfl
namespace Go.Proofs.Ytcagaaaibhifdaa
/- THE CELL 'sum', in the pinned program and in every row, IS THE sha256 OF THE DUMP (.gsa) THAT YtcagaaaibhifdaaProg.lean LOADS. Nothing in Lean hashes anything: it is a label: what it is worth is what the hold of that sum in a sandbox is worth. -/
noncomputable def Try.pinned : Pinned := { name := "ytcagaaaibhifdaa", sum := "18d41fdd2767f6cbeed12429eb304149039eb5e8e9e079bd6ff29d4f8859443b", checked := Try.checked }
namespace Rows
def none {H : Type} : Left H := { results := [], args := [] }

/-- 'alidadelaw10.FieldNumbers': WHATEVER THE INPUT: true; the input reads as it did. -/
def fieldNumbersSpec : ChangeSpec := { name := "fieldNumbers", fn := fun _ => fun
  | [d1, d2, d3] => { results := [.lit (.bool true)], args := [d1, d2, d3] }
  | _ => none }
def fieldNumbersRow : OpenClaim := { program := "ytcagaaaibhifdaa", sum := "18d41fdd2767f6cbeed12429eb304149039eb5e8e9e079bd6ff29d4f8859443b", func := "alidade/alidadelaw10.FieldNumbers", spec := "fieldNumbers", inPlace := ["math/bits.Add64"], unfollowed := true, recurses := true, named := ["math/bits.divideError", "math/bits.overflowError"], plainKeys := false, apart := false }
def FieldNumbersSaid : Prop := fieldNumbersRow.holds Try.pinned (OpenSpec.ofChange fieldNumbersSpec)

/-- ITS FALSE NEIGHBOUR: 'it returns false'. Refute it at one input. -/
def fieldNumbersWrong : ChangeSpec := { name := "fieldNumbers", fn := fun _ => fun
  | [d1, d2, d3] => { results := [.lit (.bool false)], args := [d1, d2, d3] }
  | _ => none }
def FieldNumbersWrongFalsely : Prop := fieldNumbersRow.holds Try.pinned (OpenSpec.ofChange fieldNumbersWrong)

/-- 'alidadelaw10.FieldEarth': WHATEVER THE INPUT: true; the input reads as it did. -/
def fieldEarthSpec : ChangeSpec := { name := "fieldEarth", fn := fun _ => fun
  | [d1, d2, d3] => { results := [.lit (.bool true)], args := [d1, d2, d3] }
  | _ => none }
def fieldEarthRow : OpenClaim := { program := "ytcagaaaibhifdaa", sum := "18d41fdd2767f6cbeed12429eb304149039eb5e8e9e079bd6ff29d4f8859443b", func := "alidade/alidadelaw10.FieldEarth", spec := "fieldEarth", inPlace := ["math/bits.Add64"], unfollowed := true, recurses := true, named := ["math/bits.divideError", "math/bits.overflowError"], plainKeys := false, apart := false }
def FieldEarthSaid : Prop := fieldEarthRow.holds Try.pinned (OpenSpec.ofChange fieldEarthSpec)

/-- ITS FALSE NEIGHBOUR: 'it returns false'. Refute it at one input. -/
def fieldEarthWrong : ChangeSpec := { name := "fieldEarth", fn := fun _ => fun
  | [d1, d2, d3] => { results := [.lit (.bool false)], args := [d1, d2, d3] }
  | _ => none }
def FieldEarthWrongFalsely : Prop := fieldEarthRow.holds Try.pinned (OpenSpec.ofChange fieldEarthWrong)

/-- 'alidadelaw10.FieldPole': WHATEVER THE INPUT: true; the input reads as it did. -/
def fieldPoleSpec : ChangeSpec := { name := "fieldPole", fn := fun _ => fun
  | [d1, d2] => { results := [.lit (.bool true)], args := [d1, d2] }
  | _ => none }
def fieldPoleRow : OpenClaim := { program := "ytcagaaaibhifdaa", sum := "18d41fdd2767f6cbeed12429eb304149039eb5e8e9e079bd6ff29d4f8859443b", func := "alidade/alidadelaw10.FieldPole", spec := "fieldPole", inPlace := ["math/bits.Add64"], unfollowed := true, recurses := true, named := ["math/bits.divideError", "math/bits.overflowError"], plainKeys := false, apart := false }
def FieldPoleSaid : Prop := fieldPoleRow.holds Try.pinned (OpenSpec.ofChange fieldPoleSpec)

/-- ITS FALSE NEIGHBOUR: 'it returns false'. Refute it at one input. -/
def fieldPoleWrong : ChangeSpec := { name := "fieldPole", fn := fun _ => fun
  | [d1, d2] => { results := [.lit (.bool false)], args := [d1, d2] }
  | _ => none }
def FieldPoleWrongFalsely : Prop := fieldPoleRow.holds Try.pinned (OpenSpec.ofChange fieldPoleWrong)

/-- 'alidadelaw10.FieldSky': WHATEVER THE INPUT: true; the input reads as it did. -/
def fieldSkySpec : ChangeSpec := { name := "fieldSky", fn := fun _ => fun
  | [d1, d2, d3] => { results := [.lit (.bool true)], args := [d1, d2, d3] }
  | _ => none }
def fieldSkyRow : OpenClaim := { program := "ytcagaaaibhifdaa", sum := "18d41fdd2767f6cbeed12429eb304149039eb5e8e9e079bd6ff29d4f8859443b", func := "alidade/alidadelaw10.FieldSky", spec := "fieldSky", inPlace := ["math/bits.Add64"], unfollowed := true, recurses := true, named := ["math/bits.divideError", "math/bits.overflowError"], plainKeys := false, apart := false }
def FieldSkySaid : Prop := fieldSkyRow.holds Try.pinned (OpenSpec.ofChange fieldSkySpec)

/-- ITS FALSE NEIGHBOUR: 'it returns false'. Refute it at one input. -/
def fieldSkyWrong : ChangeSpec := { name := "fieldSky", fn := fun _ => fun
  | [d1, d2, d3] => { results := [.lit (.bool false)], args := [d1, d2, d3] }
  | _ => none }
def FieldSkyWrongFalsely : Prop := fieldSkyRow.holds Try.pinned (OpenSpec.ofChange fieldSkyWrong)

/-- 'alidadelaw10.FieldThere': WHATEVER THE INPUT: true; the input reads as it did. -/
def fieldThereSpec : ChangeSpec := { name := "fieldThere", fn := fun _ => fun
  | [d1, d2] => { results := [.lit (.bool true)], args := [d1, d2] }
  | _ => none }
def fieldThereRow : OpenClaim := { program := "ytcagaaaibhifdaa", sum := "18d41fdd2767f6cbeed12429eb304149039eb5e8e9e079bd6ff29d4f8859443b", func := "alidade/alidadelaw10.FieldThere", spec := "fieldThere", inPlace := ["math/bits.Add64"], unfollowed := true, recurses := true, named := ["math/bits.divideError", "math/bits.overflowError"], plainKeys := false, apart := false }
def FieldThereSaid : Prop := fieldThereRow.holds Try.pinned (OpenSpec.ofChange fieldThereSpec)

/-- ITS FALSE NEIGHBOUR: 'it returns false'. Refute it at one input. -/
def fieldThereWrong : ChangeSpec := { name := "fieldThere", fn := fun _ => fun
  | [d1, d2] => { results := [.lit (.bool false)], args := [d1, d2] }
  | _ => none }
def FieldThereWrongFalsely : Prop := fieldThereRow.holds Try.pinned (OpenSpec.ofChange fieldThereWrong)

/- THE SECOND FORM. 'bulk': how many values and letters a reading holds, each counted each time it is reached (what is shared counts as often as it is met; a slice's spare places count too). A statement '..UptoSaid' is the law's where the arguments, and the package variables that the reading takes, are together of bulk at most 1048576: NARROWER than '..Said'. Prove '..Said' where nothing that the law and all that it calls make is longer than what came in: it says more and counts as full. Else prove '..UptoSaid'. A law counts once. -/
mutual
def uptoBulk {H : Type} : DataW H → Nat
  | .lit (.string bytes) => bytes.length + 1
  | .lit _ => 1
  | .nil => 1
  | .ptr d => uptoBulk d + 1
  | .slice elems spare => uptoBulkAll elems + uptoBulkAll spare + 1
  | .agg parts => uptoBulkAll parts + 1
  | .iface _ d => uptoBulk d + 1
  | .map entries => uptoBulkEntries entries + 1
  | .held _ => 1
def uptoBulkAll {H : Type} : List (DataW H) → Nat
  | [] => 0
  | d :: r => uptoBulk d + uptoBulkAll r
def uptoBulkEntries {H : Type} : List (Lit × DataW H) → Nat
  | [] => 0
  | x :: r => uptoBulkEntry x + uptoBulkEntries r
def uptoBulkEntry {H : Type} : Lit × DataW H → Nat
  | (.string bytes, d) => bytes.length + uptoBulk d + 1
  | (_, d) => uptoBulk d + 1
 end
def uptoSmall : (H : Type) → List (DataW H) → Bool := fun _ ds => decide (uptoBulkAll ds ≤ 1048576)
def OpenSpec.upto (s : _root_.Go.ChangeSpec) : _root_.Go.OpenSpec := { _root_.Go.OpenSpec.ofChange s with cond := some uptoSmall }

/-- 'alidadelaw10.FieldNumbers', WHERE WHAT IT READS IS OF BULK AT MOST 1048576: true; the input reads as it did. -/
def fieldNumbersUptoRow : OpenClaim := { program := "ytcagaaaibhifdaa", sum := "18d41fdd2767f6cbeed12429eb304149039eb5e8e9e079bd6ff29d4f8859443b", func := "alidade/alidadelaw10.FieldNumbers", spec := "fieldNumbers", inPlace := ["math/bits.Add64"], unfollowed := true, recurses := true, named := ["math/bits.divideError", "math/bits.overflowError"], plainKeys := false, apart := false, narrowed := true }
def FieldNumbersUptoSaid : Prop := fieldNumbersUptoRow.holds Try.pinned (OpenSpec.upto fieldNumbersSpec)

/-- 'alidadelaw10.FieldEarth', WHERE WHAT IT READS IS OF BULK AT MOST 1048576: true; the input reads as it did. -/
def fieldEarthUptoRow : OpenClaim := { program := "ytcagaaaibhifdaa", sum := "18d41fdd2767f6cbeed12429eb304149039eb5e8e9e079bd6ff29d4f8859443b", func := "alidade/alidadelaw10.FieldEarth", spec := "fieldEarth", inPlace := ["math/bits.Add64"], unfollowed := true, recurses := true, named := ["math/bits.divideError", "math/bits.overflowError"], plainKeys := false, apart := false, narrowed := true }
def FieldEarthUptoSaid : Prop := fieldEarthUptoRow.holds Try.pinned (OpenSpec.upto fieldEarthSpec)

/-- 'alidadelaw10.FieldPole', WHERE WHAT IT READS IS OF BULK AT MOST 1048576: true; the input reads as it did. -/
def fieldPoleUptoRow : OpenClaim := { program := "ytcagaaaibhifdaa", sum := "18d41fdd2767f6cbeed12429eb304149039eb5e8e9e079bd6ff29d4f8859443b", func := "alidade/alidadelaw10.FieldPole", spec := "fieldPole", inPlace := ["math/bits.Add64"], unfollowed := true, recurses := true, named := ["math/bits.divideError", "math/bits.overflowError"], plainKeys := false, apart := false, narrowed := true }
def FieldPoleUptoSaid : Prop := fieldPoleUptoRow.holds Try.pinned (OpenSpec.upto fieldPoleSpec)

/-- 'alidadelaw10.FieldSky', WHERE WHAT IT READS IS OF BULK AT MOST 1048576: true; the input reads as it did. -/
def fieldSkyUptoRow : OpenClaim := { program := "ytcagaaaibhifdaa", sum := "18d41fdd2767f6cbeed12429eb304149039eb5e8e9e079bd6ff29d4f8859443b", func := "alidade/alidadelaw10.FieldSky", spec := "fieldSky", inPlace := ["math/bits.Add64"], unfollowed := true, recurses := true, named := ["math/bits.divideError", "math/bits.overflowError"], plainKeys := false, apart := false, narrowed := true }
def FieldSkyUptoSaid : Prop := fieldSkyUptoRow.holds Try.pinned (OpenSpec.upto fieldSkySpec)

/-- 'alidadelaw10.FieldThere', WHERE WHAT IT READS IS OF BULK AT MOST 1048576: true; the input reads as it did. -/
def fieldThereUptoRow : OpenClaim := { program := "ytcagaaaibhifdaa", sum := "18d41fdd2767f6cbeed12429eb304149039eb5e8e9e079bd6ff29d4f8859443b", func := "alidade/alidadelaw10.FieldThere", spec := "fieldThere", inPlace := ["math/bits.Add64"], unfollowed := true, recurses := true, named := ["math/bits.divideError", "math/bits.overflowError"], plainKeys := false, apart := false, narrowed := true }
def FieldThereUptoSaid : Prop := fieldThereUptoRow.holds Try.pinned (OpenSpec.upto fieldThereSpec)

end Rows
end Go.Proofs.Ytcagaaaibhifdaa
