/-
  No cell of these rows narrows 'for every input' (looked for: loops, veiled, ifaces, maps, wideKeys, modest, calm, conditions, laid).
  DERIVED. THE GIVEN ROWS OF THIS SEAT. 3 by the template 'for every input the law returns true; each argument reads behind the call as it read before'; 0 by the template 'total and deterministic' (their statements: YtdojnnlhaiennaaGreatTotals.lean).
  GIVEN WITH THE SEED: the statements are not yours to turn. If you find one false, say at which input.
  Laid BY PROGRAM, IN A SANDBOX (cutbox-rows.mjs): the forced cells as the released guide's own fill.sh prints them over the translation 816ef41bd0d7602b… (all of the seat's roots in one cut). By AI agents, Wed Nov 11 2026. No macro, syntax, notation, axiom, sorry.
-/
import Derived.Test.YtdojnnlhaiennaaGreatChecked
import GoSem.Claim
import GoSem.ClaimJoined
import GoSem.ClaimMapViews
import Derived.JoinedTies
import Derived.KernelRfl
namespace Go.Proofs.YtdojnnlhaiennaaGreat
/- THE CELL 'sum', in the pinned program and in every row, IS THE sha256 OF THE DUMP (.gsa) THAT YtdojnnlhaiennaaGreatProg.lean LOADS. Nothing in Lean hashes anything: it is a label: what it is worth is what the hold of that sum in a sandbox is worth. -/
noncomputable def Tryz.pinned : Pinned := { name := "ytdojnnlhaiennaagreat", sum := "816ef41bd0d7602b7aa5c61172743867c94ecce9d1d4d8cbd74d95cfd4208fe7", checked := Tryz.checked }
namespace Rows
def none {H : Type} : Left H := { results := [], args := [] }

/-- 'alidadetop.WholeOrders': WHATEVER THE INPUT: true; the input reads as it did. -/
def wholeOrdersSpec : ChangeSpec := { name := "wholeOrders", fn := fun _ => fun
  | [d] => { results := [.lit (.bool true)], args := [d] }
  | _ => none }
def wholeOrdersRow : OpenClaim := { program := "ytdojnnlhaiennaagreat", sum := "816ef41bd0d7602b7aa5c61172743867c94ecce9d1d4d8cbd74d95cfd4208fe7", func := "alidade/alidadetop.WholeOrders", spec := "wholeOrders", inPlace := ["internal/bytealg.IndexByteString", "math/bits.Add64"], unfollowed := true, recurses := true, named := ["math/bits.divideError", "math/bits.overflowError"], plainKeys := false, apart := false }
def WholeOrdersSaid : Prop := wholeOrdersRow.holds Tryz.pinned (OpenSpec.ofChange wholeOrdersSpec)

/-- ITS FALSE NEIGHBOUR: 'it returns false'. Refute it at one input. -/
def wholeOrdersWrong : ChangeSpec := { name := "wholeOrders", fn := fun _ => fun
  | [d] => { results := [.lit (.bool false)], args := [d] }
  | _ => none }
def WholeOrdersWrongFalsely : Prop := wholeOrdersRow.holds Tryz.pinned (OpenSpec.ofChange wholeOrdersWrong)

/-- 'alidadetop.WholeSpoilt': WHATEVER THE INPUT: true; the input reads as it did. -/
def wholeSpoiltSpec : ChangeSpec := { name := "wholeSpoilt", fn := fun _ => fun
  | [d1, d2, d3] => { results := [.lit (.bool true)], args := [d1, d2, d3] }
  | _ => none }
def wholeSpoiltRow : OpenClaim := { program := "ytdojnnlhaiennaagreat", sum := "816ef41bd0d7602b7aa5c61172743867c94ecce9d1d4d8cbd74d95cfd4208fe7", func := "alidade/alidadetop.WholeSpoilt", spec := "wholeSpoilt", inPlace := ["internal/bytealg.IndexByteString", "math/bits.Add64"], unfollowed := true, recurses := true, named := ["math/bits.divideError", "math/bits.overflowError"], plainKeys := false, apart := false }
def WholeSpoiltSaid : Prop := wholeSpoiltRow.holds Tryz.pinned (OpenSpec.ofChange wholeSpoiltSpec)

/-- ITS FALSE NEIGHBOUR: 'it returns false'. Refute it at one input. -/
def wholeSpoiltWrong : ChangeSpec := { name := "wholeSpoilt", fn := fun _ => fun
  | [d1, d2, d3] => { results := [.lit (.bool false)], args := [d1, d2, d3] }
  | _ => none }
def WholeSpoiltWrongFalsely : Prop := wholeSpoiltRow.holds Tryz.pinned (OpenSpec.ofChange wholeSpoiltWrong)

/-- 'alidadetop.WholeTurns': WHATEVER THE INPUT: true; the input reads as it did. -/
def wholeTurnsSpec : ChangeSpec := { name := "wholeTurns", fn := fun _ => fun
  | [d1, d2, d3] => { results := [.lit (.bool true)], args := [d1, d2, d3] }
  | _ => none }
def wholeTurnsRow : OpenClaim := { program := "ytdojnnlhaiennaagreat", sum := "816ef41bd0d7602b7aa5c61172743867c94ecce9d1d4d8cbd74d95cfd4208fe7", func := "alidade/alidadetop.WholeTurns", spec := "wholeTurns", inPlace := ["internal/bytealg.IndexByteString", "math/bits.Add64"], unfollowed := true, recurses := true, named := ["math/bits.divideError", "math/bits.overflowError"], plainKeys := false, apart := false }
def WholeTurnsSaid : Prop := wholeTurnsRow.holds Tryz.pinned (OpenSpec.ofChange wholeTurnsSpec)

/-- ITS FALSE NEIGHBOUR: 'it returns false'. Refute it at one input. -/
def wholeTurnsWrong : ChangeSpec := { name := "wholeTurns", fn := fun _ => fun
  | [d1, d2, d3] => { results := [.lit (.bool false)], args := [d1, d2, d3] }
  | _ => none }
def WholeTurnsWrongFalsely : Prop := wholeTurnsRow.holds Tryz.pinned (OpenSpec.ofChange wholeTurnsWrong)

/- THE SECOND FORM. 'bulk': how many values and letters a reading holds, each counted each time it is reached (what is shared counts as often as it is met; a slice's spare places count too). A statement '..UptoSaid' is the law's where the arguments, and the package variables that the reading takes, are together of bulk at most 1048576: NARROWER than '..Said'. Prove '..Said' where nothing that the law and all that it calls make is longer than what came in: it says more and counts as full. Else prove '..UptoSaid'. A law counts once. -/
mutual
def uptoBulk {H : Type} : DataW H → Nat
  | .lit (.string bytes) => bytes.length + 1
  | .lit _ => 1
  | .nil => 1
  | .ptr d => uptoBulk d + 1
  | .slice elems spare => uptoBulkAll elems + uptoBulkAll spare + 1
  | .agg parts => uptoBulkAll parts + 1
  | .iface _ d => uptoBulk d + 1
  | .map entries => uptoBulkEntries entries + 1
  | .held _ => 1
def uptoBulkAll {H : Type} : List (DataW H) → Nat
  | [] => 0
  | d :: r => uptoBulk d + uptoBulkAll r
def uptoBulkEntries {H : Type} : List (Lit × DataW H) → Nat
  | [] => 0
  | x :: r => uptoBulkEntry x + uptoBulkEntries r
def uptoBulkEntry {H : Type} : Lit × DataW H → Nat
  | (.string bytes, d) => bytes.length + uptoBulk d + 1
  | (_, d) => uptoBulk d + 1
 end
def uptoSmall : (H : Type) → List (DataW H) → Bool := fun _ ds => decide (uptoBulkAll ds ≤ 1048576)
def OpenSpec.upto (s : _root_.Go.ChangeSpec) : _root_.Go.OpenSpec := { _root_.Go.OpenSpec.ofChange s with cond := some uptoSmall }

/-- 'alidadetop.WholeOrders', WHERE WHAT IT READS IS OF BULK AT MOST 1048576: true; the input reads as it did. -/
def wholeOrdersUptoRow : OpenClaim := { program := "ytdojnnlhaiennaagreat", sum := "816ef41bd0d7602b7aa5c61172743867c94ecce9d1d4d8cbd74d95cfd4208fe7", func := "alidade/alidadetop.WholeOrders", spec := "wholeOrders", inPlace := ["internal/bytealg.IndexByteString", "math/bits.Add64"], unfollowed := true, recurses := true, named := ["math/bits.divideError", "math/bits.overflowError"], plainKeys := false, apart := false, narrowed := true }
def WholeOrdersUptoSaid : Prop := wholeOrdersUptoRow.holds Tryz.pinned (OpenSpec.upto wholeOrdersSpec)

/-- 'alidadetop.WholeSpoilt', WHERE WHAT IT READS IS OF BULK AT MOST 1048576: true; the input reads as it did. -/
def wholeSpoiltUptoRow : OpenClaim := { program := "ytdojnnlhaiennaagreat", sum := "816ef41bd0d7602b7aa5c61172743867c94ecce9d1d4d8cbd74d95cfd4208fe7", func := "alidade/alidadetop.WholeSpoilt", spec := "wholeSpoilt", inPlace := ["internal/bytealg.IndexByteString", "math/bits.Add64"], unfollowed := true, recurses := true, named := ["math/bits.divideError", "math/bits.overflowError"], plainKeys := false, apart := false, narrowed := true }
def WholeSpoiltUptoSaid : Prop := wholeSpoiltUptoRow.holds Tryz.pinned (OpenSpec.upto wholeSpoiltSpec)

/-- 'alidadetop.WholeTurns', WHERE WHAT IT READS IS OF BULK AT MOST 1048576: true; the input reads as it did. -/
def wholeTurnsUptoRow : OpenClaim := { program := "ytdojnnlhaiennaagreat", sum := "816ef41bd0d7602b7aa5c61172743867c94ecce9d1d4d8cbd74d95cfd4208fe7", func := "alidade/alidadetop.WholeTurns", spec := "wholeTurns", inPlace := ["internal/bytealg.IndexByteString", "math/bits.Add64"], unfollowed := true, recurses := true, named := ["math/bits.divideError", "math/bits.overflowError"], plainKeys := false, apart := false, narrowed := true }
def WholeTurnsUptoSaid : Prop := wholeTurnsUptoRow.holds Tryz.pinned (OpenSpec.upto wholeTurnsSpec)

end Rows
end Go.Proofs.YtdojnnlhaiennaaGreat
