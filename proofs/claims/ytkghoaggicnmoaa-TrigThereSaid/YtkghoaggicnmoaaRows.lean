/-
  No cell of these rows narrows 'for every input' (looked for: loops, veiled, ifaces, maps, wideKeys, modest, calm, conditions, laid).
  DERIVED. THE GIVEN ROWS OF THIS SEAT. 16 by the template 'for every input the law returns true; each argument reads behind the call as it read before'; 0 by the template 'total and deterministic' (their statements: YtkghoaggicnmoaaTotals.lean).
  GIVEN WITH THE SEED: the statements are not yours to turn. If you find one false, say at which input.
  Laid BY PROGRAM, IN A SANDBOX (cutbox-rows.mjs): the forced cells as the released guide's own fill.sh prints them over the translation 24ceeb40d1d7b365… (all of the seat's roots in one cut). By AI agents, Wed Nov 11 2026. No macro, syntax, notation, axiom, sorry.
-/
import Derived.Test.YtkghoaggicnmoaaChecked
import GoSem.Claim
import GoSem.ClaimJoined
import GoSem.ClaimMapViews
import Derived.JoinedTies
import Derived.KernelRfl
namespace Go.Proofs.Ytkghoaggicnmoaa
/- THE CELL 'sum', in the pinned program and in every row, IS THE sha256 OF THE DUMP (.gsa) THAT YtkghoaggicnmoaaProg.lean LOADS. Nothing in Lean hashes anything: it is a label: what it is worth is what the hold of that sum in a sandbox is worth. -/
noncomputable def Try.pinned : Pinned := { name := "ytkghoaggicnmoaa", sum := "24ceeb40d1d7b365e4ecd527d2915d6c6cb1686a913050808cfe660451f7861a", checked := Try.checked }
namespace Rows
def none {H : Type} : Left H := { results := [], args := [] }

/-- 'alidadelaw01.FixedProducts': WHATEVER THE INPUT: true; the input reads as it did. -/
def fixedProductsSpec : ChangeSpec := { name := "fixedProducts", fn := fun _ => fun
  | [d1, d2, d3] => { results := [.lit (.bool true)], args := [d1, d2, d3] }
  | _ => none }
def fixedProductsRow : OpenClaim := { program := "ytkghoaggicnmoaa", sum := "24ceeb40d1d7b365e4ecd527d2915d6c6cb1686a913050808cfe660451f7861a", func := "alidade/alidadelaw01.FixedProducts", spec := "fixedProducts", named := ["math/bits.divideError", "math/bits.overflowError"], apart := false }
def FixedProductsSaid : Prop := fixedProductsRow.holds Try.pinned (OpenSpec.ofChange fixedProductsSpec)

/-- ITS FALSE NEIGHBOUR: 'it returns false'. Refute it at one input. -/
def fixedProductsWrong : ChangeSpec := { name := "fixedProducts", fn := fun _ => fun
  | [d1, d2, d3] => { results := [.lit (.bool false)], args := [d1, d2, d3] }
  | _ => none }
def FixedProductsWrongFalsely : Prop := fixedProductsRow.holds Try.pinned (OpenSpec.ofChange fixedProductsWrong)

/-- 'alidadelaw01.FixedQuotients': WHATEVER THE INPUT: true; the input reads as it did. -/
def fixedQuotientsSpec : ChangeSpec := { name := "fixedQuotients", fn := fun _ => fun
  | [d1, d2, d3] => { results := [.lit (.bool true)], args := [d1, d2, d3] }
  | _ => none }
def fixedQuotientsRow : OpenClaim := { program := "ytkghoaggicnmoaa", sum := "24ceeb40d1d7b365e4ecd527d2915d6c6cb1686a913050808cfe660451f7861a", func := "alidade/alidadelaw01.FixedQuotients", spec := "fixedQuotients", named := ["math/bits.divideError", "math/bits.overflowError"], apart := false }
def FixedQuotientsSaid : Prop := fixedQuotientsRow.holds Try.pinned (OpenSpec.ofChange fixedQuotientsSpec)

/-- ITS FALSE NEIGHBOUR: 'it returns false'. Refute it at one input. -/
def fixedQuotientsWrong : ChangeSpec := { name := "fixedQuotients", fn := fun _ => fun
  | [d1, d2, d3] => { results := [.lit (.bool false)], args := [d1, d2, d3] }
  | _ => none }
def FixedQuotientsWrongFalsely : Prop := fixedQuotientsRow.holds Try.pinned (OpenSpec.ofChange fixedQuotientsWrong)

/-- 'alidadelaw01.FixedParts': WHATEVER THE INPUT: true; the input reads as it did. -/
def fixedPartsSpec : ChangeSpec := { name := "fixedParts", fn := fun _ => fun
  | [d1, d2, d3] => { results := [.lit (.bool true)], args := [d1, d2, d3] }
  | _ => none }
def fixedPartsRow : OpenClaim := { program := "ytkghoaggicnmoaa", sum := "24ceeb40d1d7b365e4ecd527d2915d6c6cb1686a913050808cfe660451f7861a", func := "alidade/alidadelaw01.FixedParts", spec := "fixedParts", named := ["math/bits.divideError", "math/bits.overflowError"], apart := false }
def FixedPartsSaid : Prop := fixedPartsRow.holds Try.pinned (OpenSpec.ofChange fixedPartsSpec)

/-- ITS FALSE NEIGHBOUR: 'it returns false'. Refute it at one input. -/
def fixedPartsWrong : ChangeSpec := { name := "fixedParts", fn := fun _ => fun
  | [d1, d2, d3] => { results := [.lit (.bool false)], args := [d1, d2, d3] }
  | _ => none }
def FixedPartsWrongFalsely : Prop := fixedPartsRow.holds Try.pinned (OpenSpec.ofChange fixedPartsWrong)

/-- 'alidadelaw01.FixedBack': WHATEVER THE INPUT: true; the input reads as it did. -/
def fixedBackSpec : ChangeSpec := { name := "fixedBack", fn := fun _ => fun
  | [d1, d2] => { results := [.lit (.bool true)], args := [d1, d2] }
  | _ => none }
def fixedBackRow : OpenClaim := { program := "ytkghoaggicnmoaa", sum := "24ceeb40d1d7b365e4ecd527d2915d6c6cb1686a913050808cfe660451f7861a", func := "alidade/alidadelaw01.FixedBack", spec := "fixedBack", named := ["math/bits.divideError", "math/bits.overflowError"], apart := false }
def FixedBackSaid : Prop := fixedBackRow.holds Try.pinned (OpenSpec.ofChange fixedBackSpec)

/-- ITS FALSE NEIGHBOUR: 'it returns false'. Refute it at one input. -/
def fixedBackWrong : ChangeSpec := { name := "fixedBack", fn := fun _ => fun
  | [d1, d2] => { results := [.lit (.bool false)], args := [d1, d2] }
  | _ => none }
def FixedBackWrongFalsely : Prop := fixedBackRow.holds Try.pinned (OpenSpec.ofChange fixedBackWrong)

/-- 'alidadelaw01.FixedLeft': WHATEVER THE INPUT: true; the input reads as it did. -/
def fixedLeftSpec : ChangeSpec := { name := "fixedLeft", fn := fun _ => fun
  | [d1, d2, d3] => { results := [.lit (.bool true)], args := [d1, d2, d3] }
  | _ => none }
def fixedLeftRow : OpenClaim := { program := "ytkghoaggicnmoaa", sum := "24ceeb40d1d7b365e4ecd527d2915d6c6cb1686a913050808cfe660451f7861a", func := "alidade/alidadelaw01.FixedLeft", spec := "fixedLeft", named := ["math/bits.divideError", "math/bits.overflowError"], apart := false }
def FixedLeftSaid : Prop := fixedLeftRow.holds Try.pinned (OpenSpec.ofChange fixedLeftSpec)

/-- ITS FALSE NEIGHBOUR: 'it returns false'. Refute it at one input. -/
def fixedLeftWrong : ChangeSpec := { name := "fixedLeft", fn := fun _ => fun
  | [d1, d2, d3] => { results := [.lit (.bool false)], args := [d1, d2, d3] }
  | _ => none }
def FixedLeftWrongFalsely : Prop := fixedLeftRow.holds Try.pinned (OpenSpec.ofChange fixedLeftWrong)

/-- 'alidadelaw01.FixedSums': WHATEVER THE INPUT: true; the input reads as it did. -/
def fixedSumsSpec : ChangeSpec := { name := "fixedSums", fn := fun _ => fun
  | [d1, d2, d3] => { results := [.lit (.bool true)], args := [d1, d2, d3] }
  | _ => none }
def fixedSumsRow : OpenClaim := { program := "ytkghoaggicnmoaa", sum := "24ceeb40d1d7b365e4ecd527d2915d6c6cb1686a913050808cfe660451f7861a", func := "alidade/alidadelaw01.FixedSums", spec := "fixedSums", named := ["math/bits.divideError", "math/bits.overflowError"], apart := false }
def FixedSumsSaid : Prop := fixedSumsRow.holds Try.pinned (OpenSpec.ofChange fixedSumsSpec)

/-- ITS FALSE NEIGHBOUR: 'it returns false'. Refute it at one input. -/
def fixedSumsWrong : ChangeSpec := { name := "fixedSums", fn := fun _ => fun
  | [d1, d2, d3] => { results := [.lit (.bool false)], args := [d1, d2, d3] }
  | _ => none }
def FixedSumsWrongFalsely : Prop := fixedSumsRow.holds Try.pinned (OpenSpec.ofChange fixedSumsWrong)

/-- 'alidadelaw01.FixedRoots': WHATEVER THE INPUT: true; the input reads as it did. -/
def fixedRootsSpec : ChangeSpec := { name := "fixedRoots", fn := fun _ => fun
  | [d1, d2] => { results := [.lit (.bool true)], args := [d1, d2] }
  | _ => none }
def fixedRootsRow : OpenClaim := { program := "ytkghoaggicnmoaa", sum := "24ceeb40d1d7b365e4ecd527d2915d6c6cb1686a913050808cfe660451f7861a", func := "alidade/alidadelaw01.FixedRoots", spec := "fixedRoots", named := ["math/bits.divideError", "math/bits.overflowError"], apart := false }
def FixedRootsSaid : Prop := fixedRootsRow.holds Try.pinned (OpenSpec.ofChange fixedRootsSpec)

/-- ITS FALSE NEIGHBOUR: 'it returns false'. Refute it at one input. -/
def fixedRootsWrong : ChangeSpec := { name := "fixedRoots", fn := fun _ => fun
  | [d1, d2] => { results := [.lit (.bool false)], args := [d1, d2] }
  | _ => none }
def FixedRootsWrongFalsely : Prop := fixedRootsRow.holds Try.pinned (OpenSpec.ofChange fixedRootsWrong)

/-- 'alidadelaw01.FixedNorms': WHATEVER THE INPUT: true; the input reads as it did. -/
def fixedNormsSpec : ChangeSpec := { name := "fixedNorms", fn := fun _ => fun
  | [d1, d2, d3] => { results := [.lit (.bool true)], args := [d1, d2, d3] }
  | _ => none }
def fixedNormsRow : OpenClaim := { program := "ytkghoaggicnmoaa", sum := "24ceeb40d1d7b365e4ecd527d2915d6c6cb1686a913050808cfe660451f7861a", func := "alidade/alidadelaw01.FixedNorms", spec := "fixedNorms", inPlace := ["math/bits.Add64"], named := ["math/bits.divideError", "math/bits.overflowError"], apart := false }
def FixedNormsSaid : Prop := fixedNormsRow.holds Try.pinned (OpenSpec.ofChange fixedNormsSpec)

/-- ITS FALSE NEIGHBOUR: 'it returns false'. Refute it at one input. -/
def fixedNormsWrong : ChangeSpec := { name := "fixedNorms", fn := fun _ => fun
  | [d1, d2, d3] => { results := [.lit (.bool false)], args := [d1, d2, d3] }
  | _ => none }
def FixedNormsWrongFalsely : Prop := fixedNormsRow.holds Try.pinned (OpenSpec.ofChange fixedNormsWrong)

/-- 'alidadelaw02.TrigSin': WHATEVER THE INPUT: true; the input reads as it did. -/
def trigSinSpec : ChangeSpec := { name := "trigSin", fn := fun _ => fun
  | [d1, d2] => { results := [.lit (.bool true)], args := [d1, d2] }
  | _ => none }
def trigSinRow : OpenClaim := { program := "ytkghoaggicnmoaa", sum := "24ceeb40d1d7b365e4ecd527d2915d6c6cb1686a913050808cfe660451f7861a", func := "alidade/alidadelaw02.TrigSin", spec := "trigSin", named := ["math/bits.divideError", "math/bits.overflowError"], apart := false }
def TrigSinSaid : Prop := trigSinRow.holds Try.pinned (OpenSpec.ofChange trigSinSpec)

/-- ITS FALSE NEIGHBOUR: 'it returns false'. Refute it at one input. -/
def trigSinWrong : ChangeSpec := { name := "trigSin", fn := fun _ => fun
  | [d1, d2] => { results := [.lit (.bool false)], args := [d1, d2] }
  | _ => none }
def TrigSinWrongFalsely : Prop := trigSinRow.holds Try.pinned (OpenSpec.ofChange trigSinWrong)

/-- 'alidadelaw02.TrigCos': WHATEVER THE INPUT: true; the input reads as it did. -/
def trigCosSpec : ChangeSpec := { name := "trigCos", fn := fun _ => fun
  | [d1, d2] => { results := [.lit (.bool true)], args := [d1, d2] }
  | _ => none }
def trigCosRow : OpenClaim := { program := "ytkghoaggicnmoaa", sum := "24ceeb40d1d7b365e4ecd527d2915d6c6cb1686a913050808cfe660451f7861a", func := "alidade/alidadelaw02.TrigCos", spec := "trigCos", named := ["math/bits.divideError", "math/bits.overflowError"], apart := false }
def TrigCosSaid : Prop := trigCosRow.holds Try.pinned (OpenSpec.ofChange trigCosSpec)

/-- ITS FALSE NEIGHBOUR: 'it returns false'. Refute it at one input. -/
def trigCosWrong : ChangeSpec := { name := "trigCos", fn := fun _ => fun
  | [d1, d2] => { results := [.lit (.bool false)], args := [d1, d2] }
  | _ => none }
def TrigCosWrongFalsely : Prop := trigCosRow.holds Try.pinned (OpenSpec.ofChange trigCosWrong)

/-- 'alidadelaw02.TrigOne': WHATEVER THE INPUT: true; the input reads as it did. -/
def trigOneSpec : ChangeSpec := { name := "trigOne", fn := fun _ => fun
  | [d] => { results := [.lit (.bool true)], args := [d] }
  | _ => none }
def trigOneRow : OpenClaim := { program := "ytkghoaggicnmoaa", sum := "24ceeb40d1d7b365e4ecd527d2915d6c6cb1686a913050808cfe660451f7861a", func := "alidade/alidadelaw02.TrigOne", spec := "trigOne", named := ["math/bits.divideError", "math/bits.overflowError"], apart := false }
def TrigOneSaid : Prop := trigOneRow.holds Try.pinned (OpenSpec.ofChange trigOneSpec)

/-- ITS FALSE NEIGHBOUR: 'it returns false'. Refute it at one input. -/
def trigOneWrong : ChangeSpec := { name := "trigOne", fn := fun _ => fun
  | [d] => { results := [.lit (.bool false)], args := [d] }
  | _ => none }
def TrigOneWrongFalsely : Prop := trigOneRow.holds Try.pinned (OpenSpec.ofChange trigOneWrong)

/-- 'alidadelaw02.TrigSums': WHATEVER THE INPUT: true; the input reads as it did. -/
def trigSumsSpec : ChangeSpec := { name := "trigSums", fn := fun _ => fun
  | [d1, d2] => { results := [.lit (.bool true)], args := [d1, d2] }
  | _ => none }
def trigSumsRow : OpenClaim := { program := "ytkghoaggicnmoaa", sum := "24ceeb40d1d7b365e4ecd527d2915d6c6cb1686a913050808cfe660451f7861a", func := "alidade/alidadelaw02.TrigSums", spec := "trigSums", named := ["math/bits.divideError", "math/bits.overflowError"], apart := false }
def TrigSumsSaid : Prop := trigSumsRow.holds Try.pinned (OpenSpec.ofChange trigSumsSpec)

/-- ITS FALSE NEIGHBOUR: 'it returns false'. Refute it at one input. -/
def trigSumsWrong : ChangeSpec := { name := "trigSums", fn := fun _ => fun
  | [d1, d2] => { results := [.lit (.bool false)], args := [d1, d2] }
  | _ => none }
def TrigSumsWrongFalsely : Prop := trigSumsRow.holds Try.pinned (OpenSpec.ofChange trigSumsWrong)

/-- 'alidadelaw01.FixedStays': WHATEVER THE INPUT: true; the input reads as it did. -/
def fixedStaysSpec : ChangeSpec := { name := "fixedStays", fn := fun _ => fun
  | [d1, d2, d3] => { results := [.lit (.bool true)], args := [d1, d2, d3] }
  | _ => none }
def fixedStaysRow : OpenClaim := { program := "ytkghoaggicnmoaa", sum := "24ceeb40d1d7b365e4ecd527d2915d6c6cb1686a913050808cfe660451f7861a", func := "alidade/alidadelaw01.FixedStays", spec := "fixedStays", inPlace := ["math/bits.Add64"], named := ["math/bits.divideError", "math/bits.overflowError"], apart := false }
def FixedStaysSaid : Prop := fixedStaysRow.holds Try.pinned (OpenSpec.ofChange fixedStaysSpec)

/-- ITS FALSE NEIGHBOUR: 'it returns false'. Refute it at one input. -/
def fixedStaysWrong : ChangeSpec := { name := "fixedStays", fn := fun _ => fun
  | [d1, d2, d3] => { results := [.lit (.bool false)], args := [d1, d2, d3] }
  | _ => none }
def FixedStaysWrongFalsely : Prop := fixedStaysRow.holds Try.pinned (OpenSpec.ofChange fixedStaysWrong)

/-- 'alidadelaw02.TrigAtan2': WHATEVER THE INPUT: true; the input reads as it did. -/
def trigAtan2Spec : ChangeSpec := { name := "trigAtan2", fn := fun _ => fun
  | [d1, d2, d3] => { results := [.lit (.bool true)], args := [d1, d2, d3] }
  | _ => none }
def trigAtan2Row : OpenClaim := { program := "ytkghoaggicnmoaa", sum := "24ceeb40d1d7b365e4ecd527d2915d6c6cb1686a913050808cfe660451f7861a", func := "alidade/alidadelaw02.TrigAtan2", spec := "trigAtan2", named := ["math/bits.divideError", "math/bits.overflowError"], apart := false }
def TrigAtan2Said : Prop := trigAtan2Row.holds Try.pinned (OpenSpec.ofChange trigAtan2Spec)

/-- ITS FALSE NEIGHBOUR: 'it returns false'. Refute it at one input. -/
def trigAtan2Wrong : ChangeSpec := { name := "trigAtan2", fn := fun _ => fun
  | [d1, d2, d3] => { results := [.lit (.bool false)], args := [d1, d2, d3] }
  | _ => none }
def TrigAtan2WrongFalsely : Prop := trigAtan2Row.holds Try.pinned (OpenSpec.ofChange trigAtan2Wrong)

/-- 'alidadelaw02.TrigBack': WHATEVER THE INPUT: true; the input reads as it did. -/
def trigBackSpec : ChangeSpec := { name := "trigBack", fn := fun _ => fun
  | [d1, d2] => { results := [.lit (.bool true)], args := [d1, d2] }
  | _ => none }
def trigBackRow : OpenClaim := { program := "ytkghoaggicnmoaa", sum := "24ceeb40d1d7b365e4ecd527d2915d6c6cb1686a913050808cfe660451f7861a", func := "alidade/alidadelaw02.TrigBack", spec := "trigBack", named := ["math/bits.divideError", "math/bits.overflowError"], apart := false }
def TrigBackSaid : Prop := trigBackRow.holds Try.pinned (OpenSpec.ofChange trigBackSpec)

/-- ITS FALSE NEIGHBOUR: 'it returns false'. Refute it at one input. -/
def trigBackWrong : ChangeSpec := { name := "trigBack", fn := fun _ => fun
  | [d1, d2] => { results := [.lit (.bool false)], args := [d1, d2] }
  | _ => none }
def TrigBackWrongFalsely : Prop := trigBackRow.holds Try.pinned (OpenSpec.ofChange trigBackWrong)

/-- 'alidadelaw02.TrigThere': WHATEVER THE INPUT: true; the input reads as it did. -/
def trigThereSpec : ChangeSpec := { name := "trigThere", fn := fun _ => fun
  | [d1, d2] => { results := [.lit (.bool true)], args := [d1, d2] }
  | _ => none }
def trigThereRow : OpenClaim := { program := "ytkghoaggicnmoaa", sum := "24ceeb40d1d7b365e4ecd527d2915d6c6cb1686a913050808cfe660451f7861a", func := "alidade/alidadelaw02.TrigThere", spec := "trigThere", inPlace := ["math/bits.Add64"], named := ["math/bits.divideError", "math/bits.overflowError"], apart := false }
def TrigThereSaid : Prop := trigThereRow.holds Try.pinned (OpenSpec.ofChange trigThereSpec)

/-- ITS FALSE NEIGHBOUR: 'it returns false'. Refute it at one input. -/
def trigThereWrong : ChangeSpec := { name := "trigThere", fn := fun _ => fun
  | [d1, d2] => { results := [.lit (.bool false)], args := [d1, d2] }
  | _ => none }
def TrigThereWrongFalsely : Prop := trigThereRow.holds Try.pinned (OpenSpec.ofChange trigThereWrong)

/- THE SECOND FORM. 'bulk': how many values and letters a reading holds, each counted each time it is reached (what is shared counts as often as it is met; a slice's spare places count too). A statement '..UptoSaid' is the law's where the arguments, and the package variables that the reading takes, are together of bulk at most 1048576: NARROWER than '..Said'. Prove '..Said' where nothing that the law and all that it calls make is longer than what came in: it says more and counts as full. Else prove '..UptoSaid'. A law counts once. -/
mutual
def uptoBulk {H : Type} : DataW H → Nat
  | .lit (.string bytes) => bytes.length + 1
  | .lit _ => 1
  | .nil => 1
  | .ptr d => uptoBulk d + 1
  | .slice elems spare => uptoBulkAll elems + uptoBulkAll spare + 1
  | .agg parts => uptoBulkAll parts + 1
  | .iface _ d => uptoBulk d + 1
  | .map entries => uptoBulkEntries entries + 1
  | .held _ => 1
def uptoBulkAll {H : Type} : List (DataW H) → Nat
  | [] => 0
  | d :: r => uptoBulk d + uptoBulkAll r
def uptoBulkEntries {H : Type} : List (Lit × DataW H) → Nat
  | [] => 0
  | x :: r => uptoBulkEntry x + uptoBulkEntries r
def uptoBulkEntry {H : Type} : Lit × DataW H → Nat
  | (.string bytes, d) => bytes.length + uptoBulk d + 1
  | (_, d) => uptoBulk d + 1
 end
def uptoSmall : (H : Type) → List (DataW H) → Bool := fun _ ds => decide (uptoBulkAll ds ≤ 1048576)
def OpenSpec.upto (s : _root_.Go.ChangeSpec) : _root_.Go.OpenSpec := { _root_.Go.OpenSpec.ofChange s with cond := some uptoSmall }

/-- 'alidadelaw01.FixedProducts', WHERE WHAT IT READS IS OF BULK AT MOST 1048576: true; the input reads as it did. -/
def fixedProductsUptoRow : OpenClaim := { program := "ytkghoaggicnmoaa", sum := "24ceeb40d1d7b365e4ecd527d2915d6c6cb1686a913050808cfe660451f7861a", func := "alidade/alidadelaw01.FixedProducts", spec := "fixedProducts", named := ["math/bits.divideError", "math/bits.overflowError"], apart := false, narrowed := true }
def FixedProductsUptoSaid : Prop := fixedProductsUptoRow.holds Try.pinned (OpenSpec.upto fixedProductsSpec)

/-- 'alidadelaw01.FixedQuotients', WHERE WHAT IT READS IS OF BULK AT MOST 1048576: true; the input reads as it did. -/
def fixedQuotientsUptoRow : OpenClaim := { program := "ytkghoaggicnmoaa", sum := "24ceeb40d1d7b365e4ecd527d2915d6c6cb1686a913050808cfe660451f7861a", func := "alidade/alidadelaw01.FixedQuotients", spec := "fixedQuotients", named := ["math/bits.divideError", "math/bits.overflowError"], apart := false, narrowed := true }
def FixedQuotientsUptoSaid : Prop := fixedQuotientsUptoRow.holds Try.pinned (OpenSpec.upto fixedQuotientsSpec)

/-- 'alidadelaw01.FixedParts', WHERE WHAT IT READS IS OF BULK AT MOST 1048576: true; the input reads as it did. -/
def fixedPartsUptoRow : OpenClaim := { program := "ytkghoaggicnmoaa", sum := "24ceeb40d1d7b365e4ecd527d2915d6c6cb1686a913050808cfe660451f7861a", func := "alidade/alidadelaw01.FixedParts", spec := "fixedParts", named := ["math/bits.divideError", "math/bits.overflowError"], apart := false, narrowed := true }
def FixedPartsUptoSaid : Prop := fixedPartsUptoRow.holds Try.pinned (OpenSpec.upto fixedPartsSpec)

/-- 'alidadelaw01.FixedBack', WHERE WHAT IT READS IS OF BULK AT MOST 1048576: true; the input reads as it did. -/
def fixedBackUptoRow : OpenClaim := { program := "ytkghoaggicnmoaa", sum := "24ceeb40d1d7b365e4ecd527d2915d6c6cb1686a913050808cfe660451f7861a", func := "alidade/alidadelaw01.FixedBack", spec := "fixedBack", named := ["math/bits.divideError", "math/bits.overflowError"], apart := false, narrowed := true }
def FixedBackUptoSaid : Prop := fixedBackUptoRow.holds Try.pinned (OpenSpec.upto fixedBackSpec)

/-- 'alidadelaw01.FixedLeft', WHERE WHAT IT READS IS OF BULK AT MOST 1048576: true; the input reads as it did. -/
def fixedLeftUptoRow : OpenClaim := { program := "ytkghoaggicnmoaa", sum := "24ceeb40d1d7b365e4ecd527d2915d6c6cb1686a913050808cfe660451f7861a", func := "alidade/alidadelaw01.FixedLeft", spec := "fixedLeft", named := ["math/bits.divideError", "math/bits.overflowError"], apart := false, narrowed := true }
def FixedLeftUptoSaid : Prop := fixedLeftUptoRow.holds Try.pinned (OpenSpec.upto fixedLeftSpec)

/-- 'alidadelaw01.FixedSums', WHERE WHAT IT READS IS OF BULK AT MOST 1048576: true; the input reads as it did. -/
def fixedSumsUptoRow : OpenClaim := { program := "ytkghoaggicnmoaa", sum := "24ceeb40d1d7b365e4ecd527d2915d6c6cb1686a913050808cfe660451f7861a", func := "alidade/alidadelaw01.FixedSums", spec := "fixedSums", named := ["math/bits.divideError", "math/bits.overflowError"], apart := false, narrowed := true }
def FixedSumsUptoSaid : Prop := fixedSumsUptoRow.holds Try.pinned (OpenSpec.upto fixedSumsSpec)

/-- 'alidadelaw01.FixedRoots', WHERE WHAT IT READS IS OF BULK AT MOST 1048576: true; the input reads as it did. -/
def fixedRootsUptoRow : OpenClaim := { program := "ytkghoaggicnmoaa", sum := "24ceeb40d1d7b365e4ecd527d2915d6c6cb1686a913050808cfe660451f7861a", func := "alidade/alidadelaw01.FixedRoots", spec := "fixedRoots", named := ["math/bits.divideError", "math/bits.overflowError"], apart := false, narrowed := true }
def FixedRootsUptoSaid : Prop := fixedRootsUptoRow.holds Try.pinned (OpenSpec.upto fixedRootsSpec)

/-- 'alidadelaw01.FixedNorms', WHERE WHAT IT READS IS OF BULK AT MOST 1048576: true; the input reads as it did. -/
def fixedNormsUptoRow : OpenClaim := { program := "ytkghoaggicnmoaa", sum := "24ceeb40d1d7b365e4ecd527d2915d6c6cb1686a913050808cfe660451f7861a", func := "alidade/alidadelaw01.FixedNorms", spec := "fixedNorms", inPlace := ["math/bits.Add64"], named := ["math/bits.divideError", "math/bits.overflowError"], apart := false, narrowed := true }
def FixedNormsUptoSaid : Prop := fixedNormsUptoRow.holds Try.pinned (OpenSpec.upto fixedNormsSpec)

/-- 'alidadelaw02.TrigSin', WHERE WHAT IT READS IS OF BULK AT MOST 1048576: true; the input reads as it did. -/
def trigSinUptoRow : OpenClaim := { program := "ytkghoaggicnmoaa", sum := "24ceeb40d1d7b365e4ecd527d2915d6c6cb1686a913050808cfe660451f7861a", func := "alidade/alidadelaw02.TrigSin", spec := "trigSin", named := ["math/bits.divideError", "math/bits.overflowError"], apart := false, narrowed := true }
def TrigSinUptoSaid : Prop := trigSinUptoRow.holds Try.pinned (OpenSpec.upto trigSinSpec)

/-- 'alidadelaw02.TrigCos', WHERE WHAT IT READS IS OF BULK AT MOST 1048576: true; the input reads as it did. -/
def trigCosUptoRow : OpenClaim := { program := "ytkghoaggicnmoaa", sum := "24ceeb40d1d7b365e4ecd527d2915d6c6cb1686a913050808cfe660451f7861a", func := "alidade/alidadelaw02.TrigCos", spec := "trigCos", named := ["math/bits.divideError", "math/bits.overflowError"], apart := false, narrowed := true }
def TrigCosUptoSaid : Prop := trigCosUptoRow.holds Try.pinned (OpenSpec.upto trigCosSpec)

/-- 'alidadelaw02.TrigOne', WHERE WHAT IT READS IS OF BULK AT MOST 1048576: true; the input reads as it did. -/
def trigOneUptoRow : OpenClaim := { program := "ytkghoaggicnmoaa", sum := "24ceeb40d1d7b365e4ecd527d2915d6c6cb1686a913050808cfe660451f7861a", func := "alidade/alidadelaw02.TrigOne", spec := "trigOne", named := ["math/bits.divideError", "math/bits.overflowError"], apart := false, narrowed := true }
def TrigOneUptoSaid : Prop := trigOneUptoRow.holds Try.pinned (OpenSpec.upto trigOneSpec)

/-- 'alidadelaw02.TrigSums', WHERE WHAT IT READS IS OF BULK AT MOST 1048576: true; the input reads as it did. -/
def trigSumsUptoRow : OpenClaim := { program := "ytkghoaggicnmoaa", sum := "24ceeb40d1d7b365e4ecd527d2915d6c6cb1686a913050808cfe660451f7861a", func := "alidade/alidadelaw02.TrigSums", spec := "trigSums", named := ["math/bits.divideError", "math/bits.overflowError"], apart := false, narrowed := true }
def TrigSumsUptoSaid : Prop := trigSumsUptoRow.holds Try.pinned (OpenSpec.upto trigSumsSpec)

/-- 'alidadelaw01.FixedStays', WHERE WHAT IT READS IS OF BULK AT MOST 1048576: true; the input reads as it did. -/
def fixedStaysUptoRow : OpenClaim := { program := "ytkghoaggicnmoaa", sum := "24ceeb40d1d7b365e4ecd527d2915d6c6cb1686a913050808cfe660451f7861a", func := "alidade/alidadelaw01.FixedStays", spec := "fixedStays", inPlace := ["math/bits.Add64"], named := ["math/bits.divideError", "math/bits.overflowError"], apart := false, narrowed := true }
def FixedStaysUptoSaid : Prop := fixedStaysUptoRow.holds Try.pinned (OpenSpec.upto fixedStaysSpec)

/-- 'alidadelaw02.TrigAtan2', WHERE WHAT IT READS IS OF BULK AT MOST 1048576: true; the input reads as it did. -/
def trigAtan2UptoRow : OpenClaim := { program := "ytkghoaggicnmoaa", sum := "24ceeb40d1d7b365e4ecd527d2915d6c6cb1686a913050808cfe660451f7861a", func := "alidade/alidadelaw02.TrigAtan2", spec := "trigAtan2", named := ["math/bits.divideError", "math/bits.overflowError"], apart := false, narrowed := true }
def TrigAtan2UptoSaid : Prop := trigAtan2UptoRow.holds Try.pinned (OpenSpec.upto trigAtan2Spec)

/-- 'alidadelaw02.TrigBack', WHERE WHAT IT READS IS OF BULK AT MOST 1048576: true; the input reads as it did. -/
def trigBackUptoRow : OpenClaim := { program := "ytkghoaggicnmoaa", sum := "24ceeb40d1d7b365e4ecd527d2915d6c6cb1686a913050808cfe660451f7861a", func := "alidade/alidadelaw02.TrigBack", spec := "trigBack", named := ["math/bits.divideError", "math/bits.overflowError"], apart := false, narrowed := true }
def TrigBackUptoSaid : Prop := trigBackUptoRow.holds Try.pinned (OpenSpec.upto trigBackSpec)

/-- 'alidadelaw02.TrigThere', WHERE WHAT IT READS IS OF BULK AT MOST 1048576: true; the input reads as it did. -/
def trigThereUptoRow : OpenClaim := { program := "ytkghoaggicnmoaa", sum := "24ceeb40d1d7b365e4ecd527d2915d6c6cb1686a913050808cfe660451f7861a", func := "alidade/alidadelaw02.TrigThere", spec := "trigThere", inPlace := ["math/bits.Add64"], named := ["math/bits.divideError", "math/bits.overflowError"], apart := false, narrowed := true }
def TrigThereUptoSaid : Prop := trigThereUptoRow.holds Try.pinned (OpenSpec.upto trigThereSpec)

end Rows
end Go.Proofs.Ytkghoaggicnmoaa
