/-
  No cell of these rows narrows 'for every input' (looked for: loops, veiled, ifaces, maps, wideKeys, modest, calm, conditions, laid).
  DERIVED. THE GIVEN ROWS OF THIS SEAT. 8 by the template 'for every input the law returns true; each argument reads behind the call as it read before'; 0 by the template 'total and deterministic' (their statements: YtnjaalblgakgaaaTotals.lean).
  GIVEN WITH THE SEED: the statements are not yours to turn. If you find one false, say at which input.
  Laid BY PROGRAM, IN A SANDBOX (cutbox-rows.mjs): the forced cells as the released guide's own fill.sh prints them over the translation 36252e3bd7f33889… (all of the seat's roots in one cut). By AI agents, Wed Nov 11 2026. No macro, syntax, notation, axiom, sorry.
-/
import Derived.Test.YtnjaalblgakgaaaChecked
import GoSem.Claim
import GoSem.ClaimJoined
import GoSem.ClaimMapViews
import Derived.JoinedTies
import Derived.KernelRfl
namespace Go.Proofs.Ytnjaalblgakgaaa
/- THE CELL 'sum', in the pinned program and in every row, IS THE sha256 OF THE DUMP (.gsa) THAT YtnjaalblgakgaaaProg.lean LOADS. Nothing in Lean hashes anything: it is a label: what it is worth is what the hold of that sum in a sandbox is worth. -/
noncomputable def Try.pinned : Pinned := { name := "ytnjaalblgakgaaa", sum := "36252e3bd7f33889b02bbb6cbafeeefadcc5f56aaef47cd09e4b6c28f18f9ea5", checked := Try.checked }
namespace Rows
def none {H : Type} : Left H := { results := [], args := [] }

/-- 'laws.FnExactReverseSeries': WHATEVER THE INPUT: true; the input reads as it did. -/
def fnExactReverseSeriesSpec : ChangeSpec := { name := "fnExactReverseSeries", fn := fun _ => fun
  | [d] => { results := [.lit (.bool true)], args := [d] }
  | _ => none }
def fnExactReverseSeriesRow : OpenClaim := { program := "ytnjaalblgakgaaa", sum := "36252e3bd7f33889b02bbb6cbafeeefadcc5f56aaef47cd09e4b6c28f18f9ea5", func := "loop.example/g01100/laws.FnExactReverseSeries", spec := "fnExactReverseSeries", unfollowed := true, recurses := true, apart := false }
def FnExactReverseSeriesSaid : Prop := fnExactReverseSeriesRow.holds Try.pinned (OpenSpec.ofChange fnExactReverseSeriesSpec)

/-- ITS FALSE NEIGHBOUR: 'it returns false'. Refute it at one input. -/
def fnExactReverseSeriesWrong : ChangeSpec := { name := "fnExactReverseSeries", fn := fun _ => fun
  | [d] => { results := [.lit (.bool false)], args := [d] }
  | _ => none }
def FnExactReverseSeriesWrongFalsely : Prop := fnExactReverseSeriesRow.holds Try.pinned (OpenSpec.ofChange fnExactReverseSeriesWrong)

/-- 'laws.FnExactPowerOfSeries': WHATEVER THE INPUT: true; the input reads as it did. -/
def fnExactPowerOfSeriesSpec : ChangeSpec := { name := "fnExactPowerOfSeries", fn := fun _ => fun
  | [d1, d2] => { results := [.lit (.bool true)], args := [d1, d2] }
  | _ => none }
def fnExactPowerOfSeriesRow : OpenClaim := { program := "ytnjaalblgakgaaa", sum := "36252e3bd7f33889b02bbb6cbafeeefadcc5f56aaef47cd09e4b6c28f18f9ea5", func := "loop.example/g01100/laws.FnExactPowerOfSeries", spec := "fnExactPowerOfSeries", unfollowed := true, recurses := true, apart := false }
def FnExactPowerOfSeriesSaid : Prop := fnExactPowerOfSeriesRow.holds Try.pinned (OpenSpec.ofChange fnExactPowerOfSeriesSpec)

/-- ITS FALSE NEIGHBOUR: 'it returns false'. Refute it at one input. -/
def fnExactPowerOfSeriesWrong : ChangeSpec := { name := "fnExactPowerOfSeries", fn := fun _ => fun
  | [d1, d2] => { results := [.lit (.bool false)], args := [d1, d2] }
  | _ => none }
def FnExactPowerOfSeriesWrongFalsely : Prop := fnExactPowerOfSeriesRow.holds Try.pinned (OpenSpec.ofChange fnExactPowerOfSeriesWrong)

/-- 'laws.FnReversions': WHATEVER THE INPUT: true; the input reads as it did. -/
def fnReversionsSpec : ChangeSpec := { name := "fnReversions", fn := fun _ => fun
  | [d] => { results := [.lit (.bool true)], args := [d] }
  | _ => none }
def fnReversionsRow : OpenClaim := { program := "ytnjaalblgakgaaa", sum := "36252e3bd7f33889b02bbb6cbafeeefadcc5f56aaef47cd09e4b6c28f18f9ea5", func := "loop.example/g01100/laws.FnReversions", spec := "fnReversions", unfollowed := true, recurses := true, apart := false }
def FnReversionsSaid : Prop := fnReversionsRow.holds Try.pinned (OpenSpec.ofChange fnReversionsSpec)

/-- ITS FALSE NEIGHBOUR: 'it returns false'. Refute it at one input. -/
def fnReversionsWrong : ChangeSpec := { name := "fnReversions", fn := fun _ => fun
  | [d] => { results := [.lit (.bool false)], args := [d] }
  | _ => none }
def FnReversionsWrongFalsely : Prop := fnReversionsRow.holds Try.pinned (OpenSpec.ofChange fnReversionsWrong)

/-- 'laws.FnSeriesProducts': WHATEVER THE INPUT: true; the input reads as it did. -/
def fnSeriesProductsSpec : ChangeSpec := { name := "fnSeriesProducts", fn := fun _ => fun
  | [d] => { results := [.lit (.bool true)], args := [d] }
  | _ => none }
def fnSeriesProductsRow : OpenClaim := { program := "ytnjaalblgakgaaa", sum := "36252e3bd7f33889b02bbb6cbafeeefadcc5f56aaef47cd09e4b6c28f18f9ea5", func := "loop.example/g01100/laws.FnSeriesProducts", spec := "fnSeriesProducts", unfollowed := true, recurses := true, apart := false }
def FnSeriesProductsSaid : Prop := fnSeriesProductsRow.holds Try.pinned (OpenSpec.ofChange fnSeriesProductsSpec)

/-- ITS FALSE NEIGHBOUR: 'it returns false'. Refute it at one input. -/
def fnSeriesProductsWrong : ChangeSpec := { name := "fnSeriesProducts", fn := fun _ => fun
  | [d] => { results := [.lit (.bool false)], args := [d] }
  | _ => none }
def FnSeriesProductsWrongFalsely : Prop := fnSeriesProductsRow.holds Try.pinned (OpenSpec.ofChange fnSeriesProductsWrong)

/-- 'laws.FnCompositions': WHATEVER THE INPUT: true; the input reads as it did. -/
def fnCompositionsSpec : ChangeSpec := { name := "fnCompositions", fn := fun _ => fun
  | [d] => { results := [.lit (.bool true)], args := [d] }
  | _ => none }
def fnCompositionsRow : OpenClaim := { program := "ytnjaalblgakgaaa", sum := "36252e3bd7f33889b02bbb6cbafeeefadcc5f56aaef47cd09e4b6c28f18f9ea5", func := "loop.example/g01100/laws.FnCompositions", spec := "fnCompositions", unfollowed := true, recurses := true, apart := false }
def FnCompositionsSaid : Prop := fnCompositionsRow.holds Try.pinned (OpenSpec.ofChange fnCompositionsSpec)

/-- ITS FALSE NEIGHBOUR: 'it returns false'. Refute it at one input. -/
def fnCompositionsWrong : ChangeSpec := { name := "fnCompositions", fn := fun _ => fun
  | [d] => { results := [.lit (.bool false)], args := [d] }
  | _ => none }
def FnCompositionsWrongFalsely : Prop := fnCompositionsRow.holds Try.pinned (OpenSpec.ofChange fnCompositionsWrong)

/-- 'laws.FnExponentials': WHATEVER THE INPUT: true; the input reads as it did. -/
def fnExponentialsSpec : ChangeSpec := { name := "fnExponentials", fn := fun _ => fun
  | [d] => { results := [.lit (.bool true)], args := [d] }
  | _ => none }
def fnExponentialsRow : OpenClaim := { program := "ytnjaalblgakgaaa", sum := "36252e3bd7f33889b02bbb6cbafeeefadcc5f56aaef47cd09e4b6c28f18f9ea5", func := "loop.example/g01100/laws.FnExponentials", spec := "fnExponentials", unfollowed := true, recurses := true, apart := false }
def FnExponentialsSaid : Prop := fnExponentialsRow.holds Try.pinned (OpenSpec.ofChange fnExponentialsSpec)

/-- ITS FALSE NEIGHBOUR: 'it returns false'. Refute it at one input. -/
def fnExponentialsWrong : ChangeSpec := { name := "fnExponentials", fn := fun _ => fun
  | [d] => { results := [.lit (.bool false)], args := [d] }
  | _ => none }
def FnExponentialsWrongFalsely : Prop := fnExponentialsRow.holds Try.pinned (OpenSpec.ofChange fnExponentialsWrong)

/-- 'laws.FnRootsOfNumbers': WHATEVER THE INPUT: true; the input reads as it did. -/
def fnRootsOfNumbersSpec : ChangeSpec := { name := "fnRootsOfNumbers", fn := fun _ => fun
  | [d] => { results := [.lit (.bool true)], args := [d] }
  | _ => none }
def fnRootsOfNumbersRow : OpenClaim := { program := "ytnjaalblgakgaaa", sum := "36252e3bd7f33889b02bbb6cbafeeefadcc5f56aaef47cd09e4b6c28f18f9ea5", func := "loop.example/g01100/laws.FnRootsOfNumbers", spec := "fnRootsOfNumbers", apart := false }
def FnRootsOfNumbersSaid : Prop := fnRootsOfNumbersRow.holds Try.pinned (OpenSpec.ofChange fnRootsOfNumbersSpec)

/-- ITS FALSE NEIGHBOUR: 'it returns false'. Refute it at one input. -/
def fnRootsOfNumbersWrong : ChangeSpec := { name := "fnRootsOfNumbers", fn := fun _ => fun
  | [d] => { results := [.lit (.bool false)], args := [d] }
  | _ => none }
def FnRootsOfNumbersWrongFalsely : Prop := fnRootsOfNumbersRow.holds Try.pinned (OpenSpec.ofChange fnRootsOfNumbersWrong)

/-- 'laws.FnFieldLaws': WHATEVER THE INPUT: true; the input reads as it did. -/
def fnFieldLawsSpec : ChangeSpec := { name := "fnFieldLaws", fn := fun _ => fun
  | [d] => { results := [.lit (.bool true)], args := [d] }
  | _ => none }
def fnFieldLawsRow : OpenClaim := { program := "ytnjaalblgakgaaa", sum := "36252e3bd7f33889b02bbb6cbafeeefadcc5f56aaef47cd09e4b6c28f18f9ea5", func := "loop.example/g01100/laws.FnFieldLaws", spec := "fnFieldLaws", unfollowed := true, recurses := true, apart := false }
def FnFieldLawsSaid : Prop := fnFieldLawsRow.holds Try.pinned (OpenSpec.ofChange fnFieldLawsSpec)

/-- ITS FALSE NEIGHBOUR: 'it returns false'. Refute it at one input. -/
def fnFieldLawsWrong : ChangeSpec := { name := "fnFieldLaws", fn := fun _ => fun
  | [d] => { results := [.lit (.bool false)], args := [d] }
  | _ => none }
def FnFieldLawsWrongFalsely : Prop := fnFieldLawsRow.holds Try.pinned (OpenSpec.ofChange fnFieldLawsWrong)

/- THE SECOND FORM. 'bulk': how many values and letters a reading holds, each counted each time it is reached (what is shared counts as often as it is met; a slice's spare places count too). A statement '..UptoSaid' is the law's where the arguments, and the package variables that the reading takes, are together of bulk at most 1048576: NARROWER than '..Said'. Prove '..Said' where nothing that the law and all that it calls make is longer than what came in: it says more and counts as full. Else prove '..UptoSaid'. A law counts once. -/
mutual
def uptoBulk {H : Type} : DataW H → Nat
  | .lit (.string bytes) => bytes.length + 1
  | .lit _ => 1
  | .nil => 1
  | .ptr d => uptoBulk d + 1
  | .slice elems spare => uptoBulkAll elems + uptoBulkAll spare + 1
  | .agg parts => uptoBulkAll parts + 1
  | .iface _ d => uptoBulk d + 1
  | .map entries => uptoBulkEntries entries + 1
  | .held _ => 1
def uptoBulkAll {H : Type} : List (DataW H) → Nat
  | [] => 0
  | d :: r => uptoBulk d + uptoBulkAll r
def uptoBulkEntries {H : Type} : List (Lit × DataW H) → Nat
  | [] => 0
  | x :: r => uptoBulkEntry x + uptoBulkEntries r
def uptoBulkEntry {H : Type} : Lit × DataW H → Nat
  | (.string bytes, d) => bytes.length + uptoBulk d + 1
  | (_, d) => uptoBulk d + 1
 end
def uptoSmall : (H : Type) → List (DataW H) → Bool := fun _ ds => decide (uptoBulkAll ds ≤ 1048576)
def OpenSpec.upto (s : _root_.Go.ChangeSpec) : _root_.Go.OpenSpec := { _root_.Go.OpenSpec.ofChange s with cond := some uptoSmall }

/-- 'laws.FnExactReverseSeries', WHERE WHAT IT READS IS OF BULK AT MOST 1048576: true; the input reads as it did. -/
def fnExactReverseSeriesUptoRow : OpenClaim := { program := "ytnjaalblgakgaaa", sum := "36252e3bd7f33889b02bbb6cbafeeefadcc5f56aaef47cd09e4b6c28f18f9ea5", func := "loop.example/g01100/laws.FnExactReverseSeries", spec := "fnExactReverseSeries", unfollowed := true, recurses := true, apart := false, narrowed := true }
def FnExactReverseSeriesUptoSaid : Prop := fnExactReverseSeriesUptoRow.holds Try.pinned (OpenSpec.upto fnExactReverseSeriesSpec)

/-- 'laws.FnExactPowerOfSeries', WHERE WHAT IT READS IS OF BULK AT MOST 1048576: true; the input reads as it did. -/
def fnExactPowerOfSeriesUptoRow : OpenClaim := { program := "ytnjaalblgakgaaa", sum := "36252e3bd7f33889b02bbb6cbafeeefadcc5f56aaef47cd09e4b6c28f18f9ea5", func := "loop.example/g01100/laws.FnExactPowerOfSeries", spec := "fnExactPowerOfSeries", unfollowed := true, recurses := true, apart := false, narrowed := true }
def FnExactPowerOfSeriesUptoSaid : Prop := fnExactPowerOfSeriesUptoRow.holds Try.pinned (OpenSpec.upto fnExactPowerOfSeriesSpec)

/-- 'laws.FnReversions', WHERE WHAT IT READS IS OF BULK AT MOST 1048576: true; the input reads as it did. -/
def fnReversionsUptoRow : OpenClaim := { program := "ytnjaalblgakgaaa", sum := "36252e3bd7f33889b02bbb6cbafeeefadcc5f56aaef47cd09e4b6c28f18f9ea5", func := "loop.example/g01100/laws.FnReversions", spec := "fnReversions", unfollowed := true, recurses := true, apart := false, narrowed := true }
def FnReversionsUptoSaid : Prop := fnReversionsUptoRow.holds Try.pinned (OpenSpec.upto fnReversionsSpec)

/-- 'laws.FnSeriesProducts', WHERE WHAT IT READS IS OF BULK AT MOST 1048576: true; the input reads as it did. -/
def fnSeriesProductsUptoRow : OpenClaim := { program := "ytnjaalblgakgaaa", sum := "36252e3bd7f33889b02bbb6cbafeeefadcc5f56aaef47cd09e4b6c28f18f9ea5", func := "loop.example/g01100/laws.FnSeriesProducts", spec := "fnSeriesProducts", unfollowed := true, recurses := true, apart := false, narrowed := true }
def FnSeriesProductsUptoSaid : Prop := fnSeriesProductsUptoRow.holds Try.pinned (OpenSpec.upto fnSeriesProductsSpec)

/-- 'laws.FnCompositions', WHERE WHAT IT READS IS OF BULK AT MOST 1048576: true; the input reads as it did. -/
def fnCompositionsUptoRow : OpenClaim := { program := "ytnjaalblgakgaaa", sum := "36252e3bd7f33889b02bbb6cbafeeefadcc5f56aaef47cd09e4b6c28f18f9ea5", func := "loop.example/g01100/laws.FnCompositions", spec := "fnCompositions", unfollowed := true, recurses := true, apart := false, narrowed := true }
def FnCompositionsUptoSaid : Prop := fnCompositionsUptoRow.holds Try.pinned (OpenSpec.upto fnCompositionsSpec)

/-- 'laws.FnExponentials', WHERE WHAT IT READS IS OF BULK AT MOST 1048576: true; the input reads as it did. -/
def fnExponentialsUptoRow : OpenClaim := { program := "ytnjaalblgakgaaa", sum := "36252e3bd7f33889b02bbb6cbafeeefadcc5f56aaef47cd09e4b6c28f18f9ea5", func := "loop.example/g01100/laws.FnExponentials", spec := "fnExponentials", unfollowed := true, recurses := true, apart := false, narrowed := true }
def FnExponentialsUptoSaid : Prop := fnExponentialsUptoRow.holds Try.pinned (OpenSpec.upto fnExponentialsSpec)

/-- 'laws.FnRootsOfNumbers', WHERE WHAT IT READS IS OF BULK AT MOST 1048576: true; the input reads as it did. -/
def fnRootsOfNumbersUptoRow : OpenClaim := { program := "ytnjaalblgakgaaa", sum := "36252e3bd7f33889b02bbb6cbafeeefadcc5f56aaef47cd09e4b6c28f18f9ea5", func := "loop.example/g01100/laws.FnRootsOfNumbers", spec := "fnRootsOfNumbers", apart := false, narrowed := true }
def FnRootsOfNumbersUptoSaid : Prop := fnRootsOfNumbersUptoRow.holds Try.pinned (OpenSpec.upto fnRootsOfNumbersSpec)

/-- 'laws.FnFieldLaws', WHERE WHAT IT READS IS OF BULK AT MOST 1048576: true; the input reads as it did. -/
def fnFieldLawsUptoRow : OpenClaim := { program := "ytnjaalblgakgaaa", sum := "36252e3bd7f33889b02bbb6cbafeeefadcc5f56aaef47cd09e4b6c28f18f9ea5", func := "loop.example/g01100/laws.FnFieldLaws", spec := "fnFieldLaws", unfollowed := true, recurses := true, apart := false, narrowed := true }
def FnFieldLawsUptoSaid : Prop := fnFieldLawsUptoRow.holds Try.pinned (OpenSpec.upto fnFieldLawsSpec)

end Rows
end Go.Proofs.Ytnjaalblgakgaaa
