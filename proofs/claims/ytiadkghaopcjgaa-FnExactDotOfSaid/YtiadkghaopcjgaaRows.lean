/-
  No cell of these rows narrows 'for every input' (looked for: loops, veiled, ifaces, maps, wideKeys, modest, calm, conditions, laid).
  DERIVED. THE GIVEN ROWS OF THIS SEAT. 12 by the template 'for every input the law returns true; each argument reads behind the call as it read before'; 0 by the template 'total and deterministic' (their statements: YtiadkghaopcjgaaTotals.lean).
  GIVEN WITH THE SEED: the statements are not yours to turn. If you find one false, say at which input.
  Laid BY PROGRAM, IN A SANDBOX (cutbox-rows.mjs): the forced cells as the released guide's own fill.sh prints them over the translation 574eca2e27af11dc… (all of the seat's roots in one cut). By AI agents, Wed Nov 11 2026. No macro, syntax, notation, axiom, sorry.
-/
import Derived.Test.YtiadkghaopcjgaaChecked
import GoSem.Claim
import GoSem.ClaimJoined
import GoSem.ClaimMapViews
import Derived.JoinedTies
import Derived.KernelRfl
namespace Go.Proofs.Ytiadkghaopcjgaa
/- THE CELL 'sum', in the pinned program and in every row, IS THE sha256 OF THE DUMP (.gsa) THAT YtiadkghaopcjgaaProg.lean LOADS. Nothing in Lean hashes anything: it is a label: what it is worth is what the hold of that sum in a sandbox is worth. -/
noncomputable def Try.pinned : Pinned := { name := "ytiadkghaopcjgaa", sum := "574eca2e27af11dc377a5b6a6b3feb1bb7558866e51b45e961ab2cdfbaa2fa5b", checked := Try.checked }
namespace Rows
def none {H : Type} : Left H := { results := [], args := [] }

/-- 'laws.FnExactConstants': WHATEVER THE INPUT: true; the input reads as it did. -/
def fnExactConstantsSpec : ChangeSpec := { name := "fnExactConstants", fn := fun _ => fun
  | [] => { results := [.lit (.bool true)], args := [] }
  | _ => none }
def fnExactConstantsRow : OpenClaim := { program := "ytiadkghaopcjgaa", sum := "574eca2e27af11dc377a5b6a6b3feb1bb7558866e51b45e961ab2cdfbaa2fa5b", func := "loop.example/g01100/laws.FnExactConstants", spec := "fnExactConstants", apart := false }
def FnExactConstantsSaid : Prop := fnExactConstantsRow.holds Try.pinned (OpenSpec.ofChange fnExactConstantsSpec)

/-- ITS FALSE NEIGHBOUR: 'it returns false'. Refute it at one input. -/
def fnExactConstantsWrong : ChangeSpec := { name := "fnExactConstants", fn := fun _ => fun
  | [] => { results := [.lit (.bool false)], args := [] }
  | _ => none }
def FnExactConstantsWrongFalsely : Prop := fnExactConstantsRow.holds Try.pinned (OpenSpec.ofChange fnExactConstantsWrong)

/-- 'laws.FnExactIsNumber': WHATEVER THE INPUT: true; the input reads as it did. -/
def fnExactIsNumberSpec : ChangeSpec := { name := "fnExactIsNumber", fn := fun _ => fun
  | [d] => { results := [.lit (.bool true)], args := [d] }
  | _ => none }
def fnExactIsNumberRow : OpenClaim := { program := "ytiadkghaopcjgaa", sum := "574eca2e27af11dc377a5b6a6b3feb1bb7558866e51b45e961ab2cdfbaa2fa5b", func := "loop.example/g01100/laws.FnExactIsNumber", spec := "fnExactIsNumber", apart := false }
def FnExactIsNumberSaid : Prop := fnExactIsNumberRow.holds Try.pinned (OpenSpec.ofChange fnExactIsNumberSpec)

/-- ITS FALSE NEIGHBOUR: 'it returns false'. Refute it at one input. -/
def fnExactIsNumberWrong : ChangeSpec := { name := "fnExactIsNumber", fn := fun _ => fun
  | [d] => { results := [.lit (.bool false)], args := [d] }
  | _ => none }
def FnExactIsNumberWrongFalsely : Prop := fnExactIsNumberRow.holds Try.pinned (OpenSpec.ofChange fnExactIsNumberWrong)

/-- 'laws.FnExactAddNumbers': WHATEVER THE INPUT: true; the input reads as it did. -/
def fnExactAddNumbersSpec : ChangeSpec := { name := "fnExactAddNumbers", fn := fun _ => fun
  | [d1, d2] => { results := [.lit (.bool true)], args := [d1, d2] }
  | _ => none }
def fnExactAddNumbersRow : OpenClaim := { program := "ytiadkghaopcjgaa", sum := "574eca2e27af11dc377a5b6a6b3feb1bb7558866e51b45e961ab2cdfbaa2fa5b", func := "loop.example/g01100/laws.FnExactAddNumbers", spec := "fnExactAddNumbers", unfollowed := true, recurses := true, apart := false }
def FnExactAddNumbersSaid : Prop := fnExactAddNumbersRow.holds Try.pinned (OpenSpec.ofChange fnExactAddNumbersSpec)

/-- ITS FALSE NEIGHBOUR: 'it returns false'. Refute it at one input. -/
def fnExactAddNumbersWrong : ChangeSpec := { name := "fnExactAddNumbers", fn := fun _ => fun
  | [d1, d2] => { results := [.lit (.bool false)], args := [d1, d2] }
  | _ => none }
def FnExactAddNumbersWrongFalsely : Prop := fnExactAddNumbersRow.holds Try.pinned (OpenSpec.ofChange fnExactAddNumbersWrong)

/-- 'laws.FnExactMultiplyNumbers': WHATEVER THE INPUT: true; the input reads as it did. -/
def fnExactMultiplyNumbersSpec : ChangeSpec := { name := "fnExactMultiplyNumbers", fn := fun _ => fun
  | [d1, d2] => { results := [.lit (.bool true)], args := [d1, d2] }
  | _ => none }
def fnExactMultiplyNumbersRow : OpenClaim := { program := "ytiadkghaopcjgaa", sum := "574eca2e27af11dc377a5b6a6b3feb1bb7558866e51b45e961ab2cdfbaa2fa5b", func := "loop.example/g01100/laws.FnExactMultiplyNumbers", spec := "fnExactMultiplyNumbers", unfollowed := true, recurses := true, apart := false }
def FnExactMultiplyNumbersSaid : Prop := fnExactMultiplyNumbersRow.holds Try.pinned (OpenSpec.ofChange fnExactMultiplyNumbersSpec)

/-- ITS FALSE NEIGHBOUR: 'it returns false'. Refute it at one input. -/
def fnExactMultiplyNumbersWrong : ChangeSpec := { name := "fnExactMultiplyNumbers", fn := fun _ => fun
  | [d1, d2] => { results := [.lit (.bool false)], args := [d1, d2] }
  | _ => none }
def FnExactMultiplyNumbersWrongFalsely : Prop := fnExactMultiplyNumbersRow.holds Try.pinned (OpenSpec.ofChange fnExactMultiplyNumbersWrong)

/-- 'laws.FnExactSubtractNumbers': WHATEVER THE INPUT: true; the input reads as it did. -/
def fnExactSubtractNumbersSpec : ChangeSpec := { name := "fnExactSubtractNumbers", fn := fun _ => fun
  | [d1, d2] => { results := [.lit (.bool true)], args := [d1, d2] }
  | _ => none }
def fnExactSubtractNumbersRow : OpenClaim := { program := "ytiadkghaopcjgaa", sum := "574eca2e27af11dc377a5b6a6b3feb1bb7558866e51b45e961ab2cdfbaa2fa5b", func := "loop.example/g01100/laws.FnExactSubtractNumbers", spec := "fnExactSubtractNumbers", unfollowed := true, recurses := true, apart := false }
def FnExactSubtractNumbersSaid : Prop := fnExactSubtractNumbersRow.holds Try.pinned (OpenSpec.ofChange fnExactSubtractNumbersSpec)

/-- ITS FALSE NEIGHBOUR: 'it returns false'. Refute it at one input. -/
def fnExactSubtractNumbersWrong : ChangeSpec := { name := "fnExactSubtractNumbers", fn := fun _ => fun
  | [d1, d2] => { results := [.lit (.bool false)], args := [d1, d2] }
  | _ => none }
def FnExactSubtractNumbersWrongFalsely : Prop := fnExactSubtractNumbersRow.holds Try.pinned (OpenSpec.ofChange fnExactSubtractNumbersWrong)

/-- 'laws.FnExactSquareRoot': WHATEVER THE INPUT: true; the input reads as it did. -/
def fnExactSquareRootSpec : ChangeSpec := { name := "fnExactSquareRoot", fn := fun _ => fun
  | [d] => { results := [.lit (.bool true)], args := [d] }
  | _ => none }
def fnExactSquareRootRow : OpenClaim := { program := "ytiadkghaopcjgaa", sum := "574eca2e27af11dc377a5b6a6b3feb1bb7558866e51b45e961ab2cdfbaa2fa5b", func := "loop.example/g01100/laws.FnExactSquareRoot", spec := "fnExactSquareRoot", apart := false }
def FnExactSquareRootSaid : Prop := fnExactSquareRootRow.holds Try.pinned (OpenSpec.ofChange fnExactSquareRootSpec)

/-- ITS FALSE NEIGHBOUR: 'it returns false'. Refute it at one input. -/
def fnExactSquareRootWrong : ChangeSpec := { name := "fnExactSquareRoot", fn := fun _ => fun
  | [d] => { results := [.lit (.bool false)], args := [d] }
  | _ => none }
def FnExactSquareRootWrongFalsely : Prop := fnExactSquareRootRow.holds Try.pinned (OpenSpec.ofChange fnExactSquareRootWrong)

/-- 'laws.FnExactNumberOf': WHATEVER THE INPUT: true; the input reads as it did. -/
def fnExactNumberOfSpec : ChangeSpec := { name := "fnExactNumberOf", fn := fun _ => fun
  | [d1, d2] => { results := [.lit (.bool true)], args := [d1, d2] }
  | _ => none }
def fnExactNumberOfRow : OpenClaim := { program := "ytiadkghaopcjgaa", sum := "574eca2e27af11dc377a5b6a6b3feb1bb7558866e51b45e961ab2cdfbaa2fa5b", func := "loop.example/g01100/laws.FnExactNumberOf", spec := "fnExactNumberOf", apart := false }
def FnExactNumberOfSaid : Prop := fnExactNumberOfRow.holds Try.pinned (OpenSpec.ofChange fnExactNumberOfSpec)

/-- ITS FALSE NEIGHBOUR: 'it returns false'. Refute it at one input. -/
def fnExactNumberOfWrong : ChangeSpec := { name := "fnExactNumberOf", fn := fun _ => fun
  | [d1, d2] => { results := [.lit (.bool false)], args := [d1, d2] }
  | _ => none }
def FnExactNumberOfWrongFalsely : Prop := fnExactNumberOfRow.holds Try.pinned (OpenSpec.ofChange fnExactNumberOfWrong)

/-- 'laws.FnExactRootNumber': WHATEVER THE INPUT: true; the input reads as it did. -/
def fnExactRootNumberSpec : ChangeSpec := { name := "fnExactRootNumber", fn := fun _ => fun
  | [d1, d2] => { results := [.lit (.bool true)], args := [d1, d2] }
  | _ => none }
def fnExactRootNumberRow : OpenClaim := { program := "ytiadkghaopcjgaa", sum := "574eca2e27af11dc377a5b6a6b3feb1bb7558866e51b45e961ab2cdfbaa2fa5b", func := "loop.example/g01100/laws.FnExactRootNumber", spec := "fnExactRootNumber", apart := false }
def FnExactRootNumberSaid : Prop := fnExactRootNumberRow.holds Try.pinned (OpenSpec.ofChange fnExactRootNumberSpec)

/-- ITS FALSE NEIGHBOUR: 'it returns false'. Refute it at one input. -/
def fnExactRootNumberWrong : ChangeSpec := { name := "fnExactRootNumber", fn := fun _ => fun
  | [d1, d2] => { results := [.lit (.bool false)], args := [d1, d2] }
  | _ => none }
def FnExactRootNumberWrongFalsely : Prop := fnExactRootNumberRow.holds Try.pinned (OpenSpec.ofChange fnExactRootNumberWrong)

/-- 'laws.FnExactPowerNumber': WHATEVER THE INPUT: true; the input reads as it did. -/
def fnExactPowerNumberSpec : ChangeSpec := { name := "fnExactPowerNumber", fn := fun _ => fun
  | [d1, d2] => { results := [.lit (.bool true)], args := [d1, d2] }
  | _ => none }
def fnExactPowerNumberRow : OpenClaim := { program := "ytiadkghaopcjgaa", sum := "574eca2e27af11dc377a5b6a6b3feb1bb7558866e51b45e961ab2cdfbaa2fa5b", func := "loop.example/g01100/laws.FnExactPowerNumber", spec := "fnExactPowerNumber", apart := false }
def FnExactPowerNumberSaid : Prop := fnExactPowerNumberRow.holds Try.pinned (OpenSpec.ofChange fnExactPowerNumberSpec)

/-- ITS FALSE NEIGHBOUR: 'it returns false'. Refute it at one input. -/
def fnExactPowerNumberWrong : ChangeSpec := { name := "fnExactPowerNumber", fn := fun _ => fun
  | [d1, d2] => { results := [.lit (.bool false)], args := [d1, d2] }
  | _ => none }
def FnExactPowerNumberWrongFalsely : Prop := fnExactPowerNumberRow.holds Try.pinned (OpenSpec.ofChange fnExactPowerNumberWrong)

/-- 'laws.FnExactDivideNumbers': WHATEVER THE INPUT: true; the input reads as it did. -/
def fnExactDivideNumbersSpec : ChangeSpec := { name := "fnExactDivideNumbers", fn := fun _ => fun
  | [d1, d2] => { results := [.lit (.bool true)], args := [d1, d2] }
  | _ => none }
def fnExactDivideNumbersRow : OpenClaim := { program := "ytiadkghaopcjgaa", sum := "574eca2e27af11dc377a5b6a6b3feb1bb7558866e51b45e961ab2cdfbaa2fa5b", func := "loop.example/g01100/laws.FnExactDivideNumbers", spec := "fnExactDivideNumbers", unfollowed := true, recurses := true, apart := false }
def FnExactDivideNumbersSaid : Prop := fnExactDivideNumbersRow.holds Try.pinned (OpenSpec.ofChange fnExactDivideNumbersSpec)

/-- ITS FALSE NEIGHBOUR: 'it returns false'. Refute it at one input. -/
def fnExactDivideNumbersWrong : ChangeSpec := { name := "fnExactDivideNumbers", fn := fun _ => fun
  | [d1, d2] => { results := [.lit (.bool false)], args := [d1, d2] }
  | _ => none }
def FnExactDivideNumbersWrongFalsely : Prop := fnExactDivideNumbersRow.holds Try.pinned (OpenSpec.ofChange fnExactDivideNumbersWrong)

/-- 'laws.FnExactSumOf': WHATEVER THE INPUT: true; the input reads as it did. -/
def fnExactSumOfSpec : ChangeSpec := { name := "fnExactSumOf", fn := fun _ => fun
  | [d] => { results := [.lit (.bool true)], args := [d] }
  | _ => none }
def fnExactSumOfRow : OpenClaim := { program := "ytiadkghaopcjgaa", sum := "574eca2e27af11dc377a5b6a6b3feb1bb7558866e51b45e961ab2cdfbaa2fa5b", func := "loop.example/g01100/laws.FnExactSumOf", spec := "fnExactSumOf", unfollowed := true, recurses := true, apart := false }
def FnExactSumOfSaid : Prop := fnExactSumOfRow.holds Try.pinned (OpenSpec.ofChange fnExactSumOfSpec)

/-- ITS FALSE NEIGHBOUR: 'it returns false'. Refute it at one input. -/
def fnExactSumOfWrong : ChangeSpec := { name := "fnExactSumOf", fn := fun _ => fun
  | [d] => { results := [.lit (.bool false)], args := [d] }
  | _ => none }
def FnExactSumOfWrongFalsely : Prop := fnExactSumOfRow.holds Try.pinned (OpenSpec.ofChange fnExactSumOfWrong)

/-- 'laws.FnExactDotOf': WHATEVER THE INPUT: true; the input reads as it did. -/
def fnExactDotOfSpec : ChangeSpec := { name := "fnExactDotOf", fn := fun _ => fun
  | [d1, d2] => { results := [.lit (.bool true)], args := [d1, d2] }
  | _ => none }
def fnExactDotOfRow : OpenClaim := { program := "ytiadkghaopcjgaa", sum := "574eca2e27af11dc377a5b6a6b3feb1bb7558866e51b45e961ab2cdfbaa2fa5b", func := "loop.example/g01100/laws.FnExactDotOf", spec := "fnExactDotOf", unfollowed := true, recurses := true, apart := false }
def FnExactDotOfSaid : Prop := fnExactDotOfRow.holds Try.pinned (OpenSpec.ofChange fnExactDotOfSpec)

/-- ITS FALSE NEIGHBOUR: 'it returns false'. Refute it at one input. -/
def fnExactDotOfWrong : ChangeSpec := { name := "fnExactDotOf", fn := fun _ => fun
  | [d1, d2] => { results := [.lit (.bool false)], args := [d1, d2] }
  | _ => none }
def FnExactDotOfWrongFalsely : Prop := fnExactDotOfRow.holds Try.pinned (OpenSpec.ofChange fnExactDotOfWrong)

/- THE SECOND FORM. 'bulk': how many values and letters a reading holds, each counted each time it is reached (what is shared counts as often as it is met; a slice's spare places count too). A statement '..UptoSaid' is the law's where the arguments, and the package variables that the reading takes, are together of bulk at most 1048576: NARROWER than '..Said'. Prove '..Said' where nothing that the law and all that it calls make is longer than what came in: it says more and counts as full. Else prove '..UptoSaid'. A law counts once. -/
mutual
def uptoBulk {H : Type} : DataW H → Nat
  | .lit (.string bytes) => bytes.length + 1
  | .lit _ => 1
  | .nil => 1
  | .ptr d => uptoBulk d + 1
  | .slice elems spare => uptoBulkAll elems + uptoBulkAll spare + 1
  | .agg parts => uptoBulkAll parts + 1
  | .iface _ d => uptoBulk d + 1
  | .map entries => uptoBulkEntries entries + 1
  | .held _ => 1
def uptoBulkAll {H : Type} : List (DataW H) → Nat
  | [] => 0
  | d :: r => uptoBulk d + uptoBulkAll r
def uptoBulkEntries {H : Type} : List (Lit × DataW H) → Nat
  | [] => 0
  | x :: r => uptoBulkEntry x + uptoBulkEntries r
def uptoBulkEntry {H : Type} : Lit × DataW H → Nat
  | (.string bytes, d) => bytes.length + uptoBulk d + 1
  | (_, d) => uptoBulk d + 1
 end
def uptoSmall : (H : Type) → List (DataW H) → Bool := fun _ ds => decide (uptoBulkAll ds ≤ 1048576)
def OpenSpec.upto (s : _root_.Go.ChangeSpec) : _root_.Go.OpenSpec := { _root_.Go.OpenSpec.ofChange s with cond := some uptoSmall }

/-- 'laws.FnExactConstants', WHERE WHAT IT READS IS OF BULK AT MOST 1048576: true; the input reads as it did. -/
def fnExactConstantsUptoRow : OpenClaim := { program := "ytiadkghaopcjgaa", sum := "574eca2e27af11dc377a5b6a6b3feb1bb7558866e51b45e961ab2cdfbaa2fa5b", func := "loop.example/g01100/laws.FnExactConstants", spec := "fnExactConstants", apart := false, narrowed := true }
def FnExactConstantsUptoSaid : Prop := fnExactConstantsUptoRow.holds Try.pinned (OpenSpec.upto fnExactConstantsSpec)

/-- 'laws.FnExactIsNumber', WHERE WHAT IT READS IS OF BULK AT MOST 1048576: true; the input reads as it did. -/
def fnExactIsNumberUptoRow : OpenClaim := { program := "ytiadkghaopcjgaa", sum := "574eca2e27af11dc377a5b6a6b3feb1bb7558866e51b45e961ab2cdfbaa2fa5b", func := "loop.example/g01100/laws.FnExactIsNumber", spec := "fnExactIsNumber", apart := false, narrowed := true }
def FnExactIsNumberUptoSaid : Prop := fnExactIsNumberUptoRow.holds Try.pinned (OpenSpec.upto fnExactIsNumberSpec)

/-- 'laws.FnExactAddNumbers', WHERE WHAT IT READS IS OF BULK AT MOST 1048576: true; the input reads as it did. -/
def fnExactAddNumbersUptoRow : OpenClaim := { program := "ytiadkghaopcjgaa", sum := "574eca2e27af11dc377a5b6a6b3feb1bb7558866e51b45e961ab2cdfbaa2fa5b", func := "loop.example/g01100/laws.FnExactAddNumbers", spec := "fnExactAddNumbers", unfollowed := true, recurses := true, apart := false, narrowed := true }
def FnExactAddNumbersUptoSaid : Prop := fnExactAddNumbersUptoRow.holds Try.pinned (OpenSpec.upto fnExactAddNumbersSpec)

/-- 'laws.FnExactMultiplyNumbers', WHERE WHAT IT READS IS OF BULK AT MOST 1048576: true; the input reads as it did. -/
def fnExactMultiplyNumbersUptoRow : OpenClaim := { program := "ytiadkghaopcjgaa", sum := "574eca2e27af11dc377a5b6a6b3feb1bb7558866e51b45e961ab2cdfbaa2fa5b", func := "loop.example/g01100/laws.FnExactMultiplyNumbers", spec := "fnExactMultiplyNumbers", unfollowed := true, recurses := true, apart := false, narrowed := true }
def FnExactMultiplyNumbersUptoSaid : Prop := fnExactMultiplyNumbersUptoRow.holds Try.pinned (OpenSpec.upto fnExactMultiplyNumbersSpec)

/-- 'laws.FnExactSubtractNumbers', WHERE WHAT IT READS IS OF BULK AT MOST 1048576: true; the input reads as it did. -/
def fnExactSubtractNumbersUptoRow : OpenClaim := { program := "ytiadkghaopcjgaa", sum := "574eca2e27af11dc377a5b6a6b3feb1bb7558866e51b45e961ab2cdfbaa2fa5b", func := "loop.example/g01100/laws.FnExactSubtractNumbers", spec := "fnExactSubtractNumbers", unfollowed := true, recurses := true, apart := false, narrowed := true }
def FnExactSubtractNumbersUptoSaid : Prop := fnExactSubtractNumbersUptoRow.holds Try.pinned (OpenSpec.upto fnExactSubtractNumbersSpec)

/-- 'laws.FnExactSquareRoot', WHERE WHAT IT READS IS OF BULK AT MOST 1048576: true; the input reads as it did. -/
def fnExactSquareRootUptoRow : OpenClaim := { program := "ytiadkghaopcjgaa", sum := "574eca2e27af11dc377a5b6a6b3feb1bb7558866e51b45e961ab2cdfbaa2fa5b", func := "loop.example/g01100/laws.FnExactSquareRoot", spec := "fnExactSquareRoot", apart := false, narrowed := true }
def FnExactSquareRootUptoSaid : Prop := fnExactSquareRootUptoRow.holds Try.pinned (OpenSpec.upto fnExactSquareRootSpec)

/-- 'laws.FnExactNumberOf', WHERE WHAT IT READS IS OF BULK AT MOST 1048576: true; the input reads as it did. -/
def fnExactNumberOfUptoRow : OpenClaim := { program := "ytiadkghaopcjgaa", sum := "574eca2e27af11dc377a5b6a6b3feb1bb7558866e51b45e961ab2cdfbaa2fa5b", func := "loop.example/g01100/laws.FnExactNumberOf", spec := "fnExactNumberOf", apart := false, narrowed := true }
def FnExactNumberOfUptoSaid : Prop := fnExactNumberOfUptoRow.holds Try.pinned (OpenSpec.upto fnExactNumberOfSpec)

/-- 'laws.FnExactRootNumber', WHERE WHAT IT READS IS OF BULK AT MOST 1048576: true; the input reads as it did. -/
def fnExactRootNumberUptoRow : OpenClaim := { program := "ytiadkghaopcjgaa", sum := "574eca2e27af11dc377a5b6a6b3feb1bb7558866e51b45e961ab2cdfbaa2fa5b", func := "loop.example/g01100/laws.FnExactRootNumber", spec := "fnExactRootNumber", apart := false, narrowed := true }
def FnExactRootNumberUptoSaid : Prop := fnExactRootNumberUptoRow.holds Try.pinned (OpenSpec.upto fnExactRootNumberSpec)

/-- 'laws.FnExactPowerNumber', WHERE WHAT IT READS IS OF BULK AT MOST 1048576: true; the input reads as it did. -/
def fnExactPowerNumberUptoRow : OpenClaim := { program := "ytiadkghaopcjgaa", sum := "574eca2e27af11dc377a5b6a6b3feb1bb7558866e51b45e961ab2cdfbaa2fa5b", func := "loop.example/g01100/laws.FnExactPowerNumber", spec := "fnExactPowerNumber", apart := false, narrowed := true }
def FnExactPowerNumberUptoSaid : Prop := fnExactPowerNumberUptoRow.holds Try.pinned (OpenSpec.upto fnExactPowerNumberSpec)

/-- 'laws.FnExactDivideNumbers', WHERE WHAT IT READS IS OF BULK AT MOST 1048576: true; the input reads as it did. -/
def fnExactDivideNumbersUptoRow : OpenClaim := { program := "ytiadkghaopcjgaa", sum := "574eca2e27af11dc377a5b6a6b3feb1bb7558866e51b45e961ab2cdfbaa2fa5b", func := "loop.example/g01100/laws.FnExactDivideNumbers", spec := "fnExactDivideNumbers", unfollowed := true, recurses := true, apart := false, narrowed := true }
def FnExactDivideNumbersUptoSaid : Prop := fnExactDivideNumbersUptoRow.holds Try.pinned (OpenSpec.upto fnExactDivideNumbersSpec)

/-- 'laws.FnExactSumOf', WHERE WHAT IT READS IS OF BULK AT MOST 1048576: true; the input reads as it did. -/
def fnExactSumOfUptoRow : OpenClaim := { program := "ytiadkghaopcjgaa", sum := "574eca2e27af11dc377a5b6a6b3feb1bb7558866e51b45e961ab2cdfbaa2fa5b", func := "loop.example/g01100/laws.FnExactSumOf", spec := "fnExactSumOf", unfollowed := true, recurses := true, apart := false, narrowed := true }
def FnExactSumOfUptoSaid : Prop := fnExactSumOfUptoRow.holds Try.pinned (OpenSpec.upto fnExactSumOfSpec)

/-- 'laws.FnExactDotOf', WHERE WHAT IT READS IS OF BULK AT MOST 1048576: true; the input reads as it did. -/
def fnExactDotOfUptoRow : OpenClaim := { program := "ytiadkghaopcjgaa", sum := "574eca2e27af11dc377a5b6a6b3feb1bb7558866e51b45e961ab2cdfbaa2fa5b", func := "loop.example/g01100/laws.FnExactDotOf", spec := "fnExactDotOf", unfollowed := true, recurses := true, apart := false, narrowed := true }
def FnExactDotOfUptoSaid : Prop := fnExactDotOfUptoRow.holds Try.pinned (OpenSpec.upto fnExactDotOfSpec)

end Rows
end Go.Proofs.Ytiadkghaopcjgaa
