/-
  No cell of these rows narrows 'for every input' (looked for: loops, veiled, ifaces, maps, wideKeys, modest, calm, conditions, laid).
  DERIVED. THE GIVEN ROWS OF THIS SEAT. 6 by the template 'for every input the law returns true; each argument reads behind the call as it read before'; 0 by the template 'total and deterministic' (their statements: YthjdmkjncaemgaaTotals.lean).
  GIVEN WITH THE SEED: the statements are not yours to turn. If you find one false, say at which input.
  Laid BY PROGRAM, IN A SANDBOX (cutbox-rows.mjs): the forced cells as the released guide's own fill.sh prints them over the translation 7b05b2ecdc3ea776… (all of the seat's roots in one cut). By AI agents, Wed Nov 11 2026. No macro, syntax, notation, axiom, sorry.
-/
import Derived.Test.YthjdmkjncaemgaaChecked
import GoSem.Claim
import GoSem.ClaimJoined
import GoSem.ClaimMapViews
import Derived.JoinedTies
import Derived.KernelRfl
namespace Go.Proofs.Ythjdmkjncaemgaa
/- THE CELL 'sum', in the pinned program and in every row, IS THE sha256 OF THE DUMP (.gsa) THAT YthjdmkjncaemgaaProg.lean LOADS. Nothing in Lean hashes anything: it is a label: what it is worth is what the hold of that sum in a sandbox is worth. -/
noncomputable def Try.pinned : Pinned := { name := "ythjdmkjncaemgaa", sum := "7b05b2ecdc3ea7762a5486fa892cf6d55f385f05825bfaac57d522b7e4cd056d", checked := Try.checked }
namespace Rows
def none {H : Type} : Left H := { results := [], args := [] }

/-- 'laws.FnExactTreeText': WHATEVER THE INPUT: true; the input reads as it did. -/
def fnExactTreeTextSpec : ChangeSpec := { name := "fnExactTreeText", fn := fun _ => fun
  | [d] => { results := [.lit (.bool true)], args := [d] }
  | _ => none }
def fnExactTreeTextRow : OpenClaim := { program := "ythjdmkjncaemgaa", sum := "7b05b2ecdc3ea7762a5486fa892cf6d55f385f05825bfaac57d522b7e4cd056d", func := "loop.example/g01100/laws.FnExactTreeText", spec := "fnExactTreeText", inPlace := ["internal/abi.NoEscape"], unfollowed := true, recurses := true, apart := false }
def FnExactTreeTextSaid : Prop := fnExactTreeTextRow.holds Try.pinned (OpenSpec.ofChange fnExactTreeTextSpec)

/-- ITS FALSE NEIGHBOUR: 'it returns false'. Refute it at one input. -/
def fnExactTreeTextWrong : ChangeSpec := { name := "fnExactTreeText", fn := fun _ => fun
  | [d] => { results := [.lit (.bool false)], args := [d] }
  | _ => none }
def FnExactTreeTextWrongFalsely : Prop := fnExactTreeTextRow.holds Try.pinned (OpenSpec.ofChange fnExactTreeTextWrong)

/-- 'laws.FnExactParseTree': WHATEVER THE INPUT: true; the input reads as it did. -/
def fnExactParseTreeSpec : ChangeSpec := { name := "fnExactParseTree", fn := fun _ => fun
  | [d] => { results := [.lit (.bool true)], args := [d] }
  | _ => none }
def fnExactParseTreeRow : OpenClaim := { program := "ythjdmkjncaemgaa", sum := "7b05b2ecdc3ea7762a5486fa892cf6d55f385f05825bfaac57d522b7e4cd056d", func := "loop.example/g01100/laws.FnExactParseTree", spec := "fnExactParseTree", unfollowed := true, recurses := true, apart := false }
def FnExactParseTreeSaid : Prop := fnExactParseTreeRow.holds Try.pinned (OpenSpec.ofChange fnExactParseTreeSpec)

/-- ITS FALSE NEIGHBOUR: 'it returns false'. Refute it at one input. -/
def fnExactParseTreeWrong : ChangeSpec := { name := "fnExactParseTree", fn := fun _ => fun
  | [d] => { results := [.lit (.bool false)], args := [d] }
  | _ => none }
def FnExactParseTreeWrongFalsely : Prop := fnExactParseTreeRow.holds Try.pinned (OpenSpec.ofChange fnExactParseTreeWrong)

/-- 'laws.FnExactIsForest': WHATEVER THE INPUT: true; the input reads as it did. -/
def fnExactIsForestSpec : ChangeSpec := { name := "fnExactIsForest", fn := fun _ => fun
  | [d] => { results := [.lit (.bool true)], args := [d] }
  | _ => none }
def fnExactIsForestRow : OpenClaim := { program := "ythjdmkjncaemgaa", sum := "7b05b2ecdc3ea7762a5486fa892cf6d55f385f05825bfaac57d522b7e4cd056d", func := "loop.example/g01100/laws.FnExactIsForest", spec := "fnExactIsForest", unfollowed := true, recurses := true, apart := false }
def FnExactIsForestSaid : Prop := fnExactIsForestRow.holds Try.pinned (OpenSpec.ofChange fnExactIsForestSpec)

/-- ITS FALSE NEIGHBOUR: 'it returns false'. Refute it at one input. -/
def fnExactIsForestWrong : ChangeSpec := { name := "fnExactIsForest", fn := fun _ => fun
  | [d] => { results := [.lit (.bool false)], args := [d] }
  | _ => none }
def FnExactIsForestWrongFalsely : Prop := fnExactIsForestRow.holds Try.pinned (OpenSpec.ofChange fnExactIsForestWrong)

/-- 'laws.FnExactRootOn': WHATEVER THE INPUT: true; the input reads as it did. -/
def fnExactRootOnSpec : ChangeSpec := { name := "fnExactRootOn", fn := fun _ => fun
  | [d] => { results := [.lit (.bool true)], args := [d] }
  | _ => none }
def fnExactRootOnRow : OpenClaim := { program := "ythjdmkjncaemgaa", sum := "7b05b2ecdc3ea7762a5486fa892cf6d55f385f05825bfaac57d522b7e4cd056d", func := "loop.example/g01100/laws.FnExactRootOn", spec := "fnExactRootOn", unfollowed := true, recurses := true, apart := false }
def FnExactRootOnSaid : Prop := fnExactRootOnRow.holds Try.pinned (OpenSpec.ofChange fnExactRootOnSpec)

/-- ITS FALSE NEIGHBOUR: 'it returns false'. Refute it at one input. -/
def fnExactRootOnWrong : ChangeSpec := { name := "fnExactRootOn", fn := fun _ => fun
  | [d] => { results := [.lit (.bool false)], args := [d] }
  | _ => none }
def FnExactRootOnWrongFalsely : Prop := fnExactRootOnRow.holds Try.pinned (OpenSpec.ofChange fnExactRootOnWrong)

/-- 'laws.FnExactParseForest': WHATEVER THE INPUT: true; the input reads as it did. -/
def fnExactParseForestSpec : ChangeSpec := { name := "fnExactParseForest", fn := fun _ => fun
  | [d] => { results := [.lit (.bool true)], args := [d] }
  | _ => none }
def fnExactParseForestRow : OpenClaim := { program := "ythjdmkjncaemgaa", sum := "7b05b2ecdc3ea7762a5486fa892cf6d55f385f05825bfaac57d522b7e4cd056d", func := "loop.example/g01100/laws.FnExactParseForest", spec := "fnExactParseForest", unfollowed := true, recurses := true, apart := false }
def FnExactParseForestSaid : Prop := fnExactParseForestRow.holds Try.pinned (OpenSpec.ofChange fnExactParseForestSpec)

/-- ITS FALSE NEIGHBOUR: 'it returns false'. Refute it at one input. -/
def fnExactParseForestWrong : ChangeSpec := { name := "fnExactParseForest", fn := fun _ => fun
  | [d] => { results := [.lit (.bool false)], args := [d] }
  | _ => none }
def FnExactParseForestWrongFalsely : Prop := fnExactParseForestRow.holds Try.pinned (OpenSpec.ofChange fnExactParseForestWrong)

/-- 'laws.FnExactForestText': WHATEVER THE INPUT: true; the input reads as it did. -/
def fnExactForestTextSpec : ChangeSpec := { name := "fnExactForestText", fn := fun _ => fun
  | [d] => { results := [.lit (.bool true)], args := [d] }
  | _ => none }
def fnExactForestTextRow : OpenClaim := { program := "ythjdmkjncaemgaa", sum := "7b05b2ecdc3ea7762a5486fa892cf6d55f385f05825bfaac57d522b7e4cd056d", func := "loop.example/g01100/laws.FnExactForestText", spec := "fnExactForestText", inPlace := ["internal/abi.NoEscape"], unfollowed := true, recurses := true, apart := false }
def FnExactForestTextSaid : Prop := fnExactForestTextRow.holds Try.pinned (OpenSpec.ofChange fnExactForestTextSpec)

/-- ITS FALSE NEIGHBOUR: 'it returns false'. Refute it at one input. -/
def fnExactForestTextWrong : ChangeSpec := { name := "fnExactForestText", fn := fun _ => fun
  | [d] => { results := [.lit (.bool false)], args := [d] }
  | _ => none }
def FnExactForestTextWrongFalsely : Prop := fnExactForestTextRow.holds Try.pinned (OpenSpec.ofChange fnExactForestTextWrong)

/- THE SECOND FORM. 'bulk': how many values and letters a reading holds, each counted each time it is reached (what is shared counts as often as it is met; a slice's spare places count too). A statement '..UptoSaid' is the law's where the arguments, and the package variables that the reading takes, are together of bulk at most 1048576: NARROWER than '..Said'. Prove '..Said' where nothing that the law and all that it calls make is longer than what came in: it says more and counts as full. Else prove '..UptoSaid'. A law counts once. -/
mutual
def uptoBulk {H : Type} : DataW H → Nat
  | .lit (.string bytes) => bytes.length + 1
  | .lit _ => 1
  | .nil => 1
  | .ptr d => uptoBulk d + 1
  | .slice elems spare => uptoBulkAll elems + uptoBulkAll spare + 1
  | .agg parts => uptoBulkAll parts + 1
  | .iface _ d => uptoBulk d + 1
  | .map entries => uptoBulkEntries entries + 1
  | .held _ => 1
def uptoBulkAll {H : Type} : List (DataW H) → Nat
  | [] => 0
  | d :: r => uptoBulk d + uptoBulkAll r
def uptoBulkEntries {H : Type} : List (Lit × DataW H) → Nat
  | [] => 0
  | x :: r => uptoBulkEntry x + uptoBulkEntries r
def uptoBulkEntry {H : Type} : Lit × DataW H → Nat
  | (.string bytes, d) => bytes.length + uptoBulk d + 1
  | (_, d) => uptoBulk d + 1
 end
def uptoSmall : (H : Type) → List (DataW H) → Bool := fun _ ds => decide (uptoBulkAll ds ≤ 1048576)
def OpenSpec.upto (s : _root_.Go.ChangeSpec) : _root_.Go.OpenSpec := { _root_.Go.OpenSpec.ofChange s with cond := some uptoSmall }

/-- 'laws.FnExactTreeText', WHERE WHAT IT READS IS OF BULK AT MOST 1048576: true; the input reads as it did. -/
def fnExactTreeTextUptoRow : OpenClaim := { program := "ythjdmkjncaemgaa", sum := "7b05b2ecdc3ea7762a5486fa892cf6d55f385f05825bfaac57d522b7e4cd056d", func := "loop.example/g01100/laws.FnExactTreeText", spec := "fnExactTreeText", inPlace := ["internal/abi.NoEscape"], unfollowed := true, recurses := true, apart := false, narrowed := true }
def FnExactTreeTextUptoSaid : Prop := fnExactTreeTextUptoRow.holds Try.pinned (OpenSpec.upto fnExactTreeTextSpec)

/-- 'laws.FnExactParseTree', WHERE WHAT IT READS IS OF BULK AT MOST 1048576: true; the input reads as it did. -/
def fnExactParseTreeUptoRow : OpenClaim := { program := "ythjdmkjncaemgaa", sum := "7b05b2ecdc3ea7762a5486fa892cf6d55f385f05825bfaac57d522b7e4cd056d", func := "loop.example/g01100/laws.FnExactParseTree", spec := "fnExactParseTree", unfollowed := true, recurses := true, apart := false, narrowed := true }
def FnExactParseTreeUptoSaid : Prop := fnExactParseTreeUptoRow.holds Try.pinned (OpenSpec.upto fnExactParseTreeSpec)

/-- 'laws.FnExactIsForest', WHERE WHAT IT READS IS OF BULK AT MOST 1048576: true; the input reads as it did. -/
def fnExactIsForestUptoRow : OpenClaim := { program := "ythjdmkjncaemgaa", sum := "7b05b2ecdc3ea7762a5486fa892cf6d55f385f05825bfaac57d522b7e4cd056d", func := "loop.example/g01100/laws.FnExactIsForest", spec := "fnExactIsForest", unfollowed := true, recurses := true, apart := false, narrowed := true }
def FnExactIsForestUptoSaid : Prop := fnExactIsForestUptoRow.holds Try.pinned (OpenSpec.upto fnExactIsForestSpec)

/-- 'laws.FnExactRootOn', WHERE WHAT IT READS IS OF BULK AT MOST 1048576: true; the input reads as it did. -/
def fnExactRootOnUptoRow : OpenClaim := { program := "ythjdmkjncaemgaa", sum := "7b05b2ecdc3ea7762a5486fa892cf6d55f385f05825bfaac57d522b7e4cd056d", func := "loop.example/g01100/laws.FnExactRootOn", spec := "fnExactRootOn", unfollowed := true, recurses := true, apart := false, narrowed := true }
def FnExactRootOnUptoSaid : Prop := fnExactRootOnUptoRow.holds Try.pinned (OpenSpec.upto fnExactRootOnSpec)

/-- 'laws.FnExactParseForest', WHERE WHAT IT READS IS OF BULK AT MOST 1048576: true; the input reads as it did. -/
def fnExactParseForestUptoRow : OpenClaim := { program := "ythjdmkjncaemgaa", sum := "7b05b2ecdc3ea7762a5486fa892cf6d55f385f05825bfaac57d522b7e4cd056d", func := "loop.example/g01100/laws.FnExactParseForest", spec := "fnExactParseForest", unfollowed := true, recurses := true, apart := false, narrowed := true }
def FnExactParseForestUptoSaid : Prop := fnExactParseForestUptoRow.holds Try.pinned (OpenSpec.upto fnExactParseForestSpec)

/-- 'laws.FnExactForestText', WHERE WHAT IT READS IS OF BULK AT MOST 1048576: true; the input reads as it did. -/
def fnExactForestTextUptoRow : OpenClaim := { program := "ythjdmkjncaemgaa", sum := "7b05b2ecdc3ea7762a5486fa892cf6d55f385f05825bfaac57d522b7e4cd056d", func := "loop.example/g01100/laws.FnExactForestText", spec := "fnExactForestText", inPlace := ["internal/abi.NoEscape"], unfollowed := true, recurses := true, apart := false, narrowed := true }
def FnExactForestTextUptoSaid : Prop := fnExactForestTextUptoRow.holds Try.pinned (OpenSpec.upto fnExactForestTextSpec)

end Rows
end Go.Proofs.Ythjdmkjncaemgaa
