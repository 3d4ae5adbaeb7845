/-
  No cell of these rows narrows 'for every input' (looked for: loops, veiled, ifaces, maps, wideKeys, modest, calm, conditions, laid).
  DERIVED. THE GIVEN ROWS OF THIS SEAT. 12 by the template 'for every input the law returns true; each argument reads behind the call as it read before'; 0 by the template 'total and deterministic' (their statements: YtoiangfookhfdaaTotals.lean).
  GIVEN WITH THE SEED: the statements are not yours to turn. If you find one false, say at which input.
  Laid BY PROGRAM, IN A SANDBOX (cutbox-rows.mjs): the forced cells as the released guide's own fill.sh prints them over the translation 661f3d7c0afa1d74… (all of the seat's roots in one cut). By AI agents, Wed Nov 11 2026. No macro, syntax, notation, axiom, sorry.
-/
import Derived.Test.YtoiangfookhfdaaChecked
import GoSem.Claim
import GoSem.ClaimJoined
import GoSem.ClaimMapViews
import Derived.JoinedTies
import Derived.KernelRfl
namespace Go.Proofs.Ytoiangfookhfdaa
/- THE CELL 'sum', in the pinned program and in every row, IS THE sha256 OF THE DUMP (.gsa) THAT YtoiangfookhfdaaProg.lean LOADS. Nothing in Lean hashes anything: it is a label: what it is worth is what the hold of that sum in a sandbox is worth. -/
noncomputable def Try.pinned : Pinned := { name := "ytoiangfookhfdaa", sum := "661f3d7c0afa1d74cc8868df5aeb34ff8bd3ff166a3a71b7dc961514f7fde02a", checked := Try.checked }
namespace Rows
def none {H : Type} : Left H := { results := [], args := [] }

/-- 'laws.FnExactIsLevels': WHATEVER THE INPUT: true; the input reads as it did. -/
def fnExactIsLevelsSpec : ChangeSpec := { name := "fnExactIsLevels", fn := fun _ => fun
  | [d] => { results := [.lit (.bool true)], args := [d] }
  | _ => none }
def fnExactIsLevelsRow : OpenClaim := { program := "ytoiangfookhfdaa", sum := "661f3d7c0afa1d74cc8868df5aeb34ff8bd3ff166a3a71b7dc961514f7fde02a", func := "loop.example/g01100/laws.FnExactIsLevels", spec := "fnExactIsLevels", apart := false }
def FnExactIsLevelsSaid : Prop := fnExactIsLevelsRow.holds Try.pinned (OpenSpec.ofChange fnExactIsLevelsSpec)

/-- ITS FALSE NEIGHBOUR: 'it returns false'. Refute it at one input. -/
def fnExactIsLevelsWrong : ChangeSpec := { name := "fnExactIsLevels", fn := fun _ => fun
  | [d] => { results := [.lit (.bool false)], args := [d] }
  | _ => none }
def FnExactIsLevelsWrongFalsely : Prop := fnExactIsLevelsRow.holds Try.pinned (OpenSpec.ofChange fnExactIsLevelsWrong)

/-- 'laws.FnExactLeavesOf': WHATEVER THE INPUT: true; the input reads as it did. -/
def fnExactLeavesOfSpec : ChangeSpec := { name := "fnExactLeavesOf", fn := fun _ => fun
  | [d] => { results := [.lit (.bool true)], args := [d] }
  | _ => none }
def fnExactLeavesOfRow : OpenClaim := { program := "ytoiangfookhfdaa", sum := "661f3d7c0afa1d74cc8868df5aeb34ff8bd3ff166a3a71b7dc961514f7fde02a", func := "loop.example/g01100/laws.FnExactLeavesOf", spec := "fnExactLeavesOf", apart := false }
def FnExactLeavesOfSaid : Prop := fnExactLeavesOfRow.holds Try.pinned (OpenSpec.ofChange fnExactLeavesOfSpec)

/-- ITS FALSE NEIGHBOUR: 'it returns false'. Refute it at one input. -/
def fnExactLeavesOfWrong : ChangeSpec := { name := "fnExactLeavesOf", fn := fun _ => fun
  | [d] => { results := [.lit (.bool false)], args := [d] }
  | _ => none }
def FnExactLeavesOfWrongFalsely : Prop := fnExactLeavesOfRow.holds Try.pinned (OpenSpec.ofChange fnExactLeavesOfWrong)

/-- 'laws.FnExactHeightOf': WHATEVER THE INPUT: true; the input reads as it did. -/
def fnExactHeightOfSpec : ChangeSpec := { name := "fnExactHeightOf", fn := fun _ => fun
  | [d] => { results := [.lit (.bool true)], args := [d] }
  | _ => none }
def fnExactHeightOfRow : OpenClaim := { program := "ytoiangfookhfdaa", sum := "661f3d7c0afa1d74cc8868df5aeb34ff8bd3ff166a3a71b7dc961514f7fde02a", func := "loop.example/g01100/laws.FnExactHeightOf", spec := "fnExactHeightOf", apart := false }
def FnExactHeightOfSaid : Prop := fnExactHeightOfRow.holds Try.pinned (OpenSpec.ofChange fnExactHeightOfSpec)

/-- ITS FALSE NEIGHBOUR: 'it returns false'. Refute it at one input. -/
def fnExactHeightOfWrong : ChangeSpec := { name := "fnExactHeightOf", fn := fun _ => fun
  | [d] => { results := [.lit (.bool false)], args := [d] }
  | _ => none }
def FnExactHeightOfWrongFalsely : Prop := fnExactHeightOfRow.holds Try.pinned (OpenSpec.ofChange fnExactHeightOfWrong)

/-- 'laws.FnExactDensityOf': WHATEVER THE INPUT: true; the input reads as it did. -/
def fnExactDensityOfSpec : ChangeSpec := { name := "fnExactDensityOf", fn := fun _ => fun
  | [d] => { results := [.lit (.bool true)], args := [d] }
  | _ => none }
def fnExactDensityOfRow : OpenClaim := { program := "ytoiangfookhfdaa", sum := "661f3d7c0afa1d74cc8868df5aeb34ff8bd3ff166a3a71b7dc961514f7fde02a", func := "loop.example/g01100/laws.FnExactDensityOf", spec := "fnExactDensityOf", recurses := true, apart := false }
def FnExactDensityOfSaid : Prop := fnExactDensityOfRow.holds Try.pinned (OpenSpec.ofChange fnExactDensityOfSpec)

/-- ITS FALSE NEIGHBOUR: 'it returns false'. Refute it at one input. -/
def fnExactDensityOfWrong : ChangeSpec := { name := "fnExactDensityOf", fn := fun _ => fun
  | [d] => { results := [.lit (.bool false)], args := [d] }
  | _ => none }
def FnExactDensityOfWrongFalsely : Prop := fnExactDensityOfRow.holds Try.pinned (OpenSpec.ofChange fnExactDensityOfWrong)

/-- 'laws.FnExactTreesOf': WHATEVER THE INPUT: true; the input reads as it did. -/
def fnExactTreesOfSpec : ChangeSpec := { name := "fnExactTreesOf", fn := fun _ => fun
  | [d] => { results := [.lit (.bool true)], args := [d] }
  | _ => none }
def fnExactTreesOfRow : OpenClaim := { program := "ytoiangfookhfdaa", sum := "661f3d7c0afa1d74cc8868df5aeb34ff8bd3ff166a3a71b7dc961514f7fde02a", func := "loop.example/g01100/laws.FnExactTreesOf", spec := "fnExactTreesOf", recurses := true, apart := false }
def FnExactTreesOfSaid : Prop := fnExactTreesOfRow.holds Try.pinned (OpenSpec.ofChange fnExactTreesOfSpec)

/-- ITS FALSE NEIGHBOUR: 'it returns false'. Refute it at one input. -/
def fnExactTreesOfWrong : ChangeSpec := { name := "fnExactTreesOf", fn := fun _ => fun
  | [d] => { results := [.lit (.bool false)], args := [d] }
  | _ => none }
def FnExactTreesOfWrongFalsely : Prop := fnExactTreesOfRow.holds Try.pinned (OpenSpec.ofChange fnExactTreesOfWrong)

/-- 'laws.FnExactTreeAt': WHATEVER THE INPUT: true; the input reads as it did. -/
def fnExactTreeAtSpec : ChangeSpec := { name := "fnExactTreeAt", fn := fun _ => fun
  | [d] => { results := [.lit (.bool true)], args := [d] }
  | _ => none }
def fnExactTreeAtRow : OpenClaim := { program := "ytoiangfookhfdaa", sum := "661f3d7c0afa1d74cc8868df5aeb34ff8bd3ff166a3a71b7dc961514f7fde02a", func := "loop.example/g01100/laws.FnExactTreeAt", spec := "fnExactTreeAt", recurses := true, apart := false }
def FnExactTreeAtSaid : Prop := fnExactTreeAtRow.holds Try.pinned (OpenSpec.ofChange fnExactTreeAtSpec)

/-- ITS FALSE NEIGHBOUR: 'it returns false'. Refute it at one input. -/
def fnExactTreeAtWrong : ChangeSpec := { name := "fnExactTreeAt", fn := fun _ => fun
  | [d] => { results := [.lit (.bool false)], args := [d] }
  | _ => none }
def FnExactTreeAtWrongFalsely : Prop := fnExactTreeAtRow.holds Try.pinned (OpenSpec.ofChange fnExactTreeAtWrong)

/-- 'laws.FnExactIsTree': WHATEVER THE INPUT: true; the input reads as it did. -/
def fnExactIsTreeSpec : ChangeSpec := { name := "fnExactIsTree", fn := fun _ => fun
  | [d] => { results := [.lit (.bool true)], args := [d] }
  | _ => none }
def fnExactIsTreeRow : OpenClaim := { program := "ytoiangfookhfdaa", sum := "661f3d7c0afa1d74cc8868df5aeb34ff8bd3ff166a3a71b7dc961514f7fde02a", func := "loop.example/g01100/laws.FnExactIsTree", spec := "fnExactIsTree", unfollowed := true, recurses := true, apart := false }
def FnExactIsTreeSaid : Prop := fnExactIsTreeRow.holds Try.pinned (OpenSpec.ofChange fnExactIsTreeSpec)

/-- ITS FALSE NEIGHBOUR: 'it returns false'. Refute it at one input. -/
def fnExactIsTreeWrong : ChangeSpec := { name := "fnExactIsTree", fn := fun _ => fun
  | [d] => { results := [.lit (.bool false)], args := [d] }
  | _ => none }
def FnExactIsTreeWrongFalsely : Prop := fnExactIsTreeRow.holds Try.pinned (OpenSpec.ofChange fnExactIsTreeWrong)

/-- 'laws.FnExactCanonicalTree': WHATEVER THE INPUT: true; the input reads as it did. -/
def fnExactCanonicalTreeSpec : ChangeSpec := { name := "fnExactCanonicalTree", fn := fun _ => fun
  | [d] => { results := [.lit (.bool true)], args := [d] }
  | _ => none }
def fnExactCanonicalTreeRow : OpenClaim := { program := "ytoiangfookhfdaa", sum := "661f3d7c0afa1d74cc8868df5aeb34ff8bd3ff166a3a71b7dc961514f7fde02a", func := "loop.example/g01100/laws.FnExactCanonicalTree", spec := "fnExactCanonicalTree", unfollowed := true, recurses := true, apart := false }
def FnExactCanonicalTreeSaid : Prop := fnExactCanonicalTreeRow.holds Try.pinned (OpenSpec.ofChange fnExactCanonicalTreeSpec)

/-- ITS FALSE NEIGHBOUR: 'it returns false'. Refute it at one input. -/
def fnExactCanonicalTreeWrong : ChangeSpec := { name := "fnExactCanonicalTree", fn := fun _ => fun
  | [d] => { results := [.lit (.bool false)], args := [d] }
  | _ => none }
def FnExactCanonicalTreeWrongFalsely : Prop := fnExactCanonicalTreeRow.holds Try.pinned (OpenSpec.ofChange fnExactCanonicalTreeWrong)

/-- 'laws.FnExactCompareTrees': WHATEVER THE INPUT: true; the input reads as it did. -/
def fnExactCompareTreesSpec : ChangeSpec := { name := "fnExactCompareTrees", fn := fun _ => fun
  | [d1, d2] => { results := [.lit (.bool true)], args := [d1, d2] }
  | _ => none }
def fnExactCompareTreesRow : OpenClaim := { program := "ytoiangfookhfdaa", sum := "661f3d7c0afa1d74cc8868df5aeb34ff8bd3ff166a3a71b7dc961514f7fde02a", func := "loop.example/g01100/laws.FnExactCompareTrees", spec := "fnExactCompareTrees", unfollowed := true, recurses := true, apart := false }
def FnExactCompareTreesSaid : Prop := fnExactCompareTreesRow.holds Try.pinned (OpenSpec.ofChange fnExactCompareTreesSpec)

/-- ITS FALSE NEIGHBOUR: 'it returns false'. Refute it at one input. -/
def fnExactCompareTreesWrong : ChangeSpec := { name := "fnExactCompareTrees", fn := fun _ => fun
  | [d1, d2] => { results := [.lit (.bool false)], args := [d1, d2] }
  | _ => none }
def FnExactCompareTreesWrongFalsely : Prop := fnExactCompareTreesRow.holds Try.pinned (OpenSpec.ofChange fnExactCompareTreesWrong)

/-- 'laws.FnExactBranchesOf': WHATEVER THE INPUT: true; the input reads as it did. -/
def fnExactBranchesOfSpec : ChangeSpec := { name := "fnExactBranchesOf", fn := fun _ => fun
  | [d] => { results := [.lit (.bool true)], args := [d] }
  | _ => none }
def fnExactBranchesOfRow : OpenClaim := { program := "ytoiangfookhfdaa", sum := "661f3d7c0afa1d74cc8868df5aeb34ff8bd3ff166a3a71b7dc961514f7fde02a", func := "loop.example/g01100/laws.FnExactBranchesOf", spec := "fnExactBranchesOf", unfollowed := true, recurses := true, apart := false }
def FnExactBranchesOfSaid : Prop := fnExactBranchesOfRow.holds Try.pinned (OpenSpec.ofChange fnExactBranchesOfSpec)

/-- ITS FALSE NEIGHBOUR: 'it returns false'. Refute it at one input. -/
def fnExactBranchesOfWrong : ChangeSpec := { name := "fnExactBranchesOf", fn := fun _ => fun
  | [d] => { results := [.lit (.bool false)], args := [d] }
  | _ => none }
def FnExactBranchesOfWrongFalsely : Prop := fnExactBranchesOfRow.holds Try.pinned (OpenSpec.ofChange fnExactBranchesOfWrong)

/-- 'laws.FnExactSymmetryOf': WHATEVER THE INPUT: true; the input reads as it did. -/
def fnExactSymmetryOfSpec : ChangeSpec := { name := "fnExactSymmetryOf", fn := fun _ => fun
  | [d] => { results := [.lit (.bool true)], args := [d] }
  | _ => none }
def fnExactSymmetryOfRow : OpenClaim := { program := "ytoiangfookhfdaa", sum := "661f3d7c0afa1d74cc8868df5aeb34ff8bd3ff166a3a71b7dc961514f7fde02a", func := "loop.example/g01100/laws.FnExactSymmetryOf", spec := "fnExactSymmetryOf", unfollowed := true, recurses := true, apart := false }
def FnExactSymmetryOfSaid : Prop := fnExactSymmetryOfRow.holds Try.pinned (OpenSpec.ofChange fnExactSymmetryOfSpec)

/-- ITS FALSE NEIGHBOUR: 'it returns false'. Refute it at one input. -/
def fnExactSymmetryOfWrong : ChangeSpec := { name := "fnExactSymmetryOf", fn := fun _ => fun
  | [d] => { results := [.lit (.bool false)], args := [d] }
  | _ => none }
def FnExactSymmetryOfWrongFalsely : Prop := fnExactSymmetryOfRow.holds Try.pinned (OpenSpec.ofChange fnExactSymmetryOfWrong)

/-- 'laws.FnExactIndexOf': WHATEVER THE INPUT: true; the input reads as it did. -/
def fnExactIndexOfSpec : ChangeSpec := { name := "fnExactIndexOf", fn := fun _ => fun
  | [d] => { results := [.lit (.bool true)], args := [d] }
  | _ => none }
def fnExactIndexOfRow : OpenClaim := { program := "ytoiangfookhfdaa", sum := "661f3d7c0afa1d74cc8868df5aeb34ff8bd3ff166a3a71b7dc961514f7fde02a", func := "loop.example/g01100/laws.FnExactIndexOf", spec := "fnExactIndexOf", unfollowed := true, recurses := true, apart := false }
def FnExactIndexOfSaid : Prop := fnExactIndexOfRow.holds Try.pinned (OpenSpec.ofChange fnExactIndexOfSpec)

/-- ITS FALSE NEIGHBOUR: 'it returns false'. Refute it at one input. -/
def fnExactIndexOfWrong : ChangeSpec := { name := "fnExactIndexOf", fn := fun _ => fun
  | [d] => { results := [.lit (.bool false)], args := [d] }
  | _ => none }
def FnExactIndexOfWrongFalsely : Prop := fnExactIndexOfRow.holds Try.pinned (OpenSpec.ofChange fnExactIndexOfWrong)

/- THE SECOND FORM. 'bulk': how many values and letters a reading holds, each counted each time it is reached (what is shared counts as often as it is met; a slice's spare places count too). A statement '..UptoSaid' is the law's where the arguments, and the package variables that the reading takes, are together of bulk at most 1048576: NARROWER than '..Said'. Prove '..Said' where nothing that the law and all that it calls make is longer than what came in: it says more and counts as full. Else prove '..UptoSaid'. A law counts once. -/
mutual
def uptoBulk {H : Type} : DataW H → Nat
  | .lit (.string bytes) => bytes.length + 1
  | .lit _ => 1
  | .nil => 1
  | .ptr d => uptoBulk d + 1
  | .slice elems spare => uptoBulkAll elems + uptoBulkAll spare + 1
  | .agg parts => uptoBulkAll parts + 1
  | .iface _ d => uptoBulk d + 1
  | .map entries => uptoBulkEntries entries + 1
  | .held _ => 1
def uptoBulkAll {H : Type} : List (DataW H) → Nat
  | [] => 0
  | d :: r => uptoBulk d + uptoBulkAll r
def uptoBulkEntries {H : Type} : List (Lit × DataW H) → Nat
  | [] => 0
  | x :: r => uptoBulkEntry x + uptoBulkEntries r
def uptoBulkEntry {H : Type} : Lit × DataW H → Nat
  | (.string bytes, d) => bytes.length + uptoBulk d + 1
  | (_, d) => uptoBulk d + 1
 end
def uptoSmall : (H : Type) → List (DataW H) → Bool := fun _ ds => decide (uptoBulkAll ds ≤ 1048576)
def OpenSpec.upto (s : _root_.Go.ChangeSpec) : _root_.Go.OpenSpec := { _root_.Go.OpenSpec.ofChange s with cond := some uptoSmall }

/-- 'laws.FnExactIsLevels', WHERE WHAT IT READS IS OF BULK AT MOST 1048576: true; the input reads as it did. -/
def fnExactIsLevelsUptoRow : OpenClaim := { program := "ytoiangfookhfdaa", sum := "661f3d7c0afa1d74cc8868df5aeb34ff8bd3ff166a3a71b7dc961514f7fde02a", func := "loop.example/g01100/laws.FnExactIsLevels", spec := "fnExactIsLevels", apart := false, narrowed := true }
def FnExactIsLevelsUptoSaid : Prop := fnExactIsLevelsUptoRow.holds Try.pinned (OpenSpec.upto fnExactIsLevelsSpec)

/-- 'laws.FnExactLeavesOf', WHERE WHAT IT READS IS OF BULK AT MOST 1048576: true; the input reads as it did. -/
def fnExactLeavesOfUptoRow : OpenClaim := { program := "ytoiangfookhfdaa", sum := "661f3d7c0afa1d74cc8868df5aeb34ff8bd3ff166a3a71b7dc961514f7fde02a", func := "loop.example/g01100/laws.FnExactLeavesOf", spec := "fnExactLeavesOf", apart := false, narrowed := true }
def FnExactLeavesOfUptoSaid : Prop := fnExactLeavesOfUptoRow.holds Try.pinned (OpenSpec.upto fnExactLeavesOfSpec)

/-- 'laws.FnExactHeightOf', WHERE WHAT IT READS IS OF BULK AT MOST 1048576: true; the input reads as it did. -/
def fnExactHeightOfUptoRow : OpenClaim := { program := "ytoiangfookhfdaa", sum := "661f3d7c0afa1d74cc8868df5aeb34ff8bd3ff166a3a71b7dc961514f7fde02a", func := "loop.example/g01100/laws.FnExactHeightOf", spec := "fnExactHeightOf", apart := false, narrowed := true }
def FnExactHeightOfUptoSaid : Prop := fnExactHeightOfUptoRow.holds Try.pinned (OpenSpec.upto fnExactHeightOfSpec)

/-- 'laws.FnExactDensityOf', WHERE WHAT IT READS IS OF BULK AT MOST 1048576: true; the input reads as it did. -/
def fnExactDensityOfUptoRow : OpenClaim := { program := "ytoiangfookhfdaa", sum := "661f3d7c0afa1d74cc8868df5aeb34ff8bd3ff166a3a71b7dc961514f7fde02a", func := "loop.example/g01100/laws.FnExactDensityOf", spec := "fnExactDensityOf", recurses := true, apart := false, narrowed := true }
def FnExactDensityOfUptoSaid : Prop := fnExactDensityOfUptoRow.holds Try.pinned (OpenSpec.upto fnExactDensityOfSpec)

/-- 'laws.FnExactTreesOf', WHERE WHAT IT READS IS OF BULK AT MOST 1048576: true; the input reads as it did. -/
def fnExactTreesOfUptoRow : OpenClaim := { program := "ytoiangfookhfdaa", sum := "661f3d7c0afa1d74cc8868df5aeb34ff8bd3ff166a3a71b7dc961514f7fde02a", func := "loop.example/g01100/laws.FnExactTreesOf", spec := "fnExactTreesOf", recurses := true, apart := false, narrowed := true }
def FnExactTreesOfUptoSaid : Prop := fnExactTreesOfUptoRow.holds Try.pinned (OpenSpec.upto fnExactTreesOfSpec)

/-- 'laws.FnExactTreeAt', WHERE WHAT IT READS IS OF BULK AT MOST 1048576: true; the input reads as it did. -/
def fnExactTreeAtUptoRow : OpenClaim := { program := "ytoiangfookhfdaa", sum := "661f3d7c0afa1d74cc8868df5aeb34ff8bd3ff166a3a71b7dc961514f7fde02a", func := "loop.example/g01100/laws.FnExactTreeAt", spec := "fnExactTreeAt", recurses := true, apart := false, narrowed := true }
def FnExactTreeAtUptoSaid : Prop := fnExactTreeAtUptoRow.holds Try.pinned (OpenSpec.upto fnExactTreeAtSpec)

/-- 'laws.FnExactIsTree', WHERE WHAT IT READS IS OF BULK AT MOST 1048576: true; the input reads as it did. -/
def fnExactIsTreeUptoRow : OpenClaim := { program := "ytoiangfookhfdaa", sum := "661f3d7c0afa1d74cc8868df5aeb34ff8bd3ff166a3a71b7dc961514f7fde02a", func := "loop.example/g01100/laws.FnExactIsTree", spec := "fnExactIsTree", unfollowed := true, recurses := true, apart := false, narrowed := true }
def FnExactIsTreeUptoSaid : Prop := fnExactIsTreeUptoRow.holds Try.pinned (OpenSpec.upto fnExactIsTreeSpec)

/-- 'laws.FnExactCanonicalTree', WHERE WHAT IT READS IS OF BULK AT MOST 1048576: true; the input reads as it did. -/
def fnExactCanonicalTreeUptoRow : OpenClaim := { program := "ytoiangfookhfdaa", sum := "661f3d7c0afa1d74cc8868df5aeb34ff8bd3ff166a3a71b7dc961514f7fde02a", func := "loop.example/g01100/laws.FnExactCanonicalTree", spec := "fnExactCanonicalTree", unfollowed := true, recurses := true, apart := false, narrowed := true }
def FnExactCanonicalTreeUptoSaid : Prop := fnExactCanonicalTreeUptoRow.holds Try.pinned (OpenSpec.upto fnExactCanonicalTreeSpec)

/-- 'laws.FnExactCompareTrees', WHERE WHAT IT READS IS OF BULK AT MOST 1048576: true; the input reads as it did. -/
def fnExactCompareTreesUptoRow : OpenClaim := { program := "ytoiangfookhfdaa", sum := "661f3d7c0afa1d74cc8868df5aeb34ff8bd3ff166a3a71b7dc961514f7fde02a", func := "loop.example/g01100/laws.FnExactCompareTrees", spec := "fnExactCompareTrees", unfollowed := true, recurses := true, apart := false, narrowed := true }
def FnExactCompareTreesUptoSaid : Prop := fnExactCompareTreesUptoRow.holds Try.pinned (OpenSpec.upto fnExactCompareTreesSpec)

/-- 'laws.FnExactBranchesOf', WHERE WHAT IT READS IS OF BULK AT MOST 1048576: true; the input reads as it did. -/
def fnExactBranchesOfUptoRow : OpenClaim := { program := "ytoiangfookhfdaa", sum := "661f3d7c0afa1d74cc8868df5aeb34ff8bd3ff166a3a71b7dc961514f7fde02a", func := "loop.example/g01100/laws.FnExactBranchesOf", spec := "fnExactBranchesOf", unfollowed := true, recurses := true, apart := false, narrowed := true }
def FnExactBranchesOfUptoSaid : Prop := fnExactBranchesOfUptoRow.holds Try.pinned (OpenSpec.upto fnExactBranchesOfSpec)

/-- 'laws.FnExactSymmetryOf', WHERE WHAT IT READS IS OF BULK AT MOST 1048576: true; the input reads as it did. -/
def fnExactSymmetryOfUptoRow : OpenClaim := { program := "ytoiangfookhfdaa", sum := "661f3d7c0afa1d74cc8868df5aeb34ff8bd3ff166a3a71b7dc961514f7fde02a", func := "loop.example/g01100/laws.FnExactSymmetryOf", spec := "fnExactSymmetryOf", unfollowed := true, recurses := true, apart := false, narrowed := true }
def FnExactSymmetryOfUptoSaid : Prop := fnExactSymmetryOfUptoRow.holds Try.pinned (OpenSpec.upto fnExactSymmetryOfSpec)

/-- 'laws.FnExactIndexOf', WHERE WHAT IT READS IS OF BULK AT MOST 1048576: true; the input reads as it did. -/
def fnExactIndexOfUptoRow : OpenClaim := { program := "ytoiangfookhfdaa", sum := "661f3d7c0afa1d74cc8868df5aeb34ff8bd3ff166a3a71b7dc961514f7fde02a", func := "loop.example/g01100/laws.FnExactIndexOf", spec := "fnExactIndexOf", unfollowed := true, recurses := true, apart := false, narrowed := true }
def FnExactIndexOfUptoSaid : Prop := fnExactIndexOfUptoRow.holds Try.pinned (OpenSpec.upto fnExactIndexOfSpec)

end Rows
end Go.Proofs.Ytoiangfookhfdaa
