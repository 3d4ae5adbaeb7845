/-
  No cell of these rows narrows 'for every input' (looked for: loops, veiled, ifaces, maps, wideKeys, modest, calm, conditions, laid).
  DERIVED. THE GIVEN ROWS OF THIS SEAT. 6 by the template 'for every input the law returns true; each argument reads behind the call as it read before'; 0 by the template 'total and deterministic' (their statements: YtmhcpaffdchboaaTotals.lean).
  GIVEN WITH THE SEED: the statements are not yours to turn. If you find one false, say at which input.
  Laid BY PROGRAM, IN A SANDBOX (cutbox-rows.mjs): the forced cells as the released guide's own fill.sh prints them over the translation 60e998ec2834b0fb… (all of the seat's roots in one cut). By AI agents, Wed Nov 11 2026. No macro, syntax, notation, axiom, sorry.
-/
import Derived.Test.YtmhcpaffdchboaaChecked
import GoSem.Claim
import GoSem.ClaimJoined
import GoSem.ClaimMapViews
import Derived.JoinedTies
import Derived.KernelRfl
namespace Go.Proofs.Ytmhcpaffdchboaa
/- THE CELL 'sum', in the pinned program and in every row, IS THE sha256 OF THE DUMP (.gsa) THAT YtmhcpaffdchboaaProg.lean LOADS. Nothing in Lean hashes anything: it is a label: what it is worth is what the hold of that sum in a sandbox is worth. -/
noncomputable def Try.pinned : Pinned := { name := "ytmhcpaffdchboaa", sum := "60e998ec2834b0fbc7227668d209250c25ab8861f129670343b37983ae55d2ef", checked := Try.checked }
namespace Rows
def none {H : Type} : Left H := { results := [], args := [] }

/-- 'laws.FnExactMultiplyMatrices': WHATEVER THE INPUT: true; the input reads as it did. -/
def fnExactMultiplyMatricesSpec : ChangeSpec := { name := "fnExactMultiplyMatrices", fn := fun _ => fun
  | [d1, d2] => { results := [.lit (.bool true)], args := [d1, d2] }
  | _ => none }
def fnExactMultiplyMatricesRow : OpenClaim := { program := "ytmhcpaffdchboaa", sum := "60e998ec2834b0fbc7227668d209250c25ab8861f129670343b37983ae55d2ef", func := "loop.example/g01100/laws.FnExactMultiplyMatrices", spec := "fnExactMultiplyMatrices", unfollowed := true, recurses := true, apart := false }
def FnExactMultiplyMatricesSaid : Prop := fnExactMultiplyMatricesRow.holds Try.pinned (OpenSpec.ofChange fnExactMultiplyMatricesSpec)

/-- ITS FALSE NEIGHBOUR: 'it returns false'. Refute it at one input. -/
def fnExactMultiplyMatricesWrong : ChangeSpec := { name := "fnExactMultiplyMatrices", fn := fun _ => fun
  | [d1, d2] => { results := [.lit (.bool false)], args := [d1, d2] }
  | _ => none }
def FnExactMultiplyMatricesWrongFalsely : Prop := fnExactMultiplyMatricesRow.holds Try.pinned (OpenSpec.ofChange fnExactMultiplyMatricesWrong)

/-- 'laws.FnExactDeterminant': WHATEVER THE INPUT: true; the input reads as it did. -/
def fnExactDeterminantSpec : ChangeSpec := { name := "fnExactDeterminant", fn := fun _ => fun
  | [d] => { results := [.lit (.bool true)], args := [d] }
  | _ => none }
def fnExactDeterminantRow : OpenClaim := { program := "ytmhcpaffdchboaa", sum := "60e998ec2834b0fbc7227668d209250c25ab8861f129670343b37983ae55d2ef", func := "loop.example/g01100/laws.FnExactDeterminant", spec := "fnExactDeterminant", unfollowed := true, recurses := true, apart := false }
def FnExactDeterminantSaid : Prop := fnExactDeterminantRow.holds Try.pinned (OpenSpec.ofChange fnExactDeterminantSpec)

/-- ITS FALSE NEIGHBOUR: 'it returns false'. Refute it at one input. -/
def fnExactDeterminantWrong : ChangeSpec := { name := "fnExactDeterminant", fn := fun _ => fun
  | [d] => { results := [.lit (.bool false)], args := [d] }
  | _ => none }
def FnExactDeterminantWrongFalsely : Prop := fnExactDeterminantRow.holds Try.pinned (OpenSpec.ofChange fnExactDeterminantWrong)

/-- 'laws.FnExactInverseMatrix': WHATEVER THE INPUT: true; the input reads as it did. -/
def fnExactInverseMatrixSpec : ChangeSpec := { name := "fnExactInverseMatrix", fn := fun _ => fun
  | [d] => { results := [.lit (.bool true)], args := [d] }
  | _ => none }
def fnExactInverseMatrixRow : OpenClaim := { program := "ytmhcpaffdchboaa", sum := "60e998ec2834b0fbc7227668d209250c25ab8861f129670343b37983ae55d2ef", func := "loop.example/g01100/laws.FnExactInverseMatrix", spec := "fnExactInverseMatrix", unfollowed := true, recurses := true, apart := false }
def FnExactInverseMatrixSaid : Prop := fnExactInverseMatrixRow.holds Try.pinned (OpenSpec.ofChange fnExactInverseMatrixSpec)

/-- ITS FALSE NEIGHBOUR: 'it returns false'. Refute it at one input. -/
def fnExactInverseMatrixWrong : ChangeSpec := { name := "fnExactInverseMatrix", fn := fun _ => fun
  | [d] => { results := [.lit (.bool false)], args := [d] }
  | _ => none }
def FnExactInverseMatrixWrongFalsely : Prop := fnExactInverseMatrixRow.holds Try.pinned (OpenSpec.ofChange fnExactInverseMatrixWrong)

/-- 'laws.FnExactSolveLinear': WHATEVER THE INPUT: true; the input reads as it did. -/
def fnExactSolveLinearSpec : ChangeSpec := { name := "fnExactSolveLinear", fn := fun _ => fun
  | [d1, d2] => { results := [.lit (.bool true)], args := [d1, d2] }
  | _ => none }
def fnExactSolveLinearRow : OpenClaim := { program := "ytmhcpaffdchboaa", sum := "60e998ec2834b0fbc7227668d209250c25ab8861f129670343b37983ae55d2ef", func := "loop.example/g01100/laws.FnExactSolveLinear", spec := "fnExactSolveLinear", unfollowed := true, recurses := true, apart := false }
def FnExactSolveLinearSaid : Prop := fnExactSolveLinearRow.holds Try.pinned (OpenSpec.ofChange fnExactSolveLinearSpec)

/-- ITS FALSE NEIGHBOUR: 'it returns false'. Refute it at one input. -/
def fnExactSolveLinearWrong : ChangeSpec := { name := "fnExactSolveLinear", fn := fun _ => fun
  | [d1, d2] => { results := [.lit (.bool false)], args := [d1, d2] }
  | _ => none }
def FnExactSolveLinearWrongFalsely : Prop := fnExactSolveLinearRow.holds Try.pinned (OpenSpec.ofChange fnExactSolveLinearWrong)

/-- 'laws.FnDeterminants': WHATEVER THE INPUT: true; the input reads as it did. -/
def fnDeterminantsSpec : ChangeSpec := { name := "fnDeterminants", fn := fun _ => fun
  | [d] => { results := [.lit (.bool true)], args := [d] }
  | _ => none }
def fnDeterminantsRow : OpenClaim := { program := "ytmhcpaffdchboaa", sum := "60e998ec2834b0fbc7227668d209250c25ab8861f129670343b37983ae55d2ef", func := "loop.example/g01100/laws.FnDeterminants", spec := "fnDeterminants", unfollowed := true, recurses := true, apart := false }
def FnDeterminantsSaid : Prop := fnDeterminantsRow.holds Try.pinned (OpenSpec.ofChange fnDeterminantsSpec)

/-- ITS FALSE NEIGHBOUR: 'it returns false'. Refute it at one input. -/
def fnDeterminantsWrong : ChangeSpec := { name := "fnDeterminants", fn := fun _ => fun
  | [d] => { results := [.lit (.bool false)], args := [d] }
  | _ => none }
def FnDeterminantsWrongFalsely : Prop := fnDeterminantsRow.holds Try.pinned (OpenSpec.ofChange fnDeterminantsWrong)

/-- 'laws.FnLinearSystems': WHATEVER THE INPUT: true; the input reads as it did. -/
def fnLinearSystemsSpec : ChangeSpec := { name := "fnLinearSystems", fn := fun _ => fun
  | [d] => { results := [.lit (.bool true)], args := [d] }
  | _ => none }
def fnLinearSystemsRow : OpenClaim := { program := "ytmhcpaffdchboaa", sum := "60e998ec2834b0fbc7227668d209250c25ab8861f129670343b37983ae55d2ef", func := "loop.example/g01100/laws.FnLinearSystems", spec := "fnLinearSystems", unfollowed := true, recurses := true, apart := false }
def FnLinearSystemsSaid : Prop := fnLinearSystemsRow.holds Try.pinned (OpenSpec.ofChange fnLinearSystemsSpec)

/-- ITS FALSE NEIGHBOUR: 'it returns false'. Refute it at one input. -/
def fnLinearSystemsWrong : ChangeSpec := { name := "fnLinearSystems", fn := fun _ => fun
  | [d] => { results := [.lit (.bool false)], args := [d] }
  | _ => none }
def FnLinearSystemsWrongFalsely : Prop := fnLinearSystemsRow.holds Try.pinned (OpenSpec.ofChange fnLinearSystemsWrong)

/- THE SECOND FORM. 'bulk': how many values and letters a reading holds, each counted each time it is reached (what is shared counts as often as it is met; a slice's spare places count too). A statement '..UptoSaid' is the law's where the arguments, and the package variables that the reading takes, are together of bulk at most 1048576: NARROWER than '..Said'. Prove '..Said' where nothing that the law and all that it calls make is longer than what came in: it says more and counts as full. Else prove '..UptoSaid'. A law counts once. -/
mutual
def uptoBulk {H : Type} : DataW H → Nat
  | .lit (.string bytes) => bytes.length + 1
  | .lit _ => 1
  | .nil => 1
  | .ptr d => uptoBulk d + 1
  | .slice elems spare => uptoBulkAll elems + uptoBulkAll spare + 1
  | .agg parts => uptoBulkAll parts + 1
  | .iface _ d => uptoBulk d + 1
  | .map entries => uptoBulkEntries entries + 1
  | .held _ => 1
def uptoBulkAll {H : Type} : List (DataW H) → Nat
  | [] => 0
  | d :: r => uptoBulk d + uptoBulkAll r
def uptoBulkEntries {H : Type} : List (Lit × DataW H) → Nat
  | [] => 0
  | x :: r => uptoBulkEntry x + uptoBulkEntries r
def uptoBulkEntry {H : Type} : Lit × DataW H → Nat
  | (.string bytes, d) => bytes.length + uptoBulk d + 1
  | (_, d) => uptoBulk d + 1
 end
def uptoSmall : (H : Type) → List (DataW H) → Bool := fun _ ds => decide (uptoBulkAll ds ≤ 1048576)
def OpenSpec.upto (s : _root_.Go.ChangeSpec) : _root_.Go.OpenSpec := { _root_.Go.OpenSpec.ofChange s with cond := some uptoSmall }

/-- 'laws.FnExactMultiplyMatrices', WHERE WHAT IT READS IS OF BULK AT MOST 1048576: true; the input reads as it did. -/
def fnExactMultiplyMatricesUptoRow : OpenClaim := { program := "ytmhcpaffdchboaa", sum := "60e998ec2834b0fbc7227668d209250c25ab8861f129670343b37983ae55d2ef", func := "loop.example/g01100/laws.FnExactMultiplyMatrices", spec := "fnExactMultiplyMatrices", unfollowed := true, recurses := true, apart := false, narrowed := true }
def FnExactMultiplyMatricesUptoSaid : Prop := fnExactMultiplyMatricesUptoRow.holds Try.pinned (OpenSpec.upto fnExactMultiplyMatricesSpec)

/-- 'laws.FnExactDeterminant', WHERE WHAT IT READS IS OF BULK AT MOST 1048576: true; the input reads as it did. -/
def fnExactDeterminantUptoRow : OpenClaim := { program := "ytmhcpaffdchboaa", sum := "60e998ec2834b0fbc7227668d209250c25ab8861f129670343b37983ae55d2ef", func := "loop.example/g01100/laws.FnExactDeterminant", spec := "fnExactDeterminant", unfollowed := true, recurses := true, apart := false, narrowed := true }
def FnExactDeterminantUptoSaid : Prop := fnExactDeterminantUptoRow.holds Try.pinned (OpenSpec.upto fnExactDeterminantSpec)

/-- 'laws.FnExactInverseMatrix', WHERE WHAT IT READS IS OF BULK AT MOST 1048576: true; the input reads as it did. -/
def fnExactInverseMatrixUptoRow : OpenClaim := { program := "ytmhcpaffdchboaa", sum := "60e998ec2834b0fbc7227668d209250c25ab8861f129670343b37983ae55d2ef", func := "loop.example/g01100/laws.FnExactInverseMatrix", spec := "fnExactInverseMatrix", unfollowed := true, recurses := true, apart := false, narrowed := true }
def FnExactInverseMatrixUptoSaid : Prop := fnExactInverseMatrixUptoRow.holds Try.pinned (OpenSpec.upto fnExactInverseMatrixSpec)

/-- 'laws.FnExactSolveLinear', WHERE WHAT IT READS IS OF BULK AT MOST 1048576: true; the input reads as it did. -/
def fnExactSolveLinearUptoRow : OpenClaim := { program := "ytmhcpaffdchboaa", sum := "60e998ec2834b0fbc7227668d209250c25ab8861f129670343b37983ae55d2ef", func := "loop.example/g01100/laws.FnExactSolveLinear", spec := "fnExactSolveLinear", unfollowed := true, recurses := true, apart := false, narrowed := true }
def FnExactSolveLinearUptoSaid : Prop := fnExactSolveLinearUptoRow.holds Try.pinned (OpenSpec.upto fnExactSolveLinearSpec)

/-- 'laws.FnDeterminants', WHERE WHAT IT READS IS OF BULK AT MOST 1048576: true; the input reads as it did. -/
def fnDeterminantsUptoRow : OpenClaim := { program := "ytmhcpaffdchboaa", sum := "60e998ec2834b0fbc7227668d209250c25ab8861f129670343b37983ae55d2ef", func := "loop.example/g01100/laws.FnDeterminants", spec := "fnDeterminants", unfollowed := true, recurses := true, apart := false, narrowed := true }
def FnDeterminantsUptoSaid : Prop := fnDeterminantsUptoRow.holds Try.pinned (OpenSpec.upto fnDeterminantsSpec)

/-- 'laws.FnLinearSystems', WHERE WHAT IT READS IS OF BULK AT MOST 1048576: true; the input reads as it did. -/
def fnLinearSystemsUptoRow : OpenClaim := { program := "ytmhcpaffdchboaa", sum := "60e998ec2834b0fbc7227668d209250c25ab8861f129670343b37983ae55d2ef", func := "loop.example/g01100/laws.FnLinearSystems", spec := "fnLinearSystems", unfollowed := true, recurses := true, apart := false, narrowed := true }
def FnLinearSystemsUptoSaid : Prop := fnLinearSystemsUptoRow.holds Try.pinned (OpenSpec.upto fnLinearSystemsSpec)

end Rows
end Go.Proofs.Ytmhcpaffdchboaa
