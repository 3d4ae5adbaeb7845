/-
  No cell of these rows narrows 'for every input' (looked for: loops, veiled, ifaces, maps, wideKeys, modest, calm, conditions, laid).
  DERIVED. THE GIVEN ROWS OF THIS SEAT. 12 by the template 'for every input the law returns true; each argument reads behind the call as it read before'; 0 by the template 'total and deterministic' (their statements: YtpfbcchjeamjoaaTotals.lean).
  GIVEN WITH THE SEED: the statements are not yours to turn. If you find one false, say at which input.
  Laid BY PROGRAM, IN A SANDBOX (cutbox-rows.mjs): the forced cells as the released guide's own fill.sh prints them over the translation bdbeb777464a6017… (all of the seat's roots in one cut). By AI agents, Wed Nov 11 2026. No macro, syntax, notation, axiom, sorry.
-/
import Derived.Test.YtpfbcchjeamjoaaChecked
import GoSem.Claim
import GoSem.ClaimJoined
import GoSem.ClaimMapViews
import Derived.JoinedTies
import Derived.KernelRfl
namespace Go.Proofs.Ytpfbcchjeamjoaa
/- THE CELL 'sum', in the pinned program and in every row, IS THE sha256 OF THE DUMP (.gsa) THAT YtpfbcchjeamjoaaProg.lean LOADS. Nothing in Lean hashes anything: it is a label: what it is worth is what the hold of that sum in a sandbox is worth. -/
noncomputable def Try.pinned : Pinned := { name := "ytpfbcchjeamjoaa", sum := "bdbeb777464a6017af65185e949fb49eeb7794886d1e70cba504af8851d92b29", checked := Try.checked }
namespace Rows
def none {H : Type} : Left H := { results := [], args := [] }

/-- 'laws.FnExactIsSeries': WHATEVER THE INPUT: true; the input reads as it did. -/
def fnExactIsSeriesSpec : ChangeSpec := { name := "fnExactIsSeries", fn := fun _ => fun
  | [d] => { results := [.lit (.bool true)], args := [d] }
  | _ => none }
def fnExactIsSeriesRow : OpenClaim := { program := "ytpfbcchjeamjoaa", sum := "bdbeb777464a6017af65185e949fb49eeb7794886d1e70cba504af8851d92b29", func := "loop.example/g01100/laws.FnExactIsSeries", spec := "fnExactIsSeries", unfollowed := true, recurses := true, apart := false }
def FnExactIsSeriesSaid : Prop := fnExactIsSeriesRow.holds Try.pinned (OpenSpec.ofChange fnExactIsSeriesSpec)

/-- ITS FALSE NEIGHBOUR: 'it returns false'. Refute it at one input. -/
def fnExactIsSeriesWrong : ChangeSpec := { name := "fnExactIsSeries", fn := fun _ => fun
  | [d] => { results := [.lit (.bool false)], args := [d] }
  | _ => none }
def FnExactIsSeriesWrongFalsely : Prop := fnExactIsSeriesRow.holds Try.pinned (OpenSpec.ofChange fnExactIsSeriesWrong)

/-- 'laws.FnExactDeriveSeries': WHATEVER THE INPUT: true; the input reads as it did. -/
def fnExactDeriveSeriesSpec : ChangeSpec := { name := "fnExactDeriveSeries", fn := fun _ => fun
  | [d] => { results := [.lit (.bool true)], args := [d] }
  | _ => none }
def fnExactDeriveSeriesRow : OpenClaim := { program := "ytpfbcchjeamjoaa", sum := "bdbeb777464a6017af65185e949fb49eeb7794886d1e70cba504af8851d92b29", func := "loop.example/g01100/laws.FnExactDeriveSeries", spec := "fnExactDeriveSeries", unfollowed := true, recurses := true, apart := false }
def FnExactDeriveSeriesSaid : Prop := fnExactDeriveSeriesRow.holds Try.pinned (OpenSpec.ofChange fnExactDeriveSeriesSpec)

/-- ITS FALSE NEIGHBOUR: 'it returns false'. Refute it at one input. -/
def fnExactDeriveSeriesWrong : ChangeSpec := { name := "fnExactDeriveSeries", fn := fun _ => fun
  | [d] => { results := [.lit (.bool false)], args := [d] }
  | _ => none }
def FnExactDeriveSeriesWrongFalsely : Prop := fnExactDeriveSeriesRow.holds Try.pinned (OpenSpec.ofChange fnExactDeriveSeriesWrong)

/-- 'laws.FnExactEvaluateSeries': WHATEVER THE INPUT: true; the input reads as it did. -/
def fnExactEvaluateSeriesSpec : ChangeSpec := { name := "fnExactEvaluateSeries", fn := fun _ => fun
  | [d1, d2] => { results := [.lit (.bool true)], args := [d1, d2] }
  | _ => none }
def fnExactEvaluateSeriesRow : OpenClaim := { program := "ytpfbcchjeamjoaa", sum := "bdbeb777464a6017af65185e949fb49eeb7794886d1e70cba504af8851d92b29", func := "loop.example/g01100/laws.FnExactEvaluateSeries", spec := "fnExactEvaluateSeries", unfollowed := true, recurses := true, apart := false }
def FnExactEvaluateSeriesSaid : Prop := fnExactEvaluateSeriesRow.holds Try.pinned (OpenSpec.ofChange fnExactEvaluateSeriesSpec)

/-- ITS FALSE NEIGHBOUR: 'it returns false'. Refute it at one input. -/
def fnExactEvaluateSeriesWrong : ChangeSpec := { name := "fnExactEvaluateSeries", fn := fun _ => fun
  | [d1, d2] => { results := [.lit (.bool false)], args := [d1, d2] }
  | _ => none }
def FnExactEvaluateSeriesWrongFalsely : Prop := fnExactEvaluateSeriesRow.holds Try.pinned (OpenSpec.ofChange fnExactEvaluateSeriesWrong)

/-- 'laws.FnExactAddSeries': WHATEVER THE INPUT: true; the input reads as it did. -/
def fnExactAddSeriesSpec : ChangeSpec := { name := "fnExactAddSeries", fn := fun _ => fun
  | [d1, d2] => { results := [.lit (.bool true)], args := [d1, d2] }
  | _ => none }
def fnExactAddSeriesRow : OpenClaim := { program := "ytpfbcchjeamjoaa", sum := "bdbeb777464a6017af65185e949fb49eeb7794886d1e70cba504af8851d92b29", func := "loop.example/g01100/laws.FnExactAddSeries", spec := "fnExactAddSeries", unfollowed := true, recurses := true, apart := false }
def FnExactAddSeriesSaid : Prop := fnExactAddSeriesRow.holds Try.pinned (OpenSpec.ofChange fnExactAddSeriesSpec)

/-- ITS FALSE NEIGHBOUR: 'it returns false'. Refute it at one input. -/
def fnExactAddSeriesWrong : ChangeSpec := { name := "fnExactAddSeries", fn := fun _ => fun
  | [d1, d2] => { results := [.lit (.bool false)], args := [d1, d2] }
  | _ => none }
def FnExactAddSeriesWrongFalsely : Prop := fnExactAddSeriesRow.holds Try.pinned (OpenSpec.ofChange fnExactAddSeriesWrong)

/-- 'laws.FnExactScaleSeries': WHATEVER THE INPUT: true; the input reads as it did. -/
def fnExactScaleSeriesSpec : ChangeSpec := { name := "fnExactScaleSeries", fn := fun _ => fun
  | [d1, d2] => { results := [.lit (.bool true)], args := [d1, d2] }
  | _ => none }
def fnExactScaleSeriesRow : OpenClaim := { program := "ytpfbcchjeamjoaa", sum := "bdbeb777464a6017af65185e949fb49eeb7794886d1e70cba504af8851d92b29", func := "loop.example/g01100/laws.FnExactScaleSeries", spec := "fnExactScaleSeries", unfollowed := true, recurses := true, apart := false }
def FnExactScaleSeriesSaid : Prop := fnExactScaleSeriesRow.holds Try.pinned (OpenSpec.ofChange fnExactScaleSeriesSpec)

/-- ITS FALSE NEIGHBOUR: 'it returns false'. Refute it at one input. -/
def fnExactScaleSeriesWrong : ChangeSpec := { name := "fnExactScaleSeries", fn := fun _ => fun
  | [d1, d2] => { results := [.lit (.bool false)], args := [d1, d2] }
  | _ => none }
def FnExactScaleSeriesWrongFalsely : Prop := fnExactScaleSeriesRow.holds Try.pinned (OpenSpec.ofChange fnExactScaleSeriesWrong)

/-- 'laws.FnExactIntegrateSeries': WHATEVER THE INPUT: true; the input reads as it did. -/
def fnExactIntegrateSeriesSpec : ChangeSpec := { name := "fnExactIntegrateSeries", fn := fun _ => fun
  | [d] => { results := [.lit (.bool true)], args := [d] }
  | _ => none }
def fnExactIntegrateSeriesRow : OpenClaim := { program := "ytpfbcchjeamjoaa", sum := "bdbeb777464a6017af65185e949fb49eeb7794886d1e70cba504af8851d92b29", func := "loop.example/g01100/laws.FnExactIntegrateSeries", spec := "fnExactIntegrateSeries", unfollowed := true, recurses := true, apart := false }
def FnExactIntegrateSeriesSaid : Prop := fnExactIntegrateSeriesRow.holds Try.pinned (OpenSpec.ofChange fnExactIntegrateSeriesSpec)

/-- ITS FALSE NEIGHBOUR: 'it returns false'. Refute it at one input. -/
def fnExactIntegrateSeriesWrong : ChangeSpec := { name := "fnExactIntegrateSeries", fn := fun _ => fun
  | [d] => { results := [.lit (.bool false)], args := [d] }
  | _ => none }
def FnExactIntegrateSeriesWrongFalsely : Prop := fnExactIntegrateSeriesRow.holds Try.pinned (OpenSpec.ofChange fnExactIntegrateSeriesWrong)

/-- 'laws.FnExactMultiplySeries': WHATEVER THE INPUT: true; the input reads as it did. -/
def fnExactMultiplySeriesSpec : ChangeSpec := { name := "fnExactMultiplySeries", fn := fun _ => fun
  | [d1, d2] => { results := [.lit (.bool true)], args := [d1, d2] }
  | _ => none }
def fnExactMultiplySeriesRow : OpenClaim := { program := "ytpfbcchjeamjoaa", sum := "bdbeb777464a6017af65185e949fb49eeb7794886d1e70cba504af8851d92b29", func := "loop.example/g01100/laws.FnExactMultiplySeries", spec := "fnExactMultiplySeries", unfollowed := true, recurses := true, apart := false }
def FnExactMultiplySeriesSaid : Prop := fnExactMultiplySeriesRow.holds Try.pinned (OpenSpec.ofChange fnExactMultiplySeriesSpec)

/-- ITS FALSE NEIGHBOUR: 'it returns false'. Refute it at one input. -/
def fnExactMultiplySeriesWrong : ChangeSpec := { name := "fnExactMultiplySeries", fn := fun _ => fun
  | [d1, d2] => { results := [.lit (.bool false)], args := [d1, d2] }
  | _ => none }
def FnExactMultiplySeriesWrongFalsely : Prop := fnExactMultiplySeriesRow.holds Try.pinned (OpenSpec.ofChange fnExactMultiplySeriesWrong)

/-- 'laws.FnExactExponentialTo': WHATEVER THE INPUT: true; the input reads as it did. -/
def fnExactExponentialToSpec : ChangeSpec := { name := "fnExactExponentialTo", fn := fun _ => fun
  | [d] => { results := [.lit (.bool true)], args := [d] }
  | _ => none }
def fnExactExponentialToRow : OpenClaim := { program := "ytpfbcchjeamjoaa", sum := "bdbeb777464a6017af65185e949fb49eeb7794886d1e70cba504af8851d92b29", func := "loop.example/g01100/laws.FnExactExponentialTo", spec := "fnExactExponentialTo", apart := false }
def FnExactExponentialToSaid : Prop := fnExactExponentialToRow.holds Try.pinned (OpenSpec.ofChange fnExactExponentialToSpec)

/-- ITS FALSE NEIGHBOUR: 'it returns false'. Refute it at one input. -/
def fnExactExponentialToWrong : ChangeSpec := { name := "fnExactExponentialTo", fn := fun _ => fun
  | [d] => { results := [.lit (.bool false)], args := [d] }
  | _ => none }
def FnExactExponentialToWrongFalsely : Prop := fnExactExponentialToRow.holds Try.pinned (OpenSpec.ofChange fnExactExponentialToWrong)

/-- 'laws.FnExactExpSeries': WHATEVER THE INPUT: true; the input reads as it did. -/
def fnExactExpSeriesSpec : ChangeSpec := { name := "fnExactExpSeries", fn := fun _ => fun
  | [d] => { results := [.lit (.bool true)], args := [d] }
  | _ => none }
def fnExactExpSeriesRow : OpenClaim := { program := "ytpfbcchjeamjoaa", sum := "bdbeb777464a6017af65185e949fb49eeb7794886d1e70cba504af8851d92b29", func := "loop.example/g01100/laws.FnExactExpSeries", spec := "fnExactExpSeries", unfollowed := true, recurses := true, apart := false }
def FnExactExpSeriesSaid : Prop := fnExactExpSeriesRow.holds Try.pinned (OpenSpec.ofChange fnExactExpSeriesSpec)

/-- ITS FALSE NEIGHBOUR: 'it returns false'. Refute it at one input. -/
def fnExactExpSeriesWrong : ChangeSpec := { name := "fnExactExpSeries", fn := fun _ => fun
  | [d] => { results := [.lit (.bool false)], args := [d] }
  | _ => none }
def FnExactExpSeriesWrongFalsely : Prop := fnExactExpSeriesRow.holds Try.pinned (OpenSpec.ofChange fnExactExpSeriesWrong)

/-- 'laws.FnExactComposeSeries': WHATEVER THE INPUT: true; the input reads as it did. -/
def fnExactComposeSeriesSpec : ChangeSpec := { name := "fnExactComposeSeries", fn := fun _ => fun
  | [d1, d2] => { results := [.lit (.bool true)], args := [d1, d2] }
  | _ => none }
def fnExactComposeSeriesRow : OpenClaim := { program := "ytpfbcchjeamjoaa", sum := "bdbeb777464a6017af65185e949fb49eeb7794886d1e70cba504af8851d92b29", func := "loop.example/g01100/laws.FnExactComposeSeries", spec := "fnExactComposeSeries", unfollowed := true, recurses := true, apart := false }
def FnExactComposeSeriesSaid : Prop := fnExactComposeSeriesRow.holds Try.pinned (OpenSpec.ofChange fnExactComposeSeriesSpec)

/-- ITS FALSE NEIGHBOUR: 'it returns false'. Refute it at one input. -/
def fnExactComposeSeriesWrong : ChangeSpec := { name := "fnExactComposeSeries", fn := fun _ => fun
  | [d1, d2] => { results := [.lit (.bool false)], args := [d1, d2] }
  | _ => none }
def FnExactComposeSeriesWrongFalsely : Prop := fnExactComposeSeriesRow.holds Try.pinned (OpenSpec.ofChange fnExactComposeSeriesWrong)

/-- 'laws.FnExactLogSeries': WHATEVER THE INPUT: true; the input reads as it did. -/
def fnExactLogSeriesSpec : ChangeSpec := { name := "fnExactLogSeries", fn := fun _ => fun
  | [d] => { results := [.lit (.bool true)], args := [d] }
  | _ => none }
def fnExactLogSeriesRow : OpenClaim := { program := "ytpfbcchjeamjoaa", sum := "bdbeb777464a6017af65185e949fb49eeb7794886d1e70cba504af8851d92b29", func := "loop.example/g01100/laws.FnExactLogSeries", spec := "fnExactLogSeries", unfollowed := true, recurses := true, apart := false }
def FnExactLogSeriesSaid : Prop := fnExactLogSeriesRow.holds Try.pinned (OpenSpec.ofChange fnExactLogSeriesSpec)

/-- ITS FALSE NEIGHBOUR: 'it returns false'. Refute it at one input. -/
def fnExactLogSeriesWrong : ChangeSpec := { name := "fnExactLogSeries", fn := fun _ => fun
  | [d] => { results := [.lit (.bool false)], args := [d] }
  | _ => none }
def FnExactLogSeriesWrongFalsely : Prop := fnExactLogSeriesRow.holds Try.pinned (OpenSpec.ofChange fnExactLogSeriesWrong)

/-- 'laws.FnExactDivideSeries': WHATEVER THE INPUT: true; the input reads as it did. -/
def fnExactDivideSeriesSpec : ChangeSpec := { name := "fnExactDivideSeries", fn := fun _ => fun
  | [d1, d2] => { results := [.lit (.bool true)], args := [d1, d2] }
  | _ => none }
def fnExactDivideSeriesRow : OpenClaim := { program := "ytpfbcchjeamjoaa", sum := "bdbeb777464a6017af65185e949fb49eeb7794886d1e70cba504af8851d92b29", func := "loop.example/g01100/laws.FnExactDivideSeries", spec := "fnExactDivideSeries", unfollowed := true, recurses := true, apart := false }
def FnExactDivideSeriesSaid : Prop := fnExactDivideSeriesRow.holds Try.pinned (OpenSpec.ofChange fnExactDivideSeriesSpec)

/-- ITS FALSE NEIGHBOUR: 'it returns false'. Refute it at one input. -/
def fnExactDivideSeriesWrong : ChangeSpec := { name := "fnExactDivideSeries", fn := fun _ => fun
  | [d1, d2] => { results := [.lit (.bool false)], args := [d1, d2] }
  | _ => none }
def FnExactDivideSeriesWrongFalsely : Prop := fnExactDivideSeriesRow.holds Try.pinned (OpenSpec.ofChange fnExactDivideSeriesWrong)

/- THE SECOND FORM. 'bulk': how many values and letters a reading holds, each counted each time it is reached (what is shared counts as often as it is met; a slice's spare places count too). A statement '..UptoSaid' is the law's where the arguments, and the package variables that the reading takes, are together of bulk at most 1048576: NARROWER than '..Said'. Prove '..Said' where nothing that the law and all that it calls make is longer than what came in: it says more and counts as full. Else prove '..UptoSaid'. A law counts once. -/
mutual
def uptoBulk {H : Type} : DataW H → Nat
  | .lit (.string bytes) => bytes.length + 1
  | .lit _ => 1
  | .nil => 1
  | .ptr d => uptoBulk d + 1
  | .slice elems spare => uptoBulkAll elems + uptoBulkAll spare + 1
  | .agg parts => uptoBulkAll parts + 1
  | .iface _ d => uptoBulk d + 1
  | .map entries => uptoBulkEntries entries + 1
  | .held _ => 1
def uptoBulkAll {H : Type} : List (DataW H) → Nat
  | [] => 0
  | d :: r => uptoBulk d + uptoBulkAll r
def uptoBulkEntries {H : Type} : List (Lit × DataW H) → Nat
  | [] => 0
  | x :: r => uptoBulkEntry x + uptoBulkEntries r
def uptoBulkEntry {H : Type} : Lit × DataW H → Nat
  | (.string bytes, d) => bytes.length + uptoBulk d + 1
  | (_, d) => uptoBulk d + 1
 end
def uptoSmall : (H : Type) → List (DataW H) → Bool := fun _ ds => decide (uptoBulkAll ds ≤ 1048576)
def OpenSpec.upto (s : _root_.Go.ChangeSpec) : _root_.Go.OpenSpec := { _root_.Go.OpenSpec.ofChange s with cond := some uptoSmall }

/-- 'laws.FnExactIsSeries', WHERE WHAT IT READS IS OF BULK AT MOST 1048576: true; the input reads as it did. -/
def fnExactIsSeriesUptoRow : OpenClaim := { program := "ytpfbcchjeamjoaa", sum := "bdbeb777464a6017af65185e949fb49eeb7794886d1e70cba504af8851d92b29", func := "loop.example/g01100/laws.FnExactIsSeries", spec := "fnExactIsSeries", unfollowed := true, recurses := true, apart := false, narrowed := true }
def FnExactIsSeriesUptoSaid : Prop := fnExactIsSeriesUptoRow.holds Try.pinned (OpenSpec.upto fnExactIsSeriesSpec)

/-- 'laws.FnExactDeriveSeries', WHERE WHAT IT READS IS OF BULK AT MOST 1048576: true; the input reads as it did. -/
def fnExactDeriveSeriesUptoRow : OpenClaim := { program := "ytpfbcchjeamjoaa", sum := "bdbeb777464a6017af65185e949fb49eeb7794886d1e70cba504af8851d92b29", func := "loop.example/g01100/laws.FnExactDeriveSeries", spec := "fnExactDeriveSeries", unfollowed := true, recurses := true, apart := false, narrowed := true }
def FnExactDeriveSeriesUptoSaid : Prop := fnExactDeriveSeriesUptoRow.holds Try.pinned (OpenSpec.upto fnExactDeriveSeriesSpec)

/-- 'laws.FnExactEvaluateSeries', WHERE WHAT IT READS IS OF BULK AT MOST 1048576: true; the input reads as it did. -/
def fnExactEvaluateSeriesUptoRow : OpenClaim := { program := "ytpfbcchjeamjoaa", sum := "bdbeb777464a6017af65185e949fb49eeb7794886d1e70cba504af8851d92b29", func := "loop.example/g01100/laws.FnExactEvaluateSeries", spec := "fnExactEvaluateSeries", unfollowed := true, recurses := true, apart := false, narrowed := true }
def FnExactEvaluateSeriesUptoSaid : Prop := fnExactEvaluateSeriesUptoRow.holds Try.pinned (OpenSpec.upto fnExactEvaluateSeriesSpec)

/-- 'laws.FnExactAddSeries', WHERE WHAT IT READS IS OF BULK AT MOST 1048576: true; the input reads as it did. -/
def fnExactAddSeriesUptoRow : OpenClaim := { program := "ytpfbcchjeamjoaa", sum := "bdbeb777464a6017af65185e949fb49eeb7794886d1e70cba504af8851d92b29", func := "loop.example/g01100/laws.FnExactAddSeries", spec := "fnExactAddSeries", unfollowed := true, recurses := true, apart := false, narrowed := true }
def FnExactAddSeriesUptoSaid : Prop := fnExactAddSeriesUptoRow.holds Try.pinned (OpenSpec.upto fnExactAddSeriesSpec)

/-- 'laws.FnExactScaleSeries', WHERE WHAT IT READS IS OF BULK AT MOST 1048576: true; the input reads as it did. -/
def fnExactScaleSeriesUptoRow : OpenClaim := { program := "ytpfbcchjeamjoaa", sum := "bdbeb777464a6017af65185e949fb49eeb7794886d1e70cba504af8851d92b29", func := "loop.example/g01100/laws.FnExactScaleSeries", spec := "fnExactScaleSeries", unfollowed := true, recurses := true, apart := false, narrowed := true }
def FnExactScaleSeriesUptoSaid : Prop := fnExactScaleSeriesUptoRow.holds Try.pinned (OpenSpec.upto fnExactScaleSeriesSpec)

/-- 'laws.FnExactIntegrateSeries', WHERE WHAT IT READS IS OF BULK AT MOST 1048576: true; the input reads as it did. -/
def fnExactIntegrateSeriesUptoRow : OpenClaim := { program := "ytpfbcchjeamjoaa", sum := "bdbeb777464a6017af65185e949fb49eeb7794886d1e70cba504af8851d92b29", func := "loop.example/g01100/laws.FnExactIntegrateSeries", spec := "fnExactIntegrateSeries", unfollowed := true, recurses := true, apart := false, narrowed := true }
def FnExactIntegrateSeriesUptoSaid : Prop := fnExactIntegrateSeriesUptoRow.holds Try.pinned (OpenSpec.upto fnExactIntegrateSeriesSpec)

/-- 'laws.FnExactMultiplySeries', WHERE WHAT IT READS IS OF BULK AT MOST 1048576: true; the input reads as it did. -/
def fnExactMultiplySeriesUptoRow : OpenClaim := { program := "ytpfbcchjeamjoaa", sum := "bdbeb777464a6017af65185e949fb49eeb7794886d1e70cba504af8851d92b29", func := "loop.example/g01100/laws.FnExactMultiplySeries", spec := "fnExactMultiplySeries", unfollowed := true, recurses := true, apart := false, narrowed := true }
def FnExactMultiplySeriesUptoSaid : Prop := fnExactMultiplySeriesUptoRow.holds Try.pinned (OpenSpec.upto fnExactMultiplySeriesSpec)

/-- 'laws.FnExactExponentialTo', WHERE WHAT IT READS IS OF BULK AT MOST 1048576: true; the input reads as it did. -/
def fnExactExponentialToUptoRow : OpenClaim := { program := "ytpfbcchjeamjoaa", sum := "bdbeb777464a6017af65185e949fb49eeb7794886d1e70cba504af8851d92b29", func := "loop.example/g01100/laws.FnExactExponentialTo", spec := "fnExactExponentialTo", apart := false, narrowed := true }
def FnExactExponentialToUptoSaid : Prop := fnExactExponentialToUptoRow.holds Try.pinned (OpenSpec.upto fnExactExponentialToSpec)

/-- 'laws.FnExactExpSeries', WHERE WHAT IT READS IS OF BULK AT MOST 1048576: true; the input reads as it did. -/
def fnExactExpSeriesUptoRow : OpenClaim := { program := "ytpfbcchjeamjoaa", sum := "bdbeb777464a6017af65185e949fb49eeb7794886d1e70cba504af8851d92b29", func := "loop.example/g01100/laws.FnExactExpSeries", spec := "fnExactExpSeries", unfollowed := true, recurses := true, apart := false, narrowed := true }
def FnExactExpSeriesUptoSaid : Prop := fnExactExpSeriesUptoRow.holds Try.pinned (OpenSpec.upto fnExactExpSeriesSpec)

/-- 'laws.FnExactComposeSeries', WHERE WHAT IT READS IS OF BULK AT MOST 1048576: true; the input reads as it did. -/
def fnExactComposeSeriesUptoRow : OpenClaim := { program := "ytpfbcchjeamjoaa", sum := "bdbeb777464a6017af65185e949fb49eeb7794886d1e70cba504af8851d92b29", func := "loop.example/g01100/laws.FnExactComposeSeries", spec := "fnExactComposeSeries", unfollowed := true, recurses := true, apart := false, narrowed := true }
def FnExactComposeSeriesUptoSaid : Prop := fnExactComposeSeriesUptoRow.holds Try.pinned (OpenSpec.upto fnExactComposeSeriesSpec)

/-- 'laws.FnExactLogSeries', WHERE WHAT IT READS IS OF BULK AT MOST 1048576: true; the input reads as it did. -/
def fnExactLogSeriesUptoRow : OpenClaim := { program := "ytpfbcchjeamjoaa", sum := "bdbeb777464a6017af65185e949fb49eeb7794886d1e70cba504af8851d92b29", func := "loop.example/g01100/laws.FnExactLogSeries", spec := "fnExactLogSeries", unfollowed := true, recurses := true, apart := false, narrowed := true }
def FnExactLogSeriesUptoSaid : Prop := fnExactLogSeriesUptoRow.holds Try.pinned (OpenSpec.upto fnExactLogSeriesSpec)

/-- 'laws.FnExactDivideSeries', WHERE WHAT IT READS IS OF BULK AT MOST 1048576: true; the input reads as it did. -/
def fnExactDivideSeriesUptoRow : OpenClaim := { program := "ytpfbcchjeamjoaa", sum := "bdbeb777464a6017af65185e949fb49eeb7794886d1e70cba504af8851d92b29", func := "loop.example/g01100/laws.FnExactDivideSeries", spec := "fnExactDivideSeries", unfollowed := true, recurses := true, apart := false, narrowed := true }
def FnExactDivideSeriesUptoSaid : Prop := fnExactDivideSeriesUptoRow.holds Try.pinned (OpenSpec.upto fnExactDivideSeriesSpec)

end Rows
end Go.Proofs.Ytpfbcchjeamjoaa
