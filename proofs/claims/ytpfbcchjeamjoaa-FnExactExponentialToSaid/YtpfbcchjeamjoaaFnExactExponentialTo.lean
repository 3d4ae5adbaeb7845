/-
  The law FnExactExponentialTo is proved of the program: for every input the call returns true, and each argument reads afterwards as it read before. Its one condition: the arguments can be read as data.
-/
import Derived.Test.YtpfbcchjeamjoaaRows
import Derived.Test.YtpfbcchjeamjoaaSerTo
import Derived.Test.YtpfbcchjeamjoaaSlices
import Derived.WalkKit
import Derived.ProofKit
import Derived.OpenShut
import Derived.ShutString
import Derived.ChangeOld
import Derived.Below
namespace Go.Proofs.Ytpfbcchjeamjoaa.fnExactExponentialTo
open Go.ChangeShapes Go.WideShapes Go.ChangeAt Go.RowKit
open Go.ChangeMaps (open_string shut_string)
set_option linter.unusedVariables false
theorem own : ownKnob Try.prog.godebug = none := by kernel_rfl
theorem laidOut : laidOutB Try.prog = true := by kernel_rfl
theorem walk {w : World} (a0 : Int) (w0 : (Lit.int .i64 a0).wf = true) :
    Calls Try.prog 10 #[.int .i64 a0] w fun e w' => e = .returned (.bool true) ∧ Below w.heap.size w w' := by
  have T : Below w.heap.size w w := Below.refl _ _
  go_enter Try.func10, Try.ntmps10
  go_wp2_with fail
  refine (sExponentialTo_any _  _ ).mono ?_
  rintro e w1 ⟨r, rfl, O_r, B1⟩
  replace T := nx T B1
  have U_r := O_r.own_lt
  have S1 := B1.size
  go_wp2_with fail
  refine (exponentialTo_any _  _ ).mono ?_
  rintro e w2 ⟨g, rfl, O_g, B2⟩
  replace O_r := O_r.mono B2
  replace T := nx T B2
  have U_g := O_g.own_lt
  have S2 := B2.size
  go_wp2_with fail
  refine (eqInt64S_any _ _ _ _ _ O_g.rd O_r.rd).mono ?_
  rintro e w3 ⟨rfl, D3⟩
  rw [sameL_self]
  have B3 := D3.below w2.heap.size
  have S3 := B3.size
  replace O_r := O_r.mono B3
  replace O_g := O_g.mono B3
  replace T := nx T B3
  go_wp2_with fail
  have lim4 := O_g.lim
  refine (markI_any _ _ _ _ _ O_g (by omega) (by omega)).mono ?_
  rintro e w4 ⟨rfl, O2_g, G4⟩
  replace O_r := O_r.grown G4 (ne_blocks' w1.heap.size (fun b hb => by have := (U_r b hb).2; omega) (fun b hb => (U_g b hb).1))
  replace T := T.grown G4 (by omega) (fun b hb => by have := (U_g b hb).1; omega)
  have S4 := G4.size
  go_wp2_with fail
  refine (heldI_any _ _ _ _ O2_g.rd (by omega) (by omega)).mono ?_
  rintro e w5 ⟨rfl, rfl⟩
  go_wp2_with fail
  refine (exponentialTo_any _  _ ).mono ?_
  rintro e w5 ⟨h, rfl, O_h, B5⟩
  replace O_r := O_r.mono B5
  replace O2_g := O2_g.mono B5
  replace T := nx T B5
  have U_h := O_h.own_lt
  have S5 := B5.size
  go_wp2_with fail
  refine (eqInt64S_any _ _ _ _ _ O_h.rd O_r.rd).mono ?_
  rintro e w6 ⟨rfl, D6⟩
  rw [sameL_self]
  have B6 := D6.below w5.heap.size
  have S6 := B6.size
  replace O_r := O_r.mono B6
  replace O2_g := O2_g.mono B6
  replace O_h := O_h.mono B6
  replace T := nx T B6
  go_wp2_with fail
  refine (heldI_any _ _ _ _ O2_g.rd (by omega) (by omega)).mono ?_
  rintro e w7 ⟨rfl, rfl⟩
  go_wp2
  go_ret
  exact ⟨rfl, T⟩

set_option maxRecDepth 100000 in
theorem lifted (os : Os) (started : os.Started) (H : Type) (enc : TypeId × Value → H) :
    ReturnsInHanded {} Try.checked os 10 .any (Rows.fnExactExponentialToSpec.pre6 enc Try.prog Try.f10 Rows.fnExactExponentialToRow.domain false) (Rows.fnExactExponentialToSpec.post enc Try.prog Try.f10 false true false false) := by
  refine returnsInHanded_of_change (C := Try.checked) own started (by kernel_rfl) Try.func10
    (ChangeSpec.witness6 (enc := enc) (C := Try.checked) false ⟨#[], #[.int .i64 0], []⟩ 8 (by kernel_rfl) (by kernel_rfl) (by kernel_rfl) (by kernel_rfl)) ?_
  intro W base args ds gs before hval0 hW hcnd _
  have hval : ∀ (j : Nat) t v, Try.f10.params[j]? = some t → args[j]? = some v → Value.okWide Try.prog W .any base t v := hval0
  have hW' := hW
  obtain ⟨p, q, hA0, hV, rfl, hfz, hnd⟩ := hW
  have hA : DataW.TrodAll enc Try.prog W 0 (fun _ => true) true Try.f10.params.toList args.toList ds p := hA0
  rw [Try.params10] at hA hval
  obtain ⟨v0, vs0, d0, ds0, p0, q0, hargs, rfl, rfl, h0, r0⟩ := trodAll_cons hA
  obtain ⟨rfl, rfl, rfl⟩ := trodAll_nil r0
  obtain rfl : args = #[v0] := by cases args; simp_all
  obtain ⟨rfl, rfl⟩ := trodVars_none hV
  obtain ⟨a0, rfl, rfl, rfl, w0⟩ := open_int Try.underlying2 (hval 0 2 v0 rfl rfl) h0
  clear hA0 hval0
  refine (walk a0 w0).mono fun e W' ⟨he, bel⟩ => ?_
  subst he
  exact ⟨_, rfl, _, _, _, [], _, [], hW', trodAll_mk1 (shut_bool Try.underlying4 _), (trodAll_cons_mk (shut_int Try.underlying2 w0) trodAll_mk0), rfl, bel.frame _, fun h => by cases h⟩
theorem over : Rows.fnExactExponentialToRow.holds Try.pinned (OpenSpec.ofChange Rows.fnExactExponentialToSpec) :=
  OpenClaim.holds_of_wide 10 Try.f10 rfl rfl rfl rfl rfl rfl rfl ⟨rfl, rfl, rfl, rfl, rfl⟩ rfl rfl rfl rfl rfl (by kernel_rfl) Try.func10 (by kernel_rfl)
    (of_decide_eq_true (by kernel_rfl)) (by unfold Func.isWrapper; first | (rw [if_pos (by decide +kernel)]; kernel_rfl) | (rw [if_neg (by decide +kernel)]; exact ⟨rfl, rfl⟩))
    (fun os started H enc _ => lifted os started H enc)
theorem proved : Rows.FnExactExponentialToSaid := over
#print axioms proved
end Go.Proofs.Ytpfbcchjeamjoaa.fnExactExponentialTo
