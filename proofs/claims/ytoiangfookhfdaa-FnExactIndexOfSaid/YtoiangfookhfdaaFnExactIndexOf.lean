/-
  The law FnExactIndexOf is proved of the program: for every input the call returns true, and each argument reads afterwards as it read before. Its one condition: the arguments can be read as data.
-/
import Derived.Test.YtoiangfookhfdaaRows
import Derived.Test.YtoiangfookhfdaaTreeI
import Derived.Test.YtoiangfookhfdaaSlices
import Derived.WalkKit
import Derived.ProofKit
import Derived.OpenShut
import Derived.ShutString
import Derived.ChangeOld
import Derived.Below
namespace Go.Proofs.Ytoiangfookhfdaa.fnExactIndexOf
open Go.ChangeShapes Go.WideShapes Go.ChangeAt Go.RowKit
open Go.ChangeMaps (open_string shut_string)
set_option linter.unusedVariables false
theorem own : ownKnob Try.prog.godebug = none := by kernel_rfl
theorem laidOut : laidOutB Try.prog = true := by kernel_rfl
theorem walk {w : World} (v0 : Value) (i0 : InI w v0) :
    Calls Try.prog 14 #[v0] w fun e w' => e = .returned (.bool true) ∧ Below w.heap.size w w' := by
  obtain ⟨ao0, n0, cap0, rfl, hn0, hin0⟩ := i0
  unfold maxLen at hn0
  by_cases hs0 : n0 ≤ 1048576
  · obtain ⟨z0, R0', Z0, hz0⟩ := hin0 hs0
    have R0 := hid R0'
    clear hz0 hin0 R0' Z0
    have T : Below w.heap.size w w := Below.refl _ _
    go_enter Try.func14, Try.ntmps14
    go_wp2_with fail
    refine (toInt64S_any _ z0 _ (R0.out.mono T)).mono ?_
    rintro e w1 ⟨u0, rfl, O_u0, B1⟩
    replace T := nx T B1
    have U_u0 := O_u0.own_lt
    have S1 := B1.size
    go_wp2_with fail
    refine (sIndexOf_any _ z0 _ O_u0.rd).mono ?_
    rintro e w2 ⟨rfl, B2⟩
    replace O_u0 := O_u0.mono B2
    replace T := nx T B2
    go_wp2_with fail
    refine (toInt64S_any _ z0 _ (R0.out.mono T)).mono ?_
    rintro e w3 ⟨x0, rfl, O_x0, B3⟩
    replace T := nx T B3
    have U_x0 := O_x0.own_lt
    have S3 := B3.size
    go_wp2_with fail
    refine (indexOf_any _ z0 _ O_x0.rd).mono ?_
    rintro e w4 ⟨rfl, B4⟩
    replace O_x0 := O_x0.mono B4
    replace T := nx T B4
    go_wp2_with fail
    refine (toInt64S_any _ z0 _ (R0.out.mono T)).mono ?_
    rintro e w5 ⟨y0, rfl, O_y0, B5⟩
    replace O_x0 := O_x0.mono B5
    replace T := nx T B5
    have U_y0 := O_y0.own_lt
    have S5 := B5.size
    go_wp2_with fail
    refine (eqInt64S_any _ _ z0 z0 _ O_x0.rd O_y0.rd).mono ?_
    rintro e w6 ⟨rfl, D6⟩
    rw [sameL_self]
    have B6 := D6.below w5.heap.size
    have S6 := B6.size
    replace O_x0 := O_x0.mono B6
    replace O_y0 := O_y0.mono B6
    replace T := nx T B6
    go_wp2
    go_ret
    exact ⟨rfl, T⟩
  · have hs' : 1048576 < n0 := by omega
    clear hs0 hin0
    go_enter Try.func14, Try.ntmps14
    go_wp2
    go_ret
    exact ⟨rfl, Below.refl _ _⟩

set_option maxRecDepth 100000 in
theorem lifted (os : Os) (started : os.Started) (H : Type) (enc : TypeId × Value → H) :
    ReturnsInHanded {} Try.checked os 14 .any (Rows.fnExactIndexOfSpec.pre6 enc Try.prog Try.f14 Rows.fnExactIndexOfRow.domain false) (Rows.fnExactIndexOfSpec.post enc Try.prog Try.f14 false true false false) := by
  refine returnsInHanded_of_change (C := Try.checked) own started (by kernel_rfl) Try.func14
    (ChangeSpec.witness6 (enc := enc) (C := Try.checked) false ⟨#[], #[.slice none 0 0], []⟩ 8 (by kernel_rfl) (by kernel_rfl) (by kernel_rfl) (by kernel_rfl)) ?_
  intro W base args ds gs before hval0 hW hcnd _
  have hval : ∀ (j : Nat) t v, Try.f14.params[j]? = some t → args[j]? = some v → Value.okWide Try.prog W .any base t v := hval0
  have hW' := hW
  obtain ⟨p, q, hA0, hV, rfl, hfz, hnd⟩ := hW
  have hA : DataW.TrodAll enc Try.prog W 0 (fun _ => true) true Try.f14.params.toList args.toList ds p := hA0
  rw [Try.params14] at hA hval
  obtain ⟨v0, vs0, d0, ds0, p0, q0, hargs, rfl, rfl, h0, r0⟩ := trodAll_cons hA
  obtain ⟨rfl, rfl, rfl⟩ := trodAll_nil r0
  obtain rfl : args = #[v0] := by cases args; simp_all
  obtain ⟨rfl, rfl⟩ := trodVars_none hV
  have k0 := h0
  have lt0 : ∀ x ∈ p0, x.block < W.heap.size := by obtain ⟨m, hm⟩ := k0; exact DataW.trod_lt m _ _ _ hm
  have i0 : InI W v0 := InI.open_ Try.underlying22 Try.underlying2 (by kernel_rfl) (hval 0 22 v0 rfl rfl) h0
  clear hA0 hval0
  refine (walk v0 i0).mono fun e W' ⟨he, bel⟩ => ?_
  subst he
  exact ⟨_, rfl, _, _, _, [], _, [], hW', trodAll_mk1 (shut_bool Try.underlying4 _), (trodAll_cons_mk (Below.trod laidOut (by kernel_rfl) (of_decide_eq_true (by kernel_rfl)) k0 bel lt0) trodAll_mk0), rfl, bel.frame _, fun h => by cases h⟩
theorem over : Rows.fnExactIndexOfRow.holds Try.pinned (OpenSpec.ofChange Rows.fnExactIndexOfSpec) :=
  OpenClaim.holds_of_wide 14 Try.f14 rfl rfl rfl rfl rfl rfl rfl ⟨rfl, rfl, rfl, rfl, rfl⟩ rfl rfl rfl rfl rfl (by kernel_rfl) Try.func14 (by kernel_rfl)
    (of_decide_eq_true (by kernel_rfl)) (by unfold Func.isWrapper; first | (rw [if_pos (by decide +kernel)]; kernel_rfl) | (rw [if_neg (by decide +kernel)]; exact ⟨rfl, rfl⟩))
    (fun os started H enc _ => lifted os started H enc)
theorem proved : Rows.FnExactIndexOfSaid := over
#print axioms proved
end Go.Proofs.Ytoiangfookhfdaa.fnExactIndexOf
