/-
  The law FnExactTreeText is proved of the program: for every input the call returns true, and each argument reads afterwards as it read before. Its one condition: the arguments can be read as data.
-/
import Derived.Test.YthjdmkjncaemgaaRows
import Derived.Test.YthjdmkjncaemgaaTreeTxt
import Derived.Test.YthjdmkjncaemgaaRng
import Derived.WalkKit
import Derived.ProofKit
import Derived.OpenShut
import Derived.ShutString
import Derived.ChangeOld
import Derived.Below
namespace Go.Proofs.Ythjdmkjncaemgaa.fnExactTreeText
open Go.ChangeShapes Go.WideShapes Go.ChangeAt Go.RowKit
open Go.ChangeMaps (open_string shut_string)
set_option linter.unusedVariables false
theorem own : ownKnob Try.prog.godebug = none := by kernel_rfl
theorem laidOut : laidOutB Try.prog = true := by kernel_rfl
theorem walk {w : World} (v0 : Value) (i0 : InI w v0) :
    Calls Try.prog 3 #[v0] w fun e w' => e = .returned (.bool true) ∧ Below w.heap.size w w' := by
  obtain ⟨ao0, n0, cap0, rfl, hn0, hin0⟩ := i0
  unfold maxLen at hn0
  by_cases hs0 : n0 ≤ 1048576
  · obtain ⟨z0, R0', Z0, hz0⟩ := hin0 hs0
    have R0 := hid R0'
    clear hz0 hin0 R0' Z0
    have T : Below w.heap.size w w := Below.refl _ _
    go_enter Try.func3, Try.ntmps3
    go_wp2_with fail
    refine (toInt64S_any _ z0 _ (R0.out.mono T)).mono ?_
    rintro e w1 ⟨u0, rfl, O_u0, B_w1⟩
    have H_u0 := HasI.of O_u0
    clear O_u0
    replace T := nx T B_w1
    have S_w1 := B_w1.size
    go_wp2_with fail
    refine (sTreeText_any _ z0 _ H_u0.rd ).mono ?_
    rintro e w2 ⟨rfl, B_w2⟩
    replace H_u0 := H_u0.mono B_w2
    replace T := nx T B_w2
    have S_w2 := B_w2.size
    clear H_u0
    go_wp2_with fail
    refine (toInt64S_any _ z0 _ (R0.out.mono T)).mono ?_
    rintro e w3 ⟨x0, rfl, O_x0, B_w3⟩
    have H_x0 := HasI.of O_x0
    clear O_x0
    replace T := nx T B_w3
    have S_w3 := B_w3.size
    go_wp2_with fail
    refine (treeTextE_any _ z0 _ H_x0.rd ).mono ?_
    rintro e w4 ⟨rfl, B_w4⟩
    replace H_x0 := H_x0.mono B_w4
    replace T := nx T B_w4
    have S_w4 := B_w4.size
    go_wp2_with fail
    refine (toInt64S_any _ z0 _ (R0.out.mono T)).mono ?_
    rintro e w5 ⟨y0, rfl, O_y0, B_w5⟩
    have H_y0 := HasI.of O_y0
    clear O_y0
    replace H_x0 := H_x0.mono B_w5
    replace T := nx T B_w5
    have S_w5 := B_w5.size
    go_wp2_with fail
    refine (eqInt64S_any _ _ z0 z0 _ H_x0.rd H_y0.rd).mono ?_
    rintro e w6 ⟨rfl, D_w6⟩
    rw [sameL_self]
    have B_w6 := D_w6.below w5.heap.size
    replace H_x0 := H_x0.mono B_w6
    replace H_y0 := H_y0.mono B_w6
    replace T := nx T B_w6
    have S_w6 := B_w6.size
    clear H_y0
    go_wp2
    go_ret
    exact ⟨rfl, T⟩
  · have hs' : 1048576 < n0 := by omega
    clear hs0 hin0
    go_enter Try.func3, Try.ntmps3
    go_wp2
    go_ret
    exact ⟨rfl, Below.refl _ _⟩

set_option maxRecDepth 100000 in
theorem lifted (os : Os) (started : os.Started) (H : Type) (enc : TypeId × Value → H) :
    ReturnsInHanded {} Try.checked os 3 .any (Rows.fnExactTreeTextSpec.pre6 enc Try.prog Try.f3 Rows.fnExactTreeTextRow.domain false) (Rows.fnExactTreeTextSpec.post enc Try.prog Try.f3 false true false false) := by
  refine returnsInHanded_of_change (C := Try.checked) own started (by kernel_rfl) Try.func3
    (ChangeSpec.witness6 (enc := enc) (C := Try.checked) false ⟨#[], #[.slice none 0 0], []⟩ 8 (by kernel_rfl) (by kernel_rfl) (by kernel_rfl) (by kernel_rfl)) ?_
  intro W base args ds gs before hval0 hW hcnd _
  have hval : ∀ (j : Nat) t v, Try.f3.params[j]? = some t → args[j]? = some v → Value.okWide Try.prog W .any base t v := hval0
  have hW' := hW
  obtain ⟨p, q, hA0, hV, rfl, hfz, hnd⟩ := hW
  have hA : DataW.TrodAll enc Try.prog W 0 (fun _ => true) true Try.f3.params.toList args.toList ds p := hA0
  rw [Try.params3] at hA hval
  obtain ⟨v0, vs0, d0, ds0, p0, q0, hargs, rfl, rfl, h0, r0⟩ := trodAll_cons hA
  obtain ⟨rfl, rfl, rfl⟩ := trodAll_nil r0
  obtain rfl : args = #[v0] := by cases args; simp_all
  obtain ⟨rfl, rfl⟩ := trodVars_none hV
  have k0 := h0
  have lt0 : ∀ x ∈ p0, x.block < W.heap.size := by obtain ⟨m, hm⟩ := k0; exact DataW.trod_lt m _ _ _ hm
  have i0 : InI W v0 := InI.open_ Try.underlying22 Try.underlying2 (by kernel_rfl) (hval 0 22 v0 rfl rfl) h0
  clear hA0 hval0
  refine (walk v0 i0).mono fun e W' ⟨he, bel⟩ => ?_
  subst he
  exact ⟨_, rfl, _, _, _, [], _, [], hW', trodAll_mk1 (shut_bool Try.underlying4 _), (trodAll_cons_mk (Below.trod laidOut (by kernel_rfl) (of_decide_eq_true (by kernel_rfl)) k0 bel lt0) trodAll_mk0), rfl, bel.frame _, fun h => by cases h⟩
theorem over : Rows.fnExactTreeTextRow.holds Try.pinned (OpenSpec.ofChange Rows.fnExactTreeTextSpec) :=
  OpenClaim.holds_of_wide 3 Try.f3 rfl rfl rfl rfl rfl rfl rfl ⟨rfl, rfl, rfl, rfl, rfl⟩ rfl rfl rfl rfl rfl (by kernel_rfl) Try.func3 (by kernel_rfl)
    (of_decide_eq_true (by kernel_rfl)) (by unfold Func.isWrapper; first | (rw [if_pos (by decide +kernel)]; kernel_rfl) | (rw [if_neg (by decide +kernel)]; exact ⟨rfl, rfl⟩))
    (fun os started H enc _ => lifted os started H enc)
theorem proved : Rows.FnExactTreeTextSaid := over
#print axioms proved
end Go.Proofs.Ythjdmkjncaemgaa.fnExactTreeText
