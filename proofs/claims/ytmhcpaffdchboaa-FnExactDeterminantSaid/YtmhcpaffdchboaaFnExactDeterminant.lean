/-
  The law FnExactDeterminant is proved of the program: for every input the call returns true, and each argument reads afterwards as it read before. Its one condition: the arguments can be read as data.
-/
import Derived.Test.YtmhcpaffdchboaaRows
import Derived.Test.YtmhcpaffdchboaaDetTop
import Derived.Test.YtmhcpaffdchboaaRng
import Derived.Test.YtmhcpaffdchboaaInII
import Derived.WalkKit
import Derived.ProofKit
import Derived.OpenShut
import Derived.ShutString
import Derived.ChangeOld
import Derived.Below
namespace Go.Proofs.Ytmhcpaffdchboaa.fnExactDeterminant
open Go.ChangeShapes Go.WideShapes Go.ChangeAt Go.RowKit
open Go.ChangeMaps (open_string shut_string)
set_option linter.unusedVariables false
theorem own : ownKnob Try.prog.godebug = none := by kernel_rfl
theorem laidOut : laidOutB Try.prog = true := by kernel_rfl
theorem walk {w : World} (v0 : Value) (i0 : InII w v0) :
    Calls Try.prog 4 #[v0] w fun e w' => e = .returned (.bool true) ∧ Below w.heap.size w w' := by
  go_enter Try.func4, Try.ntmps4
  go_wp2_with fail
  refine (szII_any v0 w i0).mono ?_
  rintro e w1 ⟨B_w1, l, rfl, hl | ⟨hl, z0, R0', Q0⟩⟩
  · go_wp2
    go_ret
    exact ⟨rfl, B_w1⟩
  have R0 := hid R0'
  clear R0'
  have T := B_w1
  have S_w1 := B_w1.size
  have tot_x0 := Q0
  go_wp2_with fail
  refine (toInt64SS_any _ z0 _ (R0.out.mono T)).mono ?_
  rintro e w2 ⟨u0, rfl, O_u0, B_w2⟩
  have H_u0 := HasII.of O_u0
  clear O_u0
  replace T := nx T B_w2
  have S_w2 := B_w2.size
  go_wp2_with fail
  refine (sDeterminant_any _ z0 _ H_u0.rd Q0).mono ?_
  rintro e w3 ⟨rfl, B_w3⟩
  replace H_u0 := H_u0.mono B_w3
  replace T := nx T B_w3
  have S_w3 := B_w3.size
  clear H_u0
  go_wp2_with fail
  refine (toInt64SS_any _ z0 _ (R0.out.mono T)).mono ?_
  rintro e w4 ⟨x0, rfl, O_x0, B_w4⟩
  have H_x0 := HasII.of O_x0
  clear O_x0
  replace T := nx T B_w4
  have S_w4 := B_w4.size
  go_wp2_with fail
  refine (determinantTop_any _ z0 _ H_x0.rd Q0).mono ?_
  rintro e w5 ⟨rfl, B_w5⟩
  replace H_x0 := H_x0.mono B_w5
  replace T := nx T B_w5
  have S_w5 := B_w5.size
  go_wp2_with fail
  refine (toInt64SS_any _ z0 _ (R0.out.mono T)).mono ?_
  rintro e w6 ⟨y0, rfl, O_y0, B_w6⟩
  have H_y0 := HasII.of O_y0
  clear O_y0
  replace H_x0 := H_x0.mono B_w6
  replace T := nx T B_w6
  have S_w6 := B_w6.size
  go_wp2_with fail
  refine (eqII_same _ _ z0 _ H_x0.rd H_y0.rd).mono ?_
  rintro e w7 ⟨rfl, D_w7⟩
  have B_w7 := D_w7.below w6.heap.size
  replace H_x0 := H_x0.mono B_w7
  replace H_y0 := H_y0.mono B_w7
  replace T := nx T B_w7
  have S_w7 := B_w7.size
  clear H_y0
  go_wp2
  go_ret
  exact ⟨rfl, T⟩

set_option maxRecDepth 100000 in
theorem lifted (os : Os) (started : os.Started) (H : Type) (enc : TypeId × Value → H) :
    ReturnsInHanded {} Try.checked os 4 .any (Rows.fnExactDeterminantSpec.pre6 enc Try.prog Try.f4 Rows.fnExactDeterminantRow.domain false) (Rows.fnExactDeterminantSpec.post enc Try.prog Try.f4 false true false false) := by
  refine returnsInHanded_of_change (C := Try.checked) own started (by kernel_rfl) Try.func4
    (ChangeSpec.witness6 (enc := enc) (C := Try.checked) false ⟨#[], #[.slice none 0 0], []⟩ 8 (by kernel_rfl) (by kernel_rfl) (by kernel_rfl) (by kernel_rfl)) ?_
  intro W base args ds gs before hval0 hW hcnd _
  have hval : ∀ (j : Nat) t v, Try.f4.params[j]? = some t → args[j]? = some v → Value.okWide Try.prog W .any base t v := hval0
  have hW' := hW
  obtain ⟨p, q, hA0, hV, rfl, hfz, hnd⟩ := hW
  have hA : DataW.TrodAll enc Try.prog W 0 (fun _ => true) true Try.f4.params.toList args.toList ds p := hA0
  rw [Try.params4] at hA hval
  obtain ⟨v0, vs0, d0, ds0, p0, q0, hargs, rfl, rfl, h0, r0⟩ := trodAll_cons hA
  obtain ⟨rfl, rfl, rfl⟩ := trodAll_nil r0
  obtain rfl : args = #[v0] := by cases args; simp_all
  obtain ⟨rfl, rfl⟩ := trodVars_none hV
  have k0 := h0
  have lt0 : ∀ x ∈ p0, x.block < W.heap.size := by obtain ⟨m, hm⟩ := k0; exact DataW.trod_lt m _ _ _ hm
  have i0 : InII W v0 := InII.open_ Try.underlying22 Try.underlying32 Try.underlying2 (by kernel_rfl) (by kernel_rfl) (hval 0 22 v0 rfl rfl) h0
  clear hA0 hval0
  refine (walk v0 i0).mono fun e W' ⟨he, bel⟩ => ?_
  subst he
  exact ⟨_, rfl, _, _, _, [], _, [], hW', trodAll_mk1 (shut_bool Try.underlying4 _), (trodAll_cons_mk (Below.trod laidOut (by kernel_rfl) (of_decide_eq_true (by kernel_rfl)) k0 bel lt0) trodAll_mk0), rfl, bel.frame _, fun h => by cases h⟩
theorem over : Rows.fnExactDeterminantRow.holds Try.pinned (OpenSpec.ofChange Rows.fnExactDeterminantSpec) :=
  OpenClaim.holds_of_wide 4 Try.f4 rfl rfl rfl rfl rfl rfl rfl ⟨rfl, rfl, rfl, rfl, rfl⟩ rfl rfl rfl rfl rfl (by kernel_rfl) Try.func4 (by kernel_rfl)
    (of_decide_eq_true (by kernel_rfl)) (by unfold Func.isWrapper; first | (rw [if_pos (by decide +kernel)]; kernel_rfl) | (rw [if_neg (by decide +kernel)]; exact ⟨rfl, rfl⟩))
    (fun os started H enc _ => lifted os started H enc)
theorem proved : Rows.FnExactDeterminantSaid := over
#print axioms proved
end Go.Proofs.Ytmhcpaffdchboaa.fnExactDeterminant
