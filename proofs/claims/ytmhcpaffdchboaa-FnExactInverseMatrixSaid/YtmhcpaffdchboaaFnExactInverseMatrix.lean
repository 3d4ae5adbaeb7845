/-
  The law FnExactInverseMatrix is proved of the program: for every input the call returns true, and each argument reads afterwards as it read before. Its one condition: the arguments can be read as data.
-/
import Derived.Test.YtmhcpaffdchboaaRows
import Derived.Test.YtmhcpaffdchboaaInvS
import Derived.Test.YtmhcpaffdchboaaInvTop
import Derived.Test.YtmhcpaffdchboaaRng
import Derived.Test.YtmhcpaffdchboaaInII
import Derived.WalkKit
import Derived.ProofKit
import Derived.OpenShut
import Derived.ShutString
import Derived.ChangeOld
import Derived.Below
namespace Go.Proofs.Ytmhcpaffdchboaa.fnExactInverseMatrix
open Go.ChangeShapes Go.WideShapes Go.ChangeAt Go.RowKit
open Go.ChangeMaps (open_string shut_string)
set_option linter.unusedVariables false
theorem own : ownKnob Try.prog.godebug = none := by kernel_rfl
theorem laidOut : laidOutB Try.prog = true := by kernel_rfl
theorem walk {w : World} (v0 : Value) (i0 : InII w v0) :
    Calls Try.prog 5 #[v0] w fun e w' => e = .returned (.bool true) ∧ Below w.heap.size w w' := by
  go_enter Try.func5, Try.ntmps5
  go_wp2_with fail
  refine (szII_any v0 w i0).mono ?_
  rintro e w1 ⟨B_w1, l, rfl, hl | ⟨hl, z0, R0', Q0⟩⟩
  · go_wp2
    go_ret
    exact ⟨rfl, B_w1⟩
  have R0 := hid R0'
  clear R0'
  have T := B_w1
  have S_w1 := B_w1.size
  have tot_g := invR_tot z0
  have tot_x0 := Q0
  go_wp2_with fail
  refine (toInt64SS_any _ z0 _ (R0.out.mono T)).mono ?_
  rintro e w2 ⟨u0, rfl, O_u0, B_w2⟩
  have H_u0 := HasII.of O_u0
  clear O_u0
  replace T := nx T B_w2
  have S_w2 := B_w2.size
  go_wp2_with fail
  refine (sInverseMatrix_any _ z0 _ H_u0.rd Q0).mono ?_
  rintro e w3 ⟨r, rfl, O_r, B_w3⟩
  have H_r := HasII.of O_r
  clear O_r
  replace H_u0 := H_u0.mono B_w3
  replace T := nx T B_w3
  have S_w3 := B_w3.size
  clear H_u0
  go_wp2_with fail
  refine (toInt64SS_any _ z0 _ (R0.out.mono T)).mono ?_
  rintro e w4 ⟨x0, rfl, O_x0, B_w4⟩
  have H_x0 := HasII.of O_x0
  clear O_x0
  replace H_r := H_r.mono B_w4
  replace T := nx T B_w4
  have S_w4 := B_w4.size
  go_wp2_with fail
  refine (inverseMatrix_any _ z0 _ H_x0.rd Q0).mono ?_
  rintro e w5 ⟨g, rfl, O_g, B_w5⟩
  have H_g := HasII.of O_g
  clear O_g
  replace H_r := H_r.mono B_w5
  replace H_x0 := H_x0.mono B_w5
  replace T := nx T B_w5
  have S_w5 := B_w5.size
  go_wp2_with fail
  refine (eqII_same _ _ _ _ H_g.rd H_r.rd).mono ?_
  rintro e w6 ⟨rfl, D_w6⟩
  have B_w6 := D_w6.below w5.heap.size
  replace H_r := H_r.mono B_w6
  replace H_x0 := H_x0.mono B_w6
  replace H_g := H_g.mono B_w6
  replace T := nx T B_w6
  have S_w6 := B_w6.size
  go_wp2_with fail
  refine (toInt64SS_any _ z0 _ (R0.out.mono T)).mono ?_
  rintro e w7 ⟨y0, rfl, O_y0, B_w7⟩
  have H_y0 := HasII.of O_y0
  clear O_y0
  replace H_r := H_r.mono B_w7
  replace H_x0 := H_x0.mono B_w7
  replace H_g := H_g.mono B_w7
  replace T := nx T B_w7
  have S_w7 := B_w7.size
  go_wp2_with fail
  refine (eqII_same _ _ z0 _ H_x0.rd H_y0.rd).mono ?_
  rintro e w8 ⟨rfl, D_w8⟩
  have B_w8 := D_w8.below w7.heap.size
  replace H_r := H_r.mono B_w8
  replace H_x0 := H_x0.mono B_w8
  replace H_g := H_g.mono B_w8
  replace H_y0 := H_y0.mono B_w8
  replace T := nx T B_w8
  have S_w8 := B_w8.size
  clear H_y0
  go_wp2_with fail
  refine (markII_has _ _ _ _ _ _ H_x0 tot_x0 (by omega) (by omega)).mono ?_
  rintro e w9 ⟨rfl, M_x0, G_w9⟩
  replace H_r := H_r.rng G_w9 (by omega)
  replace H_g := H_g.rng G_w9 (by omega)
  replace T := G_w9.below T (by omega)
  have S_w9 := G_w9.size
  clear M_x0
  go_wp2_with fail
  refine (eqII_same _ _ _ _ H_g.rd H_r.rd).mono ?_
  rintro e w10 ⟨rfl, D_w10⟩
  have B_w10 := D_w10.below w9.heap.size
  replace H_r := H_r.mono B_w10
  replace H_g := H_g.mono B_w10
  replace T := nx T B_w10
  have S_w10 := B_w10.size
  go_wp2_with fail
  refine (markII_has _ _ _ _ _ _ H_g tot_g (by omega) (by omega)).mono ?_
  rintro e w11 ⟨rfl, M_g, G_w11⟩
  replace H_r := H_r.rng G_w11 (by omega)
  replace T := G_w11.below T (by omega)
  have S_w11 := G_w11.size
  go_wp2_with fail
  refine (heldII_any _ _ _ _ M_g.rd tot_g (by omega) (by omega)).mono ?_
  rintro e w12 ⟨rfl, rfl⟩
  go_wp2_with fail
  refine (toInt64SS_any _ z0 _ (R0.out.mono T)).mono ?_
  rintro e w12 ⟨p0, rfl, O_p0, B_w12⟩
  have H_p0 := HasII.of O_p0
  clear O_p0
  replace H_r := H_r.mono B_w12
  replace M_g := M_g.mono B_w12
  replace T := nx T B_w12
  have S_w12 := B_w12.size
  go_wp2_with fail
  refine (inverseMatrix_any _ z0 _ H_p0.rd Q0).mono ?_
  rintro e w13 ⟨h, rfl, O_h, B_w13⟩
  have H_h := HasII.of O_h
  clear O_h
  replace H_r := H_r.mono B_w13
  replace M_g := M_g.mono B_w13
  replace H_p0 := H_p0.mono B_w13
  replace T := nx T B_w13
  have S_w13 := B_w13.size
  go_wp2_with fail
  refine (eqII_same _ _ _ _ H_h.rd H_r.rd).mono ?_
  rintro e w14 ⟨rfl, D_w14⟩
  have B_w14 := D_w14.below w13.heap.size
  replace H_r := H_r.mono B_w14
  replace M_g := M_g.mono B_w14
  replace H_p0 := H_p0.mono B_w14
  replace H_h := H_h.mono B_w14
  replace T := nx T B_w14
  have S_w14 := B_w14.size
  go_wp2_with fail
  refine (heldII_any _ _ _ _ M_g.rd tot_g (by omega) (by omega)).mono ?_
  rintro e w15 ⟨rfl, rfl⟩
  go_wp2
  go_ret
  exact ⟨rfl, T⟩

set_option maxRecDepth 100000 in
theorem lifted (os : Os) (started : os.Started) (H : Type) (enc : TypeId × Value → H) :
    ReturnsInHanded {} Try.checked os 5 .any (Rows.fnExactInverseMatrixSpec.pre6 enc Try.prog Try.f5 Rows.fnExactInverseMatrixRow.domain false) (Rows.fnExactInverseMatrixSpec.post enc Try.prog Try.f5 false true false false) := by
  refine returnsInHanded_of_change (C := Try.checked) own started (by kernel_rfl) Try.func5
    (ChangeSpec.witness6 (enc := enc) (C := Try.checked) false ⟨#[], #[.slice none 0 0], []⟩ 8 (by kernel_rfl) (by kernel_rfl) (by kernel_rfl) (by kernel_rfl)) ?_
  intro W base args ds gs before hval0 hW hcnd _
  have hval : ∀ (j : Nat) t v, Try.f5.params[j]? = some t → args[j]? = some v → Value.okWide Try.prog W .any base t v := hval0
  have hW' := hW
  obtain ⟨p, q, hA0, hV, rfl, hfz, hnd⟩ := hW
  have hA : DataW.TrodAll enc Try.prog W 0 (fun _ => true) true Try.f5.params.toList args.toList ds p := hA0
  rw [Try.params5] at hA hval
  obtain ⟨v0, vs0, d0, ds0, p0, q0, hargs, rfl, rfl, h0, r0⟩ := trodAll_cons hA
  obtain ⟨rfl, rfl, rfl⟩ := trodAll_nil r0
  obtain rfl : args = #[v0] := by cases args; simp_all
  obtain ⟨rfl, rfl⟩ := trodVars_none hV
  have k0 := h0
  have lt0 : ∀ x ∈ p0, x.block < W.heap.size := by obtain ⟨m, hm⟩ := k0; exact DataW.trod_lt m _ _ _ hm
  have i0 : InII W v0 := InII.open_ Try.underlying22 Try.underlying32 Try.underlying2 (by kernel_rfl) (by kernel_rfl) (hval 0 22 v0 rfl rfl) h0
  clear hA0 hval0
  refine (walk v0 i0).mono fun e W' ⟨he, bel⟩ => ?_
  subst he
  exact ⟨_, rfl, _, _, _, [], _, [], hW', trodAll_mk1 (shut_bool Try.underlying4 _), (trodAll_cons_mk (Below.trod laidOut (by kernel_rfl) (of_decide_eq_true (by kernel_rfl)) k0 bel lt0) trodAll_mk0), rfl, bel.frame _, fun h => by cases h⟩
theorem over : Rows.fnExactInverseMatrixRow.holds Try.pinned (OpenSpec.ofChange Rows.fnExactInverseMatrixSpec) :=
  OpenClaim.holds_of_wide 5 Try.f5 rfl rfl rfl rfl rfl rfl rfl ⟨rfl, rfl, rfl, rfl, rfl⟩ rfl rfl rfl rfl rfl (by kernel_rfl) Try.func5 (by kernel_rfl)
    (of_decide_eq_true (by kernel_rfl)) (by unfold Func.isWrapper; first | (rw [if_pos (by decide +kernel)]; kernel_rfl) | (rw [if_neg (by decide +kernel)]; exact ⟨rfl, rfl⟩))
    (fun os started H enc _ => lifted os started H enc)
theorem proved : Rows.FnExactInverseMatrixSaid := over
#print axioms proved
end Go.Proofs.Ytmhcpaffdchboaa.fnExactInverseMatrix
