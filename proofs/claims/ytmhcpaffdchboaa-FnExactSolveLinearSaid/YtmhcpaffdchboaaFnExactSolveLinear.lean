/-
  The law FnExactSolveLinear is proved of the program: for every input the call returns true, and each argument reads afterwards as it read before. Its one condition: the arguments can be read as data.
-/
import Derived.Test.YtmhcpaffdchboaaRows
import Derived.Test.YtmhcpaffdchboaaSolLS
import Derived.Test.YtmhcpaffdchboaaInvTop
import Derived.Test.YtmhcpaffdchboaaRng
import Derived.Test.YtmhcpaffdchboaaInII
import Derived.WalkKit
import Derived.ProofKit
import Derived.OpenShut
import Derived.ShutString
import Derived.ChangeOld
import Derived.Below
namespace Go.Proofs.Ytmhcpaffdchboaa.fnExactSolveLinear
open Go.ChangeShapes Go.WideShapes Go.ChangeAt Go.RowKit
open Go.ChangeMaps (open_string shut_string)
set_option linter.unusedVariables false
theorem own : ownKnob Try.prog.godebug = none := by kernel_rfl
theorem laidOut : laidOutB Try.prog = true := by kernel_rfl
theorem walk {w : World} (v0 : Value) (i0 : InII w v0) (v1 : Value) (i1 : InI w v1) :
    Calls Try.prog 6 #[v0, v1] w fun e w' => e = .returned (.bool true) ∧ Below w.heap.size w w' := by
  obtain ⟨ao1, n1, cap1, rfl, hn1, hin1⟩ := i1
  unfold maxLen at hn1
  by_cases hs1 : n1 ≤ 1048576
  rotate_left
  · have hs' : 1048576 < n1 := by omega
    clear hs1 hin1
    go_enter Try.func6, Try.ntmps6
    go_wp2
    go_ret
    exact ⟨rfl, Below.refl _ _⟩
  obtain ⟨z1, R1', Z1, hz1⟩ := hin1 hs1
  have R1 := hid R1'
  clear hz1 hin1 R1' Z1
  go_enter Try.func6, Try.ntmps6
  go_wp2_with fail
  refine (szII_any v0 w i0).mono ?_
  rintro e w1 ⟨B_w1, l, rfl, hl | ⟨hl, z0, R0', Q0⟩⟩
  · go_wp2
    go_ret
    exact ⟨rfl, B_w1⟩
  have R0 := hid R0'
  clear R0'
  have T := B_w1
  have S_w1 := B_w1.size
  have tot_x0 := Q0
  go_wp2_with fail
  refine (toInt64SS_any _ z0 _ (R0.out.mono T)).mono ?_
  rintro e w2 ⟨u0, rfl, O_u0, B_w2⟩
  have H_u0 := HasII.of O_u0
  clear O_u0
  replace T := nx T B_w2
  have S_w2 := B_w2.size
  go_wp2_with fail
  refine (toInt64S_any _ z1 _ (R1.out.mono T)).mono ?_
  rintro e w3 ⟨u1, rfl, O_u1, B_w3⟩
  have H_u1 := HasI.of O_u1
  clear O_u1
  replace H_u0 := H_u0.mono B_w3
  replace T := nx T B_w3
  have S_w3 := B_w3.size
  go_wp2_with fail
  refine (sSolveLinear_any _ _ z0 z1 _ H_u0.rd H_u1.rd Q0).mono ?_
  rintro e w4 ⟨r, rfl, O_r, B_w4⟩
  have H_r := HasI.of O_r
  clear O_r
  replace H_u0 := H_u0.mono B_w4
  replace H_u1 := H_u1.mono B_w4
  replace T := nx T B_w4
  have S_w4 := B_w4.size
  clear H_u0
  clear H_u1
  go_wp2_with fail
  refine (toInt64SS_any _ z0 _ (R0.out.mono T)).mono ?_
  rintro e w5 ⟨x0, rfl, O_x0, B_w5⟩
  have H_x0 := HasII.of O_x0
  clear O_x0
  replace H_r := H_r.mono B_w5
  replace T := nx T B_w5
  have S_w5 := B_w5.size
  go_wp2_with fail
  refine (toInt64S_any _ z1 _ (R1.out.mono T)).mono ?_
  rintro e w6 ⟨x1, rfl, O_x1, B_w6⟩
  have H_x1 := HasI.of O_x1
  clear O_x1
  replace H_r := H_r.mono B_w6
  replace H_x0 := H_x0.mono B_w6
  replace T := nx T B_w6
  have S_w6 := B_w6.size
  go_wp2_with fail
  refine (solveLinear_any _ _ z0 z1 _ H_x0.rd H_x1.rd Q0).mono ?_
  rintro e w7 ⟨g, rfl, O_g, B_w7⟩
  have H_g := HasI.of O_g
  clear O_g
  replace H_r := H_r.mono B_w7
  replace H_x0 := H_x0.mono B_w7
  replace H_x1 := H_x1.mono B_w7
  replace T := nx T B_w7
  have S_w7 := B_w7.size
  go_wp2_with fail
  refine (eqInt64S_any _ _ _ _ _ H_g.rd H_r.rd).mono ?_
  rintro e w8 ⟨rfl, D_w8⟩
  rw [sameL_self]
  have B_w8 := D_w8.below w7.heap.size
  replace H_r := H_r.mono B_w8
  replace H_x0 := H_x0.mono B_w8
  replace H_x1 := H_x1.mono B_w8
  replace H_g := H_g.mono B_w8
  replace T := nx T B_w8
  have S_w8 := B_w8.size
  go_wp2_with fail
  refine (toInt64SS_any _ z0 _ (R0.out.mono T)).mono ?_
  rintro e w9 ⟨y0, rfl, O_y0, B_w9⟩
  have H_y0 := HasII.of O_y0
  clear O_y0
  replace H_r := H_r.mono B_w9
  replace H_x0 := H_x0.mono B_w9
  replace H_x1 := H_x1.mono B_w9
  replace H_g := H_g.mono B_w9
  replace T := nx T B_w9
  have S_w9 := B_w9.size
  go_wp2_with fail
  refine (eqII_same _ _ z0 _ H_x0.rd H_y0.rd).mono ?_
  rintro e w10 ⟨rfl, D_w10⟩
  have B_w10 := D_w10.below w9.heap.size
  replace H_r := H_r.mono B_w10
  replace H_x0 := H_x0.mono B_w10
  replace H_x1 := H_x1.mono B_w10
  replace H_g := H_g.mono B_w10
  replace H_y0 := H_y0.mono B_w10
  replace T := nx T B_w10
  have S_w10 := B_w10.size
  clear H_y0
  go_wp2_with fail
  refine (toInt64S_any _ z1 _ (R1.out.mono T)).mono ?_
  rintro e w11 ⟨y1, rfl, O_y1, B_w11⟩
  have H_y1 := HasI.of O_y1
  clear O_y1
  replace H_r := H_r.mono B_w11
  replace H_x0 := H_x0.mono B_w11
  replace H_x1 := H_x1.mono B_w11
  replace H_g := H_g.mono B_w11
  replace T := nx T B_w11
  have S_w11 := B_w11.size
  go_wp2_with fail
  refine (eqInt64S_any _ _ z1 z1 _ H_x1.rd H_y1.rd).mono ?_
  rintro e w12 ⟨rfl, D_w12⟩
  rw [sameL_self]
  have B_w12 := D_w12.below w11.heap.size
  replace H_r := H_r.mono B_w12
  replace H_x0 := H_x0.mono B_w12
  replace H_x1 := H_x1.mono B_w12
  replace H_g := H_g.mono B_w12
  replace H_y1 := H_y1.mono B_w12
  replace T := nx T B_w12
  have S_w12 := B_w12.size
  clear H_y1
  go_wp2_with fail
  refine (markII_has _ _ _ _ _ _ H_x0 tot_x0 (by omega) (by omega)).mono ?_
  rintro e w13 ⟨rfl, M_x0, G_w13⟩
  replace H_r := H_r.rng G_w13 (by omega)
  replace H_x1 := H_x1.rng G_w13 (by omega)
  replace H_g := H_g.rng G_w13 (by omega)
  replace T := G_w13.below T (by omega)
  have S_w13 := G_w13.size
  clear M_x0
  go_wp2_with fail
  have lim_x1 := H_x1.lim
  refine (markI_has _ _ _ _ _ _ H_x1 (by omega) (by omega)).mono ?_
  rintro e w14 ⟨rfl, M_x1, G_w14⟩
  replace H_r := H_r.rng G_w14 (by omega)
  replace H_g := H_g.rng G_w14 (by omega)
  replace T := G_w14.below T (by omega)
  have S_w14 := G_w14.size
  clear M_x1
  go_wp2_with fail
  refine (eqInt64S_any _ _ _ _ _ H_g.rd H_r.rd).mono ?_
  rintro e w15 ⟨rfl, D_w15⟩
  rw [sameL_self]
  have B_w15 := D_w15.below w14.heap.size
  replace H_r := H_r.mono B_w15
  replace H_g := H_g.mono B_w15
  replace T := nx T B_w15
  have S_w15 := B_w15.size
  go_wp2_with fail
  have lim_g := H_g.lim
  refine (markI_has _ _ _ _ _ _ H_g (by omega) (by omega)).mono ?_
  rintro e w16 ⟨rfl, M_g, G_w16⟩
  replace H_r := H_r.rng G_w16 (by omega)
  replace T := G_w16.below T (by omega)
  have S_w16 := G_w16.size
  go_wp2_with fail
  refine (heldI_any _ _ _ _ M_g.rd (by omega) (by omega)).mono ?_
  rintro e w17 ⟨rfl, rfl⟩
  go_wp2_with fail
  refine (toInt64SS_any _ z0 _ (R0.out.mono T)).mono ?_
  rintro e w17 ⟨p0, rfl, O_p0, B_w17⟩
  have H_p0 := HasII.of O_p0
  clear O_p0
  replace H_r := H_r.mono B_w17
  replace M_g := M_g.mono B_w17
  replace T := nx T B_w17
  have S_w17 := B_w17.size
  go_wp2_with fail
  refine (toInt64S_any _ z1 _ (R1.out.mono T)).mono ?_
  rintro e w18 ⟨p1, rfl, O_p1, B_w18⟩
  have H_p1 := HasI.of O_p1
  clear O_p1
  replace H_r := H_r.mono B_w18
  replace M_g := M_g.mono B_w18
  replace H_p0 := H_p0.mono B_w18
  replace T := nx T B_w18
  have S_w18 := B_w18.size
  go_wp2_with fail
  refine (solveLinear_any _ _ z0 z1 _ H_p0.rd H_p1.rd Q0).mono ?_
  rintro e w19 ⟨h, rfl, O_h, B_w19⟩
  have H_h := HasI.of O_h
  clear O_h
  replace H_r := H_r.mono B_w19
  replace M_g := M_g.mono B_w19
  replace H_p0 := H_p0.mono B_w19
  replace H_p1 := H_p1.mono B_w19
  replace T := nx T B_w19
  have S_w19 := B_w19.size
  go_wp2_with fail
  refine (eqInt64S_any _ _ _ _ _ H_h.rd H_r.rd).mono ?_
  rintro e w20 ⟨rfl, D_w20⟩
  rw [sameL_self]
  have B_w20 := D_w20.below w19.heap.size
  replace H_r := H_r.mono B_w20
  replace M_g := M_g.mono B_w20
  replace H_p0 := H_p0.mono B_w20
  replace H_p1 := H_p1.mono B_w20
  replace H_h := H_h.mono B_w20
  replace T := nx T B_w20
  have S_w20 := B_w20.size
  go_wp2_with fail
  refine (heldI_any _ _ _ _ M_g.rd (by omega) (by omega)).mono ?_
  rintro e w21 ⟨rfl, rfl⟩
  go_wp2
  go_ret
  exact ⟨rfl, T⟩

set_option maxRecDepth 100000 in
theorem lifted (os : Os) (started : os.Started) (H : Type) (enc : TypeId × Value → H) :
    ReturnsInHanded {} Try.checked os 6 .any (Rows.fnExactSolveLinearSpec.pre6 enc Try.prog Try.f6 Rows.fnExactSolveLinearRow.domain false) (Rows.fnExactSolveLinearSpec.post enc Try.prog Try.f6 false true false false) := by
  refine returnsInHanded_of_change (C := Try.checked) own started (by kernel_rfl) Try.func6
    (ChangeSpec.witness6 (enc := enc) (C := Try.checked) false ⟨#[], #[.slice none 0 0, .slice none 0 0], []⟩ 8 (by kernel_rfl) (by kernel_rfl) (by kernel_rfl) (by kernel_rfl)) ?_
  intro W base args ds gs before hval0 hW hcnd _
  have hval : ∀ (j : Nat) t v, Try.f6.params[j]? = some t → args[j]? = some v → Value.okWide Try.prog W .any base t v := hval0
  have hW' := hW
  obtain ⟨p, q, hA0, hV, rfl, hfz, hnd⟩ := hW
  have hA : DataW.TrodAll enc Try.prog W 0 (fun _ => true) true Try.f6.params.toList args.toList ds p := hA0
  rw [Try.params6] at hA hval
  obtain ⟨v0, vs0, d0, ds0, p0, q0, hargs, rfl, rfl, h0, r0⟩ := trodAll_cons hA
  obtain ⟨v1, vs1, d1, ds1, p1, q1, rfl, rfl, rfl, h1, r1⟩ := trodAll_cons r0
  obtain ⟨rfl, rfl, rfl⟩ := trodAll_nil r1
  obtain rfl : args = #[v0, v1] := by cases args; simp_all
  obtain ⟨rfl, rfl⟩ := trodVars_none hV
  have k0 := h0
  have lt0 : ∀ x ∈ p0, x.block < W.heap.size := by obtain ⟨m, hm⟩ := k0; exact DataW.trod_lt m _ _ _ hm
  have i0 : InII W v0 := InII.open_ Try.underlying22 Try.underlying32 Try.underlying2 (by kernel_rfl) (by kernel_rfl) (hval 0 22 v0 rfl rfl) h0
  have k1 := h1
  have lt1 : ∀ x ∈ p1, x.block < W.heap.size := by obtain ⟨m, hm⟩ := k1; exact DataW.trod_lt m _ _ _ hm
  have i1 : InI W v1 := InI.open_ Try.underlying32 Try.underlying2 (by kernel_rfl) (hval 1 32 v1 rfl rfl) h1
  clear hA0 hval0
  refine (walk v0 i0 v1 i1).mono fun e W' ⟨he, bel⟩ => ?_
  subst he
  exact ⟨_, rfl, _, _, _, [], _, [], hW', trodAll_mk1 (shut_bool Try.underlying4 _), (trodAll_cons_mk (Below.trod laidOut (by kernel_rfl) (of_decide_eq_true (by kernel_rfl)) k0 bel lt0) (trodAll_cons_mk (Below.trod laidOut (by kernel_rfl) (of_decide_eq_true (by kernel_rfl)) k1 bel lt1) trodAll_mk0)), rfl, bel.frame _, fun h => by cases h⟩
theorem over : Rows.fnExactSolveLinearRow.holds Try.pinned (OpenSpec.ofChange Rows.fnExactSolveLinearSpec) :=
  OpenClaim.holds_of_wide 6 Try.f6 rfl rfl rfl rfl rfl rfl rfl ⟨rfl, rfl, rfl, rfl, rfl⟩ rfl rfl rfl rfl rfl (by kernel_rfl) Try.func6 (by kernel_rfl)
    (of_decide_eq_true (by kernel_rfl)) (by unfold Func.isWrapper; first | (rw [if_pos (by decide +kernel)]; kernel_rfl) | (rw [if_neg (by decide +kernel)]; exact ⟨rfl, rfl⟩))
    (fun os started H enc _ => lifted os started H enc)
theorem proved : Rows.FnExactSolveLinearSaid := over
#print axioms proved
end Go.Proofs.Ytmhcpaffdchboaa.fnExactSolveLinear
