/-
  The law FnExactCanonicalTree is proved of the program: for every input the call returns true, and each argument reads afterwards as it read before. Its one condition: the arguments can be read as data.
-/
import Derived.Test.YtoiangfookhfdaaRows
import Derived.Test.YtoiangfookhfdaaTreeX
import Derived.Test.YtoiangfookhfdaaSlices
import Derived.WalkKit
import Derived.ProofKit
import Derived.OpenShut
import Derived.ShutString
import Derived.ChangeOld
import Derived.Below
namespace Go.Proofs.Ytoiangfookhfdaa.fnExactCanonicalTree
open Go.ChangeShapes Go.WideShapes Go.ChangeAt Go.RowKit
open Go.ChangeMaps (open_string shut_string)
set_option linter.unusedVariables false
theorem own : ownKnob Try.prog.godebug = none := by kernel_rfl
theorem laidOut : laidOutB Try.prog = true := by kernel_rfl
theorem walk {w : World} (v0 : Value) (i0 : InI w v0) :
    Calls Try.prog 10 #[v0] w fun e w' => e = .returned (.bool true) ∧ Below w.heap.size w w' := by
  obtain ⟨ao0, n0, cap0, rfl, hn0, hin0⟩ := i0
  unfold maxLen at hn0
  by_cases hs0 : n0 ≤ 1048576
  · obtain ⟨z0, R0', Z0, hz0⟩ := hin0 hs0
    have R0 := hid R0'
    clear hz0 hin0 R0' Z0
    have T : Below w.heap.size w w := Below.refl _ _
    go_enter Try.func10, Try.ntmps10
    go_wp2_with fail
    refine (toInt64S_any _ z0 _ (R0.out.mono T)).mono ?_
    rintro e w1 ⟨u0, rfl, O_u0, B1⟩
    replace T := nx T B1
    have U_u0 := O_u0.own_lt
    have S1 := B1.size
    go_wp2_with fail
    refine (sCanonicalTree_any _ z0 _ O_u0.rd).mono ?_
    rintro e w2 ⟨r, rfl, O_r, B2⟩
    replace O_u0 := O_u0.mono B2
    replace T := nx T B2
    have U_r := O_r.own_lt
    have S2 := B2.size
    go_wp2_with fail
    refine (toInt64S_any _ z0 _ (R0.out.mono T)).mono ?_
    rintro e w3 ⟨x0, rfl, O_x0, B3⟩
    replace O_r := O_r.mono B3
    replace T := nx T B3
    have U_x0 := O_x0.own_lt
    have S3 := B3.size
    go_wp2_with fail
    refine (canonicalTree_any _ z0 _ O_x0.rd).mono ?_
    rintro e w4 ⟨g, rfl, O_g, B4⟩
    replace O_r := O_r.mono B4
    replace O_x0 := O_x0.mono B4
    replace T := nx T B4
    have U_g := O_g.own_lt
    have S4 := B4.size
    go_wp2_with fail
    refine (eqInt64S_any _ _ _ _ _ O_g.rd O_r.rd).mono ?_
    rintro e w5 ⟨rfl, D5⟩
    rw [sameL_self]
    have B5 := D5.below w4.heap.size
    have S5 := B5.size
    replace O_r := O_r.mono B5
    replace O_x0 := O_x0.mono B5
    replace O_g := O_g.mono B5
    replace T := nx T B5
    go_wp2_with fail
    refine (toInt64S_any _ z0 _ (R0.out.mono T)).mono ?_
    rintro e w6 ⟨y0, rfl, O_y0, B6⟩
    replace O_r := O_r.mono B6
    replace O_x0 := O_x0.mono B6
    replace O_g := O_g.mono B6
    replace T := nx T B6
    have U_y0 := O_y0.own_lt
    have S6 := B6.size
    go_wp2_with fail
    refine (eqInt64S_any _ _ z0 z0 _ O_x0.rd O_y0.rd).mono ?_
    rintro e w7 ⟨rfl, D7⟩
    rw [sameL_self]
    have B7 := D7.below w6.heap.size
    have S7 := B7.size
    replace O_r := O_r.mono B7
    replace O_x0 := O_x0.mono B7
    replace O_g := O_g.mono B7
    replace O_y0 := O_y0.mono B7
    replace T := nx T B7
    go_wp2_with fail
    have lim8 := O_x0.lim
    refine (markI_any _ _ _ _ _ O_x0 (by omega) (by omega)).mono ?_
    rintro e w8 ⟨rfl, O2_x0, G8⟩
    replace O_r := O_r.grown G8 (ne_blocks' w2.heap.size (fun b hb => by have := (U_r b hb).2; omega) (fun b hb => (U_x0 b hb).1))
    replace O_g := O_g.grown G8 (ne_blocks w3.heap.size (fun b hb => (U_g b hb).1) (fun b hb => by have := (U_x0 b hb).2; omega))
    replace T := T.grown G8 (by omega) (fun b hb => by have := (U_x0 b hb).1; omega)
    have S8 := G8.size
    go_wp2_with fail
    refine (eqInt64S_any _ _ _ _ _ O_g.rd O_r.rd).mono ?_
    rintro e w9 ⟨rfl, D9⟩
    rw [sameL_self]
    have B9 := D9.below w8.heap.size
    have S9 := B9.size
    replace O_r := O_r.mono B9
    replace O_g := O_g.mono B9
    replace T := nx T B9
    go_wp2_with fail
    have lim10 := O_g.lim
    refine (markI_any _ _ _ _ _ O_g (by omega) (by omega)).mono ?_
    rintro e w10 ⟨rfl, O2_g, G10⟩
    replace O_r := O_r.grown G10 (ne_blocks' w3.heap.size (fun b hb => by have := (U_r b hb).2; omega) (fun b hb => (U_g b hb).1))
    replace T := T.grown G10 (by omega) (fun b hb => by have := (U_g b hb).1; omega)
    have S10 := G10.size
    go_wp2_with fail
    refine (heldI_any _ _ _ _ O2_g.rd (by omega) (by omega)).mono ?_
    rintro e w11 ⟨rfl, rfl⟩
    go_wp2_with fail
    refine (toInt64S_any _ z0 _ (R0.out.mono T)).mono ?_
    rintro e w11 ⟨p0, rfl, O_p0, B11⟩
    replace O_r := O_r.mono B11
    replace O2_g := O2_g.mono B11
    replace T := nx T B11
    have U_p0 := O_p0.own_lt
    have S11 := B11.size
    go_wp2_with fail
    refine (canonicalTree_any _ z0 _ O_p0.rd).mono ?_
    rintro e w12 ⟨h, rfl, O_h, B12⟩
    replace O_r := O_r.mono B12
    replace O2_g := O2_g.mono B12
    replace O_p0 := O_p0.mono B12
    replace T := nx T B12
    have U_h := O_h.own_lt
    have S12 := B12.size
    go_wp2_with fail
    refine (eqInt64S_any _ _ _ _ _ O_h.rd O_r.rd).mono ?_
    rintro e w13 ⟨rfl, D13⟩
    rw [sameL_self]
    have B13 := D13.below w12.heap.size
    have S13 := B13.size
    replace O_r := O_r.mono B13
    replace O2_g := O2_g.mono B13
    replace O_p0 := O_p0.mono B13
    replace O_h := O_h.mono B13
    replace T := nx T B13
    go_wp2_with fail
    refine (heldI_any _ _ _ _ O2_g.rd (by omega) (by omega)).mono ?_
    rintro e w14 ⟨rfl, rfl⟩
    go_wp2
    go_ret
    exact ⟨rfl, T⟩
  · have hs' : 1048576 < n0 := by omega
    clear hs0 hin0
    go_enter Try.func10, Try.ntmps10
    go_wp2
    go_ret
    exact ⟨rfl, Below.refl _ _⟩

set_option maxRecDepth 100000 in
theorem lifted (os : Os) (started : os.Started) (H : Type) (enc : TypeId × Value → H) :
    ReturnsInHanded {} Try.checked os 10 .any (Rows.fnExactCanonicalTreeSpec.pre6 enc Try.prog Try.f10 Rows.fnExactCanonicalTreeRow.domain false) (Rows.fnExactCanonicalTreeSpec.post enc Try.prog Try.f10 false true false false) := by
  refine returnsInHanded_of_change (C := Try.checked) own started (by kernel_rfl) Try.func10
    (ChangeSpec.witness6 (enc := enc) (C := Try.checked) false ⟨#[], #[.slice none 0 0], []⟩ 8 (by kernel_rfl) (by kernel_rfl) (by kernel_rfl) (by kernel_rfl)) ?_
  intro W base args ds gs before hval0 hW hcnd _
  have hval : ∀ (j : Nat) t v, Try.f10.params[j]? = some t → args[j]? = some v → Value.okWide Try.prog W .any base t v := hval0
  have hW' := hW
  obtain ⟨p, q, hA0, hV, rfl, hfz, hnd⟩ := hW
  have hA : DataW.TrodAll enc Try.prog W 0 (fun _ => true) true Try.f10.params.toList args.toList ds p := hA0
  rw [Try.params10] at hA hval
  obtain ⟨v0, vs0, d0, ds0, p0, q0, hargs, rfl, rfl, h0, r0⟩ := trodAll_cons hA
  obtain ⟨rfl, rfl, rfl⟩ := trodAll_nil r0
  obtain rfl : args = #[v0] := by cases args; simp_all
  obtain ⟨rfl, rfl⟩ := trodVars_none hV
  have k0 := h0
  have lt0 : ∀ x ∈ p0, x.block < W.heap.size := by obtain ⟨m, hm⟩ := k0; exact DataW.trod_lt m _ _ _ hm
  have i0 : InI W v0 := InI.open_ Try.underlying22 Try.underlying2 (by kernel_rfl) (hval 0 22 v0 rfl rfl) h0
  clear hA0 hval0
  refine (walk v0 i0).mono fun e W' ⟨he, bel⟩ => ?_
  subst he
  exact ⟨_, rfl, _, _, _, [], _, [], hW', trodAll_mk1 (shut_bool Try.underlying4 _), (trodAll_cons_mk (Below.trod laidOut (by kernel_rfl) (of_decide_eq_true (by kernel_rfl)) k0 bel lt0) trodAll_mk0), rfl, bel.frame _, fun h => by cases h⟩
theorem over : Rows.fnExactCanonicalTreeRow.holds Try.pinned (OpenSpec.ofChange Rows.fnExactCanonicalTreeSpec) :=
  OpenClaim.holds_of_wide 10 Try.f10 rfl rfl rfl rfl rfl rfl rfl ⟨rfl, rfl, rfl, rfl, rfl⟩ rfl rfl rfl rfl rfl (by kernel_rfl) Try.func10 (by kernel_rfl)
    (of_decide_eq_true (by kernel_rfl)) (by unfold Func.isWrapper; first | (rw [if_pos (by decide +kernel)]; kernel_rfl) | (rw [if_neg (by decide +kernel)]; exact ⟨rfl, rfl⟩))
    (fun os started H enc _ => lifted os started H enc)
theorem proved : Rows.FnExactCanonicalTreeSaid := over
#print axioms proved
end Go.Proofs.Ytoiangfookhfdaa.fnExactCanonicalTree
