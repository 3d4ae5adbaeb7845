/-
  The law FnExactCompareTrees is proved of the program: for every input the call returns true, and each argument reads afterwards as it read before. Its one condition: the arguments can be read as data.
-/
import Derived.Test.YtoiangfookhfdaaRows
import Derived.Test.YtoiangfookhfdaaTreeX
import Derived.Test.YtoiangfookhfdaaSlices
import Derived.WalkKit
import Derived.ProofKit
import Derived.OpenShut
import Derived.ShutString
import Derived.ChangeOld
import Derived.Below
namespace Go.Proofs.Ytoiangfookhfdaa.fnExactCompareTrees
open Go.ChangeShapes Go.WideShapes Go.ChangeAt Go.RowKit
open Go.ChangeMaps (open_string shut_string)
set_option linter.unusedVariables false
theorem own : ownKnob Try.prog.godebug = none := by kernel_rfl
theorem laidOut : laidOutB Try.prog = true := by kernel_rfl
theorem walk {w : World} (v0 : Value) (i0 : InI w v0) (v1 : Value) (i1 : InI w v1) :
    Calls Try.prog 11 #[v0, v1] w fun e w' => e = .returned (.bool true) ∧ Below w.heap.size w w' := by
  obtain ⟨ao0, n0, cap0, rfl, hn0, hin0⟩ := i0
  obtain ⟨ao1, n1, cap1, rfl, hn1, hin1⟩ := i1
  unfold maxLen at hn0 hn1
  by_cases hs0 : n0 ≤ 1048576
  · obtain ⟨z0, R0', Z0, hz0⟩ := hin0 hs0
    have R0 := hid R0'
    by_cases hs1 : n1 ≤ 1048576
    · obtain ⟨z1, R1', Z1, hz1⟩ := hin1 hs1
      have R1 := hid R1'
      clear hz0 hin0 R0' Z0
      clear hz1 hin1 R1' Z1
      have T : Below w.heap.size w w := Below.refl _ _
      go_enter Try.func11, Try.ntmps11
      go_wp2_with fail
      refine (toInt64S_any _ z0 _ (R0.out.mono T)).mono ?_
      rintro e w1 ⟨u0, rfl, O_u0, B1⟩
      replace T := nx T B1
      have U_u0 := O_u0.own_lt
      have S1 := B1.size
      go_wp2_with fail
      refine (toInt64S_any _ z1 _ (R1.out.mono T)).mono ?_
      rintro e w2 ⟨u1, rfl, O_u1, B2⟩
      replace O_u0 := O_u0.mono B2
      replace T := nx T B2
      have U_u1 := O_u1.own_lt
      have S2 := B2.size
      go_wp2_with fail
      refine (sCompareTrees_any _ _ z0 z1 _ O_u0.rd O_u1.rd).mono ?_
      rintro e w3 ⟨rfl, B3⟩
      replace O_u0 := O_u0.mono B3
      replace O_u1 := O_u1.mono B3
      replace T := nx T B3
      go_wp2_with fail
      refine (toInt64S_any _ z0 _ (R0.out.mono T)).mono ?_
      rintro e w4 ⟨x0, rfl, O_x0, B4⟩
      replace T := nx T B4
      have U_x0 := O_x0.own_lt
      have S4 := B4.size
      go_wp2_with fail
      refine (toInt64S_any _ z1 _ (R1.out.mono T)).mono ?_
      rintro e w5 ⟨x1, rfl, O_x1, B5⟩
      replace O_x0 := O_x0.mono B5
      replace T := nx T B5
      have U_x1 := O_x1.own_lt
      have S5 := B5.size
      go_wp2_with fail
      refine (compareTreesE_any _ _ z0 z1 _ O_x0.rd O_x1.rd).mono ?_
      rintro e w6 ⟨rfl, B6⟩
      replace O_x0 := O_x0.mono B6
      replace O_x1 := O_x1.mono B6
      replace T := nx T B6
      go_wp2_with fail
      refine (toInt64S_any _ z0 _ (R0.out.mono T)).mono ?_
      rintro e w7 ⟨y0, rfl, O_y0, B7⟩
      replace O_x0 := O_x0.mono B7
      replace O_x1 := O_x1.mono B7
      replace T := nx T B7
      have U_y0 := O_y0.own_lt
      have S7 := B7.size
      go_wp2_with fail
      refine (eqInt64S_any _ _ z0 z0 _ O_x0.rd O_y0.rd).mono ?_
      rintro e w8 ⟨rfl, D8⟩
      rw [sameL_self]
      have B8 := D8.below w7.heap.size
      have S8 := B8.size
      replace O_x0 := O_x0.mono B8
      replace O_x1 := O_x1.mono B8
      replace O_y0 := O_y0.mono B8
      replace T := nx T B8
      go_wp2_with fail
      refine (toInt64S_any _ z1 _ (R1.out.mono T)).mono ?_
      rintro e w9 ⟨y1, rfl, O_y1, B9⟩
      replace O_x0 := O_x0.mono B9
      replace O_x1 := O_x1.mono B9
      replace T := nx T B9
      have U_y1 := O_y1.own_lt
      have S9 := B9.size
      go_wp2_with fail
      refine (eqInt64S_any _ _ z1 z1 _ O_x1.rd O_y1.rd).mono ?_
      rintro e w10 ⟨rfl, D10⟩
      rw [sameL_self]
      have B10 := D10.below w9.heap.size
      have S10 := B10.size
      replace O_x0 := O_x0.mono B10
      replace O_x1 := O_x1.mono B10
      replace O_y1 := O_y1.mono B10
      replace T := nx T B10
      go_wp2
      go_ret
      exact ⟨rfl, T⟩
    · have hs' : 1048576 < n1 := by omega
      clear hs1 hin1
      go_enter Try.func11, Try.ntmps11
      go_wp2
      go_ret
      exact ⟨rfl, Below.refl _ _⟩
  · have hs' : 1048576 < n0 := by omega
    clear hs0 hin0 hin1
    go_enter Try.func11, Try.ntmps11
    go_wp2
    go_ret
    exact ⟨rfl, Below.refl _ _⟩

set_option maxRecDepth 100000 in
theorem lifted (os : Os) (started : os.Started) (H : Type) (enc : TypeId × Value → H) :
    ReturnsInHanded {} Try.checked os 11 .any (Rows.fnExactCompareTreesSpec.pre6 enc Try.prog Try.f11 Rows.fnExactCompareTreesRow.domain false) (Rows.fnExactCompareTreesSpec.post enc Try.prog Try.f11 false true false false) := by
  refine returnsInHanded_of_change (C := Try.checked) own started (by kernel_rfl) Try.func11
    (ChangeSpec.witness6 (enc := enc) (C := Try.checked) false ⟨#[], #[.slice none 0 0, .slice none 0 0], []⟩ 8 (by kernel_rfl) (by kernel_rfl) (by kernel_rfl) (by kernel_rfl)) ?_
  intro W base args ds gs before hval0 hW hcnd _
  have hval : ∀ (j : Nat) t v, Try.f11.params[j]? = some t → args[j]? = some v → Value.okWide Try.prog W .any base t v := hval0
  have hW' := hW
  obtain ⟨p, q, hA0, hV, rfl, hfz, hnd⟩ := hW
  have hA : DataW.TrodAll enc Try.prog W 0 (fun _ => true) true Try.f11.params.toList args.toList ds p := hA0
  rw [Try.params11] at hA hval
  obtain ⟨v0, vs0, d0, ds0, p0, q0, hargs, rfl, rfl, h0, r0⟩ := trodAll_cons hA
  obtain ⟨v1, vs1, d1, ds1, p1, q1, rfl, rfl, rfl, h1, r1⟩ := trodAll_cons r0
  obtain ⟨rfl, rfl, rfl⟩ := trodAll_nil r1
  obtain rfl : args = #[v0, v1] := by cases args; simp_all
  obtain ⟨rfl, rfl⟩ := trodVars_none hV
  have k0 := h0
  have lt0 : ∀ x ∈ p0, x.block < W.heap.size := by obtain ⟨m, hm⟩ := k0; exact DataW.trod_lt m _ _ _ hm
  have i0 : InI W v0 := InI.open_ Try.underlying22 Try.underlying2 (by kernel_rfl) (hval 0 22 v0 rfl rfl) h0
  have k1 := h1
  have lt1 : ∀ x ∈ p1, x.block < W.heap.size := by obtain ⟨m, hm⟩ := k1; exact DataW.trod_lt m _ _ _ hm
  have i1 : InI W v1 := InI.open_ Try.underlying22 Try.underlying2 (by kernel_rfl) (hval 1 22 v1 rfl rfl) h1
  clear hA0 hval0
  refine (walk v0 i0 v1 i1).mono fun e W' ⟨he, bel⟩ => ?_
  subst he
  exact ⟨_, rfl, _, _, _, [], _, [], hW', trodAll_mk1 (shut_bool Try.underlying4 _), (trodAll_cons_mk (Below.trod laidOut (by kernel_rfl) (of_decide_eq_true (by kernel_rfl)) k0 bel lt0) (trodAll_cons_mk (Below.trod laidOut (by kernel_rfl) (of_decide_eq_true (by kernel_rfl)) k1 bel lt1) trodAll_mk0)), rfl, bel.frame _, fun h => by cases h⟩
theorem over : Rows.fnExactCompareTreesRow.holds Try.pinned (OpenSpec.ofChange Rows.fnExactCompareTreesSpec) :=
  OpenClaim.holds_of_wide 11 Try.f11 rfl rfl rfl rfl rfl rfl rfl ⟨rfl, rfl, rfl, rfl, rfl⟩ rfl rfl rfl rfl rfl (by kernel_rfl) Try.func11 (by kernel_rfl)
    (of_decide_eq_true (by kernel_rfl)) (by unfold Func.isWrapper; first | (rw [if_pos (by decide +kernel)]; kernel_rfl) | (rw [if_neg (by decide +kernel)]; exact ⟨rfl, rfl⟩))
    (fun os started H enc _ => lifted os started H enc)
theorem proved : Rows.FnExactCompareTreesSaid := over
#print axioms proved
end Go.Proofs.Ytoiangfookhfdaa.fnExactCompareTrees
