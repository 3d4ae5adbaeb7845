/-
  The law FnExactDotOf is proved of the program: for every input the call returns true, and each argument reads afterwards as it read before. Its one condition: the arguments can be read as data.
-/
import Derived.Test.YtiadkghaopcjgaaRows
import Derived.Test.YtiadkghaopcjgaaSums
import Derived.Test.YtiadkghaopcjgaaSlices
import Derived.WalkKit
import Derived.ProofKit
import Derived.OpenShut
import Derived.ShutString
import Derived.ChangeOld
import Derived.Below
namespace Go.Proofs.Ytiadkghaopcjgaa.fnExactDotOf
open Go.ChangeShapes Go.WideShapes Go.ChangeAt Go.RowKit
open Go.ChangeMaps (open_string shut_string)
set_option linter.unusedVariables false
theorem own : ownKnob Try.prog.godebug = none := by kernel_rfl
theorem laidOut : laidOutB Try.prog = true := by kernel_rfl
theorem walk {w : World} (v0 : Value) (i0 : InI w v0) (v1 : Value) (i1 : InI w v1) :
    Calls Try.prog 14 #[v0, v1] w fun e w' => e = .returned (.bool true) ∧ Below w.heap.size w w' := by
  obtain ⟨ao, n, cap, rfl, hn, hin⟩ := i0
  obtain ⟨bo, m, cap', rfl, hm, him⟩ := i1
  unfold maxLen at hn hm
  by_cases hs : n ≤ 1048576
  · by_cases hs2 : m ≤ 1048576
    · obtain ⟨zs, R, -, hzn⟩ := hin hs
      obtain ⟨ys, R', -, hyn⟩ := him hs2
      have HR := hid R
      have HR' := hid R'
      clear hzn hin R hyn him R'
      go_enter Try.func14, Try.ntmps14
      go_wp2_with fail
      refine (toInt64S_any _ zs _ HR.out).mono ?_
      rintro e w1 ⟨u1, rfl, O1, B1⟩
      go_wp2_with fail
      refine (toInt64S_any _ ys _ (HR'.out.mono B1)).mono ?_
      rintro e w2 ⟨u2, rfl, O2, B2⟩
      go_wp2_with fail
      refine (sDotOf_any _ _ zs ys _ (O1.rd.mono B2) O2.rd).mono ?_
      rintro e w3 ⟨rfl, D3⟩
      have B3 := nx B1 (nx B2 (D3.below _))
      go_wp2_with fail
      refine (toInt64S_any _ zs _ (HR.out.mono B3)).mono ?_
      rintro e w4 ⟨u4, rfl, O4, B4⟩
      have B4' := nx B3 B4
      go_wp2_with fail
      refine (toInt64S_any _ ys _ (HR'.out.mono B4')).mono ?_
      rintro e w5 ⟨u5, rfl, O5, B5⟩
      have B5' := nx B4' B5
      go_wp2_with fail
      refine (dotOf_any _ _ zs ys _ (O4.rd.mono B5) O5.rd).mono ?_
      rintro e w5' ⟨rfl, rfl⟩
      go_wp2_with fail
      refine (toInt64S_any _ zs _ (HR.out.mono B5')).mono ?_
      rintro e w6 ⟨u6, rfl, O6, B6⟩
      go_wp2_with fail
      refine (eqInt64S_any _ _ zs zs _ ((O4.rd.mono B5).mono B6) O6.rd).mono ?_
      rintro e w7 ⟨rfl, D7⟩
      rw [sameL_self]
      have B7 := nx B6 (D7.below _)
      have B7' := nx B5' B7
      go_wp2_with fail
      refine (toInt64S_any _ ys _ (HR'.out.mono B7')).mono ?_
      rintro e w8 ⟨u8, rfl, O8, B8⟩
      go_wp2_with fail
      refine (eqInt64S_any _ _ ys ys _ ((O5.rd.mono B7).mono B8) O8.rd).mono ?_
      rintro e w9 ⟨rfl, D9⟩
      rw [sameL_self]
      go_wp2
      go_ret
      exact ⟨rfl, nx B7' (nx B8 (D9.below _))⟩
    · have hs' : 1048576 < m := by omega
      clear hin him hs2
      go_enter Try.func14, Try.ntmps14
      go_wp2
      go_ret
      exact ⟨rfl, Below.refl _ _⟩
  · have hs' : 1048576 < n := by omega
    clear hin him hs
    go_enter Try.func14, Try.ntmps14
    go_wp2
    go_ret
    exact ⟨rfl, Below.refl _ _⟩

set_option maxRecDepth 100000 in
theorem lifted (os : Os) (started : os.Started) (H : Type) (enc : TypeId × Value → H) :
    ReturnsInHanded {} Try.checked os 14 .any (Rows.fnExactDotOfSpec.pre6 enc Try.prog Try.f14 Rows.fnExactDotOfRow.domain false) (Rows.fnExactDotOfSpec.post enc Try.prog Try.f14 false true false false) := by
  refine returnsInHanded_of_change (C := Try.checked) own started (by kernel_rfl) Try.func14
    (ChangeSpec.witness6 (enc := enc) (C := Try.checked) false ⟨#[], #[.slice none 0 0, .slice none 0 0], []⟩ 8 (by kernel_rfl) (by kernel_rfl) (by kernel_rfl) (by kernel_rfl)) ?_
  intro W base args ds gs before hval0 hW hcnd _
  have hval : ∀ (j : Nat) t v, Try.f14.params[j]? = some t → args[j]? = some v → Value.okWide Try.prog W .any base t v := hval0
  have hW' := hW
  obtain ⟨p, q, hA0, hV, rfl, hfz, hnd⟩ := hW
  have hA : DataW.TrodAll enc Try.prog W 0 (fun _ => true) true Try.f14.params.toList args.toList ds p := hA0
  rw [Try.params14] at hA hval
  obtain ⟨v0, vs0, d0, ds0, p0, q0, hargs, rfl, rfl, h0, r0⟩ := trodAll_cons hA
  obtain ⟨v1, vs1, d1, ds1, p1, q1, rfl, rfl, rfl, h1, r1⟩ := trodAll_cons r0
  obtain ⟨rfl, rfl, rfl⟩ := trodAll_nil r1
  obtain rfl : args = #[v0, v1] := by cases args; simp_all
  obtain ⟨rfl, rfl⟩ := trodVars_none hV
  have k0 := h0
  have lt0 : ∀ x ∈ p0, x.block < W.heap.size := by obtain ⟨m, hm⟩ := k0; exact DataW.trod_lt m _ _ _ hm
  have i0 : InI W v0 := InI.open_ Try.underlying28 Try.underlying2 (by kernel_rfl) (hval 0 28 v0 rfl rfl) h0
  have k1 := h1
  have lt1 : ∀ x ∈ p1, x.block < W.heap.size := by obtain ⟨m, hm⟩ := k1; exact DataW.trod_lt m _ _ _ hm
  have i1 : InI W v1 := InI.open_ Try.underlying28 Try.underlying2 (by kernel_rfl) (hval 1 28 v1 rfl rfl) h1
  clear hA0 hval0
  refine (walk v0 i0 v1 i1).mono fun e W' ⟨he, bel⟩ => ?_
  subst he
  exact ⟨_, rfl, _, _, _, [], _, [], hW', trodAll_mk1 (shut_bool Try.underlying4 _), (trodAll_cons_mk (Below.trod laidOut (by kernel_rfl) (of_decide_eq_true (by kernel_rfl)) k0 bel lt0) (trodAll_cons_mk (Below.trod laidOut (by kernel_rfl) (of_decide_eq_true (by kernel_rfl)) k1 bel lt1) trodAll_mk0)), rfl, bel.frame _, fun h => by cases h⟩
theorem over : Rows.fnExactDotOfRow.holds Try.pinned (OpenSpec.ofChange Rows.fnExactDotOfSpec) :=
  OpenClaim.holds_of_wide 14 Try.f14 rfl rfl rfl rfl rfl rfl rfl ⟨rfl, rfl, rfl, rfl, rfl⟩ rfl rfl rfl rfl rfl (by kernel_rfl) Try.func14 (by kernel_rfl)
    (of_decide_eq_true (by kernel_rfl)) (by unfold Func.isWrapper; first | (rw [if_pos (by decide +kernel)]; kernel_rfl) | (rw [if_neg (by decide +kernel)]; exact ⟨rfl, rfl⟩))
    (fun os started H enc _ => lifted os started H enc)
theorem proved : Rows.FnExactDotOfSaid := over
#print axioms proved
end Go.Proofs.Ytiadkghaopcjgaa.fnExactDotOf
