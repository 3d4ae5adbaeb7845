/-
  The law FnExactParseForest is proved of the program: for every input the call returns true, and each argument reads afterwards as it read before. Its one condition: the arguments can be read as data.
-/
import Derived.Test.YthjdmkjncaemgaaRows
import Derived.Test.YthjdmkjncaemgaaParseF
import Derived.Test.YthjdmkjncaemgaaRng
import Derived.WalkKit
import Derived.ProofKit
import Derived.OpenShut
import Derived.ShutString
import Derived.ChangeOld
import Derived.Below
namespace Go.Proofs.Ythjdmkjncaemgaa.fnExactParseForest
open Go.ChangeShapes Go.WideShapes Go.ChangeAt Go.RowKit
open Go.ChangeMaps (open_string shut_string)
set_option linter.unusedVariables false
theorem own : ownKnob Try.prog.godebug = none := by kernel_rfl
theorem laidOut : laidOutB Try.prog = true := by kernel_rfl
theorem walk {w : World} (a0 : ByteArray) (w0 : a0.size ≤ maxLen) :
    Calls Try.prog 7 #[.string a0] w fun e w' => e = .returned (.bool true) ∧ Below w.heap.size w w' := by
  by_cases hs0 : a0.size ≤ 1048576
  rotate_left
  · have hs' : 1048576 < a0.size := by omega
    clear hs0
    go_enter Try.func7, Try.ntmps7
    go_wp2
    go_ret
    exact ⟨rfl, Below.refl _ _⟩
  have T : Below w.heap.size w w := Below.refl _ _
  go_enter Try.func7, Try.ntmps7
  have tot_g := parseFR_tot a0
  go_wp2_with fail
  refine (sParseForest_any _  _  hs0).mono ?_
  rintro e w1 ⟨r, rfl, O_r, B_w1⟩
  have H_r := HasII.of O_r
  clear O_r
  replace T := nx T B_w1
  have S_w1 := B_w1.size
  go_wp2_with fail
  refine (parseForest_any _  _  hs0).mono ?_
  rintro e w2 ⟨g, rfl, O_g, B_w2⟩
  have H_g := HasII.of O_g
  clear O_g
  replace H_r := H_r.mono B_w2
  replace T := nx T B_w2
  have S_w2 := B_w2.size
  go_wp2_with fail
  refine (eqII_same _ _ _ _ H_g.rd H_r.rd).mono ?_
  rintro e w3 ⟨rfl, D_w3⟩
  have B_w3 := D_w3.below w2.heap.size
  replace H_r := H_r.mono B_w3
  replace H_g := H_g.mono B_w3
  replace T := nx T B_w3
  have S_w3 := B_w3.size
  go_wp2_with fail
  refine (markII_has _ _ _ _ _ _ H_g tot_g (by omega) (by omega)).mono ?_
  rintro e w4 ⟨rfl, M_g, G_w4⟩
  replace H_r := H_r.rng G_w4 (by omega)
  replace T := G_w4.below T (by omega)
  have S_w4 := G_w4.size
  go_wp2_with fail
  refine (heldII_any _ _ _ _ M_g.rd tot_g (by omega) (by omega)).mono ?_
  rintro e w5 ⟨rfl, rfl⟩
  go_wp2_with fail
  refine (parseForest_any _  _  hs0).mono ?_
  rintro e w5 ⟨h, rfl, O_h, B_w5⟩
  have H_h := HasII.of O_h
  clear O_h
  replace H_r := H_r.mono B_w5
  replace M_g := M_g.mono B_w5
  replace T := nx T B_w5
  have S_w5 := B_w5.size
  go_wp2_with fail
  refine (eqII_same _ _ _ _ H_h.rd H_r.rd).mono ?_
  rintro e w6 ⟨rfl, D_w6⟩
  have B_w6 := D_w6.below w5.heap.size
  replace H_r := H_r.mono B_w6
  replace M_g := M_g.mono B_w6
  replace H_h := H_h.mono B_w6
  replace T := nx T B_w6
  have S_w6 := B_w6.size
  go_wp2_with fail
  refine (heldII_any _ _ _ _ M_g.rd tot_g (by omega) (by omega)).mono ?_
  rintro e w7 ⟨rfl, rfl⟩
  go_wp2
  go_ret
  exact ⟨rfl, T⟩

set_option maxRecDepth 100000 in
theorem lifted (os : Os) (started : os.Started) (H : Type) (enc : TypeId × Value → H) :
    ReturnsInHanded {} Try.checked os 7 .any (Rows.fnExactParseForestSpec.pre6 enc Try.prog Try.f7 Rows.fnExactParseForestRow.domain false) (Rows.fnExactParseForestSpec.post enc Try.prog Try.f7 false true false false) := by
  refine returnsInHanded_of_change (C := Try.checked) own started (by kernel_rfl) Try.func7
    (ChangeSpec.witness6 (enc := enc) (C := Try.checked) false ⟨#[], #[.string ByteArray.empty], []⟩ 8 (by kernel_rfl) (by kernel_rfl) (by kernel_rfl) (by kernel_rfl)) ?_
  intro W base args ds gs before hval0 hW hcnd _
  have hval : ∀ (j : Nat) t v, Try.f7.params[j]? = some t → args[j]? = some v → Value.okWide Try.prog W .any base t v := hval0
  have hW' := hW
  obtain ⟨p, q, hA0, hV, rfl, hfz, hnd⟩ := hW
  have hA : DataW.TrodAll enc Try.prog W 0 (fun _ => true) true Try.f7.params.toList args.toList ds p := hA0
  rw [Try.params7] at hA hval
  obtain ⟨v0, vs0, d0, ds0, p0, q0, hargs, rfl, rfl, h0, r0⟩ := trodAll_cons hA
  obtain ⟨rfl, rfl, rfl⟩ := trodAll_nil r0
  obtain rfl : args = #[v0] := by cases args; simp_all
  obtain ⟨rfl, rfl⟩ := trodVars_none hV
  obtain ⟨a0, rfl, rfl, rfl, w0⟩ := open_string Try.underlying9 (hval 0 9 v0 rfl rfl) h0
  clear hA0 hval0
  refine (walk a0 w0).mono fun e W' ⟨he, bel⟩ => ?_
  subst he
  exact ⟨_, rfl, _, _, _, [], _, [], hW', trodAll_mk1 (shut_bool Try.underlying4 _), (trodAll_cons_mk (shut_string Try.underlying9 w0) trodAll_mk0), rfl, bel.frame _, fun h => by cases h⟩
theorem over : Rows.fnExactParseForestRow.holds Try.pinned (OpenSpec.ofChange Rows.fnExactParseForestSpec) :=
  OpenClaim.holds_of_wide 7 Try.f7 rfl rfl rfl rfl rfl rfl rfl ⟨rfl, rfl, rfl, rfl, rfl⟩ rfl rfl rfl rfl rfl (by kernel_rfl) Try.func7 (by kernel_rfl)
    (of_decide_eq_true (by kernel_rfl)) (by unfold Func.isWrapper; first | (rw [if_pos (by decide +kernel)]; kernel_rfl) | (rw [if_neg (by decide +kernel)]; exact ⟨rfl, rfl⟩))
    (fun os started H enc _ => lifted os started H enc)
theorem proved : Rows.FnExactParseForestSaid := over
#print axioms proved
end Go.Proofs.Ythjdmkjncaemgaa.fnExactParseForest
