/-
  The law FnFieldLaws is proved of the program: for every input the call returns true, and each argument reads afterwards as it read before. Its one condition: the arguments can be read as data.
-/
import Derived.Test.YtnjaalblgakgaaaRows
import Derived.Test.YtnjaalblgakgaaaLawN
import Derived.Test.YtnjaalblgakgaaaDrawL
import Derived.WalkKit
import Derived.ProofKit
import Derived.OpenShut
import Derived.ShutString
import Derived.ChangeOld
import Derived.Below
namespace Go.Proofs.Ytnjaalblgakgaaa.fnFieldLaws
open Go.ChangeShapes Go.WideShapes Go.ChangeAt Go.RowKit
open Go.ChangeMaps (open_string shut_string)
set_option linter.unusedVariables false
theorem own : ownKnob Try.prog.godebug = none := by kernel_rfl
theorem laidOut : laidOutB Try.prog = true := by kernel_rfl
set_option maxRecDepth 100000 in
set_option maxHeartbeats 8000000 in
theorem walk {w : World} (v0 : Value) (i0 : InB w v0) :
    Calls Try.prog 10 #[v0] w fun e w' => e = .returned (.bool true) ∧ Below w.heap.size w w' := by
  obtain ⟨ao0, n0, cap0, rfl, hn0, hin⟩ := i0
  by_cases hs0 : n0 ≤ 4096
  rotate_left
  · clear hin
    have hs0 : 4096 < n0 := by omega
    go_enter Try.func10, Try.ntmps10
    go_wp2_with fail
    refine (big_any ao0 n0 cap0 _ hn0).mono ?_
    rintro e w1 ⟨rfl, rfl⟩
    rw [show decide (4096 < n0) = true by simp; omega]
    go_wp2
    go_ret
    exact ⟨rfl, Below.refl _ _⟩
  have C0 := hid (hin hs0)
  clear hin
  go_enter Try.func10, Try.ntmps10
  go_wp2_with fail
  refine (big_any ao0 n0 cap0 _ hn0).mono ?_
  rintro e w1 ⟨rfl, rfl⟩
  rw [show decide (4096 < n0) = false by simp; omega]
  go_wp2_with fail
  refine (drawDivideNumbers_any _ n0 _ C0.out).mono ?_
  rintro e w1 ⟨a, b, rfl, B1⟩
  have T := B1
  by_cases hc : (divR a b).2 = 0
  rotate_left
  · have hne : ((divR a b).2 != 0) = true := by simpa using hc
    go_wp2_with fail
    refine (divideNumbers_any a b _).mono ?_
    rintro e w2 ⟨rfl, B2⟩
    replace T := nx T B2
    go_wp2_with fail
    refine (sDivideNumbers_any a b _).mono ?_
    rintro e w' ⟨rfl, rfl⟩
    go_wp2_with fail
    refine (isNumber_any a _).mono ?_
    rintro e w' ⟨rfl, rfl⟩
    go_wp2_with fail
    refine (sIsNumber_any a _).mono ?_
    rintro e w' ⟨rfl, rfl⟩
    go_wp2
    go_ret
    exact ⟨rfl, T⟩
  obtain ⟨ha, hb, hb0, E⟩ := divR_zero hc
  clear hc
  have HA := hid ha
  have HB := hid hb
  have HB0 := hid hb0
  have E1 := hid E
  have L1 := hid (div_back ha hb hb0)
  have EP := hid (fun m h1 h2 => powerR_zp hb hb0 m h1 h2)
  have EL := hid (fun m n h1 h2 => pow_law hb hb0 m n h1 h2)
  clear ha hb hb0 E
  go_wp2_with fail
  refine (divideNumbers_any a b _).mono ?_
  rintro e w2 ⟨rfl, B2⟩
  rw [E1.out]
  replace T := nx T B2
  go_wp2_with fail
  refine (sDivideNumbers_any a b _).mono ?_
  rintro e w' ⟨rfl, rfl⟩
  rw [E1.out]
  go_wp2_with fail
  refine (isNumber_any a _).mono ?_
  rintro e w' ⟨rfl, rfl⟩
  go_wp2_with fail
  refine (sIsNumber_any a _).mono ?_
  rintro e w' ⟨rfl, rfl⟩
  have S0 := T.size
  go_wp2_with fail
  refine (roll_any _ n0 601 _ ((C0.out.mono T).lower S0) (by omega) (by omega)).mono ?_
  rintro e w3 ⟨rfl, S, B3⟩
  replace T := nx T B3
  go_wp2_with fail
  refine (number5_any _ _ _ S).mono ?_
  rintro e w4 ⟨c, rfl, c0, c1, S4, G4⟩
  replace T := below_of_grow T G4 S0 T.size
  go_wp2_with fail
  refine (below_any _ _ 40 _ S4 (by omega)).mono ?_
  rintro e w5 ⟨m', rfl, ⟨m0, m1, -⟩, S5, G5⟩
  have m2 := m1 (by omega)
  clear m1
  replace T := below_of_grow T G5 S0 T.size
  obtain ⟨m, hm⟩ : ∃ m : Int, m = m' - 20 := ⟨_, rfl⟩
  have hm1 : m' - 20 = m := by omega
  have hm2 : -20 ≤ m := by omega
  have hm3 : m ≤ 19 := by omega
  clear hm
  go_wp2_with fail
  refine (below_any _ _ 40 _ S5 (by omega)).mono ?_
  rintro e w6 ⟨n', rfl, ⟨n0, n1, -⟩, S6, G6⟩
  have n2 := n1 (by omega)
  clear n1
  replace T := below_of_grow T G6 S0 T.size
  obtain ⟨n, hn⟩ : ∃ n : Int, n = n' - 20 := ⟨_, rfl⟩
  have hn1 : n' - 20 = n := by omega
  have hn2 : -20 ≤ n := by omega
  have hn3 : n ≤ 19 := by omega
  clear hn
  have hc := hid (isNum_iff.2 ⟨c0, c1⟩)
  have hq := hid (md_num (a * invM b))
  have hp := hid (md_num (a + b))
  obtain ⟨p, HP⟩ : ∃ p, Hid (a * c % 10007 = p) := ⟨_, rfl⟩
  obtain ⟨r, HR⟩ : ∃ r, Hid (b * c % 10007 = r) := ⟨_, rfl⟩
  have hac : Hid (isNum p = true) := by rw [← HP.out]; exact md_num _
  have hbc : Hid (isNum r = true) := by rw [← HR.out]; exact md_num _
  have hr := hid (md_num (p + r))
  have L2 : Hid ((a + b) % 10007 * c % 10007 = (p + r) % 10007) := by rw [← HP.out, ← HR.out]; exact dist_law HA.out HB.out hc.out
  have L3 := hid (sub_law hac.out hbc.out)
  have EM := hid (EP.out m (by omega) (by omega))
  have EN := hid (EP.out n (by omega) (by omega))
  have ES := hid (EP.out (m + n) (by omega) (by omega))
  have EQ := hid (EL.out m n hm2 hn2)
  have vm := hid (vI_num (zp (fI b) m))
  have vn := hid (vI_num (zp (fI b) n))
  clear EP EL
  go_wp2_with fail
  refine (multiplyNumbers_any _ b _).mono ?_
  rintro e w7 ⟨rfl, B7⟩
  rw [okR_yes hq.out HB.out, L1.out]
  replace T := nx T B7
  go_wp2_with fail
  refine (addNumbers_any a b _).mono ?_
  rintro e w8 ⟨rfl, B8⟩
  rw [okR_yes HA.out HB.out]
  replace T := nx T B8
  go_wp2_with fail
  refine (multiplyNumbers_any _ c _).mono ?_
  rintro e w9 ⟨rfl, B9⟩
  rw [okR_yes hp.out hc.out, L2.out]
  replace T := nx T B9
  go_wp2_with fail
  refine (multiplyNumbers_any a c _).mono ?_
  rintro e w10 ⟨rfl, B10⟩
  rw [okR_yes HA.out hc.out, HP.out]
  replace T := nx T B10
  go_wp2_with fail
  refine (multiplyNumbers_any b c _).mono ?_
  rintro e w11 ⟨rfl, B11⟩
  rw [okR_yes HB.out hc.out, HR.out]
  replace T := nx T B11
  go_wp2_with fail
  refine (addNumbers_any _ _ _).mono ?_
  rintro e w12 ⟨rfl, B12⟩
  rw [okR_yes hac.out hbc.out]
  replace T := nx T B12
  go_wp2_with fail
  refine (subtractNumbers_any _ _ _).mono ?_
  rintro e w13 ⟨rfl, B13⟩
  rw [okR_yes hr.out hbc.out, L3.out]
  replace T := nx T B13
  go_wp2_with fail
  refine (powerNumber_any b m _).mono ?_
  rintro e w' ⟨rfl, rfl⟩
  rw [EM.out]
  go_wp2_with fail
  refine (powerNumber_any b n _).mono ?_
  rintro e w' ⟨rfl, rfl⟩
  rw [EN.out]
  go_wp2_with fail
  refine (powerNumber_any b (m + n) _).mono ?_
  rintro e w' ⟨rfl, rfl⟩
  rw [ES.out]
  go_wp2_with fail
  refine (multiplyNumbers_any _ _ _).mono ?_
  rintro e w14 ⟨rfl, B14⟩
  rw [okR_yes vm.out vn.out, EQ.out]
  replace T := nx T B14
  go_wp2
  go_ret
  exact ⟨rfl, T⟩

set_option maxRecDepth 100000 in
theorem lifted (os : Os) (started : os.Started) (H : Type) (enc : TypeId × Value → H) :
    ReturnsInHanded {} Try.checked os 10 .any (Rows.fnFieldLawsSpec.pre6 enc Try.prog Try.f10 Rows.fnFieldLawsRow.domain false) (Rows.fnFieldLawsSpec.post enc Try.prog Try.f10 false true false false) := by
  refine returnsInHanded_of_change (C := Try.checked) own started (by kernel_rfl) Try.func10
    (ChangeSpec.witness6 (enc := enc) (C := Try.checked) false ⟨#[], #[.slice none 0 0], []⟩ 8 (by kernel_rfl) (by kernel_rfl) (by kernel_rfl) (by kernel_rfl)) ?_
  intro W base args ds gs before hval0 hW hcnd _
  have hval : ∀ (j : Nat) t v, Try.f10.params[j]? = some t → args[j]? = some v → Value.okWide Try.prog W .any base t v := hval0
  have hW' := hW
  obtain ⟨p, q, hA0, hV, rfl, hfz, hnd⟩ := hW
  have hA : DataW.TrodAll enc Try.prog W 0 (fun _ => true) true Try.f10.params.toList args.toList ds p := hA0
  rw [Try.params10] at hA hval
  obtain ⟨v0, vs0, d0, ds0, p0, q0, hargs, rfl, rfl, h0, r0⟩ := trodAll_cons hA
  obtain ⟨rfl, rfl, rfl⟩ := trodAll_nil r0
  obtain rfl : args = #[v0] := by cases args; simp_all
  obtain ⟨rfl, rfl⟩ := trodVars_none hV
  have k0 := h0
  have lt0 : ∀ x ∈ p0, x.block < W.heap.size := by obtain ⟨m, hm⟩ := k0; exact DataW.trod_lt m _ _ _ hm
  have i0 : InB W v0 := InB.open_ Try.underlying31 Try.underlying5 (by kernel_rfl) (hval 0 31 v0 rfl rfl) h0
  clear hA0 hval0
  refine (walk v0 i0).mono fun e W' ⟨he, bel⟩ => ?_
  subst he
  exact ⟨_, rfl, _, _, _, [], _, [], hW', trodAll_mk1 (shut_bool Try.underlying4 _), (trodAll_cons_mk (Below.trod laidOut (by kernel_rfl) (of_decide_eq_true (by kernel_rfl)) k0 bel lt0) trodAll_mk0), rfl, bel.frame _, fun h => by cases h⟩
theorem over : Rows.fnFieldLawsRow.holds Try.pinned (OpenSpec.ofChange Rows.fnFieldLawsSpec) :=
  OpenClaim.holds_of_wide 10 Try.f10 rfl rfl rfl rfl rfl rfl rfl ⟨rfl, rfl, rfl, rfl, rfl⟩ rfl rfl rfl rfl rfl (by kernel_rfl) Try.func10 (by kernel_rfl)
    (of_decide_eq_true (by kernel_rfl)) (by unfold Func.isWrapper; first | (rw [if_pos (by decide +kernel)]; kernel_rfl) | (rw [if_neg (by decide +kernel)]; exact ⟨rfl, rfl⟩))
    (fun os started H enc _ => lifted os started H enc)
theorem proved : Rows.FnFieldLawsSaid := over
#print axioms proved
end Go.Proofs.Ytnjaalblgakgaaa.fnFieldLaws
