/-
  The law FnLinearSystems is proved of the program: for every input the call returns true, and each argument reads afterwards as it read before. Its one condition: the arguments can be read as data.
-/
import Derived.Test.YtmhcpaffdchboaaRows
import Derived.Test.YtmhcpaffdchboaaLawM
import Derived.Test.YtmhcpaffdchboaaDrawM
import Derived.Test.YtmhcpaffdchboaaSolLS
import Derived.Test.YtmhcpaffdchboaaDetTop
import Derived.WalkKit
import Derived.ProofKit
import Derived.OpenShut
import Derived.ShutString
import Derived.ChangeOld
import Derived.Below
namespace Go.Proofs.Ytmhcpaffdchboaa.fnLinearSystems
open Go.ChangeShapes Go.WideShapes Go.ChangeAt Go.RowKit
open Go.ChangeMaps (open_string shut_string)
set_option linter.unusedVariables false
theorem own : ownKnob Try.prog.godebug = none := by kernel_rfl
theorem laidOut : laidOutB Try.prog = true := by kernel_rfl
theorem walk {w : World} (v0 : Value) (i0 : InB w v0) :
    Calls Try.prog 8 #[v0] w fun e w' => e = .returned (.bool true) ∧ Below w.heap.size w w' := by
  obtain ⟨ao0, n0, cap0, rfl, hn0, hin⟩ := i0
  by_cases hs0 : n0 ≤ 4096
  rotate_left
  · clear hin
    have hs0 : 4096 < n0 := by omega
    go_enter Try.func8, Try.ntmps8
    go_wp2_with fail
    refine (big_any ao0 n0 cap0 _ hn0).mono ?_
    rintro e w1 ⟨rfl, rfl⟩
    rw [show decide (4096 < n0) = true by simp; omega]
    go_wp2
    go_ret
    exact ⟨rfl, Below.refl _ _⟩
  have C0 := hid (hin hs0)
  clear hin
  go_enter Try.func8, Try.ntmps8
  go_wp2_with fail
  refine (big_any ao0 n0 cap0 _ hn0).mono ?_
  rintro e w1 ⟨rfl, rfl⟩
  rw [show decide (4096 < n0) = false by simp; omega]
  go_wp2_with fail
  refine (drawSolveLinear_any _ n0 _ C0.out).mono ?_
  rintro e w1 ⟨ra, rr, a, z, rfl, RA, RZ, hD, B1⟩
  have HD := hid hD
  have T := B1
  have hta : tot a ≤ 1048576 := by have := hD.tot; omega
  have R_a := hid RA
  have R_z := hid RZ
  clear RA RZ hD
  go_wp2_with fail
  refine (solveLinear_any _ _ a z _ R_a.out R_z.out hta).mono ?_
  rintro e w2 ⟨rx, rfl, O_x, B2⟩
  replace R_a := hid (R_a.out.mono B2)
  replace R_z := hid (R_z.out.mono B2)
  replace T := nx T B2
  have R_x := hid O_x.rd
  go_wp2_with fail
  refine (sSolveLinear_any _ _ a z _ R_a.out R_z.out hta).mono ?_
  rintro e w3 ⟨rw_, rfl, O_w, B3⟩
  replace R_a := hid (R_a.out.mono B3)
  replace R_z := hid (R_z.out.mono B3)
  replace R_x := hid (R_x.out.mono B3)
  replace T := nx T B3
  have R_w := hid O_w.rd
  have L1 := hid (fun h : (solR a z).2 = 0 => fun i hi => solR_dot h i hi)
  have L2 := hid (fun h : (solR a z).2 = 0 ∨ (solR a z).2 = 5 => fun hs => solR_square h hs)
  have L3 := hid (fun h : (solR a z).2 = 0 ∨ (solR a z).2 = 5 => solR_mat h)
  have L4 := hid (solR_cases a z)
  generalize solR a z = S at L1 L2 L3 L4 R_x R_w ⊢
  obtain ⟨xs, c⟩ := S
  clear O_x O_w B1 B2 B3
  go_wp2_with fail
  refine (likeInts_same _ _ xs _ R_x.out R_w.out).mono ?_
  rintro e w4 ⟨rfl, D4⟩
  have B4 := D4.below w3.heap.size
  replace R_a := hid (R_a.out.mono B4)
  replace R_z := hid (R_z.out.mono B4)
  replace R_x := hid (R_x.out.mono B4)
  replace T := nx T B4
  clear R_w B4 D4
  obtain ⟨aoa, capa, vsa, rfl, -, -, -⟩ := R_a.out
  obtain ⟨aoz, capz, rfl⟩ := R_z.out.form
  obtain ⟨aoxx, capxx, rfl⟩ := R_x.out.form
  obtain rfl | rfl | rfl | rfl := L4.out
  · have LA := hid (L1.out rfl)
    have LB := hid (L2.out (.inl rfl))
    have LC := hid (L3.out (.inl rfl))
    have h8 := HD.out.1
    clear L1 L2 L3 L4
    go_wp2_with fail
    go_loop [9] (fun i => ∃ k : Nat, k ≤ a.length ∧ i = .int .i64 k) (fun i => a.length - (intOf i).toNat)
    case atStart => exact ⟨0, Nat.zero_le _, rfl⟩
    case round =>
      obtain ⟨k, hk, rfl⟩ := hrel
      by_cases hlt : k < a.length
      · have hlt' : (k : Int) < (a.length : Int) := by omega
        have LM := LC.out
        obtain ⟨ba, offa, u, rfl, hcell, hu⟩ := R_a.out.at_ hlt
        obtain ⟨aou, capu, rfl⟩ := hu.form
        obtain ⟨bz, offz, rfl, hcz⟩ := R_z.out.at_ (k := k) (by omega)
        have hkz : (k : Int) < (z.length : Int) := by omega
        have E := hid (LA.out k hlt)
        have HU := hid hu
        clear hu LM
        go_wp2_with fail
        refine (dotOf_any _ _ (rowAt a k) xs _ HU.out R_x.out).mono ?_
        rintro e w5 ⟨rfl, rfl⟩
        rw [E.out]
        have hee : (el z k != el z k) = false := by simp
        go_wp2_with fail
        go_round
        case rel => exact ⟨k + 1, by omega, by go_num⟩
        case measure => simp [intOf]; omega
      · obtain rfl : k = a.length := by omega
        have hd : decide ((a.length : Int) < (a.length : Int)) = false := by simp
        have LM := LC.out
        have hapos := (isMat_yes LM.1).1
        have hapos' : 0 < a.length := hapos
        obtain ⟨ga, offa, xa, e1, hcell0, hx0⟩ := R_a.out.at_ hapos'
        cases e1
        obtain ⟨aox, capx, rfl⟩ := hx0.form
        rw [Nat.add_zero] at hcell0
        clear hx0 LM hapos
        by_cases hsq : a.length = (rowAt a 0).length
        rotate_left
        · have hn : ((a.length : Int) != ((rowAt a 0).length : Int)) = true := by simp; omega
          clear hsq
          go_wp2_with fail
          go_ret
          exact ⟨rfl, T⟩
        have hn : ((a.length : Int) != ((rowAt a 0).length : Int)) = false := by rw [← hsq]; simp
        have E2 := LB.out hsq
        clear hsq
        go_wp2_with fail
        refine (determinantTop_any _ a _ R_a.out hta).mono ?_
        rintro e w5 ⟨rfl, B5⟩
        replace T := nx T B5
        have E3 : ((detR a).1 != 0) = true := E2.2
        rw [E2.1]
        generalize (detR a).1 = d at E3 ⊢
        clear E2 hcell0 R_a
        go_wp2_with fail
        go_ret
        exact ⟨rfl, T⟩
  · go_wp2_with fail
    go_ret
    exact ⟨rfl, T⟩
  · go_wp2_with fail
    go_ret
    exact ⟨rfl, T⟩
  · have LB := hid (L2.out (.inr rfl))
    have LC := hid (L3.out (.inr rfl))
    clear L1 L2 L3 L4
    have LM := LC.out
    have hapos := (isMat_yes LM.1).1
    have hapos' : 0 < a.length := hapos
    obtain ⟨ga, offa, xa, e1, hcell0, hx0⟩ := R_a.out.at_ hapos'
    cases e1
    obtain ⟨aox, capx, rfl⟩ := hx0.form
    rw [Nat.add_zero] at hcell0
    clear hx0 LM hapos
    by_cases hsq : a.length = (rowAt a 0).length
    rotate_left
    · have hn : ((a.length : Int) != ((rowAt a 0).length : Int)) = true := by simp; omega
      clear hsq
      go_wp2_with fail
      go_ret
      exact ⟨rfl, T⟩
    have hn : ((a.length : Int) != ((rowAt a 0).length : Int)) = false := by rw [← hsq]; simp
    have E2 := LB.out hsq
    clear hsq
    go_wp2_with fail
    refine (determinantTop_any _ a _ R_a.out hta).mono ?_
    rintro e w5 ⟨rfl, B5⟩
    replace T := nx T B5
    have E3 : ((detR a).1 != 0) = false := E2.2
    rw [E2.1]
    generalize (detR a).1 = d at E3 ⊢
    clear E2 hcell0 R_a
    go_wp2_with fail
    go_ret
    exact ⟨rfl, T⟩

set_option maxRecDepth 100000 in
theorem lifted (os : Os) (started : os.Started) (H : Type) (enc : TypeId × Value → H) :
    ReturnsInHanded {} Try.checked os 8 .any (Rows.fnLinearSystemsSpec.pre6 enc Try.prog Try.f8 Rows.fnLinearSystemsRow.domain false) (Rows.fnLinearSystemsSpec.post enc Try.prog Try.f8 false true false false) := by
  refine returnsInHanded_of_change (C := Try.checked) own started (by kernel_rfl) Try.func8
    (ChangeSpec.witness6 (enc := enc) (C := Try.checked) false ⟨#[], #[.slice none 0 0], []⟩ 8 (by kernel_rfl) (by kernel_rfl) (by kernel_rfl) (by kernel_rfl)) ?_
  intro W base args ds gs before hval0 hW hcnd _
  have hval : ∀ (j : Nat) t v, Try.f8.params[j]? = some t → args[j]? = some v → Value.okWide Try.prog W .any base t v := hval0
  have hW' := hW
  obtain ⟨p, q, hA0, hV, rfl, hfz, hnd⟩ := hW
  have hA : DataW.TrodAll enc Try.prog W 0 (fun _ => true) true Try.f8.params.toList args.toList ds p := hA0
  rw [Try.params8] at hA hval
  obtain ⟨v0, vs0, d0, ds0, p0, q0, hargs, rfl, rfl, h0, r0⟩ := trodAll_cons hA
  obtain ⟨rfl, rfl, rfl⟩ := trodAll_nil r0
  obtain rfl : args = #[v0] := by cases args; simp_all
  obtain ⟨rfl, rfl⟩ := trodVars_none hV
  have k0 := h0
  have lt0 : ∀ x ∈ p0, x.block < W.heap.size := by obtain ⟨m, hm⟩ := k0; exact DataW.trod_lt m _ _ _ hm
  have i0 : InB W v0 := InB.open_ Try.underlying39 Try.underlying5 (by kernel_rfl) (hval 0 39 v0 rfl rfl) h0
  clear hA0 hval0
  refine (walk v0 i0).mono fun e W' ⟨he, bel⟩ => ?_
  subst he
  exact ⟨_, rfl, _, _, _, [], _, [], hW', trodAll_mk1 (shut_bool Try.underlying4 _), (trodAll_cons_mk (Below.trod laidOut (by kernel_rfl) (of_decide_eq_true (by kernel_rfl)) k0 bel lt0) trodAll_mk0), rfl, bel.frame _, fun h => by cases h⟩
theorem over : Rows.fnLinearSystemsRow.holds Try.pinned (OpenSpec.ofChange Rows.fnLinearSystemsSpec) :=
  OpenClaim.holds_of_wide 8 Try.f8 rfl rfl rfl rfl rfl rfl rfl ⟨rfl, rfl, rfl, rfl, rfl⟩ rfl rfl rfl rfl rfl (by kernel_rfl) Try.func8 (by kernel_rfl)
    (of_decide_eq_true (by kernel_rfl)) (by unfold Func.isWrapper; first | (rw [if_pos (by decide +kernel)]; kernel_rfl) | (rw [if_neg (by decide +kernel)]; exact ⟨rfl, rfl⟩))
    (fun os started H enc _ => lifted os started H enc)
theorem proved : Rows.FnLinearSystemsSaid := over
#print axioms proved
end Go.Proofs.Ytmhcpaffdchboaa.fnLinearSystems
