/-
  The law FnReversions is proved of the program: for every input the call returns true, and each argument reads afterwards as it read before. Its one condition: the arguments can be read as data.
-/
import Derived.Test.YtnjaalblgakgaaaRows
import Derived.Test.YtnjaalblgakgaaaLawS
import Derived.Test.YtnjaalblgakgaaaDrawL
import Derived.WalkKit
import Derived.ProofKit
import Derived.OpenShut
import Derived.ShutString
import Derived.ChangeOld
import Derived.Below
namespace Go.Proofs.Ytnjaalblgakgaaa.fnReversions
open Go.ChangeShapes Go.WideShapes Go.ChangeAt Go.RowKit
open Go.ChangeMaps (open_string shut_string)
set_option linter.unusedVariables false
theorem own : ownKnob Try.prog.godebug = none := by kernel_rfl
theorem laidOut : laidOutB Try.prog = true := by kernel_rfl
theorem walk {w : World} (v0 : Value) (i0 : InB w v0) :
    Calls Try.prog 5 #[v0] w fun e w' => e = .returned (.bool true) ∧ Below w.heap.size w w' := by
  obtain ⟨ao0, n0, cap0, rfl, hn0, hin⟩ := i0
  by_cases hs0 : n0 ≤ 4096
  rotate_left
  · clear hin
    have hs0 : 4096 < n0 := by omega
    go_enter Try.func5, Try.ntmps5
    go_wp2_with fail
    refine (big_any ao0 n0 cap0 _ hn0).mono ?_
    rintro e w1 ⟨rfl, rfl⟩
    rw [show decide (4096 < n0) = true by simp; omega]
    go_wp2
    go_ret
    exact ⟨rfl, Below.refl _ _⟩
  have C0 := hid (hin hs0)
  clear hin
  go_enter Try.func5, Try.ntmps5
  go_wp2_with fail
  refine (big_any ao0 n0 cap0 _ hn0).mono ?_
  rintro e w1 ⟨rfl, rfl⟩
  rw [show decide (4096 < n0) = false by simp; omega]
  go_wp2_with fail
  refine (drawReverseSeries_any _ n0 _ C0.out).mono ?_
  rintro e w1 ⟨a, xs, rfl, O_a, B1⟩
  have T := B1
  have R_a := hid O_a.rd
  by_cases hc : (revR xs).2 = 0
  rotate_left
  · have hne : ((revR xs).2 != 0) = true := by simpa using hc
    go_wp2_with fail
    refine (reverseSeries_any _ _ _ R_a.out).mono ?_
    rintro e w2 ⟨b, rfl, O_b, B2⟩
    replace R_a := hid (R_a.out.mono B2)
    replace T := nx T B2
    have R_b := hid O_b.rd
    go_wp2_with fail
    refine (sReverseSeries_any _ _ _ R_a.out).mono ?_
    rintro e w3 ⟨c, rfl, O_c, B3⟩
    replace R_a := hid (R_a.out.mono B3)
    replace R_b := hid (R_b.out.mono B3)
    replace T := nx T B3
    have R_c := hid O_c.rd
    go_wp2_with fail
    refine (likeInts_same _ _ _ _ R_b.out R_c.out).mono ?_
    rintro e w4 ⟨rfl, D4⟩
    have B4 := D4.below w3.heap.size
    replace R_a := hid (R_a.out.mono B4)
    replace R_b := hid (R_b.out.mono B4)
    replace R_c := hid (R_c.out.mono B4)
    replace T := nx T B4
    go_wp2
    go_ret
    exact ⟨rfl, T⟩
  obtain ⟨n, A, rfl, hn2, hn16, hA0, hA1⟩ := revR_zero hc
  clear hc
  have hn1 : 1 ≤ n := by omega
  have L := hid (rev_laws (n := n) hA0 hA1)
  have E1 := hid (revRS hn1 hn16 A hn2 hA0 hA1)
  have E2 := hid (cmpRS hn1 hn16 A (PS.rev A) rfl)
  have E3 := hid (cmpRS hn1 hn16 (PS.rev A) A hA0)
  have E4 := hid (revRS hn1 hn16 (PS.rev A) hn2 rfl (by rw [PS.rev_one]; exact fi_ne' hA1))
  clear hA0 hA1
  obtain ⟨aoa, capa, rfl, hnc, hnl⟩ := O_a.rd.formS
  go_wp2_with fail
  refine (reverseSeries_any _ _ _ R_a.out).mono ?_
  rintro e w2 ⟨b, rfl, O_b, B2⟩
  rw [E1.out] at O_b ⊢
  simp only at O_b
  replace R_a := hid (R_a.out.mono B2)
  replace T := nx T B2
  have R_b := hid O_b.rd
  go_wp2_with fail
  refine (sReverseSeries_any _ _ _ R_a.out).mono ?_
  rintro e w3 ⟨c, rfl, O_c, B3⟩
  rw [E1.out] at O_c ⊢
  simp only at O_c
  replace R_a := hid (R_a.out.mono B3)
  replace R_b := hid (R_b.out.mono B3)
  replace T := nx T B3
  have R_c := hid O_c.rd
  go_wp2_with fail
  refine (likeInts_same _ _ _ _ R_b.out R_c.out).mono ?_
  rintro e w4 ⟨rfl, D4⟩
  have B4 := D4.below w3.heap.size
  replace R_a := hid (R_a.out.mono B4)
  replace R_b := hid (R_b.out.mono B4)
  replace R_c := hid (R_c.out.mono B4)
  replace T := nx T B4
  obtain ⟨i0, hi, hz0, hz1, hz2⟩ := info_parts info_i64
  go_wp2_with (at_make; refine wpList_make_full _ rfl _ _ _ rfl w4.heap.size 2 i0 _ 1 Try.underlying22 hi hz0 hz1 _ _ _ _ n rfl rfl rfl rfl ?c1 ?c2 ?c3 ?_)
  case c1 => rw [hz2]; omega
  case c2 => unfold maxLen; omega
  case c3 => exact Nat.le_refl _
  intro wm hown hgrow
  have hg := hgrow.size
  have O1 := OwnI.zeros hown hnl
  have Bm : Below w4.heap.size w4 wm := (Below.refl _ _).grown hgrow (Nat.le_refl _) (by simp)
  obtain ⟨O2, G2⟩ := O1.put 1 1
  rw [vI_one] at O2 G2
  have hgl := O1.glt
  have hfk := O1.free 1
  have hck := O1.cellS 1 (by omega)
  rw [vI_zero] at hck
  have Bs := Bm.grown G2 hg (fun k hk => by cases hk; exact Nat.le_refl _)
  have R_v := hid O2.rd
  have hX : Hid (lst n (fun i => if i = 1 then (1 : F) else (fun _ => 0) i) = lst n PS.X) := lst_congr fun i _ => rfl
  rw [hX.out] at R_v
  have hn2' : (1 : Int) < (n : Int) := by omega
  clear hown hgrow hz2 hz1 hz0 hi O1 O2 G2 Bm hg
  replace R_a := hid (R_a.out.mono Bs)
  replace R_b := hid (R_b.out.mono Bs)
  replace T := nx T Bs
  go_wp2_with fail
  refine (composeSeriesE_any _ _ _ _ _ R_a.out R_b.out).mono ?_
  rintro e w5 ⟨l, rfl, O_l, B5⟩
  rw [E2.out] at O_l ⊢
  simp only [L.out.1] at O_l
  replace R_a := hid (R_a.out.mono B5)
  replace R_b := hid (R_b.out.mono B5)
  replace R_v := hid (R_v.out.mono B5)
  replace T := nx T B5
  have R_l := hid O_l.rd
  go_wp2_with fail
  refine (composeSeriesE_any _ _ _ _ _ R_b.out R_a.out).mono ?_
  rintro e w6 ⟨q, rfl, O_q, B6⟩
  rw [E3.out] at O_q ⊢
  simp only [L.out.2.1] at O_q
  replace R_a := hid (R_a.out.mono B6)
  replace R_b := hid (R_b.out.mono B6)
  replace R_v := hid (R_v.out.mono B6)
  replace R_l := hid (R_l.out.mono B6)
  replace T := nx T B6
  have R_q := hid O_q.rd
  go_wp2_with fail
  refine (reverseSeries_any _ _ _ R_b.out).mono ?_
  rintro e w7 ⟨g, rfl, O_g, B7⟩
  rw [E4.out] at O_g ⊢
  simp only [L.out.2.2] at O_g
  replace R_a := hid (R_a.out.mono B7)
  replace R_b := hid (R_b.out.mono B7)
  replace R_v := hid (R_v.out.mono B7)
  replace R_l := hid (R_l.out.mono B7)
  replace R_q := hid (R_q.out.mono B7)
  replace T := nx T B7
  have R_g := hid O_g.rd
  go_wp2_with fail
  refine (likeInts_same _ _ _ _ R_l.out R_v.out).mono ?_
  rintro e w8 ⟨rfl, D8⟩
  have B8 := D8.below w7.heap.size
  replace R_a := hid (R_a.out.mono B8)
  replace R_b := hid (R_b.out.mono B8)
  replace R_v := hid (R_v.out.mono B8)
  replace R_l := hid (R_l.out.mono B8)
  replace R_q := hid (R_q.out.mono B8)
  replace R_g := hid (R_g.out.mono B8)
  replace T := nx T B8
  go_wp2_with fail
  refine (likeInts_same _ _ _ _ R_q.out R_v.out).mono ?_
  rintro e w9 ⟨rfl, D9⟩
  have B9 := D9.below w8.heap.size
  replace R_a := hid (R_a.out.mono B9)
  replace R_b := hid (R_b.out.mono B9)
  replace R_v := hid (R_v.out.mono B9)
  replace R_l := hid (R_l.out.mono B9)
  replace R_q := hid (R_q.out.mono B9)
  replace R_g := hid (R_g.out.mono B9)
  replace T := nx T B9
  go_wp2_with fail
  refine (likeInts_same _ _ _ _ R_g.out R_a.out).mono ?_
  rintro e w10 ⟨rfl, D10⟩
  have B10 := D10.below w9.heap.size
  replace R_a := hid (R_a.out.mono B10)
  replace R_b := hid (R_b.out.mono B10)
  replace R_v := hid (R_v.out.mono B10)
  replace R_l := hid (R_l.out.mono B10)
  replace R_q := hid (R_q.out.mono B10)
  replace R_g := hid (R_g.out.mono B10)
  replace T := nx T B10
  go_wp2
  go_ret
  exact ⟨rfl, T⟩

set_option maxRecDepth 100000 in
theorem lifted (os : Os) (started : os.Started) (H : Type) (enc : TypeId × Value → H) :
    ReturnsInHanded {} Try.checked os 5 .any (Rows.fnReversionsSpec.pre6 enc Try.prog Try.f5 Rows.fnReversionsRow.domain false) (Rows.fnReversionsSpec.post enc Try.prog Try.f5 false true false false) := by
  refine returnsInHanded_of_change (C := Try.checked) own started (by kernel_rfl) Try.func5
    (ChangeSpec.witness6 (enc := enc) (C := Try.checked) false ⟨#[], #[.slice none 0 0], []⟩ 8 (by kernel_rfl) (by kernel_rfl) (by kernel_rfl) (by kernel_rfl)) ?_
  intro W base args ds gs before hval0 hW hcnd _
  have hval : ∀ (j : Nat) t v, Try.f5.params[j]? = some t → args[j]? = some v → Value.okWide Try.prog W .any base t v := hval0
  have hW' := hW
  obtain ⟨p, q, hA0, hV, rfl, hfz, hnd⟩ := hW
  have hA : DataW.TrodAll enc Try.prog W 0 (fun _ => true) true Try.f5.params.toList args.toList ds p := hA0
  rw [Try.params5] at hA hval
  obtain ⟨v0, vs0, d0, ds0, p0, q0, hargs, rfl, rfl, h0, r0⟩ := trodAll_cons hA
  obtain ⟨rfl, rfl, rfl⟩ := trodAll_nil r0
  obtain rfl : args = #[v0] := by cases args; simp_all
  obtain ⟨rfl, rfl⟩ := trodVars_none hV
  have k0 := h0
  have lt0 : ∀ x ∈ p0, x.block < W.heap.size := by obtain ⟨m, hm⟩ := k0; exact DataW.trod_lt m _ _ _ hm
  have i0 : InB W v0 := InB.open_ Try.underlying31 Try.underlying5 (by kernel_rfl) (hval 0 31 v0 rfl rfl) h0
  clear hA0 hval0
  refine (walk v0 i0).mono fun e W' ⟨he, bel⟩ => ?_
  subst he
  exact ⟨_, rfl, _, _, _, [], _, [], hW', trodAll_mk1 (shut_bool Try.underlying4 _), (trodAll_cons_mk (Below.trod laidOut (by kernel_rfl) (of_decide_eq_true (by kernel_rfl)) k0 bel lt0) trodAll_mk0), rfl, bel.frame _, fun h => by cases h⟩
theorem over : Rows.fnReversionsRow.holds Try.pinned (OpenSpec.ofChange Rows.fnReversionsSpec) :=
  OpenClaim.holds_of_wide 5 Try.f5 rfl rfl rfl rfl rfl rfl rfl ⟨rfl, rfl, rfl, rfl, rfl⟩ rfl rfl rfl rfl rfl (by kernel_rfl) Try.func5 (by kernel_rfl)
    (of_decide_eq_true (by kernel_rfl)) (by unfold Func.isWrapper; first | (rw [if_pos (by decide +kernel)]; kernel_rfl) | (rw [if_neg (by decide +kernel)]; exact ⟨rfl, rfl⟩))
    (fun os started H enc _ => lifted os started H enc)
theorem proved : Rows.FnReversionsSaid := over
#print axioms proved
end Go.Proofs.Ytnjaalblgakgaaa.fnReversions
