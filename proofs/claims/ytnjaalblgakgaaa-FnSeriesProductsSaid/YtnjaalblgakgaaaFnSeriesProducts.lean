/-
  The law FnSeriesProducts is proved of the program: for every input the call returns true, and each argument reads afterwards as it read before. Its one condition: the arguments can be read as data.
-/
import Derived.Test.YtnjaalblgakgaaaRows
import Derived.Test.YtnjaalblgakgaaaLawS
import Derived.Test.YtnjaalblgakgaaaDrawL
import Derived.WalkKit
import Derived.ProofKit
import Derived.OpenShut
import Derived.ShutString
import Derived.ChangeOld
import Derived.Below
namespace Go.Proofs.Ytnjaalblgakgaaa.fnSeriesProducts
open Go.ChangeShapes Go.WideShapes Go.ChangeAt Go.RowKit
open Go.ChangeMaps (open_string shut_string)
set_option linter.unusedVariables false
theorem own : ownKnob Try.prog.godebug = none := by kernel_rfl
theorem laidOut : laidOutB Try.prog = true := by kernel_rfl
set_option maxRecDepth 100000 in
set_option maxHeartbeats 8000000 in
theorem walk {w : World} (v0 : Value) (i0 : InB w v0) :
    Calls Try.prog 6 #[v0] w fun e w' => e = .returned (.bool true) ∧ Below w.heap.size w w' := by
  obtain ⟨ao0, n0, cap0, rfl, hn0, hin⟩ := i0
  by_cases hs0 : n0 ≤ 4096
  rotate_left
  · clear hin
    have hs0 : 4096 < n0 := by omega
    go_enter Try.func6, Try.ntmps6
    go_wp2_with fail
    refine (big_any ao0 n0 cap0 _ hn0).mono ?_
    rintro e w1 ⟨rfl, rfl⟩
    rw [show decide (4096 < n0) = true by simp; omega]
    go_wp2
    go_ret
    exact ⟨rfl, Below.refl _ _⟩
  have C0 := hid (hin hs0)
  clear hin
  go_enter Try.func6, Try.ntmps6
  go_wp2_with fail
  refine (big_any ao0 n0 cap0 _ hn0).mono ?_
  rintro e w1 ⟨rfl, rfl⟩
  rw [show decide (4096 < n0) = false by simp; omega]
  go_wp2_with fail
  refine (drawDivideSeries_any _ n0 _ C0.out).mono ?_
  rintro e w1 ⟨a, b, xs, ys, rfl, O_a, O_b, B1⟩
  have T := B1
  have R_a := hid O_a.rd
  have R_b := hid O_b.rd
  by_cases hc : (divR2 xs ys).2 = 0
  rotate_left
  · have hne : ((divR2 xs ys).2 != 0) = true := by simpa using hc
    go_wp2_with fail
    refine (divideSeriesE_any _ _ _ _ _ R_a.out R_b.out).mono ?_
    rintro e w2 ⟨q, rfl, O_q, B2⟩
    replace R_a := hid (R_a.out.mono B2)
    replace R_b := hid (R_b.out.mono B2)
    replace T := nx T B2
    have R_q := hid O_q.rd
    go_wp2_with fail
    refine (sDivideSeries_any _ _ _ _ _ R_a.out R_b.out).mono ?_
    rintro e w3 ⟨c, rfl, O_c, B3⟩
    replace R_a := hid (R_a.out.mono B3)
    replace R_b := hid (R_b.out.mono B3)
    replace R_q := hid (R_q.out.mono B3)
    replace T := nx T B3
    have R_c := hid O_c.rd
    go_wp2_with fail
    refine (likeInts_same _ _ _ _ R_q.out R_c.out).mono ?_
    rintro e w4 ⟨rfl, D4⟩
    have B4 := D4.below w3.heap.size
    replace R_a := hid (R_a.out.mono B4)
    replace R_b := hid (R_b.out.mono B4)
    replace R_q := hid (R_q.out.mono B4)
    replace R_c := hid (R_c.out.mono B4)
    replace T := nx T B4
    go_wp2
    go_ret
    exact ⟨rfl, T⟩
  obtain ⟨n, A, B, rfl, rfl, hn1, hn16, hB0⟩ := divR2_zero hc
  clear hc
  have E1 := hid (divRS hn1 hn16 A B hB0)
  have E2 := hid (mulRS hn1 hn16 (PS.div A B) B)
  have E3 := hid (mulRS hn1 hn16 A B)
  have E4 := hid (derRS hn1 hn16 (PS.mul A B))
  have E5 := hid (derRS hn1 hn16 A)
  have E6 := hid (derRS hn1 hn16 B)
  have E7 := hid (mulRS hn1 hn16 (derTo n A) B)
  have E8 := hid (mulRS hn1 hn16 A (derTo n B))
  have E9 := hid (addRS hn1 hn16 (PS.mul (derTo n A) B) (PS.mul A (derTo n B)))
  have E10 := hid (intRS hn1 hn16 (derTo n A))
  have L1 := hid (prod_back (n := n) (A := A) hB0)
  have L2 := hid (prod_rule n A B)
  have L3 := hid (int_tail hn16 A)
  clear hB0
  obtain ⟨aoa, capa, rfl, hca, hnl⟩ := O_a.rd.formS
  obtain ⟨ga, rfl⟩ := O_a.addr (by rw [lst_length]; omega)
  go_wp2_with fail
  refine (divideSeriesE_any _ _ _ _ _ R_a.out R_b.out).mono ?_
  rintro e w2 ⟨q, rfl, O_q, B2⟩
  rw [E1.out] at O_q ⊢
  simp only at O_q
  replace R_a := hid (R_a.out.mono B2)
  replace R_b := hid (R_b.out.mono B2)
  replace T := nx T B2
  have R_q := hid O_q.rd
  go_wp2_with fail
  refine (sDivideSeries_any _ _ _ _ _ R_a.out R_b.out).mono ?_
  rintro e w3 ⟨c, rfl, O_c, B3⟩
  rw [E1.out] at O_c ⊢
  simp only at O_c
  replace R_a := hid (R_a.out.mono B3)
  replace R_b := hid (R_b.out.mono B3)
  replace R_q := hid (R_q.out.mono B3)
  replace T := nx T B3
  have R_c := hid O_c.rd
  go_wp2_with fail
  refine (likeInts_same _ _ _ _ R_q.out R_c.out).mono ?_
  rintro e w4 ⟨rfl, D4⟩
  have B4 := D4.below w3.heap.size
  replace R_a := hid (R_a.out.mono B4)
  replace R_b := hid (R_b.out.mono B4)
  replace R_q := hid (R_q.out.mono B4)
  replace R_c := hid (R_c.out.mono B4)
  replace T := nx T B4
  go_wp2_with fail
  refine (multiplySeries_any _ _ _ _ _ R_q.out R_b.out).mono ?_
  rintro e w5 ⟨k, rfl, O_k, B5⟩
  rw [E2.out] at O_k ⊢
  simp only [L1.out] at O_k
  replace R_a := hid (R_a.out.mono B5)
  replace R_b := hid (R_b.out.mono B5)
  replace R_q := hid (R_q.out.mono B5)
  replace T := nx T B5
  have R_k := hid O_k.rd
  go_wp2_with fail
  refine (multiplySeries_any _ _ _ _ _ R_a.out R_b.out).mono ?_
  rintro e w6 ⟨m, rfl, O_m, B6⟩
  rw [E3.out] at O_m ⊢
  simp only at O_m
  replace R_a := hid (R_a.out.mono B6)
  replace R_b := hid (R_b.out.mono B6)
  replace R_q := hid (R_q.out.mono B6)
  replace R_k := hid (R_k.out.mono B6)
  replace T := nx T B6
  have R_m := hid O_m.rd
  go_wp2_with fail
  refine (deriveSeries_any _ _ _ R_m.out).mono ?_
  rintro e w7 ⟨l, rfl, O_l, B7⟩
  rw [E4.out] at O_l ⊢
  simp only at O_l
  replace R_a := hid (R_a.out.mono B7)
  replace R_b := hid (R_b.out.mono B7)
  replace R_q := hid (R_q.out.mono B7)
  replace R_k := hid (R_k.out.mono B7)
  replace R_m := hid (R_m.out.mono B7)
  replace T := nx T B7
  have R_l := hid O_l.rd
  obtain ⟨aol, capl, rfl, hcl, -⟩ := O_l.rd.formS
  go_wp2_with fail
  refine (deriveSeries_any _ _ _ R_a.out).mono ?_
  rintro e w8 ⟨p, rfl, O_p, B8⟩
  rw [E5.out] at O_p ⊢
  simp only at O_p
  replace R_a := hid (R_a.out.mono B8)
  replace R_b := hid (R_b.out.mono B8)
  replace R_q := hid (R_q.out.mono B8)
  replace R_k := hid (R_k.out.mono B8)
  replace R_m := hid (R_m.out.mono B8)
  replace R_l := hid (R_l.out.mono B8)
  replace T := nx T B8
  have R_p := hid O_p.rd
  go_wp2_with fail
  refine (deriveSeries_any _ _ _ R_b.out).mono ?_
  rintro e w9 ⟨r, rfl, O_r, B9⟩
  rw [E6.out] at O_r ⊢
  simp only at O_r
  replace R_a := hid (R_a.out.mono B9)
  replace R_b := hid (R_b.out.mono B9)
  replace R_q := hid (R_q.out.mono B9)
  replace R_k := hid (R_k.out.mono B9)
  replace R_m := hid (R_m.out.mono B9)
  replace R_l := hid (R_l.out.mono B9)
  replace R_p := hid (R_p.out.mono B9)
  replace T := nx T B9
  have R_r := hid O_r.rd
  go_wp2_with fail
  refine (multiplySeries_any _ _ _ _ _ R_p.out R_b.out).mono ?_
  rintro e w10 ⟨f, rfl, O_f, B10⟩
  rw [E7.out] at O_f ⊢
  simp only at O_f
  replace R_a := hid (R_a.out.mono B10)
  replace R_b := hid (R_b.out.mono B10)
  replace R_q := hid (R_q.out.mono B10)
  replace R_k := hid (R_k.out.mono B10)
  replace R_m := hid (R_m.out.mono B10)
  replace R_l := hid (R_l.out.mono B10)
  replace R_p := hid (R_p.out.mono B10)
  replace R_r := hid (R_r.out.mono B10)
  replace T := nx T B10
  have R_f := hid O_f.rd
  go_wp2_with fail
  refine (multiplySeries_any _ _ _ _ _ R_a.out R_r.out).mono ?_
  rintro e w11 ⟨s, rfl, O_s, B11⟩
  rw [E8.out] at O_s ⊢
  simp only at O_s
  replace R_a := hid (R_a.out.mono B11)
  replace R_b := hid (R_b.out.mono B11)
  replace R_q := hid (R_q.out.mono B11)
  replace R_k := hid (R_k.out.mono B11)
  replace R_m := hid (R_m.out.mono B11)
  replace R_l := hid (R_l.out.mono B11)
  replace R_p := hid (R_p.out.mono B11)
  replace R_r := hid (R_r.out.mono B11)
  replace R_f := hid (R_f.out.mono B11)
  replace T := nx T B11
  have R_s := hid O_s.rd
  go_wp2_with fail
  refine (addSeries_any _ _ _ _ _ R_f.out R_s.out).mono ?_
  rintro e w12 ⟨g, rfl, O_g, B12⟩
  rw [E9.out] at O_g ⊢
  simp only at O_g
  replace R_a := hid (R_a.out.mono B12)
  replace R_b := hid (R_b.out.mono B12)
  replace R_q := hid (R_q.out.mono B12)
  replace R_k := hid (R_k.out.mono B12)
  replace R_m := hid (R_m.out.mono B12)
  replace R_l := hid (R_l.out.mono B12)
  replace R_p := hid (R_p.out.mono B12)
  replace R_r := hid (R_r.out.mono B12)
  replace R_f := hid (R_f.out.mono B12)
  replace R_s := hid (R_s.out.mono B12)
  replace T := nx T B12
  have R_g := hid O_g.rd
  obtain ⟨aog, capg, rfl, hcg, -⟩ := O_g.rd.formS
  go_wp2_with fail
  refine (integrateSeries_any _ _ _ R_p.out).mono ?_
  rintro e w13 ⟨h, rfl, O_h, B13⟩
  rw [E10.out] at O_h ⊢
  simp only at O_h
  replace R_a := hid (R_a.out.mono B13)
  replace R_b := hid (R_b.out.mono B13)
  replace R_q := hid (R_q.out.mono B13)
  replace R_k := hid (R_k.out.mono B13)
  replace R_m := hid (R_m.out.mono B13)
  replace R_l := hid (R_l.out.mono B13)
  replace R_p := hid (R_p.out.mono B13)
  replace R_r := hid (R_r.out.mono B13)
  replace R_f := hid (R_f.out.mono B13)
  replace R_s := hid (R_s.out.mono B13)
  replace R_g := hid (R_g.out.mono B13)
  replace T := nx T B13
  have R_h := hid O_h.rd
  obtain ⟨aoh, caph, rfl, hch, -⟩ := O_h.rd.formS
  obtain ⟨gh, rfl⟩ := O_h.addr (by rw [lst_length]; omega)
  go_wp2_with fail
  refine (likeInts_same _ _ _ _ R_k.out R_a.out).mono ?_
  rintro e w14 ⟨rfl, D14⟩
  have B14 := D14.below w13.heap.size
  replace R_a := hid (R_a.out.mono B14)
  replace R_b := hid (R_b.out.mono B14)
  replace R_q := hid (R_q.out.mono B14)
  replace R_k := hid (R_k.out.mono B14)
  replace R_m := hid (R_m.out.mono B14)
  replace R_l := hid (R_l.out.mono B14)
  replace R_p := hid (R_p.out.mono B14)
  replace R_r := hid (R_r.out.mono B14)
  replace R_f := hid (R_f.out.mono B14)
  replace R_s := hid (R_s.out.mono B14)
  replace R_g := hid (R_g.out.mono B14)
  replace R_h := hid (R_h.out.mono B14)
  replace T := nx T B14
  have c0 := (R_h.out.at_ (k := 0) (by rw [lst_length]; omega))
  obtain ⟨b', off', e', c0⟩ := c0
  cases e'
  rw [lst_el _ _ _ (by omega), int_zero hn1, vI_zero] at c0
  have hn0' : (0 : Int) < (n : Int) := by omega
  have hs1 : IntKind.i64.wrap ((n : Int) - 1) = (n : Int) - 1 := IntWalk.i64_in _ (by omega)
  have hs2 : 0 ≤ (n : Int) - 1 := by omega
  have hs3 : ((n : Int) - 1).toNat = n - 1 := by omega
  have hs4 : (n : Int) - 1 ≤ (capl : Int) := by omega
  have hs5 : (n : Int) - 1 ≤ (capg : Int) := by omega
  have hs6 : (1 : Int) ≤ (n : Int) := by omega
  have FL := hid (R_l.out.front (m := n - 1) (by omega))
  have FG := hid (R_g.out.front (m := n - 1) (by omega))
  rw [← L2.out] at FG
  have TH := hid (R_h.out.tail hn1 (if caph = 1 then some ⟨gh, 0, none⟩ else some ⟨gh, 1, none⟩) (by by_cases e : caph = 1; exact .inl (by omega); exact .inr (by rw [if_neg e])))
  have TA := hid (R_a.out.tail hn1 (if capa = 1 then some ⟨ga, 0, none⟩ else some ⟨ga, 1, none⟩) (by by_cases e : capa = 1; exact .inl (by omega); exact .inr (by rw [if_neg e])))
  rw [L3.out] at TH
  go_wp2_with fail
  go_quiet ((first
    | (go_at_call 21; exact quiet_dr (likeInts_same _ _ _ _ (FL.out.mono (below_drewN (Below.refl _ _) _)) (FG.out.mono (below_drewN (Below.refl _ _) _))))
    | (go_at_call 21; exact quiet_dr (likeInts_same _ _ _ _ (TH.out.mono (below_drewN (Below.refl _ _) _)) (TA.out.mono (below_drewN (Below.refl _ _) _))))))
  go_wp2
  all_goals (go_ret; exact ⟨rfl, below_drewN T _⟩)

set_option maxRecDepth 100000 in
theorem lifted (os : Os) (started : os.Started) (H : Type) (enc : TypeId × Value → H) :
    ReturnsInHanded {} Try.checked os 6 .any (Rows.fnSeriesProductsSpec.pre6 enc Try.prog Try.f6 Rows.fnSeriesProductsRow.domain false) (Rows.fnSeriesProductsSpec.post enc Try.prog Try.f6 false true false false) := by
  refine returnsInHanded_of_change (C := Try.checked) own started (by kernel_rfl) Try.func6
    (ChangeSpec.witness6 (enc := enc) (C := Try.checked) false ⟨#[], #[.slice none 0 0], []⟩ 8 (by kernel_rfl) (by kernel_rfl) (by kernel_rfl) (by kernel_rfl)) ?_
  intro W base args ds gs before hval0 hW hcnd _
  have hval : ∀ (j : Nat) t v, Try.f6.params[j]? = some t → args[j]? = some v → Value.okWide Try.prog W .any base t v := hval0
  have hW' := hW
  obtain ⟨p, q, hA0, hV, rfl, hfz, hnd⟩ := hW
  have hA : DataW.TrodAll enc Try.prog W 0 (fun _ => true) true Try.f6.params.toList args.toList ds p := hA0
  rw [Try.params6] at hA hval
  obtain ⟨v0, vs0, d0, ds0, p0, q0, hargs, rfl, rfl, h0, r0⟩ := trodAll_cons hA
  obtain ⟨rfl, rfl, rfl⟩ := trodAll_nil r0
  obtain rfl : args = #[v0] := by cases args; simp_all
  obtain ⟨rfl, rfl⟩ := trodVars_none hV
  have k0 := h0
  have lt0 : ∀ x ∈ p0, x.block < W.heap.size := by obtain ⟨m, hm⟩ := k0; exact DataW.trod_lt m _ _ _ hm
  have i0 : InB W v0 := InB.open_ Try.underlying31 Try.underlying5 (by kernel_rfl) (hval 0 31 v0 rfl rfl) h0
  clear hA0 hval0
  refine (walk v0 i0).mono fun e W' ⟨he, bel⟩ => ?_
  subst he
  exact ⟨_, rfl, _, _, _, [], _, [], hW', trodAll_mk1 (shut_bool Try.underlying4 _), (trodAll_cons_mk (Below.trod laidOut (by kernel_rfl) (of_decide_eq_true (by kernel_rfl)) k0 bel lt0) trodAll_mk0), rfl, bel.frame _, fun h => by cases h⟩
theorem over : Rows.fnSeriesProductsRow.holds Try.pinned (OpenSpec.ofChange Rows.fnSeriesProductsSpec) :=
  OpenClaim.holds_of_wide 6 Try.f6 rfl rfl rfl rfl rfl rfl rfl ⟨rfl, rfl, rfl, rfl, rfl⟩ rfl rfl rfl rfl rfl (by kernel_rfl) Try.func6 (by kernel_rfl)
    (of_decide_eq_true (by kernel_rfl)) (by unfold Func.isWrapper; first | (rw [if_pos (by decide +kernel)]; kernel_rfl) | (rw [if_neg (by decide +kernel)]; exact ⟨rfl, rfl⟩))
    (fun os started H enc _ => lifted os started H enc)
theorem proved : Rows.FnSeriesProductsSaid := over
#print axioms proved
end Go.Proofs.Ytnjaalblgakgaaa.fnSeriesProducts
