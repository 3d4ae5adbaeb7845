/-
  The law FnCompositions is proved of the program: for every input the call returns true, and each argument reads afterwards as it read before. Its one condition: the arguments can be read as data.
-/
import Derived.Test.YtnjaalblgakgaaaRows
import Derived.Test.YtnjaalblgakgaaaLawS
import Derived.Test.YtnjaalblgakgaaaDrawL
import Derived.WalkKit
import Derived.ProofKit
import Derived.OpenShut
import Derived.ShutString
import Derived.ChangeOld
import Derived.Below
namespace Go.Proofs.Ytnjaalblgakgaaa.fnCompositions
open Go.ChangeShapes Go.WideShapes Go.ChangeAt Go.RowKit
open Go.ChangeMaps (open_string shut_string)
set_option linter.unusedVariables false
theorem own : ownKnob Try.prog.godebug = none := by kernel_rfl
theorem laidOut : laidOutB Try.prog = true := by kernel_rfl
set_option maxRecDepth 100000 in
set_option maxHeartbeats 8000000 in
theorem walk {w : World} (v0 : Value) (i0 : InB w v0) :
    Calls Try.prog 7 #[v0] w fun e w' => e = .returned (.bool true) ∧ Below w.heap.size w w' := by
  obtain ⟨ao0, n0, cap0, rfl, hn0, hin⟩ := i0
  by_cases hs0 : n0 ≤ 4096
  rotate_left
  · clear hin
    have hs0 : 4096 < n0 := by omega
    go_enter Try.func7, Try.ntmps7
    go_wp2_with fail
    refine (big_any ao0 n0 cap0 _ hn0).mono ?_
    rintro e w1 ⟨rfl, rfl⟩
    rw [show decide (4096 < n0) = true by simp; omega]
    go_wp2
    go_ret
    exact ⟨rfl, Below.refl _ _⟩
  have C0 := hid (hin hs0)
  clear hin
  go_enter Try.func7, Try.ntmps7
  go_wp2_with fail
  refine (big_any ao0 n0 cap0 _ hn0).mono ?_
  rintro e w1 ⟨rfl, rfl⟩
  rw [show decide (4096 < n0) = false by simp; omega]
  go_wp2_with fail
  refine (drawComposeSeries_any _ n0 _ C0.out).mono ?_
  rintro e w1 ⟨a, b, xs, ys, rfl, O_a, O_b, B1⟩
  have T := B1
  have R_a := hid O_a.rd
  have R_b := hid O_b.rd
  by_cases hc : (cmpR xs ys).2 = 0
  rotate_left
  · have hne : ((cmpR xs ys).2 != 0) = true := by simpa using hc
    go_wp2_with fail
    refine (composeSeriesE_any _ _ _ _ _ R_a.out R_b.out).mono ?_
    rintro e w2 ⟨q, rfl, O_q, B2⟩
    replace R_a := hid (R_a.out.mono B2)
    replace R_b := hid (R_b.out.mono B2)
    replace T := nx T B2
    have R_q := hid O_q.rd
    go_wp2_with fail
    refine (sComposeSeries_any _ _ _ _ _ R_a.out R_b.out).mono ?_
    rintro e w3 ⟨c, rfl, O_c, B3⟩
    replace R_a := hid (R_a.out.mono B3)
    replace R_b := hid (R_b.out.mono B3)
    replace R_q := hid (R_q.out.mono B3)
    replace T := nx T B3
    have R_c := hid O_c.rd
    go_wp2_with fail
    refine (likeInts_same _ _ _ _ R_q.out R_c.out).mono ?_
    rintro e w4 ⟨rfl, D4⟩
    have B4 := D4.below w3.heap.size
    replace R_a := hid (R_a.out.mono B4)
    replace R_b := hid (R_b.out.mono B4)
    replace R_q := hid (R_q.out.mono B4)
    replace R_c := hid (R_c.out.mono B4)
    replace T := nx T B4
    go_wp2
    go_ret
    exact ⟨rfl, T⟩
  obtain ⟨n, A, B, rfl, rfl, hn1, hn16, hB0⟩ := cmpR_zero hc
  clear hc
  have HB := hid hB0
  clear hB0
  have E1 := hid (cmpRS hn1 hn16 A B HB.out)
  have K_a := O_a.own_lt
  have K_b := O_b.own_lt
  obtain ⟨aoa, capa, rfl, hca, hnl⟩ := O_a.rd.formS
  go_wp2_with fail
  refine (composeSeriesE_any _ _ _ _ _ R_a.out R_b.out).mono ?_
  rintro e w2 ⟨c, rfl, O_c, B2⟩
  rw [E1.out] at O_c ⊢
  simp only at O_c
  replace R_a := hid (R_a.out.mono B2)
  replace R_b := hid (R_b.out.mono B2)
  replace T := nx T B2
  have R_c := hid O_c.rd
  have K_c := O_c.own_lt
  go_wp2_with fail
  refine (sComposeSeries_any _ _ _ _ _ R_a.out R_b.out).mono ?_
  rintro e w3 ⟨z, rfl, O_z, B3⟩
  rw [E1.out] at O_z ⊢
  simp only at O_z
  replace R_a := hid (R_a.out.mono B3)
  replace R_b := hid (R_b.out.mono B3)
  replace R_c := hid (R_c.out.mono B3)
  replace T := nx T B3
  have R_z := hid O_z.rd
  go_wp2_with fail
  refine (likeInts_same _ _ _ _ R_c.out R_z.out).mono ?_
  rintro e w4 ⟨rfl, D4⟩
  have B4 := D4.below w3.heap.size
  replace R_a := hid (R_a.out.mono B4)
  replace R_b := hid (R_b.out.mono B4)
  replace R_c := hid (R_c.out.mono B4)
  replace R_z := hid (R_z.out.mono B4)
  replace T := nx T B4
  have S0 := T.size
  have Q4 := B4.size
  have Q3 := B3.size
  have Q2 := B2.size
  go_wp2_with fail
  refine (roll_any _ n0 605 _ ((C0.out.mono T).lower S0) (by omega) (by omega)).mono ?_
  rintro e w5 ⟨rfl, S, B5⟩
  have hbN := S.lt
  have N_a : (Value.slice aoa n capa).ownBlock = none ∨ (Value.slice aoa n capa).ownBlock ≠ some w4.heap.size := notBlock fun k hk => by have := K_a k hk; omega
  have N_b : b.ownBlock = none ∨ b.ownBlock ≠ some w4.heap.size := notBlock fun k hk => by have := K_b k hk; omega
  have N_c : c.ownBlock = none ∨ c.ownBlock ≠ some w4.heap.size := notBlock fun k hk => by have := K_c k hk; omega
  replace R_a := hid (R_a.out.mono B5)
  replace R_b := hid (R_b.out.mono B5)
  replace R_c := hid (R_c.out.mono B5)
  replace T := nx T B5
  go_wp2_with fail
  refine (list5_any _ _ n _ S (by omega)).mono ?_
  rintro e w6 ⟨e', zs, rfl, O_e, hzN, hzl, S2, G6⟩
  replace R_a := hid (R_a.out.awayN G6 N_a)
  replace R_b := hid (R_b.out.awayN G6 N_b)
  replace R_c := hid (R_c.out.awayN G6 N_c)
  replace T := below_of_grow T G6 S0 T.size
  obtain ⟨C, rfl⟩ : ∃ C, zs = lst n C := by obtain ⟨C, hC⟩ := lst_of hzN; exact ⟨C, by rw [hzl] at hC; exact hC⟩
  clear hzN hzl
  obtain ⟨aoe, cape, rfl, -, -⟩ := O_e.rd.formS
  obtain ⟨ge, rfl⟩ := O_e.addr (by rw [lst_length]; omega)
  have hfr := O_e.free 0
  have hck := O_e.cellS 0 (by omega)
  have hgc := O_e.glt
  obtain ⟨O_s, G_s⟩ := O_e.put 0 0
  rw [vI_zero] at O_s G_s
  obtain ⟨D, hD⟩ : ∃ D : PS, D = fun i => if i = 0 then 0 else C i := ⟨_, rfl⟩
  rw [← hD] at O_s
  have HD0 : Hid (D 0 = 0) := by rw [hD]; rfl
  clear hD
  have M_a : (Value.slice aoa n capa).ownBlock = none ∨ (Value.slice aoa n capa).ownBlock ≠ some ge := notBlock fun k hk => by have := K_a k hk; omega
  replace R_a := hid (R_a.out.awayN G_s M_a)
  have M_b : b.ownBlock = none ∨ b.ownBlock ≠ some ge := notBlock fun k hk => by have := K_b k hk; omega
  replace R_b := hid (R_b.out.awayN G_s M_b)
  have M_c : c.ownBlock = none ∨ c.ownBlock ≠ some ge := notBlock fun k hk => by have := K_c k hk; omega
  replace R_c := hid (R_c.out.awayN G_s M_c)
  replace T := T.grown G_s T.size (fun k hk => by cases hk; omega)
  have R_e := hid O_s.rd
  replace S2 := S2.grown G_s (fun r hr => by cases hr; omega)
  have hn0' : (0 : Int) < (n : Int) := by omega
  clear O_s G_s O_e S
  have HS := hid S2
  clear S2
  have E2 := hid (cmpRS hn1 hn16 B D HD0.out)
  have E3 := hid (cmpRS hn1 hn16 A (PS.comp B D) (by rw [PS.comp_zero_at _ _ HD0.out, HB.out]))
  have E4 := hid (cmpRS hn1 hn16 (PS.comp A B) D HD0.out)
  have E5 := hid (derRS hn1 hn16 A)
  have E6 := hid (derRS hn1 hn16 B)
  have E7 := hid (cmpRS hn1 hn16 (derTo n A) B HB.out)
  have E8 := hid (mulRS hn1 hn16 (PS.comp (derTo n A) B) (derTo n B))
  have E9 := hid (derRS hn1 hn16 (PS.comp A B))
  have L1 := hid (cmp_assoc (n := n) (A := A) HB.out HD0.out)
  have L2 := hid (chain_rule n (A := A) HB.out)
  go_wp2_with fail
  refine (composeSeriesE_any _ _ _ _ _ R_b.out R_e.out).mono ?_
  rintro e w7 ⟨i, rfl, O_i, B7⟩
  rw [E2.out] at O_i ⊢
  simp only at O_i
  replace R_a := hid (R_a.out.mono B7)
  replace R_b := hid (R_b.out.mono B7)
  replace R_c := hid (R_c.out.mono B7)
  replace R_e := hid (R_e.out.mono B7)
  replace T := nx T B7
  have R_i := hid O_i.rd
  replace HS := hid (HS.out.mono B7)
  go_wp2_with fail
  refine (composeSeriesE_any _ _ _ _ _ R_a.out R_i.out).mono ?_
  rintro e w8 ⟨l, rfl, O_l, B8⟩
  rw [E3.out] at O_l ⊢
  simp only [L1.out] at O_l
  replace R_a := hid (R_a.out.mono B8)
  replace R_b := hid (R_b.out.mono B8)
  replace R_c := hid (R_c.out.mono B8)
  replace R_e := hid (R_e.out.mono B8)
  replace R_i := hid (R_i.out.mono B8)
  replace T := nx T B8
  have R_l := hid O_l.rd
  replace HS := hid (HS.out.mono B8)
  go_wp2_with fail
  refine (composeSeriesE_any _ _ _ _ _ R_c.out R_e.out).mono ?_
  rintro e w9 ⟨r, rfl, O_r, B9⟩
  rw [E4.out] at O_r ⊢
  simp only at O_r
  replace R_a := hid (R_a.out.mono B9)
  replace R_b := hid (R_b.out.mono B9)
  replace R_c := hid (R_c.out.mono B9)
  replace R_e := hid (R_e.out.mono B9)
  replace R_i := hid (R_i.out.mono B9)
  replace R_l := hid (R_l.out.mono B9)
  replace T := nx T B9
  have R_r := hid O_r.rd
  replace HS := hid (HS.out.mono B9)
  go_wp2_with fail
  refine (deriveSeries_any _ _ _ R_a.out).mono ?_
  rintro e w10 ⟨p, rfl, O_p, B10⟩
  rw [E5.out] at O_p ⊢
  simp only at O_p
  replace R_a := hid (R_a.out.mono B10)
  replace R_b := hid (R_b.out.mono B10)
  replace R_c := hid (R_c.out.mono B10)
  replace R_e := hid (R_e.out.mono B10)
  replace R_i := hid (R_i.out.mono B10)
  replace R_l := hid (R_l.out.mono B10)
  replace R_r := hid (R_r.out.mono B10)
  replace T := nx T B10
  have R_p := hid O_p.rd
  replace HS := hid (HS.out.mono B10)
  go_wp2_with fail
  refine (deriveSeries_any _ _ _ R_b.out).mono ?_
  rintro e w11 ⟨q, rfl, O_q, B11⟩
  rw [E6.out] at O_q ⊢
  simp only at O_q
  replace R_a := hid (R_a.out.mono B11)
  replace R_b := hid (R_b.out.mono B11)
  replace R_c := hid (R_c.out.mono B11)
  replace R_e := hid (R_e.out.mono B11)
  replace R_i := hid (R_i.out.mono B11)
  replace R_l := hid (R_l.out.mono B11)
  replace R_r := hid (R_r.out.mono B11)
  replace R_p := hid (R_p.out.mono B11)
  replace T := nx T B11
  have R_q := hid O_q.rd
  replace HS := hid (HS.out.mono B11)
  go_wp2_with fail
  refine (composeSeriesE_any _ _ _ _ _ R_p.out R_b.out).mono ?_
  rintro e w12 ⟨o, rfl, O_o, B12⟩
  rw [E7.out] at O_o ⊢
  simp only at O_o
  replace R_a := hid (R_a.out.mono B12)
  replace R_b := hid (R_b.out.mono B12)
  replace R_c := hid (R_c.out.mono B12)
  replace R_e := hid (R_e.out.mono B12)
  replace R_i := hid (R_i.out.mono B12)
  replace R_l := hid (R_l.out.mono B12)
  replace R_r := hid (R_r.out.mono B12)
  replace R_p := hid (R_p.out.mono B12)
  replace R_q := hid (R_q.out.mono B12)
  replace T := nx T B12
  have R_o := hid O_o.rd
  replace HS := hid (HS.out.mono B12)
  go_wp2_with fail
  refine (multiplySeries_any _ _ _ _ _ R_o.out R_q.out).mono ?_
  rintro e w13 ⟨h, rfl, O_h, B13⟩
  rw [E8.out] at O_h ⊢
  simp only at O_h
  replace R_a := hid (R_a.out.mono B13)
  replace R_b := hid (R_b.out.mono B13)
  replace R_c := hid (R_c.out.mono B13)
  replace R_e := hid (R_e.out.mono B13)
  replace R_i := hid (R_i.out.mono B13)
  replace R_l := hid (R_l.out.mono B13)
  replace R_r := hid (R_r.out.mono B13)
  replace R_p := hid (R_p.out.mono B13)
  replace R_q := hid (R_q.out.mono B13)
  replace R_o := hid (R_o.out.mono B13)
  replace T := nx T B13
  have R_h := hid O_h.rd
  replace HS := hid (HS.out.mono B13)
  obtain ⟨aoh, caph, rfl, hch, -⟩ := O_h.rd.formS
  go_wp2_with fail
  refine (deriveSeries_any _ _ _ R_c.out).mono ?_
  rintro e w14 ⟨s, rfl, O_s, B14⟩
  rw [E9.out] at O_s ⊢
  simp only at O_s
  replace R_a := hid (R_a.out.mono B14)
  replace R_b := hid (R_b.out.mono B14)
  replace R_c := hid (R_c.out.mono B14)
  replace R_e := hid (R_e.out.mono B14)
  replace R_i := hid (R_i.out.mono B14)
  replace R_l := hid (R_l.out.mono B14)
  replace R_r := hid (R_r.out.mono B14)
  replace R_p := hid (R_p.out.mono B14)
  replace R_q := hid (R_q.out.mono B14)
  replace R_o := hid (R_o.out.mono B14)
  replace R_h := hid (R_h.out.mono B14)
  replace T := nx T B14
  have R_s := hid O_s.rd
  replace HS := hid (HS.out.mono B14)
  obtain ⟨aos, caps, rfl, hcs, -⟩ := O_s.rd.formS
  have hs1 : IntKind.i64.wrap ((n : Int) - 1) = (n : Int) - 1 := IntWalk.i64_in _ (by omega)
  have hs2 : 0 ≤ (n : Int) - 1 := by omega
  have hs3 : ((n : Int) - 1).toNat = n - 1 := by omega
  have hs4 : (n : Int) - 1 ≤ (caph : Int) := by omega
  have hs5 : (n : Int) - 1 ≤ (caps : Int) := by omega
  have hs6 : (1 : Int) ≤ (n : Int) := by omega
  have FH := hid (R_h.out.front (m := n - 1) (by omega))
  have FSs := hid (R_s.out.front (m := n - 1) (by omega))
  rw [L2.out] at FH
  go_wp2_with fail
  go_quiet ((first
    | (go_at_call 21; exact quiet_dr (likeInts_same _ _ _ _ (R_l.out.mono (below_drewN (Below.refl _ _) _)) (R_r.out.mono (below_drewN (Below.refl _ _) _))))
    | (go_at_call 21; exact quiet_dr (likeInts_same _ _ _ _ (FH.out.mono (below_drewN (Below.refl _ _) _)) (FSs.out.mono (below_drewN (Below.refl _ _) _))))))
  replace HS := hid (HS.out.drewN nq)
  replace R_a := hid (R_a.out.mono (below_drewN (Below.refl _ _) nq))
  replace T := below_drewN T nq
  clear hs1 hs2 hs3 hs4 hs5 hs6 FH FSs
  go_wp2_with fail
  refine (number5_any _ _ _ HS.out).mono ?_
  rintro e w15 ⟨k, rfl, k0, k1, S15, G15⟩
  replace HS := hid S15
  clear S15
  replace R_a := hid (R_a.out.awayN G15 N_a)
  replace T := below_of_grow T G15 S0 T.size
  go_wp2_with fail
  refine (number5_any _ _ _ HS.out).mono ?_
  rintro e w16 ⟨z, rfl, z0, z1, S16, G16⟩
  replace HS := hid S16
  clear S16
  replace R_a := hid (R_a.out.awayN G16 N_a)
  replace T := below_of_grow T G16 S0 T.size
  clear HS
  have hk := hid (isNum_iff.2 ⟨k0, k1⟩)
  have hz := hid (isNum_iff.2 ⟨z0, z1⟩)
  have hkz := hid (isNum_iff.2 (md_bd (k * z)))
  have hm1 := (mul_bd k0 k1 z0 z1).1
  have hm2 := (mul_bd k0 k1 z0 z1).2
  have F1 := hid (scRS hn1 hn16 A k hk.out)
  have F2 := hid (evRS hn1 hn16 (scS (fI k) A) z hz.out)
  have F3 := hid (evRS hn1 hn16 A (k * z % 10007) hkz.out)
  have L6 : Hid (evS (fI z) (scS (fI k) A) n = evS (fI (k * z % 10007)) A n) := by simp only [Hid]; rw [ev_scaled, fI_mul]
  go_wp2_with fail
  refine (scaleSeries_any _ k _ _ R_a.out).mono ?_
  rintro e w17 ⟨y, rfl, O_y, B17⟩
  rw [F1.out] at O_y ⊢
  simp only at O_y
  replace R_a := hid (R_a.out.mono B17)
  replace T := nx T B17
  have R_y := hid O_y.rd
  go_wp2_with fail
  refine (evaluateSeries_any _ z _ _ R_y.out).mono ?_
  rintro e w18 ⟨rfl, B18⟩
  rw [F2.out, L6.out]
  replace R_a := hid (R_a.out.mono B18)
  replace R_y := hid (R_y.out.mono B18)
  replace T := nx T B18
  go_wp2_with fail
  refine (mod5_any (k * z) _).mono ?_
  rintro e w' ⟨rfl, rfl⟩
  go_wp2_with fail
  refine (evaluateSeries_any _ (k * z % 10007) _ _ R_a.out).mono ?_
  rintro e w19 ⟨rfl, B19⟩
  rw [F3.out]
  replace R_a := hid (R_a.out.mono B19)
  replace R_y := hid (R_y.out.mono B19)
  replace T := nx T B19
  go_wp2
  go_ret
  exact ⟨rfl, T⟩

set_option maxRecDepth 100000 in
theorem lifted (os : Os) (started : os.Started) (H : Type) (enc : TypeId × Value → H) :
    ReturnsInHanded {} Try.checked os 7 .any (Rows.fnCompositionsSpec.pre6 enc Try.prog Try.f7 Rows.fnCompositionsRow.domain false) (Rows.fnCompositionsSpec.post enc Try.prog Try.f7 false true false false) := by
  refine returnsInHanded_of_change (C := Try.checked) own started (by kernel_rfl) Try.func7
    (ChangeSpec.witness6 (enc := enc) (C := Try.checked) false ⟨#[], #[.slice none 0 0], []⟩ 8 (by kernel_rfl) (by kernel_rfl) (by kernel_rfl) (by kernel_rfl)) ?_
  intro W base args ds gs before hval0 hW hcnd _
  have hval : ∀ (j : Nat) t v, Try.f7.params[j]? = some t → args[j]? = some v → Value.okWide Try.prog W .any base t v := hval0
  have hW' := hW
  obtain ⟨p, q, hA0, hV, rfl, hfz, hnd⟩ := hW
  have hA : DataW.TrodAll enc Try.prog W 0 (fun _ => true) true Try.f7.params.toList args.toList ds p := hA0
  rw [Try.params7] at hA hval
  obtain ⟨v0, vs0, d0, ds0, p0, q0, hargs, rfl, rfl, h0, r0⟩ := trodAll_cons hA
  obtain ⟨rfl, rfl, rfl⟩ := trodAll_nil r0
  obtain rfl : args = #[v0] := by cases args; simp_all
  obtain ⟨rfl, rfl⟩ := trodVars_none hV
  have k0 := h0
  have lt0 : ∀ x ∈ p0, x.block < W.heap.size := by obtain ⟨m, hm⟩ := k0; exact DataW.trod_lt m _ _ _ hm
  have i0 : InB W v0 := InB.open_ Try.underlying31 Try.underlying5 (by kernel_rfl) (hval 0 31 v0 rfl rfl) h0
  clear hA0 hval0
  refine (walk v0 i0).mono fun e W' ⟨he, bel⟩ => ?_
  subst he
  exact ⟨_, rfl, _, _, _, [], _, [], hW', trodAll_mk1 (shut_bool Try.underlying4 _), (trodAll_cons_mk (Below.trod laidOut (by kernel_rfl) (of_decide_eq_true (by kernel_rfl)) k0 bel lt0) trodAll_mk0), rfl, bel.frame _, fun h => by cases h⟩
theorem over : Rows.fnCompositionsRow.holds Try.pinned (OpenSpec.ofChange Rows.fnCompositionsSpec) :=
  OpenClaim.holds_of_wide 7 Try.f7 rfl rfl rfl rfl rfl rfl rfl ⟨rfl, rfl, rfl, rfl, rfl⟩ rfl rfl rfl rfl rfl (by kernel_rfl) Try.func7 (by kernel_rfl)
    (of_decide_eq_true (by kernel_rfl)) (by unfold Func.isWrapper; first | (rw [if_pos (by decide +kernel)]; kernel_rfl) | (rw [if_neg (by decide +kernel)]; exact ⟨rfl, rfl⟩))
    (fun os started H enc _ => lifted os started H enc)
theorem proved : Rows.FnCompositionsSaid := over
#print axioms proved
end Go.Proofs.Ytnjaalblgakgaaa.fnCompositions
