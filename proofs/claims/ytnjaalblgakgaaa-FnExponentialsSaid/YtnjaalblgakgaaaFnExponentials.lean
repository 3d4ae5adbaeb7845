/-
  The law FnExponentials is proved of the program: for every input the call returns true, and each argument reads afterwards as it read before. Its one condition: the arguments can be read as data.
-/
import Derived.Test.YtnjaalblgakgaaaRows
import Derived.Test.YtnjaalblgakgaaaLawS
import Derived.Test.YtnjaalblgakgaaaDrawL
import Derived.WalkKit
import Derived.ProofKit
import Derived.OpenShut
import Derived.ShutString
import Derived.ChangeOld
import Derived.Below
namespace Go.Proofs.Ytnjaalblgakgaaa.fnExponentials
open Go.ChangeShapes Go.WideShapes Go.ChangeAt Go.RowKit
open Go.ChangeMaps (open_string shut_string)
set_option linter.unusedVariables false
theorem own : ownKnob Try.prog.godebug = none := by kernel_rfl
theorem laidOut : laidOutB Try.prog = true := by kernel_rfl
set_option maxRecDepth 100000 in
set_option maxHeartbeats 8000000 in
theorem walk {w : World} (v0 : Value) (i0 : InB w v0) :
    Calls Try.prog 8 #[v0] w fun e w' => e = .returned (.bool true) ∧ Below w.heap.size w w' := by
  obtain ⟨ao0, n0, cap0, rfl, hn0, hin⟩ := i0
  by_cases hs0 : n0 ≤ 4096
  rotate_left
  · clear hin
    have hs0 : 4096 < n0 := by omega
    go_enter Try.func8, Try.ntmps8
    go_wp2_with fail
    refine (big_any ao0 n0 cap0 _ hn0).mono ?_
    rintro e w1 ⟨rfl, rfl⟩
    rw [show decide (4096 < n0) = true by simp; omega]
    go_wp2
    go_ret
    exact ⟨rfl, Below.refl _ _⟩
  have C0 := hid (hin hs0)
  clear hin
  go_enter Try.func8, Try.ntmps8
  go_wp2_with fail
  refine (big_any ao0 n0 cap0 _ hn0).mono ?_
  rintro e w1 ⟨rfl, rfl⟩
  rw [show decide (4096 < n0) = false by simp; omega]
  go_wp2_with fail
  refine (drawExpSeries_any _ n0 _ C0.out).mono ?_
  rintro e w1 ⟨a, xs, rfl, O_a, B1⟩
  have T := B1
  have R_a := hid O_a.rd
  by_cases hc : (expR xs).2 = 0
  rotate_left
  · have hne : ((expR xs).2 != 0) = true := by simpa using hc
    go_wp2_with fail
    refine (expSeriesE_any _ _ _ R_a.out).mono ?_
    rintro e w2 ⟨b, rfl, O_b, B2⟩
    replace R_a := hid (R_a.out.mono B2)
    replace T := nx T B2
    have R_b := hid O_b.rd
    go_wp2_with fail
    refine (sExpSeries_any _ _ _ R_a.out).mono ?_
    rintro e w3 ⟨c, rfl, O_c, B3⟩
    replace R_a := hid (R_a.out.mono B3)
    replace R_b := hid (R_b.out.mono B3)
    replace T := nx T B3
    have R_c := hid O_c.rd
    go_wp2_with fail
    refine (likeInts_same _ _ _ _ R_b.out R_c.out).mono ?_
    rintro e w4 ⟨rfl, D4⟩
    have B4 := D4.below w3.heap.size
    replace R_a := hid (R_a.out.mono B4)
    replace R_b := hid (R_b.out.mono B4)
    replace R_c := hid (R_c.out.mono B4)
    replace T := nx T B4
    go_wp2
    go_ret
    exact ⟨rfl, T⟩
  obtain ⟨n, A, rfl, hn1, hn16, hA0⟩ := expR_zero hc
  clear hc
  have E1 := hid (expRS hn1 hn16 A hA0)
  have E2 := hid (logRS hn1 hn16 (PS.exp A) rfl)
  have L2 := hid (log_of_exp hn16 hA0)
  have HA := hid hA0
  clear hA0
  obtain ⟨aoa, capa, rfl, hnc, hnl⟩ := O_a.rd.formS
  have K_a := O_a.own_lt
  go_wp2_with fail
  refine (expSeriesE_any _ _ _ R_a.out).mono ?_
  rintro e w2 ⟨b, rfl, O_b, B2⟩
  rw [E1.out] at O_b ⊢
  simp only at O_b
  have K_b := O_b.own_lt
  replace R_a := hid (R_a.out.mono B2)
  replace T := nx T B2
  have R_b := hid O_b.rd
  go_wp2_with fail
  refine (sExpSeries_any _ _ _ R_a.out).mono ?_
  rintro e w3 ⟨c, rfl, O_c, B3⟩
  rw [E1.out] at O_c ⊢
  simp only at O_c
  replace R_a := hid (R_a.out.mono B3)
  replace R_b := hid (R_b.out.mono B3)
  replace T := nx T B3
  have R_c := hid O_c.rd
  go_wp2_with fail
  refine (likeInts_same _ _ _ _ R_b.out R_c.out).mono ?_
  rintro e w4 ⟨rfl, D4⟩
  have B4 := D4.below w3.heap.size
  replace R_a := hid (R_a.out.mono B4)
  replace R_b := hid (R_b.out.mono B4)
  replace R_c := hid (R_c.out.mono B4)
  replace T := nx T B4
  have S0 := T.size
  have Q4 := B4.size
  have Q3 := B3.size
  have Q2 := B2.size
  go_wp2_with fail
  refine (roll_any _ n0 604 _ ((C0.out.mono T).lower S0) (by omega) (by omega)).mono ?_
  rintro e w5 ⟨rfl, S, B5⟩
  have hbN := S.lt
  have N_a : (Value.slice aoa n capa).ownBlock = none ∨ (Value.slice aoa n capa).ownBlock ≠ some w4.heap.size := notBlock fun k hk => by have := K_a k hk; omega
  have N_b : b.ownBlock = none ∨ b.ownBlock ≠ some w4.heap.size := notBlock fun k hk => by have := K_b k hk; omega
  replace R_a := hid (R_a.out.mono B5)
  replace R_b := hid (R_b.out.mono B5)
  replace T := nx T B5
  go_wp2_with fail
  refine (list5_any _ _ n _ S (by omega)).mono ?_
  rintro e w6 ⟨c, zs, rfl, O_c, hzN, hzl, S2, G6⟩
  replace R_a := hid (R_a.out.awayN G6 N_a)
  replace R_b := hid (R_b.out.awayN G6 N_b)
  replace T := below_of_grow T G6 S0 T.size
  obtain ⟨C, rfl⟩ : ∃ C, zs = lst n C := by obtain ⟨C, hC⟩ := lst_of hzN; exact ⟨C, by rw [hzl] at hC; exact hC⟩
  clear hzN hzl
  obtain ⟨aoc, capc, rfl, -, -⟩ := O_c.rd.formS
  obtain ⟨gc, rfl⟩ := O_c.addr (by rw [lst_length]; omega)
  have hfr := O_c.free 0
  have hck := O_c.cellS 0 (by omega)
  have hgc := O_c.glt
  obtain ⟨O_s, G_s⟩ := O_c.put 0 0
  rw [vI_zero] at O_s G_s
  obtain ⟨D, hD⟩ : ∃ D : PS, D = fun i => if i = 0 then 0 else C i := ⟨_, rfl⟩
  rw [← hD] at O_s
  have HD0 : Hid (D 0 = 0) := by rw [hD]; rfl
  clear hD
  have M_a : (Value.slice aoa n capa).ownBlock = none ∨ (Value.slice aoa n capa).ownBlock ≠ some gc := notBlock fun k hk => by have := K_a k hk; omega
  have M_b : b.ownBlock = none ∨ b.ownBlock ≠ some gc := notBlock fun k hk => by have := K_b k hk; omega
  replace R_a := hid (R_a.out.awayN G_s M_a)
  replace R_b := hid (R_b.out.awayN G_s M_b)
  replace T := T.grown G_s T.size (fun k hk => by cases hk; omega)
  have R_c := hid O_s.rd
  replace S2 := S2.grown G_s (fun r hr => by cases hr; omega)
  have hn0' : (0 : Int) < (n : Int) := by omega
  clear O_s G_s O_c S
  have E3 := hid (expRS hn1 hn16 D HD0.out)
  have E4 := hid (addRS hn1 hn16 A D)
  have E5 := hid (expRS hn1 hn16 (PS.add A D) (by simp only [PS.add, HA.out, HD0.out]; grind))
  have E6 := hid (mulRS hn1 hn16 (PS.exp A) (PS.exp D))
  have L5 := hid (exp_of_add hn16 A D)
  have HS := hid S2
  clear S2
  go_wp2_with fail
  refine (logSeriesE_any _ _ _ R_b.out).mono ?_
  rintro e w7 ⟨k, rfl, O_k, B7⟩
  rw [E2.out] at O_k ⊢
  simp only [L2.out] at O_k
  replace R_a := hid (R_a.out.mono B7)
  replace R_b := hid (R_b.out.mono B7)
  replace R_c := hid (R_c.out.mono B7)
  replace T := nx T B7
  have R_k := hid O_k.rd
  replace HS := hid (HS.out.mono B7)
  go_wp2_with fail
  refine (expSeriesE_any _ _ _ R_c.out).mono ?_
  rintro e w8 ⟨f, rfl, O_f, B8⟩
  rw [E3.out] at O_f ⊢
  simp only at O_f
  replace R_a := hid (R_a.out.mono B8)
  replace R_b := hid (R_b.out.mono B8)
  replace R_c := hid (R_c.out.mono B8)
  replace R_k := hid (R_k.out.mono B8)
  replace T := nx T B8
  have R_f := hid O_f.rd
  replace HS := hid (HS.out.mono B8)
  go_wp2_with fail
  refine (addSeries_any _ _ _ _ _ R_a.out R_c.out).mono ?_
  rintro e w9 ⟨h, rfl, O_h, B9⟩
  rw [E4.out] at O_h ⊢
  simp only at O_h
  replace R_a := hid (R_a.out.mono B9)
  replace R_b := hid (R_b.out.mono B9)
  replace R_c := hid (R_c.out.mono B9)
  replace R_k := hid (R_k.out.mono B9)
  replace R_f := hid (R_f.out.mono B9)
  replace T := nx T B9
  have R_h := hid O_h.rd
  replace HS := hid (HS.out.mono B9)
  go_wp2_with fail
  refine (expSeriesE_any _ _ _ R_h.out).mono ?_
  rintro e w10 ⟨q, rfl, O_q, B10⟩
  rw [E5.out] at O_q ⊢
  simp only at O_q
  replace R_a := hid (R_a.out.mono B10)
  replace R_b := hid (R_b.out.mono B10)
  replace R_c := hid (R_c.out.mono B10)
  replace R_k := hid (R_k.out.mono B10)
  replace R_f := hid (R_f.out.mono B10)
  replace R_h := hid (R_h.out.mono B10)
  replace T := nx T B10
  have R_q := hid O_q.rd
  replace HS := hid (HS.out.mono B10)
  go_wp2_with fail
  refine (multiplySeries_any _ _ _ _ _ R_b.out R_f.out).mono ?_
  rintro e w11 ⟨p, rfl, O_p, B11⟩
  rw [E6.out] at O_p ⊢
  simp only at O_p
  rw [← L5.out] at O_p
  replace R_a := hid (R_a.out.mono B11)
  replace R_b := hid (R_b.out.mono B11)
  replace R_c := hid (R_c.out.mono B11)
  replace R_k := hid (R_k.out.mono B11)
  replace R_f := hid (R_f.out.mono B11)
  replace R_h := hid (R_h.out.mono B11)
  replace R_q := hid (R_q.out.mono B11)
  replace T := nx T B11
  have R_p := hid O_p.rd
  replace HS := hid (HS.out.mono B11)
  go_wp2_with fail
  refine (likeInts_same _ _ _ _ R_k.out R_a.out).mono ?_
  rintro e w12 ⟨rfl, D12⟩
  have B12 := D12.below w11.heap.size
  replace R_a := hid (R_a.out.mono B12)
  replace R_b := hid (R_b.out.mono B12)
  replace R_c := hid (R_c.out.mono B12)
  replace R_k := hid (R_k.out.mono B12)
  replace R_f := hid (R_f.out.mono B12)
  replace R_h := hid (R_h.out.mono B12)
  replace R_q := hid (R_q.out.mono B12)
  replace R_p := hid (R_p.out.mono B12)
  replace T := nx T B12
  replace HS := hid (HS.out.mono B12)
  go_wp2_with fail
  refine (likeInts_same _ _ _ _ R_q.out R_p.out).mono ?_
  rintro e w13 ⟨rfl, D13⟩
  have B13 := D13.below w12.heap.size
  replace R_a := hid (R_a.out.mono B13)
  replace R_b := hid (R_b.out.mono B13)
  replace R_c := hid (R_c.out.mono B13)
  replace R_k := hid (R_k.out.mono B13)
  replace R_f := hid (R_f.out.mono B13)
  replace R_h := hid (R_h.out.mono B13)
  replace R_q := hid (R_q.out.mono B13)
  replace R_p := hid (R_p.out.mono B13)
  replace T := nx T B13
  replace HS := hid (HS.out.mono B13)
  go_wp2_with fail
  refine (number5_any _ _ _ HS.out).mono ?_
  rintro e w14 ⟨k, rfl, k0, k1, S14, G14⟩
  replace HS := hid S14
  clear S14
  replace R_b := hid (R_b.out.awayN G14 N_b)
  replace T := below_of_grow T G14 S0 T.size
  go_wp2_with fail
  refine (number5_any _ _ _ HS.out).mono ?_
  rintro e w15 ⟨m, rfl, m0, m1, S15, G15⟩
  replace HS := hid S15
  clear S15
  replace R_b := hid (R_b.out.awayN G15 N_b)
  replace T := below_of_grow T G15 S0 T.size
  clear HS
  have hk := hid (isNum_iff.2 ⟨k0, k1⟩)
  have hm := hid (isNum_iff.2 ⟨m0, m1⟩)
  have hkm := hid (isNum_iff.2 (md_bd (k + m)))
  have F1 := hid (powRS hn1 hn16 (PS.exp A) k hk.out rfl)
  have F2 := hid (powRS hn1 hn16 (PS.exp A) m hm.out rfl)
  have F3 := hid (powRS hn1 hn16 (PS.exp A) ((k + m) % 10007) hkm.out rfl)
  have F4 := hid (mulRS hn1 hn16 (pwrS (fI k) (PS.exp A)) (pwrS (fI m) (PS.exp A)))
  have L6 := hid (pow_add_law hn16 k m (PS.exp A))
  go_wp2_with fail
  refine (powerOfSeries_any _ k _ _ R_b.out).mono ?_
  rintro e w16 ⟨p', rfl, O_p, B16⟩
  rw [F1.out] at O_p ⊢
  simp only at O_p
  replace R_b := hid (R_b.out.mono B16)
  replace T := nx T B16
  have R_p' := hid O_p.rd
  go_wp2_with fail
  refine (powerOfSeries_any _ m _ _ R_b.out).mono ?_
  rintro e w17 ⟨q', rfl, O_q, B17⟩
  rw [F2.out] at O_q ⊢
  simp only at O_q
  replace R_b := hid (R_b.out.mono B17)
  replace R_p' := hid (R_p'.out.mono B17)
  replace T := nx T B17
  have R_q' := hid O_q.rd
  go_wp2_with fail
  refine (mod5_any (k + m) _).mono ?_
  rintro e w' ⟨rfl, rfl⟩
  go_wp2_with fail
  refine (powerOfSeries_any _ ((k + m) % 10007) _ _ R_b.out).mono ?_
  rintro e w18 ⟨r, rfl, O_r, B18⟩
  rw [F3.out] at O_r ⊢
  simp only at O_r
  replace R_b := hid (R_b.out.mono B18)
  replace R_p' := hid (R_p'.out.mono B18)
  replace R_q' := hid (R_q'.out.mono B18)
  replace T := nx T B18
  have R_r := hid O_r.rd
  go_wp2_with fail
  refine (multiplySeries_any _ _ _ _ _ R_p'.out R_q'.out).mono ?_
  rintro e w19 ⟨l, rfl, O_l, B19⟩
  rw [F4.out] at O_l ⊢
  simp only at O_l
  rw [L6.out] at O_l
  replace R_b := hid (R_b.out.mono B19)
  replace R_p' := hid (R_p'.out.mono B19)
  replace R_q' := hid (R_q'.out.mono B19)
  replace R_r := hid (R_r.out.mono B19)
  replace T := nx T B19
  have R_l := hid O_l.rd
  go_wp2_with fail
  refine (likeInts_same _ _ _ _ R_l.out R_r.out).mono ?_
  rintro e w20 ⟨rfl, D20⟩
  have B20 := D20.below w19.heap.size
  replace R_b := hid (R_b.out.mono B20)
  replace R_p' := hid (R_p'.out.mono B20)
  replace R_q' := hid (R_q'.out.mono B20)
  replace R_r := hid (R_r.out.mono B20)
  replace R_l := hid (R_l.out.mono B20)
  replace T := nx T B20
  go_wp2
  go_ret
  exact ⟨rfl, T⟩

set_option maxRecDepth 100000 in
theorem lifted (os : Os) (started : os.Started) (H : Type) (enc : TypeId × Value → H) :
    ReturnsInHanded {} Try.checked os 8 .any (Rows.fnExponentialsSpec.pre6 enc Try.prog Try.f8 Rows.fnExponentialsRow.domain false) (Rows.fnExponentialsSpec.post enc Try.prog Try.f8 false true false false) := by
  refine returnsInHanded_of_change (C := Try.checked) own started (by kernel_rfl) Try.func8
    (ChangeSpec.witness6 (enc := enc) (C := Try.checked) false ⟨#[], #[.slice none 0 0], []⟩ 8 (by kernel_rfl) (by kernel_rfl) (by kernel_rfl) (by kernel_rfl)) ?_
  intro W base args ds gs before hval0 hW hcnd _
  have hval : ∀ (j : Nat) t v, Try.f8.params[j]? = some t → args[j]? = some v → Value.okWide Try.prog W .any base t v := hval0
  have hW' := hW
  obtain ⟨p, q, hA0, hV, rfl, hfz, hnd⟩ := hW
  have hA : DataW.TrodAll enc Try.prog W 0 (fun _ => true) true Try.f8.params.toList args.toList ds p := hA0
  rw [Try.params8] at hA hval
  obtain ⟨v0, vs0, d0, ds0, p0, q0, hargs, rfl, rfl, h0, r0⟩ := trodAll_cons hA
  obtain ⟨rfl, rfl, rfl⟩ := trodAll_nil r0
  obtain rfl : args = #[v0] := by cases args; simp_all
  obtain ⟨rfl, rfl⟩ := trodVars_none hV
  have k0 := h0
  have lt0 : ∀ x ∈ p0, x.block < W.heap.size := by obtain ⟨m, hm⟩ := k0; exact DataW.trod_lt m _ _ _ hm
  have i0 : InB W v0 := InB.open_ Try.underlying31 Try.underlying5 (by kernel_rfl) (hval 0 31 v0 rfl rfl) h0
  clear hA0 hval0
  refine (walk v0 i0).mono fun e W' ⟨he, bel⟩ => ?_
  subst he
  exact ⟨_, rfl, _, _, _, [], _, [], hW', trodAll_mk1 (shut_bool Try.underlying4 _), (trodAll_cons_mk (Below.trod laidOut (by kernel_rfl) (of_decide_eq_true (by kernel_rfl)) k0 bel lt0) trodAll_mk0), rfl, bel.frame _, fun h => by cases h⟩
theorem over : Rows.fnExponentialsRow.holds Try.pinned (OpenSpec.ofChange Rows.fnExponentialsSpec) :=
  OpenClaim.holds_of_wide 8 Try.f8 rfl rfl rfl rfl rfl rfl rfl ⟨rfl, rfl, rfl, rfl, rfl⟩ rfl rfl rfl rfl rfl (by kernel_rfl) Try.func8 (by kernel_rfl)
    (of_decide_eq_true (by kernel_rfl)) (by unfold Func.isWrapper; first | (rw [if_pos (by decide +kernel)]; kernel_rfl) | (rw [if_neg (by decide +kernel)]; exact ⟨rfl, rfl⟩))
    (fun os started H enc _ => lifted os started H enc)
theorem proved : Rows.FnExponentialsSaid := over
#print axioms proved
end Go.Proofs.Ytnjaalblgakgaaa.fnExponentials
