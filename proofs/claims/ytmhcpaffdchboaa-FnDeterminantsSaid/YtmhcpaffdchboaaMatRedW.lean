/-
  The walk of the reduction of rows, against the plain reduction.
-/
import Derived.Test.YtmhcpaffdchboaaMatRed
import Derived.Test.YtmhcpaffdchboaaOrder
import Derived.RegionTactic
import Derived.BigRegion
namespace Go.Proofs.Ytmhcpaffdchboaa
open Go.RowKit
set_option maxRecDepth 100000
theorem redStep_none {m k t : Nat} {M : Mt} {d : F} (h : findP M k m t (m - t) = m) : redStep m k (M, d, t) = (M, 0, t) := by
  simp only [redStep]; rw [if_pos h]
theorem redStep_same {m k t : Nat} {M : Mt} {d : F} (h : findP M k m t (m - t) = t) (ht : t < m) : redStep m k (M, d, t) = (clearR (setR M t (fun c => fi (M t k) * M t c)) t k m, d * M t k, t + 1) := by
  simp only [redStep]; rw [if_neg (by rw [h]; omega), if_pos h, if_pos h]
theorem redStep_swap {m k t j : Nat} {M : Mt} {d : F} (h : findP M k m t (m - t) = j) (hj : j < m) (hjt : j ≠ t) :
    redStep m k (M, d, t) = (clearR (setR (swapR M j t) t (fun c => fi (swapR M j t t k) * swapR M j t t c)) t k m, (0 - d) * swapR M j t t k, t + 1) := by
  simp only [redStep]; rw [if_neg (by rw [h]; omega), if_neg (by rw [h]; exact hjt), if_neg (by rw [h]; exact hjt), h]
theorem matL_swap (m n : Nat) (M : Mt) (j t : Nat) (hjt : j ≠ t) : ((matL m n M).set j (lst n (M t))).set t (lst n (M j)) = matL m n (swapR M j t) := by
  rw [matL_set, matL_set]
  congr 1
  funext r c
  simp only [setR, swapR]
  by_cases h1 : r = t
  · subst h1; rw [if_pos rfl, if_neg (Ne.symm hjt), if_pos rfl]
  · rw [if_neg h1, if_neg h1]
/-- Two rows exchanged in an own list of rows. -/
theorem Own2.exchange {base g n cap : Nat} {w : World} {us : List Value} {zss : List (List Int)} (h : Own2 base w (.slice (some ⟨g, 0, none⟩) n cap) us zss) (i j : Nat) (hi : i < zss.length) (hj : j < zss.length) (hij : i ≠ j) :
    Own2 base ((w.setCell ⟨g, i, none⟩ (vat us j)).setCell ⟨g, j, none⟩ (vat us i)) (.slice (some ⟨g, 0, none⟩) n cap) ((us.set i (vat us j)).set j (vat us i)) ((zss.set i (rowAt zss j)).set j (rowAt zss i)) := by
  have hl := h.len
  have hn : n = us.length := by have := h.len'; omega
  subst hn
  have a1 := h.1.stored i (vat us j)
  have a2 := a1.1.stored j (vat us i)
  have hG : w.grownBy ((w.setCell ⟨g, i, none⟩ (vat us j)).setCell ⟨g, j, none⟩ (vat us i)) (some g) :=
    ⟨a2.2.os.trans a1.2.os, a2.2.tape.trans a1.2.tape, a2.2.output.trans a1.2.output, Nat.le_trans a1.2.size a2.2.size, fun k hk hne => (a2.2.block k (Nat.lt_of_lt_of_le hk a1.2.size) hne).trans (a1.2.block k hk hne)⟩
  have hv : ∀ r, r < us.length → ∃ q, q < us.length ∧ vat ((us.set i (vat us j)).set j (vat us i)) r = vat us q ∧ rowAt ((zss.set i (rowAt zss j)).set j (rowAt zss i)) r = rowAt zss q ∧ q = (if r = j then i else if r = i then j else r) := fun r hr => by
    by_cases h1 : r = j
    · refine ⟨i, by omega, ?_, ?_, by rw [if_pos h1]⟩
      · rw [vat_set, if_pos ⟨h1.symm, by simp; omega⟩]
      · rw [rowAt_set, if_pos ⟨h1.symm, by simp; omega⟩]
    · by_cases h2 : r = i
      · refine ⟨j, by omega, ?_, ?_, by rw [if_neg h1, if_pos h2]⟩
        · rw [vat_set, if_neg (fun x => h1 x.1.symm), vat_set, if_pos ⟨h2.symm, by omega⟩]
        · rw [rowAt_set, if_neg (fun x => h1 x.1.symm), rowAt_set, if_pos ⟨h2.symm, by omega⟩]
      · refine ⟨r, hr, ?_, ?_, by rw [if_neg h1, if_neg h2]⟩
        · rw [vat_set, if_neg (fun x => h1 x.1.symm), vat_set, if_neg (fun x => h2 x.1.symm)]
        · rw [rowAt_set, if_neg (fun x => h1 x.1.symm), rowAt_set, if_neg (fun x => h2 x.1.symm)]
  refine ⟨by simpa using a2.1, by simpa using hl, by simpa using h.lim, fun r hr => ?_, fun r hr => ?_, fun r q hr hq hrq => ?_⟩
  · obtain ⟨q, q1, q2, q3, _⟩ := hv r (by simpa using hr)
    rw [q2, q3]
    exact (h.2.2.2.1 q q1).grown hG ((h.2.2.2.2.1 q q1).ne.imp id (fun x => x))
  · obtain ⟨q, q1, q2, _, _⟩ := hv r (by simpa using hr)
    rw [q2]; exact h.2.2.2.2.1 q q1
  · obtain ⟨r', r1, r2, _, r4⟩ := hv r (by simpa using hr)
    obtain ⟨q', q1, q2, _, q4⟩ := hv q (by simpa using hq)
    rw [r2, q2]
    refine h.2.2.2.2.2 r' q' r1 q1 ?_
    rw [r4, q4]
    split <;> split <;> (try split) <;> (try split) <;> omega
set_option maxHeartbeats 16000000 in
theorem reduce_any (m n : Nat) (A : Mt) (v : Value) (w : World) (h : RdII w v (matL m n A)) (hm1 : 1 ≤ m) (hm : m ≤ 64) (hn1 : 1 ≤ n) (hn : n ≤ 64) :
    Calls Try.prog 68 #[v] w fun e w' => ∃ g cap us, e = .returned (.tuple #[.slice (some ⟨g, 0, none⟩) (reduceR m n A).2.2 cap, .int .i64 (vI (reduceR m n A).2.1)]) ∧ Own2 w.heap.size w' (.slice (some ⟨g, 0, none⟩) m cap) us (matL m n (reduceR m n A).1) ∧ (reduceR m n A).2.2 ≤ m ∧ Below w.heap.size w w' := by
  obtain ⟨R, hR⟩ : ∃ R, R = reduceR m n A := ⟨_, rfl⟩
  have HRR : Hid (redTo m n 0 (n - 0) (A, 1, 0) = R) := by simp only [Hid]; rw [hR]; rfl
  rw [← hR]
  clear hR
  go_enter Try.func68, Try.ntmps68
  go_wp2_with fail
  refine (cloneRows_any _ _ _ h (matL_pos m n A (by omega))).mono ?_
  rintro e w1 ⟨r, rfl, ⟨us, O⟩, Bl⟩
  obtain ⟨ao, cap, rfl⟩ := O.form
  obtain ⟨g, rfl⟩ := O.addr (by rw [matL_length]; omega)
  have hgB := O.glt.1
  rw [matL_length] at O ⊢
  clear h
  have hm0 : (0 : Int) < (m : Int) := by omega
  have one : (1 : Int) = vI 1 := vI_one.symm
  have HONE := hid one
  clear one
  go_wp2_with fail
  go_loopw [5, 6, 7] (fun dd tt kk wr => ∃ (k : Nat) (M : Mt) (d : F) (t : Nat) (us : List Value), Hid (redTo m n k (n - k) (M, d, t) = R) ∧ k ≤ n ∧ t ≤ m ∧ dd = .int .i64 (vI d) ∧ tt = .int .i64 t ∧ kk = .int .i64 k ∧
      Own2 w.heap.size wr (.slice (some ⟨g, 0, none⟩) m cap) us (matL m n M) ∧ Below w.heap.size w wr) (fun _ _ kk _ => n - (intOf kk).toNat)
  case atStart => exact ⟨0, A, 1, 0, us, HRR, Nat.zero_le _, Nat.zero_le _, by rw [vI_one], rfl, rfl, O, Bl⟩
  case round =>
    clear HRR O Bl
    obtain ⟨k, M, d, t, us, HR0, hkn, htm, rfl, rfl, rfl, O, Bl⟩ := hrel
    have hcap : m ≤ cap := by
      rcases O.1.2 with ⟨e, _⟩ | ⟨_, _, _, e, _, _, h, _⟩
      · simp at e
      · simp at e; have := O.len; rw [matL_length] at this; omega
    have hw0 := O.own 0 (by rw [matL_length]; omega)
    rw [matL_row m n M 0 (by omega)] at hw0
    obtain ⟨ao0, cap0, hv0, -, -⟩ := hw0.rd.formL
    have hc0 := O.cell 0 (by rw [matL_length]; omega)
    rw [hv0] at hc0
    clear hw0 hv0
    by_cases hk : k < n
    rotate_left
    · have hd : decide ((k : Int) < (n : Int)) = false := by simp; omega
      have E : Hid ((M, d, t) = R) := by simp only [Hid]; rw [← HR0.out, redTo_end (.inl (by omega))]
      go_wp2_with fail
      go_ret2
      rw [← E.out]
      exact ⟨g, cap, us, rfl, O, htm, Bl⟩
    by_cases ht : t < m
    rotate_left
    · have hk' : (k : Int) < (n : Int) := by omega
      have hd : decide ((t : Int) < (m : Int)) = false := by simp; omega
      have E : Hid ((M, d, t) = R) := by simp only [Hid]; rw [← HR0.out, redTo_end (.inr (by simpa using ht))]
      go_wp2_with fail
      go_ret2
      rw [← E.out]
      exact ⟨g, cap, us, rfl, O, htm, Bl⟩
    have hk' : (k : Int) < (n : Int) := by omega
    have ht' : (t : Int) < (m : Int) := by omega
    have HO := hid O
    go_wp2_with fail
    clear hc0
    go_loop [8] (fun i => ∃ j : Nat, t ≤ j ∧ j ≤ m ∧ i = .int .i64 j ∧ Hid (findP M k m t (m - t) = findP M k m j (m - j))) (fun i => m - (intOf i).toNat)
    case atStart => exact ⟨t, Nat.le_refl _, htm, rfl, rfl⟩
    case round =>
      obtain ⟨j, hj1, hj2, rfl, HP⟩ := hrel
      by_cases hjm : j < m
      rotate_left
      · obtain rfl : j = m := by omega
        have hd : decide ((j : Int) < (j : Int)) = false := by simp
        rw [findP_end] at HP
        go_wp2_with fail
        go_roundw
        case rel =>
          refine ⟨k + 1, M, 0, t, us, ?_, by omega, htm, by rw [vI_zero], rfl, by go_num, O, Bl⟩
          simp only [Hid]
          rw [← HR0.out, redTo_go hk ht, redStep_none HP.out]
        case measure => simp [intOf]; omega
      have hjm' : (j : Int) < (m : Int) := by omega
      have hwj := O.own j (by rw [matL_length]; exact hjm)
      rw [matL_row m n M j hjm] at hwj
      obtain ⟨aoj, capj, hvj, -, -⟩ := hwj.rd.formL
      have hcj := O.cell j (by rw [matL_length]; exact hjm)
      have hrj := hwj.rd
      rw [hvj] at hcj hrj
      obtain ⟨bj, offj, rfl, hpj⟩ := hrj.at_ (k := k) (by rw [lst_length]; exact hk)
      rw [lst_el _ _ _ hk] at hpj
      have HVJ := hid hvj
      clear hvj hrj hwj
      by_cases hz : M j k = 0
      · rw [hz, vI_zero] at hpj
        go_wp2_with fail
        go_round
        case rel => exact ⟨j + 1, by omega, by omega, by go_num, by simp only [Hid]; rw [HP.out, findP_go hjm hz]⟩
        case measure => simp [intOf]; omega
      have hz' := vI_ne hz
      have HP : Hid (findP M k m t (m - t) = j) := by simp only [Hid]; rw [HP.out, findP_stop hjm hz]
      by_cases hjt : j = t
      · have hjt' : t = j := hjt.symm
        subst hjt'
        have hx1 : ((t : Int) == (m : Int)) = false := by simp; omega
        have hx2 : ((t : Int) != (t : Int)) = false := by simp
        clear hz
        obtain ⟨M1, hM1⟩ : ∃ M1, M1 = M := ⟨_, rfl⟩
        rw [← hM1] at O
        obtain ⟨p, hp⟩ : ∃ p, p = M1 t k := ⟨_, rfl⟩
        rw [← hM1, ← hp] at hz'
        clear hcj hpj HVJ
        have HPP := hid hp
        have hwt := O.own t (by rw [matL_length]; exact ht)
        rw [matL_row m n M1 t ht] at hwt
        obtain ⟨aot, capt, hvt, -, -⟩ := hwt.rd.formL
        have hct := O.cell t (by rw [matL_length]; exact ht)
        have hrt := hwt.rd
        rw [hvt] at hct hrt
        obtain ⟨bt, offt, rfl, hpt⟩ := hrt.at_ (k := k) (by rw [lst_length]; exact hk)
        rw [lst_el _ _ _ hk, ← hp] at hpt
        have HVT := hid hvt
        have HRT := hid hrt
        have q1 := vI_bd d
        have q2 := vI_bd p
        have m1 := (mul_bd q1.1 q1.2 q2.1 q2.2).1
        have m2 := (mul_bd q1.1 q1.2 q2.1 q2.2).2
        have HM1 := hid hM1
        have HO1 := hid O
        clear hp hvt hrt hwt hM1
        go_wp2_with fail
        refine (num_any (vI d * vI p) _).mono ?_
        rintro e w' ⟨rfl, rfl⟩
        rw [← vI_mul]
        clear m1 m2
        go_wp2_with fail
        refine wp_region_start (by kernel_rfl) ?_
        refine wpAny_take (i := 0) (v := ?_) rfl (by kernel_rfl) (by kernel_rfl) (by kernel_rfl) (fun _ _ _ h => h) (Or.inl ⟨by rfl, ?_⟩) ?_
        rotate_left
        (intro wz; go_simp; try with_reducible rfl)
        try simp only [List.getElem_toArray, List.getElem_cons_zero, Act.put, List.setIfInBounds_toArray, List.set_cons_zero, List.set_cons_succ]
        refine wpAny_take (i := 1) (v := ?_) rfl (by kernel_rfl) (by kernel_rfl) (by kernel_rfl) (fun _ _ _ h => h) (Or.inl ⟨by rfl, ?_⟩) ?_
        rotate_left
        (intro wz; go_simp; try with_reducible rfl)
        try simp only [List.getElem_toArray, List.getElem_cons_zero, List.getElem_cons_succ, Act.put, List.setIfInBounds_toArray, List.set_cons_zero, List.set_cons_succ]
        refine wpAny_order [2, 3, 4, 5, 6, 7, 8, 9, 10, 11, 12, 13] 14 [15, 16] (by rfl) (by kernel_rfl) ?_
        simp only [pickOps, List.filterMap_cons, List.filterMap_nil, List.getElem?_toArray, List.getElem?_cons_succ, List.getElem?_cons_zero]
        repeat still_step
        still_call (still_sameL (inv_any _ _ (by omega) (by omega)))
        repeat still_step
        refine wpStill_nil ?_
        change wpList _ _ _ _ _ wr.drew
        clear hpt hct
        go_wp2_with fail
        refine (scaled_any n (M1 t) (invM (vI p)) _ _ (HRT.out.mono (below_drew _))).mono ?_
        rintro e w2 ⟨r2, rfl, O2, B2⟩
        have B2' : Below wr.heap.size wr w2 := (below_drew wr).trans B2
        obtain ⟨ao2, cap2, rfl, -, -⟩ := O2.rd.formL
        have h3 := HO1.out.outer t (by rw [matL_length]; exact ht) (grownBy_of_below B2' _)
        have c3 := h3.1
        have f3 := h3.2.1
        have g3 := h3.2.2
        clear h3
        obtain ⟨O4, -⟩ := HO1.out.put t (by rw [matL_length]; exact ht) (grownBy_of_below B2' _) (O2.lower Bl.size) (.inr fun b hb => (O2.own_lt b hb).1)
        rw [matL_set] at O4
        obtain ⟨M2, hM2⟩ : ∃ M2, M2 = setR M1 t (PS.smul (fI (invM (vI p))) (M1 t)) := ⟨_, rfl⟩
        rw [← hM2] at O4
        have HM2 := hid hM2
        have B4 := (nx Bl B2').setCell (p := ⟨g, t, none⟩) hgB (.slice ao2 n cap2)
        clear hM2 B2 B2' O2
        go_wp2_with fail
        go_loopw [100] (fun i wr => ∃ (r : Nat) (us' : List Value), r ≤ m ∧ i = .int .i64 r ∧ Own2 w.heap.size wr (.slice (some ⟨g, 0, none⟩) m cap) us' (matL m n (clearR M2 t k r)) ∧ Below w.heap.size w wr) (fun i _ => m - (intOf i).toNat)
        case atStart => exact ⟨0, _, Nat.zero_le _, rfl, by rw [clearR_zero]; exact O4, B4⟩
        case round =>
          obtain ⟨r, us', hr, rfl, O5, B5⟩ := hrel
          have HO5 := hid O5
          clear O4 B4 c3 f3 g3
          by_cases hrm : r < m
          · by_cases hrt : r = t
            · have hb : ((r : Int) != (t : Int)) = false := by rw [hrt]; simp
              have HR := hid hrt
              clear hrt
              go_wp2_with fail
              go_roundw
              case rel => exact ⟨r + 1, us', by omega, by go_num, by rw [clearR_succ, if_pos HR.out]; exact HO5.out, B5⟩
              case measure => simp [intOf]; omega
            · have hb : ((r : Int) != (t : Int)) = true := by simp; omega
              have HR := hid hrt
              clear hrt
              have w1r := HO5.out.own r (by rw [matL_length]; exact hrm)
              have w1t := HO5.out.own t (by rw [matL_length]; exact ht)
              rw [matL_row m n _ r hrm] at w1r
              rw [matL_row m n _ t ht] at w1t
              have c1r := HO5.out.cell r (by rw [matL_length]; exact hrm)
              have c1t := HO5.out.cell t (by rw [matL_length]; exact ht)
              obtain ⟨aor, capr, hvr, -, -⟩ := w1r.rd.formL
              obtain ⟨aot', capt', hvt', -, -⟩ := w1t.rd.formL
              have R1 := w1r.rd
              have R2 := w1t.rd
              rw [hvr] at c1r R1
              rw [hvt'] at c1t R2
              obtain ⟨br, offr, rfl, hpr⟩ := R1.at_ (k := k) (by rw [lst_length]; exact hk)
              rw [lst_el _ _ _ hk] at hpr
              have HR1 := hid R1
              have HR2 := hid R2
              have q3 := vI_bd (clearR M2 t k r r k)
              obtain ⟨pr, hpr'⟩ : ∃ pr, pr = clearR M2 t k r r k := ⟨_, rfl⟩
              rw [← hpr'] at hpr q3
              have HPR := hid hpr'
              clear w1r w1t hvr hvt' R1 R2 hpr'
              go_wp2_with fail
              refine wp_region_start (by kernel_rfl) ?_
              refine wpAny_take (i := 0) (v := ?_) rfl (by kernel_rfl) (by kernel_rfl) (by kernel_rfl) (fun _ _ _ h => h) (Or.inl ⟨by rfl, ?_⟩) ?_
              rotate_left
              (intro wz; go_simp; try with_reducible rfl)
              try simp only [List.getElem_toArray, List.getElem_cons_zero, Act.put, List.setIfInBounds_toArray, List.set_cons_zero, List.set_cons_succ]
              refine wpAny_take (i := 1) (v := ?_) rfl (by kernel_rfl) (by kernel_rfl) (by kernel_rfl) (fun _ _ _ h => h) (Or.inl ⟨by rfl, ?_⟩) ?_
              rotate_left
              (intro wz; go_simp; try with_reducible rfl)
              try simp only [List.getElem_toArray, List.getElem_cons_zero, List.getElem_cons_succ, Act.put, List.setIfInBounds_toArray, List.set_cons_zero, List.set_cons_succ]
              refine wpAny_order [2, 3, 4, 5, 6, 7, 8, 9, 10, 11, 12, 13, 14, 15, 16, 17] 18 [19, 20] (by rfl) (by kernel_rfl) ?_
              simp only [pickOps, List.filterMap_cons, List.filterMap_nil, List.getElem?_toArray, List.getElem?_cons_succ, List.getElem?_cons_zero]
              repeat still_step
              refine wpStill_nil ?_
              change wpList _ _ _ _ _ wr.drew
              clear hpr c1r c1t
              go_wp2_with fail
              refine (plus_any n (clearR M2 t k r r) (clearR M2 t k r t) (-vI pr) _ _ _ (HR1.out.mono (below_drew _)) (HR2.out.mono (below_drew _))).mono ?_
              rintro e w6 ⟨r6, rfl, O6, B6⟩
              have B6' : Below wr.heap.size wr w6 := (below_drew wr).trans B6
              obtain ⟨ao6, cap6, rfl, -, -⟩ := O6.rd.formL
              have h3 := HO5.out.outer r (by rw [matL_length]; exact hrm) (grownBy_of_below B6' _)
              have c3 := h3.1
              have f3 := h3.2.1
              have g3 := h3.2.2
              clear h3
              obtain ⟨O7, -⟩ := HO5.out.put r (by rw [matL_length]; exact hrm) (grownBy_of_below B6' _) (O6.lower B5.size) (.inr fun b hb => (O6.own_lt b hb).1)
              rw [matL_set, fI_neg, HPR.out] at O7
              have B7 := (nx B5 B6').setCell (p := ⟨g, r, none⟩) hgB (.slice ao6 n cap6)
              have E7 : Hid (setR (clearR M2 t k r) r (PS.add (clearR M2 t k r r) (PS.smul (-clearR M2 t k r r k) (clearR M2 t k r t))) = clearR M2 t k (r + 1)) := by
                simp only [Hid]; rw [clearR_succ, if_neg HR.out]; rfl
              rw [E7.out] at O7
              have HO7 := hid O7
              clear O7 B6 O6 B6'
              go_wp2_with fail
              go_roundw
              case rel => exact ⟨r + 1, _, by omega, by go_num, HO7.out, B7⟩
              case measure => simp [intOf]; omega
          · obtain rfl : r = m := by omega
            go_wp2_with fail
            go_roundw
            case rel =>
              refine ⟨k + 1, _, d * p, t + 1, us', ?_, by omega, by omega, rfl, by go_num, by go_num, HO5.out, B5⟩
              simp only [Hid]
              rw [← HR0.out, redTo_go hk ht, redStep_same HP.out ht, HM2.out, HPP.out, HM1.out]
              rfl
            case measure => simp [intOf]; omega
      · have hx1 : ((j : Int) == (m : Int)) = false := by simp; omega
        have hx2 : ((j : Int) != (t : Int)) = true := by simp; omega
        clear hz
        have hct := O.cell t (by rw [matL_length]; exact ht)
        have hwt := O.own t (by rw [matL_length]; exact ht)
        rw [matL_row m n M t ht] at hwt
        obtain ⟨aot0, capt0, hvt0, -, -⟩ := hwt.rd.formL
        rw [hvt0] at hct
        have hfj := O.free j
        have hft := O.free t
        have hE := O.exchange j t (by rw [matL_length]; exact hjm) (by rw [matL_length]; exact ht) hjt
        rw [matL_row m n M t ht, matL_row m n M j hjm, matL_swap m n M j t hjt, hvt0, HVJ.out] at hE
        have HE := hid hE
        have hjt' : ¬ j = t := hjt
        have htj' : ¬ t = j := Ne.symm hjt
        have HVT0 := hid hvt0
        have q0 := vI_bd d
        clear hvt0 hE hwt
        go_wp2_with fail
        go_region
        have Oq := HE.out.mono (below_drew _)
        have Bq := ((Bl.setCell (p := ⟨g, j, none⟩) hgB (.slice aot0 n capt0)).setCell (p := ⟨g, t, none⟩) hgB (.slice (some ⟨bj, offj, none⟩) n capj)).drew
        generalize ((wr.setCell ⟨g, j, none⟩ (.slice aot0 n capt0)).setCell ⟨g, t, none⟩ (.slice (some ⟨bj, offj, none⟩) n capj)).drew = wq at Oq Bq ⊢
        clear hcj hct hpj hfj hft HE HVT0 HVJ hz' O HO Bl
        have ed : (-vI d) % 10007 = vI (0 - d) := by rw [vI_sub, vI_zero]; congr 1; omega
        have HED := hid ed
        clear ed
        go_wp2_with fail
        refine (num_any (-vI d) _).mono ?_
        rintro e w' ⟨rfl, rfl⟩
        rw [HED.out]
        clear q0
        obtain ⟨M1, hM1⟩ : ∃ M1, M1 = swapR M j t := ⟨_, rfl⟩
        rw [← hM1] at Oq
        obtain ⟨p, hp⟩ : ∃ p, p = M1 t k := ⟨_, rfl⟩
        have HPP := hid hp
        have hwt := Oq.own t (by rw [matL_length]; exact ht)
        rw [matL_row m n M1 t ht] at hwt
        obtain ⟨aot, capt, hvt, -, -⟩ := hwt.rd.formL
        have hct := Oq.cell t (by rw [matL_length]; exact ht)
        have hrt := hwt.rd
        rw [hvt] at hct hrt
        obtain ⟨bt, offt, rfl, hpt⟩ := hrt.at_ (k := k) (by rw [lst_length]; exact hk)
        rw [lst_el _ _ _ hk, ← hp] at hpt
        have HVT := hid hvt
        have HRT := hid hrt
        have q1 := vI_bd (0 - d)
        have q2 := vI_bd p
        have m1 := (mul_bd q1.1 q1.2 q2.1 q2.2).1
        have m2 := (mul_bd q1.1 q1.2 q2.1 q2.2).2
        have HM1 := hid hM1
        have HO1 := hid Oq
        clear hp hvt hrt hwt hM1
        go_wp2_with fail
        refine (num_any (vI (0 - d) * vI p) _).mono ?_
        rintro e w' ⟨rfl, rfl⟩
        rw [← vI_mul]
        clear m1 m2
        go_wp2_with fail
        refine wp_region_start (by kernel_rfl) ?_
        refine wpAny_take (i := 0) (v := ?_) rfl (by kernel_rfl) (by kernel_rfl) (by kernel_rfl) (fun _ _ _ h => h) (Or.inl ⟨by rfl, ?_⟩) ?_
        rotate_left
        (intro wz; go_simp; try with_reducible rfl)
        try simp only [List.getElem_toArray, List.getElem_cons_zero, Act.put, List.setIfInBounds_toArray, List.set_cons_zero, List.set_cons_succ]
        refine wpAny_take (i := 1) (v := ?_) rfl (by kernel_rfl) (by kernel_rfl) (by kernel_rfl) (fun _ _ _ h => h) (Or.inl ⟨by rfl, ?_⟩) ?_
        rotate_left
        (intro wz; go_simp; try with_reducible rfl)
        try simp only [List.getElem_toArray, List.getElem_cons_zero, List.getElem_cons_succ, Act.put, List.setIfInBounds_toArray, List.set_cons_zero, List.set_cons_succ]
        refine wpAny_order [2, 3, 4, 5, 6, 7, 8, 9, 10, 11, 12, 13] 14 [15, 16] (by rfl) (by kernel_rfl) ?_
        simp only [pickOps, List.filterMap_cons, List.filterMap_nil, List.getElem?_toArray, List.getElem?_cons_succ, List.getElem?_cons_zero]
        repeat still_step
        still_call (still_sameL (inv_any _ _ (by omega) (by omega)))
        repeat still_step
        refine wpStill_nil ?_
        change wpList _ _ _ _ _ wq.drew
        clear hpt hct
        go_wp2_with fail
        refine (scaled_any n (M1 t) (invM (vI p)) _ _ (HRT.out.mono (below_drew _))).mono ?_
        rintro e w2 ⟨r2, rfl, O2, B2⟩
        have B2' : Below wq.heap.size wq w2 := (below_drew wq).trans B2
        obtain ⟨ao2, cap2, rfl, -, -⟩ := O2.rd.formL
        have h3 := HO1.out.outer t (by rw [matL_length]; exact ht) (grownBy_of_below B2' _)
        have c3 := h3.1
        have f3 := h3.2.1
        have g3 := h3.2.2
        clear h3
        obtain ⟨O4, -⟩ := HO1.out.put t (by rw [matL_length]; exact ht) (grownBy_of_below B2' _) (O2.lower Bq.size) (.inr fun b hb => (O2.own_lt b hb).1)
        rw [matL_set] at O4
        obtain ⟨M2, hM2⟩ : ∃ M2, M2 = setR M1 t (PS.smul (fI (invM (vI p))) (M1 t)) := ⟨_, rfl⟩
        rw [← hM2] at O4
        have HM2 := hid hM2
        have B4 := (nx Bq B2').setCell (p := ⟨g, t, none⟩) hgB (.slice ao2 n cap2)
        clear hM2 B2 B2' O2
        go_wp2_with fail
        go_loopw [100] (fun i wr => ∃ (r : Nat) (us' : List Value), r ≤ m ∧ i = .int .i64 r ∧ Own2 w.heap.size wr (.slice (some ⟨g, 0, none⟩) m cap) us' (matL m n (clearR M2 t k r)) ∧ Below w.heap.size w wr) (fun i _ => m - (intOf i).toNat)
        case atStart => exact ⟨0, _, Nat.zero_le _, rfl, by rw [clearR_zero]; exact O4, B4⟩
        case round =>
          obtain ⟨r, us', hr, rfl, O5, B5⟩ := hrel
          have HO5 := hid O5
          clear O4 B4 c3 f3 g3
          by_cases hrm : r < m
          · by_cases hrt : r = t
            · have hb : ((r : Int) != (t : Int)) = false := by rw [hrt]; simp
              have HR := hid hrt
              clear hrt
              go_wp2_with fail
              go_roundw
              case rel => exact ⟨r + 1, us', by omega, by go_num, by rw [clearR_succ, if_pos HR.out]; exact HO5.out, B5⟩
              case measure => simp [intOf]; omega
            · have hb : ((r : Int) != (t : Int)) = true := by simp; omega
              have HR := hid hrt
              clear hrt
              have w1r := HO5.out.own r (by rw [matL_length]; exact hrm)
              have w1t := HO5.out.own t (by rw [matL_length]; exact ht)
              rw [matL_row m n _ r hrm] at w1r
              rw [matL_row m n _ t ht] at w1t
              have c1r := HO5.out.cell r (by rw [matL_length]; exact hrm)
              have c1t := HO5.out.cell t (by rw [matL_length]; exact ht)
              obtain ⟨aor, capr, hvr, -, -⟩ := w1r.rd.formL
              obtain ⟨aot', capt', hvt', -, -⟩ := w1t.rd.formL
              have R1 := w1r.rd
              have R2 := w1t.rd
              rw [hvr] at c1r R1
              rw [hvt'] at c1t R2
              obtain ⟨br, offr, rfl, hpr⟩ := R1.at_ (k := k) (by rw [lst_length]; exact hk)
              rw [lst_el _ _ _ hk] at hpr
              have HR1 := hid R1
              have HR2 := hid R2
              have q3 := vI_bd (clearR M2 t k r r k)
              obtain ⟨pr, hpr'⟩ : ∃ pr, pr = clearR M2 t k r r k := ⟨_, rfl⟩
              rw [← hpr'] at hpr q3
              have HPR := hid hpr'
              clear w1r w1t hvr hvt' R1 R2 hpr'
              go_wp2_with fail
              refine wp_region_start (by kernel_rfl) ?_
              refine wpAny_take (i := 0) (v := ?_) rfl (by kernel_rfl) (by kernel_rfl) (by kernel_rfl) (fun _ _ _ h => h) (Or.inl ⟨by rfl, ?_⟩) ?_
              rotate_left
              (intro wz; go_simp; try with_reducible rfl)
              try simp only [List.getElem_toArray, List.getElem_cons_zero, Act.put, List.setIfInBounds_toArray, List.set_cons_zero, List.set_cons_succ]
              refine wpAny_take (i := 1) (v := ?_) rfl (by kernel_rfl) (by kernel_rfl) (by kernel_rfl) (fun _ _ _ h => h) (Or.inl ⟨by rfl, ?_⟩) ?_
              rotate_left
              (intro wz; go_simp; try with_reducible rfl)
              try simp only [List.getElem_toArray, List.getElem_cons_zero, List.getElem_cons_succ, Act.put, List.setIfInBounds_toArray, List.set_cons_zero, List.set_cons_succ]
              refine wpAny_order [2, 3, 4, 5, 6, 7, 8, 9, 10, 11, 12, 13, 14, 15, 16, 17] 18 [19, 20] (by rfl) (by kernel_rfl) ?_
              simp only [pickOps, List.filterMap_cons, List.filterMap_nil, List.getElem?_toArray, List.getElem?_cons_succ, List.getElem?_cons_zero]
              repeat still_step
              refine wpStill_nil ?_
              change wpList _ _ _ _ _ wr.drew
              clear hpr c1r c1t
              go_wp2_with fail
              refine (plus_any n (clearR M2 t k r r) (clearR M2 t k r t) (-vI pr) _ _ _ (HR1.out.mono (below_drew _)) (HR2.out.mono (below_drew _))).mono ?_
              rintro e w6 ⟨r6, rfl, O6, B6⟩
              have B6' : Below wr.heap.size wr w6 := (below_drew wr).trans B6
              obtain ⟨ao6, cap6, rfl, -, -⟩ := O6.rd.formL
              have h3 := HO5.out.outer r (by rw [matL_length]; exact hrm) (grownBy_of_below B6' _)
              have c3 := h3.1
              have f3 := h3.2.1
              have g3 := h3.2.2
              clear h3
              obtain ⟨O7, -⟩ := HO5.out.put r (by rw [matL_length]; exact hrm) (grownBy_of_below B6' _) (O6.lower B5.size) (.inr fun b hb => (O6.own_lt b hb).1)
              rw [matL_set, fI_neg, HPR.out] at O7
              have B7 := (nx B5 B6').setCell (p := ⟨g, r, none⟩) hgB (.slice ao6 n cap6)
              have E7 : Hid (setR (clearR M2 t k r) r (PS.add (clearR M2 t k r r) (PS.smul (-clearR M2 t k r r k) (clearR M2 t k r t))) = clearR M2 t k (r + 1)) := by
                simp only [Hid]; rw [clearR_succ, if_neg HR.out]; rfl
              rw [E7.out] at O7
              have HO7 := hid O7
              clear O7 B6 O6 B6'
              go_wp2_with fail
              go_roundw
              case rel => exact ⟨r + 1, _, by omega, by go_num, HO7.out, B7⟩
              case measure => simp [intOf]; omega
          · obtain rfl : r = m := by omega
            go_wp2_with fail
            go_roundw
            case rel =>
              refine ⟨k + 1, _, (0 - d) * p, t + 1, us', ?_, by omega, by omega, rfl, by go_num, by go_num, HO5.out, B5⟩
              simp only [Hid]
              rw [← HR0.out, redTo_go hk ht, redStep_swap HP.out hjm hjt, HM2.out, HPP.out, HM1.out]
              rfl
            case measure => simp [intOf]; omega
  
end Go.Proofs.Ytmhcpaffdchboaa
