/-
  The walk of the reference's InverseMatrix.
-/
import Derived.Test.YtmhcpaffdchboaaSolS
import Derived.Test.YtmhcpaffdchboaaInvTop
import Derived.Deep.RegionLaw
namespace Go.Proofs.Ytmhcpaffdchboaa
open Go.RowKit
set_option maxRecDepth 100000
/-- Rows of k numbers, those ahead of the row i with one more. -/
def prefLL (n : Nat) (V : Mt) (k i : Nat) : List (List Int) := (List.range n).map fun r => lst (if r < i then k + 1 else k) (V r)
theorem prefLL_length (n : Nat) (V : Mt) (k i : Nat) : (prefLL n V k i).length = n := by simp [prefLL]
theorem prefLL_row (n : Nat) (V : Mt) (k i r : Nat) (h : r < n) : rowAt (prefLL n V k i) r = lst (if r < i then k + 1 else k) (V r) := by simp [prefLL, rowAt, h]
theorem prefLL_set (n : Nat) (V : Mt) (k i : Nat) : (prefLL n V k i).set i (lst (k + 1) (V i)) = prefLL n V k (i + 1) := by
  apply List.ext_getElem (by simp [prefLL])
  intro r h1 h2
  have hr : r < n := by simpa [prefLL] using h2
  rw [List.getElem_set]
  simp only [prefLL, List.getElem_map, List.getElem_range]
  by_cases hir : i = r
  · subst hir; rw [if_pos rfl, if_pos (by omega)]
  · rw [if_neg hir]
    by_cases hlt : r < i
    · rw [if_pos hlt, if_pos (by omega)]
    · rw [if_neg hlt, if_neg (by omega)]
theorem prefLL_next (n : Nat) (V : Mt) (k : Nat) : prefLL n V k n = prefLL n V (k + 1) 0 := by
  unfold prefLL
  apply List.map_congr_left
  intro r hr
  rw [List.mem_range] at hr
  rw [if_pos hr, if_neg (by omega)]
theorem prefLL_none (n : Nat) (V : Mt) : prefLL n V 0 0 = List.replicate n [] := by
  apply List.ext_getElem (by simp [prefLL])
  intro r h1 h2
  simp [prefLL, lst_zero]
theorem prefLL_all (n : Nat) (V : Mt) : prefLL n V n 0 = matL n n V := by
  unfold prefLL matL
  apply List.map_congr_left
  intro r _
  rw [if_neg (by omega)]
set_option maxHeartbeats 4000000 in
theorem sInverseMatrix_any (v : Value) (a : List (List Int)) (w : World) (h : RdII w v a) (_ : tot a ≤ 1048576) :
    Calls Try.prog 18 #[v] w fun e w' => ∃ r, e = .returned (.tuple #[r, .int .i64 (invR a).2]) ∧ OwnII w.heap.size w' r (invR a).1 ∧ Below w.heap.size w w' := by
  have H := hid h
  obtain ⟨ao, cap, vs, rfl, hcap, hmax, -⟩ := h
  cases ha : isMat a with
  | false =>
    have HA : Hid (matC a = 1) := by simp [Hid, matC, ha]
    have HR : Hid (invR a = ([], 1)) := by simp [Hid, invR, ha]
    clear ha
    go_enter Try.func18, Try.ntmps18
    go_wp2_with (go_at_call 36; refine (l01Matrix_any _ a _ H.out).mono ?_; rintro e w1 ⟨rfl, D1⟩; rw [HA.out]; have B1 := D1.below w.heap.size)
    go_ret2
    rw [HR.out]
    exact ⟨_, rfl, ⟨[], Own2.nil _ _⟩, B1⟩
  | true =>
    have HA : Hid (matC a = 0) := by simp [Hid, matC, ha]
    have HY := hid ha
    have m1 := isMat_yes ha
    have hapos := m1.1
    have ha8 := m1.2.1
    have HM := hid (isMat_matL ha)
    clear ha m1
    obtain ⟨g, off, x, rfl, hcell0, hx⟩ := H.out.at_ hapos
    obtain ⟨aox, capx, rfl⟩ := hx.form
    rw [Nat.add_zero] at hcell0
    have HC := hid hcell0
    have hg := World.block_lt_of_cell? _ _ hcell0
    clear hx hcell0
    by_cases hf : a.length = (rowAt a 0).length
    rotate_left
    · have HR : Hid (invR a = ([], 5)) := by simp only [Hid]; unfold invR; rw [if_pos HY.out, if_neg (fun h => hf h.1)]
      have hn : ((a.length : Int) != ((rowAt a 0).length : Int)) = true := by simp; omega
      clear hf HM
      go_enter Try.func18, Try.ntmps18
      go_wp2_with fail
      refine (l01Matrix_any _ a _ H.out).mono ?_; rintro e w1 ⟨rfl, D1⟩; rw [HA.out]; have B1 := D1.below w.heap.size
      have hcell1 := (B1.cell (p := ⟨g, off, none⟩) hg).trans HC.out
      go_wp2
      go_ret2
      rw [HR.out]
      exact ⟨_, rfl, ⟨[], Own2.nil _ _⟩, B1⟩
    have hn : ((a.length : Int) != ((rowAt a 0).length : Int)) = false := by rw [← hf]; simp
    have HN : Hid (RdII w (.slice (some ⟨g, off, none⟩) a.length cap) (matL a.length a.length (mtOf a))) := by
      have := HM.out; rw [← hf] at this; simp only [Hid]; rw [← this]; exact H.out
    have HF := hid hf
    by_cases hd : det a.length (mtOf a) = 0
    · have HR : Hid (invR a = ([], 5)) := by simp only [Hid]; unfold invR; rw [if_pos HY.out, if_neg (fun h => h.2 hd)]
      have HD := hid hd
      clear hf HM hd
      go_enter Try.func18, Try.ntmps18
      go_wp2_with fail
      refine (l01Matrix_any _ a _ H.out).mono ?_; rintro e w1 ⟨rfl, D1⟩; rw [HA.out]; have B1 := D1.below w.heap.size
      have hcell1 := (B1.cell (p := ⟨g, off, none⟩) hg).trans HC.out
      go_wp2_with fail
      refine (l01Det_all _ (by omega) _ _ _ (HN.out.mono B1)).mono ?_; rintro e w2 ⟨rfl, B2⟩
      rw [HD.out, vI_zero]
      go_wp2_with fail
      go_ret2
      rw [HR.out]
      exact ⟨_, rfl, ⟨[], Own2.nil _ _⟩, nx B1 B2⟩
    have HR : Hid (invR a = (matL a.length a.length (invMt a.length (mtOf a)), 0)) := by simp only [Hid]; unfold invR; rw [if_pos HY.out, if_pos ⟨hf, hd⟩]
    obtain ⟨A, hA⟩ : ∃ A, A = mtOf a := ⟨_, rfl⟩
    rw [← hA] at HN HR hd
    obtain ⟨n, hnn⟩ : ∃ n, n = a.length := ⟨_, rfl⟩
    rw [← hnn] at hn hapos ha8 HN HR hd hmax hcap
    have HNN := hid hnn
    have HAD := hid hd
    obtain ⟨D, hD⟩ : ∃ D, D = det n A := ⟨_, rfl⟩
    have HDD := hid hD
    rw [← hD] at hd
    have hdb : (vI D == 0) = false := by simpa using vI_ne hd
    have HINV : Hid (∀ k j, k < n → j < n → det n (setC A j (fun r => if r = k then 1 else 0)) * fi D = invMt n A j k) := fun k j hk hj => by rw [hD]; exact inv_cramer HAD.out k j hk hj
    have HCD : Hid (∀ w', Below w.heap.size w w' → Calls Try.prog 41 #[.slice (some ⟨g, off, none⟩) n cap] w' fun e w'' => e = .returned (.int .i64 (vI D)) ∧ Below w'.heap.size w' w'') := fun w' hb => by rw [hD]; exact l01Det_all n (by omega) A _ _ (HN.out.mono hb)
    have H2 : Hid (RdII w (.slice (some ⟨g, off, none⟩) n cap) a) := by rw [hnn]; exact H.out
    rw [← hnn] at hf ⊢
    clear hnn hA HM hD hd hf H
    obtain ⟨V, hV⟩ : ∃ V, V = invMt n A := ⟨_, rfl⟩
    rw [← hV] at HR HINV
    clear hV
    obtain ⟨i0, hi, hz0, hz1, hz2⟩ := info_parts infoLL'
    have hmk := fun W => run_make_row' (P := Try.prog) 32 2 (.int .i64 0) 8 Try.underlying32 info_i64 rfl .i64 .i64 n (by omega) (by omega) W
    go_enter Try.func18, Try.ntmps18
    go_wp2_with fail
    refine (l01Matrix_any _ a _ H2.out).mono ?_; rintro e w1 ⟨rfl, D1⟩; rw [HA.out]; have B1 := D1.below w.heap.size
    have hcell1 := (B1.cell (p := ⟨g, off, none⟩) hg).trans HC.out
    go_wp2_with fail
    refine (HCD.out _ B1).mono ?_; rintro e w2 ⟨rfl, B2⟩
    have B12 := nx B1 B2
    clear hcell1
    go_wp2_with (at_make; refine wpList_make_full _ rfl _ _ _ rfl w2.heap.size 32 i0 _ 1 Try.underlying22 hi hz0 hz1 _ _ _ _ n rfl rfl rfl rfl ?c1 ?c2 ?c3 ?_)
    case c1 => rw [hz2]; omega
    case c2 => unfold maxLen; omega
    case c3 => exact Nat.le_refl _
    intro w3 hown hgrow
    have O1 : Own2 w.heap.size w3 (.slice (some ⟨w2.heap.size, 0, none⟩) n n) (List.replicate n (.slice none 0 0)) (prefLL n V 0 0) := by
      rw [prefLL_none]
      refine Own2.lower (Own2.made ?_ hmax) B12.size
      rw [toList_madeCells_one] at hown
      simpa using hown
    have B3 : Below w.heap.size w w3 := B12.trans (((Below.refl _ _).grown hgrow (Nat.le_refl _) (by simp)).mono B12.size)
    have hgg : w.heap.size ≤ w2.heap.size := B12.size
    generalize w2.heap.size = g2 at O1 hgg ⊢
    clear hown hgrow hz2 hz1 hz0 hi B12 B2
    go_wp2
    go_loopw [5] (fun k wr => ∃ (k0 : Nat) (us : List Value), k0 ≤ n ∧ k = .int .i64 k0 ∧ Own2 w.heap.size wr (.slice (some ⟨g2, 0, none⟩) n n) us (prefLL n V k0 0) ∧ Below w.heap.size w wr) (fun k _ => n - (intOf k).toNat)
    case atStart => exact ⟨0, _, Nat.zero_le _, rfl, O1, B3⟩
    case round =>
      clear O1 B3
      obtain ⟨k0, us, hk, rfl, O, Bl⟩ := hrel
      by_cases hlt : k0 < n
      · have hlt' : (k0 : Int) < (n : Int) := by omega
        have P1 := OwnI.madeL wr n (by omega) wr.heap.size wr.heap.size rfl (Nat.le_refl _)
        have k1 := P1.cellL k0 hlt
        have f1 := P1.free k0
        obtain ⟨O2, G2⟩ := P1.putL k0 1
        have A1 := below_alloc wr (.cells (madeCells #[Value.int .i64 0] n) 2)
        have A2 : Below wr.heap.size wr ((wr.alloc (.cells (madeCells #[Value.int .i64 0] n) 2)).setCell ⟨wr.heap.size, k0, none⟩ (.int .i64 (vI 1))) := A1.grown G2 (by simp) (by simp)
        rw [vI_one] at O2 A2
        rw [vI_zero] at k1
        have hset : (wr.alloc (.cells (madeCells #[Value.int .i64 0] n) 2)).setCell ⟨wr.heap.size, k0, none⟩ (.int .i64 1) = wr.alloc (.cells ((madeCells #[Value.int .i64 0] n).setIfInBounds k0 (.int .i64 1)) 2) := World.setCell_alloc_at _ _ _ _ _ rfl
        rw [hset] at O2 A2
        have HO := hid O
        have HP := hid O2.rd
        have HA2 := hid A2
        have bw0 := Bl.size
        clear hset G2 A1 A2 P1 O O2
        go_wp2_with fail
        refine (l01Solve_any n A (fun i => if i = k0 then 1 else 0) _ _ _ (HN.out.mono (nx Bl HA2.out)) HP.out hapos (by omega)).mono ?_
        rintro e w4 ⟨r, b, rfl, hb, hr, B4⟩
        have hbt := hb.2 HAD.out
        subst hbt
        have R1 := hr rfl
        rw [← HDD.out, lst_congr (g := fun j => V j k0) (fun j hj => HINV.out k0 j hlt hj)] at R1
        have HRD := hid R1
        obtain ⟨aor, capr, rfl, -, -⟩ := R1.rd.formL
        have BA := nx HA2.out B4
        have O5 := HO.out.mono BA
        have BU := nx Bl BA
        obtain ⟨gr, rfl⟩ := R1.addr (by rw [lst_length]; omega)
        have hrl := R1.glt
        have hog := HO.out.glt
        have ha2 := HA2.out.size
        have OR := R1.lower (Nat.le_trans bw0 ha2)
        have PR : Hid (∀ j, j < n → Parted (vat us j) (.slice (some ⟨gr, 0, none⟩) n capr)) := fun j hj => (parted_lt wr.heap.size (fun b hb => Nat.le_trans ha2 (R1.own_lt b hb).1) (fun b hb => ((HO.out.own j (by rw [prefLL_length]; exact hj)).own_lt b hb).2)).symm
        have hgrg : gr ≠ g2 := by omega
        clear hb hr R1 hrl hog ha2
        go_wp2
        go_loopw [9] (fun i wx => ∃ (j0 : Nat) (us' : List Value), j0 ≤ n ∧ i = .int .i64 j0 ∧ Own2 w.heap.size wx (.slice (some ⟨g2, 0, none⟩) n n) us' (prefLL n V k0 j0) ∧ Below w.heap.size w wx ∧ OwnI w.heap.size wx (.slice (some ⟨gr, 0, none⟩) n capr) (lst n (fun j => V j k0)) ∧ Hid (∀ j, j < n → Parted (vat us' j) (.slice (some ⟨gr, 0, none⟩) n capr))) (fun i _ => n - (intOf i).toNat)
        case atStart => exact ⟨0, us, Nat.zero_le _, rfl, O5, BU, OR, PR⟩
        case round =>
          clear O5 BU OR PR BA HO HA2 HP HRD
          obtain ⟨j0, us', hj, rfl, O7, B7, R7, P7⟩ := hrel
          by_cases hjn : j0 < n
          · have hjn' : (j0 : Int) < (n : Int) := by omega
            have hcr := R7.cellL j0 hjn
            have hjl : j0 < (prefLL n V k0 j0).length := by rw [prefLL_length]; exact hjn
            have hco := O7.cell j0 hjl
            have hvo := O7.own j0 hjl
            rw [prefLL_row _ _ _ _ _ hjn, if_neg (by omega)] at hvo
            obtain ⟨aoi, capi, hvi, -, -⟩ := hvo.rd.formL
            have HP7 : Hid (Parted (.slice aoi k0 capi) (.slice (some ⟨gr, 0, none⟩) n capr)) := by simp only [Hid]; rw [← hvi]; exact P7.out j0 hjn
            have hv2 := hvo
            rw [hvi] at hco hv2
            have OV := (hv2.mono (below_alloc wr (.cells #[.int .i64 (vI (V j0 k0))] 2))).mono (below_drew _)
            have OX := (O7.mono (below_alloc wr (.cells #[.int .i64 (vI (V j0 k0))] 2))).mono (below_drew _)
            have RX := (R7.mono (below_alloc wr (.cells #[.int .i64 (vI (V j0 k0))] 2))).mono (below_drew _)
            have BX := (B7.alloc B7.size (.cells #[.int .i64 (vI (V j0 k0))] 2)).drew
            have HOV := hid OV
            have HOX := hid OX
            have HRX := hid RX
            have HBX := hid BX
            have HVI := hid hvi
            have hll : (lst k0 (V j0)).length < 1048576 := by rw [lst_length]; omega
            have hbs := B7.size
            have hco2 := ((below_alloc wr (.cells #[.int .i64 (vI (V j0 k0))] 2)).cell (p := ⟨g2, j0, none⟩) (World.block_lt_of_cell? _ _ hco)).trans hco
            have hcr2 := ((below_alloc wr (.cells #[.int .i64 (vI (V j0 k0))] 2)).cell (p := ⟨gr, j0, none⟩) (World.block_lt_of_cell? _ _ hcr)).trans hcr
            clear hvo hv2 OV OX RX BX hvi O7 R7
            go_wp2_with fail
            go_region_law (refine step_appW (v := .slice aoi k0 capi) (by rfl) _ _ _ (by rfl) Try.underlying32 info_i64 (by rfl) HOV.out ⟨wr.heap.size, 0, none⟩ 1 (vI (V j0 k0)) (by rfl) (cell_new1 _ _ _) hll (by simp; omega) ?_; intro v' W1 O6 G6 B6 Q6; replace O6 := O6.snoc rfl; obtain ⟨ao6, cap6, rfl, -, -⟩ := O6.rd.formL; have h3 := HOX.out.outer j0 hjl (by rw [HVI.out]; exact G6); have c3 := h3.1; have f3 := h3.2.1; have g3 := h3.2.2; clear h3; have HG6 := hid G6; have HO6 := hid O6; have HQ6 := hid Q6; have HB6 := hid B6; clear G6 O6 Q6 B6)
            all_goals (go_wp2; go_roundw)
            case rel =>
              have hq := HQ6.out
              obtain ⟨E8, G8⟩ := HOX.out.put j0 hjl (by rw [HVI.out]; exact HG6.out) HO6.out (by rw [HVI.out]; exact hq.imp id (fun h b hb => by rw [h] at hb; exact Nat.le_of_eq (Option.some.inj hb)))
              rw [prefLL_set] at E8
              have R8 := (HRX.out.grown HG6.out HP7.out.symm.ne).grown G8 (.inr (by simp [Value.ownBlock]; exact hgrg))
              have B8 := (HBX.out.trans HB6.out).setCell (p := ⟨g2, j0, none⟩) hgg (.slice ao6 (k0 + 1) cap6)
              have hgr1 : gr < ((wr.alloc (.cells #[.int .i64 (vI (V j0 k0))] 2)).drew).heap.size := HRX.out.glt.2
              have PN : Parted (.slice ao6 (k0 + 1) cap6) (.slice (some ⟨gr, 0, none⟩) n capr) := fun b e1 e2 => by
                rcases hq with hq | hq
                · exact HP7.out b (by rw [← hq]; exact e1) e2
                · rw [hq] at e1; simp [Value.ownBlock] at e1 e2; subst e2; simp at hgr1; omega
              have P8 : Hid (∀ j, j < n → Parted (vat (us'.set j0 (.slice ao6 (k0 + 1) cap6)) j) (.slice (some ⟨gr, 0, none⟩) n capr)) := fun j hj => by
                rw [vat_set]
                split
                · exact PN
                · exact P7.out j hj
              exact ⟨j0 + 1, _, by omega, by go_num, E8, B8, R8, P8⟩
            case measure => simp [intOf]; omega
            case rel =>
              have hq := HQ6.out
              obtain ⟨E8, G8⟩ := HOX.out.put j0 hjl (by rw [HVI.out]; exact HG6.out) HO6.out (by rw [HVI.out]; exact hq.imp id (fun h b hb => by rw [h] at hb; exact Nat.le_of_eq (Option.some.inj hb)))
              rw [prefLL_set] at E8
              have R8 := (HRX.out.grown HG6.out HP7.out.symm.ne).grown G8 (.inr (by simp [Value.ownBlock]; exact hgrg))
              have B8 := (HBX.out.trans HB6.out).setCell (p := ⟨g2, j0, none⟩) hgg (.slice ao6 (k0 + 1) cap6)
              have hgr1 : gr < ((wr.alloc (.cells #[.int .i64 (vI (V j0 k0))] 2)).drew).heap.size := HRX.out.glt.2
              have PN : Parted (.slice ao6 (k0 + 1) cap6) (.slice (some ⟨gr, 0, none⟩) n capr) := fun b e1 e2 => by
                rcases hq with hq | hq
                · exact HP7.out b (by rw [← hq]; exact e1) e2
                · rw [hq] at e1; simp [Value.ownBlock] at e1 e2; subst e2; simp at hgr1; omega
              have P8 : Hid (∀ j, j < n → Parted (vat (us'.set j0 (.slice ao6 (k0 + 1) cap6)) j) (.slice (some ⟨gr, 0, none⟩) n capr)) := fun j hj => by
                rw [vat_set]
                split
                · exact PN
                · exact P7.out j hj
              exact ⟨j0 + 1, _, by omega, by go_num, E8, B8, R8, P8⟩
            case measure => simp [intOf]; omega
            case rel =>
              have hq := HQ6.out
              obtain ⟨E8, G8⟩ := HOX.out.put j0 hjl (by rw [HVI.out]; exact HG6.out) HO6.out (by rw [HVI.out]; exact hq.imp id (fun h b hb => by rw [h] at hb; exact Nat.le_of_eq (Option.some.inj hb)))
              rw [prefLL_set] at E8
              have R8 := (HRX.out.grown HG6.out HP7.out.symm.ne).grown G8 (.inr (by simp [Value.ownBlock]; exact hgrg))
              have B8 := (HBX.out.trans HB6.out).setCell (p := ⟨g2, j0, none⟩) hgg (.slice ao6 (k0 + 1) cap6)
              have hgr1 : gr < ((wr.alloc (.cells #[.int .i64 (vI (V j0 k0))] 2)).drew).heap.size := HRX.out.glt.2
              have PN : Parted (.slice ao6 (k0 + 1) cap6) (.slice (some ⟨gr, 0, none⟩) n capr) := fun b e1 e2 => by
                rcases hq with hq | hq
                · exact HP7.out b (by rw [← hq]; exact e1) e2
                · rw [hq] at e1; simp [Value.ownBlock] at e1 e2; subst e2; simp at hgr1; omega
              have P8 : Hid (∀ j, j < n → Parted (vat (us'.set j0 (.slice ao6 (k0 + 1) cap6)) j) (.slice (some ⟨gr, 0, none⟩) n capr)) := fun j hj => by
                rw [vat_set]
                split
                · exact PN
                · exact P7.out j hj
              exact ⟨j0 + 1, _, by omega, by go_num, E8, B8, R8, P8⟩
            case measure => simp [intOf]; omega
          · obtain rfl : j0 = n := by omega
            have hf : decide ((j0 : Int) < (j0 : Int)) = false := by simp
            rw [prefLL_next] at O7
            go_wp2_with fail
            go_roundw
            case rel => exact ⟨k0 + 1, us', by omega, by go_num, O7, B7⟩
            case measure => simp [intOf]; omega
      · obtain rfl : k0 = n := by omega
        have hf : decide ((k0 : Int) < (k0 : Int)) = false := by simp
        rw [prefLL_all] at O
        go_wp2_with fail
        go_ret2
        rw [HR.out]
        exact ⟨_, rfl, ⟨us, O⟩, Bl⟩
end Go.Proofs.Ytmhcpaffdchboaa
