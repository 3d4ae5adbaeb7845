/-
  The walk of the solution of a linear system.
-/
import Derived.Test.YtmhcpaffdchboaaMatInv
import Derived.Test.YtmhcpaffdchboaaMatCol
namespace Go.Proofs.Ytmhcpaffdchboaa
open Go.RowKit
set_option maxRecDepth 100000
theorem lst_wide (n : Nat) (A : Mt) (b : Nat → F) (r : Nat) : lst n (A r) ++ [vI (b r)] = lst (n + 1) (wideM n A b r) := by
  rw [lst_snoc]
  congr 1
  · exact lst_congr fun c hc => by simp only [wideM]; rw [if_pos hc]
  · simp only [wideM]; rw [if_neg (by omega)]
set_option maxHeartbeats 4000000 in
theorem solve_any (m n : Nat) (A : Mt) (x : Nat → F) (v u : Value) (w : World) (h : RdII w v (matL m n A)) (h' : RdI w u (lst m x)) (hm1 : 1 ≤ m) (hm : m ≤ 32) (hn1 : 1 ≤ n) (hn : n ≤ 32) :
    Calls Try.prog 50 #[v, u] w fun e w' => ∃ r b, e = .returned (.tuple #[r, .bool b]) ∧ (b = true ↔ okS m n A x) ∧ (b = true → OwnI w.heap.size w' r (lst n (solS m n A x))) ∧ Below w.heap.size w w' := by
  have H := hid h
  have H' := hid h'
  obtain ⟨ao, cap, rfl, hcap, hmax⟩ := h.formM
  obtain ⟨ao', cap', rfl, hcap', hmax'⟩ := h'.formL
  obtain ⟨b0, off0, u0, rfl, hcell0, hu0⟩ := h.at_ (k := 0) (by rw [matL_length]; omega)
  rw [matL_row _ _ _ _ (by omega)] at hu0
  obtain ⟨aou0, capu0, rfl, -, -⟩ := hu0.formL
  rw [Nat.add_zero] at hcell0
  have l0 := World.block_lt_of_cell? _ _ hcell0
  have hm0 : 0 < m := by omega
  clear h h' hu0
  go_enter Try.func50, Try.ntmps50
  go_wp2_with fail
  go_region_held3 (fun w' => w'.cell? ⟨b0, off0, none⟩ = some (.slice aou0 n capu0)) (go_keep) (fail)
  go_wp2_with fail
  clear hcell0
  go_loopw [6, 19] (fun r i wr => ∃ (k : Nat) (us : List Value), k ≤ m ∧ i = .int .i64 k ∧ Own2 w.heap.size wr r us (matL k (n + 1) (wideM n A x)) ∧ Below w.heap.size w wr) (fun _ i _ => m - (intOf i).toNat)
  case atStart => exact ⟨0, [], Nat.zero_le _, rfl, (Own2.lit w _ (Nat.le_refl _)).mono (below_drew _), (below_alloc _ _).drew⟩
  case round =>
    obtain ⟨k, us, hk, rfl, O, Bl⟩ := hrel
    by_cases hlt : k < m
    · obtain ⟨_, _, u, e1, hcell, hu⟩ := (H.out.mono Bl).at_ (k := k) (by rw [matL_length]; omega)
      cases e1
      rw [matL_row _ _ _ _ hlt] at hu
      obtain ⟨aou, capu, rfl, hcu, -⟩ := hu.formL
      obtain ⟨br, offr, rfl, hpw⟩ := H'.out.at_ (k := k) (by rw [lst_length]; exact hlt)
      rw [lst_el _ _ _ hlt] at hpw
      have lrw := World.block_lt_of_cell? _ _ hpw
      have HPW := hid hpw
      have hpr := (Bl.cell (p := ⟨br, offr + k, none⟩) lrw).trans hpw
      clear hpw
      have lr := World.block_lt_of_cell? _ _ hpr
      have HU := hid hu
      have HO := hid O
      have hl1 : (lst n (A k)).length < 1048576 := by rw [lst_length]; omega
      have hp0 : 0 < (lst n (A k)).length := by rw [lst_length]; omega
      have ht1 : (matL k (n + 1) (wideM n A x)).length < 1048576 := by rw [matL_length]; omega
      have hmem : Hid (∀ x ∈ us, ∀ b, x.ownBlock = some b → b < wr.heap.size) := O.memb
      have bw0 := Bl.size
      have hW := hid (lst_wide n A x k)
      have hk' : (k : Int) < (m : Int) := by omega
      clear hu O
      go_wp2_with fail
      go_region_held3 (fun w' => w'.cell? ⟨br, offr + k, none⟩ = some (.int .i64 (vI (x k))))
        (first
          | go_keep
          | exact (B5.cell (p := ⟨br, offr + k, none⟩) lrw).trans HPW.out
          | (rw [B3.cell (p := ⟨br, offr + k, none⟩) (by have := B2.size; simp at this ⊢; omega)]; first | assumption | (go_keep))
          | (rw [B2.cell (p := ⟨br, offr + k, none⟩) (by simp; omega)]; first | assumption | (go_keep)))
        (first
          | (go_at_call 71; refine (clone_any _ (lst n (A k)) _ (by first | exact HU.out.mono (below_drew _) | exact (HU.out.mono (below_alloc _ _)).mono (below_drew _)) hp0).mono ?_; rintro e w2 ⟨r2, rfl, O2, B2⟩; obtain ⟨ao2, cap2, rfl, -, -⟩ := O2.rd.formL)
          | (refine step_app (by rfl) _ _ _ (by rfl) Try.underlying32 info_i64 (by rfl) (O2.mono (below_alloc _ _)) ⟨w2.heap.size, 0, none⟩ 1 (vI (x k)) (by rfl) (cell_new1 _ _ _) hl1 (by have := B2.size; simp at this ⊢; omega) ?_; intro v3 W3 O3 G3 B3; clear G3; have BQ := (((below_drew wr).trans B2).alloc (by have := B2.size; simp at this ⊢; omega) (.cells #[.int .i64 (vI (x k))] 2)).trans B3; rw [hW.out] at O3; obtain ⟨ao3, cap3, rfl, -, -⟩ := O3.rd.formL; have O5 := O3.lower (show wr.heap.size ≤ _ from Nat.le_refl _))
          | (refine step_app (by rfl) _ _ _ (by rfl) Try.underlying32 info_i64 (by rfl) O2 ⟨wr.heap.size, 0, none⟩ 1 (vI (x k)) (by rfl) ((B2.cell (p := ⟨wr.heap.size, 0, none⟩) (by simp)).trans (cell_new1 _ _ _)) hl1 B2.size ?_; intro v3 W3 O3 G3 B3; clear G3; have BQ := (((below_alloc wr (.cells #[.int .i64 (vI (x k))] 2)).drew).trans (B2.mono (by simp))).trans (B3.mono (by simp)); rw [hW.out] at O3; obtain ⟨ao3, cap3, rfl, -, -⟩ := O3.rd.formL; have O5 := O3.lower (show wr.heap.size ≤ _ from (by simp)))
          | (refine step_app2 (v := u6) (u := .slice ao3 (n + 1) cap3) (by rfl) _ _ _ (by rfl) Try.underlying22 infoLL' (by rfl) ((HO.out.mono BQ).mono (below_alloc _ _)) ⟨W3.heap.size, 0, none⟩ 1 (lst (n + 1) (wideM n A x k)) (by rfl) (cell_new1 _ _ _) ((O5.lower bw0).mono (below_alloc _ _)) (parted_lt wr.heap.size (fun b hb => (O5.own_lt b hb).1) (fun b hb => (HO.out.lt b hb).2)) (fun j' hj' => parted_lt wr.heap.size (fun b hb => (O5.own_lt b hb).1) (fun b hb => hmem.out _ (by rw [← vat_at us j' hj']; exact List.getElem_mem hj') b hb)) ht1 (by have := BQ.size; simp; omega) ?_; intro v' W1 O4 G4 B4 P4; clear G4 P4; have B5 := (((nx Bl BQ).alloc (Nat.le_trans bw0 BQ.size) (.cells #[.slice ao3 (n + 1) cap3] 32)).trans B4)))
      all_goals (rw [← matL_snoc] at O4; go_wp2; go_roundw)
      case rel => exact ⟨k + 1, _, by omega, by go_num, O4, B5⟩
      case measure => simp [intOf]; omega
      case rel => exact ⟨k + 1, _, by omega, by go_num, O4, B5⟩
      case measure => simp [intOf]; omega
    · obtain rfl : k = m := by omega
      have hd : decide ((k : Int) < (k : Int)) = false := by simp
      have HW := hid O.rd
      have HB := hid Bl
      obtain ⟨ao4, cap4, rfl⟩ := O.form
      rw [matL_length] at HW ⊢
      clear O Bl
      have HOK : Hid (okS k n A x ↔ (reduceR k (n + 1) (wideM n A x)).2.2 = n ∧ leadF ((reduceR k (n + 1) (wideM n A x)).1 (n - 1)) 0 (n + 1) = n - 1) := Iff.rfl
      have HSOL : Hid (∀ c, solS k n A x c = (reduceR k (n + 1) (wideM n A x)).1 c n) := fun _ => rfl
      go_wp2_with fail
      refine (reduce_any k (n + 1) (wideM n A x) _ _ HW.out hm1 (by omega) (by omega) (by omega)).mono ?_
      rintro e w1 ⟨g, cap1, us1, rfl, O1, ht, B1⟩
      generalize (reduceR k (n + 1) (wideM n A x)).2.2 = t at HOK ht O1 ⊢
      generalize (reduceR k (n + 1) (wideM n A x)).1 = R at HOK HSOL O1 ⊢
      have HRT := hid (O1.rdTake ht)
      have BW := nx HB.out B1
      clear O1
      by_cases htn : t = n
      · rw [htn] at HRT ⊢
        have hb : ((n : Int) != (n : Int)) = false := by simp
        obtain ⟨_, _, u, e1, hcell, hu⟩ := HRT.out.at_ (k := n - 1) (by rw [matL_length]; omega)
        cases e1
        rw [Nat.zero_add] at hcell
        rw [matL_row _ _ _ _ (by omega)] at hu
        obtain ⟨aou, capu, rfl, hcu, -⟩ := hu.formL
        obtain ⟨L, hL⟩ : ∃ L, L = leadF (R (n - 1)) 0 (n + 1) := ⟨_, rfl⟩
        have HLD := hid hL
        have HC1 : Hid (Calls Try.prog 70 #[.slice aou (n + 1) capu] w1 fun e w' => e = .returned (.int .i64 (L : Int)) ∧ w1 = w') := by
          simp only [Hid]; rw [hL]; exact lead_any (n + 1) (R (n - 1)) _ _ hu
        have s1 : IntKind.i64.wrap ((n : Int) - 1) = (n : Int) - 1 := IntWalk.i64_in _ (by omega)
        have s2 : 0 ≤ (n : Int) - 1 := by omega
        have s3 : ((n : Int) - 1).toNat = n - 1 := by omega
        have s4 : (n : Int) - 1 < (n : Int) := by omega
        have s5 : (1 : Int) ≤ (n : Int) := by omega
        have HT := hid htn
        clear hL hu htn
        by_cases hln : L = n - 1
        · have hb2 : ((L : Int) != (n : Int) - 1) = false := by simp; omega
          have HY : Hid (okS k n A x) := HOK.out.2 ⟨HT.out, by rw [← HLD.out]; exact hln⟩
          have HCOL : Hid (colL (matL n (n + 1) R) n = lst n (solS k n A x)) := by
            simp only [Hid, colL, matL, List.map_map, lst]
            apply List.map_congr_left
            intro c hc
            rw [HSOL.out]
            exact lst_el (n + 1) (R c) n (by omega)
          clear hln
          go_wp2_with fail
          refine HC1.out.mono ?_
          rintro e w' ⟨rfl, rfl⟩
          go_wp2_with fail
          refine (column_any _ (matL n (n + 1) R) n _ HRT.out (by intro k' hk'; rw [matL_length] at hk'; rw [matL_row _ _ _ _ hk', lst_length]; omega)).mono ?_
          rintro e w2 ⟨r2, rfl, O2, B2⟩
          rw [HCOL.out] at O2
          go_wp2
          go_ret2
          exact ⟨_, _, rfl, ⟨fun _ => HY.out, fun _ => rfl⟩, fun _ => O2.lower BW.size, nx BW B2⟩
        · have hb2 : ((L : Int) != (n : Int) - 1) = true := by simp; omega
          have HN : Hid (¬ okS k n A x) := fun ho => hln (by rw [HLD.out]; exact (HOK.out.1 ho).2)
          clear hln
          go_wp2_with fail
          refine HC1.out.mono ?_
          rintro e w' ⟨rfl, rfl⟩
          go_wp2_with fail
          go_ret2
          exact ⟨_, _, rfl, ⟨fun h => (by cases h), fun h => absurd h HN.out⟩, fun h => (by cases h), BW⟩
      · have hb : ((t : Int) != (n : Int)) = true := by simp; omega
        have HN : Hid (¬ okS k n A x) := fun ho => htn (HOK.out.1 ho).1
        clear htn
        go_wp2_with fail
        go_ret2
        exact ⟨_, _, rfl, ⟨fun h => (by cases h), fun h => absurd h HN.out⟩, fun h => (by cases h), BW⟩
end Go.Proofs.Ytmhcpaffdchboaa
