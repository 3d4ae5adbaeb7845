/-
  The walks of MultiplyMatrices.
-/
import Derived.Test.YtmhcpaffdchboaaMatMul
namespace Go.Proofs.Ytmhcpaffdchboaa
open Go.RowKit
set_option maxRecDepth 100000
def mmR (a b : List (List Int)) : List (List Int) × Int := if isMat a = true ∧ isMat b = true then (if (rowAt a 0).length = b.length then (mulTo a b a.length, 0) else ([], 5)) else ([], 1)
theorem mulTo_tot (a b : List (List Int)) (k n : Nat) (hk : k ≤ 8) (h : (rowAt b 0).length ≤ 8) (hn : 8 * k ≤ n) : tot (mulTo a b k) ≤ n := by
  induction k generalizing n with
  | zero => simp [mulTo, tot]
  | succ k ih =>
    rw [mulTo_succ, tot_append]
    have h1 := ih (8 * k) (by omega) (Nat.le_refl _)
    have h2 : tot [rowP a b k (rowAt b 0).length] = (rowAt b 0).length := by simp [tot, rowP_length]
    omega
theorem mmR_tot (a b : List (List Int)) : tot (mmR a b).1 ≤ 1048576 := by
  unfold mmR
  split
  · rename_i h
    split
    · exact mulTo_tot a b _ _ (isMat_yes h.1).2.1 (isMat_yes h.2).2.2.2.1 (by have := (isMat_yes h.1).2.1; omega)
    · simp [tot]
  · simp [tot]
theorem sMultiplyMatrices_any (v u : Value) (a b : List (List Int)) (w : World) (h : RdII w v a) (h' : RdII w u b) (_ : tot a ≤ 1048576) (_ : tot b ≤ 1048576) :
    Calls Try.prog 10 #[v, u] w fun e w' => ∃ r, e = .returned (.tuple #[r, .int .i64 (mmR a b).2]) ∧ OwnII w.heap.size w' r (mmR a b).1 ∧ Below w.heap.size w w' := by
  have H := hid h
  have H' := hid h'
  obtain ⟨ao, cap, vs, rfl, hcap, hmax, -⟩ := h
  obtain ⟨ao', cap', vs', rfl, hcap', hmax', -⟩ := h'
  cases ha : isMat a with
  | false =>
    have HA : Hid (matC a = 1) := by simp [Hid, matC, ha]
    have HR : Hid (mmR a b = ([], 1)) := by simp [Hid, mmR, ha]
    clear ha
    go_enter Try.func10, Try.ntmps10
    go_wp2_with (go_at_call_of 36 (Value.slice ao a.length cap); refine (l01Matrix_any _ a _ H.out).mono ?_; rintro e w1 ⟨rfl, D1⟩; rw [HA.out]; have B1 := D1.below w.heap.size)
    go_ret2
    rw [HR.out]
    exact ⟨_, rfl, ⟨[], Own2.nil _ _⟩, B1⟩
  | true =>
    have HA : Hid (matC a = 0) := by simp [Hid, matC, ha]
    have hapos := (isMat_yes ha).1
    cases hb : isMat b with
    | false =>
      have HB : Hid (matC b = 1) := by simp [Hid, matC, hb]
      have HR : Hid (mmR a b = ([], 1)) := by simp [Hid, mmR, hb]
      clear ha hb
      go_enter Try.func10, Try.ntmps10
      go_wp2_with fail
      refine (l01Matrix_any _ a _ H.out).mono ?_; rintro e w1 ⟨rfl, D1⟩; rw [HA.out]; have B1 := D1.below w.heap.size
      go_wp2_with fail
      refine (l01Matrix_any _ b _ (H'.out.mono B1)).mono ?_; rintro e w2 ⟨rfl, D2⟩; rw [HB.out]; have B2 := nx B1 (D2.below _)
      go_wp2
      go_ret2
      rw [HR.out]
      exact ⟨_, rfl, ⟨[], Own2.nil _ _⟩, B2⟩
    | true =>
      have HB : Hid (matC b = 0) := by simp [Hid, matC, hb]
      have HAB : Hid (isMat a = true ∧ isMat b = true) := ⟨ha, hb⟩
      clear ha hb
      obtain ⟨g, off, x, rfl, hcell0, hx⟩ := H.out.at_ hapos
      obtain ⟨aox, capx, rfl⟩ := hx.form
      rw [Nat.add_zero] at hcell0
      have HC := hid hcell0
      have hg := World.block_lt_of_cell? _ _ hcell0
      clear hx hcell0
      by_cases hf : (rowAt a 0).length = b.length
      · have HR : Hid (mmR a b = (mulTo a b a.length, 0)) := by simp only [Hid]; unfold mmR; rw [if_pos HAB.out, if_pos hf]
        have HF : Hid (Fit2 a b) := ⟨HAB.out.1, HAB.out.2, hf⟩
        have hn : (((rowAt a 0).length : Int) != (b.length : Int)) = false := by rw [hf]; simp
        have HFF := hid hf
        clear hf
        go_enter Try.func10, Try.ntmps10
        go_wp2_with fail
        refine (l01Matrix_any _ a _ H.out).mono ?_; rintro e w1 ⟨rfl, D1⟩; rw [HA.out]; have B1 := D1.below w.heap.size
        go_wp2_with fail
        refine (l01Matrix_any _ b _ (H'.out.mono B1)).mono ?_; rintro e w2 ⟨rfl, D2⟩; rw [HB.out]; have B2 := nx B1 (D2.below _)
        have hcell2 := (B2.cell (p := ⟨g, off, none⟩) hg).trans HC.out
        go_wp2_with fail
        refine (l01Product_any _ _ a b _ (H.out.mono B2) (H'.out.mono B2) HF.out).mono ?_; rintro e w3 ⟨r, rfl, ⟨us, O⟩, B3⟩
        go_wp2
        go_ret2
        rw [HR.out]
        exact ⟨_, rfl, ⟨us, O.lower B2.size⟩, nx B2 B3⟩
      · have HR : Hid (mmR a b = ([], 5)) := by simp only [Hid]; unfold mmR; rw [if_pos HAB.out, if_neg hf]
        have hn : (((rowAt a 0).length : Int) != (b.length : Int)) = true := by simp; omega
        have HFF := hid hf
        clear hf
        go_enter Try.func10, Try.ntmps10
        go_wp2_with fail
        refine (l01Matrix_any _ a _ H.out).mono ?_; rintro e w1 ⟨rfl, D1⟩; rw [HA.out]; have B1 := D1.below w.heap.size
        go_wp2_with fail
        refine (l01Matrix_any _ b _ (H'.out.mono B1)).mono ?_; rintro e w2 ⟨rfl, D2⟩; rw [HB.out]; have B2 := nx B1 (D2.below _)
        have hcell2 := (B2.cell (p := ⟨g, off, none⟩) hg).trans HC.out
        go_wp2
        go_ret2
        rw [HR.out]
        exact ⟨_, rfl, ⟨[], Own2.nil _ _⟩, B2⟩
theorem multiplyMatrices_any (v u : Value) (a b : List (List Int)) (w : World) (h : RdII w v a) (h' : RdII w u b) (_ : tot a ≤ 1048576) (_ : tot b ≤ 1048576) :
    Calls Try.prog 12 #[v, u] w fun e w' => ∃ r, e = .returned (.tuple #[r, .int .i64 (mmR a b).2]) ∧ OwnII w.heap.size w' r (mmR a b).1 ∧ Below w.heap.size w w' := by
  have H := hid h
  have H' := hid h'
  obtain ⟨ao, cap, vs, rfl, hcap, hmax, -⟩ := h
  obtain ⟨ao', cap', vs', rfl, hcap', hmax', -⟩ := h'
  cases ha : isMat a with
  | false =>
    have HA := hid ha
    have HR : Hid (mmR a b = ([], 1)) := by simp [Hid, mmR, ha]
    clear ha
    go_enter Try.func12, Try.ntmps12
    go_wp2_with (go_at_call_of 38 (Value.slice ao a.length cap); refine (isMatrix_any _ a _ H.out).mono ?_; rintro e w1 ⟨rfl, rfl⟩; rw [HA.out])
    go_ret2
    rw [HR.out]
    exact ⟨_, rfl, ⟨[], Own2.nil _ _⟩, Below.refl _ _⟩
  | true =>
    have HA := hid ha
    have hapos := (isMat_yes ha).1
    cases hb : isMat b with
    | false =>
      have HB := hid hb
      have HR : Hid (mmR a b = ([], 1)) := by simp [Hid, mmR, hb]
      clear ha hb
      go_enter Try.func12, Try.ntmps12
      go_wp2_with fail
      refine (isMatrix_any _ a _ H.out).mono ?_; rintro e w1 ⟨rfl, rfl⟩; rw [HA.out]
      go_wp2_with fail
      refine (isMatrix_any _ b _ H'.out).mono ?_; rintro e w2 ⟨rfl, rfl⟩; rw [HB.out]
      go_wp2
      go_ret2
      rw [HR.out]
      exact ⟨_, rfl, ⟨[], Own2.nil _ _⟩, Below.refl _ _⟩
    | true =>
      have HB := hid hb
      have HAB : Hid (isMat a = true ∧ isMat b = true) := ⟨ha, hb⟩
      clear ha hb
      obtain ⟨g, off, x, rfl, hcell0, hx⟩ := H.out.at_ hapos
      obtain ⟨aox, capx, rfl⟩ := hx.form
      rw [Nat.add_zero] at hcell0
      clear hx
      by_cases hf : (rowAt a 0).length = b.length
      · have HR : Hid (mmR a b = (mulTo a b a.length, 0)) := by simp only [Hid]; unfold mmR; rw [if_pos HAB.out, if_pos hf]
        have HF : Hid (Fit2 a b) := ⟨HAB.out.1, HAB.out.2, hf⟩
        have hn : ((b.length : Int) != ((rowAt a 0).length : Int)) = false := by rw [hf]; simp
        have HFF := hid hf
        have m1 := isMat_yes HAB.out.1
        have m2 := isMat_yes HAB.out.2
        have ha8 := m1.2.1
        have hb0 := m2.1
        have hc8 := m2.2.2.2.1
        have HC00 := hid hcell0
        clear hf m1 m2
        go_enter Try.func12, Try.ntmps12
        go_wp2_with fail
        refine (isMatrix_any _ a _ H.out).mono ?_; rintro e w1 ⟨rfl, rfl⟩; rw [HA.out]
        go_wp2_with fail
        refine (isMatrix_any _ b _ H'.out).mono ?_; rintro e w2 ⟨rfl, rfl⟩; rw [HB.out]
        go_wp2
        go_loopw [6, 31] (fun r i wr => ∃ (k : Nat) (us : List Value), k ≤ a.length ∧ i = .int .i64 k ∧ Own2 w.heap.size wr r us (mulTo a b k) ∧ Below w.heap.size w wr) (fun _ i _ => a.length - (intOf i).toNat)
        case atStart => exact ⟨0, [], Nat.zero_le _, rfl, Own2.lit w _ (Nat.le_refl _), below_alloc _ _⟩
        case round =>
          obtain ⟨k, us, hk, rfl, O, Bl⟩ := hrel
          by_cases hlt : k < a.length
          · obtain ⟨_, _, x, e1, hcell0k, hx⟩ := (H.out.mono Bl).at_ hlt
            cases e1
            obtain ⟨aoxk, capxk, rfl⟩ := hx.form
            obtain ⟨g', off', y, rfl, hcell0', hy⟩ := (H'.out.mono Bl).at_ hb0
            obtain ⟨aoy, capy, rfl⟩ := hy.form
            rw [Nat.add_zero] at hcell0'
            have HX := hid hx
            have hrow := HF.out.row k hlt
            have HROW := hid hrow
            have hO := hid O
            have bl0 := Bl.size
            clear hx hy hrow hcell0
            have hcell0'' : (wr.alloc (.cells #[] 2)).cell? ⟨g', off', none⟩ = some (.slice aoy (rowAt b 0).length capy) := ((below_alloc wr _).cell (World.block_lt_of_cell? _ _ hcell0')).trans hcell0'
            go_wp2
            obtain ⟨wo, rfl⟩ : ∃ wo, wo = wr := ⟨_, rfl⟩
            go_loopw [9, 40] (fun r i wx => ∃ m : Nat, m ≤ (rowAt b 0).length ∧ i = .int .i64 m ∧ OwnI wo.heap.size wx r (rowP a b k m) ∧ Below wo.heap.size wo wx) (fun _ i _ => (rowAt b 0).length - (intOf i).toNat)
            case atStart => exact ⟨0, Nat.zero_le _, rfl, OwnI.lit wo _ (Nat.le_refl _), below_alloc _ _⟩
            case round =>
              obtain ⟨m, hm, rfl, O2, B2⟩ := hrel
              have BW := nx Bl B2
              by_cases hlm : m < (rowAt b 0).length
              · have HCOL := hid (HF.out.col m hlm)
                have hl2 : (rowP a b k m).length < 1048576 := by rw [rowP_length]; omega
                have HS := hid (rowP_succ a b k m)
                go_wp2_with fail
                refine (column_any _ b m _ (H'.out.mono BW) (fun k' hk' => (HCOL.out k' hk').2)).mono ?_; rintro e w3 ⟨r3, rfl, O3, B3⟩
                go_wp2_with fail
                refine (dot_any _ _ (rowAt a k) (colL b m) _ ((HX.out.mono B2).mono B3) O3.rd (by rw [colL_length]; exact Nat.le_of_eq HROW.out.1) HROW.out.2 (colL_nums b m HCOL.out)).mono ?_; rintro e w4 ⟨rfl, rfl⟩
                go_wp2_with (at_builtin; refine wpl_app rfl _ _ _ rfl Try.underlying32 info_i64 rfl ((O2.mono B3).mono (below_alloc _ _)) ⟨w3.heap.size, 0, none⟩ 1 _ rfl (cell_new1 _ _ _) hl2 (by have := B2.size; have := B3.size; simp; omega) ?_; intro v' W1 O4 G4 B4; clear G4)
                rw [← HS.out] at O4
                go_roundw
                case rel => exact ⟨m + 1, by omega, by go_num, O4, ((B2.trans (B3.mono B2.size)).trans ((below_alloc w3 _).mono (by have := B2.size; have := B3.size; omega))).trans B4⟩
                case measure => simp [intOf]; omega
              · obtain ⟨aor, capr, rfl⟩ := O2.form
                go_wp2_with (at_builtin; refine wpl_app2 rfl _ _ _ rfl Try.underlying22 infoLL rfl ((hO.out.mono B2).mono (below_alloc _ _)) ⟨wr.heap.size, 0, none⟩ 1 (.slice aor (rowP a b k m).length capr) (rowP a b k m) rfl (cell_new1 _ _ _) ((O2.lower bl0).mono (below_alloc _ _)) (parted_lt wo.heap.size (fun b hb => (O2.own_lt b hb).1) (fun b hb => (hO.out.lt b hb).2)) (fun j hj => parted_lt wo.heap.size (fun b hb => (O2.own_lt b hb).1) (fun b hb => ((hO.out.own j (by have := hO.out.len; omega)).own_lt b hb).2)) (by rw [mulTo_length]; omega) (by have := B2.size; simp; omega) ?_; intro v' W1 O1 G1 B1 P1; clear G1 P1)
                obtain rfl : m = (rowAt b 0).length := by omega
                rw [← mulTo_succ] at O1
                go_roundw
                case rel => exact ⟨k + 1, _, by omega, by go_num, O1, ((Bl.trans (B2.mono bl0)).trans ((below_alloc _ _).mono (by have := B2.size; omega))).trans B1⟩
                case measure => simp [intOf]; omega
          · go_wp2
            go_ret2
            obtain rfl : k = a.length := by omega
            rw [HR.out]
            exact ⟨_, rfl, ⟨us, O⟩, Bl⟩
      · have HR : Hid (mmR a b = ([], 5)) := by simp only [Hid]; unfold mmR; rw [if_pos HAB.out, if_neg hf]
        have hn : ((b.length : Int) != ((rowAt a 0).length : Int)) = true := by simp; omega
        have HFF := hid hf
        clear hf
        go_enter Try.func12, Try.ntmps12
        go_wp2_with fail
        refine (isMatrix_any _ a _ H.out).mono ?_; rintro e w1 ⟨rfl, rfl⟩; rw [HA.out]
        go_wp2_with fail
        refine (isMatrix_any _ b _ H'.out).mono ?_; rintro e w2 ⟨rfl, rfl⟩; rw [HB.out]
        go_wp2
        go_ret2
        rw [HR.out]
        exact ⟨_, rfl, ⟨[], Own2.nil _ _⟩, Below.refl _ _⟩
end Go.Proofs.Ytmhcpaffdchboaa
