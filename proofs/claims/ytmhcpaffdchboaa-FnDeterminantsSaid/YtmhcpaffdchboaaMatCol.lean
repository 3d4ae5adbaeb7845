/-
  The walks of the columns of matrices.
-/
import Derived.Test.YtmhcpaffdchboaaMat
import Derived.Test.YtmhcpaffdchboaaApp
import Derived.Test.YtmhcpaffdchboaaInII
import Derived.Test.YtmhcpaffdchboaaMem2
namespace Go.Proofs.Ytmhcpaffdchboaa
open Go.RowKit
set_option maxRecDepth 100000
def colL (zss : List (List Int)) (j : Nat) : List Int := zss.map fun r => el r j
theorem colL_succ (zss : List (List Int)) (j k : Nat) (h : k < zss.length) : colL (zss.take (k + 1)) j = colL (zss.take k) j ++ [el (rowAt zss k) j] := by
  unfold colL; rw [List.take_succ_eq_append_getElem h, List.map_append, rowAt_at zss k h]; rfl
theorem colL_length (zss : List (List Int)) (j : Nat) : (colL zss j).length = zss.length := by simp [colL]
theorem colL_nums (zss : List (List Int)) (j : Nat) (h : ∀ k, k < zss.length → Nums (rowAt zss k) ∧ j < (rowAt zss k).length) : Nums (colL zss j) := by
  unfold Nums
  rw [List.all_eq_true]
  intro x hx
  obtain ⟨r, hr, rfl⟩ := List.mem_map.1 hx
  obtain ⟨k, hk, rfl⟩ := List.getElem_of_mem hr
  rw [rowAt_at zss k hk]
  obtain ⟨h1, h2⟩ := h k hk
  unfold Nums at h1
  rw [List.all_eq_true] at h1
  exact h1 _ (by rw [← el_at _ _ h2]; exact List.getElem_mem h2)
theorem column_any (v : Value) (zss : List (List Int)) (j : Nat) (w : World) (h : RdII w v zss) (hj : ∀ k, k < zss.length → j < (rowAt zss k).length) :
    Calls Try.prog 40 #[v, .int .i64 j] w fun e w' => ∃ r, e = .returned r ∧ OwnI w.heap.size w' r (colL zss j) ∧ Below w.heap.size w w' := by
  have H := hid h
  have HJ := hid hj
  obtain ⟨ao, cap, vs, rfl, hcap, hmax, -⟩ := h
  clear hj
  go_enter Try.func40, Try.ntmps40
  go_wp2
  go_loopw [5, 11] (fun r i wr => ∃ k : Nat, k ≤ zss.length ∧ i = .int .i64 k ∧ OwnI w.heap.size wr r (colL (zss.take k) j) ∧ Below w.heap.size w wr) (fun _ i _ => zss.length - (intOf i).toNat)
  case atStart => exact ⟨0, Nat.zero_le _, rfl, OwnI.lit w _ (Nat.le_refl _), below_alloc _ _⟩
  case round =>
    obtain ⟨k, hk, rfl, O, Bl⟩ := hrel
    by_cases hlt : k < zss.length
    · obtain ⟨b, off, u, rfl, hcell, hu⟩ := (H.out.mono Bl).at_ hlt
      have hjk := HJ.out k hlt
      obtain ⟨aou, capu, rfl⟩ := hu.form
      obtain ⟨b', off', rfl, hcell2⟩ := hu.at_ hjk
      have hco := hid (colL_succ zss j k hlt)
      have hl2 : (colL (zss.take k) j).length < 1048576 := by unfold colL; simp; omega
      clear hu
      go_wp2_with (at_builtin; refine wpl_app rfl _ _ _ rfl Try.underlying32 info_i64 rfl (O.mono (below_alloc _ _)) ⟨wr.heap.size, 0, none⟩ 1 _ rfl (cell_new1 _ _ _) hl2 (by have := Bl.size; simp; omega) ?_; intro v' W1 O1 G1 B1)
      rw [← hco.out] at O1
      go_roundw
      case rel => exact ⟨k + 1, by omega, by go_num, O1, (Bl.alloc Bl.size _).trans B1⟩
      case measure => simp [intOf]; omega
    · go_wp2
      go_ret
      obtain rfl : k = zss.length := by omega
      rw [List.take_length] at O
      exact ⟨_, rfl, O, Bl⟩
theorem l01Column_any (v : Value) (zss : List (List Int)) (j : Nat) (w : World) (h : RdII w v zss) (hj : ∀ k, k < zss.length → j < (rowAt zss k).length) :
    Calls Try.prog 58 #[v, .int .i64 j] w fun e w' => ∃ r, e = .returned r ∧ OwnI w.heap.size w' r (colL zss j) ∧ Below w.heap.size w w' := by
  have H := hid h
  have HJ := hid hj
  obtain ⟨ao, cap, vs, rfl, hcap, hmax, -⟩ := h
  clear hj
  go_enter Try.func58, Try.ntmps58
  go_wp2
  go_loopw [5, 6] (fun r i wr => ∃ k : Nat, k ≤ zss.length ∧ i = .int .i64 k ∧ OwnI w.heap.size wr r (colL (zss.take k) j) ∧ Below w.heap.size w wr) (fun _ i _ => zss.length - (intOf i).toNat)
  case atStart => exact ⟨0, Nat.zero_le _, rfl, OwnI.lit w _ (Nat.le_refl _), below_alloc _ _⟩
  case round =>
    obtain ⟨k, hk, rfl, O, Bl⟩ := hrel
    by_cases hlt : k < zss.length
    · obtain ⟨b, off, u, rfl, hcell, hu⟩ := (H.out.mono Bl).at_ hlt
      have hjk := HJ.out k hlt
      obtain ⟨aou, capu, rfl⟩ := hu.form
      obtain ⟨b', off', rfl, hcell2⟩ := hu.at_ hjk
      have hco := hid (colL_succ zss j k hlt)
      have hl2 : (colL (zss.take k) j).length < 1048576 := by unfold colL; simp; omega
      clear hu
      go_wp2_with (at_builtin; refine wpl_app rfl _ _ _ rfl Try.underlying32 info_i64 rfl (O.mono (below_alloc _ _)) ⟨wr.heap.size, 0, none⟩ 1 _ rfl (cell_new1 _ _ _) hl2 (by have := Bl.size; simp; omega) ?_; intro v' W1 O1 G1 B1)
      rw [← hco.out] at O1
      go_roundw
      case rel => exact ⟨k + 1, by omega, by go_num, O1, (Bl.alloc Bl.size _).trans B1⟩
      case measure => simp [intOf]; omega
    · go_wp2
      go_ret
      obtain rfl : k = zss.length := by omega
      rw [List.take_length] at O
      exact ⟨_, rfl, O, Bl⟩
end Go.Proofs.Ytmhcpaffdchboaa
