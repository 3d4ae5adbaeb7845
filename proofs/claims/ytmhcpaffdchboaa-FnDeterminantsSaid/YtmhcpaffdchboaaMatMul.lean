/-
  The walks of the product of matrices.
-/
import Derived.Test.YtmhcpaffdchboaaMatCol
import Derived.Test.YtmhcpaffdchboaaSums
import Derived.Test.YtmhcpaffdchboaaNumLaws
import Derived.Deep.RegionHeld3
namespace Go.Proofs.Ytmhcpaffdchboaa
open Go.RowKit
set_option maxRecDepth 100000
theorem infoLL : (Try.prog.info? 32).map (fun i => (i.zero, i.size, i.bytes)) = some (some (.slice none 0 0), 1, 24) := by kernel_rfl
def rowP (a b : List (List Int)) (i m : Nat) : List Int := (List.range m).map fun j => dotL (rowAt a i) (colL b j) (rowAt a i).length % 10007
theorem rowP_succ (a b : List (List Int)) (i m : Nat) : rowP a b i (m + 1) = rowP a b i m ++ [dotL (rowAt a i) (colL b m) (rowAt a i).length % 10007] := by simp [rowP, List.range_succ]
theorem rowP_length (a b : List (List Int)) (i m : Nat) : (rowP a b i m).length = m := by simp [rowP]
def mulTo (a b : List (List Int)) (k : Nat) : List (List Int) := (List.range k).map fun i => rowP a b i (rowAt b 0).length
theorem mulTo_succ (a b : List (List Int)) (k : Nat) : mulTo a b (k + 1) = mulTo a b k ++ [rowP a b k (rowAt b 0).length] := by simp [mulTo, List.range_succ]
theorem mulTo_length (a b : List (List Int)) (k : Nat) : (mulTo a b k).length = k := by simp [mulTo]
/-- What two matrices that fit give. -/
def Fit2 (a b : List (List Int)) : Prop := isMat a = true ∧ isMat b = true ∧ (rowAt a 0).length = b.length
theorem Fit2.row {a b : List (List Int)} (h : Fit2 a b) (i : Nat) (hi : i < a.length) : (rowAt a i).length = b.length ∧ Nums (rowAt a i) := by
  have h1 := (isMat_yes h.1).2.2.2.2 i hi
  exact ⟨h1.1.trans h.2.2, h1.2⟩
theorem Fit2.col {a b : List (List Int)} (h : Fit2 a b) (j : Nat) (hj : j < (rowAt b 0).length) : ∀ k, k < b.length → Nums (rowAt b k) ∧ j < (rowAt b k).length := fun k hk => by
  have h1 := (isMat_yes h.2.1).2.2.2.2 k hk
  exact ⟨h1.2, by omega⟩
theorem l01Product_any (v u : Value) (a b : List (List Int)) (w : World) (h : RdII w v a) (h' : RdII w u b) (hf : Fit2 a b) :
    Calls Try.prog 37 #[v, u] w fun e w' => ∃ r, e = .returned r ∧ OwnII w.heap.size w' r (mulTo a b a.length) ∧ Below w.heap.size w w' := by
  have H := hid h
  have H' := hid h'
  have HF := hid hf
  have m1 := isMat_yes hf.1
  have m2 := isMat_yes hf.2.1
  have ha8 := m1.2.1
  have hb0 := m2.1
  have hc8 := m2.2.2.2.1
  clear hf m1 m2
  obtain ⟨ao, cap, vs, rfl, hcap, hmax, -⟩ := h
  obtain ⟨ao', cap', vs', rfl, hcap', hmax', -⟩ := h'
  go_enter Try.func37, Try.ntmps37
  go_wp2
  go_loopw [5, 6] (fun r i wr => ∃ (k : Nat) (us : List Value), k ≤ a.length ∧ i = .int .i64 k ∧ Own2 w.heap.size wr r us (mulTo a b k) ∧ Below w.heap.size w wr) (fun _ i _ => a.length - (intOf i).toNat)
  case atStart => exact ⟨0, [], Nat.zero_le _, rfl, Own2.lit w _ (Nat.le_refl _), below_alloc _ _⟩
  case round =>
    obtain ⟨k, us, hk, rfl, O, Bl⟩ := hrel
    by_cases hlt : k < a.length
    · obtain ⟨g, off, x, rfl, hcell0, hx⟩ := H.out.at_ hlt
      obtain ⟨aox, capx, rfl⟩ := hx.form
      have HX := hid hx
      obtain ⟨g', off', y, rfl, hcell0', hy⟩ := H'.out.at_ hb0
      obtain ⟨aoy, capy, rfl⟩ := hy.form
      rw [Nat.add_zero] at hcell0'
      have hg := World.block_lt_of_cell? _ _ hcell0
      have hg' := World.block_lt_of_cell? _ _ hcell0'
      have HC := hid hcell0
      have HC' := hid hcell0'
      have hrow := HF.out.row k hlt
      have HROW := hid hrow
      have hO := hid O
      have bl0 := Bl.size
      have hgr := Nat.lt_of_lt_of_le hg bl0
      clear hx hy hcell0 hcell0' hrow
      go_wp2
      obtain ⟨wo, rfl⟩ : ∃ wo, wo = wr := ⟨_, rfl⟩
      go_loopw [7, 8] (fun r i wr => ∃ m : Nat, m ≤ (rowAt b 0).length ∧ i = .int .i64 m ∧ OwnI wo.heap.size wr r (rowP a b k m) ∧ Below wo.heap.size wo wr) (fun _ i _ => (rowAt b 0).length - (intOf i).toNat)
      case atStart => exact ⟨0, Nat.zero_le _, rfl, OwnI.lit wo _ (Nat.le_refl _), below_alloc _ _⟩
      case round =>
        obtain ⟨m, hm, rfl, O2, B2⟩ := hrel
        have BW := nx Bl B2
        have hcell := (BW.cell (p := ⟨g, off + k, none⟩) hg).trans HC.out
        have hcell' := (BW.cell (p := ⟨g', off', none⟩) hg').trans HC'.out
        have hgx := Nat.lt_of_lt_of_le hg BW.size
        by_cases hlm : m < (rowAt b 0).length
        · have HCOL := hid (HF.out.col m hlm)
          have hl2 : (rowP a b k m).length < 1048576 := by rw [rowP_length]; omega
          have HS := hid (rowP_succ a b k m)
          go_wp2_with fail
          go_region_held3 (fun w' => w'.cell? ⟨g, off + k, none⟩ = some (.slice aox (rowAt a k).length capx))
            (first
              | go_keep
              | (exact (B4.cell (p := ⟨g, off + k, none⟩) hgr).trans (((below_alloc w4 _).cell (p := ⟨g, off + k, none⟩) (Nat.lt_of_lt_of_le hgx B35.size)).trans ((B5.cell (p := ⟨g, off + k, none⟩) (Nat.lt_of_lt_of_le hgx B3.size)).trans ((B3.cell (p := ⟨g, off + k, none⟩) hgx).trans hcell))))
              | (exact (B5.cell (p := ⟨g, off + k, none⟩) (Nat.lt_of_lt_of_le hgx B3.size)).trans ((B3.cell (p := ⟨g, off + k, none⟩) hgx).trans hcell))
              | (exact (B3.cell (p := ⟨g, off + k, none⟩) hgx).trans hcell))
            (first
              | (refine step_app (by rfl) _ _ _ (by rfl) Try.underlying32 info_i64 (by rfl) (((O2.mono (below_drewN (Below.refl _ _) _)).mono B35).mono (below_alloc _ _)) ⟨w4.heap.size, 0, none⟩ 1 _ (by rfl) (cell_new1 _ _ _) hl2 (by have := B2.size; have := B35.size; simp at *; omega) ?_; intro v' W1 O4 G4 B4; clear G4)
              | (go_at_call 58; refine (l01Column_any _ b m _ (H'.out.mono ((nx Bl B2).trans (below_drewN (Below.refl _ _) _))) (fun k' hk' => (HCOL.out k' hk').2)).mono ?_; rintro e w3 ⟨r3, rfl, O3, B3⟩)
              | (go_at_call 56; refine (l01Dot_any _ _ (rowAt a k) (colL b m) _ ((HX.out.mono ((nx Bl B2).trans (below_drewN (Below.refl _ _) _))).mono B3) O3.rd (by rw [colL_length]; exact Nat.le_of_eq HROW.out.1) HROW.out.2 (colL_nums b m HCOL.out)).mono ?_; rintro e w4 ⟨rfl, D4⟩; have B5 := D4.below w3.heap.size; have B35 := nx B3 (D4.below _)))
          go_wp2
          rw [← HS.out] at O4
          go_roundw
          case rel => exact ⟨m + 1, by omega, by go_num, O4, ((B2.trans (below_drewN (Below.refl _ _) _)).trans (B35.mono (by have := B2.size; simp; omega))).trans (((below_alloc w4 _).mono (by have := B2.size; have := B35.size; simp at *; omega)).trans B4)⟩
          case measure => simp [intOf]; omega
        · obtain ⟨aor, capr, rfl⟩ := O2.form
          go_wp2_with (first
            | (at_builtin; go_loud (refine wpl_app2 rfl _ _ _ rfl Try.underlying22 infoLL rfl ((hO.out.mono B2).mono (below_alloc _ _)) ⟨wr.heap.size, 0, none⟩ 1 (.slice aor (rowP a b k m).length capr) (rowP a b k m) rfl (cell_new1 _ _ _) ((O2.lower bl0).mono (below_alloc _ _)) (parted_lt wo.heap.size (fun b hb => (O2.own_lt b hb).1) (fun b hb => (hO.out.lt b hb).2)) (fun j hj => parted_lt wo.heap.size (fun b hb => (O2.own_lt b hb).1) (fun b hb => ((hO.out.own j (by have := hO.out.len; omega)).own_lt b hb).2)) (by rw [mulTo_length]; omega) (by have := B2.size; simp; omega) ?_; intro v' W1 O1 G1 B1 P1; clear G1 P1)))
          obtain rfl : m = (rowAt b 0).length := by omega
          rw [← mulTo_succ] at O1
          go_roundw
          case rel => exact ⟨k + 1, _, by omega, by go_num, O1, ((Bl.trans (B2.mono bl0)).trans ((below_alloc _ _).mono (by have := B2.size; omega))).trans B1⟩
          case measure => simp [intOf]; omega
    · go_wp2
      go_ret
      obtain rfl : k = a.length := by omega
      exact ⟨_, rfl, ⟨us, O⟩, Bl⟩
end Go.Proofs.Ytmhcpaffdchboaa
