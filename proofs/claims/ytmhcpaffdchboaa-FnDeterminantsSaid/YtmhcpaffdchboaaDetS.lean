/-
  The walk of the reference's determinant: no row, and one to four rows.
-/
import Derived.Test.YtmhcpaffdchboaaMinor
import Derived.Deep.RegionHeld3
namespace Go.Proofs.Ytmhcpaffdchboaa
open Go.RowKit
set_option maxRecDepth 100000
/-- What the reference's determinant does at matrices with n rows. -/
def DetSpec (n : Nat) : Prop := ∀ (M : Mt) (v : Value) (w : World), RdII w v (matL n n M) →
  Calls Try.prog 41 #[v] w fun e w' => e = .returned (.int .i64 (vI (det n M))) ∧ Below w.heap.size w w'
theorem l01Det_none : DetSpec 0 := by
  intro M v w h
  obtain ⟨ao, cap, rfl, hcap, hmax⟩ := h.formM
  clear h
  go_enter Try.func41, Try.ntmps41
  go_wp2_with fail
  go_ret
  exact ⟨by rw [det, vI_one]; rfl, Below.refl _ _⟩
theorem sg_even {k : Nat} (h : k % 2 = 0) : sg k = 1 := by unfold sg; rw [if_pos h]
theorem sg_odd {k : Nat} (h : ¬ k % 2 = 0) : sg k = -1 := by unfold sg; rw [if_neg h]
theorem OwnII.rd {base : Nat} {w : World} {v : Value} {zss : List (List Int)} (h : OwnII base w v zss) : RdII w v zss := by obtain ⟨us, h⟩ := h; exact h.rd
theorem l01Det_small (p : Nat) (hp : p ≤ 3) (IH : DetSpec p) : DetSpec (p + 1) := by
  intro M v w h
  have HD := hid (det_row p hp M)
  obtain ⟨D, hD⟩ : ∃ D, D = det (p + 1) M := ⟨_, rfl⟩
  rw [← hD] at HD ⊢
  obtain ⟨f, hf⟩ : ∃ f : Nat → F, f = fun k => sg k * M 0 k * det p (mnrC M k) := ⟨_, rfl⟩
  rw [← hf] at HD
  have HF : Hid (∀ k, f k = sg k * M 0 k * det p (mnrC M k)) := by intro k; rw [hf]
  clear hf hD
  obtain ⟨n, hn⟩ : ∃ n, n = p + 1 := ⟨_, rfl⟩
  rw [← hn] at HD h
  have HN := hid hn
  have H : Hid (RdII w v (matL n n M)) := h
  obtain ⟨ao, cap, rfl, hcap, hmax⟩ := h.formM
  have HI := hid IH
  have d1 : ((n : Int) == 0) = false := by simp; omega
  have d2 : (n : Int) ≤ 4 := by omega
  have n1 : 0 < n := by omega
  have n4 : n ≤ 4 := by omega
  clear h IH hn
  go_enter Try.func41, Try.ntmps41
  go_wp2_with fail
  go_loopw [3, 4] (fun s i wr => ∃ k : Nat, k ≤ n ∧ s = .int .i64 (vI (sF f k)) ∧ i = .int .i64 k ∧ Below w.heap.size w wr) (fun _ i _ => n - (intOf i).toNat)
  case atStart => exact ⟨0, Nat.zero_le _, by rw [sF, vI_zero], rfl, Below.refl _ _⟩
  case round =>
    obtain ⟨k, hk, rfl, rfl, Bl⟩ := hrel
    by_cases hlt : k < n
    · obtain ⟨b, off, u, rfl, hcell, hu⟩ := (H.out.mono Bl).at_ (k := 0) (by rw [matL_length]; omega)
      rw [matL_row _ _ _ _ (by omega)] at hu
      obtain ⟨aou, capu, rfl, -, -⟩ := hu.formL
      obtain ⟨b', off', rfl, hp0⟩ := hu.at_ (k := k) (by rw [lst_length]; omega)
      rw [lst_el _ _ _ hlt] at hp0
      rw [Nat.add_zero] at hcell
      have l1 := World.block_lt_of_cell? _ _ hcell
      have l2 := World.block_lt_of_cell? _ _ hp0
      have HS := hid (HF.out k)
      obtain ⟨dk, hdk⟩ : ∃ dk, dk = det p (mnrC M k) := ⟨_, rfl⟩
      have HDK := hid hdk
      have HI2 : Hid (∀ (v : Value) (w : World), RdII w v (matL p p (mnrC M k)) → Calls Try.prog 41 #[v] w fun e w' => e = .returned (.int .i64 (vI dk)) ∧ Below w.heap.size w w') := by
        intro v w h; rw [hdk]; exact HI.out _ v w h
      have b1 := vI_bd (M 0 k)
      have b2 := vI_bd dk
      have b3 := vI_bd (sF f k)
      have b4 := vI_bd (M 0 k * dk)
      have hlt' : (k : Int) < (n : Int) := by omega
      clear hdk hu
      go_wp2_with fail
      go_region_held3 (fun w' => w'.cell? ⟨b, off, none⟩ = some (.slice (some ⟨b', off', none⟩) n capu) ∧ w'.cell? ⟨b', off' + k, none⟩ = some (.int .i64 (vI (M 0 k))))
        (first
          | go_keep
          | (go_split_ands
             refine ⟨?_, ?_⟩
             · (rw [B3.cell (p := ⟨b, off, none⟩) (Nat.lt_of_lt_of_le l1 B2.size)]; assumption)
             · (rw [B3.cell (p := ⟨b', off' + k, none⟩) (Nat.lt_of_lt_of_le l2 B2.size)]; assumption))
          | (go_split_ands
             refine ⟨?_, ?_⟩
             · (rw [B2.cell (p := ⟨b, off, none⟩) l1]; assumption)
             · (rw [B2.cell (p := ⟨b', off' + k, none⟩) l2]; assumption)))
        (first
          | (go_at_call 64; refine (l01Minor_any p k M _ _ (by have := (H.out.mono Bl).mono (below_drew _); rw [HN.out] at this; rw [HN.out]; exact this) (by rw [← HN.out]; exact hlt) (by omega)).mono ?_; rintro e w2 ⟨r2, rfl, O2, B2⟩)
          | (go_at_call 41; refine (HI2.out _ _ O2.rd).mono ?_; rintro e w3 ⟨rfl, B3⟩)
          | (go_at_call 63; refine (l01Mul_any _ _ _ b1.1 b1.2 b2.1 b2.2).mono ?_; rintro e w4 ⟨rfl, rfl⟩))
      rw [← vI_mul]
      have B4 : Below wr.heap.size wr w3 := (below_drew wr).trans (nx B2 B3)
      clear hcell hp0 O2 B2 B3
      by_cases hpar : k % 2 = 0
      · have hb : ((k : Int) % 2 == 0) = true := by simp; omega
        have HT : Hid ((vI (sF f k) + vI (M 0 k * dk)) % 10007 = vI (sF f (k + 1))) := by
          simp only [Hid]; rw [← vI_add, sF, HS.out, sg_even hpar, ← HDK.out]; congr 1; grind
        clear hpar
        go_wp2_with (go_at_call 65; refine (l01Add_any _ _ _ b3.1 b3.2 b4.1 b4.2).mono ?_; rintro e w' ⟨rfl, rfl⟩; rw [HT.out])
        go_roundw
        case rel => exact ⟨k + 1, by omega, rfl, by go_num, nx Bl B4⟩
        case measure => simp [intOf]; omega
      · have hb : ((k : Int) % 2 == 0) = false := by simp; omega
        have HT : Hid ((vI (sF f k) - vI (M 0 k * dk)) % 10007 = vI (sF f (k + 1))) := by
          simp only [Hid]; rw [← vI_sub, sF, HS.out, sg_odd hpar, ← HDK.out]; congr 1; grind
        clear hpar
        go_wp2_with (go_at_call 66; refine (l01Sub_any _ _ _ b3.1 b3.2 b4.1 b4.2).mono ?_; rintro e w' ⟨rfl, rfl⟩; rw [HT.out])
        go_roundw
        case rel => exact ⟨k + 1, by omega, rfl, by go_num, nx Bl B4⟩
        case measure => simp [intOf]; omega
    · go_wp2
      go_ret
      obtain rfl : k = n := by omega
      rw [HD.out]
      exact ⟨rfl, Bl⟩
end Go.Proofs.Ytmhcpaffdchboaa
