/-
  The walk of the reference's solution by Cramer's rule.
-/
import Derived.Test.YtmhcpaffdchboaaDetB
import Derived.Test.YtmhcpaffdchboaaRng
import Derived.StillTailTactics
import Derived.Test.YtmhcpaffdchboaaMatInv
namespace Go.Proofs.Ytmhcpaffdchboaa
open Go.RowKit
set_option maxRecDepth 100000
/-- The column k taken from x, as far as the row i. -/
def setCt (A : Mt) (k : Nat) (x : Nat → F) (i : Nat) : Mt := fun r c => if r < i ∧ c = k then x r else A r c
theorem setCt_zero (A : Mt) (k : Nat) (x : Nat → F) : setCt A k x 0 = A := by funext r c; simp [setCt]
theorem setCt_all (n : Nat) (A : Mt) (k : Nat) (x : Nat → F) : matL n n (setCt A k x n) = matL n n (setC A k x) := matL_congr fun r c hr hc => by
  simp only [setCt, setC]
  by_cases h : c = k
  · rw [if_pos ⟨hr, h⟩, if_pos h]
  · rw [if_neg (fun y => h y.2), if_neg h]
theorem setCt_succ (n : Nat) (A : Mt) (k i : Nat) (x : Nat → F) (hi : i < n) : (matL n n (setCt A k x i)).set i (lst n (fun c => if c = k then x i else setCt A k x i i c)) = matL n n (setCt A k x (i + 1)) := by
  rw [matL_set]
  refine matL_congr fun r c hr hc => ?_
  simp only [setR, setCt]
  by_cases h : r = i
  · subst h
    rw [if_pos rfl]
    by_cases hk : c = k
    · rw [if_pos hk, if_pos ⟨by omega, hk⟩]
    · rw [if_neg hk, if_neg (by omega), if_neg (by omega)]
  · rw [if_neg h]
    by_cases hk : r < i ∧ c = k
    · rw [if_pos hk, if_pos ⟨by omega, hk.2⟩]
    · rw [if_neg hk, if_neg (by omega)]
set_option maxHeartbeats 4000000 in
theorem l01Solve_any (n : Nat) (A : Mt) (x : Nat → F) (v u : Value) (w : World) (h : RdII w v (matL n n A)) (h' : RdI w u (lst n x)) (hn1 : 1 ≤ n) (hn : n ≤ 32) :
    Calls Try.prog 43 #[v, u] w fun e w' => ∃ r b, e = .returned (.tuple #[r, .bool b]) ∧ (b = true ↔ det n A ≠ 0) ∧ (b = true → OwnI w.heap.size w' r (lst n (fun k => det n (setC A k x) * fi (det n A)))) ∧ Below w.heap.size w w' := by
  have H := hid h
  have H' := hid h'
  obtain ⟨ao, cap, rfl, hcap, hmax⟩ := h.formM
  obtain ⟨ao', cap', rfl, hcap', hmax'⟩ := h'.formL
  have HC := hid (l01Det_all n (by omega) A _ _ h)
  have HD := hid (fun k => l01Det_all n (by omega) (setC A k x))
  obtain ⟨D, hD⟩ : ∃ D, D = det n A := ⟨_, rfl⟩
  rw [← hD] at HC ⊢
  clear h h' hD
  by_cases hd : D = 0
  · rw [hd, vI_zero] at HC
    rw [hd]
    clear hd
    go_enter Try.func43, Try.ntmps43
    go_wp2_with fail
    refine HC.out.mono ?_; rintro e w1 ⟨rfl, B1⟩
    go_wp2_with fail
    go_ret2
    exact ⟨_, _, rfl, ⟨fun h => (by cases h), fun h => absurd rfl h⟩, fun h => (by cases h), B1⟩
  have hd' : (vI D == 0) = false := by simpa using vI_ne hd
  have HND := hid hd
  have qD := vI_bd D
  have HFI : Hid (invM (vI D) = vI (fi D)) := by simp only [Hid]; rw [vI_fi]
  clear hd
  go_enter Try.func43, Try.ntmps43
  go_wp2_with fail
  refine HC.out.mono ?_; rintro e w1 ⟨rfl, B1⟩
  go_wp2_with fail
  go_loopw [7, 8] (fun r k wr => ∃ k0 : Nat, k0 ≤ n ∧ k = .int .i64 k0 ∧ OwnI w.heap.size wr r (lst k0 (fun k => det n (setC A k x) * fi D)) ∧ Below w.heap.size w wr) (fun _ k _ => n - (intOf k).toNat)
  case atStart => exact ⟨0, Nat.zero_le _, rfl, OwnI.litAt rfl B1.size, B1.alloc B1.size _⟩
  case round =>
    obtain ⟨k0, hk, rfl, O, Bl⟩ := hrel
    by_cases hlt : k0 < n
    · have hlt' : (k0 : Int) < (n : Int) := by omega
      have HO := hid O
      have hlo : (lst k0 (fun k => det n (setC A k x) * fi D)).length < 1048576 := by rw [lst_length]; omega
      clear O
      go_wp2_with fail
      refine (l01Own2_any _ (matL n n A) _ (H.out.mono Bl) (matL_pos n n A (by omega))).mono ?_
      rintro e w2 ⟨r2, rfl, ⟨us, O2⟩, B2⟩
      obtain ⟨ao2, cap2, rfl⟩ := O2.form
      obtain ⟨g2, rfl⟩ := O2.addr (by rw [matL_length]; omega)
      rw [matL_length] at O2 ⊢
      obtain ⟨wo, rfl⟩ : ∃ wo, wo = wr := ⟨_, rfl⟩
      go_wp2_with fail
      go_loopw [10] (fun i wx => ∃ i0 : Nat, i0 ≤ n ∧ i = .int .i64 i0 ∧ Own2 wo.heap.size wx (.slice (some ⟨g2, 0, none⟩) n cap2) us (matL n n (setCt A k0 x i0)) ∧ Below wo.heap.size wo wx) (fun i _ => n - (intOf i).toNat)
      case atStart => exact ⟨0, Nat.zero_le _, rfl, by rw [setCt_zero]; exact O2, B2⟩
      case round =>
        clear O2
        obtain ⟨i0, hi, rfl, O3, B3⟩ := hrel
        have BW := nx Bl B3
        by_cases hin : i0 < n
        · have hin' : (i0 : Int) < (n : Int) := by omega
          obtain ⟨br, offr, rfl, hpr⟩ := (H'.out.mono BW).at_ (k := i0) (by rw [lst_length]; exact hin)
          rw [lst_el _ _ _ hin] at hpr
          have hci := O3.cell i0 (by rw [matL_length]; exact hin)
          have hwi := O3.own i0 (by rw [matL_length]; exact hin)
          rw [matL_row _ _ _ _ hin] at hwi
          obtain ⟨aoi, capi, hvi, -, -⟩ := hwi.rd.formL
          have hwi2 := hwi
          rw [hvi] at hci hwi2
          obtain ⟨gi, rfl⟩ := hwi2.addr (by rw [lst_length]; omega)
          have hck := hwi2.cellL k0 hlt
          have hfk := hwi2.free k0
          have hgl := hwi2.glt
          obtain ⟨O4, G4⟩ := hwi2.putL k0 (x i0)
          obtain ⟨old, hold⟩ : ∃ old, old = Value.int .i64 (vI (setCt A k0 x i0 i0 k0)) := ⟨_, rfl⟩
          rw [← hold] at hck
          have E5 := O3.turned i0 (by rw [matL_length]; exact hin) (by rw [hvi]; exact G4) (by rw [hvi]; exact O4)
          rw [setCt_succ n A k0 i0 x hin] at E5
          have HE := hid E5
          have HG := hid G4
          have B5 := B3.grown G4 (by have := B3.size; omega) (by simp; omega)
          have HB5 := hid B5
          clear hold O4 G4 E5 B5 hwi hwi2 hvi O3
          go_wp2_with fail
          refine wp_region_still_tail 9 (by kernel_rfl) (by kernel_rfl) ?_
          simp only [List.take_succ_cons, List.take_zero, List.drop_succ_cons, List.drop_zero]
          repeat still_step
          refine wpStill_nil ?_
          change wpList _ _ _ _ _ wr.drew
          go_wp2_with fail
          go_roundw
          case rel => exact ⟨i0 + 1, by omega, by go_num, HE.out.mono (below_drew _), HB5.out.drew⟩
          case measure => simp [intOf]; omega
        · obtain rfl : i0 = n := by omega
          have hf : decide ((i0 : Int) < (i0 : Int)) = false := by simp
          rw [setCt_all] at O3
          have HO3 := hid O3.rd
          clear O3
          go_wp2_with fail
          refine (HD.out k0 _ _ HO3.out).mono ?_; rintro e w3 ⟨rfl, B4⟩
          go_wp2_with fail
          refine (l01Inv_any _ _ qD.1 qD.2).mono ?_; rintro e w' ⟨rfl, rfl⟩; rw [HFI.out]
          go_wp2_with fail
          refine (l01MulF_any (det i0 (setC A k0 x)) (fi D) _).mono ?_; rintro e w' ⟨rfl, rfl⟩
          have BQ := nx B3 B4
          have BU := nx Bl BQ
          have OB := HO.out.mono BQ
          have bws := BU.size
          go_wp2_with (at_builtin; refine wpl_app rfl _ _ _ rfl Try.underlying32 info_i64 rfl (OB.mono (below_alloc _ _)) ⟨w3.heap.size, 0, none⟩ 1 _ rfl (cell_new1 _ _ _) hlo (by simp; omega) ?_; intro v' W1 O6 G6 B6; clear G6)
          go_roundw
          case rel => exact ⟨k0 + 1, by omega, by go_num, O6.snoc rfl, (BU.alloc bws _).trans B6⟩
          case measure => simp [intOf]; omega
    · obtain rfl : k0 = n := by omega
      have hf : decide ((k0 : Int) < (k0 : Int)) = false := by simp
      go_wp2_with fail
      go_ret2
      exact ⟨_, _, rfl, ⟨fun _ => HND.out, fun _ => rfl⟩, fun _ => O, Bl⟩
end Go.Proofs.Ytmhcpaffdchboaa
