/-
  The walks of the tree that a forest's trees hang from.
-/
import Derived.Test.YthjdmkjncaemgaaForest
namespace Go.Proofs.Ythjdmkjncaemgaa
open Go.RowKit
set_option maxRecDepth 100000
theorem rootOnE_any (v : Value) (zss : List (List Int)) (w : World) (h : RdII w v zss) (ht : tot zss ≤ 1048576) :
    Calls Try.prog 23 #[v] w fun e w' => ∃ r, e = .returned (.tuple #[r, .int .i64 (rootR zss).2]) ∧ OwnI w.heap.size w' r (rootR zss).1 ∧ Below w.heap.size w w' := by
  have H := hid h
  have HT := hid ht
  obtain ⟨ao, cap, vs, rfl, hcap, hmax, -⟩ := h
  clear ht hcap hmax
  cases hb : forB zss with
  | true =>
    have HB := hid hb
    by_cases h8 : 8 ≤ tot zss
    · have HR : Hid (rootR zss = ([], 3)) := by simp [Hid, rootR, hb, h8]
      have h9 : (8 : Int) ≤ (tot zss : Int) := by omega
      clear hb h8
      go_enter Try.func23, Try.ntmps23
      go_wp2_with (first
        | (go_at_call 20; refine (isForest_any _ zss _ H.out HT.out).mono ?_; rintro e w1 ⟨rfl, B1⟩; rw [HB.out])
        | (go_at_call 42; refine (nodesIn_any _ zss _ (H.out.mono B1) HT.out).mono ?_; rintro e w2 ⟨rfl, rfl⟩))
      go_ret2
      rw [HR.out]
      exact ⟨_, rfl, OwnI.nil _ _, B1⟩
    · have HR : Hid (rootR zss = (canon (rootL zss), 0)) := by simp [Hid, rootR, hb, h8]
      have h9 : (tot zss : Int) < 8 := by omega
      have HL := hid (forB_IsL hb)
      have HLEN : Hid ((rootL zss).length ≤ 8) := by simp only [Hid]; rw [rootL_length]; omega
      have HI := hid (rootL_IsL zss (forB_IsL hb))
      have HT2 : Hid (tot zss ≤ 1000) := by simp only [Hid]; omega
      clear hb h8
      go_enter Try.func23, Try.ntmps23
      go_wp2_with (first
        | (go_at_call 20; refine (isForest_any _ zss _ H.out HT.out).mono ?_; rintro e w1 ⟨rfl, B1⟩; rw [HB.out])
        | (go_at_call 42; refine (nodesIn_any _ zss _ (H.out.mono B1) HT.out).mono ?_; rintro e w2 ⟨rfl, rfl⟩)
        | (go_at_call 46; refine (rootOn_any _ zss _ (H.out.mono B1) HL.out HT2.out).mono ?_; rintro e w3 ⟨r3, rfl, O3, B3⟩)
        | (go_at_call 35; refine (canonical_any 8 (by omega) _ (rootL zss) _ O3.rd HI.out HLEN.out).mono ?_; rintro e w4 ⟨r4, rfl, O4, B4⟩))
      go_ret2
      rw [HR.out]
      exact ⟨_, rfl, O4.lower (Nat.le_trans B1.size B3.size), nx (nx B1 B3) B4⟩
  | false =>
    have HB := hid hb
    have HR : Hid (rootR zss = ([], 1)) := by simp [Hid, rootR, hb]
    clear hb
    go_enter Try.func23, Try.ntmps23
    go_wp2_with (go_at_call 20; refine (isForest_any _ zss _ H.out HT.out).mono ?_; rintro e w1 ⟨rfl, B1⟩; rw [HB.out])
    go_ret2
    rw [HR.out]
    exact ⟨_, rfl, OwnI.nil _ _, B1⟩
theorem l03Root_any (v : Value) (zss : List (List Int)) (w : World) (h : RdII w v zss) (hL : ∀ z ∈ zss, IsL z) (ht : tot zss < 8) :
    Calls Try.prog 45 #[v] w fun e w' => ∃ r, e = .returned r ∧ OwnI w.heap.size w' r (canon (rootL zss)) ∧ Below w.heap.size w w' := by
  have H := hid h
  have HL := hid hL
  have HLEN : Hid ((rootL zss).length ≤ 8) := by simp only [Hid]; rw [rootL_length]; omega
  have HI := hid (rootL_IsL zss hL)
  obtain ⟨ao, cap, vs, rfl, hcap, hmax, -⟩ := h
  have O0 := app_lit1 w w.heap.size 0 (Nat.le_refl _)
  clear hL
  go_enter Try.func45, Try.ntmps45
  go_wp2
  go_loopw [3, 4] (fun r i wr => ∃ k : Nat, k ≤ zss.length ∧ i = .int .i64 k ∧ OwnI w.heap.size wr r (rootL (zss.take k)) ∧ Below w.heap.size w wr) (fun _ i _ => zss.length - (intOf i).toNat)
  case atStart => exact ⟨0, Nat.zero_le _, rfl, O0, below_alloc _ _⟩
  case round =>
    obtain ⟨k, hk, rfl, O, Bl⟩ := hrel
    by_cases hlt : k < zss.length
    · obtain ⟨b, off, u, rfl, hcell0, hu⟩ := H.out.at_ hlt
      have hcell := (Bl.cell (p := ⟨b, off + k, none⟩) (World.block_lt_of_cell? w _ hcell0)).trans hcell0
      have hbw := Nat.lt_of_lt_of_le (World.block_lt_of_cell? w _ hcell0) (Nat.le_refl w.heap.size)
      have HU := hid hu
      obtain ⟨ao2, cap2, rfl⟩ := hu.form
      have hz := HL.out _ (rowAt_mem zss k hlt)
      have HZ := hid hz
      have htk := tot_take zss k
      have htk1 := tot_take zss (k + 1)
      have hlen : (rootL (zss.take k)).length = tot (zss.take k) + 1 := rootL_length _
      have hlen1 := tot_take_succ zss k hlt
      have HT : Hid ((rootL (zss.take k)).length + (rowAt zss k).length ≤ 1001) := by simp only [Hid]; omega
      have hrl : (rowAt zss k).length ≤ 1000 := by omega
      have HC := hid hcell0
      clear hu hz htk htk1 hlen hlen1 hcell0
      go_wp2
      go_loopw [3, 5] (fun r i wx => ∃ m : Nat, m ≤ (rowAt zss k).length ∧ i = .int .i64 m ∧ OwnI w.heap.size wx r (rootL (zss.take k) ++ up ((rowAt zss k).take m)) ∧ Below w.heap.size w wx) (fun _ i _ => (rowAt zss k).length - (intOf i).toNat)
      case atStart => exact ⟨0, Nat.zero_le _, rfl, by simpa [up] using O, Bl⟩
      case round =>
        obtain ⟨m, hm, rfl, O2, B2⟩ := hrel
        have hcell2 := (B2.cell (p := ⟨b, off + k, none⟩) hbw).trans HC.out
        by_cases hlm : m < (rowAt zss k).length
        · obtain ⟨b', off', rfl, hc2⟩ := (HU.out.mono B2).at_ hlm
          have hb := HZ.out.bd m hlm
          have hl2 : (rootL (zss.take k) ++ up ((rowAt zss k).take m)).length < 1048576 := by have := HT.out; simp [up_length]; omega
          go_wp2_with (at_builtin; refine wpl_app rfl _ _ _ rfl Try.underlying22 info_i64 rfl (O2.mono (below_alloc _ _)) ⟨wr.heap.size, 0, none⟩ 1 _ rfl (cell_new1 _ _ _) hl2 (by have := B2.size; simp; omega) ?_; intro v' W1 O4 G4 B4)
          go_roundw
          case rel => exact ⟨m + 1, by omega, by go_num, by rw [up_take _ _ hlm, ← List.append_assoc]; exact O4, (B2.alloc B2.size _).trans B4⟩
          case measure => simp [intOf]; omega
        · go_wp2
          obtain rfl : m = (rowAt zss k).length := by omega
          rw [List.take_length, ← rootL_take zss k hlt] at O2
          go_roundw
          case rel => exact ⟨k + 1, by omega, by go_num, O2, B2⟩
          case measure => simp [intOf]; omega
    · obtain rfl : k = zss.length := by omega
      rw [List.take_length] at O
      go_wp2_with fail
      refine (l03Canon_any 8 (by omega) _ (rootL zss) _ O.rd HI.out HLEN.out).mono ?_; rintro e w4 ⟨r4, rfl, O4, B4⟩
      go_wp2
      go_ret
      exact ⟨_, rfl, O4.lower Bl.size, nx Bl B4⟩
theorem sRootOn_any (v : Value) (zss : List (List Int)) (w : World) (h : RdII w v zss) (ht : tot zss ≤ 1048576) :
    Calls Try.prog 22 #[v] w fun e w' => ∃ r, e = .returned (.tuple #[r, .int .i64 (rootR zss).2]) ∧ OwnI w.heap.size w' r (rootR zss).1 ∧ Below w.heap.size w w' := by
  have H := hid h
  have HT := hid ht
  obtain ⟨ao, cap, vs, rfl, hcap, hmax, -⟩ := h
  clear ht hcap hmax
  cases hb : forB zss with
  | true =>
    have HB := hid hb
    have h88 := (forB_yes hb).2
    by_cases h8 : 8 ≤ tot zss
    · have HR : Hid (rootR zss = ([], 3)) := by simp [Hid, rootR, hb, h8]
      have h9 : ((tot zss : Int) == 8) = true := by simp; omega
      have HV : Hid ((tot zss : Int) = 8) := by simp only [Hid]; omega
      clear hb h8 h88
      go_enter Try.func22, Try.ntmps22
      go_wp2_with (first
        | (go_at_call 41; refine (l03Forest_any _ zss _ H.out HT.out).mono ?_; rintro e w1 ⟨rfl, B1⟩; rw [HB.out])
        | (go_at_call 44; refine (l03Nodes_any _ zss _ (H.out.mono B1) HT.out).mono ?_; rintro e w2 ⟨rfl, rfl⟩; rw [HV.out]))
      go_ret2
      rw [HR.out]
      exact ⟨_, rfl, OwnI.nil _ _, B1⟩
    · have HR : Hid (rootR zss = (canon (rootL zss), 0)) := by simp [Hid, rootR, hb, h8]
      have h9 : ((tot zss : Int) == 8) = false := by simp; omega
      have HL := hid (forB_IsL hb)
      have HT2 : Hid (tot zss < 8) := by simp only [Hid]; omega
      clear hb h8 h88
      go_enter Try.func22, Try.ntmps22
      go_wp2_with (first
        | (go_at_call 41; refine (l03Forest_any _ zss _ H.out HT.out).mono ?_; rintro e w1 ⟨rfl, B1⟩; rw [HB.out])
        | (go_at_call 44; refine (l03Nodes_any _ zss _ (H.out.mono B1) HT.out).mono ?_; rintro e w2 ⟨rfl, rfl⟩)
        | (go_at_call 45; refine (l03Root_any _ zss _ (H.out.mono B1) HL.out HT2.out).mono ?_; rintro e w4 ⟨r4, rfl, O4, B4⟩))
      go_ret2
      rw [HR.out]
      exact ⟨_, rfl, O4.lower B1.size, nx B1 B4⟩
  | false =>
    have HB := hid hb
    have HR : Hid (rootR zss = ([], 1)) := by simp [Hid, rootR, hb]
    clear hb
    go_enter Try.func22, Try.ntmps22
    go_wp2_with (go_at_call 41; refine (l03Forest_any _ zss _ H.out HT.out).mono ?_; rintro e w1 ⟨rfl, B1⟩; rw [HB.out])
    go_ret2
    rw [HR.out]
    exact ⟨_, rfl, OwnI.nil _ _, B1⟩
end Go.Proofs.Ythjdmkjncaemgaa
