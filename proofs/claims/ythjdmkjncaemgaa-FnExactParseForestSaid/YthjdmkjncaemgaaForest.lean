/-
  The walks of forests.
-/
import Derived.Test.YthjdmkjncaemgaaTreeX
import Derived.Test.YthjdmkjncaemgaaRng
namespace Go.Proofs.Ythjdmkjncaemgaa
open Go.RowKit
set_option maxRecDepth 100000
/-- The first k lists are canonical and ascend not. -/
def forTo (zss : List (List Int)) : Nat → Bool
  | 0 => true
  | k + 1 => forTo zss k && (isTreeB (rowAt zss k) && (decide (k = 0) || !ltT (rowAt zss k) (rowAt zss (k - 1))))
def forB (zss : List (List Int)) : Bool := forTo zss zss.length && decide (tot zss ≤ 8)
def rootR (zss : List (List Int)) : List Int × Int := if forB zss = true then (if 8 ≤ tot zss then ([], 3) else (canon (rootL zss), 0)) else ([], 1)
theorem forTo_le {zss : List (List Int)} {k m : Nat} (h : forTo zss k = true) (hm : m ≤ k) : forTo zss m = true := by
  induction k with
  | zero => obtain rfl : m = 0 := by omega
            exact h
  | succ k ih =>
    rw [forTo, Bool.and_eq_true] at h
    by_cases hk : m = k + 1
    · subst hk; rw [forTo, Bool.and_eq_true]; exact h
    · exact ih h.1 (by omega)
theorem forB_no {zss : List (List Int)} {k : Nat} (hk : k ≤ zss.length) (h : forTo zss k = false) : forB zss = false := by
  cases e : forTo zss zss.length with
  | false => simp [forB, e]
  | true => rw [forTo_le e hk] at h; cases h
theorem forTo_tree {zss : List (List Int)} {k : Nat} (h : forTo zss k = true) (j : Nat) (hj : j < k) : isTreeB (rowAt zss j) = true := by
  have h1 := forTo_le h (show j + 1 ≤ k by omega)
  rw [forTo, Bool.and_eq_true, Bool.and_eq_true] at h1
  exact h1.2.1
theorem forB_yes {zss : List (List Int)} (h : forB zss = true) : forTo zss zss.length = true ∧ tot zss ≤ 8 := by
  rw [forB, Bool.and_eq_true, decide_eq_true_iff] at h; exact h
theorem forB_IsL {zss : List (List Int)} (h : forB zss = true) : ∀ z ∈ zss, IsL z := by
  intro z hz
  obtain ⟨j, hj, he⟩ := List.getElem_of_mem hz
  have h1 := forTo_tree (forB_yes h).1 j hj
  rw [← he, rowAt_at zss j hj]
  rw [isTreeB, Bool.and_eq_true] at h1
  exact (isLev_IsL h1.1).1
theorem nodesIn_any (v : Value) (zss : List (List Int)) (w : World) (h : RdII w v zss) (ht : tot zss ≤ 1048576) :
    Calls Try.prog 42 #[v] w fun e w' => e = .returned (.int .i64 (tot zss)) ∧ w = w' := by
  have H := hid h
  obtain ⟨ao, cap, vs, rfl, hcap, hmax, -⟩ := h
  go_enter Try.func42, Try.ntmps42
  go_wp2
  go_loop [3, 8] (fun a i => ∃ k : Nat, k ≤ zss.length ∧ i = .int .i64 k ∧ a = .int .i64 (tot (zss.take k))) (fun _ i => zss.length - (intOf i).toNat)
  case atStart => exact ⟨0, Nat.zero_le _, rfl, rfl⟩
  case round =>
    obtain ⟨k, hk, rfl, rfl⟩ := hrel
    by_cases hlt : k < zss.length
    · obtain ⟨b, off, u, rfl, hcell, hu⟩ := H.out.at_ hlt
      obtain ⟨ao2, cap2, rfl⟩ := hu.form
      have h1 := tot_take_succ zss k hlt
      have h2 := tot_take zss (k + 1)
      have HS := hid h1
      have h3 : tot (zss.take k) + (rowAt zss k).length ≤ 1048576 := by omega
      clear h1 h2 hu
      go_wp2
      go_round
      case rel => exact ⟨k + 1, by omega, by go_num, by rw [HS.out]; go_num⟩
      case measure => simp [intOf]; omega
    · go_wp2
      go_ret
      obtain rfl : k = zss.length := by omega
      rw [List.take_length]
      exact ⟨rfl, rfl⟩
theorem l03Nodes_any (v : Value) (zss : List (List Int)) (w : World) (h : RdII w v zss) (ht : tot zss ≤ 1048576) :
    Calls Try.prog 44 #[v] w fun e w' => e = .returned (.int .i64 (tot zss)) ∧ w = w' := by
  have H := hid h
  obtain ⟨ao, cap, vs, rfl, hcap, hmax, -⟩ := h
  go_enter Try.func44, Try.ntmps44
  go_wp2
  go_loop [3, 4] (fun a i => ∃ k : Nat, k ≤ zss.length ∧ i = .int .i64 k ∧ a = .int .i64 (tot (zss.take k))) (fun _ i => zss.length - (intOf i).toNat)
  case atStart => exact ⟨0, Nat.zero_le _, rfl, rfl⟩
  case round =>
    obtain ⟨k, hk, rfl, rfl⟩ := hrel
    by_cases hlt : k < zss.length
    · obtain ⟨b, off, u, rfl, hcell, hu⟩ := H.out.at_ hlt
      obtain ⟨ao2, cap2, rfl⟩ := hu.form
      have h1 := tot_take_succ zss k hlt
      have h2 := tot_take zss (k + 1)
      have HS := hid h1
      have h3 : tot (zss.take k) + (rowAt zss k).length ≤ 1048576 := by omega
      clear h1 h2 hu
      go_wp2
      go_round
      case rel => exact ⟨k + 1, by omega, by go_num, by rw [HS.out]; go_num⟩
      case measure => simp [intOf]; omega
    · go_wp2
      go_ret
      obtain rfl : k = zss.length := by omega
      rw [List.take_length]
      exact ⟨rfl, rfl⟩
theorem isForest_any (v : Value) (zss : List (List Int)) (w : World) (h : RdII w v zss) (ht : tot zss ≤ 1048576) :
    Calls Try.prog 20 #[v] w fun e w' => e = .returned (.bool (forB zss)) ∧ Below w.heap.size w w' := by
  have H := hid h
  have HT := hid ht
  obtain ⟨ao, cap, vs, rfl, hcap, hmax, -⟩ := h
  by_cases h8 : tot zss ≤ 8
  · have HB : Hid (forB zss = forTo zss zss.length) := by simp [Hid, forB, h8]
    clear ht
    go_enter Try.func20, Try.ntmps20
    go_wp2_with (go_at_call 42; refine (nodesIn_any _ zss _ H.out HT.out).mono ?_; rintro e w' ⟨rfl, rfl⟩)
    go_loopw [10] (fun i wr => ∃ k : Nat, k ≤ zss.length ∧ i = .int .i64 k ∧ Hid (forTo zss k = true) ∧ Below w.heap.size w wr) (fun i _ => zss.length - (intOf i).toNat)
    case atStart => exact ⟨0, Nat.zero_le _, rfl, rfl, Below.refl _ _⟩
    case round =>
      obtain ⟨k, hk, rfl, HF, Bl⟩ := hrel
      by_cases hlt : k < zss.length
      · obtain ⟨b, off, u, rfl, hcell, hu⟩ := (H.out.mono Bl).at_ hlt
        have HU := hid hu
        obtain ⟨ao2, cap2, rfl⟩ := hu.form
        clear hu
        cases hi : isTreeB (rowAt zss k) with
        | true =>
          have HI := hid hi
          clear hi
          by_cases hk0 : k = 0
          · have HN : Hid (forTo zss (k + 1) = true) := by simp only [Hid, forTo]; rw [HF.out, HI.out]; simp [hk0]
            subst hk0
            rw [Nat.add_zero] at hcell
            go_wp2_with (go_at_call 39; refine (isTree_any _ (rowAt zss 0) _ HU.out).mono ?_; rintro e w1 ⟨rfl, B1⟩; rw [HI.out])
            go_roundw
            case rel => exact ⟨1, by omega, by go_num, HN, nx Bl B1⟩
            case measure => simp [intOf]; omega
          · have hk1 : k - 1 < zss.length := by omega
            obtain ⟨_, _, u', e1, hcell0, hu'⟩ := (H.out.mono Bl).at_ hk1
            cases e1
            have HU' := hid hu'
            obtain ⟨ao2', cap2', rfl⟩ := hu'.form
            clear hu'
            have i1 : IntKind.i64.wrap ((k : Int) - 1) = (k : Int) - 1 := IntWalk.i64_in _ (by omega)
            have i2 : (0 : Int) ≤ (k : Int) - 1 := by omega
            have i3 : (0 : Int) < (k : Int) := by omega
            have i4 : (k : Int) - 1 < (zss.length : Int) := by omega
            have i5 : ((k : Int) - 1).toNat = k - 1 := by omega
            have HC := hid (cmpT_pos (rowAt zss (k - 1)) (rowAt zss k))
            cases hl : ltT (rowAt zss k) (rowAt zss (k - 1)) with
            | true =>
              have HN : Hid (forB zss = false) := forB_no (show k + 1 ≤ zss.length by omega) (by simp only [forTo]; rw [hl]; simp [hk0])
              have HC2 : Hid (decide (0 < cmpT (rowAt zss (k - 1)) (rowAt zss k)) = true) := by simp only [Hid]; rw [HC.out, hl]
              clear hl HC hk0
              obtain ⟨c, hc⟩ : ∃ c, c = cmpT (rowAt zss (k - 1)) (rowAt zss k) := ⟨_, rfl⟩
              have HCC := hid hc.symm
              rw [← hc] at HC2
              have hcp : (0 : Int) < c := of_decide_eq_true HC2.out
              clear hc HC2
              go_wp2_with (first
                | (go_at_call 39; refine (isTree_any _ (rowAt zss k) _ HU.out).mono ?_; rintro e w1 ⟨rfl, B1⟩; rw [HI.out]; have hcell' := (B1.cell (p := ⟨b, off + (k - 1), none⟩) (World.block_lt_of_cell? _ _ hcell0)).trans hcell0)
                | (go_at_call 43; refine (compareTrees_any _ _ (rowAt zss (k - 1)) (rowAt zss k) _ (HU'.out.mono B1) (HU.out.mono B1)).mono ?_; rintro e w3 ⟨rfl, rfl⟩; rw [HCC.out]))
              go_ret
              rw [HN.out]
              exact ⟨rfl, nx Bl B1⟩
            | false =>
              have HN : Hid (forTo zss (k + 1) = true) := by simp only [Hid, forTo]; rw [HF.out, HI.out, hl]; simp
              have HC2 : Hid (decide (0 < cmpT (rowAt zss (k - 1)) (rowAt zss k)) = false) := by simp only [Hid]; rw [HC.out, hl]
              clear hl HC hk0
              obtain ⟨c, hc⟩ : ∃ c, c = cmpT (rowAt zss (k - 1)) (rowAt zss k) := ⟨_, rfl⟩
              have HCC := hid hc.symm
              rw [← hc] at HC2
              have hcp : c ≤ (0 : Int) := by have := of_decide_eq_false HC2.out; omega
              clear hc HC2
              go_wp2_with (first
                | (go_at_call 39; refine (isTree_any _ (rowAt zss k) _ HU.out).mono ?_; rintro e w1 ⟨rfl, B1⟩; rw [HI.out]; have hcell' := (B1.cell (p := ⟨b, off + (k - 1), none⟩) (World.block_lt_of_cell? _ _ hcell0)).trans hcell0)
                | (go_at_call 43; refine (compareTrees_any _ _ (rowAt zss (k - 1)) (rowAt zss k) _ (HU'.out.mono B1) (HU.out.mono B1)).mono ?_; rintro e w3 ⟨rfl, rfl⟩; rw [HCC.out]))
              clear i1 i2 i3 i4 i5
              go_roundw
              case rel => exact ⟨k + 1, by omega, by go_num, HN, nx Bl B1⟩
              case measure => simp [intOf]; omega
        | false =>
          have HI := hid hi
          have HN : Hid (forB zss = false) := forB_no (show k + 1 ≤ zss.length by omega) (by simp only [forTo]; rw [hi]; simp)
          clear hi
          go_wp2_with (go_at_call 39; refine (isTree_any _ (rowAt zss k) _ HU.out).mono ?_; rintro e w1 ⟨rfl, B1⟩; rw [HI.out])
          go_ret
          rw [HN.out]
          exact ⟨rfl, nx Bl B1⟩
      · go_wp2
        go_ret
        obtain rfl : k = zss.length := by omega
        rw [HB.out, HF.out]
        exact ⟨rfl, Bl⟩
  · have HB : Hid (forB zss = false) := by simp [Hid, forB, h8]
    clear ht
    go_enter Try.func20, Try.ntmps20
    go_wp2_with (go_at_call 42; refine (nodesIn_any _ zss _ H.out HT.out).mono ?_; rintro e w' ⟨rfl, rfl⟩)
    go_ret
    rw [HB.out]
    exact ⟨rfl, Below.refl _ _⟩
set_option linter.unusedSimpArgs false in
set_option maxHeartbeats 1000000 in
theorem l03Forest_any (v : Value) (zss : List (List Int)) (w : World) (h : RdII w v zss) (ht : tot zss ≤ 1048576) :
    Calls Try.prog 41 #[v] w fun e w' => e = .returned (.bool (forB zss)) ∧ Below w.heap.size w w' := by
  have H := hid h
  have HT := hid ht
  obtain ⟨ao, cap, vs, rfl, hcap, hmax, -⟩ := h
  clear ht
  go_enter Try.func41, Try.ntmps41
  go_wp2
  go_loopw [3] (fun i wr => ∃ k : Nat, k ≤ zss.length ∧ i = .int .i64 k ∧ Hid (forTo zss k = true) ∧ Below w.heap.size w wr) (fun i _ => zss.length - (intOf i).toNat)
  case atStart => exact ⟨0, Nat.zero_le _, rfl, rfl, Below.refl _ _⟩
  case round =>
    obtain ⟨k, hk, rfl, HF, Bl⟩ := hrel
    by_cases hlt : k < zss.length
    · obtain ⟨b, off, u, rfl, hcell, hu⟩ := (H.out.mono Bl).at_ hlt
      have HU := hid hu
      obtain ⟨ao2, cap2, rfl⟩ := hu.form
      have hb1 := World.block_lt_of_cell? _ _ hcell
      clear hu
      cases hi : isTreeB (rowAt zss k) with
      | true =>
        have HI := hid hi
        clear hi
        by_cases hk0 : k = 0
        · have HN : Hid (forTo zss (k + 1) = true) := by simp only [Hid, forTo]; rw [HF.out, HI.out]; simp [hk0]
          subst hk0
          rw [Nat.add_zero] at hcell
          go_wp2_with fail
          refine wp_region_held_drew (S := fun w' => w'.cell? ⟨b, off, none⟩ = some (.slice ao2 (rowAt zss 0).length cap2)) (by kernel_rfl) hcell (fun hHeld => ?_)
          refine wpAnyH_take (i := 0) (v := ?_) rfl (by kernel_rfl) (by kernel_rfl) (by kernel_rfl) (fun _ _ _ h => h) (Or.inl ⟨by rfl, ?_⟩) (by assumption) ?_
          rotate_left
          (intro w hSw; (try dsimp only at hSw); go_simp; try with_reducible rfl)
          try simp only [List.getElem_toArray, List.getElem_cons_zero, List.getElem_cons_succ, Act.put, List.setIfInBounds_toArray, List.set_cons_zero, List.set_cons_succ]
          refine wpAnyH_take (i := 1) (v := ?_) rfl (by kernel_rfl) (by kernel_rfl) (by kernel_rfl) (fun _ _ _ h => h) (Or.inl ⟨by rfl, ?_⟩) (by assumption) ?_
          rotate_left
          (intro w hSw; (try dsimp only at hSw); go_simp; try with_reducible rfl)
          try simp only [List.getElem_toArray, List.getElem_cons_zero, List.getElem_cons_succ, Act.put, List.setIfInBounds_toArray, List.set_cons_zero, List.set_cons_succ]
          refine wpAnyH_take (i := 2) (v := ?_) rfl (by kernel_rfl) (by kernel_rfl) (by kernel_rfl) (fun _ _ _ h => h) (Or.inl ⟨by rfl, ?_⟩) (by assumption) ?_
          rotate_left
          (intro w hSw; (try dsimp only at hSw); go_simp; try with_reducible rfl)
          try simp only [List.getElem_toArray, List.getElem_cons_zero, List.getElem_cons_succ, Act.put, List.setIfInBounds_toArray, List.set_cons_zero, List.set_cons_succ]
          refine wpAnyH_take (i := 3) (v := ?_) rfl (by kernel_rfl) (by kernel_rfl) (by kernel_rfl) (fun _ _ _ h => h) (Or.inl ⟨by rfl, ?_⟩) (by assumption) ?_
          rotate_left
          (intro w hSw; (try dsimp only at hSw); go_simp; try with_reducible rfl)
          try simp only [List.getElem_toArray, List.getElem_cons_zero, List.getElem_cons_succ, Act.put, List.setIfInBounds_toArray, List.set_cons_zero, List.set_cons_succ]
          refine wpAnyH_ready (rs := [4]) (by kernel_rfl) (by simp) ?_
          refine AllReadyH.cons rfl (fun K hK => ?_) AllReadyH.nil
          go_simp
          (go_at_call 37; refine (sIsTree_any _ (rowAt zss 0) _ (HU.out.mono (below_drewN (Below.refl _ _) _))).mono ?_; rintro e w1 ⟨rfl, B1⟩; rw [HI.out])
          go_wp2_with fail
          refine hK.out _ _ ((B1.cell (p := ⟨b, off, none⟩) hb1).trans hcell) (fun hHeld2 => ?_)
          clear hK K
          try simp only [Act.put, List.setIfInBounds_toArray, List.set_cons_zero, List.set_cons_succ]
          refine wpAnyH_take (i := 5) (v := ?_) rfl (by kernel_rfl) (by kernel_rfl) (by kernel_rfl) (fun _ _ _ h => h) (Or.inl ⟨by rfl, ?_⟩) (by assumption) ?_
          rotate_left
          (intro w hSw; (try dsimp only at hSw); go_simp; try with_reducible rfl)
          try simp only [List.getElem_toArray, List.getElem_cons_zero, List.getElem_cons_succ, Act.put, List.setIfInBounds_toArray, List.set_cons_zero, List.set_cons_succ]
          refine wpAnyH_take (i := 6) (v := ?_) rfl (by kernel_rfl) (by kernel_rfl) (by kernel_rfl) (fun _ _ _ h => h) (Or.inl ⟨by rfl, ?_⟩) (by assumption) ?_
          rotate_left
          (intro w hSw; (try dsimp only at hSw); go_simp; try with_reducible rfl)
          try simp only [List.getElem_toArray, List.getElem_cons_zero, List.getElem_cons_succ, Act.put, List.setIfInBounds_toArray, List.set_cons_zero, List.set_cons_succ]
          refine wpAnyH_take (i := 7) (v := ?_) rfl (by kernel_rfl) (by kernel_rfl) (by kernel_rfl) (fun _ _ _ h => h) (Or.inl ⟨by rfl, ?_⟩) (by assumption) ?_
          rotate_left
          (intro w hSw; (try dsimp only at hSw); go_simp; try with_reducible rfl)
          try simp only [List.getElem_toArray, List.getElem_cons_zero, List.getElem_cons_succ, Act.put, List.setIfInBounds_toArray, List.set_cons_zero, List.set_cons_succ]
          refine wpAnyH_take (i := 8) (v := ?_) rfl (by kernel_rfl) (by kernel_rfl) (by kernel_rfl) (fun _ _ _ h => h) (Or.inl ⟨by rfl, ?_⟩) (by assumption) ?_
          rotate_left
          (intro w hSw; (try dsimp only at hSw); go_simp; try with_reducible rfl)
          try simp only [List.getElem_toArray, List.getElem_cons_zero, List.getElem_cons_succ, Act.put, List.setIfInBounds_toArray, List.set_cons_zero, List.set_cons_succ]
          refine wpAnyH_take (i := 9) (v := ?_) rfl (by kernel_rfl) (by kernel_rfl) (by kernel_rfl) (fun _ _ _ h => h) (Or.inl ⟨by rfl, ?_⟩) (by assumption) ?_
          rotate_left
          (intro w hSw; (try dsimp only at hSw); go_simp; try with_reducible rfl)
          try simp only [List.getElem_toArray, List.getElem_cons_zero, List.getElem_cons_succ, Act.put, List.setIfInBounds_toArray, List.set_cons_zero, List.set_cons_succ]
          refine wpAnyH_take (i := 10) (v := undef) rfl (by kernel_rfl) (by kernel_rfl) (by kernel_rfl) (fun _ _ _ h => h) (Or.inr ⟨by rfl, rfl⟩) (by assumption) ?_
          try simp only [List.getElem_toArray, List.getElem_cons_zero, List.getElem_cons_succ, Act.put, List.setIfInBounds_toArray, List.set_cons_zero, List.set_cons_succ]
          refine wpAnyH_take (i := 11) (v := undef) rfl (by kernel_rfl) (by kernel_rfl) (by kernel_rfl) (fun _ _ _ h => h) (Or.inr ⟨by rfl, rfl⟩) (by assumption) ?_
          try simp only [List.getElem_toArray, List.getElem_cons_zero, List.getElem_cons_succ, Act.put, List.setIfInBounds_toArray, List.set_cons_zero, List.set_cons_succ]
          refine wpAnyH_take (i := 12) (v := undef) rfl (by kernel_rfl) (by kernel_rfl) (by kernel_rfl) (fun _ _ _ h => h) (Or.inr ⟨by rfl, rfl⟩) (by assumption) ?_
          try simp only [List.getElem_toArray, List.getElem_cons_zero, List.getElem_cons_succ, Act.put, List.setIfInBounds_toArray, List.set_cons_zero, List.set_cons_succ]
          refine wpAnyH_take (i := 13) (v := undef) rfl (by kernel_rfl) (by kernel_rfl) (by kernel_rfl) (fun _ _ _ h => h) (Or.inr ⟨by rfl, rfl⟩) (by assumption) ?_
          try simp only [List.getElem_toArray, List.getElem_cons_zero, List.getElem_cons_succ, Act.put, List.setIfInBounds_toArray, List.set_cons_zero, List.set_cons_succ]
          refine wpAnyH_take (i := 14) (v := undef) rfl (by kernel_rfl) (by kernel_rfl) (by kernel_rfl) (fun _ _ _ h => h) (Or.inr ⟨by rfl, rfl⟩) (by assumption) ?_
          try simp only [List.getElem_toArray, List.getElem_cons_zero, List.getElem_cons_succ, Act.put, List.setIfInBounds_toArray, List.set_cons_zero, List.set_cons_succ]
          refine wpAnyH_take (i := 15) (v := undef) rfl (by kernel_rfl) (by kernel_rfl) (by kernel_rfl) (fun _ _ _ h => h) (Or.inr ⟨by rfl, rfl⟩) (by assumption) ?_
          try simp only [List.getElem_toArray, List.getElem_cons_zero, List.getElem_cons_succ, Act.put, List.setIfInBounds_toArray, List.set_cons_zero, List.set_cons_succ]
          refine wpAnyH_take (i := 16) (v := undef) rfl (by kernel_rfl) (by kernel_rfl) (by kernel_rfl) (fun _ _ _ h => h) (Or.inr ⟨by rfl, rfl⟩) (by assumption) ?_
          try simp only [List.getElem_toArray, List.getElem_cons_zero, List.getElem_cons_succ, Act.put, List.setIfInBounds_toArray, List.set_cons_zero, List.set_cons_succ]
          refine wpAnyH_take (i := 17) (v := undef) rfl (by kernel_rfl) (by kernel_rfl) (by kernel_rfl) (fun _ _ _ h => h) (Or.inr ⟨by rfl, rfl⟩) (by assumption) ?_
          try simp only [List.getElem_toArray, List.getElem_cons_zero, List.getElem_cons_succ, Act.put, List.setIfInBounds_toArray, List.set_cons_zero, List.set_cons_succ]
          refine wpAnyH_take (i := 18) (v := undef) rfl (by kernel_rfl) (by kernel_rfl) (by kernel_rfl) (fun _ _ _ h => h) (Or.inr ⟨by rfl, rfl⟩) (by assumption) ?_
          try simp only [List.getElem_toArray, List.getElem_cons_zero, List.getElem_cons_succ, Act.put, List.setIfInBounds_toArray, List.set_cons_zero, List.set_cons_succ]
          refine wpAnyH_take (i := 19) (v := undef) rfl (by kernel_rfl) (by kernel_rfl) (by kernel_rfl) (fun _ _ _ h => h) (Or.inr ⟨by rfl, rfl⟩) (by assumption) ?_
          try simp only [List.getElem_toArray, List.getElem_cons_zero, List.getElem_cons_succ, Act.put, List.setIfInBounds_toArray, List.set_cons_zero, List.set_cons_succ]
          refine wpAnyH_take (i := 20) (v := ?_) rfl (by kernel_rfl) (by kernel_rfl) (by kernel_rfl) (fun _ _ _ h => h) (Or.inl ⟨by rfl, ?_⟩) (by assumption) ?_
          rotate_left
          (intro w hSw; (try dsimp only at hSw); go_simp; try with_reducible rfl)
          try simp only [List.getElem_toArray, List.getElem_cons_zero, List.getElem_cons_succ, Act.put, List.setIfInBounds_toArray, List.set_cons_zero, List.set_cons_succ]
          refine wpAnyH_take (i := 21) (v := ?_) rfl (by kernel_rfl) (by kernel_rfl) (by kernel_rfl) (fun _ _ _ h => h) (Or.inl ⟨by rfl, ?_⟩) (by assumption) ?_
          rotate_left
          (intro w hSw; (try dsimp only at hSw); go_simp; try with_reducible rfl)
          try simp only [List.getElem_toArray, List.getElem_cons_zero, List.getElem_cons_succ, Act.put, List.setIfInBounds_toArray, List.set_cons_zero, List.set_cons_succ]
          refine wpAnyH_done (by kernel_rfl) ?_ _
          go_wp2_with fail
          go_roundw
          case rel => exact ⟨1, by omega, by go_num, HN, nx (below_drewN Bl _) B1⟩
          case measure => simp [intOf]; omega
        · have hk1 : k - 1 < zss.length := by omega
          obtain ⟨_, _, u', e1, hcell0, hu'⟩ := (H.out.mono Bl).at_ hk1
          cases e1
          have HU' := hid hu'
          obtain ⟨ao2', cap2', rfl⟩ := hu'.form
          have hb0 := World.block_lt_of_cell? _ _ hcell0
          clear hu'
          have i1 : IntKind.i64.wrap ((k : Int) - 1) = (k : Int) - 1 := IntWalk.i64_in _ (by omega)
          have i2 : (0 : Int) ≤ (k : Int) - 1 := by omega
          have i3 : (0 : Int) < (k : Int) := by omega
          have i4 : (k : Int) - 1 < (zss.length : Int) := by omega
          have i5 : ((k : Int) - 1).toNat = k - 1 := by omega
          have i6 : decide (0 < k) = true := by simp; omega
          have i7 : decide ((0 : Int) < (k : Int)) = true := by simp; omega
          have i8 : 0 < k := by omega
          have i9 : (1 : Int) ≤ (k : Int) := by omega
          cases hl : ltT (rowAt zss k) (rowAt zss (k - 1)) with
          | true =>
            have HL := hid hl
            have HN : Hid (forB zss = false) := forB_no (show k + 1 ≤ zss.length by omega) (by simp only [forTo]; rw [hl]; simp [hk0])
            clear hl hk0
            go_wp2_with fail
            go_region_held3 (fun w' => w'.cell? ⟨b, off + k, none⟩ = some (.slice ao2 (rowAt zss k).length cap2) ∧ w'.cell? ⟨b, off + (k - 1), none⟩ = some (.slice ao2' (rowAt zss (k - 1)).length cap2'))
              (first
                | go_keep
                | (exact ⟨(B1.cell (p := ⟨b, off + k, none⟩) hb1).trans hcell, (B1.cell (p := ⟨b, off + (k - 1), none⟩) hb0).trans hcell0⟩)
                | (exact ⟨(B3.cell (p := ⟨b, off + k, none⟩) (Nat.lt_of_lt_of_le hb1 B1.size)).trans ((B1.cell (p := ⟨b, off + k, none⟩) hb1).trans hcell), (B3.cell (p := ⟨b, off + (k - 1), none⟩) (Nat.lt_of_lt_of_le hb0 B1.size)).trans ((B1.cell (p := ⟨b, off + (k - 1), none⟩) hb0).trans hcell0)⟩))
              (first
                | (go_at_call 37; refine (sIsTree_any _ (rowAt zss k) _ (HU.out.mono (below_drewN (Below.refl _ _) _))).mono ?_; rintro e w1 ⟨rfl, B1⟩; rw [HI.out])
                | (go_at_call 61; refine (l03Before_any _ _ (rowAt zss k) (rowAt zss (k - 1)) _ ((HU.out.mono (below_drewN (Below.refl _ _) _)).mono B1) ((HU'.out.mono (below_drewN (Below.refl _ _) _)).mono B1)).mono ?_; rintro e w3 ⟨rfl, D3⟩; rw [HL.out]; have B3 := D3.below w1.heap.size))
            go_wp2_with fail
            go_ret
            rw [HN.out]
            exact ⟨rfl, nx (nx (below_drewN Bl _) B1) B3⟩
          | false =>
            have HL := hid hl
            have HN : Hid (forTo zss (k + 1) = true) := by simp only [Hid, forTo]; rw [HF.out, HI.out, hl]; simp
            clear hl hk0
            go_wp2_with fail
            go_region_held3 (fun w' => w'.cell? ⟨b, off + k, none⟩ = some (.slice ao2 (rowAt zss k).length cap2) ∧ w'.cell? ⟨b, off + (k - 1), none⟩ = some (.slice ao2' (rowAt zss (k - 1)).length cap2'))
              (first
                | go_keep
                | (exact ⟨(B1.cell (p := ⟨b, off + k, none⟩) hb1).trans hcell, (B1.cell (p := ⟨b, off + (k - 1), none⟩) hb0).trans hcell0⟩)
                | (exact ⟨(B3.cell (p := ⟨b, off + k, none⟩) (Nat.lt_of_lt_of_le hb1 B1.size)).trans ((B1.cell (p := ⟨b, off + k, none⟩) hb1).trans hcell), (B3.cell (p := ⟨b, off + (k - 1), none⟩) (Nat.lt_of_lt_of_le hb0 B1.size)).trans ((B1.cell (p := ⟨b, off + (k - 1), none⟩) hb0).trans hcell0)⟩))
              (first
                | (go_at_call 37; refine (sIsTree_any _ (rowAt zss k) _ (HU.out.mono (below_drewN (Below.refl _ _) _))).mono ?_; rintro e w1 ⟨rfl, B1⟩; rw [HI.out])
                | (go_at_call 61; refine (l03Before_any _ _ (rowAt zss k) (rowAt zss (k - 1)) _ ((HU.out.mono (below_drewN (Below.refl _ _) _)).mono B1) ((HU'.out.mono (below_drewN (Below.refl _ _) _)).mono B1)).mono ?_; rintro e w3 ⟨rfl, D3⟩; rw [HL.out]; have B3 := D3.below w1.heap.size))
            go_wp2_with fail
            clear i1 i2 i3 i4 i5 i6 i7 i8 i9
            go_roundw
            case rel => exact ⟨k + 1, by omega, by go_num, HN, nx (nx (below_drewN Bl _) B1) B3⟩
            case measure => simp [intOf]; omega
      | false =>
        have HI := hid hi
        have HN : Hid (forB zss = false) := forB_no (show k + 1 ≤ zss.length by omega) (by simp only [forTo]; rw [hi]; simp)
        clear hi
        go_wp2_with fail
        refine wp_region_held_drew (S := fun w' => w'.cell? ⟨b, off + k, none⟩ = some (.slice ao2 (rowAt zss k).length cap2)) (by kernel_rfl) hcell (fun hHeld => ?_)
        refine wpAnyH_take (i := 0) (v := ?_) rfl (by kernel_rfl) (by kernel_rfl) (by kernel_rfl) (fun _ _ _ h => h) (Or.inl ⟨by rfl, ?_⟩) (by assumption) ?_
        rotate_left
        (intro w hSw; (try dsimp only at hSw); go_simp; try with_reducible rfl)
        try simp only [List.getElem_toArray, List.getElem_cons_zero, List.getElem_cons_succ, Act.put, List.setIfInBounds_toArray, List.set_cons_zero, List.set_cons_succ]
        refine wpAnyH_take (i := 1) (v := ?_) rfl (by kernel_rfl) (by kernel_rfl) (by kernel_rfl) (fun _ _ _ h => h) (Or.inl ⟨by rfl, ?_⟩) (by assumption) ?_
        rotate_left
        (intro w hSw; (try dsimp only at hSw); go_simp; try with_reducible rfl)
        try simp only [List.getElem_toArray, List.getElem_cons_zero, List.getElem_cons_succ, Act.put, List.setIfInBounds_toArray, List.set_cons_zero, List.set_cons_succ]
        refine wpAnyH_take (i := 2) (v := ?_) rfl (by kernel_rfl) (by kernel_rfl) (by kernel_rfl) (fun _ _ _ h => h) (Or.inl ⟨by rfl, ?_⟩) (by assumption) ?_
        rotate_left
        (intro w hSw; (try dsimp only at hSw); go_simp; try with_reducible rfl)
        try simp only [List.getElem_toArray, List.getElem_cons_zero, List.getElem_cons_succ, Act.put, List.setIfInBounds_toArray, List.set_cons_zero, List.set_cons_succ]
        refine wpAnyH_take (i := 3) (v := ?_) rfl (by kernel_rfl) (by kernel_rfl) (by kernel_rfl) (fun _ _ _ h => h) (Or.inl ⟨by rfl, ?_⟩) (by assumption) ?_
        rotate_left
        (intro w hSw; (try dsimp only at hSw); go_simp; try with_reducible rfl)
        try simp only [List.getElem_toArray, List.getElem_cons_zero, List.getElem_cons_succ, Act.put, List.setIfInBounds_toArray, List.set_cons_zero, List.set_cons_succ]
        refine wpAnyH_ready (rs := [4]) (by kernel_rfl) (by simp) ?_
        refine AllReadyH.cons rfl (fun K hK => ?_) AllReadyH.nil
        go_simp
        (go_at_call 37; refine (sIsTree_any _ (rowAt zss k) _ (HU.out.mono (below_drewN (Below.refl _ _) _))).mono ?_; rintro e w1 ⟨rfl, B1⟩; rw [HI.out])
        go_wp2_with fail
        refine hK.out _ _ ((B1.cell (p := ⟨b, off + k, none⟩) hb1).trans hcell) (fun hHeld2 => ?_)
        clear hK K
        try simp only [Act.put, List.setIfInBounds_toArray, List.set_cons_zero, List.set_cons_succ]
        refine wpAnyH_take (i := 5) (v := ?_) rfl (by kernel_rfl) (by kernel_rfl) (by kernel_rfl) (fun _ _ _ h => h) (Or.inl ⟨by rfl, ?_⟩) (by assumption) ?_
        rotate_left
        (intro w hSw; (try dsimp only at hSw); go_simp; try with_reducible rfl)
        try simp only [List.getElem_toArray, List.getElem_cons_zero, List.getElem_cons_succ, Act.put, List.setIfInBounds_toArray, List.set_cons_zero, List.set_cons_succ]
        refine wpAnyH_take (i := 6) (v := ?_) rfl (by kernel_rfl) (by kernel_rfl) (by kernel_rfl) (fun _ _ _ h => h) (Or.inl ⟨by rfl, ?_⟩) (by assumption) ?_
        rotate_left
        (intro w hSw; (try dsimp only at hSw); go_simp; try with_reducible rfl)
        try simp only [List.getElem_toArray, List.getElem_cons_zero, List.getElem_cons_succ, Act.put, List.setIfInBounds_toArray, List.set_cons_zero, List.set_cons_succ]
        refine wpAnyH_take (i := 7) (v := undef) rfl (by kernel_rfl) (by kernel_rfl) (by kernel_rfl) (fun _ _ _ h => h) (Or.inr ⟨by rfl, rfl⟩) (by assumption) ?_
        try simp only [List.getElem_toArray, List.getElem_cons_zero, List.getElem_cons_succ, Act.put, List.setIfInBounds_toArray, List.set_cons_zero, List.set_cons_succ]
        refine wpAnyH_take (i := 8) (v := undef) rfl (by kernel_rfl) (by kernel_rfl) (by kernel_rfl) (fun _ _ _ h => h) (Or.inr ⟨by rfl, rfl⟩) (by assumption) ?_
        try simp only [List.getElem_toArray, List.getElem_cons_zero, List.getElem_cons_succ, Act.put, List.setIfInBounds_toArray, List.set_cons_zero, List.set_cons_succ]
        refine wpAnyH_take (i := 9) (v := undef) rfl (by kernel_rfl) (by kernel_rfl) (by kernel_rfl) (fun _ _ _ h => h) (Or.inr ⟨by rfl, rfl⟩) (by assumption) ?_
        try simp only [List.getElem_toArray, List.getElem_cons_zero, List.getElem_cons_succ, Act.put, List.setIfInBounds_toArray, List.set_cons_zero, List.set_cons_succ]
        refine wpAnyH_take (i := 10) (v := undef) rfl (by kernel_rfl) (by kernel_rfl) (by kernel_rfl) (fun _ _ _ h => h) (Or.inr ⟨by rfl, rfl⟩) (by assumption) ?_
        try simp only [List.getElem_toArray, List.getElem_cons_zero, List.getElem_cons_succ, Act.put, List.setIfInBounds_toArray, List.set_cons_zero, List.set_cons_succ]
        refine wpAnyH_take (i := 11) (v := undef) rfl (by kernel_rfl) (by kernel_rfl) (by kernel_rfl) (fun _ _ _ h => h) (Or.inr ⟨by rfl, rfl⟩) (by assumption) ?_
        try simp only [List.getElem_toArray, List.getElem_cons_zero, List.getElem_cons_succ, Act.put, List.setIfInBounds_toArray, List.set_cons_zero, List.set_cons_succ]
        refine wpAnyH_take (i := 12) (v := undef) rfl (by kernel_rfl) (by kernel_rfl) (by kernel_rfl) (fun _ _ _ h => h) (Or.inr ⟨by rfl, rfl⟩) (by assumption) ?_
        try simp only [List.getElem_toArray, List.getElem_cons_zero, List.getElem_cons_succ, Act.put, List.setIfInBounds_toArray, List.set_cons_zero, List.set_cons_succ]
        refine wpAnyH_take (i := 13) (v := undef) rfl (by kernel_rfl) (by kernel_rfl) (by kernel_rfl) (fun _ _ _ h => h) (Or.inr ⟨by rfl, rfl⟩) (by assumption) ?_
        try simp only [List.getElem_toArray, List.getElem_cons_zero, List.getElem_cons_succ, Act.put, List.setIfInBounds_toArray, List.set_cons_zero, List.set_cons_succ]
        refine wpAnyH_take (i := 14) (v := undef) rfl (by kernel_rfl) (by kernel_rfl) (by kernel_rfl) (fun _ _ _ h => h) (Or.inr ⟨by rfl, rfl⟩) (by assumption) ?_
        try simp only [List.getElem_toArray, List.getElem_cons_zero, List.getElem_cons_succ, Act.put, List.setIfInBounds_toArray, List.set_cons_zero, List.set_cons_succ]
        refine wpAnyH_take (i := 15) (v := undef) rfl (by kernel_rfl) (by kernel_rfl) (by kernel_rfl) (fun _ _ _ h => h) (Or.inr ⟨by rfl, rfl⟩) (by assumption) ?_
        try simp only [List.getElem_toArray, List.getElem_cons_zero, List.getElem_cons_succ, Act.put, List.setIfInBounds_toArray, List.set_cons_zero, List.set_cons_succ]
        refine wpAnyH_take (i := 16) (v := undef) rfl (by kernel_rfl) (by kernel_rfl) (by kernel_rfl) (fun _ _ _ h => h) (Or.inr ⟨by rfl, rfl⟩) (by assumption) ?_
        try simp only [List.getElem_toArray, List.getElem_cons_zero, List.getElem_cons_succ, Act.put, List.setIfInBounds_toArray, List.set_cons_zero, List.set_cons_succ]
        refine wpAnyH_take (i := 17) (v := undef) rfl (by kernel_rfl) (by kernel_rfl) (by kernel_rfl) (fun _ _ _ h => h) (Or.inr ⟨by rfl, rfl⟩) (by assumption) ?_
        try simp only [List.getElem_toArray, List.getElem_cons_zero, List.getElem_cons_succ, Act.put, List.setIfInBounds_toArray, List.set_cons_zero, List.set_cons_succ]
        refine wpAnyH_take (i := 18) (v := undef) rfl (by kernel_rfl) (by kernel_rfl) (by kernel_rfl) (fun _ _ _ h => h) (Or.inr ⟨by rfl, rfl⟩) (by assumption) ?_
        try simp only [List.getElem_toArray, List.getElem_cons_zero, List.getElem_cons_succ, Act.put, List.setIfInBounds_toArray, List.set_cons_zero, List.set_cons_succ]
        refine wpAnyH_take (i := 19) (v := undef) rfl (by kernel_rfl) (by kernel_rfl) (by kernel_rfl) (fun _ _ _ h => h) (Or.inr ⟨by rfl, rfl⟩) (by assumption) ?_
        try simp only [List.getElem_toArray, List.getElem_cons_zero, List.getElem_cons_succ, Act.put, List.setIfInBounds_toArray, List.set_cons_zero, List.set_cons_succ]
        refine wpAnyH_take (i := 20) (v := undef) rfl (by kernel_rfl) (by kernel_rfl) (by kernel_rfl) (fun _ _ _ h => h) (Or.inr ⟨by rfl, rfl⟩) (by assumption) ?_
        try simp only [List.getElem_toArray, List.getElem_cons_zero, List.getElem_cons_succ, Act.put, List.setIfInBounds_toArray, List.set_cons_zero, List.set_cons_succ]
        refine wpAnyH_take (i := 21) (v := ?_) rfl (by kernel_rfl) (by kernel_rfl) (by kernel_rfl) (fun _ _ _ h => h) (Or.inl ⟨by rfl, ?_⟩) (by assumption) ?_
        rotate_left
        (intro w hSw; (try dsimp only at hSw); go_simp; try with_reducible rfl)
        try simp only [List.getElem_toArray, List.getElem_cons_zero, List.getElem_cons_succ, Act.put, List.setIfInBounds_toArray, List.set_cons_zero, List.set_cons_succ]
        refine wpAnyH_done (by kernel_rfl) ?_ _
        go_wp2_with fail
        go_ret
        rw [HN.out]
        exact ⟨rfl, nx (below_drewN Bl _) B1⟩
    · go_wp2_with (go_at_call 44; refine (l03Nodes_any _ zss _ (H.out.mono Bl) HT.out).mono ?_; rintro e w' ⟨rfl, rfl⟩)
      go_ret
      obtain rfl : k = zss.length := by omega
      have HB : forB zss = decide ((tot zss : Int) ≤ 8) := by rw [forB, HF.out, Bool.true_and, decide_eq_decide]; omega
      rw [HB]
      exact ⟨rfl, Bl⟩
theorem sIsForest_any (v : Value) (zss : List (List Int)) (w : World) (h : RdII w v zss) (ht : tot zss ≤ 1048576) :
    Calls Try.prog 18 #[v] w fun e w' => e = .returned (.bool (forB zss)) ∧ Below w.heap.size w w' := by
  go_enter Try.func18, Try.ntmps18
  go_wp2_with fail
  refine (l03Forest_any _ zss _ h ht).mono ?_; rintro e w1 ⟨rfl, B⟩
  go_wp2
  go_ret
  exact ⟨rfl, B⟩
end Go.Proofs.Ythjdmkjncaemgaa
