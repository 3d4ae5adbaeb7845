/-
  The walks of the exported lists of trees.
-/
import Derived.Test.YtoiangfookhfdaaTreeM
import Derived.Test.YtoiangfookhfdaaField
namespace Go.Proofs.Ytoiangfookhfdaa
open Go.RowKit
set_option maxRecDepth 100000
def treesR (n : Int) : List (List Int) × Int := if inR n 1 8 = true then (treesL n.toNat, 0) else ([], 2)
theorem allT_facts : (allT 8).length = 200 ∧ tot (allT 8) ≤ 2000 := by decide +kernel
theorem treesL_tot (n : Nat) (h1 : 1 ≤ n) (h8 : n ≤ 8) : tot (treesL n) ≤ 2000 := by
  obtain ⟨r, hr⟩ := allT_prefix n 8 h8
  have h := allT_facts.2
  rw [hr, tot_append] at h
  obtain ⟨m, rfl⟩ : ∃ m, n = m + 1 := ⟨n - 1, by omega⟩
  rw [allT, tot_append] at h
  omega
theorem treesR_tot (n : Int) : tot (treesR n).1 ≤ 1048576 := by
  unfold treesR
  split
  · rename_i h
    have := inR_iff.1 h
    have := treesL_tot n.toNat (by omega) (by omega)
    show tot (treesL n.toNat) ≤ _
    omega
  · simp [tot]
theorem treesOfE_any (n : Int) (w : World) :
    Calls Try.prog 26 #[.int .i64 n] w fun e w' => ∃ r, e = .returned (.tuple #[r, .int .i64 (treesR n).2]) ∧ OwnII w.heap.size w' r (treesR n).1 ∧ Below w.heap.size w w' := by
  cases hs : inR n 1 8 with
  | true =>
    have hb := inR_iff.1 hs
    obtain ⟨m, rfl⟩ : ∃ m : Nat, n = (m : Int) := ⟨n.toNat, by omega⟩
    have HR : Hid (treesR (m : Int) = (treesL m, 0)) := by simp only [Hid, treesR]; rw [if_pos hs]; rfl
    have HS := hid hs
    have h1 : 1 ≤ m := by omega
    have h8 : m ≤ 8 := by omega
    clear hs
    go_enter Try.func26, Try.ntmps26
    go_wp2_with (first
      | (go_at_call 53; refine (inRange_any _ _ _ _).mono ?_; rintro e w' ⟨rfl, rfl⟩; rw [HS.out])
      | (go_at_call 54; refine (treesOf_any m h1 h8 _).mono ?_; rintro e w1 ⟨r, rfl, O, B⟩))
    go_ret2
    rw [HR.out]
    exact ⟨_, rfl, O, B⟩
  | false =>
    have HR : Hid (treesR n = ([], 2)) := by simp [Hid, treesR, hs]
    have HS := hid hs
    clear hs
    go_enter Try.func26, Try.ntmps26
    go_wp2_with (go_at_call 53; refine (inRange_any _ _ _ _).mono ?_; rintro e w' ⟨rfl, rfl⟩; rw [HS.out])
    go_ret2
    rw [HR.out]
    exact ⟨_, rfl, ⟨[], Own2.nil _ _⟩, Below.refl _ _⟩
theorem sTreesOf_any (n : Int) (w : World) :
    Calls Try.prog 25 #[.int .i64 n] w fun e w' => ∃ r, e = .returned (.tuple #[r, .int .i64 (treesR n).2]) ∧ OwnII w.heap.size w' r (treesR n).1 ∧ Below w.heap.size w w' := by
  cases hs : inR n 1 8 with
  | true =>
    have hb := inR_iff.1 hs
    obtain ⟨m, rfl⟩ : ∃ m : Nat, n = (m : Int) := ⟨n.toNat, by omega⟩
    have HR : Hid (treesR (m : Int) = (treesL m, 0)) := by simp only [Hid, treesR]; rw [if_pos hs]; rfl
    have HS := hid hs
    have h1 : 1 ≤ m := by omega
    have h8 : m ≤ 8 := by omega
    clear hs
    go_enter Try.func25, Try.ntmps25
    go_wp2_with (first
      | (go_at_call 51; refine (l01In_any _ _ _ _).mono ?_; rintro e w' ⟨rfl, rfl⟩; rw [HS.out])
      | (go_at_call 52; refine (l03Trees_any m h1 h8 _).mono ?_; rintro e w1 ⟨r, rfl, O, B⟩))
    go_ret2
    rw [HR.out]
    exact ⟨_, rfl, O, B⟩
  | false =>
    have HR : Hid (treesR n = ([], 2)) := by simp [Hid, treesR, hs]
    have HS := hid hs
    clear hs
    go_enter Try.func25, Try.ntmps25
    go_wp2_with (go_at_call 51; refine (l01In_any _ _ _ _).mono ?_; rintro e w' ⟨rfl, rfl⟩; rw [HS.out])
    go_ret2
    rw [HR.out]
    exact ⟨_, rfl, ⟨[], Own2.nil _ _⟩, Below.refl _ _⟩
theorem allT_8 : (allT 8).length = 200 := allT_facts.1
theorem allT_len (n : Nat) (h8 : n ≤ 8) : (allT n).length ≤ 200 := by
  obtain ⟨r, hr⟩ := allT_prefix n 8 h8
  have h := allT_8
  rw [hr, List.length_append] at h
  omega
theorem treesTo_any (n : Nat) (h8 : n ≤ 8) (w : World) :
    Calls Try.prog 55 #[.int .i64 (n : Nat)] w fun e w' => ∃ r, e = .returned r ∧ OwnII w.heap.size w' r (allT n) ∧ Below w.heap.size w w' := by
  go_enter Try.func55, Try.ntmps55
  go_wp2
  go_loopw [3, 4] (fun r i wr => ∃ (k : Nat) (us : List Value), k ≤ n ∧ i = .int .i64 ((k + 1 : Nat) : Int) ∧ Own2 w.heap.size wr r us (allT k) ∧ Below w.heap.size w wr) (fun _ i _ => n + 1 - (intOf i).toNat)
  case atStart => exact ⟨0, [], Nat.zero_le _, rfl, Own2.litAt (by simp) (by omega), below_alloc _ _⟩
  case round =>
    obtain ⟨k, us, hk, rfl, O, Bl⟩ := hrel
    by_cases hlt : k < n
    · have hlt1 : ((k + 1 : Nat) : Int) ≤ (n : Int) := by omega
      have hcap : Hid ((allT k).length + (treesL (k + 1)).length ≤ 1048576) := by
        have := allT_len (k + 1) (by omega)
        rw [allT] at this; simp only [Hid]; simp only [List.length_append] at this; omega
      have HO := hid O
      have bo := Bl.size
      have hm0 : Hid (0 < (treesL (k + 1)).length) := by
        simp only [Hid]; rw [treesL_len (k + 1) (by omega) (by omega)]
        rcases (by omega : k = 0 ∨ k = 1 ∨ k = 2 ∨ k = 3 ∨ k = 4 ∨ k = 5 ∨ k = 6 ∨ k = 7) with rfl | rfl | rfl | rfl | rfl | rfl | rfl | rfl <;> decide
      go_wp2_with (first
        | (go_at_call 54; refine (treesOf_any (k + 1) (by omega) (by omega) _).mono ?_; rintro e w1 ⟨r1, rfl, ⟨us1, O1⟩, B1⟩; obtain ⟨ao1, cap1, rfl⟩ := O1.form; obtain ⟨g1, rfl⟩ := O1.addr hm0.out; have b1 := B1.size; have OO := HO.out.mono B1)
        | (at_builtin; refine wpl_appN (v := u3) (vs := us1) (ys := treesL (k + 1)) rfl _ _ _ rfl Try.underlying28 info_ii rfl OO ⟨g1, 0, none⟩ _ cap1 rfl O1.len O1.news_all O1.len (O1.lower bo).2.2.2.1 (List.pairwise_append.2 ⟨HO.out.pairwise, O1.pairwise, fun x hx y hy => (parted_lt wr.heap.size (fun b h => (O1.mem_lt y hy b h).1) (fun b h => (HO.out.mem_lt x hx b h).2)).symm⟩) (fun x hx => parted_lt wr.heap.size (fun b h => (O1.mem_lt x hx b h).1) (fun b h => (HO.out.lt b h).2)) hcap.out (by omega) ?_; intro v' W2 O2 G2 B2 P2; clear G2 P2))
      go_roundw
      case rel => exact ⟨k + 1, _, by omega, by go_num, by rw [allT]; exact O2, (nx Bl B1).trans B2⟩
      case measure => simp [intOf]; omega
    · obtain rfl : k = n := by omega
      have hge : (k : Int) < ((k + 1 : Nat) : Int) := by omega
      go_wp2
      go_ret
      exact ⟨_, rfl, ⟨us, O⟩, Bl⟩
theorem l03All_any (n : Nat) (h8 : n ≤ 8) (w : World) :
    Calls Try.prog 69 #[.int .i64 (n : Nat)] w fun e w' => ∃ r, e = .returned r ∧ OwnII w.heap.size w' r (allT n) ∧ Below w.heap.size w w' := by
  go_enter Try.func69, Try.ntmps69
  go_wp2
  go_loopw [3, 4] (fun r i wr => ∃ (k : Nat) (us : List Value), k ≤ n ∧ i = .int .i64 ((k + 1 : Nat) : Int) ∧ Own2 w.heap.size wr r us (allT k) ∧ Below w.heap.size w wr) (fun _ i _ => n + 1 - (intOf i).toNat)
  case atStart => exact ⟨0, [], Nat.zero_le _, rfl, Own2.litAt (by simp) (by omega), below_alloc _ _⟩
  case round =>
    obtain ⟨k, us, hk, rfl, O, Bl⟩ := hrel
    by_cases hlt : k < n
    · have hlt1 : ((k + 1 : Nat) : Int) ≤ (n : Int) := by omega
      have hcap : Hid ((allT k).length + (treesL (k + 1)).length ≤ 1048576) := by
        have := allT_len (k + 1) (by omega)
        rw [allT] at this; simp only [Hid]; simp only [List.length_append] at this; omega
      have HO := hid O
      have bo := Bl.size
      have hm0 : Hid (0 < (treesL (k + 1)).length) := by
        simp only [Hid]; rw [treesL_len (k + 1) (by omega) (by omega)]
        rcases (by omega : k = 0 ∨ k = 1 ∨ k = 2 ∨ k = 3 ∨ k = 4 ∨ k = 5 ∨ k = 6 ∨ k = 7) with rfl | rfl | rfl | rfl | rfl | rfl | rfl | rfl <;> decide
      go_wp2_with (first
        | (go_at_call 52; refine (l03Trees_any (k + 1) (by omega) (by omega) _).mono ?_; rintro e w1 ⟨r1, rfl, ⟨us1, O1⟩, B1⟩; obtain ⟨ao1, cap1, rfl⟩ := O1.form; obtain ⟨g1, rfl⟩ := O1.addr hm0.out; have b1 := B1.size; have OO := HO.out.mono B1)
        | (at_builtin; refine wpl_appN (v := u3) (vs := us1) (ys := treesL (k + 1)) rfl _ _ _ rfl Try.underlying28 info_ii rfl OO ⟨g1, 0, none⟩ _ cap1 rfl O1.len O1.news_all O1.len (O1.lower bo).2.2.2.1 (List.pairwise_append.2 ⟨HO.out.pairwise, O1.pairwise, fun x hx y hy => (parted_lt wr.heap.size (fun b h => (O1.mem_lt y hy b h).1) (fun b h => (HO.out.mem_lt x hx b h).2)).symm⟩) (fun x hx => parted_lt wr.heap.size (fun b h => (O1.mem_lt x hx b h).1) (fun b h => (HO.out.lt b h).2)) hcap.out (by omega) ?_; intro v' W2 O2 G2 B2 P2; clear G2 P2))
      go_roundw
      case rel => exact ⟨k + 1, _, by omega, by go_num, by rw [allT]; exact O2, (nx Bl B1).trans B2⟩
      case measure => simp [intOf]; omega
    · obtain rfl : k = n := by omega
      have hge : (k : Int) < ((k + 1 : Nat) : Int) := by omega
      go_wp2
      go_ret
      exact ⟨_, rfl, ⟨us, O⟩, Bl⟩
def treeAtR (i : Int) : List Int × Int := if inR i 0 199 = true then (rowAt (allT 8) i.toNat, 0) else ([], 2)
theorem treeAt_any (i : Int) (w : World) :
    Calls Try.prog 31 #[.int .i64 i] w fun e w' => ∃ r, e = .returned (.tuple #[r, .int .i64 (treeAtR i).2]) ∧ OwnI w.heap.size w' r (treeAtR i).1 ∧ Below w.heap.size w w' := by
  cases hs : inR i 0 199 with
  | true =>
    have hb := inR_iff.1 hs
    obtain ⟨m, rfl⟩ : ∃ m : Nat, i = (m : Int) := ⟨i.toNat, by omega⟩
    have HR : Hid (treeAtR (m : Int) = (rowAt (allT 8) m, 0)) := by simp only [Hid, treeAtR]; rw [if_pos hs]; rfl
    have HS := hid hs
    have hm : m < (allT 8).length := by rw [allT_8]; omega
    have HT := hid (treesTo_any 8 (by omega) w)
    have hm2 : m < 200 := by omega
    obtain ⟨A, hA⟩ : ∃ A, A = allT 8 := ⟨_, rfl⟩
    rw [← hA] at HT HR hm
    clear hs hA
    go_enter Try.func31, Try.ntmps31
    go_wp2_with (first
      | (go_at_call 53; refine (inRange_any _ _ _ _).mono ?_; rintro e w' ⟨rfl, rfl⟩; rw [HS.out])
      | (go_at_call 55; refine HT.out.mono ?_; rintro e w1 ⟨r, rfl, ⟨us, O⟩, B⟩; obtain ⟨ao, cap, rfl⟩ := O.form; obtain ⟨g, rfl⟩ := O.addr (by omega); have hc := O.cell m hm))
    go_ret2
    rw [HR.out]
    exact ⟨_, rfl, O.own m hm, B⟩
  | false =>
    have HR : Hid (treeAtR i = ([], 2)) := by simp [Hid, treeAtR, hs]
    have HS := hid hs
    clear hs
    go_enter Try.func31, Try.ntmps31
    go_wp2_with (go_at_call 53; refine (inRange_any _ _ _ _).mono ?_; rintro e w' ⟨rfl, rfl⟩; rw [HS.out])
    go_ret2
    rw [HR.out]
    exact ⟨_, rfl, OwnI.nil _ _, Below.refl _ _⟩
theorem sTreeAt_any (i : Int) (w : World) :
    Calls Try.prog 30 #[.int .i64 i] w fun e w' => ∃ r, e = .returned (.tuple #[r, .int .i64 (treeAtR i).2]) ∧ OwnI w.heap.size w' r (treeAtR i).1 ∧ Below w.heap.size w w' := by
  cases hs : inR i 0 199 with
  | true =>
    have hb := inR_iff.1 hs
    obtain ⟨m, rfl⟩ : ∃ m : Nat, i = (m : Int) := ⟨i.toNat, by omega⟩
    have HR : Hid (treeAtR (m : Int) = (rowAt (allT 8) m, 0)) := by simp only [Hid, treeAtR]; rw [if_pos hs]; rfl
    have HS := hid hs
    have hm : m < 200 := by omega
    clear hs
    go_enter Try.func30, Try.ntmps30
    go_wp2_with (go_at_call 51; refine (l01In_any _ _ _ _).mono ?_; rintro e w' ⟨rfl, rfl⟩; rw [HS.out])
    go_loopw [4, 5] (fun l i wr => ∃ k : Nat, k < 8 ∧ i = .int .i64 ((k + 1 : Nat) : Int) ∧ (allT k).length ≤ m ∧ l = .int .i64 ((m - (allT k).length : Nat) : Int) ∧ Below w.heap.size w wr) (fun _ i _ => 9 - (intOf i).toNat)
    case atStart => exact ⟨0, by omega, rfl, Nat.zero_le _, rfl, Below.refl _ _⟩
    case round =>
      obtain ⟨k, hk, rfl, hle, rfl, Bl⟩ := hrel
      have hsum : (allT (k + 1)).length = (allT k).length + (treesL (k + 1)).length := by rw [allT, List.length_append]
      by_cases hlt : m - (allT k).length < (treesL (k + 1)).length
      · have HW : Hid (rowAt (treesL (k + 1)) (m - (allT k).length) = rowAt (allT 8) m) := by
          obtain ⟨rs, hrs⟩ := allT_prefix (k + 1) 8 (by omega)
          simp only [Hid]
          rw [hrs, rowAt_left _ _ _ (by omega), allT]
          unfold rowAt
          rw [List.getD_eq_getElem?_getD, List.getD_eq_getElem?_getD, List.getElem?_append_right hle]
        have HSUM := hid hsum
        obtain ⟨l, hl⟩ : ∃ l, l = m - (allT k).length := ⟨_, rfl⟩
        rw [← hl] at hlt HW ⊢
        clear hl hsum
        go_wp2_with (go_at_call 52; refine (l03Trees_any (k + 1) (by omega) (by omega) _).mono ?_; rintro e w1 ⟨r, rfl, ⟨us, O⟩, B⟩; obtain ⟨ao, cap, rfl⟩ := O.form; obtain ⟨g, rfl⟩ := O.addr (by omega); have hc := O.cell l hlt)
        go_ret2
        rw [HR.out, ← HW.out]
        exact ⟨_, rfl, (O.own l hlt).lower Bl.size, nx Bl B⟩
      · have hk7 : k + 1 < 8 := by
          rcases Nat.lt_or_ge (k + 1) 8 with h | h
          · exact h
          · have : k + 1 = 8 := by omega
            have e8 := allT_8
            rw [← this] at e8; omega
        have HSUM := hid hsum
        have hlen := treesL_len (k + 1) (by omega) (by omega)
        have hml := many_le (k + 1)
        have hLL : (treesL (k + 1)).length ≤ 115 := by omega
        clear hsum hlen
        go_wp2_with (go_at_call 52; refine (l03Trees_any (k + 1) (by omega) (by omega) _).mono ?_; rintro e w1 ⟨r, rfl, ⟨us, O⟩, B⟩; obtain ⟨ao, cap, rfl⟩ := O.form)
        go_roundw
        case rel => exact ⟨k + 1, hk7, by go_num, by rw [HSUM.out]; omega, by congr 1; rw [HSUM.out]; omega, nx Bl B⟩
        case measure => simp [intOf]; omega
  | false =>
    have HR : Hid (treeAtR i = ([], 2)) := by simp [Hid, treeAtR, hs]
    have HS := hid hs
    clear hs
    go_enter Try.func30, Try.ntmps30
    go_wp2_with (go_at_call 51; refine (l01In_any _ _ _ _).mono ?_; rintro e w' ⟨rfl, rfl⟩; rw [HS.out])
    go_ret2
    rw [HR.out]
    exact ⟨_, rfl, OwnI.nil _ _, Below.refl _ _⟩
end Go.Proofs.Ytoiangfookhfdaa
