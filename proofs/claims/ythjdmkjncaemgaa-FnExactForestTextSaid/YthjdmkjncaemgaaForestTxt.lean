/-
  The walks of the text of a forest.
-/
import Derived.Test.YthjdmkjncaemgaaTreeTxt
import Derived.Test.YthjdmkjncaemgaaForest
namespace Go.Proofs.Ythjdmkjncaemgaa
open Go.RowKit
set_option maxRecDepth 100000
def showL (zss : List (List Int)) : List UInt8 := if zss = [] then [45] else zss.flatMap (txtF 8)
def ftextR (zss : List (List Int)) : ByteArray × Int := if forB zss = true then (strB (showL zss), 0) else (strB [], 1)
theorem nonempty_of_size (S : ByteArray) (h : 0 < S.size) : S.toList.isEmpty = false := by
  rw [ByteArray.toList_eq]
  have e : S.data.toList.length = S.size := Array.length_toList
  cases hd : S.data.toList with
  | nil => rw [hd] at e; exact absurd e.symm (Nat.ne_of_gt h)
  | cons _ _ => rfl
theorem forB_len {zss : List (List Int)} (h : forB zss = true) : ∀ z ∈ zss, IsL z ∧ z.length ≤ 8 := fun z hz =>
  ⟨forB_IsL h z hz, Nat.le_trans (tot_mem hz) (forB_yes h).2⟩
def concatTo (zss : List (List Int)) (k : Nat) : ByteArray := strB (txtTo (txtF 8) zss k)
theorem concatTo_succ (zss : List (List Int)) (k : Nat) (h : k < zss.length) : concatTo zss k ++ strB (txtF 8 (rowAt zss k)) = concatTo zss (k + 1) := by
  unfold concatTo strB; rw [str_add, txtTo_succ _ _ _ h]
theorem concatTo_size (zss : List (List Int)) (k : Nat) (h : ∀ z ∈ zss, IsL z ∧ z.length ≤ 8) : (concatTo zss k).size = 2 * tot (zss.take k) := by
  unfold concatTo strB; rw [bsz, txtTo_len 8 zss k h]
theorem forestText_any (v : Value) (zss : List (List Int)) (w : World) (h : RdII w v zss) (hL : ∀ z ∈ zss, IsL z ∧ z.length ≤ 8) (ht : tot zss ≤ 8) :
    Calls Try.prog 48 #[v] w fun e w' => e = .returned (.string (strB (showL zss))) ∧ Below w.heap.size w w' := by
  have H := hid h
  have HL := hid hL
  obtain ⟨ao, cap, vs, rfl, hcap, hmax, -⟩ := h
  clear hL
  by_cases h0 : zss.length = 0
  · have hz : zss = [] := List.eq_nil_of_length_eq_zero h0
    have HS : Hid (showL zss = [45]) := by simp only [Hid, showL]; rw [if_pos hz]
    have h1 : ((zss.length : Int) == 0) = true := by simp; exact hz
    have HV : Hid ((zss.length : Int) = 0) := by simp only [Hid]; omega
    clear h0 hz
    go_enter Try.func48, Try.ntmps48
    go_wp2
    go_ret
    rw [HS.out]
    exact ⟨rfl, Below.refl _ _⟩
  · have HS : Hid (showL zss = zss.flatMap (txtF 8)) := by simp only [Hid, showL]; rw [if_neg (fun e => h0 (by rw [e]; rfl))]
    have h1 : ((zss.length : Int) == 0) = false := by simp; intro e; exact h0 (by rw [e]; rfl)
    have HN := hid h0
    clear h0
    go_enter Try.func48, Try.ntmps48
    go_wp2
    go_loopw [3, 11] (fun s i wr => ∃ (k : Nat), k ≤ zss.length ∧ i = .int .i64 k ∧ s = .string (concatTo zss k) ∧ Below w.heap.size w wr) (fun _ i _ => zss.length - (intOf i).toNat)
    case atStart => exact ⟨0, Nat.zero_le _, rfl, rfl, Below.refl _ _⟩
    case round =>
      obtain ⟨k, hk, rfl, rfl, Bl⟩ := hrel
      by_cases hlt : k < zss.length
      · obtain ⟨b, off, u, rfl, hcell, hu⟩ := (H.out.mono Bl).at_ hlt
        have HU := hid hu
        obtain ⟨aou, capu, rfl⟩ := hu.form
        have hp := HL.out _ (rowAt_mem zss k hlt)
        have HPP := hid hp
        have hc := concatTo_succ zss k hlt
        have HC := hid hc
        have hz1 : (concatTo zss k).size ≤ 1048576 := by rw [concatTo_size _ _ HL.out]; have := tot_take zss k; omega
        obtain ⟨S2, hS2⟩ : ∃ S2 : ByteArray, S2 = strB (txtF 8 (rowAt zss k)) := ⟨_, rfl⟩
        have HS2 := hid hS2
        have hz2 : S2.size ≤ 1048576 := by rw [hS2]; unfold strB; rw [bsz, txtF_length 8 _ hp.1 hp.2]; omega
        clear hu hp hc hS2
        go_wp2_with fail
        refine (treeText_any 8 (by omega) _ (rowAt zss k) _ HU.out HPP.out.1 HPP.out.2).mono ?_; rintro e w3 ⟨rfl, B3⟩
        rw [show (⟨(txtF 8 (rowAt zss k)).toArray⟩ : ByteArray) = S2 from HS2.out.symm]
        go_wp2
        go_roundw
        case rel => exact ⟨k + 1, by omega, by go_num, by rw [← HC.out, HS2.out], nx Bl B3⟩
        case measure => simp [intOf]; omega
      · obtain rfl : k = zss.length := by omega
        go_wp2
        go_ret
        exact ⟨by rw [HS.out, ← txtTo_all]; rfl, Bl⟩
theorem l03Show_any (v : Value) (zss : List (List Int)) (w : World) (h : RdII w v zss) (hL : ∀ z ∈ zss, IsL z ∧ z.length ≤ 8) (ht : tot zss ≤ 8) :
    Calls Try.prog 47 #[v] w fun e w' => e = .returned (.string (strB (showL zss))) ∧ Below w.heap.size w w' := by
  have H := hid h
  have HL := hid hL
  obtain ⟨ao, cap, vs, rfl, hcap, hmax, -⟩ := h
  clear hL
  go_enter Try.func47, Try.ntmps47
  go_wp2
  go_loopw [3, 4] (fun s i wr => ∃ (k : Nat), k ≤ zss.length ∧ i = .int .i64 k ∧ s = .string (concatTo zss k) ∧ Below w.heap.size w wr) (fun _ i _ => zss.length - (intOf i).toNat)
  case atStart => exact ⟨0, Nat.zero_le _, rfl, rfl, Below.refl _ _⟩
  case round =>
    obtain ⟨k, hk, rfl, rfl, Bl⟩ := hrel
    by_cases hlt : k < zss.length
    · obtain ⟨b, off, u, rfl, hcell, hu⟩ := (H.out.mono Bl).at_ hlt
      have HU := hid hu
      obtain ⟨aou, capu, rfl⟩ := hu.form
      have hp := HL.out _ (rowAt_mem zss k hlt)
      have HPP := hid hp
      have hc := concatTo_succ zss k hlt
      have HC := hid hc
      have hz1 : (concatTo zss k).size ≤ 1048576 := by rw [concatTo_size _ _ HL.out]; have := tot_take zss k; omega
      obtain ⟨S2, hS2⟩ : ∃ S2 : ByteArray, S2 = strB (txtF 8 (rowAt zss k)) := ⟨_, rfl⟩
      have HS2 := hid hS2
      have hz2 : S2.size ≤ 1048576 := by rw [hS2]; unfold strB; rw [bsz, txtF_length 8 _ hp.1 hp.2]; omega
      clear hu hp hc hS2
      go_wp2_with fail
      refine (l03Text_any 8 (by omega) _ (rowAt zss k) _ HU.out HPP.out.1 HPP.out.2).mono ?_; rintro e w3 ⟨rfl, B3⟩
      rw [show (⟨(txtF 8 (rowAt zss k)).toArray⟩ : ByteArray) = S2 from HS2.out.symm]
      go_wp2
      go_roundw
      case rel => exact ⟨k + 1, by omega, by go_num, by rw [← HC.out, HS2.out], nx Bl B3⟩
      case measure => simp [intOf]; omega
    · obtain rfl : k = zss.length := by omega
      by_cases h0 : zss = []
      · have HS : Hid (showL zss = [45]) := by simp only [Hid, showL]; rw [if_pos h0]
        have HE : Hid (concatTo zss zss.length = strB []) := by simp only [Hid]; rw [h0]; rfl
        clear h0
        rw [HE.out]
        have h1 : (strB []).toList.isEmpty = true := by rw [ByteArray.toList_eq]; rfl
        go_wp2
        go_ret
        rw [HS.out]
        exact ⟨rfl, Bl⟩
      · have HS : Hid (showL zss = zss.flatMap (txtF 8)) := by simp only [Hid, showL]; rw [if_neg h0]
        have hsz := concatTo_size zss zss.length HL.out
        rw [List.take_length] at hsz
        have hpos : 0 < tot zss := by
          cases hzz : zss with
          | nil => exact absurd hzz h0
          | cons a r => have h1 := (HL.out a (by rw [hzz]; exact List.mem_cons_self ..)).1.1
                        have h2 := tot_mem (zss := a :: r) (p := a) (List.mem_cons_self ..)
                        omega
        obtain ⟨S1, hS1⟩ : ∃ S1 : ByteArray, S1 = concatTo zss zss.length := ⟨_, rfl⟩
        have HS1 := hid hS1
        rw [← hS1] at hsz ⊢
        have h1 : S1.toList.isEmpty = false := nonempty_of_size S1 (by omega)
        clear hS1 h0 hpos hsz
        go_wp2
        go_ret
        exact ⟨by rw [HS1.out, HS.out, ← txtTo_all]; rfl, Bl⟩
theorem forestTextE_any (v : Value) (zss : List (List Int)) (w : World) (h : RdII w v zss) (ht : tot zss ≤ 1048576) :
    Calls Try.prog 29 #[v] w fun e w' => e = .returned (.tuple #[.string (ftextR zss).1, .int .i64 (ftextR zss).2]) ∧ Below w.heap.size w w' := by
  cases hb : forB zss with
  | true =>
    have HB := hid hb
    have HR : Hid (ftextR zss = (strB (showL zss), 0)) := by simp [Hid, ftextR, hb]
    have HL := hid (forB_len hb)
    have HT := hid (forB_yes hb).2
    have H := hid h
    clear hb
    go_enter Try.func29, Try.ntmps29
    go_wp2_with (first
      | (go_at_call 20; refine (isForest_any _ zss _ H.out ht).mono ?_; rintro e w1 ⟨rfl, B1⟩; rw [HB.out])
      | (go_at_call 48; refine (forestText_any _ zss _ (H.out.mono B1) HL.out HT.out).mono ?_; rintro e w2 ⟨rfl, B2⟩))
    go_ret2
    rw [HR.out]
    exact ⟨rfl, nx B1 B2⟩
  | false =>
    have HB := hid hb
    have HR : Hid (ftextR zss = (strB [], 1)) := by simp [Hid, ftextR, hb]
    clear hb
    go_enter Try.func29, Try.ntmps29
    go_wp2_with (go_at_call 20; refine (isForest_any _ zss _ h ht).mono ?_; rintro e w1 ⟨rfl, B1⟩; rw [HB.out])
    go_ret2
    rw [HR.out]
    exact ⟨rfl, B1⟩
theorem sForestText_any (v : Value) (zss : List (List Int)) (w : World) (h : RdII w v zss) (ht : tot zss ≤ 1048576) :
    Calls Try.prog 28 #[v] w fun e w' => e = .returned (.tuple #[.string (ftextR zss).1, .int .i64 (ftextR zss).2]) ∧ Below w.heap.size w w' := by
  cases hb : forB zss with
  | true =>
    have HB := hid hb
    have HR : Hid (ftextR zss = (strB (showL zss), 0)) := by simp [Hid, ftextR, hb]
    have HL := hid (forB_len hb)
    have HT := hid (forB_yes hb).2
    have H := hid h
    clear hb
    go_enter Try.func28, Try.ntmps28
    go_wp2_with (first
      | (go_at_call 41; refine (l03Forest_any _ zss _ H.out ht).mono ?_; rintro e w1 ⟨rfl, B1⟩; rw [HB.out])
      | (go_at_call 47; refine (l03Show_any _ zss _ (H.out.mono B1) HL.out HT.out).mono ?_; rintro e w2 ⟨rfl, B2⟩))
    go_ret2
    rw [HR.out]
    exact ⟨rfl, nx B1 B2⟩
  | false =>
    have HB := hid hb
    have HR : Hid (ftextR zss = (strB [], 1)) := by simp [Hid, ftextR, hb]
    clear hb
    go_enter Try.func28, Try.ntmps28
    go_wp2_with (go_at_call 41; refine (l03Forest_any _ zss _ h ht).mono ?_; rintro e w1 ⟨rfl, B1⟩; rw [HB.out])
    go_ret2
    rw [HR.out]
    exact ⟨rfl, B1⟩
end Go.Proofs.Ythjdmkjncaemgaa
