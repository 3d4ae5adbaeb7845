/-
  The walks of the text of a tree.
-/
import Derived.Test.YthjdmkjncaemgaaBuild
import Derived.Test.YthjdmkjncaemgaaRng
namespace Go.Proofs.Ythjdmkjncaemgaa
open Go.RowKit
set_option maxRecDepth 100000
def txt (zs : List Int) : List UInt8 := txtF 8 zs
theorem txtTo_len (n : Nat) (zss : List (List Int)) (k : Nat) (h : ∀ z ∈ zss, IsL z ∧ z.length ≤ n) : (txtTo (txtF n) zss k).length = 2 * tot (zss.take k) := by
  unfold txtTo
  exact flatMap_length_le (txtF n) (zss.take k) (fun z hz => txtF_length n z (h z (List.mem_of_mem_take hz)).1 (h z (List.mem_of_mem_take hz)).2)
theorem str_add (l m : List UInt8) : (⟨l.toArray⟩ : ByteArray) ++ ⟨m.toArray⟩ = ⟨(l ++ m).toArray⟩ := by
  apply ByteArray.ext
  simp
theorem treeText_any (n : Nat) (hn12 : n ≤ 12) : ∀ (v : Value) (zs : List Int) (w : World), RdI w v zs → IsL zs → zs.length ≤ n →
    Calls Try.prog 34 #[v] w fun e w' => e = .returned (.string ⟨(txtF n zs).toArray⟩) ∧ Below w.heap.size w w' := by
  induction n with
  | zero => intro v zs w h hL hn; have := hL.1; omega
  | succ n ih =>
    intro v zs w h hL hn
    have H := hid h
    obtain ⟨ao, cap, rfl⟩ := h.form
    have hpl := parts_len hL
    have HP := hid (parts_IsL hL)
    have HPN : Hid (∀ z ∈ parts zs, IsL z ∧ z.length ≤ n) := fun z hz => ⟨(parts_IsL hL z hz).1, by have := (parts_IsL hL z hz).2; omega⟩
    have HL := hid hL
    have HTT := hid (tot_parts hL)
    have IH := hid (ih (by omega))
    clear hL ih h
    go_enter Try.func34, Try.ntmps34
    go_wp2_with fail
    refine (write_any w.heap.size [] [91] _ (Bld.new w) (by simp)).mono ?_; rintro e w1 ⟨rfl, D1, B1, -⟩
    have B0 := (below_alloc w (.cells #[.pointer none, .slice none 0 0] 54)).trans B1
    have hb1 := D1.lt
    go_wp2_with fail
    refine (branchesOf_any _ zs _ (H.out.mono B0) HL.out).mono ?_; rintro e w2 ⟨r, rfl, ⟨us1, O1'⟩, B2⟩
    have O1 := O1'.lower (show w.heap.size + 1 ≤ w1.heap.size by omega)
    have D2 := D1.mono B2
    have B02 := nx B0 B2
    clear O1' D1 B0 B1 B2
    obtain ⟨ao1, cap1, rfl⟩ := O1.form
    go_wp2
    go_loopw [10] (fun i wr => ∃ (k : Nat), k ≤ (parts zs).length ∧ i = .int .i64 k ∧ Own2 (w.heap.size + 1) wr (.slice ao1 (parts zs).length cap1) us1 (parts zs) ∧ Bld w.heap.size (91 :: txtTo (txtF n) (parts zs) k) wr ∧ Below w.heap.size w wr) (fun i _ => (parts zs).length - (intOf i).toNat)
    case atStart => exact ⟨0, Nat.zero_le _, rfl, O1, D2, B02⟩
    case round =>
      obtain ⟨k, hk, rfl, O, D, Bl⟩ := hrel
      by_cases hlt : k < (parts zs).length
      · obtain ⟨g, rfl⟩ := O.addr (by omega)
        have hcell := O.cell k hlt
        have hu := O.own k hlt
        obtain ⟨aou, capu, hfu⟩ := hu.form
        rw [hfu] at hcell hu
        have HU := hid hu
        have hp := HPN.out _ (rowAt_mem (parts zs) k hlt)
        have htx := hid (txtTo_succ (txtF n) (parts zs) k hlt)
        have hl1 := txtTo_len n (parts zs) k HPN.out
        have hl2 := txtF_length n _ hp.1 hp.2
        have hl3 := tot_take_succ (parts zs) k hlt
        have hl4 := tot_take (parts zs) (k + 1)
        have hlen : Hid ((91 :: txtTo (txtF n) (parts zs) k).length + (txtF n (rowAt (parts zs) k)).length ≤ 1048576) := by simp only [Hid, List.length_cons]; have := HTT.out; omega
        have HPP := hid hp
        clear hu hfu hl1 hl2 hl3 hl4 hp
        go_wp2_with fail
        refine (IH.out _ (rowAt (parts zs) k) _ HU.out.rd HPP.out.1 HPP.out.2).mono ?_; rintro e w3 ⟨rfl, B3⟩
        have D3 := D.mono B3
        have O3 := O.mono B3
        go_wp2_with fail
        refine (write_any w.heap.size _ (txtF n (rowAt (parts zs) k)) _ D3 hlen.out).mono ?_; rintro e w4 ⟨rfl, D4, B4, K4⟩
        have O4 := O3.others K4 (by omega)
        rw [List.cons_append, ← htx.out] at D4
        have B5 := (nx Bl B3).trans B4
        go_wp2
        go_roundw
        case rel => exact ⟨k + 1, by omega, by go_num, O4, D4, B5⟩
        case measure => simp [intOf]; omega
      · obtain rfl : k = (parts zs).length := by omega
        have hl1 := txtTo_len n (parts zs) (parts zs).length HPN.out
        have hl4 := tot_take (parts zs) (parts zs).length
        have hlen : Hid ((91 :: txtTo (txtF n) (parts zs) (parts zs).length).length + [(93 : UInt8)].length ≤ 1048576) := by simp only [Hid, List.length_cons, List.length_nil]; have := HTT.out; omega
        have HX : Hid ((91 :: txtTo (txtF n) (parts zs) (parts zs).length) ++ [93] = txtF (n + 1) zs) := by simp only [Hid, txtF, List.cons_append]; rw [txtTo_all]
        clear hl1 hl4
        go_wp2_with fail
        refine (write_any w.heap.size _ [93] _ D hlen.out).mono ?_; rintro e w4 ⟨rfl, D4, B4, -⟩
        rw [HX.out] at D4
        go_wp2_with fail
        refine (string_any w.heap.size _ _ D4).mono ?_; rintro e w5 ⟨rfl, B5⟩
        go_wp2
        go_ret
        exact ⟨rfl, (Bl.trans B4).trans B5⟩
theorem l03Text_any (n : Nat) (hn12 : n ≤ 12) : ∀ (v : Value) (zs : List Int) (w : World), RdI w v zs → IsL zs → zs.length ≤ n →
    Calls Try.prog 31 #[v] w fun e w' => e = .returned (.string ⟨(txtF n zs).toArray⟩) ∧ Below w.heap.size w w' := by
  induction n with
  | zero => intro v zs w h hL hn; have := hL.1; omega
  | succ n ih =>
    intro v zs w h hL hn
    have H := hid h
    obtain ⟨ao, cap, rfl⟩ := h.form
    have hpl := parts_len hL
    have HPN : Hid (∀ z ∈ parts zs, IsL z ∧ z.length ≤ n) := fun z hz => ⟨(parts_IsL hL z hz).1, by have := (parts_IsL hL z hz).2; omega⟩
    have HL := hid hL
    have HTT := hid (tot_parts hL)
    have IH := hid (ih (by omega))
    clear hL ih h
    go_enter Try.func31, Try.ntmps31
    go_wp2_with fail
    refine (l03Parts_any _ zs _ H.out HL.out).mono ?_; rintro e w2 ⟨r, rfl, ⟨us1, O1⟩, B2⟩
    obtain ⟨ao1, cap1, rfl⟩ := O1.form
    go_wp2
    go_loopw [3, 5] (fun s i wr => ∃ (k : Nat), k ≤ (parts zs).length ∧ i = .int .i64 k ∧ s = .string ⟨(91 :: txtTo (txtF n) (parts zs) k).toArray⟩ ∧ Own2 w.heap.size wr (.slice ao1 (parts zs).length cap1) us1 (parts zs) ∧ Below w.heap.size w wr) (fun _ i _ => (parts zs).length - (intOf i).toNat)
    case atStart => exact ⟨0, Nat.zero_le _, rfl, rfl, O1, B2⟩
    case round =>
      obtain ⟨k, hk, rfl, rfl, O, Bl⟩ := hrel
      by_cases hlt : k < (parts zs).length
      · obtain ⟨g, rfl⟩ := O.addr (by omega)
        have hcell := O.cell k hlt
        have hu := O.own k hlt
        obtain ⟨aou, capu, hfu⟩ := hu.form
        rw [hfu] at hcell hu
        have HU := hid hu
        have hp := HPN.out _ (rowAt_mem (parts zs) k hlt)
        have htx := hid (txtTo_succ (txtF n) (parts zs) k hlt)
        have hl1 := txtTo_len n (parts zs) k HPN.out
        have hl2 := txtF_length n _ hp.1 hp.2
        have hl3 := tot_take_succ (parts zs) k hlt
        have hl4 := tot_take (parts zs) (k + 1)
        have hlen : Hid ((91 :: txtTo (txtF n) (parts zs) k).length + (txtF n (rowAt (parts zs) k)).length ≤ 1048576) := by simp only [Hid, List.length_cons]; have := HTT.out; omega
        have HPP := hid hp
        clear hu hfu hl1 hl2 hl3 hl4 hp
        obtain ⟨S1, hS1⟩ : ∃ S1 : ByteArray, S1 = ⟨(91 :: txtTo (txtF n) (parts zs) k).toArray⟩ := ⟨_, rfl⟩
        have HS1 := hid hS1
        obtain ⟨S2, hS2⟩ : ∃ S2 : ByteArray, S2 = ⟨(txtF n (rowAt (parts zs) k)).toArray⟩ := ⟨_, rfl⟩
        have HS2 := hid hS2
        have hz1 : S1.size ≤ 1048576 := by rw [hS1, bsz]; have := hlen.out; omega
        have hz2 : S2.size ≤ 1048576 := by rw [hS2, bsz]; have := hlen.out; omega
        rw [← hS1]
        clear hS1 hS2
        go_wp2_with fail
        refine (IH.out _ (rowAt (parts zs) k) _ HU.out.rd HPP.out.1 HPP.out.2).mono ?_; rintro e w3 ⟨rfl, B3⟩; rw [← HS2.out]
        have O3 := O.mono B3
        go_wp2
        go_roundw
        case rel => exact ⟨k + 1, by omega, by go_num, by rw [HS1.out, HS2.out, str_add, htx.out]; rfl, O3, nx Bl B3⟩
        case measure => simp [intOf]; omega
      · obtain rfl : k = (parts zs).length := by omega
        have HX : Hid ((91 :: txtTo (txtF n) (parts zs) (parts zs).length) ++ [93] = txtF (n + 1) zs) := by simp only [Hid, txtF, List.cons_append]; rw [txtTo_all]
        obtain ⟨S1, hS1⟩ : ∃ S1 : ByteArray, S1 = ⟨(91 :: txtTo (txtF n) (parts zs) (parts zs).length).toArray⟩ := ⟨_, rfl⟩
        have HS1 := hid hS1
        have hl1 := txtTo_len n (parts zs) (parts zs).length HPN.out
        have hl4 := tot_take (parts zs) (parts zs).length
        have hz1 : S1.size ≤ 1048576 := by rw [hS1, bsz, List.length_cons]; have := HTT.out; omega
        rw [← hS1]
        clear hS1 hl1 hl4
        go_wp2
        go_ret
        exact ⟨by rw [HS1.out, ← HX.out, ← str_add]; rfl, Bl⟩
def strB (l : List UInt8) : ByteArray := ⟨l.toArray⟩
def textR (zs : List Int) : ByteArray × Int := if isLev zs = true then (strB (txtF 8 (canon zs)), 0) else (strB [], 1)
theorem treeTextE_any (v : Value) (zs : List Int) (w : World) (h : RdI w v zs) :
    Calls Try.prog 11 #[v] w fun e w' => e = .returned (.tuple #[.string (textR zs).1, .int .i64 (textR zs).2]) ∧ Below w.heap.size w w' := by
  obtain ⟨ao, cap, rfl⟩ := h.form
  cases hs : isLev zs with
  | true =>
    have HS := hid hs
    have HR : Hid (textR zs = (strB (txtF 8 (canon zs)), 0)) := by simp [Hid, textR, hs]
    have hc : IsL (canon zs) ∧ (canon zs).length ≤ 8 := ⟨(canonF_IsL 8 zs (isLev_IsL hs).1).1, by show (canonF 8 zs).length ≤ 8; rw [(canonF_IsL 8 zs (isLev_IsL hs).1).2 (isLev_IsL hs).2]; exact (isLev_IsL hs).2⟩
    have HC := hid hc
    clear hs hc
    go_enter Try.func11, Try.ntmps11
    go_wp2_with fail
    refine (isLevels_any _ zs _ h).mono ?_; rintro e w0 ⟨rfl, rfl⟩; rw [HS.out]
    have B0 := Below.refl w.heap.size w
    go_wp2_with (first
      | (go_at_call 35; refine (canonical8 _ zs _ (h.mono B0) HS.out).mono ?_; rintro e w1 ⟨r, rfl, O, B⟩)
      | (go_at_call 34; refine (treeText_any 8 (by omega) _ (canon zs) _ O.rd HC.out.1 HC.out.2).mono ?_; rintro e w2 ⟨rfl, B2⟩))
    go_ret2
    rw [HR.out]
    exact ⟨rfl, nx (nx B0 B) B2⟩
  | false =>
    have HS := hid hs
    have HR : Hid (textR zs = (strB [], 1)) := by simp [Hid, textR, hs]
    clear hs
    go_enter Try.func11, Try.ntmps11
    go_wp2_with fail
    refine (isLevels_any _ zs _ h).mono ?_; rintro e w0 ⟨rfl, rfl⟩; rw [HS.out]
    have B0 := Below.refl w.heap.size w
    go_wp2
    go_ret2
    rw [HR.out]
    exact ⟨rfl, B0⟩
theorem sTreeText_any (v : Value) (zs : List Int) (w : World) (h : RdI w v zs) :
    Calls Try.prog 9 #[v] w fun e w' => e = .returned (.tuple #[.string (textR zs).1, .int .i64 (textR zs).2]) ∧ Below w.heap.size w w' := by
  obtain ⟨ao, cap, rfl⟩ := h.form
  cases hs : isLev zs with
  | true =>
    have HS := hid hs
    have HR : Hid (textR zs = (strB (txtF 8 (canon zs)), 0)) := by simp [Hid, textR, hs]
    have hc : IsL (canon zs) ∧ (canon zs).length ≤ 8 := ⟨(canonF_IsL 8 zs (isLev_IsL hs).1).1, by show (canonF 8 zs).length ≤ 8; rw [(canonF_IsL 8 zs (isLev_IsL hs).1).2 (isLev_IsL hs).2]; exact (isLev_IsL hs).2⟩
    have HC := hid hc
    clear hs hc
    go_enter Try.func9, Try.ntmps9
    go_wp2_with fail
    refine (l03Is_any _ zs _ h).mono ?_; rintro e w0 ⟨rfl, D⟩; rw [HS.out]
    have B0 := D.below w.heap.size
    go_wp2_with (first
      | (go_at_call 32; refine (l03Canon8 _ zs _ (h.mono B0) HS.out).mono ?_; rintro e w1 ⟨r, rfl, O, B⟩)
      | (go_at_call 31; refine (l03Text_any 8 (by omega) _ (canon zs) _ O.rd HC.out.1 HC.out.2).mono ?_; rintro e w2 ⟨rfl, B2⟩))
    go_ret2
    rw [HR.out]
    exact ⟨rfl, nx (nx B0 B) B2⟩
  | false =>
    have HS := hid hs
    have HR : Hid (textR zs = (strB [], 1)) := by simp [Hid, textR, hs]
    clear hs
    go_enter Try.func9, Try.ntmps9
    go_wp2_with fail
    refine (l03Is_any _ zs _ h).mono ?_; rintro e w0 ⟨rfl, D⟩; rw [HS.out]
    have B0 := D.below w.heap.size
    go_wp2
    go_ret2
    rw [HR.out]
    exact ⟨rfl, B0⟩
end Go.Proofs.Ythjdmkjncaemgaa
