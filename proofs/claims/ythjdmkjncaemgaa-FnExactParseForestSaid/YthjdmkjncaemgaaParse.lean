/-
  The walks of the readers of trees and forests.
-/
import Derived.Test.YthjdmkjncaemgaaTreeRd
import Derived.Test.YthjdmkjncaemgaaForest
namespace Go.Proofs.Ythjdmkjncaemgaa
open Go.RowKit
set_option maxRecDepth 100000
def parseT (o : Option (List (List Int))) : List Int × Int :=
  match o with
  | some zss => if zss.length = 1 ∧ isTreeB (rowAt zss 0) = true then (rowAt zss 0, 0) else ([], 6)
  | none => ([], 6)
def parseTR (a : ByteArray) : List Int × Int := parseT (rdR (st a) a.size)
theorem isTreeB_len {z : List Int} (h : isTreeB z = true) : z.length ≤ 8 := by
  rw [isTreeB, Bool.and_eq_true] at h
  exact (isLev_IsL h.1).2
theorem parseTR_long {a : ByteArray} (h : 16 < a.size) : parseTR a = ([], 6) := by
  unfold parseTR
  cases e : rdR (st a) a.size with
  | none => rfl
  | some zss =>
    have h1 := (rdR_tot _ _ _ e).1
    show (if zss.length = 1 ∧ isTreeB (rowAt zss 0) = true then (rowAt zss 0, 0) else (([] : List Int), (6 : Int))) = _
    rw [if_neg]
    rintro ⟨h2, h3⟩
    have h4 := isTreeB_len h3
    match zss, h2 with
    | [z], _ => simp only [tot, List.map_cons, List.map_nil, List.sum_cons, List.sum_nil] at h1; simp [rowAt] at h4; omega
theorem parseTree_any (a : ByteArray) (w : World) (ha : a.size ≤ 1048576) :
    Calls Try.prog 14 #[.string a] w fun e w' => ∃ r, e = .returned (.tuple #[r, .int .i64 (parseTR a).2]) ∧ OwnI w.heap.size w' r (parseTR a).1 ∧ Below w.heap.size w w' := by
  go_enter Try.func14, Try.ntmps14
  go_wp2_with fail
  refine (readForest_any a _ ha).mono ?_; rintro e w1 ⟨r, b, rfl, B1, ⟨rfl, zss, hr, us, O⟩ | ⟨rfl, h16⟩ | ⟨rfl, hn⟩⟩
  · have HP : Hid (parseTR a = parseT (some zss)) := by simp only [Hid, parseTR, hr]
    obtain ⟨ao, cap, rfl⟩ := O.form
    clear hr
    by_cases h1 : zss.length = 1
    · have hlt : 0 < zss.length := by omega
      obtain ⟨g, rfl⟩ := O.addr hlt
      have hcell := O.cell 0 hlt
      have hu := O.own 0 hlt
      obtain ⟨aou, capu, hfu⟩ := hu.form
      rw [hfu] at hcell hu
      have HU := hid hu
      have hb : ((zss.length : Int) == 1) = true := by rw [h1]; rfl
      have hbn : ((zss.length : Int) != 1) = false := by rw [h1]; rfl
      have H1 := hid h1
      clear hu hfu h1
      cases ht : isTreeB (rowAt zss 0) with
      | true =>
        have HTR := hid ht
        have HR : Hid (parseTR a = (rowAt zss 0, 0)) := by simp only [Hid]; rw [HP.out]; unfold parseT; exact if_pos ⟨H1.out, ht⟩
        clear ht
        go_wp2_with (go_at_call 39; refine (isTree_any _ (rowAt zss 0) _ HU.out.rd).mono ?_; rintro e w2 ⟨rfl, B2⟩; rw [HTR.out]; have hcell2 := (B2.cell (p := ⟨g, 0, none⟩) (World.block_lt_of_cell? _ _ hcell)).trans hcell)
        go_ret2
        rw [HR.out]
        exact ⟨_, rfl, HU.out.mono B2, nx B1 B2⟩
      | false =>
        have HTR := hid ht
        have HR : Hid (parseTR a = ([], 6)) := by simp only [Hid]; rw [HP.out]; unfold parseT; exact if_neg (fun h => by rw [ht] at h; cases h.2)
        clear ht
        go_wp2_with (go_at_call 39; refine (isTree_any _ (rowAt zss 0) _ HU.out.rd).mono ?_; rintro e w2 ⟨rfl, B2⟩; rw [HTR.out])
        go_ret2
        rw [HR.out]
        exact ⟨_, rfl, OwnI.nil _ _, nx B1 B2⟩
    · have HR : Hid (parseTR a = ([], 6)) := by simp only [Hid]; rw [HP.out]; unfold parseT; exact if_neg (fun h => h1 h.1)
      have hb : ((zss.length : Int) == 1) = false := by simp; omega
      have hbn : ((zss.length : Int) != 1) = true := by simp; omega
      have H1 := hid h1
      clear h1
      go_wp2
      go_ret2
      rw [HR.out]
      exact ⟨_, rfl, OwnI.nil _ _, B1⟩
  · have HR := hid (parseTR_long h16)
    clear h16
    go_wp2
    go_ret2
    rw [HR.out]
    exact ⟨_, rfl, OwnI.nil _ _, B1⟩
  · have HR : Hid (parseTR a = ([], 6)) := by simp only [Hid, parseTR, hn]; rfl
    clear hn
    go_wp2
    go_ret2
    rw [HR.out]
    exact ⟨_, rfl, OwnI.nil _ _, B1⟩
theorem sParseTree_any (a : ByteArray) (w : World) (ha : a.size ≤ 1048576) :
    Calls Try.prog 13 #[.string a] w fun e w' => ∃ r, e = .returned (.tuple #[r, .int .i64 (parseTR a).2]) ∧ OwnI w.heap.size w' r (parseTR a).1 ∧ Below w.heap.size w w' := by
  go_enter Try.func13, Try.ntmps13
  go_wp2_with fail
  refine (l03Read_any a _ ha).mono ?_; rintro e w1 ⟨r, b, rfl, B1, ⟨rfl, zss, hr, us, O⟩ | ⟨rfl, hn⟩⟩
  · have HP : Hid (parseTR a = parseT (some zss)) := by simp only [Hid, parseTR, hr]
    obtain ⟨ao, cap, rfl⟩ := O.form
    clear hr
    by_cases h1 : zss.length = 1
    · have hlt : 0 < zss.length := by omega
      obtain ⟨g, rfl⟩ := O.addr hlt
      have hcell := O.cell 0 hlt
      have hu := O.own 0 hlt
      obtain ⟨aou, capu, hfu⟩ := hu.form
      rw [hfu] at hcell hu
      have HU := hid hu
      have hb : ((zss.length : Int) == 1) = true := by rw [h1]; rfl
      have hbn : ((zss.length : Int) != 1) = false := by rw [h1]; rfl
      have H1 := hid h1
      clear hu hfu h1
      cases ht : isTreeB (rowAt zss 0) with
      | true =>
        have HTR := hid ht
        have HR : Hid (parseTR a = (rowAt zss 0, 0)) := by simp only [Hid]; rw [HP.out]; unfold parseT; exact if_pos ⟨H1.out, ht⟩
        clear ht
        go_wp2_with (go_at_call 37; refine (sIsTree_any _ (rowAt zss 0) _ HU.out.rd).mono ?_; rintro e w2 ⟨rfl, B2⟩; rw [HTR.out]; have hcell2 := (B2.cell (p := ⟨g, 0, none⟩) (World.block_lt_of_cell? _ _ hcell)).trans hcell)
        go_ret2
        rw [HR.out]
        exact ⟨_, rfl, HU.out.mono B2, nx B1 B2⟩
      | false =>
        have HTR := hid ht
        have HR : Hid (parseTR a = ([], 6)) := by simp only [Hid]; rw [HP.out]; unfold parseT; exact if_neg (fun h => by rw [ht] at h; cases h.2)
        clear ht
        go_wp2_with (go_at_call 37; refine (sIsTree_any _ (rowAt zss 0) _ HU.out.rd).mono ?_; rintro e w2 ⟨rfl, B2⟩; rw [HTR.out])
        go_ret2
        rw [HR.out]
        exact ⟨_, rfl, OwnI.nil _ _, nx B1 B2⟩
    · have HR : Hid (parseTR a = ([], 6)) := by simp only [Hid]; rw [HP.out]; unfold parseT; exact if_neg (fun h => h1 h.1)
      have hb : ((zss.length : Int) == 1) = false := by simp; omega
      have hbn : ((zss.length : Int) != 1) = true := by simp; omega
      have H1 := hid h1
      clear h1
      go_wp2
      go_ret2
      rw [HR.out]
      exact ⟨_, rfl, OwnI.nil _ _, B1⟩
  · have HR : Hid (parseTR a = ([], 6)) := by simp only [Hid, parseTR, hn]; rfl
    clear hn
    go_wp2
    go_ret2
    rw [HR.out]
    exact ⟨_, rfl, OwnI.nil _ _, B1⟩
end Go.Proofs.Ythjdmkjncaemgaa
