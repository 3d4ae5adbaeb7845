/-
  The walks of the reader of forests.
-/
import Derived.Test.YthjdmkjncaemgaaParse
namespace Go.Proofs.Ythjdmkjncaemgaa
open Go.RowKit
set_option maxRecDepth 100000
def parseFo (o : Option (List (List Int))) : List (List Int) × Int :=
  match o with
  | some zss => if zss.length ≠ 0 ∧ forB zss = true then (zss, 0) else ([], 6)
  | none => ([], 6)
def parseFR (a : ByteArray) : List (List Int) × Int := if (a.toList == [45]) = true then ([], 0) else parseFo (rdR (st a) a.size)
theorem parseFo_tot (o : Option (List (List Int))) : tot (parseFo o).1 ≤ 1048576 := by
  unfold parseFo
  split
  · split
    · rename_i h; have h2 := (forB_yes h.2).2; exact Nat.le_trans h2 (by omega)
    · simp [tot]
  · simp [tot]
theorem parseFR_tot (a : ByteArray) : tot (parseFR a).1 ≤ 1048576 := by
  unfold parseFR
  split
  · simp [tot]
  · exact parseFo_tot _
theorem parseFo_long {a : ByteArray} (h : 16 < a.size) : parseFo (rdR (st a) a.size) = ([], 6) := by
  cases e : rdR (st a) a.size with
  | none => rfl
  | some zss =>
    have h1 := (rdR_tot _ _ _ e).1
    show (if zss.length ≠ 0 ∧ forB zss = true then (zss, 0) else (([] : List (List Int)), (6 : Int))) = _
    rw [if_neg]
    rintro ⟨h2, h3⟩
    have := (forB_yes h3).2
    omega
theorem parseForest_any (a : ByteArray) (w : World) (ha : a.size ≤ 1048576) :
    Calls Try.prog 26 #[.string a] w fun e w' => ∃ r, e = .returned (.tuple #[r, .int .i64 (parseFR a).2]) ∧ OwnII w.heap.size w' r (parseFR a).1 ∧ Below w.heap.size w w' := by
  cases hd : (a.toList == [45]) with
  | true =>
    have HR : Hid (parseFR a = ([], 0)) := by simp only [Hid, parseFR]; rw [hd]; rfl
    go_enter Try.func26, Try.ntmps26
    go_wp2
    go_ret2
    rw [HR.out]
    exact ⟨_, rfl, ⟨[], Own2.litAt (by simp) (by omega)⟩, below_alloc _ _⟩
  | false =>
    have HR0 : Hid (parseFR a = parseFo (rdR (st a) a.size)) := by simp only [Hid, parseFR]; rw [hd]; rfl
    go_enter Try.func26, Try.ntmps26
    go_wp2_with fail
    refine (readForest_any a _ ha).mono ?_; rintro e w1 ⟨r, b, rfl, B1, ⟨rfl, zss, hr, us, O⟩ | ⟨rfl, h16⟩ | ⟨rfl, hn⟩⟩
    · have HP : Hid (parseFR a = parseFo (some zss)) := by simp only [Hid]; rw [HR0.out, hr]
      have htot := (rdR_tot _ _ _ hr).1
      have HTT : Hid (tot zss ≤ 1048576) := by simp only [Hid]; omega
      obtain ⟨ao, cap, rfl⟩ := O.form
      have HO := hid O
      clear hr htot
      by_cases h1 : zss.length = 0
      · have HR : Hid (parseFR a = ([], 6)) := by simp only [Hid]; rw [HP.out]; unfold parseFo; exact if_neg (fun h => h.1 h1)
        have hb : ((zss.length : Int) == 0) = true := by simp; exact List.eq_nil_of_length_eq_zero h1
        have H1 := hid h1
        clear h1
        go_wp2
        go_ret2
        rw [HR.out]
        exact ⟨_, rfl, ⟨[], Own2.nil _ _⟩, B1⟩
      · have hb : ((zss.length : Int) == 0) = false := by simp; intro e; exact h1 (by rw [e]; rfl)
        have H1 := hid h1
        clear h1
        cases ht : forB zss with
        | true =>
          have HTR := hid ht
          have HR : Hid (parseFR a = (zss, 0)) := by simp only [Hid]; rw [HP.out]; unfold parseFo; exact if_pos ⟨H1.out, ht⟩
          clear ht
          go_wp2_with (go_at_call 20; refine (isForest_any _ zss _ HO.out.rd HTT.out).mono ?_; rintro e w2 ⟨rfl, B2⟩; rw [HTR.out])
          go_ret2
          rw [HR.out]
          exact ⟨_, rfl, ⟨us, HO.out.mono B2⟩, nx B1 B2⟩
        | false =>
          have HTR := hid ht
          have HR : Hid (parseFR a = ([], 6)) := by simp only [Hid]; rw [HP.out]; unfold parseFo; exact if_neg (fun h => by rw [ht] at h; cases h.2)
          clear ht
          go_wp2_with (go_at_call 20; refine (isForest_any _ zss _ HO.out.rd HTT.out).mono ?_; rintro e w2 ⟨rfl, B2⟩; rw [HTR.out])
          go_ret2
          rw [HR.out]
          exact ⟨_, rfl, ⟨[], Own2.nil _ _⟩, nx B1 B2⟩
    · have HR : Hid (parseFR a = ([], 6)) := by simp only [Hid]; rw [HR0.out]; exact parseFo_long h16
      clear h16
      go_wp2
      go_ret2
      rw [HR.out]
      exact ⟨_, rfl, ⟨[], Own2.nil _ _⟩, B1⟩
    · have HR : Hid (parseFR a = ([], 6)) := by simp only [Hid]; rw [HR0.out, hn]; rfl
      clear hn
      go_wp2
      go_ret2
      rw [HR.out]
      exact ⟨_, rfl, ⟨[], Own2.nil _ _⟩, B1⟩
theorem sParseForest_any (a : ByteArray) (w : World) (ha : a.size ≤ 1048576) :
    Calls Try.prog 25 #[.string a] w fun e w' => ∃ r, e = .returned (.tuple #[r, .int .i64 (parseFR a).2]) ∧ OwnII w.heap.size w' r (parseFR a).1 ∧ Below w.heap.size w w' := by
  cases hd : (a.toList == [45]) with
  | true =>
    have HR : Hid (parseFR a = ([], 0)) := by simp only [Hid, parseFR]; rw [hd]; rfl
    go_enter Try.func25, Try.ntmps25
    go_wp2_with fail
    refine (l03Read_any a _ ha).mono ?_; rintro e w1 ⟨r, b, rfl, B1, -⟩
    go_wp2
    go_ret2
    rw [HR.out]
    exact ⟨_, rfl, ⟨[], Own2.nil _ _⟩, B1⟩
  | false =>
    have HR0 : Hid (parseFR a = parseFo (rdR (st a) a.size)) := by simp only [Hid, parseFR]; rw [hd]; rfl
    go_enter Try.func25, Try.ntmps25
    go_wp2_with fail
    refine (l03Read_any a _ ha).mono ?_; rintro e w1 ⟨r, b, rfl, B1, ⟨rfl, zss, hr, us, O⟩ | ⟨rfl, hn⟩⟩
    · have HP : Hid (parseFR a = parseFo (some zss)) := by simp only [Hid]; rw [HR0.out, hr]
      have htot := (rdR_tot _ _ _ hr).1
      have HTT : Hid (tot zss ≤ 1048576) := by simp only [Hid]; omega
      obtain ⟨ao, cap, rfl⟩ := O.form
      have HO := hid O
      clear hr htot
      by_cases h1 : zss.length = 0
      · have HR : Hid (parseFR a = ([], 6)) := by simp only [Hid]; rw [HP.out]; unfold parseFo; exact if_neg (fun h => h.1 h1)
        have hb : ((zss.length : Int) == 0) = true := by simp; exact List.eq_nil_of_length_eq_zero h1
        have H1 := hid h1
        clear h1
        go_wp2
        go_ret2
        rw [HR.out]
        exact ⟨_, rfl, ⟨[], Own2.nil _ _⟩, B1⟩
      · have hb : ((zss.length : Int) == 0) = false := by simp; intro e; exact h1 (by rw [e]; rfl)
        have H1 := hid h1
        clear h1
        cases ht : forB zss with
        | true =>
          have HTR := hid ht
          have HR : Hid (parseFR a = (zss, 0)) := by simp only [Hid]; rw [HP.out]; unfold parseFo; exact if_pos ⟨H1.out, ht⟩
          clear ht
          go_wp2_with (go_at_call 41; refine (l03Forest_any _ zss _ HO.out.rd HTT.out).mono ?_; rintro e w2 ⟨rfl, B2⟩; rw [HTR.out])
          go_ret2
          rw [HR.out]
          exact ⟨_, rfl, ⟨us, HO.out.mono B2⟩, nx B1 B2⟩
        | false =>
          have HTR := hid ht
          have HR : Hid (parseFR a = ([], 6)) := by simp only [Hid]; rw [HP.out]; unfold parseFo; exact if_neg (fun h => by rw [ht] at h; cases h.2)
          clear ht
          go_wp2_with (go_at_call 41; refine (l03Forest_any _ zss _ HO.out.rd HTT.out).mono ?_; rintro e w2 ⟨rfl, B2⟩; rw [HTR.out])
          go_ret2
          rw [HR.out]
          exact ⟨_, rfl, ⟨[], Own2.nil _ _⟩, nx B1 B2⟩
    · have HR : Hid (parseFR a = ([], 6)) := by simp only [Hid]; rw [HR0.out, hn]; rfl
      clear hn
      go_wp2
      go_ret2
      rw [HR.out]
      exact ⟨_, rfl, ⟨[], Own2.nil _ _⟩, B1⟩
end Go.Proofs.Ythjdmkjncaemgaa
