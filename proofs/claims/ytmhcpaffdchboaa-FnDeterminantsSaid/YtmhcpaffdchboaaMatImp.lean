/-
  The walks of the determinant, with what leads to it.
-/
import Derived.Test.YtmhcpaffdchboaaMatRedW
import Derived.Test.YtmhcpaffdchboaaMat
import Derived.Test.YtmhcpaffdchboaaInII
namespace Go.Proofs.Ytmhcpaffdchboaa
open Go.RowKit
set_option maxRecDepth 100000
theorem RdII.formM {w : World} {v : Value} {m n : Nat} {A : Mt} (h : RdII w v (matL m n A)) : ∃ ao cap, v = .slice ao m cap ∧ m ≤ cap ∧ m ≤ 1048576 := by
  obtain ⟨ao, cap, vs, e, h1, h2, _⟩ := h
  rw [matL_length] at e h1 h2
  exact ⟨ao, cap, e, h1, h2⟩
/-- The matrix that rows hold. -/
def mtOf (zss : List (List Int)) : Mt := fun r c => fI (el (rowAt zss r) c)
theorem isMat_matL {zss : List (List Int)} (h : isMat zss = true) : zss = matL zss.length (rowAt zss 0).length (mtOf zss) := by
  obtain ⟨_, _, _, _, h5⟩ := isMat_yes h
  apply List.ext_getElem (by rw [matL_length])
  intro r h1 h2
  rw [rowAt_at zss r h1]
  simp only [matL, List.getElem_map, List.getElem_range]
  obtain ⟨a, b⟩ := h5 r h1
  have e : lst (rowAt zss r).length (ser (rowAt zss r)) = rowAt zss r := lst_ser b
  rw [a] at e
  exact e.symm
theorem leadF_go {u : Nat → F} {j n : Nat} (h : j < n) (h0 : u j = 0) : leadF u j (n - j) = leadF u (j + 1) (n - (j + 1)) := by
  obtain ⟨f, hf⟩ : ∃ f, n - j = f + 1 := ⟨n - j - 1, by omega⟩
  rw [hf, leadF, if_pos h0, show n - (j + 1) = f by omega]
theorem leadF_stop {u : Nat → F} {j n : Nat} (h : j < n) (h0 : u j ≠ 0) : leadF u j (n - j) = j := by
  obtain ⟨f, hf⟩ : ∃ f, n - j = f + 1 := ⟨n - j - 1, by omega⟩
  rw [hf, leadF, if_neg h0]
theorem lead_any (n : Nat) (f : PS) (v : Value) (w : World) (h : RdI w v (lst n f)) :
    Calls Try.prog 70 #[v] w fun e w' => e = .returned (.int .i64 ((leadF f 0 n : Nat) : Int)) ∧ w = w' := by
  have H := hid h
  obtain ⟨ao, cap, rfl, hcap, hmax⟩ := h.formL
  clear h
  go_enter Try.func70, Try.ntmps70
  go_wp2
  go_loop [3] (fun i => ∃ j : Nat, j ≤ n ∧ i = .int .i64 j ∧ Hid (leadF f 0 n = leadF f j (n - j))) (fun i => n - (intOf i).toNat)
  case atStart => exact ⟨0, Nat.zero_le _, rfl, rfl⟩
  case round =>
    obtain ⟨j, hj, rfl, HL⟩ := hrel
    by_cases hjn : j < n
    rotate_left
    · obtain rfl : j = n := by omega
      have hd : decide ((j : Int) < (j : Int)) = false := by simp
      go_wp2_with fail
      go_ret
      rw [HL.out, Nat.sub_self, leadF]
      exact ⟨rfl, rfl⟩
    have hjn' : (j : Int) < (n : Int) := by omega
    obtain ⟨b, off, rfl, hp⟩ := H.out.at_ (k := j) (by rw [lst_length]; exact hjn)
    rw [lst_el _ _ _ hjn] at hp
    by_cases hz : f j = 0
    · rw [hz, vI_zero] at hp
      go_wp2_with fail
      go_round
      case rel => exact ⟨j + 1, by omega, by go_num, by simp only [Hid]; rw [HL.out, leadF_go hjn hz]⟩
      case measure => simp [intOf]; omega
    · have hz' := vI_ne hz
      go_wp2_with fail
      go_ret
      rw [HL.out, leadF_stop hjn hz]
      exact ⟨rfl, rfl⟩
theorem determinant_any (n : Nat) (A : Mt) (v : Value) (w : World) (h : RdII w v (matL n n A)) (h1 : 1 ≤ n) (h2 : n ≤ 64) :
    Calls Try.prog 42 #[v] w fun e w' => e = .returned (.int .i64 (vI (det n A))) ∧ Below w.heap.size w w' := by
  have HD := hid (det_reduce n A)
  obtain ⟨D, hD⟩ : ∃ D, D = det n A := ⟨_, rfl⟩
  rw [← hD] at HD ⊢
  clear hD
  have H := hid h
  obtain ⟨ao, cap, rfl, hcap, hmax⟩ := h.formM
  clear h
  go_enter Try.func42, Try.ntmps42
  go_wp2_with fail
  refine (reduce_any n n A _ _ H.out h1 h2 h1 h2).mono ?_
  rintro e w1 ⟨g, cap1, us, rfl, O, ht, Bl⟩
  clear O H
  generalize (reduceR n n A).2.2 = t at HD ht ⊢
  generalize (reduceR n n A).2.1 = d at HD ⊢
  by_cases hlt : t < n
  · have HE : Hid (D = 0) := by have := HD.out; rw [if_pos hlt] at this; exact this
    clear HD
    have hlt' : (t : Int) < (n : Int) := by omega
    go_wp2_with fail
    go_ret
    rw [HE.out, vI_zero]
    exact ⟨rfl, Bl⟩
  · have HE : Hid (D = d) := by have := HD.out; rw [if_neg hlt] at this; exact this
    clear HD
    have hd : decide ((t : Int) < (n : Int)) = false := by simp; omega
    go_wp2_with fail
    go_ret
    rw [HE.out]
    exact ⟨rfl, Bl⟩
def detR (zss : List (List Int)) : Int × Int := if isMat zss = true then (if zss.length = (rowAt zss 0).length then (vI (det zss.length (mtOf zss)), 0) else (0, 5)) else (0, 1)
theorem determinantTop_any (v : Value) (a : List (List Int)) (w : World) (h : RdII w v a) (_ : tot a ≤ 1048576) :
    Calls Try.prog 17 #[v] w fun e w' => e = .returned (.tuple #[.int .i64 (detR a).1, .int .i64 (detR a).2]) ∧ Below w.heap.size w w' := by
  have H := hid h
  obtain ⟨ao, cap, vs, rfl, hcap, hmax, -⟩ := h
  cases ha : isMat a with
  | false =>
    have HA := hid ha
    have HR : Hid (detR a = (0, 1)) := by simp [Hid, detR, ha]
    clear ha
    go_enter Try.func17, Try.ntmps17
    go_wp2_with (go_at_call 38; refine (isMatrix_any _ a _ H.out).mono ?_; rintro e w1 ⟨rfl, rfl⟩; rw [HA.out])
    go_ret2
    rw [HR.out]
    exact ⟨rfl, Below.refl _ _⟩
  | true =>
    have HA := hid ha
    have m1 := isMat_yes ha
    have hapos := m1.1
    have ha8 := m1.2.1
    have HM := hid (isMat_matL ha)
    clear ha m1
    obtain ⟨g, off, x, rfl, hcell0, hx⟩ := H.out.at_ hapos
    obtain ⟨aox, capx, rfl⟩ := hx.form
    rw [Nat.add_zero] at hcell0
    clear hx
    by_cases hf : a.length = (rowAt a 0).length
    · have HR : Hid (detR a = (vI (det a.length (mtOf a)), 0)) := by simp only [Hid]; unfold detR; rw [if_pos HA.out, if_pos hf]
      have hn : ((a.length : Int) != ((rowAt a 0).length : Int)) = false := by rw [← hf]; simp
      have HN : Hid (RdII w (.slice (some ⟨g, off, none⟩) a.length cap) (matL a.length a.length (mtOf a))) := by
        have := HM.out; rw [← hf] at this; simp only [Hid]; rw [← this]; exact H.out
      clear hf HM
      go_enter Try.func17, Try.ntmps17
      go_wp2_with fail
      refine (isMatrix_any _ a _ H.out).mono ?_; rintro e w1 ⟨rfl, rfl⟩; rw [HA.out]
      go_wp2_with fail
      refine (determinant_any _ _ _ _ HN.out hapos (by omega)).mono ?_; rintro e w2 ⟨rfl, B2⟩
      go_wp2
      go_ret2
      rw [HR.out]
      exact ⟨rfl, B2⟩
    · have HR : Hid (detR a = (0, 5)) := by simp only [Hid]; unfold detR; rw [if_pos HA.out, if_neg hf]
      have hn : ((a.length : Int) != ((rowAt a 0).length : Int)) = true := by simp; omega
      clear hf HM
      go_enter Try.func17, Try.ntmps17
      go_wp2_with fail
      refine (isMatrix_any _ a _ H.out).mono ?_; rintro e w1 ⟨rfl, rfl⟩; rw [HA.out]
      go_wp2
      go_ret2
      rw [HR.out]
      exact ⟨rfl, Below.refl _ _⟩
end Go.Proofs.Ytmhcpaffdchboaa
