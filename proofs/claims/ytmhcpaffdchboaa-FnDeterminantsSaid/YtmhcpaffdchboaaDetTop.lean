/-
  The walk of the reference's Determinant.
-/
import Derived.Test.YtmhcpaffdchboaaDetB
namespace Go.Proofs.Ytmhcpaffdchboaa
open Go.RowKit
set_option maxRecDepth 100000
theorem sDeterminant_any (v : Value) (a : List (List Int)) (w : World) (h : RdII w v a) (_ : tot a ≤ 1048576) :
    Calls Try.prog 16 #[v] w fun e w' => e = .returned (.tuple #[.int .i64 (detR a).1, .int .i64 (detR a).2]) ∧ Below w.heap.size w w' := by
  have H := hid h
  obtain ⟨ao, cap, vs, rfl, hcap, hmax, -⟩ := h
  cases ha : isMat a with
  | false =>
    have HA : Hid (matC a = 1) := by simp [Hid, matC, ha]
    have HR : Hid (detR a = (0, 1)) := by simp [Hid, detR, ha]
    clear ha
    go_enter Try.func16, Try.ntmps16
    go_wp2_with (go_at_call 36; refine (l01Matrix_any _ a _ H.out).mono ?_; rintro e w1 ⟨rfl, D1⟩; rw [HA.out]; have B1 := D1.below w.heap.size)
    go_ret2
    rw [HR.out]
    exact ⟨rfl, B1⟩
  | true =>
    have HA : Hid (matC a = 0) := by simp [Hid, matC, ha]
    have HY := hid ha
    have m1 := isMat_yes ha
    have hapos := m1.1
    have ha8 := m1.2.1
    have HM := hid (isMat_matL ha)
    clear ha m1
    obtain ⟨g, off, x, rfl, hcell0, hx⟩ := H.out.at_ hapos
    obtain ⟨aox, capx, rfl⟩ := hx.form
    rw [Nat.add_zero] at hcell0
    have HC := hid hcell0
    have hg := World.block_lt_of_cell? _ _ hcell0
    clear hx hcell0
    by_cases hf : a.length = (rowAt a 0).length
    · have HR : Hid (detR a = (vI (det a.length (mtOf a)), 0)) := by simp only [Hid]; unfold detR; rw [if_pos HY.out, if_pos hf]
      have hn : ((a.length : Int) != ((rowAt a 0).length : Int)) = false := by rw [← hf]; simp
      have HN : Hid (RdII w (.slice (some ⟨g, off, none⟩) a.length cap) (matL a.length a.length (mtOf a))) := by
        have := HM.out; rw [← hf] at this; simp only [Hid]; rw [← this]; exact H.out
      clear hf HM
      go_enter Try.func16, Try.ntmps16
      go_wp2_with fail
      refine (l01Matrix_any _ a _ H.out).mono ?_; rintro e w1 ⟨rfl, D1⟩; rw [HA.out]; have B1 := D1.below w.heap.size
      have hcell1 := (B1.cell (p := ⟨g, off, none⟩) hg).trans HC.out
      go_wp2_with fail
      refine (l01Det_all _ (by omega) _ _ _ (HN.out.mono B1)).mono ?_; rintro e w2 ⟨rfl, B2⟩
      go_wp2
      go_ret2
      rw [HR.out]
      exact ⟨rfl, nx B1 B2⟩
    · have HR : Hid (detR a = (0, 5)) := by simp only [Hid]; unfold detR; rw [if_pos HY.out, if_neg hf]
      have hn : ((a.length : Int) != ((rowAt a 0).length : Int)) = true := by simp; omega
      clear hf HM
      go_enter Try.func16, Try.ntmps16
      go_wp2_with fail
      refine (l01Matrix_any _ a _ H.out).mono ?_; rintro e w1 ⟨rfl, D1⟩; rw [HA.out]; have B1 := D1.below w.heap.size
      have hcell1 := (B1.cell (p := ⟨g, off, none⟩) hg).trans HC.out
      go_wp2
      go_ret2
      rw [HR.out]
      exact ⟨rfl, B1⟩
end Go.Proofs.Ytmhcpaffdchboaa
