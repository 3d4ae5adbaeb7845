/-
  The walks of the density of trees.
-/
import Derived.Test.YtoiangfookhfdaaTreeB
namespace Go.Proofs.Ytoiangfookhfdaa
open Go.RowKit
set_option maxRecDepth 100000
def densTo (f : List Int → Int) (n : Nat) (bs : List (List Int)) : Nat → Int
  | 0 => (n : Int)
  | k + 1 => wrap64 (densTo f n bs k * f (rowAt bs k))
def densF : Nat → List Int → Int
  | 0, _ => 0
  | n + 1, t => densTo (densF n) t.length (parts t) (parts t).length
def densR (zs : List Int) : Int × Int := if isLev zs = true then (densF 8 zs, 0) else (0, 1)
theorem OwnII.form {base : Nat} {w : World} {v : Value} {zss : List (List Int)} (h : OwnII base w v zss) : ∃ ao cap, v = .slice ao zss.length cap := by
  obtain ⟨us, h⟩ := h; exact h.form
theorem OwnII.rd {base : Nat} {w : World} {v : Value} {zss : List (List Int)} (h : OwnII base w v zss) : RdII w v zss := by
  obtain ⟨us, h⟩ := h; exact h.rd
theorem RdI.lim {w : World} {v : Value} {zs : List Int} (h : RdI w v zs) : zs.length ≤ 1048576 := by obtain ⟨_, _, _, _, h, _⟩ := h; exact h
theorem lengthI_any (v : Value) (zs : List Int) (w : World) (h : RdI w v zs) :
    Calls Try.prog 72 #[v] w fun e w' => e = .returned (.int .i64 (zs.length : Int)) ∧ w = w' := by
  obtain ⟨ao, cap, rfl, hcap, hmax, -⟩ := h
  go_enter Try.func72, Try.ntmps72
  go_wp2
  go_ret
  exact ⟨rfl, rfl⟩
theorem density_any (n : Nat) : ∀ (v : Value) (zs : List Int) (w : World), RdI w v zs → IsL zs → zs.length ≤ n →
    Calls Try.prog 50 #[v] w fun e w' => e = .returned (.int .i64 (densF n zs)) ∧ Below w.heap.size w w' := by
  induction n with
  | zero => intro v zs w h hL hn; have := hL.1; omega
  | succ n ih =>
    intro v zs w h hL hn
    have H := hid h
    obtain ⟨ao, cap, rfl⟩ := h.form
    have HL := hid hL
    have IH := hid ih
    clear hL ih h
    go_enter Try.func50, Try.ntmps50
    go_wp2_with fail
    refine (lengthI_any _ zs _ H.out).mono ?_; rintro e w' ⟨rfl, rfl⟩
    go_wp2_with fail
    refine (branchesOf_any _ zs _ H.out HL.out).mono ?_; rintro e w1 ⟨r, rfl, O1, B1⟩
    obtain ⟨ao1, cap1, rfl⟩ := O1.form
    have R := hid O1.rd
    clear O1
    go_wp2
    go_loopw [3, 11] (fun q i wr => ∃ k : Nat, k ≤ (parts zs).length ∧ i = .int .i64 k ∧ q = .int .i64 (densTo (densF n) zs.length (parts zs) k) ∧ Below w1.heap.size w1 wr) (fun _ i _ => (parts zs).length - (intOf i).toNat)
    case atStart => exact ⟨0, Nat.zero_le _, rfl, rfl, Below.refl _ _⟩
    case round =>
      obtain ⟨k, hk, rfl, rfl, Bl⟩ := hrel
      by_cases hlt : k < (parts zs).length
      · obtain ⟨b, off, u, rfl, hcell, hu⟩ := (R.out.mono Bl).at_ hlt
        have HU := hid hu
        clear hu
        have hp := parts_IsL HL.out _ (rowAt_mem (parts zs) k hlt)
        have hpl := parts_len HL.out
        have hlm := H.out.lim
        go_wp2_with fail
        refine (IH.out _ (rowAt (parts zs) k) _ HU.out hp.1 (by omega)).mono ?_; rintro e w2 ⟨rfl, B2⟩
        go_wp2
        go_roundw
        case rel => exact ⟨k + 1, by omega, by go_num, rfl, nx Bl B2⟩
        case measure => simp [intOf]; omega
      · go_wp2
        go_ret
        obtain rfl : k = (parts zs).length := by omega
        exact ⟨rfl, nx B1 Bl⟩
theorem l03Density_any (n : Nat) : ∀ (v : Value) (zs : List Int) (w : World), RdI w v zs → IsL zs → zs.length ≤ n →
    Calls Try.prog 49 #[v] w fun e w' => e = .returned (.int .i64 (densF n zs)) ∧ Below w.heap.size w w' := by
  induction n with
  | zero => intro v zs w h hL hn; have := hL.1; omega
  | succ n ih =>
    intro v zs w h hL hn
    have H := hid h
    obtain ⟨ao, cap, rfl⟩ := h.form
    have HL := hid hL
    have IH := hid ih
    clear hL ih h
    go_enter Try.func49, Try.ntmps49
    go_wp2_with fail
    refine (l03Parts_any _ zs _ H.out HL.out).mono ?_; rintro e w1 ⟨r, rfl, O1, B1⟩
    obtain ⟨ao1, cap1, rfl⟩ := O1.form
    have R := hid O1.rd
    clear O1
    go_wp2
    go_loopw [3, 5] (fun q i wr => ∃ k : Nat, k ≤ (parts zs).length ∧ i = .int .i64 k ∧ q = .int .i64 (densTo (densF n) zs.length (parts zs) k) ∧ Below w1.heap.size w1 wr) (fun _ i _ => (parts zs).length - (intOf i).toNat)
    case atStart => exact ⟨0, Nat.zero_le _, rfl, rfl, Below.refl _ _⟩
    case round =>
      obtain ⟨k, hk, rfl, rfl, Bl⟩ := hrel
      by_cases hlt : k < (parts zs).length
      · obtain ⟨b, off, u, rfl, hcell, hu⟩ := (R.out.mono Bl).at_ hlt
        have HU := hid hu
        clear hu
        have hp := parts_IsL HL.out _ (rowAt_mem (parts zs) k hlt)
        have hpl := parts_len HL.out
        have hlm := H.out.lim
        go_wp2_with fail
        refine (IH.out _ (rowAt (parts zs) k) _ HU.out hp.1 (by omega)).mono ?_; rintro e w2 ⟨rfl, B2⟩
        go_wp2
        go_roundw
        case rel => exact ⟨k + 1, by omega, by go_num, rfl, nx Bl B2⟩
        case measure => simp [intOf]; omega
      · go_wp2
        go_ret
        obtain rfl : k = (parts zs).length := by omega
        exact ⟨rfl, nx B1 Bl⟩
theorem densityOf_any (v : Value) (zs : List Int) (w : World) (h : RdI w v zs) :
    Calls Try.prog 24 #[v] w fun e w' => e = .returned (.tuple #[.int .i64 (densR zs).1, .int .i64 (densR zs).2]) ∧ Below w.heap.size w w' := by
  have H := hid h
  obtain ⟨ao, cap, rfl⟩ := h.form
  cases hs : isLev zs with
  | true =>
    have HS := hid hs
    have HL := hid (isLev_IsL hs)
    clear hs
    go_enter Try.func24, Try.ntmps24
    go_wp2_with fail
    refine (isLevels_any _ zs _ H.out).mono ?_; rintro e w' ⟨rfl, rfl⟩; rw [HS.out]
    go_wp2_with fail
    refine (density_any 8 _ zs _ H.out HL.out.1 HL.out.2).mono ?_; rintro e w1 ⟨rfl, B1⟩
    go_wp2
    go_ret2
    exact ⟨by rw [densR, if_pos HS.out]; rfl, B1⟩
  | false =>
    have HS := hid hs
    clear hs
    go_enter Try.func24, Try.ntmps24
    go_wp2_with fail
    refine (isLevels_any _ zs _ H.out).mono ?_; rintro e w' ⟨rfl, rfl⟩; rw [HS.out]
    go_wp2
    go_ret2
    exact ⟨by rw [densR, HS.out]; rfl, Below.refl _ _⟩
theorem sDensityOf_any (v : Value) (zs : List Int) (w : World) (h : RdI w v zs) :
    Calls Try.prog 23 #[v] w fun e w' => e = .returned (.tuple #[.int .i64 (densR zs).1, .int .i64 (densR zs).2]) ∧ Below w.heap.size w w' := by
  have H := hid h
  obtain ⟨ao, cap, rfl⟩ := h.form
  cases hs : isLev zs with
  | true =>
    have HS := hid hs
    have HL := hid (isLev_IsL hs)
    clear hs
    go_enter Try.func23, Try.ntmps23
    go_wp2_with fail
    refine (l03Is_any _ zs _ H.out).mono ?_; rintro e w0 ⟨rfl, D0⟩; rw [HS.out]
    have B0 := D0.below w.heap.size
    have H2 := hid (H.out.mono B0)
    go_wp2_with fail
    refine (l03Density_any 8 _ zs _ H2.out HL.out.1 HL.out.2).mono ?_; rintro e w1 ⟨rfl, B1⟩
    go_wp2
    go_ret2
    exact ⟨by rw [densR, if_pos HS.out]; rfl, nx B0 B1⟩
  | false =>
    have HS := hid hs
    clear hs
    go_enter Try.func23, Try.ntmps23
    go_wp2_with fail
    refine (l03Is_any _ zs _ H.out).mono ?_; rintro e w' ⟨rfl, D0⟩; rw [HS.out]
    go_wp2
    go_ret2
    exact ⟨by rw [densR, HS.out]; rfl, D0.below _⟩
end Go.Proofs.Ytoiangfookhfdaa
