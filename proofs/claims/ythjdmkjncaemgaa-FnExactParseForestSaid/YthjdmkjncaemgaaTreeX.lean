/-
  The walks of the exported functions of canonical lists.
-/
import Derived.Test.YthjdmkjncaemgaaTreeK
import Derived.Test.YthjdmkjncaemgaaTreeT
import Derived.Test.YthjdmkjncaemgaaTreeD
namespace Go.Proofs.Ythjdmkjncaemgaa
open Go.RowKit
set_option maxRecDepth 100000
def canonR (zs : List Int) : List Int × Int := if isLev zs = true then (canon zs, 0) else ([], 1)
def isTreeB (zs : List Int) : Bool := isLev zs && sameL (canon zs) zs
def sgn (n : Int) : Int := if n < 0 then -1 else if 0 < n then 1 else 0
def compareR (xs ys : List Int) : Int × Int := if isLev xs = true ∧ isLev ys = true then (sgn (cmpT (canon xs) (canon ys)), 0) else (0, 1)
theorem canonical8 (v : Value) (zs : List Int) (w : World) (h : RdI w v zs) (hs : isLev zs = true) :
    Calls Try.prog 35 #[v] w fun e w' => ∃ r, e = .returned r ∧ OwnI w.heap.size w' r (canon zs) ∧ Below w.heap.size w w' :=
  canonical_any 8 (by omega) v zs w h (isLev_IsL hs).1 (isLev_IsL hs).2
theorem l03Canon8 (v : Value) (zs : List Int) (w : World) (h : RdI w v zs) (hs : isLev zs = true) :
    Calls Try.prog 32 #[v] w fun e w' => ∃ r, e = .returned r ∧ OwnI w.heap.size w' r (canon zs) ∧ Below w.heap.size w w' :=
  l03Canon_any 8 (by omega) v zs w h (isLev_IsL hs).1 (isLev_IsL hs).2
theorem isTree_any (v : Value) (zs : List Int) (w : World) (h : RdI w v zs) :
    Calls Try.prog 39 #[v] w fun e w' => e = .returned (.bool (isTreeB zs)) ∧ Below w.heap.size w w' := by
  obtain ⟨ao, cap, rfl⟩ := h.form
  cases hs : isLev zs with
  | true =>
    have HS := hid hs
    have HR : Hid (isTreeB zs = sameL (canon zs) zs) := by simp [Hid, isTreeB, hs]
    have h0 := hid h
    clear hs h
    go_enter Try.func39, Try.ntmps39
    go_wp2_with (first
      | (go_at_call 33; refine (isLevels_any _ zs _ h0.out).mono ?_; rintro e w' ⟨rfl, rfl⟩; rw [HS.out])
      | (go_at_call 35; refine (canonical8 _ zs _ h0.out HS.out).mono ?_; rintro e w1 ⟨r, rfl, O, B⟩)
      | (go_at_call 60; refine (slicesEqual_any _ _ (canon zs) zs _ O.rd (h0.out.mono B)).mono ?_; rintro e w2 ⟨rfl, D⟩))
    go_ret
    rw [HR.out]
    exact ⟨rfl, nx B (D.below _)⟩
  | false =>
    have HS := hid hs
    have HR : Hid (isTreeB zs = false) := by simp [Hid, isTreeB, hs]
    have h0 := hid h
    clear hs h
    go_enter Try.func39, Try.ntmps39
    go_wp2_with (go_at_call 33; refine (isLevels_any _ zs _ h0.out).mono ?_; rintro e w' ⟨rfl, rfl⟩; rw [HS.out])
    go_ret
    rw [HR.out]
    exact ⟨rfl, Below.refl _ _⟩
theorem sIsTree_any (v : Value) (zs : List Int) (w : World) (h : RdI w v zs) :
    Calls Try.prog 37 #[v] w fun e w' => e = .returned (.bool (isTreeB zs)) ∧ Below w.heap.size w w' := by
  obtain ⟨ao, cap, rfl⟩ := h.form
  cases hs : isLev zs with
  | true =>
    have HS := hid hs
    have HR : Hid (isTreeB zs = sameL (canon zs) zs) := by simp [Hid, isTreeB, hs]
    have h0 := hid h
    clear hs h
    go_enter Try.func37, Try.ntmps37
    go_wp2_with (first
      | (go_at_call 30; refine (l03Is_any _ zs _ h0.out).mono ?_; rintro e w0 ⟨rfl, D0⟩; rw [HS.out]; have B0 := D0.below w.heap.size)
      | (go_at_call 32; refine (l03Canon8 _ zs _ (h0.out.mono B0) HS.out).mono ?_; rintro e w1 ⟨r, rfl, O, B⟩)
      | (go_at_call 59; refine (l01Same_any _ _ (canon zs) zs _ O.rd ((h0.out.mono B0).mono B)).mono ?_; rintro e w2 ⟨rfl, D⟩))
    go_ret
    rw [HR.out]
    exact ⟨rfl, nx (nx B0 B) (D.below _)⟩
  | false =>
    have HS := hid hs
    have HR : Hid (isTreeB zs = false) := by simp [Hid, isTreeB, hs]
    have h0 := hid h
    clear hs h
    go_enter Try.func37, Try.ntmps37
    go_wp2_with (go_at_call 30; refine (l03Is_any _ zs _ h0.out).mono ?_; rintro e w' ⟨rfl, D⟩; rw [HS.out])
    go_ret
    rw [HR.out]
    exact ⟨rfl, D.below _⟩
theorem cmpT_pos (s t : List Int) : decide (0 < cmpT s t) = ltT t s := by
  have h1 := cmpT_neg t s
  rw [← h1]
  unfold cmpT
  by_cases h : s.length = t.length
  · rw [if_pos h, if_pos h.symm]
    unfold cmpL
    cases e1 : ltL t s with
    | true => simp [ltL_asymm _ _ e1]
    | false => cases e2 : ltL s t <;> simp
  · rw [if_neg h, if_neg (Ne.symm h), decide_eq_decide]; omega
end Go.Proofs.Ythjdmkjncaemgaa
