/-
  The walks of the exported functions of canonical lists.
-/
import Derived.Test.YtoiangfookhfdaaTreeK
import Derived.Test.YtoiangfookhfdaaTreeT
import Derived.Test.YtoiangfookhfdaaTreeD
namespace Go.Proofs.Ytoiangfookhfdaa
open Go.RowKit
set_option maxRecDepth 100000
def canonR (zs : List Int) : List Int × Int := if isLev zs = true then (canon zs, 0) else ([], 1)
def isTreeB (zs : List Int) : Bool := isLev zs && sameL (canon zs) zs
def sgn (n : Int) : Int := if n < 0 then -1 else if 0 < n then 1 else 0
def compareR (xs ys : List Int) : Int × Int := if isLev xs = true ∧ isLev ys = true then (sgn (cmpT (canon xs) (canon ys)), 0) else (0, 1)
theorem canonical8 (v : Value) (zs : List Int) (w : World) (h : RdI w v zs) (hs : isLev zs = true) :
    Calls Try.prog 59 #[v] w fun e w' => ∃ r, e = .returned r ∧ OwnI w.heap.size w' r (canon zs) ∧ Below w.heap.size w w' :=
  canonical_any 8 (by omega) v zs w h (isLev_IsL hs).1 (isLev_IsL hs).2
theorem l03Canon8 (v : Value) (zs : List Int) (w : World) (h : RdI w v zs) (hs : isLev zs = true) :
    Calls Try.prog 57 #[v] w fun e w' => ∃ r, e = .returned r ∧ OwnI w.heap.size w' r (canon zs) ∧ Below w.heap.size w w' :=
  l03Canon_any 8 (by omega) v zs w h (isLev_IsL hs).1 (isLev_IsL hs).2
theorem canonicalTree_any (v : Value) (zs : List Int) (w : World) (h : RdI w v zs) :
    Calls Try.prog 37 #[v] w fun e w' => ∃ r, e = .returned (.tuple #[r, .int .i64 (canonR zs).2]) ∧ OwnI w.heap.size w' r (canonR zs).1 ∧ Below w.heap.size w w' := by
  obtain ⟨ao, cap, rfl⟩ := h.form
  cases hs : isLev zs with
  | true =>
    have HS := hid hs
    have HR : Hid (canonR zs = (canon zs, 0)) := by simp [Hid, canonR, hs]
    clear hs
    go_enter Try.func37, Try.ntmps37
    go_wp2_with fail
    refine (isLevels_any _ zs _ h).mono ?_; rintro e w' ⟨rfl, rfl⟩; rw [HS.out]
    go_wp2_with fail
    refine (canonical8 _ zs _ h HS.out).mono ?_; rintro e w1 ⟨r, rfl, O, B⟩
    go_wp2
    go_ret2
    rw [HR.out]
    exact ⟨_, rfl, O, B⟩
  | false =>
    have HS := hid hs
    have HR : Hid (canonR zs = ([], 1)) := by simp [Hid, canonR, hs]
    clear hs
    go_enter Try.func37, Try.ntmps37
    go_wp2_with fail
    refine (isLevels_any _ zs _ h).mono ?_; rintro e w' ⟨rfl, rfl⟩; rw [HS.out]
    go_wp2
    go_ret2
    rw [HR.out]
    exact ⟨_, rfl, OwnI.nil _ _, Below.refl _ _⟩
theorem sCanonicalTree_any (v : Value) (zs : List Int) (w : World) (h : RdI w v zs) :
    Calls Try.prog 36 #[v] w fun e w' => ∃ r, e = .returned (.tuple #[r, .int .i64 (canonR zs).2]) ∧ OwnI w.heap.size w' r (canonR zs).1 ∧ Below w.heap.size w w' := by
  obtain ⟨ao, cap, rfl⟩ := h.form
  cases hs : isLev zs with
  | true =>
    have HS := hid hs
    have HR : Hid (canonR zs = (canon zs, 0)) := by simp [Hid, canonR, hs]
    clear hs
    go_enter Try.func36, Try.ntmps36
    go_wp2_with fail
    refine (l03Is_any _ zs _ h).mono ?_; rintro e w0 ⟨rfl, D⟩; rw [HS.out]
    have B0 := D.below w.heap.size
    go_wp2_with fail
    refine (l03Canon8 _ zs _ (h.mono B0) HS.out).mono ?_; rintro e w1 ⟨r, rfl, O, B⟩
    go_wp2
    go_ret2
    rw [HR.out]
    exact ⟨_, rfl, O.lower B0.size, nx B0 B⟩
  | false =>
    have HS := hid hs
    have HR : Hid (canonR zs = ([], 1)) := by simp [Hid, canonR, hs]
    clear hs
    go_enter Try.func36, Try.ntmps36
    go_wp2_with fail
    refine (l03Is_any _ zs _ h).mono ?_; rintro e w0 ⟨rfl, D⟩; rw [HS.out]
    go_wp2
    go_ret2
    rw [HR.out]
    exact ⟨_, rfl, OwnI.nil _ _, D.below _⟩
theorem isTree_any (v : Value) (zs : List Int) (w : World) (h : RdI w v zs) :
    Calls Try.prog 35 #[v] w fun e w' => e = .returned (.bool (isTreeB zs)) ∧ Below w.heap.size w w' := by
  obtain ⟨ao, cap, rfl⟩ := h.form
  cases hs : isLev zs with
  | true =>
    have HS := hid hs
    have HR : Hid (isTreeB zs = sameL (canon zs) zs) := by simp [Hid, isTreeB, hs]
    have h0 := hid h
    clear hs h
    go_enter Try.func35, Try.ntmps35
    go_wp2_with (first
      | (go_at_call 17; refine (isLevels_any _ zs _ h0.out).mono ?_; rintro e w' ⟨rfl, rfl⟩; rw [HS.out])
      | (go_at_call 59; refine (canonical8 _ zs _ h0.out HS.out).mono ?_; rintro e w1 ⟨r, rfl, O, B⟩)
      | (go_at_call 58; refine (slicesEqual_any _ _ (canon zs) zs _ O.rd (h0.out.mono B)).mono ?_; rintro e w2 ⟨rfl, D⟩))
    go_ret
    rw [HR.out]
    exact ⟨rfl, nx B (D.below _)⟩
  | false =>
    have HS := hid hs
    have HR : Hid (isTreeB zs = false) := by simp [Hid, isTreeB, hs]
    have h0 := hid h
    clear hs h
    go_enter Try.func35, Try.ntmps35
    go_wp2_with (go_at_call 17; refine (isLevels_any _ zs _ h0.out).mono ?_; rintro e w' ⟨rfl, rfl⟩; rw [HS.out])
    go_ret
    rw [HR.out]
    exact ⟨rfl, Below.refl _ _⟩
theorem sIsTree_any (v : Value) (zs : List Int) (w : World) (h : RdI w v zs) :
    Calls Try.prog 34 #[v] w fun e w' => e = .returned (.bool (isTreeB zs)) ∧ Below w.heap.size w w' := by
  obtain ⟨ao, cap, rfl⟩ := h.form
  cases hs : isLev zs with
  | true =>
    have HS := hid hs
    have HR : Hid (isTreeB zs = sameL (canon zs) zs) := by simp [Hid, isTreeB, hs]
    have h0 := hid h
    clear hs h
    go_enter Try.func34, Try.ntmps34
    go_wp2_with (first
      | (go_at_call 46; refine (l03Is_any _ zs _ h0.out).mono ?_; rintro e w0 ⟨rfl, D0⟩; rw [HS.out]; have B0 := D0.below w.heap.size)
      | (go_at_call 57; refine (l03Canon8 _ zs _ (h0.out.mono B0) HS.out).mono ?_; rintro e w1 ⟨r, rfl, O, B⟩)
      | (go_at_call 56; refine (l01Same_any _ _ (canon zs) zs _ O.rd ((h0.out.mono B0).mono B)).mono ?_; rintro e w2 ⟨rfl, D⟩))
    go_ret
    rw [HR.out]
    exact ⟨rfl, nx (nx B0 B) (D.below _)⟩
  | false =>
    have HS := hid hs
    have HR : Hid (isTreeB zs = false) := by simp [Hid, isTreeB, hs]
    have h0 := hid h
    clear hs h
    go_enter Try.func34, Try.ntmps34
    go_wp2_with (go_at_call 46; refine (l03Is_any _ zs _ h0.out).mono ?_; rintro e w' ⟨rfl, D⟩; rw [HS.out])
    go_ret
    rw [HR.out]
    exact ⟨rfl, D.below _⟩
theorem areLevels1_any (v : Value) (zs : List Int) (w : World) (h : RdI w v zs) :
    Calls Try.prog 81 #[v] w fun e w' => e = .returned (.bool (!isLev zs)) ∧ w = w' := by
  go_enter Try.func81, Try.ntmps81
  go_wp2_with (go_at_call 17; refine (isLevels_any _ zs _ h).mono ?_; rintro e w' ⟨rfl, rfl⟩)
  go_ret
  exact ⟨rfl, rfl⟩
theorem all_takeLL {p : List Int → Bool} {zss : List (List Int)} {k : Nat} (h : k < zss.length) : (zss.take (k + 1)).all p = ((zss.take k).all p && p (rowAt zss k)) := by
  rw [List.take_succ_eq_append_getElem h, List.all_append, rowAt_at zss k h]; simp
theorem indexFuncLL_yes (v : Value) (zss : List (List Int)) (w : World) (h : RdII w v zss) (hall : zss.all isLev = true) :
    Calls Try.prog 90 #[v, .func (.func 81) #[] #[]] w fun e w' => e = .returned (.int .i64 (-1)) ∧ w = w' := by
  have H := hid h
  have HA := hid hall
  obtain ⟨ao, cap, vs, rfl, hcap, hmax, -⟩ := h
  clear hall
  go_enter Try.func90, Try.ntmps90
  go_wp2
  go_loop [8] (fun i => ∃ k : Nat, k ≤ zss.length ∧ i = .int .i64 k) (fun i => zss.length - (intOf i).toNat)
  case atStart => exact ⟨0, Nat.zero_le _, rfl⟩
  case round =>
    obtain ⟨k, hk, rfl⟩ := hrel
    by_cases hlt : k < zss.length
    · obtain ⟨b, off, u, rfl, hcell, hu⟩ := H.out.at_ hlt
      have HU := hid hu
      have hn : Hid (isLev (rowAt zss k) = true) := List.all_eq_true.1 HA.out _ (by rw [← rowAt_at zss k hlt]; exact List.getElem_mem hlt)
      clear hu
      go_wp2_with (go_at_call 81; refine (areLevels1_any _ (rowAt zss k) _ HU.out).mono ?_; rintro e w' ⟨rfl, rfl⟩; rw [hn.out])
      go_round
      case rel => exact ⟨k + 1, by omega, by go_num⟩
      case measure => simp [intOf]; omega
    · go_wp2
      go_ret
      exact ⟨rfl, rfl⟩
theorem indexFuncLL_no (v : Value) (zss : List (List Int)) (w : World) (h : RdII w v zss) (hall : zss.all isLev = false) :
    Calls Try.prog 90 #[v, .func (.func 81) #[] #[]] w fun e w' => ∃ k : Nat, e = .returned (.int .i64 k) ∧ w = w' := by
  have H := hid h
  have HA := hid hall
  obtain ⟨ao, cap, vs, rfl, hcap, hmax, -⟩ := h
  clear hall
  go_enter Try.func90, Try.ntmps90
  go_wp2
  go_loop [8] (fun i => ∃ k : Nat, k ≤ zss.length ∧ i = .int .i64 k ∧ Hid ((zss.take k).all isLev = true)) (fun i => zss.length - (intOf i).toNat)
  case atStart => exact ⟨0, Nat.zero_le _, rfl, rfl⟩
  case round =>
    obtain ⟨k, hk, rfl, HT⟩ := hrel
    by_cases hlt : k < zss.length
    · obtain ⟨b, off, u, rfl, hcell, hu⟩ := H.out.at_ hlt
      have HU := hid hu
      clear hu
      cases hn : isLev (rowAt zss k) with
      | true =>
        have HN := hid hn
        clear hn
        go_wp2_with (go_at_call 81; refine (areLevels1_any _ (rowAt zss k) _ HU.out).mono ?_; rintro e w' ⟨rfl, rfl⟩; rw [HN.out])
        go_round
        case rel => exact ⟨k + 1, by omega, by go_num, by simp only [Hid]; rw [all_takeLL hlt, HT.out, HN.out]; rfl⟩
        case measure => simp [intOf]; omega
      | false =>
        have HN := hid hn
        clear hn
        go_wp2_with (go_at_call 81; refine (areLevels1_any _ (rowAt zss k) _ HU.out).mono ?_; rintro e w' ⟨rfl, rfl⟩; rw [HN.out])
        go_ret
        exact ⟨k, rfl, rfl⟩
    · have := HT.out
      rw [List.take_of_length_le (by omega), HA.out] at this
      cases this
theorem areLevels_any (v : Value) (zss : List (List Int)) (w : World) (h : RdII w v zss) :
    Calls Try.prog 61 #[v] w fun e w' => e = .returned (.bool (zss.all isLev)) ∧ w = w' := by
  cases hall : zss.all isLev with
  | true =>
    have HA := hid hall
    clear hall
    go_enter Try.func61, Try.ntmps61
    go_wp2_with fail
    have hcon : Calls Try.prog 80 #[v, .func (.func 81) #[] #[]] w fun e w' => e = .returned (.bool false) ∧ w = w' := by
      go_enter Try.func80, Try.ntmps80
      go_wp2_with (go_at_call 90; refine (indexFuncLL_yes _ zss _ h HA.out).mono ?_; rintro e w' ⟨rfl, rfl⟩)
      go_ret
      exact ⟨rfl, rfl⟩
    refine hcon.mono ?_; rintro e w' ⟨rfl, rfl⟩
    go_wp2
    go_ret
    exact ⟨rfl, rfl⟩
  | false =>
    have HA := hid hall
    clear hall
    go_enter Try.func61, Try.ntmps61
    go_wp2_with fail
    have hcon : Calls Try.prog 80 #[v, .func (.func 81) #[] #[]] w fun e w' => e = .returned (.bool true) ∧ w = w' := by
      go_enter Try.func80, Try.ntmps80
      go_wp2_with (go_at_call 90; refine (indexFuncLL_no _ zss _ h HA.out).mono ?_; rintro e w' ⟨k, rfl, rfl⟩)
      go_ret
      exact ⟨ret_bool (by simp), rfl⟩
    refine hcon.mono ?_; rintro e w' ⟨rfl, rfl⟩
    go_wp2
    go_ret
    exact ⟨rfl, rfl⟩
theorem sgn_cases (n : Int) : sgn n = -1 ∧ n < 0 ∨ sgn n = 1 ∧ 0 < n ∨ sgn n = 0 ∧ n = 0 := by
  unfold sgn
  split
  · omega
  · split <;> omega
theorem compareTreesE_any (v u : Value) (xs ys : List Int) (w : World) (h : RdI w v xs) (h' : RdI w u ys) :
    Calls Try.prog 39 #[v, u] w fun e w' => e = .returned (.tuple #[.int .i64 (compareR xs ys).1, .int .i64 (compareR xs ys).2]) ∧ Below w.heap.size w w' := by
  obtain ⟨ao, cap, rfl⟩ := h.form
  obtain ⟨ao', cap', rfl⟩ := h'.form
  have hlit := RdII_lit2 w _ _ xs ys 22 h h'
  have HLIT := hid hlit
  have B0 := below_alloc w (.cells #[.slice ao xs.length cap, .slice ao' ys.length cap'] 22)
  have h0 := hid (h.mono B0)
  have h0' := hid (h'.mono B0)
  clear hlit h h'
  by_cases hs : isLev xs = true ∧ isLev ys = true
  · have HA : Hid ([xs, ys].all isLev = true) := by simp [Hid, hs]
    have HS := hid hs
    have HR : Hid (compareR xs ys = (sgn (cmpT (canon xs) (canon ys)), 0)) := by simp only [Hid, compareR]; rw [if_pos hs]
    clear hs
    obtain ⟨c, hc⟩ : ∃ c, c = cmpT (canon xs) (canon ys) := ⟨_, rfl⟩
    have HC := hid hc
    clear hc
    rcases sgn_cases c with ⟨e1, e2⟩ | ⟨e1, e2⟩ | ⟨e1, e2⟩
    all_goals
      have HR2 : Hid (compareR xs ys = (sgn c, 0)) := by simp only [Hid]; rw [HR.out, ← HC.out]
      have HE1 := hid e1
      clear e1
      go_enter Try.func39, Try.ntmps39
      go_wp2_with (first
        | (go_at_call 61; refine (areLevels_any _ [xs, ys] _ HLIT.out).mono ?_; rintro e w' ⟨rfl, rfl⟩; rw [HA.out])
        | (go_at_call_of 59 (Value.slice ao xs.length cap); refine (canonical8 _ xs _ h0.out HS.out.1).mono ?_; rintro e w1 ⟨r1, rfl, O1, B1⟩)
        | (go_at_call 59; refine (canonical8 _ ys _ (h0'.out.mono B1) HS.out.2).mono ?_; rintro e w2 ⟨r2, rfl, O2, B2⟩)
        | (go_at_call 62; refine (compareTrees_any _ _ (canon xs) (canon ys) _ (O1.mono B2).rd O2.rd).mono ?_; rintro e w3 ⟨rfl, rfl⟩; rw [← HC.out]))
      go_ret2
      rw [HR2.out]
      exact ⟨by rw [HE1.out]; rfl, nx (nx B0 B1) B2⟩
  · have HA : Hid ([xs, ys].all isLev = false) := by simp only [Hid]; simp at hs ⊢; exact hs
    have HR : Hid (compareR xs ys = (0, 1)) := by simp only [Hid, compareR]; rw [if_neg hs]
    clear hs
    go_enter Try.func39, Try.ntmps39
    go_wp2_with (go_at_call 61; refine (areLevels_any _ [xs, ys] _ HLIT.out).mono ?_; rintro e w' ⟨rfl, rfl⟩; rw [HA.out])
    go_ret2
    rw [HR.out]
    exact ⟨rfl, B0⟩
theorem cmpT_pos (s t : List Int) : decide (0 < cmpT s t) = ltT t s := by
  have h1 := cmpT_neg t s
  rw [← h1]
  unfold cmpT
  by_cases h : s.length = t.length
  · rw [if_pos h, if_pos h.symm]
    unfold cmpL
    cases e1 : ltL t s with
    | true => simp [ltL_asymm _ _ e1]
    | false => cases e2 : ltL s t <;> simp
  · rw [if_neg h, if_neg (Ne.symm h), decide_eq_decide]; omega
set_option maxHeartbeats 1000000 in
theorem sCompareTrees_any (v u : Value) (xs ys : List Int) (w : World) (h : RdI w v xs) (h' : RdI w u ys) :
    Calls Try.prog 38 #[v, u] w fun e w' => e = .returned (.tuple #[.int .i64 (compareR xs ys).1, .int .i64 (compareR xs ys).2]) ∧ Below w.heap.size w w' := by
  obtain ⟨ao, cap, rfl⟩ := h.form
  obtain ⟨ao', cap', rfl⟩ := h'.form
  have h0 := hid h
  have h0' := hid h'
  clear h h'
  cases hs : isLev xs with
  | true =>
    have HS := hid hs
    cases hs' : isLev ys with
    | true =>
      have HS' := hid hs'
      have HR : Hid (compareR xs ys = (sgn (cmpT (canon xs) (canon ys)), 0)) := by simp only [Hid, compareR]; rw [if_pos ⟨hs, hs'⟩]
      clear hs hs'
      obtain ⟨c, hc⟩ : ∃ c, c = cmpT (canon xs) (canon ys) := ⟨_, rfl⟩
      have HN : Hid (ltT (canon xs) (canon ys) = decide (c < 0)) := by simp only [Hid]; rw [hc, cmpT_neg]
      have HP : Hid (ltT (canon ys) (canon xs) = decide (0 < c)) := by simp only [Hid]; rw [hc, cmpT_pos]
      rw [← hc] at HR
      clear hc
      rcases sgn_cases c with ⟨e1, e2⟩ | ⟨e1, e2⟩ | ⟨e1, e2⟩
      all_goals
        have HE1 := hid e1
        clear e1
        go_enter Try.func38, Try.ntmps38
        go_wp2_with (first
          | (go_at_call_of 46 (Value.slice ao xs.length cap); refine (l03Is_any _ xs _ h0.out).mono ?_; rintro e w1 ⟨rfl, D1⟩; rw [HS.out]; have B1 := D1.below w.heap.size)
          | (go_at_call 46; refine (l03Is_any _ ys _ (h0'.out.mono B1)).mono ?_; rintro e w2 ⟨rfl, D2⟩; rw [HS'.out]; have B2 := nx B1 (D2.below _))
          | (go_at_call_of 57 (Value.slice ao xs.length cap); refine (l03Canon8 _ xs _ (h0.out.mono B2) HS.out).mono ?_; rintro e w3 ⟨r1, rfl, O1, B3'⟩; have B3 := nx B2 B3')
          | (go_at_call 57; refine (l03Canon8 _ ys _ (h0'.out.mono B3) HS'.out).mono ?_; rintro e w4 ⟨r2, rfl, O2, B4'⟩; have B4 := nx B3 B4'; have O1' := O1.mono B4')
          | (go_at_call 60; (with_reducible refine (l03Before_any r1 r2 (canon xs) (canon ys) _ O1'.rd O2.rd).mono ?_); rintro e w5 ⟨rfl, D5⟩; rw [HN.out]; have B5 := nx B4 (D5.below _))
          | (go_at_call 60; (with_reducible refine (l03Before_any r2 r1 (canon ys) (canon xs) _ (O2.mono (D5.below _)).rd (O1'.mono (D5.below _)).rd).mono ?_); rintro e w6 ⟨rfl, D6⟩; rw [HP.out]; have B6 := nx B5 (D6.below _)))
        go_ret2
        rw [HR.out]
        first | exact ⟨by rw [HE1.out]; rfl, B6⟩ | exact ⟨by rw [HE1.out]; rfl, B5⟩
    | false =>
      have HS' := hid hs'
      have HR : Hid (compareR xs ys = (0, 1)) := by simp [Hid, compareR, hs']
      clear hs hs'
      go_enter Try.func38, Try.ntmps38
      go_wp2_with (first
        | (go_at_call_of 46 (Value.slice ao xs.length cap); refine (l03Is_any _ xs _ h0.out).mono ?_; rintro e w1 ⟨rfl, D1⟩; rw [HS.out]; have B1 := D1.below w.heap.size)
        | (go_at_call 46; refine (l03Is_any _ ys _ (h0'.out.mono B1)).mono ?_; rintro e w2 ⟨rfl, D2⟩; rw [HS'.out]; have B2 := nx B1 (D2.below _)))
      go_ret2
      rw [HR.out]
      exact ⟨rfl, B2⟩
  | false =>
    have HS := hid hs
    have HR : Hid (compareR xs ys = (0, 1)) := by simp [Hid, compareR, hs]
    clear hs
    go_enter Try.func38, Try.ntmps38
    go_wp2_with (go_at_call 46; refine (l03Is_any _ xs _ h0.out).mono ?_; rintro e w1 ⟨rfl, D1⟩; rw [HS.out])
    go_ret2
    rw [HR.out]
    exact ⟨rfl, D1.below _⟩
end Go.Proofs.Ytoiangfookhfdaa
