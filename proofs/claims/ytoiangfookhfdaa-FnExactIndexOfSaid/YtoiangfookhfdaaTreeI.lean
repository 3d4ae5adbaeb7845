/-
  The walks of the index of a tree.
-/
import Derived.Test.YtoiangfookhfdaaTreeA
import Derived.Shelf.SlCmpFuncs.BinarySearchFunc
namespace Go.Proofs.Ytoiangfookhfdaa
open Go.RowKit Go.Shelf Go.Sort
set_option maxRecDepth 100000
def searchRen : Go.Shelf.Ren := ⟨fun | 14 => 85 | n => n, fun | 0 => 0 | 3 => 3 | 4 => 4 | 22 => 28 | 24 => 22 | 29 => 22 | 32 => 45 | 35 => 58 | n => n, fun n => n⟩
theorem searchLay : SlLaysG2.n14 Try.prog searchRen :=
  { mixed := by kernel_rfl
    f14 := ⟨Try.f85.name, by kernel_rfl, Try.func85.trans (congrArg some (by kernel_rfl))⟩
    t0 := Try.underlying0
    a0 := Try.isAgg0
    z0 := Try.sizeOf0
    v0 := Try.zeroValue0
    t3 := Try.underlying3
    a3 := Try.isAgg3
    z3 := Try.sizeOf3
    v3 := Try.zeroValue3
    t4 := Try.underlying4
    a4 := Try.isAgg4
    z4 := Try.sizeOf4
    v4 := Try.zeroValue4
    t22 := Try.underlying28
    a22 := Try.isAgg28
    z22 := Try.sizeOf28
    v22 := Try.zeroValue28
    a24 := Try.isAgg22
    z24 := Try.sizeOf22
    a29 := Try.isAgg22
    z29 := Try.sizeOf22
    t32 := Try.underlying45
    a32 := Try.isAgg45
    z32 := Try.sizeOf45
    v32 := Try.zeroValue45
    t35 := Try.underlying58
    a35 := Try.isAgg58
    z35 := Try.sizeOf58
    v35 := Try.zeroValue58 }
/-- How many lists of a list come ahead of one. -/
def cntT (l : List (List Int)) (t : List Int) : Nat := l.countP fun x => ltT x t
/-- The place of a list in an ascending list of lists, or -1. -/
def findR (l : List (List Int)) (t : List Int) : Int := if t ∈ l then (cntT l t : Int) else -1
theorem cntT_at (l : List (List Int)) (t : List Int) (ha : l.Pairwise fun a b => ltT a b = true) (j : Nat) (hj : j < l.length) (he : rowAt l j = t) : cntT l t = j := by
  induction l generalizing j with
  | nil => simp at hj
  | cons a r ih =>
    rw [List.pairwise_cons] at ha
    cases j with
    | zero =>
      obtain rfl : a = t := he
      unfold cntT
      rw [List.countP_cons, List.countP_eq_zero.2 (fun x hx => by rw [ltT_asymm _ _ (ha.1 x hx)]; simp), ltT_irrefl]; rfl
    | succ j =>
      have hj' : j < r.length := by simpa using hj
      have he' : rowAt r j = t := he
      have h1 := ih ha.2 j hj' he'
      have h2 := ha.1 t (by rw [← he']; exact rowAt_mem r j hj')
      unfold cntT at h1 ⊢
      rw [List.countP_cons, h1, h2]; rfl
theorem findR_at (l : List (List Int)) (t : List Int) (ha : l.Pairwise fun a b => ltT a b = true) (j : Nat) (hj : j < l.length) (he : rowAt l j = t) : findR l t = j := by
  rw [findR, if_pos (by rw [← he]; exact rowAt_mem l j hj), cntT_at l t ha j hj he]
theorem findR_none (l : List (List Int)) (t : List Int) (h : ∀ j, j < l.length → rowAt l j ≠ t) : findR l t = -1 := by
  rw [findR, if_neg]
  intro hm
  obtain ⟨j, hj, he⟩ := List.getElem_of_mem hm
  exact h j hj (by rw [← rowAt_at l j hj]; exact he)
/-- What a search leaves. -/
def Found (zss : List (List Int)) (t : List Int) (w : World) (e : Ending) (w' : World) : Prop :=
  ∃ b : Bool, e = .returned (.tuple #[.int .i64 (cntT zss t : Nat), .bool b]) ∧ (b = true ↔ cntT zss t < zss.length ∧ rowAt zss (cntT zss t) = t) ∧ Below w.heap.size w w'
theorem search_any (base g cap : Nat) (us : List Value) (zss : List (List Int)) (tv : Value) (t : List Int) (w : World) (h : Own2 base w (.slice (some ⟨g, 0, none⟩) zss.length cap) us zss) (ht : RdI w tv t) (hp : Parted tv (.slice (some ⟨g, 0, none⟩) zss.length cap))
    (ha : zss.Pairwise fun a b => ltT a b = true) :
    Calls Try.prog 85 #[.slice (some ⟨g, 0, none⟩) zss.length cap, tv, .func (.func 62) #[] #[]] w (Found zss t w) := by
  have hd := rowsOf_size h
  have hlim := h.lim
  have hgl := h.glt.2
  have hH : Holds sEnc w g 0 (rowsOf h) := fun j hj => by
    rw [hd] at hj
    rw [Nat.zero_add, h.cell j hj, h.free j]
    refine ⟨?_, rfl⟩
    rw [getElem!_pos _ j (by rw [hd]; exact hj), rowsOf_get h j hj]; rfl
  have rdS : ∀ (u : Value) (zs : List Int) (m : Nat) (dk : Array (SRow base w (.slice (some ⟨g, 0, none⟩) zss.length cap))) (os : Array Obj), RdI w u zs → Parted u (.slice (some ⟨g, 0, none⟩) zss.length cap) → RdI (sortWorld sEnc w g 0 m dk os) u zs := fun u zs m dk os hu hpu => by
    obtain ⟨ao, c, e1, e2, e3, e4⟩ := hu
    refine ⟨ao, c, e1, e2, e3, fun j hj => ?_⟩
    obtain ⟨b, off, f1, f2⟩ := e4 j hj
    refine ⟨b, off, f1, ?_⟩
    have hb := World.block_lt_of_cell? w _ f2
    have hne : b ≠ g := fun e => hpu b (by rw [e1, f1]; rfl) (by rw [e]; rfl)
    unfold sortWorld
    rw [cell?_grow _ _ _ (by simpa using hb), cell?_putRow_other _ _ _ _ _ _ (.inl hne)]
    exact f2
  have hcmp : CmpLaysT Try.prog 62 #[] sEnc tv (fun x : SRow base w (.slice (some ⟨g, 0, none⟩) zss.length cap) => cmpT (sLst x) t) g 0 (rowsOf h).size w := fun m os dk hdk x => by
    have hc' := compareTrees_any (sEnc x) tv (sLst x) t (sortWorld sEnc w g 0 m dk os) (rdS _ _ m dk os x.2.1.rd x.2.2) (rdS _ _ m dk os ht hp)
    rw [Array.append_empty]
    exact hc'.mono fun e w' ⟨he, hw⟩ => ⟨he, 0, #[], by rw [← hw, grow_empty]; rfl⟩
  have hmono : ∀ a b, a ≤ b → b < (rowsOf h).size → cmpT (sLst (rowsOf h)[b]!) t < 0 → cmpT (sLst (rowsOf h)[a]!) t < 0 := fun a b hab hb hlt => by
    rw [hd] at hb
    rcases Nat.lt_or_ge a b with hl | hl
    · rw [getElem!_pos _ b (by rw [hd]; exact hb), rowsOf_get h b hb] at hlt
      rw [getElem!_pos _ a (by rw [hd]; omega), rowsOf_get h a (by omega)]
      have h1 := (List.pairwise_iff_getElem.1 ha) a b (by omega) hb hl
      rw [rowAt_at zss a (by omega), rowAt_at zss b hb] at h1
      have h2 : ltT (rowAt zss b) t = true := by rw [← cmpT_neg]; exact decide_eq_true hlt
      have h3 := ltT_trans _ _ _ h1 h2
      rw [← cmpT_neg, decide_eq_true_iff] at h3
      exact h3
    · obtain rfl : a = b := by omega
      exact hlt
  have hcon := Any.slices_BinarySearchFunc searchLay sEnc sEnc_one tv (fun x : SRow base w (.slice (some ⟨g, 0, none⟩) zss.length cap) => cmpT (sLst x) t) 62 #[] g 0 cap (rowsOf h) w (enters_of Try.func62 (by kernel_rfl) rfl) hcmp hH hgl (by omega) hmono
  have hcnt : (rowsOf h).toList.countP (fun x => decide (cmpT (sLst x) t < 0)) = cntT zss t := by
    unfold cntT
    have e := rowsOf_lst h
    conv => rhs; rw [← e]
    rw [List.countP_map]
    congr 1
    funext x
    exact cmpT_neg _ _
  rw [hcnt, hd] at hcon
  refine hcon.mono fun e w' ⟨he, hw⟩ => ?_
  refine ⟨_, he, ?_, ?_⟩
  · rw [Bool.and_eq_true, decide_eq_true_iff, decide_eq_true_iff]
    constructor
    · rintro ⟨h1, h2⟩
      refine ⟨h1, ?_⟩
      rw [getElem!_pos _ _ (by rw [hd]; exact h1), rowsOf_get h _ h1] at h2
      have h3 : cmpT (rowAt zss (cntT zss t)) t = 0 := h2
      apply ltT_tri
      · rw [← cmpT_neg, h3]; rfl
      · rw [← cmpT_pos, h3]; rfl
    · rintro ⟨h1, h2⟩
      refine ⟨h1, ?_⟩
      rw [getElem!_pos _ _ (by rw [hd]; exact h1), rowsOf_get h _ h1]
      show cmpT (rowAt zss (cntT zss t)) t = 0
      rw [h2, cmpT, if_pos rfl, cmpL_zero]
  · obtain ⟨n, os, rfl⟩ := hw
    unfold sortWorld
    rw [putRow_self sEnc (Sort.ahead w n) g 0 (rowsOf h) (holds_ahead sEnc w n g 0 (rowsOf h) hH)]
    exact ⟨rfl, rfl, rfl, by simp, fun i hi => heap_grow_old (Sort.ahead w n) os hi⟩
theorem indexIn_any (base g cap : Nat) (us : List Value) (zss : List (List Int)) (tv : Value) (t : List Int) (w : World) (h : Own2 base w (.slice (some ⟨g, 0, none⟩) zss.length cap) us zss) (ht : RdI w tv t) (hp : Parted tv (.slice (some ⟨g, 0, none⟩) zss.length cap))
    (ha : zss.Pairwise fun a b => ltT a b = true) :
    Calls Try.prog 70 #[.slice (some ⟨g, 0, none⟩) zss.length cap, tv] w fun e w' => e = .returned (.int .i64 (findR zss t)) ∧ Below w.heap.size w w' := by
  have HS := hid (search_any base g cap us zss tv t w h ht hp ha)
  have HA := hid ha
  clear h ht hp ha
  go_enter Try.func70, Try.ntmps70
  go_wp2_with fail
  refine HS.out.mono ?_
  rintro e w' ⟨b, rfl, hb, B⟩
  have HB := hid hb
  clear hb
  cases b with
  | true =>
    go_wp2
    go_ret
    have h1 := HB.out.1 trivial
    exact ⟨by rw [findR_at zss t HA.out _ h1.1 h1.2]; rfl, B⟩
  | false =>
    go_wp2
    go_ret
    have hN : findR zss t = -1 := findR_none zss t fun j hj he => by
      have := cntT_at zss t HA.out j hj he
      have h2 := HB.out.2 ⟨by rw [this]; exact hj, by rw [this]; exact he⟩
      exact Bool.noConfusion h2
    exact ⟨by rw [hN]; rfl, B⟩
theorem l03Find_any (v tv : Value) (zss : List (List Int)) (t : List Int) (w : World) (h : RdII w v zss) (ht : RdI w tv t) (ha : zss.Pairwise fun a b => ltT a b = true) :
    Calls Try.prog 68 #[v, tv] w fun e w' => e = .returned (.int .i64 (findR zss t)) ∧ Dr w w' := by
  have H := hid h
  have HT := hid ht
  have HA := hid ha
  obtain ⟨ao, cap, vs, rfl, hcap, hmax, -⟩ := h
  clear ht ha
  go_enter Try.func68, Try.ntmps68
  go_wp2
  go_loopw [5] (fun i wr => ∃ k : Nat, k ≤ zss.length ∧ i = .int .i64 k ∧ Hid (∀ j, j < k → rowAt zss j ≠ t) ∧ Dr w wr) (fun i _ => zss.length - (intOf i).toNat)
  case atStart => exact ⟨0, Nat.zero_le _, rfl, fun j hj => by omega, Dr.refl _⟩
  case round =>
    obtain ⟨k, hk, rfl, HS, hdr⟩ := hrel
    by_cases hlt : k < zss.length
    · obtain ⟨b, off, u, rfl, hcell, hu⟩ := (H.out.dr hdr).at_ hlt
      have HU := hid hu
      have HD := hid hdr
      have HTd := hid (HT.out.dr hdr)
      clear hu hdr
      cases hs : sameL (rowAt zss k) t with
      | true =>
        have HE : Hid (rowAt zss k = t) := by simpa [sameL, Hid] using hs
        have HSM := hid hs
        clear hs
        go_wp2_with (go_at_call 56; refine (l01Same_any _ _ (rowAt zss k) t _ HU.out HTd.out).mono ?_; rintro e wy ⟨rfl, D⟩; rw [HSM.out])
        go_ret
        exact ⟨by rw [findR_at zss t HA.out k hlt HE.out]; rfl, HD.out.trans D⟩
      | false =>
        have HE : Hid (rowAt zss k ≠ t) := by simpa [sameL, Hid] using hs
        have HSM := hid hs
        clear hs
        go_wp2_with (go_at_call 56; refine (l01Same_any _ _ (rowAt zss k) t _ HU.out HTd.out).mono ?_; rintro e wy ⟨rfl, D⟩; rw [HSM.out])
        go_roundw
        case rel =>
          refine ⟨k + 1, by omega, by go_num, fun j hj => ?_, HD.out.trans D⟩
          by_cases hjk : j = k
          · rw [hjk]; exact HE.out
          · exact HS.out j (by omega)
        case measure => simp [intOf]; omega
    · obtain rfl : k = zss.length := by omega
      go_wp2
      go_ret
      exact ⟨by rw [findR_none zss t HS.out]; rfl, hdr⟩
def indexR (zs : List Int) : Int × Int := if isLev zs = true then (findR (allT zs.length) (canon zs), 0) else (0, 1)
theorem allT_pos (n : Nat) (h : 1 ≤ n) : 0 < (allT n).length := by
  obtain ⟨r, hr⟩ := allT_prefix 1 n h
  have : 0 < (allT 1).length := by decide +kernel
  rw [hr, List.length_append]; omega
theorem indexOf_any (v : Value) (zs : List Int) (w : World) (h : RdI w v zs) :
    Calls Try.prog 45 #[v] w fun e w' => e = .returned (.tuple #[.int .i64 (indexR zs).1, .int .i64 (indexR zs).2]) ∧ Below w.heap.size w w' := by
  have H := hid h
  obtain ⟨ao, cap, rfl⟩ := h.form
  cases hs : isLev zs with
  | true =>
    have HS := hid hs
    have HL := isLev_IsL hs
    have h8 := HL.2
    have h1 := HL.1.1
    have HR : Hid (indexR zs = (findR (allT zs.length) (canon zs), 0)) := by simp only [Hid, indexR]; rw [if_pos hs]
    have hp := allT_pos zs.length h1
    have HASC := hid (allT_asc zs.length h8)
    obtain ⟨A, hA⟩ : ∃ A, A = allT zs.length := ⟨_, rfl⟩
    have HT := hid (fun w => treesTo_any zs.length h8 w)
    rw [← hA] at HR hp HASC HT
    clear hs hA HL h
    go_enter Try.func45, Try.ntmps45
    go_wp2_with (first
      | (go_at_call 17; refine (isLevels_any _ zs _ H.out).mono ?_; rintro e w' ⟨rfl, rfl⟩; rw [HS.out])
      | (go_at_call 55; refine (HT.out _).mono ?_; rintro e w1 ⟨r, rfl, ⟨us, O⟩, B⟩; obtain ⟨ao1, cap1, rfl⟩ := O.form; obtain ⟨g, rfl⟩ := O.addr hp)
      | (go_at_call 59; refine (canonical8 _ zs _ (H.out.mono B) HS.out).mono ?_; rintro e w2 ⟨r2, rfl, O2, B2⟩)
      | (go_at_call 70; refine (indexIn_any w.heap.size g cap1 us A r2 (canon zs) _ (O.mono B2) O2.rd (parted_lt w1.heap.size (fun b hb => (O2.own_lt b hb).1) (fun b hb => (O.lt b hb).2)) HASC.out).mono ?_; rintro e w3 ⟨rfl, B3⟩))
    go_ret2
    exact ⟨by rw [HR.out]; rfl, nx (nx B B2) B3⟩
  | false =>
    have HS := hid hs
    have HR : Hid (indexR zs = (0, 1)) := by simp [Hid, indexR, hs]
    clear hs h
    go_enter Try.func45, Try.ntmps45
    go_wp2_with (go_at_call 17; refine (isLevels_any _ zs _ H.out).mono ?_; rintro e w' ⟨rfl, rfl⟩; rw [HS.out])
    go_ret2
    exact ⟨by rw [HR.out]; rfl, Below.refl _ _⟩
theorem sIndexOf_any (v : Value) (zs : List Int) (w : World) (h : RdI w v zs) :
    Calls Try.prog 44 #[v] w fun e w' => e = .returned (.tuple #[.int .i64 (indexR zs).1, .int .i64 (indexR zs).2]) ∧ Below w.heap.size w w' := by
  have H := hid h
  obtain ⟨ao, cap, rfl⟩ := h.form
  cases hs : isLev zs with
  | true =>
    have HS := hid hs
    have HL := isLev_IsL hs
    have h8 := HL.2
    have h1 := HL.1.1
    have HR : Hid (indexR zs = (findR (allT zs.length) (canon zs), 0)) := by simp only [Hid, indexR]; rw [if_pos hs]
    have HASC := hid (allT_asc zs.length h8)
    obtain ⟨A, hA⟩ : ∃ A, A = allT zs.length := ⟨_, rfl⟩
    have HT := hid (fun w => l03All_any zs.length h8 w)
    rw [← hA] at HR HASC HT
    clear hs hA HL h
    go_enter Try.func44, Try.ntmps44
    go_wp2_with (first
      | (go_at_call 46; refine (l03Is_any _ zs _ H.out).mono ?_; rintro e w0 ⟨rfl, D0⟩; rw [HS.out]; have B0 := D0.below w.heap.size)
      | (go_at_call 69; refine (HT.out _).mono ?_; rintro e w1 ⟨r, rfl, ⟨us, O⟩, B⟩)
      | (go_at_call 57; refine (l03Canon8 _ zs _ (H.out.mono (nx B0 B)) HS.out).mono ?_; rintro e w2 ⟨r2, rfl, O2, B2⟩)
      | (go_at_call 68; refine (l03Find_any r r2 A (canon zs) _ (O.mono B2).rd O2.rd HASC.out).mono ?_; rintro e w3 ⟨rfl, D3⟩))
    go_ret2
    exact ⟨by rw [HR.out]; rfl, nx (nx (nx B0 B) B2) (D3.below _)⟩
  | false =>
    have HS := hid hs
    have HR : Hid (indexR zs = (0, 1)) := by simp [Hid, indexR, hs]
    clear hs h
    go_enter Try.func44, Try.ntmps44
    go_wp2_with (go_at_call 46; refine (l03Is_any _ zs _ H.out).mono ?_; rintro e w' ⟨rfl, D⟩; rw [HS.out])
    go_ret2
    exact ⟨by rw [HR.out]; rfl, D.below _⟩
end Go.Proofs.Ytoiangfookhfdaa
