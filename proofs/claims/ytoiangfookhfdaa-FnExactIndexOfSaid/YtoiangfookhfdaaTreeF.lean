/-
  The walks of forests of branches, and of the symmetry of trees.
-/
import Derived.Test.YtoiangfookhfdaaTreeX
import Derived.Test.YtoiangfookhfdaaOwn
import Derived.WalkSpells
namespace Go.Proofs.Ytoiangfookhfdaa
open Go.RowKit
set_option maxRecDepth 100000
theorem clone_any (v : Value) (zs : List Int) (w : World) (h : RdI w v zs) (h0 : 0 < zs.length) :
    Calls Try.prog 74 #[v] w fun e w' => ∃ r, e = .returned r ∧ OwnI w.heap.size w' r zs ∧ Below w.heap.size w w' := by
  have hl := h.lim
  have H := hid h
  obtain ⟨ao, cap, rfl⟩ := h.form
  obtain ⟨b, off, rfl, -⟩ := H.out.at_ h0
  have hq := @Lib.run_eql_slice_nil Try.prog
  clear h
  go_enter Try.func74, Try.ntmps74
  go_wp2_with (at_builtin; refine wpl_appAll rfl _ _ _ rfl Try.underlying22 info_i64 rfl (OwnI.lit w w.heap.size (Nat.le_refl _)) _ _ _ rfl (H.out.mono (below_alloc _ _)) h0 (by simpa using hl) (by simp) ?_; intro v' W1 O1 G1 B1)
  go_ret
  exact ⟨_, rfl, by simpa using O1, (below_alloc _ _).trans B1⟩
theorem cloneRows_any (v : Value) (zss : List (List Int)) (w : World) (h : RdII w v zss) (hp : ∀ z ∈ zss, 0 < z.length) :
    Calls Try.prog 83 #[v] w fun e w' => ∃ r, e = .returned r ∧ OwnII w.heap.size w' r zss ∧ Below w.heap.size w w' := by
  have H := hid h
  have HP := hid hp
  obtain ⟨ao, cap, vs, rfl, hcap, hmax, -⟩ := h
  clear hp
  go_enter Try.func83, Try.ntmps83
  go_wp2
  go_loopw [3, 9] (fun r i wr => ∃ (k : Nat) (us : List Value), k ≤ zss.length ∧ i = .int .i64 k ∧ Own2 w.heap.size wr r us (zss.take k) ∧ Below w.heap.size w wr) (fun _ i _ => zss.length - (intOf i).toNat)
  case atStart => exact ⟨0, [], Nat.zero_le _, rfl, Own2.litAt (by simp) (by omega), below_alloc _ _⟩
  case round =>
    obtain ⟨k, us, hk, rfl, O, Bl⟩ := hrel
    by_cases hlt : k < zss.length
    · obtain ⟨b, off, u, rfl, hcell, hu⟩ := (H.out.mono Bl).at_ hlt
      have HU := hid hu
      have hp := HP.out _ (rowAt_mem zss k hlt)
      clear hu
      have ht : (zss.take k).length = k := by simp; omega
      have ht1 : (zss.take k).length < 1048576 := by omega
      have HT := hid ht
      have hmem : Hid (∀ x ∈ us, ∀ b, x.ownBlock = some b → b < wr.heap.size) := fun x hx b hb => (O.mem_lt x hx b hb).2
      clear ht
      go_wp2_with (first
        | (go_at_call 74; refine (clone_any _ (rowAt zss k) _ HU.out hp).mono ?_; rintro e w2 ⟨r2, rfl, O2, B2⟩; obtain ⟨ao2, cap2, rfl⟩ := O2.form; have OB := O.mono B2; have bw2 := B2.size; have bw0 := Bl.size)
        | (at_builtin; refine wpl_app2 (v := u3) (u := .slice ao2 (rowAt zss k).length cap2) rfl _ _ _ rfl Try.underlying28 info_ii rfl (OB.mono (below_alloc _ _)) ⟨w2.heap.size, 0, none⟩ 1 (rowAt zss k) rfl (cell_new1 _ _ _) ((O2.lower bw0).mono (below_alloc _ _)) (parted_lt wr.heap.size (fun b hb => (O2.own_lt b hb).1) (fun b hb => (O.lt b hb).2)) (fun j hj => parted_lt wr.heap.size (fun b hb => (O2.own_lt b hb).1) (fun b hb => hmem.out _ (by rw [← vat_at us j hj]; exact List.getElem_mem hj) b hb)) ht1 (by simp; omega) ?_; intro v' W1 O4 G4 B4 P4; clear G4 P4; have B5 := (((nx Bl B2).alloc (Nat.le_trans bw0 bw2) (.cells #[.slice ao2 (rowAt zss k).length cap2] 22)).trans B4)))
      rw [← rowAt_at zss k hlt, ← List.take_succ_eq_append_getElem hlt] at O4
      go_roundw
      case rel => exact ⟨k + 1, _, by omega, by go_num, O4, B5⟩
      case measure => simp [intOf]; omega
    · go_wp2
      go_ret
      obtain rfl : k = zss.length := by omega
      rw [List.take_length] at O
      exact ⟨_, rfl, ⟨us, O⟩, Bl⟩
theorem sortT_call (base : Nat) (v : Value) (us : List Value) (zss : List (List Int)) (w : World) (h : Own2 base w v us zss) (h12 : zss.length ≤ 12) :
    Calls Try.prog 84 #[v, .func (.func 62) #[] #[]] w (Sorted2 base w v (sortT zss)) :=
  sortStableFunc_any 62 cmpT ltT cmpT_neg ltT_asymm ltT_ntrans ltT_tri
    (enters_of Try.func62 (by kernel_rfl) rfl) (fun v u xs ys W h h' => compareTrees_any v u xs ys W h h') base v us zss w h h12
theorem forestOf_any (v : Value) (zss : List (List Int)) (w : World) (h : RdII w v zss) (hp : ∀ z ∈ zss, 0 < z.length) (h12 : zss.length ≤ 12) :
    Calls Try.prog 64 #[v] w fun e w' => ∃ r, e = .returned r ∧ OwnII w.heap.size w' r (sortT zss) ∧ Below w.heap.size w w' := by
  go_enter Try.func64, Try.ntmps64
  go_wp2_with fail
  refine (cloneRows_any _ zss _ h hp).mono ?_; rintro e w1 ⟨r, rfl, ⟨us, O⟩, B⟩
  go_wp2_with fail
  refine (sortT_call _ _ _ zss _ O h12).mono ?_; rintro e w2 ⟨rfl, us2, O2, G2⟩
  have B2 := B.grown G2 B.size (fun b hb => (O.lt b hb).1)
  go_wp2
  go_ret
  exact ⟨_, rfl, ⟨us2, O2⟩, B2⟩
def branR (zs : List Int) : List (List Int) × Int := if isLev zs = true then (sortT (parts (canon zs)), 0) else ([], 1)
theorem canon_IsL {zs : List Int} (h : isLev zs = true) : IsL (canon zs) ∧ (canon zs).length = zs.length :=
  ⟨(canonF_IsL 8 zs (isLev_IsL h).1).1, (canonF_IsL 8 zs (isLev_IsL h).1).2 (isLev_IsL h).2⟩
theorem branchesOfE_any (v : Value) (zs : List Int) (w : World) (h : RdI w v zs) :
    Calls Try.prog 41 #[v] w fun e w' => ∃ r, e = .returned (.tuple #[r, .int .i64 (branR zs).2]) ∧ OwnII w.heap.size w' r (branR zs).1 ∧ Below w.heap.size w w' := by
  obtain ⟨ao, cap, rfl⟩ := h.form
  cases hs : isLev zs with
  | true =>
    have HS := hid hs
    have HR : Hid (branR zs = (sortT (parts (canon zs)), 0)) := by simp [Hid, branR, hs]
    have HC := hid (canon_IsL hs)
    have h8 := (isLev_IsL hs).2
    have hpl := parts_len HC.out.1
    have hpl2 : (parts (canon zs)).length ≤ 12 := by have := HC.out.2; omega
    have h0 := hid h
    clear hs h hpl
    go_enter Try.func41, Try.ntmps41
    go_wp2_with fail
    refine (isLevels_any _ zs _ h0.out).mono ?_; rintro e w' ⟨rfl, rfl⟩; rw [HS.out]
    go_wp2_with fail
    refine (canonical8 _ zs _ h0.out HS.out).mono ?_; rintro e w1 ⟨r1, rfl, O1, B1⟩
    go_wp2_with fail
    refine (branchesOf_any _ (canon zs) _ O1.rd HC.out.1).mono ?_; rintro e w2 ⟨r2, rfl, ⟨us2, O2⟩, B2⟩
    go_wp2_with fail
    refine (forestOf_any _ _ _ O2.rd (fun z hz => (parts_IsL HC.out.1 z hz).1.1) hpl2).mono ?_; rintro e w3 ⟨r3, rfl, ⟨us3, O3⟩, B3⟩
    go_wp2
    go_ret2
    rw [HR.out]
    exact ⟨_, rfl, ⟨us3, O3.lower (Nat.le_trans B1.size B2.size)⟩, nx (nx B1 B2) B3⟩
  | false =>
    have HS := hid hs
    have HR : Hid (branR zs = ([], 1)) := by simp [Hid, branR, hs]
    clear hs
    go_enter Try.func41, Try.ntmps41
    go_wp2_with fail
    refine (isLevels_any _ zs _ h).mono ?_; rintro e w' ⟨rfl, rfl⟩; rw [HS.out]
    go_wp2
    go_ret2
    rw [HR.out]
    exact ⟨_, rfl, ⟨[], Own2.nil _ _⟩, Below.refl _ _⟩
end Go.Proofs.Ytoiangfookhfdaa
