/-
  The walks of copies of lists and of rows.
-/
import Derived.Test.YtmhcpaffdchboaaMem2
import Derived.Test.YtmhcpaffdchboaaOwn
import Derived.WalkSpells
namespace Go.Proofs.Ytmhcpaffdchboaa
open Go.RowKit
set_option maxRecDepth 100000
theorem info_cl : (Try.prog.info? 32).map (fun i => (i.zero, i.size, i.bytes)) = some (some (.slice none 0 0), 1, 24) := by kernel_rfl
theorem rowAt_in (zss : List (List Int)) (k : Nat) (h : k < zss.length) : rowAt zss k ∈ zss := by rw [← rowAt_at zss k h]; exact List.getElem_mem h
theorem RdI.lim' {w : World} {v : Value} {zs : List Int} (h : RdI w v zs) : zs.length ≤ 1048576 := by obtain ⟨_, _, _, _, h, _⟩ := h; exact h
theorem clone_any (v : Value) (zs : List Int) (w : World) (h : RdI w v zs) (h0 : 0 < zs.length) :
    Calls Try.prog 71 #[v] w fun e w' => ∃ r, e = .returned r ∧ OwnI w.heap.size w' r zs ∧ Below w.heap.size w w' := by
  have hl := h.lim'
  have H := hid h
  obtain ⟨ao, cap, rfl⟩ := h.form
  obtain ⟨b, off, rfl, -⟩ := H.out.at_ h0
  have hq := @Lib.run_eql_slice_nil Try.prog
  clear h
  go_enter Try.func71, Try.ntmps71
  go_wp2_with (at_builtin; refine wpl_appAll rfl _ _ _ rfl Try.underlying32 info_i64 rfl (OwnI.lit w w.heap.size (Nat.le_refl _)) _ _ _ rfl (H.out.mono (below_alloc _ _)) h0 (by simpa using hl) (by simp) ?_; intro v' W1 O1 G1 B1)
  go_ret
  exact ⟨_, rfl, by simpa using O1, (below_alloc _ _).trans B1⟩
theorem cloneRows_any (v : Value) (zss : List (List Int)) (w : World) (h : RdII w v zss) (hp : ∀ z ∈ zss, 0 < z.length) :
    Calls Try.prog 82 #[v] w fun e w' => ∃ r, e = .returned r ∧ OwnII w.heap.size w' r zss ∧ Below w.heap.size w w' := by
  have H := hid h
  have HP := hid hp
  obtain ⟨ao, cap, vs, rfl, hcap, hmax, -⟩ := h
  clear hp
  go_enter Try.func82, Try.ntmps82
  go_wp2
  go_loopw [3, 9] (fun r i wr => ∃ (k : Nat) (us : List Value), k ≤ zss.length ∧ i = .int .i64 k ∧ Own2 w.heap.size wr r us (zss.take k) ∧ Below w.heap.size w wr) (fun _ i _ => zss.length - (intOf i).toNat)
  case atStart => exact ⟨0, [], Nat.zero_le _, rfl, Own2.litAt (by simp) (by omega), below_alloc _ _⟩
  case round =>
    obtain ⟨k, us, hk, rfl, O, Bl⟩ := hrel
    by_cases hlt : k < zss.length
    · obtain ⟨b, off, u, rfl, hcell, hu⟩ := (H.out.mono Bl).at_ hlt
      have HU := hid hu
      have hp := HP.out _ (rowAt_in zss k hlt)
      clear hu
      have ht : (zss.take k).length = k := by simp; omega
      have ht1 : (zss.take k).length < 1048576 := by omega
      have HT := hid ht
      have hmem : Hid (∀ x ∈ us, ∀ b, x.ownBlock = some b → b < wr.heap.size) := fun x hx b hb => (O.mem_lt x hx b hb).2
      clear ht
      go_wp2_with (first
        | (go_at_call 71; refine (clone_any _ (rowAt zss k) _ HU.out hp).mono ?_; rintro e w2 ⟨r2, rfl, O2, B2⟩; obtain ⟨ao2, cap2, rfl⟩ := O2.form; have OB := O.mono B2; have bw2 := B2.size; have bw0 := Bl.size)
        | (at_builtin; refine wpl_app2 (v := u3) (u := .slice ao2 (rowAt zss k).length cap2) rfl _ _ _ rfl Try.underlying22 info_cl rfl (OB.mono (below_alloc _ _)) ⟨w2.heap.size, 0, none⟩ 1 (rowAt zss k) rfl (cell_new1 _ _ _) ((O2.lower bw0).mono (below_alloc _ _)) (parted_lt wr.heap.size (fun b hb => (O2.own_lt b hb).1) (fun b hb => (O.lt b hb).2)) (fun j hj => parted_lt wr.heap.size (fun b hb => (O2.own_lt b hb).1) (fun b hb => hmem.out _ (by rw [← vat_at us j hj]; exact List.getElem_mem hj) b hb)) ht1 (by simp; omega) ?_; intro v' W1 O4 G4 B4 P4; clear G4 P4; have B5 := (((nx Bl B2).alloc (Nat.le_trans bw0 bw2) (.cells #[.slice ao2 (rowAt zss k).length cap2] 32)).trans B4)))
      rw [← rowAt_at zss k hlt, ← List.take_succ_eq_append_getElem hlt] at O4
      go_roundw
      case rel => exact ⟨k + 1, _, by omega, by go_num, O4, B5⟩
      case measure => simp [intOf]; omega
    · go_wp2
      go_ret
      obtain rfl : k = zss.length := by omega
      rw [List.take_length] at O
      exact ⟨_, rfl, ⟨us, O⟩, Bl⟩
theorem l01Own2_any (v : Value) (zss : List (List Int)) (w : World) (h : RdII w v zss) (hp : ∀ z ∈ zss, 0 < z.length) :
    Calls Try.prog 48 #[v] w fun e w' => ∃ r, e = .returned r ∧ OwnII w.heap.size w' r zss ∧ Below w.heap.size w w' := by
  have H := hid h
  have HP := hid hp
  obtain ⟨ao, cap, vs, rfl, hcap, hmax, -⟩ := h
  clear hp
  go_enter Try.func48, Try.ntmps48
  go_wp2
  go_loopw [3, 4] (fun r i wr => ∃ (k : Nat) (us : List Value), k ≤ zss.length ∧ i = .int .i64 k ∧ Own2 w.heap.size wr r us (zss.take k) ∧ Below w.heap.size w wr) (fun _ i _ => zss.length - (intOf i).toNat)
  case atStart => exact ⟨0, [], Nat.zero_le _, rfl, Own2.litAt (by simp) (by omega), below_alloc _ _⟩
  case round =>
    obtain ⟨k, us, hk, rfl, O, Bl⟩ := hrel
    by_cases hlt : k < zss.length
    · obtain ⟨b, off, u, rfl, hcell, hu⟩ := (H.out.mono Bl).at_ hlt
      have HU := hid hu
      have hp := HP.out _ (rowAt_in zss k hlt)
      clear hu
      have ht : (zss.take k).length = k := by simp; omega
      have ht1 : (zss.take k).length < 1048576 := by omega
      have HT := hid ht
      have hmem : Hid (∀ x ∈ us, ∀ b, x.ownBlock = some b → b < wr.heap.size) := fun x hx b hb => (O.mem_lt x hx b hb).2
      clear ht
      go_wp2_with (first
        | (go_at_call 46; refine (l01Own_any _ (rowAt zss k) _ HU.out hp).mono ?_; rintro e w2 ⟨r2, rfl, O2, B2⟩; obtain ⟨ao2, cap2, rfl⟩ := O2.form; have OB := O.mono B2; have bw2 := B2.size; have bw0 := Bl.size)
        | (at_builtin; refine wpl_app2 (v := u3) (u := .slice ao2 (rowAt zss k).length cap2) rfl _ _ _ rfl Try.underlying22 info_cl rfl (OB.mono (below_alloc _ _)) ⟨w2.heap.size, 0, none⟩ 1 (rowAt zss k) rfl (cell_new1 _ _ _) ((O2.lower bw0).mono (below_alloc _ _)) (parted_lt wr.heap.size (fun b hb => (O2.own_lt b hb).1) (fun b hb => (O.lt b hb).2)) (fun j hj => parted_lt wr.heap.size (fun b hb => (O2.own_lt b hb).1) (fun b hb => hmem.out _ (by rw [← vat_at us j hj]; exact List.getElem_mem hj) b hb)) ht1 (by simp; omega) ?_; intro v' W1 O4 G4 B4 P4; clear G4 P4; have B5 := (((nx Bl B2).alloc (Nat.le_trans bw0 bw2) (.cells #[.slice ao2 (rowAt zss k).length cap2] 32)).trans B4)))
      rw [← rowAt_at zss k hlt, ← List.take_succ_eq_append_getElem hlt] at O4
      go_roundw
      case rel => exact ⟨k + 1, _, by omega, by go_num, O4, B5⟩
      case measure => simp [intOf]; omega
    · go_wp2
      go_ret
      obtain rfl : k = zss.length := by omega
      rw [List.take_length] at O
      exact ⟨_, rfl, ⟨us, O⟩, Bl⟩
end Go.Proofs.Ytmhcpaffdchboaa
