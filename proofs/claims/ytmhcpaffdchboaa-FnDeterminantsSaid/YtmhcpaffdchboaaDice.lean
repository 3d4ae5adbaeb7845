/-
  The dice of the laws: a source of numbers like those of the draws.
-/
import Derived.Test.YtmhcpaffdchboaaSrc
namespace Go.Proofs.Ytmhcpaffdchboaa
open Go.RowKit
set_option maxRecDepth 100000
theorem below_any (b : Nat) (cv : Value) (n : Int) (w : World) (S : Src 65 b cv w) (hn : n ≤ 1000000000) :
    Calls Try.prog 78 #[.pointer (some ⟨b, 0, none⟩), .int .i64 n] w fun e w' => ∃ x : Int, e = .returned (.int .i64 x) ∧ InN n x ∧ Src 65 b cv w' ∧ w.grownBy w' (some b) := by
  have HS := hid S
  by_cases h1 : n < 1
  · go_enter Try.func78, Try.ntmps78
    go_wp2
    go_ret
    exact ⟨0, rfl, ⟨by omega, fun h => by omega, fun _ => rfl⟩, HS.out, grown_refl _ _⟩
  · have h1' : 1 ≤ n := by omega
    clear h1
    obtain ⟨⟨m, ao, cap, rfl, hmc, hm, hcb⟩, i, h, hi, hh0, hh1, hblk⟩ := S
    have hlt := lt_of_block hblk
    have c0 : w.cell? ⟨b, 0, none⟩ = some (.slice ao m cap) := by simp [World.cell?, hblk]
    have c1 : w.cell? ⟨b, 1, none⟩ = some (.int .i64 i) := by simp [World.cell?, hblk]
    have c2 : w.cell? ⟨b, 2, none⟩ = some (.int .u64 h) := by simp [World.cell?, hblk]
    have f1 : w.frozen? ⟨b, 1, none⟩ = false := by simp [World.frozen?, hblk]
    have f2 : w.frozen? ⟨b, 2, none⟩ = false := by simp [World.frozen?, hblk]
    clear hblk
    by_cases hlt2 : i < m
    · obtain ⟨b', off, x, rfl, hb', hx0, hx1, hcx⟩ := hcb i hlt2
      have hcx' : ∀ y, (w.setCell ⟨b, 2, none⟩ y).cell? ⟨b', off + i, none⟩ = some (.int .u8 x) := fun y => (grown_set w b 2 y).cell hcx (fun he => by simp at he; omega)
      clear hcb hcx
      go_enter Try.func78, Try.ntmps78
      go_wp2_with fail
      go_quiet (fail)
      go_wp2_with fail
      go_quiet (fail)
      go_wp2
      go_ret
      refine ⟨_, rfl, ?_, ?_, ?_⟩
      · have hb1 := drawn_bd (IntKind.u64.wrap (IntKind.u64.wrap (h * 6364136223846793005) + 1442695040888963407) / 8589934592)
        rw [IntWalk.wrap64_in (bits _ _ _ _) (by omega), IntWalk.wrap64_in _ (by omega)]
        exact drawn_mod _ _ (by omega) h1'
      · exact ((HS.out.setHash (u64_bd _).1 (u64_bd _).2).drewN _).setAt (k := i + 1) (by omega)
      · exact grown_trans (grown_drewN (grown_set _ _ _ _) _) (grown_set _ _ _ _)
    · clear hcb
      go_enter Try.func78, Try.ntmps78
      go_wp2_with fail
      go_quiet (fail)
      go_wp2
      go_ret
      refine ⟨_, rfl, ?_, ?_, ?_⟩
      · have hb1 := drawn_bd (IntKind.u64.wrap (IntKind.u64.wrap (h * 6364136223846793005) + 1442695040888963407) / 8589934592)
        rw [IntWalk.wrap64_in _ (by omega)]
        exact drawn_mod _ _ (by omega) h1'
      · exact (HS.out.setHash (u64_bd _).1 (u64_bd _).2).drewN _
      · exact grown_drewN (grown_set _ _ _ _) _
theorem roll_any (cv : Value) (n : Nat) (seed : Int) (w : World) (h : RdB w.heap.size w cv n) (hs0 : 0 ≤ seed) (hs1 : seed ≤ 1000000) :
    Calls Try.prog 28 #[cv, .int .u64 seed] w fun e w' => e = .returned (.pointer (some ⟨w.heap.size, 0, none⟩)) ∧ Src 65 w.heap.size cv w' ∧ Below w.heap.size w w' := by
  have H := hid h
  obtain ⟨ao, cap, rfl, hnc, hn, hcb⟩ := h
  clear hcb
  go_enter Try.func28, Try.ntmps28
  go_wp2
  go_loopw [6] (fun i wr => ∃ k : Nat, k ≤ n ∧ i = .int .i64 k ∧ Src 65 w.heap.size (.slice ao n cap) wr ∧ Below w.heap.size w wr) (fun i _ => n - (intOf i).toNat)
  case atStart => exact ⟨0, Nat.zero_le _, rfl, Src.new _ _ n _ w H.out (by omega) (by omega), below_alloc _ _⟩
  case round =>
    obtain ⟨k, hk, rfl, S, Bl⟩ := hrel
    by_cases hlt : k < n
    · have HS := hid S
      obtain ⟨_, i, h, hi, hh0, hh1, hblk⟩ := S
      have c2 : wr.cell? ⟨w.heap.size, 2, none⟩ = some (.int .u64 h) := by simp [World.cell?, hblk]
      have f2 : wr.frozen? ⟨w.heap.size, 2, none⟩ = false := by simp [World.frozen?, hblk]
      clear hblk
      obtain ⟨_, _, e0, _, _, hcb⟩ := H.out.mono Bl
      cases e0
      obtain ⟨b', off, x, rfl, hb', hx0, hx1, hcx⟩ := hcb k hlt
      clear hcb
      have hk2 : (k : Int) < (n : Int) := by omega
      have hk3 : (0 : Int) ≤ (k : Int) := by omega
      go_wp2_with fail
      go_still_tail 15, (by kernel_rfl)
      change wpList _ _ _ _ _ wr.drew
      go_wp2
      go_roundw
      case rel => exact ⟨k + 1, by omega, by go_num, (HS.out.setHash (u64_bd _).1 (u64_bd _).2).drew, (below_of_grow Bl (grown_set _ _ _ _) (Nat.le_refl _) Bl.size).drew⟩
      case measure => simp [intOf]; omega
    · have hd : decide ((k : Int) < (n : Int)) = false := by simp; omega
      go_wp2
      go_ret
      exact ⟨rfl, S, Bl⟩
end Go.Proofs.Ytmhcpaffdchboaa
