/-
  The size of a slice of slices that came in, as the laws of two such arguments reckon it.
-/
import Derived.Test.YtmhcpaffdchboaaInII
namespace Go.Proofs.Ytmhcpaffdchboaa
open Go.RowKit
set_option maxRecDepth 100000
def SzQ (w : World) (v : Value) (e : Ending) (w' : World) : Prop :=
  w = w' ∧ ∃ l : Int, e = .returned (.int .i64 l) ∧ (l < 0 ∨ ∃ q : Nat, l = q ∧ q ≤ 1048576 ∧ ∃ zss, RdII w v zss ∧ tot zss ≤ 1048576)
theorem szIIq_any (v : Value) (q : Nat) (hq : q ≤ 1048576) (w : World) (h : InII w v) : Calls Try.prog 9 #[v, .int .i64 (q : Int)] w (SzQ w v) := by
  obtain ⟨ao, n, cap, A, L, C, Z, rfl, hnc, hn, hr⟩ := h
  unfold maxLen at hn
  by_cases h0 : n ≤ q
  · have HR := hid hr
    have h1 : (n : Int) ≤ (q : Int) := by omega
    clear hr
    go_enter Try.func9, Try.ntmps9
    go_wp2
    go_loopw [1, 5] (fun l i wr => ∃ k : Nat, k ≤ n ∧ i = .int .i64 k ∧ n + sumL' L k ≤ q ∧ l = .int .i64 ((q : Int) - (n : Int) - (sumL' L k : Nat)) ∧ wr = w) (fun _ i _ => n - (intOf i).toNat)
    case atStart => exact ⟨0, Nat.zero_le _, rfl, by simp [sumL']; omega, by simp [sumL'], rfl⟩
    case round =>
      obtain ⟨k, hk, rfl, hs, rfl, rfl⟩ := hrel
      by_cases hlt : k < n
      · obtain ⟨⟨b, off, rfl, hcell⟩, hL, -⟩ := HR.out k hlt
        have hLm := hid hL
        have hsum : Hid (sumL' L (k + 1) = sumL' L k + L k) := rfl
        by_cases hge : n + sumL' L k + L k ≤ q
        · have hif : Hid ((if (q : Int) - (n : Int) - (sumL' L k : Nat) - (L k : Int) < 0 then (-1 : Int) else (q : Int) - (n : Int) - (sumL' L k : Nat) - (L k : Int)) = (q : Int) - (n : Int) - (sumL' L k : Nat) - (L k : Int)) := by
            simp only [Hid]; rw [if_neg (by omega)]
          have hnn : ¬ ((q : Int) - (n : Int) - (sumL' L k : Nat) - (L k : Int) < 0) := by omega
          go_wp2_with (go_at_call 35; refine (szI_any (A k) (L k) (C k) _ _ hLm.out (by omega) (by omega)).mono ?_; rintro e w2 ⟨rfl, rfl⟩; rw [hif.out])
          go_roundw
          case rel => exact ⟨k + 1, by omega, by go_num, by rw [hsum.out]; omega, by rw [hsum.out]; congr 1; omega, trivial⟩
          case measure => simp [intOf]; omega
        · have hif : Hid ((if (q : Int) - (n : Int) - (sumL' L k : Nat) - (L k : Int) < 0 then (-1 : Int) else (q : Int) - (n : Int) - (sumL' L k : Nat) - (L k : Int)) = -1) := by
            simp only [Hid]; rw [if_pos (by omega)]
          go_wp2_with (go_at_call 35; refine (szI_any (A k) (L k) (C k) _ _ hLm.out (by omega) (by omega)).mono ?_; rintro e w2 ⟨rfl, rfl⟩; rw [hif.out])
          go_ret
          exact ⟨rfl, -1, rfl, .inl (by omega)⟩
      · obtain rfl : k = n := by omega
        go_wp2
        go_ret
        have hLs : ∀ r, r < k → L r ≤ 1048576 := fun r hr => by have := sumL'_le L k r hr; omega
        have hlen : ∀ r, r < k → ((Z r).take (L r)).length = L r := fun r hr => ((HR.out r hr).2.2 (hLs r hr)).2
        have ht := tot_rowsIn k L Z hlen
        refine ⟨rfl, _, rfl,   .inr ⟨q - k - sumL' L k, by omega, by omega, rowsIn k L Z, ⟨ao, cap, fun j => .slice (A j) (L j) (C j), by simp [rowsIn], by simpa [rowsIn] using hnc, by simp [rowsIn]; omega, fun j hj => ?_⟩, by rw [ht]; omega⟩⟩
        have hj' : j < k := by simpa [rowsIn] using hj
        obtain ⟨a1, a2, a3⟩ := HR.out j hj'
        exact ⟨a1, by rw [rowsIn_at k L Z j hj']; exact (a3 (hLs j hj')).1⟩
  · have h2 : (q : Int) < (n : Int) := by omega
    clear hr h0
    go_enter Try.func9, Try.ntmps9
    go_wp2
    go_ret
    exact ⟨rfl, -1, rfl, .inl (by omega)⟩
end Go.Proofs.Ytmhcpaffdchboaa
