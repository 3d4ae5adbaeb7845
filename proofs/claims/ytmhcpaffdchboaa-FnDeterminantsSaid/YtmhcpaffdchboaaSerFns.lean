/-
  The walks of the functions on series: sums, multiples, products.
-/
import Derived.Test.YtmhcpaffdchboaaNums
import Derived.Test.YtmhcpaffdchboaaNumLaws
import Derived.Test.YtmhcpaffdchboaaSlices
import Derived.Test.YtmhcpaffdchboaaFld
import Derived.Test.YtmhcpaffdchboaaApp
import Derived.Test.YtmhcpaffdchboaaSer
namespace Go.Proofs.Ytmhcpaffdchboaa
open Go.RowKit
set_option maxRecDepth 100000
theorem OwnI.snoc {base : Nat} {w : World} {v : Value} {k : Nat} {f : PS} {x : Int} (h : OwnI base w v (lst k f ++ [x])) (hx : x = vI (f k)) : OwnI base w v (lst (k + 1) f) := by
  rw [lst_snoc, ← hx]; exact h
theorem plus_any (n : Nat) (A B : PS) (q : Int) (v u : Value) (w : World) (h : RdI w v (lst n A)) (h' : RdI w u (lst n B)) :
    Calls Try.prog 85 #[v, u, .int .i64 q] w fun e w' => ∃ r, e = .returned r ∧ OwnI w.heap.size w' r (lst n (PS.add A (PS.smul (fI q) B))) ∧ Below w.heap.size w w' := by
  have H := hid h
  have H' := hid h'
  obtain ⟨ao, cap, rfl, hcap, hmax, -⟩ := h
  obtain ⟨ao', cap', rfl, hcap', hmax', -⟩ := h'
  simp only [lst_length] at hcap hmax hcap' hmax' ⊢
  have q1 := md_bd q
  go_enter Try.func85, Try.ntmps85
  go_wp2
  go_loopw [7, 13] (fun r i wr => ∃ k : Nat, k ≤ n ∧ i = .int .i64 k ∧ OwnI w.heap.size wr r (lst k (PS.add A (PS.smul (fI q) B))) ∧ Below w.heap.size w wr) (fun _ i _ => n - (intOf i).toNat)
  case atStart => exact ⟨0, Nat.zero_le _, rfl, OwnI.lit w _ (Nat.le_refl _), below_alloc _ _⟩
  case round =>
    obtain ⟨k, hk, rfl, O, Bl⟩ := hrel
    by_cases hlt : k < n
    · obtain ⟨b, off, rfl, hcell⟩ := (H.out.mono Bl).at_ (k := k) (by simpa using hlt)
      obtain ⟨b', off', rfl, hcell'⟩ := (H'.out.mono Bl).at_ (k := k) (by simpa using hlt)
      have hlb' := H'.out.lt (by simp; omega)
      rw [lst_el _ _ _ hlt] at hcell hcell'
      have b1 := vI_bd (A k)
      have b2 := vI_bd (B k)
      have m1 := (mul_bd q1.1 q1.2 b2.1 b2.2).1
      have m2 := (mul_bd q1.1 q1.2 b2.1 b2.2).2
      have hx : Hid (IntKind.i64.wrap (vI (A k) + IntKind.i64.wrap (q % 10007 * vI (B k))) % 10007 = vI (PS.add A (PS.smul (fI q) B) k)) := by
        simp only [Hid, PS.add, PS.smul]; rw [IntWalk.i64_in (q % 10007 * vI (B k)) (by omega), IntWalk.i64_in _ (by omega), vI_add, vI_mul, vI_fI]; simp
      go_wp2_with fail
      go_region_held3 (fun w' => w'.cell? ⟨b', off' + k, none⟩ = some (.int .i64 (vI (B k))))
        (first
          | go_keep
          | (go_split_ands
             (rw [B1.cell (p := ⟨b', off' + k, none⟩) hlb']; assumption)))
        (first | (refine step_app (by rfl) _ _ _ (by rfl) Try.underlying32 info_i64 (by rfl) ((O.mono (below_alloc _ _)).mono (below_drew _)) ⟨wr.heap.size, 0, none⟩ 1 _ (by rfl) (cell_new1 _ _ _) (by simp; omega) (by have := Bl.size; simp; omega) ?_; intro v' W1 O1 G1 B1) | (go_at_call 62; refine (num_any _ _).mono ?_; rintro e w' ⟨rfl, rfl⟩))
      go_wp2
      go_roundw
      case rel => exact ⟨k + 1, by omega, by go_num, O1.snoc hx.out, ((Bl.alloc Bl.size _).drew).trans B1⟩
      case measure => simp [intOf]; omega
    · go_wp2
      go_ret
      obtain rfl : k = n := by omega
      exact ⟨_, rfl, O, Bl⟩
theorem scaled_any (n : Nat) (A : PS) (q : Int) (v : Value) (w : World) (h : RdI w v (lst n A)) :
    Calls Try.prog 83 #[v, .int .i64 q] w fun e w' => ∃ r, e = .returned r ∧ OwnI w.heap.size w' r (lst n (PS.smul (fI q) A)) ∧ Below w.heap.size w w' := by
  have H := hid h
  obtain ⟨ao, cap, rfl, hcap, hmax, -⟩ := h
  simp only [lst_length] at hcap hmax ⊢
  have q1 := md_bd q
  go_enter Try.func83, Try.ntmps83
  go_wp2
  go_loopw [5, 11] (fun r i wr => ∃ k : Nat, k ≤ n ∧ i = .int .i64 k ∧ OwnI w.heap.size wr r (lst k (PS.smul (fI q) A)) ∧ Below w.heap.size w wr) (fun _ i _ => n - (intOf i).toNat)
  case atStart => exact ⟨0, Nat.zero_le _, rfl, OwnI.lit w _ (Nat.le_refl _), below_alloc _ _⟩
  case round =>
    obtain ⟨k, hk, rfl, O, Bl⟩ := hrel
    by_cases hlt : k < n
    · obtain ⟨b, off, rfl, hcell⟩ := (H.out.mono Bl).at_ (k := k) (by simpa using hlt)
      rw [lst_el _ _ _ hlt] at hcell
      have b1 := vI_bd (A k)
      have m1 := (mul_bd b1.1 b1.2 q1.1 q1.2).1
      have m2 := (mul_bd b1.1 b1.2 q1.1 q1.2).2
      have hx : Hid (vI (A k) * (q % 10007) % 10007 = vI (PS.smul (fI q) A k)) := by
        simp only [Hid, PS.smul]; rw [vI_mul', vI_fI]
      go_wp2_with (first
        | (at_builtin; refine wpl_app rfl _ _ _ rfl Try.underlying32 info_i64 rfl (O.mono (below_alloc _ _)) ⟨wr.heap.size, 0, none⟩ 1 _ rfl (cell_new1 _ _ _) (by simp; omega) (by have := Bl.size; simp; omega) ?_; intro v' W1 O1 G1 B1)
        | (go_at_call 62; refine (num_any _ _).mono ?_; rintro e w' ⟨rfl, rfl⟩))
      go_roundw
      case rel => exact ⟨k + 1, by omega, by go_num, O1.snoc hx.out, (Bl.alloc Bl.size _).trans B1⟩
      case measure => simp [intOf]; omega
    · go_wp2
      go_ret
      obtain rfl : k = n := by omega
      exact ⟨_, rfl, O, Bl⟩
end Go.Proofs.Ytmhcpaffdchboaa
