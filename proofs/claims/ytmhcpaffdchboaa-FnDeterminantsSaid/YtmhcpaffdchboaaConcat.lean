/-
  The library's Concat of rows: its Grow by the kit's contract, its two loops walked.
-/
import Derived.Test.YtmhcpaffdchboaaMinor
import Derived.Shelf.Spec.SlicesGrow
namespace Go.Proofs.Ytmhcpaffdchboaa
open Go.RowKit Go.Shelf
set_option maxRecDepth 100000
def growRen : Go.Shelf.Ren := ⟨fun | 4 => 86 | n => n, fun | 0 => 0 | 3 => 3 | 4 => 4 | 9 => 9 | 20 => 20 | 22 => 32 | 25 => 2 | n => n, fun n => n⟩
theorem growLay : Lays8.n4 Try.prog growRen :=
  { mixed := by kernel_rfl
    f4 := ⟨Try.f86.name, by kernel_rfl, Try.func86.trans (congrArg some (by kernel_rfl))⟩
    t0 := Try.underlying0
    a0 := Try.isAgg0
    z0 := Try.sizeOf0
    v0 := Try.zeroValue0
    t3 := Try.underlying3
    a3 := Try.isAgg3
    z3 := Try.sizeOf3
    v3 := Try.zeroValue3
    t4 := Try.underlying4
    a4 := Try.isAgg4
    z4 := Try.sizeOf4
    v4 := Try.zeroValue4
    t9 := Try.underlying9
    a9 := Try.isAgg9
    z9 := Try.sizeOf9
    v9 := Try.zeroValue9
    t20 := Try.underlying20
    a20 := Try.isAgg20
    z20 := Try.sizeOf20
    v20 := Try.zeroValue20
    t22 := Try.underlying32
    a22 := Try.isAgg32
    z22 := Try.sizeOf32
    v22 := Try.zeroValue32 }
theorem grow_any (n : Nat) (w : World) (h0 : 0 < n) (h1 : n ≤ 1048576) :
    Calls Try.prog 86 #[.slice none 0 0, .int .i64 n] w fun e w' => ∃ r, e = .returned r ∧ OwnI w.heap.size w' r [] ∧ Below w.heap.size w w' := by
  obtain ⟨i0, hi, hz0, hz1, hz2⟩ := info_parts info_i64
  refine (Any8.slices_Grow_grow growLay i0 (.int .i64 0) hi hz0 (by rw [hz1]; omega) none 0 0 n [] w (Nat.le_refl 0) (by omega) (by rw [hz2]; omega) (by omega) (by simp) (fun _ => rfl) (fun a e => by cases e)).mono ?_
  rintro e w' ⟨rfl, rfl⟩
  have hg : n ≤ grownCap w (0 + n) 0 2 := by have := grownCap_ge w (0 + n) 0 2; omega
  have hm : grownCap w (0 + n) 0 2 ≤ maxLen := grownCap_le_maxLen w (0 + n) 0 _ (by unfold maxLen; omega)
  refine ⟨_, rfl, ⟨World.ownsRow_made w.drew _ _ (Nat.le_refl _) hm ?_, by simp⟩, (below_drew w).alloc (Nat.le_refl _) _⟩
  change ((([] : List Value).toArray ++ Builtin.zeroCells _ (0 + n - 0)) ++ Builtin.zeroCells _ (grownCap w (0 + n) 0 2 - (0 + n))).size = _
  have e1 : growRen.t 25 = 2 := rfl
  rw [e1]
  simp [size_zeroCells, Value.cells]
  simp only [Nat.zero_add] at hg
  omega
theorem concat_any (v : Value) (zss : List (List Int)) (w : World) (h : RdII w v zss) (hp : ∀ z ∈ zss, 0 < z.length) (ht0 : 0 < zss.length) (ht : tot zss ≤ 1000000) :
    Calls Try.prog 69 #[v] w fun e w' => ∃ r, e = .returned r ∧ OwnI w.heap.size w' r zss.flatten ∧ Below w.heap.size w w' := by
  have H := hid h
  have HP := hid hp
  obtain ⟨ao, cap, vs, rfl, hcap, hmax, -⟩ := h
  have htp : 0 < tot zss := by
    have h1 := tot_mem (rowAt_in zss 0 ht0)
    have h3 := hp _ (rowAt_in zss 0 ht0)
    omega
  clear hp
  go_enter Try.func69, Try.ntmps69
  go_wp2
  go_loop [3, 11] (fun a i => ∃ k : Nat, k ≤ zss.length ∧ i = .int .i64 k ∧ a = .int .i64 (tot (zss.take k))) (fun _ i => zss.length - (intOf i).toNat)
  case atStart => exact ⟨0, Nat.zero_le _, rfl, rfl⟩
  case round =>
    obtain ⟨k, hk, rfl, rfl⟩ := hrel
    by_cases hlt : k < zss.length
    · obtain ⟨b, off, u, rfl, hcell, hu⟩ := H.out.at_ hlt
      obtain ⟨ao2, cap2, rfl⟩ := hu.form
      have h1 := tot_take_succ zss k hlt
      have h2 := tot_take zss (k + 1)
      have HS := hid h1
      have h3 : tot (zss.take k) + (rowAt zss k).length ≤ 1000000 := by omega
      have h4 : ¬ ((tot (zss.take k) : Int) + ((rowAt zss k).length : Int) < 0) := by omega
      clear h1 h2 hu
      go_wp2
      go_round
      case rel => exact ⟨k + 1, by omega, by go_num, by rw [HS.out]; go_num⟩
      case measure => simp [intOf]; omega
    · obtain rfl : k = zss.length := by omega
      have e1 : tot (zss.take zss.length) = tot zss := by rw [List.take_length]
      rw [e1]
      clear e1
      go_wp2_with fail
      refine (grow_any (tot zss) _ htp (by omega)).mono ?_
      rintro e w1 ⟨r1, rfl, O1, B1⟩
      go_wp2
      go_loopw [6, 27] (fun r i wr => ∃ k : Nat, k ≤ zss.length ∧ i = .int .i64 k ∧ OwnI w.heap.size wr r (zss.take k).flatten ∧ Below w.heap.size w wr) (fun _ i _ => zss.length - (intOf i).toNat)
      case atStart => exact ⟨0, Nat.zero_le _, rfl, by simpa using O1, B1⟩
      case round =>
        obtain ⟨k, hk, rfl, O, Bl⟩ := hrel
        by_cases hlt : k < zss.length
        · obtain ⟨b, off, u, rfl, hcell, hu⟩ := (H.out.mono Bl).at_ hlt
          obtain ⟨ao2, cap2, rfl⟩ := hu.form
          obtain ⟨b2, off2, rfl, -⟩ := hu.at_ (HP.out _ (rowAt_in zss k hlt))
          have HU := hid hu
          have h1 := tot_take_succ zss k hlt
          have h2 := tot_take zss (k + 1)
          have h5 : (zss.take k).flatten.length = tot (zss.take k) := by rw [List.length_flatten]; rfl
          have h3 : (zss.take k).flatten.length + (rowAt zss k).length ≤ 1048576 := by omega
          have HF : Hid ((zss.take k).flatten ++ rowAt zss k = (zss.take (k + 1)).flatten) := by simp only [Hid]; rw [List.take_succ_eq_append_getElem hlt, rowAt_at zss k hlt]; simp
          have bw := Bl.size
          clear h1 h2 h5 hu
          go_wp2_with (at_builtin; refine wpl_appAt rfl _ _ _ rfl Try.underlying32 info_i64 rfl O b2 off2 (rowAt zss k).length cap2 rfl HU.out h3 bw ?_; intro v' W1 O3 G3 B3; clear G3)
          rw [HF.out] at O3
          go_roundw
          case rel => exact ⟨k + 1, by omega, by go_num, O3, Bl.trans B3⟩
          case measure => simp [intOf]; omega
        · go_wp2
          go_ret
          obtain rfl : k = zss.length := by omega
          rw [List.take_length] at O
          exact ⟨_, rfl, O, Bl⟩
end Go.Proofs.Ytmhcpaffdchboaa
