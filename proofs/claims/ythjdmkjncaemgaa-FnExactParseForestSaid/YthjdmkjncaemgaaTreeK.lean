/-
  The walks of the program's canonical lists.
-/
import Derived.Test.YthjdmkjncaemgaaTreeB
import Derived.Test.YthjdmkjncaemgaaTreeS
import Derived.Test.YthjdmkjncaemgaaSort2
namespace Go.Proofs.Ythjdmkjncaemgaa
open Go.RowKit
set_option maxRecDepth 100000
theorem rootOn_any (v : Value) (zss : List (List Int)) (w : World) (h : RdII w v zss) (hL : ∀ z ∈ zss, IsL z) (ht : tot zss ≤ 1000) :
    Calls Try.prog 46 #[v] w fun e w' => ∃ r, e = .returned r ∧ OwnI w.heap.size w' r (rootL zss) ∧ Below w.heap.size w w' := by
  have H := hid h
  have HL := hid hL
  obtain ⟨ao, cap, vs, rfl, hcap, hmax, -⟩ := h
  have O0 := app_lit1 w w.heap.size 0 (Nat.le_refl _)
  clear hL
  go_enter Try.func46, Try.ntmps46
  go_wp2
  go_loopw [3, 11] (fun r i wr => ∃ k : Nat, k ≤ zss.length ∧ i = .int .i64 k ∧ OwnI w.heap.size wr r (rootL (zss.take k)) ∧ Below w.heap.size w wr) (fun _ i _ => zss.length - (intOf i).toNat)
  case atStart => exact ⟨0, Nat.zero_le _, rfl, O0, below_alloc _ _⟩
  case round =>
    obtain ⟨k, hk, rfl, O, Bl⟩ := hrel
    by_cases hlt : k < zss.length
    · obtain ⟨b, off, u, rfl, hcell0, hu⟩ := H.out.at_ hlt
      have hcell := (Bl.cell (p := ⟨b, off + k, none⟩) (World.block_lt_of_cell? w _ hcell0)).trans hcell0
      clear hcell0
      have HU := hid hu
      obtain ⟨ao2, cap2, rfl⟩ := hu.form
      have hz := HL.out _ (rowAt_mem zss k hlt)
      have HZ := hid hz
      have htk := tot_take zss k
      have htk1 := tot_take zss (k + 1)
      have hlen : (rootL (zss.take k)).length = tot (zss.take k) + 1 := rootL_length _
      have hlen1 : tot (zss.take (k + 1)) = tot (zss.take k) + (rowAt zss k).length := by
        rw [List.take_succ_eq_append_getElem hlt, rowAt_at zss k hlt, tot_append]; simp [tot]
      have HT : Hid ((rootL (zss.take k)).length + (rowAt zss k).length ≤ 1001) := by simp only [Hid]; omega
      have hrl : (rowAt zss k).length ≤ 1000 := by omega
      clear hu hz htk htk1 hlen hlen1
      go_wp2
      go_loopw [3, 17] (fun r i wx => ∃ m : Nat, m ≤ (rowAt zss k).length ∧ i = .int .i64 m ∧ OwnI w.heap.size wx r (rootL (zss.take k) ++ up ((rowAt zss k).take m)) ∧ Below w.heap.size w wx) (fun _ i _ => (rowAt zss k).length - (intOf i).toNat)
      case atStart => exact ⟨0, Nat.zero_le _, rfl, by simpa [up] using O, Bl⟩
      case round =>
        obtain ⟨m, hm, rfl, O2, B2⟩ := hrel
        by_cases hlm : m < (rowAt zss k).length
        · obtain ⟨b', off', rfl, hc2⟩ := (HU.out.mono B2).at_ hlm
          have hb := HZ.out.bd m hlm
          have hl2 : (rootL (zss.take k) ++ up ((rowAt zss k).take m)).length < 1048576 := by have := HT.out; simp [up_length]; omega
          go_wp2_with (at_builtin; refine wpl_app rfl _ _ _ rfl Try.underlying22 info_i64 rfl (O2.mono (below_alloc _ _)) ⟨wr.heap.size, 0, none⟩ 1 _ rfl (cell_new1 _ _ _) hl2 (by have := B2.size; simp; omega) ?_; intro v' W1 O4 G4 B4)
          go_roundw
          case rel => exact ⟨m + 1, by omega, by go_num, by rw [up_take _ _ hlm, ← List.append_assoc]; exact O4, (B2.alloc B2.size _).trans B4⟩
          case measure => simp [intOf]; omega
        · go_wp2
          obtain rfl : m = (rowAt zss k).length := by omega
          rw [List.take_length, ← rootL_take zss k hlt] at O2
          go_roundw
          case rel => exact ⟨k + 1, by omega, by go_num, O2, B2⟩
          case measure => simp [intOf]; omega
    · go_wp2
      go_ret
      obtain rfl : k = zss.length := by omega
      rw [List.take_length] at O
      exact ⟨_, rfl, O, Bl⟩
theorem sortD_call (base : Nat) (v : Value) (us : List Value) (zss : List (List Int)) (w : World) (h : Own2 base w v us zss) (h12 : zss.length ≤ 12) :
    Calls Try.prog 56 #[v, .func (.func 57) #[] #[]] w (Sorted2 base w v (sortD zss)) :=
  sortFunc_any 57 (fun x y => cmpL y x) RD (fun x y => cmpL_neg y x) (fun _ _ => ltL_asymm _ _) (fun x y z h1 h2 => ltL_ntrans z y x h2 h1) (fun x y h1 h2 => ltL_tri x y h2 h1)
    (enters_of Try.func57 (by kernel_rfl) rfl) (fun v u xs ys W h h' => canonical1_any v u xs ys W h h') base v us zss w h h12
theorem canonical_any (n : Nat) (hn12 : n ≤ 12) : ∀ (v : Value) (zs : List Int) (w : World), RdI w v zs → IsL zs → zs.length ≤ n →
    Calls Try.prog 35 #[v] w fun e w' => ∃ r, e = .returned r ∧ OwnI w.heap.size w' r (canonF n zs) ∧ Below w.heap.size w w' := by
  induction n with
  | zero => intro v zs w h hL hn; have := hL.1; omega
  | succ n ih =>
    intro v zs w h hL hn
    have H := hid h
    obtain ⟨ao, cap, rfl⟩ := h.form
    have hpl := parts_len hL
    have HP := hid (parts_IsL hL)
    have HQ := hid (canon_parts_IsL (n := n) hL)
    have HT := hid (canon_parts_tot (n := n) hL hn)
    have HL := hid hL
    have IH := hid (ih (by omega))
    clear hL ih h
    go_enter Try.func35, Try.ntmps35
    go_wp2_with fail
    refine (branchesOf_any _ zs _ H.out HL.out).mono ?_; rintro e w1 ⟨r, rfl, ⟨us1, O1⟩, B1⟩
    obtain ⟨ao1, cap1, rfl⟩ := O1.form
    go_wp2
    go_loopw [10] (fun i wr => ∃ (k : Nat) (us : List Value), k ≤ (parts zs).length ∧ i = .int .i64 k ∧ Own2 w.heap.size wr (.slice ao1 (parts zs).length cap1) us (mapTo (canonF n) (parts zs) k) ∧ Below w.heap.size w wr) (fun i _ => (parts zs).length - (intOf i).toNat)
    case atStart => exact ⟨0, us1, Nat.zero_le _, rfl, by rw [mapTo_zero]; exact O1, B1⟩
    case round =>
      obtain ⟨k, us, hk, rfl, O, Bl⟩ := hrel
      have hml := mapTo_length (canonF n) (parts zs) k
      by_cases hlt : k < (parts zs).length
      · have hlt' : k < (mapTo (canonF n) (parts zs) k).length := by omega
        obtain ⟨g, rfl⟩ := O.addr (by omega)
        have hcell := O.cell k hlt'
        have hu := O.own k hlt'
        rw [mapTo_at _ _ _ hlt] at hu
        obtain ⟨aou, capu, hfu⟩ := hu.form
        rw [hfu] at hcell
        have HU := hid hu
        have HFU := hid hfu
        have hp := HP.out _ (rowAt_mem (parts zs) k hlt)
        clear hu hfu hml
        go_wp2_with fail
        refine (IH.out _ (rowAt (parts zs) k) _ (by have := HU.out.rd; rwa [HFU.out] at this) hp.1 (by omega)).mono ?_; rintro e w2 ⟨r2, rfl, O2, B2⟩
        have h3 := O.outer k hlt' (grownBy_of_below B2 _)
        have c3 := h3.1
        have f3 := h3.2.1
        have g3 := h3.2.2
        clear h3
        obtain ⟨O4, -⟩ := O.put k hlt' (grownBy_of_below B2 _) (O2.lower Bl.size) (.inr fun b hb => (O2.own_lt b hb).1)
        rw [mapTo_set _ _ _ hlt] at O4
        have B4 := (nx Bl B2).setCell (p := ⟨g, k, none⟩) O.glt.1 r2
        obtain ⟨ao2, cap2, rfl⟩ := O2.form
        go_wp2
        go_roundw
        case rel => exact ⟨k + 1, _, by omega, by go_num, O4, B4⟩
        case measure => simp [intOf]; omega
      · obtain rfl : k = (parts zs).length := by omega
        rw [mapTo_all] at O
        clear hml
        go_wp2_with fail
        refine (sortD_call _ _ _ _ _ O (by simp; omega)).mono ?_; rintro e w2 ⟨rfl, us2, O2, G2⟩
        have B2 := Bl.grown G2 Bl.size (fun b hb => (O.lt b hb).1)
        go_wp2_with fail
        refine (rootOn_any _ _ _ O2.rd HQ.out (by rw [HT.out]; omega)).mono ?_; rintro e w3 ⟨r3, rfl, O3, B3⟩
        go_wp2
        go_ret
        exact ⟨_, rfl, O3.lower B2.size, nx B2 B3⟩
end Go.Proofs.Ythjdmkjncaemgaa
