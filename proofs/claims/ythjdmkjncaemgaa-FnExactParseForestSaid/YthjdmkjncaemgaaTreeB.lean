/-
  The walks of the branches of level lists.
-/
import Derived.Test.YthjdmkjncaemgaaMem2
import Derived.Test.YthjdmkjncaemgaaTreeC
import Derived.Test.YthjdmkjncaemgaaTreeLev
import Derived.Test.YthjdmkjncaemgaaSlices
import Derived.Deep.RegionLaw
namespace Go.Proofs.Ythjdmkjncaemgaa
open Go.RowKit
set_option maxRecDepth 100000
theorem info_ii : (Try.prog.info? 22).map (fun i => (i.zero, i.size, i.bytes)) = some (some (.slice none 0 0), 1, 24) := by kernel_rfl
set_option maxHeartbeats 1000000 in
theorem branchesOf_any (v : Value) (zs : List Int) (w : World) (h : RdI w v zs) (hL : IsL zs) :
    Calls Try.prog 54 #[v] w fun e w' => ∃ r, e = .returned r ∧ OwnII w.heap.size w' r (parts zs) ∧ Below w.heap.size w w' := by
  have H := hid h
  obtain ⟨ao, cap, rfl, hcap, hmax, -⟩ := h
  have HL := hid hL
  have h0 := hL.1
  clear hL
  obtain ⟨b, off, rfl, -⟩ := H.out.at_ (k := 0) h0
  by_cases h1 : zs.length = 1
  · have e : Hid (parts zs = []) := by simp only [Hid]; unfold parts; rw [h1]; rfl
    have hb : ((zs.length - 1 : Nat) : Int) = 0 := by omega
    by_cases hc1 : cap = 1
    · go_enter Try.func54, Try.ntmps54
      go_wp2
      refine wp_loop_rounds 1 ?_
      rw [rounds_succ]
      go_wp2
      go_ret
      rw [e.out]
      exact ⟨_, rfl, ⟨[], Own2.litAt (by simp) (by omega)⟩, below_alloc _ _⟩
    · go_enter Try.func54, Try.ntmps54
      go_wp2
      refine wp_loop_rounds 1 ?_
      rw [rounds_succ]
      go_wp2
      go_ret
      rw [e.out]
      exact ⟨_, rfl, ⟨[], Own2.litAt (by simp) (by omega)⟩, below_alloc _ _⟩
  · have hc1 : ¬ cap = 1 := by omega
    have h2 : 1 < zs.length := by omega
    clear h1
    go_enter Try.func54, Try.ntmps54
    go_wp2
    go_loopw [3, 10] (fun r i wr => ∃ (k : Nat) (us : List Value), k + 1 ≤ zs.length ∧ i = .int .i64 k ∧ Own2 w.heap.size wr r us (partsTo zs (k + 1)) ∧ Below w.heap.size w wr) (fun _ i _ => zs.length - (intOf i).toNat)
    case atStart => exact ⟨0, [], by omega, rfl, Own2.litAt (by simp) (by omega), below_alloc _ _⟩
    case round =>
      obtain ⟨k, us, hk, rfl, O, Bl⟩ := hrel
      by_cases hlt : k + 1 < zs.length
      · obtain ⟨_, _, e1, hcell⟩ := (H.out.mono Bl).at_ (k := k + 1) hlt
        cases e1
        rw [show off + (k + 1) = off + 1 + k by omega] at hcell
        have hlt' : k < zs.length - 1 := by omega
        have hx := HL.out.2.2 (k + 1) (by omega) hlt
        have hxb := HL.out.bd (k + 1) hlt
        have hx1 := hx.1
        clear hx
        have hpl := (partsTo_len HL.out (k + 1) (by omega)).1
        have hAs := stepA_pos HL.out (k + 1) (by omega) hlt
        obtain ⟨A, hA⟩ : ∃ A, A = stepA (partsTo zs (k + 1)) (el zs (k + 1)) := ⟨_, rfl⟩
        rw [← hA] at hAs
        have hAl : A.length - 1 < A.length := by omega
        have hAm : A.length ≤ 1048577 := by
          rw [hA, stepA]; split
          · simp; omega
          · omega
        have HB : Hid (A.set (A.length - 1) (rowAt A (A.length - 1) ++ [el zs (k + 1) - 1]) = partsTo zs (k + 2)) := by
          simp only [Hid]; rw [partsTo_succ zs (k + 1) (by omega), ← hA]; rfl
        have hAr : (rowAt A (A.length - 1)).length < 1048576 := by
          have e : partsTo zs (k + 2) = A.set (A.length - 1) (rowAt A (A.length - 1) ++ [el zs (k + 1) - 1]) := HB.out.symm
          have h3 := (partsTo_len HL.out (k + 2) (by omega)).2 (rowAt A (A.length - 1) ++ [el zs (k + 1) - 1]) (by
            rw [e]
            have := rowAt_mem (A.set (A.length - 1) (rowAt A (A.length - 1) ++ [el zs (k + 1) - 1])) (A.length - 1) (by simpa using hAl)
            rwa [rowAt_set, if_pos ⟨rfl, hAl⟩] at this)
          simp at h3; omega
        have hAw : wrap64 ((A.length : Int) - 1) = ((A.length - 1 : Nat) : Int) := by rw [IntWalk.wrap64_in _ (by have := hAm; omega)]; omega
        have HA := hid hA
        clear hA
        by_cases hone : el zs (k + 1) = 1
        · have hb : (el zs (k + 1) == 1) = true := by simp [hone]
          have HO := hid hone
          have hA : Hid (partsTo zs (k + 1) ++ [[]] = A) := by simp only [Hid]; rw [HA.out, stepA, if_pos hone]
          clear hone
          go_wp2_with (first
            | (at_builtin; refine wpl_app2 rfl _ _ _ rfl Try.underlying32 info_ii rfl (O.mono (below_alloc _ _)) ⟨wr.heap.size, 0, none⟩ 1 (.slice none 0 0) [] rfl (cell_new1 _ _ _) (OwnI.nil _ _) (parted_nil _) (fun j _ => parted_nil _) (by omega) (by have := Bl.size; simp; omega) ?_; intro v' W1 O1 G1 B1 P1; clear G1 P1; rw [hA.out] at O1; obtain ⟨ao1, cap1, rfl⟩ := O1.form; obtain ⟨g, rfl⟩ := O1.addr hAs; have c1 := O1.cell _ hAl; have B0 := (Bl.alloc Bl.size (.cells #[.slice none 0 0] 22)).trans B1; clear B1)
            | (at_builtin; (refine wpl_appW (v := vat (us ++ [.slice none 0 0]) (A.length - 1)) rfl _ _ _ rfl Try.underlying22 info_i64 rfl ((O1.own _ hAl).mono (below_alloc _ _)) ⟨W1.heap.size, 0, none⟩ 1 _ rfl (cell_new1 _ _ _) hAr (by have := B0.size; simp; omega) ?_); intro u' W2 O2 G2 B2 P2; obtain ⟨aou, capu, rfl⟩ := O2.form; have h3 := (O1.mono (below_alloc W1 _)).outer (A.length - 1) hAl G2; have c3 := h3.1; have f3 := h3.2.1; have g3 := h3.2.2; clear h3; obtain ⟨O3, -⟩ := (O1.mono (below_alloc W1 _)).put (A.length - 1) hAl G2 O2 (P2.imp id (fun e b hb => by rw [e] at hb; simp at hb; simp; omega)); rw [HB.out] at O3; have B3 := ((B0.alloc B0.size (.cells #[.int .i64 (el zs (k + 1) - 1)] 2)).trans B2).setCell (p := ⟨g, A.length - 1, none⟩) O1.glt.1 (.slice aou (rowAt A (A.length - 1) ++ [el zs (k + 1) - 1]).length capu); clear P2 G2 O2 B2))
          clear c1 hcell
          rw [List.length_append, List.length_singleton] at O3 B3
          go_roundw
          case rel => exact ⟨k + 1, _, by omega, by go_num, O3, B3⟩
          case measure => simp [intOf]; omega
        · have hb : (el zs (k + 1) == 1) = false := by simp [hone]
          have hA : Hid (partsTo zs (k + 1) = A) := by simp only [Hid]; rw [HA.out, stepA, if_neg hone]
          clear hone
          have O1 := O
          rw [hA.out] at O1
          obtain ⟨ao1, cap1, rfl⟩ := O1.form
          obtain ⟨g, rfl⟩ := O1.addr hAs
          have c1 := O1.cell _ hAl
          go_wp2_with (at_builtin; refine wpl_appW (v := vat us (A.length - 1)) rfl _ _ _ rfl Try.underlying22 info_i64 rfl ((O1.own _ hAl).mono (below_alloc _ _)) ⟨wr.heap.size, 0, none⟩ 1 _ rfl (cell_new1 _ _ _) hAr (by have := Bl.size; simp; omega) ?_; intro u' W2 O2 G2 B2 P2; obtain ⟨aou, capu, rfl⟩ := O2.form; have h3 := (O1.mono (below_alloc wr _)).outer (A.length - 1) hAl G2; have c3 := h3.1; have f3 := h3.2.1; have g3 := h3.2.2; clear h3; obtain ⟨O3, -⟩ := (O1.mono (below_alloc wr _)).put (A.length - 1) hAl G2 O2 (P2.imp id (fun e b hb => by rw [e] at hb; simp at hb; simp; omega)); rw [HB.out] at O3; have B3 := ((Bl.alloc Bl.size (.cells #[.int .i64 (el zs (k + 1) - 1)] 2)).trans B2).setCell (p := ⟨g, A.length - 1, none⟩) O1.glt.1 (.slice aou (rowAt A (A.length - 1) ++ [el zs (k + 1) - 1]).length capu); clear P2 G2 O2 B2)
          clear c1 hcell
          rw [List.length_append, List.length_singleton] at O3 B3
          go_roundw
          case rel => exact ⟨k + 1, _, by omega, by go_num, O3, B3⟩
          case measure => simp [intOf]; omega
      · have hlt' : ¬ k < zs.length - 1 := by omega
        go_wp2
        go_ret
        obtain rfl : k = zs.length - 1 := by omega
        rw [show zs.length - 1 + 1 = zs.length by omega] at O
        exact ⟨_, rfl, ⟨us, O⟩, Bl⟩
set_option maxHeartbeats 1000000 in
theorem l03Parts_any (v : Value) (zs : List Int) (w : World) (h : RdI w v zs) (hL : IsL zs) :
    Calls Try.prog 50 #[v] w fun e w' => ∃ r, e = .returned r ∧ OwnII w.heap.size w' r (parts zs) ∧ Below w.heap.size w w' := by
  have H := hid h
  obtain ⟨ao, cap, rfl, hcap, hmax, -⟩ := h
  have HL := hid hL
  have h0 := hL.1
  clear hL
  obtain ⟨b, off, rfl, -⟩ := H.out.at_ (k := 0) h0
  go_enter Try.func50, Try.ntmps50
  go_wp2
  go_loopw [3, 4] (fun r i wr => ∃ (k : Nat) (us : List Value), 1 ≤ k ∧ k ≤ zs.length ∧ i = .int .i64 k ∧ Own2 w.heap.size wr r us (partsTo zs k) ∧ Below w.heap.size w wr) (fun _ i _ => zs.length - (intOf i).toNat)
  case atStart => exact ⟨1, [], by omega, by omega, rfl, Own2.litAt (by simp) (by omega), below_alloc _ _⟩
  case round =>
    obtain ⟨k, us, hk1, hk, rfl, O, Bl⟩ := hrel
    by_cases hlt : k < zs.length
    · obtain ⟨_, _, e1, hcell⟩ := (H.out.mono Bl).at_ (k := k) hlt
      cases e1
      have hlb := H.out.lt h0
      have hlw := Nat.lt_of_lt_of_le hlb Bl.size
      have hcell0 : Hid (w.cell? ⟨b, off + k, none⟩ = some (.int .i64 (el zs k))) := (Bl.cell (p := ⟨b, off + k, none⟩) hlb).symm.trans hcell
      have hx := HL.out.2.2 k (by omega) hlt
      have hxb := HL.out.bd k hlt
      have hx1 := hx.1
      clear hx
      have hpl := (partsTo_len HL.out k (by omega)).1
      have hAs := stepA_pos HL.out k (by omega) hlt
      obtain ⟨A, hA⟩ : ∃ A, A = stepA (partsTo zs k) (el zs k) := ⟨_, rfl⟩
      rw [← hA] at hAs
      have hAl : A.length - 1 < A.length := by omega
      have HB : Hid (A.set (A.length - 1) (rowAt A (A.length - 1) ++ [el zs k - 1]) = partsTo zs (k + 1)) := by
        simp only [Hid]; rw [partsTo_succ zs k (by omega), ← hA]; rfl
      have hAr : (rowAt A (A.length - 1)).length < 1048576 := by
        have e : partsTo zs (k + 1) = A.set (A.length - 1) (rowAt A (A.length - 1) ++ [el zs k - 1]) := HB.out.symm
        have h3 := (partsTo_len HL.out (k + 1) (by omega)).2 (rowAt A (A.length - 1) ++ [el zs k - 1]) (by
          rw [e]
          have := rowAt_mem (A.set (A.length - 1) (rowAt A (A.length - 1) ++ [el zs k - 1])) (A.length - 1) (by simpa using hAl)
          rwa [rowAt_set, if_pos ⟨rfl, hAl⟩] at this)
        simp at h3; omega
      have hAm : A.length ≤ 1048577 := by
        rw [hA, stepA]; split
        · simp; omega
        · omega
      have HA := hid hA
      clear hA
      by_cases hone : el zs k = 1
      · have hb : (el zs k == 1) = true := by simp [hone]
        have hA : Hid (partsTo zs k ++ [[]] = A) := by simp only [Hid]; rw [HA.out, stepA, if_pos hone]
        have HO := hid hone
        clear hone
        have q1 : Hid (((wr.alloc (.cells #[] 2)).alloc (.cells #[.slice (some ⟨wr.heap.size, 0, none⟩) 0 0] 22)).cell? ⟨wr.heap.size + 1, 0, none⟩ = some (.slice (some ⟨wr.heap.size, 0, none⟩) 0 0)) := by
          have := cell_new1 (wr.alloc (.cells #[] 2)) (.slice (some ⟨wr.heap.size, 0, none⟩) 0 0) 22
          simp [Hid] at this ⊢
        have q2 : Hid (Parted (.slice (some ⟨wr.heap.size, 0, none⟩) 0 0) u3) := parted_lt wr.heap.size (fun b hb => by simp [Value.ownBlock] at hb; omega) (fun b hb => (O.lt b hb).2)
        have q3 : Hid (∀ j, j < us.length → Parted (.slice (some ⟨wr.heap.size, 0, none⟩) 0 0) (vat us j)) := fun j hj => parted_lt wr.heap.size (fun b hb => by simp [Value.ownBlock] at hb; omega) (fun b hb => ((O.own j (by have := O.len; omega)).own_lt b hb).2)
        go_wp2_with (at_builtin; refine wpl_app2 (u := .slice (some ⟨wr.heap.size, 0, none⟩) 0 0) rfl _ _ _ rfl Try.underlying32 info_ii rfl ((O.mono (below_alloc _ _)).mono (below_alloc _ _)) ⟨wr.heap.size + 1, 0, none⟩ 1 [] rfl q1.out ((OwnI.lit wr w.heap.size Bl.size).mono (below_alloc _ _)) q2.out q3.out (by omega) (by have := Bl.size; simp; omega) ?_; intro v' W1 O1 G1 B1 P1; clear G1 P1; rw [hA.out] at O1; obtain ⟨ao1, cap1, rfl⟩ := O1.form; obtain ⟨g, rfl⟩ := O1.addr hAs; have c1 := O1.cell _ hAl; have B0 := ((Bl.alloc Bl.size (.cells #[] 2)).alloc (by have := Bl.size; simp; omega) (.cells #[.slice (some ⟨wr.heap.size, 0, none⟩) 0 0] 22)).trans B1; clear B1; have hcell1 := (B0.cell (p := ⟨b, off + k, none⟩) hlb).trans hcell0.out)
        have hlw1 := Nat.lt_of_lt_of_le hlb B0.size
        have g1 := O1.glt.2
        have h0b := B0.size
        have i1 : (1 : Int) ≤ (A.length : Int) := by omega
        have i2 : (A.length : Int) - 1 < (A.length : Int) := by omega
        go_wp2_with fail
        have i3 : IntKind.i64.wrap (el zs k - 1) = el zs k - 1 := IntWalk.i64_in _ (by omega)
        go_region_law (refine step_appW (v := vat (us ++ [.slice (some ⟨wr.heap.size, 0, none⟩) 0 0]) (A.length - 1)) (by rfl) _ _ _ (by rfl) Try.underlying22 info_i64 (by rfl) (((O1.own _ hAl).mono (below_alloc _ _)).mono (below_drew _)) ⟨W1.heap.size, 0, none⟩ 1 _ (by rfl) (cell_new1 _ _ _) hAr (by simp; omega) ?_; intro u' W2 O2 G2 B2 P2; obtain ⟨aou, capu, rfl⟩ := O2.form; have h3 := ((O1.mono (below_alloc W1 _)).mono (below_drew _)).outer (A.length - 1) hAl G2; have c3 := h3.1; have f3 := h3.2.1; have g3 := h3.2.2; clear h3)
        all_goals
          obtain ⟨O3, -⟩ := ((O1.mono (below_alloc W1 _)).mono (below_drew _)).put (A.length - 1) hAl G2 O2 (P2.imp id (fun e b hb => by rw [e] at hb; simp at hb; simp; omega))
          rw [HB.out] at O3
          have B3 := ((B0.alloc B0.size (.cells #[.int .i64 (el zs k - 1)] 2)).drew.trans B2).setCell (p := ⟨g, A.length - 1, none⟩) O1.glt.1 (.slice aou (rowAt A (A.length - 1) ++ [el zs k - 1]).length capu)
          rw [List.length_append, List.length_singleton] at O3 B3
          clear c3 f3 c1 hcell1 i1 i2 i3 G2 P2 O2 B2
          go_wp2
          go_roundw
          case rel => exact ⟨k + 1, _, by omega, by omega, by go_num, O3, B3⟩
          case measure => simp [intOf]; omega
      · have hb : (el zs k == 1) = false := by simp [hone]
        have hA : Hid (partsTo zs k = A) := by simp only [Hid]; rw [HA.out, stepA, if_neg hone]
        clear hone
        have O1 := O
        rw [hA.out] at O1
        obtain ⟨ao1, cap1, rfl⟩ := O1.form
        obtain ⟨g, rfl⟩ := O1.addr hAs
        have c1 := O1.cell _ hAl
        have g1 := O1.glt.2
        have h0b := Bl.size
        have i1 : (1 : Int) ≤ (A.length : Int) := by omega
        have i2 : (A.length : Int) - 1 < (A.length : Int) := by omega
        go_wp2_with fail
        have i3 : IntKind.i64.wrap (el zs k - 1) = el zs k - 1 := IntWalk.i64_in _ (by omega)
        go_region_law (refine step_appW (v := vat us (A.length - 1)) (by rfl) _ _ _ (by rfl) Try.underlying22 info_i64 (by rfl) (((O1.own _ hAl).mono (below_alloc _ _)).mono (below_drew _)) ⟨wr.heap.size, 0, none⟩ 1 _ (by rfl) (cell_new1 _ _ _) hAr (by simp; omega) ?_; intro u' W2 O2 G2 B2 P2; obtain ⟨aou, capu, rfl⟩ := O2.form; have h3 := ((O1.mono (below_alloc wr _)).mono (below_drew _)).outer (A.length - 1) hAl G2; have c3 := h3.1; have f3 := h3.2.1; have g3 := h3.2.2; clear h3)
        all_goals
          obtain ⟨O3, -⟩ := ((O1.mono (below_alloc wr _)).mono (below_drew _)).put (A.length - 1) hAl G2 O2 (P2.imp id (fun e b hb => by rw [e] at hb; simp at hb; simp; omega))
          rw [HB.out] at O3
          have B3 := ((Bl.alloc Bl.size (.cells #[.int .i64 (el zs k - 1)] 2)).drew.trans B2).setCell (p := ⟨g, A.length - 1, none⟩) O1.glt.1 (.slice aou (rowAt A (A.length - 1) ++ [el zs k - 1]).length capu)
          rw [List.length_append, List.length_singleton] at O3 B3
          clear c3 f3 c1 hcell i1 i2 i3 G2 P2 O2 B2
          go_wp2
          go_roundw
          case rel => exact ⟨k + 1, _, by omega, by omega, by go_num, O3, B3⟩
          case measure => simp [intOf]; omega
    · have hlt' : ¬ k < zs.length := by omega
      go_wp2
      go_ret
      obtain rfl : k = zs.length := by omega
      exact ⟨_, rfl, ⟨us, O⟩, Bl⟩
end Go.Proofs.Ythjdmkjncaemgaa
