/-
  The draws of numbers and lists of numbers.
-/
import Derived.Test.YtmhcpaffdchboaaDoorSrc
import Derived.Test.YtmhcpaffdchboaaDoorNumFns
import Derived.Test.YtmhcpaffdchboaaDoorApp
import Derived.Test.YtmhcpaffdchboaaDoorSlices
namespace Go.Proofs.YtmhcpaffdchboaaDoor
open Go.RowKit
set_option maxRecDepth 100000
theorem gb_then {w w1 w2 : World} {b : Nat} {row : Option Nat} (h : w.grownBy w1 (some b)) (k : w1.grownBy w2 row) (hr : ∀ r, row = some r → w.heap.size ≤ r ∨ r = b) : w.grownBy w2 (some b) :=
  ⟨k.os.trans h.os, k.tape.trans h.tape, k.output.trans h.output, Nat.le_trans h.size k.size, fun i hi hne =>
    (k.block i (Nat.lt_of_lt_of_le hi h.size) (fun e => by
      rcases hr i e.symm with h1 | h1
      · omega
      · exact hne (by rw [h1]))).trans (h.block i hi hne)⟩
theorem gb_alloc {w w1 : World} {b : Nat} (h : w.grownBy w1 (some b)) (o : Obj) : w.grownBy (w1.alloc o) (some b) := gb_then h (World.grownBy_alloc w1 o none) (fun r hr => by cases hr)
theorem gb_below {w w1 w2 : World} {b : Nat} (h : w.grownBy w1 (some b)) (k : Below w1.heap.size w1 w2) : w.grownBy w2 (some b) := gb_then h (grownBy_of_below k none) (fun r hr => by cases hr)
theorem Src.alloc {t : TypeId} {b : Nat} {cv : Value} {w : World} (h : Src t b cv w) (o : Obj) : Src t b cv (w.alloc o) := h.mono (below_alloc w o)
theorem OwnI.away {base b : Nat} {w w' : World} {v : Value} {zs : List Int} (h : OwnI base w v zs) (g : w.grownBy w' (some b)) (hb : b < base) : OwnI base w' v zs :=
  h.grown g (by
    cases e : v.ownBlock with
    | none => exact .inl rfl
    | some r => right; intro e'; cases e'; have := (h.own_lt b e).1; omega)
theorem RdI.awayN {w w' : World} {v : Value} {zs : List Int} {row : Option Nat} (h : RdI w v zs) (hg : w.grownBy w' row) (hne : v.ownBlock = none ∨ v.ownBlock ≠ row) : RdI w' v zs := by
  obtain ⟨ao, cap, rfl, h1, h2, h3⟩ := h
  refine ⟨ao, cap, rfl, h1, h2, fun j hj => ?_⟩
  obtain ⟨b, off, rfl, e⟩ := h3 j hj
  refine ⟨b, off, rfl, hg.cell e ?_⟩
  rcases hne with hn | hn
  · simp [Value.ownBlock] at hn
  · exact hn
theorem RdI_lits (zs : List Int) (w : World) (t : TypeId) (hl : zs.length ≤ 1048576) : RdI (w.alloc (.cells (zs.map (Value.int .i64)).toArray t)) (.slice (some ⟨w.heap.size, 0, none⟩) zs.length zs.length) zs := by
  refine ⟨_, _, rfl, Nat.le_refl _, hl, fun j hj => ⟨_, _, rfl, ?_⟩⟩
  rw [World.cell?_alloc_at _ _ _ _ rfl]
  simp [hj, el]
theorem OwnI_lits (zs : List Int) (w : World) (base : Nat) (hb : base ≤ w.heap.size) (hl : zs.length ≤ 1048576) : OwnI base (w.alloc (.cells (zs.map (Value.int .i64)).toArray 2)) (.slice (some ⟨w.heap.size, 0, none⟩) zs.length zs.length) zs :=
  ⟨⟨by simp, .inr ⟨w.heap.size, zs.length, _, rfl, hb, heap_alloc_new w _, Nat.le_refl _, by unfold maxLen; omega, by simp, by simp [List.take_of_length_le]⟩⟩, hl⟩
theorem l01Pick_any (b : Nat) (cv v : Value) (zs : List Int) (w : World) (S : Src 58 b cv w) (h : RdI w v zs) (hne : v.ownBlock = none ∨ v.ownBlock ≠ some b) (h0 : 0 < zs.length) (hl : zs.length ≤ 1000) :
    Calls Tryd.prog 29 #[.pointer (some ⟨b, 0, none⟩), v] w fun e w' => ∃ x : Int, e = .returned (.int .i64 x) ∧ x ∈ zs ∧ Src 58 b cv w' ∧ w.grownBy w' (some b) := by
  have H := hid h
  have HN := hid hne
  obtain ⟨ao, cap, rfl, hcap, hmax, -⟩ := h
  clear hne
  go_enter Tryd.func29, Tryd.ntmps29
  go_wp2_with fail
  refine (l01Next_any b cv (zs.length : Int) _ S (by omega)).mono ?_
  rintro e w1 ⟨x, rfl, ⟨hx0, hx1, -⟩, S1, G1⟩
  have hx2 := hx1 (by omega)
  obtain ⟨k, rfl⟩ := Int.eq_ofNat_of_zero_le hx0
  have hk : k < zs.length := by omega
  obtain ⟨b', off, rfl, hcell⟩ := (RdI.awayN H.out G1 HN.out).at_ hk
  clear hx1
  go_wp2
  go_ret
  exact ⟨_, rfl, by rw [← el_at zs k hk]; exact List.getElem_mem _, S1, G1⟩
theorem all_mem {p : Int → Prop} {zs : List Int} (h : zs.all (fun x => @decide (p x) (Classical.propDecidable _)) = true) (x : Int) (hx : x ∈ zs) : p x := by
  have := List.all_eq_true.1 h x hx
  simpa using this
set_option maxHeartbeats 1000000 in
theorem l01Number_any (b : Nat) (cv : Value) (w : World) (S : Src 58 b cv w) :
    Calls Tryd.prog 44 #[.pointer (some ⟨b, 0, none⟩)] w fun e w' => ∃ x : Int, e = .returned (.int .i64 x) ∧ 0 ≤ x ∧ x ≤ 10006 ∧ Src 58 b cv w' ∧ w.grownBy w' (some b) := by
  go_enter Tryd.func44, Tryd.ntmps44
  go_wp2_with fail
  refine (l01Next_any b cv 5 _ S (by omega)).mono ?_
  rintro e w1 ⟨x, rfl, ⟨hx0, hx1, -⟩, S1, G1⟩
  clear hx1
  by_cases c0 : x = 0
  · go_wp2_with fail
    refine (l01Next_any b cv 10007 _ S1 (by omega)).mono ?_
    rintro e w2 ⟨y, rfl, ⟨hy0, hy1, -⟩, S2, G2⟩
    go_wp2
    go_ret
    exact ⟨y, rfl, hy0, by have := hy1 (by omega); omega, S2, grown_trans G1 G2⟩
  by_cases c1 : x = 1
  · have hb := S1.lt
    go_wp2_with fail
    refine (l01Pick_any b cv _ [0, 1, 0, 1, 10006, 2] _ (S1.alloc _) (RdI_lits [0, 1, 0, 1, 10006, 2] w1 2 (by simp)) (.inr (by simp [Value.ownBlock]; omega)) (by simp) (by simp)).mono ?_
    rintro e w2 ⟨y, rfl, hy, S2, G2⟩
    go_wp2
    go_ret
    refine ⟨y, rfl, ?_, ?_, S2, grown_trans (gb_alloc G1 _) G2⟩ <;> (simp at hy; omega)
  · go_wp2_with fail
    refine (l01Next_any b cv 15 _ S1 (by omega)).mono ?_
    rintro e w2 ⟨y, rfl, ⟨hy0, hy1, -⟩, S2, G2⟩
    have hy2 := hy1 (by omega)
    clear hy1
    go_wp2_with fail
    refine (l01Next_any b cv 12 _ S2 (by omega)).mono ?_
    rintro e w3 ⟨z, rfl, ⟨hz0, hz1, -⟩, S3, G3⟩
    have hz2 := hz1 (by omega)
    clear hz1
    go_wp2_with fail
    refine (l01Frac_any _ _ _).mono ?_
    rintro e w4 ⟨rfl, rfl⟩
    go_wp2
    go_ret
    exact ⟨_, rfl, (md_bd _).1, (md_bd _).2, S3, grown_trans G1 (grown_trans G2 G3)⟩
theorem l01Spoil_any (b : Nat) (cv : Value) (w : World) (S : Src 58 b cv w) :
    Calls Tryd.prog 28 #[.pointer (some ⟨b, 0, none⟩)] w fun e w' => ∃ x : Int, e = .returned (.int .i64 x) ∧ Src 58 b cv w' ∧ w.grownBy w' (some b) := by
  go_enter Tryd.func28, Tryd.ntmps28
  go_wp2_with fail
  refine (l01Next_any b cv 30 _ S (by omega)).mono ?_
  rintro e w1 ⟨x, rfl, ⟨hx0, hx1, -⟩, S1, G1⟩
  clear hx1
  by_cases c0 : x = 0
  · have hb := S1.lt
    go_wp2_with fail
    refine (l01Pick_any b cv _ [-1, 10007, 1099511627776, -4611686018427387904] _ (S1.alloc _) (RdI_lits [-1, 10007, 1099511627776, -4611686018427387904] w1 2 (by simp)) (.inr (by simp [Value.ownBlock]; omega)) (by simp) (by simp)).mono ?_
    rintro e w2 ⟨y, rfl, hy, S2, G2⟩
    go_wp2
    go_ret
    exact ⟨y, rfl, S2, grown_trans (gb_alloc G1 _) G2⟩
  · go_wp2_with fail
    refine (l01Number_any b cv _ S1).mono ?_
    rintro e w2 ⟨y, rfl, hy0, hy1, S2, G2⟩
    go_wp2
    go_ret
    exact ⟨y, rfl, S2, grown_trans G1 G2⟩
theorem nums_snoc {zs : List Int} {x : Int} (h : Nums zs) (h0 : 0 ≤ x) (h1 : x ≤ 10006) : Nums (zs ++ [x]) := by
  unfold Nums at *
  rw [List.all_append, h]
  simp [isNum_iff, h0, h1]
theorem nums_set {zs : List Int} {x : Int} (h : Nums zs) (j : Nat) (h0 : 0 ≤ x) (h1 : x ≤ 10006) : Nums (zs.set j x) := by
  unfold Nums at *
  rw [List.all_eq_true] at *
  intro y hy
  rcases List.mem_or_eq_of_mem_set hy with h2 | h2
  · exact h y h2
  · rw [h2, isNum_iff]; exact ⟨h0, h1⟩
end Go.Proofs.YtmhcpaffdchboaaDoor
