/-
  Values in a stretch of blocks of the call's own; what turns within a stretch; the laws' own helpers on lists of lists.
-/
import Derived.Test.YtmhcpaffdchboaaMem2
import Derived.Test.YtmhcpaffdchboaaTreeC
import Derived.Test.YtmhcpaffdchboaaSlices
import Derived.Deep.QuietTactic
namespace Go.Proofs.Ytmhcpaffdchboaa
open Go.RowKit
set_option maxRecDepth 100000
/-- Nothing has turned but the blocks from lo to hi, and new ones. -/
structure Rng (lo hi : Nat) (w w' : World) : Prop where
  os : w'.os = w.os
  tape : w'.tape = w.tape
  output : w'.output = w.output
  size : w.heap.size ≤ w'.heap.size
  block : ∀ k, k < w.heap.size → (k < lo ∨ hi ≤ k) → w'.heap[k]? = w.heap[k]?
theorem Rng.refl (lo hi : Nat) (w : World) : Rng lo hi w w := ⟨rfl, rfl, rfl, Nat.le_refl _, fun _ _ _ => rfl⟩
theorem Rng.trans {lo hi : Nat} {a b c : World} (h : Rng lo hi a b) (k : Rng lo hi b c) : Rng lo hi a c :=
  ⟨k.os.trans h.os, k.tape.trans h.tape, k.output.trans h.output, Nat.le_trans h.size k.size, fun i hi ho => (k.block i (Nat.lt_of_lt_of_le hi h.size) ho).trans (h.block i hi ho)⟩
theorem Rng.of_grown {lo hi : Nat} {w w' : World} {row : Option Nat} (g : w.grownBy w' row) (hr : ∀ b, row = some b → lo ≤ b ∧ b < hi) : Rng lo hi w w' :=
  ⟨g.os, g.tape, g.output, g.size, fun k hk ho => g.block k hk (fun e => by have := hr k e.symm; omega)⟩
theorem Rng.below {lo hi : Nat} {w0 w w' : World} (h : Rng lo hi w w') (T : Below w0.heap.size w0 w) (hl : w0.heap.size ≤ lo) : Below w0.heap.size w0 w' :=
  ⟨h.os.trans T.os, h.tape.trans T.tape, h.output.trans T.output, Nat.le_trans T.size h.size, fun i hi => (h.block i (Nat.lt_of_lt_of_le hi T.size) (.inl (by omega))).trans (T.block i hi)⟩
theorem ownsRow_same {w w' : World} {base : Nat} {e : TypeId} {size : Nat} {v : Value} {n : Nat} {xs : List Value} (h : w.ownsRow base e size v n xs) (hs : ∀ b, v.ownBlock = some b → w'.heap[b]? = w.heap[b]?) : w'.ownsRow base e size v n xs := by
  refine ⟨h.1, ?_⟩
  rcases h.2 with hn | ⟨g, cap, cur, rfl, hb, hg, r⟩
  · exact .inl hn
  · exact .inr ⟨g, cap, cur, rfl, hb, (hs g rfl).trans hg, r⟩
/-- A list in a block of its own from lo to hi. -/
def HasI (lo hi : Nat) (w : World) (v : Value) (zs : List Int) : Prop := OwnI lo w v zs ∧ ∀ b, v.ownBlock = some b → b < hi
/-- A list of lists in blocks of its own from lo to hi. -/
def HasII (lo hi : Nat) (w : World) (v : Value) (zss : List (List Int)) : Prop :=
  ∃ us, Own2 lo w v us zss ∧ (∀ b, v.ownBlock = some b → b < hi) ∧ ∀ j, j < us.length → ∀ b, (vat us j).ownBlock = some b → b < hi
theorem HasI.of {lo : Nat} {w : World} {v : Value} {zs : List Int} (h : OwnI lo w v zs) : HasI lo w.heap.size w v zs := ⟨h, fun b hb => (h.own_lt b hb).2⟩
theorem HasII.of {lo : Nat} {w : World} {v : Value} {zss : List (List Int)} (h : OwnII lo w v zss) : HasII lo w.heap.size w v zss := by
  obtain ⟨us, h⟩ := h
  exact ⟨us, h, fun b hb => (h.lt b hb).2, fun j hj b hb => ((h.2.2.2.1 j hj).own_lt b hb).2⟩
section
variable {lo hi : Nat} {w w' : World} {v : Value} {zs : List Int} {zss : List (List Int)}
theorem HasI.rd (h : HasI lo hi w v zs) : RdI w v zs := h.1.rd
theorem HasII.rd (h : HasII lo hi w v zss) : RdII w v zss := by obtain ⟨us, h, _⟩ := h; exact h.rd
theorem HasI.lim (h : HasI lo hi w v zs) : zs.length ≤ 1048576 := h.1.lim
theorem HasI.mono (h : HasI lo hi w v zs) (hb : Below w.heap.size w w') : HasI lo hi w' v zs := ⟨h.1.mono hb, h.2⟩
theorem HasII.mono (h : HasII lo hi w v zss) (hb : Below w.heap.size w w') : HasII lo hi w' v zss := by
  obtain ⟨us, h, h1, h2⟩ := h; exact ⟨us, h.mono hb, h1, h2⟩
theorem OwnI.same (h : OwnI lo w v zs) (hs : ∀ b, v.ownBlock = some b → w'.heap[b]? = w.heap[b]?) : OwnI lo w' v zs := ⟨ownsRow_same h.1 hs, h.2⟩
theorem HasI.rng {lo' hi' : Nat} (h : HasI lo hi w v zs) (r : Rng lo' hi' w w') (d : hi ≤ lo' ∨ hi' ≤ lo) : HasI lo hi w' v zs :=
  ⟨h.1.same fun b hb => r.block b (h.1.own_lt b hb).2 (by have := h.2 b hb; have := (h.1.own_lt b hb).1; omega), h.2⟩
theorem HasII.rng {lo' hi' : Nat} (h : HasII lo hi w v zss) (r : Rng lo' hi' w w') (d : hi ≤ lo' ∨ hi' ≤ lo) : HasII lo hi w' v zss := by
  obtain ⟨us, h, h1, h2⟩ := h
  refine ⟨us, ⟨ownsRow_same h.1 fun b hb => r.block b (h.lt b hb).2 (by have := h1 b hb; have := (h.lt b hb).1; omega), h.2.1, h.2.2.1, fun j hj => (h.2.2.2.1 j hj).same fun b hb => ?_, h.2.2.2.2⟩, h1, h2⟩
  have a1 := (h.2.2.2.1 j hj).own_lt b hb
  have a2 := h2 j hj b hb
  exact r.block b a1.2 (by omega)
/-- A list of an own list of lists has turned in its own block. -/
theorem Own2.turned {base : Nat} {us : List Value} {z : List Int} (h : Own2 base w v us zss) (j : Nat) (hj : j < zss.length) (hg : w.grownBy w' (vat us j).ownBlock) (O : OwnI base w' (vat us j) z) : Own2 base w' v us (zss.set j z) := by
  have hl := h.len
  have hjl : j < us.length := by omega
  refine ⟨h.1.kept hg ((h.2.2.2.2.1 j hjl).symm.ne), by simpa using hl, by simpa using h.lim, fun i hi => ?_, h.2.2.2.2.1, h.2.2.2.2.2⟩
  rw [rowAt_set]
  by_cases hij : j = i
  · subst hij; rw [if_pos ⟨rfl, hj⟩]; exact O
  · rw [if_neg (fun x => hij x.1)]; exact (h.2.2.2.1 i hi).grown hg (h.2.2.2.2.2 i j hi hjl (fun e => hij e.symm)).ne
end
/-- The rows with the numbers from k on in their places. -/
def upLL (zss : List (List Int)) (k : Int) : List (List Int) := (List.range zss.length).map fun j => upFrom (k + tot (zss.take j)) (rowAt zss j).length
theorem upLL_length (zss : List (List Int)) (k : Int) : (upLL zss k).length = zss.length := by simp [upLL]
theorem upLL_at (zss : List (List Int)) (k : Int) (j : Nat) (h : j < zss.length) : rowAt (upLL zss k) j = upFrom (k + tot (zss.take j)) (rowAt zss j).length := by simp [upLL, rowAt, h]
def markedLL (zss : List (List Int)) (k : Int) (j : Nat) : List (List Int) := (upLL zss k).take j ++ zss.drop j
theorem markedLL_zero (zss : List (List Int)) (k : Int) : markedLL zss k 0 = zss := by simp [markedLL]
theorem markedLL_all (zss : List (List Int)) (k : Int) : markedLL zss k zss.length = upLL zss k := by
  rw [markedLL, List.drop_length, List.append_nil, ← upLL_length zss k, List.take_length]
theorem markedLL_length (zss : List (List Int)) (k : Int) (j : Nat) : (markedLL zss k j).length = zss.length := by simp [markedLL, upLL_length]; omega
theorem markedLL_at (zss : List (List Int)) (k : Int) (j : Nat) (h : j < zss.length) : rowAt (markedLL zss k j) j = rowAt zss j := by
  unfold markedLL rowAt
  rw [List.getD_eq_getElem?_getD, List.getElem?_append_right (by simp [upLL_length]; omega), List.length_take, upLL_length, Nat.min_eq_left (by omega), Nat.sub_self, List.getElem?_drop, Nat.add_zero, List.getD_eq_getElem?_getD]
theorem markedLL_succ (zss : List (List Int)) (k : Int) (j : Nat) (h : j < zss.length) : (markedLL zss k j).set j (upFrom (k + tot (zss.take j)) (rowAt zss j).length) = markedLL zss k (j + 1) := by
  unfold markedLL
  rw [List.set_append_right _ _ (by simp [upLL_length]; omega), List.length_take, upLL_length, Nat.min_eq_left (by omega), Nat.sub_self, List.drop_eq_getElem_cons h, List.set_cons_zero,
    List.take_succ_eq_append_getElem (by rw [upLL_length]; exact h), rowAt_at (upLL zss k) j (by rw [upLL_length]; exact h), upLL_at zss k j h]
  simp
theorem tot_take_succ (zss : List (List Int)) (j : Nat) (h : j < zss.length) : tot (zss.take (j + 1)) = tot (zss.take j) + (rowAt zss j).length := by
  rw [List.take_succ_eq_append_getElem h, rowAt_at zss j h, tot_append]; simp [tot]
theorem markI_has (lo hi : Nat) (v : Value) (zs : List Int) (k : Int) (w : World) (O : HasI lo hi w v zs) (hk : 0 ≤ k) (hk' : k ≤ 1000000000) :
    Calls Try.prog 24 #[v, .int .i64 k] w fun e w' => e = .returned (.int .i64 (k + zs.length)) ∧ HasI lo hi w' v (upFrom k zs.length) ∧ Rng lo hi w w' :=
  (markI_any lo v zs k w O.1 hk hk').mono fun _ _ ⟨he, O', G⟩ => ⟨he, ⟨O', O.2⟩, Rng.of_grown G (fun b hb => ⟨(O.1.own_lt b hb).1, O.2 b hb⟩)⟩
theorem markII_has (lo hi : Nat) (v : Value) (zss : List (List Int)) (k : Int) (w : World) (O : HasII lo hi w v zss) (ht : tot zss ≤ 1048576) (hk : 0 ≤ k) (hk' : k ≤ 100000000) :
    Calls Try.prog 14 #[v, .int .i64 k] w fun e w' => e = .returned (.int .i64 (k + tot zss)) ∧ HasII lo hi w' v (upLL zss k) ∧ Rng lo hi w w' := by
  obtain ⟨us, O, hv, hu⟩ := O
  obtain ⟨ao, cap, rfl⟩ := O.form
  have hlim := O.lim
  have hul := hid O.len
  have HU := hid hu
  have HV := hid hv
  clear hu hv
  go_enter Try.func14, Try.ntmps14
  go_wp2
  go_loopw [1, 5] (fun q i wr => ∃ j : Nat, j ≤ zss.length ∧ i = .int .i64 j ∧ q = .int .i64 (k + (tot (zss.take j) : Nat)) ∧ Own2 lo wr (.slice ao zss.length cap) us (markedLL zss k j) ∧ Rng lo hi w wr) (fun _ i _ => zss.length - (intOf i).toNat)
  case atStart => exact ⟨0, Nat.zero_le _, rfl, by simp [tot], by rw [markedLL_zero]; exact O, Rng.refl _ _ _⟩
  case round =>
    obtain ⟨j, hj, rfl, rfl, Oj, Rj⟩ := hrel
    by_cases hlt : j < zss.length
    · have hml := markedLL_length zss k j
      obtain ⟨g, rfl⟩ := Oj.addr (by rw [hml]; omega)
      have hcell := Oj.cell j (by rw [hml]; exact hlt)
      have ho := Oj.own j (by rw [hml]; exact hlt)
      rw [markedLL_at zss k j hlt] at ho
      have ht1 := tot_take zss j
      have ht2 := tot_take_succ zss j hlt
      have HO := hid ho
      have HT := hid ht2
      have HML := hid hml
      clear ho ht2 hml
      go_wp2_with (go_at_call 24; refine (markI_any lo (vat us j) (rowAt zss j) _ _ HO.out (by omega) (by omega)).mono ?_; rintro e w2 ⟨rfl, O2, G2⟩)
      have O3 := Oj.turned j (by rw [HML.out]; exact hlt) G2 O2
      rw [markedLL_succ zss k j hlt] at O3
      go_roundw
      case rel => exact ⟨j + 1, by omega, by go_num, by rw [HT.out]; go_num, O3, Rj.trans (Rng.of_grown G2 (fun b hb => ⟨(HO.out.own_lt b hb).1, HU.out j (by rw [hul.out]; exact hlt) b hb⟩))⟩
      case measure => simp [intOf]; omega
    · go_wp2
      go_ret
      obtain rfl : j = zss.length := by omega
      rw [markedLL_all] at Oj
      rw [List.take_length]
      exact ⟨rfl, ⟨us, Oj, HV.out, HU.out⟩, Rj⟩
theorem heldII_any (v : Value) (zss : List (List Int)) (k : Int) (w : World) (h : RdII w v (upLL zss k)) (ht : tot zss ≤ 1048576) (hk : 0 ≤ k) (hk' : k ≤ 100000000) :
    Calls Try.prog 15 #[v, .int .i64 k] w fun e w' => e = .returned (.int .i64 (k + tot zss)) ∧ w = w' := by
  have H := hid h
  obtain ⟨ao, cap, vs, rfl, hcap, hmax, -⟩ := h
  rw [upLL_length] at hcap hmax ⊢
  go_enter Try.func15, Try.ntmps15
  go_wp2
  go_loop [1, 5] (fun q i => ∃ j : Nat, j ≤ zss.length ∧ i = .int .i64 j ∧ q = .int .i64 (k + (tot (zss.take j) : Nat))) (fun _ i => zss.length - (intOf i).toNat)
  case atStart => exact ⟨0, Nat.zero_le _, rfl, by simp [tot]⟩
  case round =>
    obtain ⟨j, hj, rfl, rfl⟩ := hrel
    by_cases hlt : j < zss.length
    · obtain ⟨b, off, u, rfl, hcell, hu⟩ := H.out.at_ (k := j) (by rw [upLL_length]; exact hlt)
      rw [upLL_at _ _ _ hlt] at hu
      have ht1 := tot_take zss j
      have ht2 := tot_take_succ zss j hlt
      have ht3 := tot_take zss (j + 1)
      have HU := hid hu
      have HT := hid ht2
      have hn : 0 ≤ k + (tot (zss.take j) : Nat) + ((rowAt zss j).length : Int) := by omega
      clear hu ht2
      go_wp2_with (go_at_call 25; refine (heldI_any _ (rowAt zss j).length _ _ HU.out (by omega) (by omega)).mono ?_; rintro e w2 ⟨rfl, rfl⟩)
      go_round
      case rel => exact ⟨j + 1, by omega, by go_num, by rw [HT.out]; go_num⟩
      case measure => simp [intOf]; omega
    · go_wp2
      go_ret
      obtain rfl : j = zss.length := by omega
      rw [List.take_length]
      exact ⟨rfl, rfl⟩
theorem eqII_same (v u : Value) (zss : List (List Int)) (w : World) (h : RdII w v zss) (h' : RdII w u zss) :
    Calls Try.prog 13 #[v, u] w fun e w' => e = .returned (.bool true) ∧ Dr w w' := by
  have H := hid h
  have H' := hid h'
  obtain ⟨ao, cap, vs, rfl, hcap, hmax, -⟩ := h
  obtain ⟨ao', cap', vs', rfl, hcap', hmax', -⟩ := h'
  go_enter Try.func13, Try.ntmps13
  go_wp2
  go_loopw [5] (fun i wr => ∃ k : Nat, k ≤ zss.length ∧ i = .int .i64 k ∧ Dr w wr) (fun i _ => zss.length - (intOf i).toNat)
  case atStart => exact ⟨0, Nat.zero_le _, rfl, Dr.refl _⟩
  case round =>
    obtain ⟨k, hk, rfl, hdr⟩ := hrel
    by_cases hlt : k < zss.length
    · obtain ⟨b, off, x, rfl, hcell, hx⟩ := (H.out.dr hdr).at_ hlt
      obtain ⟨b', off', y, rfl, hcell', hy⟩ := (H'.out.dr hdr).at_ hlt
      have HX := hid hx
      have HY := hid hy
      have HD := hid hdr
      clear hx hy hdr
      go_wp2_with fail
      go_quiet ((go_at_call 23; exact quiet_dr ((eqInt64S_any x y (rowAt zss k) (rowAt zss k) _ (HX.out.mono (below_drewN (Below.refl _ _) _)) (HY.out.mono (below_drewN (Below.refl _ _) _))).mono fun _ _ ⟨h, d⟩ => ⟨h.trans (congrArg (fun b => Ending.returned (.bool b)) (sameL_self _)), d⟩)))
      go_wp2
      go_roundw
      case rel => exact ⟨k + 1, by omega, by go_num, HD.out.drewN _⟩
      case measure => simp [intOf]; omega
    · go_wp2
      go_ret
      exact ⟨rfl, hdr⟩
end Go.Proofs.Ytmhcpaffdchboaa
