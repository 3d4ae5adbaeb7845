/-
  The sources of numbers that follow from a code: a struct behind a pointer that holds a list of bytes, a place and a hash; what a draw leaves.
-/
import Derived.Test.YtmhcpaffdchboaaDoorField
import Derived.Test.YtmhcpaffdchboaaDoorMem
import Derived.Laws.BitsAllLaws
import Derived.StillTailTactics
namespace Go.Proofs.YtmhcpaffdchboaaDoor
open Go.RowKit
set_option maxRecDepth 100000
/-- The slice v, below block B, reads in w as n bytes. -/
def RdB (B : Nat) (w : World) (v : Value) (n : Nat) : Prop :=
  ∃ ao cap, v = .slice ao n cap ∧ n ≤ cap ∧ n ≤ 4096 ∧ ∀ j, j < n → ∃ b off x, ao = some ⟨b, off, none⟩ ∧ b < B ∧ (0 : Int) ≤ x ∧ x ≤ 255 ∧ w.cell? ⟨b, off + j, none⟩ = some (.int .u8 x)
theorem RdB.mono {B : Nat} {w w' : World} {v : Value} {n : Nat} (h : RdB B w v n) (hb : Below B w w') : RdB B w' v n := by
  obtain ⟨ao, cap, e, h1, h2, h3⟩ := h
  refine ⟨ao, cap, e, h1, h2, fun j hj => ?_⟩
  obtain ⟨b, off, x, e1, e2, e3, e4, e5⟩ := h3 j hj
  exact ⟨b, off, x, e1, e2, e3, e4, (hb.cell (p := ⟨b, off + j, none⟩) e2).trans e5⟩
theorem RdB.lower {B B' : Nat} {w : World} {v : Value} {n : Nat} (h : RdB B w v n) (hb : B ≤ B') : RdB B' w v n := by
  obtain ⟨ao, cap, e, h1, h2, h3⟩ := h
  refine ⟨ao, cap, e, h1, h2, fun j hj => ?_⟩
  obtain ⟨b, off, x, e1, e2, e3⟩ := h3 j hj
  exact ⟨b, off, x, e1, by omega, e3⟩
/-- A law's argument []byte. -/
def InB (w : World) (v : Value) : Prop := ∃ (ao : Option Addr) (n cap : Nat), v = .slice ao n cap ∧ n ≤ maxLen ∧ (n ≤ 4096 → RdB w.heap.size w v n)
theorem InB.open_ {H : Type} {enc : TypeId × Value → H} {P : Program} {W : World} {base : Nat} {t e : TypeId} {v : Value} {d : DataW H} {p : List MemPlace}
    (ht : P.underlying t = some (.slice e)) (he : P.underlying e = some (.int .u8)) (hc : P.cellsOf e = 1) (hv : Value.okWide P W .any base t v)
    (h : DataW.Trod enc P W 0 (fun _ => true) true t v d p) : InB W v := by
  obtain ⟨a0, len0, cap0, rfl⟩ := Go.WideShapes.okWide_slice ht hv
  obtain ⟨fuel, hf⟩ := h
  rcases Go.ChangeShapes.open_ints ht he hc hf with ⟨hcs, _⟩ | ⟨x, l, c, zs, hcs, _, hl, hm, hz, _, hcell, hwz⟩
  · simp [Value.cells] at hcs
    obtain ⟨rfl, rfl, rfl⟩ := hcs
    exact ⟨none, 0, 0, rfl, by simp [maxLen], fun _ => ⟨none, 0, rfl, by simp, by simp, fun j hj => absurd hj (by simp)⟩⟩
  · simp [Value.cells] at hcs
    obtain ⟨rfl, rfl, rfl⟩ := hcs
    have hz' : zs.length = cap0 := by simpa using hz
    refine ⟨_, len0, cap0, rfl, by omega, fun hsmall => ⟨some x, cap0, rfl, hl, hsmall, fun j hj => ?_⟩⟩
    obtain ⟨b, off, spot⟩ := x
    have h1 := hcell j (by omega)
    have h0 := hcell 0 (by omega)
    have hspot : spot = none := by simpa [Addr.add] using World.cell?_spot h0
    subst hspot
    rw [Addr.add_lit] at h1
    have hw := hwz (zs.getD j 0) (by rw [List.getD_eq_getElem?_getD, List.getElem?_eq_getElem (by omega)]; exact List.getElem_mem _)
    have hw' : 0 ≤ zs.getD j 0 ∧ zs.getD j 0 ≤ 255 := by simpa [Lit.wf, IntKind.min, IntKind.max, IntKind.signed, IntKind.bits] using hw
    exact ⟨b, off, zs.getD j 0, rfl, World.block_lt_of_cell? _ _ h1, hw'.1, hw'.2, h1⟩
/-- The source in block b, of the struct type t, over the bytes cv. -/
structure Src (t : TypeId) (b : Nat) (cv : Value) (w : World) : Prop where
  rd : ∃ n, RdB b w cv n
  cells : ∃ (i : Nat) (h : Int), i ≤ 4096 ∧ 0 ≤ h ∧ h ≤ 18446744073709551615 ∧ w.heap[b]? = some (.cells #[cv, .int .i64 i, .int .u64 h] t (0, 0))
theorem Src.lt {t : TypeId} {b : Nat} {cv : Value} {w : World} (h : Src t b cv w) : b < w.heap.size := by obtain ⟨_, _, _, _, _, e⟩ := h.cells; exact lt_of_block e
theorem Src.grown {t : TypeId} {b : Nat} {cv : Value} {w w' : World} {row : Option Nat} (h : Src t b cv w) (hg : w.grownBy w' row) (hr : ∀ r, row = some r → b < r) : Src t b cv w' := by
  have hlt := h.lt
  obtain ⟨⟨n, ao, cap, e, h1, h2, h3⟩, i, x, a1, a2, a3, a4⟩ := h
  refine ⟨⟨n, ao, cap, e, h1, h2, fun j hj => ?_⟩, i, x, a1, a2, a3, ?_⟩
  · obtain ⟨b', off, x, e1, e2, e3, e4, e5⟩ := h3 j hj
    exact ⟨b', off, x, e1, e2, e3, e4, hg.cell e5 (fun he => by have := hr b' he.symm; omega)⟩
  · rw [hg.block b hlt (fun he => by have := hr b he.symm; omega)]; exact a4
theorem Src.mono {t : TypeId} {b : Nat} {cv : Value} {w w' : World} (h : Src t b cv w) (hb : Below w.heap.size w w') : Src t b cv w' :=
  h.grown (grownBy_of_below hb none) (fun r hr => by cases hr)
theorem grown_set (w : World) (b j : Nat) (v : Value) : w.grownBy (w.setCell ⟨b, j, none⟩ v) (some b) :=
  ⟨rfl, rfl, rfl, by simp, fun k _ hk => heap_setCell_other w ⟨b, j, none⟩ k v (fun e => hk (by simp [e]))⟩
theorem grown_trans {w w1 w2 : World} {r : Option Nat} (h : w.grownBy w1 r) (k : w1.grownBy w2 r) : w.grownBy w2 r :=
  ⟨k.os.trans h.os, k.tape.trans h.tape, k.output.trans h.output, Nat.le_trans h.size k.size, fun i hi hne => (k.block i (Nat.lt_of_lt_of_le hi h.size) hne).trans (h.block i hi hne)⟩
theorem grown_refl (w : World) (r : Option Nat) : w.grownBy w r := ⟨rfl, rfl, rfl, Nat.le_refl _, fun _ _ _ => rfl⟩
theorem grown_drew {w w' : World} {r : Option Nat} (h : w.grownBy w' r) : w.grownBy w'.drew r := ⟨h.os, h.tape, h.output, h.size, h.block⟩
theorem grown_drewN {w w' : World} {r : Option Nat} (h : w.grownBy w' r) (n : Nat) : w.grownBy (w'.drewN n) r := ⟨h.os, h.tape, h.output, h.size, h.block⟩
theorem below_of_grow {B b : Nat} {w0 w w' : World} (T : Below B w0 w) (hg : w.grownBy w' (some b)) (hB : B ≤ b) (hs : B ≤ w.heap.size) : Below B w0 w' :=
  T.grown hg hs (fun k hk => by cases hk; exact hB)
theorem Src.setHash {t : TypeId} {b : Nat} {cv : Value} {w : World} {x : Int} (h : Src t b cv w) (h0 : 0 ≤ x) (h1 : x ≤ 18446744073709551615) : Src t b cv (w.setCell ⟨b, 2, none⟩ (.int .u64 x)) := by
  obtain ⟨⟨n, ao, cap, e, h1', h2, h3⟩, i, y, a1, a2, a3, a4⟩ := h
  refine ⟨⟨n, ao, cap, e, h1', h2, fun j hj => ?_⟩, i, x, a1, h0, h1, ?_⟩
  · obtain ⟨b', off, z, e1, e2, e3, e4, e5⟩ := h3 j hj
    exact ⟨b', off, z, e1, e2, e3, e4, (grown_set w b 2 _).cell e5 (fun he => by simp at he; omega)⟩
  · rw [heap_setCell_same w b 2 _ t _ a4]; rfl
theorem Src.setAt {t : TypeId} {b : Nat} {cv : Value} {w : World} {k : Nat} (h : Src t b cv w) (h0 : k ≤ 4096) : Src t b cv (w.setCell ⟨b, 1, none⟩ (.int .i64 k)) := by
  obtain ⟨⟨n, ao, cap, e, h1', h2, h3⟩, i, y, a1, a2, a3, a4⟩ := h
  refine ⟨⟨n, ao, cap, e, h1', h2, fun j hj => ?_⟩, k, y, h0, a2, a3, ?_⟩
  · obtain ⟨b', off, z, e1, e2, e3, e4, e5⟩ := h3 j hj
    exact ⟨b', off, z, e1, e2, e3, e4, (grown_set w b 1 _).cell e5 (fun he => by simp at he; omega)⟩
  · rw [heap_setCell_same w b 1 _ t _ a4]; rfl
theorem Src.drew {t : TypeId} {b : Nat} {cv : Value} {w : World} (h : Src t b cv w) : Src t b cv w.drew := h.mono (below_drew w)
theorem Src.drewN {t : TypeId} {b : Nat} {cv : Value} {w : World} (h : Src t b cv w) (n : Nat) : Src t b cv (w.drewN n) := h.mono (below_drewN (Below.refl _ _) n)
/-- What a draw from 0 to n - 1 answers. -/
def InN (n x : Int) : Prop := 0 ≤ x ∧ (1 ≤ n → x < n) ∧ (n < 1 → x = 0)
theorem drawn_bd (h : Int) : 0 ≤ bits .and .u64 h 16777215 ∧ bits .and .u64 h 16777215 ≤ 16777215 := by
  show 0 ≤ IntKind.u64.wrap ((BitVec.ofInt 64 h &&& BitVec.ofInt 64 16777215).toNat : Int) ∧ IntKind.u64.wrap ((BitVec.ofInt 64 h &&& BitVec.ofInt 64 16777215).toNat : Int) ≤ 16777215
  have h1 : (BitVec.ofInt 64 h &&& BitVec.ofInt 64 16777215).toNat ≤ 16777215 := by
    rw [BitVec.toNat_and]
    exact Nat.le_trans Nat.and_le_right (by decide)
  rw [IntKind.wrap_u64]
  omega
theorem drawn_mod (x n : Int) (hx : 0 ≤ x) (hn : 1 ≤ n) : InN n (x.tmod n) := by
  rw [Int.tmod_eq_emod_of_nonneg hx]
  exact ⟨Int.emod_nonneg _ (by omega), fun _ => Int.emod_lt_of_pos _ (by omega), fun h => by omega⟩
theorem u64_bd (n : Int) : 0 ≤ IntKind.u64.wrap n ∧ IntKind.u64.wrap n ≤ 18446744073709551615 := by rw [IntKind.wrap_u64]; omega
theorem l01Next_any (b : Nat) (cv : Value) (n : Int) (w : World) (S : Src 58 b cv w) (hn : n ≤ 1000000000) :
    Calls Tryd.prog 27 #[.pointer (some ⟨b, 0, none⟩), .int .i64 n] w fun e w' => ∃ x : Int, e = .returned (.int .i64 x) ∧ InN n x ∧ Src 58 b cv w' ∧ w.grownBy w' (some b) := by
  have HS := hid S
  by_cases h1 : n < 1
  · go_enter Tryd.func27, Tryd.ntmps27
    go_wp2
    go_ret
    exact ⟨0, rfl, ⟨by omega, fun h => by omega, fun _ => rfl⟩, HS.out, grown_refl _ _⟩
  · have h1' : 1 ≤ n := by omega
    clear h1
    obtain ⟨⟨m, ao, cap, rfl, hmc, hm, hcb⟩, i, h, hi, hh0, hh1, hblk⟩ := S
    have hlt := lt_of_block hblk
    have c0 : w.cell? ⟨b, 0, none⟩ = some (.slice ao m cap) := by simp [World.cell?, hblk]
    have c1 : w.cell? ⟨b, 1, none⟩ = some (.int .i64 i) := by simp [World.cell?, hblk]
    have c2 : w.cell? ⟨b, 2, none⟩ = some (.int .u64 h) := by simp [World.cell?, hblk]
    have f1 : w.frozen? ⟨b, 1, none⟩ = false := by simp [World.frozen?, hblk]
    have f2 : w.frozen? ⟨b, 2, none⟩ = false := by simp [World.frozen?, hblk]
    clear hblk
    by_cases hlt2 : i < m
    · obtain ⟨b', off, x, rfl, hb', hx0, hx1, hcx⟩ := hcb i hlt2
      have hcx' : ∀ y, (w.setCell ⟨b, 2, none⟩ y).cell? ⟨b', off + i, none⟩ = some (.int .u8 x) := fun y => (grown_set w b 2 y).cell hcx (fun he => by simp at he; omega)
      clear hcb hcx
      go_enter Tryd.func27, Tryd.ntmps27
      go_wp2_with fail
      go_quiet (fail)
      go_wp2_with fail
      go_quiet (fail)
      go_wp2
      go_ret
      refine ⟨_, rfl, ?_, ?_, ?_⟩
      · have hb1 := drawn_bd (IntKind.u64.wrap (IntKind.u64.wrap (h * 6364136223846793005) + 1442695040888963407) / 8589934592)
        rw [IntWalk.wrap64_in (bits _ _ _ _) (by omega), IntWalk.wrap64_in _ (by omega)]
        exact drawn_mod _ _ (by omega) h1'
      · exact ((HS.out.setHash (u64_bd _).1 (u64_bd _).2).drewN _).setAt (k := i + 1) (by omega)
      · exact grown_trans (grown_drewN (grown_set _ _ _ _) _) (grown_set _ _ _ _)
    · clear hcb
      go_enter Tryd.func27, Tryd.ntmps27
      go_wp2_with fail
      go_quiet (fail)
      go_wp2
      go_ret
      refine ⟨_, rfl, ?_, ?_, ?_⟩
      · have hb1 := drawn_bd (IntKind.u64.wrap (IntKind.u64.wrap (h * 6364136223846793005) + 1442695040888963407) / 8589934592)
        rw [IntWalk.wrap64_in _ (by omega)]
        exact drawn_mod _ _ (by omega) h1'
      · exact (HS.out.setHash (u64_bd _).1 (u64_bd _).2).drewN _
      · exact grown_drewN (grown_set _ _ _ _) _
theorem Src.new (t : TypeId) (cv : Value) (n : Nat) (x : Int) (w : World) (h : RdB w.heap.size w cv n) (h0 : 0 ≤ x) (h1 : x ≤ 18446744073709551615) : Src t w.heap.size cv (w.alloc (.cells #[cv, .int .i64 0, .int .u64 x] t)) :=
  ⟨⟨n, h.mono (below_alloc w _)⟩, 0, x, by omega, h0, h1, heap_alloc_new w _⟩
theorem l01From_any (cv : Value) (n : Nat) (w : World) (h : RdB w.heap.size w cv n) :
    Calls Tryd.prog 26 #[cv] w fun e w' => e = .returned (.pointer (some ⟨w.heap.size, 0, none⟩)) ∧ Src 58 w.heap.size cv w' ∧ Below w.heap.size w w' := by
  have H := hid h
  obtain ⟨ao, cap, rfl, hnc, hn, hcb⟩ := h
  clear hcb
  go_enter Tryd.func26, Tryd.ntmps26
  go_wp2
  go_loopw [4] (fun i wr => ∃ k : Nat, k ≤ n ∧ i = .int .i64 k ∧ Src 58 w.heap.size (.slice ao n cap) wr ∧ Below w.heap.size w wr) (fun i _ => n - (intOf i).toNat)
  case atStart => exact ⟨0, Nat.zero_le _, rfl, Src.new _ _ n _ w H.out (by omega) (by omega), below_alloc _ _⟩
  case round =>
    obtain ⟨k, hk, rfl, S, Bl⟩ := hrel
    by_cases hlt : k < n
    · have HS := hid S
      obtain ⟨_, i, h, hi, hh0, hh1, hblk⟩ := S
      have c2 : wr.cell? ⟨w.heap.size, 2, none⟩ = some (.int .u64 h) := by simp [World.cell?, hblk]
      have f2 : wr.frozen? ⟨w.heap.size, 2, none⟩ = false := by simp [World.frozen?, hblk]
      clear hblk
      obtain ⟨_, _, e0, _, _, hcb⟩ := H.out.mono Bl
      cases e0
      obtain ⟨b', off, x, rfl, hb', hx0, hx1, hcx⟩ := hcb k hlt
      clear hcb
      have hk1 : (k : Int) < 4096 := by omega
      have hk2 : (k : Int) < (n : Int) := by omega
      have hk3 : (0 : Int) ≤ (k : Int) := by omega
      go_wp2_with fail
      go_still_tail 15, (by kernel_rfl)
      change wpList _ _ _ _ _ wr.drew
      go_wp2
      go_roundw
      case rel => exact ⟨k + 1, by omega, by go_num, (HS.out.setHash (u64_bd _).1 (u64_bd _).2).drew, (below_of_grow Bl (grown_set _ _ _ _) (Nat.le_refl _) Bl.size).drew⟩
      case measure => simp [intOf]; omega
    · have hd : decide ((k : Int) < (n : Int)) = false := by simp; omega
      go_wp2
      go_ret
      exact ⟨rfl, S, Bl⟩
end Go.Proofs.YtmhcpaffdchboaaDoor
