/-
  Words on memory: what a slice reads as; what a call owns; and how both stay.
-/
import Derived.Test.YtmhcpaffdchboaaDoorPlain
import Derived.WalkKit
import Derived.Deep.QuietTactic
import Derived.BigQuiet
import Derived.ProofKit
import Derived.OpenShut
namespace Go.Proofs.YtmhcpaffdchboaaDoor
open Go.RowKit
theorem ret_int {k : IntKind} {a b : Int} (h : a = b) : Ending.returned (.int k a) = .returned (.int k b) := by rw [h]
theorem ret_bool {a b : Bool} (h : a = b) : Ending.returned (.bool a) = .returned (.bool b) := by rw [h]
theorem hid {p : Prop} (h : p) : Hid p := h
/-- The slice value v reads, in w, as the numbers zs. -/
def RdI (w : World) (v : Value) (zs : List Int) : Prop :=
  ∃ ao cap, v = .slice ao zs.length cap ∧ zs.length ≤ cap ∧ zs.length ≤ 1048576 ∧ ∀ j, j < zs.length → ∃ b off, ao = some ⟨b, off, none⟩ ∧ w.cell? ⟨b, off + j, none⟩ = some (.int .i64 (el zs j))
theorem RdI.mono {w w' : World} {v : Value} {zs : List Int} (h : RdI w v zs) (hb : Below w.heap.size w w') : RdI w' v zs := by
  obtain ⟨ao, cap, h1, h2, h2', h3⟩ := h
  refine ⟨ao, cap, h1, h2, h2', fun j hj => ?_⟩
  obtain ⟨b, off, e1, e2⟩ := h3 j hj
  exact ⟨b, off, e1, (hb.cell (World.block_lt_of_cell? w _ e2)).trans e2⟩
theorem RdI.form {w : World} {v : Value} {zs : List Int} (h : RdI w v zs) : ∃ ao cap, v = .slice ao zs.length cap := by
  obtain ⟨ao, cap, e, _⟩ := h
  exact ⟨ao, cap, e⟩
theorem RdI.at_ {w : World} {ao : Option Addr} {n cap : Nat} {zs : List Int} (h : RdI w (.slice ao n cap) zs) {k : Nat} (hk : k < zs.length) :
    ∃ b off, ao = some ⟨b, off, none⟩ ∧ w.cell? ⟨b, off + k, none⟩ = some (.int .i64 (el zs k)) := by
  obtain ⟨ao', cap', e, _, _, hc⟩ := h
  simp only [Value.slice.injEq] at e
  obtain ⟨rfl, _, _⟩ := e
  exact hc k hk
theorem RdI.lt {w : World} {b off : Nat} {x : Option Nat} {n cap : Nat} {zs : List Int} (h : RdI w (.slice (some ⟨b, off, x⟩) n cap) zs) (h0 : 0 < zs.length) : b < w.heap.size := by
  obtain ⟨b', off', e, hc⟩ := h.at_ h0
  simp only [Option.some.injEq, Addr.mk.injEq] at e
  obtain ⟨rfl, _, _⟩ := e
  exact World.block_lt_of_cell? w _ hc
theorem RdI.len {w : World} {ao : Option Addr} {n cap : Nat} {zs : List Int} (h : RdI w (.slice ao n cap) zs) : n = zs.length := by
  obtain ⟨ao', cap', e, _⟩ := h
  simp only [Value.slice.injEq] at e
  exact e.2.1
/-- w' is w but for draws of the tape. -/
def Dr (w w' : World) : Prop := ∃ n, w' = w.drewN n
theorem Dr.refl (w : World) : Dr w w := ⟨0, rfl⟩
theorem Dr.drewN {w w' : World} (h : Dr w w') (n : Nat) : Dr w (w'.drewN n) := by obtain ⟨m, rfl⟩ := h; exact ⟨m + n, World.drewN_drewN _ _ _⟩
theorem Dr.drew {w w' : World} (h : Dr w w') : Dr w w'.drew := h.drewN 1
theorem Dr.trans {w w' w'' : World} (h : Dr w w') (k : Dr w' w'') : Dr w w'' := by obtain ⟨n, rfl⟩ := k; exact h.drewN n
theorem below_drewN {B : Nat} {a w : World} (h : Below B a w) (n : Nat) : Below B a (w.drewN n) := ⟨h.os, h.tape, h.output, h.size, h.block⟩
theorem Dr.below {w w' : World} (h : Dr w w') (B : Nat) : Below B w w' := by obtain ⟨m, rfl⟩ := h; exact below_drewN (Below.refl _ _) m
theorem RdI.dr {w w' : World} {v : Value} {zs : List Int} (h : RdI w v zs) (k : Dr w w') : RdI w' v zs := h.mono (k.below _)
theorem quiet_same {P : Program} {f : FuncId} {args : Array Value} {w : World} {n : Nat} {v : Value}
    (h : Calls P f args (w.drewN n) fun e w' => e = .returned v ∧ w.drewN n = w') : Calls P f args (w.drewN n) fun e w'' => e = .returned v ∧ ∃ m, w'' = w.drewN m :=
  h.mono fun _ _ ⟨he, hm⟩ => ⟨he, n, hm.symm⟩
theorem quiet_dr {P : Program} {f : FuncId} {args : Array Value} {w : World} {n : Nat} {v : Value}
    (h : Calls P f args (w.drewN n) fun e w' => e = .returned v ∧ Dr (w.drewN n) w') : Calls P f args (w.drewN n) fun e w'' => e = .returned v ∧ ∃ m, w'' = w.drewN m :=
  h.mono fun _ _ ⟨he, m, hm⟩ => ⟨he, n + m, by rw [hm, World.drewN_drewN]⟩
theorem below_alloc (w : World) (o : Obj) : Below w.heap.size w (w.alloc o) := (Below.refl _ _).alloc (Nat.le_refl _) o
theorem below_drew (w : World) : Below w.heap.size w w.drew := (Below.refl _ _).drew
theorem nx {w w1 w2 : World} (h : Below w.heap.size w w1) (k : Below w1.heap.size w1 w2) : Below w.heap.size w w2 := h.trans (k.mono h.size)
theorem RdI_lit2 (w : World) (a b : Int) (t : TypeId) : RdI (w.alloc (.cells #[.int .i64 a, .int .i64 b] t)) (.slice (some ⟨w.heap.size, 0, none⟩) 2 2) [a, b] := by
  refine ⟨_, _, rfl, by simp, by simp, fun j hj => ⟨_, _, rfl, ?_⟩⟩
  rw [World.cell?_alloc_at _ _ _ _ rfl]
  match j, hj with
  | 0, _ => rfl
  | 1, _ => rfl
theorem RdI_lit1 (w : World) (a : Int) (t : TypeId) : RdI (w.alloc (.cells #[.int .i64 a] t)) (.slice (some ⟨w.heap.size, 0, none⟩) 1 1) [a] := by
  refine ⟨_, _, rfl, by simp, by simp, fun j hj => ⟨_, _, rfl, ?_⟩⟩
  rw [World.cell?_alloc_at _ _ _ _ rfl]
  match j, hj with
  | 0, _ => rfl
/-- The slice v, in a block of its own from base on, holds the numbers zs. -/
def OwnI (base : Nat) (w : World) (v : Value) (zs : List Int) : Prop :=
  w.ownsRow base 2 1 v zs.length (zs.map (Value.int .i64)) ∧ zs.length ≤ 1048576
theorem OwnI.mk {base : Nat} {w : World} {v : Value} {n : Nat} {xs : List Value} {zs : List Int} (h : w.ownsRow base 2 1 v n xs) (hx : xs = zs.map (Value.int .i64)) (hl : zs.length ≤ 1048576) : OwnI base w v zs := by
  have hn : n = zs.length := by have := h.1; rw [hx] at this; simpa using this.symm
  subst hn; subst hx
  exact ⟨h, hl⟩
theorem OwnI.nil (base : Nat) (w : World) : OwnI base w (.slice none 0 0) [] := ⟨World.ownsRow_nil _ _ _ _, by simp⟩
theorem OwnI.lit (w : World) (base : Nat) (hb : base ≤ w.heap.size) : OwnI base (w.alloc (.cells #[] 2)) (.slice (some ⟨w.heap.size, 0, none⟩) 0 0) [] :=
  ⟨World.ownsRow_lit w #[] 0 hb (by simp [maxLen]) rfl, by simp⟩
theorem OwnI.litAt {w : World} {base m : Nat} (hm : w.heap.size = m) (hb : base ≤ m) : OwnI base (w.alloc (.cells #[] 2)) (.slice (some ⟨m, 0, none⟩) 0 0) [] := by
  subst hm; exact OwnI.lit w base hb
theorem OwnI.rd {base : Nat} {w : World} {v : Value} {zs : List Int} (h : OwnI base w v zs) : RdI w v zs := by
  obtain ⟨h, hl⟩ := h
  rcases h.2 with ⟨rfl, h0⟩ | ⟨g, cap, cur, rfl, hb, hg, hn, hcm, hcs, ht⟩
  · exact ⟨none, 0, by rw [h0], by omega, hl, fun j hj => by omega⟩
  · refine ⟨_, cap, rfl, hn, hl, fun j hj => ⟨g, 0, rfl, ?_⟩⟩
    have := h.cellAt j (by omega)
    rw [Nat.zero_add, this, ← el_at zs j hj]
    simp [hj]
theorem OwnI.lim {base : Nat} {w : World} {v : Value} {zs : List Int} (h : OwnI base w v zs) : zs.length ≤ 1048576 := h.2
theorem OwnI.own_lt {base : Nat} {w : World} {v : Value} {zs : List Int} (h : OwnI base w v zs) : ∀ k, v.ownBlock = some k → base ≤ k ∧ k < w.heap.size := h.1.lt
theorem OwnI.grown {base : Nat} {w w' : World} {v : Value} {zs : List Int} {row : Option Nat} (h : OwnI base w v zs) (hg : w.grownBy w' row) (hne : v.ownBlock = none ∨ v.ownBlock ≠ row) : OwnI base w' v zs := ⟨h.1.kept hg hne, h.2⟩
theorem grownBy_of_below {w w' : World} (h : Below w.heap.size w w') (row : Option Nat) : w.grownBy w' row := ⟨h.os, h.tape, h.output, h.size, fun i hi _ => h.block i hi⟩
theorem OwnI.mono {base : Nat} {w w' : World} {v : Value} {zs : List Int} (h : OwnI base w v zs) (hb : Below w.heap.size w w') : OwnI base w' v zs :=
  h.grown (grownBy_of_below hb none) (by cases v.ownBlock <;> simp)
theorem OwnI.lower {base base' : Nat} {w : World} {v : Value} {zs : List Int} (h : OwnI base w v zs) (hb : base' ≤ base) : OwnI base' w v zs := by
  obtain ⟨⟨h1, h2⟩, hl⟩ := h
  refine ⟨⟨h1, ?_⟩, hl⟩
  rcases h2 with h2 | ⟨g, cap, cur, hv, hg, r⟩
  · exact .inl h2
  · exact .inr ⟨g, cap, cur, hv, by omega, r⟩
/-- The shape of an own slice that is not empty. -/
theorem OwnI.shape {base : Nat} {w : World} {v : Value} {zs : List Int} (h : OwnI base w v zs) (h0 : 0 < zs.length) :
    ∃ g cap, v = .slice (some ⟨g, 0, none⟩) zs.length cap ∧ base ≤ g ∧ g < w.heap.size ∧ zs.length ≤ cap ∧ (∀ j, w.frozen? ⟨g, j, none⟩ = false) ∧ (∀ j, j < zs.length → w.cell? ⟨g, j, none⟩ = some (.int .i64 (el zs j))) := by
  obtain ⟨h, hl⟩ := h
  rcases h.2 with ⟨_, h0'⟩ | ⟨g, cap, cur, rfl, hb, hg, hn, hcm, hcs, ht⟩
  · omega
  · refine ⟨g, cap, rfl, hb, (Array.getElem?_eq_some_iff.1 hg).1, hn, fun j => h.frozenAt j, fun j hj => ?_⟩
    rw [h.cellAt j (by omega), ← el_at zs j hj]
    simp [hj]
theorem OwnI.cell {base : Nat} {w : World} {g n cap : Nat} {zs : List Int} (h : OwnI base w (.slice (some ⟨g, 0, none⟩) n cap) zs) (j : Nat) (hj : j < zs.length) :
    w.cell? ⟨g, j, none⟩ = some (.int .i64 (el zs j)) := by
  obtain ⟨g', c, e, _, _, _, _, h2⟩ := h.shape (by omega)
  simp at e
  obtain ⟨rfl, _⟩ := e
  exact h2 j hj
theorem OwnI.len {base : Nat} {w : World} {ao : Option Addr} {n cap : Nat} {zs : List Int} (h : OwnI base w (.slice ao n cap) zs) : n = zs.length := by
  rcases h.1.2 with ⟨h, _⟩ | ⟨_, _, _, h, _⟩ <;> (simp at h; omega)
theorem OwnI.free {base : Nat} {w : World} {g n cap : Nat} {zs : List Int} (h : OwnI base w (.slice (some ⟨g, 0, none⟩) n cap) zs) (j : Nat) : w.frozen? ⟨g, j, none⟩ = false := by have hn := h.len; subst hn; exact h.1.frozenAt j
theorem OwnI.glt {base : Nat} {w : World} {g n cap : Nat} {zs : List Int} (h : OwnI base w (.slice (some ⟨g, 0, none⟩) n cap) zs) : base ≤ g ∧ g < w.heap.size := h.own_lt g rfl
theorem OwnI.form {base : Nat} {w : World} {v : Value} {zs : List Int} (h : OwnI base w v zs) : ∃ ao cap, v = .slice ao zs.length cap := by
  rcases h.1.2 with ⟨h, h0⟩ | ⟨g, cap, _, h, _⟩
  · exact ⟨none, 0, by rw [h, h0]⟩
  · exact ⟨_, cap, h⟩
theorem OwnI.addr {base : Nat} {w : World} {ao : Option Addr} {n cap : Nat} {zs : List Int} (h : OwnI base w (.slice ao n cap) zs) (h0 : 0 < zs.length) : ∃ g, ao = some ⟨g, 0, none⟩ := by
  obtain ⟨g, c, e, _⟩ := h.shape h0
  simp only [Value.slice.injEq] at e
  exact ⟨g, e.1⟩
/-- A store into an own slice. -/
theorem OwnI.set {base : Nat} {w : World} {g n cap : Nat} {zs : List Int} (h : OwnI base w (.slice (some ⟨g, 0, none⟩) n cap) zs) (j : Nat) (x : Int) :
    OwnI base (w.setCell ⟨g, j, none⟩ (.int .i64 x)) (.slice (some ⟨g, 0, none⟩) n cap) (zs.set j x) ∧ w.grownBy (w.setCell ⟨g, j, none⟩ (.int .i64 x)) (some g) := by
  have hn := h.len
  subst hn
  obtain ⟨h1, h2⟩ := h.1.stored j (.int .i64 x)
  refine ⟨OwnI.mk h1 ?_ (by simpa using h.2), h2⟩
  rw [List.map_set]
theorem ne_blocks {v u : Value} (B : Nat) (hv : ∀ b, v.ownBlock = some b → B ≤ b) (hu : ∀ b, u.ownBlock = some b → b < B) : v.ownBlock = none ∨ v.ownBlock ≠ u.ownBlock := by
  cases h : v.ownBlock with
  | none => exact .inl rfl
  | some b => exact .inr (fun e => by have h1 := hv b h; have h2 := hu b e.symm; omega)
theorem ne_blocks' {v u : Value} (B : Nat) (hv : ∀ b, v.ownBlock = some b → b < B) (hu : ∀ b, u.ownBlock = some b → B ≤ b) : v.ownBlock = none ∨ v.ownBlock ≠ u.ownBlock := by
  cases h : v.ownBlock with
  | none => exact .inl rfl
  | some b => exact .inr (fun e => by have h1 := hv b h; have h2 := hu b e.symm; omega)
theorem lt_of_lt_below {u : Value} {B : Nat} {w w' : World} (h : ∀ b, u.ownBlock = some b → b < B) (hB : B ≤ w.heap.size) (k : Below w.heap.size w w') : ∀ b, u.ownBlock = some b → b < w'.heap.size :=
  fun b hb => by have := h b hb; have := k.size; omega
/-- What is told of a slice of integers that came in: if it is not too long it reads as a list of numbers that fit. -/
def W64 (zs : List Int) : Prop := ∀ j, j < zs.length → -9223372036854775808 ≤ el zs j ∧ el zs j ≤ 9223372036854775807
def InI (w : World) (v : Value) : Prop := ∃ (ao : Option Addr) (n cap : Nat), v = .slice ao n cap ∧ n ≤ maxLen ∧ (n ≤ 1048576 → ∃ zs, RdI w v zs ∧ W64 zs ∧ zs.length = n)
theorem InI.open_ {H : Type} {enc : TypeId × Value → H} {P : Program} {W : World} {base : Nat} {t e : TypeId} {v : Value} {d : DataW H} {p : List MemPlace}
    (ht : P.underlying t = some (.slice e)) (he : P.underlying e = some (.int .i64)) (hc : P.cellsOf e = 1) (hv : Value.okWide P W .any base t v)
    (h : DataW.Trod enc P W 0 (fun _ => true) true t v d p) : InI W v := by
  obtain ⟨a0, len0, cap0, rfl⟩ := Go.WideShapes.okWide_slice ht hv
  obtain ⟨fuel, hf⟩ := h
  rcases Go.ChangeShapes.open_ints ht he hc hf with ⟨hcs, _⟩ | ⟨x, l, c, zs, hcs, _, hl, hm, hz, _, hcell, hwz⟩
  · simp [Value.cells] at hcs
    obtain ⟨rfl, rfl, rfl⟩ := hcs
    exact ⟨none, 0, 0, rfl, by simp [maxLen], fun _ => ⟨[], ⟨none, 0, rfl, by simp, by simp, fun j hj => absurd hj (by simp)⟩, fun j hj => absurd hj (by simp), rfl⟩⟩
  · simp [Value.cells] at hcs
    obtain ⟨rfl, rfl, rfl⟩ := hcs
    have hz' : zs.length = cap0 := by simpa using hz
    refine ⟨_, len0, cap0, rfl, by omega, fun hsmall => ⟨zs.take len0, ⟨some x, cap0, by simp; omega, by simp; omega, by simp; omega, fun j hj => ?_⟩, fun j hj => ?_, by simp; omega⟩⟩
    · have hj' : j < len0 := by simp at hj; omega
      obtain ⟨b, off, spot⟩ := x
      have h1 := hcell j (by omega)
      have h0 := hcell 0 (by omega)
      have hspot : spot = none := by simpa [Addr.add] using World.cell?_spot h0
      subst hspot
      refine ⟨b, off, rfl, ?_⟩
      rw [Addr.add_lit] at h1
      rw [h1]
      simp [el, hj']
    · have hj' : j < len0 := by simp at hj; omega
      have hw := hwz (zs.getD j 0) (by rw [List.getD_eq_getElem?_getD, List.getElem?_eq_getElem (by omega)]; exact List.getElem_mem _)
      have e : el (zs.take len0) j = zs.getD j 0 := by simp [el, hj']
      rw [e]
      simpa [Lit.wf, IntKind.min, IntKind.max, IntKind.signed, IntKind.bits] using hw
end Go.Proofs.YtmhcpaffdchboaaDoor
