/-
  Words on memory for slices of slices of integers.
-/
import Derived.Test.YtmhcpaffdchboaaMem
namespace Go.Proofs.Ytmhcpaffdchboaa
open Go.RowKit
/-- The slice v reads, in w, as the rows. -/
def RdII (w : World) (v : Value) (rows : List (List Int)) : Prop :=
  ∃ (ao : Option Addr) (cap : Nat) (vs : Nat → Value), v = .slice ao rows.length cap ∧ rows.length ≤ cap ∧ rows.length ≤ 1048576 ∧
    ∀ j, j < rows.length → (∃ b off, ao = some ⟨b, off, none⟩ ∧ w.cell? ⟨b, off + j, none⟩ = some (vs j)) ∧ RdI w (vs j) (rowAt rows j)
theorem RdII.mono {w w' : World} {v : Value} {rows : List (List Int)} (h : RdII w v rows) (hb : Below w.heap.size w w') : RdII w' v rows := by
  obtain ⟨ao, cap, vs, h1, h2, h2', h3⟩ := h
  refine ⟨ao, cap, vs, h1, h2, h2', fun j hj => ?_⟩
  obtain ⟨⟨b, off, e1, e2⟩, e3⟩ := h3 j hj
  exact ⟨⟨b, off, e1, (hb.cell (World.block_lt_of_cell? w _ e2)).trans e2⟩, e3.mono hb⟩
theorem RdII.dr {w w' : World} {v : Value} {rows : List (List Int)} (h : RdII w v rows) (k : Dr w w') : RdII w' v rows := h.mono (k.below _)
theorem RdII.at_ {w : World} {ao : Option Addr} {n cap : Nat} {rows : List (List Int)} (h : RdII w (.slice ao n cap) rows) {k : Nat} (hk : k < rows.length) :
    ∃ b off u, ao = some ⟨b, off, none⟩ ∧ w.cell? ⟨b, off + k, none⟩ = some u ∧ RdI w u (rowAt rows k) := by
  obtain ⟨ao', cap', vs, e, _, _, hc⟩ := h
  simp only [Value.slice.injEq] at e
  obtain ⟨rfl, _, _⟩ := e
  obtain ⟨⟨b, off, e1, e2⟩, e3⟩ := hc k hk
  exact ⟨b, off, vs k, e1, e2, e3⟩
theorem RdII.len {w : World} {ao : Option Addr} {n cap : Nat} {rows : List (List Int)} (h : RdII w (.slice ao n cap) rows) : n = rows.length := by
  obtain ⟨ao', cap', vs, e, _⟩ := h
  simp only [Value.slice.injEq] at e
  exact e.2.1
theorem RdII_lit1 (w : World) (v : Value) (xs : List Int) (t : TypeId) (h : RdI w v xs) : RdII (w.alloc (.cells #[v] t)) (.slice (some ⟨w.heap.size, 0, none⟩) 1 1) [xs] := by
  refine ⟨_, _, fun _ => v, rfl, by simp, by simp, fun j hj => ⟨⟨_, _, rfl, ?_⟩, ?_⟩⟩
  · rw [World.cell?_alloc_at _ _ _ _ rfl]
    match j, hj with
    | 0, _ => rfl
  · match j, hj with
    | 0, _ => exact h.mono (below_alloc _ _)
theorem RdII_lit2 (w : World) (v u : Value) (xs ys : List Int) (t : TypeId) (h : RdI w v xs) (h' : RdI w u ys) :
    RdII (w.alloc (.cells #[v, u] t)) (.slice (some ⟨w.heap.size, 0, none⟩) 2 2) [xs, ys] := by
  refine ⟨_, _, fun j => if j = 0 then v else u, rfl, by simp, by simp, fun j hj => ⟨⟨_, _, rfl, ?_⟩, ?_⟩⟩
  · rw [World.cell?_alloc_at _ _ _ _ rfl]
    match j, hj with
    | 0, _ => rfl
    | 1, _ => rfl
  · match j, hj with
    | 0, _ => exact h.mono (below_alloc _ _)
    | 1, _ => exact h'.mono (below_alloc _ _)
theorem RdI_nil (w : World) : RdI w (.slice none 0 0) [] := ⟨none, 0, rfl, by simp, by simp, fun j hj => absurd hj (by simp)⟩
end Go.Proofs.Ytmhcpaffdchboaa
