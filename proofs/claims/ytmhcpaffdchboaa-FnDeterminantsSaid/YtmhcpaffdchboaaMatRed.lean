/-
  The walk of the reduction of rows.
-/
import Derived.Test.YtmhcpaffdchboaaClone
import Derived.Test.YtmhcpaffdchboaaSerFns
import Derived.Test.YtmhcpaffdchboaaLin2
import Derived.StillTailTactics
namespace Go.Proofs.Ytmhcpaffdchboaa
open Go.RowKit
set_option maxRecDepth 100000
theorem RdI.formL {w : World} {v : Value} {n : Nat} {f : PS} (h : RdI w v (lst n f)) : ∃ ao cap, v = .slice ao n cap ∧ n ≤ cap ∧ n ≤ 1048576 := by
  obtain ⟨ao, cap, e, h1, h2, _⟩ := h
  simp only [lst_length] at e h1 h2
  exact ⟨ao, cap, e, h1, h2⟩
theorem still_sameL {P : Program} {f : FuncId} {args : Array Value} {w : World} {v : Value}
    (h : Calls P f args w fun e w' => e = .returned v ∧ w = w') : Calls P f args w fun e w'' => e = .returned v ∧ w'' = w :=
  h.mono fun _ _ ⟨he, hm⟩ => ⟨he, hm.symm⟩
/-- The rows of a matrix. -/
def matL (m n : Nat) (M : Mt) : List (List Int) := (List.range m).map fun r => lst n (M r)
theorem matL_length (m n : Nat) (M : Mt) : (matL m n M).length = m := by simp [matL]
theorem matL_row (m n : Nat) (M : Mt) (r : Nat) (h : r < m) : rowAt (matL m n M) r = lst n (M r) := by simp [matL, rowAt, h]
theorem matL_congr {m n : Nat} {A B : Mt} (h : ∀ r c, r < m → c < n → A r c = B r c) : matL m n A = matL m n B := by
  unfold matL
  apply List.map_congr_left
  intro r hr
  rw [List.mem_range] at hr
  exact lst_congr fun c hc => h r c hr hc
theorem matL_set (m n : Nat) (M : Mt) (j : Nat) (u : Nat → F) : (matL m n M).set j (lst n u) = matL m n (setR M j u) := by
  apply List.ext_getElem (by simp [matL])
  intro r h1 h2
  have hr : r < m := by simpa [matL] using h2
  rw [List.getElem_set]
  by_cases h : j = r
  · subst h; rw [if_pos rfl]; simp only [matL, List.getElem_map, List.getElem_range]; rw [setR_same]
  · rw [if_neg h]; simp only [matL, List.getElem_map, List.getElem_range]; rw [setR_other _ _ _ _ (fun e => h e.symm)]
theorem matL_pos (m n : Nat) (M : Mt) (hn : 0 < n) : ∀ z ∈ matL m n M, 0 < z.length := by
  intro z hz
  simp only [matL, List.mem_map] at hz
  obtain ⟨r, _, rfl⟩ := hz
  simpa using hn
theorem findP_go {A : Mt} {k m j : Nat} (h : j < m) (h0 : A j k = 0) : findP A k m j (m - j) = findP A k m (j + 1) (m - (j + 1)) := by
  obtain ⟨f, hf⟩ : ∃ f, m - j = f + 1 := ⟨m - j - 1, by omega⟩
  rw [hf, findP, if_pos h0, show m - (j + 1) = f by omega]
theorem findP_stop {A : Mt} {k m j : Nat} (h : j < m) (h0 : A j k ≠ 0) : findP A k m j (m - j) = j := by
  obtain ⟨f, hf⟩ : ∃ f, m - j = f + 1 := ⟨m - j - 1, by omega⟩
  rw [hf, findP, if_neg h0]
theorem findP_end (A : Mt) (k m : Nat) : findP A k m m (m - m) = m := by rw [Nat.sub_self, findP]
theorem redTo_go {m n k : Nat} {s : Mt × F × Nat} (hk : k < n) (ht : s.2.2 < m) : redTo m n k (n - k) s = redTo m n (k + 1) (n - (k + 1)) (redStep m k s) := by
  obtain ⟨f, hf⟩ : ∃ f, n - k = f + 1 := ⟨n - k - 1, by omega⟩
  rw [hf, redTo, if_pos ht, show n - (k + 1) = f by omega]
theorem redTo_end {m n k : Nat} {s : Mt × F × Nat} (h : n ≤ k ∨ ¬ s.2.2 < m) : redTo m n k (n - k) s = s := by
  rcases h with h | h
  · rw [show n - k = 0 by omega, redTo]
  · cases hf : n - k with
    | zero => rw [redTo]
    | succ f => rw [redTo, if_neg h]
theorem fI_neg (x : F) : fI (-vI x) = -x := vI_inj (by rw [vI_fI, vI_neg])
theorem fI_inv (x : F) : fI (invM (vI x)) = fi x := rfl
theorem vI_ne {x : F} (h : x ≠ 0) : ¬ vI x = 0 := fun e => h (vI_eq_zero.1 e)
end Go.Proofs.Ytmhcpaffdchboaa
