/-
  What the laws on matrices and systems say, without a program.
-/
import Derived.Test.YtmhcpaffdchboaaInvTop
import Derived.Test.YtmhcpaffdchboaaMatTop
import Derived.Test.YtmhcpaffdchboaaSums
namespace Go.Proofs.Ytmhcpaffdchboaa
theorem dot_sF (n : Nat) (f g : Nat → F) : ∀ k, k ≤ n → dotL (lst n f) (lst n g) k % 10007 = vI (sF (fun c => f c * g c) k) := by
  intro k
  induction k with
  | zero => intro _; simp only [dotL, sumTo, sF]; rw [vI_zero]; rfl
  | succ k ih =>
    intro hk
    have h1 := ih (by omega)
    simp only [dotL, sumTo, sF] at h1 ⊢
    rw [lst_el _ _ _ (by omega), lst_el _ _ _ (by omega), vI_add, ← h1, vI_mul]
    omega
theorem row_nums {a : List (List Int)} (h : isMat a = true) (i : Nat) (hi : i < a.length) : (rowAt a i).length = (rowAt a 0).length ∧ (rowAt a i).all isNum = true := (isMat_yes h).2.2.2.2 i hi
theorem row_lst {a : List (List Int)} (h : isMat a = true) (i : Nat) (hi : i < a.length) : rowAt a i = lst (rowAt a 0).length (mtOf a i) := by
  obtain ⟨h1, h2⟩ := row_nums h i hi
  have e : lst (rowAt a i).length (ser (rowAt a i)) = rowAt a i := lst_ser h2
  rw [h1] at e
  exact e.symm
theorem isMat_of (m n : Nat) (M : Mt) (hm1 : 1 ≤ m) (hm : m ≤ 8) (hn1 : 1 ≤ n) (hn : n ≤ 8) : isMat (matL m n M) = true := by
  have key : ∀ k, k ≤ m → matTo (matL m n M) k = true := by
    intro k
    induction k with
    | zero => intro _; rfl
    | succ k ih =>
      intro hk
      rw [matTo, ih (by omega), matL_row _ _ _ _ (by omega), matL_row _ _ _ _ (by omega), lst_length, lst_length]
      have := lst_nums n (M k)
      unfold Nums at this
      simp [this]
  rw [isMat, matL_length, key m (Nat.le_refl _), matL_row _ _ _ _ (by omega), lst_length]
  simp; omega
theorem mtOf_matL (m n : Nat) (M : Mt) (r c : Nat) (hr : r < m) (hc : c < n) : mtOf (matL m n M) r c = M r c := by
  unfold mtOf
  rw [matL_row _ _ _ _ hr, lst_el _ _ _ hc, fI_vI]
theorem detR_matL (n : Nat) (M : Mt) (h1 : 1 ≤ n) (h8 : n ≤ 8) : detR (matL n n M) = (vI (det n M), 0) := by
  have e : (rowAt (matL n n M) 0).length = n := by rw [matL_row _ _ _ _ (by omega), lst_length]
  unfold detR
  rw [if_pos (isMat_of n n M h1 h8 h1 h8), e, matL_length, if_pos rfl, det_congr n (mtOf_matL n n M)]
theorem invR_matL (n : Nat) (M : Mt) (h1 : 1 ≤ n) (h8 : n ≤ 8) : invR (matL n n M) = if det n M ≠ 0 then (matL n n (invMt n (mtOf (matL n n M))), 0) else ([], 5) := by
  have e : (rowAt (matL n n M) 0).length = n := by rw [matL_row _ _ _ _ (by omega), lst_length]
  unfold invR
  rw [if_pos (isMat_of n n M h1 h8 h1 h8), e, matL_length, det_congr n (mtOf_matL n n M)]
  by_cases h : det n M = 0
  · rw [if_neg (fun x => x.2 h), if_neg (fun x => x h)]
  · rw [if_pos ⟨rfl, h⟩, if_pos h]
theorem colL_matL (n : Nat) (M : Mt) (j : Nat) (hj : j < n) : colL (matL n n M) j = lst n (fun r => M r j) := by
  simp only [colL, matL, List.map_map, lst]
  apply List.map_congr_left
  intro c hc
  exact lst_el n (M c) j hj
theorem mmR_matL (n : Nat) (A B : Mt) (h1 : 1 ≤ n) (h8 : n ≤ 8) : mmR (matL n n A) (matL n n B) = (matL n n (mulM n A B), 0) := by
  have e1 : (rowAt (matL n n A) 0).length = n := by rw [matL_row _ _ _ _ (by omega), lst_length]
  have e2 : (rowAt (matL n n B) 0).length = n := by rw [matL_row _ _ _ _ (by omega), lst_length]
  unfold mmR
  rw [if_pos ⟨isMat_of n n A h1 h8 h1 h8, isMat_of n n B h1 h8 h1 h8⟩, e1, matL_length, if_pos rfl, matL_length]
  congr 1
  unfold mulTo
  rw [e2]
  show List.map _ _ = List.map _ _
  apply List.map_congr_left
  intro r hr
  rw [List.mem_range] at hr
  unfold rowP
  rw [matL_row n n A r hr, lst_length]
  show List.map _ _ = List.map _ _
  apply List.map_congr_left
  intro c hc
  rw [List.mem_range] at hc
  rw [colL_matL n B c hc, dot_sF n _ _ n (Nat.le_refl _)]
  rfl
/-- A square matrix as the program's rows. -/
theorem square_of {a : List (List Int)} (h : (detR a).2 = 0) : 1 ≤ a.length ∧ a.length ≤ 8 ∧ a = matL a.length a.length (mtOf a) := by
  unfold detR at h
  split at h
  · rename_i hm
    split at h
    · rename_i hs
      have h1 := isMat_yes hm
      have h2 := isMat_matL hm
      rw [← hs] at h2
      exact ⟨h1.1, h1.2.1, h2⟩
    · simp at h
  · simp at h
theorem solR_cases (a : List (List Int)) (z : List Int) : (solR a z).2 = 0 ∨ (solR a z).2 = 1 ∨ (solR a z).2 = 2 ∨ (solR a z).2 = 5 := by
  unfold solR
  split
  · split
    · split <;> simp
    · simp
  · simp
theorem solR_mat {a : List (List Int)} {z : List Int} (h : (solR a z).2 = 0 ∨ (solR a z).2 = 5) : isMat a = true ∧ z.length = a.length ∧ z.all isNum = true := by
  unfold solR at h
  split at h
  · rename_i hm
    split at h
    · rename_i hz
      exact ⟨hm, hz.1, hz.2⟩
    · simp at h
  · simp at h
theorem solR_okS {a : List (List Int)} {z : List Int} (hm : isMat a = true) (hz : z.length = a.length) (hn : z.all isNum = true) : (solR a z).2 = 0 ↔ okS a.length (rowAt a 0).length (mtOf a) (ser z) := by
  unfold solR
  rw [if_pos hm, if_pos ⟨hz, hn⟩]
  split
  · rename_i h; exact ⟨fun _ => h, fun _ => rfl⟩
  · rename_i h; exact ⟨fun e => by simp at e, fun e => absurd e h⟩
/-- The solution satisfies the system. -/
theorem solR_dot {a : List (List Int)} {z : List Int} (h : (solR a z).2 = 0) (i : Nat) (hi : i < a.length) : dotOfR (rowAt a i) (solR a z).1 = (el z i, 0) := by
  obtain ⟨hm, hz, hn⟩ := solR_mat (.inl h)
  have ho := (solR_okS hm hz hn).1 h
  have h1 := isMat_yes hm
  have e1 : (solR a z).1 = lst (rowAt a 0).length (solS a.length (rowAt a 0).length (mtOf a) (ser z)) := by
    unfold solR; rw [if_pos hm, if_pos ⟨hz, hn⟩, if_pos ho]
  have hs := (okS_ker h1.2.2.1 ho).2 i hi
  rw [e1, row_lst hm i hi]
  unfold dotOfR
  have hA := lst_nums (rowAt a 0).length (mtOf a i)
  have hB := lst_nums (rowAt a 0).length (solS a.length (rowAt a 0).length (mtOf a) (ser z))
  unfold Nums at hA hB
  rw [if_pos ⟨by simp, by simp; omega, hA, hB⟩, lst_length, dot_sF _ _ _ _ (Nat.le_refl _), hs]
  unfold ser
  have hq : Nums z := hn
  rw [vI_fI_num (by rw [isNum_iff]; exact hq.at i)]
theorem solR_square {a : List (List Int)} {z : List Int} (h : (solR a z).2 = 0 ∨ (solR a z).2 = 5) (hs : a.length = (rowAt a 0).length) : (detR a).2 = 0 ∧ (((detR a).1 != 0) = ((solR a z).2 == 0)) := by
  obtain ⟨hm, hz, hn⟩ := solR_mat h
  have h1 := isMat_yes hm
  have e : detR a = (vI (det a.length (mtOf a)), 0) := by unfold detR; rw [if_pos hm, if_pos hs]
  have ho := solR_okS hm hz hn
  rw [← hs] at ho
  have hk := okS_square (A := mtOf a) (b := ser z) h1.1
  rw [e]
  refine ⟨rfl, ?_⟩
  by_cases hd : det a.length (mtOf a) = 0
  · have hne : ¬ (solR a z).2 = 0 := fun x => (hk.1 (ho.1 x)) hd
    have e2 : (solR a z).2 = 5 := by omega
    rw [hd, vI_zero, e2]; rfl
  · have e2 := ho.2 (hk.2 hd)
    have hv := vI_ne hd
    rw [e2]
    simp [hv]
end Go.Proofs.Ytmhcpaffdchboaa
