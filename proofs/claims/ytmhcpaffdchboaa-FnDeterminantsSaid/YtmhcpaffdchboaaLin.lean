/-
  Linear algebra over the field with 10007 elements, without a program: what a reduction tells of determinants, kernels, inverses and systems; Cramer's rule; ranks.
-/
import Derived.Test.YtmhcpaffdchboaaRed
namespace Go.Proofs.Ytmhcpaffdchboaa
/-- The first N columns of m rows are independent. -/
def Ker0 (m N : Nat) (A : Mt) : Prop := ∀ y : Nat → F, (∀ r, r < m → sF (fun c => A r c * y c) N = 0) → ∀ c, c < N → y c = 0
theorem one_ne_zero_F : (1 : F) ≠ 0 := by decide
theorem mul_zero_F {a b : F} (h : a * b = 0) (ha : a ≠ 0) : b = 0 := by
  have := mul_fi ha
  have h2 : b = fi a * (a * b) := by grind
  rw [h2, h]; grind
theorem sF_pick (f : Nat → F) (n k : Nat) (hk : k < n) : sF (fun c => f c * (if c = k then 1 else 0)) n = f k := by
  rw [sF_one n k hk (fun i _ hik => by rw [if_neg hik]; grind), if_pos rfl]; grind
theorem sF_pick' (f : Nat → F) (n k : Nat) (hk : k < n) : sF (fun c => (if k = c then 1 else 0) * f c) n = f k := by
  rw [sF_one n k hk (fun i _ hik => by rw [if_neg (Ne.symm hik)]; grind), if_pos rfl]; grind
theorem sF_miss (f : Nat → F) (n k : Nat) (hk : n ≤ k) : sF (fun c => f c * (if c = k then 1 else 0)) n = 0 :=
  sF_zero' n fun i hi => by rw [if_neg (by omega)]; grind
theorem sF_sub (f g : Nat → F) (n : Nat) : sF (fun i => f i - g i) n = sF f n - sF g n := by
  induction n with
  | zero => simp only [sF]; grind
  | succ n ih => simp only [sF]; rw [ih]; grind
section
variable {m k : Nat} {A : Mt} {s : Mt × F × Nat} {pv : Nat → Nat} {c : F}
theorem RedInv.self_le (h : RedInv m k A s pv c) (j : Nat) (hj : j < s.2.2) : j ≤ pv j := by
  induction j with
  | zero => omega
  | succ j ih => have := ih (by omega); have := h.mono j (j + 1) (by omega) hj; omega
/-- The first columns all have a pivot of their own, or one of them has none. -/
theorem RedInv.pivots (h : RedInv m k A s pv c) (N : Nat) : (N ≤ s.2.2 ∧ ∀ j, j < N → pv j = j) ∨ ∃ q, q < N ∧ q ≤ s.2.2 ∧ ∀ j, j < s.2.2 → pv j ≠ q := by
  induction N with
  | zero => left; exact ⟨by omega, fun j hj => by omega⟩
  | succ N ih =>
    rcases ih with ⟨h1, h2⟩ | ⟨q, h1, h2, h3⟩
    · by_cases hlt : N < s.2.2
      · by_cases hN : pv N = N
        · left
          refine ⟨by omega, fun j hj => ?_⟩
          by_cases hj' : j = N
          · rw [hj', hN]
          · exact h2 j (by omega)
        · right
          refine ⟨N, by omega, by omega, fun j hj => ?_⟩
          have hs := h.self_le N hlt
          rcases Nat.lt_trichotomy j N with hc | hc | hc
          · rw [h2 j hc]; omega
          · rw [hc]; exact hN
          · have := h.mono N j hc hj; omega
      · right
        refine ⟨N, by omega, by omega, fun j hj => ?_⟩
        rw [h2 j (by omega)]; omega
    · exact .inr ⟨q, by omega, h2, h3⟩
/-- A column without a pivot gives a vector of the kernel. -/
theorem RedInv.vec (h : RedInv m k A s pv c) (q N : Nat) (hq : q < N) (hk : q < k ∨ s.2.2 = m) (hn : ∀ j, j < s.2.2 → pv j ≠ q) :
    ∃ y : Nat → F, y q = 1 ∧ (∀ i, q < i → y i = 0) ∧ ∀ r, r < m → sF (fun c' => A r c' * y c') N = 0 := by
  have hy : ∀ i, q ≤ i → sF (fun j => s.1 j q * (if i = pv j then 1 else 0)) s.2.2 = 0 := fun i hi => sF_zero' _ fun j hj => by
    by_cases e : i = pv j
    · have := hn j hj
      rw [h.ahead j q hj (by omega)]; grind
    · rw [if_neg e]; grind
  refine ⟨fun i => (if i = q then 1 else 0) - sF (fun j => s.1 j q * (if i = pv j then 1 else 0)) s.2.2, ?_, fun i hi => ?_, ?_⟩
  · simp only [if_true]; rw [hy q (Nat.le_refl _)]; grind
  · show (if i = q then (1 : F) else 0) - _ = 0
    rw [hy i (by omega), if_neg (by omega)]; grind
  · rw [h.ker N]
    intro r hr
    have e1 : sF (fun c' => s.1 r c' * ((if c' = q then 1 else 0) - sF (fun j => s.1 j q * (if c' = pv j then 1 else 0)) s.2.2)) N
        = sF (fun c' => s.1 r c' * (if c' = q then 1 else 0)) N - sF (fun c' => sF (fun j => s.1 r c' * (s.1 j q * (if c' = pv j then 1 else 0))) s.2.2) N := by
      rw [← sF_sub]
      refine sF_congr _ fun i _ => ?_
      rw [sF_mul]; grind
    rw [e1, sF_pick _ _ _ hq, sF_swap]
    have e2 : ∀ j, j < s.2.2 → sF (fun c' => s.1 r c' * (s.1 j q * (if c' = pv j then 1 else 0))) N = s.1 j q * (if r = j then 1 else 0) := fun j hj => by
      rw [show (fun c' => s.1 r c' * (s.1 j q * (if c' = pv j then (1 : F) else 0))) = fun c' => s.1 j q * (s.1 r c' * (if c' = pv j then 1 else 0)) by funext c'; grind, sF_mul]
      by_cases hp : pv j < N
      · rw [sF_pick _ _ _ hp, h.piv j r hj hr]
      · rw [sF_miss _ _ _ (by omega), h.ahead j q hj (by omega)]; grind
    rw [sF_congr _ e2]
    by_cases hrt : r < s.2.2
    · rw [sF_one _ r hrt (fun i _ hi => by rw [if_neg (Ne.symm hi)]; grind), if_pos rfl]; grind
    · rw [sF_zero' _ (fun i hi => by rw [if_neg (by omega)]; grind)]
      rw [h.zero r q (by omega) hr (by omega)]; grind
end
/-- A square matrix whose determinant is not 0 is one whose columns are independent. -/
theorem det_reduce (n : Nat) (A : Mt) : det n A = if (reduceR n n A).2.2 < n then 0 else (reduceR n n A).2.1 := by
  obtain ⟨k, pv, c, h, hk, hk2⟩ := reduceR_inv n n A
  have hle := h.le
  have hlek := h.lek
  split
  · rename_i ht
    have hkn : k = n := by omega
    rw [h.dval (det n) (det_RowD n)]
    have e : det n (reduceR n n A).1 = det n (setR (reduceR n n A).1 (reduceR n n A).2.2 (fun _ => 0)) := det_congr n fun r c' hr hc => by
      simp only [setR]; split
      · subst_vars; exact h.zero _ c' (Nat.le_refl _) ht hc
      · rfl
    rw [e, det_zero_row n _ _ ht]; grind
  · have htn : (reduceR n n A).2.2 = n := by omega
    rcases h.pivots n with ⟨h1, h2⟩ | ⟨q, h1, h2, h3⟩
    · rw [h.dval (det n) (det_RowD n)]
      have e : det n (reduceR n n A).1 = det n idM := det_congr n fun r c' hr hc => by
        have := h.piv c' r (by omega) hr
        rw [h2 c' hc] at this
        rw [this]; rfl
      rw [e, det_id]
      rcases h.det with ⟨a, b⟩ | ⟨a, b⟩
      · rw [a]; grind
      · omega
    · obtain ⟨k', pv', c', h', _, _⟩ := reduceR_inv n n A
      exfalso
      -- n pivots below k = n leave no column without one
      have hmono := h.mono
      have hlt := h.lt
      have : ∀ j, j < n → pv j = j := by
        intro j hj
        have hs := h.self_le j (by omega)
        have hup : ∀ d, j + d < n → pv j + d ≤ pv (j + d) := by
          intro d
          induction d with
          | zero => intro _; simp
          | succ d ih => intro hd; have := ih (by omega); have := hmono (j + d) (j + (d + 1)) (by omega) (by omega); omega
        have := hup (n - 1 - j) (by omega)
        have := hlt (j + (n - 1 - j)) (by omega)
        omega
      exact h3 q (by omega) (this q h1)
theorem full_pivots {m k : Nat} {A : Mt} {s : Mt × F × Nat} {pv : Nat → Nat} {c : F} (h : RedInv m k A s pv c) (n : Nat) (ht : s.2.2 = n) (hl : ∀ j, j < n → pv j < n) : ∀ j, j < n → pv j = j := by
  intro j hj
  have hs := h.self_le j (by omega)
  have hup : ∀ d, j + d < n → pv j + d ≤ pv (j + d) := by
    intro d
    induction d with
    | zero => intro _; simp
    | succ d ih => intro hd; have := ih (by omega); have := h.mono (j + d) (j + (d + 1)) (by omega) (by omega); omega
  have := hup (n - 1 - j) (by omega)
  have := hl (j + (n - 1 - j)) (by omega)
  omega
theorem det_ker (n : Nat) (A : Mt) : det n A ≠ 0 ↔ Ker0 n n A := by
  obtain ⟨k, pv, c, h, hk, hk2⟩ := reduceR_inv n n A
  have hle := h.le
  have hlek := h.lek
  rw [det_reduce]
  constructor
  · intro hd y hy r hr
    split at hd
    · exact absurd rfl hd
    · have ht : (reduceR n n A).2.2 = n := by omega
      have hp := full_pivots h n ht (fun j hj => by have := h.lt j (by omega); omega)
      rw [h.ker n] at hy
      have h1 := hy r hr
      rw [sF_congr (g := fun c' => (if r = c' then 1 else 0) * y c') n (fun c' hc => by
        have := h.piv c' r (by omega) hr
        rw [hp c' hc] at this
        rw [this])] at h1
      rw [sF_pick' _ _ _ hr] at h1
      exact h1
  · intro hker hd
    split at hd
    · rename_i ht
      rcases h.pivots n with ⟨h1, _⟩ | ⟨q, h1, h2, h3⟩
      · omega
      · obtain ⟨y, y1, _, y3⟩ := h.vec q n h1 (by omega) h3
        have := hker y y3 q h1
        rw [y1] at this
        exact one_ne_zero_F this
    · rcases h.det with ⟨a, b⟩ | ⟨a, b⟩
      · rw [a] at hd; exact h.cne hd
      · omega
/-- The product of matrices. -/
def mulM (n : Nat) (A B : Mt) : Mt := fun r c => sF (fun i => A r i * B i c) n
theorem mulM_setR (n : Nat) (A B : Mt) (k : Nat) (u : Nat → F) : mulM n (setR A k u) B = setR (mulM n A B) k (fun c => sF (fun i => u i * B i c) n) := by
  funext r c; simp only [mulM, setR]; split <;> rfl
theorem mul_RowD (n : Nat) (B : Mt) : RowD n (fun A => det n (mulM n A B)) := by
  refine ⟨fun A k l x hk hl hkl => ?_, fun A k x hk => ?_⟩
  · rw [mulM_setR]
    have e : (fun c => sF (fun i => (A k i + x * A l i) * B i c) n) = fun c => mulM n A B k c + x * mulM n A B l c := by
      funext c; simp only [mulM]; rw [← sF_mul, ← sF_add]; exact sF_congr n fun i _ => by grind
    rw [e]
    exact det_add n (mulM n A B) k l hk hl hkl x
  · rw [mulM_setR]
    have e : (fun c => sF (fun i => x * A k i * B i c) n) = fun c => x * mulM n A B k c := by
      funext c; simp only [mulM]; rw [← sF_mul]; exact sF_congr n fun i _ => by grind
    rw [e, det_scale n _ k hk x (mulM n A B k), setR_self]
theorem det_mul (n : Nat) (A B : Mt) : det n (mulM n A B) = det n A * det n B := by
  obtain ⟨k, pv, c, h, hk, hk2⟩ := reduceR_inv n n A
  have hle := h.le
  have hlek := h.lek
  have e1 : det n (mulM n A B) = c * det n (mulM n (reduceR n n A).1 B) := h.dval _ (mul_RowD n B)
  rw [e1, det_reduce n A]
  split
  · rename_i ht
    have e : det n (mulM n (reduceR n n A).1 B) = det n (setR (mulM n (reduceR n n A).1 B) (reduceR n n A).2.2 (fun _ => 0)) := det_congr n fun r c' hr hc => by
      simp only [setR]; split
      · rename_i hrt
        simp only [mulM]
        exact sF_zero' n fun i hi => by rw [h.zero r i (by omega) hr (by omega)]; grind
      · rfl
    rw [e, det_zero_row n _ _ ht]; grind
  · have ht : (reduceR n n A).2.2 = n := by omega
    have hp := full_pivots h n ht (fun j hj => by have := h.lt j (by omega); omega)
    have e : det n (mulM n (reduceR n n A).1 B) = det n B := det_congr n fun r c' hr hc => by
      simp only [mulM]
      rw [sF_congr (g := fun i => (if r = i then 1 else 0) * B i c') n (fun i hi => by
        have := h.piv i r (by omega) hr
        rw [hp i hi] at this
        rw [this]), sF_pick' _ _ _ hr]
    rw [e]
    rcases h.det with ⟨a, b⟩ | ⟨a, b⟩
    · rw [a]
    · omega
/-- A column put in the place of another. -/
def setC (A : Mt) (k : Nat) (x : Nat → F) : Mt := fun r c => if c = k then x r else A r c
theorem det_unit_col (n j : Nat) (hj : j < n) (x : Nat → F) : det n (setC idM j x) = x j := by
  obtain ⟨P, hP⟩ : ∃ P, P = setR (setC idM j x) j (fun c => if c = j then 1 else 0) := ⟨_, rfl⟩
  have e1 : det n (setC idM j x) = x j * det n P := by
    rw [hP, ← det_scale n _ j hj (x j)]
    congr 1
    funext r c
    simp only [setR, setC, idM]
    by_cases hr : r = j
    · rw [if_pos hr, hr]
      by_cases hc : c = j
      · rw [if_pos hc, if_pos hc]; grind
      · rw [if_neg hc, if_neg hc, if_neg (Ne.symm hc)]; grind
    · rw [if_neg hr]
  have e2 : det n P = det n (clearR P j j n) := ((det_RowD n).clear P j j n hj (Nat.le_refl _)).symm
  have e3 : det n (clearR P j j n) = det n idM := det_congr n fun r c hr hc => by
    rw [hP]
    simp only [clearR, setR, setC, idM]
    by_cases hrj : r = j
    · rw [if_neg (by omega), if_pos hrj]
      by_cases hcj : c = j
      · rw [if_pos hcj, if_pos (by omega)]
      · rw [if_neg hcj, if_neg (by omega)]
    · rw [if_pos ⟨hr, hrj⟩, if_neg hrj, if_neg hrj]; simp only [if_true]
      by_cases hcj : c = j
      · rw [if_pos hcj, if_pos hcj, if_neg (by omega)]; grind
      · rw [if_neg hcj, if_neg hcj]; grind
  rw [e1, e2, e3, det_id]; grind
/-- Cramer's rule. -/
theorem cramer (n : Nat) (A : Mt) (x b : Nat → F) (hx : ∀ r, r < n → sF (fun c => A r c * x c) n = b r) (j : Nat) (hj : j < n) : det n (setC A j b) = x j * det n A := by
  have e : det n (mulM n A (setC idM j x)) = det n (setC A j b) := det_congr n fun r c hr hc => by
    simp only [mulM, setC, idM]
    by_cases hcj : c = j
    · simp only [if_pos hcj]; exact hx r hr
    · simp only [if_neg hcj]; exact sF_pick _ _ _ hc
  rw [← e, det_mul, det_unit_col n j hj x]; grind
theorem cramer' (n : Nat) (A : Mt) (x b : Nat → F) (hx : ∀ r, r < n → sF (fun c => A r c * x c) n = b r) (hd : det n A ≠ 0) (j : Nat) (hj : j < n) : det n (setC A j b) * fi (det n A) = x j := by
  rw [cramer n A x b hx j hj]
  have := mul_fi hd; grind
end Go.Proofs.Ytmhcpaffdchboaa
