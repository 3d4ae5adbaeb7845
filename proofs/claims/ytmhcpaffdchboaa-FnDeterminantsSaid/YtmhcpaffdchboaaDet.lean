/-
  Determinants over the field with 10007 elements, without a program: by the first column; linear in each row, 0 at equal rows.
-/
import Derived.Test.YtmhcpaffdchboaaSer
namespace Go.Proofs.Ytmhcpaffdchboaa
/-- A matrix: rows, then columns. -/
abbrev Mt := Nat → Nat → F
/-- The sum of the first n values. -/
def sF (f : Nat → F) : Nat → F
  | 0 => 0
  | n + 1 => sF f n + f n
theorem sF_congr {f g : Nat → F} (n : Nat) (h : ∀ i, i < n → f i = g i) : sF f n = sF g n := by
  induction n with
  | zero => rfl
  | succ n ih => rw [sF, sF, ih (fun i hi => h i (by omega)), h n (by omega)]
theorem sF_add (f g : Nat → F) (n : Nat) : sF (fun i => f i + g i) n = sF f n + sF g n := by
  induction n with
  | zero => simp [sF]
  | succ n ih => simp only [sF]; rw [ih]; grind
theorem sF_mul (x : F) (f : Nat → F) (n : Nat) : sF (fun i => x * f i) n = x * sF f n := by
  induction n with
  | zero => simp only [sF]; grind
  | succ n ih => simp only [sF]; rw [ih]; grind
theorem sF_zero (n : Nat) : sF (fun _ => 0) n = 0 := by
  induction n with
  | zero => rfl
  | succ n ih => rw [sF, ih]; grind
theorem sF_zero' {f : Nat → F} (n : Nat) (h : ∀ i, i < n → f i = 0) : sF f n = 0 := by rw [sF_congr n h, sF_zero]
theorem sF_one {f : Nat → F} (n k : Nat) (hk : k < n) (h : ∀ i, i < n → i ≠ k → f i = 0) : sF f n = f k := by
  induction n with
  | zero => omega
  | succ n ih =>
    rw [sF]
    by_cases hn : k = n
    · subst hn
      rw [sF_zero' k (fun i hi => h i (by omega) (by omega))]; grind
    · rw [ih (by omega) (fun i hi hik => h i (by omega) hik), h n (by omega) (by omega)]; grind
theorem sF_pair {f : Nat → F} (n k : Nat) (hk : k + 1 < n) (h : ∀ i, i < n → i ≠ k → i ≠ k + 1 → f i = 0) (h2 : f k + f (k + 1) = 0) : sF f n = 0 := by
  induction n with
  | zero => omega
  | succ n ih =>
    rw [sF]
    by_cases hn : k + 1 = n
    · subst hn
      rw [sF_one (k + 1) k (by omega) (fun i hi hik => h i (by omega) hik (by omega))]; exact h2
    · rw [ih (by omega) (fun i hi h3 h4 => h i (by omega) h3 h4), h n (by omega) (by omega) (by omega)]; grind
theorem sF_swap (f : Nat → Nat → F) (n m : Nat) : sF (fun i => sF (fun j => f i j) m) n = sF (fun j => sF (fun i => f i j) n) m := by
  induction n with
  | zero => simp only [sF]; rw [sF_zero]
  | succ n ih => simp only [sF]; rw [ih, ← sF_add]
def sg (i : Nat) : F := if i % 2 = 0 then 1 else -1
theorem sg_succ (i : Nat) : sg (i + 1) = - sg i := by
  unfold sg
  by_cases h : i % 2 = 0
  · rw [if_pos h, if_neg (by omega)]
  · rw [if_neg h, if_pos (by omega)]; grind
/-- The matrix without the row i and the first column. -/
def mnr (A : Mt) (i : Nat) : Mt := fun r c => A (if r < i then r else r + 1) (c + 1)
def det : Nat → Mt → F
  | 0, _ => 1
  | n + 1, A => sF (fun i => sg i * A i 0 * det n (mnr A i)) (n + 1)
/-- A row put in the place of another. -/
def setR (A : Mt) (k : Nat) (u : Nat → F) : Mt := fun r c => if r = k then u c else A r c
theorem setR_same (A : Mt) (k : Nat) (u : Nat → F) : setR A k u k = u := by funext c; simp [setR]
theorem setR_other (A : Mt) (k r : Nat) (u : Nat → F) (h : r ≠ k) : setR A k u r = A r := by funext c; simp [setR, h]
theorem setR_self (A : Mt) (k : Nat) : setR A k (A k) = A := by funext r c; simp only [setR]; split <;> simp_all
theorem setR_setR (A : Mt) (k : Nat) (u v : Nat → F) : setR (setR A k u) k v = setR A k v := by funext r c; simp only [setR]; split <;> rfl
theorem setR_comm (A : Mt) (k l : Nat) (u v : Nat → F) (h : k ≠ l) : setR (setR A k u) l v = setR (setR A l v) k u := by
  funext r c; simp only [setR]
  by_cases h1 : r = l
  · subst h1; simp [Ne.symm h]
  · simp [h1]
theorem mnr_setR_same (A : Mt) (k : Nat) (u : Nat → F) : mnr (setR A k u) k = mnr A k := by
  funext r c; simp only [mnr, setR]; split <;> rw [if_neg (by omega)]
theorem mnr_setR_lt (A : Mt) (i k : Nat) (u : Nat → F) (h : k < i) : mnr (setR A k u) i = setR (mnr A i) k (fun c => u (c + 1)) := by
  funext r c; simp only [mnr, setR]
  by_cases h1 : r < i
  · simp only [h1, if_true]
  · simp only [h1, if_false]; rw [if_neg (by omega), if_neg (by omega)]
theorem mnr_setR_gt (A : Mt) (i k : Nat) (u : Nat → F) (h : i < k) : mnr (setR A k u) i = setR (mnr A i) (k - 1) (fun c => u (c + 1)) := by
  funext r c; simp only [mnr, setR]
  by_cases h1 : r < i
  · simp only [h1, if_true]; rw [if_neg (by omega), if_neg (by omega)]
  · simp only [h1, if_false]
    by_cases h2 : r + 1 = k
    · rw [if_pos h2, if_pos (by omega)]
    · rw [if_neg h2, if_neg (by omega)]
theorem det_congr (n : Nat) {A B : Mt} (h : ∀ r c, r < n → c < n → A r c = B r c) : det n A = det n B := by
  induction n generalizing A B with
  | zero => rfl
  | succ n ih =>
    rw [det, det]
    refine sF_congr _ fun i hi => ?_
    rw [h i 0 hi (by omega), ih (A := mnr A i) (B := mnr B i) (fun r c hr hc => by simp only [mnr]; split <;> exact h _ _ (by omega) (by omega))]
theorem det_lin (n : Nat) (A : Mt) (k : Nat) (hk : k < n) (u v : Nat → F) (x : F) :
    det n (setR A k (fun c => u c + x * v c)) = det n (setR A k u) + x * det n (setR A k v) := by
  induction n generalizing A k u v with
  | zero => omega
  | succ n ih =>
    rw [det, det, det, ← sF_mul, ← sF_add]
    refine sF_congr _ fun i hi => ?_
    by_cases hik : i = k
    · subst hik
      rw [mnr_setR_same, mnr_setR_same, mnr_setR_same]
      simp only [setR, if_true]; grind
    · rw [setR_other _ _ _ _ hik, setR_other _ _ _ _ hik, setR_other _ _ _ _ hik]
      rcases Nat.lt_or_ge k i with h | h
      · rw [mnr_setR_lt _ _ _ _ h, mnr_setR_lt _ _ _ _ h, mnr_setR_lt _ _ _ _ h, ih (mnr A i) k (by omega) (fun c => u (c + 1)) (fun c => v (c + 1))]; grind
      · rw [mnr_setR_gt _ _ _ _ (by omega), mnr_setR_gt _ _ _ _ (by omega), mnr_setR_gt _ _ _ _ (by omega), ih (mnr A i) (k - 1) (by omega) (fun c => u (c + 1)) (fun c => v (c + 1))]; grind
theorem det_adj (n : Nat) (A : Mt) (k : Nat) (hk : k + 1 < n) (h : A k = A (k + 1)) : det n A = 0 := by
  induction n generalizing A k with
  | zero => omega
  | succ n ih =>
    rw [det]
    refine sF_pair (n + 1) k hk (fun i hi h1 h2 => ?_) ?_
    · have h0 : det n (mnr A i) = 0 := by
        rcases Nat.lt_or_ge i k with hl | hl
        · refine ih (mnr A i) (k - 1) (by omega) ?_
          funext c; simp only [mnr]
          rw [if_neg (by omega), if_neg (by omega), show k - 1 + 1 = k by omega, h]
        · refine ih (mnr A i) k (by omega) ?_
          funext c; simp only [mnr]
          rw [if_pos (by omega), if_pos (by omega), h]
      rw [h0]; grind
    · have e : mnr A k = mnr A (k + 1) := by
        funext r c; simp only [mnr]
        by_cases h1 : r < k
        · rw [if_pos h1, if_pos (by omega)]
        · by_cases h2 : r = k
          · subst h2; rw [if_neg (by omega), if_pos (by omega), h]
          · rw [if_neg h1, if_neg (by omega)]
      rw [e, h, sg_succ]; grind
theorem det_zero_row (n : Nat) (A : Mt) (k : Nat) (hk : k < n) : det n (setR A k (fun _ => 0)) = 0 := by
  have h := det_lin n A k hk (fun _ => 0) (fun _ => 0) 1
  simp only [show (0 : F) + 1 * 0 = 0 by grind] at h
  grind
theorem det_scale (n : Nat) (A : Mt) (k : Nat) (hk : k < n) (x : F) (u : Nat → F) : det n (setR A k (fun c => x * u c)) = x * det n (setR A k u) := by
  have h := det_lin n A k hk (fun _ => 0) u x
  rw [det_zero_row n A k hk] at h
  have e : (fun c => (0 : F) + x * u c) = fun c => x * u c := by funext c; grind
  rw [e] at h
  rw [h]; grind
theorem det_swap_adj (n : Nat) (A : Mt) (k : Nat) (hk : k + 1 < n) (u v : Nat → F) : det n (setR (setR A k u) (k + 1) v) + det n (setR (setR A k v) (k + 1) u) = 0 := by
  have z : ∀ y : Nat → F, det n (setR (setR A k y) (k + 1) y) = 0 := fun y => by
    refine det_adj n _ k hk ?_
    rw [setR_same, setR_other _ _ _ _ (by omega), setR_same]
  have e1 := z (fun c => u c + 1 * v c)
  rw [det_lin n (setR A k fun c => u c + 1 * v c) (k + 1) hk u v 1] at e1
  rw [setR_comm _ _ _ _ u (by omega), setR_comm _ _ _ _ v (by omega), det_lin n (setR A (k + 1) u) k (by omega) u v 1, det_lin n (setR A (k + 1) v) k (by omega) u v 1] at e1
  rw [← setR_comm _ _ _ _ _ (show k ≠ k + 1 by omega), ← setR_comm _ _ _ _ _ (show k ≠ k + 1 by omega), ← setR_comm _ _ _ _ _ (show k ≠ k + 1 by omega), ← setR_comm _ _ _ _ _ (show k ≠ k + 1 by omega), z u, z v] at e1
  grind
theorem det_eq_rows (n : Nat) (A : Mt) (k d : Nat) (hk : k + d + 1 < n) (h : A k = A (k + d + 1)) : det n A = 0 := by
  induction d generalizing A with
  | zero => exact det_adj n A k hk h
  | succ d ih =>
    have hs := det_swap_adj n A (k + d + 1) (by omega) (A (k + d + 1)) (A (k + (d + 1) + 1))
    have e1 : setR (setR A (k + d + 1) (A (k + d + 1))) (k + d + 1 + 1) (A (k + (d + 1) + 1)) = A := by
      rw [setR_self, show k + d + 1 + 1 = k + (d + 1) + 1 by omega, setR_self]
    rw [e1] at hs
    have e2 : det n (setR (setR A (k + d + 1) (A (k + (d + 1) + 1))) (k + d + 1 + 1) (A (k + d + 1))) = 0 := by
      refine ih _ (by omega) ?_
      rw [setR_other _ _ _ _ (by omega), setR_other _ _ _ _ (by omega), setR_other _ _ _ _ (by omega), setR_same, h]
    rw [e2] at hs
    grind
theorem det_add (n : Nat) (A : Mt) (k l : Nat) (hk : k < n) (hl : l < n) (hkl : k ≠ l) (x : F) : det n (setR A k (fun c => A k c + x * A l c)) = det n A := by
  rw [det_lin n A k hk (A k) (A l) x, setR_self]
  have : det n (setR A k (A l)) = 0 := by
    rcases Nat.lt_or_ge k l with h | h
    · refine det_eq_rows n _ k (l - k - 1) (by omega) ?_
      rw [setR_same, setR_other _ _ _ _ (by omega), show k + (l - k - 1) + 1 = l by omega]
    · refine det_eq_rows n _ l (k - l - 1) (by omega) ?_
      rw [setR_other _ _ _ _ (by omega), show l + (k - l - 1) + 1 = k by omega, setR_same]
  rw [this]; grind
def idM : Mt := fun r c => if r = c then 1 else 0
theorem det_id (n : Nat) : det n idM = 1 := by
  induction n with
  | zero => rfl
  | succ n ih =>
    rw [det, sF_one (n + 1) 0 (by omega) (fun i hi h0 => by simp only [idM]; rw [if_neg h0]; grind)]
    have e : mnr idM 0 = idM := by funext r c; simp [mnr, idM]
    rw [e, ih]; simp [idM, sg]
end Go.Proofs.Ytmhcpaffdchboaa
