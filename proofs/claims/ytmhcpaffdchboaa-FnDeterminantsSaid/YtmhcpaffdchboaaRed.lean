/-
  The reduction of a matrix by rows, without a program, and what it keeps.
-/
import Derived.Test.YtmhcpaffdchboaaDet
import Derived.Test.YtmhcpaffdchboaaFld
namespace Go.Proofs.Ytmhcpaffdchboaa
/-- A quantity of the first n rows that an added multiple of a row leaves, and that is scaled with a row. -/
structure RowD (n : Nat) (D : Mt → F) : Prop where
  add : ∀ (A : Mt) (k l : Nat) (x : F), k < n → l < n → k ≠ l → D (setR A k (fun c => A k c + x * A l c)) = D A
  scale : ∀ (A : Mt) (k : Nat) (x : F), k < n → D (setR A k (fun c => x * A k c)) = x * D A
theorem det_RowD (n : Nat) : RowD n (det n) :=
  ⟨fun A k l x hk hl h => det_add n A k l hk hl h x, fun A k x hk => by rw [det_scale n A k hk x (A k), setR_self]⟩
/-- Two rows in each other's place. -/
def swapR (A : Mt) (i j : Nat) : Mt := fun r c => if r = i then A j c else if r = j then A i c else A r c
theorem RowD.swap {n : Nat} {D : Mt → F} (h : RowD n D) (A : Mt) (i j : Nat) (hi : i < n) (hj : j < n) (hij : i ≠ j) : D (swapR A i j) = - D A := by
  -- row i + row j; row j - row i; row i + row j; row j negated
  have e1 := h.add A i j 1 hi hj hij
  obtain ⟨A1, h1⟩ : ∃ A1, A1 = setR A i (fun c => A i c + 1 * A j c) := ⟨_, rfl⟩
  rw [← h1] at e1
  have e2 := h.add A1 j i (-1) hj hi (Ne.symm hij)
  obtain ⟨A2, h2⟩ : ∃ A2, A2 = setR A1 j (fun c => A1 j c + (-1) * A1 i c) := ⟨_, rfl⟩
  rw [← h2] at e2
  have e3 := h.add A2 i j 1 hi hj hij
  obtain ⟨A3, h3⟩ : ∃ A3, A3 = setR A2 i (fun c => A2 i c + 1 * A2 j c) := ⟨_, rfl⟩
  rw [← h3] at e3
  have e4 := h.scale A3 j (-1) hj
  have e : setR A3 j (fun c => (-1) * A3 j c) = swapR A i j := by
    funext r c
    have hji : j ≠ i := Ne.symm hij
    subst h3 h2 h1
    simp only [setR, swapR]
    by_cases a : r = i
    · subst a; simp only [if_true, if_neg hij, if_neg hji]; grind
    · by_cases b : r = j
      · subst b; simp only [if_true, if_neg hij, if_neg hji]; grind
      · simp only [if_neg a, if_neg b]
  rw [← e, e4, e3, e2, e1]; grind
theorem RowD.zero_row {n : Nat} {D : Mt → F} (h : RowD n D) (A : Mt) (k : Nat) (hk : k < n) (hz : ∀ c, A k c = 0) : D A = 0 := by
  have e := h.scale A k 0 hk
  have e2 : setR A k (fun c => 0 * A k c) = A := by
    funext r c; simp only [setR]; split
    · subst_vars; rw [hz]; grind
    · rfl
  rw [e2] at e; grind
/-- The first row from i on, of m rows, whose number in the column k is not 0, or m. -/
def findP (A : Mt) (k m : Nat) : Nat → Nat → Nat
  | i, 0 => i
  | i, f + 1 => if A i k = 0 then findP A k m (i + 1) f else i
/-- All rows but one less a multiple of it. -/
def clearR (A : Mt) (p k t : Nat) : Mt := fun r c => if r < t ∧ r ≠ p then A r c + (-(A r k)) * A p c else A r c
theorem clearR_zero (A : Mt) (p k : Nat) : clearR A p k 0 = A := by funext r c; simp [clearR]
theorem clearR_succ (A : Mt) (p k t : Nat) : clearR A p k (t + 1) = if t = p then clearR A p k t else setR (clearR A p k t) t (fun c => clearR A p k t t c + (-(clearR A p k t t k)) * clearR A p k t p c) := by
  funext r c
  by_cases h : t = p
  · subst h; rw [if_pos rfl]; simp only [clearR]
    by_cases h1 : r < t + 1 ∧ r ≠ t
    · rw [if_pos h1, if_pos ⟨by omega, h1.2⟩]
    · rw [if_neg h1, if_neg (fun x => h1 ⟨by omega, x.2⟩)]
  · rw [if_neg h]
    simp only [setR, clearR]
    by_cases h1 : r = t
    · subst h1; rw [if_pos ⟨by omega, h⟩, if_pos rfl, if_neg (by omega), if_neg (by omega), if_neg (by simp)]
    · rw [if_neg h1]
      by_cases h2 : r < t + 1 ∧ r ≠ p
      · rw [if_pos h2, if_pos ⟨by omega, h2.2⟩]
      · rw [if_neg h2, if_neg (fun x => h2 ⟨by omega, x.2⟩)]
theorem RowD.clear {n : Nat} {D : Mt → F} (h : RowD n D) (A : Mt) (p k t : Nat) (hp : p < n) (ht : t ≤ n) : D (clearR A p k t) = D A := by
  induction t with
  | zero => rw [clearR_zero]
  | succ t ih =>
    rw [clearR_succ]
    split
    · exact ih (by omega)
    · rename_i hne
      rw [h.add _ t p _ (by omega) hp hne, ih (by omega)]
/-- One column: the rows, the determinant so far, and how many rows are done. -/
def redStep (m k : Nat) (s : Mt × F × Nat) : Mt × F × Nat :=
  let i := findP s.1 k m s.2.2 (m - s.2.2)
  if i = m then (s.1, 0, s.2.2) else
    let M1 := if i = s.2.2 then s.1 else swapR s.1 i s.2.2
    let d1 := if i = s.2.2 then s.2.1 else 0 - s.2.1
    let p := M1 s.2.2 k
    (clearR (setR M1 s.2.2 (fun c => fi p * M1 s.2.2 c)) s.2.2 k m, d1 * p, s.2.2 + 1)
/-- The columns from k on, as long as rows are left. -/
def redTo (m n : Nat) : Nat → Nat → Mt × F × Nat → Mt × F × Nat
  | _, 0, s => s
  | k, f + 1, s => if s.2.2 < m then redTo m n (k + 1) f (redStep m k s) else s
def reduceR (m n : Nat) (A : Mt) : Mt × F × Nat := redTo m n 0 n (A, 1, 0)
theorem findP_spec (A : Mt) (k m i f : Nat) (hf : i + f = m) : i ≤ findP A k m i f ∧ findP A k m i f ≤ m ∧ (findP A k m i f < m → A (findP A k m i f) k ≠ 0) ∧ ∀ r, i ≤ r → r < findP A k m i f → A r k = 0 := by
  induction f generalizing i with
  | zero => simp only [findP]; exact ⟨Nat.le_refl _, by omega, fun h => by omega, fun r h1 h2 => by omega⟩
  | succ f ih =>
    rw [findP]
    split
    · rename_i h
      obtain ⟨a, b, c, d⟩ := ih (i + 1) (by omega)
      refine ⟨by omega, b, c, fun r h1 h2 => ?_⟩
      by_cases hr : r = i
      · rw [hr]; exact h
      · exact d r (by omega) h2
    · rename_i h
      exact ⟨Nat.le_refl _, by omega, fun _ => h, fun r h1 h2 => by omega⟩
/-- What holds on the way, behind the columns ahead of k: the pivots pv of the rows that are done; c scales every quantity of rows; the determinant so far is c and each column has a pivot, or it is 0 and a column has none. -/
structure RedInv (m k : Nat) (A : Mt) (s : Mt × F × Nat) (pv : Nat → Nat) (c : F) : Prop where
  le : s.2.2 ≤ m
  lek : s.2.2 ≤ k
  lt : ∀ j, j < s.2.2 → pv j < k
  mono : ∀ i j, i < j → j < s.2.2 → pv i < pv j
  piv : ∀ j r, j < s.2.2 → r < m → s.1 r (pv j) = if r = j then 1 else 0
  zero : ∀ r c', s.2.2 ≤ r → r < m → c' < k → s.1 r c' = 0
  ahead : ∀ j c', j < s.2.2 → c' < pv j → s.1 j c' = 0
  cne : c ≠ 0
  dval : ∀ D, RowD m D → D A = c * D s.1
  ker : ∀ (n : Nat) (y : Nat → F), (∀ r, r < m → sF (fun c' => A r c' * y c') n = 0) ↔ (∀ r, r < m → sF (fun c' => s.1 r c' * y c') n = 0)
  det : (s.2.1 = c ∧ s.2.2 = k) ∨ (s.2.1 = 0 ∧ s.2.2 < k)
theorem RedInv.start (m : Nat) (A : Mt) : RedInv m 0 A (A, 1, 0) (fun _ => 0) 1 :=
  ⟨Nat.zero_le _, Nat.le_refl _, fun j h => by simp at h, fun i j h1 h2 => by simp at h2, fun j r h => by simp at h, fun r c' h1 h2 h3 => by omega, fun j c' h => by simp at h, by decide, fun D h => by simp only; grind, fun n y => Iff.rfl, .inl ⟨rfl, rfl⟩⟩
theorem dot_add (u v y : Nat → F) (x : F) (n : Nat) : sF (fun c => (u c + x * v c) * y c) n = sF (fun c => u c * y c) n + x * sF (fun c => v c * y c) n := by
  rw [← sF_mul, ← sF_add]; exact sF_congr n fun i _ => by grind
theorem dot_scale (v y : Nat → F) (x : F) (n : Nat) : sF (fun c => (x * v c) * y c) n = x * sF (fun c => v c * y c) n := by
  rw [← sF_mul]; exact sF_congr n fun i _ => by grind
theorem fi_ne {p : F} (h : p ≠ 0) : fi p ≠ 0 := fun e => by
  have := mul_fi h; rw [e] at this; exact absurd this (by grind)
theorem redStep_inv {m k : Nat} {A : Mt} {s : Mt × F × Nat} {pv : Nat → Nat} {c : F} (h : RedInv m k A s pv c) (hd : s.2.2 < m) : ∃ pv' c', RedInv m (k + 1) A (redStep m k s) pv' c' := by
  obtain ⟨M, d, t⟩ := s
  simp only at hd
  obtain ⟨f1, f2, f3, f4⟩ := findP_spec M k m t (m - t) (by omega)
  obtain ⟨i, hi⟩ : ∃ i, i = findP M k m t (m - t) := ⟨_, rfl⟩
  rw [← hi] at f1 f2 f3 f4
  have hle := h.le
  have hlek := h.lek
  simp only at hle hlek
  by_cases him : i = m
  · refine ⟨pv, c, ?_⟩
    have e : redStep m k (M, d, t) = (M, 0, t) := by simp only [redStep]; rw [← hi, if_pos him]
    rw [e]
    refine ⟨hle, by simp only; omega, fun j hj => by have := h.lt j hj; omega, h.mono, h.piv, fun r c' h1 h2 h3 => ?_, h.ahead, h.cne, h.dval, h.ker, .inr ⟨rfl, by simp only; omega⟩⟩
    by_cases hc : c' < k
    · exact h.zero r c' h1 h2 hc
    · obtain rfl : c' = k := by omega
      exact f4 r h1 (by omega)
  · have hlt : i < m := by omega
    have hp := f3 hlt
    obtain ⟨M1, hM1⟩ : ∃ M1, M1 = if i = t then M else swapR M i t := ⟨_, rfl⟩
    obtain ⟨p, hpp⟩ : ∃ p, p = M1 t k := ⟨_, rfl⟩
    obtain ⟨M2, hM2⟩ : ∃ M2, M2 = setR M1 t (fun c => fi p * M1 t c) := ⟨_, rfl⟩
    have e : redStep m k (M, d, t) = (clearR M2 t k m, (if i = t then d else 0 - d) * p, t + 1) := by
      simp only [redStep]; rw [← hi, if_neg him, ← hM1, ← hpp, ← hM2]
    have hpi : p = M i k := by
      rw [hpp, hM1]; split
      · rename_i h1; rw [h1]
      · rename_i h1; unfold swapR; rw [if_neg (Ne.symm h1), if_pos rfl]
    have hp0 : p ≠ 0 := by rw [hpi]; exact hp
    have hpf := mul_fi hp0
    -- rows of M1
    have r1 : ∀ r, r < m → ∃ r', r' < m ∧ M1 r = M r' ∧ (r < t → r' = r) ∧ (t ≤ r → t ≤ r') := fun r hr => by
      rw [hM1]; split
      · exact ⟨r, hr, rfl, fun _ => rfl, fun h => h⟩
      · rename_i hne
        by_cases a : r = i
        · exact ⟨t, hd, by funext c; simp [swapR, a], fun h => by omega, fun _ => Nat.le_refl _⟩
        · by_cases b : r = t
          · exact ⟨i, hlt, by funext c; simp only [swapR]; rw [if_neg a, if_pos b], fun h => by omega, fun _ => f1⟩
          · exact ⟨r, hr, by funext c; simp only [swapR]; rw [if_neg a, if_neg b], fun _ => rfl, fun h => h⟩
    have r1' : ∀ r, r < m → ∃ r', r' < m ∧ M r = M1 r' := fun r hr => by
      rw [hM1]; split
      · exact ⟨r, hr, rfl⟩
      · rename_i hne
        by_cases a : r = i
        · exact ⟨t, hd, by funext c; unfold swapR; rw [if_neg (Ne.symm hne), if_pos rfl, a]⟩
        · by_cases b : r = t
          · exact ⟨i, hlt, by funext c; simp [swapR, b]⟩
          · exact ⟨r, hr, by funext c; simp only [swapR]; rw [if_neg a, if_neg b]⟩
    have z1 : ∀ r c', t ≤ r → r < m → c' < k → M1 r c' = 0 := fun r c' h1 h2 h3 => by
      obtain ⟨r', a, b, _, d'⟩ := r1 r h2
      rw [b]; exact h.zero r' c' (d' h1) a h3
    have z2 : ∀ c', c' < k → M2 t c' = 0 := fun c' h3 => by rw [hM2, setR_same, z1 t c' (Nat.le_refl _) hd h3]; grind
    have p2 : M2 t k = 1 := by rw [hM2, setR_same, ← hpp, ← hpf]; grind
    have o2 : ∀ r, r ≠ t → M2 r = M1 r := fun r hr => by rw [hM2, setR_other _ _ _ _ hr]
    have c3 : ∀ r c', r < m → r ≠ t → clearR M2 t k m r c' = M1 r c' + (-(M1 r k)) * M2 t c' := fun r c' hr hne => by
      simp only [clearR]; rw [if_pos ⟨hr, hne⟩, o2 r hne]
    have c3t : ∀ c', clearR M2 t k m t c' = M2 t c' := fun c' => by simp [clearR]
    refine ⟨fun j => if j = t then k else pv j, c * ((if i = t then 1 else -1) * p), ?_⟩
    rw [e]
    refine ⟨by simp only; omega, by simp only; omega, fun j hj => ?_, fun i' j h1 h2 => ?_, fun j r h1 h2 => ?_, fun r c' h1 h2 h3 => ?_, fun j c' h1 h2 => ?_, ?_, fun D hD => ?_, fun n y => ?_, ?_⟩
    · simp only at hj ⊢
      split
      · omega
      · have := h.lt j (by simp only; omega); omega
    · simp only at h2 ⊢
      rw [if_neg (by omega)]
      split
      · exact h.lt i' (by simp only; omega)
      · exact h.mono i' j h1 (by simp only; omega)
    · simp only at h1 ⊢
      by_cases hjt : j = t
      · subst hjt
        rw [if_pos rfl]
        by_cases hr : r = j
        · subst hr; rw [if_pos rfl, c3t, p2]
        · rw [if_neg hr, c3 r k h2 hr, p2]; grind
      · rw [if_neg hjt]
        have hlt' := h.lt j (by simp only; omega)
        by_cases hr : r = t
        · subst hr; rw [if_neg (Ne.symm hjt), c3t, z2 _ hlt']
        · rw [c3 r _ h2 hr, z2 _ hlt']
          obtain ⟨r', a, b, e1, e2⟩ := r1 r h2
          rw [b]
          have := h.piv j r' (by simp only; omega) a
          simp only at this
          rw [this]
          rcases Nat.lt_or_ge r t with hrt | hrt
          · rw [e1 hrt]; grind
          · rw [if_neg (by have := e2 hrt; omega), if_neg (by omega)]; grind
    · simp only at h1 ⊢
      rw [c3 r c' h2 (by omega)]
      by_cases hc : c' < k
      · rw [z1 r c' (by omega) h2 hc, z2 c' hc]; grind
      · obtain rfl : c' = k := by omega
        rw [p2]; grind
    · simp only at h1 h2 ⊢
      by_cases hjt : j = t
      · subst hjt
        rw [if_pos rfl] at h2
        rw [c3t]; exact z2 c' h2
      · rw [if_neg hjt] at h2
        have hlt' := h.lt j (by simp only; omega)
        rw [c3 j c' (by omega) hjt, z2 c' (by omega)]
        obtain ⟨r', a, b, e1, _⟩ := r1 j (by omega)
        have ha := h.ahead j c' (by simp only; omega) h2
        simp only at ha
        rw [b, e1 (by omega), ha]; grind
    · have hc0 := h.cne
      intro hz
      have h1 := mul_fi hc0
      have hs : (if i = t then (1 : F) else -1) * (if i = t then 1 else -1) = 1 := by split <;> grind
      have : (1 : F) = c * ((if i = t then 1 else -1) * p) * (fi c * (if i = t then 1 else -1) * fi p) := by grind
      rw [hz] at this
      exact absurd this (by grind)
    · simp only
      rw [hD.clear M2 t k m hd (Nat.le_refl _), hM2, hD.scale M1 t (fi p) hd]
      have hdv := h.dval D hD
      simp only at hdv
      rw [hdv, hM1]
      split
      · grind
      · rename_i hne
        rw [hD.swap M i t hlt hd hne]; grind
    · rw [h.ker n y]
      simp only
      have q1 : (∀ r, r < m → sF (fun c' => M r c' * y c') n = 0) ↔ (∀ r, r < m → sF (fun c' => M1 r c' * y c') n = 0) := by
        constructor
        · intro hh r hr
          obtain ⟨r', a, b, _⟩ := r1 r hr
          rw [b]; exact hh r' a
        · intro hh r hr
          obtain ⟨r', a, b⟩ := r1' r hr
          rw [b]; exact hh r' a
      rw [q1]
      have q2 : sF (fun c' => M2 t c' * y c') n = fi p * sF (fun c' => M1 t c' * y c') n := by
        rw [hM2, setR_same, dot_scale]
      have q3 : ∀ r, r < m → r ≠ t → sF (fun c' => clearR M2 t k m r c' * y c') n = sF (fun c' => M1 r c' * y c') n + (-(M1 r k)) * sF (fun c' => M2 t c' * y c') n := fun r hr hne => by
        rw [← dot_add]; exact sF_congr n fun c' _ => by rw [c3 r c' hr hne]
      have q4 : sF (fun c' => clearR M2 t k m t c' * y c') n = sF (fun c' => M2 t c' * y c') n := sF_congr n fun c' _ => by rw [c3t]
      constructor
      · intro hh r hr
        have ht0 : sF (fun c' => M2 t c' * y c') n = 0 := by rw [q2, hh t hd]; grind
        by_cases hrt : r = t
        · rw [hrt, q4, ht0]
        · rw [q3 r hr hrt, hh r hr, ht0]; grind
      · intro hh
        have ht0 : sF (fun c' => M2 t c' * y c') n = 0 := by rw [← q4]; exact hh t hd
        have ht1 : sF (fun c' => M1 t c' * y c') n = 0 := by
          rw [q2] at ht0
          have : p * (fi p * sF (fun c' => M1 t c' * y c') n) = 0 := by rw [ht0]; grind
          grind
        intro r hr
        by_cases hrt : r = t
        · rw [hrt]; exact ht1
        · have := hh r hr
          rw [q3 r hr hrt, ht0] at this; grind
    · rcases h.det with ⟨h1, h2⟩ | ⟨h1, h2⟩
      · left
        simp only at h1 h2 ⊢
        refine ⟨?_, by omega⟩
        rw [h1]; split <;> grind
      · right
        simp only at h1 h2 ⊢
        refine ⟨?_, by omega⟩
        rw [h1]; split <;> grind
/-- What the reduction of m rows of n numbers leaves. -/
theorem redTo_inv (m n : Nat) (A : Mt) (f : Nat) : ∀ (k : Nat) (s : Mt × F × Nat) (pv : Nat → Nat) (c : F), k + f = n → RedInv m k A s pv c → ∃ k' pv' c', RedInv m k' A (redTo m n k f s) pv' c' ∧ k' ≤ n ∧ (k' = n ∨ (redTo m n k f s).2.2 = m) := by
  induction f with
  | zero => intro k s pv c hk h; exact ⟨k, pv, c, h, by omega, .inl (by omega)⟩
  | succ f ih =>
    intro k s pv c hk h
    rw [redTo]
    split
    · rename_i hd
      obtain ⟨pv', c', h'⟩ := redStep_inv h hd
      exact ih (k + 1) _ pv' c' (by omega) h'
    · rename_i hd
      exact ⟨k, pv, c, h, by omega, .inr (by have := h.le; omega)⟩
theorem reduceR_inv (m n : Nat) (A : Mt) : ∃ k pv c, RedInv m k A (reduceR m n A) pv c ∧ k ≤ n ∧ (k = n ∨ (reduceR m n A).2.2 = m) :=
  redTo_inv m n A n 0 _ _ _ (by omega) (RedInv.start m A)
end Go.Proofs.Ytmhcpaffdchboaa
