/-
  Systems, inverses and determinants as the programs reckon them, without a program.
-/
import Derived.Test.YtmhcpaffdchboaaLin
namespace Go.Proofs.Ytmhcpaffdchboaa
theorem sF_split (f : Nat → F) (a b : Nat) : sF f (a + b) = sF f a + sF (fun i => f (a + i)) b := by
  induction b with
  | zero => simp only [sF, Nat.add_zero]; grind
  | succ b ih => rw [← Nat.add_assoc, sF, ih, sF]; grind
theorem sF_head (g : Nat → F) (n : Nat) : sF g (n + 1) = g 0 + sF (fun i => g (i + 1)) n := by
  induction n with
  | zero => simp only [sF]; grind
  | succ n ih => rw [sF, ih, sF]; grind
theorem sF_neg (f : Nat → F) (n : Nat) : sF (fun i => -f i) n = - sF f n := by
  have h := sF_mul (-1) f n
  rw [sF_congr (g := fun i => -1 * f i) n (fun i _ => by grind), h]; grind
/-- The first index from i on at which a row is not 0, or the end. -/
def leadF (u : Nat → F) : Nat → Nat → Nat
  | i, 0 => i
  | i, f + 1 => if u i = 0 then leadF u (i + 1) f else i
theorem leadF_eq (u : Nat → F) (p : Nat) (hz : ∀ c, c < p → u c = 0) (hp : u p ≠ 0) : ∀ f i, i ≤ p → p < i + f → leadF u i f = p := by
  intro f
  induction f with
  | zero => intro i h1 h2; omega
  | succ f ih =>
    intro i h1 h2
    rw [leadF]
    by_cases hi : i = p
    · rw [if_neg (by rw [hi]; exact hp), hi]
    · rw [if_pos (hz i (by omega))]; exact ih (i + 1) (by omega) (by omega)
theorem RedInv.lead {m k : Nat} {A : Mt} {s : Mt × F × Nat} {pv : Nat → Nat} {c : F} (h : RedInv m k A s pv c) (j N : Nat) (hj : j < s.2.2) (hN : pv j < N) : leadF (s.1 j) 0 N = pv j := by
  refine leadF_eq _ _ (fun c' hc => h.ahead j c' hj hc) ?_ N 0 (by omega) (by omega)
  have := h.piv j j hj (by have := h.le; omega)
  rw [if_pos rfl] at this
  rw [this]; exact one_ne_zero_F
/-- A matrix with a column more. -/
def wideM (n : Nat) (A : Mt) (b : Nat → F) : Mt := fun r c => if c < n then A r c else b r
theorem wide_sum (n : Nat) (A : Mt) (b y : Nat → F) (r : Nat) : sF (fun c => wideM n A b r c * y c) (n + 1) = sF (fun c => A r c * y c) n + b r * y n := by
  rw [sF]
  congr 1
  · exact sF_congr n fun i hi => by simp only [wideM]; rw [if_pos hi]
  · simp only [wideM]; rw [if_neg (by omega)]
/-- There is exactly one solution, as the reduction tells. -/
def okS (m n : Nat) (A : Mt) (b : Nat → F) : Prop := (reduceR m (n + 1) (wideM n A b)).2.2 = n ∧ leadF ((reduceR m (n + 1) (wideM n A b)).1 (n - 1)) 0 (n + 1) = n - 1
def solS (m n : Nat) (A : Mt) (b : Nat → F) : Nat → F := fun c => (reduceR m (n + 1) (wideM n A b)).1 c n
theorem okS_piv {m n : Nat} {A : Mt} {b : Nat → F} {k : Nat} {pv : Nat → Nat} {c : F} (h : RedInv m k (wideM n A b) (reduceR m (n + 1) (wideM n A b)) pv c) (hk : k ≤ n + 1) (hn : 1 ≤ n) :
    okS m n A b ↔ (reduceR m (n + 1) (wideM n A b)).2.2 = n ∧ ∀ j, j < n → pv j = j := by
  constructor
  · rintro ⟨h1, h2⟩
    refine ⟨h1, ?_⟩
    have hlt := h.lt (n - 1) (by omega)
    rw [h.lead (n - 1) (n + 1) (by omega) (by omega)] at h2
    refine full_pivots h n h1 (fun j hj => ?_)
    by_cases hj' : j = n - 1
    · rw [hj', h2]; omega
    · have := h.mono j (n - 1) (by omega) (by omega); omega
  · rintro ⟨h1, h2⟩
    refine ⟨h1, ?_⟩
    rw [h.lead (n - 1) (n + 1) (by omega) (by rw [h2 _ (by omega)]; omega), h2 _ (by omega)]
theorem okS_ker {m n : Nat} {A : Mt} {b : Nat → F} (hn : 1 ≤ n) (ho : okS m n A b) : Ker0 m n A ∧ ∀ r, r < m → sF (fun c => A r c * solS m n A b c) n = b r := by
  obtain ⟨k, pv, c, h, hk, hk2⟩ := reduceR_inv m (n + 1) (wideM n A b)
  obtain ⟨ht, hp⟩ := (okS_piv h hk hn).1 ho
  have hle := h.le
  have hlek := h.lek
  have hδ : ∀ r c', r < m → c' < n → (reduceR m (n + 1) (wideM n A b)).1 r c' = if r = c' then 1 else 0 := fun r c' hr hc => by
    have := h.piv c' r (by omega) hr
    rw [hp c' hc] at this
    exact this
  have hz : ∀ r, r < m → n ≤ r → (reduceR m (n + 1) (wideM n A b)).1 r n = 0 := fun r hr hnr => by
    rcases hk2 with e | e
    · exact h.zero r n (by omega) hr (by omega)
    · omega
  constructor
  · intro y hy j hj
    have h1 : ∀ r, r < m → sF (fun c' => wideM n A b r c' * (if c' < n then y c' else 0)) (n + 1) = 0 := fun r hr => by
      rw [wide_sum, if_neg (by omega), sF_congr (g := fun c' => A r c' * y c') n (fun i hi => by rw [if_pos hi]), hy r hr]; grind
    rw [h.ker (n + 1)] at h1
    have h2 := h1 j (by omega)
    rw [sF, if_neg (by omega), sF_congr (g := fun c' => (if j = c' then 1 else 0) * y c') n (fun i hi => by rw [if_pos hi, hδ j i (by omega) hi]), sF_pick' _ _ _ hj] at h2
    grind
  · intro r hr
    have h1 : ∀ r, r < m → sF (fun c' => (reduceR m (n + 1) (wideM n A b)).1 r c' * (if c' < n then solS m n A b c' else -1)) (n + 1) = 0 := fun r hr => by
      rw [sF, if_neg (by omega), sF_congr (g := fun c' => (if r = c' then 1 else 0) * solS m n A b c') n (fun i hi => by rw [if_pos hi, hδ r i hr hi])]
      by_cases hrn : r < n
      · rw [sF_pick' _ _ _ hrn]; unfold solS; grind
      · rw [hz r hr (by omega), sF_zero' n (fun i hi => by rw [if_neg (by omega)]; grind)]; grind
    rw [← h.ker (n + 1)] at h1
    have h2 := h1 r hr
    rw [wide_sum, if_neg (by omega), sF_congr (g := fun c' => A r c' * solS m n A b c') n (fun i hi => by rw [if_pos hi])] at h2
    grind
theorem ker_okS {m n : Nat} {A : Mt} {b x : Nat → F} (hn : 1 ≤ n) (hker : Ker0 m n A) (hx : ∀ r, r < m → sF (fun c => A r c * x c) n = b r) : okS m n A b := by
  obtain ⟨k, pv, c, h, hk, hk2⟩ := reduceR_inv m (n + 1) (wideM n A b)
  have hle := h.le
  have hlek := h.lek
  rw [okS_piv h hk hn]
  rcases h.pivots n with ⟨h1, h2⟩ | ⟨q, h1, h2, h3⟩
  · refine ⟨?_, h2⟩
    by_cases ht : (reduceR m (n + 1) (wideM n A b)).2.2 = n
    · exact ht
    · exfalso
      have hlt := h.lt n (by omega)
      have hge := h.self_le n (by omega)
      have hpn : pv n = n := by omega
      have hy : ∀ r, r < m → sF (fun c' => wideM n A b r c' * (if c' < n then x c' else -1)) (n + 1) = 0 := fun r hr => by
        rw [wide_sum, if_neg (by omega), sF_congr (g := fun c' => A r c' * x c') n (fun i hi => by rw [if_pos hi]), hx r hr]; grind
      rw [h.ker (n + 1)] at hy
      have h4 := hy n (by omega)
      rw [sF, if_neg (by omega), sF_zero' n (fun i hi => by
        have := h.piv i n (by omega) (by omega)
        rw [h2 i hi, if_neg (by omega)] at this
        rw [this]; grind)] at h4
      have h5 := h.piv n n (by omega) (by omega)
      rw [hpn, if_pos rfl] at h5
      rw [h5] at h4
      exact one_ne_zero_F (by grind)
  · exfalso
    obtain ⟨y, y1, y2, y3⟩ := h.vec q (n + 1) (by omega) (by omega) h3
    have := hker y (fun r hr => by
      have := y3 r hr
      rw [wide_sum, y2 n (by omega)] at this
      grind) q h1
    rw [y1] at this
    exact one_ne_zero_F this
/-- A square system whose determinant is not 0 has a solution. -/
theorem okS_square {n : Nat} {A : Mt} {b : Nat → F} (hn : 1 ≤ n) : okS n n A b ↔ det n A ≠ 0 := by
  constructor
  · intro h; exact (det_ker n A).2 (okS_ker hn h).1
  · intro hd
    have hker := (det_ker n A).1 hd
    obtain ⟨k, pv, c, h, hk, hk2⟩ := reduceR_inv n (n + 1) (wideM n A b)
    have hle := h.le
    have hlek := h.lek
    rw [okS_piv h hk hn]
    rcases h.pivots n with ⟨h1, h2⟩ | ⟨q, h1, h2, h3⟩
    · exact ⟨by omega, h2⟩
    · exfalso
      obtain ⟨y, y1, y2, y3⟩ := h.vec q (n + 1) (by omega) (by omega) h3
      have := hker y (fun r hr => by
        have := y3 r hr
        rw [wide_sum, y2 n (by omega)] at this
        grind) q h1
      rw [y1] at this
      exact one_ne_zero_F this
/-- The matrix with the unit matrix behind it. -/
def wideI (n : Nat) (A : Mt) : Mt := fun r c => if c < n then A r c else if c - n = r then 1 else 0
theorem wideI_sum (n : Nat) (A : Mt) (y : Nat → F) (r : Nat) (hr : r < n) : sF (fun c => wideI n A r c * y c) (n + n) = sF (fun c => A r c * y c) n + y (n + r) := by
  rw [sF_split]
  congr 1
  · exact sF_congr n fun i hi => by simp only [wideI]; rw [if_pos hi]
  · rw [sF_congr (g := fun i => (if r = i then 1 else 0) * y (n + i)) n (fun i hi => by
      simp only [wideI]; rw [if_neg (by omega), show n + i - n = i by omega]
      by_cases h : i = r
      · rw [if_pos h, if_pos h.symm]
      · rw [if_neg h, if_neg (Ne.symm h)]), sF_pick' (fun i => y (n + i)) _ _ hr]
def okI (n : Nat) (A : Mt) : Prop := (∀ j, j < (reduceR n (n + n) (wideI n A)).2.2 → leadF ((reduceR n (n + n) (wideI n A)).1 j) 0 (n + n) < n) ∧ (reduceR n (n + n) (wideI n A)).2.2 = n
def invMt (n : Nat) (A : Mt) : Mt := fun r c => (reduceR n (n + n) (wideI n A)).1 r (n + c)
theorem okI_piv {n : Nat} {A : Mt} {k : Nat} {pv : Nat → Nat} {c : F} (h : RedInv n k (wideI n A) (reduceR n (n + n) (wideI n A)) pv c) (hk : k ≤ n + n) :
    okI n A ↔ (reduceR n (n + n) (wideI n A)).2.2 = n ∧ ∀ j, j < n → pv j = j := by
  constructor
  · rintro ⟨h1, h2⟩
    refine ⟨h2, full_pivots h n h2 fun j hj => ?_⟩
    have := h1 j (by omega)
    have hlt := h.lt j (by omega)
    rwa [h.lead j (n + n) (by omega) (by omega)] at this
  · rintro ⟨h1, h2⟩
    refine ⟨fun j hj => ?_, h1⟩
    rw [h.lead j (n + n) hj (by rw [h2 j (by omega)]; omega), h2 j (by omega)]; omega
theorem okI_inv {n : Nat} {A : Mt} (ho : okI n A) : (∀ r c, r < n → c < n → mulM n A (invMt n A) r c = idM r c) ∧ ∀ r c, r < n → c < n → mulM n (invMt n A) A r c = idM r c := by
  obtain ⟨k, pv, c, h, hk, hk2⟩ := reduceR_inv n (n + n) (wideI n A)
  obtain ⟨ht, hp⟩ := (okI_piv h hk).1 ho
  have hδ : ∀ r c', r < n → c' < n → (reduceR n (n + n) (wideI n A)).1 r c' = if r = c' then 1 else 0 := fun r c' hr hc => by
    have := h.piv c' r (by omega) hr
    rw [hp c' hc] at this
    exact this
  have hs : ∀ (y : Nat → F) r, r < n → sF (fun c' => (reduceR n (n + n) (wideI n A)).1 r c' * y c') (n + n) = y r + sF (fun i => invMt n A r i * y (n + i)) n := fun y r hr => by
    rw [sF_split]
    congr 1
    rw [sF_congr (g := fun c' => (if r = c' then 1 else 0) * y c') n (fun i hi => by rw [hδ r i hr hi]), sF_pick' _ _ _ hr]
  constructor
  · intro r j hr hj
    obtain ⟨y, hy⟩ : ∃ y : Nat → F, y = fun c' => if c' < n then - invMt n A c' j else if c' - n = j then 1 else 0 := ⟨_, rfl⟩
    have y1 : ∀ i, i < n → y i = - invMt n A i j := fun i hi => by rw [hy]; simp only; rw [if_pos hi]
    have y2 : ∀ i, y (n + i) = if i = j then 1 else 0 := fun i => by rw [hy]; simp only; rw [if_neg (by omega), show n + i - n = i by omega]
    have h1 : ∀ r, r < n → sF (fun c' => (reduceR n (n + n) (wideI n A)).1 r c' * y c') (n + n) = 0 := fun r hr => by
      rw [hs y r hr, y1 r hr, sF_congr (g := fun i => invMt n A r i * (if i = j then 1 else 0)) n (fun i _ => by rw [y2]), sF_pick _ _ _ hj]; grind
    rw [← h.ker (n + n)] at h1
    have h2 := h1 r hr
    rw [wideI_sum n A y r hr, y2, sF_congr (g := fun c' => -(A r c' * invMt n A c' j)) n (fun i hi => by rw [y1 i hi]; grind), sF_neg] at h2
    simp only [mulM, idM]
    grind
  · intro r j hr hj
    obtain ⟨y, hy⟩ : ∃ y : Nat → F, y = fun c' => if c' < n then (if c' = j then 1 else 0) else - A (c' - n) j := ⟨_, rfl⟩
    have y1 : ∀ i, i < n → y i = if i = j then 1 else 0 := fun i hi => by rw [hy]; simp only; rw [if_pos hi]
    have y2 : ∀ i, y (n + i) = - A i j := fun i => by rw [hy]; simp only; rw [if_neg (by omega), show n + i - n = i by omega]
    have h1 : ∀ r, r < n → sF (fun c' => wideI n A r c' * y c') (n + n) = 0 := fun r hr => by
      rw [wideI_sum n A y r hr, y2, sF_congr (g := fun c' => A r c' * (if c' = j then 1 else 0)) n (fun i hi => by rw [y1 i hi]), sF_pick _ _ _ hj]; grind
    rw [h.ker (n + n)] at h1
    have h2 := h1 r hr
    rw [hs y r hr, y1 r hr, sF_congr (g := fun i => -(invMt n A r i * A i j)) n (fun i hi => by rw [y2]; grind), sF_neg] at h2
    simp only [mulM, idM]
    grind
theorem okI_det (n : Nat) (A : Mt) : okI n A ↔ det n A ≠ 0 := by
  constructor
  · intro ho hd
    have h1 := det_mul n A (invMt n A)
    rw [det_congr n (okI_inv ho).1, det_id, hd] at h1
    exact one_ne_zero_F (by grind)
  · intro hd
    have hker := (det_ker n A).1 hd
    obtain ⟨k, pv, c, h, hk, hk2⟩ := reduceR_inv n (n + n) (wideI n A)
    have hle := h.le
    have hlek := h.lek
    rw [okI_piv h hk]
    rcases h.pivots n with ⟨h1, h2⟩ | ⟨q, h1, h2, h3⟩
    · exact ⟨by omega, h2⟩
    · exfalso
      obtain ⟨y, y1, y2, y3⟩ := h.vec q (n + n) (by omega) (by omega) h3
      have := hker y (fun r hr => by
        have := y3 r hr
        rw [wideI_sum n A y r hr, y2 (n + r) (by omega)] at this
        grind) q h1
      rw [y1] at this
      exact one_ne_zero_F this
/-- The entries of the inverse by Cramer's rule. -/
theorem inv_cramer {n : Nat} {A : Mt} (hd : det n A ≠ 0) (k j : Nat) (hk : k < n) (hj : j < n) : det n (setC A j (fun r => if r = k then 1 else 0)) * fi (det n A) = invMt n A j k :=
  cramer' n A (fun c => invMt n A c k) (fun r => if r = k then 1 else 0) (fun r hr => (okI_inv ((okI_det n A).2 hd)).1 r k hr hk) hd j hj
/-- The solution by Cramer's rule, from any rows that have it and are independent. -/
theorem sol_cramer {n : Nat} {R : Mt} {v x : Nat → F} (hd : det n R ≠ 0) (hx : ∀ r, r < n → sF (fun c => R r c * x c) n = v r) (j : Nat) (hj : j < n) : det n (setC R j v) * fi (det n R) = x j := cramer' n R x v hx hd j hj
/-- The matrix without its first row and a column. -/
def mnrC (A : Mt) (k : Nat) : Mt := fun r c => A (r + 1) (if c < k then c else c + 1)
theorem det_row1 (A : Mt) : sF (fun k => sg k * A 0 k * det 0 (mnrC A k)) 1 = det 1 A := by
  simp only [det, sF]
set_option maxRecDepth 10000 in
theorem det_row2 (A : Mt) : sF (fun k => sg k * A 0 k * det 1 (mnrC A k)) 2 = det 2 A := by
  simp [det, sF, mnr, mnrC, sg]; grind
set_option maxRecDepth 10000 in
theorem det_row3 (A : Mt) : sF (fun k => sg k * A 0 k * det 2 (mnrC A k)) 3 = det 3 A := by
  simp [det, sF, mnr, mnrC, sg]; grind
set_option maxRecDepth 10000 in
set_option maxHeartbeats 4000000 in
theorem det_row4 (A : Mt) : sF (fun k => sg k * A 0 k * det 3 (mnrC A k)) 4 = det 4 A := by
  simp [det, sF, mnr, mnrC, sg]; grind
theorem det_row (n : Nat) (h1 : n ≤ 3) (A : Mt) : sF (fun k => sg k * A 0 k * det n (mnrC A k)) (n + 1) = det (n + 1) A := by
  rcases (show n = 0 ∨ n = 1 ∨ n = 2 ∨ n = 3 by omega) with rfl | rfl | rfl | rfl
  · exact det_row1 A
  · exact det_row2 A
  · exact det_row3 A
  · exact det_row4 A
/-- What is left behind the clearing of the first column by the row i. -/
def restM (A : Mt) (i : Nat) : Mt := fun r c => A (if r < i then r else r + 1) (c + 1) - A (if r < i then r else r + 1) 0 * fi (A i 0) * A i (c + 1)
theorem det_clear (n i : Nat) (hi : i < n + 1) (A : Mt) (hp : A i 0 ≠ 0) : det (n + 1) A = sg i * A i 0 * det n (restM A i) := by
  have hf := mul_fi hp
  obtain ⟨B, hB⟩ : ∃ B, B = setR A i (fun c => fi (A i 0) * A i c) := ⟨_, rfl⟩
  have e1 : det (n + 1) B = fi (A i 0) * det (n + 1) A := by rw [hB, det_scale (n + 1) A i hi _ (A i), setR_self]
  have e2 : det (n + 1) (clearR B i 0 (n + 1)) = det (n + 1) B := (det_RowD (n + 1)).clear B i 0 (n + 1) hi (Nat.le_refl _)
  have b1 : B i 0 = 1 := by rw [hB, setR_same]; grind
  have c1 : ∀ r c, r < n + 1 → r ≠ i → clearR B i 0 (n + 1) r c = A r c - A r 0 * fi (A i 0) * A i c := fun r c hr hne => by
    simp only [clearR]; rw [if_pos ⟨hr, hne⟩, hB, setR_same, setR_other _ _ _ _ hne]; grind
  have c2 : ∀ c, clearR B i 0 (n + 1) i c = B i c := fun c => by simp [clearR]
  have e3 : det (n + 1) (clearR B i 0 (n + 1)) = sg i * det n (restM A i) := by
    rw [det, sF_one (n + 1) i hi (fun r hr hne => by rw [c1 r 0 hr hne]; grind), c2, b1]
    rw [det_congr n (A := mnr (clearR B i 0 (n + 1)) i) (B := restM A i) (fun r c hr hc => by
      simp only [mnr, restM]
      exact c1 _ _ (by split <;> omega) (by split <;> omega))]
    grind
  rw [e3] at e2
  rw [e1] at e2
  have : det (n + 1) A = A i 0 * (fi (A i 0) * det (n + 1) A) := by grind
  rw [this, ← e2]; grind
theorem det_zero_col (n : Nat) (A : Mt) (h : ∀ i, i < n + 1 → A i 0 = 0) : det (n + 1) A = 0 := by
  rw [det]; exact sF_zero' _ fun i hi => by rw [h i hi]; grind
end Go.Proofs.Ytmhcpaffdchboaa
