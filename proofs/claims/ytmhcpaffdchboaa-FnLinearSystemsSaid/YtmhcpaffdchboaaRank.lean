/-
  Ranks, without a program: the number of columns that are no combination of those ahead; the reference's reckoning of it; the choice of independent rows.
-/
import Derived.Test.YtmhcpaffdchboaaLin2
namespace Go.Proofs.Ytmhcpaffdchboaa
/-- Column q is no combination of those ahead: a vector of the kernel that is 0 behind q is 0 at q. -/
def PivC (m n : Nat) (A : Mt) (q : Nat) : Prop := ∀ y : Nat → F, (∀ r, r < m → sF (fun c => A r c * y c) n = 0) → (∀ i, q < i → i < n → y i = 0) → y q = 0
/-- How many of the numbers from k on, f of them, have p. -/
noncomputable def cntF (p : Nat → Prop) : Nat → Nat → Nat
  | _, 0 => 0
  | k, f + 1 => (if @decide (p k) (Classical.propDecidable _) = true then 1 else 0) + cntF p (k + 1) f
theorem cntF_congr {p q : Nat → Prop} (f : Nat) : ∀ k, (∀ i, k ≤ i → i < k + f → (p i ↔ q i)) → cntF p k f = cntF q k f := by
  induction f with
  | zero => intro k _; rfl
  | succ f ih =>
    intro k h
    rw [cntF, cntF, ih (k + 1) (fun i h1 h2 => h i (by omega) (by omega))]
    have := h k (Nat.le_refl _) (by omega)
    by_cases hp : p k
    · rw [if_pos (by simpa using hp), if_pos (by simpa using this.1 hp)]
    · rw [if_neg (by simpa using hp), if_neg (by simpa using fun h => hp (this.2 h))]
theorem cntF_none {p : Nat → Prop} (f : Nat) : ∀ k, (∀ i, k ≤ i → i < k + f → ¬ p i) → cntF p k f = 0 := by
  induction f with
  | zero => intro k _; rfl
  | succ f ih =>
    intro k h
    rw [cntF, ih (k + 1) (fun i h1 h2 => h i (by omega) (by omega)), if_neg (by simpa using h k (Nat.le_refl _) (by omega))]
theorem cntF_le (p : Nat → Prop) (f : Nat) : ∀ k, cntF p k f ≤ f := by
  induction f with
  | zero => intro k; exact Nat.le_refl _
  | succ f ih => intro k; rw [cntF]; have := ih (k + 1); split <;> omega
theorem cntF_full {p : Nat → Prop} (f : Nat) : ∀ k, cntF p k f = f ↔ ∀ i, k ≤ i → i < k + f → p i := by
  induction f with
  | zero => intro k; exact ⟨fun _ i h1 h2 => by omega, fun _ => rfl⟩
  | succ f ih =>
    intro k
    rw [cntF]
    have hle := cntF_le p f (k + 1)
    constructor
    · intro h i h1 h2
      by_cases hp : p k
      · rw [if_pos (by simpa using hp)] at h
        by_cases hik : i = k
        · rw [hik]; exact hp
        · exact (ih (k + 1)).1 (by omega) i (by omega) (by omega)
      · rw [if_neg (by simpa using hp)] at h; omega
    · intro h
      rw [if_pos (by simpa using h k (Nat.le_refl _) (by omega)), (ih (k + 1)).2 (fun i h1 h2 => h i (by omega) (by omega))]; omega
theorem cntF_snoc (p : Nat → Prop) (f : Nat) : ∀ k, cntF p k (f + 1) = cntF p k f + (if @decide (p (k + f)) (Classical.propDecidable _) = true then 1 else 0) := by
  induction f with
  | zero => intro k; simp [cntF]
  | succ f ih => intro k; rw [cntF, ih (k + 1), cntF, show k + 1 + f = k + (f + 1) by omega]; omega
theorem cntF_mono {p q : Nat → Prop} (f : Nat) : ∀ k, (∀ i, k ≤ i → i < k + f → p i → q i) → cntF p k f ≤ cntF q k f := by
  induction f with
  | zero => intro k _; exact Nat.le_refl _
  | succ f ih =>
    intro k h
    rw [cntF, cntF]
    have h1 := ih (k + 1) (fun i h1 h2 => h i (by omega) (by omega))
    have h2 := h k (Nat.le_refl _) (by omega)
    by_cases hp : p k
    · rw [if_pos (by simpa using hp), if_pos (by simpa using h2 hp)]; omega
    · rw [if_neg (by simpa using hp)]; split <;> omega
theorem cntF_lt {p q : Nat → Prop} (f : Nat) : ∀ k j, (∀ i, k ≤ i → i < k + f → p i → q i) → k ≤ j → j < k + f → q j → ¬ p j → cntF p k f < cntF q k f := by
  induction f with
  | zero => intro k j _ h1 h2; omega
  | succ f ih =>
    intro k j h h1 h2 hq hp
    rw [cntF, cntF]
    by_cases hjk : j = k
    · subst hjk
      have h1 := cntF_mono f (j + 1) (fun i h1 h2 => h i (by omega) (by omega))
      rw [if_neg (by simpa using hp), if_pos (by simpa using hq)]; omega
    · have h3 := ih (k + 1) j (fun i h1 h2 => h i (by omega) (by omega)) (by omega) (by omega) hq hp
      have h4 := h k (Nat.le_refl _) (by omega)
      by_cases hk : p k
      · rw [if_pos (by simpa using hk), if_pos (by simpa using h4 hk)]; omega
      · rw [if_neg (by simpa using hk)]; split <;> omega
/-- The rank: how many columns are no combination of those ahead. -/
noncomputable def rkC (m n : Nat) (A : Mt) : Nat := cntF (PivC m n A) 0 n
/-- The rows but i, less a multiple of the row i, so that the column k gets 0. -/
def elimM (A : Mt) (i k : Nat) : Mt := fun r c => A (if r < i then r else r + 1) c - A (if r < i then r else r + 1) k * fi (A i k) * A i c
/-- The rank as the reference reckons it: the columns from k on, f of them, with m rows left. -/
def rkR : Nat → Nat → Nat → Mt → Nat
  | _, 0, _, _ => 0
  | k, f + 1, m, A => if m = 0 then 0 else if findP A k m 0 m = m then rkR (k + 1) f m A else rkR (k + 1) f (m - 1) (elimM A (findP A k m 0 m) k) + 1
theorem elim_sum (A : Mt) (i k n r : Nat) (y : Nat → F) : sF (fun c => elimM A i k r c * y c) n = sF (fun c => A (if r < i then r else r + 1) c * y c) n - A (if r < i then r else r + 1) k * fi (A i k) * sF (fun c => A i c * y c) n := by
  rw [← sF_mul, ← sF_sub]
  exact sF_congr n fun c _ => by simp only [elimM]; grind
theorem elim_ker (A : Mt) (i k m n : Nat) (hi : i < m) (y : Nat → F) :
    (∀ r, r < m → sF (fun c => A r c * y c) n = 0) ↔ (sF (fun c => A i c * y c) n = 0 ∧ ∀ r, r < m - 1 → sF (fun c => elimM A i k r c * y c) n = 0) := by
  constructor
  · intro h
    refine ⟨h i hi, fun r hr => ?_⟩
    rw [elim_sum, h _ (by split <;> omega), h i hi]; grind
  · rintro ⟨h1, h2⟩ r hr
    by_cases hri : r = i
    · rw [hri]; exact h1
    · have h3 := h2 (if r < i then r else r - 1) (by split <;> omega)
      rw [elim_sum, h1] at h3
      have e : (if (if r < i then r else r - 1) < i then (if r < i then r else r - 1) else (if r < i then r else r - 1) + 1) = r := by
        by_cases hlt : r < i
        · rw [if_pos hlt, if_pos hlt]
        · rw [if_neg hlt, if_neg (by omega)]; omega
      rw [e] at h3
      grind
theorem elim_zero (A : Mt) (i k r : Nat) (hp : A i k ≠ 0) : elimM A i k r k = 0 := by
  simp only [elimM]
  have := mul_fi hp
  grind
theorem elim_low (A : Mt) (i k m r c : Nat) (hi : i < m) (hr : r < m - 1) (hz : ∀ r, r < m → A r c = 0) : elimM A i k r c = 0 := by
  simp only [elimM]
  rw [hz i hi, hz _ (by split <;> omega)]; grind
/-- A vector with one number. -/
theorem unit_sum (u : Nat → F) (n k : Nat) (hk : k < n) : sF (fun c => u c * (if c = k then 1 else 0)) n = u k := sF_pick u n k hk
theorem rkR_cnt (n : Nat) (f : Nat) : ∀ (k m : Nat) (A : Mt), k + f = n → (∀ r c, r < m → c < k → A r c = 0) → rkR k f m A = cntF (PivC m n A) k f := by
  induction f with
  | zero => intro k m A _ _; rfl
  | succ f ih =>
    intro k m A hk hz
    rw [rkR]
    by_cases hm : m = 0
    · rw [if_pos hm]
      refine (cntF_none _ _ fun q h1 h2 hp => ?_).symm
      have := hp (fun c => if c = q then 1 else 0) (fun r hr => by omega) (fun i h3 h4 => by rw [if_neg (by omega)])
      simp only [if_true] at this
      exact one_ne_zero_F this
    rw [if_neg hm]
    obtain ⟨_, h2, h3, h4⟩ := findP_spec A k m 0 m (by omega)
    by_cases hf : findP A k m 0 m = m
    · rw [if_pos hf, cntF, if_neg, Nat.zero_add]
      · refine ih (k + 1) m A (by omega) fun r c hr hc => ?_
        by_cases hck : c = k
        · rw [hck]; exact h4 r (by omega) (by omega)
        · exact hz r c hr (by omega)
      · simp only [decide_eq_true_eq]
        intro hp
        have := hp (fun c => if c = k then 1 else 0) (fun r hr => by rw [unit_sum _ n k (by omega)]; exact h4 r (by omega) (by omega)) (fun i h5 h6 => by rw [if_neg (by omega)])
        simp only [if_true] at this
        exact one_ne_zero_F this
    · rw [if_neg hf]
      generalize findP A k m 0 m = i at h2 h3 h4 hf
      have hi : i < m := by omega
      have hp := h3 hi
      rw [cntF, if_pos]
      · rw [ih (k + 1) (m - 1) (elimM A i k) (by omega) (fun r c hr hc => by
          by_cases hck : c = k
          · rw [hck]; exact elim_zero A i k r hp
          · exact elim_low A i k m r c hi hr (fun r hr => hz r c hr (by omega)))]
        rw [Nat.add_comm]
        congr 1
        refine cntF_congr f (k + 1) fun q h5 h6 => ⟨fun h y hy ht => ?_, fun h y hy ht => ?_⟩
        · rw [elim_ker A i k m n hi y] at hy
          exact h y hy.2 ht
        · -- the number at k is turned so that the row i gives 0
          obtain ⟨y', hy'⟩ : ∃ y' : Nat → F, y' = fun c => y c - (if c = k then 1 else 0) * (fi (A i k) * sF (fun c => A i c * y c) n) := ⟨_, rfl⟩
          have e1 : ∀ (u : Nat → F), sF (fun c => u c * y' c) n = sF (fun c => u c * y c) n - u k * (fi (A i k) * sF (fun c => A i c * y c) n) := fun u => by
            rw [hy', sF_congr (g := fun c => u c * y c - (fi (A i k) * sF (fun c => A i c * y c) n) * (u c * (if c = k then 1 else 0))) n (fun c _ => by grind), sF_sub, sF_mul, unit_sum u n k (by omega)]; grind
          have h7 := h y' ((elim_ker A i k m n hi y').2 ⟨by rw [e1]; have := mul_fi hp; grind, fun r hr => by rw [e1, hy r hr, elim_zero A i k r hp]; grind⟩) (fun j h8 h9 => by rw [hy']; simp only; rw [ht j h8 h9, if_neg (by omega)]; grind)
          rw [hy'] at h7
          simp only at h7
          rw [if_neg (by omega)] at h7
          grind
      · simp only [decide_eq_true_eq]
        intro y hy ht
        have h5 := hy i hi
        rw [sF_one n k (by omega) (fun c hc hck => by
          rcases Nat.lt_or_ge c k with h | h
          · rw [hz i c hi h]; grind
          · rw [ht c (by omega) hc]; grind)] at h5
        exact mul_zero_F h5 hp
theorem rkR_all (m n : Nat) (A : Mt) : rkR 0 n m A = rkC m n A := rkR_cnt n n 0 m A (by omega) (fun r c _ h => by omega)
theorem rkR_le (f : Nat) : ∀ (k m : Nat) (A : Mt), rkR k f m A ≤ m := by
  induction f with
  | zero => intro k m A; exact Nat.zero_le _
  | succ f ih =>
    intro k m A
    rw [rkR]
    split
    · omega
    · split
      · exact ih _ _ _
      · have := ih (k + 1) (m - 1) (elimM A (findP A k m 0 m) k); omega
theorem rkC_le (m n : Nat) (A : Mt) : rkC m n A ≤ m := by rw [← rkR_all]; exact rkR_le _ _ _ _
/-- The rank is the number of columns exactly if they are independent. -/
theorem rkC_full (m n : Nat) (A : Mt) : rkC m n A = n ↔ Ker0 m n A := by
  unfold rkC
  rw [cntF_full]
  constructor
  · intro h y hy
    have : ∀ d c, c + d + 1 = n → y c = 0 := by
      intro d
      induction d using Nat.strongRecOn with
      | _ d ih =>
        intro c hc
        exact h c (by omega) (by omega) y hy (fun i h1 h2 => ih (n - 1 - i) (by omega) i (by omega))
    exact fun c hc => this (n - 1 - c) c (by omega)
  · intro h q h1 h2 y hy _
    exact h y hy q (by omega)
/-- With a column more: the rank stays exactly if that column is a combination of the others. -/
theorem rkC_wide (m n : Nat) (A : Mt) (b : Nat → F) (hk : Ker0 m n A) : rkC m (n + 1) (wideM n A b) = n ↔ ∃ x : Nat → F, ∀ r, r < m → sF (fun c => A r c * x c) n = b r := by
  unfold rkC
  rw [cntF_snoc]
  have e : cntF (PivC m (n + 1) (wideM n A b)) 0 n = n := by
    rw [cntF_full]
    intro q h1 h2 y hy ht
    refine hk y (fun r hr => ?_) q (by omega)
    have := hy r hr
    rw [wide_sum, ht n (by omega) (by omega)] at this
    grind
  rw [e, Nat.zero_add]
  constructor
  · intro h
    by_cases hp : PivC m (n + 1) (wideM n A b) n
    · rw [if_pos (by simpa using hp)] at h; omega
    · have hp2 : ∃ y : Nat → F, (∀ r, r < m → sF (fun c => wideM n A b r c * y c) (n + 1) = 0) ∧ y n ≠ 0 := Classical.byContradiction fun hne => hp fun y hy _ => Classical.byContradiction fun h0 => hne ⟨y, hy, h0⟩
      obtain ⟨y, hy, h0⟩ := hp2
      refine ⟨fun c => -(fi (y n)) * y c, fun r hr => ?_⟩
      have h1 := hy r hr
      rw [wide_sum] at h1
      rw [sF_congr (g := fun c => -(fi (y n)) * (A r c * y c)) n (fun c _ => by grind), sF_mul]
      have h2 := mul_fi h0
      grind
  · rintro ⟨x, hx⟩
    rw [if_neg]; · rfl
    simp only [decide_eq_true_eq]
    intro hp
    have := hp (fun c => if c < n then x c else -1) (fun r hr => by
      rw [wide_sum, if_neg (by omega), sF_congr (g := fun c => A r c * x c) n (fun c hc => by rw [if_pos hc]), hx r hr]; grind) (fun i h1 h2 => by omega)
    rw [if_neg (by omega)] at this
    exact one_ne_zero_F (by grind)
/-- A row more that the rank does not tell: whatever the others give 0, it gives 0. -/
theorem rkC_row (m n : Nat) (A : Mt) (h : rkC (m + 1) n A ≤ rkC m n A) (y : Nat → F) (hy : ∀ r, r < m → sF (fun c => A r c * y c) n = 0) : sF (fun c => A m c * y c) n = 0 := by
  -- by the greatest index at which y is not 0
  have key : ∀ d (y : Nat → F), (∀ i, d ≤ i → i < n → y i = 0) → (∀ r, r < m → sF (fun c => A r c * y c) n = 0) → sF (fun c => A m c * y c) n = 0 := by
    intro d
    induction d with
    | zero => intro y h0 _; exact sF_zero' n fun c hc => by rw [h0 c (by omega) hc]; grind
    | succ q ih =>
      intro y h0 hy
      by_cases hqn : q < n
      rotate_left
      · exact ih y (fun i h1 h2 => by omega) hy
      by_cases hq0 : y q = 0
      · exact ih y (fun i h1 h2 => by
          by_cases hiq : i = q
          · rw [hiq]; exact hq0
          · exact h0 i (by omega) h2) hy
      -- column q is no pivot of the m rows; so it is none of the rows with the one more
      apply Classical.byContradiction
      intro hne
      have np : ¬ PivC m n A q := fun hp => hq0 (hp y hy (fun i h1 h2 => h0 i (by omega) h2))
      have hp : PivC (m + 1) n A q := by
        intro z hz ht
        apply Classical.byContradiction
        intro hzq
        have h1 := ih (fun c => y c - y q * fi (z q) * z c) (fun i h1 h2 => by
          by_cases hiq : i = q
          · rw [hiq]; have := mul_fi hzq; grind
          · rw [h0 i (by omega) h2, ht i (by omega) h2]; grind) (fun r hr => by
          rw [sF_congr (g := fun c => A r c * y c - y q * fi (z q) * (A r c * z c)) n (fun c _ => by grind), sF_sub, sF_mul, hy r hr, hz r (by omega)]; grind)
        rw [sF_congr (g := fun c => A m c * y c - y q * fi (z q) * (A m c * z c)) n (fun c _ => by grind), sF_sub, sF_mul, hz m (by omega)] at h1
        exact hne (by grind)
      have hlt := cntF_lt (p := PivC m n A) (q := PivC (m + 1) n A) n 0 q (fun i _ _ h z hz ht => h z (fun r hr => hz r (by omega)) ht) (by omega) (by omega) hp np
      unfold rkC at h
      omega
  exact key n y (fun i h1 h2 => by omega) hy
end Go.Proofs.Ytmhcpaffdchboaa
