/-
  Compositions of power series, without a program: they keep sums and products, are associative, and have the chain rule.
-/
import Derived.Test.YtnjaalblgakgaaaSer
namespace Go.Proofs.Ytnjaalblgakgaaa
namespace PS
/-- Composition with fuel, by Horner's scheme. -/
def compF : Nat → PS → PS → PS
  | 0, _, _ => fun _ => 0
  | k + 1, f, c => add (cst (f 0)) (mul c (compF k (tl f) c))
/-- The composition f(c), for c(0) = 0. -/
def comp (f c : PS) : PS := fun n => compF (n + 1) f c n
theorem compF_stable {c : PS} (h0 : c 0 = 0) (k k' : Nat) (f : PS) (n : Nat) (h : n < k) (h' : n < k') : compF k f c n = compF k' f c n := by
  induction k generalizing k' f n with
  | zero => omega
  | succ k ih =>
    cases k' with
    | zero => omega
    | succ k' =>
      simp only [compF, add]
      rw [mul_congr_lo h0 (fun i hi => ih k' (tl f) i (by omega) (by omega))]
theorem comp_at {c : PS} (h0 : c 0 = 0) (f : PS) (n : Nat) : comp f c n = cst (f 0) n + mul c (comp (tl f) c) n := by
  show cst (f 0) n + mul c (compF n (tl f) c) n = _
  rw [mul_congr_lo h0 (fun i hi => compF_stable h0 n (i + 1) (tl f) i hi (by omega))]
  rfl
theorem comp_eq {c : PS} (h0 : c 0 = 0) (f : PS) : comp f c = add (cst (f 0)) (mul c (comp (tl f) c)) := funext (comp_at h0 f)
theorem comp_zero_at (f c : PS) (h0 : c 0 = 0) : comp f c 0 = f 0 := by
  rw [comp_at h0, mul_zero_at, h0]; simp only [cst, if_pos]; grind
theorem comp_cst {c : PS} (h0 : c 0 = 0) (a : F) (n : Nat) : comp (cst a) c n = cst a n := by
  have hz : ∀ n, comp (fun _ => 0) c n = 0 := by
    intro n
    induction n using Nat.strongRecOn with
    | _ n ih =>
      rw [comp_at h0, show tl (fun _ => (0 : F)) = fun _ => 0 from rfl, mul_congr_lo (g' := fun _ => 0) h0 (fun i hi => ih i hi), mul_comm, mul_zero_left]
      simp only [cst]; grind
  rw [comp_at h0, show tl (cst a) = fun _ => 0 from rfl, mul_congr_lo (g' := fun _ => 0) h0 (fun i _ => hz i), mul_comm, mul_zero_left]
  simp only [cst]; grind
theorem cst_add (a b : F) (n : Nat) : cst (a + b) n = cst a n + cst b n := by simp only [cst]; grind
theorem cst_mul (a b : F) (n : Nat) : cst (a * b) n = a * cst b n := by simp only [cst]; grind
theorem comp_add {c : PS} (h0 : c 0 = 0) (f g : PS) (n : Nat) : comp (add f g) c n = comp f c n + comp g c n := by
  induction n using Nat.strongRecOn generalizing f g with
  | _ n ih =>
    rw [comp_at h0, comp_at h0 f, comp_at h0 g, show tl (add f g) = add (tl f) (tl g) from rfl,
      mul_congr_lo (g' := add (comp (tl f) c) (comp (tl g) c)) h0 (fun i hi => ih i hi _ _), mul_add_right, show add f g 0 = f 0 + g 0 from rfl, cst_add]
    grind
theorem comp_smul {c : PS} (h0 : c 0 = 0) (k : F) (f : PS) (n : Nat) : comp (smul k f) c n = k * comp f c n := by
  induction n using Nat.strongRecOn generalizing f with
  | _ n ih =>
    rw [comp_at h0, comp_at h0 f, show tl (smul k f) = smul k (tl f) from rfl,
      mul_congr_lo (g' := smul k (comp (tl f) c)) h0 (fun i hi => ih i hi _), mul_smul_right, show smul k f 0 = k * f 0 from rfl, cst_mul]
    grind
theorem comp_mul {c : PS} (h0 : c 0 = 0) (f g : PS) (n : Nat) : comp (mul f g) c n = mul (comp f c) (comp g c) n := by
  induction n using Nat.strongRecOn generalizing f with
  | _ n ih =>
    have e1 : comp (mul f g) c n = cst (f 0 * g 0) n + (f 0 * mul c (comp (tl g) c) n + mul c (mul (comp (tl f) c) (comp g c)) n) := by
      rw [comp_at h0, mul_zero_at, tl_mul]
      congr 1
      rw [mul_congr_lo (g' := add (smul (f 0) (comp (tl g) c)) (mul (comp (tl f) c) (comp g c))) h0
        (fun i hi => by rw [comp_add h0, comp_smul h0, ih i hi]; rfl), mul_add_right, mul_smul_right]
    rw [e1, comp_eq h0 f, mul_add_left, mul_cst, mul_assoc, comp_at h0 g n, cst_mul]
    grind
/-- Composition is associative. -/
theorem comp_assoc {b c : PS} (hb : b 0 = 0) (hc : c 0 = 0) (a : PS) (n : Nat) : comp (comp a b) c n = comp a (comp b c) n := by
  have hbc : comp b c 0 = 0 := by rw [comp_zero_at _ _ hc, hb]
  induction n using Nat.strongRecOn generalizing a with
  | _ n ih =>
    rw [comp_at hbc a n, comp_eq hb a, comp_add hc, comp_cst hc, comp_mul hc, mul_congr_lo hbc (fun i hi => ih i hi _)]
theorem comp_X {c : PS} (h0 : c 0 = 0) (n : Nat) : comp X c n = c n := by
  rw [comp_at h0, show tl X = cst 1 from by funext k; simp [tl, X, cst], mul_congr_lo h0 (fun i _ => comp_cst h0 1 i), mul_one_right]
  simp only [show X 0 = 0 from rfl, cst]; grind
theorem X_mul (f : PS) (n : Nat) : mul X f n = if n = 0 then 0 else f (n - 1) := by
  cases n with
  | zero => rw [mul_zero_at, show X 0 = 0 from rfl]; grind
  | succ n => rw [mul_X_succ]; simp
theorem comp_of_X (a : PS) (n : Nat) : comp a X n = a n := by
  induction n generalizing a with
  | zero => rw [comp_zero_at _ _ rfl]
  | succ n ih => rw [comp_at rfl, mul_X_succ, ih]; simp [cst, tl]
theorem D_tl (f : PS) : D f = add (tl f) (mul X (D (tl f))) := by
  funext n
  cases n with
  | zero => simp only [D, add, tl, X_mul, nF]; grind
  | succ n => simp only [add, mul_X_succ, D, tl, nF]; grind
/-- The chain rule. -/
theorem D_comp {c : PS} (h0 : c 0 = 0) (f : PS) (n : Nat) : D (comp f c) n = mul (comp (D f) c) (D c) n := by
  induction n using Nat.strongRecOn generalizing f with
  | _ n ih =>
    have e1 : D (comp f c) n = mul (D c) (comp (tl f) c) n + mul c (mul (comp (D (tl f)) c) (D c)) n := by
      rw [comp_eq h0 f, D_add, D_cst, D_mul, mul_congr_lo h0 (fun i hi => ih i hi (tl f))]
      grind
    have e2 : comp (D f) c = add (comp (tl f) c) (mul c (comp (D (tl f)) c)) := by
      funext k
      rw [D_tl f, comp_add h0, comp_mul h0, mul_congr (fun i _ => comp_X h0 i) (fun i _ => rfl)]
      rfl
    rw [e1, e2, mul_add_left, mul_comm (D c), mul_assoc]
theorem mul_smR (f : PS) (g : Nat → PS) (N n : Nat) : mul f (fun n => sm (fun m => g m n) N) n = sm (fun m => mul f (g m) n) N := by
  induction N with
  | zero => simp only [sm]; rw [mul_comm, mul_zero_left]
  | succ N ih =>
    rw [show (fun n => sm (fun m => g m n) (N + 1)) = add (fun n => sm (fun m => g m n) N) (g N) from rfl, mul_add_right, ih]
    rfl
/-- Composition as a sum of powers. -/
theorem compF_sum (N : Nat) (a c : PS) (n : Nat) : compF N a c n = sm (fun m => a m * pw c m n) N := by
  induction N generalizing a n with
  | zero => rfl
  | succ N ih =>
    rw [sm_head, show compF (N + 1) a c = add (cst (a 0)) (mul c (compF N (tl a) c)) from rfl]
    have e : compF N (tl a) c = fun n => sm (fun m => smul (tl a m) (pw c m) n) N := funext fun n => ih (tl a) n
    simp only [add]
    rw [e, mul_smR]
    congr 1
    · simp only [pw, cst]; grind
    · apply sm_congr
      intro i _
      rw [mul_smul_right, pw, mul_comm c]; rfl
theorem comp_congr {a a' c c' : PS} {n : Nat} (ha : ∀ i, i ≤ n → a i = a' i) (hc : ∀ i, i ≤ n → c i = c' i) (h0 : c 0 = 0) : comp a c n = comp a' c' n := by
  have h0' : c' 0 = 0 := by rw [← hc 0 (by omega), h0]
  induction n using Nat.strongRecOn generalizing a a' with
  | _ n ih =>
    rw [comp_at h0, comp_at h0', ha 0 (by omega)]
    congr 1
    have e1 : mul c (comp (tl a) c) n = mul c (comp (tl a') c') n := mul_congr_lo h0 (fun i hi => ih i hi (fun j hj => ha (j + 1) (by omega)) (fun j hj => hc j (by omega)))
    rw [e1]
    exact mul_congr hc (fun _ _ => rfl)
/-- How a composition's coefficient leans on the inner series' one at the same index. -/
theorem comp_last {a c c' : PS} {n : Nat} (hn : 0 < n) (hc : ∀ i, i < n → c i = c' i) (h0 : c 0 = 0) : comp a c n = comp a c' n + a 1 * (c n - c' n) := by
  have h0' : c' 0 = 0 := by rw [← hc 0 hn, h0]
  obtain ⟨m, rfl⟩ : ∃ m, n = m + 1 := ⟨n - 1, by omega⟩
  rw [comp_at h0, comp_at h0']
  rw [mul_succ' c, mul_succ' c', comp_zero_at _ _ h0, comp_zero_at _ _ h0']
  have e : mul c (tl (comp (tl a) c)) m = mul c' (tl (comp (tl a) c')) m := by
    cases m with
    | zero => rw [mul_zero_at, mul_zero_at, h0, h0']; grind
    | succ m =>
      rw [mul_succ, mul_succ, h0, h0', mul_congr (f := tl c) (f' := tl c') (g := tl (comp (tl a) c)) (g' := tl (comp (tl a) c')) (n := m) (fun i hi => hc (i + 1) (by omega))
        (fun i hi => comp_congr (n := i + 1) (fun _ _ => rfl) (fun j hj => hc j (by omega)) h0)]
      grind
  rw [e]
  simp only [tl]
  grind
end PS
end Go.Proofs.Ytnjaalblgakgaaa
