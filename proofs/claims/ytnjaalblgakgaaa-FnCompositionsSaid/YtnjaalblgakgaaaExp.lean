/-
  Quotients, exponentials, logarithms and reverses of power series over the field, without a program: by recursions, and by sums of powers; both are the same.
-/
import Derived.Test.YtnjaalblgakgaaaFld
import Derived.Test.YtnjaalblgakgaaaComp
namespace Go.Proofs.Ytnjaalblgakgaaa
namespace PS
/-! ### Quotients -/
/-- The first n coefficients of the quotient a / b, zeros behind. -/
def divT (a b : PS) : Nat → PS
  | 0 => fun _ => 0
  | n + 1 => fun i => if i = n then (a n - mul (divT a b n) b n) * fi (b 0) else divT a b n i
/-- The quotient a / b. -/
def div (a b : PS) : PS := fun n => divT a b (n + 1) n
theorem divT_high (a b : PS) (n i : Nat) (h : n ≤ i) : divT a b n i = 0 := by
  induction n with
  | zero => rfl
  | succ n ih => simp only [divT]; rw [if_neg (by omega), ih (by omega)]
theorem divT_low (a b : PS) (n i : Nat) (h : i < n) : divT a b n i = div a b i := by
  induction n with
  | zero => omega
  | succ n ih =>
    by_cases hi : i = n
    · subst hi; rfl
    · simp only [divT]; rw [if_neg hi, ih (by omega)]
theorem mul_last (f g : PS) (n : Nat) : mul f g n = mul (fun i => if i < n then f i else 0) g n + f n * g 0 := by
  cases n with
  | zero => rw [mul_zero_at, mul_zero_at]; simp; grind
  | succ n =>
    rw [mul_succ', mul_succ' (fun i => if i < n + 1 then f i else 0), mul_congr (f := f) (f' := fun i => if i < n + 1 then f i else 0) (fun i hi => by rw [if_pos (by omega)]) (fun _ _ => rfl)]
    simp only [Nat.lt_irrefl, if_false]; grind
theorem divT_mul (a b : PS) (n : Nat) : mul (divT a b n) b n = mul (fun i => if i < n then div a b i else 0) b n := by
  apply mul_congr _ (fun _ _ => rfl)
  intro i hi
  by_cases h : i < n
  · rw [if_pos h, divT_low _ _ _ _ h]
  · rw [if_neg h, divT_high _ _ _ _ (by omega)]
theorem div_at (a b : PS) (n : Nat) : div a b n = (a n - mul (divT a b n) b n) * fi (b 0) := by
  show divT a b (n + 1) n = _
  simp only [divT, if_true]
/-- Dividing undoes multiplying. -/
theorem div_mul {b : PS} (hb : b 0 ≠ 0) (a : PS) (n : Nat) : mul (div a b) b n = a n := by
  have h := mul_fi hb
  rw [mul_last, ← divT_mul, div_at]
  grind
/-- A quotient is told by its product. -/
theorem mul_cancel_right {b : PS} (hb : b 0 ≠ 0) {x y : PS} {n : Nat} (h : ∀ i, i ≤ n → mul x b i = mul y b i) : x n = y n := by
  induction n using Nat.strongRecOn with
  | _ n ih =>
    have h1 := h n (by omega)
    rw [mul_last x, mul_last y] at h1
    have e : mul (fun i => if i < n then x i else 0) b n = mul (fun i => if i < n then y i else 0) b n := by
      apply mul_congr _ (fun _ _ => rfl)
      intro i _
      by_cases hi : i < n
      · simp only [if_pos hi]; exact ih i hi (fun j hj => h j (by omega))
      · simp only [if_neg hi]
    rw [e] at h1
    exact Go.Proofs.Ytnjaalblgakgaaa.mul_cancel hb (by grind)
theorem div_unique {b : PS} (hb : b 0 ≠ 0) {a x : PS} {n : Nat} (h : ∀ i, i ≤ n → mul x b i = a i) : x n = div a b n :=
  mul_cancel_right hb (fun i hi => by rw [h i hi, div_mul hb])
theorem div_congr {a a' b b' : PS} {n : Nat} (ha : ∀ i, i ≤ n → a i = a' i) (hb : ∀ i, i ≤ n → b i = b' i) (h0 : b 0 ≠ 0) : div a b n = div a' b' n := by
  apply div_unique (by rw [← hb 0 (by omega)]; exact h0)
  intro i hi
  rw [← ha i hi, ← div_mul h0 a i]
  exact mul_congr (fun _ _ => rfl) (fun j hj => (hb j (by omega)).symm)
/-! ### Sums of powers of a series that begins with 0 -/
theorem pw_comm (f : PS) (m : Nat) : pw f (m + 1) = mul f (pw f m) := mul_comm' _ _
theorem geo (r : PS) (N n : Nat) : mul (fun n => sm (fun m => pw r m n) N) (sub (cst 1) r) n = cst 1 n - pw r N n := by
  induction N with
  | zero =>
    rw [show (fun n => sm (fun m => pw r m n) 0) = fun _ => 0 from rfl, mul_zero_left]
    simp only [pw]; grind
  | succ N ih =>
    rw [show (fun n => sm (fun m => pw r m n) (N + 1)) = add (fun n => sm (fun m => pw r m n) N) (pw r N) from rfl, mul_add_left, ih, mul_sub_right, mul_one_right]
    simp only [pw]; grind
/-- The reference's inverse: the sum of the powers of 1 - b / b(0), divided by b(0). -/
def invS (N : Nat) (b : PS) : PS := smul (fi (b 0)) (fun n => sm (fun m => pw (sub (cst 1) (smul (fi (b 0)) b)) m n) N)
theorem invS_mul {b : PS} (hb : b 0 ≠ 0) (N n : Nat) (hn : n < N) : mul (invS N b) b n = cst 1 n := by
  have h := mul_fi hb
  have h1 := geo (sub (cst 1) (smul (fi (b 0)) b)) N n
  have e : sub (cst 1) (sub (cst 1) (smul (fi (b 0)) b)) = smul (fi (b 0)) b := by funext k; simp only [sub, smul]; grind
  have h0 : sub (cst 1) (smul (fi (b 0)) b) 0 = 0 := by simp only [sub, cst, smul, if_pos]; grind
  rw [e, mul_smul_right, pw_low _ h0 N n hn] at h1
  rw [invS, mul_smul_left, h1]; grind
theorem mul_invS {b : PS} (hb : b 0 ≠ 0) (a : PS) (N n : Nat) (hn : n < N) : mul a (invS N b) n = div a b n := by
  apply div_unique hb
  intro i hi
  rw [mul_assoc, mul_congr (fun _ _ => rfl) (fun j hj => invS_mul hb N j (by omega)), mul_one_right]
/-! ### Exponentials -/
/-- The first n + 1 coefficients of the exponential, zeros behind. -/
def expT (b : PS) : Nat → PS
  | 0 => cst 1
  | n + 1 => fun i => if i = n + 1 then mul (D b) (expT b n) n * fi (nF (n + 1)) else expT b n i
def exp (b : PS) : PS := fun n => expT b n n
theorem expT_low (b : PS) (n i : Nat) (h : i ≤ n) : expT b n i = exp b i := by
  induction n with
  | zero => obtain rfl : i = 0 := by omega
            rfl
  | succ n ih =>
    by_cases hi : i = n + 1
    · subst hi; rfl
    · simp only [expT]; rw [if_neg hi, ih (by omega)]
theorem expT_high (b : PS) (n i : Nat) (h : n < i) : expT b n i = 0 := by
  induction n with
  | zero => simp only [expT, cst]; rw [if_neg (by omega)]
  | succ n ih => simp only [expT]; rw [if_neg (by omega), ih (by omega)]
theorem exp_zero (b : PS) : exp b 0 = 1 := rfl
/-- The exponential's derivative is it times that of b. -/
theorem D_exp (b : PS) (n : Nat) (hn : n < 10006) : D (exp b) n = mul (D b) (exp b) n := by
  have h := mul_fi (nF_ne (n := n + 1) (by omega) (by omega))
  have e : exp b (n + 1) = mul (D b) (expT b n) n * fi (nF (n + 1)) := by
    show expT b (n + 1) (n + 1) = _
    simp only [expT, if_true]
  have e2 : mul (D b) (expT b n) n = mul (D b) (exp b) n := mul_congr (fun _ _ => rfl) (fun i hi => expT_low b n i hi)
  show nF (n + 1) * exp b (n + 1) = _
  rw [e, e2]; grind
/-- A series is told by its first coefficient and such an equation for its derivative. -/
theorem ode {h x y : PS} (h0 : x 0 = y 0) {N : Nat} (hN : N ≤ 10006) (hx : ∀ n, n < N → D x n = mul h x n) (hy : ∀ n, n < N → D y n = mul h y n) (i : Nat) (hi : i ≤ N) : x i = y i := by
  induction i using Nat.strongRecOn with
  | _ i ih =>
    cases i with
    | zero => exact h0
    | succ n =>
      have h1 := hx n (by omega)
      have h2 := hy n (by omega)
      rw [mul_congr (g := x) (g' := y) (fun _ _ => rfl) (fun j hj => ih j (by omega) (by omega)), ← h2] at h1
      exact Go.Proofs.Ytnjaalblgakgaaa.mul_cancel (nF_ne (by omega) (by omega)) h1
theorem D_inj {x y : PS} (h0 : x 0 = y 0) {N : Nat} (hN : N ≤ 10006) (h : ∀ n, n < N → D x n = D y n) (i : Nat) (hi : i ≤ N) : x i = y i := by
  cases i with
  | zero => exact h0
  | succ n => exact Go.Proofs.Ytnjaalblgakgaaa.mul_cancel (nF_ne (by omega) (by omega)) (h n (by omega))
/-- The powers of b divided by factorials. -/
def fpw (b : PS) : Nat → PS
  | 0 => cst 1
  | m + 1 => smul (fi (nF (m + 1))) (mul (fpw b m) b)
theorem fpw_low (b : PS) (h0 : b 0 = 0) (m n : Nat) (hn : n < m) : fpw b m n = 0 := by
  induction m generalizing n with
  | zero => omega
  | succ m ih =>
    simp only [fpw, smul]
    rw [mul_comm]
    cases n with
    | zero => rw [mul_zero_at, h0]; grind
    | succ n =>
      rw [mul_succ, h0, mul_comm, mul_low (m := m) (fun i hi => ih i hi) (by omega)]; grind
theorem D_fpw (b : PS) (m n : Nat) (hm : m < 10006) : D (fpw b (m + 1)) n = mul (D b) (fpw b m) n := by
  induction m generalizing n with
  | zero =>
    have h := mul_fi (nF_ne (n := 1) (by omega) (by omega))
    simp only [fpw]
    rw [D_smul, D_mul, mul_congr (f := D (cst 1)) (f' := fun _ => 0) (fun i _ => D_cst 1 i) (fun _ _ => rfl), mul_zero_left, mul_one_left, mul_one_right]
    have e : nF 1 = 1 := by simp only [nF]; grind
    rw [e] at h ⊢
    grind
  | succ m ih =>
    have h := mul_fi (nF_ne (n := m + 2) (by omega) (by omega))
    have h2 := mul_fi (nF_ne (n := m + 1) (by omega) (by omega))
    rw [show fpw b (m + 1 + 1) = smul (fi (nF (m + 2))) (mul (fpw b (m + 1)) b) from rfl, D_smul, D_mul, mul_congr (f := D (fpw b (m + 1))) (fun i _ => ih i (by omega)) (fun _ _ => rfl)]
    have e1 : mul (mul (D b) (fpw b m)) b n = nF (m + 1) * mul (D b) (fpw b (m + 1)) n := by
      rw [mul_assoc, show fpw b (m + 1) = smul (fi (nF (m + 1))) (mul (fpw b m) b) from rfl, mul_smul_right]
      grind
    rw [mul_comm (fpw b (m + 1)) (D b)]
    rw [e1]
    have e2 : nF (m + 2) = nF (m + 1) + 1 := rfl
    rw [e2] at h ⊢
    grind
/-- The reference's exponential: the sum of the powers divided by factorials. -/
def expS (N : Nat) (b : PS) : PS := fun n => sm (fun m => fpw b m n) N
theorem D_sm (g : Nat → PS) (N n : Nat) : D (fun n => sm (fun m => g m n) N) n = sm (fun m => D (g m) n) N := by
  induction N with
  | zero => simp only [D, sm]; grind
  | succ N ih =>
    rw [show (fun n => sm (fun m => g m n) (N + 1)) = add (fun n => sm (fun m => g m n) N) (g N) from rfl, D_add, ih]; rfl
theorem expS_eq {b : PS} (h0 : b 0 = 0) {N : Nat} (hN : N ≤ 10006) (n : Nat) (hn : n < N) : expS N b n = exp b n := by
  obtain ⟨M, rfl⟩ : ∃ M, N = M + 1 := ⟨N - 1, by omega⟩
  have hD : ∀ i, i < M → D (expS (M + 1) b) i = mul (D b) (expS (M + 1) b) i := by
    intro i hi
    rw [show D (expS (M + 1) b) i = D (fun n => sm (fun m => fpw b m n) (M + 1)) i from rfl, show mul (D b) (expS (M + 1) b) i = mul (D b) (fun n => sm (fun m => fpw b m n) (M + 1)) i from rfl, D_sm, sm_head, show D (fpw b 0) i = 0 from D_cst 1 i, mul_smR]
    rw [sm_congr (g := fun m => mul (D b) (fpw b m) i) M (fun m hm => D_fpw b m i (by omega))]
    rw [show sm (fun m => mul (D b) (fpw b m) i) (M + 1) = sm (fun m => mul (D b) (fpw b m) i) M + mul (D b) (fpw b M) i from rfl]
    rw [mul_comm (D b) (fpw b M), mul_low (m := M) (fun j hj => fpw_low b h0 M j hj) hi]
    grind
  refine ode (h := D b) ?_ (N := M) (by omega) hD (fun i hi => D_exp b i (by omega)) n (by omega)
  rw [exp_zero]
  show sm (fun m => fpw b m 0) (M + 1) = 1
  rw [sm_head]
  rw [sm_zero M (fun i hi => fpw_low b h0 (i + 1) 0 (by omega))]
  simp only [fpw, cst, if_pos]; grind
/-! ### Logarithms -/
/-- The integral. -/
def int (f : PS) : PS := fun n => match n with
  | 0 => 0
  | n + 1 => f n * fi (nF (n + 1))
theorem D_int (f : PS) (n : Nat) (hn : n < 10006) : D (int f) n = f n := by
  have h := mul_fi (nF_ne (n := n + 1) (by omega) (by omega))
  show nF (n + 1) * (f n * fi (nF (n + 1))) = f n
  grind
theorem int_congr {f g : PS} {n : Nat} (h : ∀ i, i < n → f i = g i) : int f n = int g n := by
  cases n with
  | zero => rfl
  | succ n => simp only [int]; rw [h n (by omega)]
/-- The first n coefficients alone. -/
def tr (N : Nat) (f : PS) : PS := fun i => if i < N then f i else 0
theorem tr_at {N i : Nat} (f : PS) (h : i < N) : tr N f i = f i := by simp only [tr]; rw [if_pos h]
/-- The logarithm: its derivative is that of a, divided by a. -/
def log (a : PS) : PS := int (div (D a) a)
/-- The reference's logarithm. -/
def logS (N : Nat) (a : PS) : PS := fun n => sm (fun m => (0 - fi (nF (m + 1))) * pw (sub (cst 1) a) (m + 1) n) (N - 1)
theorem D_pw (r : PS) (m n : Nat) : D (pw r (m + 1)) n = nF (m + 1) * mul (pw r m) (D r) n := by
  induction m generalizing n with
  | zero =>
    simp only [pw]
    rw [D_mul, mul_congr (f := D (cst 1)) (f' := fun _ => 0) (fun i _ => D_cst 1 i) (fun _ _ => rfl), mul_zero_left]
    simp only [nF]; grind
  | succ m ih =>
    rw [show pw r (m + 1 + 1) = mul (pw r (m + 1)) r from rfl, D_mul, mul_congr (f := D (pw r (m + 1))) (f' := smul (nF (m + 1)) (mul (pw r m) (D r))) (fun i _ => ih i) (fun _ _ => rfl)]
    rw [mul_smul_left, mul_assoc, mul_congr (f := pw r m) (g := mul (D r) r) (g' := mul r (D r)) (fun _ _ => rfl) (fun i _ => mul_comm _ _ i), ← mul_assoc]
    rw [show mul (pw r m) r = pw r (m + 1) from rfl, show nF (m + 1 + 1) = nF (m + 1) + 1 from rfl]
    grind
theorem logS_eq {a : PS} (h1 : a 0 = 1) {N : Nat} (hN : N ≤ 10006) (n : Nat) (hn : n < N) : logS N a n = log a n := by
  obtain ⟨M, rfl⟩ : ∃ M, N = M + 1 := ⟨N - 1, by omega⟩
  have hr0 : sub (cst 1) a 0 = 0 := by simp only [sub, cst, if_pos, h1]; grind
  have ha : a 0 ≠ 0 := by rw [h1]; grind
  have hD : ∀ i, i < M → D (logS (M + 1) a) i = D (log a) i := by
    intro i hi
    rw [log, D_int _ _ (by omega)]
    apply div_unique ha
    intro j hj
    have e1 : ∀ k, D (logS (M + 1) a) k = mul (fun k => sm (fun m => pw (sub (cst 1) a) m k) M) (D a) k := by
      intro k
      have e0 : D (logS (M + 1) a) k = sm (fun m => D (smul (0 - fi (nF (m + 1))) (pw (sub (cst 1) a) (m + 1))) k) M := by
        exact D_sm (fun m => smul (0 - fi (nF (m + 1))) (pw (sub (cst 1) a) (m + 1))) M k
      rw [e0, mul_comm, mul_smR]
      apply sm_congr
      intro m hm
      have h := mul_fi (nF_ne (n := m + 1) (by omega) (by omega))
      rw [D_smul, D_pw, mul_comm (D a)]
      have e2 : mul (pw (sub (cst 1) a) m) (D (sub (cst 1) a)) k = 0 - mul (pw (sub (cst 1) a) m) (D a) k := by
        rw [mul_congr (g := D (sub (cst 1) a)) (g' := smul (-1) (D a)) (fun _ _ => rfl) (fun l _ => by simp only [D, sub, cst, smul]; grind), mul_smul_right]; grind
      rw [e2]; grind
    have e3 : sub (cst 1) (sub (cst 1) a) = a := by funext k; simp only [sub]; grind
    have h2 := fun k => geo (sub (cst 1) a) M k
    rw [e3] at h2
    rw [mul_congr (fun k _ => e1 k) (fun _ _ => rfl), mul_assoc, mul_congr (g := mul (D a) a) (g' := mul a (D a)) (fun _ _ => rfl) (fun k _ => mul_comm _ _ k), ← mul_assoc]
    rw [mul_congr (f := mul (fun k => sm (fun m => pw (sub (cst 1) a) m k) M) a) (f' := cst 1) (fun k hk => by rw [h2 k, pw_low _ hr0 M k (by omega)]; grind) (fun _ _ => rfl), mul_one_left]
  refine D_inj ?_ (N := M) (by omega) hD n (by omega)
  show sm (fun m => (0 - fi (nF (m + 1))) * pw (sub (cst 1) a) (m + 1) 0) M = 0
  apply sm_zero
  intro i _
  rw [pw_low _ hr0 (i + 1) 0 (by omega)]; grind
/-- Logarithms undo exponentials. -/
theorem log_exp (b : PS) (hb : b 0 = 0) (n : Nat) (hn : n ≤ 10006) : log (exp b) n = b n := by
  refine D_inj (N := 10006) ?_ (by omega) ?_ n hn
  · rw [hb]; rfl
  · intro i hi
    rw [log, D_int _ _ hi]
    symm
    apply div_unique (by rw [exp_zero]; grind)
    intro j hj
    rw [← D_exp b j (by omega)]
theorem exp_add (b c : PS) (n : Nat) (hn : n ≤ 10006) : exp (add b c) n = mul (exp b) (exp c) n := by
  refine ode (h := D (add b c)) ?_ (N := 10006) (by omega) (fun i hi => D_exp _ i hi) ?_ n hn
  · rw [exp_zero, mul_zero_at, exp_zero, exp_zero]; grind
  · intro i hi
    rw [D_mul, mul_congr (f := D (exp b)) (f' := mul (D b) (exp b)) (fun j hj => D_exp b j (by omega)) (fun _ _ => rfl),
      mul_congr (g := D (exp c)) (g' := mul (D c) (exp c)) (fun _ _ => rfl) (fun j hj => D_exp c j (by omega)),
      mul_congr (f := D (add b c)) (f' := add (D b) (D c)) (fun j _ => D_add b c j) (fun _ _ => rfl), mul_add_left, mul_assoc]
    congr 1
    rw [← mul_assoc, mul_congr (f := mul (exp b) (D c)) (f' := mul (D c) (exp b)) (fun j _ => mul_comm _ _ j) (fun _ _ => rfl), mul_assoc]
theorem exp_congr {b b' : PS} {n : Nat} (h : ∀ i, i ≤ n → b i = b' i) : exp b n = exp b' n := by
  induction n using Nat.strongRecOn with
  | _ n ih =>
    cases n with
    | zero => rfl
    | succ n =>
      show expT b (n + 1) (n + 1) = expT b' (n + 1) (n + 1)
      simp only [expT, if_true]
      rw [mul_congr (f := D b) (f' := D b') (g := expT b n) (g' := expT b' n) (fun i hi => by simp only [D]; rw [h (i + 1) (by omega)])
        (fun i hi => by rw [expT_low b n i hi, expT_low b' n i hi]; exact ih i (by omega) (fun j hj => h j (by omega)))]
theorem log_congr {a a' : PS} {n : Nat} (h : ∀ i, i ≤ n → a i = a' i) (h0 : a 0 ≠ 0) : log a n = log a' n := by
  unfold log
  apply int_congr
  intro i hi
  apply div_congr _ (fun j hj => h j (by omega)) h0
  intro j hj
  simp only [D]; rw [h (j + 1) (by omega)]
/-! ### Reverses -/
/-- The reverse's coefficients to the index n, zeros behind. -/
def revT (a : PS) : Nat → PS
  | 0 => fun _ => 0
  | n + 1 => fun i => if i = n + 1 then (if n = 0 then fi (a 1) else (0 - comp a (revT a n) (n + 1)) * fi (a 1)) else revT a n i
def rev (a : PS) : PS := fun n => revT a n n
theorem revT_low (a : PS) (n i : Nat) (h : i ≤ n) : revT a n i = rev a i := by
  induction n with
  | zero => obtain rfl : i = 0 := by omega
            rfl
  | succ n ih =>
    by_cases hi : i = n + 1
    · subst hi; rfl
    · simp only [revT]; rw [if_neg hi, ih (by omega)]
theorem revT_high (a : PS) (n i : Nat) (h : n < i) : revT a n i = 0 := by
  induction n with
  | zero => rfl
  | succ n ih => simp only [revT]; rw [if_neg (by omega), ih (by omega)]
theorem rev_zero (a : PS) : rev a 0 = 0 := rfl
theorem rev_one (a : PS) : rev a 1 = fi (a 1) := rfl
/-- a of its reverse is the variable. -/
theorem comp_rev {a : PS} (h0 : a 0 = 0) (h1 : a 1 ≠ 0) (n : Nat) : comp a (rev a) n = X n := by
  have h := mul_fi h1
  cases n with
  | zero => rw [comp_zero_at _ _ (rev_zero a), h0]; rfl
  | succ n =>
    rw [comp_last (c' := revT a n) (by omega) (fun i hi => (revT_low a n i (by omega)).symm) (rev_zero a), revT_high a n (n + 1) (by omega)]
    have e : rev a (n + 1) = if n = 0 then fi (a 1) else (0 - comp a (revT a n) (n + 1)) * fi (a 1) := by
      show revT a (n + 1) (n + 1) = _
      simp only [revT, if_true]
    rw [e]
    by_cases hn : n = 0
    · subst hn
      rw [if_pos rfl, comp_congr (c := revT a 0) (c' := fun _ => 0) (fun _ _ => rfl) (fun _ _ => rfl) rfl]
      have e2 : comp a (fun _ => 0) (0 + 1) = 0 := by
        rw [comp_at rfl, mul_zero_left]; simp only [cst]; grind
      rw [e2]; show 0 + a 1 * (fi (a 1) - 0) = 1; grind
    · rw [if_neg hn]
      have e2 : X (n + 1) = 0 := by simp only [X]; rw [if_neg (by omega)]
      rw [e2]; grind
/-- If a of b is the variable, b of a is, and the reverse of b is a. -/
theorem rev_rev {a : PS} (h0 : a 0 = 0) (h1 : a 1 ≠ 0) (n : Nat) : rev (rev a) n = a n := by
  have hb1 : rev a 1 ≠ 0 := by
    rw [rev_one]; intro e
    have h := mul_fi h1
    rw [e] at h
    have : (0 : F) = 1 := by grind
    exact absurd this (by decide)
  have hab := fun k => comp_rev h0 h1 k
  have hbc := fun k => comp_rev (rev_zero a) hb1 k
  have e1 : comp (comp a (rev a)) (rev (rev a)) n = rev (rev a) n := by
    rw [comp_congr (a' := X) (c' := rev (rev a)) (fun k _ => hab k) (fun _ _ => rfl) (rev_zero _), comp_X (rev_zero _)]
  rw [← e1, comp_assoc (rev_zero a) (rev_zero _), comp_congr (a' := a) (c' := X) (fun _ _ => rfl) (fun k _ => hbc k) (by rw [comp_zero_at _ _ (rev_zero _), rev_zero]), comp_of_X]
theorem rev_comp {a : PS} (h0 : a 0 = 0) (h1 : a 1 ≠ 0) (n : Nat) : comp (rev a) a n = X n := by
  have hb1 : rev a 1 ≠ 0 := by
    rw [rev_one]; intro e
    have h := mul_fi h1
    rw [e] at h
    have : (0 : F) = 1 := by grind
    exact absurd this (by decide)
  rw [← comp_rev (rev_zero a) hb1 n]
  exact comp_congr (fun _ _ => rfl) (fun k _ => (rev_rev h0 h1 k).symm) h0
end PS
end Go.Proofs.Ytnjaalblgakgaaa
