/-
  Power series over the field with 10007 elements, without a program: products, powers, compositions, derivatives.
-/
namespace Go.Proofs.YtmhcpaffdchboaaDoor
abbrev F := Fin 10007
/-- A power series. -/
abbrev PS := Nat → F
namespace PS
/-- The series without its first coefficient, divided by the variable. -/
def tl (f : PS) : PS := fun n => f (n + 1)
/-- A number as a series. -/
def cst (c : F) : PS := fun n => if n = 0 then c else 0
/-- The variable. -/
def X : PS := fun n => if n = 1 then 1 else 0
def add (f g : PS) : PS := fun n => f n + g n
def sub (f g : PS) : PS := fun n => f n - g n
def smul (c : F) (f : PS) : PS := fun n => c * f n
def mul (f g : PS) : PS := fun n => match n with
  | 0 => f 0 * g 0
  | n + 1 => f 0 * g (n + 1) + mul (tl f) g n
theorem mul_zero_at (f g : PS) : mul f g 0 = f 0 * g 0 := by rw [mul]
theorem mul_succ (f g : PS) (n : Nat) : mul f g (n + 1) = f 0 * g (n + 1) + mul (tl f) g n := by rw [mul]
theorem tl_mul (f g : PS) : tl (mul f g) = add (smul (f 0) (tl g)) (mul (tl f) g) := by funext n; simp [tl, mul_succ, add, smul]
theorem mul_add_left (f g h : PS) (n : Nat) : mul (add f g) h n = mul f h n + mul g h n := by
  induction n generalizing f g with
  | zero => simp only [mul_zero_at, add]; grind
  | succ n ih => rw [mul_succ, mul_succ, mul_succ, show tl (add f g) = add (tl f) (tl g) from rfl, ih]; simp only [add]; grind
theorem mul_smul_left (c : F) (f h : PS) (n : Nat) : mul (smul c f) h n = c * mul f h n := by
  induction n generalizing f with
  | zero => simp only [mul_zero_at, smul]; grind
  | succ n ih => rw [mul_succ, mul_succ, show tl (smul c f) = smul c (tl f) from rfl, ih]; simp only [smul]; grind
/-- The product by the second series' first coefficient. -/
theorem mul_succ' (f g : PS) (n : Nat) : mul f g (n + 1) = mul f (tl g) n + f (n + 1) * g 0 := by
  induction n generalizing f with
  | zero => simp only [mul_succ, mul_zero_at, tl]
  | succ n ih => rw [mul_succ, ih, mul_succ f (tl g)]; simp only [tl]; grind
theorem mul_comm (f g : PS) (n : Nat) : mul f g n = mul g f n := by
  induction n generalizing f with
  | zero => simp only [mul_zero_at]; grind
  | succ n ih => rw [mul_succ, mul_succ', ih]; grind
theorem mul_comm' (f g : PS) : mul f g = mul g f := funext (mul_comm f g)
theorem mul_assoc (f g h : PS) (n : Nat) : mul (mul f g) h n = mul f (mul g h) n := by
  induction n generalizing f with
  | zero => simp only [mul_zero_at]; grind
  | succ n ih => rw [mul_succ, tl_mul, mul_add_left, mul_smul_left, ih, mul_zero_at, mul_succ f, mul_succ g]; grind
theorem mul_assoc' (f g h : PS) : mul (mul f g) h = mul f (mul g h) := funext (mul_assoc f g h)
theorem mul_zero_left (f : PS) (n : Nat) : mul (fun _ => 0) f n = 0 := by
  induction n with
  | zero => rw [mul_zero_at]; grind
  | succ n ih => rw [mul_succ, show tl (fun _ => (0 : F)) = fun _ => 0 from rfl, ih]; grind
theorem mul_cst (c : F) (f : PS) (n : Nat) : mul (cst c) f n = c * f n := by
  cases n with
  | zero => simp [mul_zero_at, cst]
  | succ n => rw [mul_succ, show tl (cst c) = fun _ => 0 from rfl, mul_zero_left]; simp [cst]
theorem mul_one_left (f : PS) (n : Nat) : mul (cst 1) f n = f n := by rw [mul_cst]; grind
theorem mul_one_right (f : PS) (n : Nat) : mul f (cst 1) n = f n := by rw [mul_comm, mul_one_left]
theorem mul_X_succ (f : PS) (n : Nat) : mul X f (n + 1) = f n := by
  rw [mul_succ, show tl X = cst 1 from by funext k; simp [tl, X, cst], mul_one_left, show X 0 = 0 from rfl]; grind
/-- A product at an index leans on the coefficients to this index alone. -/
theorem mul_congr {f f' g g' : PS} {n : Nat} (hf : ∀ i, i ≤ n → f i = f' i) (hg : ∀ i, i ≤ n → g i = g' i) : mul f g n = mul f' g' n := by
  induction n generalizing f f' with
  | zero => rw [mul_zero_at, mul_zero_at, hf 0 (by omega), hg 0 (by omega)]
  | succ n ih =>
    rw [mul_succ, mul_succ, hf 0 (by omega), hg (n + 1) (by omega), ih (f := tl f) (f' := tl f') (fun i hi => hf (i + 1) (by omega)) (fun i hi => hg i (by omega))]
/-- .. and if the first series begins with 0, on the second's coefficients below it. -/
theorem mul_congr_lo {f g g' : PS} {n : Nat} (h0 : f 0 = 0) (hg : ∀ i, i < n → g i = g' i) : mul f g n = mul f g' n := by
  cases n with
  | zero => rw [mul_zero_at, mul_zero_at, h0]; grind
  | succ n => rw [mul_succ, mul_succ, h0, mul_congr (fun _ _ => rfl) (fun i hi => hg i (by omega))]; grind
theorem mul_add_right (f g h : PS) (n : Nat) : mul f (add g h) n = mul f g n + mul f h n := by
  rw [mul_comm, mul_add_left, mul_comm g, mul_comm h]
theorem mul_smul_right (c : F) (f h : PS) (n : Nat) : mul f (smul c h) n = c * mul f h n := by rw [mul_comm, mul_smul_left, mul_comm]
theorem mul_sub_left (f g h : PS) (n : Nat) : mul (sub f g) h n = mul f h n - mul g h n := by
  have e : sub f g = add f (smul (-1) g) := by funext k; simp only [sub, add, smul]; grind
  rw [e, mul_add_left, mul_smul_left]; grind
theorem mul_sub_right (f g h : PS) (n : Nat) : mul f (sub g h) n = mul f g n - mul f h n := by rw [mul_comm, mul_sub_left, mul_comm g, mul_comm h]
/-- The sum of g 0 .. g (n - 1). -/
def sm (g : Nat → F) : Nat → F
  | 0 => 0
  | n + 1 => sm g n + g n
theorem sm_congr {f g : Nat → F} (n : Nat) (h : ∀ i, i < n → f i = g i) : sm f n = sm g n := by
  induction n with
  | zero => rfl
  | succ n ih => simp only [sm]; rw [ih (fun i hi => h i (by omega)), h n (by omega)]
theorem sm_head (g : Nat → F) (n : Nat) : sm g (n + 1) = g 0 + sm (fun i => g (i + 1)) n := by
  induction n with
  | zero => simp only [sm]; grind
  | succ n ih => rw [sm, ih]; simp only [sm]; grind
theorem sm_mul (c : F) (g : Nat → F) (n : Nat) : sm (fun i => c * g i) n = c * sm g n := by
  induction n with
  | zero => simp only [sm]; grind
  | succ n ih => simp only [sm]; rw [ih]; grind
theorem sm_zero {g : Nat → F} (n : Nat) (h : ∀ i, i < n → g i = 0) : sm g n = 0 := by
  induction n with
  | zero => rfl
  | succ n ih => rw [sm, ih (fun i hi => h i (by omega)), h n (by omega)]; grind
theorem mul_sm (f g : PS) (n : Nat) : mul f g n = sm (fun k => f k * g (n - k)) (n + 1) := by
  induction n generalizing f with
  | zero => simp only [mul_zero_at, sm]; grind
  | succ n ih =>
    rw [mul_succ, ih, sm_head _ (n + 1)]
    show f 0 * g (n + 1) + _ = f 0 * g (n + 1) + _
    congr 1
    apply sm_congr
    intro i hi
    simp only [tl]
    rw [show n + 1 - (i + 1) = n - i by omega]
/-- A natural number in the field. -/
def nF : Nat → F
  | 0 => 0
  | n + 1 => nF n + 1
theorem nF_val (n : Nat) : (nF n).val = n % 10007 := by
  induction n with
  | zero => rfl
  | succ n ih => rw [nF, Fin.val_add, ih]; show (n % 10007 + 1) % 10007 = _; omega
/-- The derivative. -/
def D (f : PS) : PS := fun n => nF (n + 1) * f (n + 1)
/-- n times the n-th coefficient. -/
def th (f : PS) : PS := fun n => nF n * f n
theorem tl_th (f : PS) : tl (th f) = add (th (tl f)) (tl f) := by funext n; simp only [tl, th, add, nF]; grind
theorem th_mul (f g : PS) (n : Nat) : th (mul f g) n = mul (th f) g n + mul f (th g) n := by
  induction n generalizing f with
  | zero => simp only [th, mul_zero_at, show nF 0 = 0 from rfl]; grind
  | succ n ih =>
    have h := ih (tl f)
    rw [mul_succ, mul_succ, tl_th, mul_add_left]
    simp only [th, mul_succ, nF] at h ⊢
    grind
theorem D_eq (f : PS) : D f = tl (th f) := rfl
theorem D_mul (f g : PS) (n : Nat) : D (mul f g) n = mul (D f) g n + mul f (D g) n := by
  rw [D_eq, show tl (th (mul f g)) n = th (mul f g) (n + 1) from rfl, th_mul, mul_succ, mul_succ']
  rw [show th f 0 = 0 by simp only [th, nF]; grind, show th g 0 = 0 by simp only [th, nF]; grind, ← D_eq, ← D_eq]
  grind
theorem D_cst (c : F) (n : Nat) : D (cst c) n = 0 := by simp only [D, cst]; grind
theorem D_add (f g : PS) (n : Nat) : D (add f g) n = D f n + D g n := by simp only [D, add]; grind
theorem D_smul (c : F) (f : PS) (n : Nat) : D (smul c f) n = c * D f n := by simp only [D, smul]; grind
/-- Powers. -/
def pw (f : PS) : Nat → PS
  | 0 => cst 1
  | m + 1 => mul (pw f m) f
theorem pw_low (f : PS) (h0 : f 0 = 0) (m n : Nat) (hn : n < m) : pw f m n = 0 := by
  induction m generalizing n with
  | zero => omega
  | succ m ih =>
    rw [pw, mul_comm]
    cases n with
    | zero => rw [mul_zero_at, h0]; grind
    | succ n =>
      rw [mul_sm]
      apply sm_zero
      intro i hi
      by_cases hi0 : i = 0
      · subst hi0; rw [h0]; grind
      · rw [ih _ (by omega)]; grind
/-- A series that vanishes below m times another one vanishes below m. -/
theorem mul_low {f g : PS} {m : Nat} (hf : ∀ i, i < m → f i = 0) {n : Nat} (hn : n < m) : mul f g n = 0 := by
  rw [mul_sm]
  apply sm_zero
  intro i hi
  rw [hf i (by omega)]; grind
end PS
end Go.Proofs.YtmhcpaffdchboaaDoor
