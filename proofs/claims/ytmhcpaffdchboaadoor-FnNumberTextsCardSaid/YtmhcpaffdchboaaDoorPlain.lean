/-
  Plain arithmetic of the field with 10007 elements, on integers; no program in sight.
-/
namespace Go.Proofs.YtmhcpaffdchboaaDoor
/-- a is a number of the field. -/
def isNum (a : Int) : Bool := decide (0 ≤ a) && decide (a ≤ 10006)
theorem isNum_iff {a : Int} : isNum a = true ↔ 0 ≤ a ∧ a ≤ 10006 := by simp [isNum]
theorem isNum_yes {a : Int} (h : isNum a = true) : 0 ≤ a ∧ a ≤ 10006 := isNum_iff.1 h
theorem isNum_no {a : Int} (h : isNum a = false) : ¬ (0 ≤ a ∧ a ≤ 10006) := fun h' => by rw [isNum_iff.2 h'] at h; cases h
/-- n lies from lo to hi. -/
def inR (n lo hi : Int) : Bool := decide (lo ≤ n) && decide (n ≤ hi)
theorem inR_iff {n lo hi : Int} : inR n lo hi = true ↔ lo ≤ n ∧ n ≤ hi := by simp [inR]
/-- the remainder as the program reckons it. -/
theorem md_eq (n : Int) : ((n.tmod 10007 + 10007).tmod 10007) = n % 10007 := by
  have h1 : n.tmod 10007 = n % 10007 ∨ n.tmod 10007 = n % 10007 - 10007 := by
    rw [Int.tmod_eq_emod]
    split
    · left; omega
    · right; simp
  have h2 := Int.emod_nonneg n (show (10007 : Int) ≠ 0 by decide)
  have h3 := Int.emod_lt_of_pos n (show (0 : Int) < 10007 by decide)
  rcases h1 with h | h
  · rw [h, Int.tmod_eq_emod_of_nonneg (by omega)]; omega
  · rw [h, Int.tmod_eq_emod_of_nonneg (by omega)]; omega
theorem tmod_bd (n : Int) : -10007 < n.tmod 10007 ∧ n.tmod 10007 < 10007 :=
  ⟨Int.lt_tmod_of_pos n (by decide), Int.tmod_lt_of_pos n (by decide)⟩
theorem md_bd (n : Int) : 0 ≤ n % 10007 ∧ n % 10007 ≤ 10006 := by omega
theorem mul_bd {a b : Int} (ha : 0 ≤ a) (ha' : a ≤ 10006) (hb : 0 ≤ b) (hb' : b ≤ 10006) : 0 ≤ a * b ∧ a * b ≤ 100120036 := by
  refine ⟨Int.mul_nonneg ha hb, ?_⟩
  have := Int.mul_le_mul ha' hb' hb (by omega : (0 : Int) ≤ 10006)
  omega
/-- The power of a number. -/
@[irreducible] def powM (a : Int) (k : Nat) : Int := a ^ k % 10007
/-- The inverse of a number. -/
@[irreducible] def invM (a : Int) : Int := powM a 10005
theorem powM_bd (a : Int) (k : Nat) : 0 ≤ powM a k ∧ powM a k ≤ 10006 := by unfold powM; omega
theorem invM_bd (a : Int) : 0 ≤ invM a ∧ invM a ≤ 10006 := by unfold invM; exact powM_bd _ _
theorem emod_pow (a : Int) (k : Nat) : (a % 10007) ^ k % 10007 = a ^ k % 10007 := by
  induction k with
  | zero => simp
  | succ k ih => rw [Int.pow_succ, Int.pow_succ, Int.mul_emod, ih, Int.emod_emod_of_dvd _ (Int.dvd_refl _), ← Int.mul_emod]
/-- What the loop of a power keeps. -/
theorem pow_even (o b : Int) (m : Nat) (h : m % 2 = 0) : o * (b * b % 10007) ^ (m / 2) % 10007 = o * b ^ m % 10007 := by
  obtain ⟨q, rfl⟩ : ∃ q, m = 2 * q := ⟨m / 2, by omega⟩
  rw [show 2 * q / 2 = q by omega, Int.mul_emod, emod_pow, ← Int.mul_emod, Int.pow_mul, Int.pow_succ, Int.pow_succ, Int.pow_zero, Int.one_mul]
theorem pow_odd (o b : Int) (m : Nat) (h : m % 2 = 1) : (o * b % 10007) * (b * b % 10007) ^ (m / 2) % 10007 = o * b ^ m % 10007 := by
  obtain ⟨q, rfl⟩ : ∃ q, m = 2 * q + 1 := ⟨m / 2, by omega⟩
  rw [show (2 * q + 1) / 2 = q by omega, Int.mul_emod, emod_pow, Int.emod_emod_of_dvd _ (Int.dvd_refl _), ← Int.mul_emod, Int.pow_succ, Int.pow_mul, Int.pow_succ, Int.pow_succ, Int.pow_zero, Int.one_mul]
  congr 1
  rw [Int.mul_assoc, Int.mul_comm b]
/-- The sum of f 0 .. f (n - 1). -/
def sumTo (f : Nat → Int) : Nat → Int
  | 0 => 0
  | n + 1 => sumTo f n + f n
theorem sumTo_congr {f g : Nat → Int} (n : Nat) (h : ∀ i, i < n → f i = g i) : sumTo f n = sumTo g n := by
  induction n with
  | zero => rfl
  | succ n ih => simp only [sumTo]; rw [ih (fun i hi => h i (by omega)), h n (by omega)]
theorem sumTo_bd (f : Nat → Int) (n : Nat) (B : Int) (h : ∀ i, i < n → 0 ≤ f i ∧ f i ≤ B) : 0 ≤ sumTo f n ∧ sumTo f n ≤ n * B := by
  induction n with
  | zero => simp [sumTo]
  | succ n ih =>
    have h1 := ih (fun i hi => h i (by omega))
    have h2 := h n (by omega)
    simp only [sumTo]
    have e : ((n + 1 : Nat) : Int) * B = n * B + B := by rw [Int.natCast_succ, Int.add_mul, Int.one_mul]
    omega
/-- The element k of a list of integers, 0 behind its end. -/
def el (zs : List Int) (k : Nat) : Int := zs.getD k 0
theorem el_at (zs : List Int) (k : Nat) (h : k < zs.length) : zs[k] = el zs k := by simp [el, h]
/-- The row j, empty behind the end. -/
def rowAt (rows : List (List Int)) (j : Nat) : List Int := rows.getD j []
theorem rowAt_at (rows : List (List Int)) (j : Nat) (h : j < rows.length) : rows[j] = rowAt rows j := by simp [rowAt, h]
/-- The sum of a list. -/
def sumL (zs : List Int) (n : Nat) : Int := sumTo (el zs) n
/-- The sum of the products of two lists. -/
def dotL (a b : List Int) (n : Nat) : Int := sumTo (fun i => el a i * el b i) n
theorem take_all_succ (p : Int → Bool) (zs : List Int) (k : Nat) (h : k < zs.length) : (zs.take (k + 1)).all p = ((zs.take k).all p && p (el zs k)) := by
  rw [List.take_add_one, List.getElem?_eq_getElem h, List.all_append, ← el_at zs k h]; simp
theorem all_false_at {p : Int → Bool} {zs : List Int} {k : Nat} (h : k < zs.length) (hp : p (el zs k) = false) : zs.all p = false := by
  rw [List.all_eq_false]; exact ⟨_, List.getElem_mem h, by rw [el_at zs k h, hp]; simp⟩
theorem all_at {p : Int → Bool} {zs : List Int} {k : Nat} (hall : zs.all p = true) (h : k < zs.length) : p (el zs k) = true := by
  rw [← el_at zs k h]; exact List.all_eq_true.1 hall _ (List.getElem_mem h)
/-- Are two lists the same? -/
def sameL (xs ys : List Int) : Bool := decide (xs = ys)
theorem sameL_self (xs : List Int) : sameL xs xs = true := by simp [sameL]
theorem sameL_true {xs ys : List Int} (hl : xs.length = ys.length) (h : ∀ j, j < xs.length → el xs j = el ys j) : sameL xs ys = true := by
  unfold sameL
  rw [decide_eq_true_iff]
  apply List.ext_getElem hl
  intro j h1 h2
  rw [el_at xs j h1, el_at ys j h2]
  exact h j h1
theorem sameL_len {xs ys : List Int} (hl : ¬ xs.length = ys.length) : sameL xs ys = false := by
  unfold sameL; rw [decide_eq_false_iff_not]; rintro rfl; exact hl rfl
theorem sameL_at {xs ys : List Int} (k : Nat) (hl : ¬ el xs k = el ys k) : sameL xs ys = false := by
  unfold sameL; rw [decide_eq_false_iff_not]; rintro rfl; exact hl rfl
/-- A list of numbers. -/
def Nums (zs : List Int) : Prop := zs.all isNum = true
theorem Nums.at {zs : List Int} (h : Nums zs) (k : Nat) : 0 ≤ el zs k ∧ el zs k ≤ 10006 := by
  by_cases hk : k < zs.length
  · rw [← el_at zs k hk]
    exact isNum_yes (List.all_eq_true.1 h _ (List.getElem_mem hk))
  · simp [el, hk]
/-- Both are numbers. -/
def two (a b : Int) : Bool := isNum a && isNum b
/-- ErrNone or ErrRange. -/
def codeOf (c : Bool) : Int := if c = true then 0 else 2
/-- A number and no error, or ErrRange. -/
def okR (c : Bool) (v : Int) : Int × Int := if c then (v, 0) else (0, 2)
end Go.Proofs.YtmhcpaffdchboaaDoor
