/-
  The field with 10007 elements beside the program's integers: a number is the value of an element; lists of numbers are beginnings of power series.
-/
import Derived.Test.YtmhcpaffdchboaaDoorFermat
import Derived.Test.YtmhcpaffdchboaaDoorSer
namespace Go.Proofs.YtmhcpaffdchboaaDoor
/-- The number of an element. -/
def vI (a : F) : Int := (a.val : Int)
/-- The element of an integer. -/
def fI (n : Int) : F := Fin.ofNat 10007 (n % 10007).toNat
theorem vI_bd (a : F) : 0 ≤ vI a ∧ vI a ≤ 10006 := by unfold vI; have := a.isLt; omega
theorem vI_num (a : F) : isNum (vI a) = true := by rw [isNum_iff]; exact vI_bd a
theorem vI_fI (n : Int) : vI (fI n) = n % 10007 := by
  unfold vI fI
  rw [Fin.val_ofNat]
  omega
theorem vI_inj {a b : F} (h : vI a = vI b) : a = b := by unfold vI at h; exact Fin.ext (by omega)
theorem fI_vI (a : F) : fI (vI a) = a := vI_inj (by rw [vI_fI]; have := vI_bd a; omega)
theorem vI_fI_num {n : Int} (h : isNum n = true) : vI (fI n) = n := by rw [vI_fI]; have := isNum_yes h; omega
theorem vI_zero : vI 0 = 0 := rfl
theorem vI_one : vI 1 = 1 := rfl
theorem vI_add (a b : F) : vI (a + b) = (vI a + vI b) % 10007 := by unfold vI; rw [Fin.val_add]; omega
theorem vI_mul (a b : F) : vI (a * b) = (vI a * vI b) % 10007 := by unfold vI; rw [Fin.val_mul, Int.natCast_emod, Int.natCast_mul]; rfl
theorem vI_sub (a b : F) : vI (a - b) = (vI a - vI b) % 10007 := by
  have h : vI (a - b + b) = vI a := by rw [show a - b + b = a by grind]
  rw [vI_add] at h
  have h1 := vI_bd (a - b)
  have h2 := vI_bd a
  have h3 := vI_bd b
  omega
theorem vI_neg (a : F) : vI (-a) = (-vI a) % 10007 := by
  have h := vI_sub 0 a
  rw [show (0 : F) - a = -a by grind, vI_zero] at h
  rw [h]; congr 1; omega
theorem vI_nF (n : Nat) (h : n < 10007) : vI (PS.nF n) = n := by unfold vI; rw [PS.nF_val]; omega
theorem vI_eq_zero {a : F} : vI a = 0 ↔ a = 0 := ⟨fun h => vI_inj (by rw [h, vI_zero]), fun h => by rw [h, vI_zero]⟩
theorem vI_eq_one {a : F} : vI a = 1 ↔ a = 1 := ⟨fun h => vI_inj (by rw [h, vI_one]), fun h => by rw [h, vI_one]⟩
/-- The inverse of an element. -/
def fi (a : F) : F := fI (invM (vI a))
theorem vI_fi (a : F) : vI (fi a) = invM (vI a) := by
  unfold fi; exact vI_fI_num (by rw [isNum_iff]; exact invM_bd _)
theorem mul_fi {a : F} (h : a ≠ 0) : a * fi a = 1 := by
  apply vI_inj
  rw [vI_mul, vI_fi, vI_one]
  have h1 := vI_bd a
  have h2 : vI a ≠ 0 := fun e => h (vI_eq_zero.1 e)
  exact mul_inv (by omega) h1.2
theorem nF_ne {n : Nat} (h : 0 < n) (h' : n < 10007) : PS.nF n ≠ 0 := by
  intro e
  have := vI_nF n h'
  rw [e, vI_zero] at this
  omega
theorem mul_cancel {a b c : F} (ha : a ≠ 0) (h : a * b = a * c) : b = c := by
  have h1 := mul_fi ha
  have : a * fi a * b = a * fi a * c := by grind
  rw [h1] at this
  grind
theorem vI_pow (a : F) (k : Nat) : vI (a ^ k) = powM (vI a) k := by
  induction k with
  | zero => rw [show a ^ 0 = 1 by grind, vI_one]; unfold powM; rfl
  | succ k ih => rw [show a ^ (k + 1) = a * a ^ k by grind, vI_mul, ih, powM_succ]
/-- The first n coefficients of a series, as numbers. -/
def lst (n : Nat) (f : PS) : List Int := (List.range n).map fun i => vI (f i)
/-- The series of a list, 0 behind its end. -/
def ser (zs : List Int) : PS := fun i => fI (el zs i)
@[simp] theorem lst_length (n : Nat) (f : PS) : (lst n f).length = n := by simp [lst]
theorem lst_el (n : Nat) (f : PS) (i : Nat) (h : i < n) : el (lst n f) i = vI (f i) := by simp [lst, el, h]
theorem lst_congr {n : Nat} {f g : PS} (h : ∀ i, i < n → f i = g i) : lst n f = lst n g := by
  apply List.ext_getElem (by simp)
  intro i h1 h2
  simp only [lst_length] at h1
  rw [el_at _ i (by simpa using h1), el_at _ i h2, lst_el _ _ _ h1, lst_el _ _ _ h1, h i h1]
theorem lst_inj {n : Nat} {f g : PS} (h : lst n f = lst n g) (i : Nat) (hi : i < n) : f i = g i := by
  apply vI_inj
  rw [← lst_el n f i hi, ← lst_el n g i hi, h]
theorem lst_ser {zs : List Int} (h : Nums zs) : lst zs.length (ser zs) = zs := by
  apply List.ext_getElem (by simp)
  intro i h1 h2
  rw [el_at _ i h1, el_at _ i h2, lst_el _ _ _ h2]
  exact vI_fI_num (by rw [isNum_iff]; exact h.at i)
theorem lst_nums (n : Nat) (f : PS) : Nums (lst n f) := by
  unfold Nums lst
  rw [List.all_map, List.all_eq_true]
  intro i _
  exact vI_num _
/-- A list of n numbers is the beginning of a series. -/
theorem lst_of {zs : List Int} (h : Nums zs) : ∃ f : PS, zs = lst zs.length f := ⟨ser zs, (lst_ser h).symm⟩
theorem lst_snoc (n : Nat) (f : PS) : lst (n + 1) f = lst n f ++ [vI (f n)] := by simp [lst, List.range_succ]
theorem lst_zero (f : PS) : lst 0 f = [] := rfl
theorem vI_mul' (a b : F) : vI (a * b) = (vI b * vI a) % 10007 := by rw [vI_mul, Int.mul_comm]
attribute [irreducible] vI fI
end Go.Proofs.YtmhcpaffdchboaaDoor
