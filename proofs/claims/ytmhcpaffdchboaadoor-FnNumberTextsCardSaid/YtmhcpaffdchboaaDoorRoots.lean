/-
  Roots of numbers, without a program: the least root by search, and by powers.
-/
import Derived.Test.YtmhcpaffdchboaaDoorFermat
namespace Go.Proofs.YtmhcpaffdchboaaDoor
/-- The least j below n with p j, or -1. -/
def leastB (p : Nat → Bool) : Nat → Int
  | 0 => -1
  | n + 1 => if leastB p n = -1 then (if p n = true then (n : Int) else -1) else leastB p n
theorem leastB_none {p : Nat → Bool} {n : Nat} (h : ∀ j, j < n → p j = false) : leastB p n = -1 := by
  induction n with
  | zero => rfl
  | succ n ih => rw [leastB, if_pos (ih fun j hj => h j (by omega)), h n (by omega)]; rfl
theorem leastB_hit {p : Nat → Bool} {n k : Nat} (hk : k < n) (hp : p k = true) (h : ∀ j, j < k → p j = false) : leastB p n = k := by
  induction n with
  | zero => omega
  | succ n ih =>
    by_cases hkn : k = n
    · subst hkn
      rw [leastB, if_pos (leastB_none h), if_pos hp]
    · have := ih (by omega)
      rw [leastB, this, if_neg (by omega)]
attribute [irreducible] leastB
/-- j raised to k is a. -/
def isRoot (a : Int) (k : Nat) (j : Nat) : Bool := decide (powM (j : Int) k = a)
@[irreducible] def rootI (a : Int) (k : Nat) : Int := leastB (isRoot a k) 10007
def sqrtR (a : Int) : Int × Int := if isNum a = true then (if rootI a 2 < 0 then (0, 4) else (rootI a 2, 0)) else (0, 2)
def isK (k : Int) : Bool := decide (k = 3) || decide (k = 5)
def rootR (a k : Int) : Int × Int := if isNum a = true ∧ isK k = true then (rootI a k.toNat, 0) else (0, 2)
theorem powM_two (a : Int) : powM a 2 = a * a % 10007 := by unfold powM; rw [Int.pow_succ, Int.pow_succ, Int.pow_zero, Int.one_mul]
/-- If no number to 5003 has a square, none has. -/
theorem sq_half (a : Int) (h : ∀ j : Nat, j ≤ 5003 → (j : Int) * j % 10007 ≠ a) (j : Nat) (hj : j < 10007) : isRoot a 2 j = false := by
  unfold isRoot
  rw [decide_eq_false_iff_not, powM_two]
  by_cases h1 : j ≤ 5003
  · exact h j h1
  · have h2 := h (10007 - j) (by omega)
    intro h3
    apply h2
    rw [← h3, show ((10007 - j : Nat) : Int) = 10007 - (j : Int) by omega]
    rw [show ((10007 : Int) - j) * (10007 - j) = j * j + 10007 * (10007 - 2 * j) by
      rw [Int.sub_mul, Int.mul_sub, Int.mul_sub, Int.mul_sub]; omega]
    rw [Int.add_mul_emod_self_left]
theorem powM_num {a : Int} (h : isNum a = true) : powM a 1 = a := by
  have := isNum_yes h
  unfold powM; rw [Int.pow_succ, Int.pow_zero, Int.one_mul]; omega
/-- a to the power 10006 m + 1 is a. -/
theorem powM_wrap {a : Int} (h : isNum a = true) (m : Nat) : powM a (10006 * m + 1) = a := by
  have hb := isNum_yes h
  by_cases h0 : a = 0
  · subst h0; unfold powM; rw [Int.pow_succ, Int.mul_zero]; rfl
  · rw [powM_add, ← powM_mul, fermat (by omega) hb.2, powM_num h]
    unfold powM
    rw [Int.one_pow]
    show 1 * a % 10007 = a
    omega
theorem rootI_hit {a : Int} {k m : Nat} {r : Int} (hr : r = m) (hk : m < 10007) (hp : isRoot a k m = true) (h : ∀ j, j < m → isRoot a k j = false) : r = rootI a k := by
  unfold rootI; rw [hr]; exact (leastB_hit hk hp h).symm
theorem rootI_none {a : Int} {k : Nat} (h : ∀ j, j < 10007 → isRoot a k j = false) : rootI a k = -1 := by
  unfold rootI; exact leastB_none h
theorem leastB_hit' {p : Nat → Bool} {n k : Nat} {r : Int} (hr : r = k) (hk : k < n) (hp : p k = true) (h : ∀ j, j < k → p j = false) : leastB p n = r := by rw [hr]; exact leastB_hit hk hp h
theorem root_eq {a : Int} (h : isNum a = true) (k e m : Nat) (hke : k * e = 10006 * m + 1) : rootI a k = powM a e := by
  have hb := powM_bd a e
  obtain ⟨n, hn⟩ := Int.eq_ofNat_of_zero_le hb.1
  have hn1 : isNum (n : Int) = true := by rw [isNum_iff]; omega
  have h1 : isRoot a k n = true := by
    unfold isRoot
    rw [decide_eq_true_iff, ← hn, powM_mul, Nat.mul_comm, hke, powM_wrap h]
  have h2 : ∀ j, j < n → isRoot a k j = false := by
    intro j hj
    unfold isRoot
    rw [decide_eq_false_iff_not]
    intro hja
    have hj1 : isNum (j : Int) = true := by rw [isNum_iff]; omega
    have : powM (powM (j : Int) k) e = j := by rw [powM_mul, hke, powM_wrap hj1]
    rw [hja, hn] at this
    omega
  unfold rootI
  rw [hn]
  exact leastB_hit (by omega) h1 h2
end Go.Proofs.YtmhcpaffdchboaaDoor
