/-
  The trees with n nodes: from a canonical list to the next smaller one, and all lists that are canonical; no program in sight.
-/
import Derived.Test.YtoiangfookhfdaaTreeC
namespace Go.Proofs.Ytoiangfookhfdaa
/-- One more than the last place ahead of k whose level is greater than 1, or 0. -/
def pK (t : List Int) : Nat → Nat
  | 0 => 0
  | k + 1 => if el t k ≤ 1 then pK t k else k + 1
/-- One more than the last place ahead of k with the level x, or 0. -/
def qK (t : List Int) (x : Int) : Nat → Nat
  | 0 => 0
  | k + 1 => if el t k = x then k + 1 else qK t x k
/-- m places from p on are written from those d places ahead. -/
def copyT (t : List Int) (p d : Nat) : Nat → List Int
  | 0 => t
  | m + 1 => (copyT t p d m).set (p + m) (el (copyT t p d m) (p + m - d))
/-- The list behind a list whose pK is p + 1. -/
def nextT (t : List Int) : List Int :=
  let p := pK t t.length - 1
  let q := qK t (el t p - 1) p - 1
  copyT t p (p - q) (t.length - p)
/-- The list after k steps. -/
def iterT (n : Nat) : Nat → List Int
  | 0 => (List.range n).map fun i : Nat => (i : Int)
  | k + 1 => nextT (iterT n k)
def outT (n : Nat) : Nat → List (List Int)
  | 0 => []
  | k + 1 => outT n k ++ [iterT n k]
/-- How many trees have n nodes. -/
def many : Nat → Nat
  | 1 => 1 | 2 => 1 | 3 => 2 | 4 => 4 | 5 => 9 | 6 => 20 | 7 => 48 | 8 => 115
  | _ => 0
/-- A step may be taken. -/
def stepOk (n : Nat) (t : List Int) : Bool :=
  decide (t.length = n) && decide (0 < pK t n) && decide (0 < qK t (el t (pK t n - 1) - 1) (pK t n - 1)) && t.all (fun x => decide (0 ≤ x) && decide (x ≤ 8))
def runOk (n : Nat) : Nat → List Int → Bool
  | 0, t => decide (t.length = n) && decide (pK t n = 0)
  | k + 1, t => stepOk n t && runOk n k (nextT t)
def growD (g : List Int → List (List Int)) (t : List Int) : Nat → List (List Int)
  | 0 => []
  | x + 1 => g (t ++ [((x + 1 : Nat) : Int)]) ++ growD g t x
/-- All level lists that begin with a list and have f nodes more, that are canonical. -/
def growF : Nat → List Int → List (List Int)
  | 0, t => if sameL (canon t) t = true then [t] else []
  | f + 1, t => growD (growF f) t (el t (t.length - 1) + 1).toNat
def treesL (n : Nat) : List (List Int) := growF (n - 1) [0]
def runL : Nat → List Int → List (List Int)
  | 0, _ => []
  | k + 1, t => t :: runL k (nextT t)
def startT (n : Nat) : List Int := (List.range n).map fun i : Nat => (i : Int)
def itT : Nat → List Int → List Int
  | 0, t => t
  | k + 1, t => itT k (nextT t)
theorem itT_next (k : Nat) (t : List Int) : itT k (nextT t) = nextT (itT k t) := by
  induction k generalizing t with
  | zero => rfl
  | succ k ih => rw [itT, itT, ih]
theorem itT_iter (n k : Nat) : itT k (startT n) = iterT n k := by
  induction k with
  | zero => rfl
  | succ k ih => rw [itT, itT_next, ih]; rfl
theorem runL_snoc (k : Nat) (t : List Int) : runL (k + 1) t = runL k t ++ [itT k t] := by
  induction k generalizing t with
  | zero => rfl
  | succ k ih => rw [runL, ih (nextT t)]; rfl
theorem outT_run (n k : Nat) : outT n k = runL k (startT n) := by
  induction k with
  | zero => rfl
  | succ k ih => rw [outT, ih, runL_snoc, itT_iter]
theorem runOk_at (n k : Nat) (t : List Int) (h : runOk n k t = true) (j : Nat) (hj : j < k) : stepOk n (itT j t) = true := by
  induction k generalizing t j with
  | zero => omega
  | succ k ih =>
    rw [runOk, Bool.and_eq_true] at h
    cases j with
    | zero => exact h.1
    | succ j => exact ih (nextT t) h.2 j (by omega)
theorem runOk_end (n k : Nat) (t : List Int) (h : runOk n k t = true) : (itT k t).length = n ∧ pK (itT k t) n = 0 := by
  induction k generalizing t with
  | zero => rw [runOk, Bool.and_eq_true, decide_eq_true_iff, decide_eq_true_iff] at h; exact h
  | succ k ih => rw [runOk, Bool.and_eq_true] at h; exact ih _ h.2
def eqLL : List (List Int) → List (List Int) → Bool
  | [], [] => true
  | a :: x, b :: y => sameL a b && eqLL x y
  | _, _ => false
theorem eqLL_eq {x y : List (List Int)} (h : eqLL x y = true) : x = y := by
  induction x generalizing y with
  | nil => cases y with
    | nil => rfl
    | cons b y => simp [eqLL] at h
  | cons a x ih => cases y with
    | nil => simp [eqLL] at h
    | cons b y => rw [eqLL, Bool.and_eq_true, sameL, decide_eq_true_iff] at h; rw [h.1, ih h.2]
/-- One check for a number of nodes. -/
def checkT (n : Nat) : Bool := runOk n (many n - 1) (startT n) && eqLL (runL (many n) (startT n)) (growF (n - 1) [0])
set_option maxRecDepth 100000 in
theorem checkT_1 : checkT 1 = true := by decide +kernel
theorem checkT_2 : checkT 2 = true := by decide +kernel
theorem checkT_3 : checkT 3 = true := by decide +kernel
theorem checkT_4 : checkT 4 = true := by decide +kernel
theorem checkT_5 : checkT 5 = true := by decide +kernel
theorem checkT_6 : checkT 6 = true := by decide +kernel
theorem checkT_7 : checkT 7 = true := by decide +kernel
theorem checkT_8 : checkT 8 = true := by decide +kernel
theorem checkT_all (n : Nat) (h1 : 1 ≤ n) (h8 : n ≤ 8) : checkT n = true := by
  match n, h1, h8 with
  | 1, _, _ => exact checkT_1
  | 2, _, _ => exact checkT_2
  | 3, _, _ => exact checkT_3
  | 4, _, _ => exact checkT_4
  | 5, _, _ => exact checkT_5
  | 6, _, _ => exact checkT_6
  | 7, _, _ => exact checkT_7
  | 8, _, _ => exact checkT_8
theorem outT_trees (n : Nat) (h1 : 1 ≤ n) (h8 : n ≤ 8) : outT n (many n) = treesL n := by
  have h := checkT_all n h1 h8
  rw [checkT, Bool.and_eq_true] at h
  rw [outT_run]; exact eqLL_eq h.2
theorem iterT_ok (n : Nat) (h1 : 1 ≤ n) (h8 : n ≤ 8) (k : Nat) (hk : k + 1 < many n) : stepOk n (iterT n k) = true := by
  have h := checkT_all n h1 h8
  rw [checkT, Bool.and_eq_true] at h
  rw [← itT_iter]; exact runOk_at n _ _ h.1 k (by omega)
theorem iterT_end (n : Nat) (h1 : 1 ≤ n) (h8 : n ≤ 8) (k : Nat) (hk : k + 1 = many n) : (iterT n k).length = n ∧ pK (iterT n k) n = 0 := by
  have h := checkT_all n h1 h8
  rw [checkT, Bool.and_eq_true] at h
  rw [← itT_iter]; exact (by simpa [show many n - 1 = k by omega] using runOk_end n _ _ h.1)
/-- All trees with at most n nodes. -/
def allT : Nat → List (List Int)
  | 0 => []
  | k + 1 => allT k ++ treesL (k + 1)
def ascB : List (List Int) → Bool
  | [] => true
  | [_] => true
  | a :: b :: r => ltT a b && ascB (b :: r)
theorem ascB_allT : ascB (allT 8) = true := by decide +kernel
theorem ascB_pairwise {l : List (List Int)} (h : ascB l = true) : l.Pairwise fun a b => ltT a b = true := by
  induction l with
  | nil => exact .nil
  | cons a r ih =>
    cases r with
    | nil => simp
    | cons b r =>
      rw [ascB, Bool.and_eq_true] at h
      have i := ih h.2
      refine List.pairwise_cons.2 ⟨fun c hc => ?_, i⟩
      rcases List.mem_cons.1 hc with rfl | hc
      · exact h.1
      · exact ltT_trans _ _ _ h.1 ((List.pairwise_cons.1 i).1 c hc)
theorem allT_prefix (n m : Nat) (h : n ≤ m) : ∃ r, allT m = allT n ++ r := by
  induction m with
  | zero => obtain rfl : n = 0 := by omega
            exact ⟨[], by simp⟩
  | succ m ih =>
    by_cases he : n = m + 1
    · subst he; exact ⟨[], by simp⟩
    · obtain ⟨r, hr⟩ := ih (by omega)
      exact ⟨r ++ treesL (m + 1), by rw [allT, hr, List.append_assoc]⟩
theorem allT_asc (n : Nat) (h : n ≤ 8) : (allT n).Pairwise fun a b => ltT a b = true := by
  obtain ⟨r, hr⟩ := allT_prefix n 8 h
  have := ascB_pairwise ascB_allT
  rw [hr, List.pairwise_append] at this
  exact this.1
end Go.Proofs.Ytoiangfookhfdaa
