/-
  Level lists, without a program.
-/
import Derived.Test.YtmhcpaffdchboaaPlain
namespace Go.Proofs.Ytmhcpaffdchboaa
/-- The level at i follows the one ahead. -/
def levAt (zs : List Int) (i : Nat) : Bool := inR (el zs i) 1 (el zs (i - 1) + 1)
/-- The first k levels begin with 0 and follow each other. -/
def levTo (zs : List Int) : Nat → Bool
  | 0 => true
  | k + 1 => levTo zs k && (if k = 0 then decide (el zs 0 = 0) else levAt zs k)
/-- A level list. -/
def isLev (zs : List Int) : Bool := decide (0 < zs.length) && decide (zs.length ≤ 8) && levTo zs zs.length
theorem levTo_le {zs : List Int} {k m : Nat} (h : levTo zs k = true) (hm : m ≤ k) : levTo zs m = true := by
  induction k with
  | zero => obtain rfl : m = 0 := by omega
            exact h
  | succ k ih =>
    rw [levTo, Bool.and_eq_true] at h
    by_cases hk : m = k + 1
    · subst hk; rw [levTo, Bool.and_eq_true]; exact h
    · exact ih h.1 (by omega)
theorem levTo_bd {zs : List Int} {k : Nat} (h : levTo zs k = true) (i : Nat) (hi : i < k) : 0 ≤ el zs i ∧ el zs i ≤ i := by
  induction i using Nat.strongRecOn with
  | _ i ih =>
    have h1 := levTo_le h (show i + 1 ≤ k by omega)
    rw [levTo, Bool.and_eq_true] at h1
    by_cases h0 : i = 0
    · subst h0
      rw [if_pos rfl, decide_eq_true_iff] at h1
      omega
    · rw [if_neg h0] at h1
      have h2 := ih (i - 1) (by omega) (by omega)
      have h3 := inR_iff.1 h1.2
      omega
theorem levTo_zero {zs : List Int} {k : Nat} (h : levTo zs k = true) (hk : 0 < k) : el zs 0 = 0 := by
  have := levTo_bd h 0 hk
  omega
theorem levTo_at {zs : List Int} {k : Nat} (h : levTo zs k = true) (i : Nat) (h0 : 0 < i) (hi : i < k) : 1 ≤ el zs i ∧ el zs i ≤ el zs (i - 1) + 1 := by
  have h1 := levTo_le h (show i + 1 ≤ k by omega)
  rw [levTo, Bool.and_eq_true, if_neg (by omega)] at h1
  exact inR_iff.1 h1.2
theorem isLev_yes {zs : List Int} (h : isLev zs = true) : 0 < zs.length ∧ zs.length ≤ 8 ∧ levTo zs zs.length = true := by
  rw [isLev, Bool.and_eq_true, Bool.and_eq_true, decide_eq_true_iff, decide_eq_true_iff] at h
  exact ⟨h.1.1, h.1.2, h.2⟩
/-- A list is a level list exactly if its steps are right as the reference reckons them, its first level is 0, and its length fits. -/
def stepS (wr : Int → Int) (zs : List Int) : Nat → Bool
  | 0 => true
  | k + 1 => stepS wr zs k && inR (el zs (k + 1)) 1 (wr (el zs k + 1))
theorem stepS_lev (wr : Int → Int) (hw : ∀ n, 0 ≤ n → n ≤ 1048577 → wr n = n) {zs : List Int} (h0 : el zs 0 = 0) (k : Nat) (hk : k ≤ 1048576) : stepS wr zs k = levTo zs (k + 1) := by
  induction k with
  | zero => simp [stepS, levTo, h0]
  | succ k ih =>
    rw [stepS, levTo, ih (by omega), if_neg (by omega)]
    cases h : levTo zs (k + 1) with
    | false => rfl
    | true =>
      have b := levTo_bd h k (by omega)
      rw [hw _ (by omega) (by omega)]
      rfl
/-- The leaves: one, and one for each level that is not greater than the one ahead. -/
def lvs (zs : List Int) : Nat → Int
  | 0 => 0
  | k + 1 => lvs zs k + (if 0 < k ∧ el zs k ≤ el zs (k - 1) then 1 else 0)
theorem lvs_bd (zs : List Int) (k : Nat) : 0 ≤ lvs zs k ∧ lvs zs k ≤ k := by
  induction k with
  | zero => simp [lvs]
  | succ k ih => simp only [lvs]; split <;> omega
/-- The greatest of the first k levels and 0. -/
def mxl (zs : List Int) : Nat → Int
  | 0 => 0
  | k + 1 => max (mxl zs k) (el zs k)
end Go.Proofs.Ytmhcpaffdchboaa
