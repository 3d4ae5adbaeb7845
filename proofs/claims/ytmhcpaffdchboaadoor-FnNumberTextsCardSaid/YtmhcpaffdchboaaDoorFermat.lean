/-
  Fermat's theorem for the field with 10007 elements: each number other than 0 has the power 1 at the exponent 10006. By reckoning, number by number. No program in sight.
-/
import Derived.Test.YtmhcpaffdchboaaDoorPlain
namespace Go.Proofs.YtmhcpaffdchboaaDoor
/-- The power with fuel, by squares. -/
def pwr : Nat → Nat → Nat → Nat → Nat
  | 0, _, _, o => o
  | f + 1, a, k, o => pwr f (a * a % 10007) (k / 2) (if k % 2 = 1 then o * a % 10007 else o)
theorem pwr_eq (f a k o : Nat) (hk : k < 2 ^ f) (ho : o < 10007) : pwr f a k o = o * a ^ k % 10007 := by
  induction f generalizing a k o with
  | zero =>
    obtain rfl : k = 0 := by simp at hk; omega
    simp [pwr]; omega
  | succ f ih =>
    have h2 : k / 2 < 2 ^ f := by rw [Nat.pow_succ] at hk; omega
    have hsq : ∀ q, (a * a % 10007) ^ q % 10007 = a ^ (2 * q) % 10007 := fun q => by rw [← Nat.pow_mod, Nat.pow_mul, Nat.pow_two]
    simp only [pwr]
    by_cases hodd : k % 2 = 1
    · rw [if_pos hodd, ih _ _ _ h2 (Nat.mod_lt _ (by decide)), Nat.mul_mod, hsq, Nat.mod_mod, ← Nat.mul_mod]
      obtain ⟨q, rfl⟩ : ∃ q, k = 2 * q + 1 := ⟨k / 2, by omega⟩
      rw [show (2 * q + 1) / 2 = q by omega, Nat.pow_succ, Nat.mul_assoc, Nat.mul_comm a]
    · rw [if_neg hodd, ih _ _ _ h2 ho, Nat.mul_mod, hsq, ← Nat.mul_mod]
      obtain ⟨q, rfl⟩ : ∃ q, k = 2 * q := ⟨k / 2, by omega⟩
      rw [show 2 * q / 2 = q by omega]
/-- Fermat's theorem at the numbers from a on, n of them. -/
def ferm : Nat → Nat → Bool
  | 0, _ => true
  | n + 1, a => (pwr 14 a 10006 1 == 1) && ferm n (a + 1)
theorem ferm_at (n a j : Nat) (h : ferm n a = true) (hj : j < n) : pwr 14 (a + j) 10006 1 = 1 := by
  induction n generalizing a j with
  | zero => omega
  | succ n ih =>
    simp only [ferm, Bool.and_eq_true, beq_iff_eq] at h
    cases j with
    | zero => exact h.1
    | succ j => have := ih (a + 1) j h.2 (by omega); rwa [show a + 1 + j = a + (j + 1) by omega] at this
theorem ferm0 : ferm 1000 1 = true := by decide +kernel
theorem ferm1 : ferm 1000 1001 = true := by decide +kernel
theorem ferm2 : ferm 1000 2001 = true := by decide +kernel
theorem ferm3 : ferm 1000 3001 = true := by decide +kernel
theorem ferm4 : ferm 1000 4001 = true := by decide +kernel
theorem ferm5 : ferm 1000 5001 = true := by decide +kernel
theorem ferm6 : ferm 1000 6001 = true := by decide +kernel
theorem ferm7 : ferm 1000 7001 = true := by decide +kernel
theorem ferm8 : ferm 1000 8001 = true := by decide +kernel
theorem ferm9 : ferm 1000 9001 = true := by decide +kernel
theorem fermL : ferm 6 10001 = true := by decide +kernel
theorem ferm_all (a : Nat) (h1 : 1 ≤ a) (h2 : a ≤ 10006) : pwr 14 a 10006 1 = 1 := by
  by_cases c0 : a ≤ 1000
  · have h := ferm_at 1000 1 (a - 1) ferm0 (by omega)
    rwa [show 1 + (a - 1) = a by omega] at h
  by_cases c1 : a ≤ 2000
  · have h := ferm_at 1000 1001 (a - 1001) ferm1 (by omega)
    rwa [show 1001 + (a - 1001) = a by omega] at h
  by_cases c2 : a ≤ 3000
  · have h := ferm_at 1000 2001 (a - 2001) ferm2 (by omega)
    rwa [show 2001 + (a - 2001) = a by omega] at h
  by_cases c3 : a ≤ 4000
  · have h := ferm_at 1000 3001 (a - 3001) ferm3 (by omega)
    rwa [show 3001 + (a - 3001) = a by omega] at h
  by_cases c4 : a ≤ 5000
  · have h := ferm_at 1000 4001 (a - 4001) ferm4 (by omega)
    rwa [show 4001 + (a - 4001) = a by omega] at h
  by_cases c5 : a ≤ 6000
  · have h := ferm_at 1000 5001 (a - 5001) ferm5 (by omega)
    rwa [show 5001 + (a - 5001) = a by omega] at h
  by_cases c6 : a ≤ 7000
  · have h := ferm_at 1000 6001 (a - 6001) ferm6 (by omega)
    rwa [show 6001 + (a - 6001) = a by omega] at h
  by_cases c7 : a ≤ 8000
  · have h := ferm_at 1000 7001 (a - 7001) ferm7 (by omega)
    rwa [show 7001 + (a - 7001) = a by omega] at h
  by_cases c8 : a ≤ 9000
  · have h := ferm_at 1000 8001 (a - 8001) ferm8 (by omega)
    rwa [show 8001 + (a - 8001) = a by omega] at h
  by_cases c9 : a ≤ 10000
  · have h := ferm_at 1000 9001 (a - 9001) ferm9 (by omega)
    rwa [show 9001 + (a - 9001) = a by omega] at h
  have h := ferm_at 6 10001 (a - 10001) fermL (by omega)
  rwa [show 10001 + (a - 10001) = a by omega] at h
theorem pw (a k : Nat) (hk : k < 16384) (h : pwr 14 a k 1 = 1) : powM (a : Int) k = 1 := by
  rw [pwr_eq 14 a k 1 (by simpa using hk) (by decide), Nat.one_mul] at h
  unfold powM
  have h2 : ((a ^ k % 10007 : Nat) : Int) = 1 := by rw [h]; rfl
  rwa [Int.natCast_emod, Int.natCast_pow] at h2
/-- Fermat's theorem. -/
theorem fermat {a : Int} (h1 : 1 ≤ a) (h2 : a ≤ 10006) : powM a 10006 = 1 := by
  obtain ⟨n, rfl⟩ := Int.eq_ofNat_of_zero_le (show 0 ≤ a by omega)
  exact pw n 10006 (by omega) (ferm_all n (by omega) (by omega))
theorem powM_succ (a : Int) (k : Nat) : powM a (k + 1) = a * powM a k % 10007 := by
  unfold powM
  rw [Int.pow_succ, Int.mul_emod a, Int.emod_emod_of_dvd _ (Int.dvd_refl _), ← Int.mul_emod, Int.mul_comm]
theorem powM_mul (a : Int) (j k : Nat) : powM (powM a j) k = powM a (j * k) := by
  unfold powM
  rw [emod_pow, Int.pow_mul]
theorem powM_add (a : Int) (j k : Nat) : powM a (j + k) = powM a j * powM a k % 10007 := by
  unfold powM
  rw [Int.pow_add, Int.mul_emod]
/-- a times its inverse is 1. -/
theorem mul_inv {a : Int} (h1 : 1 ≤ a) (h2 : a ≤ 10006) : a * invM a % 10007 = 1 := by
  have h := fermat h1 h2
  rw [show (10006 : Nat) = 10005 + 1 from rfl, powM_succ] at h
  unfold invM
  exact h
/-- There are no divisors of 0. -/
theorem mul_zero_cancel {a b : Int} (h1 : 1 ≤ a) (h2 : a ≤ 10006) (h : a * b % 10007 = 0) : b % 10007 = 0 := by
  have h3 := mul_inv h1 h2
  have h4 : invM a * (a * b) % 10007 = b % 10007 := by
    rw [← Int.mul_assoc, Int.mul_comm (invM a), Int.mul_emod, h3, Int.one_mul, Int.emod_emod_of_dvd _ (Int.dvd_refl _)]
  rw [← h4, Int.mul_emod, h, Int.mul_zero]; rfl
end Go.Proofs.YtmhcpaffdchboaaDoor
