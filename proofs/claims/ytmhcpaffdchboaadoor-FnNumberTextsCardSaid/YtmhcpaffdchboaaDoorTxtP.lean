/-
  The text of a number: the plain function, and what both programs' searches come to.
-/
import Derived.Lib.ItoaMem
import Derived.Test.YtmhcpaffdchboaaDoorPlain
namespace Go.Proofs.YtmhcpaffdchboaaDoor
def cen (r : Int) : Int := if r > 5003 then r - 10007 else r
def okq (a q : Int) : Bool := inR (cen (a * q % 10007)) (-70) 70 && decide (Int.gcd (cen (a * q % 10007)) q = 1)
def fracT (p q : Int) : List UInt8 := if q = 1 then Lib.itoa p else Lib.itoa p ++ 47 :: Lib.itoa q
def txtFrom (a q : Int) : Nat → List UInt8
  | 0 => Lib.itoa a
  | n + 1 => if okq a q = true then fracT (cen (a * q % 10007)) q else txtFrom a (q + 1) n
def numT (a : Int) : List UInt8 := txtFrom a 1 70
theorem txtFrom_hit (a q : Int) (n : Nat) (h : okq a q = true) : txtFrom a q (n + 1) = fracT (cen (a * q % 10007)) q := by simp [txtFrom, h]
theorem txtFrom_miss (a q : Int) (n : Nat) (h : okq a q = false) : txtFrom a q (n + 1) = txtFrom a (q + 1) n := by simp [txtFrom, h]
theorem cen_bd (x : Int) : -5003 ≤ cen (x % 10007) ∧ cen (x % 10007) ≤ 5003 := by unfold cen; split <;> omega
theorem cen_uniq (x p : Int) (h : (p - x) % 10007 = 0) (h0 : -70 ≤ p) (h1 : p ≤ 70) : cen (x % 10007) = p := by unfold cen; split <;> omega
theorem cen_hits (x : Int) : (cen (x % 10007) - x) % 10007 = 0 := by unfold cen; split <;> omega
theorem okq_iff (a q : Int) : okq a q = true ↔ (-70 ≤ cen (a * q % 10007) ∧ cen (a * q % 10007) ≤ 70) ∧ Int.gcd (cen (a * q % 10007)) q = 1 := by
  simp [okq, inR]
/-- One step of Euclid's. -/
theorem gcd_step (a b : Int) : Int.gcd b (a.tmod b) = Int.gcd a b := by
  unfold Int.gcd
  rw [Int.natAbs_tmod, Nat.gcd_comm a.natAbs, Nat.gcd_rec b.natAbs a.natAbs, Nat.gcd_comm]
theorem tmod_zero_iff (a d : Int) : a.tmod d = 0 ↔ d ∣ a := (Int.dvd_iff_tmod_eq_zero).symm
/-- The best common divisor found is 1 just where the greatest is 1. -/
theorem best_gcd (p q b : Int) (hq : 1 ≤ q) (_hb : 1 ≤ b) (h1 : b ∣ p) (h2 : b ∣ q) (h : ∀ d : Int, 1 ≤ d → d ≤ q → d ∣ p → d ∣ q → d ≤ b) : b ≤ 1 ↔ Int.gcd p q = 1 := by
  have hg : (0 : Int) < Int.gcd p q := by
    have : Int.gcd p q ≠ 0 := by
      intro e; rw [Int.gcd_eq_zero_iff] at e; omega
    omega
  have hl := h (Int.gcd p q) (by omega) (Int.le_of_dvd (by omega) (Int.gcd_dvd_right ..)) (Int.gcd_dvd_left ..) (Int.gcd_dvd_right ..)
  have hd : b ∣ Int.gcd p q := Int.dvd_coe_gcd h1 h2
  have := Int.le_of_dvd hg hd
  constructor <;> intro <;> omega
theorem dec_small (n : Nat) (h : n < 10) : Lib.decDigits n = [UInt8.ofNat (48 + n)] := by rw [Lib.decDigits, dif_pos h]
theorem dec_big (n : Nat) (h : ¬ n < 10) : Lib.decDigits n = Lib.decDigits (n / 10) ++ [UInt8.ofNat (48 + n % 10)] := by rw [Lib.decDigits, dif_neg h]
theorem itoa_neg (p : Int) (h : p < 0) : Lib.itoa p = 45 :: Lib.decDigits (-p).toNat := by unfold Lib.itoa; rw [if_pos h]; congr 2; omega
theorem itoa_nn (p : Int) (h : 0 ≤ p) : Lib.itoa p = Lib.decDigits p.toNat := by unfold Lib.itoa; rw [if_neg (by omega)]
end Go.Proofs.YtmhcpaffdchboaaDoor
