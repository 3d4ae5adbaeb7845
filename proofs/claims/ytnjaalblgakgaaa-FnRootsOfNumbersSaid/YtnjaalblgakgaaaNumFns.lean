/-
  The walks of the exported functions on numbers: fractions, quotients, powers.
-/
import Derived.Test.YtnjaalblgakgaaaNumLaws
namespace Go.Proofs.Ytnjaalblgakgaaa
open Go.RowKit
set_option maxRecDepth 100000
/-- The code and the number of a quotient. -/
def divR (a b : Int) : Int × Int := if two a b = true then (if b = 0 then (0, 5) else (a * invM b % 10007, 0)) else (0, 2)
theorem sDivideNumbers_any (a b : Int) (w : World) :
    Calls Try.prog 49 #[.int .i64 a, .int .i64 b] w fun e w' => e = .returned (.tuple #[.int .i64 (divR a b).1, .int .i64 (divR a b).2]) ∧ w = w' := by
  cases h2 : two a b with
  | true =>
    obtain ⟨ha, hb⟩ : isNum a = true ∧ isNum b = true := by simpa [two] using h2
    have na := isNum_yes ha
    have nb := isNum_yes hb
    have ib := invM_bd b
    have H2 := hid h2
    clear ha hb h2
    by_cases hz : b = 0
    · have hz1 : b ≤ 0 := by omega
      have HZ := hid hz
      clear hz
      go_enter Try.func49, Try.ntmps49
      go_wp2_with (go_at_call 91; refine (l01Two_any _ _ _).mono ?_; rintro e w' ⟨rfl, rfl⟩; rw [H2.out]; simp only [codeOf])
      go_ret2
      exact ⟨by rw [divR, if_pos H2.out, if_pos HZ.out]; rfl, rfl⟩
    · have hz1 : 0 < b := by omega
      have HZ := hid hz
      clear hz
      go_enter Try.func49, Try.ntmps49
      go_wp2_with (first | (go_at_call 91; refine (l01Two_any _ _ _).mono ?_; rintro e w' ⟨rfl, rfl⟩; rw [H2.out]; simp only [codeOf]) | (go_at_call 57; refine (l01Inv_any _ _ (by omega) (by omega)).mono ?_; rintro e w' ⟨rfl, rfl⟩) | (go_at_call 58; refine (l01Mul_any _ _ _ (by omega) (by omega) (by omega) (by omega)).mono ?_; rintro e w' ⟨rfl, rfl⟩))
      go_ret2
      exact ⟨by rw [divR, if_pos H2.out, if_neg HZ.out]; rfl, rfl⟩
  | false =>
    have H2 := hid h2
    clear h2
    go_enter Try.func49, Try.ntmps49
    go_wp2_with (go_at_call 91; refine (l01Two_any _ _ _).mono ?_; rintro e w' ⟨rfl, rfl⟩; rw [H2.out]; simp only [codeOf])
    go_ret2
    exact ⟨by rw [divR, H2.out]; rfl, rfl⟩
theorem divideNumbers_any (a b : Int) (w : World) :
    Calls Try.prog 48 #[.int .i64 a, .int .i64 b] w fun e w' => e = .returned (.tuple #[.int .i64 (divR a b).1, .int .i64 (divR a b).2]) ∧ Below w.heap.size w w' := by
  have hr := RdI_lit2 w a b 2
  cases h2 : two a b with
  | true =>
    obtain ⟨ha, hb⟩ : isNum a = true ∧ isNum b = true := by simpa [two] using h2
    have na := isNum_yes ha
    have nb := isNum_yes hb
    have ib := invM_bd b
    have m1 := (mul_bd na.1 na.2 ib.1 ib.2).1
    have m2 := (mul_bd na.1 na.2 ib.1 ib.2).2
    have HA : Hid ([a, b].all isNum = true) := by simp [Hid, ha, hb]
    have H2 := hid h2
    clear ha hb h2
    by_cases hz : b = 0
    · have hz1 : b ≤ 0 := by omega
      have HZ := hid hz
      clear hz
      go_enter Try.func48, Try.ntmps48
      go_wp2_with (go_at_call 90; refine (areNumbers_any _ [a, b] _ hr).mono ?_; rintro e w' ⟨rfl, rfl⟩; rw [HA.out])
      go_ret2
      exact ⟨by rw [divR, if_pos H2.out, if_pos HZ.out]; rfl, below_alloc _ _⟩
    · have hz1 : 0 < b := by omega
      have HZ := hid hz
      clear hz
      go_enter Try.func48, Try.ntmps48
      go_wp2_with (first | (go_at_call 90; refine (areNumbers_any _ [a, b] _ hr).mono ?_; rintro e w' ⟨rfl, rfl⟩; rw [HA.out]) | (go_at_call 62; refine (inv_any _ _ (by omega) (by omega)).mono ?_; rintro e w' ⟨rfl, rfl⟩) | (go_at_call 63; refine (num_any _ _).mono ?_; rintro e w' ⟨rfl, rfl⟩))
      go_ret2
      exact ⟨by rw [divR, if_pos H2.out, if_neg HZ.out]; rfl, below_alloc _ _⟩
  | false =>
    have HA : Hid ([a, b].all isNum = false) := by simp [Hid]; simpa [two] using h2
    have H2 := hid h2
    clear h2
    go_enter Try.func48, Try.ntmps48
    go_wp2_with (go_at_call 90; refine (areNumbers_any _ [a, b] _ hr).mono ?_; rintro e w' ⟨rfl, rfl⟩; rw [HA.out])
    go_ret2
    exact ⟨by rw [divR, H2.out]; rfl, below_alloc _ _⟩
/-- Both lie in the range of fractions. -/
def inB (p q : Int) : Bool := inR p (-1000000000) 1000000000 && inR q (-1000000000) 1000000000
/-- The number of a fraction. -/
def frac (p q : Int) : Int := p % 10007 * invM (q % 10007) % 10007
def numberOfR (p q : Int) : Int × Int := if inB p q = true then (if q % 10007 = 0 then (0, 5) else (frac p q, 0)) else (0, 2)
theorem tmod_zero (q : Int) (h : q % 10007 = 0) : (q.tmod 10007 == 0) = true := by
  have h1 : q.tmod 10007 = 0 := Int.tmod_eq_zero_of_dvd (Int.dvd_of_emod_eq_zero h)
  rw [h1]; rfl
theorem tmod_nonzero (q : Int) (h : ¬ q % 10007 = 0) : (q.tmod 10007 == 0) = false := by
  rw [beq_eq_false_iff_ne]; intro h'; exact h (Int.emod_eq_zero_of_dvd (Int.dvd_of_tmod_eq_zero h'))
theorem l01Frac_any (p q : Int) (w : World) :
    Calls Try.prog 102 #[.int .i64 p, .int .i64 q] w fun e w' => e = .returned (.int .i64 (frac p q)) ∧ w = w' := by
  have b1 := md_bd p
  have b2 := md_bd q
  have b3 := invM_bd (q % 10007)
  go_enter Try.func102, Try.ntmps102
  go_wp2_with (first | (go_at_call 95; refine (l01Mod_any _ _).mono ?_; rintro e w' ⟨rfl, rfl⟩) | (go_at_call 57; refine (l01Inv_any _ _ (by omega) (by omega)).mono ?_; rintro e w' ⟨rfl, rfl⟩) | (go_at_call 58; refine (l01Mul_any _ _ _ (by omega) (by omega) (by omega) (by omega)).mono ?_; rintro e w' ⟨rfl, rfl⟩))
  go_ret
  exact ⟨rfl, rfl⟩
end Go.Proofs.Ytnjaalblgakgaaa
