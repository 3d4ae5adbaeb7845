/-
  The walks of the exported functions on numbers: fractions, quotients, powers.
-/
import Derived.Test.YtmhcpaffdchboaaDoorNumLaws
namespace Go.Proofs.YtmhcpaffdchboaaDoor
open Go.RowKit
set_option maxRecDepth 100000
/-- The code and the number of a quotient. -/
def divR (a b : Int) : Int × Int := if two a b = true then (if b = 0 then (0, 5) else (a * invM b % 10007, 0)) else (0, 2)
/-- Both lie in the range of fractions. -/
def inB (p q : Int) : Bool := inR p (-1000000000) 1000000000 && inR q (-1000000000) 1000000000
/-- The number of a fraction. -/
def frac (p q : Int) : Int := p % 10007 * invM (q % 10007) % 10007
def numberOfR (p q : Int) : Int × Int := if inB p q = true then (if q % 10007 = 0 then (0, 5) else (frac p q, 0)) else (0, 2)
theorem tmod_zero (q : Int) (h : q % 10007 = 0) : (q.tmod 10007 == 0) = true := by
  have h1 : q.tmod 10007 = 0 := Int.tmod_eq_zero_of_dvd (Int.dvd_of_emod_eq_zero h)
  rw [h1]; rfl
theorem tmod_nonzero (q : Int) (h : ¬ q % 10007 = 0) : (q.tmod 10007 == 0) = false := by
  rw [beq_eq_false_iff_ne]; intro h'; exact h (Int.emod_eq_zero_of_dvd (Int.dvd_of_tmod_eq_zero h'))
theorem l01Frac_any (p q : Int) (w : World) :
    Calls Tryd.prog 22 #[.int .i64 p, .int .i64 q] w fun e w' => e = .returned (.int .i64 (frac p q)) ∧ w = w' := by
  have b1 := md_bd p
  have b2 := md_bd q
  have b3 := invM_bd (q % 10007)
  go_enter Tryd.func22, Tryd.ntmps22
  go_wp2_with (first | (go_at_call 34; refine (l01Mod_any _ _).mono ?_; rintro e w' ⟨rfl, rfl⟩) | (go_at_call 40; refine (l01Inv_any _ _ (by omega) (by omega)).mono ?_; rintro e w' ⟨rfl, rfl⟩) | (go_at_call 39; refine (l01Mul_any _ _ _ (by omega) (by omega) (by omega) (by omega)).mono ?_; rintro e w' ⟨rfl, rfl⟩))
  go_ret
  exact ⟨rfl, rfl⟩
theorem sNumberOf_any (p q : Int) (w : World) :
    Calls Tryd.prog 14 #[.int .i64 p, .int .i64 q] w fun e w' => e = .returned (.tuple #[.int .i64 (numberOfR p q).1, .int .i64 (numberOfR p q).2]) ∧ w = w' := by
  cases h1 : inR p (-1000000000) 1000000000 with
  | true =>
    cases h2 : inR q (-1000000000) 1000000000 with
    | true =>
      have HB : Hid (inB p q = true) := by simp [Hid, inB, h1, h2]
      have H1 := hid h1
      have H2 := hid h2
      clear h1 h2
      by_cases hz : q % 10007 = 0
      · have ht := tmod_zero q hz
        have HZ := hid hz
        clear hz
        go_enter Tryd.func14, Tryd.ntmps14
        go_wp2_with fail
        refine (l01In_any _ _ _ _).mono ?_; rintro e w' ⟨rfl, rfl⟩; rw [H1.out]
        go_wp2_with fail
        refine (l01In_any _ _ _ _).mono ?_; rintro e w' ⟨rfl, rfl⟩; rw [H2.out]
        go_wp2
        go_ret2
        exact ⟨by rw [numberOfR, if_pos HB.out, if_pos HZ.out]; rfl, rfl⟩
      · have ht := tmod_nonzero q hz
        have HZ := hid hz
        clear hz
        go_enter Tryd.func14, Tryd.ntmps14
        go_wp2_with fail
        refine (l01In_any _ _ _ _).mono ?_; rintro e w' ⟨rfl, rfl⟩; rw [H1.out]
        go_wp2_with fail
        refine (l01In_any _ _ _ _).mono ?_; rintro e w' ⟨rfl, rfl⟩; rw [H2.out]
        go_wp2_with (go_at_call 22; refine (l01Frac_any _ _ _).mono ?_; rintro e w' ⟨rfl, rfl⟩)
        go_ret2
        exact ⟨by rw [numberOfR, if_pos HB.out, if_neg HZ.out]; rfl, rfl⟩
    | false =>
      have HB : Hid (inB p q = false) := by simp [Hid, inB, h1, h2]
      have H1 := hid h1
      have H2 := hid h2
      clear h1 h2
      go_enter Tryd.func14, Tryd.ntmps14
      go_wp2_with fail
      refine (l01In_any _ _ _ _).mono ?_; rintro e w' ⟨rfl, rfl⟩; rw [H1.out]
      go_wp2_with fail
      refine (l01In_any _ _ _ _).mono ?_; rintro e w' ⟨rfl, rfl⟩; rw [H2.out]
      go_wp2
      go_ret2
      exact ⟨by rw [numberOfR, HB.out]; rfl, rfl⟩
  | false =>
    have HB : Hid (inB p q = false) := by simp [Hid, inB, h1]
    have H1 := hid h1
    clear h1
    go_enter Tryd.func14, Tryd.ntmps14
    go_wp2_with fail
    refine (l01In_any _ _ _ _).mono ?_; rintro e w' ⟨rfl, rfl⟩; rw [H1.out]
    go_wp2
    go_ret2
    exact ⟨by rw [numberOfR, HB.out]; rfl, rfl⟩
theorem numberOf_any (p q : Int) (w : World) :
    Calls Tryd.prog 13 #[.int .i64 p, .int .i64 q] w fun e w' => e = .returned (.tuple #[.int .i64 (numberOfR p q).1, .int .i64 (numberOfR p q).2]) ∧ w = w' := by
  cases h1 : inR p (-1000000000) 1000000000 with
  | true =>
    cases h2 : inR q (-1000000000) 1000000000 with
    | true =>
      have HB : Hid (inB p q = true) := by simp [Hid, inB, h1, h2]
      have H1 := hid h1
      have H2 := hid h2
      clear h1 h2
      by_cases hz : q % 10007 = 0
      · have ht := tmod_zero q hz
        have HZ := hid hz
        clear hz
        go_enter Tryd.func13, Tryd.ntmps13
        go_wp2_with fail
        refine (inRange_any _ _ _ _).mono ?_; rintro e w' ⟨rfl, rfl⟩; rw [H1.out]
        go_wp2_with fail
        refine (inRange_any _ _ _ _).mono ?_; rintro e w' ⟨rfl, rfl⟩; rw [H2.out]
        go_wp2
        go_ret2
        exact ⟨by rw [numberOfR, if_pos HB.out, if_pos HZ.out]; rfl, rfl⟩
      · have ht := tmod_nonzero q hz
        have HZ := hid hz
        clear hz
        have b1 := md_bd p
        have b2 := md_bd q
        have b3 := invM_bd (q % 10007)
        have m1 := (mul_bd b1.1 b1.2 b3.1 b3.2).1
        have m2 := (mul_bd b1.1 b1.2 b3.1 b3.2).2
        go_enter Tryd.func13, Tryd.ntmps13
        go_wp2_with fail
        refine (inRange_any _ _ _ _).mono ?_; rintro e w' ⟨rfl, rfl⟩; rw [H1.out]
        go_wp2_with fail
        refine (inRange_any _ _ _ _).mono ?_; rintro e w' ⟨rfl, rfl⟩; rw [H2.out]
        go_wp2_with (first | (go_at_call 31; refine (num_any _ _).mono ?_; rintro e w' ⟨rfl, rfl⟩) | (go_at_call 32; refine (inv_any _ _ (by omega) (by omega)).mono ?_; rintro e w' ⟨rfl, rfl⟩))
        go_ret2
        exact ⟨by rw [numberOfR, if_pos HB.out, if_neg HZ.out]; rfl, rfl⟩
    | false =>
      have HB : Hid (inB p q = false) := by simp [Hid, inB, h1, h2]
      have H1 := hid h1
      have H2 := hid h2
      clear h1 h2
      go_enter Tryd.func13, Tryd.ntmps13
      go_wp2_with fail
      refine (inRange_any _ _ _ _).mono ?_; rintro e w' ⟨rfl, rfl⟩; rw [H1.out]
      go_wp2_with fail
      refine (inRange_any _ _ _ _).mono ?_; rintro e w' ⟨rfl, rfl⟩; rw [H2.out]
      go_wp2
      go_ret2
      exact ⟨by rw [numberOfR, HB.out]; rfl, rfl⟩
  | false =>
    have HB : Hid (inB p q = false) := by simp [Hid, inB, h1]
    have H1 := hid h1
    clear h1
    go_enter Tryd.func13, Tryd.ntmps13
    go_wp2_with fail
    refine (inRange_any _ _ _ _).mono ?_; rintro e w' ⟨rfl, rfl⟩; rw [H1.out]
    go_wp2
    go_ret2
    exact ⟨by rw [numberOfR, HB.out]; rfl, rfl⟩
end Go.Proofs.YtmhcpaffdchboaaDoor
