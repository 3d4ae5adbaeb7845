/-
  The walks of the exported functions on numbers: fractions, quotients, powers.
-/
import Derived.Test.YtmhcpaffdchboaaNumLaws
namespace Go.Proofs.Ytmhcpaffdchboaa
open Go.RowKit
set_option maxRecDepth 100000
/-- The code and the number of a quotient. -/
def divR (a b : Int) : Int × Int := if two a b = true then (if b = 0 then (0, 5) else (a * invM b % 10007, 0)) else (0, 2)
/-- Both lie in the range of fractions. -/
def inB (p q : Int) : Bool := inR p (-1000000000) 1000000000 && inR q (-1000000000) 1000000000
/-- The number of a fraction. -/
def frac (p q : Int) : Int := p % 10007 * invM (q % 10007) % 10007
def numberOfR (p q : Int) : Int × Int := if inB p q = true then (if q % 10007 = 0 then (0, 5) else (frac p q, 0)) else (0, 2)
theorem tmod_zero (q : Int) (h : q % 10007 = 0) : (q.tmod 10007 == 0) = true := by
  have h1 : q.tmod 10007 = 0 := Int.tmod_eq_zero_of_dvd (Int.dvd_of_emod_eq_zero h)
  rw [h1]; rfl
theorem tmod_nonzero (q : Int) (h : ¬ q % 10007 = 0) : (q.tmod 10007 == 0) = false := by
  rw [beq_eq_false_iff_ne]; intro h'; exact h (Int.emod_eq_zero_of_dvd (Int.dvd_of_tmod_eq_zero h'))
theorem l01Frac_any (p q : Int) (w : World) :
    Calls Try.prog 89 #[.int .i64 p, .int .i64 q] w fun e w' => e = .returned (.int .i64 (frac p q)) ∧ w = w' := by
  have b1 := md_bd p
  have b2 := md_bd q
  have b3 := invM_bd (q % 10007)
  go_enter Try.func89, Try.ntmps89
  go_wp2_with (first | (go_at_call 80; refine (l01Mod_any _ _).mono ?_; rintro e w' ⟨rfl, rfl⟩) | (go_at_call 67; refine (l01Inv_any _ _ (by omega) (by omega)).mono ?_; rintro e w' ⟨rfl, rfl⟩) | (go_at_call 63; refine (l01Mul_any _ _ _ (by omega) (by omega) (by omega) (by omega)).mono ?_; rintro e w' ⟨rfl, rfl⟩))
  go_ret
  exact ⟨rfl, rfl⟩
end Go.Proofs.Ytmhcpaffdchboaa
