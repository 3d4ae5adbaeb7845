/-
  The walks of the functions on numbers: range, remainder, sums and products.
-/
import Derived.Test.YthjdmkjncaemgaaRows
import Derived.Test.YthjdmkjncaemgaaPlain
import Derived.Test.YthjdmkjncaemgaaMem
import Derived.Outline

namespace Go.Proofs.Ythjdmkjncaemgaa
open Go.RowKit


theorem inRange_any (n lo hi : Int) (w : World) :
    Calls Try.prog 62 #[.int .i64 n, .int .i64 lo, .int .i64 hi] w fun e w' => e = .returned (.bool (inR n lo hi)) ∧ w = w' := by
  go_enter Try.func62, Try.ntmps62
  go_wp2
  · have h : lo ≤ n := by assumption
    go_ret; exact ⟨ret_bool (by simp [inR, h]), rfl⟩
  · have h : n < lo := by assumption
    go_ret; exact ⟨ret_bool (by simp [inR]; omega), rfl⟩
theorem l01In_any (n lo hi : Int) (w : World) :
    Calls Try.prog 49 #[.int .i64 n, .int .i64 lo, .int .i64 hi] w fun e w' => e = .returned (.bool (inR n lo hi)) ∧ w = w' := by
  go_enter Try.func49, Try.ntmps49
  go_wp2
  · have h : lo ≤ n := by assumption
    go_ret; exact ⟨ret_bool (by simp [inR, h]), rfl⟩
  · have h : n < lo := by assumption
    go_ret; exact ⟨ret_bool (by simp [inR]; omega), rfl⟩
end Go.Proofs.Ythjdmkjncaemgaa
