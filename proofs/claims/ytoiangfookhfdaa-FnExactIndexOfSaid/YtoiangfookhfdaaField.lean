/-
  The walks of the functions on numbers: range, remainder, sums and products.
-/
import Derived.Test.YtoiangfookhfdaaRows
import Derived.Test.YtoiangfookhfdaaPlain
import Derived.Test.YtoiangfookhfdaaMem
import Derived.Outline

namespace Go.Proofs.Ytoiangfookhfdaa
open Go.RowKit


theorem inRange_any (n lo hi : Int) (w : World) :
    Calls Try.prog 53 #[.int .i64 n, .int .i64 lo, .int .i64 hi] w fun e w' => e = .returned (.bool (inR n lo hi)) ∧ w = w' := by
  go_enter Try.func53, Try.ntmps53
  go_wp2
  · have h : lo ≤ n := by assumption
    go_ret; exact ⟨ret_bool (by simp [inR, h]), rfl⟩
  · have h : n < lo := by assumption
    go_ret; exact ⟨ret_bool (by simp [inR]; omega), rfl⟩
theorem l01In_any (n lo hi : Int) (w : World) :
    Calls Try.prog 51 #[.int .i64 n, .int .i64 lo, .int .i64 hi] w fun e w' => e = .returned (.bool (inR n lo hi)) ∧ w = w' := by
  go_enter Try.func51, Try.ntmps51
  go_wp2
  · have h : lo ≤ n := by assumption
    go_ret; exact ⟨ret_bool (by simp [inR, h]), rfl⟩
  · have h : n < lo := by assumption
    go_ret; exact ⟨ret_bool (by simp [inR]; omega), rfl⟩
end Go.Proofs.Ytoiangfookhfdaa
