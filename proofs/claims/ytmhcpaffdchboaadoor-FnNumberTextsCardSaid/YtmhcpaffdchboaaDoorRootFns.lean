/-
  The walks of powers and roots.
-/
import Derived.Test.YtmhcpaffdchboaaDoorNumFns
import Derived.Test.YtmhcpaffdchboaaDoorRoots
namespace Go.Proofs.YtmhcpaffdchboaaDoor
open Go.RowKit
theorem isK_three : isK 3 = true := by rfl
theorem isK_five : isK 5 = true := by rfl
theorem isK_no {k : Int} (h3 : ¬ k = 3) (h5 : ¬ k = 5) : isK k = false := by simp [isK, h3, h5]
/-- The power with an exponent of any sign. -/
def powerR (a k : Int) : Int × Int :=
  if isNum a = true ∧ inR k (-1000000000) 1000000000 = true then (if 0 ≤ k then (powM a k.toNat, 0) else if a = 0 then (0, 5) else (powM (invM a) (-k).toNat, 0)) else (0, 2)
end Go.Proofs.YtmhcpaffdchboaaDoor
