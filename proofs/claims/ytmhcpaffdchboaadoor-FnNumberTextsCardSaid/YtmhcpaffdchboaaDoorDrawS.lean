/-
  The draws of series, and the laws' own draws of lists.
-/
import Derived.Test.YtmhcpaffdchboaaDoorDraw
import Derived.Test.YtmhcpaffdchboaaDoorDice
namespace Go.Proofs.YtmhcpaffdchboaaDoor
open Go.RowKit
set_option maxRecDepth 100000
theorem of_set {base g : Nat} {w : World} {n cap : Nat} {zs : List Int} (O : OwnI base w (.slice (some ⟨g, 0, none⟩) n cap) zs) (j : Nat) (x : Int) :
    OwnI base (w.setCell ⟨g, j, none⟩ (.int .i64 x)) (.slice (some ⟨g, 0, none⟩) n cap) (zs.set j x) := (O.set j x).1
end Go.Proofs.YtmhcpaffdchboaaDoor
