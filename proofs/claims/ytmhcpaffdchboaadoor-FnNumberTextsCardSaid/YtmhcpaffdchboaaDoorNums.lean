/-
  The walks of the functions on lists of numbers.
-/
import Derived.Test.YtmhcpaffdchboaaDoorField
import Derived.Test.YtmhcpaffdchboaaDoorMem
namespace Go.Proofs.YtmhcpaffdchboaaDoor
open Go.RowKit
end Go.Proofs.YtmhcpaffdchboaaDoor
