/-
  The dice of the laws: a source of numbers like those of the draws.
-/
import Derived.Test.YtmhcpaffdchboaaDoorSrc
namespace Go.Proofs.YtmhcpaffdchboaaDoor
open Go.RowKit
set_option maxRecDepth 100000
end Go.Proofs.YtmhcpaffdchboaaDoor
