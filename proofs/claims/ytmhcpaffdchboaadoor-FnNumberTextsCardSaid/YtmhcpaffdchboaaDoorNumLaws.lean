/-
  The walks of the exported functions on numbers.
-/
import Derived.Test.YtmhcpaffdchboaaDoorNums
import Derived.Deep.QuietTactic
import Derived.BigQuiet
namespace Go.Proofs.YtmhcpaffdchboaaDoor
open Go.RowKit
end Go.Proofs.YtmhcpaffdchboaaDoor
