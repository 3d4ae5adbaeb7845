/-
  The walks of the exported functions on numbers.
-/
import Derived.Test.YtpfbcchjeamjoaaNums
import Derived.Deep.QuietTactic
import Derived.BigQuiet
namespace Go.Proofs.Ytpfbcchjeamjoaa
open Go.RowKit
end Go.Proofs.Ytpfbcchjeamjoaa
