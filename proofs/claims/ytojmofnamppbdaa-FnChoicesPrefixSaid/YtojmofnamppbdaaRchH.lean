/-
  What a search through the states of a machine hands back.
-/
import Derived.Test.YtojmofnamppbdaaMcA
import Derived.Test.YtojmofnamppbdaaSoC
namespace Go.Proofs.Ytojmofnamppbdaa
open Go.RowKit
set_option linter.unusedVariables false
set_option maxRecDepth 100000
end Go.Proofs.Ytojmofnamppbdaa
