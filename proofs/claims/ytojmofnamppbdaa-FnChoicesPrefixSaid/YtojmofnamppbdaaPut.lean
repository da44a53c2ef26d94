/-
  spec.l3Put: one more into an ascending list of outcomes.
-/
import Derived.Test.YtojmofnamppbdaaS3A
namespace Go.Proofs.Ytojmofnamppbdaa
open Go.RowKit
set_option linter.unusedVariables false
set_option maxRecDepth 100000
end Go.Proofs.Ytojmofnamppbdaa
