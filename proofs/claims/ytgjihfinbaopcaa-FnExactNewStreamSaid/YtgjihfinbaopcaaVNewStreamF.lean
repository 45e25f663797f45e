/-
  What the translation says of the law's function (checked by the kernel).
-/
import Derived.Test.YtgjihfinbaopcaaRows
import Derived.ProofKit
namespace Go.Proofs.Ytgjihfinbaopcaa.fnExactNewStream
open Go.ChangeShapes Go.WideShapes Go.ChangeAt Go.RowKit
set_option linter.unusedVariables false
set_option maxRecDepth 100000 in
theorem fact_joined : joinedFacts Try.pinned.checked.prog 4 Try.f4 Rows.fnExactNewStreamSpec Rows.fnExactNewStreamRow = true := by kernel_rfl
end Go.Proofs.Ytgjihfinbaopcaa.fnExactNewStream
