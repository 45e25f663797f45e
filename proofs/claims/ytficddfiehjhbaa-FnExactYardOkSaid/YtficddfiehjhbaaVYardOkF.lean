/-
  What the translation says of the law's function (checked by the kernel).
-/
import Derived.Test.YtficddfiehjhbaaRows
import Derived.ProofKit
namespace Go.Proofs.Ytficddfiehjhbaa.fnExactYardOk
open Go.ChangeShapes Go.WideShapes Go.ChangeAt Go.RowKit
set_option linter.unusedVariables false
set_option maxRecDepth 100000 in
theorem fact_joined : joinedFacts Try.pinned.checked.prog 14 Try.f14 Rows.fnExactYardOkSpec Rows.fnExactYardOkRow = true := by kernel_rfl
end Go.Proofs.Ytficddfiehjhbaa.fnExactYardOk
