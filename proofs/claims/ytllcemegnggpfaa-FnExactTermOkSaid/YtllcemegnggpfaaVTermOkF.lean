/-
  What the translation says of the law's function (checked by the kernel).
-/
import Derived.Test.YtllcemegnggpfaaRows
import Derived.ProofKit
namespace Go.Proofs.Ytllcemegnggpfaa.fnExactTermOk
open Go.ChangeShapes Go.WideShapes Go.ChangeAt Go.RowKit
set_option linter.unusedVariables false
set_option maxRecDepth 100000 in
theorem fact_joined : joinedFacts Try.pinned.checked.prog 4 Try.f4 Rows.fnExactTermOkSpec Rows.fnExactTermOkRow = true := by kernel_rfl
end Go.Proofs.Ytllcemegnggpfaa.fnExactTermOk
