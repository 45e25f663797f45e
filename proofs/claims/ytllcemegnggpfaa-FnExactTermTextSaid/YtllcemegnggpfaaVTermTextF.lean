/-
  What the translation says of the law's function (checked by the kernel).
-/
import Derived.Test.YtllcemegnggpfaaRows
import Derived.ProofKit
namespace Go.Proofs.Ytllcemegnggpfaa.fnExactTermText
open Go.ChangeShapes Go.WideShapes Go.ChangeAt Go.RowKit
set_option linter.unusedVariables false
set_option maxRecDepth 100000 in
theorem fact_joined : joinedFacts Try.pinned.checked.prog 6 Try.f6 Rows.fnExactTermTextSpec Rows.fnExactTermTextRow = true := by kernel_rfl
end Go.Proofs.Ytllcemegnggpfaa.fnExactTermText
