/-
  What the translation says of the law's function (checked by the kernel).
-/
import Derived.Test.YtkajnhnmlgogeaaRows
import Derived.ProofKit
namespace Go.Proofs.Ytkajnhnmlgogeaa.fnExactWriteMem
open Go.ChangeShapes Go.WideShapes Go.ChangeAt Go.RowKit
set_option linter.unusedVariables false
set_option maxRecDepth 100000 in
theorem fact_joined : joinedFacts Try.pinned.checked.prog 4 Try.f4 Rows.fnExactWriteMemSpec Rows.fnExactWriteMemRow = true := by kernel_rfl
end Go.Proofs.Ytkajnhnmlgogeaa.fnExactWriteMem
