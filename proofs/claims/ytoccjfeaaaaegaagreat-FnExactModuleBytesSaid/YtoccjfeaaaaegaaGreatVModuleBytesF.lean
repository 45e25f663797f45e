/-
  What the translation says of the law's function (checked by the kernel).
-/
import Derived.Test.YtoccjfeaaaaegaaGreatRows
import Derived.ProofKit
namespace Go.Proofs.YtoccjfeaaaaegaaGreat.fnExactModuleBytes
open Go.ChangeShapes Go.WideShapes Go.ChangeAt Go.RowKit
set_option linter.unusedVariables false
set_option maxRecDepth 100000 in
theorem fact_joined : joinedFacts Tryz.pinned.checked.prog 3 Tryz.f3 Rows.fnExactModuleBytesSpec Rows.fnExactModuleBytesRow = true := by kernel_rfl
end Go.Proofs.YtoccjfeaaaaegaaGreat.fnExactModuleBytes
