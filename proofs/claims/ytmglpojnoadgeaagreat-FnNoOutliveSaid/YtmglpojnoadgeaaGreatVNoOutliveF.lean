/-
  What the translation says of the law's function (checked by the kernel).
-/
import Derived.Test.YtmglpojnoadgeaaGreatRows
import Derived.ProofKit
namespace Go.Proofs.YtmglpojnoadgeaaGreat.fnNoOutlive
open Go.ChangeShapes Go.WideShapes Go.ChangeAt Go.RowKit
set_option linter.unusedVariables false
set_option maxRecDepth 100000 in
theorem fact_joined : joinedFacts Tryz.pinned.checked.prog 4 Tryz.f4 Rows.fnNoOutliveSpec Rows.fnNoOutliveRow = true := by kernel_rfl
end Go.Proofs.YtmglpojnoadgeaaGreat.fnNoOutlive
