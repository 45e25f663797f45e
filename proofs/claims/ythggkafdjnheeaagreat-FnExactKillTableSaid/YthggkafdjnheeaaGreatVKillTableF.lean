import Derived.Test.YthggkafdjnheeaaGreatRows
import Derived.ProofKit
namespace Go.Proofs.YthggkafdjnheeaaGreat.fnExactKillTable
open Go.ChangeShapes Go.WideShapes Go.ChangeAt Go.RowKit
set_option linter.unusedVariables false
set_option maxRecDepth 100000 in
theorem fact_joined : joinedFacts Tryz.pinned.checked.prog 4 Tryz.f4 Rows.fnExactKillTableSpec Rows.fnExactKillTableRow = true := by kernel_rfl
end Go.Proofs.YthggkafdjnheeaaGreat.fnExactKillTable
