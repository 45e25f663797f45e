import Derived.Test.YthggkafdjnheeaaGreatRows
import Derived.ProofKit
namespace Go.Proofs.YthggkafdjnheeaaGreat.fnExactKillTable
open Go.ChangeShapes Go.WideShapes Go.ChangeAt Go.RowKit
set_option linter.unusedVariables false
set_option maxRecDepth 100000 in
theorem fact_named : Tryz.pinned.checked.prog.funcNamed Rows.fnExactKillTableRow.func = some 4 := by kernel_rfl
set_option maxRecDepth 100000 in
theorem fact_inst : Tryz.f4.isInstance Tryz.pinned.checked.prog Rows.fnExactKillTableRow.origin Rows.fnExactKillTableRow.targs := of_decide_eq_true (by kernel_rfl)
set_option maxRecDepth 100000 in
theorem fact_wrap : Tryz.f4.isWrapper Tryz.pinned.checked.prog Rows.fnExactKillTableRow.wrapper Rows.fnExactKillTableRow.mainSum := by
  unfold Func.isWrapper; first | (rw [if_pos (by decide +kernel)]; kernel_rfl) | (rw [if_neg (by decide +kernel)]; exact ⟨rfl, rfl⟩)
end Go.Proofs.YthggkafdjnheeaaGreat.fnExactKillTable
