/-
  What the translation says of the law's function (checked by the kernel).
-/
import Derived.Test.YthhenipljdanjaaRows
import Derived.ProofKit
namespace Go.Proofs.Ythhenipljdanjaa.fnExactLendHandle
open Go.ChangeShapes Go.WideShapes Go.ChangeAt Go.RowKit
set_option linter.unusedVariables false
set_option maxRecDepth 100000 in
theorem fact_named : Try.pinned.checked.prog.funcNamed Rows.fnExactLendHandleRow.func = some 9 := by kernel_rfl
set_option maxRecDepth 100000 in
theorem fact_inst : Try.f9.isInstance Try.pinned.checked.prog Rows.fnExactLendHandleRow.origin Rows.fnExactLendHandleRow.targs := of_decide_eq_true (by kernel_rfl)
set_option maxRecDepth 100000 in
theorem fact_wrap : Try.f9.isWrapper Try.pinned.checked.prog Rows.fnExactLendHandleRow.wrapper Rows.fnExactLendHandleRow.mainSum := by
  unfold Func.isWrapper; first | (rw [if_pos (by decide +kernel)]; kernel_rfl) | (rw [if_neg (by decide +kernel)]; exact ⟨rfl, rfl⟩)
end Go.Proofs.Ythhenipljdanjaa.fnExactLendHandle
