/-
  What the translation says of the law's function (checked by the kernel).
-/
import Derived.Test.YtllcemegnggpfaaRows
import Derived.ProofKit
namespace Go.Proofs.Ytllcemegnggpfaa.fnExactTermText
open Go.ChangeShapes Go.WideShapes Go.ChangeAt Go.RowKit
set_option linter.unusedVariables false
set_option maxRecDepth 100000 in
theorem fact_named : Try.pinned.checked.prog.funcNamed Rows.fnExactTermTextRow.func = some 6 := by kernel_rfl
set_option maxRecDepth 100000 in
theorem fact_inst : Try.f6.isInstance Try.pinned.checked.prog Rows.fnExactTermTextRow.origin Rows.fnExactTermTextRow.targs := of_decide_eq_true (by kernel_rfl)
set_option maxRecDepth 100000 in
theorem fact_wrap : Try.f6.isWrapper Try.pinned.checked.prog Rows.fnExactTermTextRow.wrapper Rows.fnExactTermTextRow.mainSum := by
  unfold Func.isWrapper; first | (rw [if_pos (by decide +kernel)]; kernel_rfl) | (rw [if_neg (by decide +kernel)]; exact ⟨rfl, rfl⟩)
end Go.Proofs.Ytllcemegnggpfaa.fnExactTermText
