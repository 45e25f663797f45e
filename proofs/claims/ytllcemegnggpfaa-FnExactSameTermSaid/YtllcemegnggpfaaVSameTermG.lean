/-
  What the translation says of the law's function (checked by the kernel).
-/
import Derived.Test.YtllcemegnggpfaaRows
import Derived.ProofKit
namespace Go.Proofs.Ytllcemegnggpfaa.fnExactSameTerm
open Go.ChangeShapes Go.WideShapes Go.ChangeAt Go.RowKit
set_option linter.unusedVariables false
set_option maxRecDepth 100000 in
theorem fact_named : Try.pinned.checked.prog.funcNamed Rows.fnExactSameTermRow.func = some 5 := by kernel_rfl
set_option maxRecDepth 100000 in
theorem fact_inst : Try.f5.isInstance Try.pinned.checked.prog Rows.fnExactSameTermRow.origin Rows.fnExactSameTermRow.targs := of_decide_eq_true (by kernel_rfl)
set_option maxRecDepth 100000 in
theorem fact_wrap : Try.f5.isWrapper Try.pinned.checked.prog Rows.fnExactSameTermRow.wrapper Rows.fnExactSameTermRow.mainSum := by
  unfold Func.isWrapper; first | (rw [if_pos (by decide +kernel)]; kernel_rfl) | (rw [if_neg (by decide +kernel)]; exact ⟨rfl, rfl⟩)
end Go.Proofs.Ytllcemegnggpfaa.fnExactSameTerm
