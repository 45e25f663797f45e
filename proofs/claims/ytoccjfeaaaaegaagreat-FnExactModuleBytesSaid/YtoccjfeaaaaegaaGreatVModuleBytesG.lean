/-
  What the translation says of the law's function (checked by the kernel).
-/
import Derived.Test.YtoccjfeaaaaegaaGreatRows
import Derived.ProofKit
namespace Go.Proofs.YtoccjfeaaaaegaaGreat.fnExactModuleBytes
open Go.ChangeShapes Go.WideShapes Go.ChangeAt Go.RowKit
set_option linter.unusedVariables false
set_option maxRecDepth 100000 in
theorem fact_named : Tryz.pinned.checked.prog.funcNamed Rows.fnExactModuleBytesRow.func = some 3 := by kernel_rfl
set_option maxRecDepth 100000 in
theorem fact_inst : Tryz.f3.isInstance Tryz.pinned.checked.prog Rows.fnExactModuleBytesRow.origin Rows.fnExactModuleBytesRow.targs := of_decide_eq_true (by kernel_rfl)
set_option maxRecDepth 100000 in
theorem fact_wrap : Tryz.f3.isWrapper Tryz.pinned.checked.prog Rows.fnExactModuleBytesRow.wrapper Rows.fnExactModuleBytesRow.mainSum := by
  unfold Func.isWrapper; first | (rw [if_pos (by decide +kernel)]; kernel_rfl) | (rw [if_neg (by decide +kernel)]; exact ⟨rfl, rfl⟩)
end Go.Proofs.YtoccjfeaaaaegaaGreat.fnExactModuleBytes
