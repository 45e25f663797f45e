/-
  The law FnRanges returns true at every argument.
-/
import Derived.Test.YtcmnohbbjkdpdaaDoorVVrJ
namespace Go.Proofs.YtcmnohbbjkdpdaaDoor
open Go Go.RowKit
set_option linter.unusedVariables false
set_option linter.unusedSimpArgs false

namespace fnRanges
theorem law_ret (dss : List (List AV)) (h : TyCs Tryd.prog Tryd.f4.params.toList dss) : Ret Tryd.prog 4 (mkArgs Tryd.prog Tryd.f4.params.toList dss) fun r => r = .b true := by
  obtain ⟨d0, r0, rfl, h0, h⟩ := h.cons_inv
  obtain ⟨d1, r1, rfl, h1, h⟩ := h.cons_inv
  obtain rfl := h.nil_inv
  obtain ⟨l, hl⟩ := arg_one (c := fun l => slL 1 byteC l) (rd_sl Tryd.underlying22 (by kernel_rfl) (rd_u8 Tryd.underlying5)) (by kernel_rfl) h0
  obtain ⟨m, hm⟩ := arg_one (c := fun l => slL 1 byteC l) (rd_sl Tryd.underlying22 (by kernel_rfl) (rd_u8 Tryd.underlying5)) (by kernel_rfl) h1
  exact Ret.wk (.cons hl (.cons hm .nil)) (rangesLaw l m).toRetP
end fnRanges
end Go.Proofs.YtcmnohbbjkdpdaaDoor
