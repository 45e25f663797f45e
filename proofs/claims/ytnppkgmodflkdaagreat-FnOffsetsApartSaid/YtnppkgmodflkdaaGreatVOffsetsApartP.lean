/-
  The law FnOffsetsApart returns true at every argument; no conditions.
-/
import Derived.Test.YtnppkgmodflkdaaGreatRows
import Derived.ProofKit
import Derived.Test.YtnppkgmodflkdaaGreatVLyT
namespace Go.Proofs.YtnppkgmodflkdaaGreat.fnOffsetsApart
open Go.ChangeShapes Go.WideShapes Go.ChangeAt Go.RowKit
set_option linter.unusedVariables false
set_option maxRecDepth 100000 in
theorem fact_joined : joinedFacts Tryz.pinned.checked.prog 3 Tryz.f3 Rows.fnOffsetsApartSpec Rows.fnOffsetsApartRow = true := by kernel_rfl
end Go.Proofs.YtnppkgmodflkdaaGreat.fnOffsetsApart

namespace Go.Proofs.YtnppkgmodflkdaaGreat.fnOffsetsApart
open Go.ChangeShapes Go.WideShapes Go.ChangeAt Go.RowKit
set_option linter.unusedVariables false
set_option maxRecDepth 100000 in
theorem fact_named : Tryz.pinned.checked.prog.funcNamed Rows.fnOffsetsApartRow.func = some 3 := by kernel_rfl
set_option maxRecDepth 100000 in
theorem fact_inst : Tryz.f3.isInstance Tryz.pinned.checked.prog Rows.fnOffsetsApartRow.origin Rows.fnOffsetsApartRow.targs := of_decide_eq_true (by kernel_rfl)
set_option maxRecDepth 100000 in
theorem fact_wrap : Tryz.f3.isWrapper Tryz.pinned.checked.prog Rows.fnOffsetsApartRow.wrapper Rows.fnOffsetsApartRow.mainSum := by
  unfold Func.isWrapper; first | (rw [if_pos (by decide +kernel)]; kernel_rfl) | (rw [if_neg (by decide +kernel)]; exact ⟨rfl, rfl⟩)
end Go.Proofs.YtnppkgmodflkdaaGreat.fnOffsetsApart

namespace Go.Proofs.YtnppkgmodflkdaaGreat
open Go Go.RowKit
set_option linter.unusedVariables false
set_option linter.unusedSimpArgs false

theorem apartLaw (l m : List UInt8) : Ret env.P 3 [slL 1 byteC l, slL 1 byteC m] (fun r => r = .b true) := (apartLaw_of l m).toRetP

namespace fnOffsetsApart
theorem law_ret (dss : List (List AV)) (h : TyCs Tryz.prog Tryz.f3.params.toList dss) : Ret Tryz.prog 3 (mkArgs Tryz.prog Tryz.f3.params.toList dss) fun r => r = .b true := by
  obtain ⟨d0, r0, rfl, h0, h⟩ := h.cons_inv
  obtain ⟨d1, r1, rfl, h1, h⟩ := h.cons_inv
  obtain rfl := h.nil_inv
  obtain ⟨l, hl⟩ := arg_one (c := fun l => slL 1 byteC l) (rd_sl Tryz.underlying22 (by kernel_rfl) (rd_u8 Tryz.underlying5)) (by kernel_rfl) h0
  obtain ⟨m, hm⟩ := arg_one (c := fun l => slL 1 byteC l) (rd_sl Tryz.underlying22 (by kernel_rfl) (rd_u8 Tryz.underlying5)) (by kernel_rfl) h1
  exact Ret.wk (.cons hl (.cons hm .nil)) (apartLaw l m)
end fnOffsetsApart
end Go.Proofs.YtnppkgmodflkdaaGreat
namespace Go.Proofs.YtnppkgmodflkdaaGreat.fnOffsetsApart
open Go.ChangeShapes Go.WideShapes Go.ChangeAt Go.RowKit
set_option linter.unusedVariables false

theorem own : ownKnob Tryz.prog.godebug = none := by kernel_rfl

set_option maxRecDepth 100000 in
theorem lifted (os : Os) (started : os.Started) (H : Type) (enc : TypeId × Go.Value → H) :
    ReturnsInHanded {} Tryz.checked os 3 .any (Rows.fnOffsetsApartSpec.pre6 enc Tryz.prog Tryz.f3 Rows.fnOffsetsApartRow.domain false) (Rows.fnOffsetsApartSpec.post enc Tryz.prog Tryz.f3 false true false false) := by
  refine returnsInHanded_of_change (C := Tryz.checked) own started (by kernel_rfl) Tryz.func3
    (ChangeSpec.witness6 (enc := enc) (C := Tryz.checked) false ⟨#[], #[.slice none 0 0, .slice none 0 0], []⟩ 8 (by kernel_rfl) (by kernel_rfl) (by kernel_rfl) (by kernel_rfl)) ?_
  intro W base args ds gs before hval0 hW hcnd _
  refine law_end (k := closeT Tryz.prog 9 Tryz.f3.params.toList) rfl (by kernel_rfl) (by kernel_rfl) rfl Tryz.underlying4 ?_ (fun dss h => law_ret dss h) hval0 hW ⟨fun _ _ => trivial⟩
  · rintro ds hl
    match ds, hl with
    | [_, _], _ => rfl

theorem over : Rows.fnOffsetsApartRow.holds Tryz.pinned (OpenSpec.ofChange Rows.fnOffsetsApartSpec) :=
  OpenClaim.holds_of_wide 3 Tryz.f3 rfl rfl rfl rfl rfl rfl rfl ⟨rfl, rfl, rfl, rfl, rfl⟩ rfl rfl rfl rfl rfl fact_named Tryz.func3 fact_joined fact_inst fact_wrap
    (fun os started H enc _ => lifted os started H enc)

theorem proved : Rows.FnOffsetsApartSaid :=
  over
end Go.Proofs.YtnppkgmodflkdaaGreat.fnOffsetsApart
