/-
  The law FnSections returns true at every argument; no conditions.
-/
import Derived.Test.YtdeledeopippfaaVx42
import Derived.Test.YtdeledeopippfaaVSectionsF
import Derived.Test.YtdeledeopippfaaVSectionsG
namespace Go.Proofs.Ytdeledeopippfaa
open Go Go.RowKit
set_option linter.unusedVariables false
set_option linter.unusedSimpArgs false
theorem sectionsLaw (l m : List UInt8) : Ret env.P 3 [slL 1 byteC l, slL 1 byteC m] (fun r => r = .b true) := (sectionsLaw_of l m).toRetP
namespace fnSections
theorem law_ret (dss : List (List AV)) (h : TyCs Try.prog Try.f3.params.toList dss) : Ret Try.prog 3 (mkArgs Try.prog Try.f3.params.toList dss) fun r => r = .b true := by
  obtain ⟨d0, r0, rfl, h0, h⟩ := h.cons_inv
  obtain ⟨d1, r1, rfl, h1, h⟩ := h.cons_inv
  obtain rfl := h.nil_inv
  obtain ⟨l, hl⟩ := arg_one (c := fun l => slL 1 byteC l) (rd_sl Try.underlying22 (by kernel_rfl) (rd_u8 Try.underlying5)) (by kernel_rfl) h0
  obtain ⟨m, hm⟩ := arg_one (c := fun l => slL 1 byteC l) (rd_sl Try.underlying22 (by kernel_rfl) (rd_u8 Try.underlying5)) (by kernel_rfl) h1
  exact Ret.wk (.cons hl (.cons hm .nil)) (sectionsLaw l m)
end fnSections
end Go.Proofs.Ytdeledeopippfaa
namespace Go.Proofs.Ytdeledeopippfaa.fnSections
open Go.ChangeShapes Go.WideShapes Go.ChangeAt Go.RowKit
set_option linter.unusedVariables false
theorem own : ownKnob Try.prog.godebug = none := by kernel_rfl
set_option maxRecDepth 100000 in
theorem lifted (os : Os) (started : os.Started) (H : Type) (enc : TypeId × Go.Value → H) :
    ReturnsInHanded {} Try.checked os 3 .any (Rows.fnSectionsSpec.pre6 enc Try.prog Try.f3 Rows.fnSectionsRow.domain false) (Rows.fnSectionsSpec.post enc Try.prog Try.f3 false true false false) := by
  refine returnsInHanded_of_change (C := Try.checked) own started (by kernel_rfl) Try.func3
    (ChangeSpec.witness6 (enc := enc) (C := Try.checked) false ⟨#[], #[.slice none 0 0, .slice none 0 0], []⟩ 8 (by kernel_rfl) (by kernel_rfl) (by kernel_rfl) (by kernel_rfl)) ?_
  intro W base args ds gs before hval0 hW hcnd _
  refine law_end (k := closeT Try.prog 9 Try.f3.params.toList) rfl (by kernel_rfl) (by kernel_rfl) rfl Try.underlying4 ?_ (fun dss h => law_ret dss h) hval0 hW ⟨fun _ _ => trivial⟩
  · rintro ds hl
    match ds, hl with
    | [_, _], _ => rfl
theorem over : Rows.fnSectionsRow.holds Try.pinned (OpenSpec.ofChange Rows.fnSectionsSpec) :=
  OpenClaim.holds_of_wide 3 Try.f3 rfl rfl rfl rfl rfl rfl rfl ⟨rfl, rfl, rfl, rfl, rfl⟩ rfl rfl rfl rfl rfl fact_named Try.func3 fact_joined fact_inst fact_wrap
    (fun os started H enc _ => lifted os started H enc)
theorem proved : Rows.FnSectionsSaid :=
  over
end Go.Proofs.Ytdeledeopippfaa.fnSections
