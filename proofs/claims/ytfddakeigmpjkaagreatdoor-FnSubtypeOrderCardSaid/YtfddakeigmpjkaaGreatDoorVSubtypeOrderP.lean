/-
  The law FnSubtypeOrder returns true at every argument (its row, and its tied card); no conditions beyond the row.
-/
import Derived.Test.YtfddakeigmpjkaaGreatDoorRows
import Derived.ProofKit
import Derived.Test.YtfddakeigmpjkaaGreatDoorVVrW
import Derived.Test.YtfddakeigmpjkaaGreatDoorVSbZ
import Derived.Test.YtfddakeigmpjkaaGreatDoorTie
import Derived.Test.YtfddakeigmpjkaaGreatDoorCards
import Derived.OpenShut
import Derived.LaidMore
import Derived.Lay
import Derived.SevenTiedAt
import Derived.Stop.Joined
import Derived.MakeChecks
namespace Go.Proofs.YtfddakeigmpjkaaGreatDoor.fnSubtypeOrder
open Go.ChangeShapes Go.WideShapes Go.ChangeAt Go.RowKit
set_option linter.unusedVariables false
set_option maxRecDepth 100000 in
theorem fact_joined : joinedFacts Tryz.pinned.checked.prog 3 Tryz.f3 Rows.fnSubtypeOrderSpec Rows.fnSubtypeOrderRow = true := by kernel_rfl
end Go.Proofs.YtfddakeigmpjkaaGreatDoor.fnSubtypeOrder

namespace Go.Proofs.YtfddakeigmpjkaaGreatDoor.fnSubtypeOrder
open Go.ChangeShapes Go.WideShapes Go.ChangeAt Go.RowKit
set_option linter.unusedVariables false
set_option maxRecDepth 100000 in
theorem fact_named : Tryz.pinned.checked.prog.funcNamed Rows.fnSubtypeOrderRow.func = some 3 := by kernel_rfl
set_option maxRecDepth 100000 in
theorem fact_inst : Tryz.f3.isInstance Tryz.pinned.checked.prog Rows.fnSubtypeOrderRow.origin Rows.fnSubtypeOrderRow.targs := of_decide_eq_true (by kernel_rfl)
set_option maxRecDepth 100000 in
theorem fact_wrap : Tryz.f3.isWrapper Tryz.pinned.checked.prog Rows.fnSubtypeOrderRow.wrapper Rows.fnSubtypeOrderRow.mainSum := by
  unfold Func.isWrapper; first | (rw [if_pos (by decide +kernel)]; kernel_rfl) | (rw [if_neg (by decide +kernel)]; exact ⟨rfl, rfl⟩)
end Go.Proofs.YtfddakeigmpjkaaGreatDoor.fnSubtypeOrder

namespace Go.Proofs.YtfddakeigmpjkaaGreatDoor
open Go Go.RowKit
set_option linter.unusedVariables false
set_option linter.unusedSimpArgs false

theorem Lw.of_eq {w w' : World} (h : ∀ b, b < w.heap.size → w'.heap[b]? = w.heap[b]?) (hl : Lw w) : Lw w' := trivial
theorem lw_of {W : World} {p q : Prop} (_ : p) (_ : q) : Lw W := trivial
theorem orderLaw (l : List UInt8) : Ret env.P 3 [slL 1 byteC l] (fun r => r = .b true) := (orderLaw_of l).toRetP

namespace fnSubtypeOrder
theorem law_ret (dss : List (List AV)) (h : TyCs Tryz.prog Tryz.f3.params.toList dss) : Ret Tryz.prog 3 (mkArgs Tryz.prog Tryz.f3.params.toList dss) fun r => r = .b true := by
  obtain ⟨d0, r0, rfl, h0, h⟩ := h.cons_inv
  obtain rfl := h.nil_inv
  obtain ⟨l, hl⟩ := arg_one (c := fun l => slL 1 byteC l) (rd_sl Tryz.underlying22 (by kernel_rfl) (rd_u8 Tryz.underlying5)) (by kernel_rfl) h0
  exact Ret.wk (.cons hl .nil) (orderLaw l)
end fnSubtypeOrder
end Go.Proofs.YtfddakeigmpjkaaGreatDoor
namespace Go.Proofs.YtfddakeigmpjkaaGreatDoor.fnSubtypeOrder
open Go.ChangeShapes Go.WideShapes Go.ChangeAt Go.RowKit
set_option linter.unusedVariables false

theorem own : ownKnob Tryz.prog.godebug = none := by kernel_rfl

set_option maxRecDepth 100000 in
theorem lifted (os : Os) (started : os.Started) (H : Type) (enc : TypeId × Go.Value → H) :
    ReturnsInHanded {} Tryz.checked os 3 .any (fun w args => (Rows.fnSubtypeOrderSpec.pre enc Tryz.prog Tryz.f3 Rows.fnSubtypeOrderRow.domain false w args ∧ laidMetH Tryz.prog Rows.fnSubtypeOrderRow.laid w) ∧ sizedMet enc Tryz.prog Tryz.f3 (OpenSpec.ofChange Rows.fnSubtypeOrderSpec) false w args) (Rows.fnSubtypeOrderSpec.post enc Tryz.prog Tryz.f3 false true false false) := by
  refine returns_laid_shaped (C := Tryz.checked) (X := fun w _ => laidMetH Tryz.prog Rows.fnSubtypeOrderRow.laid w) (fun _ _ _ hh h => h.of_heap hh) own started (by kernel_rfl) Tryz.func3
    (ChangeSpec.witness_shaped (enc := enc) (C := Tryz.checked) (os := os) (X := fun w _ => laidMetH Tryz.prog Rows.fnSubtypeOrderRow.laid w) false (World.laidAll Tryz.prog os Rows.fnSubtypeOrderRow.laid) #[.slice none 0 0] 8 (World.laidAll_os _ _ _)
      (World.shaped_of_ZipB (by kernel_rfl) (by kernel_rfl)) (by kernel_rfl) (by kernel_rfl) (by kernel_rfl)
      (by rw [MakeChecks.laidMetH_plain _ _ _ (by kernel_rfl)]; exact laidMet_laidAll _ (by kernel_rfl) (by kernel_rfl))) ?_
  intro W base args ds gs before hval0 hW hX hsh
  have hl : Lw W := lw_of hX hsh
  refine law_end (k := closeT Tryz.prog 9 Tryz.f3.params.toList) rfl (by kernel_rfl) (by kernel_rfl) rfl Tryz.underlying4 ?_ (fun dss h => law_ret dss h) hval0 hW ⟨fun w' h => hl.of_eq h⟩
  · rintro ds hl
    match ds, hl with
    | [_], _ => rfl

theorem over : Rows.fnSubtypeOrderRow.holds Tryz.pinned (OpenSpec.ofChange Rows.fnSubtypeOrderSpec) :=
  OpenClaim.holds_of_wide 3 Tryz.f3 rfl rfl rfl rfl rfl rfl rfl ⟨rfl, rfl, rfl, rfl, rfl⟩ rfl rfl rfl rfl rfl fact_named Tryz.func3 fact_joined fact_inst fact_wrap
    (fun os started H enc _ => lifted os started H enc)

theorem proved : Rows.FnSubtypeOrderCardSaid :=
  Claim7.holds_tied_plain_at .later [] [.data, .data, .data] true (true, "c4d8198ccd0a4e5007924c343eb2c32ed47ffb01e87d658d64c631371c8412e2") false over (fun _ h => by cases h) (by kernel_rfl) (fun _ h => by cases h) fnSubtypeOrder_row_tie rfl ⟨rfl, rfl⟩ (by kernel_rfl) rfl
    (fun f fn hf hfn => by
      obtain rfl : f = 3 := Option.some.inj ((show Tryz.prog.funcNamed "loop.example/g00901/laws.FnSubtypeOrder" = some 3 by kernel_rfl).symm.trans hf) |>.symm
      obtain rfl : fn = Tryz.f3 := (Option.some.inj (Tryz.func3.symm.trans hfn)).symm
      exact ⟨by kernel_rfl, fun j t ht => by
        rw [Tryz.params3] at ht
        have hm : t ∈ [22] := by simpa using Array.mem_of_getElem? ht
        have hall : ([22].all fun u => !Tryz.prog.wantsStandIn u) = true := by kernel_rfl
        exact (show Tryz.prog.wantsStandIn t = false by simpa using List.all_eq_true.1 hall t hm)⟩)
    (by kernel_rfl)
end Go.Proofs.YtfddakeigmpjkaaGreatDoor.fnSubtypeOrder
