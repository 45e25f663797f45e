/-
  The law FnVersions: its row and its tied card.
-/
import Derived.Test.YtcmnohbbjkdpdaaDoorVVrX
import Derived.Test.YtcmnohbbjkdpdaaDoorVVrV
import Derived.Test.YtcmnohbbjkdpdaaDoorVVersionsF
import Derived.Test.YtcmnohbbjkdpdaaDoorVVersionsG
import Derived.Test.YtcmnohbbjkdpdaaDoorTie
import Derived.Test.YtcmnohbbjkdpdaaDoorCards
import Derived.OpenShut
import Derived.LaidMore
import Derived.Lay
import Derived.SevenTiedAt
import Derived.Stop.Joined
namespace Go.Proofs.YtcmnohbbjkdpdaaDoor.fnVersions
open Go.ChangeShapes Go.WideShapes Go.ChangeAt Go.RowKit
set_option linter.unusedVariables false

theorem own : ownKnob Tryd.prog.godebug = none := by kernel_rfl

set_option maxRecDepth 100000 in
theorem lifted (os : Os) (started : os.Started) (H : Type) (enc : TypeId × Go.Value → H) :
    ReturnsInHanded {} Tryd.checked os 3 .any (fun w args => (Rows.fnVersionsSpec.pre enc Tryd.prog Tryd.f3 Rows.fnVersionsRow.domain false w args ∧ laidMetH Tryd.prog Rows.fnVersionsRow.laid w) ∧ sizedMet enc Tryd.prog Tryd.f3 (OpenSpec.ofChange Rows.fnVersionsSpec) false w args) (Rows.fnVersionsSpec.post enc Tryd.prog Tryd.f3 false true false false) := by
  refine returns_laid_shaped (C := Tryd.checked) (X := fun w _ => laidMetH Tryd.prog Rows.fnVersionsRow.laid w) (fun _ _ _ hh h => h.of_heap hh) own started (by kernel_rfl) Tryd.func3
    (ChangeSpec.witness_shaped (enc := enc) (C := Tryd.checked) (os := os) (X := fun w _ => laidMetH Tryd.prog Rows.fnVersionsRow.laid w) false (World.laidAll Tryd.prog os Rows.fnVersionsRow.laid) #[.slice none 0 0, .slice none 0 0] 8 (World.laidAll_os _ _ _)
      (World.shaped_of_ZipB (by kernel_rfl) (by kernel_rfl)) (by kernel_rfl) (by kernel_rfl) (by kernel_rfl)
      (by rw [MakeChecks.laidMetH_plain _ _ _ (by kernel_rfl)]; exact laidMet_laidAll _ (by kernel_rfl) (by kernel_rfl))) ?_
  intro W base args ds gs before hval0 hW hX hsh
  have hl : Lw W := lw_of hX hsh
  refine law_end (k := closeT Tryd.prog 9 Tryd.f3.params.toList) rfl (by kernel_rfl) (by kernel_rfl) rfl Tryd.underlying4 ?_ (fun dss h => law_ret dss h) hval0 hW ⟨fun w' h => hl.of_eq h⟩
  · rintro ds hl
    match ds, hl with
    | [_, _], _ => rfl

theorem over : Rows.fnVersionsRow.holds Tryd.pinned (OpenSpec.ofChange Rows.fnVersionsSpec) :=
  OpenClaim.holds_of_wide 3 Tryd.f3 rfl rfl rfl rfl rfl rfl rfl ⟨rfl, rfl, rfl, rfl, rfl⟩ rfl rfl rfl rfl rfl fact_named Tryd.func3 fact_joined fact_inst fact_wrap
    (fun os started H enc _ => lifted os started H enc)

theorem proved : Rows.FnVersionsCardSaid :=
  Claim7.holds_tied_plain_at .later [] [.data, .data, .data, .data, .sentinel, .sentinel, .pinned] true (true, "dd7bc0f26be0ccefc414bf103f432a895b1b7dd93f7e837c9684088d3a3e7378") true over (fun _ h => by cases h) (by kernel_rfl) (fun _ h => by cases h) fnVersions_row_tie rfl ⟨rfl, rfl⟩ (by kernel_rfl) rfl
    (fun f fn hf hfn => by
      obtain rfl : f = 3 := Option.some.inj ((show Tryd.prog.funcNamed "loop.example/g00901/laws.FnVersions" = some 3 by kernel_rfl).symm.trans hf) |>.symm
      obtain rfl : fn = Tryd.f3 := (Option.some.inj (Tryd.func3.symm.trans hfn)).symm
      exact ⟨by kernel_rfl, fun j t ht => by
        rw [Tryd.params3] at ht
        have hm : t ∈ [22, 22] := by simpa using Array.mem_of_getElem? ht
        have hall : ([22, 22].all fun u => !Tryd.prog.wantsStandIn u) = true := by kernel_rfl
        exact (show Tryd.prog.wantsStandIn t = false by simpa using List.all_eq_true.1 hall t hm)⟩)
    (by kernel_rfl)
end Go.Proofs.YtcmnohbbjkdpdaaDoor.fnVersions
