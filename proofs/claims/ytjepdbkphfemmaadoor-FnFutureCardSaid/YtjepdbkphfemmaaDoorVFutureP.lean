/-
  The law FnFuture: its row and its tied card.
-/
import Derived.Test.YtjepdbkphfemmaaDoorVFuK
import Derived.Test.YtjepdbkphfemmaaDoorVFutureF
import Derived.Test.YtjepdbkphfemmaaDoorVFutureG
import Derived.Test.YtjepdbkphfemmaaDoorTie
import Derived.Test.YtjepdbkphfemmaaDoorCards
import Derived.OpenShut
import Derived.LaidMore
import Derived.Lay
import Derived.SevenTiedAt
import Derived.Stop.Joined
namespace Go.Proofs.YtjepdbkphfemmaaDoor.fnFuture
open Go Go.RowKit
set_option linter.unusedVariables false

theorem law_ret (dss : List (List AV)) (h : TyCs Tryd.prog Tryd.f3.params.toList dss) : Ret Tryd.prog 3 (mkArgs Tryd.prog Tryd.f3.params.toList dss) fun r => r = .b true := by
  obtain ⟨d0, r0, rfl, h0, h⟩ := h.cons_inv
  obtain rfl := h.nil_inv
  obtain ⟨l, hl⟩ := arg_one (c := fun l => slL 1 byteC l) (rd_sl Tryd.underlying22 (by kernel_rfl) (rd_u8 Tryd.underlying5)) (by kernel_rfl) h0
  exact Ret.wk (.cons hl .nil) (futureLaw l)
end Go.Proofs.YtjepdbkphfemmaaDoor.fnFuture
namespace Go.Proofs.YtjepdbkphfemmaaDoor.fnFuture
open Go.ChangeShapes Go.WideShapes Go.ChangeAt Go.RowKit
set_option linter.unusedVariables false

theorem own : ownKnob Tryd.prog.godebug = none := by kernel_rfl

set_option maxRecDepth 100000 in
theorem lifted (os : Os) (started : os.Started) (H : Type) (enc : TypeId × Go.Value → H) :
    ReturnsInHanded {} Tryd.checked os 3 .any (fun w args => (Rows.fnFutureSpec.pre enc Tryd.prog Tryd.f3 Rows.fnFutureRow.domain false w args ∧ laidMetH Tryd.prog Rows.fnFutureRow.laid w) ∧ sizedMet enc Tryd.prog Tryd.f3 (OpenSpec.ofChange Rows.fnFutureSpec) false w args) (Rows.fnFutureSpec.post enc Tryd.prog Tryd.f3 false true false false) := by
  refine returnsInHanded_of_change_and (C := Tryd.checked) (X := fun w _ => laidMetH Tryd.prog Rows.fnFutureRow.laid w) (fun _ _ _ hh h => h.of_heap hh) own started (by kernel_rfl) Tryd.func3
    (ChangeSpec.witness_shaped (enc := enc) (C := Tryd.checked) (os := os) (X := fun w _ => laidMetH Tryd.prog Rows.fnFutureRow.laid w) false (World.laidAll Tryd.prog os Rows.fnFutureRow.laid) #[.slice none 0 0] 8 (World.laidAll_os _ _ _)
      (World.shaped_of_ZipB (by kernel_rfl) (by kernel_rfl)) (by kernel_rfl) (by kernel_rfl) (by kernel_rfl)
      (by rw [MakeChecks.laidMetH_plain _ _ _ (by kernel_rfl)]; exact laidMet_laidAll _ (by kernel_rfl) (by kernel_rfl))) ?_
  intro W base args ds gs before hval0 hW hcnd _ _ _
  refine law_end (k := closeT Tryd.prog 9 Tryd.f3.params.toList) rfl (by kernel_rfl) (by kernel_rfl) rfl Tryd.underlying4 ?_ (fun dss h => law_ret dss h) hval0 hW
  · rintro ds hl
    match ds, hl with
    | [_], _ => rfl

theorem over : Rows.fnFutureRow.holds Tryd.pinned (OpenSpec.ofChange Rows.fnFutureSpec) :=
  OpenClaim.holds_of_wide 3 Tryd.f3 rfl rfl rfl rfl rfl rfl rfl ⟨rfl, rfl, rfl, rfl, rfl⟩ rfl rfl rfl rfl rfl fact_named Tryd.func3 fact_joined fact_inst fact_wrap
    (fun os started H enc _ => lifted os started H enc)

theorem proved : Rows.FnFutureCardSaid :=
  Claim7.holds_tied_plain_at .later [] [.data, .pinned] true (true, "f0bfa7077f0a414a7743858e6b6f41a9782233ac9c4af8b93f8cbfa9801a24d4") false over (fun _ h => by cases h) (by kernel_rfl) (fun _ h => by cases h) fnFuture_row_tie rfl ⟨rfl, rfl⟩ (by kernel_rfl) rfl
    (fun f fn hf hfn => by
      obtain rfl : f = 3 := Option.some.inj ((show Tryd.prog.funcNamed "loop.example/g00901/laws.FnFuture" = some 3 by kernel_rfl).symm.trans hf) |>.symm
      obtain rfl : fn = Tryd.f3 := (Option.some.inj (Tryd.func3.symm.trans hfn)).symm
      exact ⟨by kernel_rfl, fun j t ht => by
        rw [Tryd.params3] at ht
        have hm : t ∈ [22] := by simpa using Array.mem_of_getElem? ht
        have hall : ([22].all fun u => !Tryd.prog.wantsStandIn u) = true := by kernel_rfl
        exact (show Tryd.prog.wantsStandIn t = false by simpa using List.all_eq_true.1 hall t hm)⟩)
    (by kernel_rfl)
end Go.Proofs.YtjepdbkphfemmaaDoor.fnFuture
