/-
  The law FnExactShelfActOk returns true at every argument, and its argument reads as it did. No condition.
-/
import Derived.Test.YtbphkpojhinbiaaVShelfAct
import Derived.Test.YtbphkpojhinbiaaRows
import Derived.ProofKit
namespace Go.Proofs.Ytbphkpojhinbiaa
open Go Go.RowKit
set_option linter.unusedVariables false
set_option linter.unusedSimpArgs false

set_option maxRecDepth 8000 in
theorem shelfActLaw (a : ShelfAct) : Ret env.P 4 [.agg a.cs] (fun r => r = .b true) := by
  refine ret_of (nt := 14) (rvs := [.tmp 2]) Try.func4 rfl rfl rfl rfl (fun X => ?_)
  repeat' (conv => whnf
           first | refine And.intro ?_ ?_ | (intro _h; try contradiction) | (refine dok ?_; kernel_rfl) | (refine doks ?_; kernel_rfl) | (refine ⟨_, toShelfAct_ok _, ?_⟩; rintro _ rfl) | (refine ⟨_, shelfActOk_spec _, ?_⟩; rintro _ rfl) | (refine ⟨_, shelfActOk_impl _, ?_⟩; rintro _ rfl))
  all_goals (refine leaf_b ?_; simp_all)

theorem rd_ShelfAct : Rd Try.prog 25 ShelfAct ShelfAct.cs :=
  rd_st Try.underlying25 (by kernel_rfl) rfl (rdF_cons (rd_int Try.underlying2) (rdF_cons (rd_int Try.underlying2) (rdF_cons (rd_int Try.underlying2) (rdF_cons (rd_int Try.underlying2) (rdF_cons (rd_int Try.underlying2) (rdF_cons (rd_int Try.underlying2) rdF_nil))))))
    (fun p => ⟨p.1, p.2.1, p.2.2.1, p.2.2.2.1, p.2.2.2.2.1, p.2.2.2.2.2.1⟩) fun _ => rfl

namespace fnExactShelfActOk
theorem law_ret (dss : List (List AV)) (h : TyCs Try.prog Try.f4.params.toList dss) : Ret Try.prog 4 (mkArgs Try.prog Try.f4.params.toList dss) fun r => r = .b true := by
  obtain ⟨d0, r0, rfl, h0, h⟩ := h.cons_inv
  obtain rfl := h.nil_inv
  obtain ⟨a, ha⟩ := arg_agg rd_ShelfAct (by kernel_rfl) h0
  exact Ret.wk (.cons ha .nil) (shelfActLaw a)
end fnExactShelfActOk
end Go.Proofs.Ytbphkpojhinbiaa
namespace Go.Proofs.Ytbphkpojhinbiaa.fnExactShelfActOk
open Go.ChangeShapes Go.WideShapes Go.ChangeAt Go.RowKit
set_option linter.unusedVariables false

theorem own : ownKnob Try.prog.godebug = none := by kernel_rfl

set_option maxRecDepth 100000 in
theorem lifted (os : Os) (started : os.Started) (H : Type) (enc : TypeId × Value → H) :
    ReturnsInHanded {} Try.checked os 4 .any (Rows.fnExactShelfActOkSpec.pre6 enc Try.prog Try.f4 Rows.fnExactShelfActOkRow.domain false) (Rows.fnExactShelfActOkSpec.post enc Try.prog Try.f4 false true false false) := by
  refine returnsInHanded_of_change (C := Try.checked) own started (by kernel_rfl) Try.func4
    (ChangeSpec.witness6 (enc := enc) (C := Try.checked) false ⟨#[], #[.agg #[.int .i64 0, .int .i64 0, .int .i64 0, .int .i64 0, .int .i64 0, .int .i64 0]], []⟩ 8 (by kernel_rfl) (by kernel_rfl) (by kernel_rfl) (by kernel_rfl)) ?_
  intro W base args ds gs before hval0 hW hcnd _
  refine law_end (k := 9) rfl (by kernel_rfl) (by kernel_rfl) rfl Try.underlying4 ?_ (fun dss h => law_ret dss h) hval0 hW
  · rintro ds hl
    match ds, hl with
    | [_], _ => rfl

theorem over : Rows.fnExactShelfActOkRow.holds Try.pinned (OpenSpec.ofChange Rows.fnExactShelfActOkSpec) :=
  OpenClaim.holds_of_wide 4 Try.f4 rfl rfl rfl rfl rfl rfl rfl ⟨rfl, rfl, rfl, rfl, rfl⟩ rfl rfl rfl rfl rfl (by kernel_rfl) Try.func4 (by kernel_rfl)
    (of_decide_eq_true (by kernel_rfl)) (by unfold Func.isWrapper; first | (rw [if_pos (by decide +kernel)]; kernel_rfl) | (rw [if_neg (by decide +kernel)]; exact ⟨rfl, rfl⟩))
    (fun os started H enc _ => lifted os started H enc)

theorem proved : Rows.FnExactShelfActOkSaid :=
  over
end Go.Proofs.Ytbphkpojhinbiaa.fnExactShelfActOk
