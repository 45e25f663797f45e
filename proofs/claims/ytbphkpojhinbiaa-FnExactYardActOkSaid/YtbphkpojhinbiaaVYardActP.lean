/-
  The law FnExactYardActOk returns true at every argument, and its argument reads as it did. No condition.
-/
import Derived.Test.YtbphkpojhinbiaaVYardAct
import Derived.Test.YtbphkpojhinbiaaRows
import Derived.ProofKit
namespace Go.Proofs.Ytbphkpojhinbiaa
open Go Go.RowKit
set_option linter.unusedVariables false
set_option linter.unusedSimpArgs false

theorem szN_len {n : Nat} {left : Int} (h : ¬ szN n left < 0) (h1 : left ≤ 1048576) : n ≤ 1048576 := by
  unfold szN at h
  split at h <;> omega

set_option maxRecDepth 8000 in
theorem yardActLaw (a : YardAct) : Ret env.P 5 [.agg a.cs] (fun r => r = .b true) := by
  refine ret_of (nt := 27) (rvs := [.tmp 2]) Try.func5 rfl rfl rfl rfl (fun X => ?_)
  repeat' (first | omega | ((conv => whnf) <;> (first | refine And.intro ?_ ?_ | (intro _h; first | contradiction | (try simp only [decide_eq_true_eq, Bool.not_eq_true', Bool.not_eq_false', decide_eq_false_iff_not, Bool.not_eq_true, Decidable.not_not, Bool.true_eq_false, Bool.false_eq_true] at _h)) | exact rfl | exact True.intro | (refine dok ?_; kernel_rfl) | (refine doks ?_; kernel_rfl) | (refine ⟨_, szYardAct_ok _ _ (by omega) (by omega), ?_⟩; try rintro _ rfl) | (refine wrap_succ ?_; omega))))
  have hl := szN_len _h (by omega)
  repeat' (first | omega | ((conv => whnf) <;> (first | refine And.intro ?_ ?_ | (intro _h; first | contradiction | (try simp only [decide_eq_true_eq, Bool.not_eq_true', Bool.not_eq_false', decide_eq_false_iff_not, Bool.not_eq_true, Decidable.not_not, Bool.true_eq_false, Bool.false_eq_true] at _h)) | exact rfl | exact True.intro | (refine dok ?_; kernel_rfl) | (refine doks ?_; kernel_rfl) | (refine ⟨_, toYardAct_ok _ hl, ?_⟩; try rintro _ rfl) | (refine ⟨_, yardActOk_spec _ hl, ?_⟩; try rintro _ rfl) | (refine ⟨_, yardActOk_impl _ hl, ?_⟩; try rintro _ rfl) | (refine ⟨_, eqYardAct_ok _ _ hl, ?_⟩; try rintro _ rfl) | (refine wrap_succ ?_; omega))))
  all_goals (refine leaf_b ?_; simp_all)

theorem rd_Pass : Rd Try.prog 99 Pass Pass.cs :=
  rd_st Try.underlying99 (by kernel_rfl) rfl (rdF_cons (rd_bool Try.underlying4) (rdF_cons (rd_int Try.underlying2) (rdF_cons (rd_int Try.underlying2) rdF_nil)))
    (fun p => ⟨p.1, p.2.1, p.2.2.1⟩) fun _ => rfl
theorem rd_YardAct : Rd Try.prog 32 YardAct YardAct.cs :=
  rd_st Try.underlying32 (by kernel_rfl) rfl (rdF_cons (rd_int Try.underlying2) (rdF_cons (rd_int Try.underlying2) (rdF_cons (rd_int Try.underlying2) (rdF_cons (rd_int Try.underlying2) (rdF_cons (rd_sl Try.underlying30 (by kernel_rfl) rd_Pass) rdF_nil)))))
    (fun p => ⟨p.1, p.2.1, p.2.2.1, p.2.2.2.1, p.2.2.2.2.1⟩) fun _ => rfl

namespace fnExactYardActOk
theorem law_ret (dss : List (List AV)) (h : TyCs Try.prog Try.f5.params.toList dss) : Ret Try.prog 5 (mkArgs Try.prog Try.f5.params.toList dss) fun r => r = .b true := by
  obtain ⟨d0, r0, rfl, h0, h⟩ := h.cons_inv
  obtain rfl := h.nil_inv
  obtain ⟨a, ha⟩ := arg_agg rd_YardAct (by kernel_rfl) h0
  exact Ret.wk (.cons ha .nil) (yardActLaw a)
end fnExactYardActOk
end Go.Proofs.Ytbphkpojhinbiaa
namespace Go.Proofs.Ytbphkpojhinbiaa.fnExactYardActOk
open Go.ChangeShapes Go.WideShapes Go.ChangeAt Go.RowKit
set_option linter.unusedVariables false

theorem own : ownKnob Try.prog.godebug = none := by kernel_rfl

set_option maxRecDepth 100000 in
theorem lifted (os : Os) (started : os.Started) (H : Type) (enc : TypeId × Value → H) :
    ReturnsInHanded {} Try.checked os 5 .any (Rows.fnExactYardActOkSpec.pre6 enc Try.prog Try.f5 Rows.fnExactYardActOkRow.domain false) (Rows.fnExactYardActOkSpec.post enc Try.prog Try.f5 false true false false) := by
  refine returnsInHanded_of_change (C := Try.checked) own started (by kernel_rfl) Try.func5
    (ChangeSpec.witness6 (enc := enc) (C := Try.checked) false ⟨#[], #[.agg #[.int .i64 0, .int .i64 0, .int .i64 0, .int .i64 0, .slice none 0 0]], []⟩ 8 (by kernel_rfl) (by kernel_rfl) (by kernel_rfl) (by kernel_rfl)) ?_
  intro W base args ds gs before hval0 hW hcnd _
  refine law_end (k := 9) rfl (by kernel_rfl) (by kernel_rfl) rfl Try.underlying4 ?_ (fun dss h => law_ret dss h) hval0 hW
  · rintro ds hl
    match ds, hl with
    | [_], _ => rfl

theorem over : Rows.fnExactYardActOkRow.holds Try.pinned (OpenSpec.ofChange Rows.fnExactYardActOkSpec) :=
  OpenClaim.holds_of_wide 5 Try.f5 rfl rfl rfl rfl rfl rfl rfl ⟨rfl, rfl, rfl, rfl, rfl⟩ rfl rfl rfl rfl rfl (by kernel_rfl) Try.func5 (by kernel_rfl)
    (of_decide_eq_true (by kernel_rfl)) (by unfold Func.isWrapper; first | (rw [if_pos (by decide +kernel)]; kernel_rfl) | (rw [if_neg (by decide +kernel)]; exact ⟨rfl, rfl⟩))
    (fun os started H enc _ => lifted os started H enc)

theorem proved : Rows.FnExactYardActOkSaid :=
  over
end Go.Proofs.Ytbphkpojhinbiaa.fnExactYardActOk
