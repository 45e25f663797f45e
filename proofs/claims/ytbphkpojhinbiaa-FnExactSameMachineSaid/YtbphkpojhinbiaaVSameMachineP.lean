/-
  The law FnExactSameMachine returns true at every argument.
-/
import Derived.Test.YtbphkpojhinbiaaVSameMachineS
import Derived.Test.YtbphkpojhinbiaaRows
import Derived.ProofKit
namespace Go.Proofs.Ytbphkpojhinbiaa
open Go Go.RowKit
set_option linter.unusedVariables false
set_option linter.unusedSimpArgs false

set_option maxRecDepth 8000 in
theorem sameMachineLaw (a b : Machine) : Ret env.P 8 [.agg a.cs, .agg b.cs] (fun r => r = .b true) := by
  have b1 : Machine.sz a 1048576 ≤ 1048576 := Machine.sz_le _ _ (by omega)
  refine ret_of (nt := 45) (rvs := [.tmp 4]) Try.func8 rfl rfl rfl rfl (fun X => ?_)
  repeat' (first | omega | (with_reducible show (_ : Int) < _; dsimp only; omega) | ((conv => whnf) <;> (first | refine And.intro ?_ ?_ | (intro _h; first | contradiction | (try simp only [decide_eq_true_eq, Bool.not_eq_true', Bool.not_eq_false', decide_eq_false_iff_not, Bool.not_eq_true, Decidable.not_not, Bool.true_eq_false, Bool.false_eq_true] at _h)) | exact rfl | exact True.intro | (refine dok ?_; kernel_rfl) | (refine doks ?_; kernel_rfl) | (refine ⟨_, szMachine_ok _ _ (by omega) (by omega), ?_⟩; try rintro _ rfl) | (refine wrap_succ ?_; omega))))
  rename_i ha
  have h1 := Machine.sz_ok _ _ (by omega) (by omega) ha
  have h2 := Machine.sz_ok _ _ (by omega) b1 _h
  repeat' (first | omega | (with_reducible show (_ : Int) < _; dsimp only; omega) | ((conv => whnf) <;> (first | refine And.intro ?_ ?_ | (intro _h; first | contradiction | (try simp only [decide_eq_true_eq, Bool.not_eq_true', Bool.not_eq_false', decide_eq_false_iff_not, Bool.not_eq_true, Decidable.not_not, Bool.true_eq_false, Bool.false_eq_true] at _h)) | exact rfl | exact True.intro | (refine dok ?_; kernel_rfl) | (refine doks ?_; kernel_rfl) | (refine ⟨_, toMachine_ok _ h1, ?_⟩; try rintro _ rfl) | (refine ⟨_, toMachine_ok _ h2, ?_⟩; try rintro _ rfl) | (refine ⟨_, sameMachine_spec _ _ h1, ?_⟩; try rintro _ rfl) | (refine ⟨_, sameMachine_impl _ _ h1, ?_⟩; try rintro _ rfl) | (refine ⟨_, eqMachine_ok _ _ h1, ?_⟩; try rintro _ rfl) | (refine ⟨_, eqMachine_ok _ _ h2, ?_⟩; try rintro _ rfl) | (refine wrap_succ ?_; omega))))
  all_goals (refine leaf_b ?_; simp_all)

theorem rd_CoreFrame : Rd Try.prog 118 CoreFrame CoreFrame.cs :=
  rd_st Try.underlying118 (by kernel_rfl) rfl (rdF_cons (rd_int Try.underlying2) (rdF_cons (rd_int Try.underlying2) (rdF_cons (rd_int Try.underlying2) (rdF_cons (rd_sl Try.underlying58 (by kernel_rfl) (rd_int Try.underlying2)) rdF_nil))))
    (fun p => ⟨p.1, p.2.1, p.2.2.1, p.2.2.2.1⟩) fun _ => rfl
theorem rd_Machine : Rd Try.prog 60 Machine Machine.cs :=
  rd_st Try.underlying60 (by kernel_rfl) rfl (rdF_cons (rd_int Try.underlying2) (rdF_cons (rd_sl Try.underlying57 (by kernel_rfl) rd_CoreFrame) (rdF_cons (rd_sl Try.underlying58 (by kernel_rfl) (rd_int Try.underlying2)) (rdF_cons (rd_int Try.underlying2) (rdF_cons (rd_sl Try.underlying58 (by kernel_rfl) (rd_int Try.underlying2)) (rdF_cons (rd_int Try.underlying2) (rdF_cons (rd_int Try.underlying2) rdF_nil)))))))
    (fun p => ⟨p.1, p.2.1, p.2.2.1, p.2.2.2.1, p.2.2.2.2.1, p.2.2.2.2.2.1, p.2.2.2.2.2.2.1⟩) fun _ => rfl

namespace fnExactSameMachine
theorem law_ret (dss : List (List AV)) (h : TyCs Try.prog Try.f8.params.toList dss) : Ret Try.prog 8 (mkArgs Try.prog Try.f8.params.toList dss) fun r => r = .b true := by
  obtain ⟨d0, r0, rfl, h0, h⟩ := h.cons_inv
  obtain ⟨d1, r1, rfl, h1, h⟩ := h.cons_inv
  obtain rfl := h.nil_inv
  obtain ⟨a, ha⟩ := arg_agg rd_Machine (by kernel_rfl) h0
  obtain ⟨b, hb⟩ := arg_agg rd_Machine (by kernel_rfl) h1
  exact Ret.wk (.cons ha (.cons hb .nil)) (sameMachineLaw a b)
end fnExactSameMachine
end Go.Proofs.Ytbphkpojhinbiaa
namespace Go.Proofs.Ytbphkpojhinbiaa.fnExactSameMachine
open Go.ChangeShapes Go.WideShapes Go.ChangeAt Go.RowKit
set_option linter.unusedVariables false

theorem own : ownKnob Try.prog.godebug = none := by kernel_rfl

set_option maxRecDepth 100000 in
theorem lifted (os : Os) (started : os.Started) (H : Type) (enc : TypeId × Value → H) :
    ReturnsInHanded {} Try.checked os 8 .any (Rows.fnExactSameMachineSpec.pre6 enc Try.prog Try.f8 Rows.fnExactSameMachineRow.domain false) (Rows.fnExactSameMachineSpec.post enc Try.prog Try.f8 false true false false) := by
  refine returnsInHanded_of_change (C := Try.checked) own started (by kernel_rfl) Try.func8
    (ChangeSpec.witness6 (enc := enc) (C := Try.checked) false ⟨#[], #[.agg #[.int .i64 0, .slice none 0 0, .slice none 0 0, .int .i64 0, .slice none 0 0, .int .i64 0, .int .i64 0], .agg #[.int .i64 0, .slice none 0 0, .slice none 0 0, .int .i64 0, .slice none 0 0, .int .i64 0, .int .i64 0]], []⟩ 8 (by kernel_rfl) (by kernel_rfl) (by kernel_rfl) (by kernel_rfl)) ?_
  intro W base args ds gs before hval0 hW hcnd _
  refine law_end (k := 9) rfl (by kernel_rfl) (by kernel_rfl) rfl Try.underlying4 ?_ (fun dss h => law_ret dss h) hval0 hW
  · rintro ds hl
    match ds, hl with
    | [_, _], _ => rfl

theorem over : Rows.fnExactSameMachineRow.holds Try.pinned (OpenSpec.ofChange Rows.fnExactSameMachineSpec) :=
  OpenClaim.holds_of_wide 8 Try.f8 rfl rfl rfl rfl rfl rfl rfl ⟨rfl, rfl, rfl, rfl, rfl⟩ rfl rfl rfl rfl rfl (by kernel_rfl) Try.func8 (by kernel_rfl)
    (of_decide_eq_true (by kernel_rfl)) (by unfold Func.isWrapper; first | (rw [if_pos (by decide +kernel)]; kernel_rfl) | (rw [if_neg (by decide +kernel)]; exact ⟨rfl, rfl⟩))
    (fun os started H enc _ => lifted os started H enc)

theorem proved : Rows.FnExactSameMachineSaid :=
  over
end Go.Proofs.Ytbphkpojhinbiaa.fnExactSameMachine
