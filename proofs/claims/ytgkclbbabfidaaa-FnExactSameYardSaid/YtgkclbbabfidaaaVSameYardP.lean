/-
  The law FnExactSameYard returns true at every argument.
-/
import Derived.Test.YtgkclbbabfidaaaVSameYard
import Derived.Test.YtgkclbbabfidaaaRows
import Derived.ProofKit
namespace Go.Proofs.Ytgkclbbabfidaaa
open Go Go.RowKit
set_option linter.unusedVariables false
set_option linter.unusedSimpArgs false

set_option maxRecDepth 8000 in
theorem sameYardLaw (a b : Yard) : Ret env.P 6 [.agg a.cs, .agg b.cs] (fun r => r = .b true) := by
  have b1 : Yard.sz a 1048576 ≤ 1048576 := Yard.sz_le _ _ (by omega)
  refine ret_of (nt := 45) (rvs := [.tmp 4]) Try.func6 rfl rfl rfl rfl (fun X => ?_)
  repeat' (first | omega | (with_reducible show (_ : Int) < _; dsimp only; omega) | ((conv => whnf) <;> (first | refine And.intro ?_ ?_ | (intro _h; first | contradiction | (try simp only [decide_eq_true_eq, Bool.not_eq_true', Bool.not_eq_false', decide_eq_false_iff_not, Bool.not_eq_true, Decidable.not_not, Bool.true_eq_false, Bool.false_eq_true] at _h)) | exact rfl | exact True.intro | (refine dok ?_; kernel_rfl) | (refine doks ?_; kernel_rfl) | (refine ⟨_, szYard_ok _ _ (by omega) (by omega), ?_⟩; try rintro _ rfl) | (refine wrap_succ ?_; omega))))
  rename_i ha
  have h1 := Yard.sz_ok _ _ (by omega) (by omega) ha
  have h2 := Yard.sz_ok _ _ (by omega) b1 _h
  repeat' (first | omega | (with_reducible show (_ : Int) < _; dsimp only; omega) | ((conv => whnf) <;> (first | refine And.intro ?_ ?_ | (intro _h; first | contradiction | (try simp only [decide_eq_true_eq, Bool.not_eq_true', Bool.not_eq_false', decide_eq_false_iff_not, Bool.not_eq_true, Decidable.not_not, Bool.true_eq_false, Bool.false_eq_true] at _h)) | exact rfl | exact True.intro | (refine dok ?_; kernel_rfl) | (refine doks ?_; kernel_rfl) | (refine ⟨_, toYard_ok _ h1, ?_⟩; try rintro _ rfl) | (refine ⟨_, toYard_ok _ h2, ?_⟩; try rintro _ rfl) | (refine ⟨_, sameYard_spec _ _ h1, ?_⟩; try rintro _ rfl) | (refine ⟨_, sameYard_impl _ _ h1, ?_⟩; try rintro _ rfl) | (refine ⟨_, eqYard_ok _ _ h1, ?_⟩; try rintro _ rfl) | (refine ⟨_, eqYard_ok _ _ h2, ?_⟩; try rintro _ rfl) | (refine wrap_succ ?_; omega))))
  all_goals (refine leaf_b ?_; simp_all)

theorem rd_Entry : Rd Try.prog 258 Entry Entry.cs :=
  rd_st Try.underlying258 (by kernel_rfl) rfl (rdF_cons (rd_int Try.underlying2) (rdF_cons (rd_int Try.underlying2) (rdF_cons (rd_bool Try.underlying4) (rdF_cons (rd_int Try.underlying2) (rdF_cons (rd_int Try.underlying2) (rdF_cons (rd_int Try.underlying2) (rdF_cons (rd_int Try.underlying2) rdF_nil))))))) (fun p => ⟨p.1, p.2.1, p.2.2.1, p.2.2.2.1, p.2.2.2.2.1, p.2.2.2.2.2.1, p.2.2.2.2.2.2.1⟩) fun _ => rfl
theorem rd_Table : Rd Try.prog 166 Table Table.cs :=
  rd_st Try.underlying166 (by kernel_rfl) rfl (rdF_cons (rd_int Try.underlying2) (rdF_cons (rd_sl Try.underlying164 (by kernel_rfl) rd_Entry) rdF_nil)) (fun p => ⟨p.1, p.2.1⟩) fun _ => rfl
theorem rd_Thing : Rd Try.prog 169 Thing Thing.cs :=
  rd_st Try.underlying169 (by kernel_rfl) rfl (rdF_cons (rd_int Try.underlying2) (rdF_cons (rd_int Try.underlying2) (rdF_cons (rd_int Try.underlying2) rdF_nil))) (fun p => ⟨p.1, p.2.1, p.2.2.1⟩) fun _ => rfl
theorem rd_Shelf : Rd Try.prog 25 Shelf Shelf.cs :=
  rd_st Try.underlying25 (by kernel_rfl) rfl (rdF_cons (rd_int Try.underlying2) (rdF_cons (rd_sl Try.underlying22 (by kernel_rfl) rd_Table) (rdF_cons (rd_sl Try.underlying23 (by kernel_rfl) rd_Thing) rdF_nil))) (fun p => ⟨p.1, p.2.1, p.2.2.1⟩) fun _ => rfl
theorem rd_Call : Rd Try.prog 188 Call Call.cs :=
  rd_st Try.underlying188 (by kernel_rfl) rfl (rdF_cons (rd_int Try.underlying2) (rdF_cons (rd_int Try.underlying2) (rdF_cons (rd_int Try.underlying2) (rdF_cons (rd_sl Try.underlying56 (by kernel_rfl) (rd_int Try.underlying2)) rdF_nil)))) (fun p => ⟨p.1, p.2.1, p.2.2.1, p.2.2.2.1⟩) fun _ => rfl
theorem rd_Yard : Rd Try.prog 58 Yard Yard.cs :=
  rd_st Try.underlying58 (by kernel_rfl) rfl (rdF_cons rd_Shelf (rdF_cons (rd_sl Try.underlying55 (by kernel_rfl) rd_Call) (rdF_cons (rd_int Try.underlying2) (rdF_cons (rd_sl Try.underlying56 (by kernel_rfl) (rd_int Try.underlying2)) rdF_nil)))) (fun p => ⟨p.1, p.2.1, p.2.2.1, p.2.2.2.1⟩) fun _ => rfl

namespace fnExactSameYard
theorem law_ret (dss : List (List AV)) (h : TyCs Try.prog Try.f6.params.toList dss) : Ret Try.prog 6 (mkArgs Try.prog Try.f6.params.toList dss) fun r => r = .b true := by
  obtain ⟨d0, r0, rfl, h0, h⟩ := h.cons_inv
  obtain ⟨d1, r1, rfl, h1, h⟩ := h.cons_inv
  obtain rfl := h.nil_inv
  obtain ⟨a, ha⟩ := arg_agg rd_Yard (by kernel_rfl) h0
  obtain ⟨b, hb⟩ := arg_agg rd_Yard (by kernel_rfl) h1
  exact Ret.wk (.cons ha (.cons hb .nil)) (sameYardLaw a b)
end fnExactSameYard
end Go.Proofs.Ytgkclbbabfidaaa
namespace Go.Proofs.Ytgkclbbabfidaaa.fnExactSameYard
open Go.ChangeShapes Go.WideShapes Go.ChangeAt Go.RowKit
set_option linter.unusedVariables false

theorem own : ownKnob Try.prog.godebug = none := by kernel_rfl

set_option maxRecDepth 100000 in
theorem lifted (os : Os) (started : os.Started) (H : Type) (enc : TypeId × Value → H) :
    ReturnsInHanded {} Try.checked os 6 .any (Rows.fnExactSameYardSpec.pre6 enc Try.prog Try.f6 Rows.fnExactSameYardRow.domain false) (Rows.fnExactSameYardSpec.post enc Try.prog Try.f6 false true false false) := by
  refine returnsInHanded_of_change (C := Try.checked) own started (by kernel_rfl) Try.func6
    (ChangeSpec.witness6 (enc := enc) (C := Try.checked) false ⟨#[], #[.agg #[.int .i64 0, .slice none 0 0, .slice none 0 0, .slice none 0 0, .int .i64 0, .slice none 0 0], .agg #[.int .i64 0, .slice none 0 0, .slice none 0 0, .slice none 0 0, .int .i64 0, .slice none 0 0]], []⟩ 8 (by kernel_rfl) (by kernel_rfl) (by kernel_rfl) (by kernel_rfl)) ?_
  intro W base args ds gs before hval0 hW hcnd _
  refine law_end (k := 9) rfl (by kernel_rfl) (by kernel_rfl) rfl Try.underlying4 ?_ (fun dss h => law_ret dss h) hval0 hW
  · rintro ds hl
    match ds, hl with
    | [_, _], _ => rfl

theorem over : Rows.fnExactSameYardRow.holds Try.pinned (OpenSpec.ofChange Rows.fnExactSameYardSpec) :=
  OpenClaim.holds_of_wide 6 Try.f6 rfl rfl rfl rfl rfl rfl rfl ⟨rfl, rfl, rfl, rfl, rfl⟩ rfl rfl rfl rfl rfl (by kernel_rfl) Try.func6 (by kernel_rfl)
    (of_decide_eq_true (by kernel_rfl)) (by unfold Func.isWrapper; first | (rw [if_pos (by decide +kernel)]; kernel_rfl) | (rw [if_neg (by decide +kernel)]; exact ⟨rfl, rfl⟩))
    (fun os started H enc _ => lifted os started H enc)

theorem proved : Rows.FnExactSameYardSaid :=
  over
end Go.Proofs.Ytgkclbbabfidaaa.fnExactSameYard
