/-
  The law FnExactTopOf returns true at every argument.
-/
import Derived.Test.YthhenipljdanjaaVYaC
import Derived.Test.YthhenipljdanjaaVTopOfF
import Derived.Test.YthhenipljdanjaaVTopOfG
namespace Go.Proofs.Ythhenipljdanjaa
open Go Go.RowKit
set_option linter.unusedVariables false
set_option linter.unusedSimpArgs false

set_option maxRecDepth 8000 in
theorem topOfLaw (a : Yard) : Ret env.P 4 [.agg a.cs] (fun r => r = .b true) := by
  have b1 : Yard.sz a 1048576 ≤ 1048576 := Yard.sz_le _ _ (by omega)
  refine ret_of (nt := 27) (rvs := [.tmp 2]) Try.func4 rfl rfl rfl rfl (fun X => ?_)
  repeat' (first | omega | (with_reducible show (_ : Int) < _; dsimp only; omega) | ((conv => whnf) <;> (first | refine And.intro ?_ ?_ | (intro _h; first | contradiction | (try simp only [decide_eq_true_eq, Bool.not_eq_true', Bool.not_eq_false', decide_eq_false_iff_not, Bool.not_eq_true, Decidable.not_not, Bool.true_eq_false, Bool.false_eq_true, pb_t, pb_f] at _h)) | exact rfl | exact True.intro | (refine dok ?_; kernel_rfl) | (refine doks ?_; kernel_rfl) | ((first | refine .inl ⟨_, szYard_ok _ _ (by omega) (by omega), ?_⟩ | refine ⟨_, szYard_ok _ _ (by omega) (by omega), ?_⟩); (try rintro _ rfl)) | (refine wrap_succ ?_; omega))))
  have h1 := Yard.sz_ok _ _ (by omega) (by omega) _h
  have e : pb a.good = pb a.sGood := by rw [yard_iff]
  have hi := topOf_impl a h1
  have hs := topOf_spec a h1
  rw [← e] at hs
  repeat' (first | omega | (with_reducible show (_ : Int) < _; dsimp only; omega) | ((conv => whnf) <;> (first | refine And.intro ?_ ?_ | (intro _h; first | contradiction | (try simp only [decide_eq_true_eq, Bool.not_eq_true', Bool.not_eq_false', decide_eq_false_iff_not, Bool.not_eq_true, Decidable.not_not, Bool.true_eq_false, Bool.false_eq_true, pb_t, pb_f] at _h)) | exact rfl | exact True.intro | (refine dok ?_; kernel_rfl) | (refine doks ?_; kernel_rfl) | ((first | refine .inl ⟨_, toYard_ok _ h1, ?_⟩ | refine ⟨_, toYard_ok _ h1, ?_⟩); (try rintro _ rfl)) | ((first | refine .inl ⟨_, hs, ?_⟩ | refine ⟨_, hs, ?_⟩); (try rintro _ rfl)) | ((first | refine .inl ⟨_, hi, ?_⟩ | refine ⟨_, hi, ?_⟩); (try rintro _ rfl)) | ((first | refine .inl ⟨_, eqYard_ok _ _ h1, ?_⟩ | refine ⟨_, eqYard_ok _ _ h1, ?_⟩); (try rintro _ rfl)) | (refine wrap_succ ?_; omega))))
  all_goals (refine leaf_b ?_; simp_all)

theorem rd_Entry : Rd Try.prog 219 Entry Entry.cs :=
  rd_st Try.underlying219 (by kernel_rfl) rfl (rdF_cons (rd_int Try.underlying2) (rdF_cons (rd_int Try.underlying2) (rdF_cons (rd_bool Try.underlying4) (rdF_cons (rd_int Try.underlying2) (rdF_cons (rd_int Try.underlying2) (rdF_cons (rd_int Try.underlying2) (rdF_cons (rd_int Try.underlying2) rdF_nil))))))) (fun p => ⟨p.1, p.2.1, p.2.2.1, p.2.2.2.1, p.2.2.2.2.1, p.2.2.2.2.2.1, p.2.2.2.2.2.2.1⟩) fun _ => rfl
theorem rd_Table : Rd Try.prog 156 Table Table.cs :=
  rd_st Try.underlying156 (by kernel_rfl) rfl (rdF_cons (rd_int Try.underlying2) (rdF_cons (rd_sl Try.underlying154 (by kernel_rfl) rd_Entry) rdF_nil)) (fun p => ⟨p.1, p.2.1⟩) fun _ => rfl
theorem rd_Thing : Rd Try.prog 164 Thing Thing.cs :=
  rd_st Try.underlying164 (by kernel_rfl) rfl (rdF_cons (rd_int Try.underlying2) (rdF_cons (rd_int Try.underlying2) (rdF_cons (rd_int Try.underlying2) rdF_nil))) (fun p => ⟨p.1, p.2.1, p.2.2.1⟩) fun _ => rfl
theorem rd_Shelf : Rd Try.prog 25 Shelf Shelf.cs :=
  rd_st Try.underlying25 (by kernel_rfl) rfl (rdF_cons (rd_int Try.underlying2) (rdF_cons (rd_sl Try.underlying22 (by kernel_rfl) rd_Table) (rdF_cons (rd_sl Try.underlying23 (by kernel_rfl) rd_Thing) rdF_nil))) (fun p => ⟨p.1, p.2.1, p.2.2.1⟩) fun _ => rfl
theorem rd_Call : Rd Try.prog 140 Call Call.cs :=
  rd_st Try.underlying140 (by kernel_rfl) rfl (rdF_cons (rd_int Try.underlying2) (rdF_cons (rd_int Try.underlying2) (rdF_cons (rd_int Try.underlying2) (rdF_cons (rd_sl Try.underlying27 (by kernel_rfl) (rd_int Try.underlying2)) rdF_nil)))) (fun p => ⟨p.1, p.2.1, p.2.2.1, p.2.2.2.1⟩) fun _ => rfl
theorem rd_Yard : Rd Try.prog 29 Yard Yard.cs :=
  rd_st Try.underlying29 (by kernel_rfl) rfl (rdF_cons rd_Shelf (rdF_cons (rd_sl Try.underlying26 (by kernel_rfl) rd_Call) (rdF_cons (rd_int Try.underlying2) (rdF_cons (rd_sl Try.underlying27 (by kernel_rfl) (rd_int Try.underlying2)) rdF_nil)))) (fun p => ⟨p.1, p.2.1, p.2.2.1, p.2.2.2.1⟩) fun _ => rfl

namespace fnExactTopOf
theorem law_ret (dss : List (List AV)) (h : TyCs Try.prog Try.f4.params.toList dss) : Ret Try.prog 4 (mkArgs Try.prog Try.f4.params.toList dss) fun r => r = .b true := by
  obtain ⟨d0, r0, rfl, h0, h⟩ := h.cons_inv
  obtain rfl := h.nil_inv
  obtain ⟨a, ha⟩ := arg_agg rd_Yard (by kernel_rfl) h0
  exact Ret.wk (.cons ha .nil) (topOfLaw a)
end fnExactTopOf
end Go.Proofs.Ythhenipljdanjaa
namespace Go.Proofs.Ythhenipljdanjaa.fnExactTopOf
open Go.ChangeShapes Go.WideShapes Go.ChangeAt Go.RowKit
set_option linter.unusedVariables false

theorem own : ownKnob Try.prog.godebug = none := by kernel_rfl

set_option maxRecDepth 100000 in
theorem lifted (os : Os) (started : os.Started) (H : Type) (enc : TypeId × Value → H) :
    ReturnsInHanded {} Try.checked os 4 .any (Rows.fnExactTopOfSpec.pre6 enc Try.prog Try.f4 Rows.fnExactTopOfRow.domain false) (Rows.fnExactTopOfSpec.post enc Try.prog Try.f4 false true false false) := by
  refine returnsInHanded_of_change (C := Try.checked) own started (by kernel_rfl) Try.func4
    (ChangeSpec.witness6 (enc := enc) (C := Try.checked) false ⟨#[], #[.agg #[.int .i64 0, .slice none 0 0, .slice none 0 0, .slice none 0 0, .int .i64 0, .slice none 0 0]], []⟩ 8 (by kernel_rfl) (by kernel_rfl) (by kernel_rfl) (by kernel_rfl)) ?_
  intro W base args ds gs before hval0 hW hcnd _
  refine law_end (k := 9) rfl (by kernel_rfl) (by kernel_rfl) rfl Try.underlying4 ?_ (fun dss h => law_ret dss h) hval0 hW
  · rintro ds hl
    match ds, hl with
    | [_], _ => rfl

theorem over : Rows.fnExactTopOfRow.holds Try.pinned (OpenSpec.ofChange Rows.fnExactTopOfSpec) :=
  OpenClaim.holds_of_wide 4 Try.f4 rfl rfl rfl rfl rfl rfl rfl ⟨rfl, rfl, rfl, rfl, rfl⟩ rfl rfl rfl rfl rfl fact_named Try.func4 fact_joined fact_inst fact_wrap
    (fun os started H enc _ => lifted os started H enc)

theorem proved : Rows.FnExactTopOfSaid :=
  over
end Go.Proofs.Ythhenipljdanjaa.fnExactTopOf
