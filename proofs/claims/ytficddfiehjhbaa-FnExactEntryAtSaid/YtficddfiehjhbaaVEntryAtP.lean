/-
  The law FnExactEntryAt returns true at every argument.
-/
import Derived.Test.YtficddfiehjhbaaVShF
import Derived.Test.YtficddfiehjhbaaVShG
import Derived.Test.YtficddfiehjhbaaVEntryAtF
import Derived.Test.YtficddfiehjhbaaVEntryAtG
namespace Go.Proofs.Ytficddfiehjhbaa
open Go Go.RowKit
set_option linter.unusedVariables false
set_option linter.unusedSimpArgs false

set_option maxRecDepth 8000 in
theorem entryAtLaw (a : Shelf) (x : Int) (y : Int) : Ret env.P 10 [.agg a.cs, .i .i64 x, .i .i64 y] (fun r => r = .b true) := by
  have b1 : Shelf.sz a 1048576 ≤ 1048576 := Shelf.sz_le _ _ (by omega)
  have hgg := good_iff a
  refine ret_of (nt := 49) (rvs := [.tmp 6]) Try.func10 rfl rfl rfl rfl (fun X => ?_)
  repeat' (first | omega | (with_reducible show (_ : Int) < _; dsimp only; omega) | ((conv => whnf) <;> (first | refine And.intro ?_ ?_ | (intro _h; first | contradiction | (try simp only [decide_eq_true_eq, Bool.not_eq_true', Bool.not_eq_false', decide_eq_false_iff_not, Bool.not_eq_true, Decidable.not_not, Bool.true_eq_false, Bool.false_eq_true, pb_t, pb_f] at _h)) | exact rfl | exact True.intro | (refine dok ?_; kernel_rfl) | (refine doks ?_; kernel_rfl) | ((first | refine .inl ⟨_, szShelf_ok _ _ (by omega) (by omega), ?_⟩ | refine ⟨_, szShelf_ok _ _ (by omega) (by omega), ?_⟩); (try rintro _ rfl)) | (refine wrap_succ ?_; omega))))
  have h1 := Shelf.sz_ok _ _ (by omega) (by omega) _h
  have e : pb a.good = pb a.sGood := by rw [good_iff]
  have hi := entryAt_impl a h1 x y
  have hs := entryAt_spec a h1 x y
  rw [← e] at hs
  unfold Shelf.entQ at hi
  generalize (bif pb a.good then a.at_ x y else none) = o at hi hs
  cases o with
  | none =>
    repeat' (first | omega | (with_reducible show (_ : Int) < _; dsimp only; omega) | ((conv => whnf) <;> (first | refine And.intro ?_ ?_ | (intro _h; first | contradiction | (try simp only [decide_eq_true_eq, Bool.not_eq_true', Bool.not_eq_false', decide_eq_false_iff_not, Bool.not_eq_true, Decidable.not_not, Bool.true_eq_false, Bool.false_eq_true, pb_t, pb_f] at _h)) | exact rfl | exact True.intro | (refine dok ?_; kernel_rfl) | (refine doks ?_; kernel_rfl) | ((first | refine .inl ⟨_, toShelf_ok _ h1, ?_⟩ | refine ⟨_, toShelf_ok _ h1, ?_⟩); (try rintro _ rfl)) | ((first | refine .inl ⟨_, hs, ?_⟩ | refine ⟨_, hs, ?_⟩); (try rintro _ rfl)) | ((first | refine .inl ⟨_, hi, ?_⟩ | refine ⟨_, hi, ?_⟩); (try rintro _ rfl)) | ((first | refine .inl ⟨_, eqEntry_ok ⟨0, 0, false, 0, 0, 0, 0⟩ ⟨0, 0, false, 0, 0, 0, 0⟩ trivial, ?_⟩ | refine ⟨_, eqEntry_ok ⟨0, 0, false, 0, 0, 0, 0⟩ ⟨0, 0, false, 0, 0, 0, 0⟩ trivial, ?_⟩); (try rintro _ rfl)) | ((first | refine .inl ⟨_, eqShelf_ok _ _ h1, ?_⟩ | refine ⟨_, eqShelf_ok _ _ h1, ?_⟩); (try rintro _ rfl)) | (refine wrap_succ ?_; omega))))
    all_goals (refine leaf_b ?_; simp_all)
  | some v =>
    repeat' (first | omega | (with_reducible show (_ : Int) < _; dsimp only; omega) | ((conv => whnf) <;> (first | refine And.intro ?_ ?_ | (intro _h; first | contradiction | (try simp only [decide_eq_true_eq, Bool.not_eq_true', Bool.not_eq_false', decide_eq_false_iff_not, Bool.not_eq_true, Decidable.not_not, Bool.true_eq_false, Bool.false_eq_true, pb_t, pb_f] at _h)) | exact rfl | exact True.intro | (refine dok ?_; kernel_rfl) | (refine doks ?_; kernel_rfl) | ((first | refine .inl ⟨_, toShelf_ok _ h1, ?_⟩ | refine ⟨_, toShelf_ok _ h1, ?_⟩); (try rintro _ rfl)) | ((first | refine .inl ⟨_, hs, ?_⟩ | refine ⟨_, hs, ?_⟩); (try rintro _ rfl)) | ((first | refine .inl ⟨_, hi, ?_⟩ | refine ⟨_, hi, ?_⟩); (try rintro _ rfl)) | ((first | refine .inl ⟨_, eqEntry_ok v v trivial, ?_⟩ | refine ⟨_, eqEntry_ok v v trivial, ?_⟩); (try rintro _ rfl)) | ((first | refine .inl ⟨_, eqShelf_ok _ _ h1, ?_⟩ | refine ⟨_, eqShelf_ok _ _ h1, ?_⟩); (try rintro _ rfl)) | (refine wrap_succ ?_; omega))))
    all_goals (refine leaf_b ?_; simp_all)

theorem rd_Entry : Rd Try.prog 292 Entry Entry.cs :=
  rd_st Try.underlying292 (by kernel_rfl) rfl (rdF_cons (rd_int Try.underlying2) (rdF_cons (rd_int Try.underlying2) (rdF_cons (rd_bool Try.underlying4) (rdF_cons (rd_int Try.underlying2) (rdF_cons (rd_int Try.underlying2) (rdF_cons (rd_int Try.underlying2) (rdF_cons (rd_int Try.underlying2) rdF_nil))))))) (fun p => ⟨p.1, p.2.1, p.2.2.1, p.2.2.2.1, p.2.2.2.2.1, p.2.2.2.2.2.1, p.2.2.2.2.2.2.1⟩) fun _ => rfl
theorem rd_Table : Rd Try.prog 215 Table Table.cs :=
  rd_st Try.underlying215 (by kernel_rfl) rfl (rdF_cons (rd_int Try.underlying2) (rdF_cons (rd_sl Try.underlying213 (by kernel_rfl) rd_Entry) rdF_nil)) (fun p => ⟨p.1, p.2.1⟩) fun _ => rfl
theorem rd_Thing : Rd Try.prog 221 Thing Thing.cs :=
  rd_st Try.underlying221 (by kernel_rfl) rfl (rdF_cons (rd_int Try.underlying2) (rdF_cons (rd_int Try.underlying2) (rdF_cons (rd_int Try.underlying2) rdF_nil))) (fun p => ⟨p.1, p.2.1, p.2.2.1⟩) fun _ => rfl
theorem rd_Shelf : Rd Try.prog 67 Shelf Shelf.cs :=
  rd_st Try.underlying67 (by kernel_rfl) rfl (rdF_cons (rd_int Try.underlying2) (rdF_cons (rd_sl Try.underlying64 (by kernel_rfl) rd_Table) (rdF_cons (rd_sl Try.underlying65 (by kernel_rfl) rd_Thing) rdF_nil))) (fun p => ⟨p.1, p.2.1, p.2.2.1⟩) fun _ => rfl

namespace fnExactEntryAt
theorem law_ret (dss : List (List AV)) (h : TyCs Try.prog Try.f10.params.toList dss) : Ret Try.prog 10 (mkArgs Try.prog Try.f10.params.toList dss) fun r => r = .b true := by
  obtain ⟨d0, r0, rfl, h0, h⟩ := h.cons_inv
  obtain ⟨d1, r1, rfl, h1, h⟩ := h.cons_inv
  obtain ⟨d2, r2, rfl, h2, h⟩ := h.cons_inv
  obtain rfl := h.nil_inv
  obtain ⟨a, ha⟩ := arg_agg rd_Shelf (by kernel_rfl) h0
  obtain ⟨x, hx⟩ := arg_one (c := fun n => .i .i64 n) (rd_int Try.underlying2) (by kernel_rfl) h1
  obtain ⟨y, hy⟩ := arg_one (c := fun n => .i .i64 n) (rd_int Try.underlying2) (by kernel_rfl) h2
  exact Ret.wk (.cons ha (.cons hx (.cons hy .nil))) (entryAtLaw a x y)
end fnExactEntryAt
end Go.Proofs.Ytficddfiehjhbaa
namespace Go.Proofs.Ytficddfiehjhbaa.fnExactEntryAt
open Go.ChangeShapes Go.WideShapes Go.ChangeAt Go.RowKit
set_option linter.unusedVariables false

theorem own : ownKnob Try.prog.godebug = none := by kernel_rfl

set_option maxRecDepth 100000 in
theorem lifted (os : Os) (started : os.Started) (H : Type) (enc : TypeId × Value → H) :
    ReturnsInHanded {} Try.checked os 10 .any (Rows.fnExactEntryAtSpec.pre6 enc Try.prog Try.f10 Rows.fnExactEntryAtRow.domain false) (Rows.fnExactEntryAtSpec.post enc Try.prog Try.f10 false true false false) := by
  refine returnsInHanded_of_change (C := Try.checked) own started (by kernel_rfl) Try.func10
    (ChangeSpec.witness6 (enc := enc) (C := Try.checked) false ⟨#[], #[.agg #[.int .i64 0, .slice none 0 0, .slice none 0 0], .int .i64 0, .int .i64 0], []⟩ 8 (by kernel_rfl) (by kernel_rfl) (by kernel_rfl) (by kernel_rfl)) ?_
  intro W base args ds gs before hval0 hW hcnd _
  refine law_end (k := 9) rfl (by kernel_rfl) (by kernel_rfl) rfl Try.underlying4 ?_ (fun dss h => law_ret dss h) hval0 hW
  · rintro ds hl
    match ds, hl with
    | [_, _, _], _ => rfl

theorem over : Rows.fnExactEntryAtRow.holds Try.pinned (OpenSpec.ofChange Rows.fnExactEntryAtSpec) :=
  OpenClaim.holds_of_wide 10 Try.f10 rfl rfl rfl rfl rfl rfl rfl ⟨rfl, rfl, rfl, rfl, rfl⟩ rfl rfl rfl rfl rfl fact_named Try.func10 fact_joined fact_inst fact_wrap
    (fun os started H enc _ => lifted os started H enc)

theorem proved : Rows.FnExactEntryAtSaid :=
  over
end Go.Proofs.Ytficddfiehjhbaa.fnExactEntryAt
