/-
  The law FnExactSameStream returns true at every argument.
-/
import Derived.Test.YthpfjlejmkcfgaaVSsA
import Derived.Test.YthpfjlejmkcfgaaVSsB
import Derived.Test.YthpfjlejmkcfgaaVTStream
import Derived.Test.YthpfjlejmkcfgaaVTRec
import Derived.Test.YthpfjlejmkcfgaaVSameStreamF
import Derived.Test.YthpfjlejmkcfgaaVSameStreamG
namespace Go.Proofs.Ythpfjlejmkcfgaa
open Go Go.RowKit
set_option linter.unusedVariables false
set_option linter.unusedSimpArgs false

def Stream.sam (a b : Stream) : Prop := Typ.sam 100 a.type_ b.type_ ∧ a.room = b.room ∧ a.future = b.future ∧ a.buffer = b.buffer ∧ a.put = b.put ∧ a.got = b.got ∧ a.shut = b.shut ∧ a.gone = b.gone
theorem sameT_spec (a b : Typ) (h : a.ok) : Ret env.P 31 [.agg a.cs, .agg b.cs] (fun r => r = .b (pb (Typ.sam 100 a b))) := by
  refine ret_of (nt := 8) (rvs := [.tmp 4]) Try.func31 rfl rfl rfl rfl (fun X => ?_)
  repeat' (first | exact aa | ((conv => whnf) <;> (first | refine And.intro ?_ ?_ | (intro _h; first | contradiction | (try simp only [dd] at _h)) | (refine dt_go ?_) | exact rfl | exact True.intro | exact dkk | exact dks | ((first | refine .inl ⟨_, l03Same_n 100 (by omega) 1 (by omega) a.kd a h b.kd b (Typ.fN_self b), ?_⟩ | refine ⟨_, l03Same_n 100 (by omega) 1 (by omega) a.kd a h b.kd b (Typ.fN_self b), ?_⟩); (try rintro _ rfl)) | (refine wrap_succ ?_; omega))))
  all_goals exact rfl
theorem sameT_impl (a b : Typ) (h : a.ok) : Ret env.P 34 [.agg a.cs, .agg b.cs] (fun r => r = .b (pb (Typ.sam 100 a b))) := by
  refine ret_of (nt := 8) (rvs := [.tmp 4]) Try.func34 rfl rfl rfl rfl (fun X => ?_)
  repeat' (first | exact aa | ((conv => whnf) <;> (first | refine And.intro ?_ ?_ | (intro _h; first | contradiction | (try simp only [dd] at _h)) | (refine dt_go ?_) | exact rfl | exact True.intro | exact dkk | exact dks | ((first | refine .inl ⟨_, sameType_n 100 (by omega) 100 (by omega) a.kd a h b.kd b (Typ.fN_self b), ?_⟩ | refine ⟨_, sameType_n 100 (by omega) 100 (by omega) a.kd a h b.kd b (Typ.fN_self b), ?_⟩); (try rintro _ rfl)) | (refine wrap_succ ?_; omega))))
  all_goals exact rfl
set_option maxRecDepth 8000 in
theorem sameStream_spec (a b : Stream) (h : a.ok) : Ret env.P 9 [.agg a.cs, .agg b.cs] (fun r => r = .b (pb (a.sam b))) := by
  refine ret_of (nt := 59) (rvs := [.tmp 4]) Try.func9 rfl rfl rfl rfl (fun X => ?_)
  repeat' (first | exact aa | ((conv => whnf) <;> (first | refine And.intro ?_ ?_ | (intro _h; first | contradiction | (try simp only [dd] at _h)) | (refine dt_go ?_) | exact rfl | exact True.intro | exact dkk | exact dks | ((first | refine .inl ⟨_, sameT_spec a.type_ b.type_ h.1, ?_⟩ | refine ⟨_, sameT_spec a.type_ b.type_ h.1, ?_⟩); (try rintro _ rfl)) | ((first | refine .inl ⟨_, sameValues_spec a.buffer b.buffer h.2, ?_⟩ | refine ⟨_, sameValues_spec a.buffer b.buffer h.2, ?_⟩); (try rintro _ rfl)) | (refine wrap_succ ?_; omega))))
  all_goals (refine leaf_p ?_; unfold Stream.sam; simp_all)
set_option maxRecDepth 8000 in
theorem sameStream_impl (a b : Stream) (h : a.ok) : Ret env.P 11 [.agg a.cs, .agg b.cs] (fun r => r = .b (pb (a.sam b))) := by
  refine ret_of (nt := 59) (rvs := [.tmp 4]) Try.func11 rfl rfl rfl rfl (fun X => ?_)
  repeat' (first | exact aa | ((conv => whnf) <;> (first | refine And.intro ?_ ?_ | (intro _h; first | contradiction | (try simp only [dd] at _h)) | (refine dt_go ?_) | exact rfl | exact True.intro | exact dkk | exact dks | ((first | refine .inl ⟨_, sameT_impl a.type_ b.type_ h.1, ?_⟩ | refine ⟨_, sameT_impl a.type_ b.type_ h.1, ?_⟩); (try rintro _ rfl)) | ((first | refine .inl ⟨_, eqFunV_ok a.buffer b.buffer h.2, ?_⟩ | refine ⟨_, eqFunV_ok a.buffer b.buffer h.2, ?_⟩); (try rintro _ rfl)) | (refine wrap_succ ?_; omega))))
  all_goals (refine leaf_p ?_; unfold Stream.sam; simp_all)
set_option maxRecDepth 8000 in
theorem sameStreamLaw (a b : Stream) : Ret env.P 3 [.agg a.cs, .agg b.cs] (fun r => r = .b true) := by
  have b1 : Stream.sz a 1048576 ≤ 1048576 := Stream.sz_le _ _ (by omega)
  refine ret_of (nt := 45) (rvs := [.tmp 4]) Try.func3 rfl rfl rfl rfl (fun X => ?_)
  repeat' (first | exact aa | ((conv => whnf) <;> (first | refine And.intro ?_ ?_ | (intro _h; first | contradiction | (try simp only [dd] at _h)) | (refine dt_go ?_) | exact rfl | exact True.intro | exact dkk | exact dks | ((first | refine .inl ⟨_, szStream_ok _ _ (by omega) (by omega), ?_⟩ | refine ⟨_, szStream_ok _ _ (by omega) (by omega), ?_⟩); (try rintro _ rfl)) | (refine wrap_succ ?_; omega))))
  rename_i ha
  have h1 := Stream.sz_ok _ _ (by omega) (by omega) ha
  have h2 := Stream.sz_ok _ _ (by omega) b1 _h
  repeat' (first | exact aa | ((conv => whnf) <;> (first | refine And.intro ?_ ?_ | (intro _h; first | contradiction | (try simp only [dd] at _h)) | (refine dt_go ?_) | exact rfl | exact True.intro | exact dkk | exact dks | ((first | refine .inl ⟨_, toStream_ok _ h1, ?_⟩ | refine ⟨_, toStream_ok _ h1, ?_⟩); (try rintro _ rfl)) | ((first | refine .inl ⟨_, toStream_ok _ h2, ?_⟩ | refine ⟨_, toStream_ok _ h2, ?_⟩); (try rintro _ rfl)) | ((first | refine .inl ⟨_, sameStream_spec _ _ h1, ?_⟩ | refine ⟨_, sameStream_spec _ _ h1, ?_⟩); (try rintro _ rfl)) | ((first | refine .inl ⟨_, sameStream_impl _ _ h1, ?_⟩ | refine ⟨_, sameStream_impl _ _ h1, ?_⟩); (try rintro _ rfl)) | ((first | refine .inl ⟨_, eqStream_ok _ _ h1, ?_⟩ | refine ⟨_, eqStream_ok _ _ h1, ?_⟩); (try rintro _ rfl)) | ((first | refine .inl ⟨_, eqStream_ok _ _ h2, ?_⟩ | refine ⟨_, eqStream_ok _ _ h2, ?_⟩); (try rintro _ rfl)) | (refine wrap_succ ?_; omega))))
  all_goals (refine leaf_b ?_; simp_all)

theorem rdF_Type : ∀ ds, HF (fun t cs => TyC Try.prog t cs ∧ (t = 23 → ∃ (l : List Typ) (N : Nat), (∀ x ∈ l, Typ.fN N x) ∧ WkL cs [slL 4 (Typ.pN N) l])) [2, 9, 22, 23] ds → ∃ a : Typ, WkL ds a.cs := fun ds h => by
  obtain ⟨a0, b0, rfl, ⟨h0, _⟩, h⟩ := h.cons_inv
  obtain ⟨a1, b1, rfl, ⟨h1, _⟩, h⟩ := h.cons_inv
  obtain ⟨a2, b2, rfl, ⟨h2, _⟩, h⟩ := h.cons_inv
  obtain ⟨ak, bk, rfl, ⟨_, hk⟩, h⟩ := h.cons_inv
  obtain rfl := h.nil_inv
  obtain ⟨l, N, hN, hl⟩ := hk rfl
  obtain ⟨x0, w0⟩ := (rd_int Try.underlying2) _ h0
  obtain ⟨x1, w1⟩ := (rd_str Try.underlying9) _ h1
  obtain ⟨x2, w2⟩ := (rd_sl Try.underlying22 (by kernel_rfl) (rd_str Try.underlying9)) _ h2
  exact ⟨⟨x0, x1, x2, l⟩, w0.append (w1.append (w2.append ((Typ.readK (a := ⟨x0, x1, x2, l⟩) hN hl).append .nil)))⟩
theorem rd_Type : Rd Try.prog 25 Typ Typ.cs := fun cs h =>
  (rd_rec (qs := 23) Try.underlying25 Try.underlying23 (by kernel_rfl) (by kernel_rfl) rfl (fun ds => ∃ a : Typ, WkL ds a.cs) _ (fun n g h => Typ.readS n g h) rdF_Type h).1 rfl
theorem rdF_Value : ∀ ds, HF (fun t cs => TyC Try.prog t cs ∧ (t = 26 → ∃ (l : List Value) (N : Nat), (∀ x ∈ l, Value.fN N x) ∧ WkL cs [slL 4 (Value.pN N) l])) [2, 2, 9, 26] ds → ∃ a : Value, WkL ds a.cs := fun ds h => by
  obtain ⟨a0, b0, rfl, ⟨h0, _⟩, h⟩ := h.cons_inv
  obtain ⟨a1, b1, rfl, ⟨h1, _⟩, h⟩ := h.cons_inv
  obtain ⟨a2, b2, rfl, ⟨h2, _⟩, h⟩ := h.cons_inv
  obtain ⟨ak, bk, rfl, ⟨_, hk⟩, h⟩ := h.cons_inv
  obtain rfl := h.nil_inv
  obtain ⟨l, N, hN, hl⟩ := hk rfl
  obtain ⟨x0, w0⟩ := (rd_int Try.underlying2) _ h0
  obtain ⟨x1, w1⟩ := (rd_int Try.underlying2) _ h1
  obtain ⟨x2, w2⟩ := (rd_str Try.underlying9) _ h2
  exact ⟨⟨x0, x1, x2, l⟩, w0.append (w1.append (w2.append ((Value.readK (a := ⟨x0, x1, x2, l⟩) hN hl).append .nil)))⟩
theorem rd_Value : Rd Try.prog 87 Value Value.cs := fun cs h =>
  (rd_rec (qs := 26) Try.underlying87 Try.underlying26 (by kernel_rfl) (by kernel_rfl) rfl (fun ds => ∃ a : Value, WkL ds a.cs) _ (fun n g h => Value.readS n g h) rdF_Value h).1 rfl
theorem rd_Stream : Rd Try.prog 28 Stream Stream.cs :=
  rd_st Try.underlying28 (by kernel_rfl) rfl (rdF_cons rd_Type (rdF_cons (rd_int Try.underlying2) (rdF_cons (rd_bool Try.underlying4) (rdF_cons (rd_sl Try.underlying26 (by kernel_rfl) rd_Value) (rdF_cons (rd_int Try.underlying2) (rdF_cons (rd_int Try.underlying2) (rdF_cons (rd_bool Try.underlying4) (rdF_cons (rd_bool Try.underlying4) rdF_nil)))))))) (fun p => ⟨p.1, p.2.1, p.2.2.1, p.2.2.2.1, p.2.2.2.2.1, p.2.2.2.2.2.1, p.2.2.2.2.2.2.1, p.2.2.2.2.2.2.2.1⟩) fun _ => rfl

namespace fnExactSameStream
theorem law_ret (dss : List (List AV)) (h : TyCs Try.prog Try.f3.params.toList dss) : Ret Try.prog 3 (mkArgs Try.prog Try.f3.params.toList dss) fun r => r = .b true := by
  obtain ⟨d0, r0, rfl, h0, h⟩ := h.cons_inv
  obtain ⟨d1, r1, rfl, h1, h⟩ := h.cons_inv
  obtain rfl := h.nil_inv
  obtain ⟨a, ha⟩ := arg_agg rd_Stream (by kernel_rfl) h0
  obtain ⟨b, hb⟩ := arg_agg rd_Stream (by kernel_rfl) h1
  exact Ret.wk (.cons ha (.cons hb .nil)) (sameStreamLaw a b)
end fnExactSameStream
end Go.Proofs.Ythpfjlejmkcfgaa
namespace Go.Proofs.Ythpfjlejmkcfgaa.fnExactSameStream
open Go.ChangeShapes Go.WideShapes Go.ChangeAt Go.RowKit
set_option linter.unusedVariables false

theorem own : ownKnob Try.prog.godebug = none := by kernel_rfl

set_option maxRecDepth 100000 in
theorem lifted (os : Os) (started : os.Started) (H : Type) (enc : TypeId × Go.Value → H) :
    ReturnsInHanded {} Try.checked os 3 .any (Rows.fnExactSameStreamSpec.pre6 enc Try.prog Try.f3 Rows.fnExactSameStreamRow.domain false) (Rows.fnExactSameStreamSpec.post enc Try.prog Try.f3 false true false false) := by
  refine returnsInHanded_of_change (C := Try.checked) own started (by kernel_rfl) Try.func3
    (ChangeSpec.witness6 (enc := enc) (C := Try.checked) false ⟨#[], #[.agg #[.int .i64 0, .string ByteArray.empty, .slice none 0 0, .slice none 0 0, .int .i64 0, .bool false, .slice none 0 0, .int .i64 0, .int .i64 0, .bool false, .bool false], .agg #[.int .i64 0, .string ByteArray.empty, .slice none 0 0, .slice none 0 0, .int .i64 0, .bool false, .slice none 0 0, .int .i64 0, .int .i64 0, .bool false, .bool false]], []⟩ 8 (by kernel_rfl) (by kernel_rfl) (by kernel_rfl) (by kernel_rfl)) ?_
  intro W base args ds gs before hval0 hW hcnd _
  refine law_end (k := closeT Try.prog 9 Try.f3.params.toList) rfl (by kernel_rfl) (by kernel_rfl) rfl Try.underlying4 ?_ (fun dss h => law_ret dss h) hval0 hW
  · rintro ds hl
    match ds, hl with
    | [_, _], _ => rfl

theorem over : Rows.fnExactSameStreamRow.holds Try.pinned (OpenSpec.ofChange Rows.fnExactSameStreamSpec) :=
  OpenClaim.holds_of_wide 3 Try.f3 rfl rfl rfl rfl rfl rfl rfl ⟨rfl, rfl, rfl, rfl, rfl⟩ rfl rfl rfl rfl rfl fact_named Try.func3 fact_joined fact_inst fact_wrap
    (fun os started H enc _ => lifted os started H enc)

theorem proved : Rows.FnExactSameStreamSaid :=
  over
end Go.Proofs.Ythpfjlejmkcfgaa.fnExactSameStream
