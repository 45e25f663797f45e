/-
  The law FnExactSameTerm returns true at every argument.
-/
import Derived.Test.YtllcemegnggpfaaVs45
import Derived.Test.YtllcemegnggpfaaVSameTermF
import Derived.Test.YtllcemegnggpfaaVSameTermG
namespace Go.Proofs.Ytllcemegnggpfaa
open Go Go.RowKit
set_option linter.unusedVariables false
set_option linter.unusedSimpArgs false
theorem Term.tw_ok {a : Term} {v : Int} (h0 : v ≤ 1048576) (hn : ¬ Term.sz a v < 0) : Term.tw 5 a ≤ 100000000 := by
  have h := Term.tw_sz (a.kd + 1) a v hn 5
  have : ¬ Term.zN (a.kd + 1) a v < 0 := hn
  omega
set_option maxRecDepth 8000 in
set_option maxHeartbeats 2000000 in
theorem sameTermLaw (a b : Term) : Ret env.P 5 [.agg a.cs, .agg b.cs] (fun r => r = .b true) := by
  have b1 : Term.sz a 1048576 ≤ 1048576 := Term.zN_le _ _ _ (by omega)
  refine ret_of (nt := 45) (rvs := [.tmp 4]) Try.func5 rfl rfl rfl rfl (fun X => ?_)
  repeat' (first | omega | (with_reducible show (_ : Int) < _; dsimp only; omega) | (with_reducible show (_ : Nat) ≤ _; dsimp only; omega) | ((with_reducible show SrcOk _ _ _) <;> (first | exact srcOk_1 rfl | exact srcOk_L (fun _ => ⟨rfl, rfl⟩) | exact srcOk_E (fun _ => ⟨rfl, rfl⟩))) | ((conv => whnf) <;> (first | refine And.intro ?_ ?_ | (intro _h; first | contradiction | (try simp only [dd] at _h)) | (refine dt_go ?_) | exact rfl | exact True.intro | exact dkk | exact dks | ((first | refine .inl ⟨_, szTerm_ok _ _ (by omega) (by omega), ?_⟩ | refine ⟨_, szTerm_ok _ _ (by omega) (by omega), ?_⟩); (try rintro _ rfl)) | (refine wrap_succ ?_; omega))))
  all_goals first
    | exact rfl
    | (rename_i ha
       have h1 := Term.sz_ok _ _ (by omega) (by omega) ha
       have h2 := Term.sz_ok _ _ (by omega) b1 _h
       have ht1 := Term.tw_ok (by omega) ha
       have ht2 := Term.tw_ok b1 _h
       repeat' (first | omega | (with_reducible show (_ : Int) < _; dsimp only; omega) | (with_reducible show (_ : Nat) ≤ _; dsimp only; omega) | ((with_reducible show SrcOk _ _ _) <;> (first | exact srcOk_1 rfl | exact srcOk_L (fun _ => ⟨rfl, rfl⟩) | exact srcOk_E (fun _ => ⟨rfl, rfl⟩))) | ((conv => whnf) <;> (first | refine And.intro ?_ ?_ | (intro _h; first | contradiction | (try simp only [dd] at _h)) | (refine dt_go ?_) | exact rfl | exact True.intro | exact dkk | exact dks | ((first | refine .inl ⟨_, toTerm_ok _ h1, ?_⟩ | refine ⟨_, toTerm_ok _ h1, ?_⟩); (try rintro _ rfl)) | ((first | refine .inl ⟨_, toTerm_ok _ h2, ?_⟩ | refine ⟨_, toTerm_ok _ h2, ?_⟩); (try rintro _ rfl)) | ((first | refine .inl ⟨_, SameTermS_ok a.kd a h1 ht1 b.kd b h2 ht2, ?_⟩ | refine ⟨_, SameTermS_ok a.kd a h1 ht1 b.kd b h2 ht2, ?_⟩); (try rintro _ rfl)) | ((first | refine .inl ⟨_, SameTermI_ok a.kd a h1 ht1 b.kd b h2 ht2, ?_⟩ | refine ⟨_, SameTermI_ok a.kd a h1 ht1 b.kd b h2 ht2, ?_⟩); (try rintro _ rfl)) | ((first | refine .inl ⟨_, eqTerm_ok _ _ h1, ?_⟩ | refine ⟨_, eqTerm_ok _ _ h1, ?_⟩); (try rintro _ rfl)) | ((first | refine .inl ⟨_, eqTerm_ok _ _ h2, ?_⟩ | refine ⟨_, eqTerm_ok _ _ h2, ?_⟩); (try rintro _ rfl)) | (refine wrap_succ ?_; omega))))
       all_goals first | exact rfl | (refine leaf_b ?_; simp_all) | trace_state)
theorem rdF_Term : ∀ ds, HF (fun t cs => TyC Try.prog t cs ∧ (t = 31 → ∃ (l : List Term) (N : Nat), (∀ x ∈ l, Term.fN N x) ∧ WkL cs [slL 4 (Term.pN N) l])) [2, 9, 22, 31] ds → ∃ a : Term, WkL ds a.cs := fun ds h => by
  obtain ⟨a0, b0, rfl, ⟨h0, _⟩, h⟩ := h.cons_inv
  obtain ⟨a1, b1, rfl, ⟨h1, _⟩, h⟩ := h.cons_inv
  obtain ⟨a2, b2, rfl, ⟨h2, _⟩, h⟩ := h.cons_inv
  obtain ⟨ak, bk, rfl, ⟨_, hk⟩, h⟩ := h.cons_inv
  obtain rfl := h.nil_inv
  obtain ⟨l, N, hN, hl⟩ := hk rfl
  obtain ⟨x0, w0⟩ := (rd_int Try.underlying2) _ h0
  obtain ⟨x1, w1⟩ := (rd_str Try.underlying9) _ h1
  obtain ⟨x2, w2⟩ := (rd_sl Try.underlying22 (by kernel_rfl) (rd_str Try.underlying9)) _ h2
  exact ⟨⟨x0, x1, x2, l⟩, w0.append (w1.append (w2.append ((Term.readK (a := ⟨x0, x1, x2, l⟩) hN hl).append .nil)))⟩
theorem rd_Term : Rd Try.prog 33 Term Term.cs := fun cs h =>
  (rd_rec (qs := 31) Try.underlying33 Try.underlying31 (by kernel_rfl) (by kernel_rfl) rfl (fun ds => ∃ a : Term, WkL ds a.cs) _ (fun n g h => Term.readS n g h) rdF_Term h).1 rfl
namespace fnExactSameTerm
theorem law_ret (dss : List (List AV)) (h : TyCs Try.prog Try.f5.params.toList dss) : Ret Try.prog 5 (mkArgs Try.prog Try.f5.params.toList dss) fun r => r = .b true := by
  obtain ⟨d0, r0, rfl, h0, h⟩ := h.cons_inv
  obtain ⟨d1, r1, rfl, h1, h⟩ := h.cons_inv
  obtain rfl := h.nil_inv
  obtain ⟨a, ha⟩ := arg_agg rd_Term (by kernel_rfl) h0
  obtain ⟨b, hb⟩ := arg_agg rd_Term (by kernel_rfl) h1
  exact Ret.wk (.cons ha (.cons hb .nil)) (sameTermLaw a b)
end fnExactSameTerm
end Go.Proofs.Ytllcemegnggpfaa
namespace Go.Proofs.Ytllcemegnggpfaa.fnExactSameTerm
open Go.ChangeShapes Go.WideShapes Go.ChangeAt Go.RowKit
set_option linter.unusedVariables false
theorem own : ownKnob Try.prog.godebug = none := by kernel_rfl
set_option maxRecDepth 100000 in
theorem lifted (os : Os) (started : os.Started) (H : Type) (enc : TypeId × Go.Value → H) :
    ReturnsInHanded {} Try.checked os 5 .any (Rows.fnExactSameTermSpec.pre6 enc Try.prog Try.f5 Rows.fnExactSameTermRow.domain false) (Rows.fnExactSameTermSpec.post enc Try.prog Try.f5 false true false false) := by
  refine returnsInHanded_of_change (C := Try.checked) own started (by kernel_rfl) Try.func5
    (ChangeSpec.witness6 (enc := enc) (C := Try.checked) false ⟨#[], #[.agg #[.int .i64 0, .string ByteArray.empty, .slice none 0 0, .slice none 0 0], .agg #[.int .i64 0, .string ByteArray.empty, .slice none 0 0, .slice none 0 0]], []⟩ 8 (by kernel_rfl) (by kernel_rfl) (by kernel_rfl) (by kernel_rfl)) ?_
  intro W base args ds gs before hval0 hW hcnd _
  refine law_end (k := closeT Try.prog 9 Try.f5.params.toList) rfl (by kernel_rfl) (by kernel_rfl) rfl Try.underlying4 ?_ (fun dss h => law_ret dss h) hval0 hW ⟨fun _ _ => trivial⟩
  · rintro ds hl
    match ds, hl with
    | [_, _], _ => rfl
theorem over : Rows.fnExactSameTermRow.holds Try.pinned (OpenSpec.ofChange Rows.fnExactSameTermSpec) :=
  OpenClaim.holds_of_wide 5 Try.f5 rfl rfl rfl rfl rfl rfl rfl ⟨rfl, rfl, rfl, rfl, rfl⟩ rfl rfl rfl rfl rfl fact_named Try.func5 fact_joined fact_inst fact_wrap
    (fun os started H enc _ => lifted os started H enc)
theorem proved : Rows.FnExactSameTermSaid :=
  over
end Go.Proofs.Ytllcemegnggpfaa.fnExactSameTerm
