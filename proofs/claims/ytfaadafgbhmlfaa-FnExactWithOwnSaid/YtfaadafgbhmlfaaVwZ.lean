/-
  The law FnExactWithOwn returns true at every argument.
-/
import Derived.Test.YtfaadafgbhmlfaaVw43
import Derived.Test.YtfaadafgbhmlfaaVWithOwnF
import Derived.Test.YtfaadafgbhmlfaaVWithOwnG
namespace Go.Proofs.Ytfaadafgbhmlfaa
open Go Go.RowKit
set_option linter.unusedVariables false
set_option linter.unusedSimpArgs false
set_option maxRecDepth 8000 in
theorem withOwnLaw (s : ByteArray) (at' : Int) (nm bs : ByteArray) : Ret env.P 3 [.s s, .i .i64 at', .s nm, .s bs] (fun r => r = .b true) := by
  by_cases hn : s.size ≤ 1048576 ∧ bs.size ≤ 1048576
  · have hS := (withOwn_spec s at' nm bs hn.1 hn.2).toRetG
    have hI := withOwn_impl s at' nm bs hn.1 hn.2
    generalize woR s at' nm bs = v at *
    refine ret_of (nt := 46) (rvs := [.tmp 8]) Try.func3 rfl rfl rfl rfl (fun X => ?_)
    repeat' (first | omega | (with_reducible show (_ : Int) < _; dsimp only; omega) | (with_reducible show (_ : Nat) ≤ _; dsimp only; omega) | ((with_reducible show SrcOk _ _ _) <;> (first | exact srcOk_1 rfl | exact srcOk_L (fun _ => ⟨rfl, rfl⟩) | exact srcOk_E (fun _ => ⟨rfl, rfl⟩))) | ((conv => whnf) <;> (first | refine And.intro ?_ ?_ | (intro _h; first | contradiction | (try simp only [dd] at _h)) | (refine dt_go ?_) | exact rfl | exact True.intro | exact dkk | exact dks | ((first | refine .inl ⟨_, hS, ?_⟩ | refine ⟨_, hS, ?_⟩); (try rintro _ rfl)) | ((first | refine .inl ⟨_, hI, ?_⟩ | refine ⟨_, hI, ?_⟩); (try rintro _ rfl)) | (refine wrap_succ ?_; omega))))
    all_goals first | exact rfl | (conv => whnf) | skip
    all_goals first | exact rfl | (exfalso; simp_all) | trace_state
  · refine ret_of (nt := 46) (rvs := [.tmp 8]) Try.func3 rfl rfl rfl rfl (fun X => ?_)
    repeat' (first | omega | (with_reducible show (_ : Int) < _; dsimp only; omega) | (with_reducible show (_ : Nat) ≤ _; dsimp only; omega) | ((with_reducible show SrcOk _ _ _) <;> (first | exact srcOk_1 rfl | exact srcOk_L (fun _ => ⟨rfl, rfl⟩) | exact srcOk_E (fun _ => ⟨rfl, rfl⟩))) | ((conv => whnf) <;> (first | refine And.intro ?_ ?_ | (intro _h; first | contradiction | (try simp only [dd] at _h)) | (refine dt_go ?_) | exact rfl | exact True.intro | exact dkk | exact dks | (refine wrap_succ ?_; omega))))
    all_goals first | exact rfl | (exfalso; omega)
namespace fnExactWithOwn
theorem law_ret (dss : List (List AV)) (h : TyCs Try.prog Try.f3.params.toList dss) : Ret Try.prog 3 (mkArgs Try.prog Try.f3.params.toList dss) fun r => r = .b true := by
  obtain ⟨d0, r0, rfl, h0, h⟩ := h.cons_inv
  obtain ⟨d1, r1, rfl, h1, h⟩ := h.cons_inv
  obtain ⟨d2, r2, rfl, h2, h⟩ := h.cons_inv
  obtain ⟨d3, r3, rfl, h3, h⟩ := h.cons_inv
  obtain rfl := h.nil_inv
  obtain ⟨x, hx⟩ := arg_one (c := fun n => .s n) (rd_str Try.underlying9) (by kernel_rfl) h0
  obtain ⟨y, hy⟩ := arg_one (c := fun n => .i .i64 n) (rd_int Try.underlying2) (by kernel_rfl) h1
  obtain ⟨z, hz⟩ := arg_one (c := fun n => .s n) (rd_str Try.underlying9) (by kernel_rfl) h2
  obtain ⟨u, hu⟩ := arg_one (c := fun n => .s n) (rd_str Try.underlying9) (by kernel_rfl) h3
  exact Ret.wk (.cons hx (.cons hy (.cons hz (.cons hu .nil)))) (withOwnLaw x y z u)
end fnExactWithOwn
end Go.Proofs.Ytfaadafgbhmlfaa
namespace Go.Proofs.Ytfaadafgbhmlfaa.fnExactWithOwn
open Go.ChangeShapes Go.WideShapes Go.ChangeAt Go.RowKit
set_option linter.unusedVariables false
theorem own : ownKnob Try.prog.godebug = none := by kernel_rfl
set_option maxRecDepth 100000 in
theorem lifted (os : Os) (started : os.Started) (H : Type) (enc : TypeId × Go.Value → H) :
    ReturnsInHanded {} Try.checked os 3 .any (Rows.fnExactWithOwnSpec.pre6 enc Try.prog Try.f3 Rows.fnExactWithOwnRow.domain false) (Rows.fnExactWithOwnSpec.post enc Try.prog Try.f3 false true false false) := by
  refine returnsInHanded_of_change (C := Try.checked) own started (by kernel_rfl) Try.func3
    (ChangeSpec.witness6 (enc := enc) (C := Try.checked) false ⟨#[], #[.string ByteArray.empty, .int .i64 0, .string ByteArray.empty, .string ByteArray.empty], []⟩ 8 (by kernel_rfl) (by kernel_rfl) (by kernel_rfl) (by kernel_rfl)) ?_
  intro W base args ds gs before hval0 hW hcnd _
  refine law_end (k := closeT Try.prog 9 Try.f3.params.toList) rfl (by kernel_rfl) (by kernel_rfl) rfl Try.underlying4 ?_ (fun dss h => law_ret dss h) hval0 hW ⟨fun _ _ => trivial⟩
  · rintro ds hl
    match ds, hl with
    | [_, _, _, _], _ => rfl
theorem over : Rows.fnExactWithOwnRow.holds Try.pinned (OpenSpec.ofChange Rows.fnExactWithOwnSpec) :=
  OpenClaim.holds_of_wide 3 Try.f3 rfl rfl rfl rfl rfl rfl rfl ⟨rfl, rfl, rfl, rfl, rfl⟩ rfl rfl rfl rfl rfl fact_named Try.func3 fact_joined fact_inst fact_wrap
    (fun os started H enc _ => lifted os started H enc)
theorem proved : Rows.FnExactWithOwnSaid :=
  over
end Go.Proofs.Ytfaadafgbhmlfaa.fnExactWithOwn
