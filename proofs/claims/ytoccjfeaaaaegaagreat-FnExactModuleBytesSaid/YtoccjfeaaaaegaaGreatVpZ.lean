/-
  The law FnExactModuleBytes returns true at every argument.
-/
import Derived.Test.YtoccjfeaaaaegaaGreatVp28
import Derived.Test.YtoccjfeaaaaegaaGreatVModuleBytesF
import Derived.Test.YtoccjfeaaaaegaaGreatVModuleBytesG
namespace Go.Proofs.YtoccjfeaaaaegaaGreat
open Go Go.RowKit
set_option linter.unusedVariables false
set_option linter.unusedSimpArgs false
set_option maxRecDepth 8000 in
theorem modLaw (a : Module) : Ret env.P 3 [.agg a.cs] (fun r => r = .b true) := by
  have b1 : Module.sz a 1048576 ≤ 1048576 := Module.sz_le _ _ (by omega)
  refine ret_of (nt := 27) (rvs := [.tmp 2]) Tryz.func3 rfl rfl rfl rfl (fun X => ?_)
  repeat' (first | exact aa | ((conv => whnf) <;> (first | refine And.intro ?_ ?_ | (intro _h; first | contradiction | (try simp only [dd] at _h)) | (refine dt_go ?_) | exact rfl | exact True.intro | exact dkk | exact dks | ((first | refine .inl ⟨_, szModule_ok _ _ (by omega) (by omega), ?_⟩ | refine ⟨_, szModule_ok _ _ (by omega) (by omega), ?_⟩); (try rintro _ rfl)) | (refine wrap_succ ?_; omega))))
  have h1 := Module.sz_ok _ _ (by omega) (by omega) _h
  have hs := modBytes_spec a h1
  have hi := modBytes_impl a h1
  repeat' (first | exact aa | ((conv => whnf) <;> (first | refine And.intro ?_ ?_ | (intro _h; first | contradiction | (try simp only [dd] at _h)) | (refine dt_go ?_) | exact rfl | exact True.intro | exact dkk | exact dks | ((first | refine .inl ⟨_, toModule_ok _ h1, ?_⟩ | refine ⟨_, toModule_ok _ h1, ?_⟩); (try rintro _ rfl)) | ((first | refine .inl ⟨_, hs, ?_⟩ | refine ⟨_, hs, ?_⟩); (try rintro _ rfl)) | ((first | refine .inl ⟨_, hi, ?_⟩ | refine ⟨_, hi, ?_⟩); (try rintro _ rfl)) | ((first | refine .inl ⟨_, eqModule_ok _ _ h1, ?_⟩ | refine ⟨_, eqModule_ok _ _ h1, ?_⟩); (try rintro _ rfl)) | (refine wrap_succ ?_; omega))))
  all_goals (refine leaf_b ?_; simp_all)
theorem rd_Import : Rd Tryz.prog 47 Import Import.cs :=
  rd_st Tryz.underlying47 (by kernel_rfl) rfl (rdF_cons (rd_str Tryz.underlying9) (rdF_cons (rd_int Tryz.underlying2) (rdF_cons (rd_bool Tryz.underlying4) rdF_nil))) (fun p => ⟨p.1, p.2.1, p.2.2.1⟩) fun _ => rfl
theorem rd_Ins : Rd Tryz.prog 105 Ins Ins.cs :=
  rd_st Tryz.underlying105 (by kernel_rfl) rfl (rdF_cons (rd_int Tryz.underlying2) (rdF_cons (rd_int Tryz.underlying2) rdF_nil)) (fun p => ⟨p.1, p.2.1⟩) fun _ => rfl
theorem rd_Core : Rd Tryz.prog 51 Core Core.cs :=
  rd_st Tryz.underlying51 (by kernel_rfl) rfl (rdF_cons (rd_str Tryz.underlying9) (rdF_cons (rd_int Tryz.underlying2) (rdF_cons (rd_int Tryz.underlying2) (rdF_cons (rd_bool Tryz.underlying4) (rdF_cons (rd_sl Tryz.underlying49 (by kernel_rfl) rd_Ins) rdF_nil))))) (fun p => ⟨p.1, p.2.1, p.2.2.1, p.2.2.2.1, p.2.2.2.2.1⟩) fun _ => rfl
theorem rd_Module : Rd Tryz.prog 25 Module Module.cs :=
  rd_st Tryz.underlying25 (by kernel_rfl) rfl (rdF_cons (rd_int Tryz.underlying2) (rdF_cons (rd_sl Tryz.underlying22 (by kernel_rfl) rd_Import) (rdF_cons (rd_sl Tryz.underlying23 (by kernel_rfl) rd_Core) rdF_nil))) (fun p => ⟨p.1, p.2.1, p.2.2.1⟩) fun _ => rfl
namespace fnExactModuleBytes
theorem law_ret (dss : List (List AV)) (h : TyCs Tryz.prog Tryz.f3.params.toList dss) : Ret Tryz.prog 3 (mkArgs Tryz.prog Tryz.f3.params.toList dss) fun r => r = .b true := by
  obtain ⟨d0, r0, rfl, h0, h⟩ := h.cons_inv
  obtain rfl := h.nil_inv
  obtain ⟨a, ha⟩ := arg_agg rd_Module (by kernel_rfl) h0
  exact Ret.wk (.cons ha .nil) (modLaw a)
end fnExactModuleBytes
end Go.Proofs.YtoccjfeaaaaegaaGreat
namespace Go.Proofs.YtoccjfeaaaaegaaGreat.fnExactModuleBytes
open Go.ChangeShapes Go.WideShapes Go.ChangeAt Go.RowKit
set_option linter.unusedVariables false
theorem own : ownKnob Tryz.prog.godebug = none := by kernel_rfl
set_option maxRecDepth 100000 in
theorem lifted (os : Os) (started : os.Started) (H : Type) (enc : TypeId × Go.Value → H) :
    ReturnsInHanded {} Tryz.checked os 3 .any (Rows.fnExactModuleBytesSpec.pre6 enc Tryz.prog Tryz.f3 Rows.fnExactModuleBytesRow.domain false) (Rows.fnExactModuleBytesSpec.post enc Tryz.prog Tryz.f3 false true false false) := by
  refine returnsInHanded_of_change (C := Tryz.checked) own started (by kernel_rfl) Tryz.func3
    (ChangeSpec.witness6 (enc := enc) (C := Tryz.checked) false ⟨#[], #[.agg #[.int .i64 0, .slice none 0 0, .slice none 0 0]], []⟩ 8 (by kernel_rfl) (by kernel_rfl) (by kernel_rfl) (by kernel_rfl)) ?_
  intro W base args ds gs before hval0 hW hcnd _
  refine law_end (k := closeT Tryz.prog 9 Tryz.f3.params.toList) rfl (by kernel_rfl) (by kernel_rfl) rfl Tryz.underlying4 ?_ (fun dss h => law_ret dss h) hval0 hW
  · rintro ds hl
    match ds, hl with
    | [_], _ => rfl
theorem over : Rows.fnExactModuleBytesRow.holds Tryz.pinned (OpenSpec.ofChange Rows.fnExactModuleBytesSpec) :=
  OpenClaim.holds_of_wide 3 Tryz.f3 rfl rfl rfl rfl rfl rfl rfl ⟨rfl, rfl, rfl, rfl, rfl⟩ rfl rfl rfl rfl rfl fact_named Tryz.func3 fact_joined fact_inst fact_wrap
    (fun os started H enc _ => lifted os started H enc)
theorem proved : Rows.FnExactModuleBytesSaid :=
  over
end Go.Proofs.YtoccjfeaaaaegaaGreat.fnExactModuleBytes
