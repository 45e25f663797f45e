/-
  The law FnExactReadMem returns true at every argument.
-/
import Derived.Test.YtkajnhnmlgogeaaVMeB
import Derived.Test.YtkajnhnmlgogeaaVReadMemF
import Derived.Test.YtkajnhnmlgogeaaVReadMemG
namespace Go.Proofs.Ytkajnhnmlgogeaa
open Go Go.RowKit
set_option linter.unusedVariables false
set_option linter.unusedSimpArgs false

set_option maxRecDepth 8000 in
theorem readMemLaw (a : Memory) (x y : Int) : Ret env.P 3 [.agg a.cs, .i .i64 x, .i .i64 y] (fun r => r = .b true) := by
  have b1 : Memory.sz a 1048576 ≤ 1048576 := Memory.sz_le _ _ (by omega)
  refine ret_of (nt := 48) (rvs := [.tmp 6]) Try.func3 rfl rfl rfl rfl (fun X => ?_)
  repeat' (first | exact aa | ((conv => whnf) <;> (first | refine And.intro ?_ ?_ | (intro _h; first | contradiction | (try simp only [dd] at _h)) | (refine dt_go ?_) | exact rfl | exact True.intro | exact dkk | exact dks | ((first | refine .inl ⟨_, szMemory_ok _ _ (by omega) (by omega), ?_⟩ | refine ⟨_, szMemory_ok _ _ (by omega) (by omega), ?_⟩); (try rintro _ rfl)) | (refine wrap_succ ?_; omega))))
  have h1 := Memory.sz_ok _ _ (by omega) (by omega) _h
  repeat' (first | exact aa | ((conv => whnf) <;> (first | refine And.intro ?_ ?_ | (intro _h; first | contradiction | (try simp only [dd] at _h)) | (refine dt_go ?_) | exact rfl | exact True.intro | exact dkk | exact dks | ((first | refine .inl ⟨_, toMemory_ok _ h1, ?_⟩ | refine ⟨_, toMemory_ok _ h1, ?_⟩); (try rintro _ rfl)) | ((first | refine .inl ⟨_, readMem_spec _ _ _ h1, ?_⟩ | refine ⟨_, readMem_spec _ _ _ h1, ?_⟩); (try rintro _ rfl)) | ((first | refine .inl ⟨_, readMem_impl _ _ _ h1, ?_⟩ | refine ⟨_, readMem_impl _ _ _ h1, ?_⟩); (try rintro _ rfl)) | ((first | refine .inl ⟨_, eqMemory_ok _ _ h1, ?_⟩ | refine ⟨_, eqMemory_ok _ _ h1, ?_⟩); (try rintro _ rfl)) | (refine wrap_succ ?_; omega))))
  all_goals (refine leaf_b ?_; simp_all)

theorem rd_Block : Rd Try.prog 53 Block Block.cs :=
  rd_st Try.underlying53 (by kernel_rfl) rfl (rdF_cons (rd_int Try.underlying2) (rdF_cons (rd_int Try.underlying2) rdF_nil)) (fun p => ⟨p.1, p.2.1⟩) fun _ => rfl
theorem rd_Memory : Rd Try.prog 24 Memory Memory.cs :=
  rd_st Try.underlying24 (by kernel_rfl) rfl (rdF_cons (rd_str Try.underlying9) (rdF_cons (rd_sl Try.underlying22 (by kernel_rfl) rd_Block) rdF_nil)) (fun p => ⟨p.1, p.2.1⟩) fun _ => rfl

namespace fnExactReadMem
theorem law_ret (dss : List (List AV)) (h : TyCs Try.prog Try.f3.params.toList dss) : Ret Try.prog 3 (mkArgs Try.prog Try.f3.params.toList dss) fun r => r = .b true := by
  obtain ⟨d0, r0, rfl, h0, h⟩ := h.cons_inv
  obtain ⟨d1, r1, rfl, h1, h⟩ := h.cons_inv
  obtain ⟨d2, r2, rfl, h2, h⟩ := h.cons_inv
  obtain rfl := h.nil_inv
  obtain ⟨a, ha⟩ := arg_agg rd_Memory (by kernel_rfl) h0
  obtain ⟨x, hx⟩ := arg_one (c := fun n => .i .i64 n) (rd_int Try.underlying2) (by kernel_rfl) h1
  obtain ⟨y, hy⟩ := arg_one (c := fun n => .i .i64 n) (rd_int Try.underlying2) (by kernel_rfl) h2
  exact Ret.wk (.cons ha (.cons hx (.cons hy .nil))) (readMemLaw a x y)
end fnExactReadMem
end Go.Proofs.Ytkajnhnmlgogeaa
namespace Go.Proofs.Ytkajnhnmlgogeaa.fnExactReadMem
open Go.ChangeShapes Go.WideShapes Go.ChangeAt Go.RowKit
set_option linter.unusedVariables false

theorem own : ownKnob Try.prog.godebug = none := by kernel_rfl

set_option maxRecDepth 100000 in
theorem lifted (os : Os) (started : os.Started) (H : Type) (enc : TypeId × Value → H) :
    ReturnsInHanded {} Try.checked os 3 .any (Rows.fnExactReadMemSpec.pre6 enc Try.prog Try.f3 Rows.fnExactReadMemRow.domain false) (Rows.fnExactReadMemSpec.post enc Try.prog Try.f3 false true false false) := by
  refine returnsInHanded_of_change (C := Try.checked) own started (by kernel_rfl) Try.func3
    (ChangeSpec.witness6 (enc := enc) (C := Try.checked) false ⟨#[], #[.agg #[.string ByteArray.empty, .slice none 0 0], .int .i64 0, .int .i64 0], []⟩ 8 (by kernel_rfl) (by kernel_rfl) (by kernel_rfl) (by kernel_rfl)) ?_
  intro W base args ds gs before hval0 hW hcnd _
  refine law_end (k := 9) rfl (by kernel_rfl) (by kernel_rfl) rfl Try.underlying4 ?_ (fun dss h => law_ret dss h) hval0 hW
  · rintro ds hl
    match ds, hl with
    | [_, _, _], _ => rfl

theorem over : Rows.fnExactReadMemRow.holds Try.pinned (OpenSpec.ofChange Rows.fnExactReadMemSpec) :=
  OpenClaim.holds_of_wide 3 Try.f3 rfl rfl rfl rfl rfl rfl rfl ⟨rfl, rfl, rfl, rfl, rfl⟩ rfl rfl rfl rfl rfl fact_named Try.func3 fact_joined fact_inst fact_wrap
    (fun os started H enc _ => lifted os started H enc)

theorem proved : Rows.FnExactReadMemSaid :=
  over
end Go.Proofs.Ytkajnhnmlgogeaa.fnExactReadMem
