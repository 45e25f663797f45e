/-
  The law FnExactTrapWord returns true at every argument, and its argument reads as it did. No condition.
-/
import Derived.Test.YtbphkpojhinbiaaTrapW
import Derived.Test.YtbphkpojhinbiaaPtsR
import Derived.Test.YtbphkpojhinbiaaRows
import Derived.WalkKit
import Derived.ProofKit
import Derived.OpenShut
namespace Go.Proofs.Ytbphkpojhinbiaa
open Go Go.RowKit
set_option linter.unusedVariables false
set_option linter.unusedSimpArgs false

section
attribute [local irreducible] PL PW PC Fin thn inBlk Out Rv Kt RD YS Shr ToD Sfree
set_option maxRecDepth 8000 in
theorem trapLaw_pc (n : Int) : PC Try.prog 3 [.d (.v (.int .i64 n))] fun r _ _ => r = .d (.v (.bool true)) := by
  refine pc_enter Try.func3 rfl rfl rfl rfl ?_
  intro X hX
  repeat' (first | (refine pl_id ?_; first | refine pl_nil ?_ | (refine pl_call rfl rfl rfl (trapWord_spec _) rfl ?_; rintro _ _ rfl _) | (refine pl_call rfl rfl rfl (trapWord_impl _) rfl ?_; rintro _ _ rfl _) | refine pl_rd (rd_move rfl) rfl ?_ | refine pl_rd (rd_assign rfl) rfl ?_ | refine pl_rd (rd_neq rfl rfl) rfl ?_ | refine pl_rd (rd_neqB rfl rfl) rfl ?_ | refine pl_rd (rd_neqS rfl rfl) rfl ?_) | (refine pw_id ?_; first | refine pw_seq_t ?_ | refine pw_region ?_ | refine pw_condT rfl (by first | assumption | rfl) ?_ | refine pw_condF rfl (by first | assumption | rfl) ?_ | refine pw_cond rfl (fun _ => ?_) (fun _ => ?_) | refine pw_ret ?_ | refine pw_skip ?_) | refine thn_t ?_ | refine thn_r ?_ | refine thn_e ?_ | refine blk_n ?_ | refine blk_r ?_ | refine blk_e ?_ | refine blk_ne rfl ?_)
  all_goals
    first
      | exact fin1 (r := .d (.v (.bool _))) (.inl rfl) (rv_tmp rfl) (out_clo rfl) rfl
      | (exfalso; simp_all)
end

end Go.Proofs.Ytbphkpojhinbiaa

namespace Go.Proofs.Ytbphkpojhinbiaa.fnExactTrapWord
open Go.ChangeShapes Go.WideShapes Go.ChangeAt Go.RowKit
set_option linter.unusedVariables false

theorem own : ownKnob Try.prog.godebug = none := by kernel_rfl

set_option maxRecDepth 100000 in
theorem lifted (os : Os) (started : os.Started) (H : Type) (enc : TypeId × Value → H) :
    ReturnsInHanded {} Try.checked os 3 .any (Rows.fnExactTrapWordSpec.pre6 enc Try.prog Try.f3 Rows.fnExactTrapWordRow.domain false) (Rows.fnExactTrapWordSpec.post enc Try.prog Try.f3 false true false false) := by
  refine returnsInHanded_of_change (C := Try.checked) own started (by kernel_rfl) Try.func3
    (ChangeSpec.witness6 (enc := enc) (C := Try.checked) false ⟨#[], #[.int .i64 0], []⟩ 8 (by kernel_rfl) (by kernel_rfl) (by kernel_rfl) (by kernel_rfl)) ?_
  intro W base args ds gs before hval0 hW hcnd _
  refine law_end (k := 4) rfl (by kernel_rfl) (by kernel_rfl) rfl Try.underlying4 ?_ ?_ hval0 hW
  · rintro ds hl
    match ds, hl with
    | [_], _ => rfl
  · intro dss h
    obtain ⟨d0, r0, rfl, h0, h⟩ := h.cons_inv
    obtain rfl := h.nil_inv
    obtain ⟨n, rfl, hn⟩ := h0.int_inv Try.underlying2
    exact trapLaw_pc n

theorem over : Rows.fnExactTrapWordRow.holds Try.pinned (OpenSpec.ofChange Rows.fnExactTrapWordSpec) :=
  OpenClaim.holds_of_wide 3 Try.f3 rfl rfl rfl rfl rfl rfl rfl ⟨rfl, rfl, rfl, rfl, rfl⟩ rfl rfl rfl rfl rfl (by kernel_rfl) Try.func3 (by kernel_rfl)
    (of_decide_eq_true (by kernel_rfl)) (by unfold Func.isWrapper; first | (rw [if_pos (by decide +kernel)]; kernel_rfl) | (rw [if_neg (by decide +kernel)]; exact ⟨rfl, rfl⟩))
    (fun os started H enc _ => lifted os started H enc)

theorem proved : Rows.FnExactTrapWordSaid :=
  over
end Go.Proofs.Ytbphkpojhinbiaa.fnExactTrapWord
