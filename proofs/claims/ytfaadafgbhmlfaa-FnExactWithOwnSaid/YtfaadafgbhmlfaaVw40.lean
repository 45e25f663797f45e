/- Texts for VWithOwnP. -/
import Derived.Test.YtfaadafgbhmlfaaVw35
import Derived.Test.YtfaadafgbhmlfaaVw37
namespace Go.Proofs.Ytfaadafgbhmlfaa
open Go Go.RowKit
set_option linter.unusedVariables false
set_option linter.unusedSimpArgs false
set_option maxRecDepth 8000
section
attribute [local irreducible] gbB secG okSec
theorem withOwn_no1 (s : ByteArray) (at' : Int) (nm bs : ByteArray) (hs : s.size ≤ 1048576) (h : ¬ soC s = 0) : Ret env.P 5 [.s s, .i .i64 at', .s nm, .s bs] (fun r => r = woV (woR s at' nm bs)) := by
  rw [wo_1 h]
  have hS := sectionsOf_impl_no s hs h
  refine ret_of (nt := 44) (rvs := [.tmp 8, .tmp 9]) Try.func5 rfl rfl rfl rfl (fun X => ?_)
  repeat' (first | omega | (with_reducible show (_ : Int) < _; dsimp only; omega) | (with_reducible show (_ : Nat) ≤ _; dsimp only; omega) | ((with_reducible show SrcOk _ _ _) <;> (first | exact srcOk_1 rfl | exact srcOk_L (fun _ => ⟨rfl, rfl⟩) | exact srcOk_E (fun _ => ⟨rfl, rfl⟩))) | ((conv => whnf) <;> (first | (exact absurd ‹soC s = 0› h) | refine And.intro ?_ ?_ | (intro _h; first | contradiction | (try simp only [dd] at _h)) | (refine dt_go ?_) | exact rfl | exact True.intro | exact dkk | exact dks | ((first | refine .inl ⟨_, hS, ?_⟩ | refine ⟨_, hS, ?_⟩); (try rintro _ rfl)) | (refine wrap_succ ?_; omega))))
theorem soC_0 {s : ByteArray} (h : soC s = 0) : ¬ 30000 < s.size ∧ secAll s = some (soL s) := by
  by_cases q : 30000 < s.size
  · rw [(so_4 q).2] at h; cases h
  · cases e : secAll s with
    | none => rw [(so_18 q e).2] at h; cases h
    | some l => rw [(so_0 q e).1]; exact ⟨q, rfl⟩
theorem sizeSec_ok (l : List Section) : Ret env.P 12 [slL 3 Section.cs l] (fun r => r = .i .i64 l.length) := by
  refine ret_of (nt := 5) (rvs := [.tmp 2]) Try.func12 rfl rfl rfl rfl (fun X => ?_)
  repeat' (first | omega | (with_reducible show (_ : Int) < _; dsimp only; omega) | (with_reducible show (_ : Nat) ≤ _; dsimp only; omega) | ((with_reducible show SrcOk _ _ _) <;> (first | exact srcOk_1 rfl | exact srcOk_L (fun _ => ⟨rfl, rfl⟩) | exact srcOk_E (fun _ => ⟨rfl, rfl⟩))) | ((conv => whnf) <;> (first | refine And.intro ?_ ?_ | (intro _h; first | contradiction | (try simp only [dd] at _h)) | (refine dt_go ?_) | exact rfl | exact True.intro | exact dkk | exact dks | (refine wrap_succ ?_; omega))))
set_option maxHeartbeats 2000000 in
theorem withOwn_no2 (s : ByteArray) (at' : Int) (nm bs : ByteArray) (hs : s.size ≤ 1048576) (h : soC s = 0) (h2 : ¬ (0 ≤ at' ∧ at' ≤ (soL s).length) ∨ ¬ owB nm) : RetM env.P 5 [] [.s s, .i .i64 at', .s nm, .s bs] (fun r H => r = woV (woR s at' nm bs) ∧ H = []) := by
  rw [wo_2 h h2]
  obtain ⟨q, e⟩ := soC_0 h
  have hS := sectionsOf_impl_ok s hs e q
  refine ret_ofM (nt := 44) (rvs := [.tmp 8, .tmp 9]) Try.func5 rfl rfl rfl rfl (fun X hX => ?_)
  repeat' (first | omega | (with_reducible show (_ : Int) < _; dsimp only; omega) | (with_reducible show (_ : Nat) ≤ _; dsimp only; omega) | ((with_reducible show SrcOk _ _ _) <;> (first | exact srcOk_1 rfl | exact srcOk_L (fun _ => ⟨rfl, rfl⟩) | exact srcOk_E (fun _ => ⟨rfl, rfl⟩))) | ((conv => whnf) <;> (first | refine And.intro ?_ ?_ | (intro _h; first | contradiction | (try simp only [dd] at _h)) | (refine dt_go ?_) | exact rfl | exact True.intro | exact dkk | exact dks | (refine .inr (.inl (.inl ⟨[], _, _, _, hS, viewA, ⟨rfl, rfl⟩, ?_⟩)); (rintro _ _ ⟨rfl, rfl⟩) <;> (refine ⟨rfl, _, lokA, ?_⟩)) | ((first | refine .inl ⟨_, Ret.wka (sizeSec_ok (soL s)), ?_⟩ | refine ⟨_, Ret.wka (sizeSec_ok (soL s)), ?_⟩); (try rintro _ rfl)) | ((first | refine .inl ⟨_, within_ok _ _ _, ?_⟩ | refine ⟨_, within_ok _ _ _, ?_⟩); (try rintro _ rfl)) | ((first | refine .inl ⟨_, ownName_ok _, ?_⟩ | refine ⟨_, ownName_ok _, ?_⟩); (try rintro _ rfl)) | (refine wrap_succ ?_; omega))))
  all_goals first
    | (exfalso
       exact h2.elim (fun q => q ‹0 ≤ at' ∧ at' ≤ _›) (fun q => ‹¬ ¬ owB nm› q))
    | (conv => whnf
       exact endM_pick [] [] (woV (⟨#[]⟩, 2)) (view_of rfl .nil) rfl rfl (fun k hk => by rw [hX] at hk; exact absurd hk (Nat.not_lt_zero _)) ⟨rfl, rfl⟩)
    | trace_state
theorem withOwn_no2R (s : ByteArray) (at' : Int) (nm bs : ByteArray) (hs : s.size ≤ 1048576) (h : soC s = 0) (h2 : ¬ (0 ≤ at' ∧ at' ≤ (soL s).length) ∨ ¬ owB nm) : Ret env.P 5 [.s s, .i .i64 at', .s nm, .s bs] (fun r => r = woV (woR s at' nm bs)) := (withOwn_no2 s at' nm bs hs h h2).toRetG
end
end Go.Proofs.Ytfaadafgbhmlfaa
