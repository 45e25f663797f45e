/- Texts for VHandlesOneP. -/
import Derived.Test.YtmglpojnoadgeaaGreatVo38
namespace Go.Proofs.YtmglpojnoadgeaaGreat
open Go Go.RowKit
set_option linter.unusedVariables false
set_option linter.unusedSimpArgs false
set_option maxRecDepth 8000 in
set_option maxHeartbeats 2000000 in
theorem endScope_ok (s : Shelf) (h : s.ok) (hg : s.good) (sc : Int) : RetM env.P 64 [some (boxRow s.csO)] [.ptr 0 0 0, .i .i64 sc] (fun r H => r = .tup [] ∧ H = [some (boxRow (s.keep (s.fixK (scK sc))).relend.csO)]) := by
 refine ret_ofM (nt := 7) (rvs := []) Tryz.func64 rfl rfl rfl rfl (fun X hX => ?_)
 repeat' (first | exact aa | ((conv => whnf) <;> (first | (refine .inr (.inl (.inl ⟨[0, 1], _, _, _, removeAll_ok s h hg.tidy 104 rfl sc (fun w e => !scK sc 0 e) (fun w e => endScope1_ok w e sc) (scK sc) (fun i e => by rw [Bool.not_not]; rfl), (view_of rfl (.cons rfl (.self (rowPl_box rfl)) (.cons rfl (.self (rowPl_box rfl)) .nil))), ⟨rfl, rfl⟩, ?_⟩)); rintro _ _ ⟨rfl, rfl⟩; refine ⟨rfl, _, lok_pl (.cons (rowPl_box rfl) (.cons (rowPl_box rfl) .nil)), ?_⟩) | refine And.intro ?_ ?_ | (intro _h; first | contradiction | (try simp only [dd] at _h)) | (refine dt_go ?_) | exact rfl | exact True.intro | exact dkk | exact dks | (refine wrap_succ ?_; omega))))
 all_goals (conv => whnf)
 all_goals exact endM_pick [0] [some (boxRow (s.keep (s.fixK (scK sc))).relend.csO)] (.tup []) (view_of rfl (.cons rfl (.self (rowPl_box rfl)) .nil)) rfl rfl (by rw [hX]; exact keepK (n := 1) rfl rfl) ⟨rfl, rfl⟩
end Go.Proofs.YtmglpojnoadgeaaGreat
