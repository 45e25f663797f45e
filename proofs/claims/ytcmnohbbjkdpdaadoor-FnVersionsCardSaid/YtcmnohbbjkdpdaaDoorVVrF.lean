/-
  Versions: what is drawn.
-/
import Derived.Test.YtcmnohbbjkdpdaaDoorVVrE
namespace Go.Proofs.YtcmnohbbjkdpdaaDoor
open Go Go.RowKit
set_option linter.unusedVariables false
set_option linter.unusedSimpArgs false
attribute [local irreducible] IntKind.wrap

set_option maxRecDepth 8000 in
theorem l02Some_ok (s : Src) (h : s.rm 1) : RetM env.P 45 [some (boxRow s.cs)] [.ptr 0 0 0] (fun r H => ∃ (v : ByteArray) (t : Src), v ∈ someL ∧ (s.at' ≤ t.at' ∧ t.at' ≤ s.at' + 1 ∧ t.code.length = s.code.length) ∧ r = .s v ∧ H = [some (boxRow t.cs)]) := by
  refine ret_ofM (nt := 6) (rvs := [.tmp 2]) Tryd.func45 rfl rfl rfl rfl (fun X hX => ?_)
  repeat' (first | exact aa | ((conv => whnf) <;> (first | ((refine .inr (.inl (.inl ⟨[0, 1], _, _, _, text_row s h someL (by decide) (by decide), (view_of rfl (.cons rfl (.self (rowPl_box rfl)) (.cons rfl (rowBack_litS someL) .nil))), ⟨rfl, rfl⟩, ?_⟩))); rintro _ _ ⟨v, t, hv, ht, rfl, rfl⟩; refine ⟨rfl, _, lokA, ?_⟩) | refine And.intro ?_ ?_ | (intro _h; first | contradiction | (try simp only [dd] at _h)) | (refine dt_go ?_) | exact rfl | exact True.intro | exact dkk | exact dks | (refine wrap_succ ?_; omega))))
  all_goals (conv => whnf)
  all_goals exact endM_pick [0] [some (boxRow t.cs)] (.s v) (view_of rfl (.cons rfl (.self (rowPl_box rfl)) .nil)) rfl rfl (by rw [hX]; exact keepK (n := 1) rfl rfl) ⟨v, t, hv, ht, rfl, rfl⟩
set_option maxRecDepth 8000 in
theorem l02Any_ok (s : Src) (h : s.rm 2) : RetM env.P 35 [some (boxRow s.cs)] [.ptr 0 0 0] (fun r H => ∃ (v : ByteArray) (t : Src), v ∈ oddL ++ someL ∧ (s.at' ≤ t.at' ∧ t.at' ≤ s.at' + 2 ∧ t.code.length = s.code.length) ∧ r = .s v ∧ H = [some (boxRow t.cs)]) := by
  have h0 : s.rm 1 := ⟨h.1, by have := h.2.1; omega, h.2.2⟩
  obtain ⟨q1, q2, q3⟩ := h
  refine ret_ofM (nt := 10) (rvs := [.tmp 2]) Tryd.func35 rfl rfl rfl rfl (fun X hX => ?_)
  repeat' (first | exact aa | ((conv => whnf) <;> (first | ((refine .inr (.inl (.inl ⟨[0, 1], _, _, _, text_row t1 (Src.rm_i (by omega) (by omega) (by omega)) oddL (by decide) (by decide), (view_of rfl (.cons rfl (.self (rowPl_box rfl)) (.cons rfl (rowBack_litS oddL) .nil))), ⟨rfl, rfl⟩, ?_⟩))); rintro _ _ ⟨v, t, hv, ht, rfl, rfl⟩; refine ⟨rfl, _, lokA, ?_⟩) | (refine Src.rm_i ?_ ?_ ?_) | refine And.intro ?_ ?_ | (intro _h; first | contradiction | (try simp only [dd] at _h)) | (refine dt_go ?_) | exact rfl | exact True.intro | exact dkk | exact dks | (refine .inr (.inl (.inl ⟨[0], _, _, _, one_ex s h0 4 (by decide), viewA, ⟨rfl, rfl⟩, ?_⟩)); rintro _ _ ⟨b, t1, ht1, rfl, rfl⟩; refine ⟨rfl, _, lokA, ?_⟩) | (refine .inr (.inl (.inl ⟨[0], _, _, _, l02Some_ok _ ?_, viewA, ⟨rfl, rfl⟩, ?_⟩)); rotate_left 1; rintro _ _ ⟨v, t, hv, ht, rfl, rfl⟩; refine ⟨rfl, _, lokA, ?_⟩) | (refine wrap_succ ?_; omega))))
  all_goals (conv => whnf)
  all_goals first
    | exact endM_pick [0] [some (boxRow t.cs)] (.s v) (view_of rfl (.cons rfl (.self (rowPl_box rfl)) .nil)) rfl rfl (by rw [hX]; exact keepK (n := 1) rfl rfl) ⟨v, t, List.mem_append_left _ hv, ⟨by omega, by omega, by omega⟩, rfl, rfl⟩
    | exact endM_pick [0] [some (boxRow t.cs)] (.s v) (view_of rfl (.cons rfl (.self (rowPl_box rfl)) .nil)) rfl rfl (by rw [hX]; exact keepK (n := 1) rfl rfl) ⟨v, t, List.mem_append_right _ hv, ⟨by omega, by omega, by omega⟩, rfl, rfl⟩
    | trace_state
end Go.Proofs.YtcmnohbbjkdpdaaDoor
