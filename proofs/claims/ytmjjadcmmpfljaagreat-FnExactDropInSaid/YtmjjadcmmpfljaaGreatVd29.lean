/- Texts for VDropInP. -/
import Derived.Test.YtmjjadcmmpfljaaGreatVd27
import Derived.Test.YtmjjadcmmpfljaaGreatVd28
namespace Go.Proofs.YtmjjadcmmpfljaaGreat
open Go Go.RowKit
set_option linter.unusedVariables false
set_option linter.unusedSimpArgs false
set_option maxRecDepth 8000 in
theorem shelfOf_ok (s : Shelf) (h : s.ok) (h1 : 1 ≤ s.tables.length) : RetM env.P 82 [] [.agg s.cs] (fun r H => r = .ptr 0 0 0 ∧ H = [some (boxRow s.csO)]) := by
 refine ret_ofM (nt := 7) (rvs := [.tmp 2]) Tryz.func82 rfl rfl rfl rfl (fun X hX => ?_)
 repeat' (first | exact aa | ((conv => whnf) <;> (first | refine And.intro ?_ ?_ | (intro _h; first | contradiction | (try simp only [dd] at _h)) | (refine dt_go ?_) | exact rfl | exact True.intro | exact dkk | exact dks | (refine .inr (.inl (.inl ⟨[], _, _, _, copyShelf_ok s h h1, viewA, ⟨rfl, rfl⟩, ?_⟩)); rintro _ _ ⟨rfl, rfl⟩; refine ⟨rfl, _, lokA, ?_⟩) | (refine wrap_succ ?_; omega))))
 refine endM_turn (turn_close (id := 3) (i := 0) (j := 1) (id' := 1) rfl (show 0 < 1 by decide) (show 1 < 3 by decide) rfl rfl (show 3 ≠ 1 by decide) rfl (rowO_le (Nat.le_refl _))) ?_
 refine endM_turn (turn_close (id := 3) (i := 0) (j := 2) (id' := 2) rfl (show 0 < 1 by decide) (show 2 < 3 by decide) rfl rfl (show 3 ≠ 2 by decide) rfl (rowO_le (Nat.le_refl _))) ?_
 refine endM_turn (turn_box (id := 3) (ds := s.csO) rfl rfl rfl (.cons (.refl _) (.cons (.refl _) (.cons (.refl _) .nil)))) ?_
 exact endM_pick [3] [some (boxRow s.csO)] (.ptr 0 0 0) (view_of rfl (.cons rfl (.self (rowPl_box rfl)) .nil)) rfl rfl (fun k hk => by rw [hX] at hk; exact absurd hk (Nat.not_lt_zero _)) ⟨rfl, rfl⟩
theorem rowNs_box {α : Type} {c : α → List AV} {a : α} [h : FreeC c] : RowNs (boxRow (c a)) := ⟨fun i j _ _ => h.h a j⟩
end Go.Proofs.YtmjjadcmmpfljaaGreat
