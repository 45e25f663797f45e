/-
  Shelves that are changed: a thing is made.
-/
import Derived.Test.YtaiohiincgpomaaVMkB
import Derived.Test.YtaiohiincgpomaaVMkC
namespace Go.Proofs.Ytaiohiincgpomaa
open Go Go.RowKit
set_option linter.unusedVariables false
set_option linter.unusedSimpArgs false

theorem lok_drop {σ : Nat → Nat} {x : Row} {L : Hp} (h : RowsPl L) : LOk σ (some x :: L) (none :: L) := by
  have h2 := lok_pl (σ := σ) h
  refine ⟨rfl, fun k hk => ?_⟩
  cases k with
  | zero => exact .inl rfl
  | succ k => exact h2.row k (by simpa using hk)

set_option maxRecDepth 8000 in
theorem shelfOf_ok (s : Shelf) (h : s.ok) (h1 : 1 ≤ s.tables.length) : RetM env.P 47 [] [.agg s.cs] (fun r H => r = .ptr 0 0 0 ∧ H = [some (boxRow s.csO)]) := by
  refine ret_ofM (nt := 7) (rvs := [.tmp 2]) Try.func47 rfl rfl rfl rfl (fun X hX => ?_)
  repeat' (first | omega | (with_reducible show (_ : Int) < _; dsimp only; omega) | (with_reducible show (_ : Nat) ≤ _; dsimp only; omega) | exact srcOk_1 rfl | exact srcOk_L (fun _ => ⟨rfl, rfl⟩) | exact srcOk_E (fun _ => ⟨rfl, rfl⟩) | ((conv => whnf) <;> (first | refine And.intro ?_ ?_ | (intro _h; first | contradiction | (try simp only [decide_eq_true_eq, Bool.not_eq_true', Bool.not_eq_false', decide_eq_false_iff_not, Bool.not_eq_true, Decidable.not_not, Bool.true_eq_false, Bool.false_eq_true, pb_t, pb_f] at _h)) | (refine dt_go ?_) | exact rfl | exact True.intro | (refine dok ?_; kernel_rfl) | (refine doks ?_; kernel_rfl) | (refine .inr (.inl (.inl ⟨[], _, _, _, copyShelf_ok s h h1, (view_of rfl (by repeat' (first | exact ViewL.nil | refine ViewL.cons rfl (RowBack.self ?_) ?_ | exact rowPl_L (fun _ => rfl) | exact rowPl_box rfl))), ⟨rfl, rfl⟩, ?_⟩)); rintro _ _ ⟨rfl, rfl⟩; refine ⟨rfl, _, (lok_pl (by repeat' (first | exact RowsPl.nil | refine RowsPl.cons ?_ ?_ | refine RowsPl.none ?_ | exact rowPl_L (fun _ => rfl) | exact rowPl_box rfl))), ?_⟩) | (refine wrap_succ ?_; omega))))
  refine endM_turn (turn_close (id := 3) (i := 0) (j := 1) (id' := 1) rfl (show 0 < 1 by decide) (show 1 < 3 by decide) rfl rfl (show 3 ≠ 1 by decide) rfl (rowO_le (Nat.le_refl _))) ?_
  refine endM_turn (turn_close (id := 3) (i := 0) (j := 2) (id' := 2) rfl (show 0 < 1 by decide) (show 2 < 3 by decide) rfl rfl (show 3 ≠ 2 by decide) rfl (rowO_le (Nat.le_refl _))) ?_
  refine endM_turn (turn_box (id := 3) (ds := s.csO) rfl rfl rfl (.cons (.refl _) (.cons (.refl _) (.cons (.refl _) .nil)))) ?_
  exact endM_pick [3] [some (boxRow s.csO)] (.ptr 0 0 0) (view_of rfl (.cons rfl (.self (rowPl_box rfl)) .nil)) rfl rfl (fun k hk => by rw [hX] at hk; exact absurd hk (Nat.not_lt_zero _)) ⟨rfl, rfl⟩

/-- A shelf's cells, its rows lying behind it. -/
def Shelf.resB (s : Shelf) : List AV := [.i .i64 s.next, .row 1 s.tables.length, .row 2 s.things.length]

set_option maxRecDepth 8000 in
theorem result_ok (s : Shelf) (num : Int) : RetM env.P 69 [some (boxRow s.csO)] [.ptr 0 0 0, .i .i64 num, .i .i64 0] (fun r H => r = .tup [.agg s.resB, .i .i64 num, .i .i64 0] ∧ H = [some (boxRow s.resB), some (rowL 2 Table.csO s.tables), some (rowL 3 Thing.cs s.things)]) := by
  refine ret_ofM (nt := 18) (rvs := [.cell 6 30, .tmp 7, .tmp 8]) Try.func69 rfl rfl rfl rfl (fun X hX => ?_)
  repeat' (first | omega | (with_reducible show (_ : Int) < _; dsimp only; omega) | (with_reducible show (_ : Nat) ≤ _; dsimp only; omega) | exact srcOk_1 rfl | exact srcOk_L (fun _ => ⟨rfl, rfl⟩) | exact srcOk_E (fun _ => ⟨rfl, rfl⟩) | ((conv => whnf) <;> (first | refine And.intro ?_ ?_ | (intro _h; first | contradiction | (try simp only [decide_eq_true_eq, Bool.not_eq_true', Bool.not_eq_false', decide_eq_false_iff_not, Bool.not_eq_true, Decidable.not_not, Bool.true_eq_false, Bool.false_eq_true, pb_t, pb_f] at _h)) | (refine dt_go ?_) | exact rfl | exact True.intro | (refine dok ?_; kernel_rfl) | (refine doks ?_; kernel_rfl) | (refine wrap_succ ?_; omega))))
  exact endM_pick [0, 2, 3] [some (boxRow s.resB), some (rowL 2 Table.csO s.tables), some (rowL 3 Thing.cs s.things)] (.tup [.agg s.resB, .i .i64 num, .i .i64 0]) (view_of rfl (.cons rfl ⟨rfl, rfl, .refl _, fun i j hi hj => by
    have hi' : i < 1 := hi
    have hj' : j < 3 := hj
    obtain rfl : i = 0 := by omega
    rcases (show j = 0 ∨ j = 1 ∨ j = 2 by omega) with rfl | rfl | rfl <;> exact ⟨rfl, rfl⟩⟩ (.cons rfl (.self (rowPl_L fun _ => rfl)) (.cons rfl (.self (rowPl_L fun _ => rfl)) .nil)))) rfl rfl (by rw [hX]; exact keepK (n := 1) rfl rfl) ⟨rfl, rfl⟩

set_option maxRecDepth 8000 in
theorem result_err (s : Shelf) (num code : Int) (hc : ¬ code = 0) : RetM env.P 69 [some (boxRow s.csO)] [.ptr 0 0 0, .i .i64 num, .i .i64 code] (fun r H => r = .tup [.agg [.i .i64 0, .nils, .nils], .i .i64 0, .i .i64 code] ∧ H = [some (boxRow s.csO)]) := by
  refine ret_ofM (nt := 18) (rvs := [.cell 6 30, .tmp 7, .tmp 8]) Try.func69 rfl rfl rfl rfl (fun X hX => ?_)
  repeat' (first | omega | (with_reducible show (_ : Int) < _; dsimp only; omega) | (with_reducible show (_ : Nat) ≤ _; dsimp only; omega) | exact srcOk_1 rfl | exact srcOk_L (fun _ => ⟨rfl, rfl⟩) | exact srcOk_E (fun _ => ⟨rfl, rfl⟩) | ((conv => whnf) <;> (first | refine And.intro ?_ ?_ | (intro _h; first | contradiction | (try simp only [decide_eq_true_eq, Bool.not_eq_true', Bool.not_eq_false', decide_eq_false_iff_not, Bool.not_eq_true, Decidable.not_not, Bool.true_eq_false, Bool.false_eq_true, pb_t, pb_f] at _h)) | (refine dt_go ?_) | exact rfl | exact True.intro | (refine dok ?_; kernel_rfl) | (refine doks ?_; kernel_rfl) | (refine wrap_succ ?_; omega))))
  exact endM_pick [0] [some (boxRow s.csO)] (.tup [.agg [.i .i64 0, .nils, .nils], .i .i64 0, .i .i64 code]) (view_of rfl (.cons rfl (.self (rowPl_box rfl)) .nil)) rfl rfl (by rw [hX]; exact keepK (n := 1) rfl rfl) ⟨rfl, rfl⟩
end Go.Proofs.Ytaiohiincgpomaa
