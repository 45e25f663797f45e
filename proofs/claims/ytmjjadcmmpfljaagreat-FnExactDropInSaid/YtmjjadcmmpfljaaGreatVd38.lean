/- Texts for VDropInP. -/
import Derived.Test.YtmjjadcmmpfljaaGreatVd37
import Derived.Test.YtmjjadcmmpfljaaGreatVd36
namespace Go.Proofs.YtmjjadcmmpfljaaGreat
open Go Go.RowKit
set_option linter.unusedVariables false
set_option linter.unusedSimpArgs false
set_option maxRecDepth 8000 in
set_option maxHeartbeats 16000000 in
theorem yard_ok (y : Yard) (h : y.ok) (h1 : 1 ≤ y.shelf.tables.length) : RetM env.P 42 [] [rfL [rfL y.shelf.cs, slL 4 Call.cs y.stack, .i .i64 y.next, slL 1 intC y.dead]] (fun r H => r = .agg y.resO ∧ H = y.rowsO) := by
 have hd : y.dead.length ≤ 1048576 := h.2.2.1
 have hst : y.stack.length ≤ 1048576 := h.2.1.1
 refine ret_ofPM (nt := 45) (rvs := [.cell 2 37]) Tryz.func42 rfl rfl rfl rfl (fun X hX => ?_)
 refine pw_cut 2 (fun b : Nat => b = 1 ∨ b = 2 ∨ b = 3 ∨ b = 4) (fun b => [(0, rfL [rfL y.shelf.cs, slL 4 Call.cs y.stack, .i .i64 y.next, slL 1 intC y.dead]), (2, .ptr 0 0 0), (3, .ptr b 0 0)]) (fun b => some (boxRow yaZ) :: atB b (boxRow (y.part 0))) ?_ (fun b hb => ?_)
 ·repeat' (first | exact aa | ((conv => whnf) <;> (first | ((refine .inr (.inl (.inl ⟨[], _, _, _, cloneInt_ok _ (hd), (view_of rfl .nil), ⟨rfl, rfl⟩, ?_⟩))); rintro _ _ (⟨hn, rfl, rfl⟩ | ⟨rfl, rfl⟩) <;> refine ⟨rfl, _, lokA, ?_⟩) | refine And.intro ?_ ?_ | (intro _h; first | contradiction | (try simp only [dd] at _h)) | (refine dt_go ?_) | exact rfl | exact True.intro | exact dkk | exact dks | (refine .inr (.inl (.inl ⟨[], _, _, _, copyShelf_ok y.shelf h.1 h1, viewA, ⟨rfl, rfl⟩, ?_⟩)); rintro _ _ ⟨rfl, rfl⟩; refine ⟨rfl, _, lokA, ?_⟩) | (refine wrap_succ ?_; omega))))
  all_goals (first | contradiction | skip)
  all_goals (try (conv => whnf))
  all_goals first
   | (refine cut_turn (turn_close (id := 1) (i := 0) (j := 1) (id' := 2) rfl (show 0 < 1 by decide) (show 1 < 6 by decide) rfl rfl (show 1 ≠ 2 by decide) rfl (rowO_le (Nat.le_refl _))) ?_; refine cut_turn (turn_close (id := 1) (i := 0) (j := 2) (id' := 3) rfl (show 0 < 1 by decide) (show 2 < 6 by decide) rfl rfl (show 1 ≠ 3 by decide) rfl (rowO_le (Nat.le_refl _))) ?_; refine cut_turn (turn_close (id := 1) (i := 0) (j := 5) (id' := 4) rfl (show 0 < 1 by decide) (show 5 < 6 by decide) rfl rfl (show 1 ≠ 4 by decide) rfl (rowO_le (Nat.le_refl _))) ?_; refine cut_turn (turn_box (id := 1) (ds := y.part 0) rfl rfl rfl (.cons (.refl _) (.cons (.refl _) (.cons (.refl _) (.cons (.nil _ _) (.cons (.refl _) (.cons (.refl _) .nil))))))) ?_; exact cut_go 1 (by omega) (by repeat' (first | exact trivial | refine And.intro rfl ?_)) (by repeat' (first | exact trivial | refine And.intro (.inl rfl) ?_ | refine And.intro (.inr rfl) ?_ | refine And.intro rfl ?_)))
   | (refine cut_turn (turn_close (id := 1) (i := 0) (j := 1) (id' := 3) rfl (show 0 < 1 by decide) (show 1 < 6 by decide) rfl rfl (show 1 ≠ 3 by decide) rfl (rowO_le (Nat.le_refl _))) ?_; refine cut_turn (turn_close (id := 1) (i := 0) (j := 2) (id' := 4) rfl (show 0 < 1 by decide) (show 2 < 6 by decide) rfl rfl (show 1 ≠ 4 by decide) rfl (rowO_le (Nat.le_refl _))) ?_; refine cut_turn (turn_close (id := 1) (i := 0) (j := 5) (id' := 2) rfl (show 0 < 1 by decide) (show 5 < 6 by decide) rfl rfl (show 1 ≠ 2 by decide) rfl (rowO_le (Nat.le_refl _))) ?_; refine cut_turn (turn_box (id := 1) (ds := y.part 0) rfl rfl rfl (.cons (.refl _) (.cons (.refl _) (.cons (.refl _) (.cons (.nil _ _) (.cons (.refl _) (.cons (.refl _) .nil))))))) ?_; exact cut_go 1 (by omega) (by repeat' (first | exact trivial | refine And.intro rfl ?_)) (by repeat' (first | exact trivial | refine And.intro (.inl rfl) ?_ | refine And.intro (.inr rfl) ?_ | refine And.intro rfl ?_)))
   | (refine cut_turn (turn_close (id := 3) (i := 0) (j := 1) (id' := 1) rfl (show 0 < 1 by decide) (show 1 < 6 by decide) rfl rfl (show 3 ≠ 1 by decide) rfl (rowO_le (Nat.le_refl _))) ?_; refine cut_turn (turn_close (id := 3) (i := 0) (j := 2) (id' := 2) rfl (show 0 < 1 by decide) (show 2 < 6 by decide) rfl rfl (show 3 ≠ 2 by decide) rfl (rowO_le (Nat.le_refl _))) ?_; refine cut_turn (turn_close (id := 3) (i := 0) (j := 5) (id' := 4) rfl (show 0 < 1 by decide) (show 5 < 6 by decide) rfl rfl (show 3 ≠ 4 by decide) rfl (rowO_le (Nat.le_refl _))) ?_; refine cut_turn (turn_box (id := 3) (ds := y.part 0) rfl rfl rfl (.cons (.refl _) (.cons (.refl _) (.cons (.refl _) (.cons (.nil _ _) (.cons (.refl _) (.cons (.refl _) .nil))))))) ?_; exact cut_go 3 (by omega) (by repeat' (first | exact trivial | refine And.intro rfl ?_)) (by repeat' (first | exact trivial | refine And.intro (.inl rfl) ?_ | refine And.intro (.inr rfl) ?_ | refine And.intro rfl ?_)))
   | (refine cut_turn (turn_close (id := 2) (i := 0) (j := 1) (id' := 3) rfl (show 0 < 1 by decide) (show 1 < 6 by decide) rfl rfl (show 2 ≠ 3 by decide) rfl (rowO_le (Nat.le_refl _))) ?_; refine cut_turn (turn_close (id := 2) (i := 0) (j := 2) (id' := 4) rfl (show 0 < 1 by decide) (show 2 < 6 by decide) rfl rfl (show 2 ≠ 4 by decide) rfl (rowO_le (Nat.le_refl _))) ?_; refine cut_turn (turn_close (id := 2) (i := 0) (j := 5) (id' := 1) rfl (show 0 < 1 by decide) (show 5 < 6 by decide) rfl rfl (show 2 ≠ 1 by decide) rfl (rowO_le (Nat.le_refl _))) ?_; refine cut_turn (turn_box (id := 2) (ds := y.part 0) rfl rfl rfl (.cons (.refl _) (.cons (.refl _) (.cons (.refl _) (.cons (.nil _ _) (.cons (.refl _) (.cons (.refl _) .nil))))))) ?_; exact cut_go 2 (by omega) (by repeat' (first | exact trivial | refine And.intro rfl ?_)) (by repeat' (first | exact trivial | refine And.intro (.inl rfl) ?_ | refine And.intro (.inr rfl) ?_ | refine And.intro rfl ?_)))
   | (refine cut_turn (turn_close (id := 4) (i := 0) (j := 1) (id' := 1) rfl (show 0 < 1 by decide) (show 1 < 6 by decide) rfl rfl (show 4 ≠ 1 by decide) rfl (rowO_le (Nat.le_refl _))) ?_; refine cut_turn (turn_close (id := 4) (i := 0) (j := 2) (id' := 2) rfl (show 0 < 1 by decide) (show 2 < 6 by decide) rfl rfl (show 4 ≠ 2 by decide) rfl (rowO_le (Nat.le_refl _))) ?_; refine cut_turn (turn_close (id := 4) (i := 0) (j := 5) (id' := 3) rfl (show 0 < 1 by decide) (show 5 < 6 by decide) rfl rfl (show 4 ≠ 3 by decide) rfl (rowO_le (Nat.le_refl _))) ?_; refine cut_turn (turn_box (id := 4) (ds := y.part 0) rfl rfl rfl (.cons (.refl _) (.cons (.refl _) (.cons (.refl _) (.cons (.nil _ _) (.cons (.refl _) (.cons (.refl _) .nil))))))) ?_; exact cut_go 4 (by omega) (by repeat' (first | exact trivial | refine And.intro rfl ?_)) (by repeat' (first | exact trivial | refine And.intro (.inl rfl) ?_ | refine And.intro (.inr rfl) ?_ | refine And.intro rfl ?_)))
   | (refine cut_turn (turn_close (id := 4) (i := 0) (j := 1) (id' := 2) rfl (show 0 < 1 by decide) (show 1 < 6 by decide) rfl rfl (show 4 ≠ 2 by decide) rfl (rowO_le (Nat.le_refl _))) ?_; refine cut_turn (turn_close (id := 4) (i := 0) (j := 2) (id' := 3) rfl (show 0 < 1 by decide) (show 2 < 6 by decide) rfl rfl (show 4 ≠ 3 by decide) rfl (rowO_le (Nat.le_refl _))) ?_; refine cut_turn (turn_close (id := 4) (i := 0) (j := 5) (id' := 1) rfl (show 0 < 1 by decide) (show 5 < 6 by decide) rfl rfl (show 4 ≠ 1 by decide) rfl (rowO_le (Nat.le_refl _))) ?_; refine cut_turn (turn_box (id := 4) (ds := y.part 0) rfl rfl rfl (.cons (.refl _) (.cons (.refl _) (.cons (.refl _) (.cons (.nil _ _) (.cons (.refl _) (.cons (.refl _) .nil))))))) ?_; exact cut_go 4 (by omega) (by repeat' (first | exact trivial | refine And.intro rfl ?_)) (by repeat' (first | exact trivial | refine And.intro (.inl rfl) ?_ | refine And.intro (.inr rfl) ?_ | refine And.intro rfl ?_)))
   | (refine cut_turn (turn_close (id := 1) (i := 0) (j := 1) (id' := 2) rfl (show 0 < 1 by decide) (show 1 < 6 by decide) rfl rfl (show 1 ≠ 2 by decide) rfl (rowO_le (Nat.le_refl _))) ?_; refine cut_turn (turn_close (id := 1) (i := 0) (j := 2) (id' := 3) rfl (show 0 < 1 by decide) (show 2 < 6 by decide) rfl rfl (show 1 ≠ 3 by decide) rfl (rowO_le (Nat.le_refl _))) ?_; refine cut_turn (turn_box (id := 1) (ds := y.part 0) rfl rfl rfl (.cons (.refl _) (.cons (.refl _) (.cons (.refl _) (.cons (.nil _ _) (.cons (.refl _) (.cons (ow_nil hn) .nil))))))) ?_; exact cut_go 1 (by omega) (by repeat' (first | exact trivial | refine And.intro rfl ?_)) (by repeat' (first | exact trivial | refine And.intro (.inl rfl) ?_ | refine And.intro (.inr rfl) ?_ | refine And.intro rfl ?_)))
   | (refine cut_turn (turn_close (id := 3) (i := 0) (j := 1) (id' := 1) rfl (show 0 < 1 by decide) (show 1 < 6 by decide) rfl rfl (show 3 ≠ 1 by decide) rfl (rowO_le (Nat.le_refl _))) ?_; refine cut_turn (turn_close (id := 3) (i := 0) (j := 2) (id' := 2) rfl (show 0 < 1 by decide) (show 2 < 6 by decide) rfl rfl (show 3 ≠ 2 by decide) rfl (rowO_le (Nat.le_refl _))) ?_; refine cut_turn (turn_box (id := 3) (ds := y.part 0) rfl rfl rfl (.cons (.refl _) (.cons (.refl _) (.cons (.refl _) (.cons (.nil _ _) (.cons (.refl _) (.cons (ow_nil hn) .nil))))))) ?_; exact cut_go 3 (by omega) (by repeat' (first | exact trivial | refine And.intro rfl ?_)) (by repeat' (first | exact trivial | refine And.intro (.inl rfl) ?_ | refine And.intro (.inr rfl) ?_ | refine And.intro rfl ?_)))
   | trace_state
 rcases hb with rfl | rfl | rfl | rfl
 ·refine wpc_ok _ _ _ _ ?_
  (try dsimp only)
  conv => whnf
  repeat' (first | exact aa | ((conv => whnf) <;> (first | refine loopNT y.stack.length (fun k => [(29, .i .i64 k)]) (fun k => [none, some (.box (y.part k))]) (fun k => True) ⟨trivial, ?_⟩ | ((refine .inr (.inl (.inl ⟨[], _, _, _, cloneInt_ok _ (argLe h _), (view_of rfl .nil), ⟨rfl, rfl⟩, ?_⟩))); rintro _ _ (⟨hn, rfl, rfl⟩ | ⟨rfl, rfl⟩) <;> refine ⟨rfl, _, lokA, ?_⟩) | refine And.intro ?_ ?_ | (intro _h; first | contradiction | (try simp only [dd] at _h)) | (refine dt_go ?_) | exact rfl | exact True.intro | exact dkk | exact dks | (refine wrap_succ ?_; omega))))
  rotate_right
  ·conv => whnf
   rename_i k _ _
   obtain rfl : k = y.stack.length := by omega
   exact endM_pick [5, 6, 7, 8] [some (rowL 2 Table.csO y.shelf.tables), some (rowL 3 Thing.cs y.shelf.things), some (rowL 4 Call.csO (y.stack.take y.stack.length)), some (rowL 1 intC y.dead)] (.agg y.resO) (view_of rfl (.cons rfl (.self (rowPl_L fun _ => rfl)) (.cons rfl (.self (rowPl_L fun _ => rfl)) (.cons rfl (.L (by rw [List.take_length]) (fun _ => rfl)) (.cons rfl (.self (rowPl_L fun _ => rfl)) .nil))))) rfl rfl (fun k hk => by rw [hX] at hk; exact absurd hk (Nat.not_lt_zero _)) ⟨rfl, by rw [List.take_length]; rfl⟩
  all_goals (conv => whnf)
  all_goals rename_i k _ _
  all_goals have hk : k < y.stack.length := by omega
  all_goals first
   | (refine roundNT_turn (turn_close (id := 9) (i := k) (j := 3) (id' := 6) rfl (Nat.lt_succ_self k) (show 3 < 4 by decide) cat_k rfl (show 9 ≠ 6 by decide) rfl ⟨Nat.le_refl _, fun i j _ _ => HoldC.h (c := intC) _ j⟩) ?_; refine roundNT_turn (turn_close (id := 1) (i := 0) (j := 3) (id' := 9) rfl (show 0 < 1 by decide) (show 3 < 6 by decide) rfl rfl (show 1 ≠ 9 by decide) rfl ⟨Nat.le_refl _, snoc_idf3 (by rw [List.length_take]; omega) trivial trivial trivial (fun i j _ _ => HoldC.h (c := intC) _ j)⟩) ?_; refine roundNT_turn (turn_box (id := 1) (ds := y.part (k + 1)) rfl rfl rfl (.cons (.refl _) (.cons (.refl _) (.cons (.refl _) (.cons (.ow (fun i j _ _ => HoldC.h _ j) (fun i j hi hj => (by rw [take_call hk]; exact snoc_call (t := y.stack.getD k default) (by rw [List.length_take]; omega) rfl rfl rfl rfl (fun i j _ _ => .refl _) i j hi hj))) (.cons (.refl _) (.cons (.refl _) .nil))))))) ?_)
   | (refine roundNT_turn (turn_close (id := 1) (i := 0) (j := 3) (id' := 8) rfl (show 0 < 1 by decide) (show 3 < 6 by decide) rfl rfl (show 1 ≠ 8 by decide) rfl ⟨Nat.le_refl _, snoc_idf (by rw [List.length_take]; omega) (fun j hj => (by rcases (show j = 0 ∨ j = 1 ∨ j = 2 ∨ j = 3 by (have hj' : j < 4 := hj); omega) with rfl | rfl | rfl | rfl <;> exact trivial))⟩) ?_; refine roundNT_turn (turn_box (id := 1) (ds := y.part (k + 1)) rfl rfl rfl (.cons (.refl _) (.cons (.refl _) (.cons (.refl _) (.cons (.ow (fun i j _ _ => HoldC.h _ j) (fun i j hi hj => (by rw [take_call hk]; exact snoc_callN (t := y.stack.getD k default) (by rw [List.length_take]; omega) rfl rfl rfl rfl (by assumption) i j hi hj))) (.cons (.refl _) (.cons (.refl _) .nil))))))) ?_)
   | trace_state
  all_goals refine roundNT_end ?_
  repeat' (first | exact aa | ((conv => whnf) <;> (first | refine And.intro ?_ ?_ | (intro _h; first | contradiction | (try simp only [dd] at _h)) | (refine dt_go ?_) | exact rfl | exact True.intro | exact dkk | exact dks | (refine wrap_succ ?_; omega))))
 ·refine wpc_ok _ _ _ _ ?_
  (try dsimp only)
  conv => whnf
  repeat' (first | exact aa | ((conv => whnf) <;> (first | refine loopNT y.stack.length (fun k => [(29, .i .i64 k)]) (fun k => [none, none, some (.box (y.part k))]) (fun k => True) ⟨trivial, ?_⟩ | ((refine .inr (.inl (.inl ⟨[], _, _, _, cloneInt_ok _ (argLe h _), (view_of rfl .nil), ⟨rfl, rfl⟩, ?_⟩))); rintro _ _ (⟨hn, rfl, rfl⟩ | ⟨rfl, rfl⟩) <;> refine ⟨rfl, _, lokA, ?_⟩) | refine And.intro ?_ ?_ | (intro _h; first | contradiction | (try simp only [dd] at _h)) | (refine dt_go ?_) | exact rfl | exact True.intro | exact dkk | exact dks | (refine wrap_succ ?_; omega))))
  rotate_right
  ·conv => whnf
   rename_i k _ _
   obtain rfl : k = y.stack.length := by omega
   exact endM_pick [5, 6, 7, 8] [some (rowL 2 Table.csO y.shelf.tables), some (rowL 3 Thing.cs y.shelf.things), some (rowL 4 Call.csO (y.stack.take y.stack.length)), some (rowL 1 intC y.dead)] (.agg y.resO) (view_of rfl (.cons rfl (.self (rowPl_L fun _ => rfl)) (.cons rfl (.self (rowPl_L fun _ => rfl)) (.cons rfl (.L (by rw [List.take_length]) (fun _ => rfl)) (.cons rfl (.self (rowPl_L fun _ => rfl)) .nil))))) rfl rfl (fun k hk => by rw [hX] at hk; exact absurd hk (Nat.not_lt_zero _)) ⟨rfl, by rw [List.take_length]; rfl⟩
  all_goals (conv => whnf)
  all_goals rename_i k _ _
  all_goals have hk : k < y.stack.length := by omega
  all_goals first
   | (refine roundNT_turn (turn_close (id := 9) (i := k) (j := 3) (id' := 6) rfl (Nat.lt_succ_self k) (show 3 < 4 by decide) cat_k rfl (show 9 ≠ 6 by decide) rfl ⟨Nat.le_refl _, fun i j _ _ => HoldC.h (c := intC) _ j⟩) ?_; refine roundNT_turn (turn_close (id := 2) (i := 0) (j := 3) (id' := 9) rfl (show 0 < 1 by decide) (show 3 < 6 by decide) rfl rfl (show 2 ≠ 9 by decide) rfl ⟨Nat.le_refl _, snoc_idf3 (by rw [List.length_take]; omega) trivial trivial trivial (fun i j _ _ => HoldC.h (c := intC) _ j)⟩) ?_; refine roundNT_turn (turn_box (id := 2) (ds := y.part (k + 1)) rfl rfl rfl (.cons (.refl _) (.cons (.refl _) (.cons (.refl _) (.cons (.ow (fun i j _ _ => HoldC.h _ j) (fun i j hi hj => (by rw [take_call hk]; exact snoc_call (t := y.stack.getD k default) (by rw [List.length_take]; omega) rfl rfl rfl rfl (fun i j _ _ => .refl _) i j hi hj))) (.cons (.refl _) (.cons (.refl _) .nil))))))) ?_)
   | (refine roundNT_turn (turn_close (id := 2) (i := 0) (j := 3) (id' := 8) rfl (show 0 < 1 by decide) (show 3 < 6 by decide) rfl rfl (show 2 ≠ 8 by decide) rfl ⟨Nat.le_refl _, snoc_idf (by rw [List.length_take]; omega) (fun j hj => (by rcases (show j = 0 ∨ j = 1 ∨ j = 2 ∨ j = 3 by (have hj' : j < 4 := hj); omega) with rfl | rfl | rfl | rfl <;> exact trivial))⟩) ?_; refine roundNT_turn (turn_box (id := 2) (ds := y.part (k + 1)) rfl rfl rfl (.cons (.refl _) (.cons (.refl _) (.cons (.refl _) (.cons (.ow (fun i j _ _ => HoldC.h _ j) (fun i j hi hj => (by rw [take_call hk]; exact snoc_callN (t := y.stack.getD k default) (by rw [List.length_take]; omega) rfl rfl rfl rfl (by assumption) i j hi hj))) (.cons (.refl _) (.cons (.refl _) .nil))))))) ?_)
   | trace_state
  all_goals refine roundNT_end ?_
  repeat' (first | exact aa | ((conv => whnf) <;> (first | refine And.intro ?_ ?_ | (intro _h; first | contradiction | (try simp only [dd] at _h)) | (refine dt_go ?_) | exact rfl | exact True.intro | exact dkk | exact dks | (refine wrap_succ ?_; omega))))
 ·refine wpc_ok _ _ _ _ ?_
  (try dsimp only)
  conv => whnf
  repeat' (first | exact aa | ((conv => whnf) <;> (first | refine loopNT y.stack.length (fun k => [(29, .i .i64 k)]) (fun k => [none, none, none, some (.box (y.part k))]) (fun k => True) ⟨trivial, ?_⟩ | ((refine .inr (.inl (.inl ⟨[], _, _, _, cloneInt_ok _ (argLe h _), (view_of rfl .nil), ⟨rfl, rfl⟩, ?_⟩))); rintro _ _ (⟨hn, rfl, rfl⟩ | ⟨rfl, rfl⟩) <;> refine ⟨rfl, _, lokA, ?_⟩) | refine And.intro ?_ ?_ | (intro _h; first | contradiction | (try simp only [dd] at _h)) | (refine dt_go ?_) | exact rfl | exact True.intro | exact dkk | exact dks | (refine wrap_succ ?_; omega))))
  rotate_right
  ·conv => whnf
   rename_i k _ _
   obtain rfl : k = y.stack.length := by omega
   exact endM_pick [5, 6, 7, 8] [some (rowL 2 Table.csO y.shelf.tables), some (rowL 3 Thing.cs y.shelf.things), some (rowL 4 Call.csO (y.stack.take y.stack.length)), some (rowL 1 intC y.dead)] (.agg y.resO) (view_of rfl (.cons rfl (.self (rowPl_L fun _ => rfl)) (.cons rfl (.self (rowPl_L fun _ => rfl)) (.cons rfl (.L (by rw [List.take_length]) (fun _ => rfl)) (.cons rfl (.self (rowPl_L fun _ => rfl)) .nil))))) rfl rfl (fun k hk => by rw [hX] at hk; exact absurd hk (Nat.not_lt_zero _)) ⟨rfl, by rw [List.take_length]; rfl⟩
  all_goals (conv => whnf)
  all_goals rename_i k _ _
  all_goals have hk : k < y.stack.length := by omega
  all_goals first
   | (refine roundNT_turn (turn_close (id := 9) (i := k) (j := 3) (id' := 6) rfl (Nat.lt_succ_self k) (show 3 < 4 by decide) cat_k rfl (show 9 ≠ 6 by decide) rfl ⟨Nat.le_refl _, fun i j _ _ => HoldC.h (c := intC) _ j⟩) ?_; refine roundNT_turn (turn_close (id := 3) (i := 0) (j := 3) (id' := 9) rfl (show 0 < 1 by decide) (show 3 < 6 by decide) rfl rfl (show 3 ≠ 9 by decide) rfl ⟨Nat.le_refl _, snoc_idf3 (by rw [List.length_take]; omega) trivial trivial trivial (fun i j _ _ => HoldC.h (c := intC) _ j)⟩) ?_; refine roundNT_turn (turn_box (id := 3) (ds := y.part (k + 1)) rfl rfl rfl (.cons (.refl _) (.cons (.refl _) (.cons (.refl _) (.cons (.ow (fun i j _ _ => HoldC.h _ j) (fun i j hi hj => (by rw [take_call hk]; exact snoc_call (t := y.stack.getD k default) (by rw [List.length_take]; omega) rfl rfl rfl rfl (fun i j _ _ => .refl _) i j hi hj))) (.cons (.refl _) (.cons (.refl _) .nil))))))) ?_)
   | (refine roundNT_turn (turn_close (id := 3) (i := 0) (j := 3) (id' := 8) rfl (show 0 < 1 by decide) (show 3 < 6 by decide) rfl rfl (show 3 ≠ 8 by decide) rfl ⟨Nat.le_refl _, snoc_idf (by rw [List.length_take]; omega) (fun j hj => (by rcases (show j = 0 ∨ j = 1 ∨ j = 2 ∨ j = 3 by (have hj' : j < 4 := hj); omega) with rfl | rfl | rfl | rfl <;> exact trivial))⟩) ?_; refine roundNT_turn (turn_box (id := 3) (ds := y.part (k + 1)) rfl rfl rfl (.cons (.refl _) (.cons (.refl _) (.cons (.refl _) (.cons (.ow (fun i j _ _ => HoldC.h _ j) (fun i j hi hj => (by rw [take_call hk]; exact snoc_callN (t := y.stack.getD k default) (by rw [List.length_take]; omega) rfl rfl rfl rfl (by assumption) i j hi hj))) (.cons (.refl _) (.cons (.refl _) .nil))))))) ?_)
   | trace_state
  all_goals refine roundNT_end ?_
  repeat' (first | exact aa | ((conv => whnf) <;> (first | refine And.intro ?_ ?_ | (intro _h; first | contradiction | (try simp only [dd] at _h)) | (refine dt_go ?_) | exact rfl | exact True.intro | exact dkk | exact dks | (refine wrap_succ ?_; omega))))
 ·refine wpc_ok _ _ _ _ ?_
  (try dsimp only)
  conv => whnf
  repeat' (first | exact aa | ((conv => whnf) <;> (first | refine loopNT y.stack.length (fun k => [(29, .i .i64 k)]) (fun k => [none, none, none, none, some (.box (y.part k))]) (fun k => True) ⟨trivial, ?_⟩ | ((refine .inr (.inl (.inl ⟨[], _, _, _, cloneInt_ok _ (argLe h _), (view_of rfl .nil), ⟨rfl, rfl⟩, ?_⟩))); rintro _ _ (⟨hn, rfl, rfl⟩ | ⟨rfl, rfl⟩) <;> refine ⟨rfl, _, lokA, ?_⟩) | refine And.intro ?_ ?_ | (intro _h; first | contradiction | (try simp only [dd] at _h)) | (refine dt_go ?_) | exact rfl | exact True.intro | exact dkk | exact dks | (refine wrap_succ ?_; omega))))
  rotate_right
  ·conv => whnf
   rename_i k _ _
   obtain rfl : k = y.stack.length := by omega
   exact endM_pick [5, 6, 7, 8] [some (rowL 2 Table.csO y.shelf.tables), some (rowL 3 Thing.cs y.shelf.things), some (rowL 4 Call.csO (y.stack.take y.stack.length)), some (rowL 1 intC y.dead)] (.agg y.resO) (view_of rfl (.cons rfl (.self (rowPl_L fun _ => rfl)) (.cons rfl (.self (rowPl_L fun _ => rfl)) (.cons rfl (.L (by rw [List.take_length]) (fun _ => rfl)) (.cons rfl (.self (rowPl_L fun _ => rfl)) .nil))))) rfl rfl (fun k hk => by rw [hX] at hk; exact absurd hk (Nat.not_lt_zero _)) ⟨rfl, by rw [List.take_length]; rfl⟩
  all_goals (conv => whnf)
  all_goals rename_i k _ _
  all_goals have hk : k < y.stack.length := by omega
  all_goals first
   | (refine roundNT_turn (turn_close (id := 9) (i := k) (j := 3) (id' := 6) rfl (Nat.lt_succ_self k) (show 3 < 4 by decide) cat_k rfl (show 9 ≠ 6 by decide) rfl ⟨Nat.le_refl _, fun i j _ _ => HoldC.h (c := intC) _ j⟩) ?_; refine roundNT_turn (turn_close (id := 4) (i := 0) (j := 3) (id' := 9) rfl (show 0 < 1 by decide) (show 3 < 6 by decide) rfl rfl (show 4 ≠ 9 by decide) rfl ⟨Nat.le_refl _, snoc_idf3 (by rw [List.length_take]; omega) trivial trivial trivial (fun i j _ _ => HoldC.h (c := intC) _ j)⟩) ?_; refine roundNT_turn (turn_box (id := 4) (ds := y.part (k + 1)) rfl rfl rfl (.cons (.refl _) (.cons (.refl _) (.cons (.refl _) (.cons (.ow (fun i j _ _ => HoldC.h _ j) (fun i j hi hj => (by rw [take_call hk]; exact snoc_call (t := y.stack.getD k default) (by rw [List.length_take]; omega) rfl rfl rfl rfl (fun i j _ _ => .refl _) i j hi hj))) (.cons (.refl _) (.cons (.refl _) .nil))))))) ?_)
   | (refine roundNT_turn (turn_close (id := 4) (i := 0) (j := 3) (id' := 8) rfl (show 0 < 1 by decide) (show 3 < 6 by decide) rfl rfl (show 4 ≠ 8 by decide) rfl ⟨Nat.le_refl _, snoc_idf (by rw [List.length_take]; omega) (fun j hj => (by rcases (show j = 0 ∨ j = 1 ∨ j = 2 ∨ j = 3 by (have hj' : j < 4 := hj); omega) with rfl | rfl | rfl | rfl <;> exact trivial))⟩) ?_; refine roundNT_turn (turn_box (id := 4) (ds := y.part (k + 1)) rfl rfl rfl (.cons (.refl _) (.cons (.refl _) (.cons (.refl _) (.cons (.ow (fun i j _ _ => HoldC.h _ j) (fun i j hi hj => (by rw [take_call hk]; exact snoc_callN (t := y.stack.getD k default) (by rw [List.length_take]; omega) rfl rfl rfl rfl (by assumption) i j hi hj))) (.cons (.refl _) (.cons (.refl _) .nil))))))) ?_)
   | trace_state
  all_goals refine roundNT_end ?_
  repeat' (first | exact aa | ((conv => whnf) <;> (first | refine And.intro ?_ ?_ | (intro _h; first | contradiction | (try simp only [dd] at _h)) | (refine dt_go ?_) | exact rfl | exact True.intro | exact dkk | exact dks | (refine wrap_succ ?_; omega))))
set_option maxRecDepth 8000
set_option maxHeartbeats 4000000 in
theorem dropIn_impl1 (y : Yard) (h : y.ok) (num : Int) (hn : ¬ y.dropI num) : RetM env.P 9 [] [.agg y.cs, .i .i64 num] (fun r H => r = .tup [.agg yaZ, .agg [.i .i64 0, .i .i64 0, .i .i64 0], .i .i64 1] ∧ H = []) := by
 refine ret_ofM (nt := 41) (rvs := [.cell 4 37, .cell 5 39, .tmp 6]) Tryz.func9 rfl rfl rfl rfl (fun X hX => ?_)
 repeat' (first | exact aa | ((conv => whnf) <;> (first | exact absurd ⟨Classical.not_not.1 ‹_›, ‹_›⟩ hn | refine And.intro ?_ ?_ | (intro _h; first | contradiction | (try simp only [dd] at _h)) | (refine dt_go ?_) | exact rfl | exact True.intro | exact dkk | exact dks | ((first | refine .inl ⟨_, yardOk_impl y h, ?_⟩ | refine ⟨_, yardOk_impl y h, ?_⟩); (try rintro _ rfl)) | ((first | refine .inl ⟨_, within_ok _ _ _, ?_⟩ | refine ⟨_, within_ok _ _ _, ?_⟩); (try rintro _ rfl)) | ((first | refine .inl ⟨_, isId_ok _, ?_⟩ | refine ⟨_, isId_ok _, ?_⟩); (try rintro _ rfl)) | (refine wrap_succ ?_; omega))))
 all_goals first
  | (exfalso; exact hn ⟨Classical.not_not.1 ‹_›, ‹_›⟩)
  | (exfalso; exact hn ⟨‹_›, ‹_›⟩)
  | skip
 all_goals (conv => whnf)
 all_goals first
  | exact endM_pick [] [] (.tup [.agg yaZ, .agg [.i .i64 0, .i .i64 0, .i .i64 0], .i .i64 1]) (view_of rfl .nil) rfl rfl (fun k hk => by rw [hX] at hk; exact absurd hk (Nat.not_lt_zero _)) ⟨rfl, rfl⟩
  | trace_state
set_option maxHeartbeats 4000000 in
theorem dropIn_implE (y : Yard) (h : y.ok) (num c : Int) (hc : ¬ c = 0) (hm : y.dropI num) (hL : RetM env.P 40 [some (boxRow y.shelf.csO)] [.ptr 0 0 0, .i .i64 (topV y.stack), .i .i64 num] (fun r H => r = .tup [.agg [.i .i64 0, .i .i64 0, .i .i64 0], .i .i64 c] ∧ H = [some (boxRow y.shelf.csO)])) : RetM env.P 9 [] [.agg y.cs, .i .i64 num] (fun r H => r = .tup [.agg yaZ, .agg [.i .i64 0, .i .i64 0, .i .i64 0], .i .i64 c] ∧ H = []) := by
 have h1 : 1 ≤ y.shelf.tables.length := by have := hm.1.2.1.1; omega
 obtain ⟨m1, m2⟩ := hm
 refine ret_ofM (nt := 41) (rvs := [.cell 4 37, .cell 5 39, .tmp 6]) Tryz.func9 rfl rfl rfl rfl (fun X hX => ?_)
 repeat' (first | exact aa | ((conv => whnf) <;> (first | (refine dt_goC (id := 4) [4] ?_) | (refine .inr (.inl (.inl ⟨[], _, _, _, yardOf_ok y h h1, (view_of rfl .nil), ⟨rfl, rfl⟩, ?_⟩)); rintro _ _ ⟨rfl, rfl⟩; refine ⟨rfl, _, lok_yb, ?_⟩) | ((first | refine .inl ⟨_, Ret.wk (.cons (Wk.rfLo (.cons (Wk.refl _) (.cons (shr_ow (d := 1) (k := 2)) (.cons (Wk.refl _) (.cons (Wk.refl _) .nil))))) .nil) (top_ok y.stack h.2.1.1 _ _ _), ?_⟩ | refine ⟨_, Ret.wk (.cons (Wk.rfLo (.cons (Wk.refl _) (.cons (shr_ow (d := 1) (k := 2)) (.cons (Wk.refl _) (.cons (Wk.refl _) .nil))))) .nil) (top_ok y.stack h.2.1.1 _ _ _), ?_⟩); (try rintro _ rfl)) | refine And.intro ?_ ?_ | (intro _h; first | contradiction | (try simp only [dd] at _h)) | (refine dt_go ?_) | exact rfl | exact True.intro | exact dkk | exact dks | ((first | refine .inl ⟨_, yardOk_impl y h, ?_⟩ | refine ⟨_, yardOk_impl y h, ?_⟩); (try rintro _ rfl)) | ((first | refine .inl ⟨_, within_ok _ _ _, ?_⟩ | refine ⟨_, within_ok _ _ _, ?_⟩); (try rintro _ rfl)) | ((first | refine .inl ⟨_, isId_ok _, ?_⟩ | refine ⟨_, isId_ok _, ?_⟩); (try rintro _ rfl)) | (refine .inr (.inl (.inl ⟨[4], _, _, _, hL, viewA, ⟨rfl, rfl⟩, ?_⟩)); rintro _ _ ⟨rfl, rfl⟩; refine ⟨rfl, _, lokA, ?_⟩) | (refine wrap_succ ?_; omega))))
 all_goals (first | contradiction | skip)
 all_goals (try (conv => whnf))
 all_goals first
  | exact endM_pick [] [] (.tup [.agg yaZ, .agg [.i .i64 0, .i .i64 0, .i .i64 0], .i .i64 c]) (view_of rfl .nil) rfl rfl (fun k hk => by rw [hX] at hk; exact absurd hk (Nat.not_lt_zero _)) ⟨rfl, rfl⟩
  | trace_state
set_option maxHeartbeats 8000000 in
theorem dropIn_implF (y : Yard) (s' : Shelf) (h : y.ok) (num : Int) (x : Thing) (ho : (s'.yd y).ok) (hl1 : 1 ≤ s'.tables.length) (hm : y.dropI num) (hL : RetM env.P 40 [some (boxRow y.shelf.csO)] [.ptr 0 0 0, .i .i64 (topV y.stack), .i .i64 num] (fun r H => r = .tup [.agg x.cs, .i .i64 0] ∧ H = [some (boxRow s'.csO)])) : RetM env.P 9 [] [.agg y.cs, .i .i64 num] (fun r H => r = .tup [.agg (s'.yd y).resO, .agg x.cs, .i .i64 0] ∧ H = (s'.yd y).rowsO) := by
 have h1 : 1 ≤ y.shelf.tables.length := by have := hm.1.2.1.1; omega
 obtain ⟨m1, m2⟩ := hm
 refine ret_ofM (nt := 41) (rvs := [.cell 4 37, .cell 5 39, .tmp 6]) Tryz.func9 rfl rfl rfl rfl (fun X hX => ?_)
 repeat' (first | exact aa | ((conv => whnf) <;> (first | (refine dt_goC (id := 4) [4] ?_) | (refine .inr (.inl (.inl ⟨[], _, _, _, yardOf_ok y h h1, (view_of rfl .nil), ⟨rfl, rfl⟩, ?_⟩)); rintro _ _ ⟨rfl, rfl⟩; refine ⟨rfl, _, lok_yb, ?_⟩) | ((first | refine .inl ⟨_, Ret.wk (.cons (Wk.rfLo (.cons (Wk.refl _) (.cons (shr_ow (d := 1) (k := 2)) (.cons (Wk.refl _) (.cons (Wk.refl _) .nil))))) .nil) (top_ok y.stack h.2.1.1 _ _ _), ?_⟩ | refine ⟨_, Ret.wk (.cons (Wk.rfLo (.cons (Wk.refl _) (.cons (shr_ow (d := 1) (k := 2)) (.cons (Wk.refl _) (.cons (Wk.refl _) .nil))))) .nil) (top_ok y.stack h.2.1.1 _ _ _), ?_⟩); (try rintro _ rfl)) | ((refine .inr (.inl (.inr (.inl ⟨_, RetM.wk (by ((repeat (first | exact WkL.nil | refine WkL.cons ?_ ?_ | exact Wk.refl _ | exact Wk.rfc rfl | refine Wk.fn ?_ | exact Wk.nilS0 | exact shr_L (d := 0) (k := 4) rfl | exact shr_L (d := 1) (k := 3) rfl | exact shr_L (d := 2) (k := 2) rfl | exact shr_L (d := 0) (k := 4) (by simp only [markL_len]) | exact shr_L (d := 1) (k := 3) (by simp only [markL_len]) | refine Wk.agg ?_ | exact shr_L (d := 0) (k := 3) rfl | exact shr_L (d := 1) (k := 2) rfl | exact shr_ow (d := 1) (k := 2) | exact shr_ow (d := 0) (k := 3) | exact shr_ow (d := 1) (k := 1) | exact shr_ow (d := 0) (k := 2) | refine Wk.rfLo ?_)); first | done | fail)) (yard_ok (s'.yd y) ho hl1), ?_⟩))); rintro _ _ ⟨rfl, rfl⟩; refine ⟨⟨rfl, nssA⟩, _, lokA, ?_⟩)) | refine And.intro ?_ ?_ | (intro _h; first | contradiction | (try simp only [dd] at _h)) | (refine dt_go ?_) | exact rfl | exact True.intro | exact dkk | exact dks | ((first | refine .inl ⟨_, yardOk_impl y h, ?_⟩ | refine ⟨_, yardOk_impl y h, ?_⟩); (try rintro _ rfl)) | ((first | refine .inl ⟨_, within_ok _ _ _, ?_⟩ | refine ⟨_, within_ok _ _ _, ?_⟩); (try rintro _ rfl)) | ((first | refine .inl ⟨_, isId_ok _, ?_⟩ | refine ⟨_, isId_ok _, ?_⟩); (try rintro _ rfl)) | (refine .inr (.inl (.inl ⟨[4], _, _, _, hL, viewA, ⟨rfl, rfl⟩, ?_⟩)); rintro _ _ ⟨rfl, rfl⟩; refine ⟨rfl, _, lokA, ?_⟩) | (refine wrap_succ ?_; omega))))
 all_goals (first | contradiction | skip)
 all_goals (try (conv => whnf))
 all_goals first
  | exact endM_pick [6, 7, 8, 9] (s'.yd y).rowsO (.tup [.agg (s'.yd y).resO, .agg x.cs, .i .i64 0]) (view_of rfl (.cons rfl (.self (rowPl_L fun _ => rfl)) (.cons rfl (.self (rowPl_L fun _ => rfl)) (.cons rfl (.self (rowPl_L fun _ => rfl)) (.cons rfl (.self (rowPl_L fun _ => rfl)) .nil))))) rfl rfl (fun k hk => by rw [hX] at hk; exact absurd hk (Nat.not_lt_zero _)) ⟨rfl, rfl⟩
  | trace_state
theorem markL_bound {α : Type} {f : α → Int → α × Int} {B : Nat} : ∀ (l : List α), (∀ a ∈ l, ∀ k, (f a k).2 ≤ k + B) → ∀ k, (markL f l k).2 ≤ k + (l.length * B : Nat)
 | [], _, k => by simp [markL]
 | a :: l, h, k => by
  have h1 := markL_bound l (fun b hb => h b (List.mem_cons_of_mem _ hb)) (f a k).2
  have h2 := h a List.mem_cons_self k
  show (markL f l (f a k).2).2 ≤ _
  rw [List.length_cons, Nat.succ_mul]
  omega
theorem okL_mem {α : Type} [Inhabited α] {p : α → Prop} {l : List α} (h : okL p l) {a : α} (ha : a ∈ l) : p a := by
 obtain ⟨i, hi, rfl⟩ := List.mem_iff_getElem.1 ha
 have := h.2 i hi
 rwa [List.getD_eq_getElem?_getD, List.getElem?_eq_getElem hi] at this
theorem entry_bound (a : Entry) (k : Int) : (Entry.mkE a k).2 ≤ k + (7 : Nat) := by simp only [Entry.mkE]; omega
theorem thing_bound (a : Thing) (k : Int) : (Thing.mkE a k).2 ≤ k + (3 : Nat) := by simp only [Thing.mkE]; omega
theorem table_bound (a : Table) (h : a.ok) (k : Int) : (Table.mkE a k).2 ≤ k + (7340033 : Nat) := by
 have h1 := markL_bound (f := Entry.mkE) (B := 7) a.entries (fun b _ => entry_bound b) (k + 1)
 have h2 : a.entries.length ≤ 1048576 := h.1
 simp only [Table.mkE]
 omega
end Go.Proofs.YtmjjadcmmpfljaaGreat
