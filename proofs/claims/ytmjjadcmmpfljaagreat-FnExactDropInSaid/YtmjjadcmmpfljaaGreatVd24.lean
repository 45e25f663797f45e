/- Texts for VDropInP. -/
import Derived.Test.YtmjjadcmmpfljaaGreatVd23
namespace Go.Proofs.YtmjjadcmmpfljaaGreat
open Go Go.RowKit
set_option linter.unusedVariables false
set_option linter.unusedSimpArgs false
theorem OwEq.len {sz n m : Nat} {g g' : Nat → Nat → AV} (e : n = m) (hf : ∀ i j, i < n → j < sz → (g' i j).idfO) (h : ∀ i j, i < n → j < sz → OwEq (g i j) (g' i j)) : OwEq (.ow sz n g) (.ow sz m g') := by subst e; exact .ow hf h
theorem capB {n b : Nat} (h : n ≤ 1048576) (hb : b ≤ 1000) : (0 + n) * b ≤ 140737488355328 := by
 rw [Nat.zero_add]
 exact Nat.le_trans (Nat.mul_le_mul h hb) (by decide)
theorem capN {n : Nat} (h : n ≤ 1048576) : 0 + n ≤ 9223372036854775807 := by omega
theorem entLe {s : Shelf} (h : s.ok) (k : Nat) : (s.tables.getD k default).entries.length ≤ 1048576 := by
 by_cases hk : k < s.tables.length
 ·exact (h.1.2 k hk).1
 ·rw [List.getD_eq_getElem?_getD, List.getElem?_eq_none (by omega)]
  exact Nat.zero_le _
theorem cat_k {n : Nat} {es g : Nat → Nat → AV} {j : Nat} : catE n es g n j = g 0 j := by rw [catE_at, if_neg (Nat.lt_irrefl n), Nat.sub_self]
theorem snoc_tbl {k m : Nat} {l : List Table} {t : Table} {g e : Nat → Nat → AV} (hk : k = l.length) (h0 : g 0 0 = .i .i64 t.next) (hn : m = t.entries.length) (he : ∀ i j, i < m → j < 7 → OwEq (e i j) (elE Entry.cs t.entries i j)) : ∀ i j, i < k + 1 → j < 2 → OwEq (upd (catE k (elE Table.csO l) g) k 1 [.ow 7 m e] i j) (elE Table.csO (l ++ [t]) i j) := fun i j hi hj => by
 by_cases e1 : i = k
 ·subst e1
  have hr : elE Table.csO (l ++ [t]) i j = (Table.csO t).getD j .any := by
   unfold elE
   rw [getD_snoc, if_neg (by omega), if_pos hk]
  rw [hr]
  rcases (show j = 0 ∨ j = 1 by omega) with rfl | rfl
  ·rw [upd_out (by omega), cat_k, h0]; exact .refl _
  ·rw [show (1 : Nat) = 1 + 0 from rfl, upd_in (Nat.lt_succ_self 0)]
   exact OwEq.len hn (fun i j _ _ => HoldC.h _ j) he
 ·rw [upd_miss e1]
  have : i < k := by omega
  rw [catE_at, if_pos this]
  unfold elE
  rw [getD_snoc, if_pos (by omega)]
  exact .refl _
theorem snoc_idf2 {k m : Nat} {l : List Table} {g e : Nat → Nat → AV} (hk : k = l.length) (h0 : (g 0 0).idfO) (he : ∀ i j, i < m → j < 7 → (e i j).idfO) : ∀ i j, i < k + 1 → j < 2 → (upd (catE k (elE Table.csO l) g) k 1 [.ow 7 m e] i j).idfO := fun i j hi hj => by
 by_cases e1 : i = k
 ·subst e1
  rcases (show j = 0 ∨ j = 1 by omega) with rfl | rfl
  ·rw [upd_out (by omega), cat_k]; exact h0
  ·rw [show (1 : Nat) = 1 + 0 from rfl, upd_in (Nat.lt_succ_self 0)]
   exact he
 ·rw [upd_miss e1]
  have : i < k := by omega
  rw [catE_at, if_pos this]
  exact HoldC.h _ j
set_option maxRecDepth 8000 in
set_option maxHeartbeats 8000000 in
theorem l19Own_ok (s : Shelf) (h : s.ok) (h1 : 1 ≤ s.tables.length) : RetM env.P 67 [] [rfL s.cs] (fun r H => r = .agg s.resO ∧ H = s.rowsO) := by
 have hl : s.tables.length ≤ 1048576 := h.1.1
 have hl2 : s.things.length ≤ 1048576 := h.2.1
 refine ret_ofM (nt := 50) (rvs := [.cell 2 34]) Tryz.func67 rfl rfl rfl rfl (fun X hX => ?_)
 repeat' (first | exact aa | ((conv => whnf) <;> (first | refine And.intro ?_ ?_ | (intro _h; first | contradiction | (try simp only [dd] at _h)) | (refine dt_go ?_) | exact rfl | exact True.intro | exact dkk | exact dks | (refine wrap_succ ?_; omega))))
 ·conv => whnf
  refine lw_turn _ (turn_eq (id := 2) (x := rowL 3 Thing.cs s.things) rfl rfl (Nat.zero_add _).symm rfl rfl (fun i j _ _ => .refl _)) ?_
  refine lw_turn _ (turn_close (id := 3) (i := 0) (j := 2) (id' := 2) rfl (show 0 < 1 by decide) (show 2 < 3 by decide) rfl rfl (show 3 ≠ 2 by decide) rfl (rowO_le (Nat.le_of_eq (Nat.zero_add _)))) ?_
  refine lw_turn [some (boxRow [.i .i64 0, .nils, .nils]), none, none, some (boxRow [.i .i64 s.next, .ow 2 0 (elE Table.csO (s.tables.take 0)), owL 3 Thing.cs s.things])] (turn_box (id := 3) (ds := [.i .i64 s.next, .ow 2 0 (elE Table.csO (s.tables.take 0)), owL 3 Thing.cs s.things]) rfl rfl rfl (.cons (.refl _) (.cons (.nil _ _) (.cons (OwEq.len (Nat.zero_add _) (fun i j _ _ => HoldC.h _ j) (fun i j _ _ => .refl _)) .nil)))) ?_
  refine loopNT s.tables.length (fun k => [(4, .i .i64 k)]) (fun k => [none, none, none, some (.box [.i .i64 s.next, .ow 2 k (elE Table.csO (s.tables.take k)), owL 3 Thing.cs s.things])]) (fun k => True) ⟨trivial, ?_⟩
  repeat' (first | exact aa | ((conv => whnf) <;> (first | exact capB (entLe h _) (by decide) | exact capN (entLe h _) | refine And.intro ?_ ?_ | (intro _h; first | contradiction | (try simp only [dd] at _h)) | (refine dt_go ?_) | exact rfl | exact True.intro | exact dkk | exact dks | (refine wrap_succ ?_; omega))))
  rotate_right
  ·conv => whnf
   rename_i k _ _
   obtain rfl : k = s.tables.length := by omega
   exact endM_pick [4, 5] [some (rowL 2 Table.csO (s.tables.take s.tables.length)), some (rowL 3 Thing.cs s.things)] (.agg s.resO) (view_of rfl (.cons rfl (.L (by rw [List.take_length]) (fun _ => rfl)) (.cons rfl (.self (rowPl_L fun _ => rfl)) .nil))) rfl rfl (fun k hk => by rw [hX] at hk; exact absurd hk (Nat.not_lt_zero _)) ⟨rfl, by rw [List.take_length]; rfl⟩
  all_goals (conv => whnf)
  all_goals rename_i k _ _
  all_goals have hk : k < s.tables.length := by omega
  all_goals first
   | refine roundNT_turn (turn_close (id := 8) (i := k) (j := 1) (id' := 6) rfl (Nat.lt_succ_self k) (show 1 < 2 by decide) cat_k rfl (show 8 ≠ 6 by decide) rfl ⟨Nat.le_refl _, fun i j _ _ => HoldC.h (c := Entry.cs) _ j⟩) ?_
   | refine roundNT_turn (turn_close (id := 8) (i := k) (j := 1) (id' := 5) rfl (Nat.lt_succ_self k) (show 1 < 2 by decide) cat_k rfl (show 8 ≠ 5 by decide) rfl ⟨Nat.le_refl _, fun i j _ _ => HoldC.h (c := Entry.cs) _ j⟩) ?_
  all_goals refine roundNT_turn (turn_close (id := 3) (i := 0) (j := 1) (id' := 8) rfl (show 0 < 1 by decide) (show 1 < 3 by decide) rfl rfl (show 3 ≠ 8 by decide) rfl ⟨Nat.le_refl _, snoc_idf2 (by rw [List.length_take]; omega) trivial (fun i j _ _ => HoldC.h (c := Entry.cs) _ j)⟩) ?_
  all_goals refine roundNT_turn (turn_box (id := 3) (ds := [.i .i64 s.next, .ow 2 (k + 1) (elE Table.csO (s.tables.take (k + 1))), owL 3 Thing.cs s.things]) rfl rfl rfl (.cons (.refl _) (.cons (.ow (fun i j _ _ => HoldC.h _ j) (fun i j hi hj => by rw [take_snoc hk]; exact snoc_tbl (t := s.tables.getD k default) (by rw [List.length_take]; omega) rfl (Nat.zero_add _) (fun i j _ _ => .refl _) i j hi hj)) (.cons (.refl _) .nil)))) ?_
  all_goals refine roundNT_end ?_
  repeat' (first | exact aa | ((conv => whnf) <;> (first | refine And.intro ?_ ?_ | (intro _h; first | contradiction | (try simp only [dd] at _h)) | (refine dt_go ?_) | exact rfl | exact True.intro | exact dkk | exact dks | (refine wrap_succ ?_; omega))))
 ·conv => whnf
  refine lw_turn _ (turn_eq (id := 2) (x := rowL 3 Thing.cs s.things) rfl rfl (Nat.zero_add _).symm rfl rfl (fun i j _ _ => .refl _)) ?_
  refine lw_turn _ (turn_close (id := 3) (i := 0) (j := 2) (id' := 2) rfl (show 0 < 1 by decide) (show 2 < 3 by decide) rfl rfl (show 3 ≠ 2 by decide) rfl (rowO_le (Nat.le_of_eq (Nat.zero_add _)))) ?_
  refine lw_turn [some (boxRow [.i .i64 0, .nils, .nils]), none, none, some (boxRow [.i .i64 s.next, .ow 2 0 (elE Table.csO (s.tables.take 0)), owL 3 Thing.cs s.things])] (turn_box (id := 3) (ds := [.i .i64 s.next, .ow 2 0 (elE Table.csO (s.tables.take 0)), owL 3 Thing.cs s.things]) rfl rfl rfl (.cons (.refl _) (.cons (.nil _ _) (.cons (OwEq.len (Nat.zero_add _) (fun i j _ _ => HoldC.h _ j) (fun i j _ _ => .refl _)) .nil)))) ?_
  refine loopNT s.tables.length (fun k => [(4, .i .i64 k)]) (fun k => [none, none, none, some (.box [.i .i64 s.next, .ow 2 k (elE Table.csO (s.tables.take k)), owL 3 Thing.cs s.things])]) (fun k => True) ⟨trivial, ?_⟩
  repeat' (first | exact aa | ((conv => whnf) <;> (first | exact capB (entLe h _) (by decide) | exact capN (entLe h _) | refine And.intro ?_ ?_ | (intro _h; first | contradiction | (try simp only [dd] at _h)) | (refine dt_go ?_) | exact rfl | exact True.intro | exact dkk | exact dks | (refine wrap_succ ?_; omega))))
  rotate_right
  ·conv => whnf
   rename_i k _ _
   obtain rfl : k = s.tables.length := by omega
   exact endM_pick [4, 5] [some (rowL 2 Table.csO (s.tables.take s.tables.length)), some (rowL 3 Thing.cs s.things)] (.agg s.resO) (view_of rfl (.cons rfl (.L (by rw [List.take_length]) (fun _ => rfl)) (.cons rfl (.self (rowPl_L fun _ => rfl)) .nil))) rfl rfl (fun k hk => by rw [hX] at hk; exact absurd hk (Nat.not_lt_zero _)) ⟨rfl, by rw [List.take_length]; rfl⟩
  all_goals (conv => whnf)
  all_goals rename_i k _ _
  all_goals have hk : k < s.tables.length := by omega
  all_goals first
   | refine roundNT_turn (turn_close (id := 8) (i := k) (j := 1) (id' := 6) rfl (Nat.lt_succ_self k) (show 1 < 2 by decide) cat_k rfl (show 8 ≠ 6 by decide) rfl ⟨Nat.le_refl _, fun i j _ _ => HoldC.h (c := Entry.cs) _ j⟩) ?_
   | refine roundNT_turn (turn_close (id := 8) (i := k) (j := 1) (id' := 5) rfl (Nat.lt_succ_self k) (show 1 < 2 by decide) cat_k rfl (show 8 ≠ 5 by decide) rfl ⟨Nat.le_refl _, fun i j _ _ => HoldC.h (c := Entry.cs) _ j⟩) ?_
  all_goals refine roundNT_turn (turn_close (id := 3) (i := 0) (j := 1) (id' := 8) rfl (show 0 < 1 by decide) (show 1 < 3 by decide) rfl rfl (show 3 ≠ 8 by decide) rfl ⟨Nat.le_refl _, snoc_idf2 (by rw [List.length_take]; omega) trivial (fun i j _ _ => HoldC.h (c := Entry.cs) _ j)⟩) ?_
  all_goals refine roundNT_turn (turn_box (id := 3) (ds := [.i .i64 s.next, .ow 2 (k + 1) (elE Table.csO (s.tables.take (k + 1))), owL 3 Thing.cs s.things]) rfl rfl rfl (.cons (.refl _) (.cons (.ow (fun i j _ _ => HoldC.h _ j) (fun i j hi hj => by rw [take_snoc hk]; exact snoc_tbl (t := s.tables.getD k default) (by rw [List.length_take]; omega) rfl (Nat.zero_add _) (fun i j _ _ => .refl _) i j hi hj)) (.cons (.refl _) .nil)))) ?_
  all_goals refine roundNT_end ?_
  repeat' (first | exact aa | ((conv => whnf) <;> (first | refine And.intro ?_ ?_ | (intro _h; first | contradiction | (try simp only [dd] at _h)) | (refine dt_go ?_) | exact rfl | exact True.intro | exact dkk | exact dks | (refine wrap_succ ?_; omega))))
 ·conv => whnf
  refine lw_turn _ (turn_eq (id := 3) (x := rowL 3 Thing.cs s.things) rfl rfl (Nat.zero_add _).symm rfl rfl (fun i j _ _ => .refl _)) ?_
  refine lw_turn _ (turn_close (id := 2) (i := 0) (j := 2) (id' := 3) rfl (show 0 < 1 by decide) (show 2 < 3 by decide) rfl rfl (show 2 ≠ 3 by decide) rfl (rowO_le (Nat.le_of_eq (Nat.zero_add _)))) ?_
  refine lw_turn [some (boxRow [.i .i64 0, .nils, .nils]), none, some (boxRow [.i .i64 s.next, .ow 2 0 (elE Table.csO (s.tables.take 0)), owL 3 Thing.cs s.things]), none] (turn_box (id := 2) (ds := [.i .i64 s.next, .ow 2 0 (elE Table.csO (s.tables.take 0)), owL 3 Thing.cs s.things]) rfl rfl rfl (.cons (.refl _) (.cons (.nil _ _) (.cons (OwEq.len (Nat.zero_add _) (fun i j _ _ => HoldC.h _ j) (fun i j _ _ => .refl _)) .nil)))) ?_
  refine loopNT s.tables.length (fun k => [(4, .i .i64 k)]) (fun k => [none, none, some (.box [.i .i64 s.next, .ow 2 k (elE Table.csO (s.tables.take k)), owL 3 Thing.cs s.things]), none]) (fun k => True) ⟨trivial, ?_⟩
  repeat' (first | exact aa | ((conv => whnf) <;> (first | exact capB (entLe h _) (by decide) | exact capN (entLe h _) | refine And.intro ?_ ?_ | (intro _h; first | contradiction | (try simp only [dd] at _h)) | (refine dt_go ?_) | exact rfl | exact True.intro | exact dkk | exact dks | (refine wrap_succ ?_; omega))))
  rotate_right
  ·conv => whnf
   rename_i k _ _
   obtain rfl : k = s.tables.length := by omega
   exact endM_pick [4, 5] [some (rowL 2 Table.csO (s.tables.take s.tables.length)), some (rowL 3 Thing.cs s.things)] (.agg s.resO) (view_of rfl (.cons rfl (.L (by rw [List.take_length]) (fun _ => rfl)) (.cons rfl (.self (rowPl_L fun _ => rfl)) .nil))) rfl rfl (fun k hk => by rw [hX] at hk; exact absurd hk (Nat.not_lt_zero _)) ⟨rfl, by rw [List.take_length]; rfl⟩
  all_goals (conv => whnf)
  all_goals rename_i k _ _
  all_goals have hk : k < s.tables.length := by omega
  all_goals first
   | refine roundNT_turn (turn_close (id := 8) (i := k) (j := 1) (id' := 6) rfl (Nat.lt_succ_self k) (show 1 < 2 by decide) cat_k rfl (show 8 ≠ 6 by decide) rfl ⟨Nat.le_refl _, fun i j _ _ => HoldC.h (c := Entry.cs) _ j⟩) ?_
   | refine roundNT_turn (turn_close (id := 8) (i := k) (j := 1) (id' := 5) rfl (Nat.lt_succ_self k) (show 1 < 2 by decide) cat_k rfl (show 8 ≠ 5 by decide) rfl ⟨Nat.le_refl _, fun i j _ _ => HoldC.h (c := Entry.cs) _ j⟩) ?_
  all_goals refine roundNT_turn (turn_close (id := 2) (i := 0) (j := 1) (id' := 8) rfl (show 0 < 1 by decide) (show 1 < 3 by decide) rfl rfl (show 2 ≠ 8 by decide) rfl ⟨Nat.le_refl _, snoc_idf2 (by rw [List.length_take]; omega) trivial (fun i j _ _ => HoldC.h (c := Entry.cs) _ j)⟩) ?_
  all_goals refine roundNT_turn (turn_box (id := 2) (ds := [.i .i64 s.next, .ow 2 (k + 1) (elE Table.csO (s.tables.take (k + 1))), owL 3 Thing.cs s.things]) rfl rfl rfl (.cons (.refl _) (.cons (.ow (fun i j _ _ => HoldC.h _ j) (fun i j hi hj => by rw [take_snoc hk]; exact snoc_tbl (t := s.tables.getD k default) (by rw [List.length_take]; omega) rfl (Nat.zero_add _) (fun i j _ _ => .refl _) i j hi hj)) (.cons (.refl _) .nil)))) ?_
  all_goals refine roundNT_end ?_
  repeat' (first | exact aa | ((conv => whnf) <;> (first | refine And.intro ?_ ?_ | (intro _h; first | contradiction | (try simp only [dd] at _h)) | (refine dt_go ?_) | exact rfl | exact True.intro | exact dkk | exact dks | (refine wrap_succ ?_; omega))))
 ·conv => whnf
  refine lw_turn _ (turn_eq (id := 3) (x := rowL 3 Thing.cs s.things) rfl rfl (Nat.zero_add _).symm rfl rfl (fun i j _ _ => .refl _)) ?_
  refine lw_turn _ (turn_close (id := 1) (i := 0) (j := 2) (id' := 3) rfl (show 0 < 1 by decide) (show 2 < 3 by decide) rfl rfl (show 1 ≠ 3 by decide) rfl (rowO_le (Nat.le_of_eq (Nat.zero_add _)))) ?_
  refine lw_turn [some (boxRow [.i .i64 0, .nils, .nils]), some (boxRow [.i .i64 s.next, .ow 2 0 (elE Table.csO (s.tables.take 0)), owL 3 Thing.cs s.things]), none, none] (turn_box (id := 1) (ds := [.i .i64 s.next, .ow 2 0 (elE Table.csO (s.tables.take 0)), owL 3 Thing.cs s.things]) rfl rfl rfl (.cons (.refl _) (.cons (.nil _ _) (.cons (OwEq.len (Nat.zero_add _) (fun i j _ _ => HoldC.h _ j) (fun i j _ _ => .refl _)) .nil)))) ?_
  refine loopNT s.tables.length (fun k => [(4, .i .i64 k)]) (fun k => [none, some (.box [.i .i64 s.next, .ow 2 k (elE Table.csO (s.tables.take k)), owL 3 Thing.cs s.things]), none, none]) (fun k => True) ⟨trivial, ?_⟩
  repeat' (first | exact aa | ((conv => whnf) <;> (first | exact capB (entLe h _) (by decide) | exact capN (entLe h _) | refine And.intro ?_ ?_ | (intro _h; first | contradiction | (try simp only [dd] at _h)) | (refine dt_go ?_) | exact rfl | exact True.intro | exact dkk | exact dks | (refine wrap_succ ?_; omega))))
  rotate_right
  ·conv => whnf
   rename_i k _ _
   obtain rfl : k = s.tables.length := by omega
   exact endM_pick [4, 5] [some (rowL 2 Table.csO (s.tables.take s.tables.length)), some (rowL 3 Thing.cs s.things)] (.agg s.resO) (view_of rfl (.cons rfl (.L (by rw [List.take_length]) (fun _ => rfl)) (.cons rfl (.self (rowPl_L fun _ => rfl)) .nil))) rfl rfl (fun k hk => by rw [hX] at hk; exact absurd hk (Nat.not_lt_zero _)) ⟨rfl, by rw [List.take_length]; rfl⟩
  all_goals (conv => whnf)
  all_goals rename_i k _ _
  all_goals have hk : k < s.tables.length := by omega
  all_goals first
   | refine roundNT_turn (turn_close (id := 8) (i := k) (j := 1) (id' := 6) rfl (Nat.lt_succ_self k) (show 1 < 2 by decide) cat_k rfl (show 8 ≠ 6 by decide) rfl ⟨Nat.le_refl _, fun i j _ _ => HoldC.h (c := Entry.cs) _ j⟩) ?_
   | refine roundNT_turn (turn_close (id := 8) (i := k) (j := 1) (id' := 5) rfl (Nat.lt_succ_self k) (show 1 < 2 by decide) cat_k rfl (show 8 ≠ 5 by decide) rfl ⟨Nat.le_refl _, fun i j _ _ => HoldC.h (c := Entry.cs) _ j⟩) ?_
  all_goals refine roundNT_turn (turn_close (id := 1) (i := 0) (j := 1) (id' := 8) rfl (show 0 < 1 by decide) (show 1 < 3 by decide) rfl rfl (show 1 ≠ 8 by decide) rfl ⟨Nat.le_refl _, snoc_idf2 (by rw [List.length_take]; omega) trivial (fun i j _ _ => HoldC.h (c := Entry.cs) _ j)⟩) ?_
  all_goals refine roundNT_turn (turn_box (id := 1) (ds := [.i .i64 s.next, .ow 2 (k + 1) (elE Table.csO (s.tables.take (k + 1))), owL 3 Thing.cs s.things]) rfl rfl rfl (.cons (.refl _) (.cons (.ow (fun i j _ _ => HoldC.h _ j) (fun i j hi hj => by rw [take_snoc hk]; exact snoc_tbl (t := s.tables.getD k default) (by rw [List.length_take]; omega) rfl (Nat.zero_add _) (fun i j _ _ => .refl _) i j hi hj)) (.cons (.refl _) .nil)))) ?_
  all_goals refine roundNT_end ?_
  repeat' (first | exact aa | ((conv => whnf) <;> (first | refine And.intro ?_ ?_ | (intro _h; first | contradiction | (try simp only [dd] at _h)) | (refine dt_go ?_) | exact rfl | exact True.intro | exact dkk | exact dks | (refine wrap_succ ?_; omega))))
end Go.Proofs.YtmjjadcmmpfljaaGreat
