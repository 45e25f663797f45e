import Derived.Test.YthggkafdjnheeaaGreatVq1
import Derived.Test.YthggkafdjnheeaaGreatVq2
namespace Go.Proofs.YthggkafdjnheeaaGreat
open Go Go.RowKit
set_option linter.unusedVariables false
set_option linter.unusedSimpArgs false
set_option maxRecDepth 8000
theorem OwEq.len {sz n m : Nat} {g g' : Nat → Nat → AV} (e : n = m) (hf : ∀ i j, i < n → j < sz → (g' i j).idfO) (h : ∀ i j, i < n → j < sz → OwEq (g i j) (g' i j)) : OwEq (.ow sz n g) (.ow sz m g') := by subst e; exact .ow hf h
theorem capB {n b : Nat} (h : n ≤ 1048576) (hb : b ≤ 1000) : (0 + n) * b ≤ 140737488355328 := by
  rw [Nat.zero_add]
  exact Nat.le_trans (Nat.mul_le_mul h hb) (by decide)
theorem capN {n : Nat} (h : n ≤ 1048576) : 0 + n ≤ 9223372036854775807 := by omega
theorem entLe {s : Shelf} (h : s.ok) (k : Nat) : (s.tables.getD k default).entries.length ≤ 1048576 := by
  by_cases hk : k < s.tables.length
  · exact (h.1.2 k hk).1
  · rw [List.getD_eq_getElem?_getD, List.getElem?_eq_none (by omega)]
    exact Nat.zero_le _
theorem cat_k {n : Nat} {es g : Nat → Nat → AV} {j : Nat} : catE n es g n j = g 0 j := by rw [catE_at, if_neg (Nat.lt_irrefl n), Nat.sub_self]
theorem snoc_tbl {k m : Nat} {l : List Table} {t : Table} {g e : Nat → Nat → AV} (hk : k = l.length) (h0 : g 0 0 = .i .i64 t.next) (hn : m = t.entries.length) (he : ∀ i j, i < m → j < 7 → OwEq (e i j) (elE Entry.cs t.entries i j)) : ∀ i j, i < k + 1 → j < 2 → OwEq (upd (catE k (elE Table.csO l) g) k 1 [.ow 7 m e] i j) (elE Table.csO (l ++ [t]) i j) := fun i j hi hj => by
  by_cases e1 : i = k
  · subst e1
    have hr : elE Table.csO (l ++ [t]) i j = (Table.csO t).getD j .any := by
      unfold elE
      rw [getD_snoc, if_neg (by omega), if_pos hk]
    rw [hr]
    rcases (show j = 0 ∨ j = 1 by omega) with rfl | rfl
    · rw [upd_out (by omega), cat_k, h0]; exact .refl _
    · rw [show (1 : Nat) = 1 + 0 from rfl, upd_in (Nat.lt_succ_self 0)]
      exact OwEq.len hn (fun i j _ _ => HoldC.h _ j) he
  · rw [upd_miss e1]
    have : i < k := by omega
    rw [catE_at, if_pos this]
    unfold elE
    rw [getD_snoc, if_pos (by omega)]
    exact .refl _
theorem snoc_idf2 {k m : Nat} {l : List Table} {g e : Nat → Nat → AV} (hk : k = l.length) (h0 : (g 0 0).idfO) (he : ∀ i j, i < m → j < 7 → (e i j).idfO) : ∀ i j, i < k + 1 → j < 2 → (upd (catE k (elE Table.csO l) g) k 1 [.ow 7 m e] i j).idfO := fun i j hi hj => by
  by_cases e1 : i = k
  · subst e1
    rcases (show j = 0 ∨ j = 1 by omega) with rfl | rfl
    · rw [upd_out (by omega), cat_k]; exact h0
    · rw [show (1 : Nat) = 1 + 0 from rfl, upd_in (Nat.lt_succ_self 0)]
      exact he
  · rw [upd_miss e1]
    have : i < k := by omega
    rw [catE_at, if_pos this]
    exact HoldC.h _ j
set_option maxHeartbeats 8000000 in
theorem l19Own_ok (s : Shelf) (h : s.ok) (h1 : 1 ≤ s.tables.length) : RetM env.P 46 [] [rfL s.cs] (fun r H => r = .agg s.resO ∧ H = s.rowsO) := by
  have hl : s.tables.length ≤ 1048576 := h.1.1
  have hl2 : s.things.length ≤ 1048576 := h.2.1
  refine ret_ofM (nt := 50) (rvs := [.cell 2 27]) Tryz.func46 rfl rfl rfl rfl (fun X hX => ?_)
  repeat' (first | exact aa | ((conv => whnf) <;> (first | refine And.intro ?_ ?_ | (intro _h; first | contradiction | (try simp only [dd] at _h)) | (refine dt_go ?_) | exact rfl | exact True.intro | exact dkk | exact dks | (refine wrap_succ ?_; omega))))
  · conv => whnf
    refine lw_turn _ (turn_eq (id := 2) (x := rowL 3 Thing.cs s.things) rfl rfl (Nat.zero_add _).symm rfl rfl (fun i j _ _ => .refl _)) ?_
    refine lw_turn _ (turn_close (id := 3) (i := 0) (j := 2) (id' := 2) rfl (show 0 < 1 by decide) (show 2 < 3 by decide) rfl rfl (show 3 ≠ 2 by decide) rfl (rowO_le (Nat.le_of_eq (Nat.zero_add _)))) ?_
    refine lw_turn [some (boxRow [.i .i64 0, .nils, .nils]), none, none, some (boxRow [.i .i64 s.next, .ow 2 0 (elE Table.csO (s.tables.take 0)), owL 3 Thing.cs s.things])] (turn_box (id := 3) (ds := [.i .i64 s.next, .ow 2 0 (elE Table.csO (s.tables.take 0)), owL 3 Thing.cs s.things]) rfl rfl rfl (.cons (.refl _) (.cons (.nil _ _) (.cons (OwEq.len (Nat.zero_add _) (fun i j _ _ => HoldC.h _ j) (fun i j _ _ => .refl _)) .nil)))) ?_
    refine loopNT s.tables.length (fun k => [(4, .i .i64 k)]) (fun k => [none, none, none, some (.box [.i .i64 s.next, .ow 2 k (elE Table.csO (s.tables.take k)), owL 3 Thing.cs s.things])]) (fun k => True) ⟨trivial, ?_⟩
    repeat' (first | exact aa | ((conv => whnf) <;> (first | exact capB (entLe h _) (by decide) | exact capN (entLe h _) | refine And.intro ?_ ?_ | (intro _h; first | contradiction | (try simp only [dd] at _h)) | (refine dt_go ?_) | exact rfl | exact True.intro | exact dkk | exact dks | (refine wrap_succ ?_; omega))))
    rotate_right
    · conv => whnf
      rename_i k _ _
      obtain rfl : k = s.tables.length := by omega
      exact endM_pick [4, 5] [some (rowL 2 Table.csO (s.tables.take s.tables.length)), some (rowL 3 Thing.cs s.things)] (.agg s.resO) (view_of rfl (.cons rfl (.L (by rw [List.take_length]) (fun _ => rfl)) (.cons rfl (.self (rowPl_L fun _ => rfl)) .nil))) rfl rfl (fun k hk => by rw [hX] at hk; exact absurd hk (Nat.not_lt_zero _)) ⟨rfl, by rw [List.take_length]; rfl⟩
    all_goals (conv => whnf)
    all_goals rename_i k _ _
    all_goals have hk : k < s.tables.length := by omega
    all_goals first
      | refine roundNT_turn (turn_close (id := 8) (i := k) (j := 1) (id' := 6) rfl (Nat.lt_succ_self k) (show 1 < 2 by decide) cat_k rfl (show 8 ≠ 6 by decide) rfl ⟨Nat.le_refl _, fun i j _ _ => HoldC.h (c := Entry.cs) _ j⟩) ?_
      | refine roundNT_turn (turn_close (id := 8) (i := k) (j := 1) (id' := 5) rfl (Nat.lt_succ_self k) (show 1 < 2 by decide) cat_k rfl (show 8 ≠ 5 by decide) rfl ⟨Nat.le_refl _, fun i j _ _ => HoldC.h (c := Entry.cs) _ j⟩) ?_
    all_goals refine roundNT_turn (turn_close (id := 3) (i := 0) (j := 1) (id' := 8) rfl (show 0 < 1 by decide) (show 1 < 3 by decide) rfl rfl (show 3 ≠ 8 by decide) rfl ⟨Nat.le_refl _, snoc_idf2 (by rw [List.length_take]; omega) trivial (fun i j _ _ => HoldC.h (c := Entry.cs) _ j)⟩) ?_
    all_goals refine roundNT_turn (turn_box (id := 3) (ds := [.i .i64 s.next, .ow 2 (k + 1) (elE Table.csO (s.tables.take (k + 1))), owL 3 Thing.cs s.things]) rfl rfl rfl (.cons (.refl _) (.cons (.ow (fun i j _ _ => HoldC.h _ j) (fun i j hi hj => by rw [take_snoc hk]; exact snoc_tbl (t := s.tables.getD k default) (by rw [List.length_take]; omega) rfl (Nat.zero_add _) (fun i j _ _ => .refl _) i j hi hj)) (.cons (.refl _) .nil)))) ?_
    all_goals refine roundNT_end ?_
    repeat' (first | exact aa | ((conv => whnf) <;> (first | refine And.intro ?_ ?_ | (intro _h; first | contradiction | (try simp only [dd] at _h)) | (refine dt_go ?_) | exact rfl | exact True.intro | exact dkk | exact dks | (refine wrap_succ ?_; omega))))
  · conv => whnf
    refine lw_turn _ (turn_eq (id := 2) (x := rowL 3 Thing.cs s.things) rfl rfl (Nat.zero_add _).symm rfl rfl (fun i j _ _ => .refl _)) ?_
    refine lw_turn _ (turn_close (id := 3) (i := 0) (j := 2) (id' := 2) rfl (show 0 < 1 by decide) (show 2 < 3 by decide) rfl rfl (show 3 ≠ 2 by decide) rfl (rowO_le (Nat.le_of_eq (Nat.zero_add _)))) ?_
    refine lw_turn [some (boxRow [.i .i64 0, .nils, .nils]), none, none, some (boxRow [.i .i64 s.next, .ow 2 0 (elE Table.csO (s.tables.take 0)), owL 3 Thing.cs s.things])] (turn_box (id := 3) (ds := [.i .i64 s.next, .ow 2 0 (elE Table.csO (s.tables.take 0)), owL 3 Thing.cs s.things]) rfl rfl rfl (.cons (.refl _) (.cons (.nil _ _) (.cons (OwEq.len (Nat.zero_add _) (fun i j _ _ => HoldC.h _ j) (fun i j _ _ => .refl _)) .nil)))) ?_
    refine loopNT s.tables.length (fun k => [(4, .i .i64 k)]) (fun k => [none, none, none, some (.box [.i .i64 s.next, .ow 2 k (elE Table.csO (s.tables.take k)), owL 3 Thing.cs s.things])]) (fun k => True) ⟨trivial, ?_⟩
    repeat' (first | exact aa | ((conv => whnf) <;> (first | exact capB (entLe h _) (by decide) | exact capN (entLe h _) | refine And.intro ?_ ?_ | (intro _h; first | contradiction | (try simp only [dd] at _h)) | (refine dt_go ?_) | exact rfl | exact True.intro | exact dkk | exact dks | (refine wrap_succ ?_; omega))))
    rotate_right
    · conv => whnf
      rename_i k _ _
      obtain rfl : k = s.tables.length := by omega
      exact endM_pick [4, 5] [some (rowL 2 Table.csO (s.tables.take s.tables.length)), some (rowL 3 Thing.cs s.things)] (.agg s.resO) (view_of rfl (.cons rfl (.L (by rw [List.take_length]) (fun _ => rfl)) (.cons rfl (.self (rowPl_L fun _ => rfl)) .nil))) rfl rfl (fun k hk => by rw [hX] at hk; exact absurd hk (Nat.not_lt_zero _)) ⟨rfl, by rw [List.take_length]; rfl⟩
    all_goals (conv => whnf)
    all_goals rename_i k _ _
    all_goals have hk : k < s.tables.length := by omega
    all_goals first
      | refine roundNT_turn (turn_close (id := 8) (i := k) (j := 1) (id' := 6) rfl (Nat.lt_succ_self k) (show 1 < 2 by decide) cat_k rfl (show 8 ≠ 6 by decide) rfl ⟨Nat.le_refl _, fun i j _ _ => HoldC.h (c := Entry.cs) _ j⟩) ?_
      | refine roundNT_turn (turn_close (id := 8) (i := k) (j := 1) (id' := 5) rfl (Nat.lt_succ_self k) (show 1 < 2 by decide) cat_k rfl (show 8 ≠ 5 by decide) rfl ⟨Nat.le_refl _, fun i j _ _ => HoldC.h (c := Entry.cs) _ j⟩) ?_
    all_goals refine roundNT_turn (turn_close (id := 3) (i := 0) (j := 1) (id' := 8) rfl (show 0 < 1 by decide) (show 1 < 3 by decide) rfl rfl (show 3 ≠ 8 by decide) rfl ⟨Nat.le_refl _, snoc_idf2 (by rw [List.length_take]; omega) trivial (fun i j _ _ => HoldC.h (c := Entry.cs) _ j)⟩) ?_
    all_goals refine roundNT_turn (turn_box (id := 3) (ds := [.i .i64 s.next, .ow 2 (k + 1) (elE Table.csO (s.tables.take (k + 1))), owL 3 Thing.cs s.things]) rfl rfl rfl (.cons (.refl _) (.cons (.ow (fun i j _ _ => HoldC.h _ j) (fun i j hi hj => by rw [take_snoc hk]; exact snoc_tbl (t := s.tables.getD k default) (by rw [List.length_take]; omega) rfl (Nat.zero_add _) (fun i j _ _ => .refl _) i j hi hj)) (.cons (.refl _) .nil)))) ?_
    all_goals refine roundNT_end ?_
    repeat' (first | exact aa | ((conv => whnf) <;> (first | refine And.intro ?_ ?_ | (intro _h; first | contradiction | (try simp only [dd] at _h)) | (refine dt_go ?_) | exact rfl | exact True.intro | exact dkk | exact dks | (refine wrap_succ ?_; omega))))
  · conv => whnf
    refine lw_turn _ (turn_eq (id := 3) (x := rowL 3 Thing.cs s.things) rfl rfl (Nat.zero_add _).symm rfl rfl (fun i j _ _ => .refl _)) ?_
    refine lw_turn _ (turn_close (id := 2) (i := 0) (j := 2) (id' := 3) rfl (show 0 < 1 by decide) (show 2 < 3 by decide) rfl rfl (show 2 ≠ 3 by decide) rfl (rowO_le (Nat.le_of_eq (Nat.zero_add _)))) ?_
    refine lw_turn [some (boxRow [.i .i64 0, .nils, .nils]), none, some (boxRow [.i .i64 s.next, .ow 2 0 (elE Table.csO (s.tables.take 0)), owL 3 Thing.cs s.things]), none] (turn_box (id := 2) (ds := [.i .i64 s.next, .ow 2 0 (elE Table.csO (s.tables.take 0)), owL 3 Thing.cs s.things]) rfl rfl rfl (.cons (.refl _) (.cons (.nil _ _) (.cons (OwEq.len (Nat.zero_add _) (fun i j _ _ => HoldC.h _ j) (fun i j _ _ => .refl _)) .nil)))) ?_
    refine loopNT s.tables.length (fun k => [(4, .i .i64 k)]) (fun k => [none, none, some (.box [.i .i64 s.next, .ow 2 k (elE Table.csO (s.tables.take k)), owL 3 Thing.cs s.things]), none]) (fun k => True) ⟨trivial, ?_⟩
    repeat' (first | exact aa | ((conv => whnf) <;> (first | exact capB (entLe h _) (by decide) | exact capN (entLe h _) | refine And.intro ?_ ?_ | (intro _h; first | contradiction | (try simp only [dd] at _h)) | (refine dt_go ?_) | exact rfl | exact True.intro | exact dkk | exact dks | (refine wrap_succ ?_; omega))))
    rotate_right
    · conv => whnf
      rename_i k _ _
      obtain rfl : k = s.tables.length := by omega
      exact endM_pick [4, 5] [some (rowL 2 Table.csO (s.tables.take s.tables.length)), some (rowL 3 Thing.cs s.things)] (.agg s.resO) (view_of rfl (.cons rfl (.L (by rw [List.take_length]) (fun _ => rfl)) (.cons rfl (.self (rowPl_L fun _ => rfl)) .nil))) rfl rfl (fun k hk => by rw [hX] at hk; exact absurd hk (Nat.not_lt_zero _)) ⟨rfl, by rw [List.take_length]; rfl⟩
    all_goals (conv => whnf)
    all_goals rename_i k _ _
    all_goals have hk : k < s.tables.length := by omega
    all_goals first
      | refine roundNT_turn (turn_close (id := 8) (i := k) (j := 1) (id' := 6) rfl (Nat.lt_succ_self k) (show 1 < 2 by decide) cat_k rfl (show 8 ≠ 6 by decide) rfl ⟨Nat.le_refl _, fun i j _ _ => HoldC.h (c := Entry.cs) _ j⟩) ?_
      | refine roundNT_turn (turn_close (id := 8) (i := k) (j := 1) (id' := 5) rfl (Nat.lt_succ_self k) (show 1 < 2 by decide) cat_k rfl (show 8 ≠ 5 by decide) rfl ⟨Nat.le_refl _, fun i j _ _ => HoldC.h (c := Entry.cs) _ j⟩) ?_
    all_goals refine roundNT_turn (turn_close (id := 2) (i := 0) (j := 1) (id' := 8) rfl (show 0 < 1 by decide) (show 1 < 3 by decide) rfl rfl (show 2 ≠ 8 by decide) rfl ⟨Nat.le_refl _, snoc_idf2 (by rw [List.length_take]; omega) trivial (fun i j _ _ => HoldC.h (c := Entry.cs) _ j)⟩) ?_
    all_goals refine roundNT_turn (turn_box (id := 2) (ds := [.i .i64 s.next, .ow 2 (k + 1) (elE Table.csO (s.tables.take (k + 1))), owL 3 Thing.cs s.things]) rfl rfl rfl (.cons (.refl _) (.cons (.ow (fun i j _ _ => HoldC.h _ j) (fun i j hi hj => by rw [take_snoc hk]; exact snoc_tbl (t := s.tables.getD k default) (by rw [List.length_take]; omega) rfl (Nat.zero_add _) (fun i j _ _ => .refl _) i j hi hj)) (.cons (.refl _) .nil)))) ?_
    all_goals refine roundNT_end ?_
    repeat' (first | exact aa | ((conv => whnf) <;> (first | refine And.intro ?_ ?_ | (intro _h; first | contradiction | (try simp only [dd] at _h)) | (refine dt_go ?_) | exact rfl | exact True.intro | exact dkk | exact dks | (refine wrap_succ ?_; omega))))
  · conv => whnf
    refine lw_turn _ (turn_eq (id := 3) (x := rowL 3 Thing.cs s.things) rfl rfl (Nat.zero_add _).symm rfl rfl (fun i j _ _ => .refl _)) ?_
    refine lw_turn _ (turn_close (id := 1) (i := 0) (j := 2) (id' := 3) rfl (show 0 < 1 by decide) (show 2 < 3 by decide) rfl rfl (show 1 ≠ 3 by decide) rfl (rowO_le (Nat.le_of_eq (Nat.zero_add _)))) ?_
    refine lw_turn [some (boxRow [.i .i64 0, .nils, .nils]), some (boxRow [.i .i64 s.next, .ow 2 0 (elE Table.csO (s.tables.take 0)), owL 3 Thing.cs s.things]), none, none] (turn_box (id := 1) (ds := [.i .i64 s.next, .ow 2 0 (elE Table.csO (s.tables.take 0)), owL 3 Thing.cs s.things]) rfl rfl rfl (.cons (.refl _) (.cons (.nil _ _) (.cons (OwEq.len (Nat.zero_add _) (fun i j _ _ => HoldC.h _ j) (fun i j _ _ => .refl _)) .nil)))) ?_
    refine loopNT s.tables.length (fun k => [(4, .i .i64 k)]) (fun k => [none, some (.box [.i .i64 s.next, .ow 2 k (elE Table.csO (s.tables.take k)), owL 3 Thing.cs s.things]), none, none]) (fun k => True) ⟨trivial, ?_⟩
    repeat' (first | exact aa | ((conv => whnf) <;> (first | exact capB (entLe h _) (by decide) | exact capN (entLe h _) | refine And.intro ?_ ?_ | (intro _h; first | contradiction | (try simp only [dd] at _h)) | (refine dt_go ?_) | exact rfl | exact True.intro | exact dkk | exact dks | (refine wrap_succ ?_; omega))))
    rotate_right
    · conv => whnf
      rename_i k _ _
      obtain rfl : k = s.tables.length := by omega
      exact endM_pick [4, 5] [some (rowL 2 Table.csO (s.tables.take s.tables.length)), some (rowL 3 Thing.cs s.things)] (.agg s.resO) (view_of rfl (.cons rfl (.L (by rw [List.take_length]) (fun _ => rfl)) (.cons rfl (.self (rowPl_L fun _ => rfl)) .nil))) rfl rfl (fun k hk => by rw [hX] at hk; exact absurd hk (Nat.not_lt_zero _)) ⟨rfl, by rw [List.take_length]; rfl⟩
    all_goals (conv => whnf)
    all_goals rename_i k _ _
    all_goals have hk : k < s.tables.length := by omega
    all_goals first
      | refine roundNT_turn (turn_close (id := 8) (i := k) (j := 1) (id' := 6) rfl (Nat.lt_succ_self k) (show 1 < 2 by decide) cat_k rfl (show 8 ≠ 6 by decide) rfl ⟨Nat.le_refl _, fun i j _ _ => HoldC.h (c := Entry.cs) _ j⟩) ?_
      | refine roundNT_turn (turn_close (id := 8) (i := k) (j := 1) (id' := 5) rfl (Nat.lt_succ_self k) (show 1 < 2 by decide) cat_k rfl (show 8 ≠ 5 by decide) rfl ⟨Nat.le_refl _, fun i j _ _ => HoldC.h (c := Entry.cs) _ j⟩) ?_
    all_goals refine roundNT_turn (turn_close (id := 1) (i := 0) (j := 1) (id' := 8) rfl (show 0 < 1 by decide) (show 1 < 3 by decide) rfl rfl (show 1 ≠ 8 by decide) rfl ⟨Nat.le_refl _, snoc_idf2 (by rw [List.length_take]; omega) trivial (fun i j _ _ => HoldC.h (c := Entry.cs) _ j)⟩) ?_
    all_goals refine roundNT_turn (turn_box (id := 1) (ds := [.i .i64 s.next, .ow 2 (k + 1) (elE Table.csO (s.tables.take (k + 1))), owL 3 Thing.cs s.things]) rfl rfl rfl (.cons (.refl _) (.cons (.ow (fun i j _ _ => HoldC.h _ j) (fun i j hi hj => by rw [take_snoc hk]; exact snoc_tbl (t := s.tables.getD k default) (by rw [List.length_take]; omega) rfl (Nat.zero_add _) (fun i j _ _ => .refl _) i j hi hj)) (.cons (.refl _) .nil)))) ?_
    all_goals refine roundNT_end ?_
    repeat' (first | exact aa | ((conv => whnf) <;> (first | refine And.intro ?_ ?_ | (intro _h; first | contradiction | (try simp only [dd] at _h)) | (refine dt_go ?_) | exact rfl | exact True.intro | exact dkk | exact dks | (refine wrap_succ ?_; omega))))
def Table.put (t : Table) (e : Entry) : Table := ⟨t.next + 1, t.entries ++ [{ e with num := t.next }]⟩
def Shelf.put (s : Shelf) (who : Nat) (e : Entry) : Shelf := ⟨s.next, s.tables.set who ((s.tables.getD who default).put e), s.things⟩
def Shelf.plus (s : Shelf) (res rep : Int) : Shelf := ⟨s.next + 1, s.tables, s.things ++ [⟨s.next, res, rep⟩]⟩
def Shelf.fullB (s : Shelf) (who : Nat) : Prop := 12 ≤ (s.tables.getD who default).entries.length ∨ 1000000 ≤ (s.tables.getD who default).next
theorem capB2 {n b : Nat} (h : n ≤ 1048576) (hb : b ≤ 1000) : (n + 1) * b ≤ 140737488355328 :=
  Nat.le_trans (Nat.mul_le_mul (show n + 1 ≤ 1048577 by omega) hb) (by decide)
theorem capN2 {n : Nat} (h : n ≤ 1048576) : n + 1 ≤ 9223372036854775807 := by omega
theorem put_len (s : Shelf) (w : Nat) (e : Entry) : (s.put w e).tables.length = s.tables.length := by simp [Shelf.put]
theorem put_rows {s : Shelf} {w n : Nat} {e : Entry} {es g : Nat → Nat → AV} (hw : w < s.tables.length) (h0 : es w 0 = .i .i64 ((s.tables.getD w default).next + 1)) (h1 : es w 1 = .ow 7 ((s.tables.getD w default).entries.length + 1) g) (hs : ∀ i j, i ≠ w → es i j = elE Table.csO s.tables i j)
    (hg : ∀ i j, i < (s.tables.getD w default).entries.length + 1 → j < 7 → OwEq (g i j) (elE Entry.cs ((s.tables.getD w default).entries ++ [{ e with num := (s.tables.getD w default).next }]) i j)) : ∀ i j, i < n → j < 2 → OwEq (es i j) (elE Table.csO (s.put w e).tables i j) := fun i j hi hj => by
  have hr : elE Table.csO (s.put w e).tables i j = (Table.csO (if i = w then (s.tables.getD w default).put e else s.tables.getD i default)).getD j .any := by
    unfold elE Shelf.put
    rw [getD_set hw]
  rw [hr]
  by_cases e1 : i = w
  · subst e1
    rw [if_pos rfl]
    rcases (show j = 0 ∨ j = 1 by omega) with rfl | rfl
    · rw [h0]; exact .refl _
    · rw [h1]
      exact OwEq.len (by simp [Table.put]) (fun i j _ _ => HoldC.h _ j) hg
  · rw [if_neg e1, hs i j e1]
    exact .refl _
theorem l19Full_ok (s : Shelf) (h : s.ok) (who : Int) (hw : 0 ≤ who ∧ who < (s.tables.length : Int)) : Ret env.P 135 [rfL s.cs, .i .i64 who] (fun r => r = .b (pb (s.fullB who.toNat))) := by
  have hl : s.tables.length ≤ 1048576 := h.1.1
  have hl2 := entLe h who.toNat
  refine ret_of (nt := 26) (rvs := [.tmp 4]) Tryz.func135 rfl rfl rfl rfl (fun X => ?_)
  repeat' (first | exact aa | ((conv => whnf) <;> (first | refine And.intro ?_ ?_ | (intro _h; first | contradiction | (try simp only [dd] at _h)) | (refine dt_go ?_) | exact rfl | exact True.intro | exact dkk | exact dks | (refine wrap_succ ?_; omega))))
  all_goals (first | refine leaf_f ?_ | refine leaf_t ?_ | refine leaf_p ?_ | (conv => whnf) | skip)
  all_goals (simp only [Shelf.fullB, decide_eq_true_eq] at *; omega)
theorem full_ok (s : Shelf) (h : s.ok) (who : Int) (hw : 0 ≤ who ∧ who < (s.tables.length : Int)) (h1 : (s.tables.getD who.toNat default).entries.length ≤ 12) (h2 : (s.tables.getD who.toNat default).next ≤ 1000000) : Ret env.P 131 [rfL s.cs, .i .i64 who] (fun r => r = .b (pb (s.fullB who.toNat))) := by
  have hl : s.tables.length ≤ 1048576 := h.1.1
  have hl2 := entLe h who.toNat
  refine ret_of (nt := 23) (rvs := [.tmp 4]) Tryz.func131 rfl rfl rfl rfl (fun X => ?_)
  repeat' (first | exact aa | ((conv => whnf) <;> (first | refine And.intro ?_ ?_ | (intro _h; first | contradiction | (try simp only [dd] at _h)) | (refine dt_go ?_) | exact rfl | exact True.intro | exact dkk | exact dks | (refine wrap_succ ?_; omega))))
  all_goals (first | refine leaf_f ?_ | refine leaf_t ?_ | refine leaf_p ?_ | (conv => whnf) | skip)
  all_goals (simp only [Shelf.fullB, decide_eq_true_eq] at *; omega)
set_option maxHeartbeats 2000000 in
theorem l19Put_ok (s : Shelf) (h : s.ok) (who : Int) (hw : 0 ≤ who ∧ who < (s.tables.length : Int)) (e : Entry) (h1 : (s.tables.getD who.toNat default).entries.length < 12) (h2 : 1 ≤ (s.tables.getD who.toNat default).next ∧ (s.tables.getD who.toNat default).next < 1000000) : RetM env.P 136 [some (boxRow s.csO)] [.ptr 0 0 0, .i .i64 who, .agg e.cs] (fun r H => r = .i .i64 (s.tables.getD who.toNat default).next ∧ H = [some (boxRow (s.put who.toNat e).csO)]) := by
  have hl : s.tables.length ≤ 1048576 := h.1.1
  have hw2 : who.toNat < s.tables.length := by omega
  refine ret_ofM (nt := 38) (rvs := [.tmp 6]) Tryz.func136 rfl rfl rfl rfl (fun X hX => ?_)
  repeat' (first | exact aa | ((conv => whnf) <;> (first | exact capB2 (entLe h _) (by decide) | exact capN2 (entLe h _) | refine And.intro ?_ ?_ | (intro _h; first | contradiction | (try simp only [dd] at _h)) | (refine dt_go ?_) | exact rfl | exact True.intro | exact dkk | exact dks | (refine wrap_succ ?_; omega))))
  all_goals (conv => whnf)
  all_goals refine endM_turn (turn_close (id := 2) (i := who.toNat) (j := 1) (id' := 5) rfl hw2 (show 1 < 2 by decide) (by simp only [upd, Nat.beq_refl]; rfl) rfl (show 2 ≠ 5 by decide) rfl ⟨Nat.le_refl _, snoc_idf (l := (s.tables.getD who.toNat default).entries) rfl (fun j hj => HoldC.h (c := Entry.cs) { e with num := (s.tables.getD who.toNat default).next } j)⟩) ?_
  all_goals refine endM_turn (turn_eq (id := 2) (x := rowL 2 Table.csO (s.put who.toNat e).tables) rfl rfl (put_len s _ e) rfl rfl (put_rows hw2 (by simp only [upd, Nat.beq_refl]; show AV.i .i64 (IntKind.i64.wrap ((s.tables.getD who.toNat default).next + 1)) = _; rw [wrap_in (by omega) (by omega)]) (by simp only [upd, Nat.beq_refl]; rfl) (fun i j hne => by simp only [upd, beq_ff hne, Bool.and_false, cond_false]) (snoc_eq (sz := 7) rfl (fun j hj => .refl _)))) ?_
  all_goals refine endM_turn (turn_close (id := 0) (i := 0) (j := 1) (id' := 2) rfl (show 0 < 1 by decide) (show 1 < 3 by decide) rfl rfl (show 0 ≠ 2 by decide) rfl (rowO_le (Nat.le_of_eq (put_len s _ e).symm))) ?_
  all_goals refine endM_turn (turn_box (id := 0) (ds := (s.put who.toNat e).csO) rfl rfl rfl (.cons (.refl _) (.cons (OwEq.len (put_len s _ e).symm (fun i j _ _ => HoldC.h _ j) (fun i j _ _ => .refl _)) (.cons (.refl _) .nil)))) ?_
  all_goals exact endM_pick [0] [some (boxRow (s.put who.toNat e).csO)] (.i .i64 (s.tables.getD who.toNat default).next) (view_of rfl (.cons rfl (.self (rowPl_box rfl)) .nil)) rfl rfl (by rw [hX]; exact keepK (n := 1) rfl rfl) ⟨rfl, rfl⟩
set_option maxHeartbeats 2000000 in
theorem add_ok (s : Shelf) (h : s.ok) (who : Int) (hw : 0 ≤ who ∧ who < (s.tables.length : Int)) (e : Entry) (h1 : (s.tables.getD who.toNat default).entries.length < 12) (h2 : 1 ≤ (s.tables.getD who.toNat default).next ∧ (s.tables.getD who.toNat default).next < 1000000) : RetM env.P 132 [some (boxRow s.csO)] [.ptr 0 0 0, .i .i64 who, .agg e.cs] (fun r H => r = .i .i64 (s.tables.getD who.toNat default).next ∧ H = [some (boxRow (s.put who.toNat e).csO)]) := by
  have hl : s.tables.length ≤ 1048576 := h.1.1
  have hw2 : who.toNat < s.tables.length := by omega
  refine ret_ofM (nt := 39) (rvs := [.tmp 6]) Tryz.func132 rfl rfl rfl rfl (fun X hX => ?_)
  repeat' (first | exact aa | ((conv => whnf) <;> (first | exact capB2 (entLe h _) (by decide) | exact capN2 (entLe h _) | refine And.intro ?_ ?_ | (intro _h; first | contradiction | (try simp only [dd] at _h)) | (refine dt_go ?_) | exact rfl | exact True.intro | exact dkk | exact dks | (refine wrap_succ ?_; omega))))
  all_goals (conv => whnf)
  all_goals refine endM_turn (turn_close (id := 2) (i := who.toNat) (j := 1) (id' := 5) rfl hw2 (show 1 < 2 by decide) (by simp only [upd, Nat.beq_refl]; rfl) rfl (show 2 ≠ 5 by decide) rfl ⟨Nat.le_refl _, snoc_idf (l := (s.tables.getD who.toNat default).entries) rfl (fun j hj => HoldC.h (c := Entry.cs) { e with num := (s.tables.getD who.toNat default).next } j)⟩) ?_
  all_goals refine endM_turn (turn_eq (id := 2) (x := rowL 2 Table.csO (s.put who.toNat e).tables) rfl rfl (put_len s _ e) rfl rfl (put_rows hw2 (by simp only [upd, Nat.beq_refl]; show AV.i .i64 (IntKind.i64.wrap ((s.tables.getD who.toNat default).next + 1)) = _; rw [wrap_in (by omega) (by omega)]) (by simp only [upd, Nat.beq_refl]; rfl) (fun i j hne => by simp only [upd, beq_ff hne, Bool.and_false, cond_false]) (snoc_eq (sz := 7) rfl (fun j hj => .refl _)))) ?_
  all_goals refine endM_turn (turn_close (id := 0) (i := 0) (j := 1) (id' := 2) rfl (show 0 < 1 by decide) (show 1 < 3 by decide) rfl rfl (show 0 ≠ 2 by decide) rfl (rowO_le (Nat.le_of_eq (put_len s _ e).symm))) ?_
  all_goals refine endM_turn (turn_box (id := 0) (ds := (s.put who.toNat e).csO) rfl rfl rfl (.cons (.refl _) (.cons (OwEq.len (put_len s _ e).symm (fun i j _ _ => HoldC.h _ j) (fun i j _ _ => .refl _)) (.cons (.refl _) .nil)))) ?_
  all_goals exact endM_pick [0] [some (boxRow (s.put who.toNat e).csO)] (.i .i64 (s.tables.getD who.toNat default).next) (view_of rfl (.cons rfl (.self (rowPl_box rfl)) .nil)) rfl rfl (by rw [hX]; exact keepK (n := 1) rfl rfl) ⟨rfl, rfl⟩
theorem cloneThing_ok (l : List Thing) (hl : l.length ≤ 1048576) : RetM env.P 129 [] [slL 3 Thing.cs l] (fun r H => (l = [] ∧ r = .nils ∧ H = []) ∨ (r = .row 0 l.length ∧ H = [some (rowL 3 Thing.cs l)])) := by
  refine ret_ofM (nt := 8) (rvs := [.tmp 2]) Tryz.func129 rfl rfl rfl rfl (fun X hX => ?_)
  repeat' (first | exact aa | ((conv => whnf) <;> (first | exact capB hl (by decide) | exact capN hl | refine And.intro ?_ ?_ | (intro _h; first | contradiction | (try simp only [dd] at _h)) | (refine dt_go ?_) | exact rfl | exact True.intro | exact dkk | exact dks | (refine wrap_succ ?_; omega))))
  all_goals (conv => whnf)
  · exact endM_self (.inl ⟨List.length_eq_zero_iff.1 ‹_›, rfl, rfl⟩)
  · exact endM_pick [1] [some (rowL 3 Thing.cs l)] (.row 0 (0 + l.length)) (view_of rfl (.cons rfl (.L (Nat.zero_add _).symm (fun _ => rfl)) .nil)) rfl rfl (fun k hk => by rw [hX] at hk; exact absurd hk (Nat.not_lt_zero _)) (.inr ⟨by rw [Nat.zero_add], rfl⟩)
theorem cloneEntry_ok (l : List Entry) (hl : l.length ≤ 1048576) : RetM env.P 130 [] [slL 7 Entry.cs l] (fun r H => (l = [] ∧ r = .nils ∧ H = []) ∨ (r = .row 0 l.length ∧ H = [some (rowL 7 Entry.cs l)])) := by
  refine ret_ofM (nt := 8) (rvs := [.tmp 2]) Tryz.func130 rfl rfl rfl rfl (fun X hX => ?_)
  repeat' (first | exact aa | ((conv => whnf) <;> (first | exact capB hl (by decide) | exact capN hl | refine And.intro ?_ ?_ | (intro _h; first | contradiction | (try simp only [dd] at _h)) | (refine dt_go ?_) | exact rfl | exact True.intro | exact dkk | exact dks | (refine wrap_succ ?_; omega))))
  all_goals (conv => whnf)
  · exact endM_self (.inl ⟨List.length_eq_zero_iff.1 ‹_›, rfl, rfl⟩)
  · exact endM_pick [1] [some (rowL 7 Entry.cs l)] (.row 0 (0 + l.length)) (view_of rfl (.cons rfl (.L (Nat.zero_add _).symm (fun _ => rfl)) .nil)) rfl rfl (fun k hk => by rw [hX] at hk; exact absurd hk (Nat.not_lt_zero _)) (.inr ⟨by rw [Nat.zero_add], rfl⟩)
theorem snoc_tblN {k : Nat} {l : List Table} {t : Table} {g : Nat → Nat → AV} (hk : k = l.length) (h0 : g 0 0 = .i .i64 t.next) (h1 : g 0 1 = .nils) (hn : t.entries = []) : ∀ i j, i < k + 1 → j < 2 → OwEq (catE k (elE Table.csO l) g i j) (elE Table.csO (l ++ [t]) i j) := snoc_eq hk fun j hj => by
  rcases (show j = 0 ∨ j = 1 by omega) with rfl | rfl
  · rw [h0]; exact .refl _
  · rw [h1]
    show OwEq .nils (owL 7 Entry.cs t.entries)
    rw [hn]; exact .nil _ _
theorem ow_nil {sz : Nat} {α : Type} [Inhabited α] {c : α → List AV} {l : List α} (h : l = []) : OwEq .nils (owL sz c l) := by rw [h]; exact .nil _ _
set_option maxHeartbeats 16000000 in
theorem copyShelf_ok (s : Shelf) (h : s.ok) (h1 : 1 ≤ s.tables.length) : RetM env.P 83 [] [.agg s.cs] (fun r H => r = .agg s.resO ∧ H = s.rowsO) := by
  have hl : s.tables.length ≤ 1048576 := h.1.1
  have hl2 : s.things.length ≤ 1048576 := h.2.1
  refine ret_ofM (nt := 32) (rvs := [.cell 2 27]) Tryz.func83 rfl rfl rfl rfl (fun X hX => ?_)
  repeat' (first | exact aa | ((conv => whnf) <;> (first | ((refine .inr (.inl (.inl ⟨[], _, _, _, cloneThing_ok _ hl2, (view_of rfl .nil), ⟨rfl, rfl⟩, ?_⟩))); rintro _ _ (⟨hn, rfl, rfl⟩ | ⟨rfl, rfl⟩) <;> refine ⟨rfl, _, lokA, ?_⟩) | refine And.intro ?_ ?_ | (intro _h; first | contradiction | (try simp only [dd] at _h)) | (refine dt_go ?_) | exact rfl | exact True.intro | exact dkk | exact dks | (refine wrap_succ ?_; omega))))
  all_goals (conv => whnf)
  · refine lw_turn _ (turn_box (id := 2) (ds := [.i .i64 s.next, .ow 2 0 (elE Table.csO (s.tables.take 0)), owL 3 Thing.cs s.things]) rfl rfl rfl (.cons (.refl _) (.cons (.nil _ _) (.cons (ow_nil hn) .nil)))) ?_
    refine loopNT s.tables.length (fun k => [(15, .i .i64 k)]) (fun k => [none, none, some (.box [.i .i64 s.next, .ow 2 k (elE Table.csO (s.tables.take k)), owL 3 Thing.cs s.things])]) (fun k => True) ⟨trivial, ?_⟩
    repeat' (first | exact aa | ((conv => whnf) <;> (first | ((refine .inr (.inl (.inl ⟨[], _, _, _, cloneEntry_ok _ (entLe h _), (view_of rfl .nil), ⟨rfl, rfl⟩, ?_⟩))); rintro _ _ (⟨hm, rfl, rfl⟩ | ⟨rfl, rfl⟩) <;> refine ⟨rfl, _, lokA, ?_⟩) | refine And.intro ?_ ?_ | (intro _h; first | contradiction | (try simp only [dd] at _h)) | (refine dt_go ?_) | exact rfl | exact True.intro | exact dkk | exact dks | (refine wrap_succ ?_; omega))))
    rotate_right
    · conv => whnf
      rename_i k _ _
      obtain rfl : k = s.tables.length := by omega
      exact endM_pick [3, 4] [some (rowL 2 Table.csO (s.tables.take s.tables.length)), some (rowL 3 Thing.cs s.things)] (.agg s.resO) (view_of rfl (.cons rfl (.L (by rw [List.take_length]) (fun _ => rfl)) (.cons rfl (.self (rowPl_L fun _ => rfl)) .nil))) rfl rfl (fun k hk => by rw [hX] at hk; exact absurd hk (Nat.not_lt_zero _)) ⟨rfl, by rw [List.take_length]; rfl⟩
    all_goals (conv => whnf)
    all_goals rename_i k _ _
    all_goals have hk : k < s.tables.length := by omega
    all_goals first
      | (refine roundNT_turn (turn_close (id := 7) (i := k) (j := 1) (id' := 4) rfl (Nat.lt_succ_self k) (show 1 < 2 by decide) cat_k rfl (show 7 ≠ 4 by decide) rfl ⟨Nat.le_refl _, fun i j _ _ => HoldC.h (c := Entry.cs) _ j⟩) ?_; refine roundNT_turn (turn_close (id := 2) (i := 0) (j := 1) (id' := 7) rfl (show 0 < 1 by decide) (show 1 < 3 by decide) rfl rfl (show 2 ≠ 7 by decide) rfl ⟨Nat.le_refl _, snoc_idf2 (by rw [List.length_take]; omega) trivial (fun i j _ _ => HoldC.h (c := Entry.cs) _ j)⟩) ?_; refine roundNT_turn (turn_box (id := 2) (ds := [.i .i64 s.next, .ow 2 (k + 1) (elE Table.csO (s.tables.take (k + 1))), owL 3 Thing.cs s.things]) rfl rfl rfl (.cons (.refl _) (.cons (.ow (fun i j _ _ => HoldC.h _ j) (fun i j hi hj => (by rw [take_snoc hk]; exact snoc_tbl (t := s.tables.getD k default) (by rw [List.length_take]; omega) rfl rfl (fun i j _ _ => .refl _) i j hi hj))) (.cons (.refl _) .nil)))) ?_)
      | (refine roundNT_turn (turn_close (id := 7) (i := k) (j := 1) (id' := 5) rfl (Nat.lt_succ_self k) (show 1 < 2 by decide) cat_k rfl (show 7 ≠ 5 by decide) rfl ⟨Nat.le_refl _, fun i j _ _ => HoldC.h (c := Entry.cs) _ j⟩) ?_; refine roundNT_turn (turn_close (id := 2) (i := 0) (j := 1) (id' := 7) rfl (show 0 < 1 by decide) (show 1 < 3 by decide) rfl rfl (show 2 ≠ 7 by decide) rfl ⟨Nat.le_refl _, snoc_idf2 (by rw [List.length_take]; omega) trivial (fun i j _ _ => HoldC.h (c := Entry.cs) _ j)⟩) ?_; refine roundNT_turn (turn_box (id := 2) (ds := [.i .i64 s.next, .ow 2 (k + 1) (elE Table.csO (s.tables.take (k + 1))), owL 3 Thing.cs s.things]) rfl rfl rfl (.cons (.refl _) (.cons (.ow (fun i j _ _ => HoldC.h _ j) (fun i j hi hj => (by rw [take_snoc hk]; exact snoc_tbl (t := s.tables.getD k default) (by rw [List.length_take]; omega) rfl rfl (fun i j _ _ => .refl _) i j hi hj))) (.cons (.refl _) .nil)))) ?_)
      | (refine roundNT_turn (turn_close (id := 2) (i := 0) (j := 1) (id' := 6) rfl (show 0 < 1 by decide) (show 1 < 3 by decide) rfl rfl (show 2 ≠ 6 by decide) rfl ⟨Nat.le_refl _, snoc_idf (by rw [List.length_take]; omega) (fun j hj => (by rcases (show j = 0 ∨ j = 1 by (have hj' : j < 2 := hj); omega) with rfl | rfl <;> exact trivial))⟩) ?_; refine roundNT_turn (turn_box (id := 2) (ds := [.i .i64 s.next, .ow 2 (k + 1) (elE Table.csO (s.tables.take (k + 1))), owL 3 Thing.cs s.things]) rfl rfl rfl (.cons (.refl _) (.cons (.ow (fun i j _ _ => HoldC.h _ j) (fun i j hi hj => (by rw [take_snoc hk]; exact snoc_tblN (t := s.tables.getD k default) (by rw [List.length_take]; omega) rfl rfl (by assumption) i j hi hj))) (.cons (.refl _) .nil)))) ?_)
      | trace_state
    all_goals refine roundNT_end ?_
    repeat' (first | exact aa | ((conv => whnf) <;> (first | refine And.intro ?_ ?_ | (intro _h; first | contradiction | (try simp only [dd] at _h)) | (refine dt_go ?_) | exact rfl | exact True.intro | exact dkk | exact dks | (refine wrap_succ ?_; omega))))
  · refine lw_turn _ (turn_close (id := 3) (i := 0) (j := 2) (id' := 2) rfl (show 0 < 1 by decide) (show 2 < 3 by decide) rfl rfl (show 3 ≠ 2 by decide) rfl (rowO_le (Nat.le_refl _))) ?_
    refine lw_turn _ (turn_box (id := 3) (ds := [.i .i64 s.next, .ow 2 0 (elE Table.csO (s.tables.take 0)), owL 3 Thing.cs s.things]) rfl rfl rfl (.cons (.refl _) (.cons (.nil _ _) (.cons (.refl _) .nil)))) ?_
    refine loopNT s.tables.length (fun k => [(15, .i .i64 k)]) (fun k => [none, none, none, some (.box [.i .i64 s.next, .ow 2 k (elE Table.csO (s.tables.take k)), owL 3 Thing.cs s.things])]) (fun k => True) ⟨trivial, ?_⟩
    repeat' (first | exact aa | ((conv => whnf) <;> (first | ((refine .inr (.inl (.inl ⟨[], _, _, _, cloneEntry_ok _ (entLe h _), (view_of rfl .nil), ⟨rfl, rfl⟩, ?_⟩))); rintro _ _ (⟨hm, rfl, rfl⟩ | ⟨rfl, rfl⟩) <;> refine ⟨rfl, _, lokA, ?_⟩) | refine And.intro ?_ ?_ | (intro _h; first | contradiction | (try simp only [dd] at _h)) | (refine dt_go ?_) | exact rfl | exact True.intro | exact dkk | exact dks | (refine wrap_succ ?_; omega))))
    rotate_right
    · conv => whnf
      rename_i k _ _
      obtain rfl : k = s.tables.length := by omega
      exact endM_pick [4, 5] [some (rowL 2 Table.csO (s.tables.take s.tables.length)), some (rowL 3 Thing.cs s.things)] (.agg s.resO) (view_of rfl (.cons rfl (.L (by rw [List.take_length]) (fun _ => rfl)) (.cons rfl (.self (rowPl_L fun _ => rfl)) .nil))) rfl rfl (fun k hk => by rw [hX] at hk; exact absurd hk (Nat.not_lt_zero _)) ⟨rfl, by rw [List.take_length]; rfl⟩
    all_goals (conv => whnf)
    all_goals rename_i k _ _
    all_goals have hk : k < s.tables.length := by omega
    all_goals first
      | (refine roundNT_turn (turn_close (id := 8) (i := k) (j := 1) (id' := 5) rfl (Nat.lt_succ_self k) (show 1 < 2 by decide) cat_k rfl (show 8 ≠ 5 by decide) rfl ⟨Nat.le_refl _, fun i j _ _ => HoldC.h (c := Entry.cs) _ j⟩) ?_; refine roundNT_turn (turn_close (id := 3) (i := 0) (j := 1) (id' := 8) rfl (show 0 < 1 by decide) (show 1 < 3 by decide) rfl rfl (show 3 ≠ 8 by decide) rfl ⟨Nat.le_refl _, snoc_idf2 (by rw [List.length_take]; omega) trivial (fun i j _ _ => HoldC.h (c := Entry.cs) _ j)⟩) ?_; refine roundNT_turn (turn_box (id := 3) (ds := [.i .i64 s.next, .ow 2 (k + 1) (elE Table.csO (s.tables.take (k + 1))), owL 3 Thing.cs s.things]) rfl rfl rfl (.cons (.refl _) (.cons (.ow (fun i j _ _ => HoldC.h _ j) (fun i j hi hj => (by rw [take_snoc hk]; exact snoc_tbl (t := s.tables.getD k default) (by rw [List.length_take]; omega) rfl rfl (fun i j _ _ => .refl _) i j hi hj))) (.cons (.refl _) .nil)))) ?_)
      | (refine roundNT_turn (turn_close (id := 8) (i := k) (j := 1) (id' := 6) rfl (Nat.lt_succ_self k) (show 1 < 2 by decide) cat_k rfl (show 8 ≠ 6 by decide) rfl ⟨Nat.le_refl _, fun i j _ _ => HoldC.h (c := Entry.cs) _ j⟩) ?_; refine roundNT_turn (turn_close (id := 3) (i := 0) (j := 1) (id' := 8) rfl (show 0 < 1 by decide) (show 1 < 3 by decide) rfl rfl (show 3 ≠ 8 by decide) rfl ⟨Nat.le_refl _, snoc_idf2 (by rw [List.length_take]; omega) trivial (fun i j _ _ => HoldC.h (c := Entry.cs) _ j)⟩) ?_; refine roundNT_turn (turn_box (id := 3) (ds := [.i .i64 s.next, .ow 2 (k + 1) (elE Table.csO (s.tables.take (k + 1))), owL 3 Thing.cs s.things]) rfl rfl rfl (.cons (.refl _) (.cons (.ow (fun i j _ _ => HoldC.h _ j) (fun i j hi hj => (by rw [take_snoc hk]; exact snoc_tbl (t := s.tables.getD k default) (by rw [List.length_take]; omega) rfl rfl (fun i j _ _ => .refl _) i j hi hj))) (.cons (.refl _) .nil)))) ?_)
      | (refine roundNT_turn (turn_close (id := 3) (i := 0) (j := 1) (id' := 7) rfl (show 0 < 1 by decide) (show 1 < 3 by decide) rfl rfl (show 3 ≠ 7 by decide) rfl ⟨Nat.le_refl _, snoc_idf (by rw [List.length_take]; omega) (fun j hj => (by rcases (show j = 0 ∨ j = 1 by (have hj' : j < 2 := hj); omega) with rfl | rfl <;> exact trivial))⟩) ?_; refine roundNT_turn (turn_box (id := 3) (ds := [.i .i64 s.next, .ow 2 (k + 1) (elE Table.csO (s.tables.take (k + 1))), owL 3 Thing.cs s.things]) rfl rfl rfl (.cons (.refl _) (.cons (.ow (fun i j _ _ => HoldC.h _ j) (fun i j hi hj => (by rw [take_snoc hk]; exact snoc_tblN (t := s.tables.getD k default) (by rw [List.length_take]; omega) rfl rfl (by assumption) i j hi hj))) (.cons (.refl _) .nil)))) ?_)
      | trace_state
    all_goals refine roundNT_end ?_
    repeat' (first | exact aa | ((conv => whnf) <;> (first | refine And.intro ?_ ?_ | (intro _h; first | contradiction | (try simp only [dd] at _h)) | (refine dt_go ?_) | exact rfl | exact True.intro | exact dkk | exact dks | (refine wrap_succ ?_; omega))))
  · refine lw_turn _ (turn_close (id := 3) (i := 0) (j := 2) (id' := 2) rfl (show 0 < 1 by decide) (show 2 < 3 by decide) rfl rfl (show 3 ≠ 2 by decide) rfl (rowO_le (Nat.le_refl _))) ?_
    refine lw_turn _ (turn_box (id := 3) (ds := [.i .i64 s.next, .ow 2 0 (elE Table.csO (s.tables.take 0)), owL 3 Thing.cs s.things]) rfl rfl rfl (.cons (.refl _) (.cons (.nil _ _) (.cons (.refl _) .nil)))) ?_
    refine loopNT s.tables.length (fun k => [(15, .i .i64 k)]) (fun k => [none, none, none, some (.box [.i .i64 s.next, .ow 2 k (elE Table.csO (s.tables.take k)), owL 3 Thing.cs s.things])]) (fun k => True) ⟨trivial, ?_⟩
    repeat' (first | exact aa | ((conv => whnf) <;> (first | ((refine .inr (.inl (.inl ⟨[], _, _, _, cloneEntry_ok _ (entLe h _), (view_of rfl .nil), ⟨rfl, rfl⟩, ?_⟩))); rintro _ _ (⟨hm, rfl, rfl⟩ | ⟨rfl, rfl⟩) <;> refine ⟨rfl, _, lokA, ?_⟩) | refine And.intro ?_ ?_ | (intro _h; first | contradiction | (try simp only [dd] at _h)) | (refine dt_go ?_) | exact rfl | exact True.intro | exact dkk | exact dks | (refine wrap_succ ?_; omega))))
    rotate_right
    · conv => whnf
      rename_i k _ _
      obtain rfl : k = s.tables.length := by omega
      exact endM_pick [4, 5] [some (rowL 2 Table.csO (s.tables.take s.tables.length)), some (rowL 3 Thing.cs s.things)] (.agg s.resO) (view_of rfl (.cons rfl (.L (by rw [List.take_length]) (fun _ => rfl)) (.cons rfl (.self (rowPl_L fun _ => rfl)) .nil))) rfl rfl (fun k hk => by rw [hX] at hk; exact absurd hk (Nat.not_lt_zero _)) ⟨rfl, by rw [List.take_length]; rfl⟩
    all_goals (conv => whnf)
    all_goals rename_i k _ _
    all_goals have hk : k < s.tables.length := by omega
    all_goals first
      | (refine roundNT_turn (turn_close (id := 8) (i := k) (j := 1) (id' := 5) rfl (Nat.lt_succ_self k) (show 1 < 2 by decide) cat_k rfl (show 8 ≠ 5 by decide) rfl ⟨Nat.le_refl _, fun i j _ _ => HoldC.h (c := Entry.cs) _ j⟩) ?_; refine roundNT_turn (turn_close (id := 3) (i := 0) (j := 1) (id' := 8) rfl (show 0 < 1 by decide) (show 1 < 3 by decide) rfl rfl (show 3 ≠ 8 by decide) rfl ⟨Nat.le_refl _, snoc_idf2 (by rw [List.length_take]; omega) trivial (fun i j _ _ => HoldC.h (c := Entry.cs) _ j)⟩) ?_; refine roundNT_turn (turn_box (id := 3) (ds := [.i .i64 s.next, .ow 2 (k + 1) (elE Table.csO (s.tables.take (k + 1))), owL 3 Thing.cs s.things]) rfl rfl rfl (.cons (.refl _) (.cons (.ow (fun i j _ _ => HoldC.h _ j) (fun i j hi hj => (by rw [take_snoc hk]; exact snoc_tbl (t := s.tables.getD k default) (by rw [List.length_take]; omega) rfl rfl (fun i j _ _ => .refl _) i j hi hj))) (.cons (.refl _) .nil)))) ?_)
      | (refine roundNT_turn (turn_close (id := 8) (i := k) (j := 1) (id' := 6) rfl (Nat.lt_succ_self k) (show 1 < 2 by decide) cat_k rfl (show 8 ≠ 6 by decide) rfl ⟨Nat.le_refl _, fun i j _ _ => HoldC.h (c := Entry.cs) _ j⟩) ?_; refine roundNT_turn (turn_close (id := 3) (i := 0) (j := 1) (id' := 8) rfl (show 0 < 1 by decide) (show 1 < 3 by decide) rfl rfl (show 3 ≠ 8 by decide) rfl ⟨Nat.le_refl _, snoc_idf2 (by rw [List.length_take]; omega) trivial (fun i j _ _ => HoldC.h (c := Entry.cs) _ j)⟩) ?_; refine roundNT_turn (turn_box (id := 3) (ds := [.i .i64 s.next, .ow 2 (k + 1) (elE Table.csO (s.tables.take (k + 1))), owL 3 Thing.cs s.things]) rfl rfl rfl (.cons (.refl _) (.cons (.ow (fun i j _ _ => HoldC.h _ j) (fun i j hi hj => (by rw [take_snoc hk]; exact snoc_tbl (t := s.tables.getD k default) (by rw [List.length_take]; omega) rfl rfl (fun i j _ _ => .refl _) i j hi hj))) (.cons (.refl _) .nil)))) ?_)
      | (refine roundNT_turn (turn_close (id := 3) (i := 0) (j := 1) (id' := 7) rfl (show 0 < 1 by decide) (show 1 < 3 by decide) rfl rfl (show 3 ≠ 7 by decide) rfl ⟨Nat.le_refl _, snoc_idf (by rw [List.length_take]; omega) (fun j hj => (by rcases (show j = 0 ∨ j = 1 by (have hj' : j < 2 := hj); omega) with rfl | rfl <;> exact trivial))⟩) ?_; refine roundNT_turn (turn_box (id := 3) (ds := [.i .i64 s.next, .ow 2 (k + 1) (elE Table.csO (s.tables.take (k + 1))), owL 3 Thing.cs s.things]) rfl rfl rfl (.cons (.refl _) (.cons (.ow (fun i j _ _ => HoldC.h _ j) (fun i j hi hj => (by rw [take_snoc hk]; exact snoc_tblN (t := s.tables.getD k default) (by rw [List.length_take]; omega) rfl rfl (by assumption) i j hi hj))) (.cons (.refl _) .nil)))) ?_)
      | trace_state
    all_goals refine roundNT_end ?_
    repeat' (first | exact aa | ((conv => whnf) <;> (first | refine And.intro ?_ ?_ | (intro _h; first | contradiction | (try simp only [dd] at _h)) | (refine dt_go ?_) | exact rfl | exact True.intro | exact dkk | exact dks | (refine wrap_succ ?_; omega))))
  · refine lw_turn _ (turn_box (id := 2) (ds := [.i .i64 s.next, .ow 2 0 (elE Table.csO (s.tables.take 0)), owL 3 Thing.cs s.things]) rfl rfl rfl (.cons (.refl _) (.cons (.nil _ _) (.cons (ow_nil hn) .nil)))) ?_
    refine loopNT s.tables.length (fun k => [(15, .i .i64 k)]) (fun k => [none, none, some (.box [.i .i64 s.next, .ow 2 k (elE Table.csO (s.tables.take k)), owL 3 Thing.cs s.things])]) (fun k => True) ⟨trivial, ?_⟩
    repeat' (first | exact aa | ((conv => whnf) <;> (first | ((refine .inr (.inl (.inl ⟨[], _, _, _, cloneEntry_ok _ (entLe h _), (view_of rfl .nil), ⟨rfl, rfl⟩, ?_⟩))); rintro _ _ (⟨hm, rfl, rfl⟩ | ⟨rfl, rfl⟩) <;> refine ⟨rfl, _, lokA, ?_⟩) | refine And.intro ?_ ?_ | (intro _h; first | contradiction | (try simp only [dd] at _h)) | (refine dt_go ?_) | exact rfl | exact True.intro | exact dkk | exact dks | (refine wrap_succ ?_; omega))))
    rotate_right
    · conv => whnf
      rename_i k _ _
      obtain rfl : k = s.tables.length := by omega
      exact endM_pick [3, 4] [some (rowL 2 Table.csO (s.tables.take s.tables.length)), some (rowL 3 Thing.cs s.things)] (.agg s.resO) (view_of rfl (.cons rfl (.L (by rw [List.take_length]) (fun _ => rfl)) (.cons rfl (.self (rowPl_L fun _ => rfl)) .nil))) rfl rfl (fun k hk => by rw [hX] at hk; exact absurd hk (Nat.not_lt_zero _)) ⟨rfl, by rw [List.take_length]; rfl⟩
    all_goals (conv => whnf)
    all_goals rename_i k _ _
    all_goals have hk : k < s.tables.length := by omega
    all_goals first
      | (refine roundNT_turn (turn_close (id := 7) (i := k) (j := 1) (id' := 4) rfl (Nat.lt_succ_self k) (show 1 < 2 by decide) cat_k rfl (show 7 ≠ 4 by decide) rfl ⟨Nat.le_refl _, fun i j _ _ => HoldC.h (c := Entry.cs) _ j⟩) ?_; refine roundNT_turn (turn_close (id := 2) (i := 0) (j := 1) (id' := 7) rfl (show 0 < 1 by decide) (show 1 < 3 by decide) rfl rfl (show 2 ≠ 7 by decide) rfl ⟨Nat.le_refl _, snoc_idf2 (by rw [List.length_take]; omega) trivial (fun i j _ _ => HoldC.h (c := Entry.cs) _ j)⟩) ?_; refine roundNT_turn (turn_box (id := 2) (ds := [.i .i64 s.next, .ow 2 (k + 1) (elE Table.csO (s.tables.take (k + 1))), owL 3 Thing.cs s.things]) rfl rfl rfl (.cons (.refl _) (.cons (.ow (fun i j _ _ => HoldC.h _ j) (fun i j hi hj => (by rw [take_snoc hk]; exact snoc_tbl (t := s.tables.getD k default) (by rw [List.length_take]; omega) rfl rfl (fun i j _ _ => .refl _) i j hi hj))) (.cons (.refl _) .nil)))) ?_)
      | (refine roundNT_turn (turn_close (id := 7) (i := k) (j := 1) (id' := 5) rfl (Nat.lt_succ_self k) (show 1 < 2 by decide) cat_k rfl (show 7 ≠ 5 by decide) rfl ⟨Nat.le_refl _, fun i j _ _ => HoldC.h (c := Entry.cs) _ j⟩) ?_; refine roundNT_turn (turn_close (id := 2) (i := 0) (j := 1) (id' := 7) rfl (show 0 < 1 by decide) (show 1 < 3 by decide) rfl rfl (show 2 ≠ 7 by decide) rfl ⟨Nat.le_refl _, snoc_idf2 (by rw [List.length_take]; omega) trivial (fun i j _ _ => HoldC.h (c := Entry.cs) _ j)⟩) ?_; refine roundNT_turn (turn_box (id := 2) (ds := [.i .i64 s.next, .ow 2 (k + 1) (elE Table.csO (s.tables.take (k + 1))), owL 3 Thing.cs s.things]) rfl rfl rfl (.cons (.refl _) (.cons (.ow (fun i j _ _ => HoldC.h _ j) (fun i j hi hj => (by rw [take_snoc hk]; exact snoc_tbl (t := s.tables.getD k default) (by rw [List.length_take]; omega) rfl rfl (fun i j _ _ => .refl _) i j hi hj))) (.cons (.refl _) .nil)))) ?_)
      | (refine roundNT_turn (turn_close (id := 2) (i := 0) (j := 1) (id' := 6) rfl (show 0 < 1 by decide) (show 1 < 3 by decide) rfl rfl (show 2 ≠ 6 by decide) rfl ⟨Nat.le_refl _, snoc_idf (by rw [List.length_take]; omega) (fun j hj => (by rcases (show j = 0 ∨ j = 1 by (have hj' : j < 2 := hj); omega) with rfl | rfl <;> exact trivial))⟩) ?_; refine roundNT_turn (turn_box (id := 2) (ds := [.i .i64 s.next, .ow 2 (k + 1) (elE Table.csO (s.tables.take (k + 1))), owL 3 Thing.cs s.things]) rfl rfl rfl (.cons (.refl _) (.cons (.ow (fun i j _ _ => HoldC.h _ j) (fun i j hi hj => (by rw [take_snoc hk]; exact snoc_tblN (t := s.tables.getD k default) (by rw [List.length_take]; omega) rfl rfl (by assumption) i j hi hj))) (.cons (.refl _) .nil)))) ?_)
      | trace_state
    all_goals refine roundNT_end ?_
    repeat' (first | exact aa | ((conv => whnf) <;> (first | refine And.intro ?_ ?_ | (intro _h; first | contradiction | (try simp only [dd] at _h)) | (refine dt_go ?_) | exact rfl | exact True.intro | exact dkk | exact dks | (refine wrap_succ ?_; omega))))
  · refine lw_turn _ (turn_close (id := 2) (i := 0) (j := 2) (id' := 3) rfl (show 0 < 1 by decide) (show 2 < 3 by decide) rfl rfl (show 2 ≠ 3 by decide) rfl (rowO_le (Nat.le_refl _))) ?_
    refine lw_turn _ (turn_box (id := 2) (ds := [.i .i64 s.next, .ow 2 0 (elE Table.csO (s.tables.take 0)), owL 3 Thing.cs s.things]) rfl rfl rfl (.cons (.refl _) (.cons (.nil _ _) (.cons (.refl _) .nil)))) ?_
    refine loopNT s.tables.length (fun k => [(15, .i .i64 k)]) (fun k => [none, none, some (.box [.i .i64 s.next, .ow 2 k (elE Table.csO (s.tables.take k)), owL 3 Thing.cs s.things]), none]) (fun k => True) ⟨trivial, ?_⟩
    repeat' (first | exact aa | ((conv => whnf) <;> (first | ((refine .inr (.inl (.inl ⟨[], _, _, _, cloneEntry_ok _ (entLe h _), (view_of rfl .nil), ⟨rfl, rfl⟩, ?_⟩))); rintro _ _ (⟨hm, rfl, rfl⟩ | ⟨rfl, rfl⟩) <;> refine ⟨rfl, _, lokA, ?_⟩) | refine And.intro ?_ ?_ | (intro _h; first | contradiction | (try simp only [dd] at _h)) | (refine dt_go ?_) | exact rfl | exact True.intro | exact dkk | exact dks | (refine wrap_succ ?_; omega))))
    rotate_right
    · conv => whnf
      rename_i k _ _
      obtain rfl : k = s.tables.length := by omega
      exact endM_pick [4, 5] [some (rowL 2 Table.csO (s.tables.take s.tables.length)), some (rowL 3 Thing.cs s.things)] (.agg s.resO) (view_of rfl (.cons rfl (.L (by rw [List.take_length]) (fun _ => rfl)) (.cons rfl (.self (rowPl_L fun _ => rfl)) .nil))) rfl rfl (fun k hk => by rw [hX] at hk; exact absurd hk (Nat.not_lt_zero _)) ⟨rfl, by rw [List.take_length]; rfl⟩
    all_goals (conv => whnf)
    all_goals rename_i k _ _
    all_goals have hk : k < s.tables.length := by omega
    all_goals first
      | (refine roundNT_turn (turn_close (id := 8) (i := k) (j := 1) (id' := 5) rfl (Nat.lt_succ_self k) (show 1 < 2 by decide) cat_k rfl (show 8 ≠ 5 by decide) rfl ⟨Nat.le_refl _, fun i j _ _ => HoldC.h (c := Entry.cs) _ j⟩) ?_; refine roundNT_turn (turn_close (id := 2) (i := 0) (j := 1) (id' := 8) rfl (show 0 < 1 by decide) (show 1 < 3 by decide) rfl rfl (show 2 ≠ 8 by decide) rfl ⟨Nat.le_refl _, snoc_idf2 (by rw [List.length_take]; omega) trivial (fun i j _ _ => HoldC.h (c := Entry.cs) _ j)⟩) ?_; refine roundNT_turn (turn_box (id := 2) (ds := [.i .i64 s.next, .ow 2 (k + 1) (elE Table.csO (s.tables.take (k + 1))), owL 3 Thing.cs s.things]) rfl rfl rfl (.cons (.refl _) (.cons (.ow (fun i j _ _ => HoldC.h _ j) (fun i j hi hj => (by rw [take_snoc hk]; exact snoc_tbl (t := s.tables.getD k default) (by rw [List.length_take]; omega) rfl rfl (fun i j _ _ => .refl _) i j hi hj))) (.cons (.refl _) .nil)))) ?_)
      | (refine roundNT_turn (turn_close (id := 8) (i := k) (j := 1) (id' := 6) rfl (Nat.lt_succ_self k) (show 1 < 2 by decide) cat_k rfl (show 8 ≠ 6 by decide) rfl ⟨Nat.le_refl _, fun i j _ _ => HoldC.h (c := Entry.cs) _ j⟩) ?_; refine roundNT_turn (turn_close (id := 2) (i := 0) (j := 1) (id' := 8) rfl (show 0 < 1 by decide) (show 1 < 3 by decide) rfl rfl (show 2 ≠ 8 by decide) rfl ⟨Nat.le_refl _, snoc_idf2 (by rw [List.length_take]; omega) trivial (fun i j _ _ => HoldC.h (c := Entry.cs) _ j)⟩) ?_; refine roundNT_turn (turn_box (id := 2) (ds := [.i .i64 s.next, .ow 2 (k + 1) (elE Table.csO (s.tables.take (k + 1))), owL 3 Thing.cs s.things]) rfl rfl rfl (.cons (.refl _) (.cons (.ow (fun i j _ _ => HoldC.h _ j) (fun i j hi hj => (by rw [take_snoc hk]; exact snoc_tbl (t := s.tables.getD k default) (by rw [List.length_take]; omega) rfl rfl (fun i j _ _ => .refl _) i j hi hj))) (.cons (.refl _) .nil)))) ?_)
      | (refine roundNT_turn (turn_close (id := 2) (i := 0) (j := 1) (id' := 7) rfl (show 0 < 1 by decide) (show 1 < 3 by decide) rfl rfl (show 2 ≠ 7 by decide) rfl ⟨Nat.le_refl _, snoc_idf (by rw [List.length_take]; omega) (fun j hj => (by rcases (show j = 0 ∨ j = 1 by (have hj' : j < 2 := hj); omega) with rfl | rfl <;> exact trivial))⟩) ?_; refine roundNT_turn (turn_box (id := 2) (ds := [.i .i64 s.next, .ow 2 (k + 1) (elE Table.csO (s.tables.take (k + 1))), owL 3 Thing.cs s.things]) rfl rfl rfl (.cons (.refl _) (.cons (.ow (fun i j _ _ => HoldC.h _ j) (fun i j hi hj => (by rw [take_snoc hk]; exact snoc_tblN (t := s.tables.getD k default) (by rw [List.length_take]; omega) rfl rfl (by assumption) i j hi hj))) (.cons (.refl _) .nil)))) ?_)
      | trace_state
    all_goals refine roundNT_end ?_
    repeat' (first | exact aa | ((conv => whnf) <;> (first | refine And.intro ?_ ?_ | (intro _h; first | contradiction | (try simp only [dd] at _h)) | (refine dt_go ?_) | exact rfl | exact True.intro | exact dkk | exact dks | (refine wrap_succ ?_; omega))))
theorem shelfOf_ok (s : Shelf) (h : s.ok) (h1 : 1 ≤ s.tables.length) : RetM env.P 42 [] [.agg s.cs] (fun r H => r = .ptr 0 0 0 ∧ H = [some (boxRow s.csO)]) := by
  refine ret_ofM (nt := 7) (rvs := [.tmp 2]) Tryz.func42 rfl rfl rfl rfl (fun X hX => ?_)
  repeat' (first | exact aa | ((conv => whnf) <;> (first | refine And.intro ?_ ?_ | (intro _h; first | contradiction | (try simp only [dd] at _h)) | (refine dt_go ?_) | exact rfl | exact True.intro | exact dkk | exact dks | (refine .inr (.inl (.inl ⟨[], _, _, _, copyShelf_ok s h h1, viewA, ⟨rfl, rfl⟩, ?_⟩)); rintro _ _ ⟨rfl, rfl⟩; refine ⟨rfl, _, lokA, ?_⟩) | (refine wrap_succ ?_; omega))))
  refine endM_turn (turn_close (id := 3) (i := 0) (j := 1) (id' := 1) rfl (show 0 < 1 by decide) (show 1 < 3 by decide) rfl rfl (show 3 ≠ 1 by decide) rfl (rowO_le (Nat.le_refl _))) ?_
  refine endM_turn (turn_close (id := 3) (i := 0) (j := 2) (id' := 2) rfl (show 0 < 1 by decide) (show 2 < 3 by decide) rfl rfl (show 3 ≠ 2 by decide) rfl (rowO_le (Nat.le_refl _))) ?_
  refine endM_turn (turn_box (id := 3) (ds := s.csO) rfl rfl rfl (.cons (.refl _) (.cons (.refl _) (.cons (.refl _) .nil)))) ?_
  exact endM_pick [3] [some (boxRow s.csO)] (.ptr 0 0 0) (view_of rfl (.cons rfl (.self (rowPl_box rfl)) .nil)) rfl rfl (fun k hk => by rw [hX] at hk; exact absurd hk (Nat.not_lt_zero _)) ⟨rfl, rfl⟩
end Go.Proofs.YthggkafdjnheeaaGreat
