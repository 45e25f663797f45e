/-
  Shelves that are changed: copies of a shelf, the reference's and the program's.
  Shelves that are changed: what is put on a shelf.
  Shelves that are changed: the program's copies.
  Shelves that are changed: a thing is made.
  Shelves that are changed: a thing is made.
  MakeHandle: the reference and the program.
  Shelves that are changed: an entry of a table, its table opened; an entry that is asked for.
  Shelves that are changed: an entry that is asked for.
-/
import Derived.Test.YtfjciadhanfhpaaVPsA
import Derived.Test.YtfjciadhanfhpaaVPsB
namespace Go.Proofs.Ytfjciadhanfhpaa
open Go Go.RowKit
set_option linter.unusedVariables false
set_option linter.unusedSimpArgs false

/-- A pointer to cells, said otherwise. -/
theorem Wk.rfLo {m : Nat} {g : Nat → AV} {cs : List AV} (h : WkL (cellsAt g 0 m) cs) : Wk (.rf m g) (rfL cs) := by
  have hl : m = cs.length := by rw [← h.1, cellsAt_length]
  subst hl
  unfold rfL
  refine Wk.rf fun j hj => ?_
  have := h.getD j
  have hj' : j < (cellsAt g 0 cs.length).length := by rw [cellsAt_length]; exact hj
  have e := (cellsAt_get g cs.length 0 j _ (List.getElem?_eq_getElem hj')).2
  rw [Nat.zero_add] at e
  rw [List.getD_eq_getElem?_getD, List.getElem?_eq_getElem hj'] at this
  rw [e] at this
  exact this
theorem OwEq.len {sz n m : Nat} {g g' : Nat → Nat → AV} (e : n = m) (hf : ∀ i j, i < n → j < sz → (g' i j).idfO) (h : ∀ i j, i < n → j < sz → OwEq (g i j) (g' i j)) : OwEq (.ow sz n g) (.ow sz m g') := by subst e; exact .ow hf h
theorem capB {n b : Nat} (h : n ≤ 1048576) (hb : b ≤ 1000) : (0 + n) * b ≤ 140737488355328 := by
  rw [Nat.zero_add]
  exact Nat.le_trans (Nat.mul_le_mul h hb) (by decide)
theorem capN {n : Nat} (h : n ≤ 1048576) : 0 + n ≤ 9223372036854775807 := by omega
theorem entLe {s : Shelf} (h : s.ok) (k : Nat) : (s.tables.getD k default).entries.length ≤ 1048576 := by
  by_cases hk : k < s.tables.length
  · exact (h.1.2 k hk).1
  · rw [List.getD_eq_getElem?_getD, List.getElem?_eq_none (by omega)]
    exact Nat.zero_le _
theorem cat_k {n : Nat} {es g : Nat → Nat → AV} {j : Nat} : catE n es g n j = g 0 j := by rw [catE_at, if_neg (Nat.lt_irrefl n), Nat.sub_self]
theorem snoc_tbl {k m : Nat} {l : List Table} {t : Table} {g e : Nat → Nat → AV} (hk : k = l.length) (h0 : g 0 0 = .i .i64 t.next) (hn : m = t.entries.length) (he : ∀ i j, i < m → j < 7 → OwEq (e i j) (elE Entry.cs t.entries i j)) : ∀ i j, i < k + 1 → j < 2 → OwEq (upd (catE k (elE Table.csO l) g) k 1 [.ow 7 m e] i j) (elE Table.csO (l ++ [t]) i j) := fun i j hi hj => by
  by_cases e1 : i = k
  · subst e1
    have hr : elE Table.csO (l ++ [t]) i j = (Table.csO t).getD j .any := by
      unfold elE
      rw [getD_snoc, if_neg (by omega), if_pos hk]
    rw [hr]
    rcases (show j = 0 ∨ j = 1 by omega) with rfl | rfl
    · rw [upd_out (by omega), cat_k, h0]; exact .refl _
    · rw [show (1 : Nat) = 1 + 0 from rfl, upd_in (Nat.lt_succ_self 0)]
      exact OwEq.len hn (fun i j _ _ => HoldC.h _ j) he
  · rw [upd_miss e1]
    have : i < k := by omega
    rw [catE_at, if_pos this]
    unfold elE
    rw [getD_snoc, if_pos (by omega)]
    exact .refl _
theorem snoc_idf2 {k m : Nat} {l : List Table} {g e : Nat → Nat → AV} (hk : k = l.length) (h0 : (g 0 0).idfO) (he : ∀ i j, i < m → j < 7 → (e i j).idfO) : ∀ i j, i < k + 1 → j < 2 → (upd (catE k (elE Table.csO l) g) k 1 [.ow 7 m e] i j).idfO := fun i j hi hj => by
  by_cases e1 : i = k
  · subst e1
    rcases (show j = 0 ∨ j = 1 by omega) with rfl | rfl
    · rw [upd_out (by omega), cat_k]; exact h0
    · rw [show (1 : Nat) = 1 + 0 from rfl, upd_in (Nat.lt_succ_self 0)]
      exact he
  · rw [upd_miss e1]
    have : i < k := by omega
    rw [catE_at, if_pos this]
    exact HoldC.h _ j

set_option maxRecDepth 8000 in
set_option maxHeartbeats 8000000 in
theorem l19Own_ok (s : Shelf) (h : s.ok) (h1 : 1 ≤ s.tables.length) : RetM env.P 40 [] [rfL s.cs] (fun r H => r = .agg s.resO ∧ H = s.rowsO) := by
  have hl : s.tables.length ≤ 1048576 := h.1.1
  have hl2 : s.things.length ≤ 1048576 := h.2.1
  refine ret_ofM (nt := 50) (rvs := [.cell 2 25]) Try.func40 rfl rfl rfl rfl (fun X hX => ?_)
  repeat' (first | exact aa | ((conv => whnf) <;> (first | refine And.intro ?_ ?_ | (intro _h; first | contradiction | (try simp only [dd] at _h)) | (refine dt_go ?_) | exact rfl | exact True.intro | exact dkk | exact dks | (refine wrap_succ ?_; omega))))
  · conv => whnf
    refine lw_turn _ (turn_eq (id := 2) (x := rowL 3 Thing.cs s.things) rfl rfl (Nat.zero_add _).symm rfl rfl (fun i j _ _ => .refl _)) ?_
    refine lw_turn _ (turn_close (id := 3) (i := 0) (j := 2) (id' := 2) rfl (show 0 < 1 by decide) (show 2 < 3 by decide) rfl rfl (show 3 ≠ 2 by decide) rfl (rowO_le (Nat.le_of_eq (Nat.zero_add _)))) ?_
    refine lw_turn [some (boxRow [.i .i64 0, .nils, .nils]), none, none, some (boxRow [.i .i64 s.next, .ow 2 0 (elE Table.csO (s.tables.take 0)), owL 3 Thing.cs s.things])] (turn_box (id := 3) (ds := [.i .i64 s.next, .ow 2 0 (elE Table.csO (s.tables.take 0)), owL 3 Thing.cs s.things]) rfl rfl rfl (.cons (.refl _) (.cons (.nil _ _) (.cons (OwEq.len (Nat.zero_add _) (fun i j _ _ => HoldC.h _ j) (fun i j _ _ => .refl _)) .nil)))) ?_
    refine loopNT s.tables.length (fun k => [(4, .i .i64 k)]) (fun k => [none, none, none, some (.box [.i .i64 s.next, .ow 2 k (elE Table.csO (s.tables.take k)), owL 3 Thing.cs s.things])]) (fun k => True) ⟨trivial, ?_⟩
    repeat' (first | exact aa | ((conv => whnf) <;> (first | exact capB (entLe h _) (by decide) | exact capN (entLe h _) | refine And.intro ?_ ?_ | (intro _h; first | contradiction | (try simp only [dd] at _h)) | (refine dt_go ?_) | exact rfl | exact True.intro | exact dkk | exact dks | (refine wrap_succ ?_; omega))))
    rotate_right
    · conv => whnf
      rename_i k _ _
      obtain rfl : k = s.tables.length := by omega
      exact endM_pick [4, 5] [some (rowL 2 Table.csO (s.tables.take s.tables.length)), some (rowL 3 Thing.cs s.things)] (.agg s.resO) (view_of rfl (.cons rfl (.L (by rw [List.take_length]) (fun _ => rfl)) (.cons rfl (.self (rowPl_L fun _ => rfl)) .nil))) rfl rfl (fun k hk => by rw [hX] at hk; exact absurd hk (Nat.not_lt_zero _)) ⟨rfl, by rw [List.take_length]; rfl⟩
    all_goals (conv => whnf)
    all_goals rename_i k _ _
    all_goals have hk : k < s.tables.length := by omega
    all_goals first
      | refine roundNT_turn (turn_close (id := 8) (i := k) (j := 1) (id' := 6) rfl (Nat.lt_succ_self k) (show 1 < 2 by decide) cat_k rfl (show 8 ≠ 6 by decide) rfl ⟨Nat.le_refl _, fun i j _ _ => HoldC.h (c := Entry.cs) _ j⟩) ?_
      | refine roundNT_turn (turn_close (id := 8) (i := k) (j := 1) (id' := 5) rfl (Nat.lt_succ_self k) (show 1 < 2 by decide) cat_k rfl (show 8 ≠ 5 by decide) rfl ⟨Nat.le_refl _, fun i j _ _ => HoldC.h (c := Entry.cs) _ j⟩) ?_
    all_goals refine roundNT_turn (turn_close (id := 3) (i := 0) (j := 1) (id' := 8) rfl (show 0 < 1 by decide) (show 1 < 3 by decide) rfl rfl (show 3 ≠ 8 by decide) rfl ⟨Nat.le_refl _, snoc_idf2 (by rw [List.length_take]; omega) trivial (fun i j _ _ => HoldC.h (c := Entry.cs) _ j)⟩) ?_
    all_goals refine roundNT_turn (turn_box (id := 3) (ds := [.i .i64 s.next, .ow 2 (k + 1) (elE Table.csO (s.tables.take (k + 1))), owL 3 Thing.cs s.things]) rfl rfl rfl (.cons (.refl _) (.cons (.ow (fun i j _ _ => HoldC.h _ j) (fun i j hi hj => by rw [take_snoc hk]; exact snoc_tbl (t := s.tables.getD k default) (by rw [List.length_take]; omega) rfl (Nat.zero_add _) (fun i j _ _ => .refl _) i j hi hj)) (.cons (.refl _) .nil)))) ?_
    all_goals refine roundNT_end ?_
    repeat' (first | exact aa | ((conv => whnf) <;> (first | refine And.intro ?_ ?_ | (intro _h; first | contradiction | (try simp only [dd] at _h)) | (refine dt_go ?_) | exact rfl | exact True.intro | exact dkk | exact dks | (refine wrap_succ ?_; omega))))
  · conv => whnf
    refine lw_turn _ (turn_eq (id := 2) (x := rowL 3 Thing.cs s.things) rfl rfl (Nat.zero_add _).symm rfl rfl (fun i j _ _ => .refl _)) ?_
    refine lw_turn _ (turn_close (id := 3) (i := 0) (j := 2) (id' := 2) rfl (show 0 < 1 by decide) (show 2 < 3 by decide) rfl rfl (show 3 ≠ 2 by decide) rfl (rowO_le (Nat.le_of_eq (Nat.zero_add _)))) ?_
    refine lw_turn [some (boxRow [.i .i64 0, .nils, .nils]), none, none, some (boxRow [.i .i64 s.next, .ow 2 0 (elE Table.csO (s.tables.take 0)), owL 3 Thing.cs s.things])] (turn_box (id := 3) (ds := [.i .i64 s.next, .ow 2 0 (elE Table.csO (s.tables.take 0)), owL 3 Thing.cs s.things]) rfl rfl rfl (.cons (.refl _) (.cons (.nil _ _) (.cons (OwEq.len (Nat.zero_add _) (fun i j _ _ => HoldC.h _ j) (fun i j _ _ => .refl _)) .nil)))) ?_
    refine loopNT s.tables.length (fun k => [(4, .i .i64 k)]) (fun k => [none, none, none, some (.box [.i .i64 s.next, .ow 2 k (elE Table.csO (s.tables.take k)), owL 3 Thing.cs s.things])]) (fun k => True) ⟨trivial, ?_⟩
    repeat' (first | exact aa | ((conv => whnf) <;> (first | exact capB (entLe h _) (by decide) | exact capN (entLe h _) | refine And.intro ?_ ?_ | (intro _h; first | contradiction | (try simp only [dd] at _h)) | (refine dt_go ?_) | exact rfl | exact True.intro | exact dkk | exact dks | (refine wrap_succ ?_; omega))))
    rotate_right
    · conv => whnf
      rename_i k _ _
      obtain rfl : k = s.tables.length := by omega
      exact endM_pick [4, 5] [some (rowL 2 Table.csO (s.tables.take s.tables.length)), some (rowL 3 Thing.cs s.things)] (.agg s.resO) (view_of rfl (.cons rfl (.L (by rw [List.take_length]) (fun _ => rfl)) (.cons rfl (.self (rowPl_L fun _ => rfl)) .nil))) rfl rfl (fun k hk => by rw [hX] at hk; exact absurd hk (Nat.not_lt_zero _)) ⟨rfl, by rw [List.take_length]; rfl⟩
    all_goals (conv => whnf)
    all_goals rename_i k _ _
    all_goals have hk : k < s.tables.length := by omega
    all_goals first
      | refine roundNT_turn (turn_close (id := 8) (i := k) (j := 1) (id' := 6) rfl (Nat.lt_succ_self k) (show 1 < 2 by decide) cat_k rfl (show 8 ≠ 6 by decide) rfl ⟨Nat.le_refl _, fun i j _ _ => HoldC.h (c := Entry.cs) _ j⟩) ?_
      | refine roundNT_turn (turn_close (id := 8) (i := k) (j := 1) (id' := 5) rfl (Nat.lt_succ_self k) (show 1 < 2 by decide) cat_k rfl (show 8 ≠ 5 by decide) rfl ⟨Nat.le_refl _, fun i j _ _ => HoldC.h (c := Entry.cs) _ j⟩) ?_
    all_goals refine roundNT_turn (turn_close (id := 3) (i := 0) (j := 1) (id' := 8) rfl (show 0 < 1 by decide) (show 1 < 3 by decide) rfl rfl (show 3 ≠ 8 by decide) rfl ⟨Nat.le_refl _, snoc_idf2 (by rw [List.length_take]; omega) trivial (fun i j _ _ => HoldC.h (c := Entry.cs) _ j)⟩) ?_
    all_goals refine roundNT_turn (turn_box (id := 3) (ds := [.i .i64 s.next, .ow 2 (k + 1) (elE Table.csO (s.tables.take (k + 1))), owL 3 Thing.cs s.things]) rfl rfl rfl (.cons (.refl _) (.cons (.ow (fun i j _ _ => HoldC.h _ j) (fun i j hi hj => by rw [take_snoc hk]; exact snoc_tbl (t := s.tables.getD k default) (by rw [List.length_take]; omega) rfl (Nat.zero_add _) (fun i j _ _ => .refl _) i j hi hj)) (.cons (.refl _) .nil)))) ?_
    all_goals refine roundNT_end ?_
    repeat' (first | exact aa | ((conv => whnf) <;> (first | refine And.intro ?_ ?_ | (intro _h; first | contradiction | (try simp only [dd] at _h)) | (refine dt_go ?_) | exact rfl | exact True.intro | exact dkk | exact dks | (refine wrap_succ ?_; omega))))
  · conv => whnf
    refine lw_turn _ (turn_eq (id := 3) (x := rowL 3 Thing.cs s.things) rfl rfl (Nat.zero_add _).symm rfl rfl (fun i j _ _ => .refl _)) ?_
    refine lw_turn _ (turn_close (id := 2) (i := 0) (j := 2) (id' := 3) rfl (show 0 < 1 by decide) (show 2 < 3 by decide) rfl rfl (show 2 ≠ 3 by decide) rfl (rowO_le (Nat.le_of_eq (Nat.zero_add _)))) ?_
    refine lw_turn [some (boxRow [.i .i64 0, .nils, .nils]), none, some (boxRow [.i .i64 s.next, .ow 2 0 (elE Table.csO (s.tables.take 0)), owL 3 Thing.cs s.things]), none] (turn_box (id := 2) (ds := [.i .i64 s.next, .ow 2 0 (elE Table.csO (s.tables.take 0)), owL 3 Thing.cs s.things]) rfl rfl rfl (.cons (.refl _) (.cons (.nil _ _) (.cons (OwEq.len (Nat.zero_add _) (fun i j _ _ => HoldC.h _ j) (fun i j _ _ => .refl _)) .nil)))) ?_
    refine loopNT s.tables.length (fun k => [(4, .i .i64 k)]) (fun k => [none, none, some (.box [.i .i64 s.next, .ow 2 k (elE Table.csO (s.tables.take k)), owL 3 Thing.cs s.things]), none]) (fun k => True) ⟨trivial, ?_⟩
    repeat' (first | exact aa | ((conv => whnf) <;> (first | exact capB (entLe h _) (by decide) | exact capN (entLe h _) | refine And.intro ?_ ?_ | (intro _h; first | contradiction | (try simp only [dd] at _h)) | (refine dt_go ?_) | exact rfl | exact True.intro | exact dkk | exact dks | (refine wrap_succ ?_; omega))))
    rotate_right
    · conv => whnf
      rename_i k _ _
      obtain rfl : k = s.tables.length := by omega
      exact endM_pick [4, 5] [some (rowL 2 Table.csO (s.tables.take s.tables.length)), some (rowL 3 Thing.cs s.things)] (.agg s.resO) (view_of rfl (.cons rfl (.L (by rw [List.take_length]) (fun _ => rfl)) (.cons rfl (.self (rowPl_L fun _ => rfl)) .nil))) rfl rfl (fun k hk => by rw [hX] at hk; exact absurd hk (Nat.not_lt_zero _)) ⟨rfl, by rw [List.take_length]; rfl⟩
    all_goals (conv => whnf)
    all_goals rename_i k _ _
    all_goals have hk : k < s.tables.length := by omega
    all_goals first
      | refine roundNT_turn (turn_close (id := 8) (i := k) (j := 1) (id' := 6) rfl (Nat.lt_succ_self k) (show 1 < 2 by decide) cat_k rfl (show 8 ≠ 6 by decide) rfl ⟨Nat.le_refl _, fun i j _ _ => HoldC.h (c := Entry.cs) _ j⟩) ?_
      | refine roundNT_turn (turn_close (id := 8) (i := k) (j := 1) (id' := 5) rfl (Nat.lt_succ_self k) (show 1 < 2 by decide) cat_k rfl (show 8 ≠ 5 by decide) rfl ⟨Nat.le_refl _, fun i j _ _ => HoldC.h (c := Entry.cs) _ j⟩) ?_
    all_goals refine roundNT_turn (turn_close (id := 2) (i := 0) (j := 1) (id' := 8) rfl (show 0 < 1 by decide) (show 1 < 3 by decide) rfl rfl (show 2 ≠ 8 by decide) rfl ⟨Nat.le_refl _, snoc_idf2 (by rw [List.length_take]; omega) trivial (fun i j _ _ => HoldC.h (c := Entry.cs) _ j)⟩) ?_
    all_goals refine roundNT_turn (turn_box (id := 2) (ds := [.i .i64 s.next, .ow 2 (k + 1) (elE Table.csO (s.tables.take (k + 1))), owL 3 Thing.cs s.things]) rfl rfl rfl (.cons (.refl _) (.cons (.ow (fun i j _ _ => HoldC.h _ j) (fun i j hi hj => by rw [take_snoc hk]; exact snoc_tbl (t := s.tables.getD k default) (by rw [List.length_take]; omega) rfl (Nat.zero_add _) (fun i j _ _ => .refl _) i j hi hj)) (.cons (.refl _) .nil)))) ?_
    all_goals refine roundNT_end ?_
    repeat' (first | exact aa | ((conv => whnf) <;> (first | refine And.intro ?_ ?_ | (intro _h; first | contradiction | (try simp only [dd] at _h)) | (refine dt_go ?_) | exact rfl | exact True.intro | exact dkk | exact dks | (refine wrap_succ ?_; omega))))
  · conv => whnf
    refine lw_turn _ (turn_eq (id := 3) (x := rowL 3 Thing.cs s.things) rfl rfl (Nat.zero_add _).symm rfl rfl (fun i j _ _ => .refl _)) ?_
    refine lw_turn _ (turn_close (id := 1) (i := 0) (j := 2) (id' := 3) rfl (show 0 < 1 by decide) (show 2 < 3 by decide) rfl rfl (show 1 ≠ 3 by decide) rfl (rowO_le (Nat.le_of_eq (Nat.zero_add _)))) ?_
    refine lw_turn [some (boxRow [.i .i64 0, .nils, .nils]), some (boxRow [.i .i64 s.next, .ow 2 0 (elE Table.csO (s.tables.take 0)), owL 3 Thing.cs s.things]), none, none] (turn_box (id := 1) (ds := [.i .i64 s.next, .ow 2 0 (elE Table.csO (s.tables.take 0)), owL 3 Thing.cs s.things]) rfl rfl rfl (.cons (.refl _) (.cons (.nil _ _) (.cons (OwEq.len (Nat.zero_add _) (fun i j _ _ => HoldC.h _ j) (fun i j _ _ => .refl _)) .nil)))) ?_
    refine loopNT s.tables.length (fun k => [(4, .i .i64 k)]) (fun k => [none, some (.box [.i .i64 s.next, .ow 2 k (elE Table.csO (s.tables.take k)), owL 3 Thing.cs s.things]), none, none]) (fun k => True) ⟨trivial, ?_⟩
    repeat' (first | exact aa | ((conv => whnf) <;> (first | exact capB (entLe h _) (by decide) | exact capN (entLe h _) | refine And.intro ?_ ?_ | (intro _h; first | contradiction | (try simp only [dd] at _h)) | (refine dt_go ?_) | exact rfl | exact True.intro | exact dkk | exact dks | (refine wrap_succ ?_; omega))))
    rotate_right
    · conv => whnf
      rename_i k _ _
      obtain rfl : k = s.tables.length := by omega
      exact endM_pick [4, 5] [some (rowL 2 Table.csO (s.tables.take s.tables.length)), some (rowL 3 Thing.cs s.things)] (.agg s.resO) (view_of rfl (.cons rfl (.L (by rw [List.take_length]) (fun _ => rfl)) (.cons rfl (.self (rowPl_L fun _ => rfl)) .nil))) rfl rfl (fun k hk => by rw [hX] at hk; exact absurd hk (Nat.not_lt_zero _)) ⟨rfl, by rw [List.take_length]; rfl⟩
    all_goals (conv => whnf)
    all_goals rename_i k _ _
    all_goals have hk : k < s.tables.length := by omega
    all_goals first
      | refine roundNT_turn (turn_close (id := 8) (i := k) (j := 1) (id' := 6) rfl (Nat.lt_succ_self k) (show 1 < 2 by decide) cat_k rfl (show 8 ≠ 6 by decide) rfl ⟨Nat.le_refl _, fun i j _ _ => HoldC.h (c := Entry.cs) _ j⟩) ?_
      | refine roundNT_turn (turn_close (id := 8) (i := k) (j := 1) (id' := 5) rfl (Nat.lt_succ_self k) (show 1 < 2 by decide) cat_k rfl (show 8 ≠ 5 by decide) rfl ⟨Nat.le_refl _, fun i j _ _ => HoldC.h (c := Entry.cs) _ j⟩) ?_
    all_goals refine roundNT_turn (turn_close (id := 1) (i := 0) (j := 1) (id' := 8) rfl (show 0 < 1 by decide) (show 1 < 3 by decide) rfl rfl (show 1 ≠ 8 by decide) rfl ⟨Nat.le_refl _, snoc_idf2 (by rw [List.length_take]; omega) trivial (fun i j _ _ => HoldC.h (c := Entry.cs) _ j)⟩) ?_
    all_goals refine roundNT_turn (turn_box (id := 1) (ds := [.i .i64 s.next, .ow 2 (k + 1) (elE Table.csO (s.tables.take (k + 1))), owL 3 Thing.cs s.things]) rfl rfl rfl (.cons (.refl _) (.cons (.ow (fun i j _ _ => HoldC.h _ j) (fun i j hi hj => by rw [take_snoc hk]; exact snoc_tbl (t := s.tables.getD k default) (by rw [List.length_take]; omega) rfl (Nat.zero_add _) (fun i j _ _ => .refl _) i j hi hj)) (.cons (.refl _) .nil)))) ?_
    all_goals refine roundNT_end ?_
    repeat' (first | exact aa | ((conv => whnf) <;> (first | refine And.intro ?_ ?_ | (intro _h; first | contradiction | (try simp only [dd] at _h)) | (refine dt_go ?_) | exact rfl | exact True.intro | exact dkk | exact dks | (refine wrap_succ ?_; omega))))
end Go.Proofs.Ytfjciadhanfhpaa

namespace Go.Proofs.Ytfjciadhanfhpaa
open Go Go.RowKit
set_option linter.unusedVariables false
set_option linter.unusedSimpArgs false

theorem capB2 {n b : Nat} (h : n ≤ 1048576) (hb : b ≤ 1000) : (n + 1) * b ≤ 140737488355328 :=
  Nat.le_trans (Nat.mul_le_mul (show n + 1 ≤ 1048577 by omega) hb) (by decide)
theorem capN2 {n : Nat} (h : n ≤ 1048576) : n + 1 ≤ 9223372036854775807 := by omega
end Go.Proofs.Ytfjciadhanfhpaa

namespace Go.Proofs.Ytfjciadhanfhpaa
open Go Go.RowKit
set_option linter.unusedVariables false
set_option linter.unusedSimpArgs false

set_option maxRecDepth 8000 in
theorem cloneThing_ok (l : List Thing) (hl : l.length ≤ 1048576) : RetM env.P 86 [] [slL 3 Thing.cs l] (fun r H => (l = [] ∧ r = .nils ∧ H = []) ∨ (r = .row 0 l.length ∧ H = [some (rowL 3 Thing.cs l)])) := by
  refine ret_ofM (nt := 8) (rvs := [.tmp 2]) Try.func86 rfl rfl rfl rfl (fun X hX => ?_)
  repeat' (first | exact aa | ((conv => whnf) <;> (first | exact capB hl (by decide) | exact capN hl | refine And.intro ?_ ?_ | (intro _h; first | contradiction | (try simp only [dd] at _h)) | (refine dt_go ?_) | exact rfl | exact True.intro | exact dkk | exact dks | (refine wrap_succ ?_; omega))))
  all_goals (conv => whnf)
  · exact endM_self (.inl ⟨List.length_eq_zero_iff.1 ‹_›, rfl, rfl⟩)
  · exact endM_pick [1] [some (rowL 3 Thing.cs l)] (.row 0 (0 + l.length)) (view_of rfl (.cons rfl (.L (Nat.zero_add _).symm (fun _ => rfl)) .nil)) rfl rfl (fun k hk => by rw [hX] at hk; exact absurd hk (Nat.not_lt_zero _)) (.inr ⟨by rw [Nat.zero_add], rfl⟩)

set_option maxRecDepth 8000 in
theorem cloneEntry_ok (l : List Entry) (hl : l.length ≤ 1048576) : RetM env.P 87 [] [slL 7 Entry.cs l] (fun r H => (l = [] ∧ r = .nils ∧ H = []) ∨ (r = .row 0 l.length ∧ H = [some (rowL 7 Entry.cs l)])) := by
  refine ret_ofM (nt := 8) (rvs := [.tmp 2]) Try.func87 rfl rfl rfl rfl (fun X hX => ?_)
  repeat' (first | exact aa | ((conv => whnf) <;> (first | exact capB hl (by decide) | exact capN hl | refine And.intro ?_ ?_ | (intro _h; first | contradiction | (try simp only [dd] at _h)) | (refine dt_go ?_) | exact rfl | exact True.intro | exact dkk | exact dks | (refine wrap_succ ?_; omega))))
  all_goals (conv => whnf)
  · exact endM_self (.inl ⟨List.length_eq_zero_iff.1 ‹_›, rfl, rfl⟩)
  · exact endM_pick [1] [some (rowL 7 Entry.cs l)] (.row 0 (0 + l.length)) (view_of rfl (.cons rfl (.L (Nat.zero_add _).symm (fun _ => rfl)) .nil)) rfl rfl (fun k hk => by rw [hX] at hk; exact absurd hk (Nat.not_lt_zero _)) (.inr ⟨by rw [Nat.zero_add], rfl⟩)

theorem snoc_tblN {k : Nat} {l : List Table} {t : Table} {g : Nat → Nat → AV} (hk : k = l.length) (h0 : g 0 0 = .i .i64 t.next) (h1 : g 0 1 = .nils) (hn : t.entries = []) : ∀ i j, i < k + 1 → j < 2 → OwEq (catE k (elE Table.csO l) g i j) (elE Table.csO (l ++ [t]) i j) := snoc_eq hk fun j hj => by
  rcases (show j = 0 ∨ j = 1 by omega) with rfl | rfl
  · rw [h0]; exact .refl _
  · rw [h1]
    show OwEq .nils (owL 7 Entry.cs t.entries)
    rw [hn]; exact .nil _ _
theorem ow_nil {sz : Nat} {α : Type} [Inhabited α] {c : α → List AV} {l : List α} (h : l = []) : OwEq .nils (owL sz c l) := by rw [h]; exact .nil _ _

set_option maxRecDepth 8000 in
set_option maxHeartbeats 16000000 in
theorem copyShelf_ok (s : Shelf) (h : s.ok) (h1 : 1 ≤ s.tables.length) : RetM env.P 69 [] [.agg s.cs] (fun r H => r = .agg s.resO ∧ H = s.rowsO) := by
  have hl : s.tables.length ≤ 1048576 := h.1.1
  have hl2 : s.things.length ≤ 1048576 := h.2.1
  refine ret_ofM (nt := 32) (rvs := [.cell 2 25]) Try.func69 rfl rfl rfl rfl (fun X hX => ?_)
  repeat' (first | exact aa | ((conv => whnf) <;> (first | ((refine .inr (.inl (.inl ⟨[], _, _, _, cloneThing_ok _ hl2, (view_of rfl .nil), ⟨rfl, rfl⟩, ?_⟩))); rintro _ _ (⟨hn, rfl, rfl⟩ | ⟨rfl, rfl⟩) <;> refine ⟨rfl, _, (lok_pl (by repeat' (first | exact RowsPl.nil | refine RowsPl.cons ?_ ?_ | refine RowsPl.none ?_ | exact rowPl_L (fun _ => rfl) | exact rowPl_box rfl))), ?_⟩) | refine And.intro ?_ ?_ | (intro _h; first | contradiction | (try simp only [dd] at _h)) | (refine dt_go ?_) | exact rfl | exact True.intro | exact dkk | exact dks | (refine wrap_succ ?_; omega))))
  all_goals (conv => whnf)
  · refine lw_turn _ (turn_box (id := 2) (ds := [.i .i64 s.next, .ow 2 0 (elE Table.csO (s.tables.take 0)), owL 3 Thing.cs s.things]) rfl rfl rfl (.cons (.refl _) (.cons (.nil _ _) (.cons (ow_nil hn) .nil)))) ?_
    refine loopNT s.tables.length (fun k => [(15, .i .i64 k)]) (fun k => [none, none, some (.box [.i .i64 s.next, .ow 2 k (elE Table.csO (s.tables.take k)), owL 3 Thing.cs s.things])]) (fun k => True) ⟨trivial, ?_⟩
    repeat' (first | exact aa | ((conv => whnf) <;> (first | ((refine .inr (.inl (.inl ⟨[], _, _, _, cloneEntry_ok _ (entLe h _), (view_of rfl .nil), ⟨rfl, rfl⟩, ?_⟩))); rintro _ _ (⟨hm, rfl, rfl⟩ | ⟨rfl, rfl⟩) <;> refine ⟨rfl, _, (lok_pl (by repeat' (first | exact RowsPl.nil | refine RowsPl.cons ?_ ?_ | refine RowsPl.none ?_ | exact rowPl_L (fun _ => rfl) | exact rowPl_box rfl))), ?_⟩) | refine And.intro ?_ ?_ | (intro _h; first | contradiction | (try simp only [dd] at _h)) | (refine dt_go ?_) | exact rfl | exact True.intro | exact dkk | exact dks | (refine wrap_succ ?_; omega))))
    rotate_right
    · conv => whnf
      rename_i k _ _
      obtain rfl : k = s.tables.length := by omega
      exact endM_pick [3, 4] [some (rowL 2 Table.csO (s.tables.take s.tables.length)), some (rowL 3 Thing.cs s.things)] (.agg s.resO) (view_of rfl (.cons rfl (.L (by rw [List.take_length]) (fun _ => rfl)) (.cons rfl (.self (rowPl_L fun _ => rfl)) .nil))) rfl rfl (fun k hk => by rw [hX] at hk; exact absurd hk (Nat.not_lt_zero _)) ⟨rfl, by rw [List.take_length]; rfl⟩
    all_goals (conv => whnf)
    all_goals rename_i k _ _
    all_goals have hk : k < s.tables.length := by omega
    all_goals first
      | (refine roundNT_turn (turn_close (id := 7) (i := k) (j := 1) (id' := 4) rfl (Nat.lt_succ_self k) (show 1 < 2 by decide) cat_k rfl (show 7 ≠ 4 by decide) rfl ⟨Nat.le_refl _, fun i j _ _ => HoldC.h (c := Entry.cs) _ j⟩) ?_; refine roundNT_turn (turn_close (id := 2) (i := 0) (j := 1) (id' := 7) rfl (show 0 < 1 by decide) (show 1 < 3 by decide) rfl rfl (show 2 ≠ 7 by decide) rfl ⟨Nat.le_refl _, snoc_idf2 (by rw [List.length_take]; omega) trivial (fun i j _ _ => HoldC.h (c := Entry.cs) _ j)⟩) ?_; refine roundNT_turn (turn_box (id := 2) (ds := [.i .i64 s.next, .ow 2 (k + 1) (elE Table.csO (s.tables.take (k + 1))), owL 3 Thing.cs s.things]) rfl rfl rfl (.cons (.refl _) (.cons (.ow (fun i j _ _ => HoldC.h _ j) (fun i j hi hj => (by rw [take_snoc hk]; exact snoc_tbl (t := s.tables.getD k default) (by rw [List.length_take]; omega) rfl rfl (fun i j _ _ => .refl _) i j hi hj))) (.cons (.refl _) .nil)))) ?_)
      | (refine roundNT_turn (turn_close (id := 7) (i := k) (j := 1) (id' := 5) rfl (Nat.lt_succ_self k) (show 1 < 2 by decide) cat_k rfl (show 7 ≠ 5 by decide) rfl ⟨Nat.le_refl _, fun i j _ _ => HoldC.h (c := Entry.cs) _ j⟩) ?_; refine roundNT_turn (turn_close (id := 2) (i := 0) (j := 1) (id' := 7) rfl (show 0 < 1 by decide) (show 1 < 3 by decide) rfl rfl (show 2 ≠ 7 by decide) rfl ⟨Nat.le_refl _, snoc_idf2 (by rw [List.length_take]; omega) trivial (fun i j _ _ => HoldC.h (c := Entry.cs) _ j)⟩) ?_; refine roundNT_turn (turn_box (id := 2) (ds := [.i .i64 s.next, .ow 2 (k + 1) (elE Table.csO (s.tables.take (k + 1))), owL 3 Thing.cs s.things]) rfl rfl rfl (.cons (.refl _) (.cons (.ow (fun i j _ _ => HoldC.h _ j) (fun i j hi hj => (by rw [take_snoc hk]; exact snoc_tbl (t := s.tables.getD k default) (by rw [List.length_take]; omega) rfl rfl (fun i j _ _ => .refl _) i j hi hj))) (.cons (.refl _) .nil)))) ?_)
      | (refine roundNT_turn (turn_close (id := 2) (i := 0) (j := 1) (id' := 6) rfl (show 0 < 1 by decide) (show 1 < 3 by decide) rfl rfl (show 2 ≠ 6 by decide) rfl ⟨Nat.le_refl _, snoc_idf (by rw [List.length_take]; omega) (fun j hj => (by rcases (show j = 0 ∨ j = 1 by (have hj' : j < 2 := hj); omega) with rfl | rfl <;> exact trivial))⟩) ?_; refine roundNT_turn (turn_box (id := 2) (ds := [.i .i64 s.next, .ow 2 (k + 1) (elE Table.csO (s.tables.take (k + 1))), owL 3 Thing.cs s.things]) rfl rfl rfl (.cons (.refl _) (.cons (.ow (fun i j _ _ => HoldC.h _ j) (fun i j hi hj => (by rw [take_snoc hk]; exact snoc_tblN (t := s.tables.getD k default) (by rw [List.length_take]; omega) rfl rfl (by assumption) i j hi hj))) (.cons (.refl _) .nil)))) ?_)
      | trace_state
    all_goals refine roundNT_end ?_
    repeat' (first | exact aa | ((conv => whnf) <;> (first | refine And.intro ?_ ?_ | (intro _h; first | contradiction | (try simp only [dd] at _h)) | (refine dt_go ?_) | exact rfl | exact True.intro | exact dkk | exact dks | (refine wrap_succ ?_; omega))))
  · refine lw_turn _ (turn_close (id := 3) (i := 0) (j := 2) (id' := 2) rfl (show 0 < 1 by decide) (show 2 < 3 by decide) rfl rfl (show 3 ≠ 2 by decide) rfl (rowO_le (Nat.le_refl _))) ?_
    refine lw_turn _ (turn_box (id := 3) (ds := [.i .i64 s.next, .ow 2 0 (elE Table.csO (s.tables.take 0)), owL 3 Thing.cs s.things]) rfl rfl rfl (.cons (.refl _) (.cons (.nil _ _) (.cons (.refl _) .nil)))) ?_
    refine loopNT s.tables.length (fun k => [(15, .i .i64 k)]) (fun k => [none, none, none, some (.box [.i .i64 s.next, .ow 2 k (elE Table.csO (s.tables.take k)), owL 3 Thing.cs s.things])]) (fun k => True) ⟨trivial, ?_⟩
    repeat' (first | exact aa | ((conv => whnf) <;> (first | ((refine .inr (.inl (.inl ⟨[], _, _, _, cloneEntry_ok _ (entLe h _), (view_of rfl .nil), ⟨rfl, rfl⟩, ?_⟩))); rintro _ _ (⟨hm, rfl, rfl⟩ | ⟨rfl, rfl⟩) <;> refine ⟨rfl, _, (lok_pl (by repeat' (first | exact RowsPl.nil | refine RowsPl.cons ?_ ?_ | refine RowsPl.none ?_ | exact rowPl_L (fun _ => rfl) | exact rowPl_box rfl))), ?_⟩) | refine And.intro ?_ ?_ | (intro _h; first | contradiction | (try simp only [dd] at _h)) | (refine dt_go ?_) | exact rfl | exact True.intro | exact dkk | exact dks | (refine wrap_succ ?_; omega))))
    rotate_right
    · conv => whnf
      rename_i k _ _
      obtain rfl : k = s.tables.length := by omega
      exact endM_pick [4, 5] [some (rowL 2 Table.csO (s.tables.take s.tables.length)), some (rowL 3 Thing.cs s.things)] (.agg s.resO) (view_of rfl (.cons rfl (.L (by rw [List.take_length]) (fun _ => rfl)) (.cons rfl (.self (rowPl_L fun _ => rfl)) .nil))) rfl rfl (fun k hk => by rw [hX] at hk; exact absurd hk (Nat.not_lt_zero _)) ⟨rfl, by rw [List.take_length]; rfl⟩
    all_goals (conv => whnf)
    all_goals rename_i k _ _
    all_goals have hk : k < s.tables.length := by omega
    all_goals first
      | (refine roundNT_turn (turn_close (id := 8) (i := k) (j := 1) (id' := 5) rfl (Nat.lt_succ_self k) (show 1 < 2 by decide) cat_k rfl (show 8 ≠ 5 by decide) rfl ⟨Nat.le_refl _, fun i j _ _ => HoldC.h (c := Entry.cs) _ j⟩) ?_; refine roundNT_turn (turn_close (id := 3) (i := 0) (j := 1) (id' := 8) rfl (show 0 < 1 by decide) (show 1 < 3 by decide) rfl rfl (show 3 ≠ 8 by decide) rfl ⟨Nat.le_refl _, snoc_idf2 (by rw [List.length_take]; omega) trivial (fun i j _ _ => HoldC.h (c := Entry.cs) _ j)⟩) ?_; refine roundNT_turn (turn_box (id := 3) (ds := [.i .i64 s.next, .ow 2 (k + 1) (elE Table.csO (s.tables.take (k + 1))), owL 3 Thing.cs s.things]) rfl rfl rfl (.cons (.refl _) (.cons (.ow (fun i j _ _ => HoldC.h _ j) (fun i j hi hj => (by rw [take_snoc hk]; exact snoc_tbl (t := s.tables.getD k default) (by rw [List.length_take]; omega) rfl rfl (fun i j _ _ => .refl _) i j hi hj))) (.cons (.refl _) .nil)))) ?_)
      | (refine roundNT_turn (turn_close (id := 8) (i := k) (j := 1) (id' := 6) rfl (Nat.lt_succ_self k) (show 1 < 2 by decide) cat_k rfl (show 8 ≠ 6 by decide) rfl ⟨Nat.le_refl _, fun i j _ _ => HoldC.h (c := Entry.cs) _ j⟩) ?_; refine roundNT_turn (turn_close (id := 3) (i := 0) (j := 1) (id' := 8) rfl (show 0 < 1 by decide) (show 1 < 3 by decide) rfl rfl (show 3 ≠ 8 by decide) rfl ⟨Nat.le_refl _, snoc_idf2 (by rw [List.length_take]; omega) trivial (fun i j _ _ => HoldC.h (c := Entry.cs) _ j)⟩) ?_; refine roundNT_turn (turn_box (id := 3) (ds := [.i .i64 s.next, .ow 2 (k + 1) (elE Table.csO (s.tables.take (k + 1))), owL 3 Thing.cs s.things]) rfl rfl rfl (.cons (.refl _) (.cons (.ow (fun i j _ _ => HoldC.h _ j) (fun i j hi hj => (by rw [take_snoc hk]; exact snoc_tbl (t := s.tables.getD k default) (by rw [List.length_take]; omega) rfl rfl (fun i j _ _ => .refl _) i j hi hj))) (.cons (.refl _) .nil)))) ?_)
      | (refine roundNT_turn (turn_close (id := 3) (i := 0) (j := 1) (id' := 7) rfl (show 0 < 1 by decide) (show 1 < 3 by decide) rfl rfl (show 3 ≠ 7 by decide) rfl ⟨Nat.le_refl _, snoc_idf (by rw [List.length_take]; omega) (fun j hj => (by rcases (show j = 0 ∨ j = 1 by (have hj' : j < 2 := hj); omega) with rfl | rfl <;> exact trivial))⟩) ?_; refine roundNT_turn (turn_box (id := 3) (ds := [.i .i64 s.next, .ow 2 (k + 1) (elE Table.csO (s.tables.take (k + 1))), owL 3 Thing.cs s.things]) rfl rfl rfl (.cons (.refl _) (.cons (.ow (fun i j _ _ => HoldC.h _ j) (fun i j hi hj => (by rw [take_snoc hk]; exact snoc_tblN (t := s.tables.getD k default) (by rw [List.length_take]; omega) rfl rfl (by assumption) i j hi hj))) (.cons (.refl _) .nil)))) ?_)
      | trace_state
    all_goals refine roundNT_end ?_
    repeat' (first | exact aa | ((conv => whnf) <;> (first | refine And.intro ?_ ?_ | (intro _h; first | contradiction | (try simp only [dd] at _h)) | (refine dt_go ?_) | exact rfl | exact True.intro | exact dkk | exact dks | (refine wrap_succ ?_; omega))))
  · refine lw_turn _ (turn_close (id := 3) (i := 0) (j := 2) (id' := 2) rfl (show 0 < 1 by decide) (show 2 < 3 by decide) rfl rfl (show 3 ≠ 2 by decide) rfl (rowO_le (Nat.le_refl _))) ?_
    refine lw_turn _ (turn_box (id := 3) (ds := [.i .i64 s.next, .ow 2 0 (elE Table.csO (s.tables.take 0)), owL 3 Thing.cs s.things]) rfl rfl rfl (.cons (.refl _) (.cons (.nil _ _) (.cons (.refl _) .nil)))) ?_
    refine loopNT s.tables.length (fun k => [(15, .i .i64 k)]) (fun k => [none, none, none, some (.box [.i .i64 s.next, .ow 2 k (elE Table.csO (s.tables.take k)), owL 3 Thing.cs s.things])]) (fun k => True) ⟨trivial, ?_⟩
    repeat' (first | exact aa | ((conv => whnf) <;> (first | ((refine .inr (.inl (.inl ⟨[], _, _, _, cloneEntry_ok _ (entLe h _), (view_of rfl .nil), ⟨rfl, rfl⟩, ?_⟩))); rintro _ _ (⟨hm, rfl, rfl⟩ | ⟨rfl, rfl⟩) <;> refine ⟨rfl, _, (lok_pl (by repeat' (first | exact RowsPl.nil | refine RowsPl.cons ?_ ?_ | refine RowsPl.none ?_ | exact rowPl_L (fun _ => rfl) | exact rowPl_box rfl))), ?_⟩) | refine And.intro ?_ ?_ | (intro _h; first | contradiction | (try simp only [dd] at _h)) | (refine dt_go ?_) | exact rfl | exact True.intro | exact dkk | exact dks | (refine wrap_succ ?_; omega))))
    rotate_right
    · conv => whnf
      rename_i k _ _
      obtain rfl : k = s.tables.length := by omega
      exact endM_pick [4, 5] [some (rowL 2 Table.csO (s.tables.take s.tables.length)), some (rowL 3 Thing.cs s.things)] (.agg s.resO) (view_of rfl (.cons rfl (.L (by rw [List.take_length]) (fun _ => rfl)) (.cons rfl (.self (rowPl_L fun _ => rfl)) .nil))) rfl rfl (fun k hk => by rw [hX] at hk; exact absurd hk (Nat.not_lt_zero _)) ⟨rfl, by rw [List.take_length]; rfl⟩
    all_goals (conv => whnf)
    all_goals rename_i k _ _
    all_goals have hk : k < s.tables.length := by omega
    all_goals first
      | (refine roundNT_turn (turn_close (id := 8) (i := k) (j := 1) (id' := 5) rfl (Nat.lt_succ_self k) (show 1 < 2 by decide) cat_k rfl (show 8 ≠ 5 by decide) rfl ⟨Nat.le_refl _, fun i j _ _ => HoldC.h (c := Entry.cs) _ j⟩) ?_; refine roundNT_turn (turn_close (id := 3) (i := 0) (j := 1) (id' := 8) rfl (show 0 < 1 by decide) (show 1 < 3 by decide) rfl rfl (show 3 ≠ 8 by decide) rfl ⟨Nat.le_refl _, snoc_idf2 (by rw [List.length_take]; omega) trivial (fun i j _ _ => HoldC.h (c := Entry.cs) _ j)⟩) ?_; refine roundNT_turn (turn_box (id := 3) (ds := [.i .i64 s.next, .ow 2 (k + 1) (elE Table.csO (s.tables.take (k + 1))), owL 3 Thing.cs s.things]) rfl rfl rfl (.cons (.refl _) (.cons (.ow (fun i j _ _ => HoldC.h _ j) (fun i j hi hj => (by rw [take_snoc hk]; exact snoc_tbl (t := s.tables.getD k default) (by rw [List.length_take]; omega) rfl rfl (fun i j _ _ => .refl _) i j hi hj))) (.cons (.refl _) .nil)))) ?_)
      | (refine roundNT_turn (turn_close (id := 8) (i := k) (j := 1) (id' := 6) rfl (Nat.lt_succ_self k) (show 1 < 2 by decide) cat_k rfl (show 8 ≠ 6 by decide) rfl ⟨Nat.le_refl _, fun i j _ _ => HoldC.h (c := Entry.cs) _ j⟩) ?_; refine roundNT_turn (turn_close (id := 3) (i := 0) (j := 1) (id' := 8) rfl (show 0 < 1 by decide) (show 1 < 3 by decide) rfl rfl (show 3 ≠ 8 by decide) rfl ⟨Nat.le_refl _, snoc_idf2 (by rw [List.length_take]; omega) trivial (fun i j _ _ => HoldC.h (c := Entry.cs) _ j)⟩) ?_; refine roundNT_turn (turn_box (id := 3) (ds := [.i .i64 s.next, .ow 2 (k + 1) (elE Table.csO (s.tables.take (k + 1))), owL 3 Thing.cs s.things]) rfl rfl rfl (.cons (.refl _) (.cons (.ow (fun i j _ _ => HoldC.h _ j) (fun i j hi hj => (by rw [take_snoc hk]; exact snoc_tbl (t := s.tables.getD k default) (by rw [List.length_take]; omega) rfl rfl (fun i j _ _ => .refl _) i j hi hj))) (.cons (.refl _) .nil)))) ?_)
      | (refine roundNT_turn (turn_close (id := 3) (i := 0) (j := 1) (id' := 7) rfl (show 0 < 1 by decide) (show 1 < 3 by decide) rfl rfl (show 3 ≠ 7 by decide) rfl ⟨Nat.le_refl _, snoc_idf (by rw [List.length_take]; omega) (fun j hj => (by rcases (show j = 0 ∨ j = 1 by (have hj' : j < 2 := hj); omega) with rfl | rfl <;> exact trivial))⟩) ?_; refine roundNT_turn (turn_box (id := 3) (ds := [.i .i64 s.next, .ow 2 (k + 1) (elE Table.csO (s.tables.take (k + 1))), owL 3 Thing.cs s.things]) rfl rfl rfl (.cons (.refl _) (.cons (.ow (fun i j _ _ => HoldC.h _ j) (fun i j hi hj => (by rw [take_snoc hk]; exact snoc_tblN (t := s.tables.getD k default) (by rw [List.length_take]; omega) rfl rfl (by assumption) i j hi hj))) (.cons (.refl _) .nil)))) ?_)
      | trace_state
    all_goals refine roundNT_end ?_
    repeat' (first | exact aa | ((conv => whnf) <;> (first | refine And.intro ?_ ?_ | (intro _h; first | contradiction | (try simp only [dd] at _h)) | (refine dt_go ?_) | exact rfl | exact True.intro | exact dkk | exact dks | (refine wrap_succ ?_; omega))))
  · refine lw_turn _ (turn_box (id := 2) (ds := [.i .i64 s.next, .ow 2 0 (elE Table.csO (s.tables.take 0)), owL 3 Thing.cs s.things]) rfl rfl rfl (.cons (.refl _) (.cons (.nil _ _) (.cons (ow_nil hn) .nil)))) ?_
    refine loopNT s.tables.length (fun k => [(15, .i .i64 k)]) (fun k => [none, none, some (.box [.i .i64 s.next, .ow 2 k (elE Table.csO (s.tables.take k)), owL 3 Thing.cs s.things])]) (fun k => True) ⟨trivial, ?_⟩
    repeat' (first | exact aa | ((conv => whnf) <;> (first | ((refine .inr (.inl (.inl ⟨[], _, _, _, cloneEntry_ok _ (entLe h _), (view_of rfl .nil), ⟨rfl, rfl⟩, ?_⟩))); rintro _ _ (⟨hm, rfl, rfl⟩ | ⟨rfl, rfl⟩) <;> refine ⟨rfl, _, (lok_pl (by repeat' (first | exact RowsPl.nil | refine RowsPl.cons ?_ ?_ | refine RowsPl.none ?_ | exact rowPl_L (fun _ => rfl) | exact rowPl_box rfl))), ?_⟩) | refine And.intro ?_ ?_ | (intro _h; first | contradiction | (try simp only [dd] at _h)) | (refine dt_go ?_) | exact rfl | exact True.intro | exact dkk | exact dks | (refine wrap_succ ?_; omega))))
    rotate_right
    · conv => whnf
      rename_i k _ _
      obtain rfl : k = s.tables.length := by omega
      exact endM_pick [3, 4] [some (rowL 2 Table.csO (s.tables.take s.tables.length)), some (rowL 3 Thing.cs s.things)] (.agg s.resO) (view_of rfl (.cons rfl (.L (by rw [List.take_length]) (fun _ => rfl)) (.cons rfl (.self (rowPl_L fun _ => rfl)) .nil))) rfl rfl (fun k hk => by rw [hX] at hk; exact absurd hk (Nat.not_lt_zero _)) ⟨rfl, by rw [List.take_length]; rfl⟩
    all_goals (conv => whnf)
    all_goals rename_i k _ _
    all_goals have hk : k < s.tables.length := by omega
    all_goals first
      | (refine roundNT_turn (turn_close (id := 7) (i := k) (j := 1) (id' := 4) rfl (Nat.lt_succ_self k) (show 1 < 2 by decide) cat_k rfl (show 7 ≠ 4 by decide) rfl ⟨Nat.le_refl _, fun i j _ _ => HoldC.h (c := Entry.cs) _ j⟩) ?_; refine roundNT_turn (turn_close (id := 2) (i := 0) (j := 1) (id' := 7) rfl (show 0 < 1 by decide) (show 1 < 3 by decide) rfl rfl (show 2 ≠ 7 by decide) rfl ⟨Nat.le_refl _, snoc_idf2 (by rw [List.length_take]; omega) trivial (fun i j _ _ => HoldC.h (c := Entry.cs) _ j)⟩) ?_; refine roundNT_turn (turn_box (id := 2) (ds := [.i .i64 s.next, .ow 2 (k + 1) (elE Table.csO (s.tables.take (k + 1))), owL 3 Thing.cs s.things]) rfl rfl rfl (.cons (.refl _) (.cons (.ow (fun i j _ _ => HoldC.h _ j) (fun i j hi hj => (by rw [take_snoc hk]; exact snoc_tbl (t := s.tables.getD k default) (by rw [List.length_take]; omega) rfl rfl (fun i j _ _ => .refl _) i j hi hj))) (.cons (.refl _) .nil)))) ?_)
      | (refine roundNT_turn (turn_close (id := 7) (i := k) (j := 1) (id' := 5) rfl (Nat.lt_succ_self k) (show 1 < 2 by decide) cat_k rfl (show 7 ≠ 5 by decide) rfl ⟨Nat.le_refl _, fun i j _ _ => HoldC.h (c := Entry.cs) _ j⟩) ?_; refine roundNT_turn (turn_close (id := 2) (i := 0) (j := 1) (id' := 7) rfl (show 0 < 1 by decide) (show 1 < 3 by decide) rfl rfl (show 2 ≠ 7 by decide) rfl ⟨Nat.le_refl _, snoc_idf2 (by rw [List.length_take]; omega) trivial (fun i j _ _ => HoldC.h (c := Entry.cs) _ j)⟩) ?_; refine roundNT_turn (turn_box (id := 2) (ds := [.i .i64 s.next, .ow 2 (k + 1) (elE Table.csO (s.tables.take (k + 1))), owL 3 Thing.cs s.things]) rfl rfl rfl (.cons (.refl _) (.cons (.ow (fun i j _ _ => HoldC.h _ j) (fun i j hi hj => (by rw [take_snoc hk]; exact snoc_tbl (t := s.tables.getD k default) (by rw [List.length_take]; omega) rfl rfl (fun i j _ _ => .refl _) i j hi hj))) (.cons (.refl _) .nil)))) ?_)
      | (refine roundNT_turn (turn_close (id := 2) (i := 0) (j := 1) (id' := 6) rfl (show 0 < 1 by decide) (show 1 < 3 by decide) rfl rfl (show 2 ≠ 6 by decide) rfl ⟨Nat.le_refl _, snoc_idf (by rw [List.length_take]; omega) (fun j hj => (by rcases (show j = 0 ∨ j = 1 by (have hj' : j < 2 := hj); omega) with rfl | rfl <;> exact trivial))⟩) ?_; refine roundNT_turn (turn_box (id := 2) (ds := [.i .i64 s.next, .ow 2 (k + 1) (elE Table.csO (s.tables.take (k + 1))), owL 3 Thing.cs s.things]) rfl rfl rfl (.cons (.refl _) (.cons (.ow (fun i j _ _ => HoldC.h _ j) (fun i j hi hj => (by rw [take_snoc hk]; exact snoc_tblN (t := s.tables.getD k default) (by rw [List.length_take]; omega) rfl rfl (by assumption) i j hi hj))) (.cons (.refl _) .nil)))) ?_)
      | trace_state
    all_goals refine roundNT_end ?_
    repeat' (first | exact aa | ((conv => whnf) <;> (first | refine And.intro ?_ ?_ | (intro _h; first | contradiction | (try simp only [dd] at _h)) | (refine dt_go ?_) | exact rfl | exact True.intro | exact dkk | exact dks | (refine wrap_succ ?_; omega))))
  · refine lw_turn _ (turn_close (id := 2) (i := 0) (j := 2) (id' := 3) rfl (show 0 < 1 by decide) (show 2 < 3 by decide) rfl rfl (show 2 ≠ 3 by decide) rfl (rowO_le (Nat.le_refl _))) ?_
    refine lw_turn _ (turn_box (id := 2) (ds := [.i .i64 s.next, .ow 2 0 (elE Table.csO (s.tables.take 0)), owL 3 Thing.cs s.things]) rfl rfl rfl (.cons (.refl _) (.cons (.nil _ _) (.cons (.refl _) .nil)))) ?_
    refine loopNT s.tables.length (fun k => [(15, .i .i64 k)]) (fun k => [none, none, some (.box [.i .i64 s.next, .ow 2 k (elE Table.csO (s.tables.take k)), owL 3 Thing.cs s.things]), none]) (fun k => True) ⟨trivial, ?_⟩
    repeat' (first | exact aa | ((conv => whnf) <;> (first | ((refine .inr (.inl (.inl ⟨[], _, _, _, cloneEntry_ok _ (entLe h _), (view_of rfl .nil), ⟨rfl, rfl⟩, ?_⟩))); rintro _ _ (⟨hm, rfl, rfl⟩ | ⟨rfl, rfl⟩) <;> refine ⟨rfl, _, (lok_pl (by repeat' (first | exact RowsPl.nil | refine RowsPl.cons ?_ ?_ | refine RowsPl.none ?_ | exact rowPl_L (fun _ => rfl) | exact rowPl_box rfl))), ?_⟩) | refine And.intro ?_ ?_ | (intro _h; first | contradiction | (try simp only [dd] at _h)) | (refine dt_go ?_) | exact rfl | exact True.intro | exact dkk | exact dks | (refine wrap_succ ?_; omega))))
    rotate_right
    · conv => whnf
      rename_i k _ _
      obtain rfl : k = s.tables.length := by omega
      exact endM_pick [4, 5] [some (rowL 2 Table.csO (s.tables.take s.tables.length)), some (rowL 3 Thing.cs s.things)] (.agg s.resO) (view_of rfl (.cons rfl (.L (by rw [List.take_length]) (fun _ => rfl)) (.cons rfl (.self (rowPl_L fun _ => rfl)) .nil))) rfl rfl (fun k hk => by rw [hX] at hk; exact absurd hk (Nat.not_lt_zero _)) ⟨rfl, by rw [List.take_length]; rfl⟩
    all_goals (conv => whnf)
    all_goals rename_i k _ _
    all_goals have hk : k < s.tables.length := by omega
    all_goals first
      | (refine roundNT_turn (turn_close (id := 8) (i := k) (j := 1) (id' := 5) rfl (Nat.lt_succ_self k) (show 1 < 2 by decide) cat_k rfl (show 8 ≠ 5 by decide) rfl ⟨Nat.le_refl _, fun i j _ _ => HoldC.h (c := Entry.cs) _ j⟩) ?_; refine roundNT_turn (turn_close (id := 2) (i := 0) (j := 1) (id' := 8) rfl (show 0 < 1 by decide) (show 1 < 3 by decide) rfl rfl (show 2 ≠ 8 by decide) rfl ⟨Nat.le_refl _, snoc_idf2 (by rw [List.length_take]; omega) trivial (fun i j _ _ => HoldC.h (c := Entry.cs) _ j)⟩) ?_; refine roundNT_turn (turn_box (id := 2) (ds := [.i .i64 s.next, .ow 2 (k + 1) (elE Table.csO (s.tables.take (k + 1))), owL 3 Thing.cs s.things]) rfl rfl rfl (.cons (.refl _) (.cons (.ow (fun i j _ _ => HoldC.h _ j) (fun i j hi hj => (by rw [take_snoc hk]; exact snoc_tbl (t := s.tables.getD k default) (by rw [List.length_take]; omega) rfl rfl (fun i j _ _ => .refl _) i j hi hj))) (.cons (.refl _) .nil)))) ?_)
      | (refine roundNT_turn (turn_close (id := 8) (i := k) (j := 1) (id' := 6) rfl (Nat.lt_succ_self k) (show 1 < 2 by decide) cat_k rfl (show 8 ≠ 6 by decide) rfl ⟨Nat.le_refl _, fun i j _ _ => HoldC.h (c := Entry.cs) _ j⟩) ?_; refine roundNT_turn (turn_close (id := 2) (i := 0) (j := 1) (id' := 8) rfl (show 0 < 1 by decide) (show 1 < 3 by decide) rfl rfl (show 2 ≠ 8 by decide) rfl ⟨Nat.le_refl _, snoc_idf2 (by rw [List.length_take]; omega) trivial (fun i j _ _ => HoldC.h (c := Entry.cs) _ j)⟩) ?_; refine roundNT_turn (turn_box (id := 2) (ds := [.i .i64 s.next, .ow 2 (k + 1) (elE Table.csO (s.tables.take (k + 1))), owL 3 Thing.cs s.things]) rfl rfl rfl (.cons (.refl _) (.cons (.ow (fun i j _ _ => HoldC.h _ j) (fun i j hi hj => (by rw [take_snoc hk]; exact snoc_tbl (t := s.tables.getD k default) (by rw [List.length_take]; omega) rfl rfl (fun i j _ _ => .refl _) i j hi hj))) (.cons (.refl _) .nil)))) ?_)
      | (refine roundNT_turn (turn_close (id := 2) (i := 0) (j := 1) (id' := 7) rfl (show 0 < 1 by decide) (show 1 < 3 by decide) rfl rfl (show 2 ≠ 7 by decide) rfl ⟨Nat.le_refl _, snoc_idf (by rw [List.length_take]; omega) (fun j hj => (by rcases (show j = 0 ∨ j = 1 by (have hj' : j < 2 := hj); omega) with rfl | rfl <;> exact trivial))⟩) ?_; refine roundNT_turn (turn_box (id := 2) (ds := [.i .i64 s.next, .ow 2 (k + 1) (elE Table.csO (s.tables.take (k + 1))), owL 3 Thing.cs s.things]) rfl rfl rfl (.cons (.refl _) (.cons (.ow (fun i j _ _ => HoldC.h _ j) (fun i j hi hj => (by rw [take_snoc hk]; exact snoc_tblN (t := s.tables.getD k default) (by rw [List.length_take]; omega) rfl rfl (by assumption) i j hi hj))) (.cons (.refl _) .nil)))) ?_)
      | trace_state
    all_goals refine roundNT_end ?_
    repeat' (first | exact aa | ((conv => whnf) <;> (first | refine And.intro ?_ ?_ | (intro _h; first | contradiction | (try simp only [dd] at _h)) | (refine dt_go ?_) | exact rfl | exact True.intro | exact dkk | exact dks | (refine wrap_succ ?_; omega))))
end Go.Proofs.Ytfjciadhanfhpaa

namespace Go.Proofs.Ytfjciadhanfhpaa
open Go Go.RowKit
set_option linter.unusedVariables false
set_option linter.unusedSimpArgs false

set_option maxRecDepth 8000 in
theorem shelfOf_ok (s : Shelf) (h : s.ok) (h1 : 1 ≤ s.tables.length) : RetM env.P 46 [] [.agg s.cs] (fun r H => r = .ptr 0 0 0 ∧ H = [some (boxRow s.csO)]) := by
  refine ret_ofM (nt := 7) (rvs := [.tmp 2]) Try.func46 rfl rfl rfl rfl (fun X hX => ?_)
  repeat' (first | exact aa | ((conv => whnf) <;> (first | refine And.intro ?_ ?_ | (intro _h; first | contradiction | (try simp only [dd] at _h)) | (refine dt_go ?_) | exact rfl | exact True.intro | exact dkk | exact dks | (refine .inr (.inl (.inl ⟨[], _, _, _, copyShelf_ok s h h1, (view_of rfl (by repeat' (first | exact ViewL.nil | refine ViewL.cons rfl (RowBack.self ?_) ?_ | exact rowPl_L (fun _ => rfl) | exact rowPl_box rfl))), ⟨rfl, rfl⟩, ?_⟩)); rintro _ _ ⟨rfl, rfl⟩; refine ⟨rfl, _, (lok_pl (by repeat' (first | exact RowsPl.nil | refine RowsPl.cons ?_ ?_ | refine RowsPl.none ?_ | exact rowPl_L (fun _ => rfl) | exact rowPl_box rfl))), ?_⟩) | (refine wrap_succ ?_; omega))))
  refine endM_turn (turn_close (id := 3) (i := 0) (j := 1) (id' := 1) rfl (show 0 < 1 by decide) (show 1 < 3 by decide) rfl rfl (show 3 ≠ 1 by decide) rfl (rowO_le (Nat.le_refl _))) ?_
  refine endM_turn (turn_close (id := 3) (i := 0) (j := 2) (id' := 2) rfl (show 0 < 1 by decide) (show 2 < 3 by decide) rfl rfl (show 3 ≠ 2 by decide) rfl (rowO_le (Nat.le_refl _))) ?_
  refine endM_turn (turn_box (id := 3) (ds := s.csO) rfl rfl rfl (.cons (.refl _) (.cons (.refl _) (.cons (.refl _) .nil)))) ?_
  exact endM_pick [3] [some (boxRow s.csO)] (.ptr 0 0 0) (view_of rfl (.cons rfl (.self (rowPl_box rfl)) .nil)) rfl rfl (fun k hk => by rw [hX] at hk; exact absurd hk (Nat.not_lt_zero _)) ⟨rfl, rfl⟩

end Go.Proofs.Ytfjciadhanfhpaa

namespace Go.Proofs.Ytfjciadhanfhpaa
open Go Go.RowKit
set_option linter.unusedVariables false
set_option linter.unusedSimpArgs false

end Go.Proofs.Ytfjciadhanfhpaa

namespace Go.Proofs.Ytfjciadhanfhpaa
open Go Go.RowKit
set_option linter.unusedVariables false
set_option linter.unusedSimpArgs false

end Go.Proofs.Ytfjciadhanfhpaa

namespace Go.Proofs.Ytfjciadhanfhpaa
open Go Go.RowKit
set_option linter.unusedVariables false
set_option linter.unusedSimpArgs false

/-- A shelf whose one table has other entries. -/
def Shelf.setE (s : Shelf) (w : Nat) (l : List Entry) : Shelf := ⟨s.next, s.tables.set w ⟨(s.tables.getD w default).next, l⟩, s.things⟩
theorem set_self {α : Type} [Inhabited α] {l : List α} {w : Nat} : l.set w (l.getD w default) = l := by
  apply List.ext_getElem?
  intro k
  rw [List.getElem?_set]
  split
  · rename_i h
    subst h
    split
    · rename_i h
      rw [List.getD_eq_getElem?_getD, List.getElem?_eq_getElem h]; rfl
    · rename_i h
      rw [List.getElem?_eq_none (by omega)]
  · rfl
theorem setE_self {s : Shelf} {w : Nat} : s.setE w (s.tables.getD w default).entries = s := by
  unfold Shelf.setE
  rw [show (⟨(s.tables.getD w default).next, (s.tables.getD w default).entries⟩ : Table) = s.tables.getD w default from rfl, set_self]
theorem setE_len {s : Shelf} {w : Nat} {l : List Entry} : (s.setE w l).tables.length = s.tables.length := List.length_set
theorem setE_at {s : Shelf} {w k : Nat} {l : List Entry} (hw : w < s.tables.length) : (s.setE w l).tables.getD k default = if k = w then ⟨(s.tables.getD w default).next, l⟩ else s.tables.getD k default := getD_set hw
theorem setE_ok {s : Shelf} (h : s.ok) {w : Nat} {l : List Entry} (hl : l.length ≤ 1048576) : (s.setE w l).ok := by
  refine ⟨⟨by rw [setE_len]; exact h.1.1, fun k hk => ?_⟩, h.2⟩
  rw [setE_len] at hk
  by_cases hw : w < s.tables.length
  · rw [setE_at hw]
    split
    · exact ⟨hl, fun _ _ => trivial⟩
    · exact h.1.2 k hk
  · have : (s.setE w l).tables = s.tables := by
      unfold Shelf.setE
      rw [List.set_eq_of_length_le (by omega)]
    rw [this]; exact h.1.2 k hk

/-- The row of tables, one of them opened; a shelf's cells, its tables opened; a shelf with a table opened. -/
def Shelf.rowT (s : Shelf) (w id : Nat) : Row := ⟨2, s.tables.length, upd (elE Table.csO s.tables) w 1 [.row id (s.tables.getD w default).entries.length], .arr⟩
def Shelf.csU (s : Shelf) (id id3 : Nat) : List AV := [.i .i64 s.next, .row id s.tables.length, .row id3 s.things.length]
def Shelf.rowE (s : Shelf) (w : Nat) : Row := rowL 7 Entry.cs (s.tables.getD w default).entries
def Shelf.opened (s : Shelf) (w : Nat) : Hp := [some (boxRow (s.csU 1 3)), some (s.rowT w 2), some (s.rowE w), some (rowL 3 Thing.cs s.things)]

theorem stay_at {cs : List AV} (h : cs.all stay = true) (j : Nat) : stay (cs.getD j .any) = true := by
  rw [List.getD_eq_getElem?_getD]
  cases hj : cs[j]? with
  | none => rfl
  | some c => exact List.all_eq_true.1 h c (List.mem_of_getElem? hj)
theorem csO_pl (s : Shelf) (i j : Nat) : pl1 (elE Table.csO s.tables i j) = true := pl1_getD rfl j
theorem ren_box {σ : Nat → Nat} {cs ds : List AV} (h : cs.map (ren1 σ) = ds) (hf : cs.all flat1 = true) : RowRen σ (boxRow cs) (boxRow ds) := by
  subst h
  refine ⟨by simp [boxRow], rfl, .refl _, fun i j hi hj => ?_⟩
  have hj' : j < cs.length := hj
  have e1 : (boxRow cs).es i j = cs[j] := by
    show cs.getD j .any = _
    rw [List.getD_eq_getElem?_getD, List.getElem?_eq_getElem hj']; rfl
  have e2 : (boxRow (cs.map (ren1 σ))).es i j = ren1 σ cs[j] := by
    show (cs.map (ren1 σ)).getD j .any = _
    rw [List.getD_eq_getElem?_getD, List.getElem?_map, List.getElem?_eq_getElem hj']; rfl
  rw [e1, e2]
  exact ⟨rfl, List.all_eq_true.1 hf _ (List.getElem_mem _)⟩
theorem upd_one {es : Nat → Nat → AV} {w j : Nat} {c : AV} {i k : Nat} : upd es w j [c] i k = if i = w ∧ k = j then c else es i k := by
  by_cases e : i = w ∧ k = j
  · obtain ⟨rfl, rfl⟩ := e
    rw [if_pos ⟨rfl, rfl⟩]
    have := upd_in (es := es) (j := i) (off := k) (cs := [c]) (k := 0) (by simp)
    simpa using this
  · rw [if_neg e, upd_out (by rintro ⟨h1, h2, h3⟩; exact e ⟨h1, by simp at h3; omega⟩)]
theorem ren_pl {σ : Nat → Nat} {x : Row} (h : RowPl x) : RowRen σ x x := ⟨rfl, rfl, .refl _, fun i j hi hj => ⟨(pl1_ren (h.h i j hi hj)).1.symm, (pl1_ren (σ := σ) (h.h i j hi hj)).2⟩⟩
/-- The same rows, looked at from behind. -/
theorem back_ren {σ : Nat → Nat} {m : Nat} {x y : Row} (h : RowRen σ x y) (hk : RKle y.k x.k) (hl : ∀ i j, i < x.cap → j < x.sz → low2 m (x.es i j) = true) : RowBack σ m x y := ⟨h.sz.symm, h.cap.symm, hk, fun i j hi hj => ⟨(h.es i j hi hj).1, hl i j hi hj⟩⟩
/-- A frozen shelf, a table opened. -/
theorem shr_tblU {k n w m id cap : Nat} {kd : RK} {H : Hp} {l : List Table} {es : Nat → Nat → AV} (hn : n = l.length) (hr : H[id]? = some (some ⟨7, cap, es, kd⟩)) (hm : m = (l.getD w default).entries.length) (he : ∀ i j, i < m → j < 7 → es i j = elE Entry.cs (l.getD w default).entries i j) :
    Wk (.sl 2 n fun i j => shrC (k + 2) H (upd (elE Table.csO l) w 1 [.row id m] i j)) (slL 2 Table.cs l) := by
  have h0 := shr_L (d := 1) (k := k + 1) (H := H) (sz := 2) (cO := Table.csO) (l := l) hn
  subst hn
  refine Wk.sl fun i j hi hj => ?_
  rw [upd_one]
  split
  · rename_i e
    obtain ⟨rfl, rfl⟩ := e
    show Wk (shrC (k + 2) H (.row id m)) ((Table.cs (l.getD i default)).getD 1 .any)
    have e1 : shrC (k + 2) H (.row id m) = .sl 7 m (fun i j => shrC (k + 1) H (es i j)) := by
      show (match H[id]? with | some (some r) => AV.sl r.sz m (fun i j => shrC (k + 1) H (r.es i j)) | _ => .any) = _
      rw [hr]
    rw [e1]
    subst hm
    refine Wk.sl fun i' j' hi' hj' => ?_
    rw [he i' j' hi' hj']
    have hp : stay (elE Entry.cs (l.getD i default).entries i' j') = true := stay_at rfl j'
    rw [stay_eq hp]
    exact .refl _
  · have := (Shr.h (d := 1) (cO := Table.csO) (c := Table.cs) H (k + 1) (l.getD i default)).getD j
    have e : ((Table.csO (l.getD i default)).map (shrC (k + 1 + 1) H)).getD j .any = shrC (k + 2) H (elE Table.csO l i j) := by
      unfold elE
      generalize Table.csO (l.getD i default) = cs
      rw [List.getD_eq_getElem?_getD, List.getD_eq_getElem?_getD, List.getElem?_map]
      cases cs[j]? with
      | none => exact shr_any.symm
      | some x => rfl
    rw [e] at this
    exact this
end Go.Proofs.Ytfjciadhanfhpaa

namespace Go.Proofs.Ytfjciadhanfhpaa
open Go Go.RowKit
set_option linter.unusedVariables false
set_option linter.unusedSimpArgs false

theorem rowT_at {s : Shelf} {w id : Nat} : (s.rowT w id).es w 1 = .row id (s.tables.getD w default).entries.length := by
  show upd _ w 1 [.row id _] w 1 = _
  rw [upd_one, if_pos ⟨rfl, rfl⟩]
/-- The row of tables, one closed with what it holds then. -/
theorem setE_rows {s : Shelf} {w n m m0 id : Nat} {l : List Entry} {es : Nat → Nat → AV} (hw : w < s.tables.length) (hm : m = l.length) (he : ∀ i j, i < m → j < 7 → OwEq (es i j) (elE Entry.cs l i j)) : ∀ i j, i < n → j < 2 → OwEq (upd (upd (elE Table.csO s.tables) w 1 [.row id m0]) w 1 [.ow 7 m es] i j) (elE Table.csO (s.setE w l).tables i j) := fun i j hi hj => by
  have hr : elE Table.csO (s.setE w l).tables i j = (Table.csO (if i = w then ⟨(s.tables.getD w default).next, l⟩ else s.tables.getD i default)).getD j .any := by
    unfold elE
    rw [setE_at hw]
  rw [hr, upd_one]
  by_cases e1 : i = w
  · subst e1
    rw [if_pos rfl]
    rcases (show j = 0 ∨ j = 1 by omega) with rfl | rfl
    · rw [if_neg (by omega), upd_one, if_neg (by omega)]
      exact .refl _
    · rw [if_pos ⟨rfl, rfl⟩]
      exact OwEq.len hm (fun i j _ _ => HoldC.h _ j) he
  · rw [if_neg (fun q => e1 q.1), upd_one, if_neg (fun q => e1 q.1), if_neg e1]
    exact .refl _
theorem fx_T {n w id m i j : Nat} {l : List Table} (h : id < n) : fx [] n (upd (elE Table.csO l) w 1 [.row id m] i j) = true := by
  rw [upd_one]
  split
  · simp [fx, rhoF, h]
  · exact low_cells rfl
end Go.Proofs.Ytfjciadhanfhpaa

