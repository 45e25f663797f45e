/- Texts for VHandlesOneP. -/
import Derived.Test.YtmglpojnoadgeaaGreatVo33
namespace Go.Proofs.YtmglpojnoadgeaaGreat
open Go Go.RowKit
set_option linter.unusedVariables false
set_option linter.unusedSimpArgs false
set_option maxRecDepth 8000
theorem upto_q {q : Entry → Bool} {l : List Entry} {k : Nat} (h : ∀ j, j < k → q (l.getD j default) = false) (h2 : q (l.getD k default) = false) : ∀ j, j < k + 1 → q (l.getD j default) = false := fun j hj => by
 rcases Nat.lt_or_eq_of_le (Nat.le_of_lt_succ hj) with r | rfl
 ·exact h j r
 ·exact h2
theorem keepQ {q : List Entry → Entry → Bool} {l : List Entry} {j : Nat} {b : Bool} (h : q (dM q l j) ((dM q l j).getD ((j : Nat) : Int).toNat default) = b) : q (dM q l j) (l.getD j default) = b := by
 rw [Int.toNat_natCast, dM_at dK_le.1] at h
 exact h
theorem ren_L {σ : Nat → Nat} {n : Nat} {l : List Entry} (hn : l.length = n) : RowRen σ (rowL 7 Entry.cs l) ⟨7, n, elE Entry.cs l, .arr⟩ := by
 subst hn
 exact ren_pl (rowPl_L fun _ => rfl)
theorem back_L {σ : Nat → Nat} {m n : Nat} {l : List Entry} (hn : l.length = n) : RowBack σ m (rowL 7 Entry.cs l) ⟨7, n, elE Entry.cs l, .arr⟩ := by
 subst hn
 exact .self (rowPl_L fun _ => rfl)
theorem dK_all {q : List Entry → Entry → Bool} {l : List Entry} {k : Nat} (hk : k = l.length) : dK q l k = dK q l l.length := by rw [hk]
set_option maxHeartbeats 8000000 in
theorem indexR1_ok (l : List Entry) (hl : l.length ≤ 1048576) (g : Nat) (w c : Int) (q : List Entry → Entry → Bool) (hC : ∀ l' : List Entry, l'.length = l.length → ∀ e : Entry, RetM env.P 115 [some (rowL 7 Entry.cs l'), some (boxRow [.fn g [.ptr 3 0 0]]), some (boxRow [.i .i64 w]), some (boxRow [.i .i64 c])] [.agg e.cs, .ptr 1 0 0, .ptr 2 0 0] (fun r H => r = .b (q l' e) ∧ H = [some (rowL 7 Entry.cs l'), some (boxRow [.fn g [.ptr 3 0 0]]), some (boxRow [.i .i64 w]), some (boxRow [.i .i64 c])])) : RetM env.P 117 [some (rowL 7 Entry.cs l), some (boxRow [.fn g [.ptr 3 0 0]]), some (boxRow [.i .i64 w]), some (boxRow [.i .i64 c])] [.row 0 l.length, .fn 115 [.ptr 1 0 0, .ptr 2 0 0]] (fun r H => r = .i .i64 (idxI (l.findIdx? (q l))) ∧ H = [some (rowL 7 Entry.cs l), some (boxRow [.fn g [.ptr 3 0 0]]), some (boxRow [.i .i64 w]), some (boxRow [.i .i64 c])]) := by
 refine ret_ofM (nt := 19) (rvs := [.tmp 4]) Tryz.func117 rfl rfl rfl rfl (fun X hX => ?_)
 repeat' (first | exact aa | ((conv => whnf) <;> (first | refine loopN l.length (fun k => [(8, .i .i64 k)]) (fun k => []) (fun k => ∀ j, j < k → q l (l.getD j default) = false) ⟨fun _ h => by omega, ?_⟩ | (refine .inr (.inl (.inl ⟨[0, 1, 2, 3], _, _, _, hC l rfl _, (view_of rfl (.cons rfl (.self (rowPl_L fun _ => rfl)) (.cons rfl (back_box rfl rfl rfl) (.cons rfl (.self (rowPl_box rfl)) (.cons rfl (.self (rowPl_box rfl)) .nil))))), ⟨rfl, rfl⟩, ?_⟩)); rintro _ _ ⟨rfl, rfl⟩; refine ⟨rfl, _, (lok_c (ren_pl (rowPl_L fun _ => rfl)) (lok_c (ren_box rfl rfl) (lok_c (ren_pl (rowPl_box rfl)) (lok_c (ren_pl (rowPl_box rfl)) lok_nil)))), ?_⟩) | exact low_cells rfl | (show fx [] 4 (upd (elE Table.csO S.tables) i 1 [.row 0 _] _ _) = true; exact fx_T (show 0 < 4 by decide)) | exact upto_q (by assumption) (by assumption) | refine And.intro ?_ ?_ | (intro _h; first | contradiction | (try simp only [dd] at _h)) | (refine dt_go ?_) | exact rfl | exact True.intro | exact dkk | exact dks | (refine wrap_succ ?_; omega))))
 all_goals (conv => whnf)
 ·exact endM_pick [0, 1, 2, 3] [some (rowL 7 Entry.cs l), some (boxRow [.fn g [.ptr 3 0 0]]), some (boxRow [.i .i64 w]), some (boxRow [.i .i64 c])] (.i .i64 (idxI (l.findIdx? (q l)))) (view_of rfl (.cons rfl (.self (rowPl_L fun _ => rfl)) (.cons rfl (back_box rfl rfl rfl) (.cons rfl (.self (rowPl_box rfl)) (.cons rfl (.self (rowPl_box rfl)) .nil))))) (leaf_i (idx_some (by omega) (by assumption) (by assumption))) rfl (by rw [hX]; exact keepK (n := 4) rfl rfl) ⟨rfl, rfl⟩
 ·exact endM_pick [0, 1, 2, 3] [some (rowL 7 Entry.cs l), some (boxRow [.fn g [.ptr 3 0 0]]), some (boxRow [.i .i64 w]), some (boxRow [.i .i64 c])] (.i .i64 (idxI (l.findIdx? (q l)))) (view_of rfl (.cons rfl (.self (rowPl_L fun _ => rfl)) (.cons rfl (back_box rfl rfl rfl) (.cons rfl (.self (rowPl_box rfl)) (.cons rfl (.self (rowPl_box rfl)) .nil))))) (leaf_i (idx_none fun j hj => by have := ‹∀ j, j < _ → q l (l.getD j default) = false›; exact this j (by omega))) rfl (by rw [hX]; exact keepK (n := 4) rfl rfl) ⟨rfl, rfl⟩
set_option maxHeartbeats 8000000 in
theorem delR1_none (l : List Entry) (hl : l.length ≤ 1048576) (g : Nat) (w c : Int) (q : List Entry → Entry → Bool) (hC : ∀ l' : List Entry, l'.length = l.length → ∀ e : Entry, RetM env.P 115 [some (rowL 7 Entry.cs l'), some (boxRow [.fn g [.ptr 3 0 0]]), some (boxRow [.i .i64 w]), some (boxRow [.i .i64 c])] [.agg e.cs, .ptr 1 0 0, .ptr 2 0 0] (fun r H => r = .b (q l' e) ∧ H = [some (rowL 7 Entry.cs l'), some (boxRow [.fn g [.ptr 3 0 0]]), some (boxRow [.i .i64 w]), some (boxRow [.i .i64 c])])) (hu : uniq l) (hq : l.findIdx? (q l) = none) (h1 : ∀ j, j < l.length → q l (l.getD j default) = false) : RetM env.P 110 [some (rowL 7 Entry.cs l), some (boxRow [.fn g [.ptr 3 0 0]]), some (boxRow [.i .i64 w]), some (boxRow [.i .i64 c])] [.row 0 l.length, .fn 115 [.ptr 1 0 0, .ptr 2 0 0]] (fun r H => r = .row 0 (dK q l l.length).length ∧ H = [some ⟨7, l.length, cutC (dK q l l.length), .arr⟩, some (boxRow [.fn g [.ptr 3 0 0]]), some (boxRow [.i .i64 w]), some (boxRow [.i .i64 c])]) := by
 have hD := (run_nil (q := q) (Nat.le_refl l.length) h1).2.1
 rw [List.take_length] at hD
 refine ret_ofM (nt := 42) (rvs := [.tmp 4]) Tryz.func110 rfl rfl rfl rfl (fun X hX => ?_)
 repeat' (first | exact aa | ((conv => whnf) <;> (first | (refine .inr (.inl (.inl ⟨[0, 1, 2, 3], _, _, _, indexR1_ok l hl g w c q hC, (view_of rfl (.cons rfl (.self (rowPl_L fun _ => rfl)) (.cons rfl (back_box rfl rfl rfl) (.cons rfl (.self (rowPl_box rfl)) (.cons rfl (.self (rowPl_box rfl)) .nil))))), ⟨rfl, rfl⟩, ?_⟩)); rintro _ _ ⟨rfl, rfl⟩; refine ⟨rfl, _, (lok_c (ren_pl (rowPl_L fun _ => rfl)) (lok_c (ren_box rfl rfl) (lok_c (ren_pl (rowPl_box rfl)) (lok_c (ren_pl (rowPl_box rfl)) lok_nil)))), ?_⟩; rw [hq]; simp only [idxI]) | exact low_cells rfl | (show fx [] 4 (upd (elE Table.csO S.tables) i 1 [.row 0 _] _ _) = true; exact fx_T (show 0 < 4 by decide)) | refine And.intro ?_ ?_ | (intro _h; first | contradiction | (try simp only [dd] at _h)) | (refine dt_go ?_) | exact rfl | exact True.intro | exact dkk | exact dks | (refine wrap_succ ?_; omega))))
 all_goals (conv => whnf)
 refine endM_turn (turn_same (id := 0) (x := ⟨7, l.length, cutC (dK q l l.length), .arr⟩) rfl rfl rfl rfl rfl (fun i j hi hj => ?_)) ?_
 ·rw [hD]
  exact cutC_in hi
 exact endM_pick [0, 1, 2, 3] [some ⟨7, l.length, cutC (dK q l l.length), .arr⟩, some (boxRow [.fn g [.ptr 3 0 0]]), some (boxRow [.i .i64 w]), some (boxRow [.i .i64 c])] (.row 0 (dK q l l.length).length) (view_of rfl (.cons rfl (.self cutC_row) (.cons rfl (back_box rfl rfl rfl) (.cons rfl (.self (rowPl_box rfl)) (.cons rfl (.self (rowPl_box rfl)) .nil))))) (by rw [hD]; rfl) rfl (by rw [hX]; exact keepK (n := 4) rfl rfl) ⟨rfl, rfl⟩
set_option maxHeartbeats 8000000 in
theorem delR1_some (l : List Entry) (hl : l.length ≤ 1048576) (g : Nat) (w c : Int) (q : List Entry → Entry → Bool) (hC : ∀ l' : List Entry, l'.length = l.length → ∀ e : Entry, RetM env.P 115 [some (rowL 7 Entry.cs l'), some (boxRow [.fn g [.ptr 3 0 0]]), some (boxRow [.i .i64 w]), some (boxRow [.i .i64 c])] [.agg e.cs, .ptr 1 0 0, .ptr 2 0 0] (fun r H => r = .b (q l' e) ∧ H = [some (rowL 7 Entry.cs l'), some (boxRow [.fn g [.ptr 3 0 0]]), some (boxRow [.i .i64 w]), some (boxRow [.i .i64 c])])) (hu : uniq l) (q0 : Nat) (hq : l.findIdx? (q l) = some q0) (hlt : q0 < l.length) (h1 : ∀ j, j < q0 → q l (l.getD j default) = false) (h2 : q l (l.getD q0 default) = true) : RetM env.P 110 [some (rowL 7 Entry.cs l), some (boxRow [.fn g [.ptr 3 0 0]]), some (boxRow [.i .i64 w]), some (boxRow [.i .i64 c])] [.row 0 l.length, .fn 115 [.ptr 1 0 0, .ptr 2 0 0]] (fun r H => r = .row 0 (dK q l l.length).length ∧ H = [some ⟨7, l.length, cutC (dK q l l.length), .arr⟩, some (boxRow [.fn g [.ptr 3 0 0]]), some (boxRow [.i .i64 w]), some (boxRow [.i .i64 c])]) := by
 have hS := run_start hu hlt h1 h2
 refine ret_ofM (nt := 42) (rvs := [.tmp 4]) Tryz.func110 rfl rfl rfl rfl (fun X hX => ?_)
 repeat' (first | exact aa | ((conv => whnf) <;> (first | (refine .inr (.inl (.inl ⟨[0, 1, 2, 3], _, _, _, indexR1_ok l hl g w c q hC, (view_of rfl (.cons rfl (.self (rowPl_L fun _ => rfl)) (.cons rfl (back_box rfl rfl rfl) (.cons rfl (.self (rowPl_box rfl)) (.cons rfl (.self (rowPl_box rfl)) .nil))))), ⟨rfl, rfl⟩, ?_⟩)); rintro _ _ ⟨rfl, rfl⟩; refine ⟨rfl, _, (lok_c (ren_pl (rowPl_L fun _ => rfl)) (lok_c (ren_box rfl rfl) (lok_c (ren_pl (rowPl_box rfl)) (lok_c (ren_pl (rowPl_box rfl)) lok_nil)))), ?_⟩; rw [hq]; simp only [idxI]) | (refine .inr (.inl (.inl ⟨[0, 1, 2, 3], _, _, _, hC (dM q l _) dM_len _, (view_of rfl (.cons rfl (back_L dM_len) (.cons rfl (back_box rfl rfl rfl) (.cons rfl (.self (rowPl_box rfl)) (.cons rfl (.self (rowPl_box rfl)) .nil))))), ⟨rfl, rfl⟩, ?_⟩)); rintro _ _ ⟨rfl, rfl⟩; refine ⟨rfl, _, (lok_c (ren_L dM_len) (lok_c (ren_box rfl rfl) (lok_c (ren_pl (rowPl_box rfl)) (lok_c (ren_pl (rowPl_box rfl)) lok_nil)))), ?_⟩) | refine loopN (l.length - (q0 + 1)) (fun k => [(6, .i .i64 ((q0 + 1 + k : Nat) : Int)), (5, .i .i64 ((dK q l (q0 + 1 + k)).length : Nat))]) (fun k => [some (.arr ⟨7, l.length, elE Entry.cs (dM q l (q0 + 1 + k)), .arr⟩)]) (fun k => True) ⟨trivial, ?_⟩ | exact low_cells rfl | (show fx [] 4 (upd (elE Table.csO S.tables) i 1 [.row 0 _] _ _) = true; exact fx_T (show 0 < 4 by decide)) | refine And.intro ?_ ?_ | (intro _h; first | contradiction | (try simp only [dd] at _h)) | (refine dt_go ?_) | exact rfl | exact True.intro | exact dkk | exact dks | (refine wrap_succ ?_; omega))))
 ·exact congrArg _ hS.2.symm
 ·exact arr_same hS.1 rfl (fun a j => low_cells rfl)
 ·rename_i k _ _ _
  have := (dK_le (q := q) (l := l) (j := q0 + 1 + k)).1
  omega
 ·rename_i k _ _ hj
  have hj' : q0 + 1 + k < l.length := by omega
  have hn := keepQ _h
  have hle := (dK_le (q := q) (l := l) (j := q0 + 1 + k)).2
  rw [show q0 + 1 + (k + 1) = q0 + 1 + k + 1 from rfl, dK_miss hu hj' hn, List.length_append, List.length_singleton, wrap_in (by omega) (by omega)]
  rfl
 ·rename_i k _ _ hj
  have hj' : q0 + 1 + k < l.length := by omega
  have hn := keepQ _h
  have hle := (dK_le (q := q) (l := l) (j := q0 + 1 + k)).1
  conv => whnf
  refine arr_set (k := (dK q l (q0 + 1 + k)).length) (show dM q l (q0 + 1 + (k + 1)) = _ from dM_miss hu (j := q0 + 1 + k) hj' hn) (by rw [dM_len]; omega) rfl (fun a j => low_cells rfl) ?_ ?_
  ·intro j hj
   have e0 : (dM q l (q0 + 1 + k)).getD (((q0 + 1 + k : Nat) : Int)).toNat default = l.getD (q0 + 1 + k) default := by rw [Int.toNat_natCast, dM_at hle]
   have hj7 : j < 7 := hj
   rw [← e0]
   rcases (show j = 0 ∨ j = 1 ∨ j = 2 ∨ j = 3 ∨ j = 4 ∨ j = 5 ∨ j = 6 by omega) with rfl | rfl | rfl | rfl | rfl | rfl | rfl
   all_goals (simp only [upd, Nat.beq_refl, Int.toNat_natCast]; rfl)
  ·intro a j hne
   simp only [upd, beq_ff hne, Bool.and_false, cond_false, Int.toNat_natCast]
 ·rename_i k _ _ hj
  have hj' : q0 + 1 + k < l.length := by omega
  have hh := keepQ (b := true) (eq_true_of_ne_false _h)
  exact congrArg _ (congrArg List.length (dK_hit hu hj' hh).symm)
 ·rename_i k _ _ hj
  have hj' : q0 + 1 + k < l.length := by omega
  have hh := keepQ (b := true) (eq_true_of_ne_false _h)
  exact arr_same (dM_hit hu hj' hh) rfl (fun a j => low_cells rfl)
 all_goals first | (exact Int.ofNat_le.2 dK_le.2) | exact Int.le_refl _ | skip
 all_goals (conv => whnf)
 rename_i k _ _
 have hk : dK q l (q0 + 1 + k) = dK q l l.length := dK_all (by omega)
 have hM : dM q l (q0 + 1 + k) = dK q l l.length ++ l.drop (dK q l l.length).length := by rw [dM_eq, hk]
 refine endM_turn (turn_same (id := 0) (x := ⟨7, l.length, cutC (dK q l l.length), .arr⟩) rfl rfl rfl rfl rfl (fun i j hi hj => ?_)) ?_
 ·have hi' : i < l.length := hi
  dsimp only
  rw [hk, hM]
  have hle := (dK_le (q := q) (l := l) (j := l.length)).2
  unfold cutC
  by_cases h : i < (dK q l l.length).length
  ·rw [if_pos h, segE_out (by omega)]
   unfold elE
   rw [getD_app h]
  ·rw [if_neg h, segE_in (by omega) (by omega)]
   rfl
 exact endM_pick [0, 1, 2, 3] [some ⟨7, l.length, cutC (dK q l l.length), .arr⟩, some (boxRow [.fn g [.ptr 3 0 0]]), some (boxRow [.i .i64 w]), some (boxRow [.i .i64 c])] (.row 0 (dK q l l.length).length) (view_of rfl (.cons rfl (.self cutC_row) (.cons rfl (back_box rfl rfl rfl) (.cons rfl (.self (rowPl_box rfl)) (.cons rfl (.self (rowPl_box rfl)) .nil))))) (by rw [hk]; rfl) rfl (by rw [hX]; exact keepK (n := 4) rfl rfl) ⟨rfl, rfl⟩
theorem delR1_ok (l : List Entry) (hl : l.length ≤ 1048576) (g : Nat) (w c : Int) (q : List Entry → Entry → Bool) (hC : ∀ l' : List Entry, l'.length = l.length → ∀ e : Entry, RetM env.P 115 [some (rowL 7 Entry.cs l'), some (boxRow [.fn g [.ptr 3 0 0]]), some (boxRow [.i .i64 w]), some (boxRow [.i .i64 c])] [.agg e.cs, .ptr 1 0 0, .ptr 2 0 0] (fun r H => r = .b (q l' e) ∧ H = [some (rowL 7 Entry.cs l'), some (boxRow [.fn g [.ptr 3 0 0]]), some (boxRow [.i .i64 w]), some (boxRow [.i .i64 c])])) (hu : uniq l) : RetM env.P 110 [some (rowL 7 Entry.cs l), some (boxRow [.fn g [.ptr 3 0 0]]), some (boxRow [.i .i64 w]), some (boxRow [.i .i64 c])] [.row 0 l.length, .fn 115 [.ptr 1 0 0, .ptr 2 0 0]] (fun r H => r = .row 0 (dK q l l.length).length ∧ H = [some ⟨7, l.length, cutC (dK q l l.length), .arr⟩, some (boxRow [.fn g [.ptr 3 0 0]]), some (boxRow [.i .i64 w]), some (boxRow [.i .i64 c])]) := by
 cases hq : l.findIdx? (q l) with
 | none =>
  rw [List.findIdx?_eq_none_iff] at hq
  exact delR1_none l hl g w c q hC hu (by rw [List.findIdx?_eq_none_iff]; exact hq) fun j hj => hq _ (getD_mem hj)
 | some q0 =>
  have hq' := hq
  rw [List.findIdx?_eq_some_iff_getElem] at hq'
  obtain ⟨hlt, h1, h2⟩ := hq'
  refine delR1_some l hl g w c q hC hu q0 hq hlt (fun j hj => ?_) ?_
  ·rw [List.getD_eq_getElem?_getD, List.getElem?_eq_getElem (by omega)]
   have := h2 j hj
   simpa using this
  ·rw [List.getD_eq_getElem?_getD, List.getElem?_eq_getElem hlt]
   exact h1
set_option maxHeartbeats 8000000 in
theorem indexR2_ok (l : List Entry) (hl : l.length ≤ 1048576) (S : Shelf) (i : Nat) (w : Int) (q : List Entry → Entry → Bool) (hC : ∀ l' : List Entry, l'.length = l.length → ∀ e : Entry, RetM env.P 115 [some (rowL 7 Entry.cs l'), some (boxRow [.fn 116 [.ptr 3 0 0]]), some (boxRow [.i .i64 w]), some (boxRow [.ptr 4 0 0]), some (boxRow (S.csT 5)), some (S.rowW i 0 l.length)] [.agg e.cs, .ptr 1 0 0, .ptr 2 0 0] (fun r H => r = .b (q l' e) ∧ H = [some (rowL 7 Entry.cs l'), some (boxRow [.fn 116 [.ptr 3 0 0]]), some (boxRow [.i .i64 w]), some (boxRow [.ptr 4 0 0]), some (boxRow (S.csT 5)), some (S.rowW i 0 l.length)])) : RetM env.P 117 [some (rowL 7 Entry.cs l), some (boxRow [.fn 116 [.ptr 3 0 0]]), some (boxRow [.i .i64 w]), some (boxRow [.ptr 4 0 0]), some (boxRow (S.csT 5)), some (S.rowW i 0 l.length)] [.row 0 l.length, .fn 115 [.ptr 1 0 0, .ptr 2 0 0]] (fun r H => r = .i .i64 (idxI (l.findIdx? (q l))) ∧ H = [some (rowL 7 Entry.cs l), some (boxRow [.fn 116 [.ptr 3 0 0]]), some (boxRow [.i .i64 w]), some (boxRow [.ptr 4 0 0]), some (boxRow (S.csT 5)), some (S.rowW i 0 l.length)]) := by
 refine ret_ofM (nt := 19) (rvs := [.tmp 4]) Tryz.func117 rfl rfl rfl rfl (fun X hX => ?_)
 repeat' (first | exact aa | ((conv => whnf) <;> (first | refine loopN l.length (fun k => [(8, .i .i64 k)]) (fun k => []) (fun k => ∀ j, j < k → q l (l.getD j default) = false) ⟨fun _ h => by omega, ?_⟩ | (refine .inr (.inl (.inl ⟨[0, 1, 2, 3, 4, 5], _, _, _, hC l rfl _, (view_of rfl (.cons rfl (.self (rowPl_L fun _ => rfl)) (.cons rfl (back_box rfl rfl rfl) (.cons rfl (.self (rowPl_box rfl)) (.cons rfl (back_box rfl rfl rfl) (.cons rfl (back_box rfl rfl rfl) (.cons rfl (back_W rfl (by show 0 < 6; decide)) .nil))))))), ⟨rfl, rfl⟩, ?_⟩)); rintro _ _ ⟨rfl, rfl⟩; refine ⟨rfl, _, (lok_c (ren_pl (rowPl_L fun _ => rfl)) (lok_c (ren_box rfl rfl) (lok_c (ren_pl (rowPl_box rfl)) (lok_c (ren_box rfl rfl) (lok_c (ren_box rfl rfl) (lok_c (ren_W' rfl) lok_nil)))))), ?_⟩) | exact low_cells rfl | (show fx [] 6 (upd (elE Table.csO S.tables) i 1 [.row 0 _] _ _) = true; exact fx_T (show 0 < 6 by decide)) | exact upto_q (by assumption) (by assumption) | refine And.intro ?_ ?_ | (intro _h; first | contradiction | (try simp only [dd] at _h)) | (refine dt_go ?_) | exact rfl | exact True.intro | exact dkk | exact dks | (refine wrap_succ ?_; omega))))
 all_goals (conv => whnf)
 ·exact endM_pick [0, 1, 2, 3, 4, 5] [some (rowL 7 Entry.cs l), some (boxRow [.fn 116 [.ptr 3 0 0]]), some (boxRow [.i .i64 w]), some (boxRow [.ptr 4 0 0]), some (boxRow (S.csT 5)), some (S.rowW i 0 l.length)] (.i .i64 (idxI (l.findIdx? (q l)))) (view_of rfl (.cons rfl (.self (rowPl_L fun _ => rfl)) (.cons rfl (back_box rfl rfl rfl) (.cons rfl (.self (rowPl_box rfl)) (.cons rfl (back_box rfl rfl rfl) (.cons rfl (back_box rfl rfl rfl) (.cons rfl (back_W rfl (by show 0 < 6; decide)) .nil))))))) (leaf_i (idx_some (by omega) (by assumption) (by assumption))) rfl (by rw [hX]; exact keepK (n := 6) rfl rfl) ⟨rfl, rfl⟩
 ·exact endM_pick [0, 1, 2, 3, 4, 5] [some (rowL 7 Entry.cs l), some (boxRow [.fn 116 [.ptr 3 0 0]]), some (boxRow [.i .i64 w]), some (boxRow [.ptr 4 0 0]), some (boxRow (S.csT 5)), some (S.rowW i 0 l.length)] (.i .i64 (idxI (l.findIdx? (q l)))) (view_of rfl (.cons rfl (.self (rowPl_L fun _ => rfl)) (.cons rfl (back_box rfl rfl rfl) (.cons rfl (.self (rowPl_box rfl)) (.cons rfl (back_box rfl rfl rfl) (.cons rfl (back_box rfl rfl rfl) (.cons rfl (back_W rfl (by show 0 < 6; decide)) .nil))))))) (leaf_i (idx_none fun j hj => by have := ‹∀ j, j < _ → q l (l.getD j default) = false›; exact this j (by omega))) rfl (by rw [hX]; exact keepK (n := 6) rfl rfl) ⟨rfl, rfl⟩
set_option maxHeartbeats 8000000 in
theorem delR2_none (l : List Entry) (hl : l.length ≤ 1048576) (S : Shelf) (i : Nat) (w : Int) (q : List Entry → Entry → Bool) (hC : ∀ l' : List Entry, l'.length = l.length → ∀ e : Entry, RetM env.P 115 [some (rowL 7 Entry.cs l'), some (boxRow [.fn 116 [.ptr 3 0 0]]), some (boxRow [.i .i64 w]), some (boxRow [.ptr 4 0 0]), some (boxRow (S.csT 5)), some (S.rowW i 0 l.length)] [.agg e.cs, .ptr 1 0 0, .ptr 2 0 0] (fun r H => r = .b (q l' e) ∧ H = [some (rowL 7 Entry.cs l'), some (boxRow [.fn 116 [.ptr 3 0 0]]), some (boxRow [.i .i64 w]), some (boxRow [.ptr 4 0 0]), some (boxRow (S.csT 5)), some (S.rowW i 0 l.length)])) (hu : uniq l) (hq : l.findIdx? (q l) = none) (h1 : ∀ j, j < l.length → q l (l.getD j default) = false) : RetM env.P 110 [some (rowL 7 Entry.cs l), some (boxRow [.fn 116 [.ptr 3 0 0]]), some (boxRow [.i .i64 w]), some (boxRow [.ptr 4 0 0]), some (boxRow (S.csT 5)), some (S.rowW i 0 l.length)] [.row 0 l.length, .fn 115 [.ptr 1 0 0, .ptr 2 0 0]] (fun r H => r = .row 0 (dK q l l.length).length ∧ H = [some ⟨7, l.length, cutC (dK q l l.length), .arr⟩, some (boxRow [.fn 116 [.ptr 3 0 0]]), some (boxRow [.i .i64 w]), some (boxRow [.ptr 4 0 0]), some (boxRow (S.csT 5)), some (S.rowW i 0 l.length)]) := by
 have hD := (run_nil (q := q) (Nat.le_refl l.length) h1).2.1
 rw [List.take_length] at hD
 refine ret_ofM (nt := 42) (rvs := [.tmp 4]) Tryz.func110 rfl rfl rfl rfl (fun X hX => ?_)
 repeat' (first | exact aa | ((conv => whnf) <;> (first | (refine .inr (.inl (.inl ⟨[0, 1, 2, 3, 4, 5], _, _, _, indexR2_ok l hl S i w q hC, (view_of rfl (.cons rfl (.self (rowPl_L fun _ => rfl)) (.cons rfl (back_box rfl rfl rfl) (.cons rfl (.self (rowPl_box rfl)) (.cons rfl (back_box rfl rfl rfl) (.cons rfl (back_box rfl rfl rfl) (.cons rfl (back_W rfl (by show 0 < 6; decide)) .nil))))))), ⟨rfl, rfl⟩, ?_⟩)); rintro _ _ ⟨rfl, rfl⟩; refine ⟨rfl, _, (lok_c (ren_pl (rowPl_L fun _ => rfl)) (lok_c (ren_box rfl rfl) (lok_c (ren_pl (rowPl_box rfl)) (lok_c (ren_box rfl rfl) (lok_c (ren_box rfl rfl) (lok_c (ren_W' rfl) lok_nil)))))), ?_⟩; rw [hq]; simp only [idxI]) | exact low_cells rfl | (show fx [] 6 (upd (elE Table.csO S.tables) i 1 [.row 0 _] _ _) = true; exact fx_T (show 0 < 6 by decide)) | refine And.intro ?_ ?_ | (intro _h; first | contradiction | (try simp only [dd] at _h)) | (refine dt_go ?_) | exact rfl | exact True.intro | exact dkk | exact dks | (refine wrap_succ ?_; omega))))
 all_goals (conv => whnf)
 refine endM_turn (turn_same (id := 0) (x := ⟨7, l.length, cutC (dK q l l.length), .arr⟩) rfl rfl rfl rfl rfl (fun i j hi hj => ?_)) ?_
 ·rw [hD]
  exact cutC_in hi
 exact endM_pick [0, 1, 2, 3, 4, 5] [some ⟨7, l.length, cutC (dK q l l.length), .arr⟩, some (boxRow [.fn 116 [.ptr 3 0 0]]), some (boxRow [.i .i64 w]), some (boxRow [.ptr 4 0 0]), some (boxRow (S.csT 5)), some (S.rowW i 0 l.length)] (.row 0 (dK q l l.length).length) (view_of rfl (.cons rfl (.self cutC_row) (.cons rfl (back_box rfl rfl rfl) (.cons rfl (.self (rowPl_box rfl)) (.cons rfl (back_box rfl rfl rfl) (.cons rfl (back_box rfl rfl rfl) (.cons rfl (back_W rfl (by show 0 < 6; decide)) .nil))))))) (by rw [hD]; rfl) rfl (by rw [hX]; exact keepK (n := 6) rfl rfl) ⟨rfl, rfl⟩
set_option maxHeartbeats 8000000 in
theorem delR2_some (l : List Entry) (hl : l.length ≤ 1048576) (S : Shelf) (i : Nat) (w : Int) (q : List Entry → Entry → Bool) (hC : ∀ l' : List Entry, l'.length = l.length → ∀ e : Entry, RetM env.P 115 [some (rowL 7 Entry.cs l'), some (boxRow [.fn 116 [.ptr 3 0 0]]), some (boxRow [.i .i64 w]), some (boxRow [.ptr 4 0 0]), some (boxRow (S.csT 5)), some (S.rowW i 0 l.length)] [.agg e.cs, .ptr 1 0 0, .ptr 2 0 0] (fun r H => r = .b (q l' e) ∧ H = [some (rowL 7 Entry.cs l'), some (boxRow [.fn 116 [.ptr 3 0 0]]), some (boxRow [.i .i64 w]), some (boxRow [.ptr 4 0 0]), some (boxRow (S.csT 5)), some (S.rowW i 0 l.length)])) (hu : uniq l) (q0 : Nat) (hq : l.findIdx? (q l) = some q0) (hlt : q0 < l.length) (h1 : ∀ j, j < q0 → q l (l.getD j default) = false) (h2 : q l (l.getD q0 default) = true) : RetM env.P 110 [some (rowL 7 Entry.cs l), some (boxRow [.fn 116 [.ptr 3 0 0]]), some (boxRow [.i .i64 w]), some (boxRow [.ptr 4 0 0]), some (boxRow (S.csT 5)), some (S.rowW i 0 l.length)] [.row 0 l.length, .fn 115 [.ptr 1 0 0, .ptr 2 0 0]] (fun r H => r = .row 0 (dK q l l.length).length ∧ H = [some ⟨7, l.length, cutC (dK q l l.length), .arr⟩, some (boxRow [.fn 116 [.ptr 3 0 0]]), some (boxRow [.i .i64 w]), some (boxRow [.ptr 4 0 0]), some (boxRow (S.csT 5)), some (S.rowW i 0 l.length)]) := by
 have hS := run_start hu hlt h1 h2
 refine ret_ofM (nt := 42) (rvs := [.tmp 4]) Tryz.func110 rfl rfl rfl rfl (fun X hX => ?_)
 repeat' (first | exact aa | ((conv => whnf) <;> (first | (refine .inr (.inl (.inl ⟨[0, 1, 2, 3, 4, 5], _, _, _, indexR2_ok l hl S i w q hC, (view_of rfl (.cons rfl (.self (rowPl_L fun _ => rfl)) (.cons rfl (back_box rfl rfl rfl) (.cons rfl (.self (rowPl_box rfl)) (.cons rfl (back_box rfl rfl rfl) (.cons rfl (back_box rfl rfl rfl) (.cons rfl (back_W rfl (by show 0 < 6; decide)) .nil))))))), ⟨rfl, rfl⟩, ?_⟩)); rintro _ _ ⟨rfl, rfl⟩; refine ⟨rfl, _, (lok_c (ren_pl (rowPl_L fun _ => rfl)) (lok_c (ren_box rfl rfl) (lok_c (ren_pl (rowPl_box rfl)) (lok_c (ren_box rfl rfl) (lok_c (ren_box rfl rfl) (lok_c (ren_W' rfl) lok_nil)))))), ?_⟩; rw [hq]; simp only [idxI]) | (refine .inr (.inl (.inl ⟨[0, 1, 2, 3, 4, 5], _, _, _, hC (dM q l _) dM_len _, (view_of rfl (.cons rfl (back_L dM_len) (.cons rfl (back_box rfl rfl rfl) (.cons rfl (.self (rowPl_box rfl)) (.cons rfl (back_box rfl rfl rfl) (.cons rfl (back_box rfl rfl rfl) (.cons rfl (back_W rfl (by show 0 < 6; decide)) .nil))))))), ⟨rfl, rfl⟩, ?_⟩)); rintro _ _ ⟨rfl, rfl⟩; refine ⟨rfl, _, (lok_c (ren_L dM_len) (lok_c (ren_box rfl rfl) (lok_c (ren_pl (rowPl_box rfl)) (lok_c (ren_box rfl rfl) (lok_c (ren_box rfl rfl) (lok_c (ren_W' rfl) lok_nil)))))), ?_⟩) | refine loopN (l.length - (q0 + 1)) (fun k => [(6, .i .i64 ((q0 + 1 + k : Nat) : Int)), (5, .i .i64 ((dK q l (q0 + 1 + k)).length : Nat))]) (fun k => [some (.arr ⟨7, l.length, elE Entry.cs (dM q l (q0 + 1 + k)), .arr⟩)]) (fun k => True) ⟨trivial, ?_⟩ | exact low_cells rfl | (show fx [] 6 (upd (elE Table.csO S.tables) i 1 [.row 0 _] _ _) = true; exact fx_T (show 0 < 6 by decide)) | refine And.intro ?_ ?_ | (intro _h; first | contradiction | (try simp only [dd] at _h)) | (refine dt_go ?_) | exact rfl | exact True.intro | exact dkk | exact dks | (refine wrap_succ ?_; omega))))
 ·exact congrArg _ hS.2.symm
 ·exact arr_same hS.1 rfl (fun a j => low_cells rfl)
 ·rename_i k _ _ _
  have := (dK_le (q := q) (l := l) (j := q0 + 1 + k)).1
  omega
 ·rename_i k _ _ hj
  have hj' : q0 + 1 + k < l.length := by omega
  have hn := keepQ _h
  have hle := (dK_le (q := q) (l := l) (j := q0 + 1 + k)).2
  rw [show q0 + 1 + (k + 1) = q0 + 1 + k + 1 from rfl, dK_miss hu hj' hn, List.length_append, List.length_singleton, wrap_in (by omega) (by omega)]
  rfl
 ·rename_i k _ _ hj
  have hj' : q0 + 1 + k < l.length := by omega
  have hn := keepQ _h
  have hle := (dK_le (q := q) (l := l) (j := q0 + 1 + k)).1
  conv => whnf
  refine arr_set (k := (dK q l (q0 + 1 + k)).length) (show dM q l (q0 + 1 + (k + 1)) = _ from dM_miss hu (j := q0 + 1 + k) hj' hn) (by rw [dM_len]; omega) rfl (fun a j => low_cells rfl) ?_ ?_
  ·intro j hj
   have e0 : (dM q l (q0 + 1 + k)).getD (((q0 + 1 + k : Nat) : Int)).toNat default = l.getD (q0 + 1 + k) default := by rw [Int.toNat_natCast, dM_at hle]
   have hj7 : j < 7 := hj
   rw [← e0]
   rcases (show j = 0 ∨ j = 1 ∨ j = 2 ∨ j = 3 ∨ j = 4 ∨ j = 5 ∨ j = 6 by omega) with rfl | rfl | rfl | rfl | rfl | rfl | rfl
   all_goals (simp only [upd, Nat.beq_refl, Int.toNat_natCast]; rfl)
  ·intro a j hne
   simp only [upd, beq_ff hne, Bool.and_false, cond_false, Int.toNat_natCast]
 ·rename_i k _ _ hj
  have hj' : q0 + 1 + k < l.length := by omega
  have hh := keepQ (b := true) (eq_true_of_ne_false _h)
  exact congrArg _ (congrArg List.length (dK_hit hu hj' hh).symm)
 ·rename_i k _ _ hj
  have hj' : q0 + 1 + k < l.length := by omega
  have hh := keepQ (b := true) (eq_true_of_ne_false _h)
  exact arr_same (dM_hit hu hj' hh) rfl (fun a j => low_cells rfl)
 all_goals first | (exact Int.ofNat_le.2 dK_le.2) | exact Int.le_refl _ | skip
 all_goals (conv => whnf)
 rename_i k _ _
 have hk : dK q l (q0 + 1 + k) = dK q l l.length := dK_all (by omega)
 have hM : dM q l (q0 + 1 + k) = dK q l l.length ++ l.drop (dK q l l.length).length := by rw [dM_eq, hk]
 refine endM_turn (turn_same (id := 0) (x := ⟨7, l.length, cutC (dK q l l.length), .arr⟩) rfl rfl rfl rfl rfl (fun i j hi hj => ?_)) ?_
 ·have hi' : i < l.length := hi
  dsimp only
  rw [hk, hM]
  have hle := (dK_le (q := q) (l := l) (j := l.length)).2
  unfold cutC
  by_cases h : i < (dK q l l.length).length
  ·rw [if_pos h, segE_out (by omega)]
   unfold elE
   rw [getD_app h]
  ·rw [if_neg h, segE_in (by omega) (by omega)]
   rfl
 exact endM_pick [0, 1, 2, 3, 4, 5] [some ⟨7, l.length, cutC (dK q l l.length), .arr⟩, some (boxRow [.fn 116 [.ptr 3 0 0]]), some (boxRow [.i .i64 w]), some (boxRow [.ptr 4 0 0]), some (boxRow (S.csT 5)), some (S.rowW i 0 l.length)] (.row 0 (dK q l l.length).length) (view_of rfl (.cons rfl (.self cutC_row) (.cons rfl (back_box rfl rfl rfl) (.cons rfl (.self (rowPl_box rfl)) (.cons rfl (back_box rfl rfl rfl) (.cons rfl (back_box rfl rfl rfl) (.cons rfl (back_W rfl (by show 0 < 6; decide)) .nil))))))) (by rw [hk]; rfl) rfl (by rw [hX]; exact keepK (n := 6) rfl rfl) ⟨rfl, rfl⟩
theorem delR2_ok (l : List Entry) (hl : l.length ≤ 1048576) (S : Shelf) (i : Nat) (w : Int) (q : List Entry → Entry → Bool) (hC : ∀ l' : List Entry, l'.length = l.length → ∀ e : Entry, RetM env.P 115 [some (rowL 7 Entry.cs l'), some (boxRow [.fn 116 [.ptr 3 0 0]]), some (boxRow [.i .i64 w]), some (boxRow [.ptr 4 0 0]), some (boxRow (S.csT 5)), some (S.rowW i 0 l.length)] [.agg e.cs, .ptr 1 0 0, .ptr 2 0 0] (fun r H => r = .b (q l' e) ∧ H = [some (rowL 7 Entry.cs l'), some (boxRow [.fn 116 [.ptr 3 0 0]]), some (boxRow [.i .i64 w]), some (boxRow [.ptr 4 0 0]), some (boxRow (S.csT 5)), some (S.rowW i 0 l.length)])) (hu : uniq l) : RetM env.P 110 [some (rowL 7 Entry.cs l), some (boxRow [.fn 116 [.ptr 3 0 0]]), some (boxRow [.i .i64 w]), some (boxRow [.ptr 4 0 0]), some (boxRow (S.csT 5)), some (S.rowW i 0 l.length)] [.row 0 l.length, .fn 115 [.ptr 1 0 0, .ptr 2 0 0]] (fun r H => r = .row 0 (dK q l l.length).length ∧ H = [some ⟨7, l.length, cutC (dK q l l.length), .arr⟩, some (boxRow [.fn 116 [.ptr 3 0 0]]), some (boxRow [.i .i64 w]), some (boxRow [.ptr 4 0 0]), some (boxRow (S.csT 5)), some (S.rowW i 0 l.length)]) := by
 cases hq : l.findIdx? (q l) with
 | none =>
  rw [List.findIdx?_eq_none_iff] at hq
  exact delR2_none l hl S i w q hC hu (by rw [List.findIdx?_eq_none_iff]; exact hq) fun j hj => hq _ (getD_mem hj)
 | some q0 =>
  have hq' := hq
  rw [List.findIdx?_eq_some_iff_getElem] at hq'
  obtain ⟨hlt, h1, h2⟩ := hq'
  refine delR2_some l hl S i w q hC hu q0 hq hlt (fun j hj => ?_) ?_
  ·rw [List.getD_eq_getElem?_getD, List.getElem?_eq_getElem (by omega)]
   have := h2 j hj
   simpa using this
  ·rw [List.getD_eq_getElem?_getD, List.getElem?_eq_getElem hlt]
   exact h1
end Go.Proofs.YtmglpojnoadgeaaGreat
