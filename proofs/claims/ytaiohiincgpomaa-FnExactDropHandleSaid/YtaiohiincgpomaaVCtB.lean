/-
  Shelves that are changed: slices.DeleteFunc over entries, and remove. Printed by mvd.py.
-/
import Derived.Test.YtaiohiincgpomaaVCtA
namespace Go.Proofs.Ytaiohiincgpomaa
open Go Go.RowKit
set_option linter.unusedVariables false
set_option linter.unusedSimpArgs false

/-- The row's cells behind a cut. -/
def cutE (num : Int) (l : List Entry) : Nat → Nat → AV := fun i j => if i < (cutL num l).length then elE Entry.cs (cutL num l) i j else [AV.i .i64 0, AV.i .i64 0, AV.kb false, AV.i .i64 0, AV.i .i64 0, AV.i .i64 0, AV.i .i64 0].getD j .any
theorem cutE_pl {num : Int} {l : List Entry} {i j : Nat} : pl1 (cutE num l i j) = true := by
  unfold cutE
  split
  · exact pl1_getD rfl j
  · exact pl1_getD rfl j
theorem keepH {num : Int} {l : List Entry} {j : Nat} (hj : j < l.length) (h : numP num ((cutM num l j).getD ((j : Nat) : Int).toNat default) = false) : ¬ (l.getD j default).num = num := by
  rw [Int.toNat_natCast, cutM_at (cutT_le (num := num) (l := l) (i := j)).1] at h
  simpa only [numP, decide_eq_false_iff_not] using h
theorem hitH {num : Int} {l : List Entry} {j : Nat} (hj : j < l.length) (h : ¬ numP num ((cutM num l j).getD ((j : Nat) : Int).toNat default) = false) : (l.getD j default).num = num := by
  rw [Int.toNat_natCast, cutM_at (cutT_le (num := num) (l := l) (i := j)).1] at h
  simpa only [numP, decide_eq_false_iff_not, Classical.not_not] using h
theorem cutE_idf {num : Int} {l : List Entry} {i j : Nat} : (cutE num l i j).idfO := by
  unfold cutE
  split
  · exact HoldC.h _ j
  · exact (holdC_plain (c := fun _ : Unit => [AV.i .i64 0, AV.i .i64 0, AV.kb false, AV.i .i64 0, AV.i .i64 0, AV.i .i64 0, AV.i .i64 0]) fun _ => rfl).h () j
theorem cutE_in {num : Int} {l : List Entry} {i j : Nat} (h : i < (cutL num l).length) : cutE num l i j = elE Entry.cs (cutL num l) i j := if_pos h
theorem getD_app {α : Type} [Inhabited α] {l m : List α} {i : Nat} (h : i < l.length) : (l ++ m).getD i default = l.getD i default := by
  rw [List.getD_eq_getElem?_getD, List.getD_eq_getElem?_getD, List.getElem?_append_left h]
theorem cutE_row {num : Int} {l : List Entry} {n : Nat} : RowPl ⟨7, n, cutE num l, .arr⟩ := ⟨fun i j _ _ => cutE_pl⟩

set_option maxRecDepth 8000 in
set_option maxHeartbeats 2000000 in
theorem deleteFunc_ok (l : List Entry) (num : Int) (hl : l.length ≤ 1048576) (q : Nat) (hq : l.findIdx? (numP num) = some q) (hlt : q < l.length) (h1 : ∀ j, j < q → ¬ (l.getD j default).num = num) (h2 : (l.getD q default).num = num) : RetM env.P 151 [some (rowL 7 Entry.cs l), some (boxRow [.i .i64 num])] [.row 0 l.length, .fn 159 [.ptr 1 0 0]] (fun r H => r = .row 0 (cutL num l).length ∧ H = [some ⟨7, l.length, cutE num l, .arr⟩, some (boxRow [.i .i64 num])]) := by
  have hS := cutM_start hlt h1 h2
  refine ret_ofM (nt := 42) (rvs := [.tmp 4]) Try.func151 rfl rfl rfl rfl (fun X hX => ?_)
  repeat' (first | omega | (with_reducible show (_ : Int) < _; dsimp only; omega) | (with_reducible show (_ : Nat) ≤ _; dsimp only; omega) | exact srcOk_1 rfl | exact srcOk_L (fun _ => ⟨rfl, rfl⟩) | exact srcOk_E (fun _ => ⟨rfl, rfl⟩) | ((conv => whnf) <;> (first | (refine .inl ⟨_, Ret.wk (by ((repeat (first | exact WkL.nil | refine WkL.cons ?_ ?_ | exact Wk.refl _ | exact Wk.rfc rfl | refine Wk.fn ?_ | exact Wk.nilS0 | exact shr_L (d := 0) (k := 4) rfl | exact shr_L (d := 1) (k := 3) rfl | exact shr_L (d := 2) (k := 2) rfl | exact shr_L (d := 0) (k := 4) (by simp only [markL_len]) | exact shr_L (d := 1) (k := 3) (by simp only [markL_len]) | refine Wk.agg ?_ | exact shr_L (d := 0) (k := 3) rfl | exact shr_L (d := 1) (k := 2) rfl | exact shr_ow (d := 1) (k := 2) | exact shr_ow (d := 0) (k := 3) | refine Wk.rfLo ?_)); first | done | fail)) (indexFuncEntry1_ok l 159 rfl [.i .i64 num] (numP num) hl (fun k hk => del1_ok _ _)), ?_⟩; rintro _ rfl; rw [hq]; simp only [idxI]) | refine loopN (l.length - (q + 1)) (fun k => [(6, .i .i64 ((q + 1 + k : Nat) : Int)), (5, .i .i64 ((cutL num (l.take (q + 1 + k))).length : Nat))]) (fun k => [some (.arr ⟨7, l.length, elE Entry.cs (cutM num l (q + 1 + k)), .arr⟩)]) (fun k => True) ⟨trivial, ?_⟩ | refine And.intro ?_ ?_ | (intro _h; first | contradiction | (try simp only [decide_eq_true_eq, Bool.not_eq_true', Bool.not_eq_false', decide_eq_false_iff_not, Bool.not_eq_true, Decidable.not_not, Bool.true_eq_false, Bool.false_eq_true, pb_t, pb_f] at _h)) | (refine dt_go ?_) | exact rfl | exact True.intro | (refine dok ?_; kernel_rfl) | (refine doks ?_; kernel_rfl) | ((first | refine .inl ⟨_, Ret.wk (by ((repeat (first | exact WkL.nil | refine WkL.cons ?_ ?_ | exact Wk.refl _ | exact Wk.rfc rfl | refine Wk.fn ?_ | exact Wk.nilS0 | exact shr_L (d := 0) (k := 4) rfl | exact shr_L (d := 1) (k := 3) rfl | exact shr_L (d := 2) (k := 2) rfl | exact shr_L (d := 0) (k := 4) (by simp only [markL_len]) | exact shr_L (d := 1) (k := 3) (by simp only [markL_len]) | refine Wk.agg ?_ | exact shr_L (d := 0) (k := 3) rfl | exact shr_L (d := 1) (k := 2) rfl | exact shr_ow (d := 1) (k := 2) | exact shr_ow (d := 0) (k := 3) | refine Wk.rfLo ?_)); first | done | fail)) (del1_ok _ _), ?_⟩ | refine ⟨_, Ret.wk (by ((repeat (first | exact WkL.nil | refine WkL.cons ?_ ?_ | exact Wk.refl _ | exact Wk.rfc rfl | refine Wk.fn ?_ | exact Wk.nilS0 | exact shr_L (d := 0) (k := 4) rfl | exact shr_L (d := 1) (k := 3) rfl | exact shr_L (d := 2) (k := 2) rfl | exact shr_L (d := 0) (k := 4) (by simp only [markL_len]) | exact shr_L (d := 1) (k := 3) (by simp only [markL_len]) | refine Wk.agg ?_ | exact shr_L (d := 0) (k := 3) rfl | exact shr_L (d := 1) (k := 2) rfl | exact shr_ow (d := 1) (k := 2) | exact shr_ow (d := 0) (k := 3) | refine Wk.rfLo ?_)); first | done | fail)) (del1_ok _ _), ?_⟩); (try rintro _ rfl)) | (refine wrap_succ ?_; omega))))
  · exact congrArg _ hS.2.symm
  · exact arr_same hS.1 rfl (fun a j => low_cells rfl)
  · rename_i k _ _ _
    have := (cutT_le (num := num) (l := l) (i := q + 1 + k)).1
    omega
  · rename_i k _ _ hj
    have hj' : q + 1 + k < l.length := by omega
    have hn := keepH hj' _h
    have hle := (cutT_le (num := num) (l := l) (i := q + 1 + k)).2
    rw [show q + 1 + (k + 1) = q + 1 + k + 1 from rfl, cutL_miss hj' hn, List.length_append, List.length_singleton, wrap_in (by omega) (by omega)]
    rfl
  · rename_i k _ _ hj
    have hj' : q + 1 + k < l.length := by omega
    have hn := keepH hj' _h
    have hle := (cutT_le (num := num) (l := l) (i := q + 1 + k)).1
    conv => whnf
    refine arr_set (k := (cutL num (l.take (q + 1 + k))).length) (show cutM num l (q + 1 + (k + 1)) = _ from cutM_miss (k := q + 1 + k) hj' hn) (by rw [cutM_len]; omega) rfl (fun a j => low_cells rfl) ?_ ?_
    · intro j hj
      have e0 : (cutM num l (q + 1 + k)).getD (((q + 1 + k : Nat) : Int)).toNat default = l.getD (q + 1 + k) default := by rw [Int.toNat_natCast, cutM_at hle]
      have hj7 : j < 7 := hj
      rw [← e0]
      rcases (show j = 0 ∨ j = 1 ∨ j = 2 ∨ j = 3 ∨ j = 4 ∨ j = 5 ∨ j = 6 by omega) with rfl | rfl | rfl | rfl | rfl | rfl | rfl
      all_goals (simp only [upd, Nat.beq_refl, Int.toNat_natCast]; rfl)
    · intro a j hne
      simp only [upd, beq_ff hne, Bool.and_false, cond_false, Int.toNat_natCast]
  · rename_i k _ _ hj
    have hj' : q + 1 + k < l.length := by omega
    exact congrArg _ (congrArg List.length (cutL_hit hj' (hitH hj' _h)).symm)
  · rename_i k _ _ hj
    have hj' : q + 1 + k < l.length := by omega
    exact arr_same (cutM_hit hj' (hitH hj' _h)) rfl (fun a j => low_cells rfl)
  all_goals first | (exact Int.ofNat_le.2 cutT_le.2) | exact Int.le_refl _ | skip
  all_goals (conv => whnf)
  rename_i k _ _
  have hk : cutL num (l.take (q + 1 + k)) = cutL num l := cutL_all (by omega)
  have hM : cutM num l (q + 1 + k) = cutL num l ++ l.drop (cutL num l).length := by unfold cutM; rw [hk]
  refine endM_turn (turn_same (id := 0) (x := ⟨7, l.length, cutE num l, .arr⟩) rfl rfl rfl rfl rfl (fun i j hi hj => ?_)) ?_
  · have hi' : i < l.length := hi
    dsimp only
    rw [hk, hM]
    have hle := cutL_le (num := num) (l := l)
    unfold cutE
    by_cases h : i < (cutL num l).length
    · rw [if_pos h, segE_out (by omega)]
      unfold elE
      rw [getD_app h]
    · rw [if_neg h, segE_in (by omega) (by omega)]
      rfl
  exact endM_pick [0, 1] [some ⟨7, l.length, cutE num l, .arr⟩, some (boxRow [.i .i64 num])] (.row 0 (cutL num l).length) (view_of rfl (.cons rfl (.self cutE_row) (.cons rfl (.self (rowPl_box rfl)) .nil))) (by rw [hk]; rfl) rfl (by rw [hX]; exact keepK (n := 2) rfl rfl) ⟨rfl, rfl⟩


theorem find_first {t : Table} {num : Int} {q : Nat} (h : t.find num = some q) : q < t.entries.length ∧ (t.entries.getD q default).num = num ∧ ∀ j, j < q → ¬ (t.entries.getD j default).num = num := by
  refine ⟨(find_lt h).1, (find_lt h).2, fun j hj hn => ?_⟩
  unfold Table.find at h
  rw [List.findIdx?_eq_some_iff_getElem] at h
  obtain ⟨hk, _, hb⟩ := h
  have := hb j hj
  rw [List.getD_eq_getElem?_getD, List.getElem?_eq_getElem (by omega)] at hn
  simp only [numP, Bool.not_eq_true, decide_eq_false_iff_not] at this
  exact this hn

set_option maxRecDepth 8000 in
set_option maxHeartbeats 2000000 in
theorem remove_ok0 (s : Shelf) (h : s.ok) (num : Int) (hw : 0 ≤ (0 : Int) ∧ (0 : Int) < (s.tables.length : Int)) (h7 : s.tables.length ≤ 7) (q : Nat) (hq : (s.tables.getD (0 : Int).toNat default).find num = some q) : RetM env.P 120 [some (boxRow s.csO)] [.ptr 0 0 0, .i .i64 (0 : Int), .i .i64 num] (fun r H => r = .tup [] ∧ H = [some (boxRow (s.cut (0 : Int).toNat num).csO)]) := by
  have hl : s.tables.length ≤ 1048576 := h.1.1
  have hw2 : (0 : Int).toNat < s.tables.length := by omega
  have he : (s.tables.getD (0 : Int).toNat default).entries.length ≤ 1048576 := entLe h _
  have hf := find_first hq
  refine ret_ofM (nt := 23) (rvs := []) Try.func120 rfl rfl rfl rfl (fun X hX => ?_)
  repeat' (first | omega | (with_reducible show (_ : Int) < _; dsimp only; omega) | (with_reducible show (_ : Nat) ≤ _; dsimp only; omega) | exact srcOk_1 rfl | exact srcOk_L (fun _ => ⟨rfl, rfl⟩) | exact srcOk_E (fun _ => ⟨rfl, rfl⟩) | ((conv => whnf) <;> (first | (refine .inr (.inl (.inl ⟨[3, 1], _, _, _, deleteFunc_ok (s.tables.getD (0 : Int).toNat default).entries num he q hq hf.1 hf.2.2 hf.2.1, (view_of rfl (.cons rfl (.self (rowPl_L fun _ => rfl)) (.cons rfl (.self (rowPl_box rfl)) .nil))), ⟨rfl, rfl⟩, ?_⟩)); rintro _ _ ⟨rfl, rfl⟩; refine ⟨rfl, _, lok_pl (.cons cutE_row (.cons (rowPl_box rfl) .nil)), ?_⟩) | refine And.intro ?_ ?_ | (intro _h; first | contradiction | (try simp only [decide_eq_true_eq, Bool.not_eq_true', Bool.not_eq_false', decide_eq_false_iff_not, Bool.not_eq_true, Decidable.not_not, Bool.true_eq_false, Bool.false_eq_true, pb_t, pb_f] at _h)) | (refine dt_go ?_) | exact rfl | exact True.intro | (refine dok ?_; kernel_rfl) | (refine doks ?_; kernel_rfl) | (refine wrap_succ ?_; omega))))
  all_goals (conv => whnf)
  all_goals refine endM_turn (turn_close (id := 2) (i := (0 : Int).toNat) (j := 1) (id' := 3) rfl hw2 (show 1 < 2 by decide) (by first | (simp only [upd, Nat.beq_refl]; rfl) | (simp only [Shelf.rowT, upd, Nat.beq_refl]; rfl) | exact rowT_at) rfl (show 2 ≠ 3 by decide) rfl ⟨cutL_le, fun i j _ _ => cutE_idf⟩) ?_
  all_goals refine endM_turn (turn_eq (id := 2) (x := rowL 2 Table.csO (s.setE (0 : Int).toNat (cutL num (s.tables.getD (0 : Int).toNat default).entries)).tables) rfl rfl setE_len rfl rfl (setE_rows3 (l := (cutL num (s.tables.getD (0 : Int).toNat default).entries)) hw2 rfl (fun i j hi _ => by dsimp only; rw [cutE_in hi]; exact .refl _))) ?_
  all_goals refine endM_turn (turn_close (id := 0) (i := 0) (j := 1) (id' := 2) rfl (show 0 < 1 by decide) (show 1 < 3 by decide) rfl rfl (show 0 ≠ 2 by decide) rfl (rowO_le (Nat.le_of_eq setE_len.symm))) ?_
  all_goals refine endM_turn (turn_box (id := 0) (ds := (s.setE (0 : Int).toNat (cutL num (s.tables.getD (0 : Int).toNat default).entries)).csO) rfl rfl rfl (.cons (.refl _) (.cons (OwEq.len setE_len.symm (fun i j _ _ => HoldC.h _ j) (fun i j _ _ => .refl _)) (.cons (.refl _) .nil)))) ?_
  all_goals exact endM_pick [0] [some (boxRow (s.cut (0 : Int).toNat num).csO)] (.tup []) (view_of rfl (.cons rfl (.self (rowPl_box rfl)) .nil)) rfl rfl (by rw [hX]; exact keepK (n := 1) rfl rfl) ⟨rfl, rfl⟩

set_option maxRecDepth 8000 in
set_option maxHeartbeats 2000000 in
theorem remove_ok1 (s : Shelf) (h : s.ok) (num : Int) (hw : 0 ≤ (1 : Int) ∧ (1 : Int) < (s.tables.length : Int)) (h7 : s.tables.length ≤ 7) (q : Nat) (hq : (s.tables.getD (1 : Int).toNat default).find num = some q) : RetM env.P 120 [some (boxRow s.csO)] [.ptr 0 0 0, .i .i64 (1 : Int), .i .i64 num] (fun r H => r = .tup [] ∧ H = [some (boxRow (s.cut (1 : Int).toNat num).csO)]) := by
  have hl : s.tables.length ≤ 1048576 := h.1.1
  have hw2 : (1 : Int).toNat < s.tables.length := by omega
  have he : (s.tables.getD (1 : Int).toNat default).entries.length ≤ 1048576 := entLe h _
  have hf := find_first hq
  refine ret_ofM (nt := 23) (rvs := []) Try.func120 rfl rfl rfl rfl (fun X hX => ?_)
  repeat' (first | omega | (with_reducible show (_ : Int) < _; dsimp only; omega) | (with_reducible show (_ : Nat) ≤ _; dsimp only; omega) | exact srcOk_1 rfl | exact srcOk_L (fun _ => ⟨rfl, rfl⟩) | exact srcOk_E (fun _ => ⟨rfl, rfl⟩) | ((conv => whnf) <;> (first | (refine .inr (.inl (.inl ⟨[3, 1], _, _, _, deleteFunc_ok (s.tables.getD (1 : Int).toNat default).entries num he q hq hf.1 hf.2.2 hf.2.1, (view_of rfl (.cons rfl (.self (rowPl_L fun _ => rfl)) (.cons rfl (.self (rowPl_box rfl)) .nil))), ⟨rfl, rfl⟩, ?_⟩)); rintro _ _ ⟨rfl, rfl⟩; refine ⟨rfl, _, lok_pl (.cons cutE_row (.cons (rowPl_box rfl) .nil)), ?_⟩) | refine And.intro ?_ ?_ | (intro _h; first | contradiction | (try simp only [decide_eq_true_eq, Bool.not_eq_true', Bool.not_eq_false', decide_eq_false_iff_not, Bool.not_eq_true, Decidable.not_not, Bool.true_eq_false, Bool.false_eq_true, pb_t, pb_f] at _h)) | (refine dt_go ?_) | exact rfl | exact True.intro | (refine dok ?_; kernel_rfl) | (refine doks ?_; kernel_rfl) | (refine wrap_succ ?_; omega))))
  all_goals (conv => whnf)
  all_goals refine endM_turn (turn_close (id := 2) (i := (1 : Int).toNat) (j := 1) (id' := 3) rfl hw2 (show 1 < 2 by decide) (by first | (simp only [upd, Nat.beq_refl]; rfl) | (simp only [Shelf.rowT, upd, Nat.beq_refl]; rfl) | exact rowT_at) rfl (show 2 ≠ 3 by decide) rfl ⟨cutL_le, fun i j _ _ => cutE_idf⟩) ?_
  all_goals refine endM_turn (turn_eq (id := 2) (x := rowL 2 Table.csO (s.setE (1 : Int).toNat (cutL num (s.tables.getD (1 : Int).toNat default).entries)).tables) rfl rfl setE_len rfl rfl (setE_rows3 (l := (cutL num (s.tables.getD (1 : Int).toNat default).entries)) hw2 rfl (fun i j hi _ => by dsimp only; rw [cutE_in hi]; exact .refl _))) ?_
  all_goals refine endM_turn (turn_close (id := 0) (i := 0) (j := 1) (id' := 2) rfl (show 0 < 1 by decide) (show 1 < 3 by decide) rfl rfl (show 0 ≠ 2 by decide) rfl (rowO_le (Nat.le_of_eq setE_len.symm))) ?_
  all_goals refine endM_turn (turn_box (id := 0) (ds := (s.setE (1 : Int).toNat (cutL num (s.tables.getD (1 : Int).toNat default).entries)).csO) rfl rfl rfl (.cons (.refl _) (.cons (OwEq.len setE_len.symm (fun i j _ _ => HoldC.h _ j) (fun i j _ _ => .refl _)) (.cons (.refl _) .nil)))) ?_
  all_goals exact endM_pick [0] [some (boxRow (s.cut (1 : Int).toNat num).csO)] (.tup []) (view_of rfl (.cons rfl (.self (rowPl_box rfl)) .nil)) rfl rfl (by rw [hX]; exact keepK (n := 1) rfl rfl) ⟨rfl, rfl⟩

set_option maxRecDepth 8000 in
set_option maxHeartbeats 2000000 in
theorem remove_ok2 (s : Shelf) (h : s.ok) (num : Int) (hw : 0 ≤ (2 : Int) ∧ (2 : Int) < (s.tables.length : Int)) (h7 : s.tables.length ≤ 7) (q : Nat) (hq : (s.tables.getD (2 : Int).toNat default).find num = some q) : RetM env.P 120 [some (boxRow s.csO)] [.ptr 0 0 0, .i .i64 (2 : Int), .i .i64 num] (fun r H => r = .tup [] ∧ H = [some (boxRow (s.cut (2 : Int).toNat num).csO)]) := by
  have hl : s.tables.length ≤ 1048576 := h.1.1
  have hw2 : (2 : Int).toNat < s.tables.length := by omega
  have he : (s.tables.getD (2 : Int).toNat default).entries.length ≤ 1048576 := entLe h _
  have hf := find_first hq
  refine ret_ofM (nt := 23) (rvs := []) Try.func120 rfl rfl rfl rfl (fun X hX => ?_)
  repeat' (first | omega | (with_reducible show (_ : Int) < _; dsimp only; omega) | (with_reducible show (_ : Nat) ≤ _; dsimp only; omega) | exact srcOk_1 rfl | exact srcOk_L (fun _ => ⟨rfl, rfl⟩) | exact srcOk_E (fun _ => ⟨rfl, rfl⟩) | ((conv => whnf) <;> (first | (refine .inr (.inl (.inl ⟨[3, 1], _, _, _, deleteFunc_ok (s.tables.getD (2 : Int).toNat default).entries num he q hq hf.1 hf.2.2 hf.2.1, (view_of rfl (.cons rfl (.self (rowPl_L fun _ => rfl)) (.cons rfl (.self (rowPl_box rfl)) .nil))), ⟨rfl, rfl⟩, ?_⟩)); rintro _ _ ⟨rfl, rfl⟩; refine ⟨rfl, _, lok_pl (.cons cutE_row (.cons (rowPl_box rfl) .nil)), ?_⟩) | refine And.intro ?_ ?_ | (intro _h; first | contradiction | (try simp only [decide_eq_true_eq, Bool.not_eq_true', Bool.not_eq_false', decide_eq_false_iff_not, Bool.not_eq_true, Decidable.not_not, Bool.true_eq_false, Bool.false_eq_true, pb_t, pb_f] at _h)) | (refine dt_go ?_) | exact rfl | exact True.intro | (refine dok ?_; kernel_rfl) | (refine doks ?_; kernel_rfl) | (refine wrap_succ ?_; omega))))
  all_goals (conv => whnf)
  all_goals refine endM_turn (turn_close (id := 2) (i := (2 : Int).toNat) (j := 1) (id' := 3) rfl hw2 (show 1 < 2 by decide) (by first | (simp only [upd, Nat.beq_refl]; rfl) | (simp only [Shelf.rowT, upd, Nat.beq_refl]; rfl) | exact rowT_at) rfl (show 2 ≠ 3 by decide) rfl ⟨cutL_le, fun i j _ _ => cutE_idf⟩) ?_
  all_goals refine endM_turn (turn_eq (id := 2) (x := rowL 2 Table.csO (s.setE (2 : Int).toNat (cutL num (s.tables.getD (2 : Int).toNat default).entries)).tables) rfl rfl setE_len rfl rfl (setE_rows3 (l := (cutL num (s.tables.getD (2 : Int).toNat default).entries)) hw2 rfl (fun i j hi _ => by dsimp only; rw [cutE_in hi]; exact .refl _))) ?_
  all_goals refine endM_turn (turn_close (id := 0) (i := 0) (j := 1) (id' := 2) rfl (show 0 < 1 by decide) (show 1 < 3 by decide) rfl rfl (show 0 ≠ 2 by decide) rfl (rowO_le (Nat.le_of_eq setE_len.symm))) ?_
  all_goals refine endM_turn (turn_box (id := 0) (ds := (s.setE (2 : Int).toNat (cutL num (s.tables.getD (2 : Int).toNat default).entries)).csO) rfl rfl rfl (.cons (.refl _) (.cons (OwEq.len setE_len.symm (fun i j _ _ => HoldC.h _ j) (fun i j _ _ => .refl _)) (.cons (.refl _) .nil)))) ?_
  all_goals exact endM_pick [0] [some (boxRow (s.cut (2 : Int).toNat num).csO)] (.tup []) (view_of rfl (.cons rfl (.self (rowPl_box rfl)) .nil)) rfl rfl (by rw [hX]; exact keepK (n := 1) rfl rfl) ⟨rfl, rfl⟩

set_option maxRecDepth 8000 in
set_option maxHeartbeats 2000000 in
theorem remove_ok3 (s : Shelf) (h : s.ok) (num : Int) (hw : 0 ≤ (3 : Int) ∧ (3 : Int) < (s.tables.length : Int)) (h7 : s.tables.length ≤ 7) (q : Nat) (hq : (s.tables.getD (3 : Int).toNat default).find num = some q) : RetM env.P 120 [some (boxRow s.csO)] [.ptr 0 0 0, .i .i64 (3 : Int), .i .i64 num] (fun r H => r = .tup [] ∧ H = [some (boxRow (s.cut (3 : Int).toNat num).csO)]) := by
  have hl : s.tables.length ≤ 1048576 := h.1.1
  have hw2 : (3 : Int).toNat < s.tables.length := by omega
  have he : (s.tables.getD (3 : Int).toNat default).entries.length ≤ 1048576 := entLe h _
  have hf := find_first hq
  refine ret_ofM (nt := 23) (rvs := []) Try.func120 rfl rfl rfl rfl (fun X hX => ?_)
  repeat' (first | omega | (with_reducible show (_ : Int) < _; dsimp only; omega) | (with_reducible show (_ : Nat) ≤ _; dsimp only; omega) | exact srcOk_1 rfl | exact srcOk_L (fun _ => ⟨rfl, rfl⟩) | exact srcOk_E (fun _ => ⟨rfl, rfl⟩) | ((conv => whnf) <;> (first | (refine .inr (.inl (.inl ⟨[3, 1], _, _, _, deleteFunc_ok (s.tables.getD (3 : Int).toNat default).entries num he q hq hf.1 hf.2.2 hf.2.1, (view_of rfl (.cons rfl (.self (rowPl_L fun _ => rfl)) (.cons rfl (.self (rowPl_box rfl)) .nil))), ⟨rfl, rfl⟩, ?_⟩)); rintro _ _ ⟨rfl, rfl⟩; refine ⟨rfl, _, lok_pl (.cons cutE_row (.cons (rowPl_box rfl) .nil)), ?_⟩) | refine And.intro ?_ ?_ | (intro _h; first | contradiction | (try simp only [decide_eq_true_eq, Bool.not_eq_true', Bool.not_eq_false', decide_eq_false_iff_not, Bool.not_eq_true, Decidable.not_not, Bool.true_eq_false, Bool.false_eq_true, pb_t, pb_f] at _h)) | (refine dt_go ?_) | exact rfl | exact True.intro | (refine dok ?_; kernel_rfl) | (refine doks ?_; kernel_rfl) | (refine wrap_succ ?_; omega))))
  all_goals (conv => whnf)
  all_goals refine endM_turn (turn_close (id := 2) (i := (3 : Int).toNat) (j := 1) (id' := 3) rfl hw2 (show 1 < 2 by decide) (by first | (simp only [upd, Nat.beq_refl]; rfl) | (simp only [Shelf.rowT, upd, Nat.beq_refl]; rfl) | exact rowT_at) rfl (show 2 ≠ 3 by decide) rfl ⟨cutL_le, fun i j _ _ => cutE_idf⟩) ?_
  all_goals refine endM_turn (turn_eq (id := 2) (x := rowL 2 Table.csO (s.setE (3 : Int).toNat (cutL num (s.tables.getD (3 : Int).toNat default).entries)).tables) rfl rfl setE_len rfl rfl (setE_rows3 (l := (cutL num (s.tables.getD (3 : Int).toNat default).entries)) hw2 rfl (fun i j hi _ => by dsimp only; rw [cutE_in hi]; exact .refl _))) ?_
  all_goals refine endM_turn (turn_close (id := 0) (i := 0) (j := 1) (id' := 2) rfl (show 0 < 1 by decide) (show 1 < 3 by decide) rfl rfl (show 0 ≠ 2 by decide) rfl (rowO_le (Nat.le_of_eq setE_len.symm))) ?_
  all_goals refine endM_turn (turn_box (id := 0) (ds := (s.setE (3 : Int).toNat (cutL num (s.tables.getD (3 : Int).toNat default).entries)).csO) rfl rfl rfl (.cons (.refl _) (.cons (OwEq.len setE_len.symm (fun i j _ _ => HoldC.h _ j) (fun i j _ _ => .refl _)) (.cons (.refl _) .nil)))) ?_
  all_goals exact endM_pick [0] [some (boxRow (s.cut (3 : Int).toNat num).csO)] (.tup []) (view_of rfl (.cons rfl (.self (rowPl_box rfl)) .nil)) rfl rfl (by rw [hX]; exact keepK (n := 1) rfl rfl) ⟨rfl, rfl⟩

set_option maxRecDepth 8000 in
set_option maxHeartbeats 2000000 in
theorem remove_ok4 (s : Shelf) (h : s.ok) (num : Int) (hw : 0 ≤ (4 : Int) ∧ (4 : Int) < (s.tables.length : Int)) (h7 : s.tables.length ≤ 7) (q : Nat) (hq : (s.tables.getD (4 : Int).toNat default).find num = some q) : RetM env.P 120 [some (boxRow s.csO)] [.ptr 0 0 0, .i .i64 (4 : Int), .i .i64 num] (fun r H => r = .tup [] ∧ H = [some (boxRow (s.cut (4 : Int).toNat num).csO)]) := by
  have hl : s.tables.length ≤ 1048576 := h.1.1
  have hw2 : (4 : Int).toNat < s.tables.length := by omega
  have he : (s.tables.getD (4 : Int).toNat default).entries.length ≤ 1048576 := entLe h _
  have hf := find_first hq
  refine ret_ofM (nt := 23) (rvs := []) Try.func120 rfl rfl rfl rfl (fun X hX => ?_)
  repeat' (first | omega | (with_reducible show (_ : Int) < _; dsimp only; omega) | (with_reducible show (_ : Nat) ≤ _; dsimp only; omega) | exact srcOk_1 rfl | exact srcOk_L (fun _ => ⟨rfl, rfl⟩) | exact srcOk_E (fun _ => ⟨rfl, rfl⟩) | ((conv => whnf) <;> (first | (refine .inr (.inl (.inl ⟨[3, 1], _, _, _, deleteFunc_ok (s.tables.getD (4 : Int).toNat default).entries num he q hq hf.1 hf.2.2 hf.2.1, (view_of rfl (.cons rfl (.self (rowPl_L fun _ => rfl)) (.cons rfl (.self (rowPl_box rfl)) .nil))), ⟨rfl, rfl⟩, ?_⟩)); rintro _ _ ⟨rfl, rfl⟩; refine ⟨rfl, _, lok_pl (.cons cutE_row (.cons (rowPl_box rfl) .nil)), ?_⟩) | refine And.intro ?_ ?_ | (intro _h; first | contradiction | (try simp only [decide_eq_true_eq, Bool.not_eq_true', Bool.not_eq_false', decide_eq_false_iff_not, Bool.not_eq_true, Decidable.not_not, Bool.true_eq_false, Bool.false_eq_true, pb_t, pb_f] at _h)) | (refine dt_go ?_) | exact rfl | exact True.intro | (refine dok ?_; kernel_rfl) | (refine doks ?_; kernel_rfl) | (refine wrap_succ ?_; omega))))
  all_goals (conv => whnf)
  all_goals refine endM_turn (turn_close (id := 2) (i := (4 : Int).toNat) (j := 1) (id' := 3) rfl hw2 (show 1 < 2 by decide) (by first | (simp only [upd, Nat.beq_refl]; rfl) | (simp only [Shelf.rowT, upd, Nat.beq_refl]; rfl) | exact rowT_at) rfl (show 2 ≠ 3 by decide) rfl ⟨cutL_le, fun i j _ _ => cutE_idf⟩) ?_
  all_goals refine endM_turn (turn_eq (id := 2) (x := rowL 2 Table.csO (s.setE (4 : Int).toNat (cutL num (s.tables.getD (4 : Int).toNat default).entries)).tables) rfl rfl setE_len rfl rfl (setE_rows3 (l := (cutL num (s.tables.getD (4 : Int).toNat default).entries)) hw2 rfl (fun i j hi _ => by dsimp only; rw [cutE_in hi]; exact .refl _))) ?_
  all_goals refine endM_turn (turn_close (id := 0) (i := 0) (j := 1) (id' := 2) rfl (show 0 < 1 by decide) (show 1 < 3 by decide) rfl rfl (show 0 ≠ 2 by decide) rfl (rowO_le (Nat.le_of_eq setE_len.symm))) ?_
  all_goals refine endM_turn (turn_box (id := 0) (ds := (s.setE (4 : Int).toNat (cutL num (s.tables.getD (4 : Int).toNat default).entries)).csO) rfl rfl rfl (.cons (.refl _) (.cons (OwEq.len setE_len.symm (fun i j _ _ => HoldC.h _ j) (fun i j _ _ => .refl _)) (.cons (.refl _) .nil)))) ?_
  all_goals exact endM_pick [0] [some (boxRow (s.cut (4 : Int).toNat num).csO)] (.tup []) (view_of rfl (.cons rfl (.self (rowPl_box rfl)) .nil)) rfl rfl (by rw [hX]; exact keepK (n := 1) rfl rfl) ⟨rfl, rfl⟩

set_option maxRecDepth 8000 in
set_option maxHeartbeats 2000000 in
theorem remove_ok5 (s : Shelf) (h : s.ok) (num : Int) (hw : 0 ≤ (5 : Int) ∧ (5 : Int) < (s.tables.length : Int)) (h7 : s.tables.length ≤ 7) (q : Nat) (hq : (s.tables.getD (5 : Int).toNat default).find num = some q) : RetM env.P 120 [some (boxRow s.csO)] [.ptr 0 0 0, .i .i64 (5 : Int), .i .i64 num] (fun r H => r = .tup [] ∧ H = [some (boxRow (s.cut (5 : Int).toNat num).csO)]) := by
  have hl : s.tables.length ≤ 1048576 := h.1.1
  have hw2 : (5 : Int).toNat < s.tables.length := by omega
  have he : (s.tables.getD (5 : Int).toNat default).entries.length ≤ 1048576 := entLe h _
  have hf := find_first hq
  refine ret_ofM (nt := 23) (rvs := []) Try.func120 rfl rfl rfl rfl (fun X hX => ?_)
  repeat' (first | omega | (with_reducible show (_ : Int) < _; dsimp only; omega) | (with_reducible show (_ : Nat) ≤ _; dsimp only; omega) | exact srcOk_1 rfl | exact srcOk_L (fun _ => ⟨rfl, rfl⟩) | exact srcOk_E (fun _ => ⟨rfl, rfl⟩) | ((conv => whnf) <;> (first | (refine .inr (.inl (.inl ⟨[3, 1], _, _, _, deleteFunc_ok (s.tables.getD (5 : Int).toNat default).entries num he q hq hf.1 hf.2.2 hf.2.1, (view_of rfl (.cons rfl (.self (rowPl_L fun _ => rfl)) (.cons rfl (.self (rowPl_box rfl)) .nil))), ⟨rfl, rfl⟩, ?_⟩)); rintro _ _ ⟨rfl, rfl⟩; refine ⟨rfl, _, lok_pl (.cons cutE_row (.cons (rowPl_box rfl) .nil)), ?_⟩) | refine And.intro ?_ ?_ | (intro _h; first | contradiction | (try simp only [decide_eq_true_eq, Bool.not_eq_true', Bool.not_eq_false', decide_eq_false_iff_not, Bool.not_eq_true, Decidable.not_not, Bool.true_eq_false, Bool.false_eq_true, pb_t, pb_f] at _h)) | (refine dt_go ?_) | exact rfl | exact True.intro | (refine dok ?_; kernel_rfl) | (refine doks ?_; kernel_rfl) | (refine wrap_succ ?_; omega))))
  all_goals (conv => whnf)
  all_goals refine endM_turn (turn_close (id := 2) (i := (5 : Int).toNat) (j := 1) (id' := 3) rfl hw2 (show 1 < 2 by decide) (by first | (simp only [upd, Nat.beq_refl]; rfl) | (simp only [Shelf.rowT, upd, Nat.beq_refl]; rfl) | exact rowT_at) rfl (show 2 ≠ 3 by decide) rfl ⟨cutL_le, fun i j _ _ => cutE_idf⟩) ?_
  all_goals refine endM_turn (turn_eq (id := 2) (x := rowL 2 Table.csO (s.setE (5 : Int).toNat (cutL num (s.tables.getD (5 : Int).toNat default).entries)).tables) rfl rfl setE_len rfl rfl (setE_rows3 (l := (cutL num (s.tables.getD (5 : Int).toNat default).entries)) hw2 rfl (fun i j hi _ => by dsimp only; rw [cutE_in hi]; exact .refl _))) ?_
  all_goals refine endM_turn (turn_close (id := 0) (i := 0) (j := 1) (id' := 2) rfl (show 0 < 1 by decide) (show 1 < 3 by decide) rfl rfl (show 0 ≠ 2 by decide) rfl (rowO_le (Nat.le_of_eq setE_len.symm))) ?_
  all_goals refine endM_turn (turn_box (id := 0) (ds := (s.setE (5 : Int).toNat (cutL num (s.tables.getD (5 : Int).toNat default).entries)).csO) rfl rfl rfl (.cons (.refl _) (.cons (OwEq.len setE_len.symm (fun i j _ _ => HoldC.h _ j) (fun i j _ _ => .refl _)) (.cons (.refl _) .nil)))) ?_
  all_goals exact endM_pick [0] [some (boxRow (s.cut (5 : Int).toNat num).csO)] (.tup []) (view_of rfl (.cons rfl (.self (rowPl_box rfl)) .nil)) rfl rfl (by rw [hX]; exact keepK (n := 1) rfl rfl) ⟨rfl, rfl⟩

set_option maxRecDepth 8000 in
set_option maxHeartbeats 2000000 in
theorem remove_ok6 (s : Shelf) (h : s.ok) (num : Int) (hw : 0 ≤ (6 : Int) ∧ (6 : Int) < (s.tables.length : Int)) (h7 : s.tables.length ≤ 7) (q : Nat) (hq : (s.tables.getD (6 : Int).toNat default).find num = some q) : RetM env.P 120 [some (boxRow s.csO)] [.ptr 0 0 0, .i .i64 (6 : Int), .i .i64 num] (fun r H => r = .tup [] ∧ H = [some (boxRow (s.cut (6 : Int).toNat num).csO)]) := by
  have hl : s.tables.length ≤ 1048576 := h.1.1
  have hw2 : (6 : Int).toNat < s.tables.length := by omega
  have he : (s.tables.getD (6 : Int).toNat default).entries.length ≤ 1048576 := entLe h _
  have hf := find_first hq
  refine ret_ofM (nt := 23) (rvs := []) Try.func120 rfl rfl rfl rfl (fun X hX => ?_)
  repeat' (first | omega | (with_reducible show (_ : Int) < _; dsimp only; omega) | (with_reducible show (_ : Nat) ≤ _; dsimp only; omega) | exact srcOk_1 rfl | exact srcOk_L (fun _ => ⟨rfl, rfl⟩) | exact srcOk_E (fun _ => ⟨rfl, rfl⟩) | ((conv => whnf) <;> (first | (refine .inr (.inl (.inl ⟨[3, 1], _, _, _, deleteFunc_ok (s.tables.getD (6 : Int).toNat default).entries num he q hq hf.1 hf.2.2 hf.2.1, (view_of rfl (.cons rfl (.self (rowPl_L fun _ => rfl)) (.cons rfl (.self (rowPl_box rfl)) .nil))), ⟨rfl, rfl⟩, ?_⟩)); rintro _ _ ⟨rfl, rfl⟩; refine ⟨rfl, _, lok_pl (.cons cutE_row (.cons (rowPl_box rfl) .nil)), ?_⟩) | refine And.intro ?_ ?_ | (intro _h; first | contradiction | (try simp only [decide_eq_true_eq, Bool.not_eq_true', Bool.not_eq_false', decide_eq_false_iff_not, Bool.not_eq_true, Decidable.not_not, Bool.true_eq_false, Bool.false_eq_true, pb_t, pb_f] at _h)) | (refine dt_go ?_) | exact rfl | exact True.intro | (refine dok ?_; kernel_rfl) | (refine doks ?_; kernel_rfl) | (refine wrap_succ ?_; omega))))
  all_goals (conv => whnf)
  all_goals refine endM_turn (turn_close (id := 2) (i := (6 : Int).toNat) (j := 1) (id' := 3) rfl hw2 (show 1 < 2 by decide) (by first | (simp only [upd, Nat.beq_refl]; rfl) | (simp only [Shelf.rowT, upd, Nat.beq_refl]; rfl) | exact rowT_at) rfl (show 2 ≠ 3 by decide) rfl ⟨cutL_le, fun i j _ _ => cutE_idf⟩) ?_
  all_goals refine endM_turn (turn_eq (id := 2) (x := rowL 2 Table.csO (s.setE (6 : Int).toNat (cutL num (s.tables.getD (6 : Int).toNat default).entries)).tables) rfl rfl setE_len rfl rfl (setE_rows3 (l := (cutL num (s.tables.getD (6 : Int).toNat default).entries)) hw2 rfl (fun i j hi _ => by dsimp only; rw [cutE_in hi]; exact .refl _))) ?_
  all_goals refine endM_turn (turn_close (id := 0) (i := 0) (j := 1) (id' := 2) rfl (show 0 < 1 by decide) (show 1 < 3 by decide) rfl rfl (show 0 ≠ 2 by decide) rfl (rowO_le (Nat.le_of_eq setE_len.symm))) ?_
  all_goals refine endM_turn (turn_box (id := 0) (ds := (s.setE (6 : Int).toNat (cutL num (s.tables.getD (6 : Int).toNat default).entries)).csO) rfl rfl rfl (.cons (.refl _) (.cons (OwEq.len setE_len.symm (fun i j _ _ => HoldC.h _ j) (fun i j _ _ => .refl _)) (.cons (.refl _) .nil)))) ?_
  all_goals exact endM_pick [0] [some (boxRow (s.cut (6 : Int).toNat num).csO)] (.tup []) (view_of rfl (.cons rfl (.self (rowPl_box rfl)) .nil)) rfl rfl (by rw [hX]; exact keepK (n := 1) rfl rfl) ⟨rfl, rfl⟩

set_option maxRecDepth 8000 in
set_option maxHeartbeats 2000000 in
theorem remove_ok (s : Shelf) (h : s.ok) (who num : Int) (hw : 0 ≤ who ∧ who < (s.tables.length : Int)) (h7 : s.tables.length ≤ 7) (q : Nat) (hq : (s.tables.getD who.toNat default).find num = some q) : RetM env.P 120 [some (boxRow s.csO)] [.ptr 0 0 0, .i .i64 who, .i .i64 num] (fun r H => r = .tup [] ∧ H = [some (boxRow (s.cut who.toNat num).csO)]) := by
  rcases (show who = 0 ∨ who = 1 ∨ who = 2 ∨ who = 3 ∨ who = 4 ∨ who = 5 ∨ who = 6 by omega) with rfl | rfl | rfl | rfl | rfl | rfl | rfl
  · exact remove_ok0 s h num hw h7 q hq
  · exact remove_ok1 s h num hw h7 q hq
  · exact remove_ok2 s h num hw h7 q hq
  · exact remove_ok3 s h num hw h7 q hq
  · exact remove_ok4 s h num hw h7 q hq
  · exact remove_ok5 s h num hw h7 q hq
  · exact remove_ok6 s h num hw h7 q hq

theorem cut_ok {s : Shelf} (h : s.ok) {w : Nat} {num : Int} : (s.cut w num).ok := setE_ok h (Nat.le_trans cutL_le (entLe h w))
theorem cut_at {s : Shelf} {w j : Nat} {num : Int} : ((s.cut w num).tables.getD j default).entries.length ≤ (s.tables.getD j default).entries.length ∧ ((s.cut w num).tables.getD j default).next = (s.tables.getD j default).next := by
  unfold Shelf.cut
  by_cases hw : w < s.tables.length
  · rw [setE_at hw]
    split
    · rename_i e
      subst e
      exact ⟨cutL_le, rfl⟩
    · exact ⟨Nat.le_refl _, rfl⟩
  · have : (s.setE w (cutL num (s.tables.getD w default).entries)).tables = s.tables := by
      unfold Shelf.setE
      rw [List.set_eq_of_length_le (by omega)]
    rw [this]
    exact ⟨Nat.le_refl _, rfl⟩
end Go.Proofs.Ytaiohiincgpomaa
