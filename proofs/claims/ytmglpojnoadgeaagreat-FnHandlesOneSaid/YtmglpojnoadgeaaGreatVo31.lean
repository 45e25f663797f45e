/- Texts for VHandlesOneP. -/
import Derived.Test.YtmglpojnoadgeaaGreatVo30
namespace Go.Proofs.YtmglpojnoadgeaaGreat
open Go Go.RowKit
set_option linter.unusedVariables false
set_option linter.unusedSimpArgs false
set_option maxRecDepth 8000
def Shelf.movedTo (s : Shelf) (who num : Int) (q : Nat) (to : Nat) : Shelf := (s.cut who.toNat num).put to ⟨0, ((s.tables.getD who.toNat default).entries.getD q default).id, true, 0, 0, 0, 0⟩
set_option maxHeartbeats 2000000 in
theorem move_none (s : Shelf) (h : s.ok) (who num res to : Int) (hg : s.good) (hw : 0 ≤ who ∧ who < (s.tables.length : Int)) (hto : 0 ≤ to ∧ to < (s.tables.length : Int)) (hE : s.typ who num res = none) : RetM env.P 62 [some (boxRow s.csO)] [.ptr 0 0 0, .i .i64 who, .i .i64 num, .i .i64 res, .i .i64 to] (fun r H => r = .tup [.i .i64 0, .i .i64 11] ∧ H = [some (boxRow s.csO)]) := by
 have hl : s.tables.length ≤ 1048576 := h.1.1
 have hw2 : who.toNat < s.tables.length := by omega
 have h7 := hg.2.1.2
 refine ret_ofM (nt := 52) (rvs := [.tmp 10, .tmp 11]) Tryz.func62 rfl rfl rfl rfl (fun X hX => ?_)
 repeat' (first | exact aa | ((conv => whnf) <;> (first | refine And.intro ?_ ?_ | (intro _h; first | contradiction | (try simp only [dd] at _h)) | (refine dt_go ?_) | exact rfl | exact True.intro | exact dkk | exact dks | (refine .inr (.inl (.inl ⟨[0], _, _, _, typedO_none s h hg who num res hw hE, viewA, ⟨rfl, rfl⟩, ?_⟩)); rintro _ _ ⟨rfl, rfl⟩; refine ⟨rfl, _, lokA, ?_⟩) | (refine wrap_succ ?_; omega))))
 all_goals (first | contradiction | skip)
 all_goals (conv => whnf)
 all_goals exact endM_pick [0] [some (boxRow (s).csO)] (.tup [.i .i64 0, .i .i64 11]) (view_of rfl (.cons rfl (.self (rowPl_box rfl)) .nil)) rfl rfl (by rw [hX]; exact keepK (n := 1) rfl rfl) ⟨rfl, rfl⟩
set_option maxHeartbeats 2000000 in
theorem move_own (s : Shelf) (h : s.ok) (who num res to : Int) (hg : s.good) (hw : 0 ≤ who ∧ who < (s.tables.length : Int)) (hto : 0 ≤ to ∧ to < (s.tables.length : Int)) (q : Nat) (hq : (s.tables.getD who.toNat default).find num = some q) (hr : (s.thingOf ((s.tables.getD who.toNat default).entries.getD q default)).res = res) (ho : ((s.tables.getD who.toNat default).entries.getD q default).own = false) : RetM env.P 62 [some (boxRow s.csO)] [.ptr 0 0 0, .i .i64 who, .i .i64 num, .i .i64 res, .i .i64 to] (fun r H => r = .tup [.i .i64 0, .i .i64 11] ∧ H = [some (boxRow s.csO)]) := by
 have hl : s.tables.length ≤ 1048576 := h.1.1
 have hw2 : who.toNat < s.tables.length := by omega
 have h7 := hg.2.1.2
 refine ret_ofM (nt := 52) (rvs := [.tmp 10, .tmp 11]) Tryz.func62 rfl rfl rfl rfl (fun X hX => ?_)
 repeat' (first | exact aa | ((conv => whnf) <;> (first | (refine .inr (.inl (.inl ⟨[0], _, _, _, typedO_some s h hg who num res hw q hq hr, (view_of rfl (.cons rfl (.self (rowPl_box rfl)) .nil)), ⟨rfl, rfl⟩, ?_⟩)); rintro _ _ ⟨rfl, rfl⟩; refine ⟨rfl, _, lok_open, ?_⟩) | (exfalso; have qq := ‹((s.tables.getD who.toNat default).entries.getD q default).own = true›; rw [ho] at qq; cases qq) | refine And.intro ?_ ?_ | (intro _h; first | contradiction | (try simp only [dd] at _h)) | (refine dt_go ?_) | exact rfl | exact True.intro | exact dkk | exact dks | (refine wrap_succ ?_; omega))))
 all_goals (first | contradiction | (exfalso; omega) | skip)
 all_goals (conv => whnf)
 all_goals refine endM_turn (turn_close (id := 1) (i := who.toNat) (j := 1) (id' := 2) rfl hw2 (show 1 < 2 by decide) (by first | exact upd_self | (simp only [upd, Nat.beq_refl]; rfl) | (simp only [Shelf.rowT, upd, Nat.beq_refl]; rfl) | exact rowT_at) rfl (show 1 ≠ 2 by decide) rfl (rowO_le (Nat.le_refl _))) ?_
 all_goals refine endM_turn (turn_eq (id := 1) (x := rowL 2 Table.csO (s.setE who.toNat (s.tables.getD who.toNat default).entries).tables) rfl rfl setE_len rfl rfl (setE_rows (l := (s.tables.getD who.toNat default).entries) hw2 rfl (fun i j _ _ => .refl _))) ?_
 all_goals refine endM_turn (turn_close (id := 0) (i := 0) (j := 1) (id' := 1) rfl (show 0 < 1 by decide) (show 1 < 3 by decide) rfl rfl (show 0 ≠ 1 by decide) rfl (rowO_le (Nat.le_of_eq setE_len.symm))) ?_
 all_goals refine endM_turn (turn_close (id := 0) (i := 0) (j := 2) (id' := 3) rfl (show 0 < 1 by decide) (show 2 < 3 by decide) rfl rfl (show 0 ≠ 3 by decide) rfl (rowO_le (Nat.le_refl _))) ?_
 all_goals refine endM_turn (turn_box (id := 0) (ds := (s).csO) rfl rfl rfl (.cons (.refl _) (.cons (OwEq.len rfl (fun i j _ _ => HoldC.h _ j) (fun i j _ _ => by rw [setE_self]; exact .refl _)) (.cons (.refl _) .nil)))) ?_
 all_goals exact endM_pick [0] [some (boxRow (s).csO)] (.tup [.i .i64 0, .i .i64 11]) (view_of rfl (.cons rfl (.self (rowPl_box rfl)) .nil)) rfl rfl (by rw [hX]; exact keepK (n := 1) rfl rfl) ⟨rfl, rfl⟩
set_option maxHeartbeats 2000000 in
theorem move_lent (s : Shelf) (h : s.ok) (who num res to : Int) (hg : s.good) (hw : 0 ≤ who ∧ who < (s.tables.length : Int)) (hto : 0 ≤ to ∧ to < (s.tables.length : Int)) (q : Nat) (hq : (s.tables.getD who.toNat default).find num = some q) (hr : (s.thingOf ((s.tables.getD who.toNat default).entries.getD q default)).res = res) (ho : ((s.tables.getD who.toNat default).entries.getD q default).own = true) (hl0 : ¬ ((s.tables.getD who.toNat default).entries.getD q default).lends = 0) : RetM env.P 62 [some (boxRow s.csO)] [.ptr 0 0 0, .i .i64 who, .i .i64 num, .i .i64 res, .i .i64 to] (fun r H => r = .tup [.i .i64 0, .i .i64 12] ∧ H = [some (boxRow s.csO)]) := by
 have hl : s.tables.length ≤ 1048576 := h.1.1
 have hw2 : who.toNat < s.tables.length := by omega
 have h7 := hg.2.1.2
 refine ret_ofM (nt := 52) (rvs := [.tmp 10, .tmp 11]) Tryz.func62 rfl rfl rfl rfl (fun X hX => ?_)
 repeat' (first | exact aa | ((conv => whnf) <;> (first | (refine .inr (.inl (.inl ⟨[0], _, _, _, typedO_some s h hg who num res hw q hq hr, (view_of rfl (.cons rfl (.self (rowPl_box rfl)) .nil)), ⟨rfl, rfl⟩, ?_⟩)); rintro _ _ ⟨rfl, rfl⟩; refine ⟨rfl, _, lok_open, ?_⟩) | (exfalso; have qq := ‹((s.tables.getD who.toNat default).entries.getD q default).own = false›; rw [ho] at qq; cases qq) | refine And.intro ?_ ?_ | (intro _h; first | contradiction | (try simp only [dd] at _h)) | (refine dt_go ?_) | exact rfl | exact True.intro | exact dkk | exact dks | (refine wrap_succ ?_; omega))))
 all_goals (first | contradiction | (exfalso; omega) | skip)
 all_goals (conv => whnf)
 all_goals refine endM_turn (turn_close (id := 1) (i := who.toNat) (j := 1) (id' := 2) rfl hw2 (show 1 < 2 by decide) (by first | exact upd_self | (simp only [upd, Nat.beq_refl]; rfl) | (simp only [Shelf.rowT, upd, Nat.beq_refl]; rfl) | exact rowT_at) rfl (show 1 ≠ 2 by decide) rfl (rowO_le (Nat.le_refl _))) ?_
 all_goals refine endM_turn (turn_eq (id := 1) (x := rowL 2 Table.csO (s.setE who.toNat (s.tables.getD who.toNat default).entries).tables) rfl rfl setE_len rfl rfl (setE_rows (l := (s.tables.getD who.toNat default).entries) hw2 rfl (fun i j _ _ => .refl _))) ?_
 all_goals refine endM_turn (turn_close (id := 0) (i := 0) (j := 1) (id' := 1) rfl (show 0 < 1 by decide) (show 1 < 3 by decide) rfl rfl (show 0 ≠ 1 by decide) rfl (rowO_le (Nat.le_of_eq setE_len.symm))) ?_
 all_goals refine endM_turn (turn_close (id := 0) (i := 0) (j := 2) (id' := 3) rfl (show 0 < 1 by decide) (show 2 < 3 by decide) rfl rfl (show 0 ≠ 3 by decide) rfl (rowO_le (Nat.le_refl _))) ?_
 all_goals refine endM_turn (turn_box (id := 0) (ds := (s).csO) rfl rfl rfl (.cons (.refl _) (.cons (OwEq.len rfl (fun i j _ _ => HoldC.h _ j) (fun i j _ _ => by rw [setE_self]; exact .refl _)) (.cons (.refl _) .nil)))) ?_
 all_goals exact endM_pick [0] [some (boxRow (s).csO)] (.tup [.i .i64 0, .i .i64 12]) (view_of rfl (.cons rfl (.self (rowPl_box rfl)) .nil)) rfl rfl (by rw [hX]; exact keepK (n := 1) rfl rfl) ⟨rfl, rfl⟩
set_option maxHeartbeats 2000000 in
theorem move_full (s : Shelf) (h : s.ok) (who num res to : Int) (hg : s.good) (hw : 0 ≤ who ∧ who < (s.tables.length : Int)) (hto : 0 ≤ to ∧ to < (s.tables.length : Int)) (q : Nat) (hq : (s.tables.getD who.toNat default).find num = some q) (hr : (s.thingOf ((s.tables.getD who.toNat default).entries.getD q default)).res = res) (ho : ((s.tables.getD who.toNat default).entries.getD q default).own = true) (hl0 : ((s.tables.getD who.toNat default).entries.getD q default).lends = 0) (hf : s.fullB to.toNat) : RetM env.P 62 [some (boxRow s.csO)] [.ptr 0 0 0, .i .i64 who, .i .i64 num, .i .i64 res, .i .i64 to] (fun r H => r = .tup [.i .i64 0, .i .i64 4] ∧ H = [some (boxRow s.csO)]) := by
 have hl : s.tables.length ≤ 1048576 := h.1.1
 have hw2 : who.toNat < s.tables.length := by omega
 have h7 := hg.2.1.2
 refine ret_ofM (nt := 52) (rvs := [.tmp 10, .tmp 11]) Tryz.func62 rfl rfl rfl rfl (fun X hX => ?_)
 repeat' (first | exact aa | ((conv => whnf) <;> (first | (refine .inr (.inl (.inl ⟨[0], _, _, _, typedO_some s h hg who num res hw q hq hr, (view_of rfl (.cons rfl (.self (rowPl_box rfl)) .nil)), ⟨rfl, rfl⟩, ?_⟩)); rintro _ _ ⟨rfl, rfl⟩; refine ⟨rfl, _, lok_open, ?_⟩) | (exfalso; have qq := ‹((s.tables.getD who.toNat default).entries.getD q default).own = false›; rw [ho] at qq; cases qq) | ((first | refine .inl ⟨_, Ret.wku (full_ok s h to hto (tab_good hg hto).1 (tab_good hg hto).2.2), ?_⟩ | refine ⟨_, Ret.wku (full_ok s h to hto (tab_good hg hto).1 (tab_good hg hto).2.2), ?_⟩); (try rintro _ rfl)) | refine And.intro ?_ ?_ | (intro _h; first | contradiction | (try simp only [dd] at _h)) | (refine dt_go ?_) | exact rfl | exact True.intro | exact dkk | exact dks | (refine wrap_succ ?_; omega))))
 all_goals (first | contradiction | (exfalso; omega) | skip)
 all_goals (conv => whnf)
 all_goals refine endM_turn (turn_close (id := 1) (i := who.toNat) (j := 1) (id' := 2) rfl hw2 (show 1 < 2 by decide) (by first | exact upd_self | (simp only [upd, Nat.beq_refl]; rfl) | (simp only [Shelf.rowT, upd, Nat.beq_refl]; rfl) | exact rowT_at) rfl (show 1 ≠ 2 by decide) rfl (rowO_le (Nat.le_refl _))) ?_
 all_goals refine endM_turn (turn_eq (id := 1) (x := rowL 2 Table.csO (s.setE who.toNat (s.tables.getD who.toNat default).entries).tables) rfl rfl setE_len rfl rfl (setE_rows (l := (s.tables.getD who.toNat default).entries) hw2 rfl (fun i j _ _ => .refl _))) ?_
 all_goals refine endM_turn (turn_close (id := 0) (i := 0) (j := 1) (id' := 1) rfl (show 0 < 1 by decide) (show 1 < 3 by decide) rfl rfl (show 0 ≠ 1 by decide) rfl (rowO_le (Nat.le_of_eq setE_len.symm))) ?_
 all_goals refine endM_turn (turn_close (id := 0) (i := 0) (j := 2) (id' := 3) rfl (show 0 < 1 by decide) (show 2 < 3 by decide) rfl rfl (show 0 ≠ 3 by decide) rfl (rowO_le (Nat.le_refl _))) ?_
 all_goals refine endM_turn (turn_box (id := 0) (ds := (s).csO) rfl rfl rfl (.cons (.refl _) (.cons (OwEq.len rfl (fun i j _ _ => HoldC.h _ j) (fun i j _ _ => by rw [setE_self]; exact .refl _)) (.cons (.refl _) .nil)))) ?_
 all_goals exact endM_pick [0] [some (boxRow (s).csO)] (.tup [.i .i64 0, .i .i64 4]) (view_of rfl (.cons rfl (.self (rowPl_box rfl)) .nil)) rfl rfl (by rw [hX]; exact keepK (n := 1) rfl rfl) ⟨rfl, rfl⟩
set_option maxHeartbeats 2000000 in
theorem move_fine (s : Shelf) (h : s.ok) (who num res to : Int) (hg : s.good) (hw : 0 ≤ who ∧ who < (s.tables.length : Int)) (hto : 0 ≤ to ∧ to < (s.tables.length : Int)) (q : Nat) (hq : (s.tables.getD who.toNat default).find num = some q) (hr : (s.thingOf ((s.tables.getD who.toNat default).entries.getD q default)).res = res) (ho : ((s.tables.getD who.toNat default).entries.getD q default).own = true) (hl0 : ((s.tables.getD who.toNat default).entries.getD q default).lends = 0) (hf : ¬ s.fullB to.toNat) : RetM env.P 62 [some (boxRow s.csO)] [.ptr 0 0 0, .i .i64 who, .i .i64 num, .i .i64 res, .i .i64 to] (fun r H => r = .tup [.i .i64 ((s.cut who.toNat num).tables.getD to.toNat default).next, .i .i64 0] ∧ H = [some (boxRow (s.movedTo who num q to.toNat).csO)]) := by
 have hl : s.tables.length ≤ 1048576 := h.1.1
 have hw2 : who.toNat < s.tables.length := by omega
 have h7 := hg.2.1.2
 have hf4 : (s.tables.getD to.toNat default).entries.length < 12 := Nat.lt_of_not_le fun q => hf (.inl q)
 have hf5 : (s.tables.getD to.toNat default).next < 1000000 := Int.lt_of_not_ge fun q => hf (.inr q)
 refine ret_ofM (nt := 52) (rvs := [.tmp 10, .tmp 11]) Tryz.func62 rfl rfl rfl rfl (fun X hX => ?_)
 repeat' (first | exact aa | ((conv => whnf) <;> (first | (exfalso; have qq := ‹((s.tables.getD who.toNat default).entries.getD q default).own = false›; rw [ho] at qq; cases qq) | (refine .inr (.inl (.inl ⟨[0], _, _, _, typedO_some s h hg who num res hw q hq hr, (view_of rfl (.cons rfl (.self (rowPl_box rfl)) .nil)), ⟨rfl, rfl⟩, ?_⟩)); rintro _ _ ⟨rfl, rfl⟩; refine ⟨rfl, _, lok_open, ?_⟩) | ((first | refine .inl ⟨_, Ret.wku (full_ok s h to hto (tab_good hg hto).1 (tab_good hg hto).2.2), ?_⟩ | refine ⟨_, Ret.wku (full_ok s h to hto (tab_good hg hto).1 (tab_good hg hto).2.2), ?_⟩); (try rintro _ rfl)) | (refine .inr (.inr ⟨[some (boxRow s.csO), none, none, none], (by intro X; refine Turn.trans (turn_close (id := 1) (i := who.toNat) (j := 1) (id' := 2) rfl hw2 (show 1 < 2 by decide) (by first | exact upd_self | (simp only [upd, Nat.beq_refl]; rfl) | (simp only [Shelf.rowT, upd, Nat.beq_refl]; rfl) | exact rowT_at) rfl (show 1 ≠ 2 by decide) rfl (rowO_le (Nat.le_refl _))) ?_; refine Turn.trans (turn_eq (id := 1) (x := rowL 2 Table.csO (s.setE who.toNat (s.tables.getD who.toNat default).entries).tables) rfl rfl setE_len rfl rfl (setE_rows (l := (s.tables.getD who.toNat default).entries) hw2 rfl (fun i j _ _ => .refl _))) ?_; refine Turn.trans (turn_close (id := 0) (i := 0) (j := 1) (id' := 1) rfl (show 0 < 1 by decide) (show 1 < 3 by decide) rfl rfl (show 0 ≠ 1 by decide) rfl (rowO_le (Nat.le_of_eq setE_len.symm))) ?_; refine Turn.trans (turn_close (id := 0) (i := 0) (j := 2) (id' := 3) rfl (show 0 < 1 by decide) (show 2 < 3 by decide) rfl rfl (show 0 ≠ 3 by decide) rfl (rowO_le (Nat.le_refl _))) ?_; exact turn_box (id := 0) (ds := (s).csO) rfl rfl rfl (.cons (.refl _) (.cons (OwEq.len rfl (fun i j _ _ => HoldC.h _ j) (fun i j _ _ => by rw [setE_self]; exact .refl _)) (.cons (.refl _) .nil)))), (fun i _ q => (by cases q)), .inl ⟨[0], _, _, _, remove_ok s h who num hw h7 q hq, (view_of rfl (.cons rfl (.self (rowPl_box rfl)) .nil)), ⟨rfl, rfl⟩, ?_⟩⟩); rintro _ _ ⟨rfl, rfl⟩; refine ⟨rfl, _, (lok_pl (.cons (rowPl_box rfl) .nil)), ?_⟩) | refine And.intro ?_ ?_ | (intro _h; first | contradiction | (try simp only [dd] at _h)) | (refine dt_go ?_) | exact rfl | exact True.intro | exact dkk | exact dks | (refine .inr (.inl (.inl ⟨[0], _, _, _, add_ok (s.cut who.toNat num) (cut_ok h) to ⟨hto.1, by rw [show (s.cut who.toNat num).tables.length = s.tables.length from setE_len]; exact hto.2⟩ ⟨0, _, true, 0, 0, 0, 0⟩ (Nat.lt_of_le_of_lt cut_at.1 hf4) (by rw [cut_at.2]; exact ⟨(tab_good hg hto).2.1, hf5⟩), viewA, ⟨rfl, rfl⟩, ?_⟩)); rintro _ _ ⟨rfl, rfl⟩; refine ⟨rfl, _, lokA, ?_⟩) | (refine wrap_succ ?_; omega))))
 all_goals (first | contradiction | (exfalso; omega) | skip)
 all_goals (conv => whnf)
 all_goals exact endM_pick [0] [some (boxRow (s.movedTo who num q to.toNat).csO)] (.tup [.i .i64 ((s.cut who.toNat num).tables.getD to.toNat default).next, .i .i64 0]) (view_of rfl (.cons rfl (.self (rowPl_box rfl)) .nil)) rfl rfl (by rw [hX]; exact keepK (n := 1) rfl rfl) ⟨rfl, rfl⟩
set_option maxHeartbeats 2000000 in
theorem l19Move_none (s : Shelf) (h : s.ok) (who num res to : Int) (hg : s.good) (hw : 0 ≤ who ∧ who < (s.tables.length : Int)) (hto : 0 ≤ to ∧ to < (s.tables.length : Int)) (hE : s.typ who num res = none) : RetM env.P 72 [some (boxRow s.csO)] [.ptr 0 0 0, .i .i64 who, .i .i64 num, .i .i64 res, .i .i64 to] (fun r H => r = .tup [.i .i64 0, .i .i64 11] ∧ H = [some (boxRow s.csO)]) := by
 have hl : s.tables.length ≤ 1048576 := h.1.1
 have hw2 : who.toNat < s.tables.length := by omega
 have h7 := hg.2.1.2
 refine ret_ofM (nt := 44) (rvs := [.tmp 10, .tmp 11]) Tryz.func72 rfl rfl rfl rfl (fun X hX => ?_)
 repeat' (first | exact aa | ((conv => whnf) <;> (first | ((first | refine .inl ⟨_, Ret.wka (l19Find_ok s h hg who num res), ?_⟩ | refine ⟨_, Ret.wka (l19Find_ok s h hg who num res), ?_⟩); (try rintro _ rfl); rw [hE]; simp only [findR]) | refine And.intro ?_ ?_ | (intro _h; first | contradiction | (try simp only [dd] at _h)) | (refine dt_go ?_) | exact rfl | exact True.intro | exact dkk | exact dks | (refine wrap_succ ?_; omega))))
 all_goals (first | contradiction | skip)
 all_goals (conv => whnf)
 all_goals exact endM_pick [0] [some (boxRow (s).csO)] (.tup [.i .i64 0, .i .i64 11]) (view_of rfl (.cons rfl (.self (rowPl_box rfl)) .nil)) rfl rfl (by rw [hX]; exact keepK (n := 1) rfl rfl) ⟨rfl, rfl⟩
set_option maxHeartbeats 2000000 in
theorem l19Move_own (s : Shelf) (h : s.ok) (who num res to : Int) (hg : s.good) (hw : 0 ≤ who ∧ who < (s.tables.length : Int)) (hto : 0 ≤ to ∧ to < (s.tables.length : Int)) (q : Nat) (hq : (s.tables.getD who.toNat default).find num = some q) (hr : (s.thingOf ((s.tables.getD who.toNat default).entries.getD q default)).res = res) (ho : ((s.tables.getD who.toNat default).entries.getD q default).own = false) : RetM env.P 72 [some (boxRow s.csO)] [.ptr 0 0 0, .i .i64 who, .i .i64 num, .i .i64 res, .i .i64 to] (fun r H => r = .tup [.i .i64 0, .i .i64 11] ∧ H = [some (boxRow s.csO)]) := by
 have hl : s.tables.length ≤ 1048576 := h.1.1
 have hw2 : who.toNat < s.tables.length := by omega
 have h7 := hg.2.1.2
 have hE : s.typ who num res = some ((s.tables.getD who.toNat default).entries.getD q default) := typ_some (find_at hw hq) hr
 refine ret_ofM (nt := 44) (rvs := [.tmp 10, .tmp 11]) Tryz.func72 rfl rfl rfl rfl (fun X hX => ?_)
 repeat' (first | exact aa | ((conv => whnf) <;> (first | ((first | refine .inl ⟨_, Ret.wka (l19Find_ok s h hg who num res), ?_⟩ | refine ⟨_, Ret.wka (l19Find_ok s h hg who num res), ?_⟩); (try rintro _ rfl); rw [hE]; simp only [findR]) | (exfalso; have qq := ‹((s.tables.getD who.toNat default).entries.getD q default).own = true›; rw [ho] at qq; cases qq) | refine And.intro ?_ ?_ | (intro _h; first | contradiction | (try simp only [dd] at _h)) | (refine dt_go ?_) | exact rfl | exact True.intro | exact dkk | exact dks | (refine wrap_succ ?_; omega))))
 all_goals (first | contradiction | (exfalso; omega) | skip)
 all_goals (conv => whnf)
 all_goals exact endM_pick [0] [some (boxRow (s).csO)] (.tup [.i .i64 0, .i .i64 11]) (view_of rfl (.cons rfl (.self (rowPl_box rfl)) .nil)) rfl rfl (by rw [hX]; exact keepK (n := 1) rfl rfl) ⟨rfl, rfl⟩
set_option maxHeartbeats 2000000 in
theorem l19Move_lent (s : Shelf) (h : s.ok) (who num res to : Int) (hg : s.good) (hw : 0 ≤ who ∧ who < (s.tables.length : Int)) (hto : 0 ≤ to ∧ to < (s.tables.length : Int)) (q : Nat) (hq : (s.tables.getD who.toNat default).find num = some q) (hr : (s.thingOf ((s.tables.getD who.toNat default).entries.getD q default)).res = res) (ho : ((s.tables.getD who.toNat default).entries.getD q default).own = true) (hl0 : 0 < ((s.tables.getD who.toNat default).entries.getD q default).lends) : RetM env.P 72 [some (boxRow s.csO)] [.ptr 0 0 0, .i .i64 who, .i .i64 num, .i .i64 res, .i .i64 to] (fun r H => r = .tup [.i .i64 0, .i .i64 12] ∧ H = [some (boxRow s.csO)]) := by
 have hl : s.tables.length ≤ 1048576 := h.1.1
 have hw2 : who.toNat < s.tables.length := by omega
 have h7 := hg.2.1.2
 have hE : s.typ who num res = some ((s.tables.getD who.toNat default).entries.getD q default) := typ_some (find_at hw hq) hr
 refine ret_ofM (nt := 44) (rvs := [.tmp 10, .tmp 11]) Tryz.func72 rfl rfl rfl rfl (fun X hX => ?_)
 repeat' (first | exact aa | ((conv => whnf) <;> (first | ((first | refine .inl ⟨_, Ret.wka (l19Find_ok s h hg who num res), ?_⟩ | refine ⟨_, Ret.wka (l19Find_ok s h hg who num res), ?_⟩); (try rintro _ rfl); rw [hE]; simp only [findR]) | (exfalso; have qq := ‹((s.tables.getD who.toNat default).entries.getD q default).own = false›; rw [ho] at qq; cases qq) | refine And.intro ?_ ?_ | (intro _h; first | contradiction | (try simp only [dd] at _h)) | (refine dt_go ?_) | exact rfl | exact True.intro | exact dkk | exact dks | (refine wrap_succ ?_; omega))))
 all_goals (first | contradiction | (exfalso; omega) | skip)
 all_goals (conv => whnf)
 all_goals exact endM_pick [0] [some (boxRow (s).csO)] (.tup [.i .i64 0, .i .i64 12]) (view_of rfl (.cons rfl (.self (rowPl_box rfl)) .nil)) rfl rfl (by rw [hX]; exact keepK (n := 1) rfl rfl) ⟨rfl, rfl⟩
set_option maxHeartbeats 2000000 in
theorem l19Move_full (s : Shelf) (h : s.ok) (who num res to : Int) (hg : s.good) (hw : 0 ≤ who ∧ who < (s.tables.length : Int)) (hto : 0 ≤ to ∧ to < (s.tables.length : Int)) (q : Nat) (hq : (s.tables.getD who.toNat default).find num = some q) (hr : (s.thingOf ((s.tables.getD who.toNat default).entries.getD q default)).res = res) (ho : ((s.tables.getD who.toNat default).entries.getD q default).own = true) (hl0 : ((s.tables.getD who.toNat default).entries.getD q default).lends = 0) (hf : s.fullB to.toNat) : RetM env.P 72 [some (boxRow s.csO)] [.ptr 0 0 0, .i .i64 who, .i .i64 num, .i .i64 res, .i .i64 to] (fun r H => r = .tup [.i .i64 0, .i .i64 4] ∧ H = [some (boxRow s.csO)]) := by
 have hl : s.tables.length ≤ 1048576 := h.1.1
 have hw2 : who.toNat < s.tables.length := by omega
 have h7 := hg.2.1.2
 have hE : s.typ who num res = some ((s.tables.getD who.toNat default).entries.getD q default) := typ_some (find_at hw hq) hr
 refine ret_ofM (nt := 44) (rvs := [.tmp 10, .tmp 11]) Tryz.func72 rfl rfl rfl rfl (fun X hX => ?_)
 repeat' (first | exact aa | ((conv => whnf) <;> (first | ((first | refine .inl ⟨_, Ret.wka (l19Find_ok s h hg who num res), ?_⟩ | refine ⟨_, Ret.wka (l19Find_ok s h hg who num res), ?_⟩); (try rintro _ rfl); rw [hE]; simp only [findR]) | (exfalso; have qq := ‹((s.tables.getD who.toNat default).entries.getD q default).own = false›; rw [ho] at qq; cases qq) | refine And.intro ?_ ?_ | (intro _h; first | contradiction | (try simp only [dd] at _h)) | (refine dt_go ?_) | exact rfl | exact True.intro | exact dkk | exact dks | ((first | refine .inl ⟨_, Ret.wka (l19Full_ok s h to hto), ?_⟩ | refine ⟨_, Ret.wka (l19Full_ok s h to hto), ?_⟩); (try rintro _ rfl)) | (refine wrap_succ ?_; omega))))
 all_goals (first | contradiction | (exfalso; omega) | skip)
 all_goals (conv => whnf)
 all_goals exact endM_pick [0] [some (boxRow (s).csO)] (.tup [.i .i64 0, .i .i64 4]) (view_of rfl (.cons rfl (.self (rowPl_box rfl)) .nil)) rfl rfl (by rw [hX]; exact keepK (n := 1) rfl rfl) ⟨rfl, rfl⟩
set_option maxHeartbeats 2000000 in
theorem l19Move_fine (s : Shelf) (h : s.ok) (who num res to : Int) (hg : s.good) (hw : 0 ≤ who ∧ who < (s.tables.length : Int)) (hto : 0 ≤ to ∧ to < (s.tables.length : Int)) (q : Nat) (hq : (s.tables.getD who.toNat default).find num = some q) (hr : (s.thingOf ((s.tables.getD who.toNat default).entries.getD q default)).res = res) (ho : ((s.tables.getD who.toNat default).entries.getD q default).own = true) (hl0 : ((s.tables.getD who.toNat default).entries.getD q default).lends = 0) (hf : ¬ s.fullB to.toNat) : RetM env.P 72 [some (boxRow s.csO)] [.ptr 0 0 0, .i .i64 who, .i .i64 num, .i .i64 res, .i .i64 to] (fun r H => r = .tup [.i .i64 ((s.cut who.toNat num).tables.getD to.toNat default).next, .i .i64 0] ∧ H = [some (boxRow (s.movedTo who num q to.toNat).csO)]) := by
 have hl : s.tables.length ≤ 1048576 := h.1.1
 have hw2 : who.toNat < s.tables.length := by omega
 have h7 := hg.2.1.2
 have hf4 : (s.tables.getD to.toNat default).entries.length < 12 := Nat.lt_of_not_le fun q => hf (.inl q)
 have hf5 : (s.tables.getD to.toNat default).next < 1000000 := Int.lt_of_not_ge fun q => hf (.inr q)
 have hE : s.typ who num res = some ((s.tables.getD who.toNat default).entries.getD q default) := typ_some (find_at hw hq) hr
 refine ret_ofM (nt := 44) (rvs := [.tmp 10, .tmp 11]) Tryz.func72 rfl rfl rfl rfl (fun X hX => ?_)
 repeat' (first | exact aa | ((conv => whnf) <;> (first | (exfalso; have qq := ‹((s.tables.getD who.toNat default).entries.getD q default).own = false›; rw [ho] at qq; cases qq) | ((first | refine .inl ⟨_, Ret.wka (l19Find_ok s h hg who num res), ?_⟩ | refine ⟨_, Ret.wka (l19Find_ok s h hg who num res), ?_⟩); (try rintro _ rfl); rw [hE]; simp only [findR]) | refine And.intro ?_ ?_ | (intro _h; first | contradiction | (try simp only [dd] at _h)) | (refine dt_go ?_) | exact rfl | exact True.intro | exact dkk | exact dks | ((first | refine .inl ⟨_, Ret.wka (l19Full_ok s h to hto), ?_⟩ | refine ⟨_, Ret.wka (l19Full_ok s h to hto), ?_⟩); (try rintro _ rfl)) | (refine .inr (.inl (.inl ⟨[0], _, _, _, l19Cut_ok s h who num hw h7, viewA, ⟨rfl, rfl⟩, ?_⟩)); rintro _ _ ⟨rfl, rfl⟩; refine ⟨rfl, _, lokA, ?_⟩) | (refine .inr (.inl (.inl ⟨[0], _, _, _, l19Put_ok (s.cut who.toNat num) (cut_ok h) to ⟨hto.1, by rw [show (s.cut who.toNat num).tables.length = s.tables.length from setE_len]; exact hto.2⟩ ⟨0, _, true, 0, 0, 0, 0⟩ (Nat.lt_of_le_of_lt cut_at.1 hf4) (by rw [cut_at.2]; exact ⟨(tab_good hg hto).2.1, hf5⟩), viewA, ⟨rfl, rfl⟩, ?_⟩)); rintro _ _ ⟨rfl, rfl⟩; refine ⟨rfl, _, lokA, ?_⟩) | (refine wrap_succ ?_; omega))))
 all_goals (first | contradiction | (exfalso; omega) | skip)
 all_goals (conv => whnf)
 all_goals exact endM_pick [0] [some (boxRow (s.movedTo who num q to.toNat).csO)] (.tup [.i .i64 ((s.cut who.toNat num).tables.getD to.toNat default).next, .i .i64 0]) (view_of rfl (.cons rfl (.self (rowPl_box rfl)) .nil)) rfl rfl (by rw [hX]; exact keepK (n := 1) rfl rfl) ⟨rfl, rfl⟩
theorem at_pos {s : Shelf} {a b : Int} {x : Entry} (h : s.at_ a b = some x) : 0 ≤ a ∧ a < (s.tables.length : Int) := by
 rw [at_eq] at h
 split at h
 ·rename_i ht
  simpa [Shelf.isT] using ht
 ·cases h
theorem filter_one {num : Int} : ∀ {l : List Entry}, l.Pairwise (fun a b => a.num < b.num) → ∀ {e : Entry}, e ∈ l → e.num = num → l.filter (numP num) = [e]
 | [], _, _, h, _ => by cases h
 | a :: l, hp, e, he, hn => by
  rw [List.pairwise_cons] at hp
  by_cases ha : a.num = num
  ·have h1 : l.filter (numP num) = [] := List.filter_eq_nil_iff.2 fun b hb => by
    have := hp.1 b hb
    simp only [numP, decide_eq_true_eq]
    omega
   have h2 : e = a := by
    rcases List.mem_cons.1 he with q | q
    ·exact q
    ·have := hp.1 e q; omega
   rw [List.filter_cons, if_pos (by simpa [numP] using ha), h1, h2]
  ·rw [List.filter_cons, if_neg (by simpa [numP] using ha)]
   rcases List.mem_cons.1 he with q | q
   ·subst q; exact absurd hn ha
   ·exact filter_one hp.2 q hn
theorem count_split {α : Type} {p q : α → Bool} : ∀ {l : List α}, (l.filter fun x => !q x).countP p + (l.filter q).countP p = l.countP p
 | [] => rfl
 | a :: l => by
  have := count_split (p := p) (q := q) (l := l)
  rw [List.filter_cons, List.filter_cons, List.countP_cons]
  cases hq : q a with
  | true =>
   simp only [Bool.not_true, Bool.false_eq_true, if_false, if_true, List.countP_cons]
   omega
  | false =>
   simp only [Bool.not_false, Bool.false_eq_true, if_false, if_true, List.countP_cons]
   omega
theorem cut_en {s : Shelf} {w i : Nat} {num : Int} (hw : w < s.tables.length) : (s.cut w num).en i = if i = w then cutL num (s.en w) else s.en i := by
 unfold Shelf.en Shelf.cut
 rw [setE_at hw]
 split <;> rfl
theorem cut_len2 {s : Shelf} {w : Nat} {num : Int} : (s.cut w num).tables.length = s.tables.length := setE_len
theorem cut_count {s : Shelf} (h : s.H0) {w : Nat} (hw : w < s.tables.length) {e : Entry} (he : e ∈ s.en w) {p : Entry → Bool} : (s.cut w e.num).all.countP p + (if p e = true then 1 else 0) = s.all.countP p := by
 have h1 := count_one (s := s) (s' := s.cut w e.num) cut_len2 hw (fun i hi hne => by rw [cut_en hw, if_neg hne]) (p := p)
 rw [cut_en hw, if_pos rfl] at h1
 have h2 : (cutL e.num (s.en w)).countP p + ((s.en w).filter (numP e.num)).countP p = (s.en w).countP p := count_split
 rw [filter_one (h.nums w hw) he rfl, List.countP_singleton] at h2
 omega
theorem keep_all {s : Shelf} : s.keep (fun _ _ => true) = s := shelf_ext rfl rfl keep_len fun i hi => by
 rw [keep_tab]
 rw [List.filter_eq_self.2 fun _ _ => rfl]
theorem cut_keep {s : Shelf} {w : Nat} {num : Int} (hw : w < s.tables.length) : s.cut w num = s.keep (delE (fun _ _ => true) w num) := by
 rw [← keep_cut hw, keep_all]
def Shelf.bare (s : Shelf) (w : Nat) (num : Int) : Prop := ∀ i, i < s.tables.length → ∀ x ∈ s.en i, x.own = false → ¬ (x.from_ = (w : Int) ∧ x.fromNum = num)
theorem bare_of {s : Shelf} (hl : s.Lds) {w : Nat} (hw : w < s.tables.length) {e : Entry} (he : e ∈ s.en w) (h0 : e.lends = 0) : s.bare w e.num := by
 have h1 := hl w hw e he
 rw [h0] at h1
 have h2 : s.all.countP (borP w e.num) = 0 := by omega
 rw [List.countP_eq_zero] at h2
 intro i hi x hx ho hf
 obtain ⟨k, hk⟩ := List.getElem?_of_mem hx
 have hkl := (List.getElem?_eq_some_iff.1 hk).1
 have hke : (s.tables.getD i default).entries.getD k default = x := by rw [List.getD_eq_getElem?_getD, hk]; rfl
 refine h2 x (hke ▸ mem_all hi hkl) ?_
 unfold borP
 rw [ho, decide_eq_true hf]
 rfl
theorem del_orig2 {s : Shelf} (h : s.H0) {w : Nat} {num : Int} (hb : s.bare w num) : ∀ i, i < s.tables.length → ∀ e ∈ s.en i, delE (fun _ _ => true) w num i e = true → e.own = false → ∃ x, s.at_ e.from_ e.fromNum = some x ∧ delE (fun _ _ => true) w num e.from_.toNat x = true := by
 intro i hi e he _ ho
 obtain ⟨x, n, hx, _, _⟩ := orig_there h hi he ho
 refine ⟨x, hx, ?_⟩
 have hp := at_pos hx
 have hn := (at_in hx).2.1
 unfold delE
 rw [Bool.true_and, Bool.not_eq_true']
 cases hc : (Nat.beq e.from_.toNat w && numP num x) with
 | false => rfl
 | true =>
  rw [Bool.and_eq_true] at hc
  have h1 := Nat.eq_of_beq_eq_true hc.1
  have h2 : x.num = num := by simpa [numP] using hc.2
  exact absurd ⟨by omega, by omega⟩ (hb i hi e he ho)
theorem cut_H0 {s : Shelf} (h : s.H0) {w : Nat} (hw : w < s.tables.length) {num : Int} (hb : s.bare w num) : (s.cut w num).H0 := by
 rw [cut_keep hw]
 exact keep_H0 (T := s.things) h (List.Sublist.refl _) (del_orig2 h hb) fun i hi e he _ => h.thing i hi e he
theorem cut_Lds {s : Shelf} (h : s.H0) (hl : s.Lds) {w : Nat} (hw : w < s.tables.length) {e : Entry} (he : e ∈ s.en w) (ho : e.own = true) : (s.cut w e.num).Lds := by
 intro i hi x hx
 have hc := cut_count h hw he (p := borP i x.num)
 rw [if_neg (by unfold borP; rw [ho]; simp)] at hc
 rw [show (s.cut w e.num).all.countP (borP i x.num) = s.all.countP (borP i x.num) by omega]
 refine hl i (cut_len2 ▸ hi) x ?_
 rw [cut_en hw] at hx
 split at hx
 ·rename_i q
  subst q
  exact (List.mem_filter.1 hx).1
 ·exact hx
theorem moved_good {s : Shelf} (h : s.good) {who num : Int} {q to : Nat} (hw : who.toNat < s.tables.length) (hto : to < s.tables.length) (hq : q < (s.en who.toNat).length) (hn : ((s.en who.toNat).getD q default).num = num) (ho : ((s.en who.toNat).getD q default).own = true) (h0 : ((s.en who.toNat).getD q default).lends = 0) (hf : ¬ s.fullB to) : (s.movedTo who num q to).good := by
 obtain ⟨hH, hL⟩ := good_H h
 subst hn
 have he := getD_mem (l := s.en who.toNat) hq
 have hb := bare_of hL hw he h0
 have h1 := cut_H0 hH.h0 hw hb
 have h2 := cut_Lds hH.h0 hL hw he ho
 have hto' : to < (s.cut who.toNat ((s.en who.toNat).getD q default).num).tables.length := by rw [cut_len2]; exact hto
 have hca := cut_at (s := s) (w := who.toNat) (j := to) (num := ((s.en who.toNat).getD q default).num)
 have hf' : ¬ (s.cut who.toNat ((s.en who.toNat).getD q default).num).fullB to := by
  unfold Shelf.fullB at *
  rw [hca.2]
  have := hca.1
  omega
 have h3 := put_H0 h1 hto' (e := ⟨0, ((s.en who.toNat).getD q default).id, true, 0, 0, 0, 0⟩) hf' (show ∃ x ∈ s.things, x.id = ((s.en who.toNat).getD q default).id from hH.thing _ hw _ he) ⟨rfl, rfl, rfl⟩ (fun q => by cases q)
 refine H_good (h3.full fun x hx => ?_) (put_Lds h1 h2 hto' rfl rfl)
 rw [put_count hto']
 have hc := cut_count hH.h0 hw he (p := owsP x.id)
 have hx1 := hH.own x hx
 have : owsP x.id ((s.en who.toNat).getD q default) = owsP x.id { (⟨0, ((s.en who.toNat).getD q default).id, true, 0, 0, 0, 0⟩ : Entry) with num := ((s.cut who.toNat ((s.en who.toNat).getD q default).num).tables.getD to default).next } := by
  unfold owsP
  rw [ho]
 rw [← this]
 omega
theorem dropped_good {s : Shelf} (h : s.good) {w : Nat} (hw : w < s.tables.length) {e : Entry} (he : e ∈ s.en w) (ho : e.own = true) (h0 : e.lends = 0) : ((s.cut w e.num).cutT e.id).good := by
 obtain ⟨hH, hL⟩ := good_H h
 have hb := bare_of hL hw he h0
 have hO := del_orig2 hH.h0 hb
 have hLd : ((s.cut w e.num).cutT e.id).Lds := cut_Lds hH.h0 hL hw he ho
 have hno : ∀ j, j < s.tables.length → ∀ o ∈ s.en j, delE (fun _ _ => true) w e.num j o = true → o.own = true → o.id = e.id → False := by
  intro j hj o hoj hK h1 h2
  obtain ⟨x, hx, hxe⟩ := hH.thing w hw e he
  have hc := cut_count hH.h0 hw he (p := owsP x.id)
  rw [hH.own x hx, if_pos (by unfold owsP; rw [ho, hxe]; simp)] at hc
  have hz : (s.cut w e.num).all.countP (owsP x.id) = 0 := by omega
  rw [List.countP_eq_zero] at hz
  have hm : o ∈ (s.cut w e.num).en j := by
   rw [cut_en hw]
   split
   ·rename_i q
    subst q
    refine List.mem_filter.2 ⟨hoj, ?_⟩
    unfold delE at hK
    simpa using hK
   ·exact hoj
  obtain ⟨k, hk⟩ := List.getElem?_of_mem hm
  have hkl := (List.getElem?_eq_some_iff.1 hk).1
  have hke : ((s.cut w e.num).tables.getD j default).entries.getD k default = o := by rw [List.getD_eq_getElem?_getD]; unfold Shelf.en at hk; rw [hk]; rfl
  refine hz o (hke ▸ mem_all (by rw [cut_len2]; exact hj) hkl) ?_
  unfold owsP
  rw [h1, hxe, h2]
  simp
 have hk : ((s.cut w e.num).cutT e.id).H := by
  rw [cut_keep hw]
  refine keep_H (s := s) (T := cutX e.id s.things) hH List.filter_sublist hO (fun i hi x hx hK => ?_) fun x hx i hi x' hx' h1 h2 => ?_
  ·obtain ⟨n, hn⟩ := hH.ends i hi x hx
   obtain ⟨j, o, a1, a2, a3, a4, a5⟩ := root hO n i x hi hx hK hn
   obtain ⟨y, hy, hye⟩ := hH.thing i hi x hx
   refine ⟨y, List.mem_filter.2 ⟨hy, ?_⟩, hye⟩
   simp only [idP, Bool.not_eq_true', decide_eq_false_iff_not]
   intro q
   exact hno j a1 o a2 a3 a4 (by rw [a5, ← hye, q])
  ·have hx2 := (List.mem_filter.1 hx).2
   simp only [idP, Bool.not_eq_true', decide_eq_false_iff_not] at hx2
   unfold delE
   rw [Bool.true_and, Bool.not_eq_true']
   cases hc : (Nat.beq i w && numP e.num x') with
   | false => rfl
   | true =>
    exfalso
    rw [Bool.and_eq_true] at hc
    have e1 := Nat.eq_of_beq_eq_true hc.1
    subst e1
    have e2 : x'.num = e.num := by simpa [numP] using hc.2
    have h3 := filter_one (hH.nums i hi) hx' rfl
    have h4 := filter_one (hH.nums i hi) he e2.symm
    rw [h3] at h4
    injection h4 with h5 _
    subst h5
    exact hx2 h2.symm
 exact H_good hk hLd
def lendF (w : Nat) (num v : Int) : Nat → Entry → Entry := fun i e => if i = w ∧ e.num = num then { e with lends := v } else e
theorem setL_same {s : Shelf} {w : Nat} (hn : (s.en w).Pairwise fun a b => a.num < b.num) {k : Nat} (hw : w < s.tables.length) (hk : k < (s.en w).length) (v : Int) : s.Same (s.setL w k v) (lendF w ((s.en w).getD k default).num v) := by
 have hen : ∀ i, (s.setL w k v).en i = if i = w then setLd (s.en w) k v else s.en i := fun i => by
  unfold Shelf.en Shelf.setL
  rw [setE_at hw]
  split <;> rfl
 refine ⟨rfl, rfl, setE_len, fun i hi => setL_at.2, fun i hi => ?_, fun i e => ?_⟩
 ·rw [hen]
  split
  ·rename_i q
   subst q
   refine list_ext (by rw [setLd_len, List.length_map]) fun j hj => ?_
   rw [setLd_len] at hj
   unfold setLd
   rw [getD_set hk]
   have hm : ((s.en i).map (lendF i ((s.en i).getD k default).num v i)).getD j default = lendF i ((s.en i).getD k default).num v i ((s.en i).getD j default) := by
    simp only [List.getD_eq_getElem?_getD, List.getElem?_map, List.getElem?_eq_getElem hj, Option.map_some, Option.getD_some]
   rw [hm]
   unfold lendF
   split
   ·rename_i q
    subst q
    rw [if_pos ⟨rfl, rfl⟩]
   ·rename_i q
    rw [if_neg]
    rintro ⟨_, e⟩
    rw [List.pairwise_iff_getElem] at hn
    rw [List.getD_eq_getElem?_getD, List.getElem?_eq_getElem hj, List.getD_eq_getElem?_getD, List.getElem?_eq_getElem hk] at e
    dsimp only [Option.getD_some] at e
    rcases Nat.lt_trichotomy j k with c | c | c
    ·have := hn j k hj hk c; omega
    ·exact q c
    ·have := hn k j hk hj c; omega
  ·rename_i q
   have : lendF w ((s.en w).getD k default).num v i = id := by funext e; unfold lendF; rw [if_neg fun c => q c.1]; rfl
   rw [this, List.map_id]
 ·unfold lendF
  split <;> exact ⟨rfl, rfl, rfl, rfl, rfl, rfl⟩
theorem at_one {s : Shelf} (h : s.H0) {who : Int} (hw : 0 ≤ who ∧ who < (s.tables.length : Int)) {e : Entry} (he : e ∈ s.en who.toNat) : s.at_ who e.num = some e := by
 rw [at_eq, if_pos (by simpa [Shelf.isT] using hw), ← List.head?_filter]
 have := filter_one (h.nums who.toNat (by omega)) he rfl
 unfold Shelf.en at this
 rw [this]
 rfl
theorem lent_good {s : Shelf} (h : s.good) {who num scope : Int} {q to : Nat} (hw : 0 ≤ who ∧ who < (s.tables.length : Int)) (hto : to < s.tables.length) (hq : q < (s.en who.toNat).length) (hn : ((s.en who.toNat).getD q default).num = num) (hs : 1 ≤ scope ∧ scope ≤ 1000000) (hf : ¬ s.fullB to) : (s.lentTo who num q to scope).good := by
 obtain ⟨hH, hL⟩ := good_H h
 subst hn
 have hw2 : who.toNat < s.tables.length := by omega
 have he := getD_mem (l := s.en who.toNat) hq
 have hS := setL_same (hH.nums _ hw2) hw2 hq (IntKind.i64.wrap (((s.tables.getD who.toNat default).entries.getD q default).lends + 1))
 have hH1 := hS.H hH
 have hto' : to < (s.setL who.toNat q (IntKind.i64.wrap (((s.tables.getD who.toNat default).entries.getD q default).lends + 1))).tables.length := by rw [hS.len]; exact hto
 have hat := at_one hH.h0 hw he
 have hf' : ¬ (s.setL who.toNat q (IntKind.i64.wrap (((s.tables.getD who.toNat default).entries.getD q default).lends + 1))).fullB to := by
  unfold Shelf.fullB at *
  rw [setL_at.1, setL_at.2]
  exact hf
 obtain ⟨n, hn⟩ := hH.ends _ hw2 _ he
 have hlends := hL _ hw2 _ he
 have hwrap : IntKind.i64.wrap (((s.en who.toNat).getD q default).lends + 1) = ((s.all.countP (borP who.toNat ((s.en who.toNat).getD q default).num) + 1 : Nat) : Int) := by
  rw [hlends]
  exact wrap_small (by have := List.countP_le_length (p := borP who.toNat ((s.en who.toNat).getD q default).num) (l := s.all); have := H_small hH; omega)
 have h3 := put_H0 hH1.h0 hto' (e := ⟨0, ((s.tables.getD who.toNat default).entries.getD q default).id, false, 0, scope, who, ((s.en who.toNat).getD q default).num⟩) hf' (by
   rw [hS.th]
   exact (show ∃ x ∈ s.things, x.id = ((s.en who.toNat).getD q default).id from hH.thing _ hw2 _ he)) (by unfold Entry.plain; rw [if_neg (show ¬ false = true from Bool.false_ne_true)]; exact hs) (fun _ => ⟨lendF who.toNat ((s.en who.toNat).getD q default).num (IntKind.i64.wrap (((s.tables.getD who.toNat default).entries.getD q default).lends + 1)) who.toNat ((s.en who.toNat).getD q default), n, by rw [hS.at]; show (s.at_ who ((s.en who.toNat).getD q default).num).map _ = _; rw [hat]; rfl, (hS.eq _ _).2.1, by rw [hS.sEnds]; exact hn⟩)
 have hown : ∀ id, (s.lentTo who ((s.en who.toNat).getD q default).num q to scope).all.countP (owsP id) = s.all.countP (owsP id) := fun id => by
  unfold Shelf.lentTo
  rw [put_count hto', hS.count fun i e => by unfold owsP; rw [(hS.eq i e).2.1, (hS.eq i e).2.2.1], if_neg (by unfold owsP; simp)]
  omega
 have hbor : ∀ a b, (s.lentTo who ((s.en who.toNat).getD q default).num q to scope).all.countP (borP a b) = s.all.countP (borP a b) + (if who = a ∧ ((s.en who.toNat).getD q default).num = b then 1 else 0) := fun a b => by
  unfold Shelf.lentTo
  rw [put_count hto', hS.count fun i e => by unfold borP; rw [(hS.eq i e).2.2.1, (hS.eq i e).2.2.2.2.1, (hS.eq i e).2.2.2.2.2]]
  congr 1
  unfold borP
  simp only [Bool.not_false, Bool.true_and, decide_eq_true_eq]
 refine H_good (h3.full fun x hx => ?_) fun i hi x hx => ?_
 ·have := hown x.id
  unfold Shelf.lentTo at this
  rw [this]
  exact hH.own x (hS.th ▸ hx)
 ·have hi' : i < s.tables.length := by
   have : (s.lentTo who ((s.en who.toNat).getD q default).num q to scope).tables.length = s.tables.length := by unfold Shelf.lentTo; rw [put_len2, hS.len]
   omega
  rw [hbor]
  have hold : ∀ y ∈ (s.setL who.toNat q (IntKind.i64.wrap (((s.tables.getD who.toNat default).entries.getD q default).lends + 1))).en i, y.lends = ((s.all.countP (borP i y.num) + (if who = (i : Int) ∧ ((s.en who.toNat).getD q default).num = y.num then 1 else 0) : Nat) : Int) := by
   intro y hy
   rw [hS.en i hi', List.mem_map] at hy
   obtain ⟨z, hz, rfl⟩ := hy
   rw [(hS.eq i z).1]
   have hzl := hL i hi' z hz
   unfold lendF
   by_cases c : i = who.toNat ∧ z.num = ((s.en who.toNat).getD q default).num
   ·rw [if_pos c, if_pos ⟨by omega, c.2.symm⟩]
    show IntKind.i64.wrap _ = _
    rw [c.1, c.2]
    exact hwrap
   ·rw [if_neg c, if_neg (fun d => c ⟨by omega, d.2.symm⟩), hzl]
    rfl
  have hx' : x ∈ ((s.setL who.toNat q (IntKind.i64.wrap (((s.tables.getD who.toNat default).entries.getD q default).lends + 1))).put to ⟨0, ((s.tables.getD who.toNat default).entries.getD q default).id, false, 0, scope, who, ((s.en who.toNat).getD q default).num⟩).en i := hx
  rw [put_en hto'] at hx'
  split at hx'
  ·rename_i c
   subst c
   rcases List.mem_append.1 hx' with d | d
   ·exact hold x d
   ·rw [List.mem_singleton] at d
    subst d
    rw [hS.tn i hi']
    have h0 := fresh_none hH.h0 hi'
    rw [h0, if_neg]
    ·rfl
    ·rintro ⟨c1, c2⟩
     have h5 := (hH.num _ hw2 _ he).2
     have h6 : who.toNat = i := by omega
     rw [h6] at h5 c2
     have c3 : ((s.en i).getD q default).num = (s.tables.getD i default).next := c2
     omega
  ·exact hold x hx'
theorem unlent_good {s : Shelf} (h : s.good) {w f p : Nat} (hw : w < s.tables.length) {e : Entry} (he : e ∈ s.en w) (ho : e.own = false) (h0 : e.lends = 0) (hf : e.from_ = (f : Int)) (hfl : f < s.tables.length) (hp : p < ((s.cut w e.num).en f).length) (hn : (((s.cut w e.num).en f).getD p default).num = e.fromNum) : ((s.cut w e.num).setL f p (IntKind.i64.wrap ((((s.cut w e.num).en f).getD p default).lends - 1))).good := by
 obtain ⟨hH, hL⟩ := good_H h
 have hfl1 : f < (s.cut w e.num).tables.length := by rw [cut_len2]; exact hfl
 have h1 : (s.cut w e.num).H := (cut_H0 hH.h0 hw (bare_of hL hw he h0)).full fun x hx => by
  have hc := cut_count hH.h0 hw he (p := owsP x.id)
  rw [if_neg (by unfold owsP; rw [ho]; simp)] at hc
  have := hH.own x hx
  omega
 have hS := setL_same (h1.nums f hfl1) hfl1 hp (IntKind.i64.wrap ((((s.cut w e.num).en f).getD p default).lends - 1))
 have hsub : ∀ i, ∀ z ∈ (s.cut w e.num).en i, z ∈ s.en i := fun i z hz => by
  rw [cut_en hw] at hz
  split at hz
  ·rename_i q
   subst q
   exact (List.mem_filter.1 hz).1
  ·exact hz
 have hbor : ∀ a b, s.all.countP (borP a b) = (s.cut w e.num).all.countP (borP a b) + (if (f : Int) = a ∧ e.fromNum = b then 1 else 0) := fun a b => by
  rw [← cut_count hH.h0 hw he (p := borP a b)]
  congr 1
  unfold borP
  rw [ho, hf]
  simp only [Bool.not_false, Bool.true_and, decide_eq_true_eq]
 refine H_good (hS.H h1) fun i hi x hx => ?_
 have hi1 : i < (s.cut w e.num).tables.length := by rw [← hS.len]; exact hi
 have hi' : i < s.tables.length := by rw [← cut_len2]; exact hi1
 rw [hS.count fun i e => by unfold borP; rw [(hS.eq i e).2.2.1, (hS.eq i e).2.2.2.2.1, (hS.eq i e).2.2.2.2.2]]
 rw [hS.en i hi1, List.mem_map] at hx
 obtain ⟨z, hz, rfl⟩ := hx
 rw [(hS.eq i z).1]
 have hzl := hL i hi' z (hsub i z hz)
 have hb := hbor i z.num
 unfold lendF
 by_cases c : i = f ∧ z.num = (((s.cut w e.num).en f).getD p default).num
 ·rw [if_pos c]
  show IntKind.i64.wrap ((((s.cut w e.num).en f).getD p default).lends - 1) = _
  have hpl := hL f hfl _ (hsub f _ (getD_mem hp))
  rw [hn] at c hpl
  rw [if_pos ⟨by omega, by omega⟩] at hb
  have hle := List.countP_le_length (p := borP i z.num) (l := s.all)
  have hsm := H_small hH
  rw [hpl, show s.all.countP (borP f e.fromNum) = s.all.countP (borP i z.num) by rw [c.1, c.2], wrap_in (by omega) (by omega)]
  omega
 ·rw [if_neg c]
  rw [hn] at c
  rw [if_neg (fun d => c ⟨by omega, d.2.symm⟩)] at hb
  rw [hzl, hb]
  rfl
theorem new_good {n : Nat} (h1 : 1 ≤ n) (h7 : n ≤ 7) : (⟨1, List.replicate n ⟨1, []⟩, []⟩ : Shelf).good := by
 have hl : (⟨1, List.replicate n ⟨1, []⟩, []⟩ : Shelf).tables.length = n := List.length_replicate
 have ht : ∀ i, i < n → (⟨1, List.replicate n ⟨1, []⟩, []⟩ : Shelf).tables.getD i default = ⟨1, []⟩ := fun i hi => by
  show (List.replicate n (⟨1, []⟩ : Table)).getD i default = _
  rw [List.getD_eq_getElem?_getD, List.getElem?_replicate, if_pos hi]
  rfl
 have he : ∀ i, i < n → (⟨1, List.replicate n ⟨1, []⟩, []⟩ : Shelf).en i = [] := fun i hi => by unfold Shelf.en; rw [ht i hi]
 have no : ∀ {P : Prop} {i : Nat} {e : Entry}, i < (⟨1, List.replicate n ⟨1, []⟩, []⟩ : Shelf).tables.length → e ∈ (⟨1, List.replicate n ⟨1, []⟩, []⟩ : Shelf).en i → P := fun {P i e} hi hm => by
  rw [he i (hl ▸ hi)] at hm
  cases hm
 refine H_good ⟨⟨Int.le_refl _, by show (1 : Int) ≤ 1000000; decide⟩, by rw [hl]; omega, List.Pairwise.nil, fun x hx => (by cases hx), Nat.zero_le _, fun i hi => by rw [he i (hl ▸ hi)]; exact List.Pairwise.nil, fun i hi e hm => no hi hm, fun i hi => ?_, fun i hi e hm => no hi hm, fun i hi e hm => no hi hm, fun i hi e hm => no hi hm, fun x hx => (by cases hx)⟩ fun i hi e hm => no hi hm
 rw [he i (hl ▸ hi), ht i (hl ▸ hi)]
 exact ⟨⟨Int.le_refl _, by show (1 : Int) ≤ 1000000; decide⟩, Nat.zero_le _⟩
end Go.Proofs.YtmglpojnoadgeaaGreat
