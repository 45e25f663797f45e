/- Texts for VHandlesOneP. -/
import Derived.Test.YtmglpojnoadgeaaGreatVo30
namespace Go.Proofs.YtmglpojnoadgeaaGreat
open Go Go.RowKit
set_option linter.unusedVariables false
set_option linter.unusedSimpArgs false
set_option maxRecDepth 8000
set_option maxHeartbeats 2000000 in
theorem l19Drop_none (s : Shelf) (h : s.ok) (who num : Int) (hg : s.good) (hw : 0 ≤ who ∧ who < (s.tables.length : Int)) (hE : s.at_ who num = none) : RetM env.P 48 [some (boxRow s.csO)] [.ptr 0 0 0, .i .i64 who, .i .i64 num] (fun r H => r = .tup [.agg [.i .i64 0, .i .i64 0, .i .i64 0], .i .i64 11] ∧ H = [some (boxRow s.csO)]) := by
 have hl : s.tables.length ≤ 1048576 := h.1.1
 have hw2 : who.toNat < s.tables.length := by omega
 have h7 := hg.2.1.2
 have he := entLe h who.toNat
 refine ret_ofM (nt := 63) (rvs := [.cell 6 37, .tmp 7]) Tryz.func48 rfl rfl rfl rfl (fun X hX => ?_)
 repeat' (first | exact aa | ((conv => whnf) <;> (first | ((first | refine .inl ⟨_, Ret.wka (l19At_ok s h who num), ?_⟩ | refine ⟨_, Ret.wka (l19At_ok s h who num), ?_⟩); (try rintro _ rfl); rw [hE]; simp only [entR]) | refine And.intro ?_ ?_ | (intro _h; first | contradiction | (try simp only [dd] at _h)) | (refine dt_go ?_) | exact rfl | exact True.intro | exact dkk | exact dks | (refine wrap_succ ?_; omega))))
 all_goals (first | contradiction | skip)
 all_goals (conv => whnf)
 all_goals exact endM_pick [0] [some (boxRow (s).csO)] (.tup [.agg [.i .i64 0, .i .i64 0, .i .i64 0], .i .i64 11]) (view_of rfl (.cons rfl (.self (rowPl_box rfl)) .nil)) rfl rfl (by rw [hX]; exact keepK (n := 1) rfl rfl) ⟨rfl, rfl⟩
set_option maxHeartbeats 2000000 in
theorem l19Drop_lent (s : Shelf) (h : s.ok) (who num : Int) (hg : s.good) (hw : 0 ≤ who ∧ who < (s.tables.length : Int)) (n i ld sc fr fn : Int) (ow : Bool) (hE : s.at_ who num = some ⟨n, i, ow, ld, sc, fr, fn⟩) (hl0 : 0 < ld) : RetM env.P 48 [some (boxRow s.csO)] [.ptr 0 0 0, .i .i64 who, .i .i64 num] (fun r H => r = .tup [.agg [.i .i64 0, .i .i64 0, .i .i64 0], .i .i64 12] ∧ H = [some (boxRow s.csO)]) := by
 have hl : s.tables.length ≤ 1048576 := h.1.1
 have hw2 : who.toNat < s.tables.length := by omega
 have h7 := hg.2.1.2
 have he := entLe h who.toNat
 refine ret_ofM (nt := 63) (rvs := [.cell 6 37, .tmp 7]) Tryz.func48 rfl rfl rfl rfl (fun X hX => ?_)
 repeat' (first | exact aa | ((conv => whnf) <;> (first | ((first | refine .inl ⟨_, Ret.wka (l19At_ok s h who num), ?_⟩ | refine ⟨_, Ret.wka (l19At_ok s h who num), ?_⟩); (try rintro _ rfl); rw [hE]; simp only [entR]) | refine And.intro ?_ ?_ | (intro _h; first | contradiction | (try simp only [dd] at _h)) | (refine dt_go ?_) | exact rfl | exact True.intro | exact dkk | exact dks | (refine wrap_succ ?_; omega))))
 all_goals (first | contradiction | (dsimp only; omega) | (exfalso; omega) | skip)
 all_goals (conv => whnf)
 all_goals exact endM_pick [0] [some (boxRow (s).csO)] (.tup [.agg [.i .i64 0, .i .i64 0, .i .i64 0], .i .i64 12]) (view_of rfl (.cons rfl (.self (rowPl_box rfl)) .nil)) rfl rfl (by rw [hX]; exact keepK (n := 1) rfl rfl) ⟨rfl, rfl⟩
set_option maxHeartbeats 2000000 in
theorem l19Drop_own (s : Shelf) (h : s.ok) (who num : Int) (hg : s.good) (hw : 0 ≤ who ∧ who < (s.tables.length : Int)) (n i ld sc fr fn : Int) (hE : s.at_ who num = some ⟨n, i, true, ld, sc, fr, fn⟩) (hl0 : ¬ 0 < ld) : RetM env.P 48 [some (boxRow s.csO)] [.ptr 0 0 0, .i .i64 who, .i .i64 num] (fun r H => r = .tup [.agg (lastX i s.things).cs, .i .i64 0] ∧ H = [some (boxRow ((s.cut who.toNat num).cutT i).csO)]) := by
 have hl : s.tables.length ≤ 1048576 := h.1.1
 have hw2 : who.toNat < s.tables.length := by omega
 have h7 := hg.2.1.2
 have he := entLe h who.toNat
 refine ret_ofM (nt := 63) (rvs := [.cell 6 37, .tmp 7]) Tryz.func48 rfl rfl rfl rfl (fun X hX => ?_)
 repeat' (first | exact aa | ((conv => whnf) <;> (first | ((first | refine .inl ⟨_, Ret.wka (l19At_ok s h who num), ?_⟩ | refine ⟨_, Ret.wka (l19At_ok s h who num), ?_⟩); (try rintro _ rfl); rw [hE]; simp only [entR]) | refine And.intro ?_ ?_ | (intro _h; first | contradiction | (try simp only [dd] at _h)) | (refine dt_go ?_) | exact rfl | exact True.intro | exact dkk | exact dks | (refine .inr (.inl (.inl ⟨[0], _, _, _, l19Cut_ok s h who num hw h7, viewA, ⟨rfl, rfl⟩, ?_⟩)); rintro _ _ ⟨rfl, rfl⟩; refine ⟨rfl, _, lokA, ?_⟩) | (refine .inr (.inl (.inl ⟨[0], _, _, _, l19CutThing_ok (s.cut who.toNat num) (cut_ok h) _, viewA, ⟨rfl, rfl⟩, ?_⟩)); rintro _ _ ⟨rfl, rfl⟩; refine ⟨rfl, _, lokA, ?_⟩) | (refine wrap_succ ?_; omega))))
 all_goals (first | contradiction | (dsimp only; omega) | (exfalso; omega) | skip)
 all_goals (conv => whnf)
 all_goals exact endM_pick [0] [some (boxRow ((s.cut who.toNat num).cutT i).csO)] (.tup [.agg (lastX i s.things).cs, .i .i64 0]) (view_of rfl (.cons rfl (.self (rowPl_box rfl)) .nil)) rfl rfl (by rw [hX]; exact keepK (n := 1) rfl rfl) ⟨rfl, rfl⟩
set_option maxHeartbeats 2000000 in
theorem l19Drop_borS (s : Shelf) (h : s.ok) (who num : Int) (hg : s.good) (hw : 0 ≤ who ∧ who < (s.tables.length : Int)) (n i ld sc fr fn : Int) (hE : s.at_ who num = some ⟨n, i, false, ld, sc, fr, fn⟩) (hl0 : ¬ 0 < ld) (hf : 0 ≤ fr ∧ fr < (s.tables.length : Int)) (p : Nat) (hp : ((s.cut who.toNat num).tables.getD fr.toNat default).find fn = some p) : RetM env.P 48 [some (boxRow s.csO)] [.ptr 0 0 0, .i .i64 who, .i .i64 num] (fun r H => r = .tup [.agg [.i .i64 0, .i .i64 0, .i .i64 0], .i .i64 0] ∧ H = [some (boxRow ((s.cut who.toNat num).setL fr.toNat p (IntKind.i64.wrap ((((s.cut who.toNat num).tables.getD fr.toNat default).entries.getD p default).lends - 1))).csO)]) := by
 have hl : s.tables.length ≤ 1048576 := h.1.1
 have hw2 : who.toNat < s.tables.length := by omega
 have h7 := hg.2.1.2
 have he := entLe h who.toNat
 have hlc : (s.cut who.toNat num).tables.length = s.tables.length := setE_len
 have hlc1 : (s.cut who.toNat num).tables.length ≤ 1048576 := by rw [hlc]; exact hl
 have hk2 : fr.toNat < (s.cut who.toNat num).tables.length := by rw [hlc]; omega
 have hlt : p < ((s.cut who.toNat num).tables.getD fr.toNat default).entries.length := (find_lt hp).1
 have hec : ((s.cut who.toNat num).tables.getD fr.toNat default).entries.length ≤ 1048576 := entLe (cut_ok h) _
 refine ret_ofM (nt := 63) (rvs := [.cell 6 37, .tmp 7]) Tryz.func48 rfl rfl rfl rfl (fun X hX => ?_)
 repeat' (first | exact aa | ((conv => whnf) <;> (first | ((first | refine .inl ⟨_, Ret.wka (l19At_ok s h who num), ?_⟩ | refine ⟨_, Ret.wka (l19At_ok s h who num), ?_⟩); (try rintro _ rfl); rw [hE]; simp only [entR]) | ((first | refine .inl ⟨_, Ret.wka (l19Entry_ok _ ((cut_ok h).1.2 fr.toNat hk2) fn), ?_⟩ | refine ⟨_, Ret.wka (l19Entry_ok _ ((cut_ok h).1.2 fr.toNat hk2) fn), ?_⟩); (try rintro _ rfl); rw [hp]; simp only [idxI]) | (refine dt_goN [0] rfl ?_) | (refine dt_goM [4] ?_) | (refine ld_skip rfl rfl rfl rfl upd_self ?_) | (refine bool_skip any_self ?_) | (first | rw [ld_self rfl] | rw [ld_selfA rfl]) | refine And.intro ?_ ?_ | (intro _h; first | contradiction | (try simp only [dd] at _h)) | (refine dt_go ?_) | exact rfl | exact True.intro | exact dkk | exact dks | (refine .inr (.inl (.inl ⟨[0], _, _, _, l19Cut_ok s h who num hw h7, viewA, ⟨rfl, rfl⟩, ?_⟩)); rintro _ _ ⟨rfl, rfl⟩; refine ⟨rfl, _, lokA, ?_⟩) | (refine wrap_succ ?_; omega))))
 all_goals (first | contradiction | (dsimp only; omega) | (exfalso; omega) | skip)
 all_goals (conv => whnf)
 all_goals refine endM_turn (by exact turn_close (id := 3) (i := fr.toNat) (j := 1) (id' := 4) rfl hk2 (show 1 < 2 by decide) (by exact upd_self) rfl (show 3 ≠ 4 by decide) rfl (by exact setLd_rowO (Nat.le_refl _))) ?_
 all_goals refine endM_turn (by exact turn_eq (id := 3) (x := rowL 2 Table.csO ((s.cut who.toNat num).setE fr.toNat (setLd ((s.cut who.toNat num).tables.getD fr.toNat default).entries p (IntKind.i64.wrap ((((s.cut who.toNat num).tables.getD fr.toNat default).entries.getD p default).lends - 1)))).tables) rfl rfl setE_len rfl rfl (setE_rows (l := (setLd ((s.cut who.toNat num).tables.getD fr.toNat default).entries p (IntKind.i64.wrap ((((s.cut who.toNat num).tables.getD fr.toNat default).entries.getD p default).lends - 1)))) hk2 setLd_len.symm (setLd_rows hlt))) ?_
 all_goals refine endM_turn (by exact turn_close (id := 0) (i := 0) (j := 1) (id' := 3) rfl (show 0 < 1 by decide) (show 1 < 3 by decide) rfl rfl (show 0 ≠ 3 by decide) rfl (rowO_le (Nat.le_of_eq setE_len.symm))) ?_
 all_goals refine endM_turn (by exact turn_box (id := 0) (ds := ((s.cut who.toNat num).setE fr.toNat (setLd ((s.cut who.toNat num).tables.getD fr.toNat default).entries p (IntKind.i64.wrap ((((s.cut who.toNat num).tables.getD fr.toNat default).entries.getD p default).lends - 1)))).csO) rfl rfl rfl (.cons (.refl _) (.cons (OwEq.len setE_len.symm (fun i j _ _ => HoldC.h _ j) (fun i j _ _ => .refl _)) (.cons (.refl _) .nil)))) ?_
 all_goals exact endM_pick [0] [some (boxRow (((s.cut who.toNat num).setL fr.toNat p (IntKind.i64.wrap ((((s.cut who.toNat num).tables.getD fr.toNat default).entries.getD p default).lends - 1)))).csO)] (.tup [.agg [.i .i64 0, .i .i64 0, .i .i64 0], .i .i64 0]) (view_of rfl (.cons rfl (.self (rowPl_box rfl)) .nil)) rfl rfl (by rw [hX]; exact keepK (n := 1) rfl rfl) ⟨rfl, rfl⟩
set_option maxHeartbeats 2000000 in
theorem originO_some (s : Shelf) (h : s.ok) (e : Entry) (hf : 0 ≤ e.from_ ∧ e.from_ < (s.tables.length : Int)) (q : Nat) (hq : (s.tables.getD e.from_.toNat default).find e.fromNum = some q) : RetM env.P 83 [some (boxRow s.csO)] [.ptr 0 0 0, .agg e.cs] (fun r H => r = .ptr 2 q 0 ∧ H = s.opened e.from_.toNat) := by
 refine ret_ofM (nt := 11) (rvs := [.tmp 4]) Tryz.func83 rfl rfl rfl rfl (fun X hX => ?_)
 repeat' (first | exact aa | ((conv => whnf) <;> (first | (refine .inr (.inl (.inl ⟨[0], _, _, _, entryO_some s h e.from_ e.fromNum hf q hq, (view_of rfl (.cons rfl (.self (rowPl_box rfl)) .nil)), ⟨rfl, rfl⟩, ?_⟩)); rintro _ _ ⟨rfl, rfl⟩; refine ⟨rfl, _, lok_open, ?_⟩) | refine And.intro ?_ ?_ | (intro _h; first | contradiction | (try simp only [dd] at _h)) | (refine dt_go ?_) | exact rfl | exact True.intro | exact dkk | exact dks | (refine wrap_succ ?_; omega))))
 all_goals (conv => whnf)
 all_goals exact endM_pick [0, 2, 3, 4] (s.opened e.from_.toNat) (.ptr 2 q 0) (view_open rfl rfl rfl rfl rfl) rfl rfl (by rw [hX]; exact keepK (n := 1) rfl rfl) ⟨rfl, rfl⟩
set_option maxHeartbeats 2000000 in
theorem drop_none (s : Shelf) (h : s.ok) (who num : Int) (hg : s.good) (hw : 0 ≤ who ∧ who < (s.tables.length : Int)) (hE : s.at_ who num = none) : RetM env.P 45 [some (boxRow s.csO)] [.ptr 0 0 0, .i .i64 who, .i .i64 num] (fun r H => r = .tup [.agg [.i .i64 0, .i .i64 0, .i .i64 0], .i .i64 11] ∧ H = [some (boxRow s.csO)]) := by
 have hl : s.tables.length ≤ 1048576 := h.1.1
 have hw2 : who.toNat < s.tables.length := by omega
 have h7 := hg.2.1.2
 have he := entLe h who.toNat
 refine ret_ofM (nt := 73) (rvs := [.cell 6 37, .tmp 7]) Tryz.func45 rfl rfl rfl rfl (fun X hX => ?_)
 repeat' (first | exact aa | ((conv => whnf) <;> (first | refine And.intro ?_ ?_ | (intro _h; first | contradiction | (try simp only [dd] at _h)) | (refine dt_go ?_) | exact rfl | exact True.intro | exact dkk | exact dks | (refine .inr (.inl (.inl ⟨[0], _, _, _, entryO_none s h who num hw hE, viewA, ⟨rfl, rfl⟩, ?_⟩)); rintro _ _ ⟨rfl, rfl⟩; refine ⟨rfl, _, lokA, ?_⟩) | (refine wrap_succ ?_; omega))))
 all_goals (first | contradiction | skip)
 all_goals (conv => whnf)
 all_goals exact endM_pick [0] [some (boxRow (s).csO)] (.tup [.agg [.i .i64 0, .i .i64 0, .i .i64 0], .i .i64 11]) (view_of rfl (.cons rfl (.self (rowPl_box rfl)) .nil)) rfl rfl (by rw [hX]; exact keepK (n := 1) rfl rfl) ⟨rfl, rfl⟩
set_option maxHeartbeats 2000000 in
theorem drop_lent (s : Shelf) (h : s.ok) (who num : Int) (hg : s.good) (hw : 0 ≤ who ∧ who < (s.tables.length : Int)) (q : Nat) (hq : (s.tables.getD who.toNat default).find num = some q) (hl0 : ¬ ((s.tables.getD who.toNat default).entries.getD q default).lends = 0) : RetM env.P 45 [some (boxRow s.csO)] [.ptr 0 0 0, .i .i64 who, .i .i64 num] (fun r H => r = .tup [.agg [.i .i64 0, .i .i64 0, .i .i64 0], .i .i64 12] ∧ H = [some (boxRow s.csO)]) := by
 have hl : s.tables.length ≤ 1048576 := h.1.1
 have hw2 : who.toNat < s.tables.length := by omega
 have h7 := hg.2.1.2
 have he := entLe h who.toNat
 refine ret_ofM (nt := 73) (rvs := [.cell 6 37, .tmp 7]) Tryz.func45 rfl rfl rfl rfl (fun X hX => ?_)
 repeat' (first | exact aa | ((conv => whnf) <;> (first | (refine .inr (.inl (.inl ⟨[0], _, _, _, entryO_some s h who num hw q hq, (view_of rfl (.cons rfl (.self (rowPl_box rfl)) .nil)), ⟨rfl, rfl⟩, ?_⟩)); rintro _ _ ⟨rfl, rfl⟩; refine ⟨rfl, _, lok_open, ?_⟩) | refine And.intro ?_ ?_ | (intro _h; first | contradiction | (try simp only [dd] at _h)) | (refine dt_go ?_) | exact rfl | exact True.intro | exact dkk | exact dks | (refine wrap_succ ?_; omega))))
 all_goals (first | contradiction | (dsimp only; omega) | (exfalso; omega) | skip)
 all_goals (conv => whnf)
 all_goals refine endM_turn (turn_close (id := 2) (i := who.toNat) (j := 1) (id' := 3) rfl hw2 (show 1 < 2 by decide) (by first | exact upd_self | (simp only [upd, Nat.beq_refl]; rfl) | (simp only [Shelf.rowT, upd, Nat.beq_refl]; rfl) | exact rowT_at) rfl (show 2 ≠ 3 by decide) rfl (rowO_le (Nat.le_refl _))) ?_
 all_goals refine endM_turn (turn_eq (id := 2) (x := rowL 2 Table.csO (s.setE who.toNat (s.tables.getD who.toNat default).entries).tables) rfl rfl setE_len rfl rfl (setE_rows (l := (s.tables.getD who.toNat default).entries) hw2 rfl (fun i j _ _ => .refl _))) ?_
 all_goals refine endM_turn (turn_close (id := 0) (i := 0) (j := 1) (id' := 2) rfl (show 0 < 1 by decide) (show 1 < 3 by decide) rfl rfl (show 0 ≠ 2 by decide) rfl (rowO_le (Nat.le_of_eq setE_len.symm))) ?_
 all_goals refine endM_turn (turn_close (id := 0) (i := 0) (j := 2) (id' := 4) rfl (show 0 < 1 by decide) (show 2 < 3 by decide) rfl rfl (show 0 ≠ 4 by decide) rfl (rowO_le (Nat.le_refl _))) ?_
 all_goals refine endM_turn (turn_box (id := 0) (ds := (s).csO) rfl rfl rfl (.cons (.refl _) (.cons (OwEq.len rfl (fun i j _ _ => HoldC.h _ j) (fun i j _ _ => by rw [setE_self]; exact .refl _)) (.cons (.refl _) .nil)))) ?_
 all_goals exact endM_pick [0] [some (boxRow (s).csO)] (.tup [.agg [.i .i64 0, .i .i64 0, .i .i64 0], .i .i64 12]) (view_of rfl (.cons rfl (.self (rowPl_box rfl)) .nil)) rfl rfl (by rw [hX]; exact keepK (n := 1) rfl rfl) ⟨rfl, rfl⟩
set_option maxHeartbeats 2000000 in
theorem drop_own (s : Shelf) (h : s.ok) (who num : Int) (hg : s.good) (hw : 0 ≤ who ∧ who < (s.tables.length : Int)) (q : Nat) (hq : (s.tables.getD who.toNat default).find num = some q) (ho : ((s.tables.getD who.toNat default).entries.getD q default).own = true) (hl0 : ((s.tables.getD who.toNat default).entries.getD q default).lends = 0) (qx : Nat) (hqx : s.thing ((s.tables.getD who.toNat default).entries.getD q default).id = some qx) (hqlt : qx < s.things.length) : RetM env.P 45 [some (boxRow s.csO)] [.ptr 0 0 0, .i .i64 who, .i .i64 num] (fun r H => r = .tup [.agg (s.things.getD qx default).cs, .i .i64 0] ∧ H = [some (boxRow (⟨s.next, (s.cut who.toNat num).tables, s.things.eraseIdx qx⟩ : Shelf).csO)]) := by
 have hl : s.tables.length ≤ 1048576 := h.1.1
 have hw2 : who.toNat < s.tables.length := by omega
 have h7 := hg.2.1.2
 have he := entLe h who.toNat
 have hl2 : s.things.length ≤ 1048576 := h.2.1
 have hqlt2 : qx < (s.cut who.toNat num).things.length := hqlt
 refine ret_ofM (nt := 73) (rvs := [.cell 6 37, .tmp 7]) Tryz.func45 rfl rfl rfl rfl (fun X hX => ?_)
 repeat' (first | exact aa | ((conv => whnf) <;> (first | (exfalso; have qq := ‹((s.tables.getD who.toNat default).entries.getD q default).own = false›; rw [ho] at qq; cases qq) | (refine .inr (.inl (.inl ⟨[0], _, _, _, entryO_some s h who num hw q hq, (view_of rfl (.cons rfl (.self (rowPl_box rfl)) .nil)), ⟨rfl, rfl⟩, ?_⟩)); rintro _ _ ⟨rfl, rfl⟩; refine ⟨rfl, _, lok_open, ?_⟩) | (refine .inr (.inr ⟨[some (boxRow s.csO), _, none, none, none, _], (by intro X; refine Turn.trans (turn_close (id := 2) (i := who.toNat) (j := 1) (id' := 3) rfl hw2 (show 1 < 2 by decide) (by first | exact upd_self | (simp only [upd, Nat.beq_refl]; rfl) | (simp only [Shelf.rowT, upd, Nat.beq_refl]; rfl) | exact rowT_at) rfl (show 2 ≠ 3 by decide) rfl (rowO_le (Nat.le_refl _))) ?_; refine Turn.trans (turn_eq (id := 2) (x := rowL 2 Table.csO (s.setE who.toNat (s.tables.getD who.toNat default).entries).tables) rfl rfl setE_len rfl rfl (setE_rows (l := (s.tables.getD who.toNat default).entries) hw2 rfl (fun i j _ _ => .refl _))) ?_; refine Turn.trans (turn_close (id := 0) (i := 0) (j := 1) (id' := 2) rfl (show 0 < 1 by decide) (show 1 < 3 by decide) rfl rfl (show 0 ≠ 2 by decide) rfl (rowO_le (Nat.le_of_eq setE_len.symm))) ?_; refine Turn.trans (turn_close (id := 0) (i := 0) (j := 2) (id' := 4) rfl (show 0 < 1 by decide) (show 2 < 3 by decide) rfl rfl (show 0 ≠ 4 by decide) rfl (rowO_le (Nat.le_refl _))) ?_; exact turn_box (id := 0) (ds := (s).csO) rfl rfl rfl (.cons (.refl _) (.cons (OwEq.len rfl (fun i j _ _ => HoldC.h _ j) (fun i j _ _ => by rw [setE_self]; exact .refl _)) (.cons (.refl _) .nil)))), (fun i _ q => (by cases q)), .inl ⟨[0], _, _, _, remove_ok s h who num hw h7 q hq, (view_of rfl (.cons rfl (.self (rowPl_box rfl)) .nil)), ⟨rfl, rfl⟩, ?_⟩⟩); rintro _ _ ⟨rfl, rfl⟩; refine ⟨rfl, _, (lok_pl (.cons (rowPl_box rfl) .nil)), ?_⟩) | ((first | refine .inl ⟨_, Ret.wka (thing_ok (s.cut who.toNat num) (cut_ok h) _), ?_⟩ | refine ⟨_, Ret.wka (thing_ok (s.cut who.toNat num) (cut_ok h) _), ?_⟩); (try rintro _ rfl); rw [show (s.cut who.toNat num).thing _ = some qx from hqx]; simp only [idxI]) | (refine .inr (.inl (.inl ⟨[6], _, _, _, deleteThing_ok s.things hl2 qx hqlt _ (wrap_in (by omega) (by omega)), (view_of rfl (.cons rfl (.self (rowPl_L fun _ => rfl)) .nil)), ⟨rfl, rfl⟩, ?_⟩)); rintro _ _ ⟨rfl, rfl⟩; refine ⟨rfl, _, lok_pl (.cons delX_row .nil), ?_⟩) | refine And.intro ?_ ?_ | (intro _h; first | contradiction | (try simp only [dd] at _h)) | (refine dt_go ?_) | exact rfl | exact True.intro | exact dkk | exact dks | (refine wrap_succ ?_; omega))))
 all_goals (first | contradiction | (dsimp only; omega) | (exfalso; omega) | skip)
 all_goals (conv => whnf)
 all_goals refine endM_turn (by exact turn_close (id := 0) (i := 0) (j := 2) (id' := 6) rfl (show 0 < 1 by decide) (show 2 < 3 by decide) rfl rfl (show 0 ≠ 6 by decide) rfl (by exact ⟨Nat.sub_le _ _, fun i j _ _ => delX_idf⟩)) ?_
 all_goals refine endM_turn (by exact turn_box (id := 0) (ds := (⟨s.next, (s.cut who.toNat num).tables, s.things.eraseIdx qx⟩ : Shelf).csO) rfl rfl rfl (.cons (.refl _) (.cons (.refl _) (.cons (OwEq.len (List.length_eraseIdx_of_lt hqlt).symm (fun i j _ _ => HoldC.h _ j) (fun i j hi _ => by show OwEq (delX qx s.things i j) _; unfold delX; rw [if_pos hi]; exact .refl _)) .nil)))) ?_
 all_goals exact endM_pick [0] [some (boxRow ((⟨s.next, (s.cut who.toNat num).tables, s.things.eraseIdx qx⟩ : Shelf)).csO)] (.tup [.agg (s.things.getD qx default).cs, .i .i64 0]) (view_of rfl (.cons rfl (.self (rowPl_box rfl)) .nil)) rfl rfl (by rw [hX]; exact keepK (n := 1) rfl rfl) ⟨rfl, rfl⟩
set_option maxHeartbeats 2000000 in
theorem drop_bor (s : Shelf) (h : s.ok) (who num : Int) (hg : s.good) (hw : 0 ≤ who ∧ who < (s.tables.length : Int)) (q : Nat) (hq : (s.tables.getD who.toNat default).find num = some q) (ho : ((s.tables.getD who.toNat default).entries.getD q default).own = false) (hl0 : ((s.tables.getD who.toNat default).entries.getD q default).lends = 0) (hf : 0 ≤ ((s.tables.getD who.toNat default).entries.getD q default).from_ ∧ ((s.tables.getD who.toNat default).entries.getD q default).from_ < (s.tables.length : Int)) (p : Nat) (hp : ((s.cut who.toNat num).tables.getD ((s.tables.getD who.toNat default).entries.getD q default).from_.toNat default).find ((s.tables.getD who.toNat default).entries.getD q default).fromNum = some p) : RetM env.P 45 [some (boxRow s.csO)] [.ptr 0 0 0, .i .i64 who, .i .i64 num] (fun r H => r = .tup [.agg [.i .i64 0, .i .i64 0, .i .i64 0], .i .i64 0] ∧ H = [some (boxRow ((s.cut who.toNat num).setL ((s.tables.getD who.toNat default).entries.getD q default).from_.toNat p (IntKind.i64.wrap ((((s.cut who.toNat num).tables.getD ((s.tables.getD who.toNat default).entries.getD q default).from_.toNat default).entries.getD p default).lends - 1))).csO)]) := by
 have hl : s.tables.length ≤ 1048576 := h.1.1
 have hw2 : who.toNat < s.tables.length := by omega
 have h7 := hg.2.1.2
 have he := entLe h who.toNat
 have hlc : (s.cut who.toNat num).tables.length = s.tables.length := setE_len
 have hk2 : ((s.tables.getD who.toNat default).entries.getD q default).from_.toNat < (s.cut who.toNat num).tables.length := by rw [hlc]; omega
 have hlt : p < ((s.cut who.toNat num).tables.getD ((s.tables.getD who.toNat default).entries.getD q default).from_.toNat default).entries.length := (find_lt hp).1
 refine ret_ofM (nt := 73) (rvs := [.cell 6 37, .tmp 7]) Tryz.func45 rfl rfl rfl rfl (fun X hX => ?_)
 repeat' (first | exact aa | ((conv => whnf) <;> (first | (exfalso; have qq := ‹((s.tables.getD who.toNat default).entries.getD q default).own = true›; rw [ho] at qq; cases qq) | (refine .inr (.inl (.inl ⟨[0], _, _, _, entryO_some s h who num hw q hq, (view_of rfl (.cons rfl (.self (rowPl_box rfl)) .nil)), ⟨rfl, rfl⟩, ?_⟩)); rintro _ _ ⟨rfl, rfl⟩; refine ⟨rfl, _, lok_open, ?_⟩) | (refine .inr (.inr ⟨[some (boxRow s.csO), _, none, none, none, _], (by intro X; refine Turn.trans (turn_close (id := 2) (i := who.toNat) (j := 1) (id' := 3) rfl hw2 (show 1 < 2 by decide) (by first | exact upd_self | (simp only [upd, Nat.beq_refl]; rfl) | (simp only [Shelf.rowT, upd, Nat.beq_refl]; rfl) | exact rowT_at) rfl (show 2 ≠ 3 by decide) rfl (rowO_le (Nat.le_refl _))) ?_; refine Turn.trans (turn_eq (id := 2) (x := rowL 2 Table.csO (s.setE who.toNat (s.tables.getD who.toNat default).entries).tables) rfl rfl setE_len rfl rfl (setE_rows (l := (s.tables.getD who.toNat default).entries) hw2 rfl (fun i j _ _ => .refl _))) ?_; refine Turn.trans (turn_close (id := 0) (i := 0) (j := 1) (id' := 2) rfl (show 0 < 1 by decide) (show 1 < 3 by decide) rfl rfl (show 0 ≠ 2 by decide) rfl (rowO_le (Nat.le_of_eq setE_len.symm))) ?_; refine Turn.trans (turn_close (id := 0) (i := 0) (j := 2) (id' := 4) rfl (show 0 < 1 by decide) (show 2 < 3 by decide) rfl rfl (show 0 ≠ 4 by decide) rfl (rowO_le (Nat.le_refl _))) ?_; exact turn_box (id := 0) (ds := (s).csO) rfl rfl rfl (.cons (.refl _) (.cons (OwEq.len rfl (fun i j _ _ => HoldC.h _ j) (fun i j _ _ => by rw [setE_self]; exact .refl _)) (.cons (.refl _) .nil)))), (fun i _ q => (by cases q)), .inl ⟨[0], _, _, _, remove_ok s h who num hw h7 q hq, (view_of rfl (.cons rfl (.self (rowPl_box rfl)) .nil)), ⟨rfl, rfl⟩, ?_⟩⟩); rintro _ _ ⟨rfl, rfl⟩; refine ⟨rfl, _, (lok_pl (.cons (rowPl_box rfl) .nil)), ?_⟩) | (refine .inr (.inl (.inl ⟨[0], _, _, _, originO_some (s.cut who.toNat num) (cut_ok h) ((s.tables.getD who.toNat default).entries.getD q default) (by rw [hlc]; exact hf) p hp, (view_of rfl (.cons rfl (.self (rowPl_box rfl)) .nil)), ⟨rfl, rfl⟩, ?_⟩)); rintro _ _ ⟨rfl, rfl⟩; refine ⟨rfl, _, lok_open, ?_⟩) | refine And.intro ?_ ?_ | (intro _h; first | contradiction | (try simp only [dd] at _h)) | (refine dt_go ?_) | exact rfl | exact True.intro | exact dkk | exact dks | (refine wrap_succ ?_; omega))))
 all_goals (first | contradiction | (dsimp only; omega) | (exfalso; omega) | skip)
 all_goals (conv => whnf)
 all_goals refine endM_turn (by exact turn_close (id := 6) (i := ((s.tables.getD who.toNat default).entries.getD q default).from_.toNat) (j := 1) (id' := 7) rfl hk2 (show 1 < 2 by decide) (by first | exact upd_self | (simp only [upd, Nat.beq_refl]; rfl) | (simp only [Shelf.rowT, upd, Nat.beq_refl]; rfl) | exact rowT_at) rfl (show 6 ≠ 7 by decide) rfl (by exact setLd_rowO (Nat.le_refl _))) ?_
 all_goals refine endM_turn (by exact turn_eq (id := 6) (x := rowL 2 Table.csO ((s.cut who.toNat num).setE ((s.tables.getD who.toNat default).entries.getD q default).from_.toNat (setLd ((s.cut who.toNat num).tables.getD ((s.tables.getD who.toNat default).entries.getD q default).from_.toNat default).entries p (IntKind.i64.wrap ((((s.cut who.toNat num).tables.getD ((s.tables.getD who.toNat default).entries.getD q default).from_.toNat default).entries.getD p default).lends - 1)))).tables) rfl rfl setE_len rfl rfl (setE_rows (l := (setLd ((s.cut who.toNat num).tables.getD ((s.tables.getD who.toNat default).entries.getD q default).from_.toNat default).entries p (IntKind.i64.wrap ((((s.cut who.toNat num).tables.getD ((s.tables.getD who.toNat default).entries.getD q default).from_.toNat default).entries.getD p default).lends - 1)))) hk2 setLd_len.symm (setLd_rows hlt))) ?_
 all_goals refine endM_turn (by exact turn_close (id := 0) (i := 0) (j := 1) (id' := 6) rfl (show 0 < 1 by decide) (show 1 < 3 by decide) rfl rfl (show 0 ≠ 6 by decide) rfl (rowO_le (Nat.le_of_eq setE_len.symm))) ?_
 all_goals refine endM_turn (by exact turn_close (id := 0) (i := 0) (j := 2) (id' := 8) rfl (show 0 < 1 by decide) (show 2 < 3 by decide) rfl rfl (show 0 ≠ 8 by decide) rfl (rowO_le (Nat.le_refl _))) ?_
 all_goals refine endM_turn (by exact turn_box (id := 0) (ds := ((s.cut who.toNat num).setE ((s.tables.getD who.toNat default).entries.getD q default).from_.toNat (setLd ((s.cut who.toNat num).tables.getD ((s.tables.getD who.toNat default).entries.getD q default).from_.toNat default).entries p (IntKind.i64.wrap ((((s.cut who.toNat num).tables.getD ((s.tables.getD who.toNat default).entries.getD q default).from_.toNat default).entries.getD p default).lends - 1)))).csO) rfl rfl rfl (.cons (.refl _) (.cons (OwEq.len setE_len.symm (fun i j _ _ => HoldC.h _ j) (fun i j _ _ => .refl _)) (.cons (.refl _) .nil)))) ?_
 all_goals exact endM_pick [0] [some (boxRow (((s.cut who.toNat num).setL ((s.tables.getD who.toNat default).entries.getD q default).from_.toNat p (IntKind.i64.wrap ((((s.cut who.toNat num).tables.getD ((s.tables.getD who.toNat default).entries.getD q default).from_.toNat default).entries.getD p default).lends - 1)))).csO)] (.tup [.agg [.i .i64 0, .i .i64 0, .i .i64 0], .i .i64 0]) (view_of rfl (.cons rfl (.self (rowPl_box rfl)) .nil)) rfl rfl (by rw [hX]; exact keepK (n := 1) rfl rfl) ⟨rfl, rfl⟩
def notIn (R : List Int) (e : Entry) : Bool := !(R.contains e.num)
def inM (M : Entry → Bool) (l : List Entry) (j : Nat) : List Entry := (l.take j).filter M ++ l.drop ((l.take j).filter M).length
def delRun (q : List Entry → Entry → Bool) (l : List Entry) : Nat → List Int
 | 0 => []
 | j + 1 => if q (inM (notIn (delRun q l j)) l j) (l.getD j default) = true then (l.getD j default).num :: delRun q l j else delRun q l j
def dK (q : List Entry → Entry → Bool) (l : List Entry) (j : Nat) : List Entry := (l.take j).filter (notIn (delRun q l j))
def dM (q : List Entry → Entry → Bool) (l : List Entry) (j : Nat) : List Entry := inM (notIn (delRun q l j)) l j
theorem filt_len {M : Entry → Bool} {l : List Entry} {j : Nat} : ((l.take j).filter M).length ≤ j ∧ ((l.take j).filter M).length ≤ l.length := by
 have h1 := List.length_filter_le M (l.take j)
 rw [List.length_take] at h1
 omega
theorem inM_len {M : Entry → Bool} {l : List Entry} {j : Nat} : (inM M l j).length = l.length := by
 have := (filt_len (M := M) (l := l) (j := j)).2
 unfold inM
 rw [List.length_append, List.length_drop]
 omega
theorem inM_at {M : Entry → Bool} {l : List Entry} {j k : Nat} (hk : ((l.take j).filter M).length ≤ k) : (inM M l j).getD k default = l.getD k default := by
 unfold inM
 rw [List.getD_eq_getElem?_getD, List.getElem?_append_right hk, List.getElem?_drop, List.getD_eq_getElem?_getD, show ((l.take j).filter M).length + (k - ((l.take j).filter M).length) = k by omega]
theorem run_sub {q : List Entry → Entry → Bool} {l : List Entry} : ∀ {j : Nat} {n : Int}, n ∈ delRun q l j → ∃ k, k < j ∧ n = (l.getD k default).num
 | 0, n, h => by cases h
 | j + 1, n, h => by
  unfold delRun at h
  split at h
  ·rcases List.mem_cons.1 h with rfl | h
   ·exact ⟨j, by omega, rfl⟩
   ·obtain ⟨k, hk, e⟩ := run_sub h
    exact ⟨k, by omega, e⟩
  ·obtain ⟨k, hk, e⟩ := run_sub h
   exact ⟨k, by omega, e⟩
theorem mem_take' {l : List Entry} {j : Nat} {e : Entry} (h : e ∈ l.take j) : ∃ k, k < j ∧ k < l.length ∧ l.getD k default = e := by
 obtain ⟨k, hk⟩ := List.getElem?_of_mem h
 rw [List.getElem?_take] at hk
 split at hk
 ·exact ⟨k, by assumption, (List.getElem?_eq_some_iff.1 hk).1, by rw [List.getD_eq_getElem?_getD, hk]; rfl⟩
 ·cases hk
theorem notIn_self {l : List Entry} (hu : uniq l) {q : List Entry → Entry → Bool} {j : Nat} (hj : j < l.length) : notIn (delRun q l j) (l.getD j default) = true := by
 unfold notIn
 rw [Bool.not_eq_true', ← Bool.not_eq_true, List.contains_iff_mem]
 intro h
 obtain ⟨k, hk, e⟩ := run_sub h
 have := hu j k hj (by omega) e
 omega
theorem dK_hit {q : List Entry → Entry → Bool} {l : List Entry} (hu : uniq l) {j : Nat} (hj : j < l.length) (h : q (dM q l j) (l.getD j default) = true) : dK q l (j + 1) = dK q l j := by
 have hr : delRun q l (j + 1) = (l.getD j default).num :: delRun q l j := by
  rw [delRun]
  exact if_pos h
 unfold dK
 rw [hr, take_snoc hj, List.filter_append]
 have h1 : ([l.getD j default] : List Entry).filter (notIn ((l.getD j default).num :: delRun q l j)) = [] := by
  refine List.filter_eq_nil_iff.2 fun e he => ?_
  obtain rfl := List.mem_singleton.1 he
  unfold notIn
  simp only [List.contains_cons, beq_self_eq_true, Bool.true_or, Bool.not_true, Bool.false_eq_true, not_false_eq_true]
 rw [h1, List.append_nil]
 refine List.filter_congr fun e he => ?_
 obtain ⟨k, hk, hkl, rfl⟩ := mem_take' he
 unfold notIn
 rw [List.contains_cons]
 have : ((l.getD k default).num == (l.getD j default).num) = false := by
  rw [beq_eq_false_iff_ne]
  intro e
  have := hu k j hkl hj e
  omega
 rw [this, Bool.false_or]
theorem dK_miss {q : List Entry → Entry → Bool} {l : List Entry} (hu : uniq l) {j : Nat} (hj : j < l.length) (h : q (dM q l j) (l.getD j default) = false) : dK q l (j + 1) = dK q l j ++ [l.getD j default] := by
 have hr : delRun q l (j + 1) = delRun q l j := by
  rw [delRun, if_neg (by unfold dM at h; rw [h]; decide)]
 unfold dK
 rw [hr, take_snoc hj, List.filter_append]
 congr 1
 refine List.filter_eq_self.2 fun e he => ?_
 obtain rfl := List.mem_singleton.1 he
 exact notIn_self hu hj
theorem dM_eq {q : List Entry → Entry → Bool} {l : List Entry} {j : Nat} : dM q l j = dK q l j ++ l.drop (dK q l j).length := rfl
theorem dM_len {q : List Entry → Entry → Bool} {l : List Entry} {j : Nat} : (dM q l j).length = l.length := inM_len
theorem dK_le {q : List Entry → Entry → Bool} {l : List Entry} {j : Nat} : (dK q l j).length ≤ j ∧ (dK q l j).length ≤ l.length := filt_len
theorem dM_at {q : List Entry → Entry → Bool} {l : List Entry} {j k : Nat} (hk : (dK q l j).length ≤ k) : (dM q l j).getD k default = l.getD k default := inM_at hk
theorem dM_hit {q : List Entry → Entry → Bool} {l : List Entry} (hu : uniq l) {j : Nat} (hj : j < l.length) (h : q (dM q l j) (l.getD j default) = true) : dM q l (j + 1) = dM q l j := by
 rw [dM_eq, dM_eq, dK_hit hu hj h]
theorem dM_miss {q : List Entry → Entry → Bool} {l : List Entry} (hu : uniq l) {j : Nat} (hj : j < l.length) (h : q (dM q l j) (l.getD j default) = false) : dM q l (j + 1) = (dM q l j).set (dK q l j).length (l.getD j default) := by
 have hle := dK_le (q := q) (l := l) (j := j)
 rw [dM_eq, dM_eq, dK_miss hu hj h, List.set_append_right _ _ (Nat.le_refl _), Nat.sub_self, List.length_append, List.length_singleton]
 have : l.drop (dK q l j).length = l[(dK q l j).length]'(by omega) :: l.drop ((dK q l j).length + 1) := List.drop_eq_getElem_cons _
 rw [this, List.set_cons_zero, List.append_assoc, List.singleton_append]
theorem run_nil {q : List Entry → Entry → Bool} {l : List Entry} : ∀ {j : Nat}, j ≤ l.length → (∀ k, k < j → q l (l.getD k default) = false) → delRun q l j = [] ∧ dK q l j = l.take j ∧ dM q l j = l
 | 0, _, _ => ⟨rfl, rfl, by rw [dM_eq]; rfl⟩
 | j + 1, hj, h => by
  obtain ⟨h1, h2, h3⟩ := run_nil (j := j) (by omega) fun k hk => h k (by omega)
  have hr : delRun q l (j + 1) = [] := by
   rw [delRun, if_neg, h1]
   have : inM (notIn (delRun q l j)) l j = l := h3
   rw [this, h j (by omega)]
   decide
  have hk : dK q l (j + 1) = l.take (j + 1) := by
   unfold dK
   rw [hr]
   exact List.filter_eq_self.2 fun e _ => rfl
  refine ⟨hr, hk, ?_⟩
  rw [dM_eq, hk, List.length_take, show min (j + 1) l.length = j + 1 by omega]
  exact List.take_append_drop _ _
theorem run_start {q : List Entry → Entry → Bool} {l : List Entry} (hu : uniq l) {j : Nat} (hj : j < l.length) (h : ∀ k, k < j → q l (l.getD k default) = false) (h1 : q l (l.getD j default) = true) : dM q l (j + 1) = l ∧ (dK q l (j + 1)).length = j := by
 obtain ⟨_, h2, h3⟩ := run_nil (q := q) (Nat.le_of_lt hj) h
 have hh : q (dM q l j) (l.getD j default) = true := by rw [h3]; exact h1
 refine ⟨by rw [dM_hit hu hj hh]; exact h3, ?_⟩
 rw [dK_hit hu hj hh, h2, List.length_take]
 omega
def cutC (L : List Entry) : Nat → Nat → AV := fun i j => if i < L.length then elE Entry.cs L i j else [AV.i .i64 0, AV.i .i64 0, AV.kb false, AV.i .i64 0, AV.i .i64 0, AV.i .i64 0, AV.i .i64 0].getD j .any
theorem cutC_pl {L : List Entry} {i j : Nat} : pl1 (cutC L i j) = true := by
 unfold cutC
 split
 ·exact pl1_getD rfl j
 ·exact pl1_getD rfl j
theorem cutC_idf {L : List Entry} {i j : Nat} : (cutC L i j).idfO := by
 unfold cutC
 split
 ·exact HoldC.h _ j
 ·exact (holdC_plain (c := fun _ : Unit => [AV.i .i64 0, AV.i .i64 0, AV.kb false, AV.i .i64 0, AV.i .i64 0, AV.i .i64 0, AV.i .i64 0]) fun _ => rfl).h () j
theorem cutC_in {L : List Entry} {i j : Nat} (h : i < L.length) : cutC L i j = elE Entry.cs L i j := if_pos h
theorem cutC_row {L : List Entry} {n : Nat} : RowPl ⟨7, n, cutC L, .arr⟩ := ⟨fun i j _ _ => cutC_pl⟩
theorem low_box {m : Nat} {cs : List AV} (h : cs.all (low2 m) = true) : ∀ i j, i < (boxRow cs).cap → j < (boxRow cs).sz → low2 m ((boxRow cs).es i j) = true := fun i j hi hj => by
 have hj' : j < cs.length := hj
 show low2 m (cs.getD j .any) = true
 rw [List.getD_eq_getElem?_getD, List.getElem?_eq_getElem hj']
 exact List.all_eq_true.1 h _ (List.getElem_mem hj')
theorem back_box {σ : Nat → Nat} {m : Nat} {cs ds : List AV} (h : cs.map (ren1 σ) = ds) (hf : cs.all flat1 = true) (hl : cs.all (low2 m) = true) : RowBack σ m (boxRow cs) (boxRow ds) := back_ren (ren_box h hf) (.refl _) (low_box hl)
theorem lok_c {σ : Nat → Nat} {x y : Row} {H' L : Hp} (h : RowRen σ x y) (t : LOk σ H' L) : LOk σ (some x :: H') (some y :: L) := ⟨by simp [t.len], fun k hk => by
 cases k with
 | zero => exact .inr ⟨_, _, rfl, rfl, h⟩
 | succ k => exact t.row k (by simpa using hk)⟩
def Shelf.rowW (s : Shelf) (w id n : Nat) : Row := ⟨2, s.tables.length, upd (elE Table.csO s.tables) w 1 [.row id n], .arr⟩
def Shelf.csT (s : Shelf) (id : Nat) : List AV := [.i .i64 s.next, .row id s.tables.length, owL 3 Thing.cs s.things]
theorem ren_W {σ : Nat → Nat} {s : Shelf} {w id n : Nat} : RowRen σ (s.rowW w id n) (s.rowW w (σ id) n) := by
 refine ⟨rfl, rfl, .refl _, fun i j hi hj => ?_⟩
 show upd _ w 1 [.row (σ id) _] i j = ren1 σ (upd _ w 1 [.row id _] i j) ∧ _
 rw [upd_one]
 show _ ∧ flat1 (upd _ w 1 [.row id _] i j) = true
 rw [upd_one]
 split
 ·exact ⟨rfl, rfl⟩
 ·have := pl1_ren (σ := σ) (csO_pl s i j)
  exact ⟨this.1.symm, this.2⟩
theorem low_W {s : Shelf} {w id n m : Nat} (h : id < m) : ∀ i j, i < (s.rowW w id n).cap → j < (s.rowW w id n).sz → low2 m ((s.rowW w id n).es i j) = true := fun i j hi hj => by
 show low2 m (upd _ w 1 [.row id _] i j) = true
 rw [upd_one]
 split
 ·exact Nat.ble_eq_true_of_le h
 ·exact pl1_low2 (csO_pl s i j)
theorem back_W {σ : Nat → Nat} {m : Nat} {s : Shelf} {w id id' n : Nat} (e : σ id = id') (h : id < m) : RowBack σ m (s.rowW w id n) (s.rowW w id' n) := by
 subst e
 exact back_ren ren_W (.refl _) (low_W h)
theorem ren_W' {σ : Nat → Nat} {s : Shelf} {w id id' n : Nat} (e : σ id = id') : RowRen σ (s.rowW w id n) (s.rowW w id' n) := by
 subst e
 exact ren_W
theorem wk_tr {x y z : AV} (h : Wk x y) (k : Wk y z) : Wk x z := ⟨fun q => k.idf (h.idf q), fun w S u hc => k.c w S u (h.c w S u hc)⟩
theorem shr_tblV {k n w m id cap : Nat} {kd : RK} {H : Hp} {s : Shelf} {l : List Entry} {es : Nat → Nat → AV} (hw : w < s.tables.length) (hn : n = s.tables.length) (hr : H[id]? = some (some ⟨7, cap, es, kd⟩)) (hm : m = l.length) (he : ∀ i j, i < m → j < 7 → es i j = elE Entry.cs l i j) :
  Wk (.sl 2 n fun i j => shrC (k + 2) H (upd (elE Table.csO s.tables) w 1 [.row id m] i j)) (slL 2 Table.cs (s.setE w l).tables) := by
 have h0 := shr_tblU (k := k) (n := n) (w := w) (m := m) (id := id) (cap := cap) (kd := kd) (H := H) (l := (s.setE w l).tables) (es := es) (by rw [hn, setE_len]) hr (by rw [setE_at hw, if_pos rfl]; exact hm) (fun i j hi hj => by rw [setE_at hw, if_pos rfl]; exact he i j hi hj)
 have e : (fun i j => shrC (k + 2) H (upd (elE Table.csO (s.setE w l).tables) w 1 [.row id m] i j)) = fun i j => shrC (k + 2) H (if j < 2 then upd (elE Table.csO s.tables) w 1 [.row id m] i j else upd (elE Table.csO (s.setE w l).tables) w 1 [.row id m] i j) := by
  funext i j
  congr 1
  split
  ·rename_i hj
   rw [upd_one, upd_one]
   split
   ·rfl
   ·rename_i hne
    unfold elE
    rw [setE_at hw]
    split
    ·rename_i e
     subst e
     rcases (show j = 0 ∨ j = 1 by omega) with rfl | rfl
     ·rfl
     ·exact absurd ⟨rfl, rfl⟩ hne
    ·rfl
  ·rfl
 rw [e] at h0
 have h1 : Wk (.sl 2 n fun i j => shrC (k + 2) H (upd (elE Table.csO s.tables) w 1 [.row id m] i j)) (.sl 2 n fun i j => shrC (k + 2) H (if j < 2 then upd (elE Table.csO s.tables) w 1 [.row id m] i j else upd (elE Table.csO (s.setE w l).tables) w 1 [.row id m] i j)) := Wk.sl fun i j hi hj => by
  rw [if_pos hj]
  exact .refl _
 exact wk_tr h1 h0
end Go.Proofs.YtmglpojnoadgeaaGreat
