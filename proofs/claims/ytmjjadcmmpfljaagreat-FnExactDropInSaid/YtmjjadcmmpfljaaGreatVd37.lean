/- Texts for VDropInP. -/
import Derived.Test.YtmjjadcmmpfljaaGreatVd29
namespace Go.Proofs.YtmjjadcmmpfljaaGreat
open Go Go.RowKit
set_option linter.unusedVariables false
set_option linter.unusedSimpArgs false
def Yard.yb (y : Yard) (q : Nat) : List AV := [.ptr q 0 0, owL 4 Call.csO y.stack, .i .i64 y.next, owL 1 intC y.dead]
def Yard.ybP (y : Yard) (q k : Nat) : List AV := [.ptr q 0 0, .ow 4 k (elE Call.csO (y.stack.take k)), .i .i64 y.next, owL 1 intC y.dead]
theorem snoc_callN {k : Nat} {l : List Call} {t : Call} {g : Nat → Nat → AV} (hk : k = l.length) (h0 : g 0 0 = .i .i64 t.id) (h1 : g 0 1 = .i .i64 t.caller) (h2 : g 0 2 = .i .i64 t.callee) (h3 : g 0 3 = .nils) (hn : t.args = []) : ∀ i j, i < k + 1 → j < 4 → OwEq (catE k (elE Call.csO l) g i j) (elE Call.csO (l ++ [t]) i j) := snoc_eq hk fun j hj => by
 rcases (show j = 0 ∨ j = 1 ∨ j = 2 ∨ j = 3 by omega) with rfl | rfl | rfl | rfl
 ·rw [h0]; exact .refl _
 ·rw [h1]; exact .refl _
 ·rw [h2]; exact .refl _
 ·rw [h3]
  show OwEq .nils (owL 1 intC t.args)
  rw [hn]; exact .nil _ _
theorem ren_boxY {σ : Nat → Nat} {cs ds : List AV} (h : cs.map (ren1 σ) = ds) (hf : cs.all flat1 = true) : RowRen σ (boxRow cs) (boxRow ds) := by
 subst h
 refine ⟨by simp [boxRow], rfl, .refl _, fun i j hi hj => ?_⟩
 have hj' : j < cs.length := hj
 have e1 : (boxRow cs).es i j = cs[j] := by
  show cs.getD j .any = _
  rw [List.getD_eq_getElem?_getD, List.getElem?_eq_getElem hj']; rfl
 have e2 : (boxRow (cs.map (ren1 σ))).es i j = ren1 σ cs[j] := by
  show (cs.map (ren1 σ)).getD j .any = _
  rw [List.getD_eq_getElem?_getD, List.getElem?_map, List.getElem?_eq_getElem hj']; rfl
 rw [e1, e2]
 exact ⟨rfl, List.all_eq_true.1 hf _ (List.getElem_mem hj')⟩
theorem ren_plY {σ : Nat → Nat} {x : Row} (h : RowPl x) : RowRen σ x x := ⟨rfl, rfl, .refl _, fun i j hi hj => ⟨(pl1_ren (h.h i j hi hj)).1.symm, (pl1_ren (σ := σ) (h.h i j hi hj)).2⟩⟩
theorem lok_cY {σ : Nat → Nat} {x y : Row} {H' L : Hp} (h : RowRen σ x y) (t : LOk σ H' L) : LOk σ (some x :: H') (some y :: L) := ⟨by simp [t.len], fun k hk => by
 cases k with
 | zero => exact .inr ⟨_, _, rfl, rfl, h⟩
 | succ k => exact t.row k (by simpa using hk)⟩
theorem lok_yb {σ : Nat → Nat} {y : Yard} : LOk σ [some (boxRow (y.yb 1)), some (boxRow y.shelf.csO)] [some (boxRow (y.yb (σ 1))), some (boxRow y.shelf.csO)] := lok_cY (ren_boxY rfl rfl) (lok_cY (ren_plY (rowPl_box rfl)) lok_nil)
theorem low_boxY {m : Nat} {cs : List AV} (h : cs.all (low2 m) = true) : ∀ i j, i < (boxRow cs).cap → j < (boxRow cs).sz → low2 m ((boxRow cs).es i j) = true := fun i j hi hj => by
 have hj' : j < cs.length := hj
 show low2 m (cs.getD j .any) = true
 rw [List.getD_eq_getElem?_getD, List.getElem?_eq_getElem hj']
 exact List.all_eq_true.1 h _ (List.getElem_mem hj')
theorem back_renY {σ : Nat → Nat} {m : Nat} {x y : Row} (h : RowRen σ x y) (hk : RKle y.k x.k) (hl : ∀ i j, i < x.cap → j < x.sz → low2 m (x.es i j) = true) : RowBack σ m x y := ⟨h.sz.symm, h.cap.symm, hk, fun i j hi hj => ⟨(h.es i j hi hj).1, hl i j hi hj⟩⟩
theorem back_boxY {σ : Nat → Nat} {m : Nat} {cs ds : List AV} (h : cs.map (ren1 σ) = ds) (hf : cs.all flat1 = true) (hl : cs.all (low2 m) = true) : RowBack σ m (boxRow cs) (boxRow ds) := back_renY (ren_boxY h hf) (.refl _) (low_boxY hl)
theorem ow_take {l : List Call} : OwEq (.ow 4 l.length (elE Call.csO (l.take l.length))) (owL 4 Call.csO l) := by rw [List.take_length]; exact .refl _
def lay2 (b : Nat) : Nat := bif Nat.beq b 3 then 2 else 3
def Yard.layH (y : Yard) (b : Nat) : Hp := bif Nat.beq b 1 then [some (boxRow y.shelf.csO), none, some (boxRow (y.ybP 1 0))] else bif Nat.beq b 2 then [none, some (boxRow y.shelf.csO), some (boxRow (y.ybP 2 0))] else [some (boxRow y.shelf.csO), some (boxRow (y.ybP 1 0)), none]
set_option maxRecDepth 8000 in
set_option maxHeartbeats 8000000 in
theorem yardOf_ok (y : Yard) (h : y.ok) (h1 : 1 ≤ y.shelf.tables.length) : RetM env.P 39 [] [.agg y.cs] (fun r H => r = .ptr 0 0 0 ∧ H = [some (boxRow (y.yb 1)), some (boxRow y.shelf.csO)]) := by
 have hd : y.dead.length ≤ 1048576 := h.2.2.1
 have hst : y.stack.length ≤ 1048576 := h.2.1.1
 refine ret_ofPM (nt := 39) (rvs := [.tmp 2]) Tryz.func39 rfl rfl rfl rfl (fun X hX => ?_)
 refine pw_cut 2 (fun b : Nat => b = 1 ∨ b = 2 ∨ b = 3) (fun b => [(1, .ptr 0 0 0), (3, .ptr (lay2 b) 0 0)]) (fun b => some (boxRow y.cs) :: y.layH b) ?_ (fun b hb => ?_)
 ·repeat' (first | exact aa | ((conv => whnf) <;> (first | ((refine .inr (.inl (.inl ⟨[], _, _, _, cloneInt_ok _ hd, (view_of rfl .nil), ⟨rfl, rfl⟩, ?_⟩))); rintro _ _ (⟨hn, rfl, rfl⟩ | ⟨rfl, rfl⟩) <;> refine ⟨rfl, _, lokA, ?_⟩) | refine And.intro ?_ ?_ | (intro _h; first | contradiction | (try simp only [dd] at _h)) | (refine dt_go ?_) | exact rfl | exact True.intro | exact dkk | exact dks | (refine .inr (.inl (.inl ⟨[], _, _, _, shelfOf_ok y.shelf h.1 h1, viewA, ⟨rfl, rfl⟩, ?_⟩)); rintro _ _ ⟨rfl, rfl⟩; refine ⟨rfl, _, lokA, ?_⟩) | (refine wrap_succ ?_; omega))))
  all_goals (first | contradiction | skip)
  all_goals (try (conv => whnf))
  all_goals first
   | (refine cut_turn (turn_close (id := 3) (i := 0) (j := 3) (id' := 2) rfl (show 0 < 1 by decide) (show 3 < 4 by decide) rfl rfl (show 3 ≠ 2 by decide) rfl (rowO_le (Nat.le_refl _))) ?_; refine cut_turn (turn_box (id := 3) (ds := y.ybP 1 0) rfl rfl rfl (.cons (.refl _) (.cons (.nil _ _) (.cons (.refl _) (.cons (.refl _) .nil))))) ?_; exact cut_go 1 (by omega) (by repeat' (first | exact trivial | refine And.intro rfl ?_)) (by repeat' (first | exact trivial | refine And.intro (.inl rfl) ?_ | refine And.intro (.inr rfl) ?_ | refine And.intro rfl ?_)))
   | (refine cut_turn (turn_close (id := 3) (i := 0) (j := 3) (id' := 1) rfl (show 0 < 1 by decide) (show 3 < 4 by decide) rfl rfl (show 3 ≠ 1 by decide) rfl (rowO_le (Nat.le_refl _))) ?_; refine cut_turn (turn_box (id := 3) (ds := y.ybP 2 0) rfl rfl rfl (.cons (.refl _) (.cons (.nil _ _) (.cons (.refl _) (.cons (.refl _) .nil))))) ?_; exact cut_go 2 (by omega) (by repeat' (first | exact trivial | refine And.intro rfl ?_)) (by repeat' (first | exact trivial | refine And.intro (.inl rfl) ?_ | refine And.intro (.inr rfl) ?_ | refine And.intro rfl ?_)))
   | (refine cut_turn (turn_box (id := 2) (ds := y.ybP 1 0) rfl rfl rfl (.cons (.refl _) (.cons (.nil _ _) (.cons (.refl _) (.cons (ow_nil hn) .nil))))) ?_; exact cut_go 3 (by omega) (by repeat' (first | exact trivial | refine And.intro rfl ?_)) (by repeat' (first | exact trivial | refine And.intro (.inl rfl) ?_ | refine And.intro (.inr rfl) ?_ | refine And.intro rfl ?_)))
   | trace_state
 rcases hb with rfl | rfl | rfl
 ·refine wpc_ok _ _ _ _ ?_
  (try dsimp only)
  conv => whnf
  repeat' (first | exact aa | ((conv => whnf) <;> (first | refine loopNT y.stack.length (fun k => [(19, .i .i64 k)]) (fun k => [none, none, none, some (.box (y.ybP 1 k))]) (fun k => True) ⟨trivial, ?_⟩ | ((refine .inr (.inl (.inl ⟨[], _, _, _, cloneInt_ok _ (argLe h _), (view_of rfl .nil), ⟨rfl, rfl⟩, ?_⟩))); rintro _ _ (⟨hn, rfl, rfl⟩ | ⟨rfl, rfl⟩) <;> refine ⟨rfl, _, lokA, ?_⟩) | refine And.intro ?_ ?_ | (intro _h; first | contradiction | (try simp only [dd] at _h)) | (refine dt_go ?_) | exact rfl | exact True.intro | exact dkk | exact dks | (refine wrap_succ ?_; omega))))
  rotate_right
  ·conv => whnf
   rename_i k _ _
   obtain rfl : k = y.stack.length := by omega
   refine endM_turn (turn_box (id := 3) (ds := y.yb 1) rfl rfl rfl (.cons (.refl _) (.cons (ow_take) (.cons (.refl _) (.cons (.refl _) .nil))))) ?_
   exact endM_pick [3, 1] [some (boxRow (y.yb 1)), some (boxRow y.shelf.csO)] (.ptr 0 0 0) (view_of rfl (.cons rfl (back_boxY rfl rfl rfl) (.cons rfl (.self (rowPl_box rfl)) .nil))) rfl rfl (fun k hk => by rw [hX] at hk; exact absurd hk (Nat.not_lt_zero _)) ⟨rfl, rfl⟩
  all_goals (conv => whnf)
  all_goals rename_i k _ _
  all_goals have hk : k < y.stack.length := by omega
  all_goals first
   | (refine roundNT_turn (turn_close (id := 8) (i := k) (j := 3) (id' := 5) rfl (Nat.lt_succ_self k) (show 3 < 4 by decide) cat_k rfl (show 8 ≠ 5 by decide) rfl ⟨Nat.le_refl _, fun i j _ _ => HoldC.h (c := intC) _ j⟩) ?_; refine roundNT_turn (turn_close (id := 3) (i := 0) (j := 1) (id' := 8) rfl (show 0 < 1 by decide) (show 1 < 4 by decide) rfl rfl (show 3 ≠ 8 by decide) rfl ⟨Nat.le_refl _, snoc_idf3 (by rw [List.length_take]; omega) trivial trivial trivial (fun i j _ _ => HoldC.h (c := intC) _ j)⟩) ?_; refine roundNT_turn (turn_box (id := 3) (ds := y.ybP 1 (k + 1)) rfl rfl rfl (.cons (.refl _) (.cons (.ow (fun i j _ _ => HoldC.h _ j) (fun i j hi hj => (by rw [take_call hk]; exact snoc_call (t := y.stack.getD k default) (by rw [List.length_take]; omega) rfl rfl rfl rfl (fun i j _ _ => .refl _) i j hi hj))) (.cons (.refl _) (.cons (.refl _) .nil))))) ?_)
   | (refine roundNT_turn (turn_close (id := 3) (i := 0) (j := 1) (id' := 7) rfl (show 0 < 1 by decide) (show 1 < 4 by decide) rfl rfl (show 3 ≠ 7 by decide) rfl ⟨Nat.le_refl _, snoc_idf (by rw [List.length_take]; omega) (fun j hj => (by rcases (show j = 0 ∨ j = 1 ∨ j = 2 ∨ j = 3 by (have hj' : j < 4 := hj); omega) with rfl | rfl | rfl | rfl <;> exact trivial))⟩) ?_; refine roundNT_turn (turn_box (id := 3) (ds := y.ybP 1 (k + 1)) rfl rfl rfl (.cons (.refl _) (.cons (.ow (fun i j _ _ => HoldC.h _ j) (fun i j hi hj => (by rw [take_call hk]; exact snoc_callN (t := y.stack.getD k default) (by rw [List.length_take]; omega) rfl rfl rfl rfl (by assumption) i j hi hj))) (.cons (.refl _) (.cons (.refl _) .nil))))) ?_)
   | trace_state
  all_goals refine roundNT_end ?_
  repeat' (first | exact aa | ((conv => whnf) <;> (first | refine And.intro ?_ ?_ | (intro _h; first | contradiction | (try simp only [dd] at _h)) | (refine dt_go ?_) | exact rfl | exact True.intro | exact dkk | exact dks | (refine wrap_succ ?_; omega))))
 ·refine wpc_ok _ _ _ _ ?_
  (try dsimp only)
  conv => whnf
  repeat' (first | exact aa | ((conv => whnf) <;> (first | refine loopNT y.stack.length (fun k => [(19, .i .i64 k)]) (fun k => [none, none, none, some (.box (y.ybP 2 k))]) (fun k => True) ⟨trivial, ?_⟩ | ((refine .inr (.inl (.inl ⟨[], _, _, _, cloneInt_ok _ (argLe h _), (view_of rfl .nil), ⟨rfl, rfl⟩, ?_⟩))); rintro _ _ (⟨hn, rfl, rfl⟩ | ⟨rfl, rfl⟩) <;> refine ⟨rfl, _, lokA, ?_⟩) | refine And.intro ?_ ?_ | (intro _h; first | contradiction | (try simp only [dd] at _h)) | (refine dt_go ?_) | exact rfl | exact True.intro | exact dkk | exact dks | (refine wrap_succ ?_; omega))))
  rotate_right
  ·conv => whnf
   rename_i k _ _
   obtain rfl : k = y.stack.length := by omega
   refine endM_turn (turn_box (id := 3) (ds := y.yb 2) rfl rfl rfl (.cons (.refl _) (.cons (ow_take) (.cons (.refl _) (.cons (.refl _) .nil))))) ?_
   exact endM_pick [3, 2] [some (boxRow (y.yb 1)), some (boxRow y.shelf.csO)] (.ptr 0 0 0) (view_of rfl (.cons rfl (back_boxY rfl rfl rfl) (.cons rfl (.self (rowPl_box rfl)) .nil))) rfl rfl (fun k hk => by rw [hX] at hk; exact absurd hk (Nat.not_lt_zero _)) ⟨rfl, rfl⟩
  all_goals (conv => whnf)
  all_goals rename_i k _ _
  all_goals have hk : k < y.stack.length := by omega
  all_goals first
   | (refine roundNT_turn (turn_close (id := 8) (i := k) (j := 3) (id' := 5) rfl (Nat.lt_succ_self k) (show 3 < 4 by decide) cat_k rfl (show 8 ≠ 5 by decide) rfl ⟨Nat.le_refl _, fun i j _ _ => HoldC.h (c := intC) _ j⟩) ?_; refine roundNT_turn (turn_close (id := 3) (i := 0) (j := 1) (id' := 8) rfl (show 0 < 1 by decide) (show 1 < 4 by decide) rfl rfl (show 3 ≠ 8 by decide) rfl ⟨Nat.le_refl _, snoc_idf3 (by rw [List.length_take]; omega) trivial trivial trivial (fun i j _ _ => HoldC.h (c := intC) _ j)⟩) ?_; refine roundNT_turn (turn_box (id := 3) (ds := y.ybP 2 (k + 1)) rfl rfl rfl (.cons (.refl _) (.cons (.ow (fun i j _ _ => HoldC.h _ j) (fun i j hi hj => (by rw [take_call hk]; exact snoc_call (t := y.stack.getD k default) (by rw [List.length_take]; omega) rfl rfl rfl rfl (fun i j _ _ => .refl _) i j hi hj))) (.cons (.refl _) (.cons (.refl _) .nil))))) ?_)
   | (refine roundNT_turn (turn_close (id := 3) (i := 0) (j := 1) (id' := 7) rfl (show 0 < 1 by decide) (show 1 < 4 by decide) rfl rfl (show 3 ≠ 7 by decide) rfl ⟨Nat.le_refl _, snoc_idf (by rw [List.length_take]; omega) (fun j hj => (by rcases (show j = 0 ∨ j = 1 ∨ j = 2 ∨ j = 3 by (have hj' : j < 4 := hj); omega) with rfl | rfl | rfl | rfl <;> exact trivial))⟩) ?_; refine roundNT_turn (turn_box (id := 3) (ds := y.ybP 2 (k + 1)) rfl rfl rfl (.cons (.refl _) (.cons (.ow (fun i j _ _ => HoldC.h _ j) (fun i j hi hj => (by rw [take_call hk]; exact snoc_callN (t := y.stack.getD k default) (by rw [List.length_take]; omega) rfl rfl rfl rfl (by assumption) i j hi hj))) (.cons (.refl _) (.cons (.refl _) .nil))))) ?_)
   | trace_state
  all_goals refine roundNT_end ?_
  repeat' (first | exact aa | ((conv => whnf) <;> (first | refine And.intro ?_ ?_ | (intro _h; first | contradiction | (try simp only [dd] at _h)) | (refine dt_go ?_) | exact rfl | exact True.intro | exact dkk | exact dks | (refine wrap_succ ?_; omega))))
 ·refine wpc_ok _ _ _ _ ?_
  (try dsimp only)
  conv => whnf
  repeat' (first | exact aa | ((conv => whnf) <;> (first | refine loopNT y.stack.length (fun k => [(19, .i .i64 k)]) (fun k => [none, none, some (.box (y.ybP 1 k))]) (fun k => True) ⟨trivial, ?_⟩ | ((refine .inr (.inl (.inl ⟨[], _, _, _, cloneInt_ok _ (argLe h _), (view_of rfl .nil), ⟨rfl, rfl⟩, ?_⟩))); rintro _ _ (⟨hn, rfl, rfl⟩ | ⟨rfl, rfl⟩) <;> refine ⟨rfl, _, lokA, ?_⟩) | refine And.intro ?_ ?_ | (intro _h; first | contradiction | (try simp only [dd] at _h)) | (refine dt_go ?_) | exact rfl | exact True.intro | exact dkk | exact dks | (refine wrap_succ ?_; omega))))
  rotate_right
  ·conv => whnf
   rename_i k _ _
   obtain rfl : k = y.stack.length := by omega
   refine endM_turn (turn_box (id := 2) (ds := y.yb 1) rfl rfl rfl (.cons (.refl _) (.cons (ow_take) (.cons (.refl _) (.cons (.refl _) .nil))))) ?_
   exact endM_pick [2, 1] [some (boxRow (y.yb 1)), some (boxRow y.shelf.csO)] (.ptr 0 0 0) (view_of rfl (.cons rfl (back_boxY rfl rfl rfl) (.cons rfl (.self (rowPl_box rfl)) .nil))) rfl rfl (fun k hk => by rw [hX] at hk; exact absurd hk (Nat.not_lt_zero _)) ⟨rfl, rfl⟩
  all_goals (conv => whnf)
  all_goals rename_i k _ _
  all_goals have hk : k < y.stack.length := by omega
  all_goals first
   | (refine roundNT_turn (turn_close (id := 8) (i := k) (j := 3) (id' := 5) rfl (Nat.lt_succ_self k) (show 3 < 4 by decide) cat_k rfl (show 8 ≠ 5 by decide) rfl ⟨Nat.le_refl _, fun i j _ _ => HoldC.h (c := intC) _ j⟩) ?_; refine roundNT_turn (turn_close (id := 2) (i := 0) (j := 1) (id' := 8) rfl (show 0 < 1 by decide) (show 1 < 4 by decide) rfl rfl (show 2 ≠ 8 by decide) rfl ⟨Nat.le_refl _, snoc_idf3 (by rw [List.length_take]; omega) trivial trivial trivial (fun i j _ _ => HoldC.h (c := intC) _ j)⟩) ?_; refine roundNT_turn (turn_box (id := 2) (ds := y.ybP 1 (k + 1)) rfl rfl rfl (.cons (.refl _) (.cons (.ow (fun i j _ _ => HoldC.h _ j) (fun i j hi hj => (by rw [take_call hk]; exact snoc_call (t := y.stack.getD k default) (by rw [List.length_take]; omega) rfl rfl rfl rfl (fun i j _ _ => .refl _) i j hi hj))) (.cons (.refl _) (.cons (.refl _) .nil))))) ?_)
   | (refine roundNT_turn (turn_close (id := 2) (i := 0) (j := 1) (id' := 7) rfl (show 0 < 1 by decide) (show 1 < 4 by decide) rfl rfl (show 2 ≠ 7 by decide) rfl ⟨Nat.le_refl _, snoc_idf (by rw [List.length_take]; omega) (fun j hj => (by rcases (show j = 0 ∨ j = 1 ∨ j = 2 ∨ j = 3 by (have hj' : j < 4 := hj); omega) with rfl | rfl | rfl | rfl <;> exact trivial))⟩) ?_; refine roundNT_turn (turn_box (id := 2) (ds := y.ybP 1 (k + 1)) rfl rfl rfl (.cons (.refl _) (.cons (.ow (fun i j _ _ => HoldC.h _ j) (fun i j hi hj => (by rw [take_call hk]; exact snoc_callN (t := y.stack.getD k default) (by rw [List.length_take]; omega) rfl rfl rfl rfl (by assumption) i j hi hj))) (.cons (.refl _) (.cons (.refl _) .nil))))) ?_)
   | trace_state
  all_goals refine roundNT_end ?_
  repeat' (first | exact aa | ((conv => whnf) <;> (first | refine And.intro ?_ ?_ | (intro _h; first | contradiction | (try simp only [dd] at _h)) | (refine dt_go ?_) | exact rfl | exact True.intro | exact dkk | exact dks | (refine wrap_succ ?_; omega))))
end Go.Proofs.YtmjjadcmmpfljaaGreat
