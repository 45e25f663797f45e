/- Texts for VMakeInP. -/
import Derived.Test.YtmchgnbeoefhhaaGreatVm20
namespace Go.Proofs.YtmchgnbeoefhhaaGreat
open Go Go.RowKit
set_option linter.unusedVariables false
set_option linter.unusedSimpArgs false
set_option maxRecDepth 8000
def Table.put (t : Table) (e : Entry) : Table := ⟨t.next + 1, t.entries ++ [{ e with num := t.next }]⟩
def Shelf.put (s : Shelf) (who : Nat) (e : Entry) : Shelf := ⟨s.next, s.tables.set who ((s.tables.getD who default).put e), s.things⟩
def Shelf.plus (s : Shelf) (res rep : Int) : Shelf := ⟨s.next + 1, s.tables, s.things ++ [⟨s.next, res, rep⟩]⟩
def Shelf.fullB (s : Shelf) (who : Nat) : Prop := 12 ≤ (s.tables.getD who default).entries.length ∨ 1000000 ≤ (s.tables.getD who default).next
theorem capB2 {n b : Nat} (h : n ≤ 1048576) (hb : b ≤ 1000) : (n + 1) * b ≤ 140737488355328 :=
 Nat.le_trans (Nat.mul_le_mul (show n + 1 ≤ 1048577 by omega) hb) (by decide)
theorem capN2 {n : Nat} (h : n ≤ 1048576) : n + 1 ≤ 9223372036854775807 := by omega
theorem put_len (s : Shelf) (w : Nat) (e : Entry) : (s.put w e).tables.length = s.tables.length := by simp [Shelf.put]
theorem put_rows {s : Shelf} {w n : Nat} {e : Entry} {es g : Nat → Nat → AV} (hw : w < s.tables.length) (h0 : es w 0 = .i .i64 ((s.tables.getD w default).next + 1)) (h1 : es w 1 = .ow 7 ((s.tables.getD w default).entries.length + 1) g) (hs : ∀ i j, i ≠ w → es i j = elE Table.csO s.tables i j)
  (hg : ∀ i j, i < (s.tables.getD w default).entries.length + 1 → j < 7 → OwEq (g i j) (elE Entry.cs ((s.tables.getD w default).entries ++ [{ e with num := (s.tables.getD w default).next }]) i j)) : ∀ i j, i < n → j < 2 → OwEq (es i j) (elE Table.csO (s.put w e).tables i j) := fun i j hi hj => by
 have hr : elE Table.csO (s.put w e).tables i j = (Table.csO (if i = w then (s.tables.getD w default).put e else s.tables.getD i default)).getD j .any := by
  unfold elE Shelf.put
  rw [getD_set hw]
 rw [hr]
 by_cases e1 : i = w
 ·subst e1
  rw [if_pos rfl]
  rcases (show j = 0 ∨ j = 1 by omega) with rfl | rfl
  ·rw [h0]; exact .refl _
  ·rw [h1]
   exact OwEq.len (by simp [Table.put]) (fun i j _ _ => HoldC.h _ j) hg
 ·rw [if_neg e1, hs i j e1]
  exact .refl _
theorem l19Full_ok (s : Shelf) (h : s.ok) (who : Int) (hw : 0 ≤ who ∧ who < (s.tables.length : Int)) : Ret env.P 55 [rfL s.cs, .i .i64 who] (fun r => r = .b (pb (s.fullB who.toNat))) := by
 have hl : s.tables.length ≤ 1048576 := h.1.1
 have hl2 := entLe h who.toNat
 refine ret_of (nt := 26) (rvs := [.tmp 4]) Tryz.func55 rfl rfl rfl rfl (fun X => ?_)
 repeat' (first | exact aa | ((conv => whnf) <;> (first | refine And.intro ?_ ?_ | (intro _h; first | contradiction | (try simp only [dd] at _h)) | (refine dt_go ?_) | exact rfl | exact True.intro | exact dkk | exact dks | (refine wrap_succ ?_; omega))))
 all_goals (first | refine leaf_f ?_ | refine leaf_t ?_ | refine leaf_p ?_ | (conv => whnf) | skip)
 all_goals (simp only [Shelf.fullB, decide_eq_true_eq] at *; omega)
theorem full_ok (s : Shelf) (h : s.ok) (who : Int) (hw : 0 ≤ who ∧ who < (s.tables.length : Int)) (h1 : (s.tables.getD who.toNat default).entries.length ≤ 12) (h2 : (s.tables.getD who.toNat default).next ≤ 1000000) : Ret env.P 67 [rfL s.cs, .i .i64 who] (fun r => r = .b (pb (s.fullB who.toNat))) := by
 have hl : s.tables.length ≤ 1048576 := h.1.1
 have hl2 := entLe h who.toNat
 refine ret_of (nt := 23) (rvs := [.tmp 4]) Tryz.func67 rfl rfl rfl rfl (fun X => ?_)
 repeat' (first | exact aa | ((conv => whnf) <;> (first | refine And.intro ?_ ?_ | (intro _h; first | contradiction | (try simp only [dd] at _h)) | (refine dt_go ?_) | exact rfl | exact True.intro | exact dkk | exact dks | (refine wrap_succ ?_; omega))))
 all_goals (first | refine leaf_f ?_ | refine leaf_t ?_ | refine leaf_p ?_ | (conv => whnf) | skip)
 all_goals (simp only [Shelf.fullB, decide_eq_true_eq] at *; omega)
set_option maxHeartbeats 2000000 in
theorem add_ok (s : Shelf) (h : s.ok) (who : Int) (hw : 0 ≤ who ∧ who < (s.tables.length : Int)) (e : Entry) (h1 : (s.tables.getD who.toNat default).entries.length < 12) (h2 : 1 ≤ (s.tables.getD who.toNat default).next ∧ (s.tables.getD who.toNat default).next < 1000000) : RetM env.P 68 [some (boxRow s.csO)] [.ptr 0 0 0, .i .i64 who, .agg e.cs] (fun r H => r = .i .i64 (s.tables.getD who.toNat default).next ∧ H = [some (boxRow (s.put who.toNat e).csO)]) := by
 have hl : s.tables.length ≤ 1048576 := h.1.1
 have hw2 : who.toNat < s.tables.length := by omega
 refine ret_ofM (nt := 39) (rvs := [.tmp 6]) Tryz.func68 rfl rfl rfl rfl (fun X hX => ?_)
 repeat' (first | exact aa | ((conv => whnf) <;> (first | exact capB2 (entLe h _) (by decide) | exact capN2 (entLe h _) | refine And.intro ?_ ?_ | (intro _h; first | contradiction | (try simp only [dd] at _h)) | (refine dt_go ?_) | exact rfl | exact True.intro | exact dkk | exact dks | (refine wrap_succ ?_; omega))))
 all_goals (conv => whnf)
 all_goals refine endM_turn (turn_close (id := 2) (i := who.toNat) (j := 1) (id' := 5) rfl hw2 (show 1 < 2 by decide) (by simp only [upd, Nat.beq_refl]; rfl) rfl (show 2 ≠ 5 by decide) rfl ⟨Nat.le_refl _, snoc_idf (l := (s.tables.getD who.toNat default).entries) rfl (fun j hj => HoldC.h (c := Entry.cs) { e with num := (s.tables.getD who.toNat default).next } j)⟩) ?_
 all_goals refine endM_turn (turn_eq (id := 2) (x := rowL 2 Table.csO (s.put who.toNat e).tables) rfl rfl (put_len s _ e) rfl rfl (put_rows hw2 (by simp only [upd, Nat.beq_refl]; show AV.i .i64 (IntKind.i64.wrap ((s.tables.getD who.toNat default).next + 1)) = _; rw [wrap_in (by omega) (by omega)]) (by simp only [upd, Nat.beq_refl]; rfl) (fun i j hne => by simp only [upd, beq_ff hne, Bool.and_false, cond_false]) (snoc_eq (sz := 7) rfl (fun j hj => .refl _)))) ?_
 all_goals refine endM_turn (turn_close (id := 0) (i := 0) (j := 1) (id' := 2) rfl (show 0 < 1 by decide) (show 1 < 3 by decide) rfl rfl (show 0 ≠ 2 by decide) rfl (rowO_le (Nat.le_of_eq (put_len s _ e).symm))) ?_
 all_goals refine endM_turn (turn_box (id := 0) (ds := (s.put who.toNat e).csO) rfl rfl rfl (.cons (.refl _) (.cons (OwEq.len (put_len s _ e).symm (fun i j _ _ => HoldC.h _ j) (fun i j _ _ => .refl _)) (.cons (.refl _) .nil)))) ?_
 all_goals exact endM_pick [0] [some (boxRow (s.put who.toNat e).csO)] (.i .i64 (s.tables.getD who.toNat default).next) (view_of rfl (.cons rfl (.self (rowPl_box rfl)) .nil)) rfl rfl (by rw [hX]; exact keepK (n := 1) rfl rfl) ⟨rfl, rfl⟩
end Go.Proofs.YtmchgnbeoefhhaaGreat
