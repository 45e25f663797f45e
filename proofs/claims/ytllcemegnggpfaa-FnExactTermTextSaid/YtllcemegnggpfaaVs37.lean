/- Texts for VTermOkP. -/
import Derived.Test.YtllcemegnggpfaaVs36
namespace Go.Proofs.Ytllcemegnggpfaa
open Go Go.RowKit
set_option linter.unusedVariables false
set_option linter.unusedSimpArgs false
section
attribute [local irreducible] IntKind.wrap
set_option maxRecDepth 8000 in
set_option maxHeartbeats 8000000 in
theorem kidI_b (L : List Tok) (hL : LexOk L) (d : Nat) (hd : d ≤ 4) (hT : SpI L d) (a : Nat) (ha : a < L.length) (lv : Int) (hlv : lv + 1 = 5 - d) (k : Int) (nm : ByteArray) (ls : List ByteArray) (ts : List Term) (hl : ts.length ≤ 17) : RetM env.P 47 [some (boxRow (pB L a true)), some (boxRow (tO d k nm ls ts)), some (boxRow [.ptr 0 0 0]), some (boxRow [.i .i64 lv])] [.ptr 1 0 0, .ptr 2 0 0, .ptr 3 0 0] (fun r H => r = .tup [] ∧ ∃ x a', a' < L.length ∧ H = [some (boxRow (pB L a' true)), some (boxRow (tO d k nm ls (ts ++ [x]))), some (boxRow [.ptr 0 0 0]), some (boxRow [.i .i64 lv])]) := by
  have hw : IntKind.i64.wrap (lv + 1) = 5 - d := by rw [wrap_in (by omega) (by omega)]; omega
  refine ret_ofM (nt := 14) (rvs := []) Try.func47 rfl rfl rfl rfl (fun X hX => ?_)
  conv => whnf
  refine dt_turn (turn_open (id := 1) (i := 0) (j := 3) rfl (show 0 < 1 by decide) (show 3 < 4 by decide) rfl) (dt_goH 4 [0, 1] rfl ?_)
  refine ⟨by decide +kernel, ?_⟩
  repeat' (first | omega | (with_reducible show (_ : Int) < _; dsimp only; omega) | (with_reducible show (_ : Nat) ≤ _; dsimp only; omega) | ((with_reducible show SrcOk _ _ _) <;> (first | exact srcOk_1 rfl | exact srcOk_L (fun _ => ⟨rfl, rfl⟩) | exact srcOk_E (fun _ => ⟨rfl, rfl⟩))) | ((conv => whnf) <;> (first | exact tcapL (by omega) | exact tcapN (by omega) | exact srcOk_1 rfl | (refine .inr (.inl (.inl ⟨[0], _, _, _, hT.b _ _ ?_ hw, viewA, ⟨rfl, rfl⟩, ?_⟩)); rotate_left 1; (rintro _ _ ⟨x, a', ha', rfl, rfl⟩) <;> (refine ⟨rfl, _, lokT, ?_⟩)) | refine And.intro ?_ ?_ | (intro _h; first | contradiction | (try simp only [dd] at _h)) | (refine dt_go ?_) | exact rfl | exact True.intro | exact dkk | exact dks | (refine wrap_succ ?_; omega))))
  all_goals (first | (conv => whnf) | skip)
  all_goals first
    | (refine endM_turn (turn_close (id := 8) (i := ts.length) (j := 2) (id' := 5) (n := x.labels.length) rfl (Nat.lt_succ_self _) (show 2 < 4 by decide) (by first | exact rfl | (simp only [upd, Nat.beq_refl]; rfl) | (simp only [upd, Int.toNat_natCast, Nat.beq_refl]; rfl)) rfl (show 8 ≠ 5 by decide) rfl (rowO_L (c := strC) (l := x.labels))) ?_
       refine endM_turn (turn_close (id := 8) (i := ts.length) (j := 3) (id' := 6) (n := x.kids.length) rfl (Nat.lt_succ_self _) (show 3 < 4 by decide) (by first | exact rfl | (simp only [upd, Nat.beq_refl]; rfl) | (simp only [upd, Int.toNat_natCast, Nat.beq_refl]; rfl)) rfl (show 8 ≠ 6 by decide) rfl (rowO_L (c := Term.pO d) (l := x.kids))) ?_)
    | (refine endM_turn (turn_close (id := 8) (i := ts.length) (j := 2) (id' := 6) (n := x.labels.length) rfl (Nat.lt_succ_self _) (show 2 < 4 by decide) (by first | exact rfl | (simp only [upd, Nat.beq_refl]; rfl) | (simp only [upd, Int.toNat_natCast, Nat.beq_refl]; rfl)) rfl (show 8 ≠ 6 by decide) rfl (rowO_L (c := strC) (l := x.labels))) ?_
       refine endM_turn (turn_close (id := 8) (i := ts.length) (j := 3) (id' := 7) (n := x.kids.length) rfl (Nat.lt_succ_self _) (show 3 < 4 by decide) (by first | exact rfl | (simp only [upd, Nat.beq_refl]; rfl) | (simp only [upd, Int.toNat_natCast, Nat.beq_refl]; rfl)) rfl (show 8 ≠ 7 by decide) rfl (rowO_L (c := Term.pO d) (l := x.kids))) ?_)
  all_goals refine endM_turn (turn_eqG (id := 8) (x := rowL 4 (Term.pO (d + 1)) (ts ++ [x])) rfl rfl (by simp [rowL]) rfl rfl (fun i j hi hj w S blk u fp h => kidO_own (by simp) (by simpa [rowL] using hi) hj h)) ?_
  all_goals refine endM_turn (turn_close (id := 1) (i := 0) (j := 3) (id' := 8) (n := ts.length + 1) rfl (show 0 < 1 by decide) (show 3 < 4 by decide) rfl rfl (show 1 ≠ 8 by decide) rfl (rowO_le (by simp))) ?_
  all_goals refine endM_turn (turn_box (id := 1) (ds := tO d k nm ls (ts ++ [x])) rfl rfl rfl (.cons (.refl _) (.cons (.refl _) (.cons (.refl _) (.cons (ow_len (g := elE (Term.pO (d + 1)) (ts ++ [x])) (by simp)) .nil))))) ?_
  all_goals exact endM_pick [0, 1, 2, 3] [some (boxRow (pB L a' true)), some (boxRow (tO d k nm ls (ts ++ [x]))), some (boxRow [.ptr 0 0 0]), some (boxRow [.i .i64 lv])] (.tup []) viewK rfl rfl (by rw [hX]; exact keepK (n := 4) rfl rfl) ⟨rfl, x, a', ha', rfl⟩
end
end Go.Proofs.Ytllcemegnggpfaa
