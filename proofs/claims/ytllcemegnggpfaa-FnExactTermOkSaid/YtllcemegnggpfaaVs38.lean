/- Texts for VTermOkP. -/
import Derived.Test.YtllcemegnggpfaaVs37
namespace Go.Proofs.Ytllcemegnggpfaa
open Go Go.RowKit
set_option linter.unusedVariables false
set_option linter.unusedSimpArgs false
set_option maxRecDepth 8000
section
attribute [local irreducible] IntKind.wrap
noncomputable def tR (L : List Tok) (d : Nat) (k lv : Int) (nm : ByteArray) (ls : List ByteArray) (ts : List Term) (a : Nat) (b : Bool) : Hp := [some (boxRow (pB L a b)), some (boxRow (tO d k nm ls ts)), some (boxRow [.ptr 0 0 0]), some (boxRow [.i .i64 lv])]
noncomputable def tRI (L : List Tok) (d : Nat) (k lv : Int) (nm : ByteArray) (ls : List ByteArray) (ts : List Term) (a : Nat) (b : Bool) : List (Option RowI) := [some (.box (pB L a b)), some (.box (tO d k nm ls ts)), some (.box [.ptr 0 0 0]), some (.box [.i .i64 lv])]
theorem lokK {σ : Nat → Nat} {H' L : Hp} (h : LOkL σ H' L := by repeat' (first | exact LOkL.nil | (refine LOkL.pl ?_ ?_; exact rowPl_box rfl) | refine LOkL.box rfl rfl ?_)) : LOk σ H' L := lok_L h
open Classical in
noncomputable def pCom (L : List Tok) (P : Nat → Option (Term × Nat)) : Nat → List Term → Nat → Option (List Term × Nat)
  | 0, acc, i => match P i with
    | none => none
    | some (t, i) => some (acc ++ [t], i)
  | m + 1, acc, i => match P i with
    | none => none
    | some (t, i) => if isT L ⟨#[44]⟩ i then pCom L P m (acc ++ [t]) (i + 1) else some (acc ++ [t], i)
structure KsI (L : List Tok) (P : Nat → Option (Term × Nat)) (o : Option (List Term × Nat)) (y : List Term × Nat) : Prop where
  len : y.1.length ≤ 5
  at_ : y.2 < L.length
  go : pCom L P (5 - y.1.length) y.1 y.2 = o
theorem pCom_none {L : List Tok} {P : Nat → Option (Term × Nat)} {m i : Nat} {ts : List Term} (hp : P i = none) : pCom L P m ts i = none := by cases m <;> simp [pCom, hp]
theorem pCom_end {L : List Tok} {P : Nat → Option (Term × Nat)} {m i i2 : Nat} {ts : List Term} {t : Term} (hp : P i = some (t, i2)) (h : m = 0 ∨ ¬ isT L ⟨#[44]⟩ i2) : pCom L P m ts i = some (ts ++ [t], i2) := by
  cases m with
  | zero => simp [pCom, hp]
  | succ m => rcases h with h | h
              · cases h
              · simp [pCom, hp, h]
theorem pCom_go {L : List Tok} {P : Nat → Option (Term × Nat)} {m i i2 : Nat} {ts : List Term} {t : Term} (hp : P i = some (t, i2)) (h : isT L ⟨#[44]⟩ i2) : pCom L P (m + 1) ts i = pCom L P m (ts ++ [t]) (i2 + 1) := by simp [pCom, hp, h]
theorem dg44 : ¬ isDg (byI ⟨#[44]⟩ 0) := by unfold isDg byI; decide
set_option maxHeartbeats 8000000 in
theorem commasK_f (L : List Tok) (hL : LexOk L) (d : Nat) (hd : d ≤ 4) (hT : SpI L d) (a : Nat) (ha : a < L.length) (lv : Int) (hlv : lv + 1 = 5 - d) (k : Int) (nm : ByteArray) : RetM env.P 49 (tR L d k lv nm [] [] a false) [.ptr 0 0 0, .i .i64 6, .fn 47 [.ptr 1 0 0, .ptr 2 0 0, .ptr 3 0 0]] (fun r H => r = .tup [] ∧ ((∃ ts a', pCom L (pTerm L d) 5 [] a = some (ts, a') ∧ a' < L.length ∧ ts.length ≤ 6 ∧ H = tR L d k lv nm [] ts a' false) ∨ (pCom L (pTerm L d) 5 [] a = none ∧ ∃ ts a', a' < L.length ∧ ts.length ≤ 6 ∧ H = tR L d k lv nm [] ts a' true))) := by
  refine ret_ofM (nt := 30) (rvs := []) Try.func49 rfl rfl rfl rfl (fun X hX => ?_)
  repeat' (first | omega | (with_reducible show (_ : Int) < _; dsimp only; omega) | (with_reducible show (_ : Nat) ≤ _; dsimp only; omega) | ((with_reducible show SrcOk _ _ _) <;> (first | exact srcOk_1 rfl | exact srcOk_L (fun _ => ⟨rfl, rfl⟩) | exact srcOk_E (fun _ => ⟨rfl, rfl⟩))) | ((conv => whnf) <;> (first | ((with_reducible show LW _ _ _ _ _ _ _); refine loopFT (fun y : List Term × Nat => [(6, .i .i64 ((y.1.length : Int) + 1))]) (fun y => tRI L d k lv nm [] y.1 y.2 false) (KsI L (pTerm L d) (pCom L (pTerm L d) 5 [] a)) (fun y => 6 - y.1.length) ([], a) ⟨⟨by simp, ha, rfl⟩, ?_⟩) | ((with_reducible show ∀ _, KsI _ _ _ _ → _); intro y hy; have hy1 := hy.len; have hy2 := hy.at_) | (refine .inr (.inl (.inl ⟨[0, 1, 2, 3], _, _, _, kidI_f L hL d hd hT y.2 hy2 lv hlv k nm [] y.1 (by omega), viewK, ⟨rfl, rfl⟩, ?_⟩)); (rintro _ _ ⟨rfl, (⟨x, a', hp, ha', rfl⟩ | ⟨hp, x, a', ha', rfl⟩)⟩); refine ⟨rfl, tR L d k lv nm [] (y.1 ++ [x]) a' false, lokK, ?_⟩; rotate_left 1; refine ⟨rfl, tR L d k lv nm [] (y.1 ++ [x]) a' true, lokK, ?_⟩) | refine And.intro ?_ ?_ | (intro _h; first | contradiction | (try simp only [dd] at _h)) | (refine dt_go ?_) | exact rfl | exact True.intro | exact dkk | exact dks | (refine .inr (.inl (.inl ⟨[0], _, _, _, takeI_o L hL _ _ dg44 ?_, viewA, ⟨rfl, rfl⟩, ?_⟩)); rotate_left 1; (rintro _ _ (⟨_ht, _, rfl, rfl⟩ | ⟨_ht, rfl, rfl⟩)) <;> (refine ⟨rfl, _, lokA, ?_⟩)) | (refine wrap_succ ?_; omega))))
  all_goals (first | (conv => whnf) | skip)
  all_goals first
    | exact endM_self ⟨rfl, .inr ⟨hy.go.symm.trans (pCom_none hp), y.1 ++ [x], a', ha', (by simp only [List.length_append, List.length_singleton]; omega), rfl⟩⟩
    | exact endM_self ⟨rfl, .inl ⟨y.1 ++ [x], a', hy.go.symm.trans (pCom_end hp (.inr _ht)), ha', (by simp only [List.length_append, List.length_singleton]; omega), rfl⟩⟩
    | exact endM_self ⟨rfl, .inl ⟨y.1 ++ [x], a', hy.go.symm.trans (pCom_end hp (.inl (by omega))), ha', (by simp only [List.length_append, List.length_singleton]; omega), rfl⟩⟩
    | (have h4 : y.1.length ≤ 4 := by omega
       have hg : pCom L (pTerm L d) (5 - (y.1 ++ [x]).length) (y.1 ++ [x]) (a' + 1) = pCom L (pTerm L d) 5 [] a := by
         rw [← hy.go, show 5 - y.1.length = (5 - (y.1 ++ [x]).length) + 1 by simp only [List.length_append, List.length_singleton]; omega]
         exact (pCom_go hp _ht).symm
       have hk : IntKind.i64.wrap ((y.1.length : Int) + 1 + 1) = ((y.1 ++ [x]).length : Int) + 1 := by
         rw [wrap_in (by omega) (by omega)]; simp only [List.length_append, List.length_singleton]; omega
       refine roundET_end ⟨(y.1 ++ [x], a' + 1), [], ⟨(by simp only [List.length_append, List.length_singleton]; omega), (by assumption), hg⟩, (by simp only [List.length_append, List.length_singleton]; omega), ?_⟩
       repeat' (first | omega | (with_reducible show (_ : Int) < _; dsimp only; omega) | (with_reducible show (_ : Nat) ≤ _; dsimp only; omega) | ((with_reducible show SrcOk _ _ _) <;> (first | exact srcOk_1 rfl | exact srcOk_L (fun _ => ⟨rfl, rfl⟩) | exact srcOk_E (fun _ => ⟨rfl, rfl⟩))) | ((conv => whnf) <;> (first | exact hk | exact fx_T (show 2 < 3 by decide) | exact low_cells rfl | exact keeps0_nil _ _ | refine And.intro ?_ ?_ | (intro _h; first | contradiction | (try simp only [dd] at _h)) | (refine dt_go ?_) | exact rfl | exact True.intro | exact dkk | exact dks | (refine wrap_succ ?_; omega)))))
end
section
attribute [local irreducible] IntKind.wrap
theorem kidP_own {d k : Nat} {l : List Term} {g : Nat → Nat → AV} {x : Term} {cs : List AV} {w : World} {S : Nat → Prop} {blk : Nat → BC} {H : Hp} {u : Value} {fp : List Nat} (hk : k = l.length) (hl : cs.length = 4) (hc : ∀ j, j < 4 → Own w S blk H (cs.getD j .any) u fp → Own w S blk H ((Term.pO (d + 1) x).getD j .any) u fp) {i j : Nat} (hi : i < k + 1) (hj : j < 4) (h : Own w S blk H (upd (catE k (elE (Term.pO (d + 1)) l) g) k 0 cs i j) u fp) : Own w S blk H (elE (Term.pO (d + 1)) (l ++ [x]) i j) u fp := by
  by_cases e : i = k
  · subst e
    have h1 : upd (catE i (elE (Term.pO (d + 1)) l) g) i 0 cs i j = cs.getD j .any := by
      have := upd_in (es := catE i (elE (Term.pO (d + 1)) l) g) (j := i) (off := 0) (cs := cs) (k := j) (by omega)
      rw [Nat.zero_add] at this
      rw [this, List.getD_eq_getElem?_getD, List.getElem?_eq_getElem (by omega)]
      rfl
    have h2 : elE (Term.pO (d + 1)) (l ++ [x]) i j = (Term.pO (d + 1) x).getD j .any := by
      unfold elE
      rw [List.getD_eq_getElem?_getD (l := l ++ [x]), List.getElem?_append_right (by omega), hk, Nat.sub_self]
      rfl
    rw [h1] at h
    rw [h2]
    exact hc j hj h
  · rw [upd_miss e, catE_at, if_pos (by omega)] at h
    unfold elE at h ⊢
    rw [List.getD_eq_getElem?_getD (l := l ++ [x]), List.getElem?_append_left (by omega), ← List.getD_eq_getElem?_getD]
    exact h
theorem unitO_own {d : Nat} {w : World} {S : Nat → Prop} {blk : Nat → BC} {H : Hp} {u : Value} {fp : List Nat} : ∀ j, j < 4 → Own w S blk H ([AV.i .i64 1, .s ByteArray.empty, .nils, .nils].getD j .any) u fp → Own w S blk H ((Term.pO (d + 1) unitM).getD j .any) u fp := fun j hj h => by
  rcases (show j = 0 ∨ j = 1 ∨ j = 2 ∨ j = 3 by omega) with rfl | rfl | rfl | rfl
  · exact h
  · exact h
  · exact h.eqv (.nil _ _)
  · exact h.eqv (.nil _ _)
set_option maxHeartbeats 8000000 in
theorem rl8_f (L : List Tok) (d : Nat) (k lv : Int) (nm : ByteArray) (ls : List ByteArray) (ts : List Term) (i : Nat) {X : Ctx} (hl2 : ts.length ≤ 17) : DT env 58 X 8 (regP Try.f53 8) [(0, .ptr 0 0 0), (1, .ptr 1 0 0), (2, .fn 47 [.ptr 1 0 0, .ptr 2 0 0, .ptr 3 0 0])] (tR L d k lv nm ls ts i false ++ [none, none, none]) (thn (Cut 58 X (fun y : Unit => True) (fun y => [(0, .ptr 0 0 0), (1, .ptr 1 0 0), (2, .fn 47 [.ptr 1 0 0, .ptr 2 0 0, .ptr 3 0 0])]) (fun y => tR L d k lv nm ls (ts ++ [unitM]) i false ++ [none, none, none, none, none, none])) fun _ _ _ => False) := by
  refine dt_turn (turn_open (id := 1) (i := 0) (j := 3) rfl (show 0 < 1 by decide) (show 3 < 4 by decide) rfl) (dt_goH 4 [0, 1] rfl ?_)
  refine ⟨by decide +kernel, ?_⟩
  repeat' (first | omega | (with_reducible show (_ : Int) < _; dsimp only; omega) | (with_reducible show (_ : Nat) ≤ _; dsimp only; omega) | ((with_reducible show SrcOk _ _ _) <;> (first | exact srcOk_1 rfl | exact srcOk_L (fun _ => ⟨rfl, rfl⟩) | exact srcOk_E (fun _ => ⟨rfl, rfl⟩))) | ((conv => whnf) <;> (first | exact tcapL (by omega) | exact tcapN (by omega) | exact srcOk_1 rfl | refine And.intro ?_ ?_ | (intro _h; first | contradiction | (try simp only [dd] at _h)) | (refine dt_go ?_) | exact rfl | exact True.intro | exact dkk | exact dks | (refine wrap_succ ?_; omega))))
  all_goals (first | (conv => whnf) | skip)
  all_goals
    refine cut_turn (turn_eqG (id := 9) (x := rowL 4 (Term.pO (d + 1)) (ts ++ [unitM])) rfl rfl (by simp [rowL]) rfl rfl (fun i j hi hj w S blk u fp h => kidP_own (cs := [AV.i .i64 1, .s ByteArray.empty, .nils, .nils]) (by simp) rfl unitO_own hi hj h)) ?_
    refine cut_turn (turn_close (id := 1) (i := 0) (j := 3) (id' := 9) (n := ts.length + 1) rfl (show 0 < 1 by decide) (show 3 < 4 by decide) rfl rfl (show 1 ≠ 9 by decide) rfl (rowO_le (by simp))) ?_
    refine cut_turn (turn_box (id := 1) (ds := tO d k nm ls (ts ++ [unitM])) rfl rfl rfl (.cons (.refl _) (.cons (.refl _) (.cons (.refl _) (.cons (ow_len (g := elE (Term.pO (d + 1)) (ts ++ [unitM])) (by simp)) .nil))))) ?_
    exact cut_go () trivial (by repeat' (first | exact trivial | refine And.intro rfl ?_)) (by repeat' (first | exact trivial | refine And.intro (.inl rfl) ?_ | refine And.intro (.inr rfl) ?_ | refine And.intro rfl ?_))
set_option maxHeartbeats 8000000 in
theorem rl8_t (L : List Tok) (d : Nat) (k lv : Int) (nm : ByteArray) (ls : List ByteArray) (ts : List Term) (i : Nat) {X : Ctx} (hl2 : ts.length ≤ 17) : DT env 58 X 8 (regP Try.f53 8) [(0, .ptr 0 0 0), (1, .ptr 1 0 0), (2, .fn 47 [.ptr 1 0 0, .ptr 2 0 0, .ptr 3 0 0])] (tR L d k lv nm ls ts i true ++ [none, none, none]) (thn (Cut 58 X (fun y : Unit => True) (fun y => [(0, .ptr 0 0 0), (1, .ptr 1 0 0), (2, .fn 47 [.ptr 1 0 0, .ptr 2 0 0, .ptr 3 0 0])]) (fun y => tR L d k lv nm ls (ts ++ [unitM]) i true ++ [none, none, none, none, none, none])) fun _ _ _ => False) := by
  refine dt_turn (turn_open (id := 1) (i := 0) (j := 3) rfl (show 0 < 1 by decide) (show 3 < 4 by decide) rfl) (dt_goH 4 [0, 1] rfl ?_)
  refine ⟨by decide +kernel, ?_⟩
  repeat' (first | omega | (with_reducible show (_ : Int) < _; dsimp only; omega) | (with_reducible show (_ : Nat) ≤ _; dsimp only; omega) | ((with_reducible show SrcOk _ _ _) <;> (first | exact srcOk_1 rfl | exact srcOk_L (fun _ => ⟨rfl, rfl⟩) | exact srcOk_E (fun _ => ⟨rfl, rfl⟩))) | ((conv => whnf) <;> (first | exact tcapL (by omega) | exact tcapN (by omega) | exact srcOk_1 rfl | refine And.intro ?_ ?_ | (intro _h; first | contradiction | (try simp only [dd] at _h)) | (refine dt_go ?_) | exact rfl | exact True.intro | exact dkk | exact dks | (refine wrap_succ ?_; omega))))
  all_goals (first | (conv => whnf) | skip)
  all_goals
    refine cut_turn (turn_eqG (id := 9) (x := rowL 4 (Term.pO (d + 1)) (ts ++ [unitM])) rfl rfl (by simp [rowL]) rfl rfl (fun i j hi hj w S blk u fp h => kidP_own (cs := [AV.i .i64 1, .s ByteArray.empty, .nils, .nils]) (by simp) rfl unitO_own hi hj h)) ?_
    refine cut_turn (turn_close (id := 1) (i := 0) (j := 3) (id' := 9) (n := ts.length + 1) rfl (show 0 < 1 by decide) (show 3 < 4 by decide) rfl rfl (show 1 ≠ 9 by decide) rfl (rowO_le (by simp))) ?_
    refine cut_turn (turn_box (id := 1) (ds := tO d k nm ls (ts ++ [unitM])) rfl rfl rfl (.cons (.refl _) (.cons (.refl _) (.cons (.refl _) (.cons (ow_len (g := elE (Term.pO (d + 1)) (ts ++ [unitM])) (by simp)) .nil))))) ?_
    exact cut_go () trivial (by repeat' (first | exact trivial | refine And.intro rfl ?_)) (by repeat' (first | exact trivial | refine And.intro (.inl rfl) ?_ | refine And.intro (.inr rfl) ?_ | refine And.intro rfl ?_))
set_option maxHeartbeats 8000000 in
theorem rr2_f (L : List Tok) (d : Nat) (k lv : Int) (nm : ByteArray) (ls : List ByteArray) (ts : List Term) (i : Nat) {X : Ctx} (hl2 : ts.length ≤ 17) : DT env 46 X 2 (regP Try.f51 2) [(0, .ptr 0 0 0), (1, .ptr 1 0 0), (2, .fn 47 [.ptr 1 0 0, .ptr 2 0 0, .ptr 3 0 0])] (tR L d k lv nm ls ts i false ++ []) (thn (Cut 46 X (fun y : Unit => True) (fun y => [(0, .ptr 0 0 0), (1, .ptr 1 0 0), (2, .fn 47 [.ptr 1 0 0, .ptr 2 0 0, .ptr 3 0 0])]) (fun y => tR L d k lv nm ls (ts ++ [unitM]) i false ++ [none, none, none])) fun _ _ _ => False) := by
  refine dt_turn (turn_open (id := 1) (i := 0) (j := 3) rfl (show 0 < 1 by decide) (show 3 < 4 by decide) rfl) (dt_goH 4 [0, 1] rfl ?_)
  refine ⟨by decide +kernel, ?_⟩
  repeat' (first | omega | (with_reducible show (_ : Int) < _; dsimp only; omega) | (with_reducible show (_ : Nat) ≤ _; dsimp only; omega) | ((with_reducible show SrcOk _ _ _) <;> (first | exact srcOk_1 rfl | exact srcOk_L (fun _ => ⟨rfl, rfl⟩) | exact srcOk_E (fun _ => ⟨rfl, rfl⟩))) | ((conv => whnf) <;> (first | exact tcapL (by omega) | exact tcapN (by omega) | exact srcOk_1 rfl | refine And.intro ?_ ?_ | (intro _h; first | contradiction | (try simp only [dd] at _h)) | (refine dt_go ?_) | exact rfl | exact True.intro | exact dkk | exact dks | (refine wrap_succ ?_; omega))))
  all_goals (first | (conv => whnf) | skip)
  all_goals
    refine cut_turn (turn_eqG (id := 6) (x := rowL 4 (Term.pO (d + 1)) (ts ++ [unitM])) rfl rfl (by simp [rowL]) rfl rfl (fun i j hi hj w S blk u fp h => kidP_own (cs := [AV.i .i64 1, .s ByteArray.empty, .nils, .nils]) (by simp) rfl unitO_own hi hj h)) ?_
    refine cut_turn (turn_close (id := 1) (i := 0) (j := 3) (id' := 6) (n := ts.length + 1) rfl (show 0 < 1 by decide) (show 3 < 4 by decide) rfl rfl (show 1 ≠ 6 by decide) rfl (rowO_le (by simp))) ?_
    refine cut_turn (turn_box (id := 1) (ds := tO d k nm ls (ts ++ [unitM])) rfl rfl rfl (.cons (.refl _) (.cons (.refl _) (.cons (.refl _) (.cons (ow_len (g := elE (Term.pO (d + 1)) (ts ++ [unitM])) (by simp)) .nil))))) ?_
    exact cut_go () trivial (by repeat' (first | exact trivial | refine And.intro rfl ?_)) (by repeat' (first | exact trivial | refine And.intro (.inl rfl) ?_ | refine And.intro (.inr rfl) ?_ | refine And.intro rfl ?_))
set_option maxHeartbeats 8000000 in
theorem rr84_f (L : List Tok) (d : Nat) (k lv : Int) (nm : ByteArray) (ls : List ByteArray) (ts : List Term) (i : Nat) {X : Ctx} (hl2 : ts.length ≤ 17) : DT env 46 X 8 (regP Try.f51 8) [(0, .ptr 0 0 0), (1, .ptr 1 0 0), (2, .fn 47 [.ptr 1 0 0, .ptr 2 0 0, .ptr 3 0 0])] (tR L d k lv nm ls ts i false ++ [none, none, none, none]) (thn (Cut 46 X (fun y : Unit => True) (fun y => [(0, .ptr 0 0 0), (1, .ptr 1 0 0), (2, .fn 47 [.ptr 1 0 0, .ptr 2 0 0, .ptr 3 0 0])]) (fun y => tR L d k lv nm ls (ts ++ [unitM]) i false ++ [none, none, none, none, none, none, none])) fun _ _ _ => False) := by
  refine dt_turn (turn_open (id := 1) (i := 0) (j := 3) rfl (show 0 < 1 by decide) (show 3 < 4 by decide) rfl) (dt_goH 4 [0, 1] rfl ?_)
  refine ⟨by decide +kernel, ?_⟩
  repeat' (first | omega | (with_reducible show (_ : Int) < _; dsimp only; omega) | (with_reducible show (_ : Nat) ≤ _; dsimp only; omega) | ((with_reducible show SrcOk _ _ _) <;> (first | exact srcOk_1 rfl | exact srcOk_L (fun _ => ⟨rfl, rfl⟩) | exact srcOk_E (fun _ => ⟨rfl, rfl⟩))) | ((conv => whnf) <;> (first | exact tcapL (by omega) | exact tcapN (by omega) | exact srcOk_1 rfl | refine And.intro ?_ ?_ | (intro _h; first | contradiction | (try simp only [dd] at _h)) | (refine dt_go ?_) | exact rfl | exact True.intro | exact dkk | exact dks | (refine wrap_succ ?_; omega))))
  all_goals (first | (conv => whnf) | skip)
  all_goals
    refine cut_turn (turn_eqG (id := 10) (x := rowL 4 (Term.pO (d + 1)) (ts ++ [unitM])) rfl rfl (by simp [rowL]) rfl rfl (fun i j hi hj w S blk u fp h => kidP_own (cs := [AV.i .i64 1, .s ByteArray.empty, .nils, .nils]) (by simp) rfl unitO_own hi hj h)) ?_
    refine cut_turn (turn_close (id := 1) (i := 0) (j := 3) (id' := 10) (n := ts.length + 1) rfl (show 0 < 1 by decide) (show 3 < 4 by decide) rfl rfl (show 1 ≠ 10 by decide) rfl (rowO_le (by simp))) ?_
    refine cut_turn (turn_box (id := 1) (ds := tO d k nm ls (ts ++ [unitM])) rfl rfl rfl (.cons (.refl _) (.cons (.refl _) (.cons (.refl _) (.cons (ow_len (g := elE (Term.pO (d + 1)) (ts ++ [unitM])) (by simp)) .nil))))) ?_
    exact cut_go () trivial (by repeat' (first | exact trivial | refine And.intro rfl ?_)) (by repeat' (first | exact trivial | refine And.intro (.inl rfl) ?_ | refine And.intro (.inr rfl) ?_ | refine And.intro rfl ?_))
set_option maxHeartbeats 8000000 in
theorem rr84_t (L : List Tok) (d : Nat) (k lv : Int) (nm : ByteArray) (ls : List ByteArray) (ts : List Term) (i : Nat) {X : Ctx} (hl2 : ts.length ≤ 17) : DT env 46 X 8 (regP Try.f51 8) [(0, .ptr 0 0 0), (1, .ptr 1 0 0), (2, .fn 47 [.ptr 1 0 0, .ptr 2 0 0, .ptr 3 0 0])] (tR L d k lv nm ls ts i true ++ [none, none, none, none]) (thn (Cut 46 X (fun y : Unit => True) (fun y => [(0, .ptr 0 0 0), (1, .ptr 1 0 0), (2, .fn 47 [.ptr 1 0 0, .ptr 2 0 0, .ptr 3 0 0])]) (fun y => tR L d k lv nm ls (ts ++ [unitM]) i true ++ [none, none, none, none, none, none, none])) fun _ _ _ => False) := by
  refine dt_turn (turn_open (id := 1) (i := 0) (j := 3) rfl (show 0 < 1 by decide) (show 3 < 4 by decide) rfl) (dt_goH 4 [0, 1] rfl ?_)
  refine ⟨by decide +kernel, ?_⟩
  repeat' (first | omega | (with_reducible show (_ : Int) < _; dsimp only; omega) | (with_reducible show (_ : Nat) ≤ _; dsimp only; omega) | ((with_reducible show SrcOk _ _ _) <;> (first | exact srcOk_1 rfl | exact srcOk_L (fun _ => ⟨rfl, rfl⟩) | exact srcOk_E (fun _ => ⟨rfl, rfl⟩))) | ((conv => whnf) <;> (first | exact tcapL (by omega) | exact tcapN (by omega) | exact srcOk_1 rfl | refine And.intro ?_ ?_ | (intro _h; first | contradiction | (try simp only [dd] at _h)) | (refine dt_go ?_) | exact rfl | exact True.intro | exact dkk | exact dks | (refine wrap_succ ?_; omega))))
  all_goals (first | (conv => whnf) | skip)
  all_goals
    refine cut_turn (turn_eqG (id := 10) (x := rowL 4 (Term.pO (d + 1)) (ts ++ [unitM])) rfl rfl (by simp [rowL]) rfl rfl (fun i j hi hj w S blk u fp h => kidP_own (cs := [AV.i .i64 1, .s ByteArray.empty, .nils, .nils]) (by simp) rfl unitO_own hi hj h)) ?_
    refine cut_turn (turn_close (id := 1) (i := 0) (j := 3) (id' := 10) (n := ts.length + 1) rfl (show 0 < 1 by decide) (show 3 < 4 by decide) rfl rfl (show 1 ≠ 10 by decide) rfl (rowO_le (by simp))) ?_
    refine cut_turn (turn_box (id := 1) (ds := tO d k nm ls (ts ++ [unitM])) rfl rfl rfl (.cons (.refl _) (.cons (.refl _) (.cons (.refl _) (.cons (ow_len (g := elE (Term.pO (d + 1)) (ts ++ [unitM])) (by simp)) .nil))))) ?_
    exact cut_go () trivial (by repeat' (first | exact trivial | refine And.intro rfl ?_)) (by repeat' (first | exact trivial | refine And.intro (.inl rfl) ?_ | refine And.intro (.inr rfl) ?_ | refine And.intro rfl ?_))
end
section
attribute [local irreducible] IntKind.wrap
noncomputable def PSt.tR (L : List Tok) (d : Nat) (k lv : Int) (nm : ByteArray) : PSt → Hp
  | .ok ls ts i => Go.Proofs.Ytllcemegnggpfaa.tR L d k lv nm ls ts i false
  | .bad ls ts i => Go.Proofs.Ytllcemegnggpfaa.tR L d k lv nm ls ts i true
set_option maxHeartbeats 8000000 in
theorem rl0 (L : List Tok) (hL : LexOk L) (d : Nat) (k lv : Int) (nm : ByteArray) (ls : List ByteArray) (ts : List Term) (i : Nat) {X : Ctx} (hl1 : ls.length ≤ 17) (hi : i < L.length) : DT env 58 X 0 (regP Try.f53 0) [(0, .ptr 0 0 0), (1, .ptr 1 0 0), (2, .fn 47 [.ptr 1 0 0, .ptr 2 0 0, .ptr 3 0 0])] (tR L d k lv nm ls ts i false) (thn (Cut 58 X (LbI L ls ts i) (fun y => [(0, .ptr 0 0 0), (1, .ptr 1 0 0), (2, .fn 47 [.ptr 1 0 0, .ptr 2 0 0, .ptr 3 0 0])]) (fun y => y.tR L d k lv nm ++ [none, none, none])) fun _ _ _ => False) := by
  refine dt_turn (turn_open (id := 1) (i := 0) (j := 2) rfl (show 0 < 1 by decide) (show 2 < 4 by decide) rfl) (dt_goH 4 [0, 1] rfl ?_)
  refine ⟨by decide +kernel, ?_⟩
  repeat' (first | omega | (with_reducible show (_ : Int) < _; dsimp only; omega) | (with_reducible show (_ : Nat) ≤ _; dsimp only; omega) | ((with_reducible show SrcOk _ _ _) <;> (first | exact srcOk_1 rfl | exact srcOk_L (fun _ => ⟨rfl, rfl⟩) | exact srcOk_E (fun _ => ⟨rfl, rfl⟩))) | ((conv => whnf) <;> (first | exact tcapL (by omega) | exact tcapN (by omega) | exact srcOk_1 rfl | refine And.intro ?_ ?_ | (intro _h; first | contradiction | (try simp only [dd] at _h)) | (refine dt_go ?_) | exact rfl | exact True.intro | exact dkk | exact dks | (refine .inr (.inl (.inl ⟨[0], _, _, _, nameI_o L hL _ ?_, viewA, ⟨rfl, rfl⟩, ?_⟩)); rotate_left 1; (rintro _ _ (⟨w, hw1, hw2, rfl, rfl⟩ | ⟨hw1, rfl, rfl⟩)) <;> (refine ⟨rfl, _, lokA, ?_⟩)) | (refine wrap_succ ?_; omega))))
  all_goals (first | (conv => whnf) | skip)
  all_goals first
    | (refine cut_turn (turn_eqG (id := 6) (x := rowL 1 strC (ls ++ [w])) rfl rfl (by simp [rowL]) rfl rfl (fun i j hi hj w' S blk u fp h => lab_own (a := w) (by simp) rfl (by simpa [rowL] using hi) hj h)) ?_
       refine cut_turn (turn_close (id := 1) (i := 0) (j := 2) (id' := 6) (n := ls.length + 1) rfl (show 0 < 1 by decide) (show 2 < 4 by decide) rfl rfl (show 1 ≠ 6 by decide) rfl (rowO_le (by simp))) ?_
       refine cut_turn (turn_box (id := 1) (ds := tO d k nm (ls ++ [w]) ts) rfl rfl rfl (.cons (.refl _) (.cons (.refl _) (.cons (ow_len (g := elE strC (ls ++ [w])) (by simp)) (.cons (.refl _) .nil))))) ?_
       exact cut_go (.ok (ls ++ [w]) ts (i + 1)) ⟨w, hw1, rfl, rfl, hw2⟩ (by repeat' (first | exact trivial | refine And.intro rfl ?_)) (by repeat' (first | exact trivial | refine And.intro (.inl rfl) ?_ | refine And.intro (.inr rfl) ?_ | refine And.intro rfl ?_)))
    | (refine cut_turn (turn_eqG (id := 6) (x := rowL 1 strC (ls ++ [(ByteArray.mk #[])])) rfl rfl (by simp [rowL]) rfl rfl (fun i j hi hj w' S blk u fp h => lab_own (a := (ByteArray.mk #[])) (by simp) rfl (by simpa [rowL] using hi) hj h)) ?_
       refine cut_turn (turn_close (id := 1) (i := 0) (j := 2) (id' := 6) (n := ls.length + 1) rfl (show 0 < 1 by decide) (show 2 < 4 by decide) rfl rfl (show 1 ≠ 6 by decide) rfl (rowO_le (by simp))) ?_
       refine cut_turn (turn_box (id := 1) (ds := tO d k nm (ls ++ [(ByteArray.mk #[])]) ts) rfl rfl rfl (.cons (.refl _) (.cons (.refl _) (.cons (ow_len (g := elE strC (ls ++ [(ByteArray.mk #[])])) (by simp)) (.cons (.refl _) .nil))))) ?_
       exact cut_go (.bad (ls ++ [(ByteArray.mk #[])]) ts i) ⟨hw1, ⟨(ByteArray.mk #[]), rfl⟩, rfl, hi⟩ (by repeat' (first | exact trivial | refine And.intro rfl ?_)) (by repeat' (first | exact trivial | refine And.intro (.inl rfl) ?_ | refine And.intro (.inr rfl) ?_ | refine And.intro rfl ?_)))
theorem dg58 : ¬ isDg (byI ⟨#[58]⟩ 0) := by unfold isDg byI; decide
theorem dg40 : ¬ isDg (byI ⟨#[40]⟩ 0) := by unfold isDg byI; decide
theorem dg41 : ¬ isDg (byI ⟨#[41]⟩ 0) := by unfold isDg byI; decide
end
section
attribute [local irreducible] IntKind.wrap
set_option maxHeartbeats 8000000 in
theorem labelI_f (L : List Tok) (hL : LexOk L) (d : Nat) (hd : d ≤ 4) (hT : SpI L d) (a : Nat) (ha : a < L.length) (lv : Int) (hlv : lv + 1 = 5 - d) (k : Int) (nm : ByteArray) (ls : List ByteArray) (ts : List Term) (hl1 : ls.length ≤ 16) (hl2 : ts.length ≤ 16) : RetM env.P 53 (tR L d k lv nm ls ts a false) [.ptr 0 0 0, .ptr 1 0 0, .fn 47 [.ptr 1 0 0, .ptr 2 0 0, .ptr 3 0 0]] (fun r H => r = .tup [] ∧ ((∃ w i1 T a', pName L a = some (w, i1) ∧ pLab L (pTerm L d) k i1 = some (T, a') ∧ a' < L.length ∧ T.length ≤ 1 ∧ H = tR L d k lv nm (ls ++ [w]) (ts ++ T) a' false) ∨ ((pName L a = none ∨ ∃ w i1, pName L a = some (w, i1) ∧ pLab L (pTerm L d) k i1 = none) ∧ ∃ w T a', a' < L.length ∧ T.length ≤ 1 ∧ H = tR L d k lv nm (ls ++ [w]) (ts ++ T) a' true))) := by
  refine ret_ofM (nt := 58) (rvs := []) Try.func53 rfl rfl rfl rfl (fun X hX => ?_)
  repeat' (first | omega | (with_reducible show (_ : Int) < _; dsimp only; omega) | (with_reducible show (_ : Nat) ≤ _; dsimp only; omega) | ((with_reducible show SrcOk _ _ _) <;> (first | exact srcOk_1 rfl | exact srcOk_L (fun _ => ⟨rfl, rfl⟩) | exact srcOk_E (fun _ => ⟨rfl, rfl⟩))) | ((conv => whnf) <;> (first | ((with_reducible show DT _ _ _ 0 _ _ _ _); refine dt_cutR (by repeat' (first | exact trivial | refine And.intro rfl ?_)) (rl0 L hL d k lv nm ls ts a (by omega) ha) (LbI.both (fun w i1 hw1 hi1 => ?_) (fun w i1 hw1 hi1 => ?_))) | ((with_reducible show DT _ _ _ 8 _ _ _ _); first | refine dt_cutR (by repeat' (first | exact trivial | refine And.intro rfl ?_)) (rl8_f L d k lv nm (ls ++ [w]) ts i1 (by omega)) (fun _ _ => ?_) | refine dt_cutR (by repeat' (first | exact trivial | refine And.intro rfl ?_)) (rl8_t L d k lv nm (ls ++ [w]) ts i1 (by omega)) (fun _ _ => ?_)) | (refine .inr (.inl (.inl ⟨[0, 1, 2, 3], _, _, _, kidI_f L hL d hd hT _ ?_ lv hlv k nm (ls ++ [w]) ts (by omega), viewK, ⟨rfl, rfl⟩, ?_⟩)); rotate_left 1; (rintro _ _ ⟨rfl, (⟨x, a', hp, ha', rfl⟩ | ⟨hp, x, a', ha', rfl⟩)⟩); refine ⟨rfl, tR L d k lv nm (ls ++ [w]) (ts ++ [x]) a' false, lokK, ?_⟩; rotate_left 1; refine ⟨rfl, tR L d k lv nm (ls ++ [w]) (ts ++ [x]) a' true, lokK, ?_⟩) | (refine .inr (.inl (.inl ⟨[0, 1, 2, 3], _, _, _, kidI_b L hL d hd hT _ ?_ lv hlv k nm (ls ++ [w]) ts (by omega), viewK, ⟨rfl, rfl⟩, ?_⟩)); rotate_left 1; (rintro _ _ ⟨rfl, x, a', ha', rfl⟩); refine ⟨rfl, tR L d k lv nm (ls ++ [w]) (ts ++ [x]) a' true, lokK, ?_⟩) | refine And.intro ?_ ?_ | (intro _h; first | contradiction | (try simp only [dd] at _h)) | (refine dt_go ?_) | exact rfl | exact True.intro | exact dkk | exact dks | (refine .inr (.inl (.inl ⟨[0], _, _, _, needI_o L hL _ _ dg58 ?_, viewA, ⟨rfl, rfl⟩, ?_⟩)); rotate_left 1; (rintro _ _ (⟨_hm, _, rfl, rfl⟩ | ⟨_hm, rfl, rfl⟩)) <;> (refine ⟨rfl, _, lokA, ?_⟩)) | (refine .inr (.inl (.inl ⟨[0], _, _, _, needI_o L hL _ _ dg41 ?_, viewA, ⟨rfl, rfl⟩, ?_⟩)); rotate_left 1; (rintro _ _ (⟨_hm, _, rfl, rfl⟩ | ⟨_hm, rfl, rfl⟩)) <;> (refine ⟨rfl, _, lokA, ?_⟩)) | (refine .inr (.inl (.inl ⟨[0], _, _, _, needI_b L hL _ ?_ _, viewA, ⟨rfl, rfl⟩, ?_⟩)); rotate_left 1; (rintro _ _ ⟨rfl, rfl⟩) <;> (refine ⟨rfl, _, lokA, ?_⟩)) | (refine .inr (.inl (.inl ⟨[0], _, _, _, takeI_o L hL _ _ dg40 ?_, viewA, ⟨rfl, rfl⟩, ?_⟩)); rotate_left 1; (rintro _ _ (⟨_ht, _, rfl, rfl⟩ | ⟨_ht, rfl, rfl⟩)) <;> (refine ⟨rfl, _, lokA, ?_⟩)) | (refine .inr (.inl (.inl ⟨[0], _, _, _, takeI_b L hL _ ?_ _, viewA, ⟨rfl, rfl⟩, ?_⟩)); rotate_left 1; (rintro _ _ ⟨rfl, rfl⟩) <;> (refine ⟨rfl, _, lokA, ?_⟩)) | (refine wrap_succ ?_; omega))))
  all_goals (first | (conv => whnf) | skip)
  all_goals try first
    | (have _g := x; first | (have hq : pLab L (pTerm L d) k i1 = some ([x], a') := by simp [pLab, *]) | (have hq : pLab L (pTerm L d) k i1 = some ([x], a' + 1) := by simp [pLab, *]) | (have hq : pLab L (pTerm L d) k i1 = none := by simp [pLab, *]))
    | (have hq : pLab L (pTerm L d) k i1 = some ([unitM], i1) := by simp [pLab, *])
    | (have hq : pLab L (pTerm L d) k i1 = some ([], i1) := by simp [pLab, *])
    | (have hq : pLab L (pTerm L d) k i1 = none := by simp [pLab, *])
  all_goals first
    | (have _g := x; exact endM_pick [0, 1, 2, 3] (tR L d k lv nm (ls ++ [w]) (ts ++ [x]) _ false) (.tup []) viewK rfl rfl (by rw [hX]; exact keepK (n := 4) rfl rfl) ⟨rfl, .inl ⟨w, i1, [x], _, hw1, hq, (by assumption), (by simp), rfl⟩⟩)
    | (have _g : k = 17 := (by assumption); exact endM_pick [0, 1, 2, 3] (tR L d k lv nm (ls ++ [w]) (ts ++ [unitM]) _ false) (.tup []) viewK rfl rfl (by rw [hX]; exact keepK (n := 4) rfl rfl) ⟨rfl, .inl ⟨w, i1, [unitM], _, hw1, hq, (by assumption), (by simp), rfl⟩⟩)
    | (skip; exact endM_pick [0, 1, 2, 3] (tR L d k lv nm (ls ++ [w]) ts _ false) (.tup []) viewK rfl rfl (by rw [hX]; exact keepK (n := 4) rfl rfl) ⟨rfl, .inl ⟨w, i1, [], _, hw1, hq, (by assumption), (by simp), (by rw [List.append_nil])⟩⟩)
    | (have _g := x; exact endM_pick [0, 1, 2, 3] (tR L d k lv nm (ls ++ [w]) (ts ++ [x]) _ true) (.tup []) viewK rfl rfl (by rw [hX]; exact keepK (n := 4) rfl rfl) ⟨rfl, .inr ⟨(by first | exact .inl hw1 | exact .inr ⟨w, i1, hw1, hq⟩), w, [x], _, (by assumption), (by simp), rfl⟩⟩)
    | (have _g : k = 17 := (by assumption); exact endM_pick [0, 1, 2, 3] (tR L d k lv nm (ls ++ [w]) (ts ++ [unitM]) _ true) (.tup []) viewK rfl rfl (by rw [hX]; exact keepK (n := 4) rfl rfl) ⟨rfl, .inr ⟨(by first | exact .inl hw1 | exact .inr ⟨w, i1, hw1, hq⟩), w, [unitM], _, (by assumption), (by simp), rfl⟩⟩)
    | (skip; exact endM_pick [0, 1, 2, 3] (tR L d k lv nm (ls ++ [w]) ts _ true) (.tup []) viewK rfl rfl (by rw [hX]; exact keepK (n := 4) rfl rfl) ⟨rfl, .inr ⟨(by first | exact .inl hw1 | exact .inr ⟨w, i1, hw1, hq⟩), w, [], _, (by assumption), (by simp), (by rw [List.append_nil])⟩⟩)
end
section
theorem isT_one {L : List Tok} {i : Nat} {s t : ByteArray} (h : isT L s i) (hne : s ≠ t) : ¬ isT L t i := fun q => hne (h.2.symm.trans q.2)
open Classical in
theorem pList_com {L : List Tok} {P : Nat → Option (Term × Nat)} : ∀ (m : Nat) (acc : List Term) (i : Nat), pList L P m acc i = match pCom L P m acc i with
    | none => none
    | some (ts, j) => if isT L ⟨#[62]⟩ j then some (ts, j + 1) else none := by
  intro m
  induction m with
  | zero =>
    intro acc i
    simp only [pList, pCom]
    cases P i with
    | none => rfl
    | some x => rfl
  | succ m ih =>
    intro acc i
    simp only [pList, pCom]
    cases P i with
    | none => rfl
    | some x =>
      obtain ⟨t, j⟩ := x
      dsimp only
      by_cases hc : isT L ⟨#[44]⟩ j
      · rw [if_neg (isT_one hc (by decide)), if_pos hc]
        have : pNeed L ⟨#[44]⟩ j = some (j + 1) := if_pos hc
        rw [this]
        exact ih _ _
      · rw [if_neg hc]
        have : pNeed L ⟨#[44]⟩ j = none := if_neg hc
        rw [this]
open Classical in
noncomputable def pComL (L : List Tok) (P : Nat → Option (Term × Nat)) (k : Int) : Nat → List ByteArray → List Term → Nat → Option ((List ByteArray × List Term) × Nat)
  | 0, ls, ts, i => match pName L i with
    | none => none
    | some (w, i) => match pLab L P k i with
      | none => none
      | some (t, i) => some ((ls ++ [w], ts ++ t), i)
  | m + 1, ls, ts, i => match pName L i with
    | none => none
    | some (w, i) => match pLab L P k i with
      | none => none
      | some (t, i) => if isT L ⟨#[44]⟩ i then pComL L P k m (ls ++ [w]) (ts ++ t) (i + 1) else some ((ls ++ [w], ts ++ t), i)
open Classical in
theorem pLabs_com {L : List Tok} {P : Nat → Option (Term × Nat)} {k : Int} : ∀ (m : Nat) (ls : List ByteArray) (ts : List Term) (i : Nat), pLabs L P k m ls ts i = match pComL L P k m ls ts i with
    | none => none
    | some (x, j) => if isT L ⟨#[125]⟩ j then some (x, j + 1) else none := by
  intro m
  induction m with
  | zero =>
    intro ls ts i
    simp only [pLabs, pComL]
    cases pName L i with
    | none => rfl
    | some y =>
      obtain ⟨w, i1⟩ := y
      dsimp only
      cases pLab L P k i1 with
      | none => rfl
      | some x => rfl
  | succ m ih =>
    intro ls ts i
    simp only [pLabs, pComL]
    cases pName L i with
    | none => rfl
    | some y =>
      obtain ⟨w, i1⟩ := y
      dsimp only
      cases pLab L P k i1 with
      | none => rfl
      | some x =>
        obtain ⟨t, j⟩ := x
        dsimp only
        by_cases hc : isT L ⟨#[44]⟩ j
        · rw [if_neg (isT_one hc (by decide)), if_pos hc]
          have : pNeed L ⟨#[44]⟩ j = some (j + 1) := if_pos hc
          rw [this]
          exact ih _ _ _
        · rw [if_neg hc]
          have : pNeed L ⟨#[44]⟩ j = none := if_neg hc
          rw [this]
end
end Go.Proofs.Ytllcemegnggpfaa
