/- Texts for VTermOkP. -/
import Derived.Test.YtllcemegnggpfaaVs26
namespace Go.Proofs.Ytllcemegnggpfaa
open Go Go.RowKit
set_option linter.unusedVariables false
set_option linter.unusedSimpArgs false
set_option maxRecDepth 8000
section
attribute [local irreducible] IntKind.wrap
section
variable {E : Env} {nt : Nat} {X : Ctx} {f : Fr} {H : Hp}
theorem dt_cut {id : Nat} {ops : Array Oper} {Q : Exit → Fr → Hp → Prop} {α : Type} (I : α → Prop) (gf : α → Fr) (hp : α → Hp)
    (h1 : DT E nt X id ops f H (thn (Cut nt X I gf hp) fun _ _ _ => False)) (h2 : ∀ y, I y → Q .normal (gf y) (hp y)) : DT E nt X id ops f H Q :=
  ⟨fun a w s => wp_mono (h1.pw a w s) fun e a w ⟨f', H', q, s'⟩ => by
    cases e with
    | normal =>
      obtain ⟨⟨y, hI, hs⟩⟩ := q
      exact ⟨gf y, hp y, h2 y hI, hs a w s'⟩
    | _ => exact q.elim⟩
end
def regC (n : Nat) : Code → Option (Array Oper)
  | .region i ops _ => bif Nat.beq i n then some ops else none
  | .seq a b => match regC n a with | some x => some x | none => regC n b
  | .cond _ a b => match regC n a with | some x => some x | none => regC n b
  | .block _ b => regC n b
  | .loop b => regC n b
  | .scope b => regC n b
  | .rangeFunc _ _ a b => match regC n a with | some x => some x | none => regC n b
  | _ => none
def regP (g : Func) (n : Nat) : Array Oper := match g.body with
  | none => #[]
  | some c => (regC n c).getD #[]
section
variable {E : Env} {nt : Nat} {X : Ctx} {f : Fr} {H : Hp}
theorem dt_cutR {id : Nat} {ops : Array Oper} {Q : Exit → Fr → Hp → Prop} {α : Type} {I : α → Prop} {g0 : Fr} {gf : α → Fr} {hp : α → Hp} (hf : frP f g0)
    (h1 : DT E nt X id ops g0 H (thn (Cut nt X I gf hp) fun _ _ _ => False)) (h2 : ∀ y, I y → Q .normal (gf y) (hp y)) : DT E nt X id ops f H Q :=
  dt_cut I gf hp ⟨fun a w ⟨blk, FP, s⟩ => h1.pw a w ⟨blk, FP, s.refr (g := g0) fun t hc => by
    rcases frP_lk hf t with q | q
    · rw [q]; exact .any _
    · rw [q]; exact hc⟩⟩ h2
end
theorem ow_len {s n m : Nat} {g : Nat → Nat → AV} (h : n = m) : OwEq (.ow s n g) (.ow s m g) := h ▸ .refl _
inductive PSt where
  | ok (ls : List ByteArray) (ts : List Term) (i : Nat)
  | bad (ls : List ByteArray) (ts : List Term) (i : Nat)
theorem PSt.both {p : PSt → Prop} (h1 : ∀ ls ts i, p (.ok ls ts i)) (h2 : ∀ ls ts i, p (.bad ls ts i)) : ∀ y, p y
  | .ok ls ts i => h1 ls ts i
  | .bad ls ts i => h2 ls ts i
noncomputable def tB (d : Nat) (k : Int) (ls : List ByteArray) (ts : List Term) : List AV := [.i .i64 k, .s ⟨#[]⟩, .ow 1 ls.length (elE strC ls), .ow 4 ts.length (elE (Term.pN (d + 1)) ts)]
noncomputable def PSt.rows (L : List Tok) (d : Nat) (k : Int) : PSt → Hp
  | .ok ls ts i => [some (boxRow (pB L i false)), some (boxRow (tB d k ls ts))]
  | .bad ls ts i => [some (boxRow (pB L i true)), some (boxRow (tB d k ls ts))]
noncomputable def PSt.rowI (L : List Tok) (d : Nat) (k : Int) : PSt → List (Option RowI)
  | .ok ls ts i => [some (.box (pB L i false)), some (.box (tB d k ls ts))]
  | .bad ls ts i => [some (.box (pB L i true)), some (.box (tB d k ls ts))]
theorem tcapL {n b : Nat} (h : n ≤ 1000) (hb : b ≤ 1000 := by decide) : (n + 1) * b ≤ 140737488355328 := Nat.le_trans (Nat.mul_le_mul (Nat.succ_le_succ h) hb) (by decide)
theorem tcapN {n : Nat} (h : n ≤ 1000) : n + 1 ≤ 9223372036854775807 := by omega
theorem mN_idf : ∀ (n : Nat) (a : Term) (j : Nat), ((Term.pN n a).getD j .any).idf
  | 0, _, _ => trivial
  | n + 1, _, 0 => trivial
  | n + 1, _, 1 => trivial
  | n + 1, _, 2 => fun i j _ _ => match j with
    | 0 => trivial
    | _ + 1 => trivial
  | n + 1, a, 3 => fun i j _ _ => mN_idf n _ j
  | n + 1, _, _ + 4 => trivial
theorem mN_idfO (n : Nat) (a : Term) (j : Nat) : ((Term.pN n a).getD j .any).idfO := match n, j with
  | 0, _ => trivial
  | _ + 1, 0 => trivial
  | _ + 1, 1 => trivial
  | n + 1, 2 => mN_idf (n + 1) a 2
  | n + 1, 3 => mN_idf (n + 1) a 3
  | _ + 1, _ + 4 => trivial
instance mN_hold (n : Nat) : HoldC (Term.pN n) := ⟨mN_idfO n⟩
instance mN_shr (n : Nat) : Shr 0 (Term.pN n) (Term.pN n) := match n with
  | 0 => ⟨fun H k a => .nil⟩
  | _ + 1 => ⟨fun H k a => .cons (stay_shr rfl) (.cons (stay_shr rfl) (.cons (stay_shr rfl) (.cons (stay_shr rfl) .nil)))⟩
theorem kid_own {d k : Nat} {l : List Term} {g : Nat → Nat → AV} {x : Term} {cs : List AV} {w : World} {S : Nat → Prop} {blk : Nat → BC} {H : Hp} {u : Value} {fp : List Nat} (hk : k = l.length) (hl : cs.length = 4) (hc : ∀ j, j < 4 → Own w S blk H (cs.getD j .any) u fp → Own w S blk H ((Term.pN (d + 1) x).getD j .any) u fp) {i j : Nat} (hi : i < k + 1) (hj : j < 4) (h : Own w S blk H (upd (catE k (elE (Term.pN (d + 1)) l) g) k 0 cs i j) u fp) : Own w S blk H (elE (Term.pN (d + 1)) (l ++ [x]) i j) u fp := by
  by_cases e : i = k
  · subst e
    have h1 : upd (catE i (elE (Term.pN (d + 1)) l) g) i 0 cs i j = cs.getD j .any := by
      have := upd_in (es := catE i (elE (Term.pN (d + 1)) l) g) (j := i) (off := 0) (cs := cs) (k := j) (by omega)
      rw [Nat.zero_add] at this
      rw [this, List.getD_eq_getElem?_getD, List.getElem?_eq_getElem (by omega)]
      rfl
    have h2 : elE (Term.pN (d + 1)) (l ++ [x]) i j = (Term.pN (d + 1) x).getD j .any := by
      unfold elE
      rw [List.getD_eq_getElem?_getD (l := l ++ [x]), List.getElem?_append_right (by omega), hk, Nat.sub_self]
      rfl
    rw [h1] at h
    rw [h2]
    exact hc j hj h
  · rw [upd_miss e, catE_at, if_pos (by omega)] at h
    unfold elE at h ⊢
    rw [List.getD_eq_getElem?_getD (l := l ++ [x]), List.getElem?_append_left (by omega), ← List.getD_eq_getElem?_getD]
    exact h
theorem unit_own {d : Nat} {w : World} {S : Nat → Prop} {blk : Nat → BC} {H : Hp} {u : Value} {fp : List Nat} : ∀ j, j < 4 → Own w S blk H ([AV.i .i64 1, .s ByteArray.empty, .nils, .nils].getD j .any) u fp → Own w S blk H ((Term.pN (d + 1) unitM).getD j .any) u fp := fun j hj h => by
  rcases (show j = 0 ∨ j = 1 ∨ j = 2 ∨ j = 3 by omega) with rfl | rfl | rfl | rfl
  · exact h
  · exact h
  · exact own_nils h
  · exact own_nils h
theorem PEq.both {α : Type} {p : α → Prop} {x : α} (h : p x) : ∀ y, y = x → p y := fun y e => e ▸ h
def LbI (L : List Tok) (ls : List ByteArray) (ts : List Term) (i : Nat) : PSt → Prop
  | .ok ls' ts' j => ∃ w, pName L i = some (w, j) ∧ ls' = ls ++ [w] ∧ ts' = ts ∧ j < L.length
  | .bad ls' ts' j => pName L i = none ∧ (∃ w, ls' = ls ++ [w]) ∧ ts' = ts ∧ j < L.length
noncomputable def pLb (L : List Tok) (P : Nat → Option (Term × Nat)) (k : Int) (i : Nat) : Option ((List ByteArray × List Term) × Nat) := match pNeed L ⟨#[123]⟩ i with
  | none => none
  | some i => pLabs L P k 15 [] [] i
def LsI (L : List Tok) (P : Nat → Option (Term × Nat)) (k : Int) (o : Option ((List ByteArray × List Term) × Nat)) : PSt → Prop
  | .ok ls ts i => ls.length ≤ 15 ∧ ts.length ≤ ls.length ∧ i < L.length ∧ pLabs L P k (15 - ls.length) ls ts i = o
  | .bad ls ts i => ls.length ≤ 17 ∧ ts.length ≤ 17 ∧ i < L.length ∧ o = none
def LtI (L : List Tok) (P : Nat → Option (Term × Nat)) (ls : List ByteArray) (ts : List Term) (i : Nat) : PSt → Prop
  | .ok ls' ts' j => ∃ t, P i = some (t, j) ∧ ls' = ls ∧ ts' = ts ++ [t] ∧ j < L.length
  | .bad ls' ts' j => P i = none ∧ ls' = ls ∧ (∃ t, ts' = ts ++ [t]) ∧ j < L.length
def LtB (L : List Tok) (ls : List ByteArray) (ts : List Term) : PSt → Prop
  | .ok ls' ts' j => False
  | .bad ls' ts' j => ls' = ls ∧ (∃ t, ts' = ts ++ [t]) ∧ j < L.length
def LnB (L : List Tok) (ls : List ByteArray) (ts : List Term) : PSt → Prop
  | .ok ls' ts' j => False
  | .bad ls' ts' j => (∃ w, ls' = ls ++ [w]) ∧ ts' = ts ∧ j < L.length
theorem LsI.both {L : List Tok} {P : Nat → Option (Term × Nat)} {k : Int} {o : Option ((List ByteArray × List Term) × Nat)} {p : PSt → Prop} (h1 : ∀ ls ts i, ls.length ≤ 15 → ts.length ≤ ls.length → i < L.length → pLabs L P k (15 - ls.length) ls ts i = o → p (.ok ls ts i)) (h2 : ∀ ls ts i, ls.length ≤ 17 → ts.length ≤ 17 → i < L.length → o = none → p (.bad ls ts i)) : ∀ y, LsI L P k o y → p y
  | .ok ls ts i, h => h1 ls ts i h.1 h.2.1 h.2.2.1 h.2.2.2
  | .bad ls ts i, h => h2 ls ts i h.1 h.2.1 h.2.2.1 h.2.2.2
theorem LbI.both {L : List Tok} {ls : List ByteArray} {ts : List Term} {i : Nat} {p : PSt → Prop} (h1 : ∀ w j, pName L i = some (w, j) → j < L.length → p (.ok (ls ++ [w]) ts j)) (h2 : ∀ w j, pName L i = none → j < L.length → p (.bad (ls ++ [w]) ts j)) : ∀ y, LbI L ls ts i y → p y
  | .ok _ _ j, ⟨w, h, rfl, rfl, hj⟩ => h1 w j h hj
  | .bad _ _ j, ⟨h, ⟨w, rfl⟩, rfl, hj⟩ => h2 w j h hj
theorem LtI.both {L : List Tok} {P : Nat → Option (Term × Nat)} {ls : List ByteArray} {ts : List Term} {i : Nat} {p : PSt → Prop} (h1 : ∀ t j, P i = some (t, j) → j < L.length → p (.ok ls (ts ++ [t]) j)) (h2 : ∀ t j, P i = none → j < L.length → p (.bad ls (ts ++ [t]) j)) : ∀ y, LtI L P ls ts i y → p y
  | .ok _ _ j, ⟨t, h, rfl, rfl, hj⟩ => h1 t j h hj
  | .bad _ _ j, ⟨h, rfl, ⟨t, rfl⟩, hj⟩ => h2 t j h hj
theorem LtB.both {L : List Tok} {ls : List ByteArray} {ts : List Term} {p : PSt → Prop} (h2 : ∀ t j, j < L.length → p (.bad ls (ts ++ [t]) j)) : ∀ y, LtB L ls ts y → p y
  | .ok _ _ j, h => h.elim
  | .bad _ _ j, ⟨rfl, ⟨t, rfl⟩, hj⟩ => h2 t j hj
theorem LnB.both {L : List Tok} {ls : List ByteArray} {ts : List Term} {p : PSt → Prop} (h2 : ∀ w j, j < L.length → p (.bad (ls ++ [w]) ts j)) : ∀ y, LnB L ls ts y → p y
  | .ok _ _ j, h => h.elim
  | .bad _ _ j, ⟨⟨w, rfl⟩, rfl, hj⟩ => h2 w j hj
def PSt.mu : PSt → Nat
  | .ok ls _ _ => 17 - ls.length
  | .bad _ _ _ => 0
theorem lab_own {k : Nat} {l : List ByteArray} {a : ByteArray} {g : Nat → Nat → AV} {w : World} {S : Nat → Prop} {blk : Nat → BC} {H : Hp} {u : Value} {fp : List Nat} (hk : k = l.length) (hg : g 0 0 = .s a) {i j : Nat} (hi : i < l.length + 1) (hj : j < 1) (h : Own w S blk H (catE k (elE strC l) g i j) u fp) : Own w S blk H (elE strC (l ++ [a]) i j) u fp :=
  snoc_own hk (fun j hj h => by { obtain rfl : j = 0 := (by omega); rw [hg] at h; exact h }) (by omega) hj h
set_option maxHeartbeats 8000000 in
theorem rg2_ok (L : List Tok) (d : Nat) (k D : Int) (hL : LexOk L) (ls : List ByteArray) (ts : List Term) (i : Nat) {X : Ctx} (hl1 : ls.length ≤ 17) (hl2 : ts.length ≤ 17) (hi : i < L.length) : DT env 98 X 2 (regP Try.f74 2) [(0, .ptr 0 0 0), (1, .ptr 1 0 0), (2, .i .i64 D)] ((PSt.ok ls ts i).rows L d k) (thn (Cut 98 X (LbI L ls ts i) (fun y => [(0, .ptr 0 0 0), (1, .ptr 1 0 0), (2, .i .i64 D)]) (fun y => y.rows L d k ++ [none, none, none])) fun _ _ _ => False) := by
  refine dt_turn (turn_open (id := 1) (i := 0) (j := 2) rfl (show 0 < 1 by decide) (show 2 < 4 by decide) rfl) (dt_goH 2 [0, 1] rfl ?_)
  refine ⟨by decide +kernel, ?_⟩
  repeat' (first | omega | (with_reducible show (_ : Int) < _; dsimp only; omega) | (with_reducible show (_ : Nat) ≤ _; dsimp only; omega) | ((with_reducible show SrcOk _ _ _) <;> (first | exact srcOk_1 rfl | exact srcOk_L (fun _ => ⟨rfl, rfl⟩) | exact srcOk_E (fun _ => ⟨rfl, rfl⟩))) | ((conv => whnf) <;> (first | exact tcapL (by omega) | exact tcapN (by omega) | exact srcOk_1 rfl | refine And.intro ?_ ?_ | (intro _h; first | contradiction | (try simp only [dd] at _h)) | (refine dt_go ?_) | exact rfl | exact True.intro | exact dkk | exact dks | (refine .inr (.inl (.inl ⟨[0], _, _, _, name_o L hL _ ?_, viewA, ⟨rfl, rfl⟩, ?_⟩)); rotate_left 1; (rintro _ _ (⟨w, hw1, hw2, rfl, rfl⟩ | ⟨hw1, rfl, rfl⟩)) <;> (refine ⟨rfl, _, lokA, ?_⟩)) | (refine wrap_succ ?_; omega))))
  all_goals (first | (conv => whnf) | skip)
  all_goals first
    | (refine cut_turn (turn_eqG (id := 4) (x := rowL 1 strC (ls ++ [w])) rfl rfl (by simp [rowL]) rfl rfl (fun i j hi hj w' S blk u fp h => lab_own (a := w) (by simp) rfl (by simpa [rowL] using hi) hj h)) ?_
       refine cut_turn (turn_close (id := 1) (i := 0) (j := 2) (id' := 4) (n := ls.length + 1) rfl (show 0 < 1 by decide) (show 2 < 4 by decide) rfl rfl (show 1 ≠ 4 by decide) rfl (rowO_le (by simp))) ?_
       refine cut_turn (turn_box (id := 1) (ds := tB d k (ls ++ [w]) ts) rfl rfl rfl (.cons (.refl _) (.cons (.refl _) (.cons (ow_len (g := elE strC (ls ++ [w])) (by simp)) (.cons (.refl _) .nil))))) ?_
       exact cut_go (.ok (ls ++ [w]) ts (i + 1)) ⟨w, hw1, rfl, rfl, hw2⟩ (by repeat' (first | exact trivial | refine And.intro rfl ?_)) (by repeat' (first | exact trivial | refine And.intro (.inl rfl) ?_ | refine And.intro (.inr rfl) ?_ | refine And.intro rfl ?_)))
    | (refine cut_turn (turn_eqG (id := 4) (x := rowL 1 strC (ls ++ [(ByteArray.mk #[])])) rfl rfl (by simp [rowL]) rfl rfl (fun i j hi hj w' S blk u fp h => lab_own (a := (ByteArray.mk #[])) (by simp) rfl (by simpa [rowL] using hi) hj h)) ?_
       refine cut_turn (turn_close (id := 1) (i := 0) (j := 2) (id' := 4) (n := ls.length + 1) rfl (show 0 < 1 by decide) (show 2 < 4 by decide) rfl rfl (show 1 ≠ 4 by decide) rfl (rowO_le (by simp))) ?_
       refine cut_turn (turn_box (id := 1) (ds := tB d k (ls ++ [(ByteArray.mk #[])]) ts) rfl rfl rfl (.cons (.refl _) (.cons (.refl _) (.cons (ow_len (g := elE strC (ls ++ [(ByteArray.mk #[])])) (by simp)) (.cons (.refl _) .nil))))) ?_
       exact cut_go (.bad (ls ++ [(ByteArray.mk #[])]) ts i) ⟨hw1, ⟨(ByteArray.mk #[]), rfl⟩, rfl, hi⟩ (by repeat' (first | exact trivial | refine And.intro rfl ?_)) (by repeat' (first | exact trivial | refine And.intro (.inl rfl) ?_ | refine And.intro (.inr rfl) ?_ | refine And.intro rfl ?_)))
set_option maxHeartbeats 8000000 in
theorem rg10_ok (L : List Tok) (d : Nat) (k D : Int) (ls : List ByteArray) (ts : List Term) (i : Nat) {X : Ctx} (hl1 : ls.length ≤ 17) (hl2 : ts.length ≤ 17) (hi : i < L.length) : DT env 98 X 10 (regP Try.f74 10) [(0, .ptr 0 0 0), (1, .ptr 1 0 0), (2, .i .i64 D)] ((PSt.ok ls ts i).rows L d k ++ [none, none, none]) (thn (Cut 98 X (fun y : PSt => y = .ok ls (ts ++ [unitM]) i) (fun y => [(0, .ptr 0 0 0), (1, .ptr 1 0 0), (2, .i .i64 D)]) (fun y => y.rows L d k ++ [none, none, none, none, none, none])) fun _ _ _ => False) := by
  refine dt_turn (turn_open (id := 1) (i := 0) (j := 3) rfl (show 0 < 1 by decide) (show 3 < 4 by decide) rfl) (dt_goH 2 [0, 1] rfl ?_)
  refine ⟨by decide +kernel, ?_⟩
  repeat' (first | omega | (with_reducible show (_ : Int) < _; dsimp only; omega) | (with_reducible show (_ : Nat) ≤ _; dsimp only; omega) | ((with_reducible show SrcOk _ _ _) <;> (first | exact srcOk_1 rfl | exact srcOk_L (fun _ => ⟨rfl, rfl⟩) | exact srcOk_E (fun _ => ⟨rfl, rfl⟩))) | ((conv => whnf) <;> (first | exact tcapL (by omega) | exact tcapN (by omega) | exact srcOk_1 rfl | refine And.intro ?_ ?_ | (intro _h; first | contradiction | (try simp only [dd] at _h)) | (refine dt_go ?_) | exact rfl | exact True.intro | exact dkk | exact dks | (refine wrap_succ ?_; omega))))
  all_goals (first | (conv => whnf) | skip)
  all_goals
    refine cut_turn (turn_eqG (id := 7) (x := rowL 4 (Term.pN (d + 1)) (ts ++ [unitM])) rfl rfl (by simp [rowL]) rfl rfl (fun i j hi hj w S blk u fp h => kid_own (cs := [AV.i .i64 1, .s ByteArray.empty, .nils, .nils]) (by simp) rfl (unit_own) hi hj h)) ?_
    refine cut_turn (turn_close (id := 1) (i := 0) (j := 3) (id' := 7) (n := ts.length + 1) rfl (show 0 < 1 by decide) (show 3 < 4 by decide) rfl rfl (show 1 ≠ 7 by decide) rfl (rowO_le (by simp))) ?_
    refine cut_turn (turn_box (id := 1) (ds := tB d k ls (ts ++ [unitM])) rfl rfl rfl (.cons (.refl _) (.cons (.refl _) (.cons (.refl _) (.cons (ow_len (g := elE (Term.pN (d + 1)) (ts ++ [unitM])) (by simp)) .nil))))) ?_
    exact cut_go (.ok ls (ts ++ [unitM]) i) rfl (by repeat' (first | exact trivial | refine And.intro rfl ?_)) (by repeat' (first | exact trivial | refine And.intro (.inl rfl) ?_ | refine And.intro (.inr rfl) ?_ | refine And.intro rfl ?_))
set_option maxHeartbeats 8000000 in
theorem rg10_bad (L : List Tok) (d : Nat) (k D : Int) (ls : List ByteArray) (ts : List Term) (i : Nat) {X : Ctx} (hl1 : ls.length ≤ 17) (hl2 : ts.length ≤ 17) (hi : i < L.length) : DT env 98 X 10 (regP Try.f74 10) [(0, .ptr 0 0 0), (1, .ptr 1 0 0), (2, .i .i64 D)] ((PSt.bad ls ts i).rows L d k ++ [none, none, none]) (thn (Cut 98 X (fun y : PSt => y = .bad ls (ts ++ [unitM]) i) (fun y => [(0, .ptr 0 0 0), (1, .ptr 1 0 0), (2, .i .i64 D)]) (fun y => y.rows L d k ++ [none, none, none, none, none, none])) fun _ _ _ => False) := by
  refine dt_turn (turn_open (id := 1) (i := 0) (j := 3) rfl (show 0 < 1 by decide) (show 3 < 4 by decide) rfl) (dt_goH 2 [0, 1] rfl ?_)
  refine ⟨by decide +kernel, ?_⟩
  repeat' (first | omega | (with_reducible show (_ : Int) < _; dsimp only; omega) | (with_reducible show (_ : Nat) ≤ _; dsimp only; omega) | ((with_reducible show SrcOk _ _ _) <;> (first | exact srcOk_1 rfl | exact srcOk_L (fun _ => ⟨rfl, rfl⟩) | exact srcOk_E (fun _ => ⟨rfl, rfl⟩))) | ((conv => whnf) <;> (first | exact tcapL (by omega) | exact tcapN (by omega) | exact srcOk_1 rfl | refine And.intro ?_ ?_ | (intro _h; first | contradiction | (try simp only [dd] at _h)) | (refine dt_go ?_) | exact rfl | exact True.intro | exact dkk | exact dks | (refine wrap_succ ?_; omega))))
  all_goals (first | (conv => whnf) | skip)
  all_goals
    refine cut_turn (turn_eqG (id := 7) (x := rowL 4 (Term.pN (d + 1)) (ts ++ [unitM])) rfl rfl (by simp [rowL]) rfl rfl (fun i j hi hj w S blk u fp h => kid_own (cs := [AV.i .i64 1, .s ByteArray.empty, .nils, .nils]) (by simp) rfl (unit_own) hi hj h)) ?_
    refine cut_turn (turn_close (id := 1) (i := 0) (j := 3) (id' := 7) (n := ts.length + 1) rfl (show 0 < 1 by decide) (show 3 < 4 by decide) rfl rfl (show 1 ≠ 7 by decide) rfl (rowO_le (by simp))) ?_
    refine cut_turn (turn_box (id := 1) (ds := tB d k ls (ts ++ [unitM])) rfl rfl rfl (.cons (.refl _) (.cons (.refl _) (.cons (.refl _) (.cons (ow_len (g := elE (Term.pN (d + 1)) (ts ++ [unitM])) (by simp)) .nil))))) ?_
    exact cut_go (.bad ls (ts ++ [unitM]) i) rfl (by repeat' (first | exact trivial | refine And.intro rfl ?_)) (by repeat' (first | exact trivial | refine And.intro (.inl rfl) ?_ | refine And.intro (.inr rfl) ?_ | refine And.intro rfl ?_))
set_option maxHeartbeats 8000000 in
theorem rg5_ok (L : List Tok) (d : Nat) (k D : Int) (hT : SpT L d) (hd : d ≤ 100) (hD : D = d + 1) (hw : IntKind.i64.wrap (D - 1) = d) (ls : List ByteArray) (ts : List Term) (i : Nat) {X : Ctx} (hl1 : ls.length ≤ 17) (hl2 : ts.length ≤ 17) (hi : i < L.length) : DT env 98 X 5 (regP Try.f74 5) [(0, .ptr 0 0 0), (1, .ptr 1 0 0), (2, .i .i64 D)] ((PSt.ok ls ts i).rows L d k ++ [none, none, none]) (thn (Cut 98 X (LtI L (pTerm L d) ls ts i) (fun y => [(0, .ptr 0 0 0), (1, .ptr 1 0 0), (2, .i .i64 D)]) (fun y => y.rows L d k ++ [none, none, none, none, none, none])) fun _ _ _ => False) := by
  refine dt_turn (turn_open (id := 1) (i := 0) (j := 3) rfl (show 0 < 1 by decide) (show 3 < 4 by decide) rfl) (dt_goH 2 [0, 1] rfl ?_)
  refine ⟨by decide +kernel, ?_⟩
  repeat' (first | omega | (with_reducible show (_ : Int) < _; dsimp only; omega) | (with_reducible show (_ : Nat) ≤ _; dsimp only; omega) | ((with_reducible show SrcOk _ _ _) <;> (first | exact srcOk_1 rfl | exact srcOk_L (fun _ => ⟨rfl, rfl⟩) | exact srcOk_E (fun _ => ⟨rfl, rfl⟩))) | ((conv => whnf) <;> (first | exact tcapL (by omega) | exact tcapN (by omega) | exact srcOk_1 rfl | refine And.intro ?_ ?_ | (intro _h; first | contradiction | (try simp only [dd] at _h)) | (refine dt_go ?_) | exact rfl | exact True.intro | exact dkk | exact dks | (refine .inr (.inl (.inl ⟨[0], _, _, _, hT.f _ _ ?_ hw, viewA, ⟨rfl, rfl⟩, ?_⟩)); rotate_left 1; (rintro _ _ (⟨x, a', hp, ha', rfl, rfl⟩ | ⟨hp, x, a', ha', rfl, rfl⟩)) <;> (refine ⟨rfl, _, lokA, ?_⟩)) | (refine wrap_succ ?_; omega))))
  all_goals (first | (conv => whnf) | skip)
  all_goals
    refine cut_turn (turn_eqG (id := 7) (x := rowL 4 (Term.pN (d + 1)) (ts ++ [x])) rfl rfl (by simp [rowL]) rfl rfl (fun i j hi hj w S blk u fp h => kid_own (cs := Term.pN (d + 1) x) (by simp) rfl (fun _ _ h => h) hi hj h)) ?_
    refine cut_turn (turn_close (id := 1) (i := 0) (j := 3) (id' := 7) (n := ts.length + 1) rfl (show 0 < 1 by decide) (show 3 < 4 by decide) rfl rfl (show 1 ≠ 7 by decide) rfl (rowO_le (by simp))) ?_
    refine cut_turn (turn_box (id := 1) (ds := tB d k ls (ts ++ [x])) rfl rfl rfl (.cons (.refl _) (.cons (.refl _) (.cons (.refl _) (.cons (ow_len (g := elE (Term.pN (d + 1)) (ts ++ [x])) (by simp)) .nil))))) ?_
    first | exact cut_go (.ok ls (ts ++ [x]) a') ⟨x, hp, rfl, rfl, ha'⟩ (by repeat' (first | exact trivial | refine And.intro rfl ?_)) (by repeat' (first | exact trivial | refine And.intro (.inl rfl) ?_ | refine And.intro (.inr rfl) ?_ | refine And.intro rfl ?_)) | exact cut_go (.bad ls (ts ++ [x]) a') ⟨hp, rfl, ⟨x, rfl⟩, ha'⟩ (by repeat' (first | exact trivial | refine And.intro rfl ?_)) (by repeat' (first | exact trivial | refine And.intro (.inl rfl) ?_ | refine And.intro (.inr rfl) ?_ | refine And.intro rfl ?_))
set_option maxHeartbeats 8000000 in
theorem rg7_ok (L : List Tok) (d : Nat) (k D : Int) (hT : SpT L d) (hd : d ≤ 100) (hD : D = d + 1) (hw : IntKind.i64.wrap (D - 1) = d) (ls : List ByteArray) (ts : List Term) (i : Nat) {X : Ctx} (hl1 : ls.length ≤ 17) (hl2 : ts.length ≤ 17) (hi : i < L.length) : DT env 98 X 7 (regP Try.f74 7) [(0, .ptr 0 0 0), (1, .ptr 1 0 0), (2, .i .i64 D)] ((PSt.ok ls ts i).rows L d k ++ [none, none, none]) (thn (Cut 98 X (LtI L (pTerm L d) ls ts i) (fun y => [(0, .ptr 0 0 0), (1, .ptr 1 0 0), (2, .i .i64 D)]) (fun y => y.rows L d k ++ [none, none, none, none, none, none])) fun _ _ _ => False) := by
  refine dt_turn (turn_open (id := 1) (i := 0) (j := 3) rfl (show 0 < 1 by decide) (show 3 < 4 by decide) rfl) (dt_goH 2 [0, 1] rfl ?_)
  refine ⟨by decide +kernel, ?_⟩
  repeat' (first | omega | (with_reducible show (_ : Int) < _; dsimp only; omega) | (with_reducible show (_ : Nat) ≤ _; dsimp only; omega) | ((with_reducible show SrcOk _ _ _) <;> (first | exact srcOk_1 rfl | exact srcOk_L (fun _ => ⟨rfl, rfl⟩) | exact srcOk_E (fun _ => ⟨rfl, rfl⟩))) | ((conv => whnf) <;> (first | exact tcapL (by omega) | exact tcapN (by omega) | exact srcOk_1 rfl | refine And.intro ?_ ?_ | (intro _h; first | contradiction | (try simp only [dd] at _h)) | (refine dt_go ?_) | exact rfl | exact True.intro | exact dkk | exact dks | (refine .inr (.inl (.inl ⟨[0], _, _, _, hT.f _ _ ?_ hw, viewA, ⟨rfl, rfl⟩, ?_⟩)); rotate_left 1; (rintro _ _ (⟨x, a', hp, ha', rfl, rfl⟩ | ⟨hp, x, a', ha', rfl, rfl⟩)) <;> (refine ⟨rfl, _, lokA, ?_⟩)) | (refine wrap_succ ?_; omega))))
  all_goals (first | (conv => whnf) | skip)
  all_goals
    refine cut_turn (turn_eqG (id := 7) (x := rowL 4 (Term.pN (d + 1)) (ts ++ [x])) rfl rfl (by simp [rowL]) rfl rfl (fun i j hi hj w S blk u fp h => kid_own (cs := Term.pN (d + 1) x) (by simp) rfl (fun _ _ h => h) hi hj h)) ?_
    refine cut_turn (turn_close (id := 1) (i := 0) (j := 3) (id' := 7) (n := ts.length + 1) rfl (show 0 < 1 by decide) (show 3 < 4 by decide) rfl rfl (show 1 ≠ 7 by decide) rfl (rowO_le (by simp))) ?_
    refine cut_turn (turn_box (id := 1) (ds := tB d k ls (ts ++ [x])) rfl rfl rfl (.cons (.refl _) (.cons (.refl _) (.cons (.refl _) (.cons (ow_len (g := elE (Term.pN (d + 1)) (ts ++ [x])) (by simp)) .nil))))) ?_
    first | exact cut_go (.ok ls (ts ++ [x]) a') ⟨x, hp, rfl, rfl, ha'⟩ (by repeat' (first | exact trivial | refine And.intro rfl ?_)) (by repeat' (first | exact trivial | refine And.intro (.inl rfl) ?_ | refine And.intro (.inr rfl) ?_ | refine And.intro rfl ?_)) | exact cut_go (.bad ls (ts ++ [x]) a') ⟨hp, rfl, ⟨x, rfl⟩, ha'⟩ (by repeat' (first | exact trivial | refine And.intro rfl ?_)) (by repeat' (first | exact trivial | refine And.intro (.inl rfl) ?_ | refine And.intro (.inr rfl) ?_ | refine And.intro rfl ?_))
set_option maxHeartbeats 8000000 in
theorem rg5_bad (L : List Tok) (d : Nat) (k D : Int) (hT : SpT L d) (hd : d ≤ 100) (hD : D = d + 1) (hw : IntKind.i64.wrap (D - 1) = d) (ls : List ByteArray) (ts : List Term) (i : Nat) {X : Ctx} (hl1 : ls.length ≤ 17) (hl2 : ts.length ≤ 17) (hi : i < L.length) : DT env 98 X 5 (regP Try.f74 5) [(0, .ptr 0 0 0), (1, .ptr 1 0 0), (2, .i .i64 D)] ((PSt.bad ls ts i).rows L d k ++ [none, none, none]) (thn (Cut 98 X (LtB L ls ts) (fun y => [(0, .ptr 0 0 0), (1, .ptr 1 0 0), (2, .i .i64 D)]) (fun y => y.rows L d k ++ [none, none, none, none, none, none])) fun _ _ _ => False) := by
  refine dt_turn (turn_open (id := 1) (i := 0) (j := 3) rfl (show 0 < 1 by decide) (show 3 < 4 by decide) rfl) (dt_goH 2 [0, 1] rfl ?_)
  refine ⟨by decide +kernel, ?_⟩
  repeat' (first | omega | (with_reducible show (_ : Int) < _; dsimp only; omega) | (with_reducible show (_ : Nat) ≤ _; dsimp only; omega) | ((with_reducible show SrcOk _ _ _) <;> (first | exact srcOk_1 rfl | exact srcOk_L (fun _ => ⟨rfl, rfl⟩) | exact srcOk_E (fun _ => ⟨rfl, rfl⟩))) | ((conv => whnf) <;> (first | exact tcapL (by omega) | exact tcapN (by omega) | exact srcOk_1 rfl | refine And.intro ?_ ?_ | (intro _h; first | contradiction | (try simp only [dd] at _h)) | (refine dt_go ?_) | exact rfl | exact True.intro | exact dkk | exact dks | (refine .inr (.inl (.inl ⟨[0], _, _, _, hT.b _ _ ?_ hw, viewA, ⟨rfl, rfl⟩, ?_⟩)); rotate_left 1; (rintro _ _ ⟨x, a', ha', rfl, rfl⟩) <;> (refine ⟨rfl, _, lokA, ?_⟩)) | (refine wrap_succ ?_; omega))))
  all_goals (first | (conv => whnf) | skip)
  all_goals
    refine cut_turn (turn_eqG (id := 7) (x := rowL 4 (Term.pN (d + 1)) (ts ++ [x])) rfl rfl (by simp [rowL]) rfl rfl (fun i j hi hj w S blk u fp h => kid_own (cs := Term.pN (d + 1) x) (by simp) rfl (fun _ _ h => h) hi hj h)) ?_
    refine cut_turn (turn_close (id := 1) (i := 0) (j := 3) (id' := 7) (n := ts.length + 1) rfl (show 0 < 1 by decide) (show 3 < 4 by decide) rfl rfl (show 1 ≠ 7 by decide) rfl (rowO_le (by simp))) ?_
    refine cut_turn (turn_box (id := 1) (ds := tB d k ls (ts ++ [x])) rfl rfl rfl (.cons (.refl _) (.cons (.refl _) (.cons (.refl _) (.cons (ow_len (g := elE (Term.pN (d + 1)) (ts ++ [x])) (by simp)) .nil))))) ?_
    exact cut_go (.bad ls (ts ++ [x]) a') ⟨rfl, ⟨x, rfl⟩, ha'⟩ (by repeat' (first | exact trivial | refine And.intro rfl ?_)) (by repeat' (first | exact trivial | refine And.intro (.inl rfl) ?_ | refine And.intro (.inr rfl) ?_ | refine And.intro rfl ?_))
end
end Go.Proofs.Ytllcemegnggpfaa
