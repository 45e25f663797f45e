/- Texts for VTermOkP. -/
import Derived.Test.YtllcemegnggpfaaVs28
namespace Go.Proofs.Ytllcemegnggpfaa
open Go Go.RowKit
set_option linter.unusedVariables false
set_option linter.unusedSimpArgs false
section
attribute [local irreducible] IntKind.wrap
noncomputable def tU (d : Nat) (k : Int) (ts : List Term) : List AV := [.i .i64 k, .s ⟨#[]⟩, .nils, .ow 4 ts.length (elE (Term.pN (d + 1)) ts)]
def rB : List AV := [.i .i64 0, .s ⟨#[]⟩, .nils, .nils]
inductive USt where
  | ok (ts : List Term) (i : Nat)
  | bad (ts : List Term) (i : Nat)
noncomputable def USt.rows (L : List Tok) (d : Nat) (k : Int) : USt → Hp
  | .ok ts i => [some (boxRow (pB L i false)), some (boxRow rB), some (boxRow (tU d k ts))]
  | .bad ts i => [some (boxRow (pB L i true)), some (boxRow rB), some (boxRow (tU d k ts))]
noncomputable def USt.rowI (L : List Tok) (d : Nat) (k : Int) : USt → List (Option RowI)
  | .ok ts i => [some (.box (pB L i false)), some (.box rB), some (.box (tU d k ts))]
  | .bad ts i => [some (.box (pB L i true)), some (.box rB), some (.box (tU d k ts))]
def USt.mu : USt → Nat
  | .ok ts _ => 7 - ts.length
  | .bad _ _ => 0
def UtI (L : List Tok) (P : Nat → Option (Term × Nat)) (ts : List Term) (i : Nat) : USt → Prop
  | .ok ts' j => ∃ t, P i = some (t, j) ∧ ts' = ts ++ [t] ∧ j < L.length
  | .bad ts' j => P i = none ∧ (∃ t, ts' = ts ++ [t]) ∧ j < L.length
theorem UtI.both {L : List Tok} {P : Nat → Option (Term × Nat)} {ts : List Term} {i : Nat} {p : USt → Prop} (h1 : ∀ t j, P i = some (t, j) → j < L.length → p (.ok (ts ++ [t]) j)) (h2 : ∀ t j, P i = none → j < L.length → p (.bad (ts ++ [t]) j)) : ∀ y, UtI L P ts i y → p y
  | .ok _ j, ⟨t, h, rfl, hj⟩ => h1 t j h hj
  | .bad _ j, ⟨h, ⟨t, rfl⟩, hj⟩ => h2 t j h hj
def UsI (L : List Tok) (P : Nat → Option (Term × Nat)) (o : Option (List Term × Nat)) : USt → Prop
  | .ok ts i => ts.length ≤ 5 ∧ i < L.length ∧ pList L P (5 - ts.length) ts i = o
  | .bad ts i => ts.length ≤ 7 ∧ i < L.length ∧ o = none
theorem UsI.both {L : List Tok} {P : Nat → Option (Term × Nat)} {o : Option (List Term × Nat)} {p : USt → Prop} (h1 : ∀ ts i, ts.length ≤ 5 → i < L.length → pList L P (5 - ts.length) ts i = o → p (.ok ts i)) (h2 : ∀ ts i, ts.length ≤ 7 → i < L.length → o = none → p (.bad ts i)) : ∀ y, UsI L P o y → p y
  | .ok ts i, h => h1 ts i h.1 h.2.1 h.2.2
  | .bad ts i, h => h2 ts i h.1 h.2.1 h.2.2
set_option maxRecDepth 8000 in
set_option maxHeartbeats 8000000 in
theorem ru21_ok (L : List Tok) (d : Nat) (k D : Int) (hT : SpT L d) (hd : d ≤ 100) (hD : D = d + 1) (hw : IntKind.i64.wrap (D - 1) = d) (ts : List Term) (i : Nat) {X : Ctx} (hl2 : ts.length ≤ 17) (hi : i < L.length) : DT env 101 X 21 (regP Try.f40 21) [(0, .ptr 0 0 0), (1, .i .i64 D), (4, .ptr 1 0 0), (6, .ptr 2 0 0)] ((USt.ok ts i).rows L d k) (thn (Cut 101 X (UtI L (pTerm L d) ts i) (fun y => [(0, .ptr 0 0 0), (1, .i .i64 D), (4, .ptr 1 0 0), (6, .ptr 2 0 0)]) (fun y => y.rows L d k ++ [none, none, none])) fun _ _ _ => False) := by
  refine dt_turn (turn_open (id := 2) (i := 0) (j := 3) rfl (show 0 < 1 by decide) (show 3 < 4 by decide) rfl) (dt_goH 3 [0, 2] rfl ?_)
  refine ⟨by decide +kernel, ?_⟩
  repeat' (first | omega | (with_reducible show (_ : Int) < _; dsimp only; omega) | (with_reducible show (_ : Nat) ≤ _; dsimp only; omega) | ((with_reducible show SrcOk _ _ _) <;> (first | exact srcOk_1 rfl | exact srcOk_L (fun _ => ⟨rfl, rfl⟩) | exact srcOk_E (fun _ => ⟨rfl, rfl⟩))) | ((conv => whnf) <;> (first | exact tcapL (by omega) | exact tcapN (by omega) | exact srcOk_1 rfl | refine And.intro ?_ ?_ | (intro _h; first | contradiction | (try simp only [dd] at _h)) | (refine dt_go ?_) | exact rfl | exact True.intro | exact dkk | exact dks | (refine .inr (.inl (.inl ⟨[0], _, _, _, hT.f _ _ ?_ hw, viewA, ⟨rfl, rfl⟩, ?_⟩)); rotate_left 1; (rintro _ _ (⟨x, a', hp, ha', rfl, rfl⟩ | ⟨hp, x, a', ha', rfl, rfl⟩)) <;> (refine ⟨rfl, _, lokA, ?_⟩)) | (refine wrap_succ ?_; omega))))
  all_goals (first | (conv => whnf) | skip)
  all_goals
    refine cut_turn (turn_eqG (id := 5) (x := rowL 4 (Term.pN (d + 1)) (ts ++ [x])) rfl rfl (by simp [rowL]) rfl rfl (fun i j hi hj w S blk u fp h => kid_own (cs := Term.pN (d + 1) x) (by simp) rfl (fun _ _ h => h) hi hj h)) ?_
    refine cut_turn (turn_close (id := 2) (i := 0) (j := 3) (id' := 5) (n := ts.length + 1) rfl (show 0 < 1 by decide) (show 3 < 4 by decide) rfl rfl (show 2 ≠ 5 by decide) rfl (rowO_le (by simp))) ?_
    refine cut_turn (turn_box (id := 2) (ds := tU d k (ts ++ [x])) rfl rfl rfl (.cons (.refl _) (.cons (.refl _) (.cons (.refl _) (.cons (ow_len (g := elE (Term.pN (d + 1)) (ts ++ [x])) (by simp)) .nil))))) ?_
    first | exact cut_go (.ok (ts ++ [x]) a') ⟨x, hp, rfl, ha'⟩ (by repeat' (first | exact trivial | refine And.intro rfl ?_)) (by repeat' (first | exact trivial | refine And.intro (.inl rfl) ?_ | refine And.intro (.inr rfl) ?_ | refine And.intro rfl ?_)) | exact cut_go (.bad (ts ++ [x]) a') ⟨hp, ⟨x, rfl⟩, ha'⟩ (by repeat' (first | exact trivial | refine And.intro rfl ?_)) (by repeat' (first | exact trivial | refine And.intro (.inl rfl) ?_ | refine And.intro (.inr rfl) ?_ | refine And.intro rfl ?_))
theorem uls_end {L : List Tok} {P : Nat → Option (Term × Nat)} {m i i2 : Nat} {ts : List Term} {t : Term} {o : Option (List Term × Nat)} (hp : P i = some (t, i2)) (ht : isT L ⟨#[62]⟩ i2) (ho : pList L P m ts i = o) : o = some (ts ++ [t], i2 + 1) := by
  rw [← ho]; cases m <;> simp [pList, hp, ht]
theorem uls_go {L : List Tok} {P : Nat → Option (Term × Nat)} {i i2 i3 : Nat} {ts : List Term} {t : Term} {o : Option (List Term × Nat)} (h1 : ts.length ≤ 5) (hp : P i = some (t, i2)) (ht : ¬ isT L ⟨#[62]⟩ i2) (hn : ¬ (6 : Int) ≤ ((ts ++ [t]).length : Nat)) (hc : pNeed L ⟨#[44]⟩ i2 = some i3) (ho : pList L P (5 - ts.length) ts i = o) : (ts ++ [t]).length ≤ 5 ∧ pList L P (5 - (ts ++ [t]).length) (ts ++ [t]) i3 = o := by
  refine ⟨by omega, ?_⟩
  rw [← ho]
  simp only [List.length_append, List.length_singleton] at hn ⊢
  obtain ⟨m, hm⟩ : ∃ m, 5 - ts.length = m + 1 := ⟨4 - ts.length, by omega⟩
  rw [hm, show 5 - (ts.length + 1) = m by omega]
  simp [pList, hp, ht, hc]
theorem uls_n1 {L : List Tok} {P : Nat → Option (Term × Nat)} {m i : Nat} {ts : List Term} {o : Option (List Term × Nat)} (hp : P i = none) (ho : pList L P m ts i = o) : o = none := by
  rw [← ho]; cases m <;> simp [pList, hp]
theorem uls_n3 {L : List Tok} {P : Nat → Option (Term × Nat)} {i i2 : Nat} {ts : List Term} {t : Term} {o : Option (List Term × Nat)} (h1 : ts.length ≤ 5) (hp : P i = some (t, i2)) (ht : ¬ isT L ⟨#[62]⟩ i2) (hm : (6 : Int) ≤ ((ts ++ [t]).length : Nat) ∨ pNeed L ⟨#[44]⟩ i2 = none) (ho : pList L P (5 - ts.length) ts i = o) : o = none := by
  rw [← ho]
  rcases hm with hm | hm
  · simp only [List.length_append, List.length_singleton] at hm
    rw [show 5 - ts.length = 0 by omega]
    simp [pList, hp, ht]
  · cases 5 - ts.length <;> simp [pList, hp, ht, hm]
end
end Go.Proofs.Ytllcemegnggpfaa
