/- Texts for VTermOkP. -/
import Derived.Test.YtllcemegnggpfaaVs27
namespace Go.Proofs.Ytllcemegnggpfaa
open Go Go.RowKit
set_option linter.unusedVariables false
set_option linter.unusedSimpArgs false
section
attribute [local irreducible] IntKind.wrap
theorem labs_end {L : List Tok} {P : Nat → Option (Term × Nat)} {k : Int} {m i i1 i2 : Nat} {ls : List ByteArray} {ts T : List Term} {w : ByteArray} {o : Option ((List ByteArray × List Term) × Nat)} (hw : pName L i = some (w, i1)) (hl : pLab L P k i1 = some (T, i2)) (ht : isT L ⟨#[125]⟩ i2) (ho : pLabs L P k m ls ts i = o) : o = some ((ls ++ [w], ts ++ T), i2 + 1) := by
  rw [← ho]; cases m <;> simp [pLabs, hw, hl, ht]
theorem labs_go {L : List Tok} {P : Nat → Option (Term × Nat)} {k : Int} {i i1 i2 i3 : Nat} {ls : List ByteArray} {ts T : List Term} {w : ByteArray} {o : Option ((List ByteArray × List Term) × Nat)} (h1 : ls.length ≤ 15) (hw : pName L i = some (w, i1)) (hl : pLab L P k i1 = some (T, i2)) (ht : ¬ isT L ⟨#[125]⟩ i2) (hn : ¬ (16 : Int) ≤ ((ls ++ [w]).length : Nat)) (hc : pNeed L ⟨#[44]⟩ i2 = some i3) (ho : pLabs L P k (15 - ls.length) ls ts i = o) : (ls ++ [w]).length ≤ 15 ∧ pLabs L P k (15 - (ls ++ [w]).length) (ls ++ [w]) (ts ++ T) i3 = o := by
  refine ⟨by omega, ?_⟩
  rw [← ho]
  simp only [List.length_append, List.length_singleton] at hn ⊢
  obtain ⟨m, hm⟩ : ∃ m, 15 - ls.length = m + 1 := ⟨14 - ls.length, by omega⟩
  rw [hm, show 15 - (ls.length + 1) = m by omega]
  simp [pLabs, hw, hl, ht, hc]
theorem labs_n1 {L : List Tok} {P : Nat → Option (Term × Nat)} {k : Int} {m i : Nat} {ls : List ByteArray} {ts : List Term} {o : Option ((List ByteArray × List Term) × Nat)} (hw : pName L i = none) (ho : pLabs L P k m ls ts i = o) : o = none := by
  rw [← ho]; cases m <;> simp [pLabs, hw]
theorem labs_n2 {L : List Tok} {P : Nat → Option (Term × Nat)} {k : Int} {m i i1 : Nat} {ls : List ByteArray} {ts : List Term} {w : ByteArray} {o : Option ((List ByteArray × List Term) × Nat)} (hw : pName L i = some (w, i1)) (hl : pLab L P k i1 = none) (ho : pLabs L P k m ls ts i = o) : o = none := by
  rw [← ho]; cases m <;> simp [pLabs, hw, hl]
theorem labs_n3 {L : List Tok} {P : Nat → Option (Term × Nat)} {k : Int} {i i1 i2 : Nat} {ls : List ByteArray} {ts T : List Term} {w : ByteArray} {o : Option ((List ByteArray × List Term) × Nat)} (h1 : ls.length ≤ 15) (hw : pName L i = some (w, i1)) (hl : pLab L P k i1 = some (T, i2)) (ht : ¬ isT L ⟨#[125]⟩ i2) (hm : (16 : Int) ≤ ((ls ++ [w]).length : Nat) ∨ pNeed L ⟨#[44]⟩ i2 = none) (ho : pLabs L P k (15 - ls.length) ls ts i = o) : o = none := by
  rw [← ho]
  rcases hm with hm | hm
  · simp only [List.length_append, List.length_singleton] at hm
    rw [show 15 - ls.length = 0 by omega]
    simp [pLabs, hw, hl, ht]
  · cases 15 - ls.length <;> simp [pLabs, hw, hl, ht, hm]
theorem more_o (L : List Tok) (hL : LexOk L) (a : Nat) (ha : a < L.length) (n m : Int) : RetM env.P 72 [some (boxRow (pB L a false))] [.ptr 0 0 0, .i .i64 n, .i .i64 m] (fun r H => (¬ m ≤ n ∧ pNeed L ⟨#[44]⟩ a = some (a + 1) ∧ a + 1 < L.length ∧ r = .tup [] ∧ H = [some (boxRow (pB L (a + 1) false))]) ∨ ((m ≤ n ∨ pNeed L ⟨#[44]⟩ a = none) ∧ r = .tup [] ∧ H = [some (boxRow (pB L a true))])) := by
  by_cases h1 : m ≤ n
  · exact (more_ge L a n m h1).mono fun r H e => .inr ⟨.inl h1, e.1, e.2⟩
  · by_cases h : isT L ⟨#[44]⟩ a
    · exact (more_lt L hL a ha n m h1 h).mono fun r H e => .inl ⟨h1, if_pos h, hL.isT_lt ha h, e.1, e.2⟩
    · exact (more_no L hL a ha n m h1 h).mono fun r H e => .inr ⟨.inr (if_neg h), e.1, e.2⟩
set_option maxRecDepth 8000 in
set_option maxHeartbeats 40000000 in
theorem labs_f (L : List Tok) (hL : LexOk L) (d : Nat) (hd : d ≤ 100) (hT : SpT L d) (k : Int) (a : Nat) (D : Int) (ha : a < L.length) (hD : D = d + 1) : RetM env.P 74 [some (boxRow (pB L a false)), some (boxRow (tB d k [] []))] [.ptr 0 0 0, .ptr 1 0 0, .i .i64 D] (fun r H => r = .tup [] ∧ ((∃ ls ts a', pLb L (pTerm L d) k a = some ((ls, ts), a') ∧ a' < L.length ∧ H = [some (boxRow (pB L a' false)), some (boxRow (tB d k ls ts))]) ∨ (pLb L (pTerm L d) k a = none ∧ ∃ ls ts a', a' < L.length ∧ H = [some (boxRow (pB L a' true)), some (boxRow (tB d k ls ts))]))) := by
  have hw : IntKind.i64.wrap (D - 1) = d := by rw [wrap_in (by omega) (by omega)]; omega
  refine ret_ofM (nt := 98) (rvs := []) Try.func74 rfl rfl rfl rfl (fun X hX => ?_)
  repeat' (first | omega | (with_reducible show (_ : Int) < _; dsimp only; omega) | (with_reducible show (_ : Nat) ≤ _; dsimp only; omega) | ((with_reducible show SrcOk _ _ _) <;> (first | exact srcOk_1 rfl | exact srcOk_L (fun _ => ⟨rfl, rfl⟩) | exact srcOk_E (fun _ => ⟨rfl, rfl⟩))) | ((conv => whnf) <;> (first | ((with_reducible show LW _ _ _ _ _ _ _); refine lw_del 7 (lw_del 6 ?_); first | refine loopFT (fun y : PSt => []) (fun y => y.rowI L d k) (LsI L (pTerm L d) k (pLb L (pTerm L d) k a)) PSt.mu (.ok [] [] (a + 1)) ⟨⟨by simp, by simp, by assumption, by simp [pLb, *]⟩, ?_⟩ | refine loopFT (fun y : PSt => []) (fun y => y.rowI L d k) (LsI L (pTerm L d) k (pLb L (pTerm L d) k a)) PSt.mu (.bad [] [] a) ⟨⟨by simp, by simp, ha, by simp [pLb, *]⟩, ?_⟩) | ((with_reducible show ∀ _, LsI _ _ _ _ _ → _); refine LsI.both (fun ls ts i hl1 hl2 hi ho => ?_) (fun ls ts i hl1 hl2 hi ho => ?_)) | ((with_reducible show DT _ _ _ 2 _ _ _ _); refine dt_cutR (by repeat' (first | exact trivial | refine And.intro rfl ?_)) (rg2_ok L d k D hL ls ts i (by omega) (by omega) hi) (LbI.both (fun w i1 hw1 hi1 => ?_) (fun w i1 hw1 hi1 => ?_))) | ((with_reducible show DT _ _ _ 5 _ _ _ _); refine dt_cutR (by repeat' (first | exact trivial | refine And.intro rfl ?_)) (rg5_ok L d k D hT hd hD hw (ls ++ [w]) ts (i1 + 1) (by simp only [List.length_append, List.length_singleton]; omega) (by omega) (by assumption)) (LtI.both (fun t i2 hp2 hi2 => ?_) (fun t i2 hp2 hi2 => ?_))) | ((with_reducible show DT _ _ _ 5 _ _ _ _); refine dt_cutR (by repeat' (first | exact trivial | refine And.intro rfl ?_)) (rg5_bad L d k D hT hd hD hw (ls ++ [w]) ts i1 (by simp only [List.length_append, List.length_singleton]; omega) (by omega) hi1) (LtB.both (fun t i2 hi2 => ?_))) | ((with_reducible show DT _ _ _ 7 _ _ _ _); refine dt_cutR (by repeat' (first | exact trivial | refine And.intro rfl ?_)) (rg7_ok L d k D hT hd hD hw (ls ++ [w]) ts (i1 + 1) (by simp only [List.length_append, List.length_singleton]; omega) (by omega) (by assumption)) (LtI.both (fun t i2 hp2 hi2 => ?_) (fun t i2 hp2 hi2 => ?_))) | ((with_reducible show DT _ _ _ 10 _ _ _ _); refine dt_cutR (by repeat' (first | exact trivial | refine And.intro rfl ?_)) (rg10_ok L d k D (ls ++ [w]) ts i1 (by simp only [List.length_append, List.length_singleton]; omega) (by omega) hi1) (PEq.both ?_)) | ((with_reducible show DT _ _ _ 10 _ _ _ _); refine dt_cutR (by repeat' (first | exact trivial | refine And.intro rfl ?_)) (rg10_bad L d k D (ls ++ [w]) ts i1 (by simp only [List.length_append, List.length_singleton]; omega) (by omega) hi1) (PEq.both ?_)) | refine And.intro ?_ ?_ | (intro _h; first | contradiction | (try simp only [dd] at _h)) | (refine dt_go ?_) | exact rfl | exact True.intro | exact dkk | exact dks | (refine .inr (.inl (.inl ⟨[0], _, _, _, must_o L hL _ _ ?_, viewA, ⟨rfl, rfl⟩, ?_⟩)); rotate_left 1; (rintro _ _ (⟨_hm, _, rfl, rfl⟩ | ⟨_hm, rfl, rfl⟩)) <;> (refine ⟨rfl, _, lokA, ?_⟩)) | (refine .inr (.inl (.inl ⟨[0], _, _, _, must_b L _ _, viewA, ⟨rfl, rfl⟩, ?_⟩)); (rintro _ _ ⟨rfl, rfl⟩) <;> (refine ⟨rfl, _, lokA, ?_⟩)) | (refine .inr (.inl (.inl ⟨[0], _, _, _, take_o L hL _ _ ?_, viewA, ⟨rfl, rfl⟩, ?_⟩)); rotate_left 1; (rintro _ _ (⟨_ht, _, rfl, rfl⟩ | ⟨_ht, rfl, rfl⟩)) <;> (refine ⟨rfl, _, lokA, ?_⟩)) | (refine .inr (.inl (.inl ⟨[0], _, _, _, take_b L _ _, viewA, ⟨rfl, rfl⟩, ?_⟩)); (rintro _ _ ⟨rfl, rfl⟩) <;> (refine ⟨rfl, _, lokA, ?_⟩)) | (refine .inr (.inl (.inl ⟨[0], _, _, _, more_o L hL _ ?_ _ _, viewA, ⟨rfl, rfl⟩, ?_⟩)); rotate_left 1; (rintro _ _ (⟨hn, _hm, _, rfl, rfl⟩ | ⟨hm, rfl, rfl⟩)) <;> (refine ⟨rfl, _, lokA, ?_⟩)) | (refine .inr (.inl (.inl ⟨[0], _, _, _, more_b L _ _ _, viewA, ⟨rfl, rfl⟩, ?_⟩)); (rintro _ _ ⟨rfl, rfl⟩) <;> (refine ⟨rfl, _, lokA, ?_⟩)) | (refine wrap_succ ?_; omega))))
  all_goals (first | (conv => whnf) | skip)
  all_goals try first
    | (have _g := t; first | (have hp : pLab L (pTerm L d) k i1 = some ([t], i2) := by simp [pLab, *]) | (have hp : pLab L (pTerm L d) k i1 = some ([t], i2 + 1) := by simp [pLab, *]) | (have hp : pLab L (pTerm L d) k i1 = none := by simp [pLab, *]))
    | (have hp : pLab L (pTerm L d) k i1 = some ([unitM], i1) := by simp [pLab, *])
    | (have hp : pLab L (pTerm L d) k i1 = some ([], i1) := by simp [pLab, *])
    | (have hp : pLab L (pTerm L d) k i1 = none := by simp [pLab, *])
  all_goals first
    | ((with_reducible show EndM _ _ _ _); first
       | (have _g : pLab L (pTerm L d) k i1 = some ([t], _) := hp
          refine endM_pick [0, 1] [some (boxRow (pB L _ false)), some (boxRow (tB d k (ls ++ [w]) (ts ++ [t])))] (.tup []) viewA rfl rfl (by rw [hX]; exact keepK (n := 2) rfl rfl) ⟨rfl, .inl ⟨_, _, _, labs_end hw1 hp (by assumption) ho, (by assumption), rfl⟩⟩)
       | (have _g : pLab L (pTerm L d) k i1 = some ([unitM], _) := hp
          refine endM_pick [0, 1] [some (boxRow (pB L _ false)), some (boxRow (tB d k (ls ++ [w]) (ts ++ [unitM])))] (.tup []) viewA rfl rfl (by rw [hX]; exact keepK (n := 2) rfl rfl) ⟨rfl, .inl ⟨_, _, _, labs_end hw1 hp (by assumption) ho, (by assumption), rfl⟩⟩)
       | (have _g : pLab L (pTerm L d) k i1 = some ([], _) := hp
          refine endM_pick [0, 1] [some (boxRow (pB L _ false)), some (boxRow (tB d k (ls ++ [w]) ts))] (.tup []) viewA rfl rfl (by rw [hX]; exact keepK (n := 2) rfl rfl) ⟨rfl, .inl ⟨_, _, _, (labs_end hw1 hp (by assumption) ho).trans (by rw [List.append_nil]), (by assumption), rfl⟩⟩)
       | (refine endM_pick [0, 1] [some (boxRow (pB L _ true)), some (boxRow (tB d k ls ts))] (.tup []) viewA rfl rfl (by rw [hX]; exact keepK (n := 2) rfl rfl) ⟨rfl, .inr ⟨(by first | assumption | exact Eq.symm ‹_›), _, _, _, by assumption, rfl⟩⟩))
    | refine roundET_turn (turn_close (id := 1) (i := 0) (j := 2) (id' := 8) (n := (ls ++ [w]).length) rfl (show 0 < 1 by decide) (show 2 < 4 by decide) rfl rfl (show 1 ≠ 8 by decide) rfl (rowO_L (c := strC) (l := ls ++ [w]))) ?_
    | refine roundET_turn (turn_close (id := 1) (i := 0) (j := 2) (id' := 5) (n := (ls ++ [w]).length) rfl (show 0 < 1 by decide) (show 2 < 4 by decide) rfl rfl (show 1 ≠ 5 by decide) rfl (rowO_L (c := strC) (l := ls ++ [w]))) ?_
  all_goals first
    | (have _g := t; refine roundET_turn (turn_box (id := 1) (ds := tB d k (ls ++ [w]) (ts ++ [t])) rfl rfl rfl (.cons (.refl _) (.cons (.refl _) (.cons (.refl _) (.cons (.refl _) .nil))))) ?_)
    | (have _g : k = 17 := (by assumption); refine roundET_turn (turn_box (id := 1) (ds := tB d k (ls ++ [w]) (ts ++ [unitM])) rfl rfl rfl (.cons (.refl _) (.cons (.refl _) (.cons (.refl _) (.cons (.refl _) .nil))))) ?_)
    | refine roundET_turn (turn_box (id := 1) (ds := tB d k (ls ++ [w]) ts) rfl rfl rfl (.cons (.refl _) (.cons (.refl _) (.cons (.refl _) (.cons (.refl _) .nil))))) ?_
  all_goals refine roundET_end ?_
  all_goals first
    | (have _g : pLab L (pTerm L d) k i1 = some ([t], _) := hp
       have hG := labs_go hl1 hw1 hp (by assumption) hn (by assumption) ho
       refine ⟨.ok (ls ++ [w]) (ts ++ [t]) _, [], ⟨hG.1, (by simp only [List.length_append, List.length_singleton]; omega), (by assumption), hG.2⟩, (by have := hG.1; simp only [PSt.mu, List.length_append, List.length_singleton] at this ⊢; omega), ?_⟩)
    | (have _g : pLab L (pTerm L d) k i1 = some ([unitM], _) := hp
       have hG := labs_go hl1 hw1 hp (by assumption) hn (by assumption) ho
       refine ⟨.ok (ls ++ [w]) (ts ++ [unitM]) _, [], ⟨hG.1, (by simp only [List.length_append, List.length_singleton]; omega), (by assumption), hG.2⟩, (by have := hG.1; simp only [PSt.mu, List.length_append, List.length_singleton] at this ⊢; omega), ?_⟩)
    | (have _g : pLab L (pTerm L d) k i1 = some ([], _) := hp
       have hG := labs_go hl1 hw1 hp (by assumption) hn (by assumption) ho
       rw [List.append_nil] at hG
       refine ⟨.ok (ls ++ [w]) ts _, [], ⟨hG.1, (by simp only [List.length_append, List.length_singleton]; omega), (by assumption), hG.2⟩, (by have := hG.1; simp only [PSt.mu, List.length_append, List.length_singleton] at this ⊢; omega), ?_⟩)
    | (have _g := t; refine ⟨.bad (ls ++ [w]) (ts ++ [t]) _, [], ⟨(by simp only [List.length_append, List.length_singleton]; omega), (by first | omega | (simp only [List.length_append, List.length_singleton]; omega)), (by assumption), by (first | exact labs_n1 hw1 ho | exact labs_n2 hw1 hp ho | exact labs_n3 hl1 hw1 hp (by assumption) hm ho)⟩, (by simp only [PSt.mu]; omega), ?_⟩)
    | (have _g : k = 17 := (by assumption); refine ⟨.bad (ls ++ [w]) (ts ++ [unitM]) _, [], ⟨(by simp only [List.length_append, List.length_singleton]; omega), (by first | omega | (simp only [List.length_append, List.length_singleton]; omega)), (by assumption), by (first | exact labs_n1 hw1 ho | exact labs_n2 hw1 hp ho | exact labs_n3 hl1 hw1 hp (by assumption) hm ho)⟩, (by simp only [PSt.mu]; omega), ?_⟩)
    | (skip; refine ⟨.bad (ls ++ [w]) ts _, [], ⟨(by simp only [List.length_append, List.length_singleton]; omega), (by first | omega | (simp only [List.length_append, List.length_singleton]; omega)), (by assumption), by (first | exact labs_n1 hw1 ho | exact labs_n2 hw1 hp ho | exact labs_n3 hl1 hw1 hp (by assumption) hm ho)⟩, (by simp only [PSt.mu]; omega), ?_⟩)
  repeat' (first | omega | (with_reducible show (_ : Int) < _; dsimp only; omega) | (with_reducible show (_ : Nat) ≤ _; dsimp only; omega) | ((with_reducible show SrcOk _ _ _) <;> (first | exact srcOk_1 rfl | exact srcOk_L (fun _ => ⟨rfl, rfl⟩) | exact srcOk_E (fun _ => ⟨rfl, rfl⟩))) | ((conv => whnf) <;> (first | exact fx_T (show 2 < 3 by decide) | exact low_cells rfl | exact keeps0_nil _ _ | refine And.intro ?_ ?_ | (intro _h; first | contradiction | (try simp only [dd] at _h)) | (refine dt_go ?_) | exact rfl | exact True.intro | exact dkk | exact dks | (refine wrap_succ ?_; omega))))
end
end Go.Proofs.Ytllcemegnggpfaa
