/- Texts for VReadPathP. -/
import Derived.Test.YtfaadafgbhmlfaaDoorVt26
namespace Go.Proofs.YtfaadafgbhmlfaaDoor
open Go Go.RowKit
set_option linter.unusedVariables false
set_option linter.unusedSimpArgs false
set_option maxRecDepth 8000
section
attribute [local irreducible] IntKind.wrap
theorem nameOk_t (w : ByteArray) (hs : w.size ≤ 30000) (h1 : nmB w) : Ret env.P 34 [.s w] (fun r => r = .b true) := (nameOk_ok w (by omega)).mono fun r e => by rw [e, pb_t.mpr h1]
theorem nameOk_f (w : ByteArray) (hs : w.size ≤ 30000) (h1 : ¬ nmB w) : Ret env.P 34 [.s w] (fun r => r = .b false) := (nameOk_ok w (by omega)).mono fun r e => by rw [e, pb_f.mpr h1]
set_option maxHeartbeats 4000000 in
theorem textN_t (L : List Tok) (hL : LexOk L) (a : Nat) (ha : a < L.length) (hk : (tkL L a).kind = 1) (hg : Ret env.P 34 [.s (tkL L a).text] (fun r => r = .b true)) : RetM env.P 33 [some (boxRow (pB L a false))] [.ptr 0 0 0, .i .i64 1, .fn 34 []] (fun r H => r = .s (tkL L a).text ∧ H = [some (boxRow (pB L (a + 1) false))]) := by
  have := hL.most
  have e : IntKind.i64.wrap ((a : Int) + 1) = ((a + 1 : Nat) : Int) := by rw [wrap_in (by omega) (by omega)]; rfl
  refine ret_ofM (nt := 47) (rvs := [.tmp 6]) Tryd.func33 rfl rfl rfl rfl (fun X hX => ?_)
  repeat' (first | omega | (with_reducible show (_ : Int) < _; dsimp only; omega) | (with_reducible show (_ : Nat) ≤ _; dsimp only; omega) | ((with_reducible show SrcOk _ _ _) <;> (first | exact srcOk_1 rfl | exact srcOk_L (fun _ => ⟨rfl, rfl⟩) | exact srcOk_E (fun _ => ⟨rfl, rfl⟩))) | ((conv => whnf) <;> (first | (exfalso; exact ‹¬ Tok.kind (List.getD L _ default) = 1› hk) | refine And.intro ?_ ?_ | (intro _h; first | contradiction | (try simp only [dd] at _h)) | (refine dt_go ?_) | exact rfl | exact True.intro | exact dkk | exact dks | ((first | refine .inl ⟨_, hg, ?_⟩ | refine ⟨_, hg, ?_⟩); (try rintro _ rfl)) | (refine wrap_succ ?_; omega))))
  all_goals first
    | (exfalso; omega)
    | (conv => whnf
       rw [e]
       refine endM_turn (turn_box (id := 0) (ds := pB L (a + 1) false) rfl rfl rfl (.cons (.refl _) (.cons (.refl _) (.cons (.refl _) .nil)))) ?_
       exact endM_pick [0] [some (boxRow (pB L (a + 1) false))] (.s (tkL L a).text) viewA rfl rfl (by rw [hX]; exact keepK (n := 1) rfl rfl) ⟨rfl, rfl⟩)
    | trace_state
set_option maxHeartbeats 4000000 in
theorem textN_f (L : List Tok) (hL : LexOk L) (a : Nat) (ha : a < L.length) (hg : (tkL L a).kind = 1 → Ret env.P 34 [.s (tkL L a).text] (fun r => r = .b false)) : RetM env.P 33 [some (boxRow (pB L a false))] [.ptr 0 0 0, .i .i64 1, .fn 34 []] (fun r H => r = .s ⟨#[]⟩ ∧ H = [some (boxRow (pB L a true))]) := by
  have := hL.most
  refine ret_ofM (nt := 47) (rvs := [.tmp 6]) Tryd.func33 rfl rfl rfl rfl (fun X hX => ?_)
  repeat' (first | omega | (with_reducible show (_ : Int) < _; dsimp only; omega) | (with_reducible show (_ : Nat) ≤ _; dsimp only; omega) | ((with_reducible show SrcOk _ _ _) <;> (first | exact srcOk_1 rfl | exact srcOk_L (fun _ => ⟨rfl, rfl⟩) | exact srcOk_E (fun _ => ⟨rfl, rfl⟩))) | ((conv => whnf) <;> (first | refine And.intro ?_ ?_ | (intro _h; first | contradiction | (try simp only [dd] at _h)) | (refine dt_go ?_) | exact rfl | exact True.intro | exact dkk | exact dks | ((first | refine .inl ⟨_, hg ‹_›, ?_⟩ | refine ⟨_, hg ‹_›, ?_⟩); (try rintro _ rfl)) | (refine wrap_succ ?_; omega))))
  all_goals first
    | (exfalso; omega)
    | (conv => whnf
       refine endM_turn (turn_box (id := 0) (ds := pB L a true) rfl rfl rfl (.cons (.refl _) (.cons (.refl _) (.cons (.refl _) .nil)))) ?_
       exact endM_pick [0] [some (boxRow (pB L a true))] (.s ⟨#[]⟩) viewA rfl rfl (by rw [hX]; exact keepK (n := 1) rfl rfl) ⟨rfl, rfl⟩)
    | trace_state
set_option maxHeartbeats 4000000 in
theorem textN_b (L : List Tok) (hL : LexOk L) (a : Nat) (ha : a < L.length) : RetM env.P 33 [some (boxRow (pB L a true))] [.ptr 0 0 0, .i .i64 1, .fn 34 []] (fun r H => r = .s ⟨#[]⟩ ∧ H = [some (boxRow (pB L a true))]) := by
  have := hL.most
  refine ret_ofM (nt := 47) (rvs := [.tmp 6]) Tryd.func33 rfl rfl rfl rfl (fun X hX => ?_)
  repeat' (first | omega | (with_reducible show (_ : Int) < _; dsimp only; omega) | (with_reducible show (_ : Nat) ≤ _; dsimp only; omega) | ((with_reducible show SrcOk _ _ _) <;> (first | exact srcOk_1 rfl | exact srcOk_L (fun _ => ⟨rfl, rfl⟩) | exact srcOk_E (fun _ => ⟨rfl, rfl⟩))) | ((conv => whnf) <;> (first | refine And.intro ?_ ?_ | (intro _h; first | contradiction | (try simp only [dd] at _h)) | (refine dt_go ?_) | exact rfl | exact True.intro | exact dkk | exact dks | (refine wrap_succ ?_; omega))))
  all_goals first
    | (exfalso; omega)
    | (conv => whnf
       refine endM_turn (turn_box (id := 0) (ds := pB L a true) rfl rfl rfl (.cons (.refl _) (.cons (.refl _) (.cons (.refl _) .nil)))) ?_
       exact endM_pick [0] [some (boxRow (pB L a true))] (.s ⟨#[]⟩) viewA rfl rfl (by rw [hX]; exact keepK (n := 1) rfl rfl) ⟨rfl, rfl⟩)
    | trace_state
theorem nameI_o (L : List Tok) (hL : LexOk L) (a : Nat) (ha : a < L.length) : RetM env.P 19 [some (boxRow (pB L a false))] [.ptr 0 0 0] (fun r H => (∃ w, pName L a = some (w, a + 1) ∧ a + 1 < L.length ∧ r = .s w ∧ H = [some (boxRow (pB L (a + 1) false))]) ∨ (pName L a = none ∧ r = .s ⟨#[]⟩ ∧ H = [some (boxRow (pB L a true))])) := by
  by_cases h : (tkL L a).kind = 1 ∧ nmB (tkL L a).text
  · refine ret_ofM (nt := 5) (rvs := [.tmp 2]) Tryd.func19 rfl rfl rfl rfl (fun X hX => ?_)
    repeat' (first | omega | (with_reducible show (_ : Int) < _; dsimp only; omega) | (with_reducible show (_ : Nat) ≤ _; dsimp only; omega) | ((with_reducible show SrcOk _ _ _) <;> (first | exact srcOk_1 rfl | exact srcOk_L (fun _ => ⟨rfl, rfl⟩) | exact srcOk_E (fun _ => ⟨rfl, rfl⟩))) | ((conv => whnf) <;> (first | refine And.intro ?_ ?_ | (intro _h; first | contradiction | (try simp only [dd] at _h)) | (refine dt_go ?_) | exact rfl | exact True.intro | exact dkk | exact dks | (refine .inr (.inl (.inl ⟨[0], _, _, _, textN_t L hL a ha h.1 (nameOk_t _ (hL.sz a ha) h.2), viewA, ⟨rfl, rfl⟩, ?_⟩)); (rintro _ _ ⟨rfl, rfl⟩) <;> (refine ⟨rfl, _, lokA, ?_⟩)) | (refine wrap_succ ?_; omega))))
    all_goals (conv => whnf)
    all_goals exact endM_self (.inl ⟨_, if_pos h, hL.lt ha (by rw [h.1]; decide), rfl, rfl⟩)
  · refine ret_ofM (nt := 5) (rvs := [.tmp 2]) Tryd.func19 rfl rfl rfl rfl (fun X hX => ?_)
    repeat' (first | omega | (with_reducible show (_ : Int) < _; dsimp only; omega) | (with_reducible show (_ : Nat) ≤ _; dsimp only; omega) | ((with_reducible show SrcOk _ _ _) <;> (first | exact srcOk_1 rfl | exact srcOk_L (fun _ => ⟨rfl, rfl⟩) | exact srcOk_E (fun _ => ⟨rfl, rfl⟩))) | ((conv => whnf) <;> (first | refine And.intro ?_ ?_ | (intro _h; first | contradiction | (try simp only [dd] at _h)) | (refine dt_go ?_) | exact rfl | exact True.intro | exact dkk | exact dks | (refine .inr (.inl (.inl ⟨[0], _, _, _, textN_f L hL a ha (fun q => nameOk_f _ (hL.sz a ha) (fun r => h ⟨q, r⟩)), viewA, ⟨rfl, rfl⟩, ?_⟩)); (rintro _ _ ⟨rfl, rfl⟩) <;> (refine ⟨rfl, _, lokA, ?_⟩)) | (refine wrap_succ ?_; omega))))
    all_goals (conv => whnf)
    all_goals exact endM_self (.inr ⟨if_neg h, rfl, rfl⟩)
theorem nameI_b (L : List Tok) (hL : LexOk L) (a : Nat) (ha : a < L.length) : RetM env.P 19 [some (boxRow (pB L a true))] [.ptr 0 0 0] (fun r H => r = .s ⟨#[]⟩ ∧ H = [some (boxRow (pB L a true))]) := by
  refine ret_ofM (nt := 5) (rvs := [.tmp 2]) Tryd.func19 rfl rfl rfl rfl (fun X hX => ?_)
  repeat' (first | omega | (with_reducible show (_ : Int) < _; dsimp only; omega) | (with_reducible show (_ : Nat) ≤ _; dsimp only; omega) | ((with_reducible show SrcOk _ _ _) <;> (first | exact srcOk_1 rfl | exact srcOk_L (fun _ => ⟨rfl, rfl⟩) | exact srcOk_E (fun _ => ⟨rfl, rfl⟩))) | ((conv => whnf) <;> (first | refine And.intro ?_ ?_ | (intro _h; first | contradiction | (try simp only [dd] at _h)) | (refine dt_go ?_) | exact rfl | exact True.intro | exact dkk | exact dks | (refine .inr (.inl (.inl ⟨[0], _, _, _, textN_b L hL a ha, viewA, ⟨rfl, rfl⟩, ?_⟩)); (rintro _ _ ⟨rfl, rfl⟩) <;> (refine ⟨rfl, _, lokA, ?_⟩)) | (refine wrap_succ ?_; omega))))
  all_goals (conv => whnf)
  all_goals exact endM_self ⟨rfl, rfl⟩
open Classical in
noncomputable def pVer (L : List Tok) (i : Nat) : Option (ByteArray × Nat) := if (tkL L i).kind = 2 ∧ (vnum (tkL L i).text).isSome = true then some ((tkL L i).text, i + 1) else none
theorem verOkI (w : ByteArray) (hs : w.size ≤ 30000) : Ret env.P 36 [.s w] (fun r => r = .b (vnum w).isSome) := by
  refine ret_of (nt := 11) (rvs := [.tmp 2]) Tryd.func36 rfl rfl rfl rfl (fun X => ?_)
  repeat' (first | omega | (with_reducible show (_ : Int) < _; dsimp only; omega) | (with_reducible show (_ : Nat) ≤ _; dsimp only; omega) | ((with_reducible show SrcOk _ _ _) <;> (first | exact srcOk_1 rfl | exact srcOk_L (fun _ => ⟨rfl, rfl⟩) | exact srcOk_E (fun _ => ⟨rfl, rfl⟩))) | ((conv => whnf) <;> (first | refine And.intro ?_ ?_ | (intro _h; first | contradiction | (try simp only [dd] at _h)) | (refine dt_go ?_) | exact rfl | exact True.intro | exact dkk | exact dks | ((first | refine .inl ⟨_, versionNumber_ok w (by omega), ?_⟩ | refine ⟨_, versionNumber_ok w (by omega), ?_⟩); (try rintro _ rfl)) | (refine wrap_succ ?_; omega))))
  all_goals exact rfl
theorem verOk_t (w : ByteArray) (hs : w.size ≤ 30000) (h : (vnum w).isSome = true) : Ret env.P 36 [.s w] (fun r => r = .b true) := (verOkI w hs).mono fun r e => by rw [e, h]
theorem verOk_f (w : ByteArray) (hs : w.size ≤ 30000) (h : ¬ (vnum w).isSome = true) : Ret env.P 36 [.s w] (fun r => r = .b false) := (verOkI w hs).mono fun r e => by rw [e]; simp only [Bool.not_eq_true] at h; rw [h]
set_option maxHeartbeats 4000000 in
theorem textV_t (L : List Tok) (hL : LexOk L) (a : Nat) (ha : a < L.length) (hk : (tkL L a).kind = 2) (hg : Ret env.P 36 [.s (tkL L a).text] (fun r => r = .b true)) : RetM env.P 33 [some (boxRow (pB L a false))] [.ptr 0 0 0, .i .i64 2, .fn 36 []] (fun r H => r = .s (tkL L a).text ∧ H = [some (boxRow (pB L (a + 1) false))]) := by
  have := hL.most
  have e : IntKind.i64.wrap ((a : Int) + 1) = ((a + 1 : Nat) : Int) := by rw [wrap_in (by omega) (by omega)]; rfl
  refine ret_ofM (nt := 47) (rvs := [.tmp 6]) Tryd.func33 rfl rfl rfl rfl (fun X hX => ?_)
  repeat' (first | omega | (with_reducible show (_ : Int) < _; dsimp only; omega) | (with_reducible show (_ : Nat) ≤ _; dsimp only; omega) | ((with_reducible show SrcOk _ _ _) <;> (first | exact srcOk_1 rfl | exact srcOk_L (fun _ => ⟨rfl, rfl⟩) | exact srcOk_E (fun _ => ⟨rfl, rfl⟩))) | ((conv => whnf) <;> (first | (exfalso; exact ‹¬ Tok.kind (List.getD L _ default) = 2› hk) | refine And.intro ?_ ?_ | (intro _h; first | contradiction | (try simp only [dd] at _h)) | (refine dt_go ?_) | exact rfl | exact True.intro | exact dkk | exact dks | ((first | refine .inl ⟨_, hg, ?_⟩ | refine ⟨_, hg, ?_⟩); (try rintro _ rfl)) | (refine wrap_succ ?_; omega))))
  all_goals first
    | (exfalso; omega)
    | (conv => whnf
       rw [e]
       refine endM_turn (turn_box (id := 0) (ds := pB L (a + 1) false) rfl rfl rfl (.cons (.refl _) (.cons (.refl _) (.cons (.refl _) .nil)))) ?_
       exact endM_pick [0] [some (boxRow (pB L (a + 1) false))] (.s (tkL L a).text) viewA rfl rfl (by rw [hX]; exact keepK (n := 1) rfl rfl) ⟨rfl, rfl⟩)
    | trace_state
set_option maxHeartbeats 4000000 in
theorem textV_f (L : List Tok) (hL : LexOk L) (a : Nat) (ha : a < L.length) (hg : (tkL L a).kind = 2 → Ret env.P 36 [.s (tkL L a).text] (fun r => r = .b false)) : RetM env.P 33 [some (boxRow (pB L a false))] [.ptr 0 0 0, .i .i64 2, .fn 36 []] (fun r H => r = .s ⟨#[]⟩ ∧ H = [some (boxRow (pB L a true))]) := by
  have := hL.most
  refine ret_ofM (nt := 47) (rvs := [.tmp 6]) Tryd.func33 rfl rfl rfl rfl (fun X hX => ?_)
  repeat' (first | omega | (with_reducible show (_ : Int) < _; dsimp only; omega) | (with_reducible show (_ : Nat) ≤ _; dsimp only; omega) | ((with_reducible show SrcOk _ _ _) <;> (first | exact srcOk_1 rfl | exact srcOk_L (fun _ => ⟨rfl, rfl⟩) | exact srcOk_E (fun _ => ⟨rfl, rfl⟩))) | ((conv => whnf) <;> (first | refine And.intro ?_ ?_ | (intro _h; first | contradiction | (try simp only [dd] at _h)) | (refine dt_go ?_) | exact rfl | exact True.intro | exact dkk | exact dks | ((first | refine .inl ⟨_, hg ‹_›, ?_⟩ | refine ⟨_, hg ‹_›, ?_⟩); (try rintro _ rfl)) | (refine wrap_succ ?_; omega))))
  all_goals first
    | (exfalso; omega)
    | (conv => whnf
       refine endM_turn (turn_box (id := 0) (ds := pB L a true) rfl rfl rfl (.cons (.refl _) (.cons (.refl _) (.cons (.refl _) .nil)))) ?_
       exact endM_pick [0] [some (boxRow (pB L a true))] (.s ⟨#[]⟩) viewA rfl rfl (by rw [hX]; exact keepK (n := 1) rfl rfl) ⟨rfl, rfl⟩)
    | trace_state
theorem verI_o (L : List Tok) (hL : LexOk L) (a : Nat) (ha : a < L.length) : RetM env.P 21 [some (boxRow (pB L a false))] [.ptr 0 0 0] (fun r H => (∃ w, pVer L a = some (w, a + 1) ∧ a + 1 < L.length ∧ r = .s w ∧ H = [some (boxRow (pB L (a + 1) false))]) ∨ (pVer L a = none ∧ r = .s ⟨#[]⟩ ∧ H = [some (boxRow (pB L a true))])) := by
  by_cases h : (tkL L a).kind = 2 ∧ (vnum (tkL L a).text).isSome = true
  · refine ret_ofM (nt := 5) (rvs := [.tmp 2]) Tryd.func21 rfl rfl rfl rfl (fun X hX => ?_)
    repeat' (first | omega | (with_reducible show (_ : Int) < _; dsimp only; omega) | (with_reducible show (_ : Nat) ≤ _; dsimp only; omega) | ((with_reducible show SrcOk _ _ _) <;> (first | exact srcOk_1 rfl | exact srcOk_L (fun _ => ⟨rfl, rfl⟩) | exact srcOk_E (fun _ => ⟨rfl, rfl⟩))) | ((conv => whnf) <;> (first | refine And.intro ?_ ?_ | (intro _h; first | contradiction | (try simp only [dd] at _h)) | (refine dt_go ?_) | exact rfl | exact True.intro | exact dkk | exact dks | (refine .inr (.inl (.inl ⟨[0], _, _, _, textV_t L hL a ha h.1 (verOk_t _ (hL.sz a ha) h.2), viewA, ⟨rfl, rfl⟩, ?_⟩)); (rintro _ _ ⟨rfl, rfl⟩) <;> (refine ⟨rfl, _, lokA, ?_⟩)) | (refine wrap_succ ?_; omega))))
    all_goals (conv => whnf)
    all_goals exact endM_self (.inl ⟨_, if_pos h, hL.lt ha (by rw [h.1]; decide), rfl, rfl⟩)
  · refine ret_ofM (nt := 5) (rvs := [.tmp 2]) Tryd.func21 rfl rfl rfl rfl (fun X hX => ?_)
    repeat' (first | omega | (with_reducible show (_ : Int) < _; dsimp only; omega) | (with_reducible show (_ : Nat) ≤ _; dsimp only; omega) | ((with_reducible show SrcOk _ _ _) <;> (first | exact srcOk_1 rfl | exact srcOk_L (fun _ => ⟨rfl, rfl⟩) | exact srcOk_E (fun _ => ⟨rfl, rfl⟩))) | ((conv => whnf) <;> (first | refine And.intro ?_ ?_ | (intro _h; first | contradiction | (try simp only [dd] at _h)) | (refine dt_go ?_) | exact rfl | exact True.intro | exact dkk | exact dks | (refine .inr (.inl (.inl ⟨[0], _, _, _, textV_f L hL a ha (fun q => verOk_f _ (hL.sz a ha) (fun r => h ⟨q, r⟩)), viewA, ⟨rfl, rfl⟩, ?_⟩)); (rintro _ _ ⟨rfl, rfl⟩) <;> (refine ⟨rfl, _, lokA, ?_⟩)) | (refine wrap_succ ?_; omega))))
    all_goals (conv => whnf)
    all_goals exact endM_self (.inr ⟨if_neg h, rfl, rfl⟩)
theorem vrS_t {t : ByteArray} (hs : t.size ≤ 30000) (h : (vnum t).isSome = true) : Ret env.P 30 [.s t] (fun r => r = .b true) := by
  have hn := (num_iff t).2 h
  refine ret_of (nt := 6) (rvs := [.tmp 2]) Tryd.func30 rfl rfl rfl rfl (fun X => ?_)
  repeat' (first | omega | (with_reducible show (_ : Int) < _; dsimp only; omega) | (with_reducible show (_ : Nat) ≤ _; dsimp only; omega) | ((with_reducible show SrcOk _ _ _) <;> (first | exact srcOk_1 rfl | exact srcOk_L (fun _ => ⟨rfl, rfl⟩) | exact srcOk_E (fun _ => ⟨rfl, rfl⟩))) | ((conv => whnf) <;> (first | refine And.intro ?_ ?_ | (intro _h; first | contradiction | (try simp only [dd] at _h)) | (refine dt_go ?_) | exact rfl | exact True.intro | exact dkk | exact dks | ((first | refine .inl ⟨_, l02Num_ok t (by omega), ?_⟩ | refine ⟨_, l02Num_ok t (by omega), ?_⟩); (try rintro _ rfl)) | (refine wrap_succ ?_; omega))))
  all_goals first | exact rfl | (refine leaf_b ?_; simp only [decide_eq_true_eq]; omega)
theorem vrS_f {t : ByteArray} (hs : t.size ≤ 30000) (h : ¬ (vnum t).isSome = true) : Ret env.P 30 [.s t] (fun r => r = .b false) := by
  have hn : ¬ 0 ≤ numS t := fun q => h ((num_iff t).1 q)
  refine ret_of (nt := 6) (rvs := [.tmp 2]) Tryd.func30 rfl rfl rfl rfl (fun X => ?_)
  repeat' (first | omega | (with_reducible show (_ : Int) < _; dsimp only; omega) | (with_reducible show (_ : Nat) ≤ _; dsimp only; omega) | ((with_reducible show SrcOk _ _ _) <;> (first | exact srcOk_1 rfl | exact srcOk_L (fun _ => ⟨rfl, rfl⟩) | exact srcOk_E (fun _ => ⟨rfl, rfl⟩))) | ((conv => whnf) <;> (first | refine And.intro ?_ ?_ | (intro _h; first | contradiction | (try simp only [dd] at _h)) | (refine dt_go ?_) | exact rfl | exact True.intro | exact dkk | exact dks | ((first | refine .inl ⟨_, l02Num_ok t (by omega), ?_⟩ | refine ⟨_, l02Num_ok t (by omega), ?_⟩); (try rintro _ rfl)) | (refine wrap_succ ?_; omega))))
  all_goals first | exact rfl | (refine leaf_b ?_; simp only [decide_eq_false_iff_not]; omega)
theorem ver_t (L : List Tok) (hL : LexOk L) (a : Nat) (ha : a < L.length) (h : (tkL L a).kind = 2 ∧ (vnum (tkL L a).text).isSome = true) : RetM env.P 17 [some (boxRow (pB L a false))] [.ptr 0 0 0] (fun r H => r = .s (tkL L a).text ∧ H = [some (boxRow (pB L (a + 1) false))]) := by
  have h1 := hL.lt ha (show ¬ (tkL L a).kind = 4 by rw [h.1]; decide)
  have h2 := h.1
  refine ret_ofM (nt := 28) (rvs := [.tmp 2]) Tryd.func17 rfl rfl rfl rfl (fun X hX => ?_)
  repeat' (first | omega | (with_reducible show (_ : Int) < _; dsimp only; omega) | (with_reducible show (_ : Nat) ≤ _; dsimp only; omega) | ((with_reducible show SrcOk _ _ _) <;> (first | exact srcOk_1 rfl | exact srcOk_L (fun _ => ⟨rfl, rfl⟩) | exact srcOk_E (fun _ => ⟨rfl, rfl⟩))) | ((conv => whnf) <;> (first | refine And.intro ?_ ?_ | (intro _h; first | contradiction | (try simp only [dd] at _h)) | (refine dt_go ?_) | exact rfl | exact True.intro | exact dkk | exact dks | ((first | refine .inl ⟨_, Ret.wk (by exact .cons (tWk_rfcp rfl rfl) .nil) (peek_ok L hL a ha), ?_⟩ | refine ⟨_, Ret.wk (by exact .cons (tWk_rfcp rfl rfl) .nil) (peek_ok L hL a ha), ?_⟩); (try rintro _ rfl)) | ((first | refine .inl ⟨_, vrS_t (hL.sz a ha) h.2, ?_⟩ | refine ⟨_, vrS_t (hL.sz a ha) h.2, ?_⟩); (try rintro _ rfl)) | (refine .inr (.inl (.inl ⟨[0], _, _, _, pskip_ok L hL a h1 false, viewA, ⟨rfl, rfl⟩, ?_⟩)); (rintro _ _ ⟨rfl, rfl⟩) <;> (refine ⟨rfl, _, lokA, ?_⟩)) | (refine wrap_succ ?_; omega))))
  all_goals (conv => whnf)
  all_goals first
    | exact absurd h2 ‹_›
    | exact endM_pick [0] [some (boxRow (pB L (a + 1) false))] (.s (tkL L a).text) viewA rfl rfl (by rw [hX]; exact keepK (n := 1) rfl rfl) ⟨rfl, rfl⟩
    | trace_state
theorem ver_f (L : List Tok) (hL : LexOk L) (a : Nat) (ha : a < L.length) (h : ¬ ((tkL L a).kind = 2 ∧ (vnum (tkL L a).text).isSome = true)) : RetM env.P 17 [some (boxRow (pB L a false))] [.ptr 0 0 0] (fun r H => r = .s ⟨#[]⟩ ∧ H = [some (boxRow (pB L a true))]) := by
  refine ret_ofM (nt := 28) (rvs := [.tmp 2]) Tryd.func17 rfl rfl rfl rfl (fun X hX => ?_)
  repeat' (first | omega | (with_reducible show (_ : Int) < _; dsimp only; omega) | (with_reducible show (_ : Nat) ≤ _; dsimp only; omega) | ((with_reducible show SrcOk _ _ _) <;> (first | exact srcOk_1 rfl | exact srcOk_L (fun _ => ⟨rfl, rfl⟩) | exact srcOk_E (fun _ => ⟨rfl, rfl⟩))) | ((conv => whnf) <;> (first | refine And.intro ?_ ?_ | (intro _h; first | contradiction | (try simp only [dd] at _h)) | (refine dt_go ?_) | exact rfl | exact True.intro | exact dkk | exact dks | ((first | refine .inl ⟨_, Ret.wk (by exact .cons (tWk_rfcp rfl rfl) .nil) (peek_ok L hL a ha), ?_⟩ | refine ⟨_, Ret.wk (by exact .cons (tWk_rfcp rfl rfl) .nil) (peek_ok L hL a ha), ?_⟩); (try rintro _ rfl)) | ((first | refine .inl ⟨_, vrS_f (hL.sz a ha) (fun q => h ⟨‹_›, q⟩), ?_⟩ | refine ⟨_, vrS_f (hL.sz a ha) (fun q => h ⟨‹_›, q⟩), ?_⟩); (try rintro _ rfl)) | (refine wrap_succ ?_; omega))))
  all_goals (conv => whnf)
  all_goals first
    | (refine endM_turn (turn_box (id := 0) (ds := pB L a true) rfl rfl rfl (.cons (.refl _) (.cons (.refl _) (.cons (.refl _) .nil)))) ?_
       exact endM_pick [0] [some (boxRow (pB L a true))] (.s ⟨#[]⟩) viewA rfl rfl (by rw [hX]; exact keepK (n := 1) rfl rfl) ⟨rfl, rfl⟩)
    | trace_state
end
section
attribute [local irreducible] IntKind.wrap
structure Pth where
  pkg : ByteArray
  name : ByteArray
  ver : ByteArray
def Pth.cs (x : Pth) : List AV := [.s x.pkg, .s x.name, .s x.ver]
open Classical in
noncomputable def pPath (L : List Tok) (i : Nat) : Option (Pth × Nat) := match pName L i with
  | none => none
  | some (n, i) => if isT L ⟨#[47]⟩ i then match pName L (i + 1) with
      | none => none
      | some (n2, i) => if isT L ⟨#[64]⟩ i then match pVer L (i + 1) with
          | none => none
          | some (v, i) => some (⟨n, n2, v⟩, i)
        else some (⟨n, n2, ⟨#[]⟩⟩, i)
    else some (⟨⟨#[]⟩, n, ⟨#[]⟩⟩, i)
section
variable {L : List Tok} {a i j k : Nat} {w w2 v : ByteArray}
theorem pP_n1 (h : pName L a = none) : pPath L a = none := by unfold pPath; rw [h]
theorem pP_a (h : pName L a = some (w, i)) (h2 : ¬ isT L ⟨#[47]⟩ i) : pPath L a = some (⟨⟨#[]⟩, w, ⟨#[]⟩⟩, i) := by unfold pPath; rw [h]; dsimp only; rw [if_neg h2]
theorem pP_n2 (h : pName L a = some (w, i)) (h2 : isT L ⟨#[47]⟩ i) (h3 : pName L (i + 1) = none) : pPath L a = none := by unfold pPath; rw [h]; dsimp only; rw [if_pos h2, h3]
theorem pP_b (h : pName L a = some (w, i)) (h2 : isT L ⟨#[47]⟩ i) (h3 : pName L (i + 1) = some (w2, j)) (h4 : ¬ isT L ⟨#[64]⟩ j) : pPath L a = some (⟨w, w2, ⟨#[]⟩⟩, j) := by unfold pPath; rw [h]; dsimp only; rw [if_pos h2, h3]; dsimp only; rw [if_neg h4]
theorem pP_n3 (h : pName L a = some (w, i)) (h2 : isT L ⟨#[47]⟩ i) (h3 : pName L (i + 1) = some (w2, j)) (h4 : isT L ⟨#[64]⟩ j) (h5 : pVer L (j + 1) = none) : pPath L a = none := by unfold pPath; rw [h]; dsimp only; rw [if_pos h2, h3]; dsimp only; rw [if_pos h4, h5]
theorem pP_c (h : pName L a = some (w, i)) (h2 : isT L ⟨#[47]⟩ i) (h3 : pName L (i + 1) = some (w2, j)) (h4 : isT L ⟨#[64]⟩ j) (h5 : pVer L (j + 1) = some (v, k)) : pPath L a = some (⟨w, w2, v⟩, k) := by unfold pPath; rw [h]; dsimp only; rw [if_pos h2, h3]; dsimp only; rw [if_pos h4, h5]
end
theorem dg47 : ¬ isDg (byI ⟨#[47]⟩ 0) := by unfold isDg byI; decide
theorem dg64 : ¬ isDg (byI ⟨#[64]⟩ 0) := by unfold isDg byI; decide
theorem name_o (L : List Tok) (hL : LexOk L) (a : Nat) (ha : a < L.length) : RetM env.P 15 [some (boxRow (pB L a false))] [.ptr 0 0 0] (fun r H => (∃ w, pName L a = some (w, a + 1) ∧ a + 1 < L.length ∧ r = .s w ∧ H = [some (boxRow (pB L (a + 1) false))]) ∨ (pName L a = none ∧ r = .s ⟨#[]⟩ ∧ H = [some (boxRow (pB L a true))])) := by
  by_cases h : (tkL L a).kind = 1 ∧ nmB (tkL L a).text
  · exact (name_t L hL a ha h).mono fun r H ⟨h1, h2⟩ => .inl ⟨_, if_pos h, hL.lt ha (by rw [h.1]; decide), h1, h2⟩
  · exact (name_f L hL a ha h).mono fun r H ⟨h1, h2⟩ => .inr ⟨if_neg h, h1, h2⟩
theorem ver_o (L : List Tok) (hL : LexOk L) (a : Nat) (ha : a < L.length) : RetM env.P 17 [some (boxRow (pB L a false))] [.ptr 0 0 0] (fun r H => (∃ w, pVer L a = some (w, a + 1) ∧ a + 1 < L.length ∧ r = .s w ∧ H = [some (boxRow (pB L (a + 1) false))]) ∨ (pVer L a = none ∧ r = .s ⟨#[]⟩ ∧ H = [some (boxRow (pB L a true))])) := by
  by_cases h : (tkL L a).kind = 2 ∧ (vnum (tkL L a).text).isSome = true
  · exact (ver_t L hL a ha h).mono fun r H ⟨h1, h2⟩ => .inl ⟨_, if_pos h, hL.lt ha (by rw [h.1]; decide), h1, h2⟩
  · exact (ver_f L hL a ha h).mono fun r H ⟨h1, h2⟩ => .inr ⟨if_neg h, h1, h2⟩
theorem tkS_o (L : List Tok) (hL : LexOk L) (a : Nat) (ha : a < L.length) (t : ByteArray) : RetM env.P 16 [some (boxRow (pB L a false))] [.ptr 0 0 0, .s t] (fun r H => (isT L t a ∧ a + 1 < L.length ∧ r = .kb true ∧ H = [some (boxRow (pB L (a + 1) false))]) ∨ (¬ isT L t a ∧ r = .kb false ∧ H = [some (boxRow (pB L a false))])) := by
  by_cases h : isT L t a
  · exact (take_t L hL a ha t h).mono fun r H ⟨h1, h2⟩ => .inl ⟨h, hL.isT_lt ha h, h1, h2⟩
  · exact (take_f L hL a ha t h).mono fun r H ⟨h1, h2⟩ => .inr ⟨h, h1, h2⟩
set_option maxHeartbeats 4000000 in
theorem pathS_ok (L : List Tok) (hL : LexOk L) (a : Nat) (ha : a < L.length) : RetM env.P 8 [some (boxRow (pB L a false))] [.ptr 0 0 0] (fun r H => (∃ x a', pPath L a = some (x, a') ∧ a' < L.length ∧ r = .agg (Pth.cs x) ∧ H = [some (boxRow (pB L a' false))]) ∨ (pPath L a = none ∧ ∃ x a', a' < L.length ∧ r = .agg (Pth.cs x) ∧ H = [some (boxRow (pB L a' true))])) := by
  refine ret_ofM (nt := 21) (rvs := [.cell 2 23]) Tryd.func8 rfl rfl rfl rfl (fun X hX => ?_)
  repeat' (first | omega | (with_reducible show (_ : Int) < _; dsimp only; omega) | (with_reducible show (_ : Nat) ≤ _; dsimp only; omega) | ((with_reducible show SrcOk _ _ _) <;> (first | exact srcOk_1 rfl | exact srcOk_L (fun _ => ⟨rfl, rfl⟩) | exact srcOk_E (fun _ => ⟨rfl, rfl⟩))) | ((conv => whnf) <;> (first | refine And.intro ?_ ?_ | (intro _h; first | contradiction | (try simp only [dd] at _h)) | (refine dt_go ?_) | exact rfl | exact True.intro | exact dkk | exact dks | (refine .inr (.inl (.inl ⟨[0], _, _, _, name_o L hL _ ?_, viewA, ⟨rfl, rfl⟩, ?_⟩)); rotate_left 1; (rintro _ _ (⟨_w, _hw, _, rfl, rfl⟩ | ⟨_hw, rfl, rfl⟩)) <;> (refine ⟨rfl, _, lokA, ?_⟩)) | (refine .inr (.inl (.inl ⟨[0], _, _, _, ver_o L hL _ ?_, viewA, ⟨rfl, rfl⟩, ?_⟩)); rotate_left 1; (rintro _ _ (⟨_v, _hv, _, rfl, rfl⟩ | ⟨_hv, rfl, rfl⟩)) <;> (refine ⟨rfl, _, lokA, ?_⟩)) | (refine .inr (.inl (.inl ⟨[0], _, _, _, tkS_o L hL _ ?_ _, viewA, ⟨rfl, rfl⟩, ?_⟩)); rotate_left 1; (rintro _ _ (⟨_ht, _, rfl, rfl⟩ | ⟨_ht, rfl, rfl⟩)) <;> (refine ⟨rfl, _, lokA, ?_⟩)) | (refine .inr (.inl (.inl ⟨[0], _, _, _, name_b L hL _ ?_, viewA, ⟨rfl, rfl⟩, ?_⟩)); rotate_left 1; (rintro _ _ ⟨rfl, rfl⟩) <;> (refine ⟨rfl, _, lokA, ?_⟩)) | (refine .inr (.inl (.inl ⟨[0], _, _, _, take_b L _ _, viewA, ⟨rfl, rfl⟩, ?_⟩)); (rintro _ _ ⟨rfl, rfl⟩) <;> (refine ⟨rfl, _, lokA, ?_⟩)) | (refine wrap_succ ?_; omega))))
  all_goals (conv => whnf)
  all_goals first
    | (have _g : pName L a = none := _hw; refine endM_pick [0] [some (boxRow (pB L _ true))] (.agg [.s _, .s _, .s _]) viewA rfl rfl (by rw [hX]; exact keepK (n := 1) rfl rfl) (.inr ⟨?_, ⟨_, _, _⟩, _, ?_, rfl, rfl⟩))
    | (have _g : pName L (a + 1 + 1) = none := _hw; refine endM_pick [0] [some (boxRow (pB L _ true))] (.agg [.s _, .s _, .s _]) viewA rfl rfl (by rw [hX]; exact keepK (n := 1) rfl rfl) (.inr ⟨?_, ⟨_, _, _⟩, _, ?_, rfl, rfl⟩))
    | (have _g : pVer L (a + 1 + 1 + 1 + 1) = none := _hv; refine endM_pick [0] [some (boxRow (pB L _ true))] (.agg [.s _, .s _, .s _]) viewA rfl rfl (by rw [hX]; exact keepK (n := 1) rfl rfl) (.inr ⟨?_, ⟨_, _, _⟩, _, ?_, rfl, rfl⟩))
    | (refine endM_pick [0] [some (boxRow (pB L _ false))] (.agg [.s _, .s _, .s _]) viewA rfl rfl (by rw [hX]; exact keepK (n := 1) rfl rfl) (.inl ⟨⟨_, _, _⟩, _, ?_, ?_, rfl, rfl⟩))
  all_goals first
    | assumption
    | omega
    | exact pP_n1 ‹_›
    | exact pP_a ‹_› ‹_›
    | exact pP_n2 ‹_› ‹_› ‹_›
    | exact pP_b ‹_› ‹_› ‹_› ‹_›
    | exact pP_n3 ‹_› ‹_› ‹_› ‹_› ‹_›
    | exact pP_c ‹_› ‹_› ‹_› ‹_› ‹_›
    | trace_state
set_option maxHeartbeats 4000000 in
theorem pathI_ok (L : List Tok) (hL : LexOk L) (a : Nat) (ha : a < L.length) : RetM env.P 12 [some (boxRow (pB L a false))] [.ptr 0 0 0] (fun r H => (∃ x a', pPath L a = some (x, a') ∧ a' < L.length ∧ r = .agg (Pth.cs x) ∧ H = [some (boxRow (pB L a' false))]) ∨ (pPath L a = none ∧ ∃ x a', a' < L.length ∧ r = .agg (Pth.cs x) ∧ H = [some (boxRow (pB L a' true))])) := by
  refine ret_ofM (nt := 21) (rvs := [.cell 2 23]) Tryd.func12 rfl rfl rfl rfl (fun X hX => ?_)
  repeat' (first | omega | (with_reducible show (_ : Int) < _; dsimp only; omega) | (with_reducible show (_ : Nat) ≤ _; dsimp only; omega) | ((with_reducible show SrcOk _ _ _) <;> (first | exact srcOk_1 rfl | exact srcOk_L (fun _ => ⟨rfl, rfl⟩) | exact srcOk_E (fun _ => ⟨rfl, rfl⟩))) | ((conv => whnf) <;> (first | ((with_reducible show DT _ _ _ 3 _ _ _ _); refine dt_goC [0, 2] ?_) | refine And.intro ?_ ?_ | (intro _h; first | contradiction | (try simp only [dd] at _h)) | (refine dt_go ?_) | exact rfl | exact True.intro | exact dkk | exact dks | (refine .inr (.inl (.inl ⟨[0], _, _, _, nameI_o L hL _ ?_, viewA, ⟨rfl, rfl⟩, ?_⟩)); rotate_left 1; (rintro _ _ (⟨_w, _hw, _, rfl, rfl⟩ | ⟨_hw, rfl, rfl⟩)) <;> (refine ⟨rfl, _, lokA, ?_⟩)) | (refine .inr (.inl (.inl ⟨[0], _, _, _, verI_o L hL _ ?_, viewA, ⟨rfl, rfl⟩, ?_⟩)); rotate_left 1; (rintro _ _ (⟨_v, _hv, _, rfl, rfl⟩ | ⟨_hv, rfl, rfl⟩)) <;> (refine ⟨rfl, _, lokA, ?_⟩)) | (refine .inr (.inl (.inl ⟨[0], _, _, _, takeI_o L hL _ _ dg47 ?_, viewA, ⟨rfl, rfl⟩, ?_⟩)); rotate_left 1; (rintro _ _ (⟨_ht, _, rfl, rfl⟩ | ⟨_ht, rfl, rfl⟩)) <;> (refine ⟨rfl, _, lokA, ?_⟩)) | (refine .inr (.inl (.inl ⟨[0], _, _, _, takeI_o L hL _ _ dg64 ?_, viewA, ⟨rfl, rfl⟩, ?_⟩)); rotate_left 1; (rintro _ _ (⟨_ht, _, rfl, rfl⟩ | ⟨_ht, rfl, rfl⟩)) <;> (refine ⟨rfl, _, lokA, ?_⟩)) | (refine .inr (.inl (.inl ⟨[0], _, _, _, nameI_b L hL _ ?_, viewA, ⟨rfl, rfl⟩, ?_⟩)); rotate_left 1; (rintro _ _ ⟨rfl, rfl⟩) <;> (refine ⟨rfl, _, lokA, ?_⟩)) | (refine .inr (.inl (.inl ⟨[0], _, _, _, takeI_b L hL _ ?_ _, viewA, ⟨rfl, rfl⟩, ?_⟩)); rotate_left 1; (rintro _ _ ⟨rfl, rfl⟩) <;> (refine ⟨rfl, _, lokA, ?_⟩)) | (refine wrap_succ ?_; omega))))
  all_goals (conv => whnf)
  all_goals first
    | (have _g : pName L a = none := _hw; refine endM_pick [0] [some (boxRow (pB L _ true))] (.agg [.s _, .s _, .s _]) viewA rfl rfl (by rw [hX]; exact keepK (n := 1) rfl rfl) (.inr ⟨?_, ⟨_, _, _⟩, _, ?_, rfl, rfl⟩))
    | (have _g : pName L (a + 1 + 1) = none := _hw; refine endM_pick [0] [some (boxRow (pB L _ true))] (.agg [.s _, .s _, .s _]) viewA rfl rfl (by rw [hX]; exact keepK (n := 1) rfl rfl) (.inr ⟨?_, ⟨_, _, _⟩, _, ?_, rfl, rfl⟩))
    | (have _g : pVer L (a + 1 + 1 + 1 + 1) = none := _hv; refine endM_pick [0] [some (boxRow (pB L _ true))] (.agg [.s _, .s _, .s _]) viewA rfl rfl (by rw [hX]; exact keepK (n := 1) rfl rfl) (.inr ⟨?_, ⟨_, _, _⟩, _, ?_, rfl, rfl⟩))
    | (refine endM_pick [0] [some (boxRow (pB L _ false))] (.agg [.s _, .s _, .s _]) viewA rfl rfl (by rw [hX]; exact keepK (n := 1) rfl rfl) (.inl ⟨⟨_, _, _⟩, _, ?_, ?_, rfl, rfl⟩))
  all_goals first
    | assumption
    | omega
    | exact pP_n1 ‹_›
    | exact pP_a ‹_› ‹_›
    | exact pP_n2 ‹_› ‹_› ‹_›
    | exact pP_b ‹_› ‹_› ‹_› ‹_›
    | exact pP_n3 ‹_› ‹_› ‹_› ‹_› ‹_›
    | exact pP_c ‹_› ‹_› ‹_› ‹_› ‹_›
    | trace_state
end
end Go.Proofs.YtfaadafgbhmlfaaDoor
