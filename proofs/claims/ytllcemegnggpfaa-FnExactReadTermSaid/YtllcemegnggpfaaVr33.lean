/- Texts for VReadTermP. -/
import Derived.Test.YtllcemegnggpfaaVr32
namespace Go.Proofs.Ytllcemegnggpfaa
open Go Go.RowKit
set_option linter.unusedVariables false
set_option linter.unusedSimpArgs false
set_option maxRecDepth 8000
section
attribute [local irreducible] IntKind.wrap
theorem identOk_t (w : ByteArray) (hs : w.size ≤ 30000) (h1 : nmB w) (h2 : kdOf w = 0) : Ret env.P 81 [.s w] (fun r => r = .b true) := by
  refine ret_of (nt := 10) (rvs := [.tmp 2]) Try.func81 rfl rfl rfl rfl (fun X => ?_)
  repeat' (first | omega | (with_reducible show (_ : Int) < _; dsimp only; omega) | (with_reducible show (_ : Nat) ≤ _; dsimp only; omega) | ((with_reducible show SrcOk _ _ _) <;> (first | exact srcOk_1 rfl | exact srcOk_L (fun _ => ⟨rfl, rfl⟩) | exact srcOk_E (fun _ => ⟨rfl, rfl⟩))) | ((conv => whnf) <;> (first | refine And.intro ?_ ?_ | (intro _h; first | contradiction | (try simp only [dd] at _h)) | (refine dt_go ?_) | exact rfl | exact True.intro | exact dkk | exact dks | ((first | refine .inl ⟨_, (nameOk_ok w (by omega)).mono (post' := fun r => r = .b true) fun r e => by rw [e, pb_t.mpr h1], ?_⟩ | refine ⟨_, (nameOk_ok w (by omega)).mono (post' := fun r => r = .b true) fun r e => by rw [e, pb_t.mpr h1], ?_⟩); (try rintro _ rfl)) | ((first | refine .inl ⟨_, ReservedI_f w h2, ?_⟩ | refine ⟨_, ReservedI_f w h2, ?_⟩); (try rintro _ rfl)) | (refine wrap_succ ?_; omega))))
  all_goals (first | (conv => whnf) | skip)
  all_goals first | exact rfl | trace_state
theorem identOk_f (w : ByteArray) (hs : w.size ≤ 30000) (h : ¬ (nmB w ∧ kdOf w = 0)) : Ret env.P 81 [.s w] (fun r => r = .b false) := by
  by_cases h1 : nmB w
  · refine ret_of (nt := 10) (rvs := [.tmp 2]) Try.func81 rfl rfl rfl rfl (fun X => ?_)
    repeat' (first | omega | (with_reducible show (_ : Int) < _; dsimp only; omega) | (with_reducible show (_ : Nat) ≤ _; dsimp only; omega) | ((with_reducible show SrcOk _ _ _) <;> (first | exact srcOk_1 rfl | exact srcOk_L (fun _ => ⟨rfl, rfl⟩) | exact srcOk_E (fun _ => ⟨rfl, rfl⟩))) | ((conv => whnf) <;> (first | refine And.intro ?_ ?_ | (intro _h; first | contradiction | (try simp only [dd] at _h)) | (refine dt_go ?_) | exact rfl | exact True.intro | exact dkk | exact dks | ((first | refine .inl ⟨_, (nameOk_ok w (by omega)).mono (post' := fun r => r = .b true) fun r e => by rw [e, pb_t.mpr h1], ?_⟩ | refine ⟨_, (nameOk_ok w (by omega)).mono (post' := fun r => r = .b true) fun r e => by rw [e, pb_t.mpr h1], ?_⟩); (try rintro _ rfl)) | ((first | refine .inl ⟨_, ReservedI_t w (fun q => h ⟨h1, q⟩), ?_⟩ | refine ⟨_, ReservedI_t w (fun q => h ⟨h1, q⟩), ?_⟩); (try rintro _ rfl)) | (refine wrap_succ ?_; omega))))
    all_goals (first | (conv => whnf) | skip)
    all_goals first | exact rfl | trace_state
  · refine ret_of (nt := 10) (rvs := [.tmp 2]) Try.func81 rfl rfl rfl rfl (fun X => ?_)
    repeat' (first | omega | (with_reducible show (_ : Int) < _; dsimp only; omega) | (with_reducible show (_ : Nat) ≤ _; dsimp only; omega) | ((with_reducible show SrcOk _ _ _) <;> (first | exact srcOk_1 rfl | exact srcOk_L (fun _ => ⟨rfl, rfl⟩) | exact srcOk_E (fun _ => ⟨rfl, rfl⟩))) | ((conv => whnf) <;> (first | refine And.intro ?_ ?_ | (intro _h; first | contradiction | (try simp only [dd] at _h)) | (refine dt_go ?_) | exact rfl | exact True.intro | exact dkk | exact dks | ((first | refine .inl ⟨_, (nameOk_ok w (by omega)).mono (post' := fun r => r = .b false) fun r e => by rw [e, pb_f.mpr h1], ?_⟩ | refine ⟨_, (nameOk_ok w (by omega)).mono (post' := fun r => r = .b false) fun r e => by rw [e, pb_f.mpr h1], ?_⟩); (try rintro _ rfl)) | (refine wrap_succ ?_; omega))))
    all_goals (first | (conv => whnf) | skip)
    all_goals first | exact rfl | trace_state
theorem nameOk_t (w : ByteArray) (hs : w.size ≤ 30000) (h1 : nmB w) : Ret env.P 78 [.s w] (fun r => r = .b true) := (nameOk_ok w (by omega)).mono fun r e => by rw [e, pb_t.mpr h1]
theorem nameOk_f (w : ByteArray) (hs : w.size ≤ 30000) (h1 : ¬ nmB w) : Ret env.P 78 [.s w] (fun r => r = .b false) := (nameOk_ok w (by omega)).mono fun r e => by rw [e, pb_f.mpr h1]
set_option maxHeartbeats 4000000 in
theorem textN_t (L : List Tok) (hL : LexOk L) (a : Nat) (ha : a < L.length) (hk : (tkL L a).kind = 1) (hg : Ret env.P 78 [.s (tkL L a).text] (fun r => r = .b true)) : RetM env.P 77 [some (boxRow (pB L a false))] [.ptr 0 0 0, .i .i64 1, .fn 78 []] (fun r H => r = .s (tkL L a).text ∧ H = [some (boxRow (pB L (a + 1) false))]) := by
  have := hL.most
  have e : IntKind.i64.wrap ((a : Int) + 1) = ((a + 1 : Nat) : Int) := by rw [wrap_in (by omega) (by omega)]; rfl
  refine ret_ofM (nt := 47) (rvs := [.tmp 6]) Try.func77 rfl rfl rfl rfl (fun X hX => ?_)
  repeat' (first | omega | (with_reducible show (_ : Int) < _; dsimp only; omega) | (with_reducible show (_ : Nat) ≤ _; dsimp only; omega) | ((with_reducible show SrcOk _ _ _) <;> (first | exact srcOk_1 rfl | exact srcOk_L (fun _ => ⟨rfl, rfl⟩) | exact srcOk_E (fun _ => ⟨rfl, rfl⟩))) | ((conv => whnf) <;> (first | (exfalso; exact ‹¬ Tok.kind (List.getD L _ default) = 1› hk) | refine And.intro ?_ ?_ | (intro _h; first | contradiction | (try simp only [dd] at _h)) | (refine dt_go ?_) | exact rfl | exact True.intro | exact dkk | exact dks | ((first | refine .inl ⟨_, hg, ?_⟩ | refine ⟨_, hg, ?_⟩); (try rintro _ rfl)) | (refine wrap_succ ?_; omega))))
  all_goals first
    | (exfalso; omega)
    | (conv => whnf
       rw [e]
       refine endM_turn (turn_box (id := 0) (ds := pB L (a + 1) false) rfl rfl rfl (.cons (.refl _) (.cons (.refl _) (.cons (.refl _) .nil)))) ?_
       exact endM_pick [0] [some (boxRow (pB L (a + 1) false))] (.s (tkL L a).text) viewA rfl rfl (by rw [hX]; exact keepK (n := 1) rfl rfl) ⟨rfl, rfl⟩)
    | trace_state
set_option maxHeartbeats 4000000 in
theorem textN_f (L : List Tok) (hL : LexOk L) (a : Nat) (ha : a < L.length) (hg : (tkL L a).kind = 1 → Ret env.P 78 [.s (tkL L a).text] (fun r => r = .b false)) : RetM env.P 77 [some (boxRow (pB L a false))] [.ptr 0 0 0, .i .i64 1, .fn 78 []] (fun r H => r = .s ⟨#[]⟩ ∧ H = [some (boxRow (pB L a true))]) := by
  have := hL.most
  refine ret_ofM (nt := 47) (rvs := [.tmp 6]) Try.func77 rfl rfl rfl rfl (fun X hX => ?_)
  repeat' (first | omega | (with_reducible show (_ : Int) < _; dsimp only; omega) | (with_reducible show (_ : Nat) ≤ _; dsimp only; omega) | ((with_reducible show SrcOk _ _ _) <;> (first | exact srcOk_1 rfl | exact srcOk_L (fun _ => ⟨rfl, rfl⟩) | exact srcOk_E (fun _ => ⟨rfl, rfl⟩))) | ((conv => whnf) <;> (first | refine And.intro ?_ ?_ | (intro _h; first | contradiction | (try simp only [dd] at _h)) | (refine dt_go ?_) | exact rfl | exact True.intro | exact dkk | exact dks | ((first | refine .inl ⟨_, hg ‹_›, ?_⟩ | refine ⟨_, hg ‹_›, ?_⟩); (try rintro _ rfl)) | (refine wrap_succ ?_; omega))))
  all_goals first
    | (exfalso; omega)
    | (conv => whnf
       refine endM_turn (turn_box (id := 0) (ds := pB L a true) rfl rfl rfl (.cons (.refl _) (.cons (.refl _) (.cons (.refl _) .nil)))) ?_
       exact endM_pick [0] [some (boxRow (pB L a true))] (.s ⟨#[]⟩) viewA rfl rfl (by rw [hX]; exact keepK (n := 1) rfl rfl) ⟨rfl, rfl⟩)
    | trace_state
set_option maxHeartbeats 4000000 in
theorem textN_b (L : List Tok) (hL : LexOk L) (a : Nat) (ha : a < L.length) : RetM env.P 77 [some (boxRow (pB L a true))] [.ptr 0 0 0, .i .i64 1, .fn 78 []] (fun r H => r = .s ⟨#[]⟩ ∧ H = [some (boxRow (pB L a true))]) := by
  have := hL.most
  refine ret_ofM (nt := 47) (rvs := [.tmp 6]) Try.func77 rfl rfl rfl rfl (fun X hX => ?_)
  repeat' (first | omega | (with_reducible show (_ : Int) < _; dsimp only; omega) | (with_reducible show (_ : Nat) ≤ _; dsimp only; omega) | ((with_reducible show SrcOk _ _ _) <;> (first | exact srcOk_1 rfl | exact srcOk_L (fun _ => ⟨rfl, rfl⟩) | exact srcOk_E (fun _ => ⟨rfl, rfl⟩))) | ((conv => whnf) <;> (first | refine And.intro ?_ ?_ | (intro _h; first | contradiction | (try simp only [dd] at _h)) | (refine dt_go ?_) | exact rfl | exact True.intro | exact dkk | exact dks | (refine wrap_succ ?_; omega))))
  all_goals first
    | (exfalso; omega)
    | (conv => whnf
       refine endM_turn (turn_box (id := 0) (ds := pB L a true) rfl rfl rfl (.cons (.refl _) (.cons (.refl _) (.cons (.refl _) .nil)))) ?_
       exact endM_pick [0] [some (boxRow (pB L a true))] (.s ⟨#[]⟩) viewA rfl rfl (by rw [hX]; exact keepK (n := 1) rfl rfl) ⟨rfl, rfl⟩)
    | trace_state
set_option maxHeartbeats 4000000 in
theorem textJ_t (L : List Tok) (hL : LexOk L) (a : Nat) (ha : a < L.length) (hk : (tkL L a).kind = 1) (hg : Ret env.P 81 [.s (tkL L a).text] (fun r => r = .b true)) : RetM env.P 77 [some (boxRow (pB L a false))] [.ptr 0 0 0, .i .i64 1, .fn 81 []] (fun r H => r = .s (tkL L a).text ∧ H = [some (boxRow (pB L (a + 1) false))]) := by
  have := hL.most
  have e : IntKind.i64.wrap ((a : Int) + 1) = ((a + 1 : Nat) : Int) := by rw [wrap_in (by omega) (by omega)]; rfl
  refine ret_ofM (nt := 47) (rvs := [.tmp 6]) Try.func77 rfl rfl rfl rfl (fun X hX => ?_)
  repeat' (first | omega | (with_reducible show (_ : Int) < _; dsimp only; omega) | (with_reducible show (_ : Nat) ≤ _; dsimp only; omega) | ((with_reducible show SrcOk _ _ _) <;> (first | exact srcOk_1 rfl | exact srcOk_L (fun _ => ⟨rfl, rfl⟩) | exact srcOk_E (fun _ => ⟨rfl, rfl⟩))) | ((conv => whnf) <;> (first | (exfalso; exact ‹¬ Tok.kind (List.getD L _ default) = 1› hk) | refine And.intro ?_ ?_ | (intro _h; first | contradiction | (try simp only [dd] at _h)) | (refine dt_go ?_) | exact rfl | exact True.intro | exact dkk | exact dks | ((first | refine .inl ⟨_, hg, ?_⟩ | refine ⟨_, hg, ?_⟩); (try rintro _ rfl)) | (refine wrap_succ ?_; omega))))
  all_goals first
    | (exfalso; omega)
    | (conv => whnf
       rw [e]
       refine endM_turn (turn_box (id := 0) (ds := pB L (a + 1) false) rfl rfl rfl (.cons (.refl _) (.cons (.refl _) (.cons (.refl _) .nil)))) ?_
       exact endM_pick [0] [some (boxRow (pB L (a + 1) false))] (.s (tkL L a).text) viewA rfl rfl (by rw [hX]; exact keepK (n := 1) rfl rfl) ⟨rfl, rfl⟩)
    | trace_state
set_option maxHeartbeats 4000000 in
theorem textJ_f (L : List Tok) (hL : LexOk L) (a : Nat) (ha : a < L.length) (hg : (tkL L a).kind = 1 → Ret env.P 81 [.s (tkL L a).text] (fun r => r = .b false)) : RetM env.P 77 [some (boxRow (pB L a false))] [.ptr 0 0 0, .i .i64 1, .fn 81 []] (fun r H => r = .s ⟨#[]⟩ ∧ H = [some (boxRow (pB L a true))]) := by
  have := hL.most
  refine ret_ofM (nt := 47) (rvs := [.tmp 6]) Try.func77 rfl rfl rfl rfl (fun X hX => ?_)
  repeat' (first | omega | (with_reducible show (_ : Int) < _; dsimp only; omega) | (with_reducible show (_ : Nat) ≤ _; dsimp only; omega) | ((with_reducible show SrcOk _ _ _) <;> (first | exact srcOk_1 rfl | exact srcOk_L (fun _ => ⟨rfl, rfl⟩) | exact srcOk_E (fun _ => ⟨rfl, rfl⟩))) | ((conv => whnf) <;> (first | refine And.intro ?_ ?_ | (intro _h; first | contradiction | (try simp only [dd] at _h)) | (refine dt_go ?_) | exact rfl | exact True.intro | exact dkk | exact dks | ((first | refine .inl ⟨_, hg ‹_›, ?_⟩ | refine ⟨_, hg ‹_›, ?_⟩); (try rintro _ rfl)) | (refine wrap_succ ?_; omega))))
  all_goals first
    | (exfalso; omega)
    | (conv => whnf
       refine endM_turn (turn_box (id := 0) (ds := pB L a true) rfl rfl rfl (.cons (.refl _) (.cons (.refl _) (.cons (.refl _) .nil)))) ?_
       exact endM_pick [0] [some (boxRow (pB L a true))] (.s ⟨#[]⟩) viewA rfl rfl (by rw [hX]; exact keepK (n := 1) rfl rfl) ⟨rfl, rfl⟩)
    | trace_state
set_option maxHeartbeats 4000000 in
theorem textJ_b (L : List Tok) (hL : LexOk L) (a : Nat) (ha : a < L.length) : RetM env.P 77 [some (boxRow (pB L a true))] [.ptr 0 0 0, .i .i64 1, .fn 81 []] (fun r H => r = .s ⟨#[]⟩ ∧ H = [some (boxRow (pB L a true))]) := by
  have := hL.most
  refine ret_ofM (nt := 47) (rvs := [.tmp 6]) Try.func77 rfl rfl rfl rfl (fun X hX => ?_)
  repeat' (first | omega | (with_reducible show (_ : Int) < _; dsimp only; omega) | (with_reducible show (_ : Nat) ≤ _; dsimp only; omega) | ((with_reducible show SrcOk _ _ _) <;> (first | exact srcOk_1 rfl | exact srcOk_L (fun _ => ⟨rfl, rfl⟩) | exact srcOk_E (fun _ => ⟨rfl, rfl⟩))) | ((conv => whnf) <;> (first | refine And.intro ?_ ?_ | (intro _h; first | contradiction | (try simp only [dd] at _h)) | (refine dt_go ?_) | exact rfl | exact True.intro | exact dkk | exact dks | (refine wrap_succ ?_; omega))))
  all_goals first
    | (exfalso; omega)
    | (conv => whnf
       refine endM_turn (turn_box (id := 0) (ds := pB L a true) rfl rfl rfl (.cons (.refl _) (.cons (.refl _) (.cons (.refl _) .nil)))) ?_
       exact endM_pick [0] [some (boxRow (pB L a true))] (.s ⟨#[]⟩) viewA rfl rfl (by rw [hX]; exact keepK (n := 1) rfl rfl) ⟨rfl, rfl⟩)
    | trace_state
theorem nameI_o (L : List Tok) (hL : LexOk L) (a : Nat) (ha : a < L.length) : RetM env.P 43 [some (boxRow (pB L a false))] [.ptr 0 0 0] (fun r H => (∃ w, pName L a = some (w, a + 1) ∧ a + 1 < L.length ∧ r = .s w ∧ H = [some (boxRow (pB L (a + 1) false))]) ∨ (pName L a = none ∧ r = .s ⟨#[]⟩ ∧ H = [some (boxRow (pB L a true))])) := by
  by_cases h : (tkL L a).kind = 1 ∧ nmB (tkL L a).text
  · refine ret_ofM (nt := 5) (rvs := [.tmp 2]) Try.func43 rfl rfl rfl rfl (fun X hX => ?_)
    repeat' (first | omega | (with_reducible show (_ : Int) < _; dsimp only; omega) | (with_reducible show (_ : Nat) ≤ _; dsimp only; omega) | ((with_reducible show SrcOk _ _ _) <;> (first | exact srcOk_1 rfl | exact srcOk_L (fun _ => ⟨rfl, rfl⟩) | exact srcOk_E (fun _ => ⟨rfl, rfl⟩))) | ((conv => whnf) <;> (first | refine And.intro ?_ ?_ | (intro _h; first | contradiction | (try simp only [dd] at _h)) | (refine dt_go ?_) | exact rfl | exact True.intro | exact dkk | exact dks | (refine .inr (.inl (.inl ⟨[0], _, _, _, textN_t L hL a ha h.1 (nameOk_t _ (hL.sz a ha) h.2), viewA, ⟨rfl, rfl⟩, ?_⟩)); (rintro _ _ ⟨rfl, rfl⟩) <;> (refine ⟨rfl, _, lokA, ?_⟩)) | (refine wrap_succ ?_; omega))))
    all_goals (conv => whnf)
    all_goals exact endM_self (.inl ⟨_, if_pos h, hL.lt ha (by rw [h.1]; decide), rfl, rfl⟩)
  · refine ret_ofM (nt := 5) (rvs := [.tmp 2]) Try.func43 rfl rfl rfl rfl (fun X hX => ?_)
    repeat' (first | omega | (with_reducible show (_ : Int) < _; dsimp only; omega) | (with_reducible show (_ : Nat) ≤ _; dsimp only; omega) | ((with_reducible show SrcOk _ _ _) <;> (first | exact srcOk_1 rfl | exact srcOk_L (fun _ => ⟨rfl, rfl⟩) | exact srcOk_E (fun _ => ⟨rfl, rfl⟩))) | ((conv => whnf) <;> (first | refine And.intro ?_ ?_ | (intro _h; first | contradiction | (try simp only [dd] at _h)) | (refine dt_go ?_) | exact rfl | exact True.intro | exact dkk | exact dks | (refine .inr (.inl (.inl ⟨[0], _, _, _, textN_f L hL a ha (fun q => nameOk_f _ (hL.sz a ha) (fun r => h ⟨q, r⟩)), viewA, ⟨rfl, rfl⟩, ?_⟩)); (rintro _ _ ⟨rfl, rfl⟩) <;> (refine ⟨rfl, _, lokA, ?_⟩)) | (refine wrap_succ ?_; omega))))
    all_goals (conv => whnf)
    all_goals exact endM_self (.inr ⟨if_neg h, rfl, rfl⟩)
theorem nameI_b (L : List Tok) (hL : LexOk L) (a : Nat) (ha : a < L.length) : RetM env.P 43 [some (boxRow (pB L a true))] [.ptr 0 0 0] (fun r H => r = .s ⟨#[]⟩ ∧ H = [some (boxRow (pB L a true))]) := by
  refine ret_ofM (nt := 5) (rvs := [.tmp 2]) Try.func43 rfl rfl rfl rfl (fun X hX => ?_)
  repeat' (first | omega | (with_reducible show (_ : Int) < _; dsimp only; omega) | (with_reducible show (_ : Nat) ≤ _; dsimp only; omega) | ((with_reducible show SrcOk _ _ _) <;> (first | exact srcOk_1 rfl | exact srcOk_L (fun _ => ⟨rfl, rfl⟩) | exact srcOk_E (fun _ => ⟨rfl, rfl⟩))) | ((conv => whnf) <;> (first | refine And.intro ?_ ?_ | (intro _h; first | contradiction | (try simp only [dd] at _h)) | (refine dt_go ?_) | exact rfl | exact True.intro | exact dkk | exact dks | (refine .inr (.inl (.inl ⟨[0], _, _, _, textN_b L hL a ha, viewA, ⟨rfl, rfl⟩, ?_⟩)); (rintro _ _ ⟨rfl, rfl⟩) <;> (refine ⟨rfl, _, lokA, ?_⟩)) | (refine wrap_succ ?_; omega))))
  all_goals (conv => whnf)
  all_goals exact endM_self ⟨rfl, rfl⟩
theorem identI_o (L : List Tok) (hL : LexOk L) (a : Nat) (ha : a < L.length) : RetM env.P 50 [some (boxRow (pB L a false))] [.ptr 0 0 0] (fun r H => (∃ w, pIdent L a = some (w, a + 1) ∧ a + 1 < L.length ∧ r = .s w ∧ H = [some (boxRow (pB L (a + 1) false))]) ∨ (pIdent L a = none ∧ r = .s ⟨#[]⟩ ∧ H = [some (boxRow (pB L a true))])) := by
  by_cases h : (tkL L a).kind = 1 ∧ nmB (tkL L a).text ∧ kdOf (tkL L a).text = 0
  · refine ret_ofM (nt := 5) (rvs := [.tmp 2]) Try.func50 rfl rfl rfl rfl (fun X hX => ?_)
    repeat' (first | omega | (with_reducible show (_ : Int) < _; dsimp only; omega) | (with_reducible show (_ : Nat) ≤ _; dsimp only; omega) | ((with_reducible show SrcOk _ _ _) <;> (first | exact srcOk_1 rfl | exact srcOk_L (fun _ => ⟨rfl, rfl⟩) | exact srcOk_E (fun _ => ⟨rfl, rfl⟩))) | ((conv => whnf) <;> (first | refine And.intro ?_ ?_ | (intro _h; first | contradiction | (try simp only [dd] at _h)) | (refine dt_go ?_) | exact rfl | exact True.intro | exact dkk | exact dks | (refine .inr (.inl (.inl ⟨[0], _, _, _, textJ_t L hL a ha h.1 (identOk_t _ (hL.sz a ha) h.2.1 h.2.2), viewA, ⟨rfl, rfl⟩, ?_⟩)); (rintro _ _ ⟨rfl, rfl⟩) <;> (refine ⟨rfl, _, lokA, ?_⟩)) | (refine wrap_succ ?_; omega))))
    all_goals (conv => whnf)
    all_goals exact endM_self (.inl ⟨_, if_pos h, hL.lt ha (by rw [h.1]; decide), rfl, rfl⟩)
  · refine ret_ofM (nt := 5) (rvs := [.tmp 2]) Try.func50 rfl rfl rfl rfl (fun X hX => ?_)
    repeat' (first | omega | (with_reducible show (_ : Int) < _; dsimp only; omega) | (with_reducible show (_ : Nat) ≤ _; dsimp only; omega) | ((with_reducible show SrcOk _ _ _) <;> (first | exact srcOk_1 rfl | exact srcOk_L (fun _ => ⟨rfl, rfl⟩) | exact srcOk_E (fun _ => ⟨rfl, rfl⟩))) | ((conv => whnf) <;> (first | refine And.intro ?_ ?_ | (intro _h; first | contradiction | (try simp only [dd] at _h)) | (refine dt_go ?_) | exact rfl | exact True.intro | exact dkk | exact dks | (refine .inr (.inl (.inl ⟨[0], _, _, _, textJ_f L hL a ha (fun q => identOk_f _ (hL.sz a ha) (fun r => h ⟨q, r⟩)), viewA, ⟨rfl, rfl⟩, ?_⟩)); (rintro _ _ ⟨rfl, rfl⟩) <;> (refine ⟨rfl, _, lokA, ?_⟩)) | (refine wrap_succ ?_; omega))))
    all_goals (conv => whnf)
    all_goals exact endM_self (.inr ⟨if_neg h, rfl, rfl⟩)
theorem identI_b (L : List Tok) (hL : LexOk L) (a : Nat) (ha : a < L.length) : RetM env.P 50 [some (boxRow (pB L a true))] [.ptr 0 0 0] (fun r H => r = .s ⟨#[]⟩ ∧ H = [some (boxRow (pB L a true))]) := by
  refine ret_ofM (nt := 5) (rvs := [.tmp 2]) Try.func50 rfl rfl rfl rfl (fun X hX => ?_)
  repeat' (first | omega | (with_reducible show (_ : Int) < _; dsimp only; omega) | (with_reducible show (_ : Nat) ≤ _; dsimp only; omega) | ((with_reducible show SrcOk _ _ _) <;> (first | exact srcOk_1 rfl | exact srcOk_L (fun _ => ⟨rfl, rfl⟩) | exact srcOk_E (fun _ => ⟨rfl, rfl⟩))) | ((conv => whnf) <;> (first | refine And.intro ?_ ?_ | (intro _h; first | contradiction | (try simp only [dd] at _h)) | (refine dt_go ?_) | exact rfl | exact True.intro | exact dkk | exact dks | (refine .inr (.inl (.inl ⟨[0], _, _, _, textJ_b L hL a ha, viewA, ⟨rfl, rfl⟩, ?_⟩)); (rintro _ _ ⟨rfl, rfl⟩) <;> (refine ⟨rfl, _, lokA, ?_⟩)) | (refine wrap_succ ?_; omega))))
  all_goals (conv => whnf)
  all_goals exact endM_self ⟨rfl, rfl⟩
end
end Go.Proofs.Ytllcemegnggpfaa
