/- Texts for VReadTermP. -/
import Derived.Test.YtllcemegnggpfaaVr24
namespace Go.Proofs.Ytllcemegnggpfaa
open Go Go.RowKit
set_option linter.unusedVariables false
set_option linter.unusedSimpArgs false
section
attribute [local irreducible] IntKind.wrap
def pB (L : List Tok) (a : Nat) (b : Bool) : List AV := [slL 3 tokC L, .i .i64 a, .kb b]
def pB2 (L : List Tok) (a : Nat) : List AV := [slL 3 tokC L, .i .i64 a]
theorem peek_ok (L : List Tok) (hL : LexOk L) (a : Nat) (ha : a < L.length) : Ret env.P 41 [rfL (pB2 L a)] (fun r => r = .agg (tokC (tkL L a))) := by
  have := hL.most
  refine ret_of (nt := 13) (rvs := [.cell 2 63]) Try.func41 rfl rfl rfl rfl (fun X => ?_)
  repeat' (first | omega | (with_reducible show (_ : Int) < _; dsimp only; omega) | (with_reducible show (_ : Nat) ≤ _; dsimp only; omega) | ((with_reducible show SrcOk _ _ _) <;> (first | exact srcOk_1 rfl | exact srcOk_L (fun _ => ⟨rfl, rfl⟩) | exact srcOk_E (fun _ => ⟨rfl, rfl⟩))) | ((conv => whnf) <;> (first | refine And.intro ?_ ?_ | (intro _h; first | contradiction | (try simp only [dd] at _h)) | (refine dt_go ?_) | exact rfl | exact True.intro | exact dkk | exact dks | (refine wrap_succ ?_; omega))))
  all_goals (conv => whnf)
  all_goals first | exact rfl | trace_state
theorem pskip_ok (L : List Tok) (hL : LexOk L) (a : Nat) (ha : a + 1 < L.length) (b : Bool) : RetM env.P 93 [some (boxRow (pB L a b))] [.ptr 0 0 0] (fun r H => r = .tup [] ∧ H = [some (boxRow (pB L (a + 1) b))]) := by
  have := hL.most
  have e : IntKind.i64.wrap ((a : Int) + 1) = ((a + 1 : Nat) : Int) := by rw [wrap_in (by omega) (by omega)]; rfl
  refine ret_ofM (nt := 20) (rvs := []) Try.func93 rfl rfl rfl rfl (fun X hX => ?_)
  repeat' (first | omega | (with_reducible show (_ : Int) < _; dsimp only; omega) | (with_reducible show (_ : Nat) ≤ _; dsimp only; omega) | ((with_reducible show SrcOk _ _ _) <;> (first | exact srcOk_1 rfl | exact srcOk_L (fun _ => ⟨rfl, rfl⟩) | exact srcOk_E (fun _ => ⟨rfl, rfl⟩))) | ((conv => whnf) <;> (first | refine And.intro ?_ ?_ | (intro _h; first | contradiction | (try simp only [dd] at _h)) | (refine dt_go ?_) | exact rfl | exact True.intro | exact dkk | exact dks | (refine wrap_succ ?_; omega))))
  all_goals first
    | (exfalso; omega)
    | (conv => whnf
       rw [e]
       refine endM_turn (turn_box (id := 0) (ds := pB L (a + 1) b) rfl rfl rfl (.cons (.refl _) (.cons (.refl _) (.cons (.refl _) .nil)))) ?_
       exact endM_self ⟨rfl, rfl⟩)
    | trace_state
theorem pis_ok (L : List Tok) (hL : LexOk L) (a : Nat) (ha : a < L.length) (t : ByteArray) : Ret env.P 94 [rfL (pB2 L a), .s t] (fun r => r = .b (pb (isT L t a))) := by
  refine ret_of (nt := 17) (rvs := [.tmp 4]) Try.func94 rfl rfl rfl rfl (fun X => ?_)
  repeat' (first | omega | (with_reducible show (_ : Int) < _; dsimp only; omega) | (with_reducible show (_ : Nat) ≤ _; dsimp only; omega) | ((with_reducible show SrcOk _ _ _) <;> (first | exact srcOk_1 rfl | exact srcOk_L (fun _ => ⟨rfl, rfl⟩) | exact srcOk_E (fun _ => ⟨rfl, rfl⟩))) | ((conv => whnf) <;> (first | refine And.intro ?_ ?_ | (intro _h; first | contradiction | (try simp only [dd] at _h)) | (refine dt_go ?_) | exact rfl | exact True.intro | exact dkk | exact dks | ((first | refine .inl ⟨_, peek_ok L hL a ha, ?_⟩ | refine ⟨_, peek_ok L hL a ha, ?_⟩); (try rintro _ rfl)) | (refine wrap_succ ?_; omega))))
  all_goals (conv => whnf)
  all_goals first
    | exact leaf_f fun q => q.1 (by assumption)
    | exact leaf_f fun q => absurd q.1 (by assumption)
    | exact leaf_p (by unfold isT; simp_all; done)
    | trace_state
theorem pis_t (L : List Tok) (hL : LexOk L) (a : Nat) (ha : a < L.length) (t : ByteArray) (h : isT L t a) : Ret env.P 94 [rfL (pB2 L a), .s t] (fun r => r = .b true) := (pis_ok L hL a ha t).mono fun r e => by rw [e, pb_t.mpr h]
theorem pis_f (L : List Tok) (hL : LexOk L) (a : Nat) (ha : a < L.length) (t : ByteArray) (h : ¬ isT L t a) : Ret env.P 94 [rfL (pB2 L a), .s t] (fun r => r = .b false) := (pis_ok L hL a ha t).mono fun r e => by rw [e, pb_f.mpr h]
theorem take_t (L : List Tok) (hL : LexOk L) (a : Nat) (ha : a < L.length) (t : ByteArray) (h : isT L t a) : RetM env.P 71 [some (boxRow (pB L a false))] [.ptr 0 0 0, .s t] (fun r H => r = .kb true ∧ H = [some (boxRow (pB L (a + 1) false))]) := by
  have h1 := hL.isT_lt ha h
  refine ret_ofM (nt := 17) (rvs := [.tmp 4]) Try.func71 rfl rfl rfl rfl (fun X hX => ?_)
  repeat' (first | omega | (with_reducible show (_ : Int) < _; dsimp only; omega) | (with_reducible show (_ : Nat) ≤ _; dsimp only; omega) | ((with_reducible show SrcOk _ _ _) <;> (first | exact srcOk_1 rfl | exact srcOk_L (fun _ => ⟨rfl, rfl⟩) | exact srcOk_E (fun _ => ⟨rfl, rfl⟩))) | ((conv => whnf) <;> (first | refine And.intro ?_ ?_ | (intro _h; first | contradiction | (try simp only [dd] at _h)) | (refine dt_go ?_) | exact rfl | exact True.intro | exact dkk | exact dks | ((first | refine .inl ⟨_, Ret.wk (by exact .cons (tWk_rfcp rfl rfl) (.cons (.refl _) .nil)) (pis_t L hL a ha t h), ?_⟩ | refine ⟨_, Ret.wk (by exact .cons (tWk_rfcp rfl rfl) (.cons (.refl _) .nil)) (pis_t L hL a ha t h), ?_⟩); (try rintro _ rfl)) | (refine .inr (.inl (.inl ⟨[0], _, _, _, pskip_ok L hL a h1 false, viewA, ⟨rfl, rfl⟩, ?_⟩)); (rintro _ _ ⟨rfl, rfl⟩) <;> (refine ⟨rfl, _, lokA, ?_⟩)) | (refine wrap_succ ?_; omega))))
  all_goals (conv => whnf)
  all_goals first | exact endM_self ⟨rfl, rfl⟩ | trace_state
theorem take_f (L : List Tok) (hL : LexOk L) (a : Nat) (ha : a < L.length) (t : ByteArray) (h : ¬ isT L t a) : RetM env.P 71 [some (boxRow (pB L a false))] [.ptr 0 0 0, .s t] (fun r H => r = .kb false ∧ H = [some (boxRow (pB L a false))]) := by
  refine ret_ofM (nt := 17) (rvs := [.tmp 4]) Try.func71 rfl rfl rfl rfl (fun X hX => ?_)
  repeat' (first | omega | (with_reducible show (_ : Int) < _; dsimp only; omega) | (with_reducible show (_ : Nat) ≤ _; dsimp only; omega) | ((with_reducible show SrcOk _ _ _) <;> (first | exact srcOk_1 rfl | exact srcOk_L (fun _ => ⟨rfl, rfl⟩) | exact srcOk_E (fun _ => ⟨rfl, rfl⟩))) | ((conv => whnf) <;> (first | refine And.intro ?_ ?_ | (intro _h; first | contradiction | (try simp only [dd] at _h)) | (refine dt_go ?_) | exact rfl | exact True.intro | exact dkk | exact dks | ((first | refine .inl ⟨_, Ret.wk (by exact .cons (tWk_rfcp rfl rfl) (.cons (.refl _) .nil)) (pis_f L hL a ha t h), ?_⟩ | refine ⟨_, Ret.wk (by exact .cons (tWk_rfcp rfl rfl) (.cons (.refl _) .nil)) (pis_f L hL a ha t h), ?_⟩); (try rintro _ rfl)) | (refine wrap_succ ?_; omega))))
  all_goals (conv => whnf)
  all_goals first | exact endM_self ⟨rfl, rfl⟩ | trace_state
theorem take_b (L : List Tok) (a : Nat) (t : ByteArray) : RetM env.P 71 [some (boxRow (pB L a true))] [.ptr 0 0 0, .s t] (fun r H => r = .kb false ∧ H = [some (boxRow (pB L a true))]) := by
  refine ret_ofM (nt := 17) (rvs := [.tmp 4]) Try.func71 rfl rfl rfl rfl (fun X hX => ?_)
  repeat' (first | omega | (with_reducible show (_ : Int) < _; dsimp only; omega) | (with_reducible show (_ : Nat) ≤ _; dsimp only; omega) | ((with_reducible show SrcOk _ _ _) <;> (first | exact srcOk_1 rfl | exact srcOk_L (fun _ => ⟨rfl, rfl⟩) | exact srcOk_E (fun _ => ⟨rfl, rfl⟩))) | ((conv => whnf) <;> (first | refine And.intro ?_ ?_ | (intro _h; first | contradiction | (try simp only [dd] at _h)) | (refine dt_go ?_) | exact rfl | exact True.intro | exact dkk | exact dks | (refine wrap_succ ?_; omega))))
  all_goals (conv => whnf)
  all_goals first | exact endM_self ⟨rfl, rfl⟩ | trace_state
theorem must_t (L : List Tok) (hL : LexOk L) (a : Nat) (ha : a < L.length) (t : ByteArray) (h : isT L t a) : RetM env.P 69 [some (boxRow (pB L a false))] [.ptr 0 0 0, .s t] (fun r H => r = .tup [] ∧ H = [some (boxRow (pB L (a + 1) false))]) := by
  refine ret_ofM (nt := 11) (rvs := []) Try.func69 rfl rfl rfl rfl (fun X hX => ?_)
  repeat' (first | omega | (with_reducible show (_ : Int) < _; dsimp only; omega) | (with_reducible show (_ : Nat) ≤ _; dsimp only; omega) | ((with_reducible show SrcOk _ _ _) <;> (first | exact srcOk_1 rfl | exact srcOk_L (fun _ => ⟨rfl, rfl⟩) | exact srcOk_E (fun _ => ⟨rfl, rfl⟩))) | ((conv => whnf) <;> (first | refine And.intro ?_ ?_ | (intro _h; first | contradiction | (try simp only [dd] at _h)) | (refine dt_go ?_) | exact rfl | exact True.intro | exact dkk | exact dks | (refine .inr (.inl (.inl ⟨[0], _, _, _, take_t L hL a ha t h, viewA, ⟨rfl, rfl⟩, ?_⟩)); (rintro _ _ ⟨rfl, rfl⟩) <;> (refine ⟨rfl, _, lokA, ?_⟩)) | (refine wrap_succ ?_; omega))))
  all_goals (conv => whnf)
  all_goals first | exact endM_self ⟨rfl, rfl⟩ | trace_state
theorem must_f (L : List Tok) (hL : LexOk L) (a : Nat) (ha : a < L.length) (t : ByteArray) (h : ¬ isT L t a) : RetM env.P 69 [some (boxRow (pB L a false))] [.ptr 0 0 0, .s t] (fun r H => r = .tup [] ∧ H = [some (boxRow (pB L a true))]) := by
  refine ret_ofM (nt := 11) (rvs := []) Try.func69 rfl rfl rfl rfl (fun X hX => ?_)
  repeat' (first | omega | (with_reducible show (_ : Int) < _; dsimp only; omega) | (with_reducible show (_ : Nat) ≤ _; dsimp only; omega) | ((with_reducible show SrcOk _ _ _) <;> (first | exact srcOk_1 rfl | exact srcOk_L (fun _ => ⟨rfl, rfl⟩) | exact srcOk_E (fun _ => ⟨rfl, rfl⟩))) | ((conv => whnf) <;> (first | refine And.intro ?_ ?_ | (intro _h; first | contradiction | (try simp only [dd] at _h)) | (refine dt_go ?_) | exact rfl | exact True.intro | exact dkk | exact dks | (refine .inr (.inl (.inl ⟨[0], _, _, _, take_f L hL a ha t h, viewA, ⟨rfl, rfl⟩, ?_⟩)); (rintro _ _ ⟨rfl, rfl⟩) <;> (refine ⟨rfl, _, lokA, ?_⟩)) | (refine wrap_succ ?_; omega))))
  all_goals (conv => whnf)
  all_goals first
    | (refine endM_turn (turn_box (id := 0) (ds := pB L a true) rfl rfl rfl (.cons (.refl _) (.cons (.refl _) (.cons (.refl _) .nil)))) ?_
       exact endM_self ⟨rfl, rfl⟩)
    | trace_state
theorem must_b (L : List Tok) (a : Nat) (t : ByteArray) : RetM env.P 69 [some (boxRow (pB L a true))] [.ptr 0 0 0, .s t] (fun r H => r = .tup [] ∧ H = [some (boxRow (pB L a true))]) := by
  refine ret_ofM (nt := 11) (rvs := []) Try.func69 rfl rfl rfl rfl (fun X hX => ?_)
  repeat' (first | omega | (with_reducible show (_ : Int) < _; dsimp only; omega) | (with_reducible show (_ : Nat) ≤ _; dsimp only; omega) | ((with_reducible show SrcOk _ _ _) <;> (first | exact srcOk_1 rfl | exact srcOk_L (fun _ => ⟨rfl, rfl⟩) | exact srcOk_E (fun _ => ⟨rfl, rfl⟩))) | ((conv => whnf) <;> (first | refine And.intro ?_ ?_ | (intro _h; first | contradiction | (try simp only [dd] at _h)) | (refine dt_go ?_) | exact rfl | exact True.intro | exact dkk | exact dks | (refine .inr (.inl (.inl ⟨[0], _, _, _, take_b L a t, viewA, ⟨rfl, rfl⟩, ?_⟩)); (rintro _ _ ⟨rfl, rfl⟩) <;> (refine ⟨rfl, _, lokA, ?_⟩)) | (refine wrap_succ ?_; omega))))
  all_goals (conv => whnf)
  all_goals first
    | (refine endM_turn (turn_box (id := 0) (ds := pB L a true) rfl rfl rfl (.cons (.refl _) (.cons (.refl _) (.cons (.refl _) .nil)))) ?_
       exact endM_self ⟨rfl, rfl⟩)
    | trace_state
theorem nmS_t {t : ByteArray} (hs : t.size ≤ 30000) (h : nmB t) : Ret env.P 92 [.s t] (fun r => r = .b true) := by
  refine ret_of (nt := 5) (rvs := [.tmp 2]) Try.func92 rfl rfl rfl rfl (fun X => ?_)
  repeat' (first | omega | (with_reducible show (_ : Int) < _; dsimp only; omega) | (with_reducible show (_ : Nat) ≤ _; dsimp only; omega) | ((with_reducible show SrcOk _ _ _) <;> (first | exact srcOk_1 rfl | exact srcOk_L (fun _ => ⟨rfl, rfl⟩) | exact srcOk_E (fun _ => ⟨rfl, rfl⟩))) | ((conv => whnf) <;> (first | refine And.intro ?_ ?_ | (intro _h; first | contradiction | (try simp only [dd] at _h)) | (refine dt_go ?_) | exact rfl | exact True.intro | exact dkk | exact dks | ((first | refine .inl ⟨_, (l03Name_ok t (by omega)).mono fun r e => by rw [e, pb_t.mpr h], ?_⟩ | refine ⟨_, (l03Name_ok t (by omega)).mono fun r e => by rw [e, pb_t.mpr h], ?_⟩); (try rintro _ rfl)) | (refine wrap_succ ?_; omega))))
  all_goals exact rfl
theorem nmS_f {t : ByteArray} (hs : t.size ≤ 30000) (h : ¬ nmB t) : Ret env.P 92 [.s t] (fun r => r = .b false) := by
  refine ret_of (nt := 5) (rvs := [.tmp 2]) Try.func92 rfl rfl rfl rfl (fun X => ?_)
  repeat' (first | omega | (with_reducible show (_ : Int) < _; dsimp only; omega) | (with_reducible show (_ : Nat) ≤ _; dsimp only; omega) | ((with_reducible show SrcOk _ _ _) <;> (first | exact srcOk_1 rfl | exact srcOk_L (fun _ => ⟨rfl, rfl⟩) | exact srcOk_E (fun _ => ⟨rfl, rfl⟩))) | ((conv => whnf) <;> (first | refine And.intro ?_ ?_ | (intro _h; first | contradiction | (try simp only [dd] at _h)) | (refine dt_go ?_) | exact rfl | exact True.intro | exact dkk | exact dks | ((first | refine .inl ⟨_, (l03Name_ok t (by omega)).mono fun r e => by rw [e, pb_f.mpr h], ?_⟩ | refine ⟨_, (l03Name_ok t (by omega)).mono fun r e => by rw [e, pb_f.mpr h], ?_⟩); (try rintro _ rfl)) | (refine wrap_succ ?_; omega))))
  all_goals exact rfl
theorem name_t (L : List Tok) (hL : LexOk L) (a : Nat) (ha : a < L.length) (h : (tkL L a).kind = 1 ∧ nmB (tkL L a).text) : RetM env.P 67 [some (boxRow (pB L a false))] [.ptr 0 0 0] (fun r H => r = .s (tkL L a).text ∧ H = [some (boxRow (pB L (a + 1) false))]) := by
  have h1 := hL.lt ha (show ¬ (tkL L a).kind = 4 by rw [h.1]; decide)
  have h2 := h.1
  refine ret_ofM (nt := 28) (rvs := [.tmp 2]) Try.func67 rfl rfl rfl rfl (fun X hX => ?_)
  repeat' (first | omega | (with_reducible show (_ : Int) < _; dsimp only; omega) | (with_reducible show (_ : Nat) ≤ _; dsimp only; omega) | ((with_reducible show SrcOk _ _ _) <;> (first | exact srcOk_1 rfl | exact srcOk_L (fun _ => ⟨rfl, rfl⟩) | exact srcOk_E (fun _ => ⟨rfl, rfl⟩))) | ((conv => whnf) <;> (first | refine And.intro ?_ ?_ | (intro _h; first | contradiction | (try simp only [dd] at _h)) | (refine dt_go ?_) | exact rfl | exact True.intro | exact dkk | exact dks | ((first | refine .inl ⟨_, Ret.wk (by exact .cons (tWk_rfcp rfl rfl) .nil) (peek_ok L hL a ha), ?_⟩ | refine ⟨_, Ret.wk (by exact .cons (tWk_rfcp rfl rfl) .nil) (peek_ok L hL a ha), ?_⟩); (try rintro _ rfl)) | ((first | refine .inl ⟨_, nmS_t (hL.sz a ha) h.2, ?_⟩ | refine ⟨_, nmS_t (hL.sz a ha) h.2, ?_⟩); (try rintro _ rfl)) | (refine .inr (.inl (.inl ⟨[0], _, _, _, pskip_ok L hL a h1 false, viewA, ⟨rfl, rfl⟩, ?_⟩)); (rintro _ _ ⟨rfl, rfl⟩) <;> (refine ⟨rfl, _, lokA, ?_⟩)) | (refine wrap_succ ?_; omega))))
  all_goals (conv => whnf)
  all_goals first
    | exact absurd h2 ‹_›
    | exact endM_pick [0] [some (boxRow (pB L (a + 1) false))] (.s (tkL L a).text) viewA rfl rfl (by rw [hX]; exact keepK (n := 1) rfl rfl) ⟨rfl, rfl⟩
    | trace_state
theorem name_f (L : List Tok) (hL : LexOk L) (a : Nat) (ha : a < L.length) (h : ¬ ((tkL L a).kind = 1 ∧ nmB (tkL L a).text)) : RetM env.P 67 [some (boxRow (pB L a false))] [.ptr 0 0 0] (fun r H => r = .s ⟨#[]⟩ ∧ H = [some (boxRow (pB L a true))]) := by
  refine ret_ofM (nt := 28) (rvs := [.tmp 2]) Try.func67 rfl rfl rfl rfl (fun X hX => ?_)
  repeat' (first | omega | (with_reducible show (_ : Int) < _; dsimp only; omega) | (with_reducible show (_ : Nat) ≤ _; dsimp only; omega) | ((with_reducible show SrcOk _ _ _) <;> (first | exact srcOk_1 rfl | exact srcOk_L (fun _ => ⟨rfl, rfl⟩) | exact srcOk_E (fun _ => ⟨rfl, rfl⟩))) | ((conv => whnf) <;> (first | refine And.intro ?_ ?_ | (intro _h; first | contradiction | (try simp only [dd] at _h)) | (refine dt_go ?_) | exact rfl | exact True.intro | exact dkk | exact dks | ((first | refine .inl ⟨_, Ret.wk (by exact .cons (tWk_rfcp rfl rfl) .nil) (peek_ok L hL a ha), ?_⟩ | refine ⟨_, Ret.wk (by exact .cons (tWk_rfcp rfl rfl) .nil) (peek_ok L hL a ha), ?_⟩); (try rintro _ rfl)) | ((first | refine .inl ⟨_, nmS_f (hL.sz a ha) (fun q => h ⟨‹_›, q⟩), ?_⟩ | refine ⟨_, nmS_f (hL.sz a ha) (fun q => h ⟨‹_›, q⟩), ?_⟩); (try rintro _ rfl)) | (refine wrap_succ ?_; omega))))
  all_goals (conv => whnf)
  all_goals first
    | (refine endM_turn (turn_box (id := 0) (ds := pB L a true) rfl rfl rfl (.cons (.refl _) (.cons (.refl _) (.cons (.refl _) .nil)))) ?_
       exact endM_pick [0] [some (boxRow (pB L a true))] (.s ⟨#[]⟩) viewA rfl rfl (by rw [hX]; exact keepK (n := 1) rfl rfl) ⟨rfl, rfl⟩)
    | trace_state
theorem name_b (L : List Tok) (hL : LexOk L) (a : Nat) (ha : a < L.length) : RetM env.P 67 [some (boxRow (pB L a true))] [.ptr 0 0 0] (fun r H => r = .s ⟨#[]⟩ ∧ H = [some (boxRow (pB L a true))]) := by
  refine ret_ofM (nt := 28) (rvs := [.tmp 2]) Try.func67 rfl rfl rfl rfl (fun X hX => ?_)
  repeat' (first | omega | (with_reducible show (_ : Int) < _; dsimp only; omega) | (with_reducible show (_ : Nat) ≤ _; dsimp only; omega) | ((with_reducible show SrcOk _ _ _) <;> (first | exact srcOk_1 rfl | exact srcOk_L (fun _ => ⟨rfl, rfl⟩) | exact srcOk_E (fun _ => ⟨rfl, rfl⟩))) | ((conv => whnf) <;> (first | refine And.intro ?_ ?_ | (intro _h; first | contradiction | (try simp only [dd] at _h)) | (refine dt_go ?_) | exact rfl | exact True.intro | exact dkk | exact dks | ((first | refine .inl ⟨_, Ret.wk (by exact .cons (tWk_rfcp rfl rfl) .nil) (peek_ok L hL a ha), ?_⟩ | refine ⟨_, Ret.wk (by exact .cons (tWk_rfcp rfl rfl) .nil) (peek_ok L hL a ha), ?_⟩); (try rintro _ rfl)) | (refine wrap_succ ?_; omega))))
  all_goals (conv => whnf)
  all_goals first
    | (refine endM_turn (turn_box (id := 0) (ds := pB L a true) rfl rfl rfl (.cons (.refl _) (.cons (.refl _) (.cons (.refl _) .nil)))) ?_
       exact endM_pick [0] [some (boxRow (pB L a true))] (.s ⟨#[]⟩) viewA rfl rfl (by rw [hX]; exact keepK (n := 1) rfl rfl) ⟨rfl, rfl⟩)
    | trace_state
end
section
attribute [local irreducible] IntKind.wrap
def mst (k : Int) : Nat → Int × ByteArray
  | 0 => (k, ⟨#[]⟩)
  | i + 1 => if 0 < (mst k i).1 then ((mst k i).1 / 10, (⟨#[UInt8.ofNat (48 + ((mst k i).1 % 10).toNat)]⟩ : ByteArray) ++ (mst k i).2) else mst k i
theorem mst_succ {k : Int} {i : Nat} (h : 0 < (mst k i).1) : mst k (i + 1) = ((mst k i).1 / 10, (⟨#[UInt8.ofNat (48 + ((mst k i).1 % 10).toNat)]⟩ : ByteArray) ++ (mst k i).2) := if_pos h
theorem mst_stay {k : Int} {i : Nat} (h : ¬ 0 < (mst k i).1) : ∀ j, i ≤ j → mst k j = mst k i
  | 0, hj => by obtain rfl : i = 0 := by omega
                rfl
  | j + 1, hj => by
    rcases Nat.lt_or_eq_of_le hj with q | rfl
    · have e := mst_stay h j (by omega)
      show (if 0 < (mst k j).1 then _ else mst k j) = _
      rw [e, if_neg h]
    · rfl
theorem mst_lo {k : Int} (h : 0 ≤ k) : ∀ i, 0 ≤ (mst k i).1
  | 0 => h
  | i + 1 => by
    have ih := mst_lo h i
    show 0 ≤ (if 0 < (mst k i).1 then _ else mst k i).1
    split
    · dsimp only; omega
    · exact ih
theorem mst_hi {k : Int} (h : 0 ≤ k) : ∀ i, (mst k i).1 ≤ k
  | 0 => Int.le_refl _
  | i + 1 => by
    have ih := mst_hi h i
    have lo := mst_lo h i
    show (if 0 < (mst k i).1 then _ else mst k i).1 ≤ _
    split
    · dsimp only; omega
    · exact ih
theorem mst_pow {k : Int} (h : 0 ≤ k) : ∀ i, 0 < (mst k i).1 → 10 ^ i * (mst k i).1 ≤ k
  | 0, _ => by show 1 * k ≤ k; omega
  | i + 1, q => by
    have ih := mst_pow h i
    by_cases p : 0 < (mst k i).1
    · have ih := ih p
      rw [mst_succ p]
      dsimp only
      have e : (10 : Int) ^ (i + 1) * ((mst k i).1 / 10) = 10 ^ i * (10 * ((mst k i).1 / 10)) := by rw [Int.pow_succ, Int.mul_assoc]
      rw [e]
      refine Int.le_trans (Int.mul_le_mul_of_nonneg_left ?_ (Int.le_of_lt (Int.pow_pos (by decide)))) ih
      omega
    · rw [mst_stay p (i + 1) (by omega)] at q
      exact absurd q p
theorem mst_lt {k : Int} (h : 0 ≤ k) (hk : k ≤ 4611686018427387904) {i : Nat} (q : 0 < (mst k i).1) : i < 19 := by
  have h1 := mst_pow h i q
  have h2 : (10 : Int) ^ i ≤ 10 ^ i * (mst k i).1 := by
    have : (10 : Int) ^ i * 1 ≤ 10 ^ i * (mst k i).1 := Int.mul_le_mul_of_nonneg_left (by omega) (Int.le_of_lt (Int.pow_pos (by decide)))
    omega
  apply Nat.lt_of_not_le
  intro hc
  have h3 : (10 : Nat) ^ 19 ≤ 10 ^ i := Nat.pow_le_pow_right (by decide) hc
  have h4 : ((10 ^ i : Nat) : Int) = (10 : Int) ^ i := by norm_cast
  have h5 : (10 : Nat) ^ 19 = 10000000000000000000 := by decide
  omega
theorem mst_sz {k : Int} : ∀ i, (mst k i).2.size ≤ i
  | 0 => Nat.le_refl _
  | i + 1 => by
    have ih := mst_sz (k := k) i
    show (if 0 < (mst k i).1 then _ else mst k i).2.size ≤ _
    split
    · dsimp only
      rw [ByteArray.size_append]
      have : (⟨#[UInt8.ofNat (48 + ((mst k i).1 % 10).toNat)]⟩ : ByteArray).size = 1 := rfl
      omega
    · omega
def mtxt (k : Int) : ByteArray := if k ≤ 0 then ⟨#[109, 48]⟩ else (⟨#[109]⟩ : ByteArray) ++ (mst k 19).2
theorem tbytes1 {g : Nat → Nat → AV} {z : Int} (h : g 0 0 = .i .u8 z) : Bytes 1 g := ⟨fun i hi => by
  obtain rfl : i = 0 := by omega
  exact ⟨z, h⟩⟩
theorem tbytesOf1 {g : Nat → Nat → AV} {z : Nat} (h : g 0 0 = .i .u8 (z : Int)) : bytesOf 1 g = ⟨#[UInt8.ofNat z]⟩ := by
  unfold bytesOf
  simp [h]
  rfl
theorem tbytesOf_sz (n : Nat) (g : Nat → Nat → AV) : (bytesOf n g).size = n := by
  unfold bytesOf
  show ((List.range n).map _).length = n
  simp
theorem tdig_eq {n : Int} (h : 0 ≤ n ∧ n < 10) : IntKind.u8.wrap (IntKind.i64.wrap (48 + n)) = ((48 + n.toNat : Nat) : Int) := by
  rw [wrap_in (by omega) (by omega), IntKind.wrap_u8]
  omega
theorem tle_max {n : Nat} (h : n ≤ 1000000000) : n ≤ maxLen := Nat.le_trans h (by decide)
theorem mcat {m : Int} {y : ByteArray} {g : Nat → Nat → AV} (h0 : 0 ≤ m) (h : g 0 0 = .i .u8 (IntKind.u8.wrap (IntKind.i64.wrap (48 + m.tmod 10)))) : AV.s (bytesOf 1 g ++ y) = AV.s ((⟨#[UInt8.ofNat (48 + (m % 10).toNat)]⟩ : ByteArray) ++ y) := by
  rw [Int.tmod_eq_emod_of_nonneg h0, tdig_eq (by omega)] at h
  rw [tbytesOf1 h]
set_option maxRecDepth 8000 in
theorem markText_ok (k : Int) (h0 : 0 ≤ k) (hk : k ≤ 4611686018427387904) : Ret env.P 54 [.i .i64 k] (fun r => r = .s (mtxt k)) := by
  refine ret_of (nt := 20) (rvs := [.tmp 2]) Try.func54 rfl rfl rfl rfl (fun X => ?_)
  repeat' (first | omega | (with_reducible show (_ : Int) < _; dsimp only; omega) | (with_reducible show (_ : Nat) ≤ _; dsimp only; omega) | ((with_reducible show SrcOk _ _ _) <;> (first | exact srcOk_1 rfl | exact srcOk_L (fun _ => ⟨rfl, rfl⟩) | exact srcOk_E (fun _ => ⟨rfl, rfl⟩))) | ((conv => whnf) <;> (first | refine loopN 19 (fun i => [(0, .i .i64 (mst k i).1), (3, .s (mst k i).2)]) (fun i => []) (fun i => True) ⟨trivial, ?_⟩ | exact tbytes1 rfl | refine And.intro ?_ ?_ | (intro _h; first | contradiction | (try simp only [dd] at _h)) | (refine dt_go ?_) | exact rfl | exact True.intro | exact dkk | exact dks | (refine wrap_succ ?_; omega))))
  · repeat' (first | omega | (with_reducible show (_ : Int) < _; dsimp only; omega) | (with_reducible show (_ : Nat) ≤ _; dsimp only; omega) | ((with_reducible show SrcOk _ _ _) <;> (first | exact srcOk_1 rfl | exact srcOk_L (fun _ => ⟨rfl, rfl⟩) | exact srcOk_E (fun _ => ⟨rfl, rfl⟩))) | ((conv => whnf) <;> (first | refine And.intro ?_ ?_ | (intro _h; first | contradiction | (try simp only [dd] at _h)) | (refine dt_go ?_) | exact rfl | exact True.intro | exact dkk | exact dks | (refine wrap_succ ?_; omega))))
    exact congrArg AV.s (if_pos (by assumption)).symm
  · rename_i i _ _
    refine tle_max ?_
    have := mst_sz (k := k) i
    rw [tbytesOf_sz]
    omega
  · exact mst_lt h0 hk (by assumption)
  · rename_i i _ _
    rw [mst_succ (by assumption)]
    have := mst_lo h0 i
    have := mst_hi h0 i
    rw [Int.tdiv_eq_ediv_of_nonneg (by omega), wrap_in (by omega) (by omega)]
  · rename_i i _ _
    conv => whnf
    rw [mst_succ (by assumption)]
    refine AV.s.inj (mcat (mst_lo h0 i) ?_)
    rfl
  · rename_i i _ _
    refine tle_max ?_
    have := mst_sz (k := k) i
    have : (⟨#[109]⟩ : ByteArray).size = 1 := rfl
    omega
  · rename_i i hi _
    have hk0 : ¬ k ≤ 0 := by assumption
    conv => whnf
    refine congrArg AV.s ?_
    unfold mtxt
    rw [if_neg hk0, mst_stay (by assumption) 19 hi]
end
set_option maxRecDepth 8000
instance strC_hold : HoldC strC := holdC_plain fun _ => rfl
instance strC_free : FreeC strC := freeC_plain fun _ => rfl
instance strC_shr : Shr 0 strC strC := shr_plain fun _ => rfl
def Str.mkE (a : ByteArray) (k : Int) : ByteArray × Int := (mtxt k, (k + 1))
theorem Str.mkE_mono (a : ByteArray) (k : Int) : k ≤ (Str.mkE a k).2 := by simp only [Str.mkE]; omega
theorem Str.mkE_idem (a : ByteArray) (k : Int) : Str.mkE (Str.mkE a k).1 k = Str.mkE a k := by simp only [Str.mkE]
theorem mtxt_sz (k : Int) : (mtxt k).size ≤ 20 := by
  unfold mtxt
  split
  · decide
  · rw [ByteArray.size_append]
    have := mst_sz (k := k) 19
    have : (⟨#[109]⟩ : ByteArray).size = 1 := rfl
    omega
theorem Str.mkE_ok (a : ByteArray) (k : Int) (h : okS a) : okS (Str.mkE a k).1 := Nat.le_trans (mtxt_sz k) (by decide)
theorem markStringS_ok (l : List ByteArray) (k : Int) (h0 : 0 ≤ k) (hk : (markL Str.mkE l k).2 ≤ 4611686018427387904) (hl : l.length ≤ 1048576) : RetM env.P 26 [some (rowL 1 strC l)] [.row 0 l.length, .i .i64 k] (fun r H => r = .i .i64 (markL Str.mkE l k).2 ∧ H = [some (rowL 1 strC (markL Str.mkE l k).1)]) := by
  refine ret_ofM (nt := 20) (rvs := [.tmp 4]) Try.func26 rfl rfl rfl rfl (fun X hX => ?_)
  conv => whnf
  refine loopN l.length (fun i => [(5, .i .i64 i), (1, .i .i64 (mkC Str.mkE l k i))]) (fun i => [some (.arr ⟨1, l.length, elE strC (mkL Str.mkE l k i), .arr⟩)]) (fun i => MarkUp Str.mkE l k i) ⟨markUp_zero Str.mkE_mono h0 hk, ?_⟩
  repeat' (first | omega | (with_reducible show (_ : Int) < _; dsimp only; omega) | (with_reducible show (_ : Nat) ≤ _; dsimp only; omega) | ((with_reducible show SrcOk _ _ _) <;> (first | exact srcOk_1 rfl | exact srcOk_L (fun _ => ⟨rfl, rfl⟩) | exact srcOk_E (fun _ => ⟨rfl, rfl⟩))) | ((conv => whnf) <;> (first | exact mkC_zero.symm | exact arr_same mkL_zero rfl (fun a j => low_cells rfl) | exact markUp_succ (by assumption) h0 | refine And.intro ?_ ?_ | (intro _h; first | contradiction | (try simp only [dd] at _h)) | (refine dt_go ?_) | exact rfl | exact True.intro | exact dkk | exact dks | ((first | refine .inl ⟨_, markText_ok _ (MarkUp.lo ‹_›) (by have q := MarkUp.le ‹_› (show _ < l.length by omega); simp only [Str.mkE] at q; omega), ?_⟩ | refine ⟨_, markText_ok _ (MarkUp.lo ‹_›) (by have q := MarkUp.le ‹_› (show _ < l.length by omega); simp only [Str.mkE] at q; omega), ?_⟩); (try rintro _ rfl)) | (refine wrap_succ ?_; omega))))
  · rename_i i _ hM
    have q1 := hM.le (show i < l.length by omega)
    have q2 := hM.lo
    rw [mkC_succ (by omega)]
    simp only [Str.mkE] at q1 ⊢
    simp (disch := omega) only [wrap_in]
  · rename_i i _ hM
    have q1 := hM.le (show i < l.length by omega)
    have q2 := hM.lo
    simp only [Str.mkE] at q1
    conv => whnf
    refine arr_set (mkL_succ (by omega)) (by rw [mkL_len]; omega) rfl (fun a j => low_cells rfl) ?_ ?_
    · intro j hj
      obtain rfl : j = 0 := by omega
      all_goals (simp (disch := omega) only [upd, Nat.beq_refl, wrap_in, Int.toNat_natCast]; rfl)
    · intro a j hne
      simp only [upd, beq_ff hne, Bool.and_false, cond_false, Int.toNat_natCast]
  · exact endM_self ⟨congrArg _ (mkC_end (by omega)), rowL_end (by omega)⟩
theorem heldStringS_ok (l : List ByteArray) (k : Int) (h0 : 0 ≤ k) (hk : (markL Str.mkE l k).2 ≤ 4611686018427387904) (hl : l.length ≤ 1048576) : Ret env.P 28 [slL 1 strC l, .i .i64 k] (fun r => r = .i .i64 (heldI l (markL Str.mkE l k))) := by
  refine ret_of (nt := 22) (rvs := [.tmp 4]) Try.func28 rfl rfl rfl rfl (fun X => ?_)
  repeat' (first | omega | (with_reducible show (_ : Int) < _; dsimp only; omega) | (with_reducible show (_ : Nat) ≤ _; dsimp only; omega) | ((with_reducible show SrcOk _ _ _) <;> (first | exact srcOk_1 rfl | exact srcOk_L (fun _ => ⟨rfl, rfl⟩) | exact srcOk_E (fun _ => ⟨rfl, rfl⟩))) | ((conv => whnf) <;> (first | refine loopN l.length (fun i => [(5, .i .i64 i), (1, .i .i64 (mkC Str.mkE l k i))]) (fun i => []) (fun i => HeldUp Str.mkE l k i) ⟨heldUp_zero, ?_⟩ | exact mkC_zero.symm | refine And.intro ?_ ?_ | (intro _h; first | contradiction | (try simp only [dd] at _h)) | (refine dt_go ?_) | exact rfl | exact True.intro | exact dkk | exact dks | ((first | refine .inl ⟨_, markText_ok _ (by have q := held_rng Str.mkE_mono ‹HeldUp Str.mkE l k _› (by omega); simp only [Str.mkE] at q; omega) (by have q := held_rng Str.mkE_mono ‹HeldUp Str.mkE l k _› (by omega); simp only [Str.mkE] at q; omega), ?_⟩ | refine ⟨_, markText_ok _ (by have q := held_rng Str.mkE_mono ‹HeldUp Str.mkE l k _› (by omega); simp only [Str.mkE] at q; omega) (by have q := held_rng Str.mkE_mono ‹HeldUp Str.mkE l k _› (by omega); simp only [Str.mkE] at q; omega), ?_⟩); (try rintro _ rfl)) | (refine wrap_succ ?_; omega))))
  all_goals (first | (conv => whnf) | skip)
  all_goals (try simp only [Int.toNat_natCast] at *)
  all_goals first
    | exact leaf_i (held_end ‹HeldUp _ l k _› (by omega))
    | (have q := held_rng Str.mkE_mono ‹HeldUp Str.mkE l k _› (by omega)
       simp only [Str.mkE] at q
       have q1 := q.1
       have q2 := q.2
       clear q
       (try simp (disch := omega) only [wrap_in, bne_iff_ne, ne_eq, bne_eq_false_iff_eq] at *)
       first
         | (rw [mkC_succ (by omega)]; done)
         | (rw [mkC_succ (by omega)]; rfl)
         | exact heldUp_succ ‹_› ‹_›
         | exact leaf_i (held_no ‹HeldUp Str.mkE l k _› (by omega) ‹_›)
         | trace_state)
theorem heldStringS_or (l : List ByteArray) (k : Int) (h0 : 0 ≤ k) (hk : (markL Str.mkE l k).2 ≤ 4611686018427387904) (hl : l.length ≤ 1048576) : Ret env.P 28 [slL 1 strC l, .i .i64 k] (fun y => (l = (markL Str.mkE l k).1 ∧ k ≤ (markL Str.mkE l k).2 ∧ y = .i .i64 (markL Str.mkE l k).2) ∨ (¬ l = (markL Str.mkE l k).1 ∧ y = .i .i64 (-1))) :=
  (heldStringS_ok l k h0 hk hl).mono fun y hy => by
    subst hy
    obtain ⟨h1, h2⟩ | ⟨h1, h2⟩ := heldI_cases l (markL Str.mkE l k)
    · exact .inl ⟨h1, markL_mono Str.mkE_mono l k, by rw [h2]⟩
    · exact .inr ⟨h1, by rw [h2]⟩
end Go.Proofs.Ytllcemegnggpfaa
