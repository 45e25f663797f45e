/- Texts for VTermOkP. -/
import Derived.Test.YtllcemegnggpfaaVs31
namespace Go.Proofs.Ytllcemegnggpfaa
open Go Go.RowKit
set_option linter.unusedVariables false
set_option linter.unusedSimpArgs false
set_option maxRecDepth 8000
section
attribute [local irreducible] IntKind.wrap
set_option maxHeartbeats 8000000 in
theorem l06ReadTerm_ok (s : ByteArray) : Ret env.P 20 [.s s] (fun r => r = rtR (rdT s)) := by
  have hlx := l05Tokens_ok s
  cases hx : lexF s with
  | err l c =>
    rw [hx] at hlx
    have hc : c = 6 ∨ c = 4 := lexF_err hx
    have hlx : Ret env.P 39 [.s s] (fun r => r = .tup [.nils, .i .i64 l, .i .i64 c]) := hlx
    refine Ret.ofFrz ?_
    refine ret_ofPM (nt := 36) (rvs := [.cell 2 25, .tmp 3]) Try.func20 rfl rfl rfl rfl (fun X hX => ?_)
    refine wpc_ok _ _ _ _ ?_
    (try dsimp only)
    conv => whnf
    repeat' (first | omega | (with_reducible show (_ : Int) < _; dsimp only; omega) | (with_reducible show (_ : Nat) ≤ _; dsimp only; omega) | ((with_reducible show SrcOk _ _ _) <;> (first | exact srcOk_1 rfl | exact srcOk_L (fun _ => ⟨rfl, rfl⟩) | exact srcOk_E (fun _ => ⟨rfl, rfl⟩))) | ((conv => whnf) <;> (first | refine And.intro ?_ ?_ | (intro _h; first | contradiction | (try simp only [dd] at _h)) | (refine dt_go ?_) | exact rfl | exact True.intro | exact dkk | exact dks | ((first | refine .inl ⟨_, hlx, ?_⟩ | refine ⟨_, hlx, ?_⟩); (try rintro _ rfl)) | (refine wrap_succ ?_; omega))))
    all_goals (conv => whnf)
    all_goals first
      | (exfalso; omega)
      | exact endM_self (frz0 (r1 := rtR (noT, c)) (frz_tup (.cons (.agg (.cons (.refl _) (.cons (.refl _) (.cons Wk.nilS0 (.cons Wk.nilS0 .nil))))) (.cons (.refl _) .nil))) (by simp [rdT, hx]))
  | ok L =>
    rw [hx] at hlx
    have hL := lexF_ok hx
    have hT := spT_all hL 4 (by decide)
    have hlx : Ret env.P 39 [.s s] (fun r => r = .tup [slL 3 tokC L, .i .i64 0, .i .i64 0]) := hlx
    refine Ret.ofFrz ?_
    refine ret_ofPM (nt := 36) (rvs := [.cell 2 25, .tmp 3]) Try.func20 rfl rfl rfl rfl (fun X hX => ?_)
    refine wpc_ok _ _ _ _ ?_
    (try dsimp only)
    conv => whnf
    repeat' (first | omega | (with_reducible show (_ : Int) < _; dsimp only; omega) | (with_reducible show (_ : Nat) ≤ _; dsimp only; omega) | ((with_reducible show SrcOk _ _ _) <;> (first | exact srcOk_1 rfl | exact srcOk_L (fun _ => ⟨rfl, rfl⟩) | exact srcOk_E (fun _ => ⟨rfl, rfl⟩))) | ((conv => whnf) <;> (first | (refine .inr (.inr ⟨_, (fun X => turn_box (id := 1) (ds := pB L 0 false) rfl rfl rfl (.cons (.refl _) (.cons (.refl _) (.cons (.refl _) .nil)))), (fun i _ q => (by cases q)), .inl ⟨[1], _, _, _, hT.f 0 4 hL.pos rfl, viewA, ⟨rfl, rfl⟩, ?_⟩⟩); rintro _ _ (⟨x, a', hp, ha', rfl, rfl⟩ | ⟨hp, x, a', ha', rfl, rfl⟩) <;> refine ⟨rfl, _, lokA, ?_⟩) | refine And.intro ?_ ?_ | (intro _h; first | contradiction | (try simp only [dd] at _h)) | (refine dt_go ?_) | exact rfl | exact True.intro | exact dkk | exact dks | ((first | refine .inl ⟨_, hlx, ?_⟩ | refine ⟨_, hlx, ?_⟩); (try rintro _ rfl)) | ((first | refine .inl ⟨_, Ret.wk (by exact .cons (tWk_rfcp rfl rfl) .nil) (peek_ok L hL a' ha'), ?_⟩ | refine ⟨_, Ret.wk (by exact .cons (tWk_rfcp rfl rfl) .nil) (peek_ok L hL a' ha'), ?_⟩); (try rintro _ rfl)) | (refine wrap_succ ?_; omega))))
    all_goals (first | (conv => whnf) | skip)
    all_goals first
      | exact endM_self (frz0 (r1 := rtR (noT, 6)) (frz_tup (.cons (.agg (.cons (.refl _) (.cons (.refl _) (.cons Wk.nilS0 (.cons Wk.nilS0 .nil))))) (.cons (.refl _) .nil))) (by simp [rdT, hx, hp, *]))
      | exact endM_self (frz0 (r1 := rtR (x, 0)) (frz_tup (.cons (.agg (.cons (.refl _) (.cons (.refl _) (.cons (.refl _) (.cons (.refl _) .nil))))) (.cons (.refl _) .nil))) (by simp [rdT, hx, hp, *]))
end
section
attribute [local irreducible] IntKind.wrap
theorem tk_at {L : List Tok} {a : Nat} (h : a < L.length) : tkL L a = L[a]'h := by
  unfold tkL
  rw [List.getD_eq_getElem?_getD, List.getElem?_eq_getElem h]
  rfl
def pBv (L : List Tok) (a : Nat) (b : Bool) : List AV := [slL 3 tokC L, .i .i64 a, .b b]
theorem isT_kd {L : List Tok} (hL : LexOk L) {a : Nat} (ha : a < L.length) {t : ByteArray} (hd : ¬ isDg (byI t 0)) : isT L t a ↔ ((tkL L a).kind = 1 ∨ (tkL L a).kind = 3) ∧ (tkL L a).text = t := by
  unfold isT
  constructor
  · rintro ⟨h1, h2⟩
    refine ⟨?_, h2⟩
    have h3 := hL.lt ha h1
    have h4 := hL.rest a h3
    have h5 : ¬ (tkL L a).kind = 2 := fun q => by
      have := hL.num a ha q
      unfold tkL at h2
      rw [h2] at this
      exact hd this
    unfold tkL at *
    omega
  · rintro ⟨h1, h2⟩
    exact ⟨by omega, h2⟩
set_option maxHeartbeats 4000000 in
theorem isI_ok (L : List Tok) (hL : LexOk L) (a : Nat) (ha : a < L.length) (t : ByteArray) (hd : ¬ isDg (byI t 0)) : Ret env.P 101 [rfL (pBv L a false), .s t] (fun r => r = .b (pb (isT L t a))) := by
  have := hL.most
  have hk := isT_kd hL ha hd
  refine ret_of (nt := 37) (rvs := [.tmp 4]) Try.func101 rfl rfl rfl rfl (fun X => ?_)
  repeat' (first | omega | (with_reducible show (_ : Int) < _; dsimp only; omega) | (with_reducible show (_ : Nat) ≤ _; dsimp only; omega) | ((with_reducible show SrcOk _ _ _) <;> (first | exact srcOk_1 rfl | exact srcOk_L (fun _ => ⟨rfl, rfl⟩) | exact srcOk_E (fun _ => ⟨rfl, rfl⟩))) | ((conv => whnf) <;> (first | refine And.intro ?_ ?_ | (intro _h; first | contradiction | (try simp only [dd] at _h)) | (refine dt_go ?_) | exact rfl | exact True.intro | exact dkk | exact dks | (refine wrap_succ ?_; omega))))
  all_goals (first | (conv => whnf) | skip)
  all_goals first
    | exact rfl
    | exact leaf_p (by rw [hk, tk_at ha]; simp_all; done)
    | trace_state
set_option maxHeartbeats 4000000 in
theorem isI_b (L : List Tok) (hL : LexOk L) (a : Nat) (ha : a < L.length) (t : ByteArray) : Ret env.P 101 [rfL (pBv L a true), .s t] (fun r => r = .b false) := by
  have := hL.most
  refine ret_of (nt := 37) (rvs := [.tmp 4]) Try.func101 rfl rfl rfl rfl (fun X => ?_)
  repeat' (first | omega | (with_reducible show (_ : Int) < _; dsimp only; omega) | (with_reducible show (_ : Nat) ≤ _; dsimp only; omega) | ((with_reducible show SrcOk _ _ _) <;> (first | exact srcOk_1 rfl | exact srcOk_L (fun _ => ⟨rfl, rfl⟩) | exact srcOk_E (fun _ => ⟨rfl, rfl⟩))) | ((conv => whnf) <;> (first | refine And.intro ?_ ?_ | (intro _h; first | contradiction | (try simp only [dd] at _h)) | (refine dt_go ?_) | exact rfl | exact True.intro | exact dkk | exact dks | (refine wrap_succ ?_; omega))))
  all_goals (first | (conv => whnf) | skip)
  all_goals first
    | exact rfl
    | trace_state
theorem takeI_t (L : List Tok) (hL : LexOk L) (a : Nat) (ha : a < L.length) (t : ByteArray) (hd : ¬ isDg (byI t 0)) (h : isT L t a) : RetM env.P 80 [some (boxRow (pB L a false))] [.ptr 0 0 0, .s t] (fun r H => r = .kb true ∧ H = [some (boxRow (pB L (a + 1) false))]) := by
  have h1 := hL.isT_lt ha h
  have := hL.most
  have e : IntKind.i64.wrap ((a : Int) + 1) = ((a + 1 : Nat) : Int) := by rw [wrap_in (by omega) (by omega)]; rfl
  refine ret_ofM (nt := 16) (rvs := [.tmp 4]) Try.func80 rfl rfl rfl rfl (fun X hX => ?_)
  repeat' (first | omega | (with_reducible show (_ : Int) < _; dsimp only; omega) | (with_reducible show (_ : Nat) ≤ _; dsimp only; omega) | ((with_reducible show SrcOk _ _ _) <;> (first | exact srcOk_1 rfl | exact srcOk_L (fun _ => ⟨rfl, rfl⟩) | exact srcOk_E (fun _ => ⟨rfl, rfl⟩))) | ((conv => whnf) <;> (first | refine And.intro ?_ ?_ | (intro _h; first | contradiction | (try simp only [dd] at _h)) | (refine dt_go ?_) | exact rfl | exact True.intro | exact dkk | exact dks | ((first | refine .inl ⟨_, Ret.wk (by exact .cons (tWk_rfcp rfl rfl) (.cons (.refl _) .nil)) ((isI_ok L hL a ha t hd).mono fun r e => e.trans (by rw [pb_t.mpr h])), ?_⟩ | refine ⟨_, Ret.wk (by exact .cons (tWk_rfcp rfl rfl) (.cons (.refl _) .nil)) ((isI_ok L hL a ha t hd).mono fun r e => e.trans (by rw [pb_t.mpr h])), ?_⟩); (try rintro _ rfl)) | (refine wrap_succ ?_; omega))))
  all_goals first
    | (exfalso; omega)
    | (conv => whnf
       rw [e]
       refine endM_turn (turn_box (id := 0) (ds := pB L (a + 1) false) rfl rfl rfl (.cons (.refl _) (.cons (.refl _) (.cons (.refl _) .nil)))) ?_
       exact endM_self ⟨rfl, rfl⟩)
    | trace_state
theorem takeI_f (L : List Tok) (hL : LexOk L) (a : Nat) (ha : a < L.length) (t : ByteArray) (hd : ¬ isDg (byI t 0)) (h : ¬ isT L t a) : RetM env.P 80 [some (boxRow (pB L a false))] [.ptr 0 0 0, .s t] (fun r H => r = .kb false ∧ H = [some (boxRow (pB L a false))]) := by
  refine ret_ofM (nt := 16) (rvs := [.tmp 4]) Try.func80 rfl rfl rfl rfl (fun X hX => ?_)
  repeat' (first | omega | (with_reducible show (_ : Int) < _; dsimp only; omega) | (with_reducible show (_ : Nat) ≤ _; dsimp only; omega) | ((with_reducible show SrcOk _ _ _) <;> (first | exact srcOk_1 rfl | exact srcOk_L (fun _ => ⟨rfl, rfl⟩) | exact srcOk_E (fun _ => ⟨rfl, rfl⟩))) | ((conv => whnf) <;> (first | refine And.intro ?_ ?_ | (intro _h; first | contradiction | (try simp only [dd] at _h)) | (refine dt_go ?_) | exact rfl | exact True.intro | exact dkk | exact dks | ((first | refine .inl ⟨_, Ret.wk (by exact .cons (tWk_rfcp rfl rfl) (.cons (.refl _) .nil)) ((isI_ok L hL a ha t hd).mono fun r e => e.trans (by rw [pb_f.mpr h])), ?_⟩ | refine ⟨_, Ret.wk (by exact .cons (tWk_rfcp rfl rfl) (.cons (.refl _) .nil)) ((isI_ok L hL a ha t hd).mono fun r e => e.trans (by rw [pb_f.mpr h])), ?_⟩); (try rintro _ rfl)) | (refine wrap_succ ?_; omega))))
  all_goals (conv => whnf)
  all_goals first | exact endM_self ⟨rfl, rfl⟩ | trace_state
theorem takeI_b (L : List Tok) (hL : LexOk L) (a : Nat) (ha : a < L.length) (t : ByteArray) : RetM env.P 80 [some (boxRow (pB L a true))] [.ptr 0 0 0, .s t] (fun r H => r = .kb false ∧ H = [some (boxRow (pB L a true))]) := by
  refine ret_ofM (nt := 16) (rvs := [.tmp 4]) Try.func80 rfl rfl rfl rfl (fun X hX => ?_)
  repeat' (first | omega | (with_reducible show (_ : Int) < _; dsimp only; omega) | (with_reducible show (_ : Nat) ≤ _; dsimp only; omega) | ((with_reducible show SrcOk _ _ _) <;> (first | exact srcOk_1 rfl | exact srcOk_L (fun _ => ⟨rfl, rfl⟩) | exact srcOk_E (fun _ => ⟨rfl, rfl⟩))) | ((conv => whnf) <;> (first | refine And.intro ?_ ?_ | (intro _h; first | contradiction | (try simp only [dd] at _h)) | (refine dt_go ?_) | exact rfl | exact True.intro | exact dkk | exact dks | ((first | refine .inl ⟨_, Ret.wk (by exact .cons (tWk_rfcp rfl rfl) (.cons (.refl _) .nil)) (isI_b L hL a ha t), ?_⟩ | refine ⟨_, Ret.wk (by exact .cons (tWk_rfcp rfl rfl) (.cons (.refl _) .nil)) (isI_b L hL a ha t), ?_⟩); (try rintro _ rfl)) | (refine wrap_succ ?_; omega))))
  all_goals (conv => whnf)
  all_goals first | exact endM_self ⟨rfl, rfl⟩ | trace_state
theorem takeI_o (L : List Tok) (hL : LexOk L) (a : Nat) (t : ByteArray) (hd : ¬ isDg (byI t 0)) (ha : a < L.length) : RetM env.P 80 [some (boxRow (pB L a false))] [.ptr 0 0 0, .s t] (fun r H => (isT L t a ∧ a + 1 < L.length ∧ r = .kb true ∧ H = [some (boxRow (pB L (a + 1) false))]) ∨ (¬ isT L t a ∧ r = .kb false ∧ H = [some (boxRow (pB L a false))])) := by
  by_cases h : isT L t a
  · exact (takeI_t L hL a ha t hd h).mono fun r H e => .inl ⟨h, hL.isT_lt ha h, e.1, e.2⟩
  · exact (takeI_f L hL a ha t hd h).mono fun r H e => .inr ⟨h, e.1, e.2⟩
theorem needI_o (L : List Tok) (hL : LexOk L) (a : Nat) (t : ByteArray) (hd : ¬ isDg (byI t 0)) (ha : a < L.length) : RetM env.P 48 [some (boxRow (pB L a false))] [.ptr 0 0 0, .s t] (fun r H => (pNeed L t a = some (a + 1) ∧ a + 1 < L.length ∧ r = .tup [] ∧ H = [some (boxRow (pB L (a + 1) false))]) ∨ (pNeed L t a = none ∧ r = .tup [] ∧ H = [some (boxRow (pB L a true))])) := by
  refine ret_ofM (nt := 11) (rvs := []) Try.func48 rfl rfl rfl rfl (fun X hX => ?_)
  repeat' (first | omega | (with_reducible show (_ : Int) < _; dsimp only; omega) | (with_reducible show (_ : Nat) ≤ _; dsimp only; omega) | ((with_reducible show SrcOk _ _ _) <;> (first | exact srcOk_1 rfl | exact srcOk_L (fun _ => ⟨rfl, rfl⟩) | exact srcOk_E (fun _ => ⟨rfl, rfl⟩))) | ((conv => whnf) <;> (first | refine And.intro ?_ ?_ | (intro _h; first | contradiction | (try simp only [dd] at _h)) | (refine dt_go ?_) | exact rfl | exact True.intro | exact dkk | exact dks | (refine .inr (.inl (.inl ⟨[0], _, _, _, takeI_o L hL a t hd ha, viewA, ⟨rfl, rfl⟩, ?_⟩)); (rintro _ _ (⟨h1, h2, rfl, rfl⟩ | ⟨h1, rfl, rfl⟩)) <;> (refine ⟨rfl, _, lokA, ?_⟩)) | (refine wrap_succ ?_; omega))))
  all_goals (conv => whnf)
  all_goals first
    | exact endM_self (.inl ⟨if_pos h1, h2, rfl, rfl⟩)
    | (refine endM_turn (turn_box (id := 0) (ds := pB L a true) rfl rfl rfl (.cons (.refl _) (.cons (.refl _) (.cons (.refl _) .nil)))) ?_
       exact endM_self (.inr ⟨if_neg h1, rfl, rfl⟩))
    | trace_state
theorem needI_b (L : List Tok) (hL : LexOk L) (a : Nat) (ha : a < L.length) (t : ByteArray) : RetM env.P 48 [some (boxRow (pB L a true))] [.ptr 0 0 0, .s t] (fun r H => r = .tup [] ∧ H = [some (boxRow (pB L a true))]) := by
  refine ret_ofM (nt := 11) (rvs := []) Try.func48 rfl rfl rfl rfl (fun X hX => ?_)
  repeat' (first | omega | (with_reducible show (_ : Int) < _; dsimp only; omega) | (with_reducible show (_ : Nat) ≤ _; dsimp only; omega) | ((with_reducible show SrcOk _ _ _) <;> (first | exact srcOk_1 rfl | exact srcOk_L (fun _ => ⟨rfl, rfl⟩) | exact srcOk_E (fun _ => ⟨rfl, rfl⟩))) | ((conv => whnf) <;> (first | refine And.intro ?_ ?_ | (intro _h; first | contradiction | (try simp only [dd] at _h)) | (refine dt_go ?_) | exact rfl | exact True.intro | exact dkk | exact dks | (refine .inr (.inl (.inl ⟨[0], _, _, _, takeI_b L hL a ha t, viewA, ⟨rfl, rfl⟩, ?_⟩)); (rintro _ _ ⟨rfl, rfl⟩) <;> (refine ⟨rfl, _, lokA, ?_⟩)) | (refine wrap_succ ?_; omega))))
  all_goals (conv => whnf)
  all_goals first
    | (refine endM_turn (turn_box (id := 0) (ds := pB L a true) rfl rfl rfl (.cons (.refl _) (.cons (.refl _) (.cons (.refl _) .nil)))) ?_
       exact endM_self ⟨rfl, rfl⟩)
    | trace_state
end
section
attribute [local irreducible] IntKind.wrap
def kwW : List ByteArray := (ByteArray.mk #[]) :: kwT
theorem kwW_len : kwW.length = 24 := rfl
theorem kindWords_ok : Ret env.P 46 [] (fun r => r = slL 1 strC kwW) := by
  refine Ret.ofFrz ?_
  refine ret_ofM (nt := 2) (rvs := [.tmp 0]) Try.func46 rfl rfl rfl rfl (fun X hX => ?_)
  repeat' (first | omega | (with_reducible show (_ : Int) < _; dsimp only; omega) | (with_reducible show (_ : Nat) ≤ _; dsimp only; omega) | ((with_reducible show SrcOk _ _ _) <;> (first | exact srcOk_1 rfl | exact srcOk_L (fun _ => ⟨rfl, rfl⟩) | exact srcOk_E (fun _ => ⟨rfl, rfl⟩))) | ((conv => whnf) <;> (first | refine And.intro ?_ ?_ | (intro _h; first | contradiction | (try simp only [dd] at _h)) | (refine dt_go ?_) | exact rfl | exact True.intro | exact dkk | exact dks | (refine wrap_succ ?_; omega))))
  conv => whnf
  exact endM_self (frz0 (frz_cell rfl (shr_litL (d := 0) (k := 4) (cO := strC) (l := kwW) rfl rfl)) rfl)
structure KwI (w : ByteArray) (k : Nat) : Prop where
  h : ∀ j, j < k → ¬ w = kwW.getD j default
theorem KwI.zero (w : ByteArray) : KwI w 0 := ⟨fun j hj => absurd hj (Nat.not_lt_zero _)⟩
theorem KwI.next {w : ByteArray} {k : Nat} (h : KwI w k) (hk : ¬ w = kwW.getD k default) : KwI w (k + 1) := ⟨fun j hj => by
  by_cases e : j = k
  · subst e; exact hk
  · exact h.h j (by omega)⟩
theorem KwI.to {w : ByteArray} {k : Nat} (h : KwI w (k + 1)) : KwTo w k := ⟨fun j hj e => h.h (j + 1) (by omega) e.symm⟩
theorem KwI.found {w : ByteArray} {k : Nat} (h : KwI w k) (hw : ¬ w = ByteArray.mk #[]) (hlt : k < 24) (hk : w = kwW.getD k default) : kdOf w = (k : Int) ∧ ¬ kdOf w = 0 := by
  cases k with
  | zero => exact absurd hk hw
  | succ k =>
    have := KwTo.found h.to (by omega) hk.symm
    exact ⟨this, by rw [this]; omega⟩
theorem KwI.none {w : ByteArray} (h : KwI w 24) : kdOf w = 0 := KwTo.none h.to (by omega)
theorem kd_no : kdOf (ByteArray.mk #[]) = 0 := by decide
theorem indexW_ok (w : ByteArray) (hw : ¬ w = ByteArray.mk #[]) : Ret env.P 45 [slL 1 strC kwW, .s w] (fun r => (kdOf w = 0 ∧ r = .i .i64 (-1)) ∨ (¬ kdOf w = 0 ∧ r = .i .i64 (kdOf w))) := by
  have hl := kwW_len
  refine ret_of (nt := 19) (rvs := [.tmp 4]) Try.func45 rfl rfl rfl rfl (fun X => ?_)
  repeat' (first | omega | (with_reducible show (_ : Int) < _; dsimp only; omega) | (with_reducible show (_ : Nat) ≤ _; dsimp only; omega) | ((with_reducible show SrcOk _ _ _) <;> (first | exact srcOk_1 rfl | exact srcOk_L (fun _ => ⟨rfl, rfl⟩) | exact srcOk_E (fun _ => ⟨rfl, rfl⟩))) | ((conv => whnf) <;> (first | (refine loopN 24 (fun k => [(8, .i .i64 k)]) (fun k => []) (fun k => KwI w k) ⟨.zero w, ?_⟩) | exact wrap_in (by omega) (by omega) | refine And.intro ?_ ?_ | (intro _h; first | contradiction | (try simp only [dd] at _h)) | (refine dt_go ?_) | exact rfl | exact True.intro | exact dkk | exact dks | (refine wrap_succ ?_; omega))))
  all_goals (try simp only [Int.toNat_natCast] at *)
  all_goals first | omega | (conv => whnf) | skip
  all_goals first
    | exact KwI.next ‹_› ‹_›
    | (rename_i k _ hk _
       have hf := KwI.found hk hw (by omega) ‹_›
       exact .inr ⟨hf.2, congrArg (AV.i .i64) hf.1.symm⟩)
    | (rename_i k _ hk
       obtain rfl : k = 24 := by omega
       exact .inl ⟨KwI.none hk, rfl⟩)
    | trace_state
theorem containsW_t (w : ByteArray) (h : ¬ kdOf w = 0) : Ret env.P 79 [slL 1 strC kwW, .s w] (fun r => r = .b true) := by
  have hw : ¬ w = ByteArray.mk #[] := fun q => h (by rw [q]; exact kd_no)
  have hr := kd_rng w
  refine ret_of (nt := 9) (rvs := [.tmp 4]) Try.func79 rfl rfl rfl rfl (fun X => ?_)
  repeat' (first | omega | (with_reducible show (_ : Int) < _; dsimp only; omega) | (with_reducible show (_ : Nat) ≤ _; dsimp only; omega) | ((with_reducible show SrcOk _ _ _) <;> (first | exact srcOk_1 rfl | exact srcOk_L (fun _ => ⟨rfl, rfl⟩) | exact srcOk_E (fun _ => ⟨rfl, rfl⟩))) | ((conv => whnf) <;> (first | refine And.intro ?_ ?_ | (intro _h; first | contradiction | (try simp only [dd] at _h)) | (refine dt_go ?_) | exact rfl | exact True.intro | exact dkk | exact dks | ((first | refine .inl ⟨_, (indexW_ok w hw).mono (post' := fun r => r = .i .i64 (kdOf w)) fun r e => e.elim (fun e => absurd e.1 h) (fun e => e.2), ?_⟩ | refine ⟨_, (indexW_ok w hw).mono (post' := fun r => r = .i .i64 (kdOf w)) fun r e => e.elim (fun e => absurd e.1 h) (fun e => e.2), ?_⟩); (try rintro _ rfl)) | (refine wrap_succ ?_; omega))))
  all_goals (first | (conv => whnf) | skip)
  all_goals (show AV.b (decide ((0 : Int) ≤ kdOf w)) = _; rw [decide_eq_true (by omega)])
theorem containsW_f (w : ByteArray) (hw : ¬ w = ByteArray.mk #[]) (h : kdOf w = 0) : Ret env.P 79 [slL 1 strC kwW, .s w] (fun r => r = .b false) := by
  refine ret_of (nt := 9) (rvs := [.tmp 4]) Try.func79 rfl rfl rfl rfl (fun X => ?_)
  repeat' (first | omega | (with_reducible show (_ : Int) < _; dsimp only; omega) | (with_reducible show (_ : Nat) ≤ _; dsimp only; omega) | ((with_reducible show SrcOk _ _ _) <;> (first | exact srcOk_1 rfl | exact srcOk_L (fun _ => ⟨rfl, rfl⟩) | exact srcOk_E (fun _ => ⟨rfl, rfl⟩))) | ((conv => whnf) <;> (first | refine And.intro ?_ ?_ | (intro _h; first | contradiction | (try simp only [dd] at _h)) | (refine dt_go ?_) | exact rfl | exact True.intro | exact dkk | exact dks | ((first | refine .inl ⟨_, (indexW_ok w hw).mono (post' := fun r => r = .i .i64 (-1)) fun r e => e.elim (fun e => e.2) (fun e => absurd h e.1), ?_⟩ | refine ⟨_, (indexW_ok w hw).mono (post' := fun r => r = .i .i64 (-1)) fun r e => e.elim (fun e => e.2) (fun e => absurd h e.1), ?_⟩); (try rintro _ rfl)) | (refine wrap_succ ?_; omega))))
  all_goals (first | (conv => whnf) | skip)
  all_goals first | exact rfl | trace_state
theorem ReservedI_t (w : ByteArray) (h : ¬ kdOf w = 0) : Ret env.P 44 [.s w] (fun r => r = .b true) := by
  have hw : ¬ w = ByteArray.mk #[] := fun q => h (by rw [q]; exact kd_no)
  refine ret_of (nt := 10) (rvs := [.tmp 2]) Try.func44 rfl rfl rfl rfl (fun X => ?_)
  repeat' (first | omega | (with_reducible show (_ : Int) < _; dsimp only; omega) | (with_reducible show (_ : Nat) ≤ _; dsimp only; omega) | ((with_reducible show SrcOk _ _ _) <;> (first | exact srcOk_1 rfl | exact srcOk_L (fun _ => ⟨rfl, rfl⟩) | exact srcOk_E (fun _ => ⟨rfl, rfl⟩))) | ((conv => whnf) <;> (first | refine And.intro ?_ ?_ | (intro _h; first | contradiction | (try simp only [dd] at _h)) | (refine dt_go ?_) | exact rfl | exact True.intro | exact dkk | exact dks | ((first | refine .inl ⟨_, kindWords_ok, ?_⟩ | refine ⟨_, kindWords_ok, ?_⟩); (try rintro _ rfl)) | ((first | refine .inl ⟨_, containsW_t w h, ?_⟩ | refine ⟨_, containsW_t w h, ?_⟩); (try rintro _ rfl)) | (refine wrap_succ ?_; omega))))
  all_goals (first | (conv => whnf) | skip)
  all_goals first | exact rfl | exact absurd ‹w = _› hw | trace_state
theorem ReservedI_f (w : ByteArray) (h : kdOf w = 0) : Ret env.P 44 [.s w] (fun r => r = .b false) := by
  refine ret_of (nt := 10) (rvs := [.tmp 2]) Try.func44 rfl rfl rfl rfl (fun X => ?_)
  repeat' (first | omega | (with_reducible show (_ : Int) < _; dsimp only; omega) | (with_reducible show (_ : Nat) ≤ _; dsimp only; omega) | ((with_reducible show SrcOk _ _ _) <;> (first | exact srcOk_1 rfl | exact srcOk_L (fun _ => ⟨rfl, rfl⟩) | exact srcOk_E (fun _ => ⟨rfl, rfl⟩))) | ((conv => whnf) <;> (first | refine And.intro ?_ ?_ | (intro _h; first | contradiction | (try simp only [dd] at _h)) | (refine dt_go ?_) | exact rfl | exact True.intro | exact dkk | exact dks | ((first | refine .inl ⟨_, kindWords_ok, ?_⟩ | refine ⟨_, kindWords_ok, ?_⟩); (try rintro _ rfl)) | ((first | refine .inl ⟨_, containsW_f w ‹_› h, ?_⟩ | refine ⟨_, containsW_f w ‹_› h, ?_⟩); (try rintro _ rfl)) | (refine wrap_succ ?_; omega))))
  all_goals (first | (conv => whnf) | skip)
  all_goals first | exact rfl | trace_state
end
def wdT (k : Int) : ByteArray := if 1 ≤ k ∧ k ≤ 23 then kwW.getD k.toNat default else ⟨#[]⟩
theorem kwW_sz : ∀ k, k < 24 → (kwW.getD k default).size ≤ 8 := by decide
theorem wdT_len (k : Int) : (wdT k).size ≤ 8 := by
  unfold wdT
  split
  · exact kwW_sz _ (by omega)
  · exact Nat.zero_le _
def rsT (t : Term) (ks : List ByteArray) : ByteArray :=
  if ¬ ks.length = 2 then ⟨#[]⟩
  else if (t.kids.getD 0 default).kind = 1 ∧ (t.kids.getD 1 default).kind = 1 then ⟨#[]⟩
  else if (t.kids.getD 1 default).kind = 1 then (⟨#[60]⟩ : ByteArray) ++ ks.getD 0 default ++ ⟨#[62]⟩
  else if (t.kids.getD 0 default).kind = 1 then (⟨#[60, 95, 44, 32]⟩ : ByteArray) ++ ks.getD 1 default ++ ⟨#[62]⟩
  else (⟨#[60]⟩ : ByteArray) ++ ks.getD 0 default ++ ⟨#[44, 32]⟩ ++ ks.getD 1 default ++ ⟨#[62]⟩
def lbT (t : Term) (ks : List ByteArray) (k : Nat) : ByteArray :=
  if ks.length ≤ k then t.labels.getD k default
  else if t.kind = 16 then t.labels.getD k default ++ ((⟨#[58, 32]⟩ : ByteArray) ++ ks.getD k default)
  else if t.kind = 17 ∧ ¬ (t.kids.getD k default).kind = 1 then t.labels.getD k default ++ ((⟨#[40]⟩ : ByteArray) ++ ks.getD k default ++ ⟨#[41]⟩)
  else t.labels.getD k default
def lbsT (t : Term) (ks : List ByteArray) : List ByteArray := (List.range t.labels.length).map (lbT t ks)
def comS : ByteArray := ⟨#[44, 32]⟩
def txF (t : Term) (ks : List ByteArray) : ByteArray :=
  if t.kind = 30 then t.name
  else if t.kind = 20 ∨ t.kind = 21 then wdT t.kind ++ ⟨#[60]⟩ ++ t.name ++ ⟨#[62]⟩
  else if t.kind = 12 ∨ t.kind = 13 ∨ t.kind = 22 ∨ t.kind = 23 ∨ t.kind = 15 then wdT t.kind ++ ⟨#[60]⟩ ++ joinB comS ks ++ ⟨#[62]⟩
  else if t.kind = 14 then wdT t.kind ++ rsT t ks
  else if t.kind = 16 ∨ t.kind = 17 ∨ t.kind = 18 ∨ t.kind = 19 then wdT t.kind ++ ⟨#[32, 123, 32]⟩ ++ joinB comS (lbsT t ks) ++ ⟨#[32, 125]⟩
  else wdT t.kind
def txT (n : Nat) : Term → ByteArray := Nat.rec (motive := fun _ => Term → ByteArray) (fun _ => ⟨#[]⟩) (fun _ ih t => txF t (t.kids.map ih)) n
theorem txT_succ (n : Nat) (t : Term) : txT (n + 1) t = txF t (t.kids.map (txT n)) := rfl
def szB (l : List ByteArray) : Nat := (l.map fun x => x.size).sum
theorem szB_app (a b : List ByteArray) : szB (a ++ b) = szB a + szB b := by simp [szB]
theorem ba_app (a b : ByteArray) : (a ++ b).size = a.size + b.size := ByteArray.size_append ..
theorem joinB_sz (l : List ByteArray) : (joinB comS l).size ≤ szB l + 2 * l.length := by
  induction l with
  | nil => exact Nat.zero_le _
  | cons x r ih =>
    have e : szB (x :: r) = x.size + szB r := by simp [szB]
    have e2 : comS.size = 2 := rfl
    cases r with
    | nil => rw [e]; show x.size ≤ _; omega
    | cons y r =>
      rw [joinB, ba_app, ba_app, e, List.length_cons]
      omega
theorem szB_get {l : List ByteArray} {k : Nat} (h : k < l.length) : (l.getD k default).size ≤ szB l := by
  induction l generalizing k with
  | nil => exact absurd h (Nat.not_lt_zero _)
  | cons x r ih =>
    have e : szB (x :: r) = x.size + szB r := by simp [szB]
    cases k with
    | zero => rw [e]; exact Nat.le_add_right _ _
    | succ k =>
      have := ih (k := k) (by simpa using h)
      rw [e]
      show (r.getD k default).size ≤ _
      omega
theorem szB_two {l : List ByteArray} (h : l.length = 2) : (l.getD 0 default).size + (l.getD 1 default).size = szB l := by
  match l, h with
  | [x, y], _ => simp [szB]
theorem rsT_sz (t : Term) (ks : List ByteArray) : (rsT t ks).size ≤ szB ks + 5 := by
  unfold rsT
  have c1 : (⟨#[60]⟩ : ByteArray).size = 1 := rfl
  have c2 : (⟨#[62]⟩ : ByteArray).size = 1 := rfl
  have c3 : (⟨#[60, 95, 44, 32]⟩ : ByteArray).size = 4 := rfl
  have c4 : (⟨#[44, 32]⟩ : ByteArray).size = 2 := rfl
  have c5 : (⟨#[]⟩ : ByteArray).size = 0 := rfl
  split
  · omega
  · rename_i h
    have h2 := szB_two (Classical.not_not.1 h)
    split
    · omega
    · split
      · simp only [ba_app, c1, c2]; omega
      · split
        · simp only [ba_app, c3, c2]; omega
        · simp only [ba_app, c1, c2, c4]; omega
theorem lbT_sz (t : Term) (ks : List ByteArray) (k : Nat) : (lbT t ks k).size ≤ (t.labels.getD k default).size + (if k < ks.length then (ks.getD k default).size else 0) + 2 := by
  unfold lbT
  have c1 : (⟨#[58, 32]⟩ : ByteArray).size = 2 := rfl
  have c2 : (⟨#[40]⟩ : ByteArray).size = 1 := rfl
  have c3 : (⟨#[41]⟩ : ByteArray).size = 1 := rfl
  split
  · omega
  · rename_i h
    rw [if_pos (show k < ks.length by omega)]
    split
    · simp only [ba_app, c1]; omega
    · split
      · simp only [ba_app, c2, c3]; omega
      · omega
theorem sumTo_lab : ∀ (l : List ByteArray), ((List.range l.length).map fun k => (l.getD k default).size).sum = szB l := by
  intro l
  unfold szB
  congr 1
  apply List.ext_getElem
  · simp
  · intro i h1 h2
    simp only [List.getElem_map, List.getElem_range]
    rw [List.getD_eq_getElem?_getD, List.getElem?_eq_getElem (by simpa using h2)]
    rfl
theorem sumTo_kid : ∀ (n : Nat) (l : List ByteArray), ((List.range n).map fun k => if k < l.length then (l.getD k default).size else 0).sum ≤ szB l
  | 0, l => Nat.zero_le _
  | n + 1, [] => by
    have : ((List.range (n + 1)).map fun k => if k < ([] : List ByteArray).length then (([] : List ByteArray).getD k default).size else 0) = (List.range (n + 1)).map fun _ => 0 := by
      apply List.map_congr_left
      intro k _
      rfl
    rw [this]
    have h0 : ∀ m : Nat, ((List.range m).map fun _ => 0).sum = 0 := fun m => by induction m with
      | zero => rfl
      | succ m ih => rw [List.range_succ, List.map_append, List.sum_append, ih]; rfl
    rw [h0]
    exact Nat.zero_le _
  | n + 1, x :: r => by
    rw [List.range_succ_eq_map, List.map_cons, List.sum_cons, List.map_map]
    have ih := sumTo_kid n r
    have e : szB (x :: r) = x.size + szB r := by simp [szB]
    have e2 : ((List.range n).map ((fun k => if k < (x :: r).length then ((x :: r).getD k default).size else 0) ∘ Nat.succ)) = (List.range n).map fun k => if k < r.length then (r.getD k default).size else 0 := by
      apply List.map_congr_left
      intro k _
      simp only [Function.comp, List.length_cons, Nat.succ_eq_add_one, Nat.add_lt_add_iff_right, List.getD_cons_succ]
    rw [e2, e]
    have : (if 0 < (x :: r).length then ((x :: r).getD 0 default).size else 0) = x.size := by simp
    omega
theorem lbsT_sz (t : Term) (ks : List ByteArray) : szB (lbsT t ks) ≤ szB t.labels + szB ks + 2 * t.labels.length := by
  have h : ∀ n : Nat, (((List.range n).map (lbT t ks)).map fun x => x.size).sum ≤ ((List.range n).map fun k => (t.labels.getD k default).size).sum + ((List.range n).map fun k => if k < ks.length then (ks.getD k default).size else 0).sum + 2 * n := fun n => by
    induction n with
    | zero => exact Nat.zero_le _
    | succ n ih =>
      have h1 := lbT_sz t ks n
      simp only [List.range_succ, List.map_append, List.map_cons, List.map_nil, List.sum_append, List.sum_cons, List.sum_nil]
      simp only [List.map_map] at ih ⊢
      omega
  have h1 := h t.labels.length
  rw [sumTo_lab] at h1
  have h2 := sumTo_kid t.labels.length ks
  unfold szB lbsT at *
  omega
theorem lbsT_len (t : Term) (ks : List ByteArray) : (lbsT t ks).length = t.labels.length := by simp [lbsT]
theorem txF_sz (t : Term) (ks : List ByteArray) : (txF t ks).size ≤ 13 + t.name.size + szB t.labels + 4 * t.labels.length + szB ks + 2 * ks.length := by
  have hw := wdT_len t.kind
  have c1 : (⟨#[60]⟩ : ByteArray).size = 1 := rfl
  have c2 : (⟨#[62]⟩ : ByteArray).size = 1 := rfl
  have c3 : (⟨#[32, 123, 32]⟩ : ByteArray).size = 3 := rfl
  have c4 : (⟨#[32, 125]⟩ : ByteArray).size = 2 := rfl
  unfold txF
  split
  · omega
  · split
    · simp only [ba_app, c1, c2]; omega
    · split
      · have := joinB_sz ks
        simp only [ba_app, c1, c2]; omega
      · split
        · have := rsT_sz t ks
          simp only [ba_app]; omega
        · split
          · have h1 := joinB_sz (lbsT t ks)
            have h2 := lbsT_sz t ks
            rw [lbsT_len] at h1
            simp only [ba_app, c3, c4]; omega
          · omega
def Term.tw (n : Nat) : Term → Nat := Nat.rec (motive := fun _ => Term → Nat) (fun _ => 0) (fun _ ih a => 13 + a.name.size + szB a.labels + 4 * a.labels.length + (a.kids.map ih).sum + 2 * a.kids.length) n
theorem Term.tw_succ (n : Nat) (a : Term) : Term.tw (n + 1) a = 13 + a.name.size + szB a.labels + 4 * a.labels.length + (a.kids.map (Term.tw n)).sum + 2 * a.kids.length := rfl
theorem szB_tw {f : Term → ByteArray} {g : Term → Nat} (h : ∀ a, (f a).size ≤ g a) : ∀ l : List Term, szB (l.map f) ≤ (l.map g).sum
  | [] => Nat.zero_le _
  | a :: l => by
    have h1 := h a
    have h2 := szB_tw h l
    unfold szB at *
    simp only [List.map_cons, List.sum_cons]
    omega
theorem txT_sz : ∀ (n : Nat) (a : Term), (txT n a).size ≤ Term.tw n a
  | 0, a => Nat.zero_le _
  | n + 1, a => by
    have h1 := txF_sz a (a.kids.map (txT n))
    have h2 := szB_tw (txT_sz n) a.kids
    rw [List.length_map] at h1
    rw [txT_succ, Term.tw_succ]
    omega
theorem szF_tw {α : Type} {g : α → Int → Int} {f : α → Nat} {q : Nat} (h : ∀ a v, ¬ g a v < 0 → (f a : Int) ≤ q + 20 * (v - g a v)) : ∀ (l : List α) (v : Int), ¬ szF g l v < 0 → ((l.map f).sum : Int) ≤ q * l.length + 20 * (v - szF g l v)
  | [], v, _ => by show (0 : Int) ≤ q * ((0 : Nat) : Int) + 20 * (v - v); omega
  | x :: r, v, hn => by
    rw [szF_cons] at hn ⊢
    by_cases c : g x v < 0
    · rw [if_pos c] at hn; omega
    rw [if_neg c] at hn ⊢
    have h1 := h x v c
    have h3 := szF_tw h r (g x v) hn
    have e : (q : Int) * ((r.length + 1 : Nat) : Int) = q * r.length + q := by rw [Int.natCast_add, Int.mul_add]; simp
    rw [List.map_cons, List.sum_cons, List.length_cons, e]
    omega
theorem Term.tw_sz : ∀ (n : Nat) (a : Term) (v : Int), ¬ Term.zN n a v < 0 → ∀ m, (Term.tw m a : Int) ≤ 13 + 20 * (v - Term.zN n a v)
  | 0, a, v, hn, _ => (hn (by show (-1 : Int) < 0; decide)).elim
  | n + 1, a, v, hn, 0 => by
    have := (Term.mkN_sz (n + 1) a v hn).1
    show (0 : Int) ≤ _
    omega
  | n + 1, a, v, hn, m + 1 => by
    obtain ⟨c1, c2, c3, e⟩ := Term.zN_inv hn
    rw [e]
    have h1 := szSt_eq c1
    unfold szLs at c2 c3
    by_cases d2 : szSt a.name v - a.labels.length < 0
    · rw [if_pos d2] at c2; omega
    rw [if_neg d2] at c2
    have e2 : szLs szSt a.labels (szSt a.name v) = szF szSt a.labels (szSt a.name v - a.labels.length) := if_neg d2
    by_cases d3 : szLs szSt a.labels (szSt a.name v) - a.kids.length < 0
    · unfold szLs at d3; rw [if_pos d3] at c3; omega
    have e3 : szLs (Term.zN n) a.kids (szLs szSt a.labels (szSt a.name v)) = szF (Term.zN n) a.kids (szLs szSt a.labels (szSt a.name v) - a.kids.length) := if_neg d3
    have c3' : ¬ szF (Term.zN n) a.kids (szLs szSt a.labels (szSt a.name v) - a.kids.length) < 0 := by
      unfold szLs at d3 ⊢; rw [if_neg d3] at c3; exact c3
    have h2 := szF_tw (g := szSt) (f := fun x => x.size) (q := 0) (fun x v hx => by have := szSt_eq hx; omega) a.labels _ c2
    have h3 := szF_tw (g := Term.zN n) (f := Term.tw m) (q := 13) (fun x v hx => Term.tw_sz n x v hx m) a.kids _ c3'
    rw [Term.tw_succ, e3]
    unfold szB
    rw [e2] at h3 ⊢
    omega
section
attribute [local irreducible] IntKind.wrap
theorem leaf_s {a b : ByteArray} (h : a = b) : AV.s a = AV.s b := by rw [h]
set_option maxHeartbeats 2000000 in
theorem resultText_ok (m : Nat) (t : Term) (h : Term.fN (m + 1) t) (ks : List ByteArray) (hk : ks.length = t.kids.length) (hs : szB ks ≤ 100000000) : Ret env.P 85 [.agg (Term.pN (m + 1) t), slL 1 strC ks] (fun r => r = .s (rsT t ks)) := by
  refine Ret.wk (.cons (.agg (Term.up _ _ h)) (.cons (.refl _) .nil)) ?_
  have hz : ∀ k, k < ks.length → (ks.getD k default).size ≤ 100000000 := fun k hk => Nat.le_trans (szB_get hk) hs
  have k0 : 2 ≤ ks.length → (ks.getD (Int.toNat 0) default).size ≤ 100000000 := fun h => hz 0 (by omega)
  have k1 : 2 ≤ ks.length → (ks.getD (Int.toNat 1) default).size ≤ 100000000 := fun h => hz 1 (by omega)
  have c1 : (⟨#[60]⟩ : ByteArray).size = 1 := rfl
  have c2 : (⟨#[62]⟩ : ByteArray).size = 1 := rfl
  have c3 : (⟨#[60, 95, 44, 32]⟩ : ByteArray).size = 4 := rfl
  have c4 : (⟨#[44, 32]⟩ : ByteArray).size = 2 := rfl
  refine ret_of (nt := 51) (rvs := [.tmp 4]) Try.func85 rfl rfl rfl rfl (fun X => ?_)
  repeat' (first | omega | (with_reducible show (_ : Int) < _; dsimp only; omega) | (with_reducible show (_ : Nat) ≤ _; dsimp only; omega) | ((with_reducible show SrcOk _ _ _) <;> (first | exact srcOk_1 rfl | exact srcOk_L (fun _ => ⟨rfl, rfl⟩) | exact srcOk_E (fun _ => ⟨rfl, rfl⟩))) | ((conv => whnf) <;> (first | exact tle_max (by (try simp only [ba_app]); omega) | refine And.intro ?_ ?_ | (intro _h; first | contradiction | (try simp only [dd] at _h)) | (refine dt_go ?_) | exact rfl | exact True.intro | exact dkk | exact dks | (refine wrap_succ ?_; omega))))
  all_goals (conv => whnf)
  all_goals refine leaf_s ?_
  all_goals (try simp only [show Int.toNat 0 = 0 from rfl, show Int.toNat 1 = 1 from rfl] at *)
  all_goals (unfold rsT)
  all_goals first
    | contradiction
    | (rw [if_pos (by omega)]; done)
    | (rw [if_neg (by omega), if_pos ⟨‹_›, ‹_›⟩]; done)
    | (rw [if_neg (by omega), if_neg (fun q => absurd q.1 ‹_›), if_pos ‹_›]; done)
    | (rw [if_neg (by omega), if_neg (fun q => absurd q.2 ‹_›), if_neg ‹_›, if_pos ‹_›]; done)
    | (rw [if_neg (by omega), if_neg (fun q => absurd q.2 ‹_›), if_neg ‹_›, if_neg ‹_›]; done)
    | trace_state
end
end Go.Proofs.Ytllcemegnggpfaa
