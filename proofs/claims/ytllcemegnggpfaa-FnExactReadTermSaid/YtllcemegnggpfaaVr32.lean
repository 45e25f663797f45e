/- Texts for VReadTermP. -/
import Derived.Test.YtllcemegnggpfaaVr31
namespace Go.Proofs.Ytllcemegnggpfaa
open Go Go.RowKit
set_option linter.unusedVariables false
set_option linter.unusedSimpArgs false
set_option maxRecDepth 8000
section
attribute [local irreducible] IntKind.wrap
def AccOk (acc : List Tok) : Prop := acc.length ≤ 4000 ∧ ∀ t ∈ acc, (1 ≤ t.kind ∧ t.kind ≤ 3) ∧ (t.kind = 2 → isDg (byI t.text 0)) ∧ t.text.size ≤ 30000
theorem getD_mem {l : List Tok} {i : Nat} (h : i < l.length) : l.getD i default ∈ l := by
  rw [List.getD_eq_getElem?_getD, List.getElem?_eq_getElem h]
  exact List.getElem_mem h
theorem getD_app {l : List Tok} {t : Tok} {i : Nat} (h : i < l.length) : (l ++ [t]).getD i default = l.getD i default := by
  rw [List.getD_eq_getElem?_getD, List.getElem?_append_left h, ← List.getD_eq_getElem?_getD]
theorem getD_lst {l : List Tok} {t : Tok} : (l ++ [t]).getD l.length default = t := by
  rw [List.getD_eq_getElem?_getD, List.getElem?_append_right (Nat.le_refl _), Nat.sub_self]
  rfl
theorem AccOk.lex {acc : List Tok} {line : Int} (h : AccOk acc) : LexOk (acc ++ [⟨4, ⟨#[]⟩, line⟩]) where
  pos := by simp
  most := by have := h.1; simp; omega
  last := by rw [show (acc ++ [(⟨4, ⟨#[]⟩, line⟩ : Tok)]).length - 1 = acc.length by simp, getD_lst]
  rest := fun i hi => by
    have hi : i < acc.length := by simpa using hi
    rw [getD_app hi]
    exact (h.2 _ (getD_mem hi)).1
  num := fun i hi hk => by
    by_cases e : i < acc.length
    · rw [getD_app e] at hk ⊢
      exact (h.2 _ (getD_mem e)).2.1 hk
    · obtain rfl : i = acc.length := by simp at hi; omega
      rw [getD_lst] at hk
      cases hk
  sz := fun i hi => by
    by_cases e : i < acc.length
    · rw [getD_app e]
      exact (h.2 _ (getD_mem e)).2.2
    · obtain rfl : i = acc.length := by simp at hi; omega
      rw [getD_lst]
      exact Nat.zero_le _
theorem byI_ext {s : ByteArray} {k e : Nat} (h : k < e) (he : e ≤ s.size) : byI (s.extract k e) 0 = byI s k := by
  unfold byI
  have : (s.extract k e).data.getD 0 0 = s.data.getD k 0 := by
    rw [ByteArray.data_extract]
    have hk : k < s.data.size := Nat.lt_of_lt_of_le h he
    rw [Array.getD_eq_getD_getElem?, Array.getD_eq_getD_getElem?, Array.getElem?_extract_of_lt (by have : s.data.size = s.size := rfl; omega), Array.getElem?_eq_getElem hk]
    simp only [Nat.add_zero]
  rw [this]
theorem nxt_dg {s : ByteArray} {k : Nat} (h : (nxt s k).1 = 2) : isDg (byI s k) := by
  unfold nxt at h
  by_cases h1 : isLt (byI s k)
  · rw [if_pos h1] at h; cases h
  · rw [if_neg h1] at h
    by_cases h2 : isDg (byI s k)
    · exact h2
    · rw [if_neg h2] at h
      split at h
      · cases h
      · split at h <;> cases h
theorem lexG_ok {s : ByteArray} (hs : s.size ≤ 30000) {L : List Tok} : ∀ (n : Nat) (acc : List Tok) (k : Nat) (line : Int), s.size - k ≤ n → AccOk acc → lexG s acc k line = .ok L → LexOk L := by
  intro n
  induction n with
  | zero =>
    intro acc k line hn ha h
    rw [lexG, dif_neg (by omega)] at h
    cases h
    exact ha.lex
  | succ n ih =>
    intro acc k line hn ha h
    rw [lexG] at h
    by_cases hk : k < s.size
    · rw [dif_pos hk] at h
      split at h
      · cases h
      · rename_i h0
        split at h
        · cases h
        · rename_i h4
          have hr := nxt_rng hk h0
          refine ih _ _ _ ?_ ?_ h
          · have := skW_ge s _ (nxt s k).2 line (Nat.le_refl _)
            omega
          · refine ⟨by have := ha.1; simp; omega, fun t ht => ?_⟩
            rcases List.mem_append.1 ht with q | q
            · exact ha.2 t q
            · obtain rfl := List.mem_singleton.1 q
              refine ⟨hr.2.2, fun e => ?_, ?_⟩
              · dsimp only at e ⊢
                rw [byI_ext hr.1 hr.2.1]
                exact nxt_dg e
              · dsimp only
                rw [ByteArray.size_extract]
                omega
    · rw [dif_neg hk] at h
      cases h
      exact ha.lex
theorem lexF_ok {s : ByteArray} {L : List Tok} (h : lexF s = .ok L) : LexOk L := by
  unfold lexF at h
  split at h
  · cases h
  · exact lexG_ok (by omega) _ [] _ _ (Nat.le_refl _) ⟨Nat.zero_le _, by simp⟩ h
theorem lexG_err {s : ByteArray} {l c : Int} : ∀ (n : Nat) (acc : List Tok) (k : Nat) (line : Int), s.size - k ≤ n → lexG s acc k line = .err l c → c = 6 ∨ c = 4 := by
  intro n
  induction n with
  | zero =>
    intro acc k line hn h
    rw [lexG, dif_neg (by omega)] at h
    cases h
  | succ n ih =>
    intro acc k line hn h
    rw [lexG] at h
    by_cases hk : k < s.size
    · rw [dif_pos hk] at h
      split at h
      · cases h; exact .inl rfl
      · rename_i h0
        split at h
        · cases h; exact .inr rfl
        · have hr := nxt_rng hk h0
          refine ih _ _ _ ?_ h
          have := skW_ge s _ (nxt s k).2 line (Nat.le_refl _)
          omega
    · rw [dif_neg hk] at h
      cases h
theorem lexF_err {s : ByteArray} {l c : Int} (h : lexF s = .err l c) : c = 6 ∨ c = 4 := by
  unfold lexF at h
  split at h
  · cases h; exact .inr rfl
  · exact lexG_err _ _ _ _ (Nat.le_refl _) h
theorem spT_all {L : List Tok} (hL : LexOk L) : ∀ d : Nat, d ≤ 100 → SpT L d
  | 0, _ => ⟨fun a D ha hD => by
      obtain rfl : D = 0 := hD
      exact (term_0 L hL 0 a ha).mono fun r H ⟨x, a', h1, h2, h3⟩ => .inr ⟨rfl, x, a', h1, h2, h3⟩, fun a D ha _ => term_b L hL 0 a D ha⟩
  | d + 1, h => ⟨fun a D ha hD => term_f L hL d (by omega) (spT_all hL d (by omega)) a D ha (by omega), fun a D ha _ => term_b L hL (d + 1) a D ha⟩
def noT : Term := ⟨0, ⟨#[]⟩, [], []⟩
noncomputable def rdT (s : ByteArray) : Term × Int := match lexF s with
  | .err _ c => (noT, c)
  | .ok L => match pTerm L 4 0 with
    | none => (noT, 6)
    | some (x, i) => bif decide ((tkL L i).kind = 4) then (x, 0) else (noT, 6)
noncomputable def rtR (y : Term × Int) : AV := .tup [.agg (Term.pN 5 y.1), .i .i64 y.2]
end
section
attribute [local irreducible] IntKind.wrap
set_option maxHeartbeats 8000000 in
theorem l06ReadTerm_ok (s : ByteArray) : Ret env.P 20 [.s s] (fun r => r = rtR (rdT s)) := by
  have hlx := l05Tokens_ok s
  cases hx : lexF s with
  | err l c =>
    rw [hx] at hlx
    have hc : c = 6 ∨ c = 4 := lexF_err hx
    have hlx : Ret env.P 39 [.s s] (fun r => r = .tup [.nils, .i .i64 l, .i .i64 c]) := hlx
    refine Ret.ofFrz ?_
    refine ret_ofPM (nt := 36) (rvs := [.cell 2 25, .tmp 3]) Try.func20 rfl rfl rfl rfl (fun X hX => ?_)
    refine wpc_ok _ _ _ _ ?_
    (try dsimp only)
    conv => whnf
    repeat' (first | omega | (with_reducible show (_ : Int) < _; dsimp only; omega) | (with_reducible show (_ : Nat) ≤ _; dsimp only; omega) | ((with_reducible show SrcOk _ _ _) <;> (first | exact srcOk_1 rfl | exact srcOk_L (fun _ => ⟨rfl, rfl⟩) | exact srcOk_E (fun _ => ⟨rfl, rfl⟩))) | ((conv => whnf) <;> (first | refine And.intro ?_ ?_ | (intro _h; first | contradiction | (try simp only [dd] at _h)) | (refine dt_go ?_) | exact rfl | exact True.intro | exact dkk | exact dks | ((first | refine .inl ⟨_, hlx, ?_⟩ | refine ⟨_, hlx, ?_⟩); (try rintro _ rfl)) | (refine wrap_succ ?_; omega))))
    all_goals (conv => whnf)
    all_goals first
      | (exfalso; omega)
      | exact endM_self (frz0 (r1 := rtR (noT, c)) (frz_tup (.cons (.agg (.cons (.refl _) (.cons (.refl _) (.cons Wk.nilS0 (.cons Wk.nilS0 .nil))))) (.cons (.refl _) .nil))) (by simp [rdT, hx]))
  | ok L =>
    rw [hx] at hlx
    have hL := lexF_ok hx
    have hT := spT_all hL 4 (by decide)
    have hlx : Ret env.P 39 [.s s] (fun r => r = .tup [slL 3 tokC L, .i .i64 0, .i .i64 0]) := hlx
    refine Ret.ofFrz ?_
    refine ret_ofPM (nt := 36) (rvs := [.cell 2 25, .tmp 3]) Try.func20 rfl rfl rfl rfl (fun X hX => ?_)
    refine wpc_ok _ _ _ _ ?_
    (try dsimp only)
    conv => whnf
    repeat' (first | omega | (with_reducible show (_ : Int) < _; dsimp only; omega) | (with_reducible show (_ : Nat) ≤ _; dsimp only; omega) | ((with_reducible show SrcOk _ _ _) <;> (first | exact srcOk_1 rfl | exact srcOk_L (fun _ => ⟨rfl, rfl⟩) | exact srcOk_E (fun _ => ⟨rfl, rfl⟩))) | ((conv => whnf) <;> (first | (refine .inr (.inr ⟨_, (fun X => turn_box (id := 1) (ds := pB L 0 false) rfl rfl rfl (.cons (.refl _) (.cons (.refl _) (.cons (.refl _) .nil)))), (fun i _ q => (by cases q)), .inl ⟨[1], _, _, _, hT.f 0 4 hL.pos rfl, viewA, ⟨rfl, rfl⟩, ?_⟩⟩); rintro _ _ (⟨x, a', hp, ha', rfl, rfl⟩ | ⟨hp, x, a', ha', rfl, rfl⟩) <;> refine ⟨rfl, _, lokA, ?_⟩) | refine And.intro ?_ ?_ | (intro _h; first | contradiction | (try simp only [dd] at _h)) | (refine dt_go ?_) | exact rfl | exact True.intro | exact dkk | exact dks | ((first | refine .inl ⟨_, hlx, ?_⟩ | refine ⟨_, hlx, ?_⟩); (try rintro _ rfl)) | ((first | refine .inl ⟨_, Ret.wk (by exact .cons (tWk_rfcp rfl rfl) .nil) (peek_ok L hL a' ha'), ?_⟩ | refine ⟨_, Ret.wk (by exact .cons (tWk_rfcp rfl rfl) .nil) (peek_ok L hL a' ha'), ?_⟩); (try rintro _ rfl)) | (refine wrap_succ ?_; omega))))
    all_goals (first | (conv => whnf) | skip)
    all_goals first
      | exact endM_self (frz0 (r1 := rtR (noT, 6)) (frz_tup (.cons (.agg (.cons (.refl _) (.cons (.refl _) (.cons Wk.nilS0 (.cons Wk.nilS0 .nil))))) (.cons (.refl _) .nil))) (by simp [rdT, hx, hp, *]))
      | exact endM_self (frz0 (r1 := rtR (x, 0)) (frz_tup (.cons (.agg (.cons (.refl _) (.cons (.refl _) (.cons (.refl _) (.cons (.refl _) .nil))))) (.cons (.refl _) .nil))) (by simp [rdT, hx, hp, *]))
set_option maxHeartbeats 4000000 in
theorem ReadTermS_ok (s : ByteArray) : Ret env.P 7 [.s s] (fun r => r = rtR (rdT s)) := by
  have h : Ret env.P 20 [.s s] (fun r => r = .tup [.agg (Term.pN 5 (rdT s).1), .i .i64 (rdT s).2]) := l06ReadTerm_ok s
  refine Ret.ofFrz ?_
  refine ret_ofPM (nt := 8) (rvs := [.cell 2 25, .tmp 3]) Try.func7 rfl rfl rfl rfl (fun X hX => ?_)
  refine wpc_ok _ _ _ _ ?_
  (try dsimp only)
  conv => whnf
  repeat' (first | omega | (with_reducible show (_ : Int) < _; dsimp only; omega) | (with_reducible show (_ : Nat) ≤ _; dsimp only; omega) | ((with_reducible show SrcOk _ _ _) <;> (first | exact srcOk_1 rfl | exact srcOk_L (fun _ => ⟨rfl, rfl⟩) | exact srcOk_E (fun _ => ⟨rfl, rfl⟩))) | ((conv => whnf) <;> (first | refine And.intro ?_ ?_ | (intro _h; first | contradiction | (try simp only [dd] at _h)) | (refine dt_go ?_) | exact rfl | exact True.intro | exact dkk | exact dks | ((first | refine .inl ⟨_, h, ?_⟩ | refine ⟨_, h, ?_⟩); (try rintro _ rfl)) | (refine wrap_succ ?_; omega))))
  all_goals (conv => whnf)
  all_goals exact endM_self (frz0 (r1 := rtR (rdT s)) (frz_tup (.cons (.agg (.cons (.refl _) (.cons (.refl _) (.cons (.refl _) (.cons (.refl _) .nil))))) (.cons (.refl _) .nil))) rfl)
end
section
attribute [local irreducible] IntKind.wrap
theorem tk_at {L : List Tok} {a : Nat} (h : a < L.length) : tkL L a = L[a]'h := by
  unfold tkL
  rw [List.getD_eq_getElem?_getD, List.getElem?_eq_getElem h]
  rfl
def pBv (L : List Tok) (a : Nat) (b : Bool) : List AV := [slL 3 tokC L, .i .i64 a, .b b]
theorem isT_kd {L : List Tok} (hL : LexOk L) {a : Nat} (ha : a < L.length) {t : ByteArray} (hd : ¬ isDg (byI t 0)) : isT L t a ↔ ((tkL L a).kind = 1 ∨ (tkL L a).kind = 3) ∧ (tkL L a).text = t := by
  unfold isT
  constructor
  · rintro ⟨h1, h2⟩
    refine ⟨?_, h2⟩
    have h3 := hL.lt ha h1
    have h4 := hL.rest a h3
    have h5 : ¬ (tkL L a).kind = 2 := fun q => by
      have := hL.num a ha q
      unfold tkL at h2
      rw [h2] at this
      exact hd this
    unfold tkL at *
    omega
  · rintro ⟨h1, h2⟩
    exact ⟨by omega, h2⟩
set_option maxHeartbeats 4000000 in
theorem isI_ok (L : List Tok) (hL : LexOk L) (a : Nat) (ha : a < L.length) (t : ByteArray) (hd : ¬ isDg (byI t 0)) : Ret env.P 101 [rfL (pBv L a false), .s t] (fun r => r = .b (pb (isT L t a))) := by
  have := hL.most
  have hk := isT_kd hL ha hd
  refine ret_of (nt := 37) (rvs := [.tmp 4]) Try.func101 rfl rfl rfl rfl (fun X => ?_)
  repeat' (first | omega | (with_reducible show (_ : Int) < _; dsimp only; omega) | (with_reducible show (_ : Nat) ≤ _; dsimp only; omega) | ((with_reducible show SrcOk _ _ _) <;> (first | exact srcOk_1 rfl | exact srcOk_L (fun _ => ⟨rfl, rfl⟩) | exact srcOk_E (fun _ => ⟨rfl, rfl⟩))) | ((conv => whnf) <;> (first | refine And.intro ?_ ?_ | (intro _h; first | contradiction | (try simp only [dd] at _h)) | (refine dt_go ?_) | exact rfl | exact True.intro | exact dkk | exact dks | (refine wrap_succ ?_; omega))))
  all_goals (first | (conv => whnf) | skip)
  all_goals first
    | exact rfl
    | exact leaf_p (by rw [hk, tk_at ha]; simp_all; done)
    | trace_state
set_option maxHeartbeats 4000000 in
theorem isI_b (L : List Tok) (hL : LexOk L) (a : Nat) (ha : a < L.length) (t : ByteArray) : Ret env.P 101 [rfL (pBv L a true), .s t] (fun r => r = .b false) := by
  have := hL.most
  refine ret_of (nt := 37) (rvs := [.tmp 4]) Try.func101 rfl rfl rfl rfl (fun X => ?_)
  repeat' (first | omega | (with_reducible show (_ : Int) < _; dsimp only; omega) | (with_reducible show (_ : Nat) ≤ _; dsimp only; omega) | ((with_reducible show SrcOk _ _ _) <;> (first | exact srcOk_1 rfl | exact srcOk_L (fun _ => ⟨rfl, rfl⟩) | exact srcOk_E (fun _ => ⟨rfl, rfl⟩))) | ((conv => whnf) <;> (first | refine And.intro ?_ ?_ | (intro _h; first | contradiction | (try simp only [dd] at _h)) | (refine dt_go ?_) | exact rfl | exact True.intro | exact dkk | exact dks | (refine wrap_succ ?_; omega))))
  all_goals (first | (conv => whnf) | skip)
  all_goals first
    | exact rfl
    | trace_state
theorem takeI_t (L : List Tok) (hL : LexOk L) (a : Nat) (ha : a < L.length) (t : ByteArray) (hd : ¬ isDg (byI t 0)) (h : isT L t a) : RetM env.P 80 [some (boxRow (pB L a false))] [.ptr 0 0 0, .s t] (fun r H => r = .kb true ∧ H = [some (boxRow (pB L (a + 1) false))]) := by
  have h1 := hL.isT_lt ha h
  have := hL.most
  have e : IntKind.i64.wrap ((a : Int) + 1) = ((a + 1 : Nat) : Int) := by rw [wrap_in (by omega) (by omega)]; rfl
  refine ret_ofM (nt := 16) (rvs := [.tmp 4]) Try.func80 rfl rfl rfl rfl (fun X hX => ?_)
  repeat' (first | omega | (with_reducible show (_ : Int) < _; dsimp only; omega) | (with_reducible show (_ : Nat) ≤ _; dsimp only; omega) | ((with_reducible show SrcOk _ _ _) <;> (first | exact srcOk_1 rfl | exact srcOk_L (fun _ => ⟨rfl, rfl⟩) | exact srcOk_E (fun _ => ⟨rfl, rfl⟩))) | ((conv => whnf) <;> (first | refine And.intro ?_ ?_ | (intro _h; first | contradiction | (try simp only [dd] at _h)) | (refine dt_go ?_) | exact rfl | exact True.intro | exact dkk | exact dks | ((first | refine .inl ⟨_, Ret.wk (by exact .cons (tWk_rfcp rfl rfl) (.cons (.refl _) .nil)) ((isI_ok L hL a ha t hd).mono fun r e => e.trans (by rw [pb_t.mpr h])), ?_⟩ | refine ⟨_, Ret.wk (by exact .cons (tWk_rfcp rfl rfl) (.cons (.refl _) .nil)) ((isI_ok L hL a ha t hd).mono fun r e => e.trans (by rw [pb_t.mpr h])), ?_⟩); (try rintro _ rfl)) | (refine wrap_succ ?_; omega))))
  all_goals first
    | (exfalso; omega)
    | (conv => whnf
       rw [e]
       refine endM_turn (turn_box (id := 0) (ds := pB L (a + 1) false) rfl rfl rfl (.cons (.refl _) (.cons (.refl _) (.cons (.refl _) .nil)))) ?_
       exact endM_self ⟨rfl, rfl⟩)
    | trace_state
theorem takeI_f (L : List Tok) (hL : LexOk L) (a : Nat) (ha : a < L.length) (t : ByteArray) (hd : ¬ isDg (byI t 0)) (h : ¬ isT L t a) : RetM env.P 80 [some (boxRow (pB L a false))] [.ptr 0 0 0, .s t] (fun r H => r = .kb false ∧ H = [some (boxRow (pB L a false))]) := by
  refine ret_ofM (nt := 16) (rvs := [.tmp 4]) Try.func80 rfl rfl rfl rfl (fun X hX => ?_)
  repeat' (first | omega | (with_reducible show (_ : Int) < _; dsimp only; omega) | (with_reducible show (_ : Nat) ≤ _; dsimp only; omega) | ((with_reducible show SrcOk _ _ _) <;> (first | exact srcOk_1 rfl | exact srcOk_L (fun _ => ⟨rfl, rfl⟩) | exact srcOk_E (fun _ => ⟨rfl, rfl⟩))) | ((conv => whnf) <;> (first | refine And.intro ?_ ?_ | (intro _h; first | contradiction | (try simp only [dd] at _h)) | (refine dt_go ?_) | exact rfl | exact True.intro | exact dkk | exact dks | ((first | refine .inl ⟨_, Ret.wk (by exact .cons (tWk_rfcp rfl rfl) (.cons (.refl _) .nil)) ((isI_ok L hL a ha t hd).mono fun r e => e.trans (by rw [pb_f.mpr h])), ?_⟩ | refine ⟨_, Ret.wk (by exact .cons (tWk_rfcp rfl rfl) (.cons (.refl _) .nil)) ((isI_ok L hL a ha t hd).mono fun r e => e.trans (by rw [pb_f.mpr h])), ?_⟩); (try rintro _ rfl)) | (refine wrap_succ ?_; omega))))
  all_goals (conv => whnf)
  all_goals first | exact endM_self ⟨rfl, rfl⟩ | trace_state
theorem takeI_b (L : List Tok) (hL : LexOk L) (a : Nat) (ha : a < L.length) (t : ByteArray) : RetM env.P 80 [some (boxRow (pB L a true))] [.ptr 0 0 0, .s t] (fun r H => r = .kb false ∧ H = [some (boxRow (pB L a true))]) := by
  refine ret_ofM (nt := 16) (rvs := [.tmp 4]) Try.func80 rfl rfl rfl rfl (fun X hX => ?_)
  repeat' (first | omega | (with_reducible show (_ : Int) < _; dsimp only; omega) | (with_reducible show (_ : Nat) ≤ _; dsimp only; omega) | ((with_reducible show SrcOk _ _ _) <;> (first | exact srcOk_1 rfl | exact srcOk_L (fun _ => ⟨rfl, rfl⟩) | exact srcOk_E (fun _ => ⟨rfl, rfl⟩))) | ((conv => whnf) <;> (first | refine And.intro ?_ ?_ | (intro _h; first | contradiction | (try simp only [dd] at _h)) | (refine dt_go ?_) | exact rfl | exact True.intro | exact dkk | exact dks | ((first | refine .inl ⟨_, Ret.wk (by exact .cons (tWk_rfcp rfl rfl) (.cons (.refl _) .nil)) (isI_b L hL a ha t), ?_⟩ | refine ⟨_, Ret.wk (by exact .cons (tWk_rfcp rfl rfl) (.cons (.refl _) .nil)) (isI_b L hL a ha t), ?_⟩); (try rintro _ rfl)) | (refine wrap_succ ?_; omega))))
  all_goals (conv => whnf)
  all_goals first | exact endM_self ⟨rfl, rfl⟩ | trace_state
theorem takeI_o (L : List Tok) (hL : LexOk L) (a : Nat) (t : ByteArray) (hd : ¬ isDg (byI t 0)) (ha : a < L.length) : RetM env.P 80 [some (boxRow (pB L a false))] [.ptr 0 0 0, .s t] (fun r H => (isT L t a ∧ a + 1 < L.length ∧ r = .kb true ∧ H = [some (boxRow (pB L (a + 1) false))]) ∨ (¬ isT L t a ∧ r = .kb false ∧ H = [some (boxRow (pB L a false))])) := by
  by_cases h : isT L t a
  · exact (takeI_t L hL a ha t hd h).mono fun r H e => .inl ⟨h, hL.isT_lt ha h, e.1, e.2⟩
  · exact (takeI_f L hL a ha t hd h).mono fun r H e => .inr ⟨h, e.1, e.2⟩
theorem needI_o (L : List Tok) (hL : LexOk L) (a : Nat) (t : ByteArray) (hd : ¬ isDg (byI t 0)) (ha : a < L.length) : RetM env.P 48 [some (boxRow (pB L a false))] [.ptr 0 0 0, .s t] (fun r H => (pNeed L t a = some (a + 1) ∧ a + 1 < L.length ∧ r = .tup [] ∧ H = [some (boxRow (pB L (a + 1) false))]) ∨ (pNeed L t a = none ∧ r = .tup [] ∧ H = [some (boxRow (pB L a true))])) := by
  refine ret_ofM (nt := 11) (rvs := []) Try.func48 rfl rfl rfl rfl (fun X hX => ?_)
  repeat' (first | omega | (with_reducible show (_ : Int) < _; dsimp only; omega) | (with_reducible show (_ : Nat) ≤ _; dsimp only; omega) | ((with_reducible show SrcOk _ _ _) <;> (first | exact srcOk_1 rfl | exact srcOk_L (fun _ => ⟨rfl, rfl⟩) | exact srcOk_E (fun _ => ⟨rfl, rfl⟩))) | ((conv => whnf) <;> (first | refine And.intro ?_ ?_ | (intro _h; first | contradiction | (try simp only [dd] at _h)) | (refine dt_go ?_) | exact rfl | exact True.intro | exact dkk | exact dks | (refine .inr (.inl (.inl ⟨[0], _, _, _, takeI_o L hL a t hd ha, viewA, ⟨rfl, rfl⟩, ?_⟩)); (rintro _ _ (⟨h1, h2, rfl, rfl⟩ | ⟨h1, rfl, rfl⟩)) <;> (refine ⟨rfl, _, lokA, ?_⟩)) | (refine wrap_succ ?_; omega))))
  all_goals (conv => whnf)
  all_goals first
    | exact endM_self (.inl ⟨if_pos h1, h2, rfl, rfl⟩)
    | (refine endM_turn (turn_box (id := 0) (ds := pB L a true) rfl rfl rfl (.cons (.refl _) (.cons (.refl _) (.cons (.refl _) .nil)))) ?_
       exact endM_self (.inr ⟨if_neg h1, rfl, rfl⟩))
    | trace_state
theorem needI_b (L : List Tok) (hL : LexOk L) (a : Nat) (ha : a < L.length) (t : ByteArray) : RetM env.P 48 [some (boxRow (pB L a true))] [.ptr 0 0 0, .s t] (fun r H => r = .tup [] ∧ H = [some (boxRow (pB L a true))]) := by
  refine ret_ofM (nt := 11) (rvs := []) Try.func48 rfl rfl rfl rfl (fun X hX => ?_)
  repeat' (first | omega | (with_reducible show (_ : Int) < _; dsimp only; omega) | (with_reducible show (_ : Nat) ≤ _; dsimp only; omega) | ((with_reducible show SrcOk _ _ _) <;> (first | exact srcOk_1 rfl | exact srcOk_L (fun _ => ⟨rfl, rfl⟩) | exact srcOk_E (fun _ => ⟨rfl, rfl⟩))) | ((conv => whnf) <;> (first | refine And.intro ?_ ?_ | (intro _h; first | contradiction | (try simp only [dd] at _h)) | (refine dt_go ?_) | exact rfl | exact True.intro | exact dkk | exact dks | (refine .inr (.inl (.inl ⟨[0], _, _, _, takeI_b L hL a ha t, viewA, ⟨rfl, rfl⟩, ?_⟩)); (rintro _ _ ⟨rfl, rfl⟩) <;> (refine ⟨rfl, _, lokA, ?_⟩)) | (refine wrap_succ ?_; omega))))
  all_goals (conv => whnf)
  all_goals first
    | (refine endM_turn (turn_box (id := 0) (ds := pB L a true) rfl rfl rfl (.cons (.refl _) (.cons (.refl _) (.cons (.refl _) .nil)))) ?_
       exact endM_self ⟨rfl, rfl⟩)
    | trace_state
end
section
attribute [local irreducible] IntKind.wrap
def kwW : List ByteArray := (ByteArray.mk #[]) :: kwT
theorem kwW_len : kwW.length = 24 := rfl
theorem kindWords_ok : Ret env.P 46 [] (fun r => r = slL 1 strC kwW) := by
  refine Ret.ofFrz ?_
  refine ret_ofM (nt := 2) (rvs := [.tmp 0]) Try.func46 rfl rfl rfl rfl (fun X hX => ?_)
  repeat' (first | omega | (with_reducible show (_ : Int) < _; dsimp only; omega) | (with_reducible show (_ : Nat) ≤ _; dsimp only; omega) | ((with_reducible show SrcOk _ _ _) <;> (first | exact srcOk_1 rfl | exact srcOk_L (fun _ => ⟨rfl, rfl⟩) | exact srcOk_E (fun _ => ⟨rfl, rfl⟩))) | ((conv => whnf) <;> (first | refine And.intro ?_ ?_ | (intro _h; first | contradiction | (try simp only [dd] at _h)) | (refine dt_go ?_) | exact rfl | exact True.intro | exact dkk | exact dks | (refine wrap_succ ?_; omega))))
  conv => whnf
  exact endM_self (frz0 (frz_cell rfl (shr_litL (d := 0) (k := 4) (cO := strC) (l := kwW) rfl rfl)) rfl)
structure KwI (w : ByteArray) (k : Nat) : Prop where
  h : ∀ j, j < k → ¬ w = kwW.getD j default
theorem KwI.zero (w : ByteArray) : KwI w 0 := ⟨fun j hj => absurd hj (Nat.not_lt_zero _)⟩
theorem KwI.next {w : ByteArray} {k : Nat} (h : KwI w k) (hk : ¬ w = kwW.getD k default) : KwI w (k + 1) := ⟨fun j hj => by
  by_cases e : j = k
  · subst e; exact hk
  · exact h.h j (by omega)⟩
theorem KwI.to {w : ByteArray} {k : Nat} (h : KwI w (k + 1)) : KwTo w k := ⟨fun j hj e => h.h (j + 1) (by omega) e.symm⟩
theorem KwI.found {w : ByteArray} {k : Nat} (h : KwI w k) (hw : ¬ w = ByteArray.mk #[]) (hlt : k < 24) (hk : w = kwW.getD k default) : kdOf w = (k : Int) ∧ ¬ kdOf w = 0 := by
  cases k with
  | zero => exact absurd hk hw
  | succ k =>
    have := KwTo.found h.to (by omega) hk.symm
    exact ⟨this, by rw [this]; omega⟩
theorem KwI.none {w : ByteArray} (h : KwI w 24) : kdOf w = 0 := KwTo.none h.to (by omega)
theorem kd_no : kdOf (ByteArray.mk #[]) = 0 := by decide
theorem indexW_ok (w : ByteArray) (hw : ¬ w = ByteArray.mk #[]) : Ret env.P 45 [slL 1 strC kwW, .s w] (fun r => (kdOf w = 0 ∧ r = .i .i64 (-1)) ∨ (¬ kdOf w = 0 ∧ r = .i .i64 (kdOf w))) := by
  have hl := kwW_len
  refine ret_of (nt := 19) (rvs := [.tmp 4]) Try.func45 rfl rfl rfl rfl (fun X => ?_)
  repeat' (first | omega | (with_reducible show (_ : Int) < _; dsimp only; omega) | (with_reducible show (_ : Nat) ≤ _; dsimp only; omega) | ((with_reducible show SrcOk _ _ _) <;> (first | exact srcOk_1 rfl | exact srcOk_L (fun _ => ⟨rfl, rfl⟩) | exact srcOk_E (fun _ => ⟨rfl, rfl⟩))) | ((conv => whnf) <;> (first | (refine loopN 24 (fun k => [(8, .i .i64 k)]) (fun k => []) (fun k => KwI w k) ⟨.zero w, ?_⟩) | exact wrap_in (by omega) (by omega) | refine And.intro ?_ ?_ | (intro _h; first | contradiction | (try simp only [dd] at _h)) | (refine dt_go ?_) | exact rfl | exact True.intro | exact dkk | exact dks | (refine wrap_succ ?_; omega))))
  all_goals (try simp only [Int.toNat_natCast] at *)
  all_goals first | omega | (conv => whnf) | skip
  all_goals first
    | exact KwI.next ‹_› ‹_›
    | (rename_i k _ hk _
       have hf := KwI.found hk hw (by omega) ‹_›
       exact .inr ⟨hf.2, congrArg (AV.i .i64) hf.1.symm⟩)
    | (rename_i k _ hk
       obtain rfl : k = 24 := by omega
       exact .inl ⟨KwI.none hk, rfl⟩)
    | trace_state
theorem containsW_t (w : ByteArray) (h : ¬ kdOf w = 0) : Ret env.P 79 [slL 1 strC kwW, .s w] (fun r => r = .b true) := by
  have hw : ¬ w = ByteArray.mk #[] := fun q => h (by rw [q]; exact kd_no)
  have hr := kd_rng w
  refine ret_of (nt := 9) (rvs := [.tmp 4]) Try.func79 rfl rfl rfl rfl (fun X => ?_)
  repeat' (first | omega | (with_reducible show (_ : Int) < _; dsimp only; omega) | (with_reducible show (_ : Nat) ≤ _; dsimp only; omega) | ((with_reducible show SrcOk _ _ _) <;> (first | exact srcOk_1 rfl | exact srcOk_L (fun _ => ⟨rfl, rfl⟩) | exact srcOk_E (fun _ => ⟨rfl, rfl⟩))) | ((conv => whnf) <;> (first | refine And.intro ?_ ?_ | (intro _h; first | contradiction | (try simp only [dd] at _h)) | (refine dt_go ?_) | exact rfl | exact True.intro | exact dkk | exact dks | ((first | refine .inl ⟨_, (indexW_ok w hw).mono (post' := fun r => r = .i .i64 (kdOf w)) fun r e => e.elim (fun e => absurd e.1 h) (fun e => e.2), ?_⟩ | refine ⟨_, (indexW_ok w hw).mono (post' := fun r => r = .i .i64 (kdOf w)) fun r e => e.elim (fun e => absurd e.1 h) (fun e => e.2), ?_⟩); (try rintro _ rfl)) | (refine wrap_succ ?_; omega))))
  all_goals (first | (conv => whnf) | skip)
  all_goals (show AV.b (decide ((0 : Int) ≤ kdOf w)) = _; rw [decide_eq_true (by omega)])
theorem containsW_f (w : ByteArray) (hw : ¬ w = ByteArray.mk #[]) (h : kdOf w = 0) : Ret env.P 79 [slL 1 strC kwW, .s w] (fun r => r = .b false) := by
  refine ret_of (nt := 9) (rvs := [.tmp 4]) Try.func79 rfl rfl rfl rfl (fun X => ?_)
  repeat' (first | omega | (with_reducible show (_ : Int) < _; dsimp only; omega) | (with_reducible show (_ : Nat) ≤ _; dsimp only; omega) | ((with_reducible show SrcOk _ _ _) <;> (first | exact srcOk_1 rfl | exact srcOk_L (fun _ => ⟨rfl, rfl⟩) | exact srcOk_E (fun _ => ⟨rfl, rfl⟩))) | ((conv => whnf) <;> (first | refine And.intro ?_ ?_ | (intro _h; first | contradiction | (try simp only [dd] at _h)) | (refine dt_go ?_) | exact rfl | exact True.intro | exact dkk | exact dks | ((first | refine .inl ⟨_, (indexW_ok w hw).mono (post' := fun r => r = .i .i64 (-1)) fun r e => e.elim (fun e => e.2) (fun e => absurd h e.1), ?_⟩ | refine ⟨_, (indexW_ok w hw).mono (post' := fun r => r = .i .i64 (-1)) fun r e => e.elim (fun e => e.2) (fun e => absurd h e.1), ?_⟩); (try rintro _ rfl)) | (refine wrap_succ ?_; omega))))
  all_goals (first | (conv => whnf) | skip)
  all_goals first | exact rfl | trace_state
theorem ReservedI_t (w : ByteArray) (h : ¬ kdOf w = 0) : Ret env.P 44 [.s w] (fun r => r = .b true) := by
  have hw : ¬ w = ByteArray.mk #[] := fun q => h (by rw [q]; exact kd_no)
  refine ret_of (nt := 10) (rvs := [.tmp 2]) Try.func44 rfl rfl rfl rfl (fun X => ?_)
  repeat' (first | omega | (with_reducible show (_ : Int) < _; dsimp only; omega) | (with_reducible show (_ : Nat) ≤ _; dsimp only; omega) | ((with_reducible show SrcOk _ _ _) <;> (first | exact srcOk_1 rfl | exact srcOk_L (fun _ => ⟨rfl, rfl⟩) | exact srcOk_E (fun _ => ⟨rfl, rfl⟩))) | ((conv => whnf) <;> (first | refine And.intro ?_ ?_ | (intro _h; first | contradiction | (try simp only [dd] at _h)) | (refine dt_go ?_) | exact rfl | exact True.intro | exact dkk | exact dks | ((first | refine .inl ⟨_, kindWords_ok, ?_⟩ | refine ⟨_, kindWords_ok, ?_⟩); (try rintro _ rfl)) | ((first | refine .inl ⟨_, containsW_t w h, ?_⟩ | refine ⟨_, containsW_t w h, ?_⟩); (try rintro _ rfl)) | (refine wrap_succ ?_; omega))))
  all_goals (first | (conv => whnf) | skip)
  all_goals first | exact rfl | exact absurd ‹w = _› hw | trace_state
theorem ReservedI_f (w : ByteArray) (h : kdOf w = 0) : Ret env.P 44 [.s w] (fun r => r = .b false) := by
  refine ret_of (nt := 10) (rvs := [.tmp 2]) Try.func44 rfl rfl rfl rfl (fun X => ?_)
  repeat' (first | omega | (with_reducible show (_ : Int) < _; dsimp only; omega) | (with_reducible show (_ : Nat) ≤ _; dsimp only; omega) | ((with_reducible show SrcOk _ _ _) <;> (first | exact srcOk_1 rfl | exact srcOk_L (fun _ => ⟨rfl, rfl⟩) | exact srcOk_E (fun _ => ⟨rfl, rfl⟩))) | ((conv => whnf) <;> (first | refine And.intro ?_ ?_ | (intro _h; first | contradiction | (try simp only [dd] at _h)) | (refine dt_go ?_) | exact rfl | exact True.intro | exact dkk | exact dks | ((first | refine .inl ⟨_, kindWords_ok, ?_⟩ | refine ⟨_, kindWords_ok, ?_⟩); (try rintro _ rfl)) | ((first | refine .inl ⟨_, containsW_f w ‹_› h, ?_⟩ | refine ⟨_, containsW_f w ‹_› h, ?_⟩); (try rintro _ rfl)) | (refine wrap_succ ?_; omega))))
  all_goals (first | (conv => whnf) | skip)
  all_goals first | exact rfl | trace_state
end
end Go.Proofs.Ytllcemegnggpfaa
