/- Texts for VTermOkP. -/
import Derived.Test.YtllcemegnggpfaaVs32
namespace Go.Proofs.Ytllcemegnggpfaa
open Go Go.RowKit
set_option linter.unusedVariables false
set_option linter.unusedSimpArgs false
set_option maxRecDepth 8000
section
attribute [local irreducible] IntKind.wrap
def Term.sam (n : Nat) : Term → Term → Prop := Nat.rec (motive := fun _ => Term → Term → Prop) (fun _ _ => False) (fun _ ih a b => a.kind = b.kind ∧ a.name = b.name ∧ a.labels = b.labels ∧ a.kids.length = b.kids.length ∧ ∀ k, k < a.kids.length → ih (a.kids.getD k default) (b.kids.getD k default)) n
theorem equalString_ok (l m : List ByteArray) (hl : l.length ≤ 1048576) : Ret env.P 57 [slL 1 strC l, slL 1 strC m] (fun r => r = .b (decide (l = m))) := by
  refine ret_of (nt := 26) (rvs := [.tmp 4]) Try.func57 rfl rfl rfl rfl (fun X => ?_)
  repeat' (first | omega | (with_reducible show (_ : Int) < _; dsimp only; omega) | (with_reducible show (_ : Nat) ≤ _; dsimp only; omega) | ((with_reducible show SrcOk _ _ _) <;> (first | exact srcOk_1 rfl | exact srcOk_L (fun _ => ⟨rfl, rfl⟩) | exact srcOk_E (fun _ => ⟨rfl, rfl⟩))) | ((conv => whnf) <;> (first | exact upto_succ (by assumption) (by first | assumption | simp_all [strC]) | refine loopN l.length (fun k => [(13, .i .i64 k)]) (fun k => []) (fun k => ∀ j, j < k → l.getD j default = m.getD j default) ⟨fun _ h => by omega, ?_⟩ | refine And.intro ?_ ?_ | (intro _h; first | contradiction | (try simp only [dd] at _h)) | (refine dt_go ?_) | exact rfl | exact True.intro | exact dkk | exact dks | (refine wrap_succ ?_; omega))))
  · exact leaf_ne (by rintro rfl; omega)
  · exact leaf_ne (by rintro rfl; simp_all)
  · exact leaf_eq (list_eq (by omega) fun j hj => by have := ‹∀ j, j < _ → l.getD j default = m.getD j default›; exact this j (by omega))
set_option maxHeartbeats 2000000 in
theorem eqFunM_ok (c c' : Term → List AV) (D : Int) (p : Term → Term → Prop) (m m' : Nat) (ks ls : List Term) (hl : ks.length ≤ 1048576) (hp : ∀ k, k < ks.length → ks.length = ls.length → Ret env.P 59 [.agg (Term.pN (m + 1) (ks.getD k default)), .agg (Term.pN (m' + 1) (ls.getD k default)), rfL [.i .i64 D]] (fun r => r = .b (pb (p (ks.getD k default) (ls.getD k default))))) :
    Ret env.P 58 [slL 4 (Term.pN (m + 1)) ks, slL 4 (Term.pN (m' + 1)) ls, .fn 59 [rfL [.i .i64 D]]] (fun r => r = .b (pb (ks.length = ls.length ∧ ∀ k, k < ks.length → p (ks.getD k default) (ls.getD k default)))) := by
  refine ret_of (nt := 32) (rvs := [.tmp 6]) Try.func58 rfl rfl rfl rfl (fun X => ?_)
  repeat' (first | omega | (with_reducible show (_ : Int) < _; dsimp only; omega) | (with_reducible show (_ : Nat) ≤ _; dsimp only; omega) | ((with_reducible show SrcOk _ _ _) <;> (first | exact srcOk_1 rfl | exact srcOk_L (fun _ => ⟨rfl, rfl⟩) | exact srcOk_E (fun _ => ⟨rfl, rfl⟩))) | ((conv => whnf) <;> (first | exact upto_succ (by assumption) (Classical.not_not.1 (by assumption)) | refine loopN ks.length (fun k => [(17, .i .i64 k)]) (fun k => []) (fun k => ∀ j, j < k → p (ks.getD j default) (ls.getD j default)) ⟨fun _ h => by omega, ?_⟩ | refine And.intro ?_ ?_ | (intro _h; first | contradiction | (try simp only [dd] at _h)) | (refine dt_go ?_) | exact rfl | exact True.intro | exact dkk | exact dks | ((first | refine .inl ⟨_, hp _ (by omega) (by omega), ?_⟩ | refine ⟨_, hp _ (by omega) (by omega), ?_⟩); (try rintro _ rfl)) | (refine wrap_succ ?_; omega))))
  all_goals (try simp only [Int.toNat_natCast] at *)
  all_goals first
    | (conv => whnf
       refine leaf_f fun q => ?_
       first
       | omega
       | exact ‹¬ p _ _› (q.2 _ (by omega)))
    | (conv => whnf
       refine leaf_t ⟨by omega, fun j hj => ?_⟩
       have := ‹∀ j, j < _ → p (ks.getD j default) (ls.getD j default)›
       exact this j (by omega))
    | trace_state
set_option maxHeartbeats 2000000 in
theorem sameTerm_n (n : Nat) : n ≤ 100 → ∀ (D : Int), D = n → ∀ (m : Nat) (a : Term), Term.oN (m + 1) a → ∀ (m' : Nat) (b : Term), Term.fN (m' + 1) b → Ret env.P 37 [.agg (Term.pN (m + 1) a), .agg (Term.pN (m' + 1) b), .i .i64 D] (fun r => r = .b (pb (Term.sam n a b))) := by
  induction n with
  | zero =>
    intro hn D hD m a h m' b hb
    refine ret_of (nt := 37) (rvs := [.tmp 6]) Try.func37 rfl rfl rfl rfl (fun X => ?_)
    repeat' (first | omega | (with_reducible show (_ : Int) < _; dsimp only; omega) | (with_reducible show (_ : Nat) ≤ _; dsimp only; omega) | ((with_reducible show SrcOk _ _ _) <;> (first | exact srcOk_1 rfl | exact srcOk_L (fun _ => ⟨rfl, rfl⟩) | exact srcOk_E (fun _ => ⟨rfl, rfl⟩))) | ((conv => whnf) <;> (first | (exfalso; omega) | refine And.intro ?_ ?_ | (intro _h; first | contradiction | (try simp only [dd] at _h)) | (refine dt_go ?_) | exact rfl | exact True.intro | exact dkk | exact dks | ((first | refine .inl ⟨_, equalString_ok _ _ h.2.1.1, ?_⟩ | refine ⟨_, equalString_ok _ _ h.2.1.1, ?_⟩); (try rintro _ rfl)) | (refine wrap_succ ?_; omega))))
    all_goals first
      | exact leaf_f fun q => q
      | (exfalso; omega)
  | succ n ih =>
    intro hn D hD m a h m' b hb
    refine Ret.wk (.cons (.agg (Term.up _ _ (Term.oN_fN _ _ h))) (.cons (.agg (Term.up _ _ hb)) (.cons (.refl _) .nil))) ?_
    have h2 := Term.oN_up _ _ h
    have hb2 := Term.fN_up _ _ hb
    have hq : ∀ k, k < a.kids.length → a.kids.length = b.kids.length → Ret env.P 59 [.agg (Term.pN (m + 1) (a.kids.getD k default)), .agg (Term.pN (m' + 1) (b.kids.getD k default)), rfL [.i .i64 D]] (fun r => r = .b (pb (Term.sam n (a.kids.getD k default) (b.kids.getD k default)))) := fun k hk he => by
      have hr := ih (by omega) (IntKind.i64.wrap (D - 1)) (by rw [wrap_in (by omega) (by omega)]; omega) m _ (h2.2.2.2 k hk) m' (b.kids.getD k default) (hb2 _ (Term.getD_mem0 (l := b.kids) (k := k) (by omega)))
      refine ret_of (nt := 11) (rvs := [.tmp 5]) Try.func59 rfl rfl rfl rfl (fun X => ?_)
      repeat' (first | omega | (with_reducible show (_ : Int) < _; dsimp only; omega) | (with_reducible show (_ : Nat) ≤ _; dsimp only; omega) | ((with_reducible show SrcOk _ _ _) <;> (first | exact srcOk_1 rfl | exact srcOk_L (fun _ => ⟨rfl, rfl⟩) | exact srcOk_E (fun _ => ⟨rfl, rfl⟩))) | ((conv => whnf) <;> (first | refine And.intro ?_ ?_ | (intro _h; first | contradiction | (try simp only [dd] at _h)) | (refine dt_go ?_) | exact rfl | exact True.intro | exact dkk | exact dks | ((first | refine .inl ⟨_, hr, ?_⟩ | refine ⟨_, hr, ?_⟩); (try rintro _ rfl)) | (refine wrap_succ ?_; omega))))
      all_goals exact rfl
    have hl := h.2.1.1
    have hk := h.2.2.1
    refine ret_of (nt := 37) (rvs := [.tmp 6]) Try.func37 rfl rfl rfl rfl (fun X => ?_)
    repeat' (first | omega | (with_reducible show (_ : Int) < _; dsimp only; omega) | (with_reducible show (_ : Nat) ≤ _; dsimp only; omega) | ((with_reducible show SrcOk _ _ _) <;> (first | exact srcOk_1 rfl | exact srcOk_L (fun _ => ⟨rfl, rfl⟩) | exact srcOk_E (fun _ => ⟨rfl, rfl⟩))) | ((conv => whnf) <;> (first | (exfalso; omega) | refine And.intro ?_ ?_ | (intro _h; first | contradiction | (try simp only [dd] at _h)) | (refine dt_go ?_) | exact rfl | exact True.intro | exact dkk | exact dks | ((first | refine .inl ⟨_, equalString_ok _ _ hl, ?_⟩ | refine ⟨_, equalString_ok _ _ hl, ?_⟩); (try rintro _ rfl)) | ((first | refine .inl ⟨_, Ret.wke (eqFunM_ok (Term.pN (m + 1)) (Term.pN (m' + 1)) D (Term.sam n) m m' a.kids b.kids hk hq), ?_⟩ | refine ⟨_, Ret.wke (eqFunM_ok (Term.pN (m + 1)) (Term.pN (m' + 1)) D (Term.sam n) m m' a.kids b.kids hk hq), ?_⟩); (try rintro _ rfl)) | (refine wrap_succ ?_; omega))))
    all_goals first
      | (refine leaf_f fun q => ?_; obtain ⟨q1, q2, q3, q4, q5⟩ := q; first | contradiction | omega)
      | (refine leaf_p ⟨fun q => ?_, fun q => ?_⟩ <;> first | (have q := pb_t.mp q; exact ⟨by simp_all, by simp_all, by simp_all, q.1, q.2⟩) | (obtain ⟨q1, q2, q3, q4, q5⟩ := q; exact pb_t.mpr ⟨q4, q5⟩))
      | trace_state
theorem Term.sam_eq : ∀ (n : Nat) (a b : Term), Term.fN n a → (Term.sam n a b ↔ a = b)
  | 0, a, b, h => h.elim
  | n + 1, a, b, h => ⟨fun q => by
      obtain ⟨q1, q2, q3, q4, q5⟩ := q
      refine Term.eta q1 q2 q3 (List.ext_getElem q4 fun k h1 h2 => ?_)
      have := q5 k h1
      rw [List.getD_eq_getElem?_getD, List.getElem?_eq_getElem h1, List.getD_eq_getElem?_getD, List.getElem?_eq_getElem h2] at this
      exact (Term.sam_eq n _ _ (h _ (List.getElem_mem h1))).1 this, fun q => by
      subst q
      exact ⟨rfl, rfl, rfl, rfl, fun k hk => (Term.sam_eq n _ _ (h _ (Term.getD_mem0 hk))).2 rfl⟩⟩
theorem terms_eq {a b : Term} (h1 : a.kind = b.kind) (h2 : a.name = b.name) (h3 : a.labels.length = b.labels.length) (h4 : ∀ j, j < a.labels.length → a.labels.getD j default = b.labels.getD j default) (h5 : a.kids.length = b.kids.length) (h6 : ∀ j, j < a.kids.length → a.kids.getD j default = b.kids.getD j default) : a = b := Term.eta h1 h2 (list_eq h3 h4) (list_eq h5 h6)
set_option maxHeartbeats 2000000 in
theorem l06Same_n (n : Nat) : ∀ (a : Term), Term.oN n a → ∀ (m : Nat), Term.oN (m + 1) a → ∀ (m' : Nat) (b : Term), Term.fN (m' + 1) b → Ret env.P 36 [.agg (Term.pN (m + 1) a), .agg (Term.pN (m' + 1) b)] (fun r => r = .b (pb (a = b))) := by
  induction n with
  | zero => intro a h; exact h.elim
  | succ n ih =>
    intro a h0 m h m' b hb
    refine Ret.wk (.cons (.agg (Term.up _ _ (Term.oN_fN _ _ h))) (.cons (.agg (Term.up _ _ hb)) .nil)) ?_
    have h2 := Term.oN_up _ _ h
    have hb2 := Term.fN_up _ _ hb
    have hq : ∀ k, k < a.kids.length → a.kids.length = b.kids.length → Ret env.P 36 [.agg (Term.pN (m + 1) (a.kids.getD k default)), .agg (Term.pN (m' + 1) (b.kids.getD k default))] (fun r => r = .b (pb (a.kids.getD k default = b.kids.getD k default))) := fun k hk he =>
      ih _ (h0.2.2.2 k hk) m (h2.2.2.2 k hk) m' _ (hb2 _ (Term.getD_mem0 (by omega)))
    have hl := h.2.1.1
    have hk := h.2.2.1
    refine ret_of (nt := 74) (rvs := [.tmp 4]) Try.func36 rfl rfl rfl rfl (fun X => ?_)
    repeat' (first | omega | (with_reducible show (_ : Int) < _; dsimp only; omega) | (with_reducible show (_ : Nat) ≤ _; dsimp only; omega) | ((with_reducible show SrcOk _ _ _) <;> (first | exact srcOk_1 rfl | exact srcOk_L (fun _ => ⟨rfl, rfl⟩) | exact srcOk_E (fun _ => ⟨rfl, rfl⟩))) | ((conv => whnf) <;> (first | (exfalso; omega) | exact upto_succ (by assumption) (by first | assumption | exact Classical.not_not.1 (by assumption) | simp_all [strC]) | refine loopAt 6 a.kids.length (fun k => [(6, .i .i64 k)]) (fun k => []) (fun k => ∀ j, j < k → a.kids.getD j default = b.kids.getD j default) rfl ⟨fun _ h => by omega, ?_⟩ | refine loopAt 5 a.labels.length (fun k => [(5, .i .i64 k)]) (fun k => []) (fun k => ∀ j, j < k → a.labels.getD j default = b.labels.getD j default) rfl ⟨fun _ h => by omega, ?_⟩ | refine And.intro ?_ ?_ | (intro _h; first | contradiction | (try simp only [dd] at _h)) | (refine dt_go ?_) | exact rfl | exact True.intro | exact dkk | exact dks | ((first | refine .inl ⟨_, hq _ (by omega) (by omega), ?_⟩ | refine ⟨_, hq _ (by omega) (by omega), ?_⟩); (try rintro _ rfl)) | (refine wrap_succ ?_; omega))))
    all_goals (try simp only [Int.toNat_natCast] at *)
    all_goals first
      | (conv => whnf
         refine leaf_f fun q => ?_
         subst q
         first
         | contradiction
         | omega
         | exact absurd rfl ‹_›
         | (simp_all; done))
      | (conv => whnf
         refine leaf_t (terms_eq ?_ ?_ ?_ (fun j hj => ?_) ?_ (fun j hj => ?_))
         all_goals first
         | assumption
         | omega
         | (have := ‹∀ j, j < _ → a.labels.getD j default = b.labels.getD j default›; exact this j (by omega))
         | (have := ‹∀ j, j < _ → a.kids.getD j default = b.kids.getD j default›; exact this j (by omega)))
      | trace_state
end
section
attribute [local irreducible] IntKind.wrap
theorem identOk_t (w : ByteArray) (hs : w.size ≤ 30000) (h1 : nmB w) (h2 : kdOf w = 0) : Ret env.P 81 [.s w] (fun r => r = .b true) := by
  refine ret_of (nt := 10) (rvs := [.tmp 2]) Try.func81 rfl rfl rfl rfl (fun X => ?_)
  repeat' (first | omega | (with_reducible show (_ : Int) < _; dsimp only; omega) | (with_reducible show (_ : Nat) ≤ _; dsimp only; omega) | ((with_reducible show SrcOk _ _ _) <;> (first | exact srcOk_1 rfl | exact srcOk_L (fun _ => ⟨rfl, rfl⟩) | exact srcOk_E (fun _ => ⟨rfl, rfl⟩))) | ((conv => whnf) <;> (first | refine And.intro ?_ ?_ | (intro _h; first | contradiction | (try simp only [dd] at _h)) | (refine dt_go ?_) | exact rfl | exact True.intro | exact dkk | exact dks | ((first | refine .inl ⟨_, (nameOk_ok w (by omega)).mono (post' := fun r => r = .b true) fun r e => by rw [e, pb_t.mpr h1], ?_⟩ | refine ⟨_, (nameOk_ok w (by omega)).mono (post' := fun r => r = .b true) fun r e => by rw [e, pb_t.mpr h1], ?_⟩); (try rintro _ rfl)) | ((first | refine .inl ⟨_, ReservedI_f w h2, ?_⟩ | refine ⟨_, ReservedI_f w h2, ?_⟩); (try rintro _ rfl)) | (refine wrap_succ ?_; omega))))
  all_goals (first | (conv => whnf) | skip)
  all_goals first | exact rfl | trace_state
theorem identOk_f (w : ByteArray) (hs : w.size ≤ 30000) (h : ¬ (nmB w ∧ kdOf w = 0)) : Ret env.P 81 [.s w] (fun r => r = .b false) := by
  by_cases h1 : nmB w
  · refine ret_of (nt := 10) (rvs := [.tmp 2]) Try.func81 rfl rfl rfl rfl (fun X => ?_)
    repeat' (first | omega | (with_reducible show (_ : Int) < _; dsimp only; omega) | (with_reducible show (_ : Nat) ≤ _; dsimp only; omega) | ((with_reducible show SrcOk _ _ _) <;> (first | exact srcOk_1 rfl | exact srcOk_L (fun _ => ⟨rfl, rfl⟩) | exact srcOk_E (fun _ => ⟨rfl, rfl⟩))) | ((conv => whnf) <;> (first | refine And.intro ?_ ?_ | (intro _h; first | contradiction | (try simp only [dd] at _h)) | (refine dt_go ?_) | exact rfl | exact True.intro | exact dkk | exact dks | ((first | refine .inl ⟨_, (nameOk_ok w (by omega)).mono (post' := fun r => r = .b true) fun r e => by rw [e, pb_t.mpr h1], ?_⟩ | refine ⟨_, (nameOk_ok w (by omega)).mono (post' := fun r => r = .b true) fun r e => by rw [e, pb_t.mpr h1], ?_⟩); (try rintro _ rfl)) | ((first | refine .inl ⟨_, ReservedI_t w (fun q => h ⟨h1, q⟩), ?_⟩ | refine ⟨_, ReservedI_t w (fun q => h ⟨h1, q⟩), ?_⟩); (try rintro _ rfl)) | (refine wrap_succ ?_; omega))))
    all_goals (first | (conv => whnf) | skip)
    all_goals first | exact rfl | trace_state
  · refine ret_of (nt := 10) (rvs := [.tmp 2]) Try.func81 rfl rfl rfl rfl (fun X => ?_)
    repeat' (first | omega | (with_reducible show (_ : Int) < _; dsimp only; omega) | (with_reducible show (_ : Nat) ≤ _; dsimp only; omega) | ((with_reducible show SrcOk _ _ _) <;> (first | exact srcOk_1 rfl | exact srcOk_L (fun _ => ⟨rfl, rfl⟩) | exact srcOk_E (fun _ => ⟨rfl, rfl⟩))) | ((conv => whnf) <;> (first | refine And.intro ?_ ?_ | (intro _h; first | contradiction | (try simp only [dd] at _h)) | (refine dt_go ?_) | exact rfl | exact True.intro | exact dkk | exact dks | ((first | refine .inl ⟨_, (nameOk_ok w (by omega)).mono (post' := fun r => r = .b false) fun r e => by rw [e, pb_f.mpr h1], ?_⟩ | refine ⟨_, (nameOk_ok w (by omega)).mono (post' := fun r => r = .b false) fun r e => by rw [e, pb_f.mpr h1], ?_⟩); (try rintro _ rfl)) | (refine wrap_succ ?_; omega))))
    all_goals (first | (conv => whnf) | skip)
    all_goals first | exact rfl | trace_state
theorem nameOk_t (w : ByteArray) (hs : w.size ≤ 30000) (h1 : nmB w) : Ret env.P 78 [.s w] (fun r => r = .b true) := (nameOk_ok w (by omega)).mono fun r e => by rw [e, pb_t.mpr h1]
theorem nameOk_f (w : ByteArray) (hs : w.size ≤ 30000) (h1 : ¬ nmB w) : Ret env.P 78 [.s w] (fun r => r = .b false) := (nameOk_ok w (by omega)).mono fun r e => by rw [e, pb_f.mpr h1]
set_option maxHeartbeats 4000000 in
theorem textN_t (L : List Tok) (hL : LexOk L) (a : Nat) (ha : a < L.length) (hk : (tkL L a).kind = 1) (hg : Ret env.P 78 [.s (tkL L a).text] (fun r => r = .b true)) : RetM env.P 77 [some (boxRow (pB L a false))] [.ptr 0 0 0, .i .i64 1, .fn 78 []] (fun r H => r = .s (tkL L a).text ∧ H = [some (boxRow (pB L (a + 1) false))]) := by
  have := hL.most
  have e : IntKind.i64.wrap ((a : Int) + 1) = ((a + 1 : Nat) : Int) := by rw [wrap_in (by omega) (by omega)]; rfl
  refine ret_ofM (nt := 47) (rvs := [.tmp 6]) Try.func77 rfl rfl rfl rfl (fun X hX => ?_)
  repeat' (first | omega | (with_reducible show (_ : Int) < _; dsimp only; omega) | (with_reducible show (_ : Nat) ≤ _; dsimp only; omega) | ((with_reducible show SrcOk _ _ _) <;> (first | exact srcOk_1 rfl | exact srcOk_L (fun _ => ⟨rfl, rfl⟩) | exact srcOk_E (fun _ => ⟨rfl, rfl⟩))) | ((conv => whnf) <;> (first | (exfalso; exact ‹¬ Tok.kind (List.getD L _ default) = 1› hk) | refine And.intro ?_ ?_ | (intro _h; first | contradiction | (try simp only [dd] at _h)) | (refine dt_go ?_) | exact rfl | exact True.intro | exact dkk | exact dks | ((first | refine .inl ⟨_, hg, ?_⟩ | refine ⟨_, hg, ?_⟩); (try rintro _ rfl)) | (refine wrap_succ ?_; omega))))
  all_goals first
    | (exfalso; omega)
    | (conv => whnf
       rw [e]
       refine endM_turn (turn_box (id := 0) (ds := pB L (a + 1) false) rfl rfl rfl (.cons (.refl _) (.cons (.refl _) (.cons (.refl _) .nil)))) ?_
       exact endM_pick [0] [some (boxRow (pB L (a + 1) false))] (.s (tkL L a).text) viewA rfl rfl (by rw [hX]; exact keepK (n := 1) rfl rfl) ⟨rfl, rfl⟩)
    | trace_state
set_option maxHeartbeats 4000000 in
theorem textN_f (L : List Tok) (hL : LexOk L) (a : Nat) (ha : a < L.length) (hg : (tkL L a).kind = 1 → Ret env.P 78 [.s (tkL L a).text] (fun r => r = .b false)) : RetM env.P 77 [some (boxRow (pB L a false))] [.ptr 0 0 0, .i .i64 1, .fn 78 []] (fun r H => r = .s ⟨#[]⟩ ∧ H = [some (boxRow (pB L a true))]) := by
  have := hL.most
  refine ret_ofM (nt := 47) (rvs := [.tmp 6]) Try.func77 rfl rfl rfl rfl (fun X hX => ?_)
  repeat' (first | omega | (with_reducible show (_ : Int) < _; dsimp only; omega) | (with_reducible show (_ : Nat) ≤ _; dsimp only; omega) | ((with_reducible show SrcOk _ _ _) <;> (first | exact srcOk_1 rfl | exact srcOk_L (fun _ => ⟨rfl, rfl⟩) | exact srcOk_E (fun _ => ⟨rfl, rfl⟩))) | ((conv => whnf) <;> (first | refine And.intro ?_ ?_ | (intro _h; first | contradiction | (try simp only [dd] at _h)) | (refine dt_go ?_) | exact rfl | exact True.intro | exact dkk | exact dks | ((first | refine .inl ⟨_, hg ‹_›, ?_⟩ | refine ⟨_, hg ‹_›, ?_⟩); (try rintro _ rfl)) | (refine wrap_succ ?_; omega))))
  all_goals first
    | (exfalso; omega)
    | (conv => whnf
       refine endM_turn (turn_box (id := 0) (ds := pB L a true) rfl rfl rfl (.cons (.refl _) (.cons (.refl _) (.cons (.refl _) .nil)))) ?_
       exact endM_pick [0] [some (boxRow (pB L a true))] (.s ⟨#[]⟩) viewA rfl rfl (by rw [hX]; exact keepK (n := 1) rfl rfl) ⟨rfl, rfl⟩)
    | trace_state
set_option maxHeartbeats 4000000 in
theorem textN_b (L : List Tok) (hL : LexOk L) (a : Nat) (ha : a < L.length) : RetM env.P 77 [some (boxRow (pB L a true))] [.ptr 0 0 0, .i .i64 1, .fn 78 []] (fun r H => r = .s ⟨#[]⟩ ∧ H = [some (boxRow (pB L a true))]) := by
  have := hL.most
  refine ret_ofM (nt := 47) (rvs := [.tmp 6]) Try.func77 rfl rfl rfl rfl (fun X hX => ?_)
  repeat' (first | omega | (with_reducible show (_ : Int) < _; dsimp only; omega) | (with_reducible show (_ : Nat) ≤ _; dsimp only; omega) | ((with_reducible show SrcOk _ _ _) <;> (first | exact srcOk_1 rfl | exact srcOk_L (fun _ => ⟨rfl, rfl⟩) | exact srcOk_E (fun _ => ⟨rfl, rfl⟩))) | ((conv => whnf) <;> (first | refine And.intro ?_ ?_ | (intro _h; first | contradiction | (try simp only [dd] at _h)) | (refine dt_go ?_) | exact rfl | exact True.intro | exact dkk | exact dks | (refine wrap_succ ?_; omega))))
  all_goals first
    | (exfalso; omega)
    | (conv => whnf
       refine endM_turn (turn_box (id := 0) (ds := pB L a true) rfl rfl rfl (.cons (.refl _) (.cons (.refl _) (.cons (.refl _) .nil)))) ?_
       exact endM_pick [0] [some (boxRow (pB L a true))] (.s ⟨#[]⟩) viewA rfl rfl (by rw [hX]; exact keepK (n := 1) rfl rfl) ⟨rfl, rfl⟩)
    | trace_state
set_option maxHeartbeats 4000000 in
theorem textJ_t (L : List Tok) (hL : LexOk L) (a : Nat) (ha : a < L.length) (hk : (tkL L a).kind = 1) (hg : Ret env.P 81 [.s (tkL L a).text] (fun r => r = .b true)) : RetM env.P 77 [some (boxRow (pB L a false))] [.ptr 0 0 0, .i .i64 1, .fn 81 []] (fun r H => r = .s (tkL L a).text ∧ H = [some (boxRow (pB L (a + 1) false))]) := by
  have := hL.most
  have e : IntKind.i64.wrap ((a : Int) + 1) = ((a + 1 : Nat) : Int) := by rw [wrap_in (by omega) (by omega)]; rfl
  refine ret_ofM (nt := 47) (rvs := [.tmp 6]) Try.func77 rfl rfl rfl rfl (fun X hX => ?_)
  repeat' (first | omega | (with_reducible show (_ : Int) < _; dsimp only; omega) | (with_reducible show (_ : Nat) ≤ _; dsimp only; omega) | ((with_reducible show SrcOk _ _ _) <;> (first | exact srcOk_1 rfl | exact srcOk_L (fun _ => ⟨rfl, rfl⟩) | exact srcOk_E (fun _ => ⟨rfl, rfl⟩))) | ((conv => whnf) <;> (first | (exfalso; exact ‹¬ Tok.kind (List.getD L _ default) = 1› hk) | refine And.intro ?_ ?_ | (intro _h; first | contradiction | (try simp only [dd] at _h)) | (refine dt_go ?_) | exact rfl | exact True.intro | exact dkk | exact dks | ((first | refine .inl ⟨_, hg, ?_⟩ | refine ⟨_, hg, ?_⟩); (try rintro _ rfl)) | (refine wrap_succ ?_; omega))))
  all_goals first
    | (exfalso; omega)
    | (conv => whnf
       rw [e]
       refine endM_turn (turn_box (id := 0) (ds := pB L (a + 1) false) rfl rfl rfl (.cons (.refl _) (.cons (.refl _) (.cons (.refl _) .nil)))) ?_
       exact endM_pick [0] [some (boxRow (pB L (a + 1) false))] (.s (tkL L a).text) viewA rfl rfl (by rw [hX]; exact keepK (n := 1) rfl rfl) ⟨rfl, rfl⟩)
    | trace_state
set_option maxHeartbeats 4000000 in
theorem textJ_f (L : List Tok) (hL : LexOk L) (a : Nat) (ha : a < L.length) (hg : (tkL L a).kind = 1 → Ret env.P 81 [.s (tkL L a).text] (fun r => r = .b false)) : RetM env.P 77 [some (boxRow (pB L a false))] [.ptr 0 0 0, .i .i64 1, .fn 81 []] (fun r H => r = .s ⟨#[]⟩ ∧ H = [some (boxRow (pB L a true))]) := by
  have := hL.most
  refine ret_ofM (nt := 47) (rvs := [.tmp 6]) Try.func77 rfl rfl rfl rfl (fun X hX => ?_)
  repeat' (first | omega | (with_reducible show (_ : Int) < _; dsimp only; omega) | (with_reducible show (_ : Nat) ≤ _; dsimp only; omega) | ((with_reducible show SrcOk _ _ _) <;> (first | exact srcOk_1 rfl | exact srcOk_L (fun _ => ⟨rfl, rfl⟩) | exact srcOk_E (fun _ => ⟨rfl, rfl⟩))) | ((conv => whnf) <;> (first | refine And.intro ?_ ?_ | (intro _h; first | contradiction | (try simp only [dd] at _h)) | (refine dt_go ?_) | exact rfl | exact True.intro | exact dkk | exact dks | ((first | refine .inl ⟨_, hg ‹_›, ?_⟩ | refine ⟨_, hg ‹_›, ?_⟩); (try rintro _ rfl)) | (refine wrap_succ ?_; omega))))
  all_goals first
    | (exfalso; omega)
    | (conv => whnf
       refine endM_turn (turn_box (id := 0) (ds := pB L a true) rfl rfl rfl (.cons (.refl _) (.cons (.refl _) (.cons (.refl _) .nil)))) ?_
       exact endM_pick [0] [some (boxRow (pB L a true))] (.s ⟨#[]⟩) viewA rfl rfl (by rw [hX]; exact keepK (n := 1) rfl rfl) ⟨rfl, rfl⟩)
    | trace_state
set_option maxHeartbeats 4000000 in
theorem textJ_b (L : List Tok) (hL : LexOk L) (a : Nat) (ha : a < L.length) : RetM env.P 77 [some (boxRow (pB L a true))] [.ptr 0 0 0, .i .i64 1, .fn 81 []] (fun r H => r = .s ⟨#[]⟩ ∧ H = [some (boxRow (pB L a true))]) := by
  have := hL.most
  refine ret_ofM (nt := 47) (rvs := [.tmp 6]) Try.func77 rfl rfl rfl rfl (fun X hX => ?_)
  repeat' (first | omega | (with_reducible show (_ : Int) < _; dsimp only; omega) | (with_reducible show (_ : Nat) ≤ _; dsimp only; omega) | ((with_reducible show SrcOk _ _ _) <;> (first | exact srcOk_1 rfl | exact srcOk_L (fun _ => ⟨rfl, rfl⟩) | exact srcOk_E (fun _ => ⟨rfl, rfl⟩))) | ((conv => whnf) <;> (first | refine And.intro ?_ ?_ | (intro _h; first | contradiction | (try simp only [dd] at _h)) | (refine dt_go ?_) | exact rfl | exact True.intro | exact dkk | exact dks | (refine wrap_succ ?_; omega))))
  all_goals first
    | (exfalso; omega)
    | (conv => whnf
       refine endM_turn (turn_box (id := 0) (ds := pB L a true) rfl rfl rfl (.cons (.refl _) (.cons (.refl _) (.cons (.refl _) .nil)))) ?_
       exact endM_pick [0] [some (boxRow (pB L a true))] (.s ⟨#[]⟩) viewA rfl rfl (by rw [hX]; exact keepK (n := 1) rfl rfl) ⟨rfl, rfl⟩)
    | trace_state
theorem nameI_o (L : List Tok) (hL : LexOk L) (a : Nat) (ha : a < L.length) : RetM env.P 43 [some (boxRow (pB L a false))] [.ptr 0 0 0] (fun r H => (∃ w, pName L a = some (w, a + 1) ∧ a + 1 < L.length ∧ r = .s w ∧ H = [some (boxRow (pB L (a + 1) false))]) ∨ (pName L a = none ∧ r = .s ⟨#[]⟩ ∧ H = [some (boxRow (pB L a true))])) := by
  by_cases h : (tkL L a).kind = 1 ∧ nmB (tkL L a).text
  · refine ret_ofM (nt := 5) (rvs := [.tmp 2]) Try.func43 rfl rfl rfl rfl (fun X hX => ?_)
    repeat' (first | omega | (with_reducible show (_ : Int) < _; dsimp only; omega) | (with_reducible show (_ : Nat) ≤ _; dsimp only; omega) | ((with_reducible show SrcOk _ _ _) <;> (first | exact srcOk_1 rfl | exact srcOk_L (fun _ => ⟨rfl, rfl⟩) | exact srcOk_E (fun _ => ⟨rfl, rfl⟩))) | ((conv => whnf) <;> (first | refine And.intro ?_ ?_ | (intro _h; first | contradiction | (try simp only [dd] at _h)) | (refine dt_go ?_) | exact rfl | exact True.intro | exact dkk | exact dks | (refine .inr (.inl (.inl ⟨[0], _, _, _, textN_t L hL a ha h.1 (nameOk_t _ (hL.sz a ha) h.2), viewA, ⟨rfl, rfl⟩, ?_⟩)); (rintro _ _ ⟨rfl, rfl⟩) <;> (refine ⟨rfl, _, lokA, ?_⟩)) | (refine wrap_succ ?_; omega))))
    all_goals (conv => whnf)
    all_goals exact endM_self (.inl ⟨_, if_pos h, hL.lt ha (by rw [h.1]; decide), rfl, rfl⟩)
  · refine ret_ofM (nt := 5) (rvs := [.tmp 2]) Try.func43 rfl rfl rfl rfl (fun X hX => ?_)
    repeat' (first | omega | (with_reducible show (_ : Int) < _; dsimp only; omega) | (with_reducible show (_ : Nat) ≤ _; dsimp only; omega) | ((with_reducible show SrcOk _ _ _) <;> (first | exact srcOk_1 rfl | exact srcOk_L (fun _ => ⟨rfl, rfl⟩) | exact srcOk_E (fun _ => ⟨rfl, rfl⟩))) | ((conv => whnf) <;> (first | refine And.intro ?_ ?_ | (intro _h; first | contradiction | (try simp only [dd] at _h)) | (refine dt_go ?_) | exact rfl | exact True.intro | exact dkk | exact dks | (refine .inr (.inl (.inl ⟨[0], _, _, _, textN_f L hL a ha (fun q => nameOk_f _ (hL.sz a ha) (fun r => h ⟨q, r⟩)), viewA, ⟨rfl, rfl⟩, ?_⟩)); (rintro _ _ ⟨rfl, rfl⟩) <;> (refine ⟨rfl, _, lokA, ?_⟩)) | (refine wrap_succ ?_; omega))))
    all_goals (conv => whnf)
    all_goals exact endM_self (.inr ⟨if_neg h, rfl, rfl⟩)
theorem nameI_b (L : List Tok) (hL : LexOk L) (a : Nat) (ha : a < L.length) : RetM env.P 43 [some (boxRow (pB L a true))] [.ptr 0 0 0] (fun r H => r = .s ⟨#[]⟩ ∧ H = [some (boxRow (pB L a true))]) := by
  refine ret_ofM (nt := 5) (rvs := [.tmp 2]) Try.func43 rfl rfl rfl rfl (fun X hX => ?_)
  repeat' (first | omega | (with_reducible show (_ : Int) < _; dsimp only; omega) | (with_reducible show (_ : Nat) ≤ _; dsimp only; omega) | ((with_reducible show SrcOk _ _ _) <;> (first | exact srcOk_1 rfl | exact srcOk_L (fun _ => ⟨rfl, rfl⟩) | exact srcOk_E (fun _ => ⟨rfl, rfl⟩))) | ((conv => whnf) <;> (first | refine And.intro ?_ ?_ | (intro _h; first | contradiction | (try simp only [dd] at _h)) | (refine dt_go ?_) | exact rfl | exact True.intro | exact dkk | exact dks | (refine .inr (.inl (.inl ⟨[0], _, _, _, textN_b L hL a ha, viewA, ⟨rfl, rfl⟩, ?_⟩)); (rintro _ _ ⟨rfl, rfl⟩) <;> (refine ⟨rfl, _, lokA, ?_⟩)) | (refine wrap_succ ?_; omega))))
  all_goals (conv => whnf)
  all_goals exact endM_self ⟨rfl, rfl⟩
theorem identI_o (L : List Tok) (hL : LexOk L) (a : Nat) (ha : a < L.length) : RetM env.P 50 [some (boxRow (pB L a false))] [.ptr 0 0 0] (fun r H => (∃ w, pIdent L a = some (w, a + 1) ∧ a + 1 < L.length ∧ r = .s w ∧ H = [some (boxRow (pB L (a + 1) false))]) ∨ (pIdent L a = none ∧ r = .s ⟨#[]⟩ ∧ H = [some (boxRow (pB L a true))])) := by
  by_cases h : (tkL L a).kind = 1 ∧ nmB (tkL L a).text ∧ kdOf (tkL L a).text = 0
  · refine ret_ofM (nt := 5) (rvs := [.tmp 2]) Try.func50 rfl rfl rfl rfl (fun X hX => ?_)
    repeat' (first | omega | (with_reducible show (_ : Int) < _; dsimp only; omega) | (with_reducible show (_ : Nat) ≤ _; dsimp only; omega) | ((with_reducible show SrcOk _ _ _) <;> (first | exact srcOk_1 rfl | exact srcOk_L (fun _ => ⟨rfl, rfl⟩) | exact srcOk_E (fun _ => ⟨rfl, rfl⟩))) | ((conv => whnf) <;> (first | refine And.intro ?_ ?_ | (intro _h; first | contradiction | (try simp only [dd] at _h)) | (refine dt_go ?_) | exact rfl | exact True.intro | exact dkk | exact dks | (refine .inr (.inl (.inl ⟨[0], _, _, _, textJ_t L hL a ha h.1 (identOk_t _ (hL.sz a ha) h.2.1 h.2.2), viewA, ⟨rfl, rfl⟩, ?_⟩)); (rintro _ _ ⟨rfl, rfl⟩) <;> (refine ⟨rfl, _, lokA, ?_⟩)) | (refine wrap_succ ?_; omega))))
    all_goals (conv => whnf)
    all_goals exact endM_self (.inl ⟨_, if_pos h, hL.lt ha (by rw [h.1]; decide), rfl, rfl⟩)
  · refine ret_ofM (nt := 5) (rvs := [.tmp 2]) Try.func50 rfl rfl rfl rfl (fun X hX => ?_)
    repeat' (first | omega | (with_reducible show (_ : Int) < _; dsimp only; omega) | (with_reducible show (_ : Nat) ≤ _; dsimp only; omega) | ((with_reducible show SrcOk _ _ _) <;> (first | exact srcOk_1 rfl | exact srcOk_L (fun _ => ⟨rfl, rfl⟩) | exact srcOk_E (fun _ => ⟨rfl, rfl⟩))) | ((conv => whnf) <;> (first | refine And.intro ?_ ?_ | (intro _h; first | contradiction | (try simp only [dd] at _h)) | (refine dt_go ?_) | exact rfl | exact True.intro | exact dkk | exact dks | (refine .inr (.inl (.inl ⟨[0], _, _, _, textJ_f L hL a ha (fun q => identOk_f _ (hL.sz a ha) (fun r => h ⟨q, r⟩)), viewA, ⟨rfl, rfl⟩, ?_⟩)); (rintro _ _ ⟨rfl, rfl⟩) <;> (refine ⟨rfl, _, lokA, ?_⟩)) | (refine wrap_succ ?_; omega))))
    all_goals (conv => whnf)
    all_goals exact endM_self (.inr ⟨if_neg h, rfl, rfl⟩)
theorem identI_b (L : List Tok) (hL : LexOk L) (a : Nat) (ha : a < L.length) : RetM env.P 50 [some (boxRow (pB L a true))] [.ptr 0 0 0] (fun r H => r = .s ⟨#[]⟩ ∧ H = [some (boxRow (pB L a true))]) := by
  refine ret_ofM (nt := 5) (rvs := [.tmp 2]) Try.func50 rfl rfl rfl rfl (fun X hX => ?_)
  repeat' (first | omega | (with_reducible show (_ : Int) < _; dsimp only; omega) | (with_reducible show (_ : Nat) ≤ _; dsimp only; omega) | ((with_reducible show SrcOk _ _ _) <;> (first | exact srcOk_1 rfl | exact srcOk_L (fun _ => ⟨rfl, rfl⟩) | exact srcOk_E (fun _ => ⟨rfl, rfl⟩))) | ((conv => whnf) <;> (first | refine And.intro ?_ ?_ | (intro _h; first | contradiction | (try simp only [dd] at _h)) | (refine dt_go ?_) | exact rfl | exact True.intro | exact dkk | exact dks | (refine .inr (.inl (.inl ⟨[0], _, _, _, textJ_b L hL a ha, viewA, ⟨rfl, rfl⟩, ?_⟩)); (rintro _ _ ⟨rfl, rfl⟩) <;> (refine ⟨rfl, _, lokA, ?_⟩)) | (refine wrap_succ ?_; omega))))
  all_goals (conv => whnf)
  all_goals exact endM_self ⟨rfl, rfl⟩
end
end Go.Proofs.Ytllcemegnggpfaa
