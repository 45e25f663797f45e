/- Texts for VReadTermP. -/
import Derived.Test.YtllcemegnggpfaaVr23
namespace Go.Proofs.Ytllcemegnggpfaa
open Go Go.RowKit
set_option linter.unusedVariables false
set_option linter.unusedSimpArgs false
set_option maxRecDepth 8000
structure Term where
  kind : Int
  name : ByteArray
  labels : List ByteArray
  kids : List Term
instance : Inhabited Term := ⟨⟨0, ByteArray.empty, [], []⟩⟩
noncomputable instance : DecidableEq Term := fun a b => Classical.propDecidable (a = b)
noncomputable def Term.pN (n : Nat) : Term → List AV := Nat.rec (motive := fun _ => Term → List AV) (fun _ => []) (fun _ ih a => [.i .i64 a.kind, .s a.name, slL 1 strC a.labels, slL 4 ih a.kids]) n
noncomputable def Term.kd (a : Term) : Nat := Term.rec (motive_1 := fun _ => Nat) (motive_2 := fun _ => Nat) (fun _ _ _ _ ih => ih) 0 (fun _ _ x y => Nat.max (x + 1) y) a
noncomputable def Term.cs (a : Term) : List AV := Term.pN (a.kd + 1) a
theorem Term.low (a : Term) : a.cs.all (low1 0) = true := rfl
theorem Term.eta {a b : Term} (h0 : a.kind = b.kind) (h1 : a.name = b.name) (h2 : a.labels = b.labels) (h3 : a.kids = b.kids) : a = b := by cases a; cases b; simp_all
def Term.fN (n : Nat) : Term → Prop := Nat.rec (motive := fun _ => Term → Prop) (fun _ => False) (fun _ ih a => ∀ x ∈ a.kids, ih x) n
theorem Term.fN_nil {l : List Term} (h : ∀ x ∈ l, Term.fN 0 x) : l = [] := by
  cases l with
  | nil => rfl
  | cons x xs => exact (h x List.mem_cons_self).elim
def Term.oN (n : Nat) : Term → Prop := Nat.rec (motive := fun _ => Term → Prop) (fun _ => False) (fun _ ih a => okS a.name ∧ (okL okS) a.labels ∧ okL ih a.kids) n
def Term.ok (a : Term) : Prop := Term.oN (a.kd + 1) a
theorem Term.oN_nil {l : List Term} (h : okL (Term.oN 0) l) : l = [] := by
  cases l with
  | nil => rfl
  | cons x xs => exact (h.2 0 (Nat.succ_pos _)).elim
theorem Term.oN_fN : ∀ (n : Nat) (a : Term), Term.oN n a → Term.fN n a
  | 0, a, h => h.elim
  | n + 1, a, h => fun x hx => by
    obtain ⟨k, hk, rfl⟩ := List.getElem_of_mem hx
    have := h.2.2.2 k hk
    rw [List.getD_eq_getElem?_getD, List.getElem?_eq_getElem hk] at this
    exact Term.oN_fN n _ this
theorem Term.wget {xs ys : List AV} (h : WkL xs ys) (j : Nat) : Wk (xs.getD j .any) (ys.getD j .any) := by
  rw [List.getD_eq_getElem?_getD, List.getD_eq_getElem?_getD]
  cases hx : xs[j]? with
  | none =>
    have : ys[j]? = none := by
      rw [List.getElem?_eq_none_iff] at hx ⊢
      rw [← h.1]; exact hx
    rw [this]
    exact .refl _
  | some x =>
    have hl : j < ys.length := by rw [← h.1]; exact (List.getElem?_eq_some_iff.1 hx).1
    rw [List.getElem?_eq_getElem hl]
    exact h.2 j x _ hx (List.getElem?_eq_getElem hl)
theorem Term.getD_mem0 {l : List Term} {k : Nat} (h : k < l.length) : l.getD k default ∈ l := by
  rw [List.getD_eq_getElem?_getD, List.getElem?_eq_getElem h]
  exact List.getElem_mem h
theorem Term.conv : ∀ (n m : Nat) (a : Term), Term.fN n a → Term.fN m a → WkL (Term.pN n a) (Term.pN m a)
  | 0, m, a, h, _ => h.elim
  | n + 1, 0, a, _, h => h.elim
  | n + 1, m + 1, a, h, k => .cons (.refl _) (.cons (.refl _) (.cons (.refl _) (.cons (Wk.sl fun i j hi hj => Term.wget (Term.conv n m _ (h _ (Term.getD_mem0 hi)) (k _ (Term.getD_mem0 hi))) j) .nil)))
theorem eqTermS_0l (c : Term → List AV) (m : List Term) : Ret env.P 25 [slL 4 (Term.pN 0) [], slL 4 c m] (fun r => r = .b (decide ([] = m))) := by
  have hl0 : ([] : List Term).length = 0 := rfl
  refine ret_of (nt := 27) (rvs := [.tmp 4]) Try.func25 rfl rfl rfl rfl (fun X => ?_)
  repeat' (first | omega | (with_reducible show (_ : Int) < _; dsimp only; omega) | (with_reducible show (_ : Nat) ≤ _; dsimp only; omega) | ((with_reducible show SrcOk _ _ _) <;> (first | exact srcOk_1 rfl | exact srcOk_L (fun _ => ⟨rfl, rfl⟩) | exact srcOk_E (fun _ => ⟨rfl, rfl⟩))) | ((conv => whnf) <;> (first | exact upto_succ (by assumption) (by assumption) | refine loopN ([] : List Term).length (fun k => [(5, .i .i64 k)]) (fun k => []) (fun k => ∀ j, j < k → ([] : List Term).getD j default = m.getD j default) ⟨fun _ h => by omega, ?_⟩ | refine And.intro ?_ ?_ | (intro _h; first | contradiction | (try simp only [dd] at _h)) | (refine dt_go ?_) | exact rfl | exact True.intro | exact dkk | exact dks | (refine wrap_succ ?_; omega))))
  all_goals first
    | exact leaf_ne (by rintro rfl; contradiction)
    | exact leaf_ne (by rintro rfl; omega)
    | (refine leaf_eq ?_; cases m with | nil => rfl | cons x xs => (try simp at *); omega)
theorem eqTermS_0r (c : Term → List AV) (l : List Term) : Ret env.P 25 [slL 4 c l, slL 4 (Term.pN 0) []] (fun r => r = .b (decide (l = []))) := by
  have hl0 : ([] : List Term).length = 0 := rfl
  cases l with
  | nil =>
    refine ret_of (nt := 27) (rvs := [.tmp 4]) Try.func25 rfl rfl rfl rfl (fun X => ?_)
    repeat' (first | omega | (with_reducible show (_ : Int) < _; dsimp only; omega) | (with_reducible show (_ : Nat) ≤ _; dsimp only; omega) | ((with_reducible show SrcOk _ _ _) <;> (first | exact srcOk_1 rfl | exact srcOk_L (fun _ => ⟨rfl, rfl⟩) | exact srcOk_E (fun _ => ⟨rfl, rfl⟩))) | ((conv => whnf) <;> (first | exact upto_succ (by assumption) (by assumption) | refine loopN ([] : List Term).length (fun k => [(5, .i .i64 k)]) (fun k => []) (fun k => True) ⟨trivial, ?_⟩ | refine And.intro ?_ ?_ | (intro _h; first | contradiction | (try simp only [dd] at _h)) | (refine dt_go ?_) | exact rfl | exact True.intro | exact dkk | exact dks | (refine wrap_succ ?_; omega))))
    all_goals first
      | exact leaf_eq rfl
      | (exfalso; simp at *; done)
  | cons x xs =>
    refine ret_of (nt := 27) (rvs := [.tmp 4]) Try.func25 rfl rfl rfl rfl (fun X => ?_)
    repeat' (first | omega | (with_reducible show (_ : Int) < _; dsimp only; omega) | (with_reducible show (_ : Nat) ≤ _; dsimp only; omega) | ((with_reducible show SrcOk _ _ _) <;> (first | exact srcOk_1 rfl | exact srcOk_L (fun _ => ⟨rfl, rfl⟩) | exact srcOk_E (fun _ => ⟨rfl, rfl⟩))) | ((conv => whnf) <;> (first | refine And.intro ?_ ?_ | (intro _h; first | contradiction | (try simp only [dd] at _h)) | (refine dt_go ?_) | exact rfl | exact True.intro | exact dkk | exact dks | (refine wrap_succ ?_; omega))))
    all_goals first
      | exact leaf_ne (by intro h; cases h)
      | (exfalso; simp at *; done)
      | (exfalso; simp at *; omega)
theorem eqTermS_g (g g' : Term → Nat) (l m : List Term) (hl : l.length ≤ 1048576) (hc : ∀ k, k < l.length → l.length = m.length → Ret env.P 9 [.agg (Term.pN (g (l.getD k default) + 1) (l.getD k default)), .agg (Term.pN (g' (m.getD k default) + 1) (m.getD k default))] (fun r => r = .b (decide ((l.getD k default) = (m.getD k default))))) : Ret env.P 25 [slL 4 (fun a => Term.pN (g a + 1) a) l, slL 4 (fun a => Term.pN (g' a + 1) a) m] (fun r => r = .b (decide (l = m))) := by
  refine ret_of (nt := 27) (rvs := [.tmp 4]) Try.func25 rfl rfl rfl rfl (fun X => ?_)
  repeat' (first | omega | (with_reducible show (_ : Int) < _; dsimp only; omega) | (with_reducible show (_ : Nat) ≤ _; dsimp only; omega) | ((with_reducible show SrcOk _ _ _) <;> (first | exact srcOk_1 rfl | exact srcOk_L (fun _ => ⟨rfl, rfl⟩) | exact srcOk_E (fun _ => ⟨rfl, rfl⟩))) | ((conv => whnf) <;> (first | exact upto_succ (by assumption) (by assumption) | refine loopN l.length (fun k => [(5, .i .i64 k)]) (fun k => []) (fun k => ∀ j, j < k → l.getD j default = m.getD j default) ⟨fun _ h => by omega, ?_⟩ | refine And.intro ?_ ?_ | (intro _h; first | contradiction | (try simp only [dd] at _h)) | (refine dt_go ?_) | exact rfl | exact True.intro | exact dkk | exact dks | ((first | refine .inl ⟨_, hc _ (by omega) (by omega), ?_⟩ | refine ⟨_, hc _ (by omega) (by omega), ?_⟩); (try rintro _ rfl)) | (refine wrap_succ ?_; omega))))
  · exact leaf_ne (by rintro rfl; omega)
  · exact leaf_ne (by rintro rfl; contradiction)
  · exact leaf_eq (list_eq (by omega) fun j hj => by have := ‹∀ j, j < _ → l.getD j default = m.getD j default›; exact this j (by omega))
theorem eqTerm_m (m : Nat) : ∀ a : Term, Term.oN (m + 1) a → ∀ (m' : Nat) (b : Term), Term.fN (m' + 1) b → Ret env.P 9 [.agg (Term.pN (m + 1) a), .agg (Term.pN (m' + 1) b)] (fun r => r = .b (decide (a = b))) := by
  induction m with
  | zero =>
    intro a h m' b hb
    have hk := Term.oN_nil (h.2.2)
    obtain ⟨a0, a1, a2, ks⟩ := a
    obtain ⟨b0, b1, b2, ls⟩ := b
    dsimp only at hk
    subst hk
    refine ret_of (nt := 27) (rvs := [.tmp 4]) Try.func9 rfl rfl rfl rfl (fun X => ?_)
    repeat' (first | omega | (with_reducible show (_ : Int) < _; dsimp only; omega) | (with_reducible show (_ : Nat) ≤ _; dsimp only; omega) | ((with_reducible show SrcOk _ _ _) <;> (first | exact srcOk_1 rfl | exact srcOk_L (fun _ => ⟨rfl, rfl⟩) | exact srcOk_E (fun _ => ⟨rfl, rfl⟩))) | ((conv => whnf) <;> (first | refine And.intro ?_ ?_ | (intro _h; first | contradiction | (try simp only [dd] at _h)) | (refine dt_go ?_) | exact rfl | exact True.intro | exact dkk | exact dks | ((first | refine .inl ⟨_, eqStringS_ok _ _ (h.2.1), ?_⟩ | refine ⟨_, eqStringS_ok _ _ (h.2.1), ?_⟩); (try rintro _ rfl)) | ((first | refine .inl ⟨_, eqTermS_0l (Term.pN m') ls, ?_⟩ | refine ⟨_, eqTermS_0l (Term.pN m') ls, ?_⟩); (try rintro _ rfl)) | (refine wrap_succ ?_; omega))))
    all_goals (clear h; refine leaf_b ?_; simp_all)
  | succ m ih =>
    intro a h m' b hb
    cases m' with
    | zero =>
      have hk := Term.fN_nil hb
      obtain ⟨a0, a1, a2, ks⟩ := a
      obtain ⟨b0, b1, b2, ls⟩ := b
      dsimp only at hk
      subst hk
      refine ret_of (nt := 27) (rvs := [.tmp 4]) Try.func9 rfl rfl rfl rfl (fun X => ?_)
      repeat' (first | omega | (with_reducible show (_ : Int) < _; dsimp only; omega) | (with_reducible show (_ : Nat) ≤ _; dsimp only; omega) | ((with_reducible show SrcOk _ _ _) <;> (first | exact srcOk_1 rfl | exact srcOk_L (fun _ => ⟨rfl, rfl⟩) | exact srcOk_E (fun _ => ⟨rfl, rfl⟩))) | ((conv => whnf) <;> (first | refine And.intro ?_ ?_ | (intro _h; first | contradiction | (try simp only [dd] at _h)) | (refine dt_go ?_) | exact rfl | exact True.intro | exact dkk | exact dks | ((first | refine .inl ⟨_, eqStringS_ok _ _ (h.2.1), ?_⟩ | refine ⟨_, eqStringS_ok _ _ (h.2.1), ?_⟩); (try rintro _ rfl)) | ((first | refine .inl ⟨_, eqTermS_0r (Term.pN (m + 1)) ks, ?_⟩ | refine ⟨_, eqTermS_0r (Term.pN (m + 1)) ks, ?_⟩); (try rintro _ rfl)) | (refine wrap_succ ?_; omega))))
      all_goals (clear h; refine leaf_b ?_; simp_all)
    | succ m' =>
      have hk := h.2.2
      obtain ⟨a0, a1, a2, ks⟩ := a
      obtain ⟨b0, b1, b2, ls⟩ := b
      have hq : ∀ k, k < ks.length → ks.length = ls.length → Ret env.P 9 [.agg (Term.pN (m + 1) (ks.getD k default)), .agg (Term.pN (m' + 1) (ls.getD k default))] (fun r => r = .b (decide (ks.getD k default = ls.getD k default))) := fun k hlt he => ih _ (hk.2 k hlt) m' _ (hb _ (by
        have h2 : k < ls.length := by omega
        show ls.getD k default ∈ ls
        rw [List.getD_eq_getElem?_getD, List.getElem?_eq_getElem h2]
        exact List.getElem_mem h2))
      refine ret_of (nt := 27) (rvs := [.tmp 4]) Try.func9 rfl rfl rfl rfl (fun X => ?_)
      repeat' (first | omega | (with_reducible show (_ : Int) < _; dsimp only; omega) | (with_reducible show (_ : Nat) ≤ _; dsimp only; omega) | ((with_reducible show SrcOk _ _ _) <;> (first | exact srcOk_1 rfl | exact srcOk_L (fun _ => ⟨rfl, rfl⟩) | exact srcOk_E (fun _ => ⟨rfl, rfl⟩))) | ((conv => whnf) <;> (first | refine And.intro ?_ ?_ | (intro _h; first | contradiction | (try simp only [dd] at _h)) | (refine dt_go ?_) | exact rfl | exact True.intro | exact dkk | exact dks | ((first | refine .inl ⟨_, eqStringS_ok _ _ (h.2.1), ?_⟩ | refine ⟨_, eqStringS_ok _ _ (h.2.1), ?_⟩); (try rintro _ rfl)) | ((first | refine .inl ⟨_, eqTermS_g (fun _ => m) (fun _ => m') ks ls hk.1 hq, ?_⟩ | refine ⟨_, eqTermS_g (fun _ => m) (fun _ => m') ks ls hk.1 hq, ?_⟩); (try rintro _ rfl)) | (refine wrap_succ ?_; omega))))
      all_goals (clear hq hk h hb ih; refine leaf_b ?_; simp_all)
noncomputable def Term.zN (n : Nat) : Term → Int → Int := Nat.rec (motive := fun _ => Term → Int → Int) (fun _ _ => -1) (fun _ ih a left => if (szSt a.name left) < 0 then -1 else if ((szLs szSt) a.labels (szSt a.name left)) < 0 then -1 else if (szLs ih a.kids ((szLs szSt) a.labels (szSt a.name left))) < 0 then -1 else (szLs ih a.kids ((szLs szSt) a.labels (szSt a.name left)))) n
noncomputable def Term.sz (a : Term) (left : Int) : Int := Term.zN (a.kd + 1) a left
section
attribute [local irreducible] IntKind.wrap
theorem wk1 {n : Nat} (h0 : 1 ≤ n) (h1 : n ≤ 1048576) : IntKind.i64.wrap ((n : Int) - 1) = ((n - 1 : Nat) : Int) := by
  rw [wrap_in (by omega) (by omega)]
  omega
theorem kp {b : ByteArray} {k : Nat} (h : (((b.data.getD k 0).toNat : Nat) : Int) = 45) (h0 : ¬ (((b.data.getD 0 0).toNat : Nat) : Int) < 97) : 1 ≤ k := by
  rcases k with _ | k
  · omega
  · omega
theorem kpw {b : ByteArray} {k : Nat} (hw : NmTo b k) (h : (((b.data.getD k 0).toNat : Nat) : Int) = 45) (h0 : 0 < k ∨ ¬ (((b.data.getD 0 0).toNat : Nat) : Int) < 97) : 1 ≤ k := by
  rcases k with _ | k
  · omega
  · omega
theorem wk1w {b : ByteArray} {n : Nat} (hw : NmTo b n) (h0 : 1 ≤ n) (h1 : n ≤ 1048576) : IntKind.i64.wrap ((n : Int) - 1) = ((n - 1 : Nat) : Int) := wk1 h0 h1
theorem nm_fst {b : ByteArray} {k : Nat} (h : 0 < k ∨ (97 ≤ (((b.data.getD 0 0).toNat : Nat) : Int) ∧ (((b.data.getD 0 0).toNat : Nat) : Int) ≤ 122) ∨ (97 ≤ (((b.data.getD k 0).toNat : Nat) : Int) ∧ (((b.data.getD k 0).toNat : Nat) : Int) ≤ 122)) : k = 0 → chA (byA b k) := fun e => by
  subst e
  unfold chA byA
  omega
theorem nm_z {b : ByteArray} {k : Nat} (hw : NmTo b k) (hk : k = 0) (h : ¬ (97 ≤ (((b.data.getD k 0).toNat : Nat) : Int) ∧ (((b.data.getD k 0).toNat : Nat) : Int) ≤ 122)) : ¬ nmB b := fun q => by
  subst hk
  have := q.fst
  unfold chA byA at this
  omega
theorem nm_end {b : ByteArray} {k : Nat} (hw : NmTo b k) (hk : k = b.size) (h1 : 1 ≤ b.size) (h2 : b.size ≤ 12) : (!decide ((((b.data.getD (b.size - 1) 0).toNat : Nat) : Int) = 45)) = pb (nmB b) := by
  subst hk
  have h0 := hw.h 0 (by omega)
  have h1' := h0.2.2 rfl
  by_cases q : (((b.data.getD (b.size - 1) 0).toNat : Nat) : Int) = 45
  · rw [decide_eq_true q, pb_f.mpr (fun r => r.last (by unfold byA; omega))]; rfl
  · rw [decide_eq_false q, pb_t.mpr ⟨h1, h2, h1', by unfold byA; omega, hw⟩]; rfl
theorem nm_no {b : ByteArray} {k : Nat} (hw : NmTo b k) (hk : k < b.size) (h : ¬ (chB (byA b k) ∧ (byA b k = 45 → 0 < k ∧ byA b (k - 1) ≠ 45))) : ¬ nmB b := fun q => h ⟨(q.all.h k hk).1, (q.all.h k hk).2.1⟩
theorem nm_ok {b : ByteArray} {k : Nat} (hw : NmTo b k) (hk : k = b.size) (h1 : 1 ≤ b.size) (h2 : b.size ≤ 12) (h3 : chA (byA b 0)) (h4 : byA b (b.size - 1) ≠ 45) : nmB b := ⟨h1, h2, h3, h4, hk ▸ hw⟩
set_option maxRecDepth 8000 in
set_option maxHeartbeats 1000000 in
theorem l03Name_ok (b : ByteArray) (hs : b.size ≤ 1048576) : Ret env.P 105 [.s b] (fun r => r = .b (pb (nmB b))) := by
  refine ret_of (nt := 69) (rvs := [.tmp 2]) Try.func105 rfl rfl rfl rfl (fun X => ?_)
  repeat' (first | omega | (with_reducible show (_ : Int) < _; dsimp only; omega) | (with_reducible show (_ : Nat) ≤ _; dsimp only; omega) | ((with_reducible show SrcOk _ _ _) <;> (first | exact srcOk_1 rfl | exact srcOk_L (fun _ => ⟨rfl, rfl⟩) | exact srcOk_E (fun _ => ⟨rfl, rfl⟩))) | ((conv => whnf) <;> (first | refine loopN b.size (fun k => [(3, .i .i64 k)]) (fun k => []) (fun k => NmTo b k) ⟨.zero b, ?_⟩ | refine And.intro ?_ ?_ | (intro _h; first | contradiction | (try simp only [dd] at _h)) | (refine dt_go ?_) | exact rfl | exact True.intro | exact dkk | exact dks | (refine wrap_succ ?_; omega))))
  all_goals (try simp only [Int.toNat_natCast, Int.toNat_zero] at *)
  all_goals first
    | (rw [wk1 (by omega) (by omega)]; omega)
    | (have hk := kpw ‹NmTo b _› (by omega) (by omega)
       rw [wk1w ‹NmTo b _› hk (by omega)]; omega)
    | exact NmTo.succ ‹_› (by unfold chB byA; omega) (by unfold byA; omega) (nm_fst (by omega))
    | (have hk := kpw ‹NmTo b _› (by omega) (by omega)
       rw [wk1w ‹NmTo b _› hk (by omega), Int.toNat_natCast] at *
       exact NmTo.succ ‹_› (by unfold chB byA; omega) (by unfold byA; omega) (nm_fst (by omega)))
    | (conv => whnf
       exact leaf_f (nm_z ‹NmTo b _› (by omega) (by omega)))
    | (conv => whnf
       exact leaf_f (nm_no ‹NmTo b _› (by omega) (by unfold chB byA; omega)))
    | (conv => whnf
       have hk := kpw ‹NmTo b _› (by omega) (by omega)
       rw [wk1w ‹NmTo b _› hk (by omega), Int.toNat_natCast] at *
       exact leaf_f (nm_no ‹NmTo b _› (by omega) (by unfold chB byA; omega)))
    | (conv => whnf
       refine leaf_f fun q => ?_
       have q1 := q.lo
       have q2 := q.hi
       have q3 := q.fst
       have q4 := q.last
       unfold chA byA at q3
       unfold byA at q4
       first
         | omega
         | (rw [wk1 (n := b.size) (by omega) (by omega), Int.toNat_natCast] at *; omega))
    | (conv => whnf
       refine leaf_t (nm_ok ‹NmTo b _› (by omega) (by omega) (by omega) (by unfold chA byA; omega) (by unfold byA; rw [wk1 (n := b.size) (by omega) (by omega), Int.toNat_natCast] at *; omega)))
    | (conv => whnf
       rw [wk1 (n := b.size) (by omega) (by omega), Int.toNat_natCast]
       exact leaf_b (nm_end ‹NmTo b _› (by omega) (by omega) (by omega)))
    | (conv => whnf
       trace_state)
set_option maxRecDepth 8000 in
set_option maxHeartbeats 1000000 in
theorem nameOk_ok (b : ByteArray) (hs : b.size ≤ 1048576) : Ret env.P 78 [.s b] (fun r => r = .b (pb (nmB b))) := by
  refine ret_of (nt := 75) (rvs := [.tmp 2]) Try.func78 rfl rfl rfl rfl (fun X => ?_)
  repeat' (first | omega | (with_reducible show (_ : Int) < _; dsimp only; omega) | (with_reducible show (_ : Nat) ≤ _; dsimp only; omega) | ((with_reducible show SrcOk _ _ _) <;> (first | exact srcOk_1 rfl | exact srcOk_L (fun _ => ⟨rfl, rfl⟩) | exact srcOk_E (fun _ => ⟨rfl, rfl⟩))) | ((conv => whnf) <;> (first | refine loopN b.size (fun k => [(8, .i .i64 k)]) (fun k => []) (fun k => NmTo b k) ⟨.zero b, ?_⟩ | refine And.intro ?_ ?_ | (intro _h; first | contradiction | (try simp only [dd] at _h)) | (refine dt_go ?_) | exact rfl | exact True.intro | exact dkk | exact dks | (refine wrap_succ ?_; omega))))
  all_goals (try simp only [Int.toNat_natCast, Int.toNat_zero] at *)
  all_goals first
    | (rw [wk1 (by omega) (by omega)]; omega)
    | (have hk := kpw ‹NmTo b _› (by omega) (by omega)
       rw [wk1w ‹NmTo b _› hk (by omega)]; omega)
    | exact NmTo.succ ‹_› (by unfold chB byA; omega) (by unfold byA; omega) (nm_fst (by omega))
    | (have hk := kpw ‹NmTo b _› (by omega) (by omega)
       rw [wk1w ‹NmTo b _› hk (by omega), Int.toNat_natCast] at *
       exact NmTo.succ ‹_› (by unfold chB byA; omega) (by unfold byA; omega) (nm_fst (by omega)))
    | (conv => whnf
       exact leaf_f (nm_z ‹NmTo b _› (by omega) (by omega)))
    | (conv => whnf
       exact leaf_f (nm_no ‹NmTo b _› (by omega) (by unfold chB byA; omega)))
    | (conv => whnf
       have hk := kpw ‹NmTo b _› (by omega) (by omega)
       rw [wk1w ‹NmTo b _› hk (by omega), Int.toNat_natCast] at *
       exact leaf_f (nm_no ‹NmTo b _› (by omega) (by unfold chB byA; omega)))
    | (conv => whnf
       refine leaf_f fun q => ?_
       have q1 := q.lo
       have q2 := q.hi
       have q3 := q.fst
       have q4 := q.last
       unfold chA byA at q3
       unfold byA at q4
       first
         | omega
         | (rw [wk1 (n := b.size) (by omega) (by omega), Int.toNat_natCast] at *; omega))
    | (conv => whnf
       refine leaf_t (nm_ok ‹NmTo b _› (by omega) (by omega) (by omega) (by unfold chA byA; omega) (by unfold byA; rw [wk1 (n := b.size) (by omega) (by omega), Int.toNat_natCast] at *; omega)))
    | (conv => whnf
       rw [wk1 (n := b.size) (by omega) (by omega), Int.toNat_natCast]
       exact leaf_b (nm_end ‹NmTo b _› (by omega) (by omega) (by omega)))
    | (conv => whnf
       trace_state)
structure LbTo (l : List ByteArray) (k : Nat) : Prop where
  h : ∀ j, j < k → nmB (l.getD j default) ∧ ∀ i, i < j → l.getD i default ≠ l.getD j default
theorem LbTo.zero (l : List ByteArray) : LbTo l 0 := ⟨fun j hj => absurd hj (Nat.not_lt_zero _)⟩
structure NeTo (l : List ByteArray) (j k : Nat) : Prop where
  h : ∀ i, i < k → l.getD i default ≠ l.getD j default
theorem NeTo.zero (l : List ByteArray) (j : Nat) : NeTo l j 0 := ⟨fun i hi => absurd hi (Nat.not_lt_zero _)⟩
theorem NeTo.succ {l : List ByteArray} {j k : Nat} (h : NeTo l j k) (h1 : ¬ l.getD k default = l.getD j default) : NeTo l j (k + 1) := ⟨fun i hi => by
  rcases Nat.lt_or_eq_of_le (Nat.le_of_lt_succ hi) with r | rfl
  · exact h.h i r
  · exact h1⟩
theorem LbTo.succ {l : List ByteArray} {k m : Nat} (h : LbTo l k) (h1 : nmB (l.getD k default)) (h2 : NeTo l k m) (hm : m = k) : LbTo l (k + 1) := ⟨fun j hj => by
  subst hm
  rcases Nat.lt_or_eq_of_le (Nat.le_of_lt_succ hj) with r | rfl
  · exact h.h j r
  · exact ⟨h1, h2.h⟩⟩
end
section
def kwT : List ByteArray := [⟨#[117, 110, 105, 116]⟩, ⟨#[98, 111, 111, 108]⟩, ⟨#[117, 56]⟩, ⟨#[115, 56]⟩, ⟨#[117, 49, 54]⟩, ⟨#[115, 49, 54]⟩, ⟨#[117, 51, 50]⟩, ⟨#[115, 51, 50]⟩, ⟨#[115, 54, 52]⟩, ⟨#[99, 104, 97, 114]⟩, ⟨#[116, 101, 120, 116]⟩, ⟨#[108, 105, 115, 116]⟩, ⟨#[111, 112, 116, 105, 111, 110]⟩, ⟨#[114, 101, 115, 117, 108, 116]⟩, ⟨#[116, 117, 112, 108, 101]⟩, ⟨#[114, 101, 99, 111, 114, 100]⟩, ⟨#[118, 97, 114, 105, 97, 110, 116]⟩, ⟨#[101, 110, 117, 109]⟩, ⟨#[102, 108, 97, 103, 115]⟩, ⟨#[111, 119, 110]⟩, ⟨#[98, 111, 114, 114, 111, 119]⟩, ⟨#[115, 116, 114, 101, 97, 109]⟩, ⟨#[102, 117, 116, 117, 114, 101]⟩]
def kdOf (w : ByteArray) : Int := match kwT.findIdx? (fun x => decide (x = w)) with
  | some i => ((i + 1 : Nat) : Int)
  | none => 0
theorem kd_rng (w : ByteArray) : 0 ≤ kdOf w ∧ kdOf w ≤ 23 := by
  unfold kdOf
  split
  · rename_i i h
    have := (List.findIdx?_eq_some_iff_getElem.1 h).1
    have e : kwT.length = 23 := rfl
    omega
  · omega
structure LexOk (L : List Tok) : Prop where
  pos : 1 ≤ L.length
  most : L.length ≤ 4001
  last : (L.getD (L.length - 1) default).kind = 4
  rest : ∀ i, i + 1 < L.length → 1 ≤ (L.getD i default).kind ∧ (L.getD i default).kind ≤ 3
  num : ∀ i, i < L.length → (L.getD i default).kind = 2 → isDg (byI (L.getD i default).text 0)
  sz : ∀ i, i < L.length → (L.getD i default).text.size ≤ 30000
def tkL (L : List Tok) (i : Nat) : Tok := L.getD i default
def isT (L : List Tok) (t : ByteArray) (i : Nat) : Prop := ¬ (tkL L i).kind = 4 ∧ (tkL L i).text = t
theorem LexOk.lt {L : List Tok} (h : LexOk L) {i : Nat} (hi : i < L.length) (hk : ¬ (tkL L i).kind = 4) : i + 1 < L.length := by
  apply Classical.byContradiction
  intro hc
  have e : i = L.length - 1 := by omega
  exact hk (e ▸ h.last)
theorem LexOk.isT_lt {L : List Tok} (h : LexOk L) {t : ByteArray} {i : Nat} (hi : i < L.length) (hk : isT L t i) : i + 1 < L.length := h.lt hi hk.1
open Classical in
noncomputable def pNeed (L : List Tok) (t : ByteArray) (i : Nat) : Option Nat := if isT L t i then some (i + 1) else none
open Classical in
noncomputable def pName (L : List Tok) (i : Nat) : Option (ByteArray × Nat) := if (tkL L i).kind = 1 ∧ nmB (tkL L i).text then some ((tkL L i).text, i + 1) else none
open Classical in
noncomputable def pIdent (L : List Tok) (i : Nat) : Option (ByteArray × Nat) := if (tkL L i).kind = 1 ∧ nmB (tkL L i).text ∧ kdOf (tkL L i).text = 0 then some ((tkL L i).text, i + 1) else none
def unitM : Term := ⟨1, ⟨#[]⟩, [], []⟩
open Classical in
noncomputable def pList (L : List Tok) (P : Nat → Option (Term × Nat)) : Nat → List Term → Nat → Option (List Term × Nat)
  | 0, acc, i => match P i with
    | none => none
    | some (t, i) => if isT L ⟨#[62]⟩ i then some (acc ++ [t], i + 1) else none
  | m + 1, acc, i => match P i with
    | none => none
    | some (t, i) => if isT L ⟨#[62]⟩ i then some (acc ++ [t], i + 1) else match pNeed L ⟨#[44]⟩ i with
      | none => none
      | some i => pList L P m (acc ++ [t]) i
open Classical in
noncomputable def pRes0 (L : List Tok) (P : Nat → Option (Term × Nat)) (i : Nat) : Option (Term × Nat) := if isT L ⟨#[95]⟩ i then some (unitM, i + 1) else P i
open Classical in
noncomputable def pRes1 (L : List Tok) (P : Nat → Option (Term × Nat)) (i : Nat) : Option (Term × Nat) := if isT L ⟨#[44]⟩ i then P (i + 1) else some (unitM, i)
open Classical in
noncomputable def pRes (L : List Tok) (P : Nat → Option (Term × Nat)) (i : Nat) : Option (List Term × Nat) :=
  if isT L ⟨#[60]⟩ i then match pRes0 L P (i + 1) with
    | none => none
    | some (t0, i) => match pRes1 L P i with
      | none => none
      | some (t1, i) => match pNeed L ⟨#[62]⟩ i with
        | none => none
        | some i => some ([t0, t1], i)
  else some ([unitM, unitM], i)
open Classical in
noncomputable def pLab (L : List Tok) (P : Nat → Option (Term × Nat)) (k : Int) (i : Nat) : Option (List Term × Nat) :=
  if k = 16 then match pNeed L ⟨#[58]⟩ i with
    | none => none
    | some i => match P i with
      | none => none
      | some (t, i) => some ([t], i)
  else if k = 17 then if isT L ⟨#[40]⟩ i then match P (i + 1) with
      | none => none
      | some (t, i) => match pNeed L ⟨#[41]⟩ i with
        | none => none
        | some i => some ([t], i)
    else some ([unitM], i)
  else some ([], i)
open Classical in
noncomputable def pLabs (L : List Tok) (P : Nat → Option (Term × Nat)) (k : Int) : Nat → List ByteArray → List Term → Nat → Option ((List ByteArray × List Term) × Nat)
  | 0, ls, ts, i => match pName L i with
    | none => none
    | some (w, i) => match pLab L P k i with
      | none => none
      | some (t, i) => if isT L ⟨#[125]⟩ i then some ((ls ++ [w], ts ++ t), i + 1) else none
  | m + 1, ls, ts, i => match pName L i with
    | none => none
    | some (w, i) => match pLab L P k i with
      | none => none
      | some (t, i) => if isT L ⟨#[125]⟩ i then some ((ls ++ [w], ts ++ t), i + 1) else match pNeed L ⟨#[44]⟩ i with
        | none => none
        | some i => pLabs L P k m (ls ++ [w]) (ts ++ t) i
noncomputable def pRest (L : List Tok) (P : Nat → Option (Term × Nat)) (k : Int) (i : Nat) : Option (Term × Nat) :=
  if k ≤ 11 then some (⟨k, ⟨#[]⟩, [], []⟩, i)
  else if k = 12 ∨ k = 13 ∨ k = 22 ∨ k = 23 then match pNeed L ⟨#[60]⟩ i with
    | none => none
    | some i => match P i with
      | none => none
      | some (t, i) => match pNeed L ⟨#[62]⟩ i with
        | none => none
        | some i => some (⟨k, ⟨#[]⟩, [], [t]⟩, i)
  else if k = 14 then match pRes L P i with
    | none => none
    | some (ts, i) => some (⟨k, ⟨#[]⟩, [], ts⟩, i)
  else if k = 15 then match pNeed L ⟨#[60]⟩ i with
    | none => none
    | some i => match pList L P 5 [] i with
      | none => none
      | some (ts, i) => some (⟨k, ⟨#[]⟩, [], ts⟩, i)
  else if k = 20 ∨ k = 21 then match pNeed L ⟨#[60]⟩ i with
    | none => none
    | some i => match pIdent L i with
      | none => none
      | some (w, i) => match pNeed L ⟨#[62]⟩ i with
        | none => none
        | some i => some (⟨k, w, [], []⟩, i)
  else match pNeed L ⟨#[123]⟩ i with
    | none => none
    | some i => match pLabs L P k 15 [] [] i with
      | none => none
      | some (x, i) => some (⟨k, ⟨#[]⟩, x.1, x.2⟩, i)
noncomputable def pTerm (L : List Tok) : Nat → Nat → Option (Term × Nat)
  | 0, i => none
  | d + 1, i => match pName L i with
    | none => none
    | some (w, i) => if kdOf w = 0 then some (⟨30, w, [], []⟩, i) else pRest L (pTerm L d) (kdOf w) i
end
end Go.Proofs.Ytllcemegnggpfaa
