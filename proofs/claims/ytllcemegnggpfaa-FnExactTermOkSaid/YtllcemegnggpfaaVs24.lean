/- Texts for VTermOkP. -/
import Derived.Test.YtllcemegnggpfaaVs18
namespace Go.Proofs.Ytllcemegnggpfaa
open Go Go.RowKit
set_option linter.unusedVariables false
set_option linter.unusedSimpArgs false
set_option maxRecDepth 8000
structure Term where
  kind : Int
  name : ByteArray
  labels : List ByteArray
  kids : List Term
instance : Inhabited Term := ⟨⟨0, ByteArray.empty, [], []⟩⟩
noncomputable instance : DecidableEq Term := fun a b => Classical.propDecidable (a = b)
noncomputable def Term.pN (n : Nat) : Term → List AV := Nat.rec (motive := fun _ => Term → List AV) (fun _ => []) (fun _ ih a => [.i .i64 a.kind, .s a.name, slL 1 strC a.labels, slL 4 ih a.kids]) n
noncomputable def Term.kd (a : Term) : Nat := Term.rec (motive_1 := fun _ => Nat) (motive_2 := fun _ => Nat) (fun _ _ _ _ ih => ih) 0 (fun _ _ x y => Nat.max (x + 1) y) a
theorem Term.kd_mem {a b : Term} (h : b ∈ a.kids) : b.kd + 1 ≤ a.kd := by
  obtain ⟨kind, name, labels, ks⟩ := a
  have key : ∀ ks : List Term, b ∈ ks → b.kd + 1 ≤ (Term.mk kind name labels ks).kd := by
    intro ks
    induction ks with
    | nil => intro h; cases h
    | cons x xs ih =>
      intro h
      have e : (Term.mk kind name labels (x :: xs)).kd = Nat.max (x.kd + 1) (Term.mk kind name labels xs).kd := rfl
      rw [e]
      rcases List.mem_cons.1 h with rfl | h
      · exact Nat.le_max_left _ _
      · exact Nat.le_trans (ih h) (Nat.le_max_right _ _)
  exact key ks h
noncomputable def Term.cs (a : Term) : List AV := Term.pN (a.kd + 1) a
theorem Term.low (a : Term) : a.cs.all (low1 0) = true := rfl
theorem Term.eta {a b : Term} (h0 : a.kind = b.kind) (h1 : a.name = b.name) (h2 : a.labels = b.labels) (h3 : a.kids = b.kids) : a = b := by cases a; cases b; simp_all
def Term.fN (n : Nat) : Term → Prop := Nat.rec (motive := fun _ => Term → Prop) (fun _ => False) (fun _ ih a => ∀ x ∈ a.kids, ih x) n
theorem Term.fN_kd : ∀ (n : Nat) (a : Term), a.kd < n → Term.fN n a
  | 0, a, h => absurd h (Nat.not_lt_zero _)
  | n + 1, a, h => fun x hx => Term.fN_kd n x (by have := Term.kd_mem hx; omega)
theorem Term.fN_self (a : Term) : Term.fN (a.kd + 1) a := Term.fN_kd _ a (Nat.lt_succ_self _)
theorem Term.fN_nil {l : List Term} (h : ∀ x ∈ l, Term.fN 0 x) : l = [] := by
  cases l with
  | nil => rfl
  | cons x xs => exact (h x List.mem_cons_self).elim
def Term.oN (n : Nat) : Term → Prop := Nat.rec (motive := fun _ => Term → Prop) (fun _ => False) (fun _ ih a => okS a.name ∧ (okL okS) a.labels ∧ okL ih a.kids) n
def Term.ok (a : Term) : Prop := Term.oN (a.kd + 1) a
theorem Term.oN_nil {l : List Term} (h : okL (Term.oN 0) l) : l = [] := by
  cases l with
  | nil => rfl
  | cons x xs => exact (h.2 0 (Nat.succ_pos _)).elim
theorem Term.oN_fN : ∀ (n : Nat) (a : Term), Term.oN n a → Term.fN n a
  | 0, a, h => h.elim
  | n + 1, a, h => fun x hx => by
    obtain ⟨k, hk, rfl⟩ := List.getElem_of_mem hx
    have := h.2.2.2 k hk
    rw [List.getD_eq_getElem?_getD, List.getElem?_eq_getElem hk] at this
    exact Term.oN_fN n _ this
theorem Term.oN_up : ∀ (n : Nat) (a : Term), Term.oN n a → Term.oN (n + 1) a
  | 0, a, h => h.elim
  | n + 1, a, h => ⟨h.1, h.2.1, (h.2.2).1, fun k hk => Term.oN_up n _ ((h.2.2).2 k hk)⟩
theorem Term.fN_up : ∀ (n : Nat) (a : Term), Term.fN n a → Term.fN (n + 1) a
  | 0, a, h => h.elim
  | n + 1, a, h => fun x hx => Term.fN_up n x (h x hx)
theorem Term.wget {xs ys : List AV} (h : WkL xs ys) (j : Nat) : Wk (xs.getD j .any) (ys.getD j .any) := by
  rw [List.getD_eq_getElem?_getD, List.getD_eq_getElem?_getD]
  cases hx : xs[j]? with
  | none =>
    have : ys[j]? = none := by
      rw [List.getElem?_eq_none_iff] at hx ⊢
      rw [← h.1]; exact hx
    rw [this]
    exact .refl _
  | some x =>
    have hl : j < ys.length := by rw [← h.1]; exact (List.getElem?_eq_some_iff.1 hx).1
    rw [List.getElem?_eq_getElem hl]
    exact h.2 j x _ hx (List.getElem?_eq_getElem hl)
theorem Term.getD_mem0 {l : List Term} {k : Nat} (h : k < l.length) : l.getD k default ∈ l := by
  rw [List.getD_eq_getElem?_getD, List.getElem?_eq_getElem h]
  exact List.getElem_mem h
theorem Term.up : ∀ (n : Nat) (a : Term), Term.fN n a → WkL (Term.pN n a) (Term.pN (n + 1) a)
  | 0, a, h => h.elim
  | n + 1, a, h => .cons (.refl _) (.cons (.refl _) (.cons (.refl _) (.cons (Wk.sl fun i j hi hj => Term.wget (Term.up n _ (h _ (Term.getD_mem0 hi))) j) .nil)))
theorem Term.conv : ∀ (n m : Nat) (a : Term), Term.fN n a → Term.fN m a → WkL (Term.pN n a) (Term.pN m a)
  | 0, m, a, h, _ => h.elim
  | n + 1, 0, a, _, h => h.elim
  | n + 1, m + 1, a, h, k => .cons (.refl _) (.cons (.refl _) (.cons (.refl _) (.cons (Wk.sl fun i j hi hj => Term.wget (Term.conv n m _ (h _ (Term.getD_mem0 hi)) (k _ (Term.getD_mem0 hi))) j) .nil)))
theorem Term.readS (n : Nat) (g : Nat → Nat → AV) (h : ∀ i, i < n → ∃ a : Term, WkL (cellsAt (g i) 0 4) a.cs) : ∃ (l : List Term) (N : Nat), (∀ x ∈ l, Term.fN N x) ∧ WkL [.sl 4 n g] [slL 4 (Term.pN N) l] := by
  let l : List Term := (List.range n).map fun i => if h' : i < n then Classical.choose (h i h') else default
  have hl : l.length = n := by simp [l]
  have hget : ∀ i (hi : i < n), l.getD i default = Classical.choose (h i hi) := fun i hi => by simp [l, hi]
  let N := (Term.mk default default default l).kd
  have hN : ∀ x ∈ l, Term.fN N x := fun x hx => Term.fN_kd N x (by have := Term.kd_mem (a := Term.mk default default default l) hx; omega)
  refine ⟨l, N, hN, .cons ?_ .nil⟩
  refine Wk.sl' rfl hl.symm fun i j hi hj => ?_
  have hx := Classical.choose_spec (h i hi)
  rw [← hget i hi] at hx
  have hm : l.getD i default ∈ l := Term.getD_mem0 (by omega)
  have hc := Term.conv _ N _ (Term.fN_self (l.getD i default)) (hN _ hm)
  have e1 := Term.wget hx j
  have e2 := Term.wget hc j
  have e3 : (cellsAt (g i) 0 4).getD j .any = g i j := by
    have hl2 : j < (cellsAt (g i) 0 4).length := by rw [cellsAt_length]; exact hj
    rw [List.getD_eq_getElem?_getD, List.getElem?_eq_getElem hl2]
    have := (cellsAt_get (g i) 4 0 j _ (List.getElem?_eq_getElem hl2)).2
    rw [Nat.zero_add] at this
    exact this
  rw [e3] at e1
  exact ⟨fun q => e2.1 (e1.1 q), fun w S u hu => e2.2 w S u (e1.2 w S u hu)⟩
theorem Term.readK {ds : List AV} {a : Term} {N : Nat} (hN : ∀ x ∈ a.kids, Term.fN N x) (h : WkL ds [slL 4 (Term.pN N) a.kids]) : WkL ds [slL 4 (Term.pN a.kd) a.kids] := by
  obtain ⟨x, rfl⟩ := List.length_eq_one_iff.1 h.1
  have k : Wk (slL 4 (Term.pN N) a.kids) (slL 4 (Term.pN a.kd) a.kids) := Wk.sl fun i j hi hj => Term.wget (Term.conv N a.kd _ (hN _ (Term.getD_mem0 hi)) (Term.fN_kd _ _ (by have := Term.kd_mem (Term.getD_mem0 hi); omega))) j
  have e := h.2 0 x _ rfl rfl
  exact .cons ⟨fun q => k.1 (e.1 q), fun w S u hu => k.2 w S u (e.2 w S u hu)⟩ .nil
theorem toTermS_0 : Ret env.P 34 [slL 4 (Term.pN 0) []] (fun r => r = slL 4 (Term.pN 0) []) := by
  have hl0 : ([] : List Term).length = 0 := rfl
  refine Ret.to ?_
  refine ret_of (nt := 23) (rvs := [.tmp 2]) Try.func34 rfl rfl rfl rfl (fun X => ?_)
  conv => whnf
  refine ⟨⟨by simp, by simp, by simp, by simp⟩, ?_⟩
  conv => whnf
  refine loopN ([] : List Term).length (fun k => [(4, .i .i64 k)]) (fun k => [some (.arr ⟨4, ([] : List Term).length, fillE k (elE (Term.pN 0) ([] : List Term)) (fun _ j => [AV.i .i64 0, AV.s ByteArray.empty, AV.nils, AV.nils].getD j .any), .arr⟩)]) (fun k => True) ⟨trivial, ?_⟩
  repeat' (first | omega | (with_reducible show (_ : Int) < _; dsimp only; omega) | (with_reducible show (_ : Nat) ≤ _; dsimp only; omega) | ((with_reducible show SrcOk _ _ _) <;> (first | exact srcOk_1 rfl | exact srcOk_L (fun _ => ⟨rfl, rfl⟩) | exact srcOk_E (fun _ => ⟨rfl, rfl⟩))) | ((conv => whnf) <;> (first | exact arr_start rfl (fun _ _ => low_cells (rfl : (Term.pN 0 _).all (low1 0) = true)) (fun _ _ => low_cells rfl) | exact arr_round rfl rfl (fun _ _ => rfl) (fun _ _ => low_cells (rfl : (Term.pN 0 _).all (low1 0) = true)) (fun _ _ => low_cells rfl) | refine And.intro ?_ ?_ | (intro _h; first | contradiction | (try simp only [dd] at _h)) | (refine dt_go ?_) | exact rfl | exact True.intro | exact dkk | exact dks | (refine wrap_succ ?_; omega))))
  exact wk_fill rfl (by simp) rfl (fun _ => rfl)
theorem toTermS_g (g : Term → Nat) (l : List Term) (hl : l.length ≤ 1048576) (hc : ∀ k, k < l.length → Ret env.P 14 [.agg (Term.pN (g (l.getD k default) + 1) (l.getD k default))] (fun r => r = .agg (Term.pN (g (l.getD k default) + 1) (l.getD k default)))) : Ret env.P 34 [slL 4 (fun a => Term.pN (g a + 1) a) l] (fun r => r = slL 4 (fun a => Term.pN (g a + 1) a) l) := by
  refine Ret.to ?_
  refine ret_of (nt := 23) (rvs := [.tmp 2]) Try.func34 rfl rfl rfl rfl (fun X => ?_)
  conv => whnf
  refine ⟨⟨by omega, by omega, by dsimp only; omega, by omega⟩, ?_⟩
  conv => whnf
  refine loopN l.length (fun k => [(4, .i .i64 k)]) (fun k => [some (.arr ⟨4, l.length, fillE k (elE (fun a => Term.pN (g a + 1) a) l) (fun _ j => [AV.i .i64 0, AV.s ByteArray.empty, AV.nils, AV.nils].getD j .any), .arr⟩)]) (fun k => True) ⟨trivial, ?_⟩
  repeat' (first | omega | (with_reducible show (_ : Int) < _; dsimp only; omega) | (with_reducible show (_ : Nat) ≤ _; dsimp only; omega) | ((with_reducible show SrcOk _ _ _) <;> (first | exact srcOk_1 rfl | exact srcOk_L (fun _ => ⟨rfl, rfl⟩) | exact srcOk_E (fun _ => ⟨rfl, rfl⟩))) | ((conv => whnf) <;> (first | exact arr_start rfl (fun _ _ => low_cells (rfl : (Term.pN (_ + 1) _).all (low1 0) = true)) (fun _ _ => low_cells rfl) | exact arr_round rfl rfl (fun _ _ => rfl) (fun _ _ => low_cells (rfl : (Term.pN (_ + 1) _).all (low1 0) = true)) (fun _ _ => low_cells rfl) | refine And.intro ?_ ?_ | (intro _h; first | contradiction | (try simp only [dd] at _h)) | (refine dt_go ?_) | exact rfl | exact True.intro | exact dkk | exact dks | ((first | refine .inl ⟨_, hc _ (by omega), ?_⟩ | refine ⟨_, hc _ (by omega), ?_⟩); (try rintro _ rfl)) | (refine wrap_succ ?_; omega))))
  exact wk_fill rfl (by omega) rfl (fun _ => rfl)
theorem toTerm_m (m : Nat) : ∀ a : Term, Term.oN (m + 1) a → Ret env.P 14 [.agg (Term.pN (m + 1) a)] (fun r => r = .agg (Term.pN (m + 1) a)) := by
  induction m with
  | zero =>
    intro a h
    have hk := Term.oN_nil (h.2.2)
    obtain ⟨kind, name, labels, ks⟩ := a
    dsimp only at hk
    subst hk
    refine ret_of (nt := 19) (rvs := [.cell 2 25]) Try.func14 rfl rfl rfl rfl (fun X => ?_)
    repeat' (first | omega | (with_reducible show (_ : Int) < _; dsimp only; omega) | (with_reducible show (_ : Nat) ≤ _; dsimp only; omega) | ((with_reducible show SrcOk _ _ _) <;> (first | exact srcOk_1 rfl | exact srcOk_L (fun _ => ⟨rfl, rfl⟩) | exact srcOk_E (fun _ => ⟨rfl, rfl⟩))) | ((conv => whnf) <;> (first | refine And.intro ?_ ?_ | (intro _h; first | contradiction | (try simp only [dd] at _h)) | (refine dt_go ?_) | exact rfl | exact True.intro | exact dkk | exact dks | ((first | refine .inl ⟨_, toStringS_ok _ (h.2.1), ?_⟩ | refine ⟨_, toStringS_ok _ (h.2.1), ?_⟩); (try rintro _ rfl)) | ((first | refine .inl ⟨_, toTermS_0, ?_⟩ | refine ⟨_, toTermS_0, ?_⟩); (try rintro _ rfl)) | (refine wrap_succ ?_; omega))))
  | succ m ih =>
    intro a h
    refine ret_of (nt := 19) (rvs := [.cell 2 25]) Try.func14 rfl rfl rfl rfl (fun X => ?_)
    repeat' (first | omega | (with_reducible show (_ : Int) < _; dsimp only; omega) | (with_reducible show (_ : Nat) ≤ _; dsimp only; omega) | ((with_reducible show SrcOk _ _ _) <;> (first | exact srcOk_1 rfl | exact srcOk_L (fun _ => ⟨rfl, rfl⟩) | exact srcOk_E (fun _ => ⟨rfl, rfl⟩))) | ((conv => whnf) <;> (first | refine And.intro ?_ ?_ | (intro _h; first | contradiction | (try simp only [dd] at _h)) | (refine dt_go ?_) | exact rfl | exact True.intro | exact dkk | exact dks | ((first | refine .inl ⟨_, toStringS_ok _ (h.2.1), ?_⟩ | refine ⟨_, toStringS_ok _ (h.2.1), ?_⟩); (try rintro _ rfl)) | ((first | refine .inl ⟨_, toTermS_g (fun _ => m) a.kids (h.2.2).1 (fun k hk => ih _ ((h.2.2).2 k hk)), ?_⟩ | refine ⟨_, toTermS_g (fun _ => m) a.kids (h.2.2).1 (fun k hk => ih _ ((h.2.2).2 k hk)), ?_⟩); (try rintro _ rfl)) | (refine wrap_succ ?_; omega))))
theorem toTerm_ok (a : Term) (h : Term.ok a) : Ret env.P 14 [.agg a.cs] (fun r => r = .agg a.cs) := toTerm_m a.kd a h
theorem eqTermS_0l (c : Term → List AV) (m : List Term) : Ret env.P 25 [slL 4 (Term.pN 0) [], slL 4 c m] (fun r => r = .b (decide ([] = m))) := by
  have hl0 : ([] : List Term).length = 0 := rfl
  refine ret_of (nt := 27) (rvs := [.tmp 4]) Try.func25 rfl rfl rfl rfl (fun X => ?_)
  repeat' (first | omega | (with_reducible show (_ : Int) < _; dsimp only; omega) | (with_reducible show (_ : Nat) ≤ _; dsimp only; omega) | ((with_reducible show SrcOk _ _ _) <;> (first | exact srcOk_1 rfl | exact srcOk_L (fun _ => ⟨rfl, rfl⟩) | exact srcOk_E (fun _ => ⟨rfl, rfl⟩))) | ((conv => whnf) <;> (first | exact upto_succ (by assumption) (by assumption) | refine loopN ([] : List Term).length (fun k => [(5, .i .i64 k)]) (fun k => []) (fun k => ∀ j, j < k → ([] : List Term).getD j default = m.getD j default) ⟨fun _ h => by omega, ?_⟩ | refine And.intro ?_ ?_ | (intro _h; first | contradiction | (try simp only [dd] at _h)) | (refine dt_go ?_) | exact rfl | exact True.intro | exact dkk | exact dks | (refine wrap_succ ?_; omega))))
  all_goals first
    | exact leaf_ne (by rintro rfl; contradiction)
    | exact leaf_ne (by rintro rfl; omega)
    | (refine leaf_eq ?_; cases m with | nil => rfl | cons x xs => (try simp at *); omega)
theorem eqTermS_0r (c : Term → List AV) (l : List Term) : Ret env.P 25 [slL 4 c l, slL 4 (Term.pN 0) []] (fun r => r = .b (decide (l = []))) := by
  have hl0 : ([] : List Term).length = 0 := rfl
  cases l with
  | nil =>
    refine ret_of (nt := 27) (rvs := [.tmp 4]) Try.func25 rfl rfl rfl rfl (fun X => ?_)
    repeat' (first | omega | (with_reducible show (_ : Int) < _; dsimp only; omega) | (with_reducible show (_ : Nat) ≤ _; dsimp only; omega) | ((with_reducible show SrcOk _ _ _) <;> (first | exact srcOk_1 rfl | exact srcOk_L (fun _ => ⟨rfl, rfl⟩) | exact srcOk_E (fun _ => ⟨rfl, rfl⟩))) | ((conv => whnf) <;> (first | exact upto_succ (by assumption) (by assumption) | refine loopN ([] : List Term).length (fun k => [(5, .i .i64 k)]) (fun k => []) (fun k => True) ⟨trivial, ?_⟩ | refine And.intro ?_ ?_ | (intro _h; first | contradiction | (try simp only [dd] at _h)) | (refine dt_go ?_) | exact rfl | exact True.intro | exact dkk | exact dks | (refine wrap_succ ?_; omega))))
    all_goals first
      | exact leaf_eq rfl
      | (exfalso; simp at *; done)
  | cons x xs =>
    refine ret_of (nt := 27) (rvs := [.tmp 4]) Try.func25 rfl rfl rfl rfl (fun X => ?_)
    repeat' (first | omega | (with_reducible show (_ : Int) < _; dsimp only; omega) | (with_reducible show (_ : Nat) ≤ _; dsimp only; omega) | ((with_reducible show SrcOk _ _ _) <;> (first | exact srcOk_1 rfl | exact srcOk_L (fun _ => ⟨rfl, rfl⟩) | exact srcOk_E (fun _ => ⟨rfl, rfl⟩))) | ((conv => whnf) <;> (first | refine And.intro ?_ ?_ | (intro _h; first | contradiction | (try simp only [dd] at _h)) | (refine dt_go ?_) | exact rfl | exact True.intro | exact dkk | exact dks | (refine wrap_succ ?_; omega))))
    all_goals first
      | exact leaf_ne (by intro h; cases h)
      | (exfalso; simp at *; done)
      | (exfalso; simp at *; omega)
theorem eqTermS_g (g g' : Term → Nat) (l m : List Term) (hl : l.length ≤ 1048576) (hc : ∀ k, k < l.length → l.length = m.length → Ret env.P 9 [.agg (Term.pN (g (l.getD k default) + 1) (l.getD k default)), .agg (Term.pN (g' (m.getD k default) + 1) (m.getD k default))] (fun r => r = .b (decide ((l.getD k default) = (m.getD k default))))) : Ret env.P 25 [slL 4 (fun a => Term.pN (g a + 1) a) l, slL 4 (fun a => Term.pN (g' a + 1) a) m] (fun r => r = .b (decide (l = m))) := by
  refine ret_of (nt := 27) (rvs := [.tmp 4]) Try.func25 rfl rfl rfl rfl (fun X => ?_)
  repeat' (first | omega | (with_reducible show (_ : Int) < _; dsimp only; omega) | (with_reducible show (_ : Nat) ≤ _; dsimp only; omega) | ((with_reducible show SrcOk _ _ _) <;> (first | exact srcOk_1 rfl | exact srcOk_L (fun _ => ⟨rfl, rfl⟩) | exact srcOk_E (fun _ => ⟨rfl, rfl⟩))) | ((conv => whnf) <;> (first | exact upto_succ (by assumption) (by assumption) | refine loopN l.length (fun k => [(5, .i .i64 k)]) (fun k => []) (fun k => ∀ j, j < k → l.getD j default = m.getD j default) ⟨fun _ h => by omega, ?_⟩ | refine And.intro ?_ ?_ | (intro _h; first | contradiction | (try simp only [dd] at _h)) | (refine dt_go ?_) | exact rfl | exact True.intro | exact dkk | exact dks | ((first | refine .inl ⟨_, hc _ (by omega) (by omega), ?_⟩ | refine ⟨_, hc _ (by omega) (by omega), ?_⟩); (try rintro _ rfl)) | (refine wrap_succ ?_; omega))))
  · exact leaf_ne (by rintro rfl; omega)
  · exact leaf_ne (by rintro rfl; contradiction)
  · exact leaf_eq (list_eq (by omega) fun j hj => by have := ‹∀ j, j < _ → l.getD j default = m.getD j default›; exact this j (by omega))
theorem eqTerm_m (m : Nat) : ∀ a : Term, Term.oN (m + 1) a → ∀ (m' : Nat) (b : Term), Term.fN (m' + 1) b → Ret env.P 9 [.agg (Term.pN (m + 1) a), .agg (Term.pN (m' + 1) b)] (fun r => r = .b (decide (a = b))) := by
  induction m with
  | zero =>
    intro a h m' b hb
    have hk := Term.oN_nil (h.2.2)
    obtain ⟨a0, a1, a2, ks⟩ := a
    obtain ⟨b0, b1, b2, ls⟩ := b
    dsimp only at hk
    subst hk
    refine ret_of (nt := 27) (rvs := [.tmp 4]) Try.func9 rfl rfl rfl rfl (fun X => ?_)
    repeat' (first | omega | (with_reducible show (_ : Int) < _; dsimp only; omega) | (with_reducible show (_ : Nat) ≤ _; dsimp only; omega) | ((with_reducible show SrcOk _ _ _) <;> (first | exact srcOk_1 rfl | exact srcOk_L (fun _ => ⟨rfl, rfl⟩) | exact srcOk_E (fun _ => ⟨rfl, rfl⟩))) | ((conv => whnf) <;> (first | refine And.intro ?_ ?_ | (intro _h; first | contradiction | (try simp only [dd] at _h)) | (refine dt_go ?_) | exact rfl | exact True.intro | exact dkk | exact dks | ((first | refine .inl ⟨_, eqStringS_ok _ _ (h.2.1), ?_⟩ | refine ⟨_, eqStringS_ok _ _ (h.2.1), ?_⟩); (try rintro _ rfl)) | ((first | refine .inl ⟨_, eqTermS_0l (Term.pN m') ls, ?_⟩ | refine ⟨_, eqTermS_0l (Term.pN m') ls, ?_⟩); (try rintro _ rfl)) | (refine wrap_succ ?_; omega))))
    all_goals (clear h; refine leaf_b ?_; simp_all)
  | succ m ih =>
    intro a h m' b hb
    cases m' with
    | zero =>
      have hk := Term.fN_nil hb
      obtain ⟨a0, a1, a2, ks⟩ := a
      obtain ⟨b0, b1, b2, ls⟩ := b
      dsimp only at hk
      subst hk
      refine ret_of (nt := 27) (rvs := [.tmp 4]) Try.func9 rfl rfl rfl rfl (fun X => ?_)
      repeat' (first | omega | (with_reducible show (_ : Int) < _; dsimp only; omega) | (with_reducible show (_ : Nat) ≤ _; dsimp only; omega) | ((with_reducible show SrcOk _ _ _) <;> (first | exact srcOk_1 rfl | exact srcOk_L (fun _ => ⟨rfl, rfl⟩) | exact srcOk_E (fun _ => ⟨rfl, rfl⟩))) | ((conv => whnf) <;> (first | refine And.intro ?_ ?_ | (intro _h; first | contradiction | (try simp only [dd] at _h)) | (refine dt_go ?_) | exact rfl | exact True.intro | exact dkk | exact dks | ((first | refine .inl ⟨_, eqStringS_ok _ _ (h.2.1), ?_⟩ | refine ⟨_, eqStringS_ok _ _ (h.2.1), ?_⟩); (try rintro _ rfl)) | ((first | refine .inl ⟨_, eqTermS_0r (Term.pN (m + 1)) ks, ?_⟩ | refine ⟨_, eqTermS_0r (Term.pN (m + 1)) ks, ?_⟩); (try rintro _ rfl)) | (refine wrap_succ ?_; omega))))
      all_goals (clear h; refine leaf_b ?_; simp_all)
    | succ m' =>
      have hk := h.2.2
      obtain ⟨a0, a1, a2, ks⟩ := a
      obtain ⟨b0, b1, b2, ls⟩ := b
      have hq : ∀ k, k < ks.length → ks.length = ls.length → Ret env.P 9 [.agg (Term.pN (m + 1) (ks.getD k default)), .agg (Term.pN (m' + 1) (ls.getD k default))] (fun r => r = .b (decide (ks.getD k default = ls.getD k default))) := fun k hlt he => ih _ (hk.2 k hlt) m' _ (hb _ (by
        have h2 : k < ls.length := by omega
        show ls.getD k default ∈ ls
        rw [List.getD_eq_getElem?_getD, List.getElem?_eq_getElem h2]
        exact List.getElem_mem h2))
      refine ret_of (nt := 27) (rvs := [.tmp 4]) Try.func9 rfl rfl rfl rfl (fun X => ?_)
      repeat' (first | omega | (with_reducible show (_ : Int) < _; dsimp only; omega) | (with_reducible show (_ : Nat) ≤ _; dsimp only; omega) | ((with_reducible show SrcOk _ _ _) <;> (first | exact srcOk_1 rfl | exact srcOk_L (fun _ => ⟨rfl, rfl⟩) | exact srcOk_E (fun _ => ⟨rfl, rfl⟩))) | ((conv => whnf) <;> (first | refine And.intro ?_ ?_ | (intro _h; first | contradiction | (try simp only [dd] at _h)) | (refine dt_go ?_) | exact rfl | exact True.intro | exact dkk | exact dks | ((first | refine .inl ⟨_, eqStringS_ok _ _ (h.2.1), ?_⟩ | refine ⟨_, eqStringS_ok _ _ (h.2.1), ?_⟩); (try rintro _ rfl)) | ((first | refine .inl ⟨_, eqTermS_g (fun _ => m) (fun _ => m') ks ls hk.1 hq, ?_⟩ | refine ⟨_, eqTermS_g (fun _ => m) (fun _ => m') ks ls hk.1 hq, ?_⟩); (try rintro _ rfl)) | (refine wrap_succ ?_; omega))))
      all_goals (clear hq hk h hb ih; refine leaf_b ?_; simp_all)
theorem eqTerm_ok (a b : Term) (h : Term.ok a) : Ret env.P 9 [.agg a.cs, .agg b.cs] (fun r => r = .b (decide (a = b))) := eqTerm_m a.kd a h b.kd b (Term.fN_self b)
noncomputable def Term.zN (n : Nat) : Term → Int → Int := Nat.rec (motive := fun _ => Term → Int → Int) (fun _ _ => -1) (fun _ ih a left => if (szSt a.name left) < 0 then -1 else if ((szLs szSt) a.labels (szSt a.name left)) < 0 then -1 else if (szLs ih a.kids ((szLs szSt) a.labels (szSt a.name left))) < 0 then -1 else (szLs ih a.kids ((szLs szSt) a.labels (szSt a.name left)))) n
noncomputable def Term.sz (a : Term) (left : Int) : Int := Term.zN (a.kd + 1) a left
theorem Term.zN_le : ∀ (n : Nat) (a : Term) (left : Int), left ≤ 1048576 → Term.zN n a left ≤ 1048576
  | 0, a, left, h1 => by show (-1 : Int) ≤ _; omega
  | n + 1, a, left, h1 => by
    have b1 : (szSt a.name left) ≤ 1048576 := szN_le h1
    have b2 : ((szLs szSt) a.labels (szSt a.name left)) ≤ 1048576 := szLs_le (fun a v h => szSt_le a v h) b1
    have b3 : (szLs (Term.zN n) a.kids ((szLs szSt) a.labels (szSt a.name left))) ≤ 1048576 := szLs_le (fun a v h => Term.zN_le n a v h) b2
    show (if (szSt a.name left) < 0 then -1 else if ((szLs szSt) a.labels (szSt a.name left)) < 0 then -1 else if (szLs (Term.zN n) a.kids ((szLs szSt) a.labels (szSt a.name left))) < 0 then -1 else (szLs (Term.zN n) a.kids ((szLs szSt) a.labels (szSt a.name left)))) ≤ _
    repeat' split
    all_goals omega
theorem Term.zN_ok : ∀ (n : Nat) (a : Term) (left : Int), 0 ≤ left → left ≤ 1048576 → ¬ Term.zN n a left < 0 → Term.oN n a
  | 0, a, left, _, _, hn => (hn (by show (-1 : Int) < 0; decide)).elim
  | n + 1, a, left, h0, h1, hn => by
    have b1 : (szSt a.name left) ≤ 1048576 := szN_le h1
    have b2 : ((szLs szSt) a.labels (szSt a.name left)) ≤ 1048576 := szLs_le (fun a v h => szSt_le a v h) b1
    have b3 : (szLs (Term.zN n) a.kids ((szLs szSt) a.labels (szSt a.name left))) ≤ 1048576 := szLs_le (fun a v h => Term.zN_le n a v h) b2
    replace hn : ¬ (if (szSt a.name left) < 0 then -1 else if ((szLs szSt) a.labels (szSt a.name left)) < 0 then -1 else if (szLs (Term.zN n) a.kids ((szLs szSt) a.labels (szSt a.name left))) < 0 then -1 else (szLs (Term.zN n) a.kids ((szLs szSt) a.labels (szSt a.name left)))) < 0 := hn
    by_cases c1 : (szSt a.name left) < 0
    · rw [if_pos c1] at hn; omega
    rw [if_neg c1] at hn
    by_cases c2 : ((szLs szSt) a.labels (szSt a.name left)) < 0
    · rw [if_pos c2] at hn; omega
    rw [if_neg c2] at hn
    by_cases c3 : (szLs (Term.zN n) a.kids ((szLs szSt) a.labels (szSt a.name left))) < 0
    · rw [if_pos c3] at hn; omega
    rw [if_neg c3] at hn
    exact ⟨szSt_ok h0 h1 c1, szLs_ok (fun a v h => szSt_le a v h) (fun a v h0 h1 hn => szSt_ok' a v h0 h1 hn) (by omega) b1 c2, szLs_ok (fun a v h => Term.zN_le n a v h) (fun a v h0 h1 hn => Term.zN_ok n a v h0 h1 hn) (by omega) b2 c3⟩
theorem Term.sz_ok (a : Term) (left : Int) (h0 : 0 ≤ left) (h1 : left ≤ 1048576) (hn : ¬ Term.sz a left < 0) : Term.ok a := Term.zN_ok _ a left h0 h1 hn
theorem szTermS_0 (left : Int) (h0 : 0 ≤ left) (h1 : left ≤ 1048576) : Ret env.P 31 [slL 4 (Term.pN 0) [], .i .i64 left] (fun r => r = .i .i64 (szLs (Term.zN 0) [] left)) := by
  have hl0 : ([] : List Term).length = 0 := rfl
  refine Ret.args fun hw => ?_
  have hl := wfs_sl (hw _ (List.mem_cons_self))
  have e : IntKind.i64.wrap (left - (([] : List Term).length : Int)) = left - (([] : List Term).length : Int) := wrap_in (by omega) (by omega)
  refine ret_of (nt := 27) (rvs := [.tmp 4]) Try.func31 rfl rfl rfl rfl (fun X => ?_)
  conv => whnf
  rw [e]
  refine ⟨fun _h => ?_, fun _h => ?_⟩
  · exact leaf_i (szLs_neg (of_decide_eq_true _h))
  have _h : ¬ (left - (([] : List Term).length : Int) < 0) := fun hc => _h (decide_eq_true hc)
  conv => whnf
  refine loopN ([] : List Term).length (fun k => [(5, .i .i64 k), (1, .i .i64 (szAt (Term.zN 0) ([] : List Term) (left - ([] : List Term).length) k))]) (fun k => []) (fun k => SzI (Term.zN 0) ([] : List Term) (left - ([] : List Term).length) k) ⟨.start (by omega) (by omega), ?_⟩
  repeat' (first | omega | (with_reducible show (_ : Int) < _; dsimp only; omega) | (with_reducible show (_ : Nat) ≤ _; dsimp only; omega) | ((with_reducible show SrcOk _ _ _) <;> (first | exact srcOk_1 rfl | exact srcOk_L (fun _ => ⟨rfl, rfl⟩) | exact srcOk_E (fun _ => ⟨rfl, rfl⟩))) | ((conv => whnf) <;> (first | exact SzI.step (fun a v h => Term.zN_le _ a v h) (by assumption) (by assumption) (by assumption) | refine And.intro ?_ ?_ | (intro _h; first | contradiction | (try simp only [dd] at _h)) | (refine dt_go ?_) | exact rfl | exact True.intro | exact dkk | exact dks | (refine wrap_succ ?_; omega))))
  all_goals first | exact leaf_i (SzI.neg ‹SzI _ _ _ _› (by assumption) (by assumption) (by assumption)) | exact leaf_i (SzI.fin ‹SzI _ _ _ _› (by assumption) (by assumption))
theorem szTermS_g (g : Term → Nat) (l : List Term) (left : Int) (h0 : 0 ≤ left) (h1 : left ≤ 1048576) (hc : ∀ k, k < l.length → ∀ v : Int, 0 ≤ v → v ≤ 1048576 → Ret env.P 12 [.agg (Term.pN (g (l.getD k default) + 1) (l.getD k default)), .i .i64 v] (fun r => r = .i .i64 (Term.zN (g (l.getD k default) + 1) (l.getD k default) v))) : Ret env.P 31 [slL 4 (fun a => Term.pN (g a + 1) a) l, .i .i64 left] (fun r => r = .i .i64 (szLs (fun a => Term.zN (g a + 1) a) l left)) := by
  refine Ret.args fun hw => ?_
  have hl := wfs_sl (hw _ (List.mem_cons_self))
  have e : IntKind.i64.wrap (left - (l.length : Int)) = left - (l.length : Int) := wrap_in (by omega) (by omega)
  refine ret_of (nt := 27) (rvs := [.tmp 4]) Try.func31 rfl rfl rfl rfl (fun X => ?_)
  conv => whnf
  rw [e]
  refine ⟨fun _h => ?_, fun _h => ?_⟩
  · exact leaf_i (szLs_neg (of_decide_eq_true _h))
  have _h : ¬ (left - (l.length : Int) < 0) := fun hc => _h (decide_eq_true hc)
  conv => whnf
  refine loopN l.length (fun k => [(5, .i .i64 k), (1, .i .i64 (szAt (fun a => Term.zN (g a + 1) a) l (left - l.length) k))]) (fun k => []) (fun k => SzI (fun a => Term.zN (g a + 1) a) l (left - l.length) k) ⟨.start (by omega) (by omega), ?_⟩
  repeat' (first | omega | (with_reducible show (_ : Int) < _; dsimp only; omega) | (with_reducible show (_ : Nat) ≤ _; dsimp only; omega) | ((with_reducible show SrcOk _ _ _) <;> (first | exact srcOk_1 rfl | exact srcOk_L (fun _ => ⟨rfl, rfl⟩) | exact srcOk_E (fun _ => ⟨rfl, rfl⟩))) | ((conv => whnf) <;> (first | exact SzI.step (fun a v h => Term.zN_le _ a v h) (by assumption) (by assumption) (by assumption) | refine And.intro ?_ ?_ | (intro _h; first | contradiction | (try simp only [dd] at _h)) | (refine dt_go ?_) | exact rfl | exact True.intro | exact dkk | exact dks | ((first | refine .inl ⟨_, hc _ (by omega) _ (SzI.lo ‹_›) (SzI.hi ‹_›), ?_⟩ | refine ⟨_, hc _ (by omega) _ (SzI.lo ‹_›) (SzI.hi ‹_›), ?_⟩); (try rintro _ rfl)) | (refine wrap_succ ?_; omega))))
  all_goals first | exact leaf_i (SzI.neg ‹SzI _ _ _ _› (by assumption) (by assumption) (by assumption)) | exact leaf_i (SzI.fin ‹SzI _ _ _ _› (by assumption) (by assumption))
theorem szTermS_c (m : Nat) (l : List Term) (left : Int) (h0 : 0 ≤ left) (h1 : left ≤ 1048576) (hc : ∀ k, k < l.length → ∀ v : Int, 0 ≤ v → v ≤ 1048576 → Ret env.P 12 [.agg (Term.pN (m + 1) (l.getD k default)), .i .i64 v] (fun r => r = .i .i64 (Term.zN (m + 1) (l.getD k default) v))) : Ret env.P 31 [slL 4 (Term.pN (m + 1)) l, .i .i64 left] (fun r => r = .i .i64 (szLs (Term.zN (m + 1)) l left)) := szTermS_g (fun _ => m) l left h0 h1 hc
theorem szTerm_m (m : Nat) : ∀ a : Term, Term.fN (m + 1) a → ∀ left : Int, 0 ≤ left → left ≤ 1048576 → Ret env.P 12 [.agg (Term.pN (m + 1) a), .i .i64 left] (fun r => r = .i .i64 (Term.zN (m + 1) a left)) := by
  induction m with
  | zero =>
    intro a h left h0 h1
    have hk := Term.fN_nil h
    obtain ⟨kind, name, labels, ks⟩ := a
    dsimp only at hk
    subst hk
    refine Ret.args fun hw => ?_
    have b1 : (szSt name left) ≤ 1048576 := szN_le h1
    have b2 : ((szLs szSt) labels (szSt name left)) ≤ 1048576 := szLs_le (fun a v h => szSt_le a v h) b1
    have b3 : (szLs (Term.zN 0) ([] : List Term) ((szLs szSt) labels (szSt name left))) ≤ 1048576 := szLs_le (fun a v h => Term.zN_le 0 a v h) b2
    have w0 : name.size ≤ 9223372036854775807 := hw _ (List.mem_cons_self) (.s name) (.tail _ (.head _))
    have e0 : 0 ≤ left → IntKind.i64.wrap (left - (name.size : Int)) = left - (name.size : Int) := fun _ => wrap_in (by omega) (by omega)
    refine ret_of (nt := 25) (rvs := [.tmp 4]) Try.func12 rfl rfl rfl rfl (fun X => ?_)
    conv => whnf
    rw [e0 (by omega)]
    refine ⟨fun _h => ?_, fun _h => ?_⟩
    · refine leaf_i ?_
      have dn := szSt_neg (of_decide_eq_true _h)
      show _ = (if (szSt name left) < 0 then -1 else if ((szLs szSt) labels (szSt name left)) < 0 then -1 else if (szLs (Term.zN 0) ([] : List Term) ((szLs szSt) labels (szSt name left))) < 0 then -1 else (szLs (Term.zN 0) ([] : List Term) ((szLs szSt) labels (szSt name left))))
      clear _h; simp_all; try (intros; omega)
    have d0 : ¬ (szSt name left) < 0 := szSt_pos (fun hc => _h (decide_eq_true hc))
    rw [szSt_eq d0] at *
    repeat' (first | omega | (with_reducible show (_ : Int) < _; dsimp only; omega) | (with_reducible show (_ : Nat) ≤ _; dsimp only; omega) | ((with_reducible show SrcOk _ _ _) <;> (first | exact srcOk_1 rfl | exact srcOk_L (fun _ => ⟨rfl, rfl⟩) | exact srcOk_E (fun _ => ⟨rfl, rfl⟩))) | ((conv => whnf) <;> (first | refine And.intro ?_ ?_ | (intro _h; first | contradiction | (try simp only [dd] at _h)) | (refine dt_go ?_) | exact rfl | exact True.intro | exact dkk | exact dks | ((first | refine .inl ⟨_, szStringS_ok _ _ (by omega) (by omega), ?_⟩ | refine ⟨_, szStringS_ok _ _ (by omega) (by omega), ?_⟩); (try rintro _ rfl)) | ((first | refine .inl ⟨_, szTermS_0 _ (by (try dsimp only at *); omega) (by (try dsimp only at *); omega), ?_⟩ | refine ⟨_, szTermS_0 _ (by (try dsimp only at *); omega) (by (try dsimp only at *); omega), ?_⟩); (try rintro _ rfl)) | (refine wrap_succ ?_; omega))))
    all_goals (refine leaf_i ?_; show _ = (if (szSt name left) < 0 then -1 else if ((szLs szSt) labels (szSt name left)) < 0 then -1 else if (szLs (Term.zN 0) ([] : List Term) ((szLs szSt) labels (szSt name left))) < 0 then -1 else (szLs (Term.zN 0) ([] : List Term) ((szLs szSt) labels (szSt name left)))); simp_all; try (intros; omega))
  | succ m ih =>
    intro a h left h0 h1
    refine Ret.args fun hw => ?_
    have b1 : (szSt a.name left) ≤ 1048576 := szN_le h1
    have b2 : ((szLs szSt) a.labels (szSt a.name left)) ≤ 1048576 := szLs_le (fun a v h => szSt_le a v h) b1
    have b3 : (szLs (Term.zN (m + 1)) a.kids ((szLs szSt) a.labels (szSt a.name left))) ≤ 1048576 := szLs_le (fun a v h => Term.zN_le (m + 1) a v h) b2
    have w0 : a.name.size ≤ 9223372036854775807 := hw _ (List.mem_cons_self) (.s a.name) (.tail _ (.head _))
    have e0 : 0 ≤ left → IntKind.i64.wrap (left - (a.name.size : Int)) = left - (a.name.size : Int) := fun _ => wrap_in (by omega) (by omega)
    refine ret_of (nt := 25) (rvs := [.tmp 4]) Try.func12 rfl rfl rfl rfl (fun X => ?_)
    conv => whnf
    rw [e0 (by omega)]
    refine ⟨fun _h => ?_, fun _h => ?_⟩
    · refine leaf_i ?_
      have dn := szSt_neg (of_decide_eq_true _h)
      show _ = (if (szSt a.name left) < 0 then -1 else if ((szLs szSt) a.labels (szSt a.name left)) < 0 then -1 else if (szLs (Term.zN (m + 1)) a.kids ((szLs szSt) a.labels (szSt a.name left))) < 0 then -1 else (szLs (Term.zN (m + 1)) a.kids ((szLs szSt) a.labels (szSt a.name left))))
      clear _h; simp_all; try (intros; omega)
    have d0 : ¬ (szSt a.name left) < 0 := szSt_pos (fun hc => _h (decide_eq_true hc))
    rw [szSt_eq d0] at *
    repeat' (first | omega | (with_reducible show (_ : Int) < _; dsimp only; omega) | (with_reducible show (_ : Nat) ≤ _; dsimp only; omega) | ((with_reducible show SrcOk _ _ _) <;> (first | exact srcOk_1 rfl | exact srcOk_L (fun _ => ⟨rfl, rfl⟩) | exact srcOk_E (fun _ => ⟨rfl, rfl⟩))) | ((conv => whnf) <;> (first | refine And.intro ?_ ?_ | (intro _h; first | contradiction | (try simp only [dd] at _h)) | (refine dt_go ?_) | exact rfl | exact True.intro | exact dkk | exact dks | ((first | refine .inl ⟨_, szStringS_ok _ _ (by omega) (by omega), ?_⟩ | refine ⟨_, szStringS_ok _ _ (by omega) (by omega), ?_⟩); (try rintro _ rfl)) | ((first | refine .inl ⟨_, szTermS_c m a.kids _ (by omega) (by omega) (fun k hk v hv0 hv1 => ih _ (h _ (Term.getD_mem0 hk)) v hv0 hv1), ?_⟩ | refine ⟨_, szTermS_c m a.kids _ (by omega) (by omega) (fun k hk v hv0 hv1 => ih _ (h _ (Term.getD_mem0 hk)) v hv0 hv1), ?_⟩); (try rintro _ rfl)) | (refine wrap_succ ?_; omega))))
    all_goals (refine leaf_i ?_; show _ = (if (szSt a.name left) < 0 then -1 else if ((szLs szSt) a.labels (szSt a.name left)) < 0 then -1 else if (szLs (Term.zN (m + 1)) a.kids ((szLs szSt) a.labels (szSt a.name left))) < 0 then -1 else (szLs (Term.zN (m + 1)) a.kids ((szLs szSt) a.labels (szSt a.name left)))); simp_all; try (intros; omega))
theorem szTerm_ok (a : Term) (left : Int) (h0 : 0 ≤ left) (h1 : left ≤ 1048576) : Ret env.P 12 [.agg a.cs, .i .i64 left] (fun r => r = .i .i64 (Term.sz a left)) := szTerm_m a.kd a (Term.fN_self a) left h0 h1
end Go.Proofs.Ytllcemegnggpfaa
