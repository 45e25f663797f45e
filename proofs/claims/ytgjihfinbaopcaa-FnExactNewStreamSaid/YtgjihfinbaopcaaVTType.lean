/-
  Typ: what the laws' functions for it do. Printed by famr.py.
-/
import Derived.Test.YtgjihfinbaopcaaVU
import Derived.Test.YtgjihfinbaopcaaVTBase
import Derived.Test.YtgjihfinbaopcaaVTStringS
namespace Go.Proofs.Ytgjihfinbaopcaa
open Go Go.RowKit
set_option linter.unusedVariables false
set_option linter.unusedSimpArgs false

structure Typ where
  kind : Int
  name : ByteArray
  labels : List ByteArray
  kids : List Typ
instance : Inhabited Typ := ⟨⟨0, ByteArray.empty, [], []⟩⟩
noncomputable instance : DecidableEq Typ := fun a b => Classical.propDecidable (a = b)
/-- The cells of a value, whose depth is less than n. -/
noncomputable def Typ.pN (n : Nat) : Typ → List AV := Nat.rec (motive := fun _ => Typ → List AV) (fun _ => []) (fun _ ih a => [.i .i64 a.kind, .s a.name, slL 1 strC a.labels, slL 4 ih a.kids]) n
/-- The greatest depth of a part. -/
noncomputable def Typ.kd (a : Typ) : Nat := Typ.rec (motive_1 := fun _ => Nat) (motive_2 := fun _ => Nat) (fun _ _ _ _ ih => ih) 0 (fun _ _ x y => Nat.max (x + 1) y) a
theorem Typ.kd_mem {a b : Typ} (h : b ∈ a.kids) : b.kd + 1 ≤ a.kd := by
  obtain ⟨kind, name, labels, ks⟩ := a
  have key : ∀ ks : List Typ, b ∈ ks → b.kd + 1 ≤ (Typ.mk kind name labels ks).kd := by
    intro ks
    induction ks with
    | nil => intro h; cases h
    | cons x xs ih =>
      intro h
      have e : (Typ.mk kind name labels (x :: xs)).kd = Nat.max (x.kd + 1) (Typ.mk kind name labels xs).kd := rfl
      rw [e]
      rcases List.mem_cons.1 h with rfl | h
      · exact Nat.le_max_left _ _
      · exact Nat.le_trans (ih h) (Nat.le_max_right _ _)
  exact key ks h
noncomputable def Typ.cs (a : Typ) : List AV := Typ.pN (a.kd + 1) a
theorem Typ.low (a : Typ) : a.cs.all (low1 0) = true := rfl
theorem Typ.eta {a b : Typ} (h0 : a.kind = b.kind) (h1 : a.name = b.name) (h2 : a.labels = b.labels) (h3 : a.kids = b.kids) : a = b := by cases a; cases b; simp_all
/-- Its depth is less than n. -/
def Typ.fN (n : Nat) : Typ → Prop := Nat.rec (motive := fun _ => Typ → Prop) (fun _ => False) (fun _ ih a => ∀ x ∈ a.kids, ih x) n
theorem Typ.fN_kd : ∀ (n : Nat) (a : Typ), a.kd < n → Typ.fN n a
  | 0, a, h => absurd h (Nat.not_lt_zero _)
  | n + 1, a, h => fun x hx => Typ.fN_kd n x (by have := Typ.kd_mem hx; omega)
theorem Typ.fN_self (a : Typ) : Typ.fN (a.kd + 1) a := Typ.fN_kd _ a (Nat.lt_succ_self _)
theorem Typ.fN_nil {l : List Typ} (h : ∀ x ∈ l, Typ.fN 0 x) : l = [] := by
  cases l with
  | nil => rfl
  | cons x xs => exact (h x List.mem_cons_self).elim
def Typ.oN (n : Nat) : Typ → Prop := Nat.rec (motive := fun _ => Typ → Prop) (fun _ => False) (fun _ ih a => okS a.name ∧ (okL okS) a.labels ∧ okL ih a.kids) n
def Typ.ok (a : Typ) : Prop := Typ.oN (a.kd + 1) a
theorem Typ.oN_nil {l : List Typ} (h : okL (Typ.oN 0) l) : l = [] := by
  cases l with
  | nil => rfl
  | cons x xs => exact (h.2 0 (Nat.succ_pos _)).elim
theorem Typ.oN_fN : ∀ (n : Nat) (a : Typ), Typ.oN n a → Typ.fN n a
  | 0, a, h => h.elim
  | n + 1, a, h => fun x hx => by
    obtain ⟨k, hk, rfl⟩ := List.getElem_of_mem hx
    have := h.2.2.2 k hk
    rw [List.getD_eq_getElem?_getD, List.getElem?_eq_getElem hk] at this
    exact Typ.oN_fN n _ this

theorem Typ.oN_up : ∀ (n : Nat) (a : Typ), Typ.oN n a → Typ.oN (n + 1) a
  | 0, a, h => h.elim
  | n + 1, a, h => ⟨h.1, h.2.1, (h.2.2).1, fun k hk => Typ.oN_up n _ ((h.2.2).2 k hk)⟩
theorem Typ.fN_up : ∀ (n : Nat) (a : Typ), Typ.fN n a → Typ.fN (n + 1) a
  | 0, a, h => h.elim
  | n + 1, a, h => fun x hx => Typ.fN_up n x (h x hx)
theorem Typ.wget {xs ys : List AV} (h : WkL xs ys) (j : Nat) : Wk (xs.getD j .any) (ys.getD j .any) := by
  rw [List.getD_eq_getElem?_getD, List.getD_eq_getElem?_getD]
  cases hx : xs[j]? with
  | none =>
    have : ys[j]? = none := by
      rw [List.getElem?_eq_none_iff] at hx ⊢
      rw [← h.1]; exact hx
    rw [this]
    exact .refl _
  | some x =>
    have hl : j < ys.length := by rw [← h.1]; exact (List.getElem?_eq_some_iff.1 hx).1
    rw [List.getElem?_eq_getElem hl]
    exact h.2 j x _ hx (List.getElem?_eq_getElem hl)
theorem Typ.getD_mem0 {l : List Typ} {k : Nat} (h : k < l.length) : l.getD k default ∈ l := by
  rw [List.getD_eq_getElem?_getD, List.getElem?_eq_getElem h]
  exact List.getElem_mem h
/-- A value's cells may be said with more depth. -/
theorem Typ.up : ∀ (n : Nat) (a : Typ), Typ.fN n a → WkL (Typ.pN n a) (Typ.pN (n + 1) a)
  | 0, a, h => h.elim
  | n + 1, a, h => .cons (.refl _) (.cons (.refl _) (.cons (.refl _) (.cons (Wk.sl fun i j hi hj => Typ.wget (Typ.up n _ (h _ (Typ.getD_mem0 hi))) j) .nil)))

theorem Typ.conv : ∀ (n m : Nat) (a : Typ), Typ.fN n a → Typ.fN m a → WkL (Typ.pN n a) (Typ.pN m a)
  | 0, m, a, h, _ => h.elim
  | n + 1, 0, a, _, h => h.elim
  | n + 1, m + 1, a, h, k => .cons (.refl _) (.cons (.refl _) (.cons (.refl _) (.cons (Wk.sl fun i j hi hj => Typ.wget (Typ.conv n m _ (h _ (Typ.getD_mem0 hi)) (k _ (Typ.getD_mem0 hi))) j) .nil)))
/-- Such values are read. -/
theorem Typ.readS (n : Nat) (g : Nat → Nat → AV) (h : ∀ i, i < n → ∃ a : Typ, WkL (cellsAt (g i) 0 4) a.cs) : ∃ (l : List Typ) (N : Nat), (∀ x ∈ l, Typ.fN N x) ∧ WkL [.sl 4 n g] [slL 4 (Typ.pN N) l] := by
  let l : List Typ := (List.range n).map fun i => if h' : i < n then Classical.choose (h i h') else default
  have hl : l.length = n := by simp [l]
  have hget : ∀ i (hi : i < n), l.getD i default = Classical.choose (h i hi) := fun i hi => by simp [l, hi]
  let N := (Typ.mk default default default l).kd
  have hN : ∀ x ∈ l, Typ.fN N x := fun x hx => Typ.fN_kd N x (by have := Typ.kd_mem (a := Typ.mk default default default l) hx; omega)
  refine ⟨l, N, hN, .cons ?_ .nil⟩
  refine Wk.sl' rfl hl.symm fun i j hi hj => ?_
  have hx := Classical.choose_spec (h i hi)
  rw [← hget i hi] at hx
  have hm : l.getD i default ∈ l := Typ.getD_mem0 (by omega)
  have hc := Typ.conv _ N _ (Typ.fN_self (l.getD i default)) (hN _ hm)
  have e1 := Typ.wget hx j
  have e2 := Typ.wget hc j
  have e3 : (cellsAt (g i) 0 4).getD j .any = g i j := by
    have hl2 : j < (cellsAt (g i) 0 4).length := by rw [cellsAt_length]; exact hj
    rw [List.getD_eq_getElem?_getD, List.getElem?_eq_getElem hl2]
    have := (cellsAt_get (g i) 4 0 j _ (List.getElem?_eq_getElem hl2)).2
    rw [Nat.zero_add] at this
    exact this
  rw [e3] at e1
  exact ⟨fun q => e2.1 (e1.1 q), fun w S u hu => e2.2 w S u (e1.2 w S u hu)⟩
theorem Typ.readK {ds : List AV} {a : Typ} {N : Nat} (hN : ∀ x ∈ a.kids, Typ.fN N x) (h : WkL ds [slL 4 (Typ.pN N) a.kids]) : WkL ds [slL 4 (Typ.pN a.kd) a.kids] := by
  obtain ⟨x, rfl⟩ := List.length_eq_one_iff.1 h.1
  have k : Wk (slL 4 (Typ.pN N) a.kids) (slL 4 (Typ.pN a.kd) a.kids) := Wk.sl fun i j hi hj => Typ.wget (Typ.conv N a.kd _ (hN _ (Typ.getD_mem0 hi)) (Typ.fN_kd _ _ (by have := Typ.kd_mem (Typ.getD_mem0 hi); omega))) j
  have e := h.2 0 x _ rfl rfl
  exact .cons ⟨fun q => k.1 (e.1 q), fun w S u hu => k.2 w S u (e.2 w S u hu)⟩ .nil

set_option maxRecDepth 8000 in
theorem toTypeS_0 : Ret env.P 21 [slL 4 (Typ.pN 0) []] (fun r => r = slL 4 (Typ.pN 0) []) := by
  have hl0 : ([] : List Typ).length = 0 := rfl
  refine Ret.to ?_
  refine ret_of (nt := 23) (rvs := [.tmp 2]) Try.func21 rfl rfl rfl rfl (fun X => ?_)
  conv => whnf
  refine ⟨⟨by simp, by simp, by simp, by simp⟩, ?_⟩
  conv => whnf
  refine loopN ([] : List Typ).length (fun k => [(4, .i .i64 k)]) (fun k => [some (.arr ⟨4, ([] : List Typ).length, fillE k (elE (Typ.pN 0) ([] : List Typ)) (fun _ j => [AV.i .i64 0, AV.s ByteArray.empty, AV.nils, AV.nils].getD j .any), .arr⟩)]) (fun k => True) ⟨trivial, ?_⟩
  repeat' (first | exact aa | ((conv => whnf) <;> (first | exact arr_start rfl (fun _ _ => low_cells (rfl : (Typ.pN 0 _).all (low1 0) = true)) (fun _ _ => low_cells rfl) | exact arr_round rfl rfl (fun _ _ => rfl) (fun _ _ => low_cells (rfl : (Typ.pN 0 _).all (low1 0) = true)) (fun _ _ => low_cells rfl) | refine And.intro ?_ ?_ | (intro _h; first | contradiction | (try simp only [dd] at _h)) | (refine dt_go ?_) | exact rfl | exact True.intro | exact dkk | exact dks | (refine wrap_succ ?_; omega))))
  exact wk_fill rfl (by simp) rfl (fun _ => rfl)

set_option maxRecDepth 8000 in
theorem toTypeS_g (g : Typ → Nat) (l : List Typ) (hl : l.length ≤ 1048576) (hc : ∀ k, k < l.length → Ret env.P 7 [.agg (Typ.pN (g (l.getD k default) + 1) (l.getD k default))] (fun r => r = .agg (Typ.pN (g (l.getD k default) + 1) (l.getD k default)))) : Ret env.P 21 [slL 4 (fun a => Typ.pN (g a + 1) a) l] (fun r => r = slL 4 (fun a => Typ.pN (g a + 1) a) l) := by
  refine Ret.to ?_
  refine ret_of (nt := 23) (rvs := [.tmp 2]) Try.func21 rfl rfl rfl rfl (fun X => ?_)
  conv => whnf
  refine ⟨⟨by omega, by omega, by dsimp only; omega, by omega⟩, ?_⟩
  conv => whnf
  refine loopN l.length (fun k => [(4, .i .i64 k)]) (fun k => [some (.arr ⟨4, l.length, fillE k (elE (fun a => Typ.pN (g a + 1) a) l) (fun _ j => [AV.i .i64 0, AV.s ByteArray.empty, AV.nils, AV.nils].getD j .any), .arr⟩)]) (fun k => True) ⟨trivial, ?_⟩
  repeat' (first | exact aa | ((conv => whnf) <;> (first | exact arr_start rfl (fun _ _ => low_cells (rfl : (Typ.pN (_ + 1) _).all (low1 0) = true)) (fun _ _ => low_cells rfl) | exact arr_round rfl rfl (fun _ _ => rfl) (fun _ _ => low_cells (rfl : (Typ.pN (_ + 1) _).all (low1 0) = true)) (fun _ _ => low_cells rfl) | refine And.intro ?_ ?_ | (intro _h; first | contradiction | (try simp only [dd] at _h)) | (refine dt_go ?_) | exact rfl | exact True.intro | exact dkk | exact dks | ((first | refine .inl ⟨_, hc _ (by omega), ?_⟩ | refine ⟨_, hc _ (by omega), ?_⟩); (try rintro _ rfl)) | (refine wrap_succ ?_; omega))))
  exact wk_fill rfl (by omega) rfl (fun _ => rfl)

set_option maxRecDepth 8000 in
theorem toType_m (m : Nat) : ∀ a : Typ, Typ.oN (m + 1) a → Ret env.P 7 [.agg (Typ.pN (m + 1) a)] (fun r => r = .agg (Typ.pN (m + 1) a)) := by
  induction m with
  | zero =>
    intro a h
    have hk := Typ.oN_nil (h.2.2)
    obtain ⟨kind, name, labels, ks⟩ := a
    dsimp only at hk
    subst hk
    refine ret_of (nt := 19) (rvs := [.cell 2 29]) Try.func7 rfl rfl rfl rfl (fun X => ?_)
    repeat' (first | exact aa | ((conv => whnf) <;> (first | refine And.intro ?_ ?_ | (intro _h; first | contradiction | (try simp only [dd] at _h)) | (refine dt_go ?_) | exact rfl | exact True.intro | exact dkk | exact dks | ((first | refine .inl ⟨_, toStringS_ok _ (h.2.1), ?_⟩ | refine ⟨_, toStringS_ok _ (h.2.1), ?_⟩); (try rintro _ rfl)) | ((first | refine .inl ⟨_, toTypeS_0, ?_⟩ | refine ⟨_, toTypeS_0, ?_⟩); (try rintro _ rfl)) | (refine wrap_succ ?_; omega))))
  | succ m ih =>
    intro a h
    refine ret_of (nt := 19) (rvs := [.cell 2 29]) Try.func7 rfl rfl rfl rfl (fun X => ?_)
    repeat' (first | exact aa | ((conv => whnf) <;> (first | refine And.intro ?_ ?_ | (intro _h; first | contradiction | (try simp only [dd] at _h)) | (refine dt_go ?_) | exact rfl | exact True.intro | exact dkk | exact dks | ((first | refine .inl ⟨_, toStringS_ok _ (h.2.1), ?_⟩ | refine ⟨_, toStringS_ok _ (h.2.1), ?_⟩); (try rintro _ rfl)) | ((first | refine .inl ⟨_, toTypeS_g (fun _ => m) a.kids (h.2.2).1 (fun k hk => ih _ ((h.2.2).2 k hk)), ?_⟩ | refine ⟨_, toTypeS_g (fun _ => m) a.kids (h.2.2).1 (fun k hk => ih _ ((h.2.2).2 k hk)), ?_⟩); (try rintro _ rfl)) | (refine wrap_succ ?_; omega))))

theorem toType_ok (a : Typ) (h : Typ.ok a) : Ret env.P 7 [.agg a.cs] (fun r => r = .agg a.cs) := toType_m a.kd a h
theorem toTypeS_ok (l : List Typ) (h : okL Typ.ok l) : Ret env.P 21 [slL 4 Typ.cs l] (fun r => r = slL 4 Typ.cs l) := toTypeS_g Typ.kd l h.1 fun k hk => toType_ok _ (h.2 k hk)

set_option maxRecDepth 8000 in
theorem eqTypeS_0l (c : Typ → List AV) (m : List Typ) : Ret env.P 26 [slL 4 (Typ.pN 0) [], slL 4 c m] (fun r => r = .b (decide ([] = m))) := by
  have hl0 : ([] : List Typ).length = 0 := rfl
  refine ret_of (nt := 27) (rvs := [.tmp 4]) Try.func26 rfl rfl rfl rfl (fun X => ?_)
  repeat' (first | exact aa | ((conv => whnf) <;> (first | exact upto_succ (by assumption) (by assumption) | refine loopN ([] : List Typ).length (fun k => [(5, .i .i64 k)]) (fun k => []) (fun k => ∀ j, j < k → ([] : List Typ).getD j default = m.getD j default) ⟨fun _ h => by omega, ?_⟩ | refine And.intro ?_ ?_ | (intro _h; first | contradiction | (try simp only [dd] at _h)) | (refine dt_go ?_) | exact rfl | exact True.intro | exact dkk | exact dks | (refine wrap_succ ?_; omega))))
  all_goals first
    | exact leaf_ne (by rintro rfl; contradiction)
    | exact leaf_ne (by rintro rfl; omega)
    | (refine leaf_eq ?_; cases m with | nil => rfl | cons x xs => (try simp at *); omega)

set_option maxRecDepth 8000 in
theorem eqTypeS_0r (c : Typ → List AV) (l : List Typ) : Ret env.P 26 [slL 4 c l, slL 4 (Typ.pN 0) []] (fun r => r = .b (decide (l = []))) := by
  have hl0 : ([] : List Typ).length = 0 := rfl
  cases l with
  | nil =>
    refine ret_of (nt := 27) (rvs := [.tmp 4]) Try.func26 rfl rfl rfl rfl (fun X => ?_)
    repeat' (first | exact aa | ((conv => whnf) <;> (first | exact upto_succ (by assumption) (by assumption) | refine loopN ([] : List Typ).length (fun k => [(5, .i .i64 k)]) (fun k => []) (fun k => True) ⟨trivial, ?_⟩ | refine And.intro ?_ ?_ | (intro _h; first | contradiction | (try simp only [dd] at _h)) | (refine dt_go ?_) | exact rfl | exact True.intro | exact dkk | exact dks | (refine wrap_succ ?_; omega))))
    all_goals first
      | exact leaf_eq rfl
      | (exfalso; simp at *; done)
  | cons x xs =>
    refine ret_of (nt := 27) (rvs := [.tmp 4]) Try.func26 rfl rfl rfl rfl (fun X => ?_)
    repeat' (first | exact aa | ((conv => whnf) <;> (first | refine And.intro ?_ ?_ | (intro _h; first | contradiction | (try simp only [dd] at _h)) | (refine dt_go ?_) | exact rfl | exact True.intro | exact dkk | exact dks | (refine wrap_succ ?_; omega))))
    all_goals first
      | exact leaf_ne (by intro h; cases h)
      | (exfalso; simp at *; done)
      | (exfalso; simp at *; omega)

set_option maxRecDepth 8000 in
theorem eqTypeS_g (g g' : Typ → Nat) (l m : List Typ) (hl : l.length ≤ 1048576) (hc : ∀ k, k < l.length → l.length = m.length → Ret env.P 10 [.agg (Typ.pN (g (l.getD k default) + 1) (l.getD k default)), .agg (Typ.pN (g' (m.getD k default) + 1) (m.getD k default))] (fun r => r = .b (decide ((l.getD k default) = (m.getD k default))))) : Ret env.P 26 [slL 4 (fun a => Typ.pN (g a + 1) a) l, slL 4 (fun a => Typ.pN (g' a + 1) a) m] (fun r => r = .b (decide (l = m))) := by
  refine ret_of (nt := 27) (rvs := [.tmp 4]) Try.func26 rfl rfl rfl rfl (fun X => ?_)
  repeat' (first | exact aa | ((conv => whnf) <;> (first | exact upto_succ (by assumption) (by assumption) | refine loopN l.length (fun k => [(5, .i .i64 k)]) (fun k => []) (fun k => ∀ j, j < k → l.getD j default = m.getD j default) ⟨fun _ h => by omega, ?_⟩ | refine And.intro ?_ ?_ | (intro _h; first | contradiction | (try simp only [dd] at _h)) | (refine dt_go ?_) | exact rfl | exact True.intro | exact dkk | exact dks | ((first | refine .inl ⟨_, hc _ (by omega) (by omega), ?_⟩ | refine ⟨_, hc _ (by omega) (by omega), ?_⟩); (try rintro _ rfl)) | (refine wrap_succ ?_; omega))))
  · exact leaf_ne (by rintro rfl; omega)
  · exact leaf_ne (by rintro rfl; contradiction)
  · exact leaf_eq (list_eq (by omega) fun j hj => by have := ‹∀ j, j < _ → l.getD j default = m.getD j default›; exact this j (by omega))

set_option maxRecDepth 8000 in
theorem eqType_m (m : Nat) : ∀ a : Typ, Typ.oN (m + 1) a → ∀ (m' : Nat) (b : Typ), Typ.fN (m' + 1) b → Ret env.P 10 [.agg (Typ.pN (m + 1) a), .agg (Typ.pN (m' + 1) b)] (fun r => r = .b (decide (a = b))) := by
  induction m with
  | zero =>
    intro a h m' b hb
    have hk := Typ.oN_nil (h.2.2)
    obtain ⟨a0, a1, a2, ks⟩ := a
    obtain ⟨b0, b1, b2, ls⟩ := b
    dsimp only at hk
    subst hk
    refine ret_of (nt := 27) (rvs := [.tmp 4]) Try.func10 rfl rfl rfl rfl (fun X => ?_)
    repeat' (first | exact aa | ((conv => whnf) <;> (first | refine And.intro ?_ ?_ | (intro _h; first | contradiction | (try simp only [dd] at _h)) | (refine dt_go ?_) | exact rfl | exact True.intro | exact dkk | exact dks | ((first | refine .inl ⟨_, eqStringS_ok _ _ (h.2.1), ?_⟩ | refine ⟨_, eqStringS_ok _ _ (h.2.1), ?_⟩); (try rintro _ rfl)) | ((first | refine .inl ⟨_, eqTypeS_0l (Typ.pN m') ls, ?_⟩ | refine ⟨_, eqTypeS_0l (Typ.pN m') ls, ?_⟩); (try rintro _ rfl)) | (refine wrap_succ ?_; omega))))
    all_goals (clear h; refine leaf_b ?_; simp_all)
  | succ m ih =>
    intro a h m' b hb
    cases m' with
    | zero =>
      have hk := Typ.fN_nil hb
      obtain ⟨a0, a1, a2, ks⟩ := a
      obtain ⟨b0, b1, b2, ls⟩ := b
      dsimp only at hk
      subst hk
      refine ret_of (nt := 27) (rvs := [.tmp 4]) Try.func10 rfl rfl rfl rfl (fun X => ?_)
      repeat' (first | exact aa | ((conv => whnf) <;> (first | refine And.intro ?_ ?_ | (intro _h; first | contradiction | (try simp only [dd] at _h)) | (refine dt_go ?_) | exact rfl | exact True.intro | exact dkk | exact dks | ((first | refine .inl ⟨_, eqStringS_ok _ _ (h.2.1), ?_⟩ | refine ⟨_, eqStringS_ok _ _ (h.2.1), ?_⟩); (try rintro _ rfl)) | ((first | refine .inl ⟨_, eqTypeS_0r (Typ.pN (m + 1)) ks, ?_⟩ | refine ⟨_, eqTypeS_0r (Typ.pN (m + 1)) ks, ?_⟩); (try rintro _ rfl)) | (refine wrap_succ ?_; omega))))
      all_goals (clear h; refine leaf_b ?_; simp_all)
    | succ m' =>
      have hk := h.2.2
      obtain ⟨a0, a1, a2, ks⟩ := a
      obtain ⟨b0, b1, b2, ls⟩ := b
      have hq : ∀ k, k < ks.length → ks.length = ls.length → Ret env.P 10 [.agg (Typ.pN (m + 1) (ks.getD k default)), .agg (Typ.pN (m' + 1) (ls.getD k default))] (fun r => r = .b (decide (ks.getD k default = ls.getD k default))) := fun k hlt he => ih _ (hk.2 k hlt) m' _ (hb _ (by
        have h2 : k < ls.length := by omega
        show ls.getD k default ∈ ls
        rw [List.getD_eq_getElem?_getD, List.getElem?_eq_getElem h2]
        exact List.getElem_mem h2))
      refine ret_of (nt := 27) (rvs := [.tmp 4]) Try.func10 rfl rfl rfl rfl (fun X => ?_)
      repeat' (first | exact aa | ((conv => whnf) <;> (first | refine And.intro ?_ ?_ | (intro _h; first | contradiction | (try simp only [dd] at _h)) | (refine dt_go ?_) | exact rfl | exact True.intro | exact dkk | exact dks | ((first | refine .inl ⟨_, eqStringS_ok _ _ (h.2.1), ?_⟩ | refine ⟨_, eqStringS_ok _ _ (h.2.1), ?_⟩); (try rintro _ rfl)) | ((first | refine .inl ⟨_, eqTypeS_g (fun _ => m) (fun _ => m') ks ls hk.1 hq, ?_⟩ | refine ⟨_, eqTypeS_g (fun _ => m) (fun _ => m') ks ls hk.1 hq, ?_⟩); (try rintro _ rfl)) | (refine wrap_succ ?_; omega))))
      all_goals (clear hq hk h hb ih; refine leaf_b ?_; simp_all)

theorem eqType_ok (a b : Typ) (h : Typ.ok a) : Ret env.P 10 [.agg a.cs, .agg b.cs] (fun r => r = .b (decide (a = b))) := eqType_m a.kd a h b.kd b (Typ.fN_self b)
theorem eqTypeS_ok (l m : List Typ) (h : okL Typ.ok l) : Ret env.P 26 [slL 4 Typ.cs l, slL 4 Typ.cs m] (fun r => r = .b (decide (l = m))) := eqTypeS_g Typ.kd Typ.kd l m h.1 fun k hk _ => eqType_ok _ _ (h.2 k hk)

noncomputable def Typ.zN (n : Nat) : Typ → Int → Int := Nat.rec (motive := fun _ => Typ → Int → Int) (fun _ _ => -1) (fun _ ih a left => if (szSt a.name left) < 0 then -1 else if ((szLs szSt) a.labels (szSt a.name left)) < 0 then -1 else if (szLs ih a.kids ((szLs szSt) a.labels (szSt a.name left))) < 0 then -1 else (szLs ih a.kids ((szLs szSt) a.labels (szSt a.name left)))) n
noncomputable def Typ.sz (a : Typ) (left : Int) : Int := Typ.zN (a.kd + 1) a left
theorem Typ.zN_le : ∀ (n : Nat) (a : Typ) (left : Int), left ≤ 1048576 → Typ.zN n a left ≤ 1048576
  | 0, a, left, h1 => by show (-1 : Int) ≤ _; omega
  | n + 1, a, left, h1 => by
    have b1 : (szSt a.name left) ≤ 1048576 := szN_le h1
    have b2 : ((szLs szSt) a.labels (szSt a.name left)) ≤ 1048576 := szLs_le (fun a v h => szSt_le a v h) b1
    have b3 : (szLs (Typ.zN n) a.kids ((szLs szSt) a.labels (szSt a.name left))) ≤ 1048576 := szLs_le (fun a v h => Typ.zN_le n a v h) b2
    show (if (szSt a.name left) < 0 then -1 else if ((szLs szSt) a.labels (szSt a.name left)) < 0 then -1 else if (szLs (Typ.zN n) a.kids ((szLs szSt) a.labels (szSt a.name left))) < 0 then -1 else (szLs (Typ.zN n) a.kids ((szLs szSt) a.labels (szSt a.name left)))) ≤ _
    repeat' split
    all_goals omega
theorem Typ.zN_ok : ∀ (n : Nat) (a : Typ) (left : Int), 0 ≤ left → left ≤ 1048576 → ¬ Typ.zN n a left < 0 → Typ.oN n a
  | 0, a, left, _, _, hn => (hn (by show (-1 : Int) < 0; decide)).elim
  | n + 1, a, left, h0, h1, hn => by
    have b1 : (szSt a.name left) ≤ 1048576 := szN_le h1
    have b2 : ((szLs szSt) a.labels (szSt a.name left)) ≤ 1048576 := szLs_le (fun a v h => szSt_le a v h) b1
    have b3 : (szLs (Typ.zN n) a.kids ((szLs szSt) a.labels (szSt a.name left))) ≤ 1048576 := szLs_le (fun a v h => Typ.zN_le n a v h) b2
    replace hn : ¬ (if (szSt a.name left) < 0 then -1 else if ((szLs szSt) a.labels (szSt a.name left)) < 0 then -1 else if (szLs (Typ.zN n) a.kids ((szLs szSt) a.labels (szSt a.name left))) < 0 then -1 else (szLs (Typ.zN n) a.kids ((szLs szSt) a.labels (szSt a.name left)))) < 0 := hn
    by_cases c1 : (szSt a.name left) < 0
    · rw [if_pos c1] at hn; omega
    rw [if_neg c1] at hn
    by_cases c2 : ((szLs szSt) a.labels (szSt a.name left)) < 0
    · rw [if_pos c2] at hn; omega
    rw [if_neg c2] at hn
    by_cases c3 : (szLs (Typ.zN n) a.kids ((szLs szSt) a.labels (szSt a.name left))) < 0
    · rw [if_pos c3] at hn; omega
    rw [if_neg c3] at hn
    exact ⟨szSt_ok h0 h1 c1, szLs_ok (fun a v h => szSt_le a v h) (fun a v h0 h1 hn => szSt_ok' a v h0 h1 hn) (by omega) b1 c2, szLs_ok (fun a v h => Typ.zN_le n a v h) (fun a v h0 h1 hn => Typ.zN_ok n a v h0 h1 hn) (by omega) b2 c3⟩
theorem Typ.sz_le (a : Typ) (left : Int) (h1 : left ≤ 1048576) : Typ.sz a left ≤ 1048576 := Typ.zN_le _ a left h1
theorem Typ.sz_ok (a : Typ) (left : Int) (h0 : 0 ≤ left) (h1 : left ≤ 1048576) (hn : ¬ Typ.sz a left < 0) : Typ.ok a := Typ.zN_ok _ a left h0 h1 hn

set_option maxRecDepth 8000 in
theorem szTypeS_0 (left : Int) (h0 : 0 ≤ left) (h1 : left ≤ 1048576) : Ret env.P 17 [slL 4 (Typ.pN 0) [], .i .i64 left] (fun r => r = .i .i64 (szLs (Typ.zN 0) [] left)) := by
  have hl0 : ([] : List Typ).length = 0 := rfl
  refine Ret.args fun hw => ?_
  have hl := wfs_sl (hw _ (List.mem_cons_self))
  have e : IntKind.i64.wrap (left - (([] : List Typ).length : Int)) = left - (([] : List Typ).length : Int) := wrap_in (by omega) (by omega)
  refine ret_of (nt := 27) (rvs := [.tmp 4]) Try.func17 rfl rfl rfl rfl (fun X => ?_)
  conv => whnf
  rw [e]
  refine ⟨fun _h => ?_, fun _h => ?_⟩
  · exact leaf_i (szLs_neg (of_decide_eq_true _h))
  have _h : ¬ (left - (([] : List Typ).length : Int) < 0) := fun hc => _h (decide_eq_true hc)
  conv => whnf
  refine loopN ([] : List Typ).length (fun k => [(5, .i .i64 k), (1, .i .i64 (szAt (Typ.zN 0) ([] : List Typ) (left - ([] : List Typ).length) k))]) (fun k => []) (fun k => SzI (Typ.zN 0) ([] : List Typ) (left - ([] : List Typ).length) k) ⟨.start (by omega) (by omega), ?_⟩
  repeat' (first | exact aa | ((conv => whnf) <;> (first | exact SzI.step (fun a v h => Typ.zN_le _ a v h) (by assumption) (by assumption) (by assumption) | refine And.intro ?_ ?_ | (intro _h; first | contradiction | (try simp only [dd] at _h)) | (refine dt_go ?_) | exact rfl | exact True.intro | exact dkk | exact dks | (refine wrap_succ ?_; omega))))
  all_goals first | exact leaf_i (SzI.neg ‹SzI _ _ _ _› (by assumption) (by assumption) (by assumption)) | exact leaf_i (SzI.fin ‹SzI _ _ _ _› (by assumption) (by assumption))

set_option maxRecDepth 8000 in
theorem szTypeS_g (g : Typ → Nat) (l : List Typ) (left : Int) (h0 : 0 ≤ left) (h1 : left ≤ 1048576) (hc : ∀ k, k < l.length → ∀ v : Int, 0 ≤ v → v ≤ 1048576 → Ret env.P 5 [.agg (Typ.pN (g (l.getD k default) + 1) (l.getD k default)), .i .i64 v] (fun r => r = .i .i64 (Typ.zN (g (l.getD k default) + 1) (l.getD k default) v))) : Ret env.P 17 [slL 4 (fun a => Typ.pN (g a + 1) a) l, .i .i64 left] (fun r => r = .i .i64 (szLs (fun a => Typ.zN (g a + 1) a) l left)) := by
  refine Ret.args fun hw => ?_
  have hl := wfs_sl (hw _ (List.mem_cons_self))
  have e : IntKind.i64.wrap (left - (l.length : Int)) = left - (l.length : Int) := wrap_in (by omega) (by omega)
  refine ret_of (nt := 27) (rvs := [.tmp 4]) Try.func17 rfl rfl rfl rfl (fun X => ?_)
  conv => whnf
  rw [e]
  refine ⟨fun _h => ?_, fun _h => ?_⟩
  · exact leaf_i (szLs_neg (of_decide_eq_true _h))
  have _h : ¬ (left - (l.length : Int) < 0) := fun hc => _h (decide_eq_true hc)
  conv => whnf
  refine loopN l.length (fun k => [(5, .i .i64 k), (1, .i .i64 (szAt (fun a => Typ.zN (g a + 1) a) l (left - l.length) k))]) (fun k => []) (fun k => SzI (fun a => Typ.zN (g a + 1) a) l (left - l.length) k) ⟨.start (by omega) (by omega), ?_⟩
  repeat' (first | exact aa | ((conv => whnf) <;> (first | exact SzI.step (fun a v h => Typ.zN_le _ a v h) (by assumption) (by assumption) (by assumption) | refine And.intro ?_ ?_ | (intro _h; first | contradiction | (try simp only [dd] at _h)) | (refine dt_go ?_) | exact rfl | exact True.intro | exact dkk | exact dks | ((first | refine .inl ⟨_, hc _ (by omega) _ (SzI.lo ‹_›) (SzI.hi ‹_›), ?_⟩ | refine ⟨_, hc _ (by omega) _ (SzI.lo ‹_›) (SzI.hi ‹_›), ?_⟩); (try rintro _ rfl)) | (refine wrap_succ ?_; omega))))
  all_goals first | exact leaf_i (SzI.neg ‹SzI _ _ _ _› (by assumption) (by assumption) (by assumption)) | exact leaf_i (SzI.fin ‹SzI _ _ _ _› (by assumption) (by assumption))

theorem szTypeS_c (m : Nat) (l : List Typ) (left : Int) (h0 : 0 ≤ left) (h1 : left ≤ 1048576) (hc : ∀ k, k < l.length → ∀ v : Int, 0 ≤ v → v ≤ 1048576 → Ret env.P 5 [.agg (Typ.pN (m + 1) (l.getD k default)), .i .i64 v] (fun r => r = .i .i64 (Typ.zN (m + 1) (l.getD k default) v))) : Ret env.P 17 [slL 4 (Typ.pN (m + 1)) l, .i .i64 left] (fun r => r = .i .i64 (szLs (Typ.zN (m + 1)) l left)) := szTypeS_g (fun _ => m) l left h0 h1 hc

set_option maxRecDepth 8000 in
theorem szType_m (m : Nat) : ∀ a : Typ, Typ.fN (m + 1) a → ∀ left : Int, 0 ≤ left → left ≤ 1048576 → Ret env.P 5 [.agg (Typ.pN (m + 1) a), .i .i64 left] (fun r => r = .i .i64 (Typ.zN (m + 1) a left)) := by
  induction m with
  | zero =>
    intro a h left h0 h1
    have hk := Typ.fN_nil h
    obtain ⟨kind, name, labels, ks⟩ := a
    dsimp only at hk
    subst hk
    refine Ret.args fun hw => ?_
    have b1 : (szSt name left) ≤ 1048576 := szN_le h1
    have b2 : ((szLs szSt) labels (szSt name left)) ≤ 1048576 := szLs_le (fun a v h => szSt_le a v h) b1
    have b3 : (szLs (Typ.zN 0) ([] : List Typ) ((szLs szSt) labels (szSt name left))) ≤ 1048576 := szLs_le (fun a v h => Typ.zN_le 0 a v h) b2
    have w0 : name.size ≤ 9223372036854775807 := hw _ (List.mem_cons_self) (.s name) (.tail _ (.head _))
    have e0 : 0 ≤ left → IntKind.i64.wrap (left - (name.size : Int)) = left - (name.size : Int) := fun _ => wrap_in (by omega) (by omega)
    refine ret_of (nt := 25) (rvs := [.tmp 4]) Try.func5 rfl rfl rfl rfl (fun X => ?_)
    conv => whnf
    rw [e0 (by omega)]
    refine ⟨fun _h => ?_, fun _h => ?_⟩
    · refine leaf_i ?_
      have dn := szSt_neg (of_decide_eq_true _h)
      show _ = (if (szSt name left) < 0 then -1 else if ((szLs szSt) labels (szSt name left)) < 0 then -1 else if (szLs (Typ.zN 0) ([] : List Typ) ((szLs szSt) labels (szSt name left))) < 0 then -1 else (szLs (Typ.zN 0) ([] : List Typ) ((szLs szSt) labels (szSt name left))))
      clear _h; simp_all; try (intros; omega)
    have d0 : ¬ (szSt name left) < 0 := szSt_pos (fun hc => _h (decide_eq_true hc))
    rw [szSt_eq d0] at *
    repeat' (first | exact aa | ((conv => whnf) <;> (first | refine And.intro ?_ ?_ | (intro _h; first | contradiction | (try simp only [dd] at _h)) | (refine dt_go ?_) | exact rfl | exact True.intro | exact dkk | exact dks | ((first | refine .inl ⟨_, szStringS_ok _ _ (by omega) (by omega), ?_⟩ | refine ⟨_, szStringS_ok _ _ (by omega) (by omega), ?_⟩); (try rintro _ rfl)) | ((first | refine .inl ⟨_, szTypeS_0 _ (by (try dsimp only at *); omega) (by (try dsimp only at *); omega), ?_⟩ | refine ⟨_, szTypeS_0 _ (by (try dsimp only at *); omega) (by (try dsimp only at *); omega), ?_⟩); (try rintro _ rfl)) | (refine wrap_succ ?_; omega))))
    all_goals (refine leaf_i ?_; show _ = (if (szSt name left) < 0 then -1 else if ((szLs szSt) labels (szSt name left)) < 0 then -1 else if (szLs (Typ.zN 0) ([] : List Typ) ((szLs szSt) labels (szSt name left))) < 0 then -1 else (szLs (Typ.zN 0) ([] : List Typ) ((szLs szSt) labels (szSt name left)))); simp_all; try (intros; omega))
  | succ m ih =>
    intro a h left h0 h1
    refine Ret.args fun hw => ?_
    have b1 : (szSt a.name left) ≤ 1048576 := szN_le h1
    have b2 : ((szLs szSt) a.labels (szSt a.name left)) ≤ 1048576 := szLs_le (fun a v h => szSt_le a v h) b1
    have b3 : (szLs (Typ.zN (m + 1)) a.kids ((szLs szSt) a.labels (szSt a.name left))) ≤ 1048576 := szLs_le (fun a v h => Typ.zN_le (m + 1) a v h) b2
    have w0 : a.name.size ≤ 9223372036854775807 := hw _ (List.mem_cons_self) (.s a.name) (.tail _ (.head _))
    have e0 : 0 ≤ left → IntKind.i64.wrap (left - (a.name.size : Int)) = left - (a.name.size : Int) := fun _ => wrap_in (by omega) (by omega)
    refine ret_of (nt := 25) (rvs := [.tmp 4]) Try.func5 rfl rfl rfl rfl (fun X => ?_)
    conv => whnf
    rw [e0 (by omega)]
    refine ⟨fun _h => ?_, fun _h => ?_⟩
    · refine leaf_i ?_
      have dn := szSt_neg (of_decide_eq_true _h)
      show _ = (if (szSt a.name left) < 0 then -1 else if ((szLs szSt) a.labels (szSt a.name left)) < 0 then -1 else if (szLs (Typ.zN (m + 1)) a.kids ((szLs szSt) a.labels (szSt a.name left))) < 0 then -1 else (szLs (Typ.zN (m + 1)) a.kids ((szLs szSt) a.labels (szSt a.name left))))
      clear _h; simp_all; try (intros; omega)
    have d0 : ¬ (szSt a.name left) < 0 := szSt_pos (fun hc => _h (decide_eq_true hc))
    rw [szSt_eq d0] at *
    repeat' (first | exact aa | ((conv => whnf) <;> (first | refine And.intro ?_ ?_ | (intro _h; first | contradiction | (try simp only [dd] at _h)) | (refine dt_go ?_) | exact rfl | exact True.intro | exact dkk | exact dks | ((first | refine .inl ⟨_, szStringS_ok _ _ (by omega) (by omega), ?_⟩ | refine ⟨_, szStringS_ok _ _ (by omega) (by omega), ?_⟩); (try rintro _ rfl)) | ((first | refine .inl ⟨_, szTypeS_c m a.kids _ (by omega) (by omega) (fun k hk v hv0 hv1 => ih _ (h _ (Typ.getD_mem0 hk)) v hv0 hv1), ?_⟩ | refine ⟨_, szTypeS_c m a.kids _ (by omega) (by omega) (fun k hk v hv0 hv1 => ih _ (h _ (Typ.getD_mem0 hk)) v hv0 hv1), ?_⟩); (try rintro _ rfl)) | (refine wrap_succ ?_; omega))))
    all_goals (refine leaf_i ?_; show _ = (if (szSt a.name left) < 0 then -1 else if ((szLs szSt) a.labels (szSt a.name left)) < 0 then -1 else if (szLs (Typ.zN (m + 1)) a.kids ((szLs szSt) a.labels (szSt a.name left))) < 0 then -1 else (szLs (Typ.zN (m + 1)) a.kids ((szLs szSt) a.labels (szSt a.name left)))); simp_all; try (intros; omega))

theorem szType_ok (a : Typ) (left : Int) (h0 : 0 ≤ left) (h1 : left ≤ 1048576) : Ret env.P 5 [.agg a.cs, .i .i64 left] (fun r => r = .i .i64 (Typ.sz a left)) := szType_m a.kd a (Typ.fN_self a) left h0 h1
theorem szTypeS_ok (l : List Typ) (left : Int) (h0 : 0 ≤ left) (h1 : left ≤ 1048576) : Ret env.P 17 [slL 4 Typ.cs l, .i .i64 left] (fun r => r = .i .i64 (szLs Typ.sz l left)) := szTypeS_g Typ.kd l left h0 h1 fun k hk v hv0 hv1 => szType_ok _ v hv0 hv1

end Go.Proofs.Ytgjihfinbaopcaa
