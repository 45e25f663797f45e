/-
  Value: what the laws' functions for it do. Printed by famr.py.
-/
import Derived.Test.YtgjihfinbaopcaaVU
import Derived.Test.YtgjihfinbaopcaaVTBase
namespace Go.Proofs.Ytgjihfinbaopcaa
open Go Go.RowKit
set_option linter.unusedVariables false
set_option linter.unusedSimpArgs false

structure Value where
  kind : Int
  num : Int
  text : ByteArray
  kids : List Value
instance : Inhabited Value := ⟨⟨0, 0, ByteArray.empty, []⟩⟩
noncomputable instance : DecidableEq Value := fun a b => Classical.propDecidable (a = b)
/-- The cells of a value, whose depth is less than n. -/
noncomputable def Value.pN (n : Nat) : Value → List AV := Nat.rec (motive := fun _ => Value → List AV) (fun _ => []) (fun _ ih a => [.i .i64 a.kind, .i .i64 a.num, .s a.text, slL 4 ih a.kids]) n
/-- The greatest depth of a part. -/
noncomputable def Value.kd (a : Value) : Nat := Value.rec (motive_1 := fun _ => Nat) (motive_2 := fun _ => Nat) (fun _ _ _ _ ih => ih) 0 (fun _ _ x y => Nat.max (x + 1) y) a
theorem Value.kd_mem {a b : Value} (h : b ∈ a.kids) : b.kd + 1 ≤ a.kd := by
  obtain ⟨kind, num, text, ks⟩ := a
  have key : ∀ ks : List Value, b ∈ ks → b.kd + 1 ≤ (Value.mk kind num text ks).kd := by
    intro ks
    induction ks with
    | nil => intro h; cases h
    | cons x xs ih =>
      intro h
      have e : (Value.mk kind num text (x :: xs)).kd = Nat.max (x.kd + 1) (Value.mk kind num text xs).kd := rfl
      rw [e]
      rcases List.mem_cons.1 h with rfl | h
      · exact Nat.le_max_left _ _
      · exact Nat.le_trans (ih h) (Nat.le_max_right _ _)
  exact key ks h
noncomputable def Value.cs (a : Value) : List AV := Value.pN (a.kd + 1) a
theorem Value.low (a : Value) : a.cs.all (low1 0) = true := rfl
theorem Value.eta {a b : Value} (h0 : a.kind = b.kind) (h1 : a.num = b.num) (h2 : a.text = b.text) (h3 : a.kids = b.kids) : a = b := by cases a; cases b; simp_all
/-- Its depth is less than n. -/
def Value.fN (n : Nat) : Value → Prop := Nat.rec (motive := fun _ => Value → Prop) (fun _ => False) (fun _ ih a => ∀ x ∈ a.kids, ih x) n
theorem Value.fN_kd : ∀ (n : Nat) (a : Value), a.kd < n → Value.fN n a
  | 0, a, h => absurd h (Nat.not_lt_zero _)
  | n + 1, a, h => fun x hx => Value.fN_kd n x (by have := Value.kd_mem hx; omega)
theorem Value.fN_self (a : Value) : Value.fN (a.kd + 1) a := Value.fN_kd _ a (Nat.lt_succ_self _)
theorem Value.fN_nil {l : List Value} (h : ∀ x ∈ l, Value.fN 0 x) : l = [] := by
  cases l with
  | nil => rfl
  | cons x xs => exact (h x List.mem_cons_self).elim
def Value.oN (n : Nat) : Value → Prop := Nat.rec (motive := fun _ => Value → Prop) (fun _ => False) (fun _ ih a => okS a.text ∧ okL ih a.kids) n
def Value.ok (a : Value) : Prop := Value.oN (a.kd + 1) a
theorem Value.oN_nil {l : List Value} (h : okL (Value.oN 0) l) : l = [] := by
  cases l with
  | nil => rfl
  | cons x xs => exact (h.2 0 (Nat.succ_pos _)).elim
theorem Value.oN_fN : ∀ (n : Nat) (a : Value), Value.oN n a → Value.fN n a
  | 0, a, h => h.elim
  | n + 1, a, h => fun x hx => by
    obtain ⟨k, hk, rfl⟩ := List.getElem_of_mem hx
    have := h.2.2 k hk
    rw [List.getD_eq_getElem?_getD, List.getElem?_eq_getElem hk] at this
    exact Value.oN_fN n _ this

theorem Value.oN_up : ∀ (n : Nat) (a : Value), Value.oN n a → Value.oN (n + 1) a
  | 0, a, h => h.elim
  | n + 1, a, h => ⟨h.1, (h.2).1, fun k hk => Value.oN_up n _ ((h.2).2 k hk)⟩
theorem Value.fN_up : ∀ (n : Nat) (a : Value), Value.fN n a → Value.fN (n + 1) a
  | 0, a, h => h.elim
  | n + 1, a, h => fun x hx => Value.fN_up n x (h x hx)
theorem Value.wget {xs ys : List AV} (h : WkL xs ys) (j : Nat) : Wk (xs.getD j .any) (ys.getD j .any) := by
  rw [List.getD_eq_getElem?_getD, List.getD_eq_getElem?_getD]
  cases hx : xs[j]? with
  | none =>
    have : ys[j]? = none := by
      rw [List.getElem?_eq_none_iff] at hx ⊢
      rw [← h.1]; exact hx
    rw [this]
    exact .refl _
  | some x =>
    have hl : j < ys.length := by rw [← h.1]; exact (List.getElem?_eq_some_iff.1 hx).1
    rw [List.getElem?_eq_getElem hl]
    exact h.2 j x _ hx (List.getElem?_eq_getElem hl)
theorem Value.getD_mem0 {l : List Value} {k : Nat} (h : k < l.length) : l.getD k default ∈ l := by
  rw [List.getD_eq_getElem?_getD, List.getElem?_eq_getElem h]
  exact List.getElem_mem h
/-- A value's cells may be said with more depth. -/
theorem Value.up : ∀ (n : Nat) (a : Value), Value.fN n a → WkL (Value.pN n a) (Value.pN (n + 1) a)
  | 0, a, h => h.elim
  | n + 1, a, h => .cons (.refl _) (.cons (.refl _) (.cons (.refl _) (.cons (Wk.sl fun i j hi hj => Value.wget (Value.up n _ (h _ (Value.getD_mem0 hi))) j) .nil)))

theorem Value.conv : ∀ (n m : Nat) (a : Value), Value.fN n a → Value.fN m a → WkL (Value.pN n a) (Value.pN m a)
  | 0, m, a, h, _ => h.elim
  | n + 1, 0, a, _, h => h.elim
  | n + 1, m + 1, a, h, k => .cons (.refl _) (.cons (.refl _) (.cons (.refl _) (.cons (Wk.sl fun i j hi hj => Value.wget (Value.conv n m _ (h _ (Value.getD_mem0 hi)) (k _ (Value.getD_mem0 hi))) j) .nil)))
/-- Such values are read. -/
theorem Value.readS (n : Nat) (g : Nat → Nat → AV) (h : ∀ i, i < n → ∃ a : Value, WkL (cellsAt (g i) 0 4) a.cs) : ∃ (l : List Value) (N : Nat), (∀ x ∈ l, Value.fN N x) ∧ WkL [.sl 4 n g] [slL 4 (Value.pN N) l] := by
  let l : List Value := (List.range n).map fun i => if h' : i < n then Classical.choose (h i h') else default
  have hl : l.length = n := by simp [l]
  have hget : ∀ i (hi : i < n), l.getD i default = Classical.choose (h i hi) := fun i hi => by simp [l, hi]
  let N := (Value.mk default default default l).kd
  have hN : ∀ x ∈ l, Value.fN N x := fun x hx => Value.fN_kd N x (by have := Value.kd_mem (a := Value.mk default default default l) hx; omega)
  refine ⟨l, N, hN, .cons ?_ .nil⟩
  refine Wk.sl' rfl hl.symm fun i j hi hj => ?_
  have hx := Classical.choose_spec (h i hi)
  rw [← hget i hi] at hx
  have hm : l.getD i default ∈ l := Value.getD_mem0 (by omega)
  have hc := Value.conv _ N _ (Value.fN_self (l.getD i default)) (hN _ hm)
  have e1 := Value.wget hx j
  have e2 := Value.wget hc j
  have e3 : (cellsAt (g i) 0 4).getD j .any = g i j := by
    have hl2 : j < (cellsAt (g i) 0 4).length := by rw [cellsAt_length]; exact hj
    rw [List.getD_eq_getElem?_getD, List.getElem?_eq_getElem hl2]
    have := (cellsAt_get (g i) 4 0 j _ (List.getElem?_eq_getElem hl2)).2
    rw [Nat.zero_add] at this
    exact this
  rw [e3] at e1
  exact ⟨fun q => e2.1 (e1.1 q), fun w S u hu => e2.2 w S u (e1.2 w S u hu)⟩
theorem Value.readK {ds : List AV} {a : Value} {N : Nat} (hN : ∀ x ∈ a.kids, Value.fN N x) (h : WkL ds [slL 4 (Value.pN N) a.kids]) : WkL ds [slL 4 (Value.pN a.kd) a.kids] := by
  obtain ⟨x, rfl⟩ := List.length_eq_one_iff.1 h.1
  have k : Wk (slL 4 (Value.pN N) a.kids) (slL 4 (Value.pN a.kd) a.kids) := Wk.sl fun i j hi hj => Value.wget (Value.conv N a.kd _ (hN _ (Value.getD_mem0 hi)) (Value.fN_kd _ _ (by have := Value.kd_mem (Value.getD_mem0 hi); omega))) j
  have e := h.2 0 x _ rfl rfl
  exact .cons ⟨fun q => k.1 (e.1 q), fun w S u hu => k.2 w S u (e.2 w S u hu)⟩ .nil

set_option maxRecDepth 8000 in
theorem eqValueS_0l (c : Value → List AV) (m : List Value) : Ret env.P 24 [slL 4 (Value.pN 0) [], slL 4 c m] (fun r => r = .b (decide ([] = m))) := by
  have hl0 : ([] : List Value).length = 0 := rfl
  refine ret_of (nt := 27) (rvs := [.tmp 4]) Try.func24 rfl rfl rfl rfl (fun X => ?_)
  repeat' (first | exact aa | ((conv => whnf) <;> (first | exact upto_succ (by assumption) (by assumption) | refine loopN ([] : List Value).length (fun k => [(5, .i .i64 k)]) (fun k => []) (fun k => ∀ j, j < k → ([] : List Value).getD j default = m.getD j default) ⟨fun _ h => by omega, ?_⟩ | refine And.intro ?_ ?_ | (intro _h; first | contradiction | (try simp only [dd] at _h)) | (refine dt_go ?_) | exact rfl | exact True.intro | exact dkk | exact dks | (refine wrap_succ ?_; omega))))
  all_goals first
    | exact leaf_ne (by rintro rfl; contradiction)
    | exact leaf_ne (by rintro rfl; omega)
    | (refine leaf_eq ?_; cases m with | nil => rfl | cons x xs => (try simp at *); omega)

set_option maxRecDepth 8000 in
theorem eqValueS_0r (c : Value → List AV) (l : List Value) : Ret env.P 24 [slL 4 c l, slL 4 (Value.pN 0) []] (fun r => r = .b (decide (l = []))) := by
  have hl0 : ([] : List Value).length = 0 := rfl
  cases l with
  | nil =>
    refine ret_of (nt := 27) (rvs := [.tmp 4]) Try.func24 rfl rfl rfl rfl (fun X => ?_)
    repeat' (first | exact aa | ((conv => whnf) <;> (first | exact upto_succ (by assumption) (by assumption) | refine loopN ([] : List Value).length (fun k => [(5, .i .i64 k)]) (fun k => []) (fun k => True) ⟨trivial, ?_⟩ | refine And.intro ?_ ?_ | (intro _h; first | contradiction | (try simp only [dd] at _h)) | (refine dt_go ?_) | exact rfl | exact True.intro | exact dkk | exact dks | (refine wrap_succ ?_; omega))))
    all_goals first
      | exact leaf_eq rfl
      | (exfalso; simp at *; done)
  | cons x xs =>
    refine ret_of (nt := 27) (rvs := [.tmp 4]) Try.func24 rfl rfl rfl rfl (fun X => ?_)
    repeat' (first | exact aa | ((conv => whnf) <;> (first | refine And.intro ?_ ?_ | (intro _h; first | contradiction | (try simp only [dd] at _h)) | (refine dt_go ?_) | exact rfl | exact True.intro | exact dkk | exact dks | (refine wrap_succ ?_; omega))))
    all_goals first
      | exact leaf_ne (by intro h; cases h)
      | (exfalso; simp at *; done)
      | (exfalso; simp at *; omega)

set_option maxRecDepth 8000 in
theorem eqValueS_g (g g' : Value → Nat) (l m : List Value) (hl : l.length ≤ 1048576) (hc : ∀ k, k < l.length → l.length = m.length → Ret env.P 41 [.agg (Value.pN (g (l.getD k default) + 1) (l.getD k default)), .agg (Value.pN (g' (m.getD k default) + 1) (m.getD k default))] (fun r => r = .b (decide ((l.getD k default) = (m.getD k default))))) : Ret env.P 24 [slL 4 (fun a => Value.pN (g a + 1) a) l, slL 4 (fun a => Value.pN (g' a + 1) a) m] (fun r => r = .b (decide (l = m))) := by
  refine ret_of (nt := 27) (rvs := [.tmp 4]) Try.func24 rfl rfl rfl rfl (fun X => ?_)
  repeat' (first | exact aa | ((conv => whnf) <;> (first | exact upto_succ (by assumption) (by assumption) | refine loopN l.length (fun k => [(5, .i .i64 k)]) (fun k => []) (fun k => ∀ j, j < k → l.getD j default = m.getD j default) ⟨fun _ h => by omega, ?_⟩ | refine And.intro ?_ ?_ | (intro _h; first | contradiction | (try simp only [dd] at _h)) | (refine dt_go ?_) | exact rfl | exact True.intro | exact dkk | exact dks | ((first | refine .inl ⟨_, hc _ (by omega) (by omega), ?_⟩ | refine ⟨_, hc _ (by omega) (by omega), ?_⟩); (try rintro _ rfl)) | (refine wrap_succ ?_; omega))))
  · exact leaf_ne (by rintro rfl; omega)
  · exact leaf_ne (by rintro rfl; contradiction)
  · exact leaf_eq (list_eq (by omega) fun j hj => by have := ‹∀ j, j < _ → l.getD j default = m.getD j default›; exact this j (by omega))

set_option maxRecDepth 8000 in
theorem eqValue_m (m : Nat) : ∀ a : Value, Value.oN (m + 1) a → ∀ (m' : Nat) (b : Value), Value.fN (m' + 1) b → Ret env.P 41 [.agg (Value.pN (m + 1) a), .agg (Value.pN (m' + 1) b)] (fun r => r = .b (decide (a = b))) := by
  induction m with
  | zero =>
    intro a h m' b hb
    have hk := Value.oN_nil (h.2)
    obtain ⟨a0, a1, a2, ks⟩ := a
    obtain ⟨b0, b1, b2, ls⟩ := b
    dsimp only at hk
    subst hk
    refine ret_of (nt := 26) (rvs := [.tmp 4]) Try.func41 rfl rfl rfl rfl (fun X => ?_)
    repeat' (first | exact aa | ((conv => whnf) <;> (first | refine And.intro ?_ ?_ | (intro _h; first | contradiction | (try simp only [dd] at _h)) | (refine dt_go ?_) | exact rfl | exact True.intro | exact dkk | exact dks | ((first | refine .inl ⟨_, eqValueS_0l (Value.pN m') ls, ?_⟩ | refine ⟨_, eqValueS_0l (Value.pN m') ls, ?_⟩); (try rintro _ rfl)) | (refine wrap_succ ?_; omega))))
    all_goals (clear h; refine leaf_b ?_; simp_all)
  | succ m ih =>
    intro a h m' b hb
    cases m' with
    | zero =>
      have hk := Value.fN_nil hb
      obtain ⟨a0, a1, a2, ks⟩ := a
      obtain ⟨b0, b1, b2, ls⟩ := b
      dsimp only at hk
      subst hk
      refine ret_of (nt := 26) (rvs := [.tmp 4]) Try.func41 rfl rfl rfl rfl (fun X => ?_)
      repeat' (first | exact aa | ((conv => whnf) <;> (first | refine And.intro ?_ ?_ | (intro _h; first | contradiction | (try simp only [dd] at _h)) | (refine dt_go ?_) | exact rfl | exact True.intro | exact dkk | exact dks | ((first | refine .inl ⟨_, eqValueS_0r (Value.pN (m + 1)) ks, ?_⟩ | refine ⟨_, eqValueS_0r (Value.pN (m + 1)) ks, ?_⟩); (try rintro _ rfl)) | (refine wrap_succ ?_; omega))))
      all_goals (clear h; refine leaf_b ?_; simp_all)
    | succ m' =>
      have hk := h.2
      obtain ⟨a0, a1, a2, ks⟩ := a
      obtain ⟨b0, b1, b2, ls⟩ := b
      have hq : ∀ k, k < ks.length → ks.length = ls.length → Ret env.P 41 [.agg (Value.pN (m + 1) (ks.getD k default)), .agg (Value.pN (m' + 1) (ls.getD k default))] (fun r => r = .b (decide (ks.getD k default = ls.getD k default))) := fun k hlt he => ih _ (hk.2 k hlt) m' _ (hb _ (by
        have h2 : k < ls.length := by omega
        show ls.getD k default ∈ ls
        rw [List.getD_eq_getElem?_getD, List.getElem?_eq_getElem h2]
        exact List.getElem_mem h2))
      refine ret_of (nt := 26) (rvs := [.tmp 4]) Try.func41 rfl rfl rfl rfl (fun X => ?_)
      repeat' (first | exact aa | ((conv => whnf) <;> (first | refine And.intro ?_ ?_ | (intro _h; first | contradiction | (try simp only [dd] at _h)) | (refine dt_go ?_) | exact rfl | exact True.intro | exact dkk | exact dks | ((first | refine .inl ⟨_, eqValueS_g (fun _ => m) (fun _ => m') ks ls hk.1 hq, ?_⟩ | refine ⟨_, eqValueS_g (fun _ => m) (fun _ => m') ks ls hk.1 hq, ?_⟩); (try rintro _ rfl)) | (refine wrap_succ ?_; omega))))
      all_goals (clear hq hk h hb ih; refine leaf_b ?_; simp_all)

theorem eqValue_ok (a b : Value) (h : Value.ok a) : Ret env.P 41 [.agg a.cs, .agg b.cs] (fun r => r = .b (decide (a = b))) := eqValue_m a.kd a h b.kd b (Value.fN_self b)
theorem eqValueS_ok (l m : List Value) (h : okL Value.ok l) : Ret env.P 24 [slL 4 Value.cs l, slL 4 Value.cs m] (fun r => r = .b (decide (l = m))) := eqValueS_g Value.kd Value.kd l m h.1 fun k hk _ => eqValue_ok _ _ (h.2 k hk)

noncomputable def Value.zN (n : Nat) : Value → Int → Int := Nat.rec (motive := fun _ => Value → Int → Int) (fun _ _ => -1) (fun _ ih a left => if (szSt a.text left) < 0 then -1 else if (szLs ih a.kids (szSt a.text left)) < 0 then -1 else (szLs ih a.kids (szSt a.text left))) n
noncomputable def Value.sz (a : Value) (left : Int) : Int := Value.zN (a.kd + 1) a left
theorem Value.zN_le : ∀ (n : Nat) (a : Value) (left : Int), left ≤ 1048576 → Value.zN n a left ≤ 1048576
  | 0, a, left, h1 => by show (-1 : Int) ≤ _; omega
  | n + 1, a, left, h1 => by
    have b1 : (szSt a.text left) ≤ 1048576 := szN_le h1
    have b2 : (szLs (Value.zN n) a.kids (szSt a.text left)) ≤ 1048576 := szLs_le (fun a v h => Value.zN_le n a v h) b1
    show (if (szSt a.text left) < 0 then -1 else if (szLs (Value.zN n) a.kids (szSt a.text left)) < 0 then -1 else (szLs (Value.zN n) a.kids (szSt a.text left))) ≤ _
    repeat' split
    all_goals omega
theorem Value.zN_ok : ∀ (n : Nat) (a : Value) (left : Int), 0 ≤ left → left ≤ 1048576 → ¬ Value.zN n a left < 0 → Value.oN n a
  | 0, a, left, _, _, hn => (hn (by show (-1 : Int) < 0; decide)).elim
  | n + 1, a, left, h0, h1, hn => by
    have b1 : (szSt a.text left) ≤ 1048576 := szN_le h1
    have b2 : (szLs (Value.zN n) a.kids (szSt a.text left)) ≤ 1048576 := szLs_le (fun a v h => Value.zN_le n a v h) b1
    replace hn : ¬ (if (szSt a.text left) < 0 then -1 else if (szLs (Value.zN n) a.kids (szSt a.text left)) < 0 then -1 else (szLs (Value.zN n) a.kids (szSt a.text left))) < 0 := hn
    by_cases c1 : (szSt a.text left) < 0
    · rw [if_pos c1] at hn; omega
    rw [if_neg c1] at hn
    by_cases c2 : (szLs (Value.zN n) a.kids (szSt a.text left)) < 0
    · rw [if_pos c2] at hn; omega
    rw [if_neg c2] at hn
    exact ⟨szSt_ok h0 h1 c1, szLs_ok (fun a v h => Value.zN_le n a v h) (fun a v h0 h1 hn => Value.zN_ok n a v h0 h1 hn) (by omega) b1 c2⟩
theorem Value.sz_le (a : Value) (left : Int) (h1 : left ≤ 1048576) : Value.sz a left ≤ 1048576 := Value.zN_le _ a left h1
theorem Value.sz_ok (a : Value) (left : Int) (h0 : 0 ≤ left) (h1 : left ≤ 1048576) (hn : ¬ Value.sz a left < 0) : Value.ok a := Value.zN_ok _ a left h0 h1 hn

end Go.Proofs.Ytgjihfinbaopcaa
