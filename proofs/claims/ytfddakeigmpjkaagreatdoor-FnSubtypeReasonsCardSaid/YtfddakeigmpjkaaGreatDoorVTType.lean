/-
  Typ: what the laws' functions for it do. Printed by famr.py.
-/
import Derived.Test.YtfddakeigmpjkaaGreatDoorVU
import Derived.Test.YtfddakeigmpjkaaGreatDoorVTBase
import Derived.Test.YtfddakeigmpjkaaGreatDoorVTStringS
namespace Go.Proofs.YtfddakeigmpjkaaGreatDoor
open Go Go.RowKit
set_option linter.unusedVariables false
set_option linter.unusedSimpArgs false

structure Typ where
  kind : Int
  name : ByteArray
  labels : List ByteArray
  kids : List Typ
instance : Inhabited Typ := ⟨⟨0, ByteArray.empty, [], []⟩⟩
noncomputable instance : DecidableEq Typ := fun a b => Classical.propDecidable (a = b)
/-- The cells of a value, whose depth is less than n. -/
noncomputable def Typ.pN (n : Nat) : Typ → List AV := Nat.rec (motive := fun _ => Typ → List AV) (fun _ => []) (fun _ ih a => [.i .i64 a.kind, .s a.name, slL 1 strC a.labels, slL 4 ih a.kids]) n
/-- The greatest depth of a part. -/
noncomputable def Typ.kd (a : Typ) : Nat := Typ.rec (motive_1 := fun _ => Nat) (motive_2 := fun _ => Nat) (fun _ _ _ _ ih => ih) 0 (fun _ _ x y => Nat.max (x + 1) y) a
theorem Typ.kd_mem {a b : Typ} (h : b ∈ a.kids) : b.kd + 1 ≤ a.kd := by
  obtain ⟨kind, name, labels, ks⟩ := a
  have key : ∀ ks : List Typ, b ∈ ks → b.kd + 1 ≤ (Typ.mk kind name labels ks).kd := by
    intro ks
    induction ks with
    | nil => intro h; cases h
    | cons x xs ih =>
      intro h
      have e : (Typ.mk kind name labels (x :: xs)).kd = Nat.max (x.kd + 1) (Typ.mk kind name labels xs).kd := rfl
      rw [e]
      rcases List.mem_cons.1 h with rfl | h
      · exact Nat.le_max_left _ _
      · exact Nat.le_trans (ih h) (Nat.le_max_right _ _)
  exact key ks h
noncomputable def Typ.cs (a : Typ) : List AV := Typ.pN (a.kd + 1) a
theorem Typ.low (a : Typ) : a.cs.all (low1 0) = true := rfl
theorem Typ.eta {a b : Typ} (h0 : a.kind = b.kind) (h1 : a.name = b.name) (h2 : a.labels = b.labels) (h3 : a.kids = b.kids) : a = b := by cases a; cases b; simp_all
/-- Its depth is less than n. -/
def Typ.fN (n : Nat) : Typ → Prop := Nat.rec (motive := fun _ => Typ → Prop) (fun _ => False) (fun _ ih a => ∀ x ∈ a.kids, ih x) n
theorem Typ.fN_kd : ∀ (n : Nat) (a : Typ), a.kd < n → Typ.fN n a
  | 0, a, h => absurd h (Nat.not_lt_zero _)
  | n + 1, a, h => fun x hx => Typ.fN_kd n x (by have := Typ.kd_mem hx; omega)
theorem Typ.fN_self (a : Typ) : Typ.fN (a.kd + 1) a := Typ.fN_kd _ a (Nat.lt_succ_self _)
theorem Typ.fN_nil {l : List Typ} (h : ∀ x ∈ l, Typ.fN 0 x) : l = [] := by
  cases l with
  | nil => rfl
  | cons x xs => exact (h x List.mem_cons_self).elim
def Typ.oN (n : Nat) : Typ → Prop := Nat.rec (motive := fun _ => Typ → Prop) (fun _ => False) (fun _ ih a => okS a.name ∧ (okL okS) a.labels ∧ okL ih a.kids) n
def Typ.ok (a : Typ) : Prop := Typ.oN (a.kd + 1) a
theorem Typ.oN_nil {l : List Typ} (h : okL (Typ.oN 0) l) : l = [] := by
  cases l with
  | nil => rfl
  | cons x xs => exact (h.2 0 (Nat.succ_pos _)).elim
theorem Typ.oN_fN : ∀ (n : Nat) (a : Typ), Typ.oN n a → Typ.fN n a
  | 0, a, h => h.elim
  | n + 1, a, h => fun x hx => by
    obtain ⟨k, hk, rfl⟩ := List.getElem_of_mem hx
    have := h.2.2.2 k hk
    rw [List.getD_eq_getElem?_getD, List.getElem?_eq_getElem hk] at this
    exact Typ.oN_fN n _ this

theorem Typ.oN_up : ∀ (n : Nat) (a : Typ), Typ.oN n a → Typ.oN (n + 1) a
  | 0, a, h => h.elim
  | n + 1, a, h => ⟨h.1, h.2.1, (h.2.2).1, fun k hk => Typ.oN_up n _ ((h.2.2).2 k hk)⟩
theorem Typ.fN_up : ∀ (n : Nat) (a : Typ), Typ.fN n a → Typ.fN (n + 1) a
  | 0, a, h => h.elim
  | n + 1, a, h => fun x hx => Typ.fN_up n x (h x hx)
theorem Typ.wget {xs ys : List AV} (h : WkL xs ys) (j : Nat) : Wk (xs.getD j .any) (ys.getD j .any) := by
  rw [List.getD_eq_getElem?_getD, List.getD_eq_getElem?_getD]
  cases hx : xs[j]? with
  | none =>
    have : ys[j]? = none := by
      rw [List.getElem?_eq_none_iff] at hx ⊢
      rw [← h.1]; exact hx
    rw [this]
    exact .refl _
  | some x =>
    have hl : j < ys.length := by rw [← h.1]; exact (List.getElem?_eq_some_iff.1 hx).1
    rw [List.getElem?_eq_getElem hl]
    exact h.2 j x _ hx (List.getElem?_eq_getElem hl)
theorem Typ.getD_mem0 {l : List Typ} {k : Nat} (h : k < l.length) : l.getD k default ∈ l := by
  rw [List.getD_eq_getElem?_getD, List.getElem?_eq_getElem h]
  exact List.getElem_mem h
/-- A value's cells may be said with more depth. -/
theorem Typ.up : ∀ (n : Nat) (a : Typ), Typ.fN n a → WkL (Typ.pN n a) (Typ.pN (n + 1) a)
  | 0, a, h => h.elim
  | n + 1, a, h => .cons (.refl _) (.cons (.refl _) (.cons (.refl _) (.cons (Wk.sl fun i j hi hj => Typ.wget (Typ.up n _ (h _ (Typ.getD_mem0 hi))) j) .nil)))

theorem Typ.conv : ∀ (n m : Nat) (a : Typ), Typ.fN n a → Typ.fN m a → WkL (Typ.pN n a) (Typ.pN m a)
  | 0, m, a, h, _ => h.elim
  | n + 1, 0, a, _, h => h.elim
  | n + 1, m + 1, a, h, k => .cons (.refl _) (.cons (.refl _) (.cons (.refl _) (.cons (Wk.sl fun i j hi hj => Typ.wget (Typ.conv n m _ (h _ (Typ.getD_mem0 hi)) (k _ (Typ.getD_mem0 hi))) j) .nil)))
/-- Such values are read. -/
theorem Typ.readS (n : Nat) (g : Nat → Nat → AV) (h : ∀ i, i < n → ∃ a : Typ, WkL (cellsAt (g i) 0 4) a.cs) : ∃ (l : List Typ) (N : Nat), (∀ x ∈ l, Typ.fN N x) ∧ WkL [.sl 4 n g] [slL 4 (Typ.pN N) l] := by
  let l : List Typ := (List.range n).map fun i => if h' : i < n then Classical.choose (h i h') else default
  have hl : l.length = n := by simp [l]
  have hget : ∀ i (hi : i < n), l.getD i default = Classical.choose (h i hi) := fun i hi => by simp [l, hi]
  let N := (Typ.mk default default default l).kd
  have hN : ∀ x ∈ l, Typ.fN N x := fun x hx => Typ.fN_kd N x (by have := Typ.kd_mem (a := Typ.mk default default default l) hx; omega)
  refine ⟨l, N, hN, .cons ?_ .nil⟩
  refine Wk.sl' rfl hl.symm fun i j hi hj => ?_
  have hx := Classical.choose_spec (h i hi)
  rw [← hget i hi] at hx
  have hm : l.getD i default ∈ l := Typ.getD_mem0 (by omega)
  have hc := Typ.conv _ N _ (Typ.fN_self (l.getD i default)) (hN _ hm)
  have e1 := Typ.wget hx j
  have e2 := Typ.wget hc j
  have e3 : (cellsAt (g i) 0 4).getD j .any = g i j := by
    have hl2 : j < (cellsAt (g i) 0 4).length := by rw [cellsAt_length]; exact hj
    rw [List.getD_eq_getElem?_getD, List.getElem?_eq_getElem hl2]
    have := (cellsAt_get (g i) 4 0 j _ (List.getElem?_eq_getElem hl2)).2
    rw [Nat.zero_add] at this
    exact this
  rw [e3] at e1
  exact ⟨fun q => e2.1 (e1.1 q), fun w S u hu => e2.2 w S u (e1.2 w S u hu)⟩
theorem Typ.readK {ds : List AV} {a : Typ} {N : Nat} (hN : ∀ x ∈ a.kids, Typ.fN N x) (h : WkL ds [slL 4 (Typ.pN N) a.kids]) : WkL ds [slL 4 (Typ.pN a.kd) a.kids] := by
  obtain ⟨x, rfl⟩ := List.length_eq_one_iff.1 h.1
  have k : Wk (slL 4 (Typ.pN N) a.kids) (slL 4 (Typ.pN a.kd) a.kids) := Wk.sl fun i j hi hj => Typ.wget (Typ.conv N a.kd _ (hN _ (Typ.getD_mem0 hi)) (Typ.fN_kd _ _ (by have := Typ.kd_mem (Typ.getD_mem0 hi); omega))) j
  have e := h.2 0 x _ rfl rfl
  exact .cons ⟨fun q => k.1 (e.1 q), fun w S u hu => k.2 w S u (e.2 w S u hu)⟩ .nil

noncomputable def Typ.zN (n : Nat) : Typ → Int → Int := Nat.rec (motive := fun _ => Typ → Int → Int) (fun _ _ => -1) (fun _ ih a left => if (szSt a.name left) < 0 then -1 else if ((szLs szSt) a.labels (szSt a.name left)) < 0 then -1 else if (szLs ih a.kids ((szLs szSt) a.labels (szSt a.name left))) < 0 then -1 else (szLs ih a.kids ((szLs szSt) a.labels (szSt a.name left)))) n
noncomputable def Typ.sz (a : Typ) (left : Int) : Int := Typ.zN (a.kd + 1) a left
theorem Typ.zN_le : ∀ (n : Nat) (a : Typ) (left : Int), left ≤ 1048576 → Typ.zN n a left ≤ 1048576
  | 0, a, left, h1 => by show (-1 : Int) ≤ _; omega
  | n + 1, a, left, h1 => by
    have b1 : (szSt a.name left) ≤ 1048576 := szN_le h1
    have b2 : ((szLs szSt) a.labels (szSt a.name left)) ≤ 1048576 := szLs_le (fun a v h => szSt_le a v h) b1
    have b3 : (szLs (Typ.zN n) a.kids ((szLs szSt) a.labels (szSt a.name left))) ≤ 1048576 := szLs_le (fun a v h => Typ.zN_le n a v h) b2
    show (if (szSt a.name left) < 0 then -1 else if ((szLs szSt) a.labels (szSt a.name left)) < 0 then -1 else if (szLs (Typ.zN n) a.kids ((szLs szSt) a.labels (szSt a.name left))) < 0 then -1 else (szLs (Typ.zN n) a.kids ((szLs szSt) a.labels (szSt a.name left)))) ≤ _
    repeat' split
    all_goals omega
theorem Typ.zN_ok : ∀ (n : Nat) (a : Typ) (left : Int), 0 ≤ left → left ≤ 1048576 → ¬ Typ.zN n a left < 0 → Typ.oN n a
  | 0, a, left, _, _, hn => (hn (by show (-1 : Int) < 0; decide)).elim
  | n + 1, a, left, h0, h1, hn => by
    have b1 : (szSt a.name left) ≤ 1048576 := szN_le h1
    have b2 : ((szLs szSt) a.labels (szSt a.name left)) ≤ 1048576 := szLs_le (fun a v h => szSt_le a v h) b1
    have b3 : (szLs (Typ.zN n) a.kids ((szLs szSt) a.labels (szSt a.name left))) ≤ 1048576 := szLs_le (fun a v h => Typ.zN_le n a v h) b2
    replace hn : ¬ (if (szSt a.name left) < 0 then -1 else if ((szLs szSt) a.labels (szSt a.name left)) < 0 then -1 else if (szLs (Typ.zN n) a.kids ((szLs szSt) a.labels (szSt a.name left))) < 0 then -1 else (szLs (Typ.zN n) a.kids ((szLs szSt) a.labels (szSt a.name left)))) < 0 := hn
    by_cases c1 : (szSt a.name left) < 0
    · rw [if_pos c1] at hn; omega
    rw [if_neg c1] at hn
    by_cases c2 : ((szLs szSt) a.labels (szSt a.name left)) < 0
    · rw [if_pos c2] at hn; omega
    rw [if_neg c2] at hn
    by_cases c3 : (szLs (Typ.zN n) a.kids ((szLs szSt) a.labels (szSt a.name left))) < 0
    · rw [if_pos c3] at hn; omega
    rw [if_neg c3] at hn
    exact ⟨szSt_ok h0 h1 c1, szLs_ok (fun a v h => szSt_le a v h) (fun a v h0 h1 hn => szSt_ok' a v h0 h1 hn) (by omega) b1 c2, szLs_ok (fun a v h => Typ.zN_le n a v h) (fun a v h0 h1 hn => Typ.zN_ok n a v h0 h1 hn) (by omega) b2 c3⟩
theorem Typ.sz_le (a : Typ) (left : Int) (h1 : left ≤ 1048576) : Typ.sz a left ≤ 1048576 := Typ.zN_le _ a left h1
theorem Typ.sz_ok (a : Typ) (left : Int) (h0 : 0 ≤ left) (h1 : left ≤ 1048576) (hn : ¬ Typ.sz a left < 0) : Typ.ok a := Typ.zN_ok _ a left h0 h1 hn

end Go.Proofs.YtfddakeigmpjkaaGreatDoor
