/- Texts for VTermOkP. -/
import Derived.Shelf.Small.Strs
import Derived.Test.YtllcemegnggpfaaProg
import Derived.Test.YtllcemegnggpfaaVs17
namespace Go.Proofs.Ytllcemegnggpfaa
open Go Go.RowKit
set_option linter.unusedVariables false
set_option linter.unusedSimpArgs false
set_option maxRecDepth 8000
theorem toStringS_ok (l : List ByteArray) (h : okL okS l) : Ret env.P 33 [slL 1 strC l] (fun r => r = slL 1 strC l) := by
  have hl := h.1
  refine Ret.to ?_
  refine ret_of (nt := 22) (rvs := [.tmp 2]) Try.func33 rfl rfl rfl rfl (fun X => ?_)
  conv => whnf
  refine ⟨⟨by omega, by omega, by dsimp only; omega, by omega⟩, ?_⟩
  conv => whnf
  refine loopN l.length (fun k => [(4, .i .i64 k)]) (fun k => [some (.arr ⟨1, l.length, fillE k (elE strC l) (fun _ j => [AV.s ByteArray.empty].getD j .any), .arr⟩)]) (fun k => True) ⟨trivial, ?_⟩
  repeat' (first | omega | (with_reducible show (_ : Int) < _; dsimp only; omega) | (with_reducible show (_ : Nat) ≤ _; dsimp only; omega) | ((with_reducible show SrcOk _ _ _) <;> (first | exact srcOk_1 rfl | exact srcOk_L (fun _ => ⟨rfl, rfl⟩) | exact srcOk_E (fun _ => ⟨rfl, rfl⟩))) | ((conv => whnf) <;> (first | exact arr_start rfl (fun _ _ => low_cells (rfl : (strC _).all (low1 0) = true)) (fun _ _ => low_cells rfl) | exact arr_round rfl rfl (fun _ _ => rfl) (fun _ _ => low_cells (rfl : (strC _).all (low1 0) = true)) (fun _ _ => low_cells rfl) | refine And.intro ?_ ?_ | (intro _h; first | contradiction | (try simp only [dd] at _h)) | (refine dt_go ?_) | exact rfl | exact True.intro | exact dkk | exact dks | (refine wrap_succ ?_; omega))))
  exact wk_fill rfl (by omega) rfl (fun _ => rfl)
theorem eqStringS_ok (l m : List ByteArray) (h : okL okS l) : Ret env.P 24 [slL 1 strC l, slL 1 strC m] (fun r => r = .b (decide (l = m))) := by
  have hl := h.1
  refine ret_of (nt := 26) (rvs := [.tmp 4]) Try.func24 rfl rfl rfl rfl (fun X => ?_)
  repeat' (first | omega | (with_reducible show (_ : Int) < _; dsimp only; omega) | (with_reducible show (_ : Nat) ≤ _; dsimp only; omega) | ((with_reducible show SrcOk _ _ _) <;> (first | exact srcOk_1 rfl | exact srcOk_L (fun _ => ⟨rfl, rfl⟩) | exact srcOk_E (fun _ => ⟨rfl, rfl⟩))) | ((conv => whnf) <;> (first | exact upto_succ (by assumption) (by assumption) | refine loopN l.length (fun k => [(5, .i .i64 k)]) (fun k => []) (fun k => ∀ j, j < k → l.getD j default = m.getD j default) ⟨fun _ h => by omega, ?_⟩ | refine And.intro ?_ ?_ | (intro _h; first | contradiction | (try simp only [dd] at _h)) | (refine dt_go ?_) | exact rfl | exact True.intro | exact dkk | exact dks | (refine wrap_succ ?_; omega))))
  · exact leaf_ne (by rintro rfl; omega)
  · exact leaf_ne (by rintro rfl; contradiction)
  · exact leaf_eq (list_eq (by omega) fun j hj => by have := ‹∀ j, j < _ → l.getD j default = m.getD j default›; exact this j (by omega))
theorem szStringS_ok (l : List ByteArray) (left : Int) (h0 : 0 ≤ left) (h1 : left ≤ 1048576) : Ret env.P 30 [slL 1 strC l, .i .i64 left] (fun r => r = .i .i64 (szLs szSt l left)) := by
  refine Ret.args fun hw => ?_
  have hl := wfs_sl (hw _ (List.mem_cons_self))
  have hz : ∀ k, k < l.length → (l.getD k default).size ≤ 9223372036854775807 := fun k hk => (hw _ (List.mem_cons_self)).2 k 0 hk Nat.zero_lt_one
  have e : IntKind.i64.wrap (left - (l.length : Int)) = left - (l.length : Int) := wrap_in (by omega) (by omega)
  refine ret_of (nt := 28) (rvs := [.tmp 4]) Try.func30 rfl rfl rfl rfl (fun X => ?_)
  conv => whnf
  rw [e]
  refine ⟨fun _h => ?_, fun _h => ?_⟩
  · exact leaf_i (szLs_neg (of_decide_eq_true _h))
  have _h : ¬ (left - (l.length : Int) < 0) := fun hc => _h (decide_eq_true hc)
  conv => whnf
  refine loopN l.length (fun k => [(5, .i .i64 k), (1, .i .i64 (szAt szSt l (left - l.length) k))]) (fun k => []) (fun k => SzI szSt l (left - l.length) k) ⟨.start (by omega) (by omega), ?_⟩
  have hwr : ∀ k, SzI szSt l (left - l.length) k → (k : Int) < (l.length : Int) → IntKind.i64.wrap (szAt szSt l (left - l.length) k - ((l.getD k default).size : Int)) = szAt szSt l (left - l.length) k - ((l.getD k default).size : Int) := fun k hI hlt => by
    have q1 := hI.lo
    have q2 := hI.hi
    have q3 := hz k (by omega)
    exact wrap_in (by omega) (by omega)
  repeat' (first | omega | (with_reducible show (_ : Int) < _; dsimp only; omega) | (with_reducible show (_ : Nat) ≤ _; dsimp only; omega) | ((with_reducible show SrcOk _ _ _) <;> (first | exact srcOk_1 rfl | exact srcOk_L (fun _ => ⟨rfl, rfl⟩) | exact srcOk_E (fun _ => ⟨rfl, rfl⟩))) | ((conv => whnf) <;> (first | refine And.intro ?_ ?_ | (intro _h; first | contradiction | (try simp only [dd] at _h)) | (refine dt_go ?_) | exact rfl | exact True.intro | exact dkk | exact dks | (refine wrap_succ ?_; omega))))
  all_goals (try simp only [Int.toNat_natCast] at *)
  · rename_i k hk hI hlt
    rw [hwr k hI hlt] at _h
    conv => whnf
    exact leaf_i (hI.neg hlt (szSt_neg _h) (by assumption))
  · rename_i k hk hI hlt
    rw [hwr k hI hlt] at _h
    exact hI.step (fun a v h => szN_le h) hlt (szSt_pos _h)
  · rename_i k hk hI hlt
    rw [hwr k hI hlt] at _h ⊢
    exact szSt_eq (szSt_pos _h)
  · rename_i k hk hI
    conv => whnf
    exact leaf_i (hI.fin _h (by assumption))
structure Typ where
  kind : Int
  name : ByteArray
  labels : List ByteArray
  kids : List Typ
instance : Inhabited Typ := ⟨⟨0, ByteArray.empty, [], []⟩⟩
noncomputable instance : DecidableEq Typ := fun a b => Classical.propDecidable (a = b)
noncomputable def Typ.pN (n : Nat) : Typ → List AV := Nat.rec (motive := fun _ => Typ → List AV) (fun _ => []) (fun _ ih a => [.i .i64 a.kind, .s a.name, slL 1 strC a.labels, slL 4 ih a.kids]) n
noncomputable def Typ.kd (a : Typ) : Nat := Typ.rec (motive_1 := fun _ => Nat) (motive_2 := fun _ => Nat) (fun _ _ _ _ ih => ih) 0 (fun _ _ x y => Nat.max (x + 1) y) a
theorem Typ.kd_mem {a b : Typ} (h : b ∈ a.kids) : b.kd + 1 ≤ a.kd := by
  obtain ⟨kind, name, labels, ks⟩ := a
  have key : ∀ ks : List Typ, b ∈ ks → b.kd + 1 ≤ (Typ.mk kind name labels ks).kd := by
    intro ks
    induction ks with
    | nil => intro h; cases h
    | cons x xs ih =>
      intro h
      have e : (Typ.mk kind name labels (x :: xs)).kd = Nat.max (x.kd + 1) (Typ.mk kind name labels xs).kd := rfl
      rw [e]
      rcases List.mem_cons.1 h with rfl | h
      · exact Nat.le_max_left _ _
      · exact Nat.le_trans (ih h) (Nat.le_max_right _ _)
  exact key ks h
noncomputable def Typ.cs (a : Typ) : List AV := Typ.pN (a.kd + 1) a
theorem Typ.low (a : Typ) : a.cs.all (low1 0) = true := rfl
theorem Typ.eta {a b : Typ} (h0 : a.kind = b.kind) (h1 : a.name = b.name) (h2 : a.labels = b.labels) (h3 : a.kids = b.kids) : a = b := by cases a; cases b; simp_all
def Typ.fN (n : Nat) : Typ → Prop := Nat.rec (motive := fun _ => Typ → Prop) (fun _ => False) (fun _ ih a => ∀ x ∈ a.kids, ih x) n
theorem Typ.fN_kd : ∀ (n : Nat) (a : Typ), a.kd < n → Typ.fN n a
  | 0, a, h => absurd h (Nat.not_lt_zero _)
  | n + 1, a, h => fun x hx => Typ.fN_kd n x (by have := Typ.kd_mem hx; omega)
theorem Typ.fN_self (a : Typ) : Typ.fN (a.kd + 1) a := Typ.fN_kd _ a (Nat.lt_succ_self _)
theorem Typ.fN_nil {l : List Typ} (h : ∀ x ∈ l, Typ.fN 0 x) : l = [] := by
  cases l with
  | nil => rfl
  | cons x xs => exact (h x List.mem_cons_self).elim
def Typ.oN (n : Nat) : Typ → Prop := Nat.rec (motive := fun _ => Typ → Prop) (fun _ => False) (fun _ ih a => okS a.name ∧ (okL okS) a.labels ∧ okL ih a.kids) n
def Typ.ok (a : Typ) : Prop := Typ.oN (a.kd + 1) a
theorem Typ.oN_nil {l : List Typ} (h : okL (Typ.oN 0) l) : l = [] := by
  cases l with
  | nil => rfl
  | cons x xs => exact (h.2 0 (Nat.succ_pos _)).elim
theorem Typ.oN_fN : ∀ (n : Nat) (a : Typ), Typ.oN n a → Typ.fN n a
  | 0, a, h => h.elim
  | n + 1, a, h => fun x hx => by
    obtain ⟨k, hk, rfl⟩ := List.getElem_of_mem hx
    have := h.2.2.2 k hk
    rw [List.getD_eq_getElem?_getD, List.getElem?_eq_getElem hk] at this
    exact Typ.oN_fN n _ this
theorem Typ.oN_up : ∀ (n : Nat) (a : Typ), Typ.oN n a → Typ.oN (n + 1) a
  | 0, a, h => h.elim
  | n + 1, a, h => ⟨h.1, h.2.1, (h.2.2).1, fun k hk => Typ.oN_up n _ ((h.2.2).2 k hk)⟩
theorem Typ.fN_up : ∀ (n : Nat) (a : Typ), Typ.fN n a → Typ.fN (n + 1) a
  | 0, a, h => h.elim
  | n + 1, a, h => fun x hx => Typ.fN_up n x (h x hx)
theorem Typ.wget {xs ys : List AV} (h : WkL xs ys) (j : Nat) : Wk (xs.getD j .any) (ys.getD j .any) := by
  rw [List.getD_eq_getElem?_getD, List.getD_eq_getElem?_getD]
  cases hx : xs[j]? with
  | none =>
    have : ys[j]? = none := by
      rw [List.getElem?_eq_none_iff] at hx ⊢
      rw [← h.1]; exact hx
    rw [this]
    exact .refl _
  | some x =>
    have hl : j < ys.length := by rw [← h.1]; exact (List.getElem?_eq_some_iff.1 hx).1
    rw [List.getElem?_eq_getElem hl]
    exact h.2 j x _ hx (List.getElem?_eq_getElem hl)
theorem Typ.getD_mem0 {l : List Typ} {k : Nat} (h : k < l.length) : l.getD k default ∈ l := by
  rw [List.getD_eq_getElem?_getD, List.getElem?_eq_getElem h]
  exact List.getElem_mem h
theorem Typ.up : ∀ (n : Nat) (a : Typ), Typ.fN n a → WkL (Typ.pN n a) (Typ.pN (n + 1) a)
  | 0, a, h => h.elim
  | n + 1, a, h => .cons (.refl _) (.cons (.refl _) (.cons (.refl _) (.cons (Wk.sl fun i j hi hj => Typ.wget (Typ.up n _ (h _ (Typ.getD_mem0 hi))) j) .nil)))
theorem Typ.conv : ∀ (n m : Nat) (a : Typ), Typ.fN n a → Typ.fN m a → WkL (Typ.pN n a) (Typ.pN m a)
  | 0, m, a, h, _ => h.elim
  | n + 1, 0, a, _, h => h.elim
  | n + 1, m + 1, a, h, k => .cons (.refl _) (.cons (.refl _) (.cons (.refl _) (.cons (Wk.sl fun i j hi hj => Typ.wget (Typ.conv n m _ (h _ (Typ.getD_mem0 hi)) (k _ (Typ.getD_mem0 hi))) j) .nil)))
theorem Typ.readS (n : Nat) (g : Nat → Nat → AV) (h : ∀ i, i < n → ∃ a : Typ, WkL (cellsAt (g i) 0 4) a.cs) : ∃ (l : List Typ) (N : Nat), (∀ x ∈ l, Typ.fN N x) ∧ WkL [.sl 4 n g] [slL 4 (Typ.pN N) l] := by
  let l : List Typ := (List.range n).map fun i => if h' : i < n then Classical.choose (h i h') else default
  have hl : l.length = n := by simp [l]
  have hget : ∀ i (hi : i < n), l.getD i default = Classical.choose (h i hi) := fun i hi => by simp [l, hi]
  let N := (Typ.mk default default default l).kd
  have hN : ∀ x ∈ l, Typ.fN N x := fun x hx => Typ.fN_kd N x (by have := Typ.kd_mem (a := Typ.mk default default default l) hx; omega)
  refine ⟨l, N, hN, .cons ?_ .nil⟩
  refine Wk.sl' rfl hl.symm fun i j hi hj => ?_
  have hx := Classical.choose_spec (h i hi)
  rw [← hget i hi] at hx
  have hm : l.getD i default ∈ l := Typ.getD_mem0 (by omega)
  have hc := Typ.conv _ N _ (Typ.fN_self (l.getD i default)) (hN _ hm)
  have e1 := Typ.wget hx j
  have e2 := Typ.wget hc j
  have e3 : (cellsAt (g i) 0 4).getD j .any = g i j := by
    have hl2 : j < (cellsAt (g i) 0 4).length := by rw [cellsAt_length]; exact hj
    rw [List.getD_eq_getElem?_getD, List.getElem?_eq_getElem hl2]
    have := (cellsAt_get (g i) 4 0 j _ (List.getElem?_eq_getElem hl2)).2
    rw [Nat.zero_add] at this
    exact this
  rw [e3] at e1
  exact ⟨fun q => e2.1 (e1.1 q), fun w S u hu => e2.2 w S u (e1.2 w S u hu)⟩
theorem Typ.readK {ds : List AV} {a : Typ} {N : Nat} (hN : ∀ x ∈ a.kids, Typ.fN N x) (h : WkL ds [slL 4 (Typ.pN N) a.kids]) : WkL ds [slL 4 (Typ.pN a.kd) a.kids] := by
  obtain ⟨x, rfl⟩ := List.length_eq_one_iff.1 h.1
  have k : Wk (slL 4 (Typ.pN N) a.kids) (slL 4 (Typ.pN a.kd) a.kids) := Wk.sl fun i j hi hj => Typ.wget (Typ.conv N a.kd _ (hN _ (Typ.getD_mem0 hi)) (Typ.fN_kd _ _ (by have := Typ.kd_mem (Typ.getD_mem0 hi); omega))) j
  have e := h.2 0 x _ rfl rfl
  exact .cons ⟨fun q => k.1 (e.1 q), fun w S u hu => k.2 w S u (e.2 w S u hu)⟩ .nil
noncomputable def Typ.zN (n : Nat) : Typ → Int → Int := Nat.rec (motive := fun _ => Typ → Int → Int) (fun _ _ => -1) (fun _ ih a left => if (szSt a.name left) < 0 then -1 else if ((szLs szSt) a.labels (szSt a.name left)) < 0 then -1 else if (szLs ih a.kids ((szLs szSt) a.labels (szSt a.name left))) < 0 then -1 else (szLs ih a.kids ((szLs szSt) a.labels (szSt a.name left)))) n
noncomputable def Typ.sz (a : Typ) (left : Int) : Int := Typ.zN (a.kd + 1) a left
theorem Typ.zN_le : ∀ (n : Nat) (a : Typ) (left : Int), left ≤ 1048576 → Typ.zN n a left ≤ 1048576
  | 0, a, left, h1 => by show (-1 : Int) ≤ _; omega
  | n + 1, a, left, h1 => by
    have b1 : (szSt a.name left) ≤ 1048576 := szN_le h1
    have b2 : ((szLs szSt) a.labels (szSt a.name left)) ≤ 1048576 := szLs_le (fun a v h => szSt_le a v h) b1
    have b3 : (szLs (Typ.zN n) a.kids ((szLs szSt) a.labels (szSt a.name left))) ≤ 1048576 := szLs_le (fun a v h => Typ.zN_le n a v h) b2
    show (if (szSt a.name left) < 0 then -1 else if ((szLs szSt) a.labels (szSt a.name left)) < 0 then -1 else if (szLs (Typ.zN n) a.kids ((szLs szSt) a.labels (szSt a.name left))) < 0 then -1 else (szLs (Typ.zN n) a.kids ((szLs szSt) a.labels (szSt a.name left)))) ≤ _
    repeat' split
    all_goals omega
theorem Typ.zN_ok : ∀ (n : Nat) (a : Typ) (left : Int), 0 ≤ left → left ≤ 1048576 → ¬ Typ.zN n a left < 0 → Typ.oN n a
  | 0, a, left, _, _, hn => (hn (by show (-1 : Int) < 0; decide)).elim
  | n + 1, a, left, h0, h1, hn => by
    have b1 : (szSt a.name left) ≤ 1048576 := szN_le h1
    have b2 : ((szLs szSt) a.labels (szSt a.name left)) ≤ 1048576 := szLs_le (fun a v h => szSt_le a v h) b1
    have b3 : (szLs (Typ.zN n) a.kids ((szLs szSt) a.labels (szSt a.name left))) ≤ 1048576 := szLs_le (fun a v h => Typ.zN_le n a v h) b2
    replace hn : ¬ (if (szSt a.name left) < 0 then -1 else if ((szLs szSt) a.labels (szSt a.name left)) < 0 then -1 else if (szLs (Typ.zN n) a.kids ((szLs szSt) a.labels (szSt a.name left))) < 0 then -1 else (szLs (Typ.zN n) a.kids ((szLs szSt) a.labels (szSt a.name left)))) < 0 := hn
    by_cases c1 : (szSt a.name left) < 0
    · rw [if_pos c1] at hn; omega
    rw [if_neg c1] at hn
    by_cases c2 : ((szLs szSt) a.labels (szSt a.name left)) < 0
    · rw [if_pos c2] at hn; omega
    rw [if_neg c2] at hn
    by_cases c3 : (szLs (Typ.zN n) a.kids ((szLs szSt) a.labels (szSt a.name left))) < 0
    · rw [if_pos c3] at hn; omega
    rw [if_neg c3] at hn
    exact ⟨szSt_ok h0 h1 c1, szLs_ok (fun a v h => szSt_le a v h) (fun a v h0 h1 hn => szSt_ok' a v h0 h1 hn) (by omega) b1 c2, szLs_ok (fun a v h => Typ.zN_le n a v h) (fun a v h0 h1 hn => Typ.zN_ok n a v h0 h1 hn) (by omega) b2 c3⟩
theorem Typ.sz_ok (a : Typ) (left : Int) (h0 : 0 ≤ left) (h1 : left ≤ 1048576) (hn : ¬ Typ.sz a left < 0) : Typ.ok a := Typ.zN_ok _ a left h0 h1 hn
def byA (b : ByteArray) (k : Nat) : Nat := (b.data.getD k 0).toNat
def chA (c : Nat) : Prop := 97 ≤ c ∧ c ≤ 122
def chB (c : Nat) : Prop := (97 ≤ c ∧ c ≤ 122) ∨ (48 ≤ c ∧ c ≤ 57) ∨ c = 45
structure NmTo (b : ByteArray) (k : Nat) : Prop where
  h : ∀ j, j < k → chB (byA b j) ∧ (byA b j = 45 → 0 < j ∧ byA b (j - 1) ≠ 45) ∧ (j = 0 → chA (byA b j))
theorem NmTo.zero (b : ByteArray) : NmTo b 0 := ⟨fun j hj => absurd hj (Nat.not_lt_zero _)⟩
theorem NmTo.succ {b : ByteArray} {k : Nat} (h : NmTo b k) (h1 : chB (byA b k)) (h2 : byA b k = 45 → 0 < k ∧ byA b (k - 1) ≠ 45) (h3 : k = 0 → chA (byA b k)) : NmTo b (k + 1) := ⟨fun j hj => by
  rcases Nat.lt_or_eq_of_le (Nat.le_of_lt_succ hj) with r | rfl
  · exact h.h j r
  · exact ⟨h1, h2, h3⟩⟩
structure nmB (b : ByteArray) : Prop where
  lo : 1 ≤ b.size
  hi : b.size ≤ 12
  fst : chA (byA b 0)
  last : byA b (b.size - 1) ≠ 45
  all : NmTo b b.size
structure lbB (l : List ByteArray) : Prop where
  lo : 1 ≤ l.length
  hi : l.length ≤ 16
  nd : l.Nodup
  nm : ∀ k, k < l.length → nmB (l.getD k default)
def Typ.hasN (p : Int → Prop) (n : Nat) : Typ → Prop := Nat.rec (motive := fun _ => Typ → Prop) (fun _ => False) (fun _ ih a => p a.kind ∨ ∃ k, k < a.kids.length ∧ ih (a.kids.getD k default)) n
def Typ.units (a : Typ) : Prop := ∃ k, k < a.kids.length ∧ (a.kids.getD k default).kind = 1
def isNamed (k : Int) : Prop := k = 20 ∨ k = 21
def isLab (k : Int) : Prop := 16 ≤ k ∧ k ≤ 19
def Typ.has (p : Int → Prop) (a : Typ) : Prop := Typ.hasN p (a.kd + 1) a
structure Typ.kidsOk (a : Typ) : Prop where
  k1 : a.kind = 12 ∨ a.kind = 13 → a.kids.length = 1 ∧ ¬ a.units
  k2 : a.kind = 22 ∨ a.kind = 23 → a.kids.length = 1 ∧ ¬ Typ.has (fun k => 21 ≤ k ∧ k ≤ 21) (a.kids.getD 0 default)
  k3 : a.kind = 14 → a.kids.length = 2
  k4 : a.kind = 15 → 1 ≤ a.kids.length ∧ a.kids.length ≤ 6 ∧ ¬ a.units
  k5 : a.kind = 16 → a.kids.length = a.labels.length ∧ ¬ a.units
  k6 : a.kind = 17 → a.kids.length = a.labels.length
  k7 : ¬ ((12 ≤ a.kind ∧ a.kind ≤ 17) ∨ a.kind = 22 ∨ a.kind = 23) → (1 ≤ a.kind ∧ a.kind ≤ 23) ∧ a.kids.length = 0
structure Typ.shp (a : Typ) : Prop where
  n1 : isNamed a.kind → nmB a.name
  n2 : ¬ isNamed a.kind → a.name.size = 0
  l1 : isLab a.kind → lbB a.labels
  l2 : ¬ isLab a.kind → a.labels.length = 0
  ks : a.kidsOk
def Typ.shN (n : Nat) : Typ → Prop := Nat.rec (motive := fun _ => Typ → Prop) (fun _ => False) (fun n ih a => Typ.shp a ∧ ∀ k, k < a.kids.length → ih (a.kids.getD k default)) n
def Typ.sh (a : Typ) : Prop := Typ.shN (a.kd + 1) a
def sumK (f : Typ → Nat) (l : List Typ) (k : Nat) : Nat := ((l.take k).map f).sum
def Typ.npN (n : Nat) : Typ → Nat := Nat.rec (motive := fun _ => Typ → Nat) (fun _ => 1) (fun _ ih a => 1 + sumK ih a.kids a.kids.length) n
noncomputable def Typ.np (a : Typ) : Nat := Typ.npN (a.kd + 1) a
def Typ.good (a : Typ) : Prop := Typ.fN 4 a ∧ Typ.np a ≤ 24 ∧ Typ.sh a
section
abbrev byI (b : ByteArray) (k : Nat) : Int := (((b.data.getD k 0).toNat : Nat) : Int)
def isLt (c : Int) : Prop := 97 ≤ c ∧ c ≤ 122
def isDg (c : Int) : Prop := 48 ≤ c ∧ c ≤ 57
def wdP (s : ByteArray) (k : Nat) : Prop := isLt (byI s k) ∨ isDg (byI s k) ∨ (byI s k = 45 ∧ (isLt (byI s (k + 1)) ∨ isDg (byI s (k + 1))))
def nbP (s : ByteArray) (k : Nat) : Prop := isDg (byI s k) ∨ (byI s k = 46 ∧ isDg (byI s (k + 1)))
open Classical in
noncomputable def endF (P : Nat → Prop) : Nat → Nat → Nat
  | 0, k => k
  | m + 1, k => if P k then endF P m (k + 1) else k
open Classical in
theorem endF_step {P : Nat → Prop} {n k : Nat} (hk : k < n) (h : P k) : endF P (n - k) k = endF P (n - (k + 1)) (k + 1) := by
  have e : n - k = (n - (k + 1)) + 1 := by omega
  rw [e]
  exact if_pos h
open Classical in
theorem endF_stop {P : Nat → Prop} {n k : Nat} (h : k < n → ¬ P k) : endF P (n - k) k = k := by
  by_cases hk : k < n
  · have e : n - k = (n - (k + 1)) + 1 := by omega
    rw [e]
    exact if_neg (h hk)
  · rw [show n - k = 0 by omega]
    rfl
open Classical in
theorem endF_ge (P : Nat → Prop) : ∀ m k, k ≤ endF P m k
  | 0, k => Nat.le_refl _
  | m + 1, k => by
    show k ≤ if P k then endF P m (k + 1) else k
    split
    · exact Nat.le_of_succ_le (endF_ge P m (k + 1))
    · exact Nat.le_refl _
open Classical in
theorem endF_le (P : Nat → Prop) : ∀ m k, endF P m k ≤ k + m
  | 0, k => Nat.le_refl _
  | m + 1, k => by
    show (if P k then endF P m (k + 1) else k) ≤ _
    split
    · have := endF_le P m (k + 1); omega
    · omega
theorem endF_gt {P : Nat → Prop} {n k : Nat} (hk : k < n) (h : P k) : k < endF P (n - k) k := by
  rw [endF_step hk h]
  exact endF_ge P _ _
theorem endF_len {P : Nat → Prop} {n k : Nat} (hk : k ≤ n) : endF P (n - k) k ≤ n := by
  have := endF_le P (n - k) k
  omega
noncomputable def skW (s : ByteArray) (k : Nat) (line : Int) : Nat × Int :=
  if hk : k < s.size then
    if byI s k = 10 then skW s (k + 1) (line + 1)
    else if byI s k = 32 then skW s (k + 1) line
    else if h : byI s k = 47 ∧ byI s (k + 1) = 47 then skW s (endF (fun i => ¬ byI s i = 10) (s.size - k) k) line
    else (k, line)
  else (k, line)
termination_by s.size - k
decreasing_by
  · omega
  · omega
  · have := endF_gt (P := fun i => ¬ byI s i = 10) hk (by rw [h.1]; decide)
    omega
theorem skW_nl {s : ByteArray} {k : Nat} {line : Int} (hk : k < s.size) (h : byI s k = 10) : skW s k line = skW s (k + 1) (line + 1) := by
  rw [skW, dif_pos hk, if_pos h]
theorem skW_sp {s : ByteArray} {k : Nat} {line : Int} (hk : k < s.size) (h : byI s k = 32) : skW s k line = skW s (k + 1) line := by
  rw [skW, dif_pos hk, if_neg (by rw [h]; decide), if_pos h]
theorem skW_co {s : ByteArray} {k : Nat} {line : Int} (hk : k < s.size) (h : byI s k = 47) (h1 : byI s (k + 1) = 47) : skW s k line = skW s (endF (fun i => ¬ byI s i = 10) (s.size - k) k) line := by
  rw [skW, dif_pos hk, if_neg (by rw [h]; decide), if_neg (by rw [h]; decide), dif_pos ⟨h, h1⟩]
theorem skW_no {s : ByteArray} {k : Nat} {line : Int} (h : k < s.size → ¬ byI s k = 10 ∧ ¬ byI s k = 32 ∧ ¬ (byI s k = 47 ∧ byI s (k + 1) = 47)) : skW s k line = (k, line) := by
  rw [skW]
  by_cases hk : k < s.size
  · obtain ⟨h1, h2, h3⟩ := h hk
    rw [dif_pos hk, if_neg h1, if_neg h2, dif_neg h3]
  · rw [dif_neg hk]
theorem skW_ge (s : ByteArray) : ∀ (m k : Nat) (line : Int), s.size - k ≤ m → k ≤ (skW s k line).1 ∧ (k ≤ s.size → (skW s k line).1 ≤ s.size) ∧ line ≤ (skW s k line).2 ∧ (skW s k line).2 + k ≤ line + (skW s k line).1 := by
  intro m
  induction m with
  | zero =>
    intro k line h
    rw [skW_no (fun hk => by omega)]
    exact ⟨Nat.le_refl _, fun h => h, Int.le_refl _, by omega⟩
  | succ m ih =>
    intro k line h
    by_cases hk : k < s.size
    · by_cases h1 : byI s k = 10
      · rw [skW_nl hk h1]
        obtain ⟨a, b, c, d⟩ := ih (k + 1) (line + 1) (by omega)
        exact ⟨by omega, fun _ => b hk, by omega, by omega⟩
      by_cases h2 : byI s k = 32
      · rw [skW_sp hk h2]
        obtain ⟨a, b, c, d⟩ := ih (k + 1) line (by omega)
        exact ⟨by omega, fun _ => b hk, by omega, by omega⟩
      by_cases h3 : byI s k = 47 ∧ byI s (k + 1) = 47
      · rw [skW_co hk h3.1 h3.2]
        have g1 := endF_gt (P := fun i => ¬ byI s i = 10) hk (by rw [h3.1]; decide)
        have g2 := endF_len (P := fun i => ¬ byI s i = 10) (Nat.le_of_lt hk)
        obtain ⟨a, b, c, d⟩ := ih (endF (fun i => ¬ byI s i = 10) (s.size - k) k) line (by omega)
        exact ⟨by omega, fun _ => b g2, by omega, by omega⟩
      · rw [skW_no (fun _ => ⟨h1, h2, h3⟩)]
        exact ⟨Nat.le_refl _, fun h => h, Int.le_refl _, by omega⟩
    · rw [skW_no (fun q => absurd q hk)]
      exact ⟨Nat.le_refl _, fun h => h, Int.le_refl _, by omega⟩
structure Tok where
  kind : Int
  text : ByteArray
  line : Int
  deriving Inhabited
def tokC (t : Tok) : List AV := [.i .i64 t.kind, .s t.text, .i .i64 t.line]
def sgL : List Int := [123, 125, 40, 41, 60, 62, 44, 59, 58, 61, 46, 47, 64, 95]
open Classical in
noncomputable def nxt (s : ByteArray) (k : Nat) : Int × Nat :=
  if isLt (byI s k) then (1, endF (wdP s) (s.size - k) k)
  else if isDg (byI s k) then (2, endF (nbP s) (s.size - k) k)
  else if byI s k = 45 ∧ byI s (k + 1) = 62 then (3, k + 2)
  else if byI s k ∈ sgL then (3, k + 1)
  else (0, 0)
theorem byI_out {s : ByteArray} {k : Nat} (h : s.size ≤ k) : byI s k = 0 := by
  unfold byI
  have : s.data.getD k 0 = 0 := by
    rw [Array.getD_eq_getD_getElem?, Array.getElem?_eq_none (by exact h)]
    rfl
  rw [this]
  rfl
theorem nxt_rng {s : ByteArray} {k : Nat} (hk : k < s.size) (h : ¬ (nxt s k).1 = 0) : k < (nxt s k).2 ∧ (nxt s k).2 ≤ s.size ∧ 1 ≤ (nxt s k).1 ∧ (nxt s k).1 ≤ 3 := by
  unfold nxt at h ⊢
  by_cases h1 : isLt (byI s k)
  · rw [if_pos h1] at h ⊢
    exact ⟨endF_gt hk (.inl h1), endF_len (Nat.le_of_lt hk), (show (1 : Int) ≤ 1 by decide), (show (1 : Int) ≤ 3 by decide)⟩
  rw [if_neg h1] at h ⊢
  by_cases h2 : isDg (byI s k)
  · rw [if_pos h2] at h ⊢
    exact ⟨endF_gt hk (.inl h2), endF_len (Nat.le_of_lt hk), (show (1 : Int) ≤ 2 by decide), (show (2 : Int) ≤ 3 by decide)⟩
  rw [if_neg h2] at h ⊢
  by_cases h3 : byI s k = 45 ∧ byI s (k + 1) = 62
  · rw [if_pos h3] at h ⊢
    refine ⟨by show k < k + 2; omega, ?_, (show (1 : Int) ≤ 3 by decide), (show (3 : Int) ≤ 3 by decide)⟩
    show k + 2 ≤ s.size
    apply Nat.le_of_not_lt
    intro hc
    have := byI_out (s := s) (k := k + 1) (by omega)
    rw [this] at h3
    exact absurd h3.2 (by decide)
  rw [if_neg h3] at h ⊢
  by_cases h4 : byI s k ∈ sgL
  · rw [if_pos h4] at h ⊢
    exact ⟨Nat.lt_succ_self k, hk, (show (1 : Int) ≤ 3 by decide), (show (3 : Int) ≤ 3 by decide)⟩
  · rw [if_neg h4] at h
    exact absurd rfl h
inductive Lx where
  | ok (l : List Tok)
  | err (line code : Int)
open Classical in
noncomputable def lexG (s : ByteArray) (acc : List Tok) (k : Nat) (line : Int) : Lx :=
  if hk : k < s.size then
    if h : (nxt s k).1 = 0 then .err line 6
    else if acc.length = 4000 then .err line 4
    else lexG s (acc ++ [⟨(nxt s k).1, s.extract k (nxt s k).2, line⟩]) (skW s (nxt s k).2 line).1 (skW s (nxt s k).2 line).2
  else .ok (acc ++ [⟨4, ⟨#[]⟩, line⟩])
termination_by s.size - k
decreasing_by
  have h1 := nxt_rng hk h
  have h2 := skW_ge s _ (nxt s k).2 line (Nat.le_refl _)
  omega
noncomputable def lexF (s : ByteArray) : Lx := if s.size > 30000 then .err 0 4 else lexG s [] (skW s 0 1).1 (skW s 0 1).2
end
section
open Go Go.Shelf
def lays137_ren : Go.Shelf.Ren := ⟨fun | 137 => 100 | 217 => 108 | 266 => 111 | n => n, fun | 9 => 9 | 5 => 5 | 3 => 3 | n => n, fun | n => n⟩
theorem lays137 : Lays.n137 Try.prog lays137_ren := {
  mixed := by kernel_rfl,
  f137 := Try.func100.trans (congrArg some (by kernel_rfl)),
  f217 := Try.func108.trans (congrArg some (by kernel_rfl)),
  f266 := Try.func111.trans (congrArg some (by kernel_rfl)),
  t3 := Try.underlying3,
  a3 := Try.isAgg3,
  z3 := Try.sizeOf3,
  v3 := Try.zeroValue3,
  t5 := Try.underlying5,
  a5 := Try.isAgg5,
  z5 := Try.sizeOf5,
  v5 := Try.zeroValue5,
  t9 := Try.underlying9,
  a9 := Try.isAgg9,
  z9 := Try.sizeOf9,
  v9 := Try.zeroValue9 }
end
theorem concL_2 {w : World} {S : Nat → Prop} {blk : Nat → BC} {H : Hp} {x y : AV} {us : List Value} (h : ConcL w S blk H [x, y] us) : ∃ u v, us = [u, v] ∧ Conc w S blk H x u ∧ Conc w S blk H y v := by
  obtain ⟨hl, h⟩ := h
  match us, hl with
  | [u, v], _ => exact ⟨u, v, rfl, h 0 x u rfl rfl, h 1 y v rfl rfl⟩
theorem conc_i {w : World} {S : Nat → Prop} {blk : Nat → BC} {H : Hp} {z : Int} (h1 : -9223372036854775808 ≤ z) (h2 : z < 9223372036854775808) : Conc w S blk H (.i .i64 z) (.int .i64 z) := .i (by
  simp only [Lit.wf, IntKind.min, IntKind.max, IntKind.signed, IntKind.bits, Bool.and_eq_true, decide_eq_true_eq, if_true, Bool.false_eq_true, if_false]
  omega)
section
open Go Go.RowKit Go.Shelf
theorem indexByte_lt : ∀ (l : List UInt8) (c : UInt8), Lib.indexByte l c < l.length
  | [], c => by simp [Lib.indexByte]
  | b :: l, c => by
    have := indexByte_lt l c
    unfold Lib.indexByte
    rw [List.length_cons]
    split
    · omega
    · split <;> omega
theorem indexByte_iff : ∀ (l : List UInt8) (c : UInt8), 0 ≤ Lib.indexByte l c ↔ c ∈ l
  | [], c => by simp [Lib.indexByte]
  | b :: l, c => by
    have ih := indexByte_iff l c
    have hg := Lib.indexByte_ge l c
    unfold Lib.indexByte
    rw [List.mem_cons, ← ih]
    by_cases h : b = c
    · subst h
      simp
    · have h1 : (b == c) = false := by simpa using h
      have h2 : ¬ c = b := fun e => h e.symm
      rw [h1]
      simp only [Bool.false_eq_true, if_false, h2, false_or]
      split
      · rename_i q
        have : Lib.indexByte l c = -1 := by simpa using q
        omega
      · rename_i q
        have : ¬ Lib.indexByte l c = -1 := by simpa using q
        omega
theorem indexByte_ok (s : ByteArray) (c : Nat) : Ret env.P 100 [.s s, .i .u8 (c : Int)] (fun r => r = .i .i64 (Lib.indexByte s.data.toList c.toUInt8)) := .mk fun w S us hS hc => by
  obtain ⟨u, v, rfl, h1, h2⟩ := concL_2 hc
  obtain ⟨rfl, hs⟩ := inv_s h1
  obtain ⟨rfl, _⟩ := inv_i h2
  have hlt := indexByte_lt s.data.toList c.toUInt8
  have hge := Lib.indexByte_ge s.data.toList c.toUInt8
  have hlen : s.data.toList.length = s.size := rfl
  have hm : maxLen ≤ 9223372036854775807 := by decide
  refine (Any.strings_IndexByte lays137 s c w).mono fun e w' ⟨he, hw⟩ => ⟨_, _, he, rfl, conc_i (by omega) (by omega), hw ▸ Below.refl _ _⟩
end
section
variable {E : Env} {P : Program} {nt : Nat} {X : Ctx} {f : Fr} {H : Hp} {ty : TypeId}
def dimsK (n0 : Nat) (H H' : Hp) : List Nat → Prop
  | [] => True
  | id :: r => (bif Nat.ble n0 id then True else match H[id]?, H'[id]? with
    | some (some x), some (some y) => y.sz = x.sz ∧ y.cap = x.cap ∧ blankK y.k = blankK x.k
    | some none, some none => True
    | _, _ => False) ∧ dimsK n0 H H' r
theorem dimsK_at {n0 : Nat} {H H' : Hp} : ∀ {M : List Nat}, dimsK n0 H H' M → ∀ i, i < n0 → i ∈ M → (H'[i]?).map (fun r => r.map Go.Proofs.Ytllcemegnggpfaa.blank) = (H[i]?).map (fun r => r.map Go.Proofs.Ytllcemegnggpfaa.blank)
  | [], _, i, _, hi => by cases hi
  | id :: r, h, i, hlt, hi => by
    rcases List.mem_cons.1 hi with rfl | hi
    · have h1 := h.1
      have hb : Nat.ble n0 i = false := by
        cases hb : Nat.ble n0 i with
        | false => rfl
        | true => have := Nat.le_of_ble_eq_true hb; omega
      rw [hb, cond_false] at h1
      split at h1
      · rename_i x y e1 e2
        rw [e1, e2]
        simp only [Option.map_some, Go.Proofs.Ytllcemegnggpfaa.blank, h1.1, h1.2.1, h1.2.2]
      · rename_i e1 e2
        rw [e1, e2]
      · cases h1
    · exact dimsK_at h.2 i hlt hi
def efC (E : Env) (nt : Nat) (M : List Nat) (n0 : Nat) (o : Oper) (f : Fr) (H : Hp) (K : AV → Hp → Prop) : Prop :=
  match o.op with
  | .call ⟨.value fx, args, _⟩ => (match o.guard with
    | some _ => False
    | none => (match o.dst with
      | some d => bif Nat.blt d nt then clM E f H (fun i => M.contains i || Nat.ble n0 i) fx args.toList (fun v H' => dimsK n0 H H' M ∧ K v H') else False
      | none => clM E f H (fun i => M.contains i || Nat.ble n0 i) fx args.toList (fun _ H' => dimsK n0 H H' M ∧ K .any H')))
  | _ => efK E nt M n0 o f H K
theorem hid_call {M : List Nat} {n0 : Nat} {H2 : Hp} (hn : n0 ≤ H.length) (h1 : dimsK n0 H H2 M) (h2 : ∀ i, i < H.length → (M.contains i || Nat.ble n0 i) = false → H2[i]? = H[i]?) : hidM M 0 (H2.take n0) = hidM M 0 (H.take n0) := by
  apply List.ext_getElem?
  intro i
  rw [hidM_at, hidM_at, List.getElem?_take, List.getElem?_take]
  by_cases hi : i < n0
  · rw [if_pos hi, if_pos hi]
    simp only [Nat.zero_add]
    cases hM : M.contains i with
    | true =>
      simp only [cond_true]
      exact dimsK_at h1 i hi (List.contains_iff_mem.1 hM)
    | false =>
      rw [h2 i (by omega) (by
        rw [hM, Bool.false_or]
        cases hb : Nat.ble n0 i with
        | false => rfl
        | true => have := Nat.le_of_ble_eq_true hb; omega)]
  · rw [if_neg hi, if_neg hi]
theorem efC_po {M : List Nat} {n0 : Nat} {o : Oper} {K : AV → Hp → Prop} (hn : n0 ≤ H.length) (h : efC E nt M n0 o f H K) : o.guard = none ∧ PO E.P nt X o f H fun f' H' => ∃ v, f' = pushD o.dst v f ∧ hidM M 0 (H'.take n0) = hidM M 0 (H.take n0) ∧ K v H' := by
  unfold efC at h
  split at h
  · rename_i fx args tys hop
    split at h
    · cases h
    rename_i hg
    refine ⟨hg, ?_⟩
    obtain ⟨d?, op, ty, pos, after, gd⟩ := o
    dsimp only at h hop hg
    subst hop
    split at h
    · rename_i d
      cases hb : Nat.blt d nt with
      | false => rw [hb] at h; cases h
      | true =>
        rw [hb, cond_true] at h
        rintro a w ⟨blk, FP, s⟩ K' Q' hK
        refine clM_run h s _ tys (by simp) K' Q' fun r u w' H2 blk2 FP2 hk hsame s2 hc => ?_
        exact hK _ _ _ _ ⟨r, rfl, hid_call hn hk.1 hsame, hk.2⟩ ⟨blk2, FP2, s2.put (Nat.le_of_ble_eq_true hb) hc⟩
    · rintro a w ⟨blk, FP, s⟩ K' Q' hK
      refine clM_run h s _ tys (by simp) K' Q' fun r u w' H2 blk2 FP2 hk hsame s2 hc => ?_
      exact hK _ _ _ _ ⟨.any, rfl, hid_call hn hk.1 hsame, hk.2⟩ ⟨blk2, FP2, s2⟩
  · exact ef_po hn h
def dsC (E : Env) (nt : Nat) (ops : Array Oper) (M : List Nat) (H0 : Hp) (Q : Fr → Hp → Prop) (n : Nat) : List Nat → Fr → Hp → Prop :=
  Nat.rec (motive := fun _ => List Nat → Fr → Hp → Prop) (fun _ f H => Q f H) (fun _ ih D f H => match firstRd E ops M H0.length f D 0 ops.toList with
    | some (i, o) => (match o.dst with
      | some d => bif Nat.blt d nt then
          rdK E (hidM M 0 H0) (restr (looksL ops o) f) o.op fun v => frc v fun v => bif low H0.length v then ih (i :: D) ((d, v) :: f) H else False else False
      | none => False)
    | none => brsK D (fun i o => efC E nt M H0.length o f H fun v H' => pushK o.dst v f fun f => ih (i :: D) f H') ops.toList 0 none) n
theorem dsC_succ {ops : Array Oper} {M : List Nat} {H0 : Hp} {Q : Fr → Hp → Prop} {n : Nat} {D : List Nat} {f : Fr} {H : Hp} : dsC E nt ops M H0 Q (n + 1) D f H = match firstRd E ops M H0.length f D 0 ops.toList with
    | some (i, o) => (match o.dst with
      | some d => bif Nat.blt d nt then
          rdK E (hidM M 0 H0) (restr (looksL ops o) f) o.op fun v => frc v fun v => bif low H0.length v then dsC E nt ops M H0 Q n (i :: D) ((d, v) :: f) H else False else False
      | none => False)
    | none => brsK D (fun i o => efC E nt M H0.length o f H fun v H' => pushK o.dst v f fun f => dsC E nt ops M H0 Q n (i :: D) f H') ops.toList 0 none := rfl
theorem dsC_ok {ops : Array Oper} {M : List Nat} {H0 : Hp} {Q : Exit → Fr → Hp → Prop} : ∀ (n : Nat) (D : List Nat) (f : Fr) (H : Hp), hidM M 0 (H.take H0.length) = hidM M 0 H0 → dsC E nt ops M H0 (Q .normal) n D f H → DR E.P nt X ops M H0 Q n D f H
  | 0, D, f, H, _, h => h
  | n + 1, D, f, H, hold, h => by
    have hlen : H0.length ≤ H.length := by
      have := congrArg List.length hold
      rw [hidM_len, hidM_len, List.length_take] at this
      omega
    rw [dsC_succ] at h
    split at h
    · rename_i i o hfi
      obtain ⟨_, h1, h2, h3, h6, h4, h5⟩ := firstRd_ok hfi
      split at h
      · rename_i d hd
        rw [looksL_eq] at h
        cases hb : Nat.blt d nt with
        | false => rw [hb] at h; cases h
        | true =>
          rw [hb, cond_true] at h
          obtain ⟨v, hpj, hk⟩ := pj_of (nt := nt) (X := X) (ops := ops) (ty := o.type) h
          rw [frc_eq] at hk
          cases hl : low H0.length v with
          | false => rw [hl] at hk; cases hk
          | true =>
            rw [hl, cond_true] at hk
            exact .inl ⟨i, o, d, v, by simpa using h1, h2, hd, Nat.le_of_ble_eq_true hb, h3, h6, hl, h5 d hd, .inl ⟨h4, hpj⟩, dsC_ok n _ _ _ hold hk⟩
      · cases h
    · refine .inr fun i o ho hD hw => ?_
      have hm := brsK_mem h (Nat.zero_le i) (by simpa using ho) hD hw
      obtain ⟨hg, hpo⟩ := efC_po (X := X) hlen hm
      refine pl_op hg (hpo.mono ?_)
      rintro f' H' ⟨v, rfl, ho1, hk⟩
      rw [pushK_eq] at hk
      refine pl_nil ⟨rfl, ?_, ho1.trans hold, dsC_ok n _ _ _ (ho1.trans hold) hk⟩
      cases hd : o.dst with
      | none => exact ext_rfl
      | some d => exact ext_cons
end
end Go.Proofs.Ytllcemegnggpfaa
