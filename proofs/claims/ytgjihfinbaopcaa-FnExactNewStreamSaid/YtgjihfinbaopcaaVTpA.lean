/-
  Types that are valid (plain).
-/
import Derived.Test.YtgjihfinbaopcaaVTType
namespace Go.Proofs.Ytgjihfinbaopcaa
open Go Go.RowKit
set_option linter.unusedVariables false
set_option linter.unusedSimpArgs false

/-- The byte at a place. -/
def byA (b : ByteArray) (k : Nat) : Nat := (b.data.getD k 0).toNat
def chA (c : Nat) : Prop := 97 ≤ c ∧ c ≤ 122
def chB (c : Nat) : Prop := (97 ≤ c ∧ c ≤ 122) ∨ (48 ≤ c ∧ c ≤ 57) ∨ c = 45
/-- The first k bytes may be those of a name. -/
structure NmTo (b : ByteArray) (k : Nat) : Prop where
  h : ∀ j, j < k → chB (byA b j) ∧ (byA b j = 45 → 0 < j ∧ byA b (j - 1) ≠ 45) ∧ (j = 0 → chA (byA b j))
theorem NmTo.zero (b : ByteArray) : NmTo b 0 := ⟨fun j hj => absurd hj (Nat.not_lt_zero _)⟩
theorem NmTo.succ {b : ByteArray} {k : Nat} (h : NmTo b k) (h1 : chB (byA b k)) (h2 : byA b k = 45 → 0 < k ∧ byA b (k - 1) ≠ 45) (h3 : k = 0 → chA (byA b k)) : NmTo b (k + 1) := ⟨fun j hj => by
  rcases Nat.lt_or_eq_of_le (Nat.le_of_lt_succ hj) with r | rfl
  · exact h.h j r
  · exact ⟨h1, h2, h3⟩⟩
/-- A name. -/
structure nmB (b : ByteArray) : Prop where
  lo : 1 ≤ b.size
  hi : b.size ≤ 12
  fst : chA (byA b 0)
  last : byA b (b.size - 1) ≠ 45
  all : NmTo b b.size
/-- Labels. -/
structure lbB (l : List ByteArray) : Prop where
  lo : 1 ≤ l.length
  hi : l.length ≤ 16
  nd : l.Nodup
  nm : ∀ k, k < l.length → nmB (l.getD k default)
/-- A part has such a kind. -/
def Typ.hasN (p : Int → Prop) (n : Nat) : Typ → Prop := Nat.rec (motive := fun _ => Typ → Prop) (fun _ => False) (fun _ ih a => p a.kind ∨ ∃ k, k < a.kids.length ∧ ih (a.kids.getD k default)) n
def Typ.units (a : Typ) : Prop := ∃ k, k < a.kids.length ∧ (a.kids.getD k default).kind = 1
def isNamed (k : Int) : Prop := k = 20 ∨ k = 21
def isLab (k : Int) : Prop := 16 ≤ k ∧ k ≤ 19
def Typ.has (p : Int → Prop) (a : Typ) : Prop := Typ.hasN p (a.kd + 1) a
/-- What is asked of a type's kids. -/
structure Typ.kidsOk (a : Typ) : Prop where
  k1 : a.kind = 12 ∨ a.kind = 13 → a.kids.length = 1 ∧ ¬ a.units
  k2 : a.kind = 22 ∨ a.kind = 23 → a.kids.length = 1 ∧ ¬ Typ.has (fun k => 21 ≤ k ∧ k ≤ 21) (a.kids.getD 0 default)
  k3 : a.kind = 14 → a.kids.length = 2
  k4 : a.kind = 15 → 1 ≤ a.kids.length ∧ a.kids.length ≤ 6 ∧ ¬ a.units
  k5 : a.kind = 16 → a.kids.length = a.labels.length ∧ ¬ a.units
  k6 : a.kind = 17 → a.kids.length = a.labels.length
  k7 : ¬ ((12 ≤ a.kind ∧ a.kind ≤ 17) ∨ a.kind = 22 ∨ a.kind = 23) → (1 ≤ a.kind ∧ a.kind ≤ 23) ∧ a.kids.length = 0
/-- What is asked of a type's fields. -/
structure Typ.shp (a : Typ) : Prop where
  n1 : isNamed a.kind → nmB a.name
  n2 : ¬ isNamed a.kind → a.name.size = 0
  l1 : isLab a.kind → lbB a.labels
  l2 : ¬ isLab a.kind → a.labels.length = 0
  ks : a.kidsOk
/-- All parts are right, and it is not nested more deeply than n. -/
def Typ.shN (n : Nat) : Typ → Prop := Nat.rec (motive := fun _ => Typ → Prop) (fun _ => False) (fun n ih a => Typ.shp a ∧ ∀ k, k < a.kids.length → ih (a.kids.getD k default)) n
def Typ.sh (a : Typ) : Prop := Typ.shN (a.kd + 1) a
/-- How many of the first k kids' parts there are. -/
def sumK (f : Typ → Nat) (l : List Typ) (k : Nat) : Nat := ((l.take k).map f).sum
def Typ.npN (n : Nat) : Typ → Nat := Nat.rec (motive := fun _ => Typ → Nat) (fun _ => 1) (fun _ ih a => 1 + sumK ih a.kids a.kids.length) n
/-- How many parts there are. -/
noncomputable def Typ.np (a : Typ) : Nat := Typ.npN (a.kd + 1) a
/-- A valid type. -/
def Typ.good (a : Typ) : Prop := Typ.fN 4 a ∧ Typ.np a ≤ 24 ∧ Typ.sh a
theorem sumK_zero (f : Typ → Nat) (l : List Typ) : sumK f l 0 = 0 := rfl
theorem sumK_succ (f : Typ → Nat) {l : List Typ} {k : Nat} (h : k < l.length) : sumK f l (k + 1) = sumK f l k + f (l.getD k default) := by
  unfold sumK
  rw [List.take_add_one, List.getElem?_eq_getElem h, List.map_append, List.sum_append, List.getD_eq_getElem?_getD, List.getElem?_eq_getElem h]
  rfl
theorem sumK_mono (f : Typ → Nat) {l : List Typ} {k : Nat} : ∀ {m : Nat}, k ≤ m → m ≤ l.length → sumK f l k ≤ sumK f l m
  | 0, h, _ => by obtain rfl : k = 0 := by omega
                  exact Nat.le_refl _
  | m + 1, h, hm => by
    rcases Nat.lt_or_eq_of_le h with q | rfl
    · rw [sumK_succ f (by omega)]
      exact Nat.le_trans (sumK_mono f (Nat.le_of_lt_succ q) (by omega)) (Nat.le_add_right _ _)
    · exact Nat.le_refl _
theorem Typ.npN_pos (n : Nat) (a : Typ) : 1 ≤ Typ.npN n a := by
  cases n with
  | zero => exact Nat.le_refl _
  | succ n => exact Nat.le_add_right _ _
theorem Typ.fN_get {n : Nat} {a : Typ} : Typ.fN (n + 1) a ↔ ∀ k, k < a.kids.length → Typ.fN n (a.kids.getD k default) := by
  constructor
  · intro h k hk
    exact h _ (Typ.getD_mem0 hk)
  · intro h x hx
    obtain ⟨k, hk, rfl⟩ := List.getElem_of_mem hx
    have := h k hk
    rw [List.getD_eq_getElem?_getD, List.getElem?_eq_getElem hk] at this
    exact this
theorem sumK_congr {f g : Typ → Nat} {l : List Typ} (h : ∀ k, k < l.length → f (l.getD k default) = g (l.getD k default)) : ∀ {k : Nat}, k ≤ l.length → sumK f l k = sumK g l k
  | 0, _ => rfl
  | k + 1, hk => by rw [sumK_succ _ (by omega), sumK_succ _ (by omega), sumK_congr h (by omega), h k (by omega)]
theorem Typ.npN_conv : ∀ (n m : Nat) (a : Typ), Typ.fN n a → Typ.fN m a → Typ.npN n a = Typ.npN m a
  | 0, m, a, h, _ => h.elim
  | n + 1, 0, a, _, h => h.elim
  | n + 1, m + 1, a, h, k => by
    show 1 + sumK (Typ.npN n) a.kids a.kids.length = 1 + sumK (Typ.npN m) a.kids a.kids.length
    rw [sumK_congr (fun j hj => Typ.npN_conv n m _ (Typ.fN_get.1 h j hj) (Typ.fN_get.1 k j hj)) (Nat.le_refl _)]
theorem Typ.kid_kd {a : Typ} {k : Nat} (hk : k < a.kids.length) : (a.kids.getD k default).kd < a.kd := Typ.kd_mem (Typ.getD_mem0 hk)
theorem Typ.np_eq (a : Typ) : a.np = 1 + sumK Typ.np a.kids a.kids.length := by
  show 1 + sumK (Typ.npN a.kd) a.kids a.kids.length = _
  rw [sumK_congr (g := Typ.np) (fun j hj => Typ.npN_conv _ _ _ (Typ.fN_kd _ _ (Typ.kid_kd hj)) (Typ.fN_self _)) (Nat.le_refl _)]
theorem Typ.np_pos (a : Typ) : 1 ≤ a.np := Typ.npN_pos _ _
theorem sumK_len {l : List Typ} {k : Nat} (hk : k ≤ l.length) : k ≤ sumK Typ.np l k := by
  induction k with
  | zero => exact Nat.zero_le _
  | succ k ih =>
    rw [sumK_succ _ (by omega)]
    have := Typ.np_pos (l.getD k default)
    have := ih (by omega)
    omega
theorem Typ.hasN_conv {p : Int → Prop} : ∀ (n m : Nat) (a : Typ), Typ.fN n a → Typ.fN m a → Typ.hasN p n a → Typ.hasN p m a
  | 0, m, a, h, _, _ => h.elim
  | n + 1, 0, a, _, h, _ => h.elim
  | n + 1, m + 1, a, h, k, q => by
    rcases q with q | ⟨j, hj, q⟩
    · exact .inl q
    · exact .inr ⟨j, hj, Typ.hasN_conv n m _ (Typ.fN_get.1 h j hj) (Typ.fN_get.1 k j hj) q⟩
theorem Typ.has_eq {p : Int → Prop} {a : Typ} : Typ.has p a ↔ p a.kind ∨ ∃ k, k < a.kids.length ∧ Typ.has p (a.kids.getD k default) := by
  constructor
  · rintro (q | ⟨j, hj, q⟩)
    · exact .inl q
    · exact .inr ⟨j, hj, Typ.hasN_conv _ _ _ (Typ.fN_kd _ _ (Typ.kid_kd hj)) (Typ.fN_self _) q⟩
  · rintro (q | ⟨j, hj, q⟩)
    · exact .inl q
    · exact .inr ⟨j, hj, Typ.hasN_conv _ _ _ (Typ.fN_self _) (Typ.fN_kd _ _ (Typ.kid_kd hj)) q⟩
theorem Typ.shN_conv : ∀ (n m : Nat) (a : Typ), Typ.fN n a → Typ.fN m a → Typ.shN n a → Typ.shN m a
  | 0, m, a, h, _, _ => h.elim
  | n + 1, 0, a, _, h, _ => h.elim
  | n + 1, m + 1, a, h, k, q => ⟨q.1, fun j hj => Typ.shN_conv n m _ (Typ.fN_get.1 h j hj) (Typ.fN_get.1 k j hj) (q.2 j hj)⟩
theorem Typ.sh_eq {a : Typ} : Typ.sh a ↔ Typ.shp a ∧ ∀ k, k < a.kids.length → Typ.sh (a.kids.getD k default) := by
  constructor
  · exact fun q => ⟨q.1, fun j hj => Typ.shN_conv _ _ _ (Typ.fN_kd _ _ (Typ.kid_kd hj)) (Typ.fN_self _) (q.2 j hj)⟩
  · exact fun q => ⟨q.1, fun j hj => Typ.shN_conv _ _ _ (Typ.fN_self _) (Typ.fN_kd _ _ (Typ.kid_kd hj)) (q.2 j hj)⟩
/-! Cells. -/
theorem Typ.lift {n : Nat} {a : Typ} (h : Typ.oN (n + 1) a) : Wk (.agg (Typ.pN (n + 1) a)) (.agg (Typ.pN (n + 2) a)) := .agg (Typ.up _ _ (Typ.oN_fN _ _ h))
theorem Typ.down {n : Nat} {b : Typ} (h : Typ.oN n b) : Wk (.agg (Typ.pN (n + 1) b)) (.agg (Typ.pN n b)) := .agg (Typ.conv _ _ _ (Typ.fN_up _ _ (Typ.oN_fN _ _ h)) (Typ.oN_fN _ _ h))
theorem Typ.oN_kid {n : Nat} {a : Typ} (h : Typ.oN (n + 1) a) {k : Nat} (hk : k < a.kids.length) : Typ.oN n (a.kids.getD k default) := h.2.2.2 k hk
theorem Typ.oN_len {n : Nat} {a : Typ} (h : Typ.oN n a) : a.kids.length ≤ 1048576 := by
  cases n with
  | zero => exact h.elim
  | succ n => exact h.2.2.1
theorem Typ.oN_name {n : Nat} {a : Typ} (h : Typ.oN n a) : a.name.size ≤ 1048576 := by
  cases n with
  | zero => exact h.elim
  | succ n => exact h.1
theorem Typ.oN_labels {n : Nat} {a : Typ} (h : Typ.oN n a) : a.labels.length ≤ 1048576 ∧ ∀ k, k < a.labels.length → (a.labels.getD k default).size ≤ 1048576 := by
  cases n with
  | zero => exact h.elim
  | succ n => exact h.2.1
theorem nodup_getD {l : List ByteArray} : l.Nodup ↔ ∀ j, j < l.length → ∀ k, k < j → l.getD k default ≠ l.getD j default := by
  unfold List.Nodup
  rw [List.pairwise_iff_getElem]
  constructor
  · intro h j hj k hk
    have := h k j (by omega) hj hk
    rw [List.getD_eq_getElem?_getD, List.getD_eq_getElem?_getD, List.getElem?_eq_getElem hj, List.getElem?_eq_getElem (show k < l.length by omega)]
    exact this
  · intro h i j hi hj hij
    have := h j hj i hij
    rw [List.getD_eq_getElem?_getD, List.getD_eq_getElem?_getD, List.getElem?_eq_getElem hj, List.getElem?_eq_getElem hi] at this
    exact this
end Go.Proofs.Ytgjihfinbaopcaa
