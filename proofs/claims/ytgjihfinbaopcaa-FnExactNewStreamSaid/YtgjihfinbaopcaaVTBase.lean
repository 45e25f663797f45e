/-
  Sizes of values, as the laws reckon them.
-/
import Derived.Test.YtgjihfinbaopcaaVU
namespace Go.Proofs.Ytgjihfinbaopcaa
open Go Go.RowKit
set_option linter.unusedVariables false

def intC (n : Int) : List AV := [.i .i64 n]
def boolC (b : Bool) : List AV := [.b b]
def strC (s : ByteArray) : List AV := [.s s]

def okI (_ : Int) : Prop := True
def okB (_ : Bool) : Prop := True
def okS (s : ByteArray) : Prop := s.size ≤ 1048576
def okL {α : Type} [Inhabited α] (p : α → Prop) (l : List α) : Prop := l.length ≤ 1048576 ∧ ∀ k, k < l.length → p (l.getD k default)

def szFl {α : Type} (l : List α) (left : Int) : Int := szN l.length left
def szSt (s : ByteArray) (left : Int) : Int := szN s.size left
/-- The sizes of a list's elements, one by one. -/
def szF {α : Type} (g : α → Int → Int) : List α → Int → Int
  | [], v => v
  | x :: r, v => if g x v < 0 then -1 else szF g r (g x v)
def szLs {α : Type} (g : α → Int → Int) (l : List α) (left : Int) : Int := if left - l.length < 0 then -1 else szF g l (left - l.length)
def szAt {α : Type} [Inhabited α] (g : α → Int → Int) (l : List α) (v0 : Int) : Nat → Int
  | 0 => v0
  | k + 1 => g (l.getD k default) (szAt g l v0 k)

theorem szN_le {n : Nat} {v : Int} (h : v ≤ 1048576) : szN n v ≤ 1048576 := by unfold szN; split <;> omega
theorem szN_ok {n : Nat} {v : Int} (h : v ≤ 1048576) (hn : ¬ szN n v < 0) : n ≤ 1048576 := by unfold szN at hn; split at hn <;> omega
theorem szSt_le (s : ByteArray) (v : Int) (h : v ≤ 1048576) : szSt s v ≤ 1048576 := szN_le h
theorem szSt_ok {s : ByteArray} {v : Int} (h0 : 0 ≤ v) (h : v ≤ 1048576) (hn : ¬ szSt s v < 0) : okS s := szN_ok h hn
theorem szSt_ok' (s : ByteArray) (v : Int) (h0 : 0 ≤ v) (h : v ≤ 1048576) (hn : ¬ szSt s v < 0) : okS s := szN_ok h hn
theorem szFl_ok {α : Type} [Inhabited α] {p : α → Prop} (hp : ∀ a, p a) {l : List α} {v : Int} (h0 : 0 ≤ v) (h : v ≤ 1048576) (hn : ¬ szFl l v < 0) : okL p l := ⟨szN_ok h hn, fun k _ => hp _⟩
theorem szSt_neg {s : ByteArray} {v : Int} (h : v - (s.size : Int) < 0) : szSt s v < 0 := by unfold szSt szN; split <;> omega
theorem szSt_pos {s : ByteArray} {v : Int} (h : ¬ v - (s.size : Int) < 0) : ¬ szSt s v < 0 := by unfold szSt szN; split <;> omega
theorem szSt_eq {s : ByteArray} {v : Int} (h : ¬ szSt s v < 0) : v - (s.size : Int) = szSt s v := by unfold szSt szN at *; split at h <;> omega

theorem szF_cons {α : Type} {g : α → Int → Int} {x : α} {r : List α} {v : Int} : szF g (x :: r) v = if g x v < 0 then -1 else szF g r (g x v) := rfl
theorem szF_le {α : Type} {g : α → Int → Int} (hg : ∀ a v, v ≤ 1048576 → g a v ≤ 1048576) : ∀ {l : List α} {v : Int}, v ≤ 1048576 → szF g l v ≤ 1048576
  | [], v, h => h
  | x :: r, v, h => by unfold szF; split; omega; exact szF_le hg (hg x v h)
theorem szLs_le {α : Type} {g : α → Int → Int} (hg : ∀ a v, v ≤ 1048576 → g a v ≤ 1048576) {l : List α} {v : Int} (h : v ≤ 1048576) : szLs g l v ≤ 1048576 := by
  unfold szLs; split; omega; exact szF_le hg (by omega)
theorem szF_ok {α : Type} [Inhabited α] {g : α → Int → Int} {p : α → Prop} (hg : ∀ a v, v ≤ 1048576 → g a v ≤ 1048576) (hp : ∀ a v, 0 ≤ v → v ≤ 1048576 → ¬ g a v < 0 → p a) :
    ∀ {l : List α} {v : Int}, 0 ≤ v → v ≤ 1048576 → ¬ szF g l v < 0 → ∀ k, k < l.length → p (l.getD k default)
  | [], v, h0, h, hn, k, hk => by simp at hk
  | x :: r, v, h0, h, hn, k, hk => by
    unfold szF at hn
    by_cases c : g x v < 0
    · rw [if_pos c] at hn; omega
    rw [if_neg c] at hn
    cases k with
    | zero => exact hp x v h0 h c
    | succ k => exact szF_ok hg hp (by omega) (hg x v h) hn k (by simpa using hk)
theorem szLs_ok {α : Type} [Inhabited α] {g : α → Int → Int} {p : α → Prop} (hg : ∀ a v, v ≤ 1048576 → g a v ≤ 1048576) (hp : ∀ a v, 0 ≤ v → v ≤ 1048576 → ¬ g a v < 0 → p a)
    {l : List α} {v : Int} (h0 : 0 ≤ v) (h : v ≤ 1048576) (hn : ¬ szLs g l v < 0) : okL p l := by
  unfold szLs at hn
  by_cases c : v - l.length < 0
  · rw [if_pos c] at hn; omega
  rw [if_neg c] at hn
  exact ⟨by omega, szF_ok hg hp (by omega) (by omega) hn⟩
theorem szLs_neg {α : Type} {g : α → Int → Int} {l : List α} {v : Int} (h : v - l.length < 0) : (-1 : Int) = szLs g l v := by unfold szLs; rw [if_pos h]

/-- Where the reckoning of a list's sizes stands. -/
structure SzI {α : Type} [Inhabited α] (g : α → Int → Int) (l : List α) (v0 : Int) (k : Nat) : Prop where
  eq : szF g (l.drop k) (szAt g l v0 k) = szF g l v0
  lo : 0 ≤ szAt g l v0 k
  hi : szAt g l v0 k ≤ 1048576
theorem SzI.start {α : Type} [Inhabited α] {g : α → Int → Int} {l : List α} {v0 : Int} (h0 : 0 ≤ v0) (h1 : v0 ≤ 1048576) : SzI g l v0 0 := ⟨rfl, h0, h1⟩
theorem drop_get {α : Type} [Inhabited α] {l : List α} {k : Nat} (hk : k < l.length) : l.drop k = l.getD k default :: l.drop (k + 1) := by
  rw [List.drop_eq_getElem_cons hk, List.getD_eq_getElem?_getD, List.getElem?_eq_getElem hk]; rfl
theorem SzI.step {α : Type} [Inhabited α] {g : α → Int → Int} {l : List α} {v0 : Int} {k : Nat} (hg : ∀ a v, v ≤ 1048576 → g a v ≤ 1048576) (s : SzI g l v0 k) (hk : (k : Int) < (l.length : Int))
    (hn : ¬ g (l.getD k default) (szAt g l v0 k) < 0) : SzI g l v0 (k + 1) := by
  have e := s.eq
  rw [drop_get (by omega)] at e
  rw [szF_cons, if_neg hn] at e
  refine ⟨e, ?_, ?_⟩
  · show 0 ≤ g (l.getD k default) (szAt g l v0 k); omega
  · exact hg _ _ s.hi
theorem SzI.neg {α : Type} [Inhabited α] {g : α → Int → Int} {l : List α} {left : Int} {k : Nat} (s : SzI g l (left - l.length) k) (hk : (k : Int) < (l.length : Int))
    (hn : g (l.getD k default) (szAt g l (left - l.length) k) < 0) (h0 : ¬ left - l.length < 0) : (-1 : Int) = szLs g l left := by
  have e := s.eq
  rw [drop_get (by omega)] at e
  rw [szF_cons, if_pos hn] at e
  unfold szLs
  rw [if_neg h0]
  exact e
theorem SzI.fin {α : Type} [Inhabited α] {g : α → Int → Int} {l : List α} {left : Int} {k : Nat} (s : SzI g l (left - l.length) k) (hk : ¬ (k : Int) < (l.length : Int)) (h0 : ¬ left - l.length < 0) : szAt g l (left - l.length) k = szLs g l left := by
  have e := s.eq
  rw [List.drop_eq_nil_of_le (by omega)] at e
  unfold szLs
  rw [if_neg h0]
  exact e
end Go.Proofs.Ytgjihfinbaopcaa
