/-
  MakeHandle: the reference and the program. Printed by mkm.py.
-/
import Derived.Test.YtaiohiincgpomaaVMkE
namespace Go.Proofs.Ytaiohiincgpomaa
open Go Go.RowKit
set_option linter.unusedVariables false
set_option linter.unusedSimpArgs false

/-- What the reference asks. -/
def Shelf.makeS (s : Shelf) (who res rep : Int) : Prop := s.sGood ∧ (0 ≤ who ∧ who < (s.tables.length : Int)) ∧ (1 ≤ res ∧ res ≤ 8) ∧ (0 ≤ rep ∧ rep ≤ 2147483647)
theorem tab_good {s : Shelf} (h : s.good) {who : Int} (hw : 0 ≤ who ∧ who < (s.tables.length : Int)) : (s.tables.getD who.toNat default).entries.length ≤ 12 ∧ 1 ≤ (s.tables.getD who.toNat default).next ∧ (s.tables.getD who.toNat default).next ≤ 1000000 := by
  have := h.2.2.2.1 who.toNat (by omega)
  exact ⟨this.2.2, this.2.1.1, this.2.1.2⟩
theorem set_ok {s : Shelf} (h : okL Table.ok s.tables) {w : Nat} {t : Table} (ht : t.ok) : okL Table.ok (s.tables.set w t) := by
  refine ⟨by rw [List.length_set]; exact h.1, fun k hk => ?_⟩
  rw [List.length_set] at hk
  by_cases e : k = w
  · subst e
    rw [getD_set hk, if_pos rfl]; exact ht
  · have : (s.tables.set w t).getD k default = s.tables.getD k default := by
      rw [List.getD_eq_getElem?_getD, List.getD_eq_getElem?_getD, List.getElem?_set_ne (fun h => e h.symm)]
    rw [this]; exact h.2 k hk
theorem put_ok {s : Shelf} (h : s.ok) {w : Nat} (e : Entry) (hl : (s.tables.getD w default).entries.length ≤ 12) : (s.put w e).ok :=
  ⟨set_ok h.1 ⟨by simp only [Table.put, List.length_append, List.length_singleton]; omega, fun _ _ => trivial⟩, h.2⟩
theorem made_ok {s : Shelf} (h : s.ok) {w : Nat} {res rep : Int} (hn : s.things.length < 24) (hl : (s.tables.getD w default).entries.length ≤ 12) : (s.made w res rep).ok := put_ok (plus_ok h hn res rep) _ hl

/-- What may be made. -/
structure Shelf.Mk (s : Shelf) (who res rep : Int) : Prop where
  good : s.good
  who : 0 ≤ who ∧ who < (s.tables.length : Int)
  res : 1 ≤ res ∧ res ≤ 8
  rep : 0 ≤ rep ∧ rep ≤ 2147483647