/- Texts for VMakeInP. -/
import Derived.Test.YtmchgnbeoefhhaaGreatVm17
namespace Go.Proofs.YtmchgnbeoefhhaaGreat
open Go Go.RowKit
set_option linter.unusedVariables false
set_option linter.unusedSimpArgs false
theorem markL_bound {α : Type} {f : α → Int → α × Int} {B : Nat} : ∀ (l : List α), (∀ a ∈ l, ∀ k, (f a k).2 ≤ k + B) → ∀ k, (markL f l k).2 ≤ k + (l.length * B : Nat)
 | [], _, k => by simp [markL]
 | a :: l, h, k => by
  have h1 := markL_bound l (fun b hb => h b (List.mem_cons_of_mem _ hb)) (f a k).2
  have h2 := h a List.mem_cons_self k
  show (markL f l (f a k).2).2 ≤ _
  rw [List.length_cons, Nat.succ_mul]
  omega
theorem okL_mem {α : Type} [Inhabited α] {p : α → Prop} {l : List α} (h : okL p l) {a : α} (ha : a ∈ l) : p a := by
 obtain ⟨i, hi, rfl⟩ := List.mem_iff_getElem.1 ha
 have := h.2 i hi
 rwa [List.getD_eq_getElem?_getD, List.getElem?_eq_getElem hi] at this
theorem entry_bound (a : Entry) (k : Int) : (Entry.mkE a k).2 ≤ k + (7 : Nat) := by simp only [Entry.mkE]; omega
theorem thing_bound (a : Thing) (k : Int) : (Thing.mkE a k).2 ≤ k + (3 : Nat) := by simp only [Thing.mkE]; omega
theorem table_bound (a : Table) (h : a.ok) (k : Int) : (Table.mkE a k).2 ≤ k + (7340033 : Nat) := by
 have h1 := markL_bound (f := Entry.mkE) (B := 7) a.entries (fun b _ => entry_bound b) (k + 1)
 have h2 : a.entries.length ≤ 1048576 := h.1
 simp only [Table.mkE]
 omega
end Go.Proofs.YtmchgnbeoefhhaaGreat
