/-
  What the package's variables read as (Lw); that this stays as long as the blocks of S do (Gl).
-/
import Derived.WalkKit
import Derived.Laws.Cells
import Derived.Lib.LaidTab
import Derived.Lib.AtoiErrMem
import Derived.Lib.ItoaNum
import Derived.Test.YtcmnohbbjkdpdaaDoorProg
namespace Go.Proofs.YtcmnohbbjkdpdaaDoor
open Go Go.RowKit
set_option linter.unusedVariables false
set_option linter.unusedSimpArgs false

theorem cell_of_eq {w w' : World} {b o : Nat} (h : w'.heap[b]? = w.heap[b]?) : w'.cell? ⟨b, o, none⟩ = w.cell? ⟨b, o, none⟩ := by
  unfold World.cell?
  simp only [h]
theorem tab_of_eq {P : Program} {w w' : World} {name : String} {k : IntKind} {zs : List Int} (h : ∀ b, b < w.heap.size → w'.heap[b]? = w.heap[b]?) (ht : Lib.TabIs P w name k zs) : Lib.TabIs P w' name k zs := by
  unfold Lib.TabIs World.var? at *
  cases hg : P.globalNamed name with
  | none => rw [hg] at ht; cases ht
  | some g =>
    rw [hg] at ht
    simp only [Option.bind_some] at ht ⊢
    rcases Nat.lt_or_ge g w.heap.size with q | q
    · rw [h g q]; exact ht
    · rw [Array.getElem?_eq_none q] at ht; cases ht
/-- A variable that holds an error, or nil. -/
def ErrAt (w : World) (b : Nat) : Prop := ∃ ev, w.cell? ⟨b, 0, none⟩ = some ev ∧ (ev = .nilIface ∨ ∃ te pe, ev = .iface te pe)
theorem ErrAt.of_eq {w w' : World} {b : Nat} (h : ∀ b, b < w.heap.size → w'.heap[b]? = w.heap[b]?) (he : ErrAt w b) : ErrAt w' b := by
  obtain ⟨ev, h1, h2⟩ := he
  exact ⟨ev, (cell_of_eq (h b (Lib.lt_of_cell h1))).trans h1, h2⟩
structure Lw (w : World) : Prop where
  tab : Lib.TabIs Tryd.prog w "internal/strconv.uint64pow10" .u64 Lib.pow10Tab
  es : ErrAt w 2
  er : ErrAt w 3
  ml : ∃ m, w.cell? ⟨1, 0, none⟩ = some (.int .i64 m)
theorem Lw.of_eq {w w' : World} (h : ∀ b, b < w.heap.size → w'.heap[b]? = w.heap[b]?) (hl : Lw w) : Lw w' := ⟨tab_of_eq h hl.tab, hl.es.of_eq h, hl.er.of_eq h, by
  obtain ⟨m, hm⟩ := hl.ml
  exact ⟨m, (cell_of_eq (h _ (Lib.lt_of_cell hm))).trans hm⟩⟩
structure Gl (w : World) (S : Nat → Prop) : Prop where
  h : ∀ w' : World, (∀ b, S b → w'.heap[b]? = w.heap[b]?) → Lw w'
theorem Gl.now {w : World} {S : Nat → Prop} (h : Gl w S) : Lw w := h.h w fun _ _ => rfl
theorem Gl.mono {w w' : World} {S S' : Nat → Prop} (h : Gl w S) (hS : ∀ b, S b → S' b ∧ w'.heap[b]? = w.heap[b]?) : Gl w' S' := ⟨fun w2 h2 => h.h w2 fun b hb => (h2 b (hS b hb).1).trans (hS b hb).2⟩
/-- What stays lies in the world, the variables among it. -/
structure SIn (w : World) (S : Nat → Prop) : Prop where
  lt : ∀ b, S b → b < w.heap.size
  gl : Gl w S
instance {w : World} {S : Nat → Prop} : CoeFun (SIn w S) (fun _ => ∀ b, S b → b < w.heap.size) := ⟨SIn.lt⟩
theorem SIn.below {n : Nat} {w W : World} {S : Nat → Prop} (h : SIn w S) (hB : Below n w W) (hn : w.heap.size ≤ n) : SIn W S := ⟨fun b hb => Nat.lt_of_lt_of_le (h.lt b hb) hB.size, h.gl.mono fun b hb => ⟨hb, hB.block b (Nat.lt_of_lt_of_le (h.lt b hb) hn)⟩⟩
end Go.Proofs.YtcmnohbbjkdpdaaDoor
