/-
  What the package's variables read as (Lw); that this stays as long as the blocks of S do (Gl).
-/
import Derived.WalkKit
import Derived.Laws.Cells
namespace Go.Proofs.Ytgjihfinbaopcaa
open Go Go.RowKit
set_option linter.unusedVariables false
set_option linter.unusedSimpArgs false

def Lw (w : World) : Prop := True
structure Gl (w : World) (S : Nat → Prop) : Prop where
  h : ∀ w' : World, (∀ b, S b → w'.heap[b]? = w.heap[b]?) → Lw w'
theorem Gl.now {w : World} {S : Nat → Prop} (h : Gl w S) : Lw w := h.h w fun _ _ => rfl
theorem Gl.mono {w w' : World} {S S' : Nat → Prop} (h : Gl w S) (hS : ∀ b, S b → S' b ∧ w'.heap[b]? = w.heap[b]?) : Gl w' S' := ⟨fun w2 h2 => h.h w2 fun b hb => (h2 b (hS b hb).1).trans (hS b hb).2⟩
/-- What stays lies in the world, the variables among it. -/
structure SIn (w : World) (S : Nat → Prop) : Prop where
  lt : ∀ b, S b → b < w.heap.size
  gl : Gl w S
instance {w : World} {S : Nat → Prop} : CoeFun (SIn w S) (fun _ => ∀ b, S b → b < w.heap.size) := ⟨SIn.lt⟩
theorem SIn.below {n : Nat} {w W : World} {S : Nat → Prop} (h : SIn w S) (hB : Below n w W) (hn : w.heap.size ≤ n) : SIn W S := ⟨fun b hb => Nat.lt_of_lt_of_le (h.lt b hb) hB.size, h.gl.mono fun b hb => ⟨hb, hB.block b (Nat.lt_of_lt_of_le (h.lt b hb) hn)⟩⟩
end Go.Proofs.Ytgjihfinbaopcaa
