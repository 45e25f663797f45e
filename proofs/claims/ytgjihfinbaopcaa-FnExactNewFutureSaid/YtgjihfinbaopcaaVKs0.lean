/-
  What is said of a list of arguments.
-/
import Derived.Test.YtgjihfinbaopcaaVTBase
namespace Go.Proofs.Ytgjihfinbaopcaa
open Go Go.RowKit
set_option linter.unusedVariables false
set_option linter.unusedSimpArgs false

theorem concL_1 {w : World} {S : Nat → Prop} {blk : Nat → BC} {H : Hp} {x : AV} {us : List Value} (h : ConcL w S blk H [x] us) : ∃ u, us = [u] ∧ Conc w S blk H x u := by
  obtain ⟨hl, h⟩ := h
  match us, hl with
  | [u], _ => exact ⟨u, rfl, h 0 x u rfl rfl⟩
theorem concL_2 {w : World} {S : Nat → Prop} {blk : Nat → BC} {H : Hp} {x y : AV} {us : List Value} (h : ConcL w S blk H [x, y] us) : ∃ u v, us = [u, v] ∧ Conc w S blk H x u ∧ Conc w S blk H y v := by
  obtain ⟨hl, h⟩ := h
  match us, hl with
  | [u, v], _ => exact ⟨u, v, rfl, h 0 x u rfl rfl, h 1 y v rfl rfl⟩
theorem conc_i {w : World} {S : Nat → Prop} {blk : Nat → BC} {H : Hp} {z : Int} (h1 : -9223372036854775808 ≤ z) (h2 : z < 9223372036854775808) : Conc w S blk H (.i .i64 z) (.int .i64 z) := .i (by
  simp only [Lit.wf, IntKind.min, IntKind.max, IntKind.signed, IntKind.bits, Bool.and_eq_true, decide_eq_true_eq, if_true, Bool.false_eq_true, if_false]
  omega)
end Go.Proofs.Ytgjihfinbaopcaa
