/-
  Yards that are read: the program and the reference call the same ones valid. Plain Lean, no program in sight.
-/
import Derived.Test.YthhenipljdanjaaVYaM
namespace Go.Proofs.Ythhenipljdanjaa
open Go Go.RowKit
set_option linter.unusedVariables false
set_option linter.unusedSimpArgs false

theorem getD_eq {α : Type} [Inhabited α] {l : List α} {k : Nat} (h : k < l.length) : l.getD k default = l[k] := by
  rw [List.getD_eq_getElem?_getD, List.getElem?_eq_getElem h]; rfl
theorem onI_iff {y : Yard} {k : Nat} (hk : k < y.stack.length) : y.onI (y.stack.getD k default).callee = some k ↔ onS (y.stack.take k) (y.stack.getD k default).callee = false := by
  unfold Yard.onI onS
  rw [List.findIdx?_eq_some_iff_getElem, List.any_eq_false]
  constructor
  · rintro ⟨_, _, h⟩ x hx
    obtain ⟨j, hj, rfl⟩ := List.getElem_of_mem hx
    rw [List.length_take] at hj
    rw [List.getElem_take]
    exact h j (by omega)
  · intro h
    refine ⟨hk, by rw [getD_eq hk]; simp [calP], fun j hj => ?_⟩
    refine h _ ?_
    rw [List.mem_iff_getElem]
    exact ⟨j, by rw [List.length_take]; omega, by rw [List.getElem_take]⟩
theorem idBad_iff {l : List Int} : l.any idBad = false ↔ ∀ j, j < l.length → 1 ≤ l.getD j default ∧ l.getD j default ≤ 1000000 := by
  rw [← Bool.not_eq_true, any_getD]
  constructor
  · intro h j hj
    refine Decidable.byContradiction fun hc => h ⟨j, hj, ?_⟩
    unfold idBad
    rw [Bool.not_eq_true', decide_eq_false_iff_not]
    exact hc
  · rintro h ⟨j, hj, hb⟩
    unfold idBad at hb
    rw [Bool.not_eq_true', decide_eq_false_iff_not] at hb
    exact hb (h j hj)
theorem call_iff {y : Yard} {k : Nat} (hk : k < y.stack.length) : y.callOk k (y.stack.getD k default) ↔ y.sCall k (y.stack.getD k default) := by
  unfold Yard.callOk Yard.sCall
  rw [onI_iff hk, idBad_iff]
  constructor
  · rintro ⟨g1, g2, g3, g4, g5, g6, g7⟩
    exact ⟨⟨by omega, by omega⟩, g3, g4, g7, g5, g6⟩
  · rintro ⟨⟨g1, g2⟩, g3, g4, g7, g5, g6⟩
    exact ⟨by omega, by omega, g3, g4, g5, g6, g7⟩
theorem dead_ge {y : Yard} (h : y.goodD) : ∀ k, k < y.dead.length → (k : Int) + 1 ≤ y.dead.getD k default
  | 0, hk => by
    have := (h 0 hk).1.1
    omega
  | k + 1, hk => by
    have h1 := dead_ge h k (by omega)
    have h2 := (h (k + 1) hk).2.2.2
    unfold prevD at h2
    rw [if_neg (by omega), Nat.add_sub_cancel] at h2
    omega
theorem dead_le {y : Yard} (h : y.goodD) (ht : y.shelf.tables.length ≤ 7) : y.dead.length ≤ 6 := by
  rcases Nat.eq_zero_or_pos y.dead.length with h0 | h0
  · omega
  · have h1 := dead_ge h (y.dead.length - 1) (by omega)
    have h2 := (h (y.dead.length - 1) (by omega)).1.2
    omega
theorem bor_iff {y : Yard} (h : y.sStack) (i : Nat) (e : Entry) : y.borE i e ↔ y.belE i e := by
  unfold Yard.borE Yard.belE
  refine or_congr Iff.rfl ?_
  rw [any_getD]
  constructor
  · rintro ⟨q, hq, hb⟩
    unfold borP at hb
    rw [decide_eq_true_eq] at hb
    have := (h.2 q hq).2.2.2.1
    rw [hb.1] at this
    exact ⟨q, this, hb.2.1, hb.2.2⟩
  · rintro ⟨q, hq, h1, h2⟩
    have hq' := hq
    unfold Yard.onI at hq
    rw [List.findIdx?_eq_some_iff_getElem] at hq
    obtain ⟨hlt, hp, _⟩ := hq
    refine ⟨q, hlt, ?_⟩
    unfold borP
    rw [decide_eq_true_eq]
    refine ⟨?_, h1, h2⟩
    unfold calP at hp
    rw [decide_eq_true_eq] at hp
    rw [getD_eq hlt]
    exact hp
theorem yard_iff (y : Yard) : y.good ↔ y.sGood := by
  constructor
  · rintro ⟨h1, ⟨h2, h3⟩, ⟨h4, h5, h6⟩, h7, h8⟩
    have hst : y.sStack := ⟨h6, fun k hk => (call_iff hk).1 (h4 k hk)⟩
    exact ⟨(good_iff _).1 h1, h2, h5, hst, dead_le h7 h3, h7, fun i k hi hk => (bor_iff hst _ _).1 (h8 i k hi hk)⟩
  · rintro ⟨h1, h2, h3, h4, h5, h6, h7⟩
    refine ⟨(good_iff _).2 h1, ⟨h2, h1.1.2.1.2⟩, ⟨fun k hk => (call_iff hk).2 (h4.2 k hk), h3, h4.1⟩, h6, fun i k hi hk => (bor_iff h4 _ _).2 (h7 i k hi hk)⟩
end Go.Proofs.Ythhenipljdanjaa
