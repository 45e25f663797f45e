/-
  What is nil is said as a row of no elements (at a function's end).
-/
import Derived.Test.YtgjihfinbaopcaaVX
import Derived.Test.YtgjihfinbaopcaaVTOwn
namespace Go.Proofs.Ytgjihfinbaopcaa
open Go Go.RowKit
set_option linter.unusedVariables false
set_option linter.unusedSimpArgs false

theorem endM_nil {X : Ctx} {H : Hp} {cs : List AV} {sz : Nat} {g : Nat → Nat → AV} {post : AV → Hp → Prop} (j : Nat) (hj : cs[j]? = some .nils) (k : EndM X (H ++ [some ⟨sz, 0, g, .arr⟩]) (.agg (cs.set j (.row H.length 0))) post) : EndM X H (.agg cs) post := ⟨fun w blk FP u hR hc he => by
  have hext := HExt.push H blk (some ⟨sz, 0, g, .arr⟩) ⟨0, 0⟩
  have hnew : ∀ id, id < H.length → (fun id => if id = H.length then ([] : List Nat) else FP id) id = FP id := fun id h => if_neg (by omega)
  have hnewb : ∀ id, id < H.length → (fun id => if id = H.length then (⟨0, 0⟩ : BC) else blk id) id = blk id := fun id h => if_neg (by omega)
  have hend : (fun id => if id = H.length then ([] : List Nat) else FP id) H.length = [] := if_pos rfl
  have hendb : (fun id => if id = H.length then (⟨0, 0⟩ : BC) else blk id) H.length = ⟨0, 0⟩ := if_pos rfl
  generalize hFP : (fun id => if id = H.length then ([] : List Nat) else FP id) = FP' at hnew hend
  generalize hBL : (fun id => if id = H.length then (⟨0, 0⟩ : BC) else blk id) = blk' at hnewb hendb hext
  have hS : X.S FP' (H ++ [some ⟨sz, 0, g, .arr⟩]) w.heap.size = X.S FP H w.heap.size := by
    funext b
    apply propext
    constructor
    · rintro ⟨h1, h2, h3⟩
      refine ⟨h1, h2, fun id r hr => ?_⟩
      have hlt := (List.getElem?_eq_some_iff.1 hr).1
      have := h3 id r (by rw [List.getElem?_append_left hlt]; exact hr)
      rwa [hnew id hlt] at this
    · rintro ⟨h1, h2, h3⟩
      refine ⟨h1, h2, fun id r hr => ?_⟩
      rcases old_or_new hr with ⟨hlt, ho⟩ | ⟨rfl, _⟩
      · rw [hnew id hlt]
        exact h3 id r ho
      · rw [hend]
        exact List.not_mem_nil
  obtain ⟨r', H2, b2, F2, q1, q2, q3, q4, q5⟩ := k.h w blk' FP' u (by
    rw [hS]
    refine ⟨fun id r hr => ?_, fun i j r r' hi hj hij b hb => ?_, fun b hb => ⟨(hR.free b hb).1, fun id r hr => ?_⟩⟩
    · rcases old_or_new hr with ⟨hlt, ho⟩ | ⟨rfl, rfl⟩
      · rw [hnew id hlt, hnewb id hlt]
        exact ⟨(hR.rows id r ho).1.mono (fun b hb => ⟨hb, rfl⟩) hext (fun _ _ => rfl), (hR.rows id r ho).2⟩
      · rw [hend, hendb]
        exact ⟨.inl ⟨rfl, rfl, .inl ⟨rfl, rfl⟩⟩, fun b hb => absurd hb List.not_mem_nil⟩
    · rcases old_or_new hi with ⟨hlt, ho⟩ | ⟨rfl, rfl⟩
      · rcases old_or_new hj with ⟨hlt', ho'⟩ | ⟨rfl, rfl⟩
        · rw [hnew i hlt] at hb
          rw [hnew j hlt']
          exact hR.apart i j r r' ho ho' hij b hb
        · rw [hend]
          exact List.not_mem_nil
      · rw [hend] at hb
        exact absurd hb List.not_mem_nil
    · rcases old_or_new hr with ⟨hlt, ho⟩ | ⟨rfl, rfl⟩
      · rw [hnew id hlt]
        exact (hR.free b hb).2 id r ho
      · rw [hend]
        exact List.not_mem_nil) (by
    rw [hS]
    obtain ⟨us, rfl, hl, hu⟩ := inv_agg hc
    refine .agg _ _ (by rw [List.length_set]; exact hl) fun i c v hi hv => ?_
    by_cases e : j = i
    · subst e
      have hlt := (List.getElem?_eq_some_iff.1 hj).1
      rw [List.getElem?_set_self hlt] at hi
      cases hi
      have e2 := inv_nils (hu j _ _ hj hv)
      subst e2
      exact .row0 ⟨sz, 0, g, .arr⟩ (by rw [List.getElem?_append_right (Nat.le_refl _), Nat.sub_self]; rfl) rfl (by rw [hendb]) none
    · rw [List.getElem?_set_ne e] at hi
      exact (hu i c v hi hv).mono (fun b hb => ⟨hb, rfl⟩) hext) (he.trans hext)
  refine ⟨r', H2, b2, F2, q1, q2, q3, q4, fun b hb => ?_⟩
  obtain ⟨id, r, hr, hm⟩ := q5 b hb
  rcases old_or_new hr with ⟨hlt, ho⟩ | ⟨rfl, _⟩
  · rw [hnew id hlt] at hm
    exact ⟨id, r, ho, hm⟩
  · rw [hend] at hm
    exact absurd hm List.not_mem_nil⟩
end Go.Proofs.Ytgjihfinbaopcaa
