/- Texts for VWithOwnP. -/
import Derived.Test.YtfaadafgbhmlfaaVw41
namespace Go.Proofs.Ytfaadafgbhmlfaa
open Go Go.RowKit
set_option linter.unusedVariables false
set_option linter.unusedSimpArgs false
section
open Go Go.RowKit Go.Shelf
attribute [local irreducible] gbB secG okSec
theorem woL_len {l : List Section} {at' : Int} {x : Section} : (woL l at' x).length = l.length + 1 := by unfold woL; simp; omega
theorem woL_mem {l : List Section} {at' : Int} {x y : Section} (h : y ∈ woL l at' x) : y = x ∨ y ∈ l := by
  unfold woL at h
  rcases List.mem_append.1 h with h | h
  · rcases List.mem_append.1 h with h | h
    · exact .inr (List.mem_of_mem_take h)
    · exact .inl (List.mem_singleton.1 h)
  · exact .inr (List.mem_of_mem_drop h)
theorem flatMap_ge {α : Type} {f : α → List Nat} {x : α} : ∀ {l : List α}, x ∈ l → (f x).length ≤ (l.flatMap f).length
  | y :: l, h => by
    rw [List.flatMap_cons, List.length_append]
    rcases List.mem_cons.1 h with rfl | h
    · omega
    · have := flatMap_ge (f := f) h
      omega
theorem by_ge (nm bs : ByteArray) : bs.size ≤ (Section.by ⟨0, nm, bs⟩).length := by
  unfold Section.by
  rw [if_pos rfl, List.length_cons]
  unfold putN
  rw [List.length_append, List.length_append]
  have h : (bsN bs).length = bs.size := by unfold bsN; simp
  show bs.size ≤ (lebL _).length + ((putB nm).length + (bsN bs).length) + 1
  omega
theorem allN_ge {l : List Section} {at' : Int} {nm bs : ByteArray} : bs.size ≤ (allN (woL l at' ⟨0, nm, bs⟩) (woL l at' ⟨0, nm, bs⟩).length).length := by
  have h : (⟨0, nm, bs⟩ : Section) ∈ woL l at' ⟨0, nm, bs⟩ := by unfold woL; simp
  have h1 := flatMap_ge (f := Section.by) h
  have h2 := by_ge nm bs
  unfold allN
  rw [List.take_length, List.length_append]
  omega
theorem allN_ne {l : List Section} {k : Nat} : ¬ baN (allN l k) = ⟨#[]⟩ := fun h => by
  have h1 := baN_size (allN l k)
  rw [h] at h1
  unfold allN at h1
  rw [List.length_append] at h1
  have : (0 : Nat) = _ := h1
  have h5 : headN.length = 5 := rfl
  omega
theorem wo_fin {s nm bs : ByteArray} {at' : Int} (h0 : soC s = 0) (h1 : 0 ≤ at' ∧ at' ≤ (soL s).length) (h2 : owB nm) :
    (sbB (woL (soL s) at' ⟨0, nm, bs⟩) = ⟨#[]⟩ ∧ woR s at' nm bs = (⟨#[]⟩, 4)) ∨ (¬ sbB (woL (soL s) at' ⟨0, nm, bs⟩) = ⟨#[]⟩ ∧ woR s at' nm bs = (sbB (woL (soL s) at' ⟨0, nm, bs⟩), 0)) := by
  by_cases q : 20 ≤ (soL s).length ∨ 30000 < bs.size ∨ 30000 < (allN (woL (soL s) at' ⟨0, nm, bs⟩) (woL (soL s) at' ⟨0, nm, bs⟩).length).length
  · refine .inl ⟨?_, wo_4 h0 h1 h2 q⟩
    unfold sbB
    by_cases h20 : (woL (soL s) at' ⟨0, nm, bs⟩).length ≤ 20
    · rw [if_pos h20]
      rw [woL_len] at h20
      have h3 : 30000 < (allN (woL (soL s) at' ⟨0, nm, bs⟩) (woL (soL s) at' ⟨0, nm, bs⟩).length).length := by
        have := allN_ge (l := soL s) (at' := at') (nm := nm) (bs := bs)
        omega
      unfold allB
      rw [pb_f.mpr (by omega)]
      rfl
    · rw [if_neg h20]
  · have e : sbB (woL (soL s) at' ⟨0, nm, bs⟩) = baN (allN (woL (soL s) at' ⟨0, nm, bs⟩) (woL (soL s) at' ⟨0, nm, bs⟩).length) := by
      unfold sbB
      rw [if_pos (by rw [woL_len]; omega)]
      unfold allB
      rw [pb_t.mpr (by omega)]
      rfl
    refine .inr ⟨?_, ?_⟩
    · rw [e]; exact allN_ne
    · rw [e]; exact wo_0 h0 h1 h2 q
end
end Go.Proofs.Ytfaadafgbhmlfaa
