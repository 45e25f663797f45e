/- Texts for VWithOwnP. -/
import Derived.Test.YtfaadafgbhmlfaaVw19
import Derived.Test.YtfaadafgbhmlfaaVw21
namespace Go.Proofs.Ytfaadafgbhmlfaa
open Go Go.RowKit
set_option linter.unusedVariables false
set_option linter.unusedSimpArgs false
section
open Go Go.RowKit Go.Shelf
def byL (s : ByteArray) : List UInt8 := s.data.toList
theorem conc_at {w W : World} {S : Nat → Prop} {av : List AV} {us : List Value} (hS : ∀ b, S b → b < w.heap.size) (hB : Below w.heap.size w W) (hc : ConcL w S (fun _ => ⟨0, 0⟩) [] av us) : ConcL W S (fun _ => ⟨0, 0⟩) [] av us :=
  ⟨hc.1, fun j c u hj hu => (hc.2 j c u hj hu).mono (fun b hb => ⟨hb, hB.block b (hS b hb)⟩) (HExt.refl _ _)⟩
theorem Ret.atS {g : FuncId} {av : List AV} {s : ByteArray} (h : Ret env.P g av (fun r => r = .s s)) {w : World} {S : Nat → Prop} {us : List Value} (hS : SIn w S) (hc : ConcL w S (fun _ => ⟨0, 0⟩) [] av us) (W : World) (hB : Below w.heap.size w W) :
    Calls Try.prog g us.toArray W fun e W' => e = .returned (.string s) ∧ Below W.heap.size W W' :=
  (h.h W S us (hS.below hB (Nat.le_refl _)) (conc_at hS.lt hB hc)).mono fun e W' ⟨r, u, he, hr, hu, hb⟩ => by
    subst hr
    cases hu
    exact ⟨he, hb⟩
theorem Ret.atB {g : FuncId} {av : List AV} {z : Bool} (h : Ret env.P g av (fun r => r = .b z)) {w : World} {S : Nat → Prop} {us : List Value} (hS : SIn w S) (hc : ConcL w S (fun _ => ⟨0, 0⟩) [] av us) (W : World) (hB : Below w.heap.size w W) :
    Calls Try.prog g us.toArray W fun e W' => e = .returned (.bool z) ∧ Below W.heap.size W W' :=
  (h.h W S us (hS.below hB (Nat.le_refl _)) (conc_at hS.lt hB hc)).mono fun e W' ⟨r, u, he, hr, hu, hb⟩ => by
    subst hr
    cases hu
    exact ⟨he, hb⟩
theorem ConcL.ofF {w : World} {S : Nat → Prop} {av : List AV} {us : List Value} (hc : ConcL w (fun _ => False) (fun _ => ⟨0, 0⟩) [] av us) : ConcL w S (fun _ => ⟨0, 0⟩) [] av us := ⟨hc.1, fun j c u hj hu => (hc.2 j c u hj hu).mono (fun b hb => hb.elim) (HExt.refl _ _)⟩
theorem concL_nil {w : World} {S : Nat → Prop} : ConcL w S (fun _ => ⟨0, 0⟩) [] [] [] := ⟨rfl, fun j c u hj _ => by simp at hj⟩
theorem ConcL.cons1 {w : World} {S : Nat → Prop} {x : AV} {u : Value} {av : List AV} {us : List Value} (h : Conc w S (fun _ => ⟨0, 0⟩) [] x u) (hr : ConcL w S (fun _ => ⟨0, 0⟩) [] av us) : ConcL w S (fun _ => ⟨0, 0⟩) [] (x :: av) (u :: us) := ⟨by rw [List.length_cons, List.length_cons, hr.1], fun j c v hj hv => by
  cases j with
  | zero => cases hj; cases hv; exact h
  | succ j => exact hr.2 j c v hj hv⟩
theorem fm_lenU {α : Type} {f : α → List UInt8} {k : Nat} : ∀ {l : List α}, (∀ x ∈ l, (f x).length ≤ k) → (l.flatMap f).length ≤ l.length * k
  | [], _ => by simp
  | a :: l, h => by
    have h1 := h a (List.mem_cons_self ..)
    have h2 := fm_lenU (l := l) fun x hx => h x (List.mem_cons_of_mem _ hx)
    rw [List.flatMap_cons, List.length_append, List.length_cons, Nat.add_mul]
    omega
theorem range_fm {α β : Type} [Inhabited α] {g : α → List β} : ∀ (l : List α), (List.range l.length).flatMap (fun k => g (l.getD k default)) = l.flatMap g
  | [] => rfl
  | a :: l => by
    rw [List.length_cons, List.range_succ_eq_map, List.flatMap_cons, List.flatMap_cons, List.flatMap_map]
    congr 1
    exact range_fm l
end
end Go.Proofs.Ytfaadafgbhmlfaa
