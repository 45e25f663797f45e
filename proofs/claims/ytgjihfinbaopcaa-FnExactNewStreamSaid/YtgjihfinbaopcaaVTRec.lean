/-
  Arguments of recursive types: what is read, by induction on the datum's description.
-/
import Derived.Test.YtgjihfinbaopcaaVU
namespace Go.Proofs.Ytgjihfinbaopcaa
open Go Go.RowKit
set_option linter.unusedVariables false
set_option linter.unusedSimpArgs false

/-- Fields one behind the other, of each of which Q holds. -/
inductive HF (Q : TypeId → List AV → Prop) : List TypeId → List AV → Prop
  | nil : HF Q [] []
  | cons {t : TypeId} {ts : List TypeId} {a b : List AV} (h : Q t a) (r : HF Q ts b) : HF Q (t :: ts) (a ++ b)
theorem HF.nil_inv {Q : TypeId → List AV → Prop} {ds : List AV} (h : HF Q [] ds) : ds = [] := by cases h; rfl
theorem HF.cons_inv {Q : TypeId → List AV → Prop} {t : TypeId} {ts : List TypeId} {ds : List AV} (h : HF Q (t :: ts) ds) : ∃ a b, ds = a ++ b ∧ Q t a ∧ HF Q ts b := by
  cases h with | cons h r => exact ⟨_, _, rfl, h, r⟩
theorem hf_of {P : Program} {Q : TypeId → List AV → Prop} {n : Nat} {ds : List AV} (hl : ds.length = n) : ∀ (o : Nat) (fs : List Field), inLine P o fs n = true → (∀ f ∈ fs, Q f.type ((ds.drop f.offset).take (P.cellsOf f.type))) → HF Q (fs.map (·.type)) (ds.drop o)
  | o, [], hi, _ => by
    have : o = n := Nat.eq_of_beq_eq_true hi
    rw [List.drop_of_length_le (by omega)]
    exact .nil
  | o, f :: fs, hi, h => by
    unfold inLine at hi
    rw [Bool.and_eq_true] at hi
    have ho : f.offset = o := Nat.eq_of_beq_eq_true hi.1
    have := hf_of hl (o + P.cellsOf f.type) fs hi.2 (fun g hg => h g (by simp [hg]))
    have h1 := h f (by simp)
    rw [ho] at h1
    rw [show ds.drop o = (ds.drop o).take (P.cellsOf f.type) ++ ds.drop (o + P.cellsOf f.type) by rw [← List.drop_drop, List.take_append_drop]]
    exact .cons h1 this
theorem rd_rec {P : Program} {q qs : TypeId} {fs : Array Field} {ts : List TypeId} {sz : Nat} (hq : P.underlying q = some (.struct fs)) (hqs : P.underlying qs = some (.slice q)) (hsz : P.cellsOf q = sz) (hi : inLine P 0 fs.toList (P.cellsOf q) = true) (hts : fs.toList.map (·.type) = ts)
    (good goodS : List AV → Prop) (h1 : ∀ n g, (∀ i, i < n → good (cellsAt (g i) 0 sz)) → goodS [.sl sz n g])
    (h2 : ∀ ds, HF (fun t cs => TyC P t cs ∧ (t = qs → goodS cs)) ts ds → good ds) {t : TypeId} {cs : List AV} (h : TyC P t cs) : (t = q → good cs) ∧ (t = qs → goodS cs) := by
  subst hsz hts
  induction h with
  | bool b h => exact ⟨fun e => (by subst e; rw [hq] at h; cases h), fun e => (by subst e; rw [hqs] at h; cases h)⟩
  | int n h hw => exact ⟨fun e => (by subst e; rw [hq] at h; cases h), fun e => (by subst e; rw [hqs] at h; cases h)⟩
  | string s h hs => exact ⟨fun e => (by subst e; rw [hq] at h; cases h), fun e => (by subst e; rw [hqs] at h; cases h)⟩
  | sl n g h hm he ih =>
    refine ⟨fun e => (by subst e; rw [hq] at h; cases h), fun e => ?_⟩
    subst e
    rw [hqs] at h
    cases h
    exact h1 n g fun i hi => (ih i hi).1 rfl
  | st ds h hl hf ih =>
    refine ⟨fun e => ?_, fun e => (by subst e; rw [hqs] at h; cases h)⟩
    subst e
    rw [hq] at h
    cases h
    refine h2 _ ?_
    have := hf_of (Q := fun t cs => TyC P t cs ∧ (t = qs → goodS cs)) hl 0 fs.toList hi (fun f hm => by
      obtain ⟨i, hi⟩ := List.getElem?_of_mem hm
      have hi' : fs[i]? = some f := by simpa using hi
      exact ⟨hf i f hi', (ih i f hi').2⟩)
    rwa [List.drop_zero] at this
end Go.Proofs.Ytgjihfinbaopcaa
