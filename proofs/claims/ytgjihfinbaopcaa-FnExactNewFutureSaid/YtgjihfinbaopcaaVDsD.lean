/-
  The names of a list are distinct: the contract.
-/
import Derived.Test.YtgjihfinbaopcaaVDsC
import Derived.Test.YtgjihfinbaopcaaVKs0
import Derived.Test.YtgjihfinbaopcaaVX
namespace Go.Proofs.Ytgjihfinbaopcaa
open Go Go.RowKit Go.Shelf
set_option linter.unusedVariables false
set_option linter.unusedSimpArgs false

theorem keeps_all {α : Type} [Inhabited α] [DecidableEq α] {d : Array α} {m : Nat} (h : (Lib.compactUpTo d m).length = m) : ∀ j, j < m → Lib.keeps d j = true := by
  unfold Lib.compactUpTo at h
  rw [List.length_map] at h
  have h2 : ((List.range m).filter (Lib.keeps d)).length = (List.range m).length := by rw [h, List.length_range]
  have h3 := List.length_filter_eq_length_iff.1 h2
  exact fun j hj => h3 j (List.mem_range.2 hj)
theorem dsSort_perm (zs : List (List UInt8)) : (dsSort zs).Perm zs := List.mergeSort_perm _ _
theorem dsSort_le (zs : List (List UInt8)) : (dsSort zs).Pairwise (fun a b => decide (a ≤ b) = true) := by
  refine List.pairwise_mergeSort (fun a b c h1 h2 => ?_) (fun a b => ?_) zs
  · simp only [decide_eq_true_eq] at *
    exact List.le_trans h1 h2
  · simp only [Bool.or_eq_true, decide_eq_true_eq]
    exact List.le_total a b
theorem nodup_keeps {l : List (List UInt8)} (h : l.Nodup) : ∀ j, j < l.length → Lib.keeps l.toArray j = true := by
  intro j hj
  unfold Lib.keeps
  rw [decide_eq_true_iff]
  by_cases h0 : j = 0
  · exact .inl h0
  · refine .inr fun e => ?_
    have hj1 : j - 1 < l.length := by omega
    rw [getElem!_pos l.toArray j (by simpa using hj), getElem!_pos l.toArray (j - 1) (by simpa using hj1), List.getElem_toArray, List.getElem_toArray] at e
    exact List.pairwise_iff_getElem.1 h (j - 1) j hj1 hj (by omega) e.symm
theorem keeps_nodup : ∀ {l : List (List UInt8)}, l.Pairwise (fun a b => decide (a ≤ b) = true) → (∀ j, j < l.length → Lib.keeps l.toArray j = true) → l.Nodup := by
  intro l hs hk
  refine List.pairwise_iff_getElem.2 fun i j hi hj hij e => ?_
  have hk1 := hk (i + 1) (by omega)
  unfold Lib.keeps at hk1
  rw [decide_eq_true_iff] at hk1
  have hi1 : i + 1 < l.length := by omega
  rcases hk1 with h | h
  · omega
  · rw [show i + 1 - 1 = i by omega, getElem!_pos l.toArray (i + 1) (by simpa using hi1), getElem!_pos l.toArray i (by simpa using hi), List.getElem_toArray, List.getElem_toArray] at h
    have hp := List.pairwise_iff_getElem.1 hs
    have h1 := of_decide_eq_true (hp i (i + 1) hi hi1 (by omega))
    have h2 : l[i + 1] ≤ l[j] := by
      rcases Nat.lt_or_ge (i + 1) j with q | q
      · exact of_decide_eq_true (hp (i + 1) j hi1 hj q)
      · have : i + 1 = j := by omega
        subst this
        exact List.le_refl _
    rw [← e] at h2
    exact h (List.le_antisymm h2 h1)
theorem ds_iff (zs : List (List UInt8)) : (Lib.compact (dsSort zs)).length = zs.length ↔ zs.Nodup := by
  have hl : (dsSort zs).length = zs.length := (dsSort_perm zs).length_eq
  constructor
  · intro h
    refine (dsSort_perm zs).nodup_iff.1 (keeps_nodup (dsSort_le zs) (keeps_all ?_))
    rw [hl]
    unfold Lib.compact at h
    rw [hl] at h
    exact h
  · intro h
    rw [Lib.compact_all _ (nodup_keeps ((dsSort_perm zs).nodup_iff.2 h)), hl]
/-- A string's bytes. -/
def byL (s : ByteArray) : List UInt8 := s.data.toList
theorem byL_inj {s t : ByteArray} (h : byL s = byL t) : s = t := ByteArray.ext (Array.ext' h)
theorem byL_enc (s : ByteArray) : encStr (byL s) = .string s := rfl
theorem byL_nodup (l : List ByteArray) : (l.map byL).Nodup ↔ l.Nodup := by
  refine ⟨fun h => List.Pairwise.of_map byL (fun a b hab e => hab (congrArg byL e)) h, fun h => ?_⟩
  exact List.Pairwise.map byL (fun a b hab e => hab (byL_inj e)) h
/-- A slice of strings, as the kit speaks of it. -/
theorem dsStr_of {w : World} {S : Nat → Prop} {l : List ByteArray} {u : Value} (hS : ∀ b, S b → b < w.heap.size) (h : Conc w S (fun _ => ⟨0, 0⟩) [] (slL 1 strC l) u) :
    ∃ a cap, u = .slice a (l.map byL).length cap ∧ DsStr w.heap.size w (.slice a (l.map byL).length cap) (l.map byL) := by
  rw [List.length_map]
  rcases Nat.eq_zero_or_pos l.length with h0 | h0
  · obtain ⟨a, cap, rfl, _⟩ := sl_form h
    have hl : l = [] := List.eq_nil_of_length_eq_zero h0
    subst hl
    exact ⟨a, cap, rfl, .inl ⟨a, cap, rfl, rfl⟩⟩
  · obtain ⟨b, o, cap, U, rfl, hb, _, _, hc, hu, _⟩ := inv_sl h h0
    refine ⟨_, cap, rfl, .inr ⟨b, o, cap, by rw [List.length_map], hS b hb, fun j hj => ?_⟩⟩
    rw [List.length_map] at hj
    have h1 := hc j 0 hj Nat.zero_lt_one
    have h2 := inv_s (hu j 0 hj Nat.zero_lt_one)
    rw [show o + j * 1 + 0 = o + j by omega] at h1
    rw [h1, h2.1]
    show some (Value.string (l.getD j default)) = some (encStr (((l.map byL)[j]?).getD []))
    rw [List.getElem?_map, List.getD_eq_getElem?_getD, List.getElem?_eq_getElem hj]
    rfl
theorem distinct_impl (l : List ByteArray) (hl : l.length ≤ 1048576) : Ret env.P 66 [slL 1 strC l] (fun r => r = .b (decide l.Nodup)) := .mk fun w S us hS hc => by
  obtain ⟨u, rfl, h0⟩ := concL_1 hc
  obtain ⟨a, cap, rfl, hI⟩ := dsStr_of hS.lt h0
  have hk : (l.map byL).length ≤ 1048576 := by rw [List.length_map]; exact hl
  refine (ds_distinct a cap (l.map byL) (Nat.le_trans hk (by decide)) (Nat.le_trans (Nat.mul_le_mul_right 16 hk) (by decide)) w hI).mono fun e w' ⟨he, hb⟩ => ⟨.b (decide l.Nodup), _, he, rfl, ?_, hb⟩
  rw [show decide ((Lib.compact (dsSort (l.map byL))).length = (l.map byL).length) = decide l.Nodup from decide_eq_decide.2 ((ds_iff _).trans (byL_nodup l))]
  exact .b _
end Go.Proofs.Ytgjihfinbaopcaa
