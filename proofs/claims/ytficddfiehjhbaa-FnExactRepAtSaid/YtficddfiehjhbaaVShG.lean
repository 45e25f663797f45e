/-
  Shelves that are read: the functions that ask a shelf, the reference's.
-/
import Derived.Test.YtficddfiehjhbaaVShE
import Derived.Test.YtficddfiehjhbaaVShN
namespace Go.Proofs.Ytficddfiehjhbaa
open Go Go.RowKit
set_option linter.unusedVariables false
set_option linter.unusedSimpArgs false

theorem bif_st {p : Prop} {α : Type} {a b : α} (h : p) : (bif pb p then a else b) = a := by rw [pb_t.mpr h]; rfl
theorem bif_sf {p : Prop} {α : Type} {a b : α} (h : ¬ p) : (bif pb p then a else b) = b := by rw [pb_f.mpr h]; rfl

set_option maxRecDepth 8000 in
theorem entryAt_spec (s : Shelf) (h : s.ok) (who num : Int) : Ret env.P 45 [.agg s.cs, .i .i64 who, .i .i64 num] (fun r => r = entR (bif pb s.sGood then s.at_ who num else none)) := by
  refine ret_of (nt := 16) (rvs := [.cell 6 83, .tmp 7]) Try.func45 rfl rfl rfl rfl (fun X => ?_)
  repeat' (first | omega | (with_reducible show (_ : Int) < _; dsimp only; omega) | ((conv => whnf) <;> (first | (refine .inl ⟨_, Ret.wk (by repeat (first | exact WkL.nil | refine WkL.cons ?_ ?_ | exact Wk.refl _ | exact Wk.rfc rfl | refine Wk.fn ?_)) (l19At_ok s h who num), ?_⟩; rintro _ rfl; cases hE : s.at_ who num) | refine And.intro ?_ ?_ | (intro _h; first | contradiction | (try simp only [decide_eq_true_eq, Bool.not_eq_true', Bool.not_eq_false', decide_eq_false_iff_not, Bool.not_eq_true, Decidable.not_not, Bool.true_eq_false, Bool.false_eq_true, pb_t, pb_f] at _h)) | exact rfl | exact True.intro | (refine dok ?_; kernel_rfl) | (refine doks ?_; kernel_rfl) | ((first | refine .inl ⟨_, Ret.wk (by repeat (first | exact WkL.nil | refine WkL.cons ?_ ?_ | exact Wk.refl _ | exact Wk.rfc rfl | refine Wk.fn ?_)) (l19Ok_ok s h), ?_⟩ | refine ⟨_, Ret.wk (by repeat (first | exact WkL.nil | refine WkL.cons ?_ ?_ | exact Wk.refl _ | exact Wk.rfc rfl | refine Wk.fn ?_)) (l19Ok_ok s h), ?_⟩); (try rintro _ rfl)) | (refine wrap_succ ?_; omega))))
  all_goals first
    | (rw [bif_sf ‹_›]; rfl)
    | (rw [bif_st (Classical.not_not.1 ‹_›)]; rfl)

set_option maxRecDepth 8000 in
theorem l19Owner_ok (s : Shelf) (h : s.ok) (id : Int) : Ret env.P 121 [rfL s.cs, .i .i64 id] (fun r => r = ownR (s.ownV id)) := by
  have hl : s.tables.length ≤ 1048576 := h.1.1
  refine ret_of (nt := 54) (rvs := [.tmp 4, .tmp 5, .tmp 6]) Try.func121 rfl rfl rfl rfl (fun X => ?_)
  repeat' (first | omega | (with_reducible show (_ : Int) < _; dsimp only; omega) | ((conv => whnf) <;> (first | refine loopAt 7 s.tables.length (fun i => [(7, .i .i64 i)]) (fun i => []) (fun i => s.UpW id i 0) rfl ⟨s.upW_zero id, ?_⟩ | (rename_i i _ _; have he : (s.tables.getD (i : Int).toNat default).entries.length ≤ 1048576 := (h.1.2 i (by omega)).1; refine loopAt 8 (s.tables.getD (i : Int).toNat default).entries.length (fun k => [(8, .i .i64 k)]) (fun k => []) (fun k => s.UpW id i k) rfl ⟨by assumption, ?_⟩) | refine And.intro ?_ ?_ | (intro _h; first | contradiction | (try simp only [decide_eq_true_eq, Bool.not_eq_true', Bool.not_eq_false', decide_eq_false_iff_not, Bool.not_eq_true, Decidable.not_not, Bool.true_eq_false, Bool.false_eq_true, pb_t, pb_f] at _h)) | exact rfl | exact True.intro | (refine dok ?_; kernel_rfl) | (refine doks ?_; kernel_rfl) | (refine wrap_succ ?_; omega))))
  all_goals (try simp only [Int.toNat_natCast] at *)
  all_goals first
    | exact Shelf.upW_next ‹s.UpW id _ _› (by omega)
    | (refine Shelf.upW_succ ‹s.UpW id _ _› ?_; simp_all; done)
    | (rw [ownV_none ‹_› ‹_›]; rfl)
    | (rw [ownV_some ‹s.UpW id _ _› ‹_› ‹_› ‹_› ‹_›]; rfl)
    | trace_state

set_option maxRecDepth 8000 in
theorem ownerOf_spec (s : Shelf) (h : s.ok) (id : Int) : Ret env.P 48 [.agg s.cs, .i .i64 id] (fun r => r = ownR (bif pb s.sGood then s.ownV id else (0, 0, false))) := by
  refine ret_of (nt := 14) (rvs := [.tmp 4, .tmp 5, .tmp 6]) Try.func48 rfl rfl rfl rfl (fun X => ?_)
  repeat' (first | omega | (with_reducible show (_ : Int) < _; dsimp only; omega) | ((conv => whnf) <;> (first | refine And.intro ?_ ?_ | (intro _h; first | contradiction | (try simp only [decide_eq_true_eq, Bool.not_eq_true', Bool.not_eq_false', decide_eq_false_iff_not, Bool.not_eq_true, Decidable.not_not, Bool.true_eq_false, Bool.false_eq_true, pb_t, pb_f] at _h)) | exact rfl | exact True.intro | (refine dok ?_; kernel_rfl) | (refine doks ?_; kernel_rfl) | ((first | refine .inl ⟨_, Ret.wk (by repeat (first | exact WkL.nil | refine WkL.cons ?_ ?_ | exact Wk.refl _ | exact Wk.rfc rfl | refine Wk.fn ?_)) (l19Ok_ok s h), ?_⟩ | refine ⟨_, Ret.wk (by repeat (first | exact WkL.nil | refine WkL.cons ?_ ?_ | exact Wk.refl _ | exact Wk.rfc rfl | refine Wk.fn ?_)) (l19Ok_ok s h), ?_⟩); (try rintro _ rfl)) | ((first | refine .inl ⟨_, Ret.wk (by repeat (first | exact WkL.nil | refine WkL.cons ?_ ?_ | exact Wk.refl _ | exact Wk.rfc rfl | refine Wk.fn ?_)) (l19Owner_ok s h _), ?_⟩ | refine ⟨_, Ret.wk (by repeat (first | exact WkL.nil | refine WkL.cons ?_ ?_ | exact Wk.refl _ | exact Wk.rfc rfl | refine Wk.fn ?_)) (l19Owner_ok s h _), ?_⟩); (try rintro _ rfl)) | (refine wrap_succ ?_; omega))))
  all_goals first
    | (rw [bif_sf ‹_›]; rfl)
    | (rw [bif_st (Classical.not_not.1 ‹_›)]; rfl)

set_option maxRecDepth 8000 in
theorem l19Borrows_ok (s : Shelf) (h : s.ok) (sc : Int) : Ret env.P 123 [rfL s.cs, .i .i64 sc] (fun r => r = .i .i64 (boF sc s.all)) := by
  have hl : s.tables.length ≤ 1048576 := h.1.1
  refine ret_of (nt := 54) (rvs := [.tmp 4]) Try.func123 rfl rfl rfl rfl (fun X => ?_)
  repeat' (first | omega | (with_reducible show (_ : Int) < _; dsimp only; omega) | ((conv => whnf) <;> (first | refine loopAt 6 s.tables.length (fun i => [(6, .i .i64 i), (5, .i .i64 (boF sc (s.upTo i 0)))]) (fun i => []) (fun _ => True) rfl ⟨trivial, ?_⟩ | (rename_i i _ _; have he : (s.tables.getD (i : Int).toNat default).entries.length ≤ 1048576 := (h.1.2 i (by omega)).1; refine loopAt 7 (s.tables.getD (i : Int).toNat default).entries.length (fun k => [(7, .i .i64 k), (5, .i .i64 (boF sc (s.upTo i k)))]) (fun k => []) (fun _ => True) rfl ⟨trivial, ?_⟩) | refine And.intro ?_ ?_ | (intro _h; first | contradiction | (try simp only [decide_eq_true_eq, Bool.not_eq_true', Bool.not_eq_false', decide_eq_false_iff_not, Bool.not_eq_true, Decidable.not_not, Bool.true_eq_false, Bool.false_eq_true, pb_t, pb_f] at _h)) | exact rfl | exact True.intro | (refine dok ?_; kernel_rfl) | (refine doks ?_; kernel_rfl) | (refine wrap_succ ?_; omega))))
  all_goals (first | (conv => whnf) | skip)
  all_goals (try simp only [Int.toNat_natCast] at *)
  all_goals first
    | exact bo_hit (by omega) ‹_› ‹_›
    | exact bo_miss (by omega) ‹_›
    | exact bo_own (by omega) (by simpa using _h)
    | exact congrArg _ (upTo_ends (by omega) (by omega) (by omega))
    | exact leaf_i (congrArg _ (upTo_all (by omega) (by omega)))

set_option maxRecDepth 8000 in
theorem borrowsIn_spec (s : Shelf) (h : s.ok) (sc : Int) : Ret env.P 50 [.agg s.cs, .i .i64 sc] (fun r => r = .i .i64 (bif pb s.sGood then boF sc s.all else 0)) := by
  refine ret_of (nt := 9) (rvs := [.tmp 4]) Try.func50 rfl rfl rfl rfl (fun X => ?_)
  repeat' (first | omega | (with_reducible show (_ : Int) < _; dsimp only; omega) | ((conv => whnf) <;> (first | refine And.intro ?_ ?_ | (intro _h; first | contradiction | (try simp only [decide_eq_true_eq, Bool.not_eq_true', Bool.not_eq_false', decide_eq_false_iff_not, Bool.not_eq_true, Decidable.not_not, Bool.true_eq_false, Bool.false_eq_true, pb_t, pb_f] at _h)) | exact rfl | exact True.intro | (refine dok ?_; kernel_rfl) | (refine doks ?_; kernel_rfl) | ((first | refine .inl ⟨_, Ret.wk (by repeat (first | exact WkL.nil | refine WkL.cons ?_ ?_ | exact Wk.refl _ | exact Wk.rfc rfl | refine Wk.fn ?_)) (l19Ok_ok s h), ?_⟩ | refine ⟨_, Ret.wk (by repeat (first | exact WkL.nil | refine WkL.cons ?_ ?_ | exact Wk.refl _ | exact Wk.rfc rfl | refine Wk.fn ?_)) (l19Ok_ok s h), ?_⟩); (try rintro _ rfl)) | ((first | refine .inl ⟨_, Ret.wk (by repeat (first | exact WkL.nil | refine WkL.cons ?_ ?_ | exact Wk.refl _ | exact Wk.rfc rfl | refine Wk.fn ?_)) (l19Borrows_ok s h _), ?_⟩ | refine ⟨_, Ret.wk (by repeat (first | exact WkL.nil | refine WkL.cons ?_ ?_ | exact Wk.refl _ | exact Wk.rfc rfl | refine Wk.fn ?_)) (l19Borrows_ok s h _), ?_⟩); (try rintro _ rfl)) | (refine wrap_succ ?_; omega))))
  all_goals first
    | (rw [bif_sf ‹_›]; rfl)
    | (rw [bif_st (Classical.not_not.1 ‹_›)]; rfl)

set_option maxRecDepth 8000 in
theorem l19Who_ok (s : Shelf) (h : s.ok) (who : Int) : Ret env.P 195 [rfL s.cs, .i .i64 who] (fun r => r = .b (decide (0 ≤ who ∧ who < (s.tables.length : Int)))) := by
  have hl : s.tables.length ≤ 1048576 := h.1.1
  refine ret_of (nt := 13) (rvs := [.tmp 4]) Try.func195 rfl rfl rfl rfl (fun X => ?_)
  repeat' (first | omega | (with_reducible show (_ : Int) < _; dsimp only; omega) | ((conv => whnf) <;> (first | refine And.intro ?_ ?_ | (intro _h; first | contradiction | (try simp only [decide_eq_true_eq, Bool.not_eq_true', Bool.not_eq_false', decide_eq_false_iff_not, Bool.not_eq_true, Decidable.not_not, Bool.true_eq_false, Bool.false_eq_true, pb_t, pb_f] at _h)) | exact rfl | exact True.intro | (refine dok ?_; kernel_rfl) | (refine doks ?_; kernel_rfl) | ((first | refine .inl ⟨_, l00In_ok _ _ _, ?_⟩ | refine ⟨_, l00In_ok _ _ _, ?_⟩); (try rintro _ rfl); (try rw [wrap_in (by omega) (by omega)])) | (refine wrap_succ ?_; omega))))
  all_goals (refine leaf_b ?_; rw [decide_eq_decide]; omega)

set_option maxRecDepth 8000 in
theorem l19Asks_ok (s : Shelf) (h : s.ok) (who num res : Int) : Ret env.P 126 [rfL s.cs, .i .i64 who, .i .i64 num, .i .i64 res] (fun r => r = .b (pb (s.sGood ∧ (0 ≤ who ∧ who < (s.tables.length : Int)) ∧ (1 ≤ num ∧ num ≤ 1000000) ∧ (1 ≤ res ∧ res ≤ 8)))) := by
  refine ret_of (nt := 24) (rvs := [.tmp 8]) Try.func126 rfl rfl rfl rfl (fun X => ?_)
  repeat' (first | omega | (with_reducible show (_ : Int) < _; dsimp only; omega) | ((conv => whnf) <;> (first | refine And.intro ?_ ?_ | (intro _h; first | contradiction | (try simp only [decide_eq_true_eq, Bool.not_eq_true', Bool.not_eq_false', decide_eq_false_iff_not, Bool.not_eq_true, Decidable.not_not, Bool.true_eq_false, Bool.false_eq_true, pb_t, pb_f] at _h)) | exact rfl | exact True.intro | (refine dok ?_; kernel_rfl) | (refine doks ?_; kernel_rfl) | ((first | refine .inl ⟨_, l19Ok_ok s h, ?_⟩ | refine ⟨_, l19Ok_ok s h, ?_⟩); (try rintro _ rfl)) | ((first | refine .inl ⟨_, l19Who_ok s h _, ?_⟩ | refine ⟨_, l19Who_ok s h _, ?_⟩); (try rintro _ rfl)) | ((first | refine .inl ⟨_, l00In_ok _ _ _, ?_⟩ | refine ⟨_, l00In_ok _ _ _, ?_⟩); (try rintro _ rfl)) | (refine wrap_succ ?_; omega))))
  all_goals (first | refine leaf_f ?_ | refine leaf_t ?_ | refine leaf_p ?_ | (conv => whnf) | skip)
  all_goals first
    | (rw [decide_eq_true_eq]; exact ⟨fun q => ⟨‹_›, ‹_›, ‹_›, q⟩, fun q => q.2.2.2⟩)
    | exact fun q => ‹¬ s.sGood› q.1
    | exact fun q => ‹¬ (0 ≤ who ∧ who < (s.tables.length : Int))› q.2.1
    | exact fun q => ‹¬ (1 ≤ num ∧ num ≤ 1000000)› q.2.2.1
    | trace_state

/-- An entry that refers to a thing of a type, and a code. -/
def findR (o : Option Entry) : AV := match o with
  | some e => .tup [.agg e.cs, .i .i64 0]
  | none => .tup [.agg (Entry.cs ⟨0, 0, false, 0, 0, 0, 0⟩), .i .i64 11]

set_option maxRecDepth 8000 in
theorem l19Find_ok (s : Shelf) (h : s.ok) (hg : s.good) (who num res : Int) : Ret env.P 127 [rfL s.cs, .i .i64 who, .i .i64 num, .i .i64 res] (fun r => r = findR (s.typ who num res)) := by
  refine ret_of (nt := 38) (rvs := [.cell 8 83, .tmp 9]) Try.func127 rfl rfl rfl rfl (fun X => ?_)
  repeat' (first | omega | (with_reducible show (_ : Int) < _; dsimp only; omega) | ((conv => whnf) <;> (first | (refine .inl ⟨_, l19At_ok s h who num, ?_⟩; rintro _ rfl; cases hE : s.at_ who num) | ((first | refine .inl ⟨_, l19Thing_ok s h _, ?_⟩ | refine ⟨_, l19Thing_ok s h _, ?_⟩); (try rintro _ rfl); obtain ⟨q, hq, hlt⟩ := thing_some hg hE; rw [hq]; simp only [idxI]) | refine And.intro ?_ ?_ | (intro _h; first | contradiction | (try simp only [decide_eq_true_eq, Bool.not_eq_true', Bool.not_eq_false', decide_eq_false_iff_not, Bool.not_eq_true, Decidable.not_not, Bool.true_eq_false, Bool.false_eq_true, pb_t, pb_f] at _h)) | exact rfl | exact True.intro | (refine dok ?_; kernel_rfl) | (refine doks ?_; kernel_rfl) | (refine wrap_succ ?_; omega))))
  all_goals (try simp only [Int.toNat_natCast] at *)
  all_goals first
    | (rw [typ_none hE]; rfl)
    | (rw [typ_some hE (by rw [thingOf_eq hq]; assumption)]; rfl)
    | (rw [typ_not hE (by rw [thingOf_eq hq]; assumption)]; rfl)

set_option maxRecDepth 8000 in
theorem repAt_spec (s : Shelf) (h : s.ok) (hg : s.good ↔ s.sGood) (who num res : Int) : Ret env.P 52 [.agg s.cs, .i .i64 who, .i .i64 num, .i .i64 res] (fun r => r = twoI (bif pb (s.sGood ∧ (0 ≤ who ∧ who < (s.tables.length : Int)) ∧ (1 ≤ num ∧ num ≤ 1000000) ∧ (1 ≤ res ∧ res ≤ 8)) then s.repV who num res else (0, 1))) := by
  have hq0 : ∀ {B : Prop}, ¬¬ (s.sGood ∧ B) → s.good := fun q => hg.2 (Classical.not_not.1 q).1
  refine ret_of (nt := 35) (rvs := [.tmp 8, .tmp 9]) Try.func52 rfl rfl rfl rfl (fun X => ?_)
  repeat' (first | omega | (with_reducible show (_ : Int) < _; dsimp only; omega) | ((conv => whnf) <;> (first | (refine .inl ⟨_, Ret.wk (by repeat (first | exact WkL.nil | refine WkL.cons ?_ ?_ | exact Wk.refl _ | exact Wk.rfc rfl | refine Wk.fn ?_)) (l19Find_ok s h (hq0 ‹_›) who num res), ?_⟩; rintro _ rfl; cases hE : s.typ who num res) | ((first | refine .inl ⟨_, Ret.wk (by repeat (first | exact WkL.nil | refine WkL.cons ?_ ?_ | exact Wk.refl _ | exact Wk.rfc rfl | refine Wk.fn ?_)) (l19Thing_ok s h _), ?_⟩ | refine ⟨_, Ret.wk (by repeat (first | exact WkL.nil | refine WkL.cons ?_ ?_ | exact Wk.refl _ | exact Wk.rfc rfl | refine Wk.fn ?_)) (l19Thing_ok s h _), ?_⟩); (try rintro _ rfl); obtain ⟨q, hq, hlt⟩ := thing_some (hq0 ‹_›) (typ_at hE); rw [hq]; simp only [idxI]) | refine And.intro ?_ ?_ | (intro _h; first | contradiction | (try simp only [decide_eq_true_eq, Bool.not_eq_true', Bool.not_eq_false', decide_eq_false_iff_not, Bool.not_eq_true, Decidable.not_not, Bool.true_eq_false, Bool.false_eq_true, pb_t, pb_f] at _h)) | exact rfl | exact True.intro | (refine dok ?_; kernel_rfl) | (refine doks ?_; kernel_rfl) | ((first | refine .inl ⟨_, Ret.wk (by repeat (first | exact WkL.nil | refine WkL.cons ?_ ?_ | exact Wk.refl _ | exact Wk.rfc rfl | refine Wk.fn ?_)) (l19Asks_ok s h _ _ _), ?_⟩ | refine ⟨_, Ret.wk (by repeat (first | exact WkL.nil | refine WkL.cons ?_ ?_ | exact Wk.refl _ | exact Wk.rfc rfl | refine Wk.fn ?_)) (l19Asks_ok s h _ _ _), ?_⟩); (try rintro _ rfl)) | (refine wrap_succ ?_; omega))))
  all_goals (try simp only [Int.toNat_natCast] at *)
  all_goals first
    | (rw [bif_sf ‹_›]; rfl)
    | (rw [bif_st (Classical.not_not.1 ‹_›), repV_none hE]; rfl)
    | (rw [bif_st (Classical.not_not.1 ‹_›), repV_some hE, thingOf_eq hq]; rfl)
    | trace_state
end Go.Proofs.Ytficddfiehjhbaa
