/-
  Shelves that are read: the functions that ask a shelf, the reference's.
-/
import Derived.Test.YtaiohiincgpomaaVShE
import Derived.Test.YtaiohiincgpomaaVShN
namespace Go.Proofs.Ytaiohiincgpomaa
open Go Go.RowKit
set_option linter.unusedVariables false
set_option linter.unusedSimpArgs false

theorem bif_st {p : Prop} {α : Type} {a b : α} (h : p) : (bif pb p then a else b) = a := by rw [pb_t.mpr h]; rfl
theorem bif_sf {p : Prop} {α : Type} {a b : α} (h : ¬ p) : (bif pb p then a else b) = b := by rw [pb_f.mpr h]; rfl

set_option maxRecDepth 8000 in
theorem entryAt_spec (s : Shelf) (h : s.ok) (who num : Int) : Ret env.P 27 [.agg s.cs, .i .i64 who, .i .i64 num] (fun r => r = entR (bif pb s.sGood then s.at_ who num else none)) := by
  refine ret_of (nt := 16) (rvs := [.cell 6 55, .tmp 7]) Try.func27 rfl rfl rfl rfl (fun X => ?_)
  repeat' (first | omega | (with_reducible show (_ : Int) < _; dsimp only; omega) | (with_reducible show (_ : Nat) ≤ _; dsimp only; omega) | exact srcOk_1 rfl | exact srcOk_L (fun _ => ⟨rfl, rfl⟩) | exact srcOk_E (fun _ => ⟨rfl, rfl⟩) | ((conv => whnf) <;> (first | (refine .inl ⟨_, Ret.wk (by repeat (first | exact WkL.nil | refine WkL.cons ?_ ?_ | exact Wk.refl _ | exact Wk.rfc rfl | refine Wk.fn ?_)) (l19At_ok s h who num), ?_⟩; rintro _ rfl; cases hE : s.at_ who num) | refine And.intro ?_ ?_ | (intro _h; first | contradiction | (try simp only [decide_eq_true_eq, Bool.not_eq_true', Bool.not_eq_false', decide_eq_false_iff_not, Bool.not_eq_true, Decidable.not_not, Bool.true_eq_false, Bool.false_eq_true, pb_t, pb_f] at _h)) | (refine dt_go ?_) | exact rfl | exact True.intro | (refine dok ?_; kernel_rfl) | (refine doks ?_; kernel_rfl) | ((first | refine .inl ⟨_, Ret.wk (by ((repeat (first | exact WkL.nil | refine WkL.cons ?_ ?_ | exact Wk.refl _ | exact Wk.rfc rfl | refine Wk.fn ?_ | exact Wk.nilS0 | exact shr_L (d := 0) (k := 4) rfl | exact shr_L (d := 1) (k := 3) rfl | exact shr_L (d := 2) (k := 2) rfl | exact shr_L (d := 0) (k := 4) (by simp only [markL_len]) | exact shr_L (d := 1) (k := 3) (by simp only [markL_len]) | refine Wk.agg ?_ | exact shr_L (d := 0) (k := 3) rfl | exact shr_L (d := 1) (k := 2) rfl | exact shr_ow (d := 1) (k := 2) | exact shr_ow (d := 0) (k := 3) | refine Wk.rfLo ?_)); first | done | fail)) (l19Ok_ok s h), ?_⟩ | refine ⟨_, Ret.wk (by ((repeat (first | exact WkL.nil | refine WkL.cons ?_ ?_ | exact Wk.refl _ | exact Wk.rfc rfl | refine Wk.fn ?_ | exact Wk.nilS0 | exact shr_L (d := 0) (k := 4) rfl | exact shr_L (d := 1) (k := 3) rfl | exact shr_L (d := 2) (k := 2) rfl | exact shr_L (d := 0) (k := 4) (by simp only [markL_len]) | exact shr_L (d := 1) (k := 3) (by simp only [markL_len]) | refine Wk.agg ?_ | exact shr_L (d := 0) (k := 3) rfl | exact shr_L (d := 1) (k := 2) rfl | exact shr_ow (d := 1) (k := 2) | exact shr_ow (d := 0) (k := 3) | refine Wk.rfLo ?_)); first | done | fail)) (l19Ok_ok s h), ?_⟩); (try rintro _ rfl)) | (refine wrap_succ ?_; omega))))
  all_goals first
    | (rw [bif_sf ‹_›]; rfl)
    | (rw [bif_st (Classical.not_not.1 ‹_›)]; rfl)

set_option maxRecDepth 8000 in
theorem l19Owner_ok (s : Shelf) (h : s.ok) (id : Int) : Ret env.P 52 [rfL s.cs, .i .i64 id] (fun r => r = ownR (s.ownV id)) := by
  have hl : s.tables.length ≤ 1048576 := h.1.1
  refine ret_of (nt := 54) (rvs := [.tmp 4, .tmp 5, .tmp 6]) Try.func52 rfl rfl rfl rfl (fun X => ?_)
  repeat' (first | omega | (with_reducible show (_ : Int) < _; dsimp only; omega) | (with_reducible show (_ : Nat) ≤ _; dsimp only; omega) | exact srcOk_1 rfl | exact srcOk_L (fun _ => ⟨rfl, rfl⟩) | exact srcOk_E (fun _ => ⟨rfl, rfl⟩) | ((conv => whnf) <;> (first | refine loopAt 7 s.tables.length (fun i => [(7, .i .i64 i)]) (fun i => []) (fun i => s.UpW id i 0) rfl ⟨s.upW_zero id, ?_⟩ | (rename_i i _ _; have he : (s.tables.getD (i : Int).toNat default).entries.length ≤ 1048576 := (h.1.2 i (by omega)).1; refine loopAt 8 (s.tables.getD (i : Int).toNat default).entries.length (fun k => [(8, .i .i64 k)]) (fun k => []) (fun k => s.UpW id i k) rfl ⟨by assumption, ?_⟩) | refine And.intro ?_ ?_ | (intro _h; first | contradiction | (try simp only [decide_eq_true_eq, Bool.not_eq_true', Bool.not_eq_false', decide_eq_false_iff_not, Bool.not_eq_true, Decidable.not_not, Bool.true_eq_false, Bool.false_eq_true, pb_t, pb_f] at _h)) | (refine dt_go ?_) | exact rfl | exact True.intro | (refine dok ?_; kernel_rfl) | (refine doks ?_; kernel_rfl) | (refine wrap_succ ?_; omega))))
  all_goals (try simp only [Int.toNat_natCast] at *)
  all_goals first
    | exact Shelf.upW_next ‹s.UpW id _ _› (by omega)
    | (refine Shelf.upW_succ ‹s.UpW id _ _› ?_; simp_all; done)
    | (rw [ownV_none ‹_› ‹_›]; rfl)
    | (rw [ownV_some ‹s.UpW id _ _› ‹_› ‹_› ‹_› ‹_›]; rfl)
    | trace_state

set_option maxRecDepth 8000 in
theorem ownerOf_spec (s : Shelf) (h : s.ok) (id : Int) : Ret env.P 16 [.agg s.cs, .i .i64 id] (fun r => r = ownR (bif pb s.sGood then s.ownV id else (0, 0, false))) := by
  refine ret_of (nt := 14) (rvs := [.tmp 4, .tmp 5, .tmp 6]) Try.func16 rfl rfl rfl rfl (fun X => ?_)
  repeat' (first | omega | (with_reducible show (_ : Int) < _; dsimp only; omega) | (with_reducible show (_ : Nat) ≤ _; dsimp only; omega) | exact srcOk_1 rfl | exact srcOk_L (fun _ => ⟨rfl, rfl⟩) | exact srcOk_E (fun _ => ⟨rfl, rfl⟩) | ((conv => whnf) <;> (first | refine And.intro ?_ ?_ | (intro _h; first | contradiction | (try simp only [decide_eq_true_eq, Bool.not_eq_true', Bool.not_eq_false', decide_eq_false_iff_not, Bool.not_eq_true, Decidable.not_not, Bool.true_eq_false, Bool.false_eq_true, pb_t, pb_f] at _h)) | (refine dt_go ?_) | exact rfl | exact True.intro | (refine dok ?_; kernel_rfl) | (refine doks ?_; kernel_rfl) | ((first | refine .inl ⟨_, Ret.wk (by ((repeat (first | exact WkL.nil | refine WkL.cons ?_ ?_ | exact Wk.refl _ | exact Wk.rfc rfl | refine Wk.fn ?_ | exact Wk.nilS0 | exact shr_L (d := 0) (k := 4) rfl | exact shr_L (d := 1) (k := 3) rfl | exact shr_L (d := 2) (k := 2) rfl | exact shr_L (d := 0) (k := 4) (by simp only [markL_len]) | exact shr_L (d := 1) (k := 3) (by simp only [markL_len]) | refine Wk.agg ?_ | exact shr_L (d := 0) (k := 3) rfl | exact shr_L (d := 1) (k := 2) rfl | exact shr_ow (d := 1) (k := 2) | exact shr_ow (d := 0) (k := 3) | refine Wk.rfLo ?_)); first | done | fail)) (l19Ok_ok s h), ?_⟩ | refine ⟨_, Ret.wk (by ((repeat (first | exact WkL.nil | refine WkL.cons ?_ ?_ | exact Wk.refl _ | exact Wk.rfc rfl | refine Wk.fn ?_ | exact Wk.nilS0 | exact shr_L (d := 0) (k := 4) rfl | exact shr_L (d := 1) (k := 3) rfl | exact shr_L (d := 2) (k := 2) rfl | exact shr_L (d := 0) (k := 4) (by simp only [markL_len]) | exact shr_L (d := 1) (k := 3) (by simp only [markL_len]) | refine Wk.agg ?_ | exact shr_L (d := 0) (k := 3) rfl | exact shr_L (d := 1) (k := 2) rfl | exact shr_ow (d := 1) (k := 2) | exact shr_ow (d := 0) (k := 3) | refine Wk.rfLo ?_)); first | done | fail)) (l19Ok_ok s h), ?_⟩); (try rintro _ rfl)) | ((first | refine .inl ⟨_, Ret.wk (by ((repeat (first | exact WkL.nil | refine WkL.cons ?_ ?_ | exact Wk.refl _ | exact Wk.rfc rfl | refine Wk.fn ?_ | exact Wk.nilS0 | exact shr_L (d := 0) (k := 4) rfl | exact shr_L (d := 1) (k := 3) rfl | exact shr_L (d := 2) (k := 2) rfl | exact shr_L (d := 0) (k := 4) (by simp only [markL_len]) | exact shr_L (d := 1) (k := 3) (by simp only [markL_len]) | refine Wk.agg ?_ | exact shr_L (d := 0) (k := 3) rfl | exact shr_L (d := 1) (k := 2) rfl | exact shr_ow (d := 1) (k := 2) | exact shr_ow (d := 0) (k := 3) | refine Wk.rfLo ?_)); first | done | fail)) (l19Owner_ok s h _), ?_⟩ | refine ⟨_, Ret.wk (by ((repeat (first | exact WkL.nil | refine WkL.cons ?_ ?_ | exact Wk.refl _ | exact Wk.rfc rfl | refine Wk.fn ?_ | exact Wk.nilS0 | exact shr_L (d := 0) (k := 4) rfl | exact shr_L (d := 1) (k := 3) rfl | exact shr_L (d := 2) (k := 2) rfl | exact shr_L (d := 0) (k := 4) (by simp only [markL_len]) | exact shr_L (d := 1) (k := 3) (by simp only [markL_len]) | refine Wk.agg ?_ | exact shr_L (d := 0) (k := 3) rfl | exact shr_L (d := 1) (k := 2) rfl | exact shr_ow (d := 1) (k := 2) | exact shr_ow (d := 0) (k := 3) | refine Wk.rfLo ?_)); first | done | fail)) (l19Owner_ok s h _), ?_⟩); (try rintro _ rfl)) | (refine wrap_succ ?_; omega))))
  all_goals first
    | (rw [bif_sf ‹_›]; rfl)
    | (rw [bif_st (Classical.not_not.1 ‹_›)]; rfl)

set_option maxRecDepth 8000 in
theorem l19Who_ok (s : Shelf) (h : s.ok) (who : Int) : Ret env.P 71 [rfL s.cs, .i .i64 who] (fun r => r = .b (decide (0 ≤ who ∧ who < (s.tables.length : Int)))) := by
  have hl : s.tables.length ≤ 1048576 := h.1.1
  refine ret_of (nt := 13) (rvs := [.tmp 4]) Try.func71 rfl rfl rfl rfl (fun X => ?_)
  repeat' (first | omega | (with_reducible show (_ : Int) < _; dsimp only; omega) | (with_reducible show (_ : Nat) ≤ _; dsimp only; omega) | exact srcOk_1 rfl | exact srcOk_L (fun _ => ⟨rfl, rfl⟩) | exact srcOk_E (fun _ => ⟨rfl, rfl⟩) | ((conv => whnf) <;> (first | refine And.intro ?_ ?_ | (intro _h; first | contradiction | (try simp only [decide_eq_true_eq, Bool.not_eq_true', Bool.not_eq_false', decide_eq_false_iff_not, Bool.not_eq_true, Decidable.not_not, Bool.true_eq_false, Bool.false_eq_true, pb_t, pb_f] at _h)) | (refine dt_go ?_) | exact rfl | exact True.intro | (refine dok ?_; kernel_rfl) | (refine doks ?_; kernel_rfl) | ((first | refine .inl ⟨_, l00In_ok _ _ _, ?_⟩ | refine ⟨_, l00In_ok _ _ _, ?_⟩); try rintro _ rfl; try rw [wrap_in (by omega) (by omega)]) | (refine wrap_succ ?_; omega))))
  all_goals (refine leaf_b ?_; rw [decide_eq_decide]; omega)

set_option maxRecDepth 8000 in
theorem l19Asks_ok (s : Shelf) (h : s.ok) (who num res : Int) : Ret env.P 70 [rfL s.cs, .i .i64 who, .i .i64 num, .i .i64 res] (fun r => r = .b (pb (s.sGood ∧ (0 ≤ who ∧ who < (s.tables.length : Int)) ∧ (1 ≤ num ∧ num ≤ 1000000) ∧ (1 ≤ res ∧ res ≤ 8)))) := by
  refine ret_of (nt := 24) (rvs := [.tmp 8]) Try.func70 rfl rfl rfl rfl (fun X => ?_)
  repeat' (first | omega | (with_reducible show (_ : Int) < _; dsimp only; omega) | (with_reducible show (_ : Nat) ≤ _; dsimp only; omega) | exact srcOk_1 rfl | exact srcOk_L (fun _ => ⟨rfl, rfl⟩) | exact srcOk_E (fun _ => ⟨rfl, rfl⟩) | ((conv => whnf) <;> (first | refine And.intro ?_ ?_ | (intro _h; first | contradiction | (try simp only [decide_eq_true_eq, Bool.not_eq_true', Bool.not_eq_false', decide_eq_false_iff_not, Bool.not_eq_true, Decidable.not_not, Bool.true_eq_false, Bool.false_eq_true, pb_t, pb_f] at _h)) | (refine dt_go ?_) | exact rfl | exact True.intro | (refine dok ?_; kernel_rfl) | (refine doks ?_; kernel_rfl) | ((first | refine .inl ⟨_, l19Ok_ok s h, ?_⟩ | refine ⟨_, l19Ok_ok s h, ?_⟩); (try rintro _ rfl)) | ((first | refine .inl ⟨_, l19Who_ok s h _, ?_⟩ | refine ⟨_, l19Who_ok s h _, ?_⟩); (try rintro _ rfl)) | ((first | refine .inl ⟨_, l00In_ok _ _ _, ?_⟩ | refine ⟨_, l00In_ok _ _ _, ?_⟩); (try rintro _ rfl)) | (refine wrap_succ ?_; omega))))
  all_goals (first | refine leaf_f ?_ | refine leaf_t ?_ | refine leaf_p ?_ | (conv => whnf) | skip)
  all_goals first
    | (rw [decide_eq_true_eq]; exact ⟨fun q => ⟨‹_›, ‹_›, ‹_›, q⟩, fun q => q.2.2.2⟩)
    | exact fun q => ‹¬ s.sGood› q.1
    | exact fun q => ‹¬ (0 ≤ who ∧ who < (s.tables.length : Int))› q.2.1
    | exact fun q => ‹¬ (1 ≤ num ∧ num ≤ 1000000)› q.2.2.1
    | trace_state

/-- An entry that refers to a thing of a type, and a code. -/
def findR (o : Option Entry) : AV := match o with
  | some e => .tup [.agg e.cs, .i .i64 0]
  | none => .tup [.agg (Entry.cs ⟨0, 0, false, 0, 0, 0, 0⟩), .i .i64 11]

set_option maxRecDepth 8000 in
theorem l19Find_ok (s : Shelf) (h : s.ok) (hg : s.good) (who num res : Int) : Ret env.P 122 [rfL s.cs, .i .i64 who, .i .i64 num, .i .i64 res] (fun r => r = findR (s.typ who num res)) := by
  refine ret_of (nt := 38) (rvs := [.cell 8 55, .tmp 9]) Try.func122 rfl rfl rfl rfl (fun X => ?_)
  repeat' (first | omega | (with_reducible show (_ : Int) < _; dsimp only; omega) | (with_reducible show (_ : Nat) ≤ _; dsimp only; omega) | exact srcOk_1 rfl | exact srcOk_L (fun _ => ⟨rfl, rfl⟩) | exact srcOk_E (fun _ => ⟨rfl, rfl⟩) | ((conv => whnf) <;> (first | (refine .inl ⟨_, l19At_ok s h who num, ?_⟩; rintro _ rfl; cases hE : s.at_ who num) | ((first | refine .inl ⟨_, l19Thing_ok s h _, ?_⟩ | refine ⟨_, l19Thing_ok s h _, ?_⟩); (try rintro _ rfl); obtain ⟨q, hq, hlt⟩ := thing_some hg hE; rw [hq]; simp only [idxI]) | refine And.intro ?_ ?_ | (intro _h; first | contradiction | (try simp only [decide_eq_true_eq, Bool.not_eq_true', Bool.not_eq_false', decide_eq_false_iff_not, Bool.not_eq_true, Decidable.not_not, Bool.true_eq_false, Bool.false_eq_true, pb_t, pb_f] at _h)) | (refine dt_go ?_) | exact rfl | exact True.intro | (refine dok ?_; kernel_rfl) | (refine doks ?_; kernel_rfl) | (refine wrap_succ ?_; omega))))
  all_goals (try simp only [Int.toNat_natCast] at *)
  all_goals first
    | (rw [typ_none hE]; rfl)
    | (rw [typ_some hE (by rw [thingOf_eq hq]; assumption)]; rfl)
    | (rw [typ_not hE (by rw [thingOf_eq hq]; assumption)]; rfl)