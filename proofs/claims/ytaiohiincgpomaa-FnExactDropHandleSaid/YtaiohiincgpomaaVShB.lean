/-
  Shelves that are read: the program.
-/
import Derived.Test.YtaiohiincgpomaaVShA
import Derived.Test.YtaiohiincgpomaaVShM
namespace Go.Proofs.Ytaiohiincgpomaa
open Go Go.RowKit
set_option linter.unusedVariables false
set_option linter.unusedSimpArgs false

set_option maxRecDepth 8000 in
theorem sizeTable_ok (l : List Table) (hl : l.length ≤ 1048576) : Ret env.P 67 [slL 2 Table.cs l] (fun r => r = .i .i64 l.length) := by
  refine ret_of (nt := 5) (rvs := [.tmp 2]) Try.func67 rfl rfl rfl rfl (fun X => ?_)
  repeat' (first | omega | (with_reducible show (_ : Int) < _; dsimp only; omega) | (with_reducible show (_ : Nat) ≤ _; dsimp only; omega) | exact srcOk_1 rfl | exact srcOk_L (fun _ => ⟨rfl, rfl⟩) | exact srcOk_E (fun _ => ⟨rfl, rfl⟩) | ((conv => whnf) <;> (first | refine And.intro ?_ ?_ | (intro _h; first | contradiction | (try simp only [decide_eq_true_eq, Bool.not_eq_true', Bool.not_eq_false', decide_eq_false_iff_not, Bool.not_eq_true, Decidable.not_not, Bool.true_eq_false, Bool.false_eq_true, pb_t, pb_f] at _h)) | (refine dt_go ?_) | exact rfl | exact True.intro | (refine dok ?_; kernel_rfl) | (refine doks ?_; kernel_rfl) | (refine wrap_succ ?_; omega))))
  all_goals exact rfl

set_option maxRecDepth 8000 in
theorem isTable_ok (s : Shelf) (h : s.ok) (who : Int) : Ret env.P 117 [rfL s.cs, .i .i64 who] (fun r => r = .b (decide (0 ≤ who ∧ who < (s.tables.length : Int)))) := by
  have hl : s.tables.length ≤ 1048576 := h.1.1
  refine ret_of (nt := 14) (rvs := [.tmp 4]) Try.func117 rfl rfl rfl rfl (fun X => ?_)
  repeat' (first | omega | (with_reducible show (_ : Int) < _; dsimp only; omega) | (with_reducible show (_ : Nat) ≤ _; dsimp only; omega) | exact srcOk_1 rfl | exact srcOk_L (fun _ => ⟨rfl, rfl⟩) | exact srcOk_E (fun _ => ⟨rfl, rfl⟩) | ((conv => whnf) <;> (first | refine And.intro ?_ ?_ | (intro _h; first | contradiction | (try simp only [decide_eq_true_eq, Bool.not_eq_true', Bool.not_eq_false', decide_eq_false_iff_not, Bool.not_eq_true, Decidable.not_not, Bool.true_eq_false, Bool.false_eq_true, pb_t, pb_f] at _h)) | (refine dt_go ?_) | exact rfl | exact True.intro | (refine dok ?_; kernel_rfl) | (refine doks ?_; kernel_rfl) | ((first | refine .inl ⟨_, sizeTable_ok _ hl, ?_⟩ | refine ⟨_, sizeTable_ok _ hl, ?_⟩); (try rintro _ rfl)) | ((first | refine .inl ⟨_, within_ok _ _ _, ?_⟩ | refine ⟨_, within_ok _ _ _, ?_⟩); (try rintro _ rfl)) | (refine wrap_succ ?_; omega))))
  all_goals (refine leaf_b ?_; rw [wrap_in (by omega) (by omega)]; rw [decide_eq_decide]; omega)

set_option maxRecDepth 8000 in
theorem thing1_ok (x : Thing) (id : Int) : Ret env.P 161 [.agg x.cs, rfL [.i .i64 id]] (fun r => r = .b (idP id x)) := by
  refine ret_of (nt := 8) (rvs := [.tmp 3]) Try.func161 rfl rfl rfl rfl (fun X => ?_)
  repeat' (first | omega | (with_reducible show (_ : Int) < _; dsimp only; omega) | (with_reducible show (_ : Nat) ≤ _; dsimp only; omega) | exact srcOk_1 rfl | exact srcOk_L (fun _ => ⟨rfl, rfl⟩) | exact srcOk_E (fun _ => ⟨rfl, rfl⟩) | ((conv => whnf) <;> (first | refine And.intro ?_ ?_ | (intro _h; first | contradiction | (try simp only [decide_eq_true_eq, Bool.not_eq_true', Bool.not_eq_false', decide_eq_false_iff_not, Bool.not_eq_true, Decidable.not_not, Bool.true_eq_false, Bool.false_eq_true, pb_t, pb_f] at _h)) | (refine dt_go ?_) | exact rfl | exact True.intro | (refine dok ?_; kernel_rfl) | (refine doks ?_; kernel_rfl) | (refine wrap_succ ?_; omega))))
  all_goals exact rfl

set_option maxRecDepth 8000 in
theorem thing_ok (s : Shelf) (h : s.ok) (id : Int) : Ret env.P 127 [rfL s.cs, .i .i64 id] (fun r => r = .i .i64 (idxI (s.thing id))) := by
  have hl : s.things.length ≤ 1048576 := h.2.1
  refine ret_of (nt := 12) (rvs := [.tmp 4]) Try.func127 rfl rfl rfl rfl (fun X => ?_)
  repeat' (first | omega | (with_reducible show (_ : Int) < _; dsimp only; omega) | (with_reducible show (_ : Nat) ≤ _; dsimp only; omega) | exact srcOk_1 rfl | exact srcOk_L (fun _ => ⟨rfl, rfl⟩) | exact srcOk_E (fun _ => ⟨rfl, rfl⟩) | ((conv => whnf) <;> (first | refine And.intro ?_ ?_ | (intro _h; first | contradiction | (try simp only [decide_eq_true_eq, Bool.not_eq_true', Bool.not_eq_false', decide_eq_false_iff_not, Bool.not_eq_true, Decidable.not_not, Bool.true_eq_false, Bool.false_eq_true, pb_t, pb_f] at _h)) | (refine dt_go ?_) | exact rfl | exact True.intro | (refine dok ?_; kernel_rfl) | (refine doks ?_; kernel_rfl) | ((first | refine .inl ⟨_, Ret.wk (by ((repeat (first | exact WkL.nil | refine WkL.cons ?_ ?_ | exact Wk.refl _ | exact Wk.rfc rfl | refine Wk.fn ?_ | exact Wk.nilS0 | exact shr_L (d := 0) (k := 4) rfl | exact shr_L (d := 1) (k := 3) rfl | exact shr_L (d := 2) (k := 2) rfl | exact shr_L (d := 0) (k := 4) (by simp only [markL_len]) | exact shr_L (d := 1) (k := 3) (by simp only [markL_len]) | refine Wk.agg ?_ | exact shr_L (d := 0) (k := 3) rfl | exact shr_L (d := 1) (k := 2) rfl | exact shr_ow (d := 1) (k := 2) | exact shr_ow (d := 0) (k := 3) | refine Wk.rfLo ?_)); first | done | fail)) (indexFuncThing1_ok s.things _ rfl [.i .i64 id] (idP id) hl (fun k hk => thing1_ok _ _)), ?_⟩ | refine ⟨_, Ret.wk (by ((repeat (first | exact WkL.nil | refine WkL.cons ?_ ?_ | exact Wk.refl _ | exact Wk.rfc rfl | refine Wk.fn ?_ | exact Wk.nilS0 | exact shr_L (d := 0) (k := 4) rfl | exact shr_L (d := 1) (k := 3) rfl | exact shr_L (d := 2) (k := 2) rfl | exact shr_L (d := 0) (k := 4) (by simp only [markL_len]) | exact shr_L (d := 1) (k := 3) (by simp only [markL_len]) | refine Wk.agg ?_ | exact shr_L (d := 0) (k := 3) rfl | exact shr_L (d := 1) (k := 2) rfl | exact shr_ow (d := 1) (k := 2) | exact shr_ow (d := 0) (k := 3) | refine Wk.rfLo ?_)); first | done | fail)) (indexFuncThing1_ok s.things _ rfl [.i .i64 id] (idP id) hl (fun k hk => thing1_ok _ _)), ?_⟩); (try rintro _ rfl)) | (refine wrap_succ ?_; omega))))
  all_goals exact rfl

set_option maxRecDepth 8000 in
theorem entry_ok (s : Shelf) (h : s.ok) (who num : Int) : Ret env.P 129 [rfL s.cs, .i .i64 who, .i .i64 num] (fun r => r = entP (s.at_ who num)) := by
  have hl : s.tables.length ≤ 1048576 := h.1.1
  refine ret_of (nt := 45) (rvs := [.tmp 6]) Try.func129 rfl rfl rfl rfl (fun X => ?_)
  repeat' (first | omega | (with_reducible show (_ : Int) < _; dsimp only; omega) | (with_reducible show (_ : Nat) ≤ _; dsimp only; omega) | exact srcOk_1 rfl | exact srcOk_L (fun _ => ⟨rfl, rfl⟩) | exact srcOk_E (fun _ => ⟨rfl, rfl⟩) | ((conv => whnf) <;> (first | (have he : (s.tables.getD who.toNat default).entries.length ≤ 1048576 := (h.1.2 who.toNat (by omega)).1; refine loopN (s.tables.getD who.toNat default).entries.length (fun k => [(23, .i .i64 k)]) (fun k => []) (fun k => ∀ j, j < k → ¬ ((s.tables.getD who.toNat default).entries.getD j default).num = num) ⟨fun _ h => by omega, ?_⟩) | exact upto_succ (by assumption) (by assumption) | refine And.intro ?_ ?_ | (intro _h; first | contradiction | (try simp only [decide_eq_true_eq, Bool.not_eq_true', Bool.not_eq_false', decide_eq_false_iff_not, Bool.not_eq_true, Decidable.not_not, Bool.true_eq_false, Bool.false_eq_true, pb_t, pb_f] at _h)) | (refine dt_go ?_) | exact rfl | exact True.intro | (refine dok ?_; kernel_rfl) | (refine doks ?_; kernel_rfl) | ((first | refine .inl ⟨_, isTable_ok s h _, ?_⟩ | refine ⟨_, isTable_ok s h _, ?_⟩); (try rintro _ rfl)) | (refine wrap_succ ?_; omega))))
  · rw [at_out (by assumption)]; rfl
  · rename_i k _ hI _
    rw [at_some (k := k) (by assumption) (by omega) _h hI]; rfl
  · rw [at_none (by assumption) (fun j hj => by have := ‹∀ j, j < _ → ¬ (Entry.num _) = num›; exact this j (by omega))]; rfl

set_option maxRecDepth 8000 in
theorem origin_ok (s : Shelf) (h : s.ok) (e : Entry) : Ret env.P 130 [rfL s.cs, .agg e.cs] (fun r => r = entP (s.orig e)) := by
  refine ret_of (nt := 11) (rvs := [.tmp 4]) Try.func130 rfl rfl rfl rfl (fun X => ?_)
  repeat' (first | omega | (with_reducible show (_ : Int) < _; dsimp only; omega) | (with_reducible show (_ : Nat) ≤ _; dsimp only; omega) | exact srcOk_1 rfl | exact srcOk_L (fun _ => ⟨rfl, rfl⟩) | exact srcOk_E (fun _ => ⟨rfl, rfl⟩) | ((conv => whnf) <;> (first | (refine .inl ⟨_, entry_ok s h _ _, ?_⟩; rintro _ rfl; cases hE : s.at_ e.from_ e.fromNum) | refine And.intro ?_ ?_ | (intro _h; first | contradiction | (try simp only [decide_eq_true_eq, Bool.not_eq_true', Bool.not_eq_false', decide_eq_false_iff_not, Bool.not_eq_true, Decidable.not_not, Bool.true_eq_false, Bool.false_eq_true, pb_t, pb_f] at _h)) | (refine dt_go ?_) | exact rfl | exact True.intro | (refine dok ?_; kernel_rfl) | (refine doks ?_; kernel_rfl) | (refine wrap_succ ?_; omega))))
  all_goals (simp only [Shelf.orig, hE]; rfl)

set_option maxRecDepth 8000 in
theorem lentOk_ok (s : Shelf) (h : s.ok) (e : Entry) : Ret env.P 146 [rfL s.cs, .agg e.cs] (fun r => r = .b (pb (s.lent e))) := by
  refine ret_of (nt := 36) (rvs := [.tmp 4]) Try.func146 rfl rfl rfl rfl (fun X => ?_)
  repeat' (first | omega | (with_reducible show (_ : Int) < _; dsimp only; omega) | (with_reducible show (_ : Nat) ≤ _; dsimp only; omega) | exact srcOk_1 rfl | exact srcOk_L (fun _ => ⟨rfl, rfl⟩) | exact srcOk_E (fun _ => ⟨rfl, rfl⟩) | ((conv => whnf) <;> (first | refine loopN 85 (fun k => [(5, .i .i64 k)]) (fun k => [some (.box (s.chain e k).cs)]) (fun k => s.ends 85 e = s.ends (85 - k) (s.chain e k)) ⟨rfl, ?_⟩ | (rename_i k _ _; refine .inl ⟨_, origin_ok s h (s.chain e k), ?_⟩; rintro _ rfl; cases hE : s.orig (s.chain e k)) | (simp only [Shelf.chain, hE, Option.getD_some]) | refine And.intro ?_ ?_ | (intro _h; first | contradiction | (try simp only [decide_eq_true_eq, Bool.not_eq_true', Bool.not_eq_false', decide_eq_false_iff_not, Bool.not_eq_true, Decidable.not_not, Bool.true_eq_false, Bool.false_eq_true, pb_t, pb_f] at _h)) | (refine dt_go ?_) | exact rfl | exact True.intro | (refine dok ?_; kernel_rfl) | (refine doks ?_; kernel_rfl) | ((first | refine .inl ⟨_, within_ok _ _ _, ?_⟩ | refine ⟨_, within_ok _ _ _, ?_⟩); (try rintro _ rfl)) | (refine wrap_succ ?_; omega))))
  all_goals (first | refine leaf_f ?_ | refine leaf_t ?_ | (conv => whnf))
  · exact fun q => by have := q.1; omega
  · rename_i hI _
    exact fun q => by rw [Shelf.lent, ‹s.ends 85 e = s.ends (85 - k) (s.chain e k)›, Shelf.ends_none hE] at q; cases q.2
  · rename_i hI _ _ _
    exact fun q => by rw [Shelf.lent, ‹s.ends 85 e = s.ends (85 - k) (s.chain e k)›, Shelf.ends_id hE (by assumption)] at q; cases q.2
  · rename_i hI _ _ _ _
    exact ⟨by omega, by rw [‹s.ends 85 e = s.ends (85 - k) (s.chain e k)›, show 85 - k = (84 - k) + 1 by omega]; exact Shelf.ends_own hE (by omega) (by assumption)⟩
  · rename_i hI _ _ _ _
    rw [‹s.ends 85 e = s.ends (85 - k) (s.chain e k)›, show 85 - k = (85 - (k + 1)) + 1 by omega]
    exact Shelf.ends_on hE (by omega) (by assumption)
  · rename_i k _ hI
    exact fun q => by rw [Shelf.lent, hI, show 85 - k = 0 by omega] at q; cases q.2

set_option maxRecDepth 8000 in
theorem tableOk_ok (t : Table) (h : t.ok) : Ret env.P 97 [.agg t.cs] (fun r => r = .b (pb t.good)) := by
  have hl : t.entries.length ≤ 1048576 := h.1
  refine ret_of (nt := 41) (rvs := [.tmp 2]) Try.func97 rfl rfl rfl rfl (fun X => ?_)
  repeat' (first | omega | (with_reducible show (_ : Int) < _; dsimp only; omega) | (with_reducible show (_ : Nat) ≤ _; dsimp only; omega) | exact srcOk_1 rfl | exact srcOk_L (fun _ => ⟨rfl, rfl⟩) | exact srcOk_E (fun _ => ⟨rfl, rfl⟩) | ((conv => whnf) <;> (first | refine loopN t.entries.length (fun k => [(9, .i .i64 k), (3, .i .i64 (prevNum t.entries k))]) (fun k => []) (fun k => t.Up k) ⟨t.up_zero, ?_⟩ | exact Table.up_succ (by assumption) (by simp only [Int.toNat_natCast] at *; omega) (by simp only [Int.toNat_natCast] at *; omega) (by simp only [Int.toNat_natCast] at *; omega) | refine And.intro ?_ ?_ | (intro _h; first | contradiction | (try simp only [decide_eq_true_eq, Bool.not_eq_true', Bool.not_eq_false', decide_eq_false_iff_not, Bool.not_eq_true, Decidable.not_not, Bool.true_eq_false, Bool.false_eq_true, pb_t, pb_f] at _h)) | (refine dt_go ?_) | exact rfl | exact True.intro | (refine dok ?_; kernel_rfl) | (refine doks ?_; kernel_rfl) | ((first | refine .inl ⟨_, within_ok _ _ _, ?_⟩ | refine ⟨_, within_ok _ _ _, ?_⟩); (try rintro _ rfl)) | (refine wrap_succ ?_; omega))))
  all_goals (first | refine leaf_f ?_ | refine leaf_t ?_ | refine leaf_p ?_ | (conv => whnf))
  all_goals (try simp only [Int.toNat_natCast] at *)
  · rename_i k _ _ _ _ _
    exact fun q => by have := (q.1 k (by omega)).2.2; omega
  · rename_i k _ _ _ _
    exact fun q => by have := (q.1 k (by omega)).2.1; omega
  · rename_i k _ _ _
    exact fun q => by have := (q.1 k (by omega)).1; omega
  · rename_i k _ hI _
    rw [decide_eq_true_eq]
    exact ⟨fun q => ⟨by rw [show t.entries.length = k by omega]; exact hI.h, by assumption, by omega⟩, fun q => by have := q.2.2; omega⟩
  · exact fun q => by have := q.2.1; omega

set_option maxRecDepth 8000 in
theorem thingsOk_ok (s : Shelf) (h : s.ok) : Ret env.P 94 [.agg s.cs] (fun r => r = .b (pb s.goodT)) := by
  have hl : s.things.length ≤ 1048576 := h.2.1
  refine ret_of (nt := 43) (rvs := [.tmp 2]) Try.func94 rfl rfl rfl rfl (fun X => ?_)
  repeat' (first | omega | (with_reducible show (_ : Int) < _; dsimp only; omega) | (with_reducible show (_ : Nat) ≤ _; dsimp only; omega) | exact srcOk_1 rfl | exact srcOk_L (fun _ => ⟨rfl, rfl⟩) | exact srcOk_E (fun _ => ⟨rfl, rfl⟩) | ((conv => whnf) <;> (first | refine loopN s.things.length (fun k => [(9, .i .i64 k), (3, .i .i64 (prevId s.things k))]) (fun k => []) (fun k => s.UpT k) ⟨s.upT_zero, ?_⟩ | exact Shelf.upT_succ (by assumption) (by simp only [Int.toNat_natCast] at *; omega) (by simp only [Int.toNat_natCast] at *; omega) (by simp only [Int.toNat_natCast] at *; omega) (by simp only [Int.toNat_natCast] at *; omega) | refine And.intro ?_ ?_ | (intro _h; first | contradiction | (try simp only [decide_eq_true_eq, Bool.not_eq_true', Bool.not_eq_false', decide_eq_false_iff_not, Bool.not_eq_true, Decidable.not_not, Bool.true_eq_false, Bool.false_eq_true, pb_t, pb_f] at _h)) | (refine dt_go ?_) | exact rfl | exact True.intro | (refine dok ?_; kernel_rfl) | (refine doks ?_; kernel_rfl) | ((first | refine .inl ⟨_, within_ok _ _ _, ?_⟩ | refine ⟨_, within_ok _ _ _, ?_⟩); (try rintro _ rfl)) | (refine wrap_succ ?_; omega))))
  all_goals (first | refine leaf_f ?_ | refine leaf_t ?_ | refine leaf_p ?_ | (conv => whnf))
  all_goals (try simp only [Int.toNat_natCast] at *)
  · rename_i k _ _ _ _ _ _
    exact fun q => by have := (q.1 k (by omega)).2.2.2; omega
  · rename_i k _ _ _ _ _
    exact fun q => by have := (q.1 k (by omega)).2.2.1; omega
  · rename_i k _ _ _ _
    exact fun q => by have := (q.1 k (by omega)).2.1; omega
  · rename_i k _ _ _
    exact fun q => by have := (q.1 k (by omega)).1; omega
  · rename_i k _ hI
    rw [decide_eq_true_eq]
    exact ⟨fun q => ⟨by rw [show s.things.length = k by omega]; exact hI.h, by omega⟩, fun q => by have := q.2; omega⟩

set_option maxRecDepth 8000 in
theorem shelfOk1_ok (t : Table) (h : t.ok) : Ret env.P 96 [.agg t.cs] (fun r => r = .b (!pb t.good)) := by
  refine ret_of (nt := 6) (rvs := [.tmp 2]) Try.func96 rfl rfl rfl rfl (fun X => ?_)
  repeat' (first | omega | (with_reducible show (_ : Int) < _; dsimp only; omega) | (with_reducible show (_ : Nat) ≤ _; dsimp only; omega) | exact srcOk_1 rfl | exact srcOk_L (fun _ => ⟨rfl, rfl⟩) | exact srcOk_E (fun _ => ⟨rfl, rfl⟩) | ((conv => whnf) <;> (first | refine And.intro ?_ ?_ | (intro _h; first | contradiction | (try simp only [decide_eq_true_eq, Bool.not_eq_true', Bool.not_eq_false', decide_eq_false_iff_not, Bool.not_eq_true, Decidable.not_not, Bool.true_eq_false, Bool.false_eq_true, pb_t, pb_f] at _h)) | (refine dt_go ?_) | exact rfl | exact True.intro | (refine dok ?_; kernel_rfl) | (refine doks ?_; kernel_rfl) | ((first | refine .inl ⟨_, tableOk_ok t h, ?_⟩ | refine ⟨_, tableOk_ok t h, ?_⟩); (try rintro _ rfl)) | (refine wrap_succ ?_; omega))))
  all_goals exact rfl
end Go.Proofs.Ytaiohiincgpomaa
