/- Texts for VDropInP. -/
import Derived.Test.YtmjjadcmmpfljaaGreatVd30
namespace Go.Proofs.YtmjjadcmmpfljaaGreat
open Go Go.RowKit
set_option linter.unusedVariables false
set_option linter.unusedSimpArgs false
theorem getD_eq {α : Type} [Inhabited α] {l : List α} {k : Nat} (h : k < l.length) : l.getD k default = l[k] := by
 rw [List.getD_eq_getElem?_getD, List.getElem?_eq_getElem h]; rfl
theorem onI_iff {y : Yard} {k : Nat} (hk : k < y.stack.length) : y.onI (y.stack.getD k default).callee = some k ↔ onS (y.stack.take k) (y.stack.getD k default).callee = false := by
 unfold Yard.onI onS
 rw [List.findIdx?_eq_some_iff_getElem, List.any_eq_false]
 constructor
 ·rintro ⟨_, _, h⟩ x hx
  obtain ⟨j, hj, rfl⟩ := List.getElem_of_mem hx
  rw [List.length_take] at hj
  rw [List.getElem_take]
  exact h j (by omega)
 ·intro h
  refine ⟨hk, by rw [getD_eq hk]; simp [calP], fun j hj => ?_⟩
  refine h _ ?_
  rw [List.mem_iff_getElem]
  exact ⟨j, by rw [List.length_take]; omega, by rw [List.getElem_take]⟩
theorem idBad_iff {l : List Int} : l.any idBad = false ↔ ∀ j, j < l.length → 1 ≤ l.getD j default ∧ l.getD j default ≤ 1000000 := by
 rw [← Bool.not_eq_true, any_getD]
 constructor
 ·intro h j hj
  refine Decidable.byContradiction fun hc => h ⟨j, hj, ?_⟩
  unfold idBad
  rw [Bool.not_eq_true', decide_eq_false_iff_not]
  exact hc
 ·rintro h ⟨j, hj, hb⟩
  unfold idBad at hb
  rw [Bool.not_eq_true', decide_eq_false_iff_not] at hb
  exact hb (h j hj)
theorem call_iff {y : Yard} {k : Nat} (hk : k < y.stack.length) : y.callOk k (y.stack.getD k default) ↔ y.sCall k (y.stack.getD k default) := by
 unfold Yard.callOk Yard.sCall
 rw [onI_iff hk, idBad_iff]
 constructor
 ·rintro ⟨g1, g2, g3, g4, g5, g6, g7⟩
  exact ⟨⟨by omega, by omega⟩, g3, g4, g7, g5, g6⟩
 ·rintro ⟨⟨g1, g2⟩, g3, g4, g7, g5, g6⟩
  exact ⟨by omega, by omega, g3, g4, g5, g6, g7⟩
theorem dead_ge {y : Yard} (h : y.goodD) : ∀ k, k < y.dead.length → (k : Int) + 1 ≤ y.dead.getD k default
 | 0, hk => by
  have := (h 0 hk).1.1
  omega
 | k + 1, hk => by
  have h1 := dead_ge h k (by omega)
  have h2 := (h (k + 1) hk).2.2.2
  unfold prevD at h2
  rw [if_neg (by omega), Nat.add_sub_cancel] at h2
  omega
theorem dead_le {y : Yard} (h : y.goodD) (ht : y.shelf.tables.length ≤ 7) : y.dead.length ≤ 6 := by
 rcases Nat.eq_zero_or_pos y.dead.length with h0 | h0
 ·omega
 ·have h1 := dead_ge h (y.dead.length - 1) (by omega)
  have h2 := (h (y.dead.length - 1) (by omega)).1.2
  omega
theorem bor_iff {y : Yard} (h : y.sStack) (i : Nat) (e : Entry) : y.borE i e ↔ y.belE i e := by
 unfold Yard.borE Yard.belE
 refine or_congr Iff.rfl ?_
 rw [any_getD]
 constructor
 ·rintro ⟨q, hq, hb⟩
  unfold borP at hb
  rw [decide_eq_true_eq] at hb
  have := (h.2 q hq).2.2.2.1
  rw [hb.1] at this
  exact ⟨q, this, hb.2.1, hb.2.2⟩
 ·rintro ⟨q, hq, h1, h2⟩
  have hq' := hq
  unfold Yard.onI at hq
  rw [List.findIdx?_eq_some_iff_getElem] at hq
  obtain ⟨hlt, hp, _⟩ := hq
  refine ⟨q, hlt, ?_⟩
  unfold borP
  rw [decide_eq_true_eq]
  refine ⟨?_, h1, h2⟩
  unfold calP at hp
  rw [decide_eq_true_eq] at hp
  rw [getD_eq hlt]
  exact hp
theorem yard_iff (y : Yard) : y.good ↔ y.sGood := by
 constructor
 ·rintro ⟨h1, ⟨h2, h3⟩, ⟨h4, h5, h6⟩, h7, h8⟩
  have hst : y.sStack := ⟨h6, fun k hk => (call_iff hk).1 (h4 k hk)⟩
  exact ⟨(good_iff _).1 h1, h2, h5, hst, dead_le h7 h3, h7, fun i k hi hk => (bor_iff hst _ _).1 (h8 i k hi hk)⟩
 ·rintro ⟨h1, h2, h3, h4, h5, h6, h7⟩
  refine ⟨(good_iff _).2 h1, ⟨h2, h1.1.2.1.2⟩, ⟨fun k hk => (call_iff hk).2 (h4.2 k hk), h3, h4.1⟩, h6, fun i k hi hk => (bor_iff h4 _ _).2 (h7 i k hi hk)⟩
set_option maxRecDepth 8000
theorem l20On_ok (y : Yard) (hs : y.stack.length ≤ 1048576) (w : Int) : Ret env.P 60 [rfL y.cs, .i .i64 w] (fun r => r = .i .i64 (idxI (y.onI w))) := by
 refine ret_of (nt := 26) (rvs := [.tmp 4]) Tryz.func60 rfl rfl rfl rfl (fun X => ?_)
 repeat' (first | exact aa | ((conv => whnf) <;> (first | refine loopN y.stack.length (fun k => [(5, .i .i64 k)]) (fun k => []) (fun k => ∀ j, j < k → ¬ (y.stack.getD j default).callee = w) ⟨fun _ h => by omega, ?_⟩ | exact upto_succ (by assumption) (by assumption) | refine And.intro ?_ ?_ | (intro _h; first | contradiction | (try simp only [dd] at _h)) | (refine dt_go ?_) | exact rfl | exact True.intro | exact dkk | exact dks | (refine wrap_succ ?_; omega))))
 ·exact leaf_i (idx_some (by omega) (by simpa [calP] using _h) (fun j hj => by have := ‹∀ j, j < _ → ¬ (y.stack.getD j default).callee = w› j hj; simpa [calP] using this))
 ·exact leaf_i (idx_none fun j hj => by have := ‹∀ j, j < _ → ¬ (y.stack.getD j default).callee = w› j (by omega); simpa [calP] using this)
theorem l20Instance_ok (y : Yard) (hl : y.shelf.tables.length ≤ 1048576) (w : Int) : Ret env.P 65 [rfL y.cs, .i .i64 w] (fun r => r = .b (pb (y.isI w))) := by
 refine ret_of (nt := 14) (rvs := [.tmp 4]) Tryz.func65 rfl rfl rfl rfl (fun X => ?_)
 repeat' (first | exact aa | ((conv => whnf) <;> (first | refine And.intro ?_ ?_ | (intro _h; first | contradiction | (try simp only [dd] at _h)) | (refine dt_go ?_) | exact rfl | exact True.intro | exact dkk | exact dks | ((first | refine .inl ⟨_, l00In_ok _ _ _, ?_⟩ | refine ⟨_, l00In_ok _ _ _, ?_⟩); try rintro _ rfl; try rw [wrap_in (by omega) (by omega)]) | (refine wrap_succ ?_; omega))))
 all_goals (refine leaf_p ?_; rw [decide_eq_true_eq]; unfold Yard.isI; omega)
set_option maxHeartbeats 2000000 in
theorem l20Stack_ok (y : Yard) (h : y.ok) (hn : 1 ≤ y.next ∧ y.next ≤ 1000000) : Ret env.P 64 [rfL y.cs] (fun r => r = .b (pb y.sStack)) := by
 have hl : y.shelf.tables.length ≤ 1048576 := h.1.1.1
 have hs : y.stack.length ≤ 1048576 := h.2.1.1
 refine ret_of (nt := 102) (rvs := [.tmp 2]) Tryz.func64 rfl rfl rfl rfl (fun X => ?_)
 repeat' (first | exact aa | ((conv => whnf) <;> (first | refine loopAt 3 y.stack.length (fun k => [(3, .i .i64 k)]) (fun k => []) (fun k => y.UpT k) rfl ⟨y.upT_zero, ?_⟩ | (rename_i i _ _ _ _ _ _ _ _; have he : (y.stack.getD (i : Int).toNat default).args.length ≤ 1048576 := (h.2.1.2 i (by omega)).1; refine loopAt 7 (y.stack.getD (i : Int).toNat default).args.length (fun k => [(7, .i .i64 k)]) (fun k => []) (fun k => UpA (y.stack.getD (i : Int).toNat default).args k) rfl ⟨upA_zero _, ?_⟩) | refine And.intro ?_ ?_ | (intro _h; first | contradiction | (try simp only [dd] at _h)) | (refine dt_go ?_) | exact rfl | exact True.intro | exact dkk | exact dks | ((first | refine .inl ⟨_, l00In_ok _ _ _, ?_⟩ | refine ⟨_, l00In_ok _ _ _, ?_⟩); try rintro _ rfl; try rw [wrap_in (by omega) (by omega)]) | ((first | refine .inl ⟨_, l20Instance_ok y hl _, ?_⟩ | refine ⟨_, l20Instance_ok y hl _, ?_⟩); (try rintro _ rfl)) | ((first | refine .inl ⟨_, l20On_ok y hs _, ?_⟩ | refine ⟨_, l20On_ok y hs _, ?_⟩); (try rintro _ rfl)) | (refine wrap_succ ?_; omega))))
 all_goals (first | refine leaf_f ?_ | refine leaf_t ?_ | refine leaf_p ?_ | (conv => whnf) | skip)
 all_goals (try simp only [Int.toNat_natCast, Classical.not_not, Bool.not_eq_false] at *)
 all_goals (try simp (disch := omega) only [wrap_in] at *)
 all_goals (try (have hp := Yard.upT_range hn ‹y.UpT _›))
 all_goals (try simp only [prevC_pos ‹(0 : Int) < _›] at *)
 all_goals (try simp (disch := omega) only [wrap_in, idx_eq] at *)
 all_goals first
  | (show (0 : Int) ≤ _; omega)
  | (show (_ : Int) < _; omega)
  | exact fun q => by have := q.1; omega
  | (refine Yard.notT ‹_› ?_; rintro ⟨g1, g2, g3, g4, g5, g6⟩; first | omega | exact absurd g3 ‹_› | exact absurd g4 ‹_› | (simp only [prevC_zero ‹¬ (0 : Int) < _›] at *; omega) | exact ‹¬ ((1 : Int) ≤ List.getD (Call.args _) _ _ ∧ _ ≤ (1000000 : Int))› (g6 _ (by omega)))
  | exact upA_succ ‹UpA _ _› ‹(1 : Int) ≤ List.getD (Call.args _) _ _ ∧ _ ≤ (1000000 : Int)›
  | exact Yard.upT_succ ‹y.UpT _› ⟨⟨by omega, by omega⟩, ‹_›, ‹_›, ‹_›, by omega, fun j hj => (‹UpA _ _› : UpA _ _).h j (by omega)⟩
  | exact Yard.upT_first ‹y.UpT _› ‹_› (by omega) (by omega) ‹_› ‹_› ‹_› (by omega) (fun j hj => (‹UpA _ _› : UpA _ _).h j (by omega))
  | exact ⟨by omega, fun k hk => (‹y.UpT _› : y.UpT _).h k (by omega)⟩
theorem l20Borrows_ok (y : Yard) (h : y.ok) : Ret env.P 66 [rfL y.cs] (fun r => r = .b (pb y.sBor)) := by
 have hl : y.shelf.tables.length ≤ 1048576 := h.1.1.1
 have hs : y.stack.length ≤ 1048576 := h.2.1.1
 refine ret_of (nt := 74) (rvs := [.tmp 2]) Tryz.func66 rfl rfl rfl rfl (fun X => ?_)
 repeat' (first | exact aa | ((conv => whnf) <;> (first | ((first | refine .inl ⟨_, l20On_ok y hs _, ?_⟩ | refine ⟨_, l20On_ok y hs _, ?_⟩); (try rintro _ rfl); obtain ⟨q, hq, hlt⟩ | hq := on_cases y _ <;> (rw [hq]; simp only [idxI])) | refine loopAt 3 y.shelf.tables.length (fun i => [(3, .i .i64 i)]) (fun i => []) (fun i => y.UpX i 0) rfl ⟨y.upX_zero, ?_⟩ | (rename_i i _ _; have he : (y.shelf.tables.getD (i : Int).toNat default).entries.length ≤ 1048576 := (h.1.1.2 i (by omega)).1; refine loopAt 5 (y.shelf.tables.getD (i : Int).toNat default).entries.length (fun k => [(5, .i .i64 k)]) (fun k => []) (fun k => y.UpX i k) rfl ⟨by assumption, ?_⟩) | refine And.intro ?_ ?_ | (intro _h; first | contradiction | (try simp only [dd] at _h)) | (refine dt_go ?_) | exact rfl | exact True.intro | exact dkk | exact dks | (refine wrap_succ ?_; omega))))
 all_goals (first | refine leaf_f ?_ | refine leaf_t ?_ | refine leaf_p ?_ | (conv => whnf) | skip)
 all_goals (try simp only [Int.toNat_natCast, Classical.not_not, Bool.not_eq_false] at *)
 all_goals first
  | exact Yard.upX_succ ‹_› (.inl ‹_›)
  | exact Yard.notX ‹_› ‹_› (fun g => g.elim (fun g => Bool.noConfusion (g.symm.trans ‹Entry.own _ = false›)) (by rintro ⟨q', g1, g2, g3⟩; rw [hq] at g1; first | (cases g1; done) | (injection g1 with g1; subst g1; first | exact absurd g2 ‹_› | exact absurd g3 ‹_›)))
  | exact Yard.upX_succ ‹_› (.inr ⟨q, hq, ‹_›, ‹_›⟩)
  | exact Yard.upX_next ‹_› (by omega)
  | exact fun i k hi hk => (‹y.UpX _ 0› : y.UpX _ 0).h i k hi hk (by omega)
set_option maxHeartbeats 2000000 in
theorem l20Ok_ok (y : Yard) (h : y.ok) : Ret env.P 29 [rfL y.cs] (fun r => r = .b (pb y.sGood)) := by
 have hl : y.shelf.tables.length ≤ 1048576 := h.1.1.1
 have hs : y.stack.length ≤ 1048576 := h.2.1.1
 have hd : y.dead.length ≤ 1048576 := h.2.2.1
 refine ret_of (nt := 97) (rvs := [.tmp 2]) Tryz.func29 rfl rfl rfl rfl (fun X => ?_)
 repeat' (first | exact aa | ((conv => whnf) <;> (first | ((first | refine .inl ⟨_, l20On_ok y hs _, ?_⟩ | refine ⟨_, l20On_ok y hs _, ?_⟩); (try rintro _ rfl); obtain ⟨q, hq, hlt⟩ | hq := on_cases y _ <;> (rw [hq]; simp only [idxI])) | refine loopN y.dead.length (fun k => [(3, .i .i64 k)]) (fun k => []) (fun k => y.UpD k) ⟨y.upD_zero, ?_⟩ | refine And.intro ?_ ?_ | (intro _h; first | contradiction | (try simp only [dd] at _h)) | (refine dt_go ?_) | exact rfl | exact True.intro | exact dkk | exact dks | ((first | refine .inl ⟨_, Ret.wk (.cons (Wk.rfcp rfl rfl) .nil) (l19Ok_ok y.shelf h.1), ?_⟩ | refine ⟨_, Ret.wk (.cons (Wk.rfcp rfl rfl) .nil) (l19Ok_ok y.shelf h.1), ?_⟩); (try rintro _ rfl)) | ((first | refine .inl ⟨_, l00In_ok _ _ _, ?_⟩ | refine ⟨_, l00In_ok _ _ _, ?_⟩); (try rintro _ rfl)) | ((first | refine .inl ⟨_, l20Stack_ok y h ‹_›, ?_⟩ | refine ⟨_, l20Stack_ok y h ‹_›, ?_⟩); (try rintro _ rfl)) | ((first | refine .inl ⟨_, l20Instance_ok y hl _, ?_⟩ | refine ⟨_, l20Instance_ok y hl _, ?_⟩); (try rintro _ rfl)) | ((first | refine .inl ⟨_, l20Borrows_ok y h, ?_⟩ | refine ⟨_, l20Borrows_ok y h, ?_⟩); (try rintro _ rfl)) | (refine wrap_succ ?_; omega))))
 all_goals (first | refine leaf_f ?_ | refine leaf_t ?_ | refine leaf_p ?_ | (conv => whnf) | skip)
 all_goals (try simp only [Int.toNat_natCast, Classical.not_not, Bool.not_eq_false] at *)
 all_goals (try simp (disch := omega) only [wrap_in] at *)
 all_goals first
  | (show (0 : Int) ≤ _; try (have g := ‹y.isI _›; unfold Yard.isI at g); omega)
  | (show (_ : Int) < _; try (have g := ‹y.isI _›; unfold Yard.isI at g); omega)
  | (refine Yard.notGD (Yard.notD ‹_› ?_); rintro ⟨g1, g2, g3, g4⟩; first | omega | exact absurd g1 ‹_› | (rw [on_some hq] at g2; cases g2) | (rw [prevD_pos ‹_›] at g4; omega))
  | exact Yard.upD_succ ‹_› ⟨‹_›, on_none hq, by omega, by first | (rw [prevD_pos ‹_›]; omega) | (rw [prevD_zero ‹_›]; have g := ‹y.isI _›; unfold Yard.isI at g; omega)⟩
  | exact fun q => by have := q.2.2.2.2.1; have := q.2.1; omega
  | exact fun q => ‹¬ y.sStack› q.2.2.2.1
  | exact fun q => ‹¬ y.shelf.sGood› q.1
  | exact fun q => ‹¬ (1 ≤ y.next ∧ y.next ≤ 1000000)› q.2.2.1
  | exact fun q => ‹¬ y.sBor› q.2.2.2.2.2.2
  | (simp only [pb_t]; exact ⟨fun q => ⟨‹_›, by omega, ‹_›, ‹_›, by omega, fun k hk => (‹y.UpD _› : y.UpD _).h k (by omega), q⟩, fun q => q.2.2.2.2.2.2⟩)
set_option maxRecDepth 8000
theorem indexFuncCall1_ok (l : List Call) (g : Nat) {fv} (hg : env.F.get g = some fv) (c0 : List AV) (p : Call → Bool) (hl : l.length ≤ 1048576) (hp : ∀ k, k < l.length → Ret env.P g (.agg (Call.cs (l.getD k default)) :: [rfL c0]) (fun r => r = .b (p (l.getD k default)))) :
  Ret env.P 162 [slL 4 Call.cs l, .fn g [rfL c0]] (fun r => r = .i .i64 (idxI (l.findIdx? p))) := by
 refine ret_of (nt := 19) (rvs := [.tmp 4]) Tryz.func162 rfl rfl rfl rfl (fun X => ?_)
 repeat' (first | exact aa | ((conv => whnf) <;> (first | rw [hg] | exact upto_succ (by assumption) (by assumption) | refine loopN l.length (fun k => [(8, .i .i64 k)]) (fun k => []) (fun k => ∀ j, j < k → p (l.getD j default) = false) ⟨fun _ h => by omega, ?_⟩ | refine And.intro ?_ ?_ | (intro _h; first | contradiction | (try simp only [dd] at _h)) | (refine dt_go ?_) | exact rfl | exact True.intro | exact dkk | exact dks | ((first | refine .inl ⟨_, hp _ (by omega), ?_⟩ | refine ⟨_, hp _ (by omega), ?_⟩); (try rintro _ rfl)) | (refine wrap_succ ?_; omega))))
 ·exact leaf_i (idx_some (by omega) (by assumption) (by assumption))
 ·exact leaf_i (idx_none fun j hj => by have := ‹∀ j, j < _ → p (l.getD j default) = false›; exact this j (by omega))
theorem containsFuncCall1_ok (l : List Call) (g : Nat) {fv} (hg : env.F.get g = some fv) (c0 : List AV) (p : Call → Bool) (hl : l.length ≤ 1048576) (hp : ∀ k, k < l.length → Ret env.P g (.agg (Call.cs (l.getD k default)) :: [rfL c0]) (fun r => r = .b (p (l.getD k default)))) :
  Ret env.P 122 [slL 4 Call.cs l, .fn g [rfL c0]] (fun r => r = .b (l.any p)) := by
 refine ret_of (nt := 9) (rvs := [.tmp 4]) Tryz.func122 rfl rfl rfl rfl (fun X => ?_)
 repeat' (first | exact aa | ((conv => whnf) <;> (first | refine And.intro ?_ ?_ | (intro _h; first | contradiction | (try simp only [dd] at _h)) | (refine dt_go ?_) | exact rfl | exact True.intro | exact dkk | exact dks | ((first | refine .inl ⟨_, indexFuncCall1_ok l g hg c0 p hl hp, ?_⟩ | refine ⟨_, indexFuncCall1_ok l g hg c0 p hl hp, ?_⟩); (try rintro _ rfl)) | (refine wrap_succ ?_; omega))))
 all_goals exact leaf_b (idx_any _ _)
theorem indexFuncCall2_ok (l : List Call) (g : Nat) {fv} (hg : env.F.get g = some fv) (c0 : List AV) (c1 : List AV) (p : Call → Bool) (hl : l.length ≤ 1048576) (hp : ∀ k, k < l.length → Ret env.P g (.agg (Call.cs (l.getD k default)) :: [rfL c0, rfL c1]) (fun r => r = .b (p (l.getD k default)))) :
  Ret env.P 162 [slL 4 Call.cs l, .fn g [rfL c0, rfL c1]] (fun r => r = .i .i64 (idxI (l.findIdx? p))) := by
 refine ret_of (nt := 19) (rvs := [.tmp 4]) Tryz.func162 rfl rfl rfl rfl (fun X => ?_)
 repeat' (first | exact aa | ((conv => whnf) <;> (first | rw [hg] | exact upto_succ (by assumption) (by assumption) | refine loopN l.length (fun k => [(8, .i .i64 k)]) (fun k => []) (fun k => ∀ j, j < k → p (l.getD j default) = false) ⟨fun _ h => by omega, ?_⟩ | refine And.intro ?_ ?_ | (intro _h; first | contradiction | (try simp only [dd] at _h)) | (refine dt_go ?_) | exact rfl | exact True.intro | exact dkk | exact dks | ((first | refine .inl ⟨_, hp _ (by omega), ?_⟩ | refine ⟨_, hp _ (by omega), ?_⟩); (try rintro _ rfl)) | (refine wrap_succ ?_; omega))))
 ·exact leaf_i (idx_some (by omega) (by assumption) (by assumption))
 ·exact leaf_i (idx_none fun j hj => by have := ‹∀ j, j < _ → p (l.getD j default) = false›; exact this j (by omega))
theorem containsFuncCall2_ok (l : List Call) (g : Nat) {fv} (hg : env.F.get g = some fv) (c0 : List AV) (c1 : List AV) (p : Call → Bool) (hl : l.length ≤ 1048576) (hp : ∀ k, k < l.length → Ret env.P g (.agg (Call.cs (l.getD k default)) :: [rfL c0, rfL c1]) (fun r => r = .b (p (l.getD k default)))) :
  Ret env.P 122 [slL 4 Call.cs l, .fn g [rfL c0, rfL c1]] (fun r => r = .b (l.any p)) := by
 refine ret_of (nt := 9) (rvs := [.tmp 4]) Tryz.func122 rfl rfl rfl rfl (fun X => ?_)
 repeat' (first | exact aa | ((conv => whnf) <;> (first | refine And.intro ?_ ?_ | (intro _h; first | contradiction | (try simp only [dd] at _h)) | (refine dt_go ?_) | exact rfl | exact True.intro | exact dkk | exact dks | ((first | refine .inl ⟨_, indexFuncCall2_ok l g hg c0 c1 p hl hp, ?_⟩ | refine ⟨_, indexFuncCall2_ok l g hg c0 c1 p hl hp, ?_⟩); (try rintro _ rfl)) | (refine wrap_succ ?_; omega))))
 all_goals exact leaf_b (idx_any _ _)
theorem indexFuncInt64_ok (l : List Int) (g : Nat) {fv} (hg : env.F.get g = some fv) (p : Int → Bool) (hl : l.length ≤ 1048576) (hp : ∀ k, k < l.length → Ret env.P g (.i .i64 (l.getD k default) :: []) (fun r => r = .b (p (l.getD k default)))) :
  Ret env.P 160 [slL 1 intC l, .fn g []] (fun r => r = .i .i64 (idxI (l.findIdx? p))) := by
 refine ret_of (nt := 19) (rvs := [.tmp 4]) Tryz.func160 rfl rfl rfl rfl (fun X => ?_)
 repeat' (first | exact aa | ((conv => whnf) <;> (first | rw [hg] | exact upto_succ (by assumption) (by assumption) | refine loopN l.length (fun k => [(8, .i .i64 k)]) (fun k => []) (fun k => ∀ j, j < k → p (l.getD j default) = false) ⟨fun _ h => by omega, ?_⟩ | refine And.intro ?_ ?_ | (intro _h; first | contradiction | (try simp only [dd] at _h)) | (refine dt_go ?_) | exact rfl | exact True.intro | exact dkk | exact dks | ((first | refine .inl ⟨_, hp _ (by omega), ?_⟩ | refine ⟨_, hp _ (by omega), ?_⟩); (try rintro _ rfl)) | (refine wrap_succ ?_; omega))))
 ·exact leaf_i (idx_some (by omega) (by assumption) (by assumption))
 ·exact leaf_i (idx_none fun j hj => by have := ‹∀ j, j < _ → p (l.getD j default) = false›; exact this j (by omega))
theorem containsFuncInt64_ok (l : List Int) (g : Nat) {fv} (hg : env.F.get g = some fv) (p : Int → Bool) (hl : l.length ≤ 1048576) (hp : ∀ k, k < l.length → Ret env.P g (.i .i64 (l.getD k default) :: []) (fun r => r = .b (p (l.getD k default)))) :
  Ret env.P 119 [slL 1 intC l, .fn g []] (fun r => r = .b (l.any p)) := by
 refine ret_of (nt := 9) (rvs := [.tmp 4]) Tryz.func119 rfl rfl rfl rfl (fun X => ?_)
 repeat' (first | exact aa | ((conv => whnf) <;> (first | refine And.intro ?_ ?_ | (intro _h; first | contradiction | (try simp only [dd] at _h)) | (refine dt_go ?_) | exact rfl | exact True.intro | exact dkk | exact dks | ((first | refine .inl ⟨_, indexFuncInt64_ok l g hg p hl hp, ?_⟩ | refine ⟨_, indexFuncInt64_ok l g hg p hl hp, ?_⟩); (try rintro _ rfl)) | (refine wrap_succ ?_; omega))))
 all_goals exact leaf_b (idx_any _ _)
theorem onStack1_ok (c : Call) (w : Int) : Ret env.P 161 [.agg c.cs, rfL [.i .i64 w]] (fun r => r = .b (calP w c)) := by
 refine ret_of (nt := 8) (rvs := [.tmp 3]) Tryz.func161 rfl rfl rfl rfl (fun X => ?_)
 repeat' (first | exact aa | ((conv => whnf) <;> (first | refine And.intro ?_ ?_ | (intro _h; first | contradiction | (try simp only [dd] at _h)) | (refine dt_go ?_) | exact rfl | exact True.intro | exact dkk | exact dks | (refine wrap_succ ?_; omega))))
 all_goals exact rfl
theorem onStack_ok (y : Yard) (hl : y.stack.length ≤ 1048576) (w : Int) : Ret env.P 121 [.agg y.cs, .i .i64 w] (fun r => r = .b (onS y.stack w)) := by
 refine ret_of (nt := 9) (rvs := [.tmp 4]) Tryz.func121 rfl rfl rfl rfl (fun X => ?_)
 repeat' (first | exact aa | ((conv => whnf) <;> (first | refine And.intro ?_ ?_ | (intro _h; first | contradiction | (try simp only [dd] at _h)) | (refine dt_go ?_) | exact rfl | exact True.intro | exact dkk | exact dks | ((first | refine .inl ⟨_, Ret.wke (containsFuncCall1_ok y.stack _ rfl [.i .i64 w] (calP w) hl (fun k hk => onStack1_ok _ _)), ?_⟩ | refine ⟨_, Ret.wke (containsFuncCall1_ok y.stack _ rfl [.i .i64 w] (calP w) hl (fun k hk => onStack1_ok _ _)), ?_⟩); (try rintro _ rfl)) | (refine wrap_succ ?_; omega))))
 all_goals exact rfl
theorem stackOk1_ok (n : Int) : Ret env.P 120 [.i .i64 n] (fun r => r = .b (idBad n)) := by
 refine ret_of (nt := 6) (rvs := [.tmp 2]) Tryz.func120 rfl rfl rfl rfl (fun X => ?_)
 repeat' (first | exact aa | ((conv => whnf) <;> (first | refine And.intro ?_ ?_ | (intro _h; first | contradiction | (try simp only [dd] at _h)) | (refine dt_go ?_) | exact rfl | exact True.intro | exact dkk | exact dks | ((first | refine .inl ⟨_, isId_ok _, ?_⟩ | refine ⟨_, isId_ok _, ?_⟩); (try rintro _ rfl)) | (refine wrap_succ ?_; omega))))
 all_goals exact rfl
theorem instances_ok (y : Yard) (h : y.shelf.tables.length ≤ 1048576) : Ret env.P 159 [.agg y.cs] (fun r => r = .i .i64 ((y.shelf.tables.length : Int) - 1)) := by
 refine ret_of (nt := 8) (rvs := [.tmp 2]) Tryz.func159 rfl rfl rfl rfl (fun X => ?_)
 repeat' (first | exact aa | ((conv => whnf) <;> (first | refine And.intro ?_ ?_ | (intro _h; first | contradiction | (try simp only [dd] at _h)) | (refine dt_go ?_) | exact rfl | exact True.intro | exact dkk | exact dks | ((first | refine .inl ⟨_, sizeTable_ok _ h, ?_⟩ | refine ⟨_, sizeTable_ok _ h, ?_⟩); (try rintro _ rfl)) | (refine wrap_succ ?_; omega))))
 all_goals exact leaf_i (wrap_in (by omega) (by omega))
theorem isInstance_ok (y : Yard) (h : y.shelf.tables.length ≤ 1048576) (w : Int) : Ret env.P 118 [.agg y.cs, .i .i64 w] (fun r => r = .b (pb (y.isI w))) := by
 refine ret_of (nt := 9) (rvs := [.tmp 4]) Tryz.func118 rfl rfl rfl rfl (fun X => ?_)
 repeat' (first | exact aa | ((conv => whnf) <;> (first | refine And.intro ?_ ?_ | (intro _h; first | contradiction | (try simp only [dd] at _h)) | (refine dt_go ?_) | exact rfl | exact True.intro | exact dkk | exact dks | ((first | refine .inl ⟨_, instances_ok y h, ?_⟩ | refine ⟨_, instances_ok y h, ?_⟩); (try rintro _ rfl)) | ((first | refine .inl ⟨_, within_ok _ _ _, ?_⟩ | refine ⟨_, within_ok _ _ _, ?_⟩); (try rintro _ rfl)) | (refine wrap_succ ?_; omega))))
 all_goals (refine leaf_p ?_; rw [decide_eq_true_eq]; unfold Yard.isI; omega)
def below (l : List Call) (k : Nat) : Yard := ⟨⟨0, [], []⟩, l.take k, 0, []⟩
theorem below_le {l : List Call} (h : l.length ≤ 1048576) (k : Nat) : (below l k).stack.length ≤ 1048576 := by
 show (l.take k).length ≤ _
 rw [List.length_take]
 omega
set_option maxHeartbeats 2000000 in
theorem stackOk_ok (y : Yard) (h : y.ok) : Ret env.P 79 [.agg y.cs] (fun r => r = .b (pb y.goodS)) := by
 have hl : y.shelf.tables.length ≤ 1048576 := h.1.1.1
 have hs : y.stack.length ≤ 1048576 := h.2.1.1
 have ha : ∀ k, k < y.stack.length → (y.stack.getD k default).args.length ≤ 1048576 := fun k hk => (h.2.1.2 k hk).1
 refine ret_of (nt := 71) (rvs := [.tmp 2]) Tryz.func79 rfl rfl rfl rfl (fun X => ?_)
 repeat' (first | exact aa | ((conv => whnf) <;> (first | ((first | refine .inl ⟨_, Ret.wk (.cons (Wk.agg (.cons (.refl _) (.cons .nilS (.cons .nilS (.cons (Wk.take (l := y.stack) (by omega) (fun _ _ => by simp only [Int.toNat_zero, Nat.zero_add])) (.cons (.refl _) (.cons .nilS .nil))))))) (.cons (.refl _) .nil)) (onStack_ok (below y.stack _) (below_le hs _) _), ?_⟩ | refine ⟨_, Ret.wk (.cons (Wk.agg (.cons (.refl _) (.cons .nilS (.cons .nilS (.cons (Wk.take (l := y.stack) (by omega) (fun _ _ => by simp only [Int.toNat_zero, Nat.zero_add])) (.cons (.refl _) (.cons .nilS .nil))))))) (.cons (.refl _) .nil)) (onStack_ok (below y.stack _) (below_le hs _) _), ?_⟩); (try rintro _ rfl)) | refine loopN y.stack.length (fun k => [(10, .i .i64 k)]) (fun k => [none, some (.box [.i .i64 (prevC y.stack k).id, .i .i64 (prevC y.stack k).caller, .i .i64 (prevC y.stack k).callee, .any])]) (fun k => y.UpC k) ⟨y.upC_zero, ?_⟩ | refine And.intro ?_ ?_ | (intro _h; first | contradiction | (try simp only [dd] at _h)) | (refine dt_go ?_) | exact rfl | exact True.intro | exact dkk | exact dks | ((first | refine .inl ⟨_, within_ok _ _ _, ?_⟩ | refine ⟨_, within_ok _ _ _, ?_⟩); (try rintro _ rfl)) | ((first | refine .inl ⟨_, isInstance_ok y hl _, ?_⟩ | refine ⟨_, isInstance_ok y hl _, ?_⟩); (try rintro _ rfl)) | ((first | refine .inl ⟨_, containsFuncInt64_ok _ _ rfl idBad (ha _ (by omega)) (fun k hk => stackOk1_ok _), ?_⟩ | refine ⟨_, containsFuncInt64_ok _ _ rfl idBad (ha _ (by omega)) (fun k hk => stackOk1_ok _), ?_⟩); (try rintro _ rfl)) | (refine wrap_succ ?_; omega))))
 all_goals (first | refine leaf_f ?_ | refine leaf_t ?_ | refine leaf_p ?_ | (conv => whnf) | skip)
 all_goals (try simp only [Int.sub_zero, Int.toNat_natCast, Classical.not_not, Bool.not_eq_false] at *)
 all_goals first
  | (refine Yard.notS ‹_› ?_; rintro ⟨g1, g2, g3, g4, g5, g6, g7⟩; first | omega | exact Bool.noConfusion (g7.symm.trans ‹onS (below _ _).stack _ = true›) | exact Bool.noConfusion (g6.symm.trans ‹List.any _ idBad = true›) | exact absurd g4 ‹_›)
  | exact Yard.upC_succ ‹_› ⟨by omega, by omega, ‹_›, ‹_›, by omega, ‹_›, ‹onS (below _ _).stack _ = false›⟩
  | (rw [decide_eq_true_eq]; exact ⟨fun q => ⟨fun k hk => (‹y.UpC _› : y.UpC _).h k (by omega), ‹_›, by omega⟩, fun q => by have := q.2.2; omega⟩)
  | exact fun q => ‹¬ (1 ≤ y.next ∧ y.next ≤ 1000000)› q.2.1
theorem deadOk_ok (y : Yard) (h : y.ok) : Ret env.P 80 [.agg y.cs] (fun r => r = .b (pb y.goodD)) := by
 have hl : y.shelf.tables.length ≤ 1048576 := h.1.1.1
 have hs : y.stack.length ≤ 1048576 := h.2.1.1
 have hd : y.dead.length ≤ 1048576 := h.2.2.1
 refine ret_of (nt := 48) (rvs := [.tmp 2]) Tryz.func80 rfl rfl rfl rfl (fun X => ?_)
 repeat' (first | exact aa | ((conv => whnf) <;> (first | refine loopN y.dead.length (fun k => [(8, .i .i64 k)]) (fun k => []) (fun k => y.UpD k) ⟨y.upD_zero, ?_⟩ | refine And.intro ?_ ?_ | (intro _h; first | contradiction | (try simp only [dd] at _h)) | (refine dt_go ?_) | exact rfl | exact True.intro | exact dkk | exact dks | ((first | refine .inl ⟨_, isInstance_ok y hl _, ?_⟩ | refine ⟨_, isInstance_ok y hl _, ?_⟩); (try rintro _ rfl)) | ((first | refine .inl ⟨_, onStack_ok y hs _, ?_⟩ | refine ⟨_, onStack_ok y hs _, ?_⟩); (try rintro _ rfl)) | (refine wrap_succ ?_; omega))))
 all_goals (first | refine leaf_f ?_ | refine leaf_t ?_ | refine leaf_p ?_ | (conv => whnf) | skip)
 all_goals (try simp only [Int.toNat_natCast, Classical.not_not, Bool.not_eq_false] at *)
 all_goals (try simp (disch := omega) only [wrap_in] at *)
 all_goals first
  | (show (0 : Int) ≤ _; try (have g := ‹y.isI _›; unfold Yard.isI at g); omega)
  | (show (_ : Int) < _; try (have g := ‹y.isI _›; unfold Yard.isI at g); omega)
  | (refine Yard.notD ‹_› ?_; rintro ⟨g1, g2, g3, g4⟩; first | omega | exact absurd g1 ‹_› | exact Bool.noConfusion (g2.symm.trans ‹onS _ _ = true›) | (rw [prevD_pos ‹_›] at g4; omega))
  | exact Yard.upD_succ ‹_› ⟨‹_›, ‹_›, by omega, by first | (rw [prevD_pos ‹_›]; omega) | (rw [prevD_zero ‹_›]; have g := ‹y.isI _›; unfold Yard.isI at g; omega)⟩
  | exact fun k hk => (‹y.UpD _› : y.UpD _).h k (by omega)
  | trace_state
theorem borrowsOk1_ok (c : Call) (i : Int) (e : Entry) : Ret env.P 123 [.agg c.cs, rfL [.i .i64 i], rfL e.cs] (fun r => r = .b (borP i e c)) := by
 refine ret_of (nt := 23) (rvs := [.tmp 4]) Tryz.func123 rfl rfl rfl rfl (fun X => ?_)
 repeat' (first | exact aa | ((conv => whnf) <;> (first | refine And.intro ?_ ?_ | (intro _h; first | contradiction | (try simp only [dd] at _h)) | (refine dt_go ?_) | exact rfl | exact True.intro | exact dkk | exact dks | (refine wrap_succ ?_; omega))))
 all_goals (refine leaf_b ?_; unfold borP; simp_all)
theorem borrowsOk_ok (y : Yard) (h : y.ok) : Ret env.P 81 [.agg y.cs] (fun r => r = .b (pb y.goodB)) := by
 have hl : y.shelf.tables.length ≤ 1048576 := h.1.1.1
 have hs : y.stack.length ≤ 1048576 := h.2.1.1
 refine ret_of (nt := 35) (rvs := [.tmp 2]) Tryz.func81 rfl rfl rfl rfl (fun X => ?_)
 repeat' (first | exact aa | ((conv => whnf) <;> (first | refine loopAt 11 y.shelf.tables.length (fun i => [(11, .i .i64 i)]) (fun i => []) (fun i => y.UpB i 0) rfl ⟨y.upB_zero, ?_⟩ | (rename_i i _ _; have he : (y.shelf.tables.getD (i : Int).toNat default).entries.length ≤ 1048576 := (h.1.1.2 i (by omega)).1; refine loopAt 19 (y.shelf.tables.getD (i : Int).toNat default).entries.length (fun k => [(19, .i .i64 k)]) (fun k => []) (fun k => y.UpB i k) rfl ⟨by assumption, ?_⟩) | refine And.intro ?_ ?_ | (intro _h; first | contradiction | (try simp only [dd] at _h)) | (refine dt_go ?_) | exact rfl | exact True.intro | exact dkk | exact dks | ((first | refine .inl ⟨_, Ret.wke (containsFuncCall2_ok y.stack _ rfl _ _ (borP _ _) hs (fun k hk => borrowsOk1_ok _ _ _)), ?_⟩ | refine ⟨_, Ret.wke (containsFuncCall2_ok y.stack _ rfl _ _ (borP _ _) hs (fun k hk => borrowsOk1_ok _ _ _)), ?_⟩); (try rintro _ rfl)) | (refine wrap_succ ?_; omega))))
 all_goals (first | refine leaf_f ?_ | refine leaf_t ?_ | refine leaf_p ?_ | (conv => whnf) | skip)
 all_goals (try simp only [Int.toNat_natCast, Classical.not_not, Bool.not_eq_false] at *)
 all_goals first
  | exact Yard.notB ‹_› ‹_› (fun g => g.elim (fun g => Bool.noConfusion (g.symm.trans ‹Entry.own _ = false›)) (fun g => Bool.noConfusion (g.symm.trans ‹List.any _ _ = false›)))
  | exact Yard.upB_succ ‹_› (.inl ‹_›)
  | exact Yard.upB_succ ‹_› (.inr ‹_›)
  | exact Yard.upB_next ‹_› (by omega)
  | exact fun i k hi hk => (‹y.UpB _ 0› : y.UpB _ 0).h i k hi hk (by omega)
theorem yardOk_impl (y : Yard) (h : y.ok) : Ret env.P 37 [.agg y.cs] (fun r => r = .b (pb y.good)) := by
 have hl : y.shelf.tables.length ≤ 1048576 := h.1.1.1
 refine ret_of (nt := 25) (rvs := [.tmp 2]) Tryz.func37 rfl rfl rfl rfl (fun X => ?_)
 repeat' (first | exact aa | ((conv => whnf) <;> (first | refine And.intro ?_ ?_ | (intro _h; first | contradiction | (try simp only [dd] at _h)) | (refine dt_go ?_) | exact rfl | exact True.intro | exact dkk | exact dks | ((first | refine .inl ⟨_, shelfOk_ok y.shelf h.1, ?_⟩ | refine ⟨_, shelfOk_ok y.shelf h.1, ?_⟩); (try rintro _ rfl)) | ((first | refine .inl ⟨_, sizeTable_ok _ hl, ?_⟩ | refine ⟨_, sizeTable_ok _ hl, ?_⟩); (try rintro _ rfl)) | ((first | refine .inl ⟨_, within_ok _ _ _, ?_⟩ | refine ⟨_, within_ok _ _ _, ?_⟩); (try rintro _ rfl)) | ((first | refine .inl ⟨_, stackOk_ok y h, ?_⟩ | refine ⟨_, stackOk_ok y h, ?_⟩); (try rintro _ rfl)) | ((first | refine .inl ⟨_, deadOk_ok y h, ?_⟩ | refine ⟨_, deadOk_ok y h, ?_⟩); (try rintro _ rfl)) | ((first | refine .inl ⟨_, borrowsOk_ok y h, ?_⟩ | refine ⟨_, borrowsOk_ok y h, ?_⟩); (try rintro _ rfl)) | (refine wrap_succ ?_; omega))))
 all_goals (first | refine leaf_f ?_ | refine leaf_t ?_ | refine leaf_p ?_ | (conv => whnf) | skip)
 all_goals (try simp only [pb_t] at *)
 all_goals first
  | exact ⟨fun q => ⟨‹_›, by omega, ‹_›, ‹_›, q⟩, fun q => q.2.2.2.2⟩
  | exact fun q => ‹¬ y.shelf.good› q.1
  | exact fun q => ‹¬ y.goodS› q.2.2.1
  | exact fun q => ‹¬ y.goodD› q.2.2.2.1
  | exact fun q => by have := q.2.1; omega
  | trace_state
theorem top_in {y : Yard} (h : y.good) (hs : ¬ y.stack.length = 0) : y.isI (topV y.stack) := by
 unfold topV
 rw [if_neg hs]
 exact (h.2.2.1.1 (y.stack.length - 1) (by omega)).2.2.2.1
theorem top_who {y : Yard} (h : y.good) (hs : ¬ y.stack.length = 0) : 0 ≤ topV y.stack ∧ topV y.stack < (y.shelf.tables.length : Int) := by
 have := top_in h hs
 exact ⟨by have := this.1; omega, this.2⟩
end Go.Proofs.YtmjjadcmmpfljaaGreat
