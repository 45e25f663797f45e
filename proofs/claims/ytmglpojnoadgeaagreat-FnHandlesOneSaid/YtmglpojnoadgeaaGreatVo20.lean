/- Texts for VHandlesOneP. -/
import Derived.Test.YtmglpojnoadgeaaGreatVo19
namespace Go.Proofs.YtmglpojnoadgeaaGreat
open Go Go.RowKit
set_option linter.unusedVariables false
set_option linter.unusedSimpArgs false
section
def Src.rm (s : Src) (n : Int) : Prop := 0 ≤ s.at' ∧ s.at' + n ≤ 100000000 ∧ s.code.length ≤ 1048576
theorem Src.rm_i {s : Src} {n : Int} (h1 : 0 ≤ s.at') (h2 : s.at' + n ≤ 100000000) (h3 : s.code.length ≤ 1048576) : s.rm n := ⟨h1, h2, h3⟩
theorem Src.rm.ok {s : Src} {n : Int} (h : s.rm n) (hn : 1 ≤ n) : s.ok 1 := ⟨h.1, by have := h.2.1; omega, h.2.2⟩
theorem pickS_at (s : Src) (n : Int) : s.at' ≤ (s.pickS n).at' ∧ (s.pickS n).at' ≤ s.at' + 1 ∧ (s.pickS n).code.length = s.code.length := by
 unfold Src.pickS
 split
 ·exact ⟨by omega, by omega, rfl⟩
 ·refine ⟨?_, ?_, rfl⟩ <;> (simp only [Src.next]; omega)
theorem pick_le' (s : Src) (n : Int) : 0 ≤ s.pickV n ∧ (s.pickV n = 0 ∨ s.pickV n < n) := by
 have := pick_le s n
 by_cases h : 1 ≤ n
 ·exact ⟨this.1, .inr (this.2 h)⟩
 ·refine ⟨this.1, .inl ?_⟩
  unfold Src.pickV
  rw [if_pos (by omega)]
theorem pick_ex (s : Src) (h : s.rm 1) (n : Int) (hn : n ≤ 200) : RetM env.P 23 [some (boxRow s.cs)] [.ptr 0 0 0, .i .i64 n] (fun r H => ∃ (v : Int) (t : Src), (0 ≤ v ∧ (v = 0 ∨ v < n)) ∧ (s.at' ≤ t.at' ∧ t.at' ≤ s.at' + 1 ∧ t.code.length = s.code.length) ∧ r = .i .i64 v ∧ H = [some (boxRow t.cs)]) :=
 (pick_ok s (h.ok (by omega)) n hn).mono fun r H hr => ⟨_, _, pick_le' s n, pickS_at s n, hr⟩
theorem one_ex (s : Src) (h : s.rm 1) (n : Int) (hn : n ≤ 200) : RetM env.P 97 [some (boxRow s.cs)] [.ptr 0 0 0, .i .i64 n] (fun r H => ∃ (v : Bool) (t : Src), (s.at' ≤ t.at' ∧ t.at' ≤ s.at' + 1 ∧ t.code.length = s.code.length) ∧ r = .b v ∧ H = [some (boxRow t.cs)]) :=
 (one_ok s (h.ok (by omega)) n hn).mono fun r H hr => ⟨_, _, pickS_at s n, hr⟩
theorem l19At_ex (x : Shelf) (hx : x.Soft) (who num : Int) : Ret env.P 85 [rfL x.cs, .i .i64 who, .i .i64 num] (fun r => ∃ (e : Entry) (b : Bool), (b = true → ∃ k : Nat, x.thing e.id = some k ∧ k < x.things.length) ∧ r = .tup [.agg e.cs, .b b]) :=
 (l19At_ok x hx.ok who num).mono fun r hr => by
  cases hE : x.at_ who num with
  | none => rw [hE] at hr; exact ⟨_, false, fun h => (by cases h), hr⟩
  | some e =>
   rw [hE] at hr
   exact ⟨e, true, fun _ => soft_thing hx hE, hr⟩
theorem l19Thing_at (x : Shelf) (hx : x.Soft) {id : Int} {k : Nat} (h : x.thing id = some k) : Ret env.P 98 [rfL x.cs, .i .i64 id] (fun r => r = .i .i64 k) :=
 (l19Thing_ok x hx.ok id).mono fun r hr => by rw [h] at hr; exact hr
theorem len200 {n : Nat} (h : n ≤ 12) : (n : Int) ≤ 200 := by omega
theorem fine_i {k who num res to scope : Int} (h1 : 0 ≤ who ∧ who ≤ 6) (h2 : 0 ≤ to ∧ to ≤ 6) (h : (k = 1 ∧ (1 ≤ res ∧ res ≤ 8) ∧ (num = 0 ∧ to = 0 ∧ scope = 0)) ∨ (k = 2 ∧ (1 ≤ num ∧ num ≤ 1000000) ∧ (1 ≤ res ∧ res ≤ 8) ∧ scope = 0) ∨ (k = 3 ∧ (1 ≤ num ∧ num ≤ 1000000) ∧ (1 ≤ res ∧ res ≤ 8) ∧ (1 ≤ scope ∧ scope ≤ 1000000)) ∨ (k = 4 ∧ (1 ≤ num ∧ num ≤ 1000000) ∧ (res = 0 ∧ to = 0 ∧ scope = 0)) ∨ (k = 5 ∧ (1 ≤ scope ∧ scope ≤ 1000000) ∧ (who = 0 ∧ num = 0 ∧ res = 0 ∧ to = 0)) ∨ (k = 6 ∧ num = 0 ∧ res = 0 ∧ to = 0 ∧ scope = 0)) : ShelfAct.fine ⟨k, who, num, res, to, scope⟩ = true := by
 unfold ShelfAct.fine
 rw [decide_eq_true_eq]
 dsimp only
 refine ⟨h1, h2, ?_⟩
 rcases h with ⟨rfl, h⟩ | ⟨rfl, h⟩ | ⟨rfl, h⟩ | ⟨rfl, h⟩ | ⟨rfl, h⟩ | ⟨rfl, h⟩
 all_goals (simp; try omega)
theorem tab_eq {l : List Table} {w : Nat} {v : AV} {i j : Nat} (hj : j < 2) : upd (upd (elE Table.csO l) w 1 [v]) w 1 [.ow 7 (l.getD w default).entries.length (elE Entry.cs (l.getD w default).entries)] i j = elE Table.csO l i j := by
 by_cases e : i = w
 ·subst e
  rcases (show j = 0 ∨ j = 1 by omega) with rfl | rfl
  ·simp only [upd, Nat.beq_refl]; rfl
  ·simp only [upd, Nat.beq_refl]; rfl
 ·simp only [upd, beq_ff e, Bool.and_false, cond_false]
theorem tab_back {l : List Table} {w : Nat} {v : AV} : ∀ i j, i < l.length → j < 2 → OwEq (upd (upd (elE Table.csO l) w 1 [v]) w 1 [.ow 7 (l.getD w default).entries.length (elE Entry.cs (l.getD w default).entries)] i j) (elE Table.csO l i j) := fun i j _ hj => by
 rw [tab_eq hj]; exact .refl _
def actZ : List AV := [.i .i64 0, .i .i64 0, .i .i64 0, .i .i64 0, .i .i64 0, .i .i64 0]
theorem tn_lt {w : Int} {m : Nat} (h : 0 ≤ w ∧ (w = 0 ∨ w < (m : Int))) (h1 : 1 ≤ m) : w.toNat < m := by omega
attribute [local irreducible] IntKind.wrap
def Shelf.bx (x : Shelf) (k : Nat) : List AV := [.i .i64 x.next, .row k x.tables.length, .row (k + 1) x.things.length]
set_option maxRecDepth 8000 in
set_option maxHeartbeats 16000000 in
theorem l19Act_ok (x : Shelf) (hx : x.Soft) (s : Src) (h : s.rm 10) : RetM env.P 53 [some (boxRow s.cs), some (boxRow (x.bx 2)), some (rowL 2 Table.csO x.tables), some (rowL 3 Thing.cs x.things)] [.ptr 0 0 0, .ptr 1 0 0] (fun r H => ∃ (a : ShelfAct) (t : Src), ShelfAct.fine a = true ∧ (s.at' ≤ t.at' ∧ t.at' ≤ s.at' + 10 ∧ t.code.length = s.code.length) ∧ r = .agg a.cs ∧ H = [some (boxRow t.cs), some (boxRow (x.bx 2)), some (rowL 2 Table.csO x.tables), some (rowL 3 Thing.cs x.things)]) := by
 have hl : x.tables.length ≤ 7 := hx.t7
 have hl1 : 1 ≤ x.tables.length := hx.t1
 have hl2 : x.things.length ≤ 25 := hx.n25
 have hl3 : ∀ i, (x.tables.getD i default).entries.length ≤ 12 := hx.e12
 obtain ⟨h1, h2, h3⟩ := h
 refine ret_ofPM (nt := 124) (rvs := [.cell 4 58]) Tryz.func53 rfl rfl rfl rfl (fun X hX => ?_)
 refine pw_cut 4 (fun y : Src × Int × Int => (s.at' ≤ y.1.at' ∧ y.1.at' ≤ s.at' + 2 ∧ y.1.code.length = s.code.length) ∧ (0 ≤ y.2.1 ∧ y.2.1 < x.tables.length) ∧ (1 ≤ y.2.2 ∧ y.2.2 ≤ 1000000))
  (fun y => [(0, .ptr 0 0 0), (1, .ptr 1 0 0), (4, .ptr 4 0 0), (5, .i .i64 y.2.1), (6, .i .i64 y.2.2)])
  (fun y => [some (boxRow y.1.cs), some (boxRow (x.bx 2)), some (rowL 2 Table.csO x.tables), some (rowL 3 Thing.cs x.things), some (boxRow actZ), none, none]) ?_ (fun y hy => ?_)
 ·repeat' (first | exact aa | ((conv => whnf) <;> (first | exact len200 (hl3 _) | (refine dt_goC (id := 5) [0] ?_) | (refine Src.rm_i ?_ ?_ ?_) | refine And.intro ?_ ?_ | (intro _h; first | contradiction | (try simp only [dd] at _h)) | (refine dt_go ?_) | exact rfl | exact True.intro | exact dkk | exact dks | (refine .inr (.inl (.inl ⟨[0], _, _, _, pick_ex _ ?_ _ ?_, viewA, ⟨rfl, rfl⟩, ?_⟩)); rotate_left 2; rintro _ _ ⟨_, _, _, _, rfl, rfl⟩; refine ⟨rfl, _, lokA, ?_⟩) | (refine wrap_succ ?_; omega))))
  all_goals (conv => whnf)
  all_goals refine cut_turn (turn_close (id := 2) (j := 1) (id' := 5) rfl (show Int.toNat _ < x.tables.length from tn_lt (by assumption) hl1) (show 1 < 2 by decide) (by exact upd_self) rfl (show 2 ≠ 5 by decide) rfl (rowO_le (Nat.le_refl _))) ?_
  all_goals refine cut_turn (turn_eq (id := 2) (x := rowL 2 Table.csO x.tables) rfl rfl rfl rfl rfl tab_back) ?_
  all_goals (refine cut_go (_, _, _) ?_ (by repeat' (first | exact trivial | refine And.intro rfl ?_)) (by repeat' (first | exact trivial | refine And.intro (.inl rfl) ?_ | refine And.intro (.inr rfl) ?_)); dsimp only; (try simp only [Int.toNat_natCast]); refine ⟨⟨?_, ?_, ?_⟩, ⟨?_, ?_⟩, ⟨?_, ?_⟩⟩ <;> (first | omega | exact (hx.nm _ _ (by omega) (by omega)).1 | exact (hx.nm _ _ (by omega) (by omega)).2))
 ·obtain ⟨t, who, num⟩ := y
  obtain ⟨ht, hw, hn⟩ := hy
  dsimp only at ht hw hn
  refine pw_cut 2 (fun y : Src × Int => (s.at' ≤ y.1.at' ∧ y.1.at' ≤ s.at' + 4 ∧ y.1.code.length = s.code.length) ∧ (1 ≤ y.2 ∧ y.2 ≤ 8))
   (fun y => [(0, .ptr 0 0 0), (1, .ptr 1 0 0), (4, .ptr 4 0 0), (5, .i .i64 who), (6, .i .i64 num), (8, .i .i64 y.2)])
   (fun y => [some (boxRow y.1.cs), some (boxRow (x.bx 2)), some (rowL 2 Table.csO x.tables), some (rowL 3 Thing.cs x.things), some (boxRow actZ), none, none, none]) ?_ (fun y hy => ?_)
  ·dsimp only
   repeat' (first | exact aa | ((conv => whnf) <;> (first | (refine Src.rm_i ?_ ?_ ?_) | ((first | refine .inl ⟨_, Ret.wka (l19At_ex x hx _ _), ?_⟩ | refine ⟨_, Ret.wka (l19At_ex x hx _ _), ?_⟩); rintro _ ⟨e, b, he, rfl⟩) | (obtain ⟨k, hk1, hk2⟩ := he ‹b = true›; refine ⟨_, Ret.wka (l19Thing_at x hx hk1), ?_⟩) | refine And.intro ?_ ?_ | (intro _h; first | contradiction | (try simp only [dd] at _h)) | (refine dt_go ?_) | exact rfl | exact True.intro | exact dkk | exact dks | (refine .inr (.inl (.inl ⟨[0], _, _, _, pick_ex _ ?_ _ ?_, viewA, ⟨rfl, rfl⟩, ?_⟩)); rotate_left 2; rintro _ _ ⟨_, _, _, _, rfl, rfl⟩; refine ⟨rfl, _, lokA, ?_⟩) | (refine .inr (.inl (.inl ⟨[0], _, _, _, one_ex _ ?_ _ ?_, viewA, ⟨rfl, rfl⟩, ?_⟩)); rotate_left 2; rintro _ _ ⟨_, _, _, rfl, rfl⟩; refine ⟨rfl, _, lokA, ?_⟩) | (refine wrap_succ ?_; omega))))
   all_goals (conv => whnf)
   all_goals (refine cut_go (_, _) ?_ (by repeat' (first | exact trivial | refine And.intro rfl ?_)) (by repeat' (first | exact trivial | refine And.intro (.inl rfl) ?_ | refine And.intro (.inr rfl) ?_ | refine And.intro rfl ?_)); dsimp only; (try simp only [Int.toNat_natCast]); refine ⟨⟨?_, ?_, ?_⟩, ?_, ?_⟩ <;> (first | omega | exact (hx.rs _ (by omega)).1 | exact (hx.rs _ (by omega)).2 | (rw [wrap_in (by omega) (by omega)]; omega)))
  ·obtain ⟨t2, res⟩ := y
   obtain ⟨ht2, hr⟩ := hy
   dsimp only at ht2 hr
   dsimp only
   refine wpc_ok _ _ _ _ ?_
   repeat' (first | exact aa | ((conv => whnf) <;> (first | (refine Src.rm_i ?_ ?_ ?_) | refine And.intro ?_ ?_ | (intro _h; first | contradiction | (try simp only [dd] at _h)) | (refine dt_go ?_) | exact rfl | exact True.intro | exact dkk | exact dks | (refine .inr (.inl (.inl ⟨[0], _, _, _, pick_ex _ ?_ _ ?_, viewA, ⟨rfl, rfl⟩, ?_⟩)); rotate_left 2; rintro _ _ ⟨_, _, _, _, rfl, rfl⟩; refine ⟨rfl, _, lokA, ?_⟩) | (refine .inr (.inl (.inl ⟨[0], _, _, _, one_ex _ ?_ _ ?_, viewA, ⟨rfl, rfl⟩, ?_⟩)); rotate_left 2; rintro _ _ ⟨_, _, _, rfl, rfl⟩; refine ⟨rfl, _, lokA, ?_⟩) | (refine wrap_succ ?_; omega))))
   all_goals (conv => whnf)
   all_goals refine endM_pick [0, 1, 2, 3] [some (boxRow (Src.cs _)), some (boxRow (x.bx 2)), some (rowL 2 Table.csO x.tables), some (rowL 3 Thing.cs x.things)] (.agg [.i .i64 _, .i .i64 _, .i .i64 _, .i .i64 _, .i .i64 _, .i .i64 _]) (view_of rfl (.cons rfl (.self (rowPl_box rfl)) (.cons rfl (rowBack_box rfl rfl) (.cons rfl (.self (rowPl_L fun _ => rfl)) (.cons rfl (.self (rowPl_L fun _ => rfl)) .nil))))) rfl rfl (by rw [hX]; exact keepK (n := 4) rfl rfl) ⟨⟨_, _, _, _, _, _⟩, _, ?_, ?_, rfl, rfl⟩
   all_goals first
    | omega
    | exact fine_i (by omega) (by omega) (by omega)
    | (rw [wrap_in (by omega) (by omega)]; exact fine_i (by omega) (by omega) (by omega))
    | trace_state
end
end Go.Proofs.YtmglpojnoadgeaaGreat
