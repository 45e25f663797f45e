import Derived.Test.YthggkafdjnheeaaGreatVq3
import Derived.Test.YthggkafdjnheeaaGreatVq1
import Derived.Test.YthggkafdjnheeaaGreatVq4
namespace Go.Proofs.YthggkafdjnheeaaGreat
open Go Go.RowKit
set_option linter.unusedVariables false
set_option linter.unusedSimpArgs false
set_option maxRecDepth 8000
def Shelf.noMake (s : Shelf) (who : Nat) : Prop := 24 ≤ s.things.length ∨ 1000000 ≤ s.next ∨ s.fullB who
def Shelf.made (s : Shelf) (who : Nat) (res rep : Int) : Shelf := (s.plus res rep).put who ⟨0, s.next, true, 0, 0, 0, 0⟩
theorem plus_ok {s : Shelf} (h : s.ok) (hn : s.things.length < 24) (res rep : Int) : (s.plus res rep).ok := ⟨h.1, by simp only [Shelf.plus, List.length_append, List.length_singleton]; omega, fun _ _ => trivial⟩
theorem rowNs_box {α : Type} {c : α → List AV} {a : α} [h : FreeC c] : RowNs (boxRow (c a)) := ⟨fun i j _ _ => h.h a j⟩
theorem Ret.toM {P : Program} {g : FuncId} {av : List AV} {post : AV → Prop} (h : Ret P g av post) : RetM P g [] av (fun r H => post r ∧ H = []) := fun w S blk FP us hR hc => by
  refine (h w S us (fun b hb => (hR.free b hb).1) ⟨hc.1, fun j c u hj hu => (hc.2 j c u hj hu).nil⟩).mono fun e w' ⟨r, u, he, hq, hcu, hb⟩ => ⟨r, u, [], blk, FP, he, ⟨hq, rfl⟩, ⟨fun id r hr => by simp at hr, fun i j r r' hr => by simp at hr, fun b hb => ⟨hb.2.1, fun id r hr => by simp at hr⟩⟩, ?_, HExt.refl _ _, ?_, ⟨hb.os, hb.tape, hb.output, hb.size, fun k hk _ => hb.block k hk⟩⟩
  · have hcu' : Conc w' (fun b => S b ∨ (w.heap.size ≤ b ∧ b < w'.heap.size)) blk [] r u := hcu.nil
    refine hcu'.mono (fun b hb' => ⟨⟨?_, ?_, fun id r hr => by simp at hr⟩, rfl⟩) (HExt.refl _ _)
    · rcases hb' with h | h
      · exact .inl h
      · exact .inr h.1
    · rcases hb' with h | h
      · have := (hR.free b h).1
        have := hb.size
        omega
      · exact h.2
  · rintro b ⟨id, r, hr, _⟩
    simp at hr
theorem plus_len (s : Shelf) (res rep : Int) : s.things.length + 1 = (s.plus res rep).things.length := by simp [Shelf.plus]
set_option maxHeartbeats 2000000 in
theorem l19Make_err (s : Shelf) (h : s.ok) (who res rep : Int) (hw : 0 ≤ who ∧ who < (s.tables.length : Int)) (hf : s.noMake who.toNat) : RetM env.P 95 [some (boxRow s.csO)] [.ptr 0 0 0, .i .i64 who, .i .i64 res, .i .i64 rep] (fun r H => r = .tup [.i .i64 0, .i .i64 4] ∧ H = [some (boxRow s.csO)]) := by
  have hl2 : s.things.length ≤ 1048576 := h.2.1
  have hfF : ¬ s.fullB who.toNat → 24 ≤ s.things.length ∨ 1000000 ≤ s.next := fun q => hf.elim .inl fun r => r.elim .inr fun r => absurd r q
  refine ret_ofM (nt := 60) (rvs := [.tmp 8, .tmp 9]) Tryz.func95 rfl rfl rfl rfl (fun X hX => ?_)
  repeat' (first | exact aa | ((conv => whnf) <;> (first | (exfalso; have hq := hfF ‹_›; omega) | refine And.intro ?_ ?_ | (intro _h; first | contradiction | (try simp only [dd] at _h)) | (refine dt_go ?_) | exact rfl | exact True.intro | exact dkk | exact dks | ((first | refine .inl ⟨_, Ret.wka (l19Full_ok s h who hw), ?_⟩ | refine ⟨_, Ret.wka (l19Full_ok s h who hw), ?_⟩); (try rintro _ rfl)) | (refine wrap_succ ?_; omega))))
  all_goals (conv => whnf)
  all_goals refine endM_turn (turn_close (id := 0) (i := 0) (j := 2) (id' := 1) rfl (show 0 < 1 by decide) (show 2 < 3 by decide) rfl rfl (show 0 ≠ 1 by decide) rfl (rowO_le (Nat.le_refl _))) ?_
  all_goals refine endM_turn (turn_box (id := 0) (ds := s.csO) rfl rfl rfl (.cons (.refl _) (.cons (.refl _) (.cons (.refl _) .nil)))) ?_
  all_goals exact endM_pick [0] [some (boxRow s.csO)] (.tup [.i .i64 0, .i .i64 4]) (view_of rfl (.cons rfl (.self (rowPl_box rfl)) .nil)) rfl rfl (by rw [hX]; exact keepK (n := 1) rfl rfl) ⟨rfl, rfl⟩
set_option maxHeartbeats 2000000 in
theorem l19Make_fine (s : Shelf) (h : s.ok) (who res rep : Int) (hw : 0 ≤ who ∧ who < (s.tables.length : Int)) (hn : 0 ≤ s.next) (ht : 1 ≤ (s.tables.getD who.toNat default).next) (hf : ¬ s.noMake who.toNat) : RetM env.P 95 [some (boxRow s.csO)] [.ptr 0 0 0, .i .i64 who, .i .i64 res, .i .i64 rep] (fun r H => r = .tup [.i .i64 (s.tables.getD who.toNat default).next, .i .i64 0] ∧ H = [some (boxRow (s.made who.toNat res rep).csO)]) := by
  have hl2 : s.things.length ≤ 1048576 := h.2.1
  have hf1 : s.things.length < 24 := Nat.lt_of_not_le fun q => hf (.inl q)
  have hf2 : s.next < 1000000 := Int.lt_of_not_ge fun q => hf (.inr (.inl q))
  have hf3 : ¬ s.fullB who.toNat := fun q => hf (.inr (.inr q))
  have hf4 : (s.tables.getD who.toNat default).entries.length < 12 := Nat.lt_of_not_le fun q => hf3 (.inl q)
  have hf5 : (s.tables.getD who.toNat default).next < 1000000 := Int.lt_of_not_ge fun q => hf3 (.inr q)
  have hi1 : IntKind.i64.wrap (s.next + 1) = s.next + 1 := wrap_in (by omega) (by omega)
  have hid : IntKind.i64.wrap (IntKind.i64.wrap (s.next + 1) - 1) = s.next := by rw [hi1, wrap_in (by omega) (by omega)]; omega
  refine ret_ofM (nt := 60) (rvs := [.tmp 8, .tmp 9]) Tryz.func95 rfl rfl rfl rfl (fun X hX => ?_)
  repeat' (first | exact aa | ((conv => whnf) <;> (first | (refine .inr (.inr ⟨[some (boxRow s.csO), none], (by intro X; refine Turn.trans (turn_close (id := 0) (i := 0) (j := 2) (id' := 1) rfl (show 0 < 1 by decide) (show 2 < 3 by decide) rfl rfl (show 0 ≠ 1 by decide) rfl (rowO_le (Nat.le_refl _))) ?_; exact turn_box (id := 0) (ds := s.csO) rfl rfl rfl (.cons (.refl _) (.cons (.refl _) (.cons (.refl _) .nil)))), (fun i _ q => (by cases q)), .inr ⟨_, RetM.wk (by repeat (first | exact WkL.nil | refine WkL.cons ?_ ?_ | exact Wk.refl _ | exact Wk.rfc rfl | refine Wk.fn ?_ | exact Wk.nilS0 | exact shr_L (d := 0) (k := 4) rfl | exact shr_L (d := 1) (k := 3) rfl | exact shr_L (d := 2) (k := 2) rfl | exact shr_L (d := 0) (k := 4) (by simp only [markL_len]) | exact shr_L (d := 1) (k := 3) (by simp only [markL_len]) | refine Wk.agg ?_ | exact shr_L (d := 0) (k := 3) rfl | exact shr_L (d := 1) (k := 2) rfl | exact shr_ow (d := 1) (k := 2) | exact shr_ow (d := 0) (k := 3) | refine Wk.rfLo ?_)) (Ret.toM (l19Full_ok s h who hw)), ?_⟩⟩); rintro _ _ ⟨rfl, rfl⟩; refine ⟨⟨rfl, nssA⟩, _, lokA, ?_⟩) | exact capB2 hl2 (by decide) | exact capN2 hl2 | (refine .inr (.inr ⟨[some (boxRow (s.plus res rep).csO), none, none, none, none], (by intro X; refine Turn.trans (turn_kill 1) ?_; refine Turn.trans (turn_kill 2) ?_; refine Turn.trans (turn_kill 3) ?_; refine Turn.trans (turn_close (id := 0) (i := 0) (j := 2) (id' := 4) rfl (show 0 < 1 by decide) (show 2 < 3 by decide) rfl rfl (show 0 ≠ 4 by decide) rfl ⟨Nat.le_refl _, snoc_idf (l := s.things) rfl (fun j hj => HoldC.h (c := Thing.cs) ⟨s.next, res, rep⟩ j)⟩) ?_; exact turn_box (id := 0) (ds := (s.plus res rep).csO) rfl rfl rfl (.cons (show OwEq (.i .i64 (IntKind.i64.wrap (s.next + 1))) (.i .i64 (s.next + 1)) from (by rw [wrap_in (by omega) (by omega)]; exact .refl _)) (.cons (.refl _) (.cons (OwEq.len (plus_len s res rep) (fun i j _ _ => HoldC.h _ j) (snoc_eq (l := s.things) (sz := 3) (a := ⟨s.next, res, rep⟩) (c := Thing.cs) rfl (fun j hj => .refl _))) .nil)))), (fun i _ q => (by cases q)), .inl ⟨[0], _, _, _, l19Put_ok (s.plus res rep) (plus_ok h hf1 res rep) who hw ⟨0, _, true, 0, 0, 0, 0⟩ hf4 ⟨ht, hf5⟩, (view_of rfl (.cons rfl (.self (rowPl_box rfl)) .nil)), ⟨rfl, rfl⟩, ?_⟩⟩); rintro _ _ ⟨rfl, rfl⟩; refine ⟨rfl, _, (lok_pl (.cons (rowPl_box rfl) .nil)), ?_⟩) | refine And.intro ?_ ?_ | (intro _h; first | contradiction | (try simp only [dd] at _h)) | (refine dt_go ?_) | exact rfl | exact True.intro | exact dkk | exact dks | (refine wrap_succ ?_; omega))))
  all_goals (first | contradiction | skip)
  all_goals (conv => whnf)
  all_goals refine endM_pick [0] [some (boxRow (s.made who.toNat res rep).csO)] (.tup [.i .i64 (s.tables.getD who.toNat default).next, .i .i64 0]) (view_of rfl (.cons ?_ (.self (rowPl_box rfl)) .nil)) rfl rfl (by rw [hX]; exact keepK (n := 1) rfl rfl) ⟨rfl, rfl⟩
  all_goals first
    | exact rfl
    | (refine congrArg (fun z => some (some (boxRow ((s.plus res rep).put who.toNat ⟨0, z, true, 0, 0, 0, 0⟩).csO))) ?_; exact hid)
set_option maxHeartbeats 2000000 in
theorem make_err (s : Shelf) (h : s.ok) (who res rep : Int) (hw : 0 ≤ who ∧ who < (s.tables.length : Int)) (hg1 : (s.tables.getD who.toNat default).entries.length ≤ 12) (hg2 : (s.tables.getD who.toNat default).next ≤ 1000000) (hg3 : s.things.length ≤ 24) (hg4 : s.next ≤ 1000000) (hf : s.noMake who.toNat) : RetM env.P 85 [some (boxRow s.csO)] [.ptr 0 0 0, .i .i64 who, .i .i64 res, .i .i64 rep] (fun r H => r = .tup [.i .i64 0, .i .i64 4] ∧ H = [some (boxRow s.csO)]) := by
  have hl2 : s.things.length ≤ 1048576 := h.2.1
  have hfF : ¬ s.fullB who.toNat → 24 ≤ s.things.length ∨ 1000000 ≤ s.next := fun q => hf.elim .inl fun r => r.elim .inr fun r => absurd r q
  refine ret_ofM (nt := 65) (rvs := [.tmp 8, .tmp 9]) Tryz.func85 rfl rfl rfl rfl (fun X hX => ?_)
  repeat' (first | exact aa | ((conv => whnf) <;> (first | (exfalso; have hq := hfF ‹_›; omega) | refine And.intro ?_ ?_ | (intro _h; first | contradiction | (try simp only [dd] at _h)) | (refine dt_go ?_) | exact rfl | exact True.intro | exact dkk | exact dks | ((first | refine .inl ⟨_, Ret.wka (full_ok s h who hw hg1 hg2), ?_⟩ | refine ⟨_, Ret.wka (full_ok s h who hw hg1 hg2), ?_⟩); (try rintro _ rfl)) | (refine wrap_succ ?_; omega))))
  all_goals (conv => whnf)
  all_goals refine endM_turn (turn_close (id := 0) (i := 0) (j := 2) (id' := 1) rfl (show 0 < 1 by decide) (show 2 < 3 by decide) rfl rfl (show 0 ≠ 1 by decide) rfl (rowO_le (Nat.le_refl _))) ?_
  all_goals refine endM_turn (turn_box (id := 0) (ds := s.csO) rfl rfl rfl (.cons (.refl _) (.cons (.refl _) (.cons (.refl _) .nil)))) ?_
  all_goals exact endM_pick [0] [some (boxRow s.csO)] (.tup [.i .i64 0, .i .i64 4]) (view_of rfl (.cons rfl (.self (rowPl_box rfl)) .nil)) rfl rfl (by rw [hX]; exact keepK (n := 1) rfl rfl) ⟨rfl, rfl⟩
set_option maxHeartbeats 2000000 in
theorem make_fine (s : Shelf) (h : s.ok) (who res rep : Int) (hw : 0 ≤ who ∧ who < (s.tables.length : Int)) (hg1 : (s.tables.getD who.toNat default).entries.length ≤ 12) (hg2 : (s.tables.getD who.toNat default).next ≤ 1000000) (hg3 : s.things.length ≤ 24) (hg4 : s.next ≤ 1000000) (hn : 0 ≤ s.next) (ht : 1 ≤ (s.tables.getD who.toNat default).next) (hf : ¬ s.noMake who.toNat) : RetM env.P 85 [some (boxRow s.csO)] [.ptr 0 0 0, .i .i64 who, .i .i64 res, .i .i64 rep] (fun r H => r = .tup [.i .i64 (s.tables.getD who.toNat default).next, .i .i64 0] ∧ H = [some (boxRow (s.made who.toNat res rep).csO)]) := by
  have hl2 : s.things.length ≤ 1048576 := h.2.1
  have hf1 : s.things.length < 24 := Nat.lt_of_not_le fun q => hf (.inl q)
  have hf2 : s.next < 1000000 := Int.lt_of_not_ge fun q => hf (.inr (.inl q))
  have hf3 : ¬ s.fullB who.toNat := fun q => hf (.inr (.inr q))
  have hf4 : (s.tables.getD who.toNat default).entries.length < 12 := Nat.lt_of_not_le fun q => hf3 (.inl q)
  have hf5 : (s.tables.getD who.toNat default).next < 1000000 := Int.lt_of_not_ge fun q => hf3 (.inr q)
  have hi1 : IntKind.i64.wrap (s.next + 1) = s.next + 1 := wrap_in (by omega) (by omega)
  have hid : IntKind.i64.wrap (IntKind.i64.wrap (s.next + 1) - 1) = s.next := by rw [hi1, wrap_in (by omega) (by omega)]; omega
  refine ret_ofM (nt := 65) (rvs := [.tmp 8, .tmp 9]) Tryz.func85 rfl rfl rfl rfl (fun X hX => ?_)
  repeat' (first | exact aa | ((conv => whnf) <;> (first | exact capB2 hl2 (by decide) | exact capN2 hl2 | (refine .inr (.inr ⟨[some (boxRow (s.plus res rep).csO), none, none, none], (by intro X; refine Turn.trans (turn_kill 1) ?_; refine Turn.trans (turn_kill 2) ?_; refine Turn.trans (turn_close (id := 0) (i := 0) (j := 2) (id' := 3) rfl (show 0 < 1 by decide) (show 2 < 3 by decide) rfl rfl (show 0 ≠ 3 by decide) rfl ⟨Nat.le_refl _, snoc_idf (l := s.things) rfl (fun j hj => HoldC.h (c := Thing.cs) ⟨s.next, res, rep⟩ j)⟩) ?_; exact turn_box (id := 0) (ds := (s.plus res rep).csO) rfl rfl rfl (.cons (show OwEq (.i .i64 (IntKind.i64.wrap (s.next + 1))) (.i .i64 (s.next + 1)) from (by rw [wrap_in (by omega) (by omega)]; exact .refl _)) (.cons (.refl _) (.cons (OwEq.len (plus_len s res rep) (fun i j _ _ => HoldC.h _ j) (snoc_eq (l := s.things) (sz := 3) (a := ⟨s.next, res, rep⟩) (c := Thing.cs) rfl (fun j hj => .refl _))) .nil)))), (fun i _ q => (by cases q)), .inl ⟨[0], _, _, _, add_ok (s.plus res rep) (plus_ok h hf1 res rep) who hw ⟨0, _, true, 0, 0, 0, 0⟩ hf4 ⟨ht, hf5⟩, (view_of rfl (.cons rfl (.self (rowPl_box rfl)) .nil)), ⟨rfl, rfl⟩, ?_⟩⟩); rintro _ _ ⟨rfl, rfl⟩; refine ⟨rfl, _, (lok_pl (.cons (rowPl_box rfl) .nil)), ?_⟩) | refine And.intro ?_ ?_ | (intro _h; first | contradiction | (try simp only [dd] at _h)) | (refine dt_go ?_) | exact rfl | exact True.intro | exact dkk | exact dks | ((first | refine .inl ⟨_, Ret.wka (full_ok s h who hw hg1 hg2), ?_⟩ | refine ⟨_, Ret.wka (full_ok s h who hw hg1 hg2), ?_⟩); (try rintro _ rfl)) | (refine wrap_succ ?_; omega))))
  all_goals (first | contradiction | skip)
  all_goals (conv => whnf)
  all_goals refine endM_pick [0] [some (boxRow (s.made who.toNat res rep).csO)] (.tup [.i .i64 (s.tables.getD who.toNat default).next, .i .i64 0]) (view_of rfl (.cons ?_ (.self (rowPl_box rfl)) .nil)) rfl rfl (by rw [hX]; exact keepK (n := 1) rfl rfl) ⟨rfl, rfl⟩
  all_goals first
    | exact rfl
    | (refine congrArg (fun z => some (some (boxRow ((s.plus res rep).put who.toNat ⟨0, z, true, 0, 0, 0, 0⟩).csO))) ?_; exact hid)
theorem tab_good {s : Shelf} (h : s.good) {who : Int} (hw : 0 ≤ who ∧ who < (s.tables.length : Int)) : (s.tables.getD who.toNat default).entries.length ≤ 12 ∧ 1 ≤ (s.tables.getD who.toNat default).next ∧ (s.tables.getD who.toNat default).next ≤ 1000000 := by
  have := h.2.2.2.1 who.toNat (by omega)
  exact ⟨this.2.2, this.2.1.1, this.2.1.2⟩
theorem set_ok {s : Shelf} (h : okL Table.ok s.tables) {w : Nat} {t : Table} (ht : t.ok) : okL Table.ok (s.tables.set w t) := by
  refine ⟨by rw [List.length_set]; exact h.1, fun k hk => ?_⟩
  rw [List.length_set] at hk
  by_cases e : k = w
  · subst e
    rw [getD_set hk, if_pos rfl]; exact ht
  · have : (s.tables.set w t).getD k default = s.tables.getD k default := by
      rw [List.getD_eq_getElem?_getD, List.getD_eq_getElem?_getD, List.getElem?_set_ne (fun h => e h.symm)]
    rw [this]; exact h.2 k hk
theorem put_ok {s : Shelf} (h : s.ok) {w : Nat} (e : Entry) (hl : (s.tables.getD w default).entries.length ≤ 12) : (s.put w e).ok :=
  ⟨set_ok h.1 ⟨by simp only [Table.put, List.length_append, List.length_singleton]; omega, fun _ _ => trivial⟩, h.2⟩
theorem made_ok {s : Shelf} (h : s.ok) {w : Nat} {res rep : Int} (hn : s.things.length < 24) (hl : (s.tables.getD w default).entries.length ≤ 12) : (s.made w res rep).ok := put_ok (plus_ok h hn res rep) _ hl
theorem markL_bound {α : Type} {f : α → Int → α × Int} {B : Nat} : ∀ (l : List α), (∀ a ∈ l, ∀ k, (f a k).2 ≤ k + B) → ∀ k, (markL f l k).2 ≤ k + (l.length * B : Nat)
  | [], _, k => by simp [markL]
  | a :: l, h, k => by
    have h1 := markL_bound l (fun b hb => h b (List.mem_cons_of_mem _ hb)) (f a k).2
    have h2 := h a List.mem_cons_self k
    show (markL f l (f a k).2).2 ≤ _
    rw [List.length_cons, Nat.succ_mul]
    omega
theorem okL_mem {α : Type} [Inhabited α] {p : α → Prop} {l : List α} (h : okL p l) {a : α} (ha : a ∈ l) : p a := by
  obtain ⟨i, hi, rfl⟩ := List.mem_iff_getElem.1 ha
  have := h.2 i hi
  rwa [List.getD_eq_getElem?_getD, List.getElem?_eq_getElem hi] at this
theorem entry_bound (a : Entry) (k : Int) : (Entry.mkE a k).2 ≤ k + (7 : Nat) := by simp only [Entry.mkE]; omega
theorem thing_bound (a : Thing) (k : Int) : (Thing.mkE a k).2 ≤ k + (3 : Nat) := by simp only [Thing.mkE]; omega
theorem table_bound (a : Table) (h : a.ok) (k : Int) : (Table.mkE a k).2 ≤ k + (7340033 : Nat) := by
  have h1 := markL_bound (f := Entry.mkE) (B := 7) a.entries (fun b _ => entry_bound b) (k + 1)
  have h2 : a.entries.length ≤ 1048576 := h.1
  simp only [Table.mkE]
  omega
theorem shelf_bound (s : Shelf) (h : s.ok) : (Shelf.mk_ s 1).2 ≤ 4611686018427387904 := by
  have h1 := markL_bound (f := Table.mkE) (B := 7340033) s.tables (fun b hb => table_bound b (okL_mem h.1 hb)) 1
  have h2 := markL_bound (f := Thing.mkE) (B := 3) s.things (fun b _ => thing_bound b) (markL Table.mkE s.tables 1).2
  have h3 : s.tables.length ≤ 1048576 := h.1.1
  have h4 : s.things.length ≤ 1048576 := h.2.1
  simp only [Shelf.mk_]
  omega
def Shelf.movedTo (s : Shelf) (who num : Int) (q : Nat) (to : Nat) : Shelf := (s.cut who.toNat num).put to ⟨0, ((s.tables.getD who.toNat default).entries.getD q default).id, true, 0, 0, 0, 0⟩
set_option maxHeartbeats 2000000 in
theorem move_none (s : Shelf) (h : s.ok) (who num res to : Int) (hg : s.good) (hw : 0 ≤ who ∧ who < (s.tables.length : Int)) (hto : 0 ≤ to ∧ to < (s.tables.length : Int)) (hE : s.typ who num res = none) : RetM env.P 86 [some (boxRow s.csO)] [.ptr 0 0 0, .i .i64 who, .i .i64 num, .i .i64 res, .i .i64 to] (fun r H => r = .tup [.i .i64 0, .i .i64 11] ∧ H = [some (boxRow s.csO)]) := by
  have hl : s.tables.length ≤ 1048576 := h.1.1
  have hw2 : who.toNat < s.tables.length := by omega
  have h7 := hg.2.1.2
  refine ret_ofM (nt := 52) (rvs := [.tmp 10, .tmp 11]) Tryz.func86 rfl rfl rfl rfl (fun X hX => ?_)
  repeat' (first | exact aa | ((conv => whnf) <;> (first | refine And.intro ?_ ?_ | (intro _h; first | contradiction | (try simp only [dd] at _h)) | (refine dt_go ?_) | exact rfl | exact True.intro | exact dkk | exact dks | (refine .inr (.inl (.inl ⟨[0], _, _, _, typedO_none s h hg who num res hw hE, viewA, ⟨rfl, rfl⟩, ?_⟩)); rintro _ _ ⟨rfl, rfl⟩; refine ⟨rfl, _, lokA, ?_⟩) | (refine wrap_succ ?_; omega))))
  all_goals (first | contradiction | skip)
  all_goals (conv => whnf)
  all_goals exact endM_pick [0] [some (boxRow (s).csO)] (.tup [.i .i64 0, .i .i64 11]) (view_of rfl (.cons rfl (.self (rowPl_box rfl)) .nil)) rfl rfl (by rw [hX]; exact keepK (n := 1) rfl rfl) ⟨rfl, rfl⟩
set_option maxHeartbeats 2000000 in
theorem move_own (s : Shelf) (h : s.ok) (who num res to : Int) (hg : s.good) (hw : 0 ≤ who ∧ who < (s.tables.length : Int)) (hto : 0 ≤ to ∧ to < (s.tables.length : Int)) (q : Nat) (hq : (s.tables.getD who.toNat default).find num = some q) (hr : (s.thingOf ((s.tables.getD who.toNat default).entries.getD q default)).res = res) (ho : ((s.tables.getD who.toNat default).entries.getD q default).own = false) : RetM env.P 86 [some (boxRow s.csO)] [.ptr 0 0 0, .i .i64 who, .i .i64 num, .i .i64 res, .i .i64 to] (fun r H => r = .tup [.i .i64 0, .i .i64 11] ∧ H = [some (boxRow s.csO)]) := by
  have hl : s.tables.length ≤ 1048576 := h.1.1
  have hw2 : who.toNat < s.tables.length := by omega
  have h7 := hg.2.1.2
  refine ret_ofM (nt := 52) (rvs := [.tmp 10, .tmp 11]) Tryz.func86 rfl rfl rfl rfl (fun X hX => ?_)
  repeat' (first | exact aa | ((conv => whnf) <;> (first | (refine .inr (.inl (.inl ⟨[0], _, _, _, typedO_some s h hg who num res hw q hq hr, (view_of rfl (.cons rfl (.self (rowPl_box rfl)) .nil)), ⟨rfl, rfl⟩, ?_⟩)); rintro _ _ ⟨rfl, rfl⟩; refine ⟨rfl, _, lok_open, ?_⟩) | (exfalso; have qq := ‹((s.tables.getD who.toNat default).entries.getD q default).own = true›; rw [ho] at qq; cases qq) | refine And.intro ?_ ?_ | (intro _h; first | contradiction | (try simp only [dd] at _h)) | (refine dt_go ?_) | exact rfl | exact True.intro | exact dkk | exact dks | (refine wrap_succ ?_; omega))))
  all_goals (first | contradiction | (exfalso; omega) | skip)
  all_goals (conv => whnf)
  all_goals refine endM_turn (turn_close (id := 1) (i := who.toNat) (j := 1) (id' := 2) rfl hw2 (show 1 < 2 by decide) (by first | exact upd_self | (simp only [upd, Nat.beq_refl]; rfl) | (simp only [Shelf.rowT, upd, Nat.beq_refl]; rfl) | exact rowT_at) rfl (show 1 ≠ 2 by decide) rfl (rowO_le (Nat.le_refl _))) ?_
  all_goals refine endM_turn (turn_eq (id := 1) (x := rowL 2 Table.csO (s.setE who.toNat (s.tables.getD who.toNat default).entries).tables) rfl rfl setE_len rfl rfl (setE_rows (l := (s.tables.getD who.toNat default).entries) hw2 rfl (fun i j _ _ => .refl _))) ?_
  all_goals refine endM_turn (turn_close (id := 0) (i := 0) (j := 1) (id' := 1) rfl (show 0 < 1 by decide) (show 1 < 3 by decide) rfl rfl (show 0 ≠ 1 by decide) rfl (rowO_le (Nat.le_of_eq setE_len.symm))) ?_
  all_goals refine endM_turn (turn_close (id := 0) (i := 0) (j := 2) (id' := 3) rfl (show 0 < 1 by decide) (show 2 < 3 by decide) rfl rfl (show 0 ≠ 3 by decide) rfl (rowO_le (Nat.le_refl _))) ?_
  all_goals refine endM_turn (turn_box (id := 0) (ds := (s).csO) rfl rfl rfl (.cons (.refl _) (.cons (OwEq.len rfl (fun i j _ _ => HoldC.h _ j) (fun i j _ _ => by rw [setE_self]; exact .refl _)) (.cons (.refl _) .nil)))) ?_
  all_goals exact endM_pick [0] [some (boxRow (s).csO)] (.tup [.i .i64 0, .i .i64 11]) (view_of rfl (.cons rfl (.self (rowPl_box rfl)) .nil)) rfl rfl (by rw [hX]; exact keepK (n := 1) rfl rfl) ⟨rfl, rfl⟩
set_option maxHeartbeats 2000000 in
theorem move_lent (s : Shelf) (h : s.ok) (who num res to : Int) (hg : s.good) (hw : 0 ≤ who ∧ who < (s.tables.length : Int)) (hto : 0 ≤ to ∧ to < (s.tables.length : Int)) (q : Nat) (hq : (s.tables.getD who.toNat default).find num = some q) (hr : (s.thingOf ((s.tables.getD who.toNat default).entries.getD q default)).res = res) (ho : ((s.tables.getD who.toNat default).entries.getD q default).own = true) (hl0 : ¬ ((s.tables.getD who.toNat default).entries.getD q default).lends = 0) : RetM env.P 86 [some (boxRow s.csO)] [.ptr 0 0 0, .i .i64 who, .i .i64 num, .i .i64 res, .i .i64 to] (fun r H => r = .tup [.i .i64 0, .i .i64 12] ∧ H = [some (boxRow s.csO)]) := by
  have hl : s.tables.length ≤ 1048576 := h.1.1
  have hw2 : who.toNat < s.tables.length := by omega
  have h7 := hg.2.1.2
  refine ret_ofM (nt := 52) (rvs := [.tmp 10, .tmp 11]) Tryz.func86 rfl rfl rfl rfl (fun X hX => ?_)
  repeat' (first | exact aa | ((conv => whnf) <;> (first | (refine .inr (.inl (.inl ⟨[0], _, _, _, typedO_some s h hg who num res hw q hq hr, (view_of rfl (.cons rfl (.self (rowPl_box rfl)) .nil)), ⟨rfl, rfl⟩, ?_⟩)); rintro _ _ ⟨rfl, rfl⟩; refine ⟨rfl, _, lok_open, ?_⟩) | (exfalso; have qq := ‹((s.tables.getD who.toNat default).entries.getD q default).own = false›; rw [ho] at qq; cases qq) | refine And.intro ?_ ?_ | (intro _h; first | contradiction | (try simp only [dd] at _h)) | (refine dt_go ?_) | exact rfl | exact True.intro | exact dkk | exact dks | (refine wrap_succ ?_; omega))))
  all_goals (first | contradiction | (exfalso; omega) | skip)
  all_goals (conv => whnf)
  all_goals refine endM_turn (turn_close (id := 1) (i := who.toNat) (j := 1) (id' := 2) rfl hw2 (show 1 < 2 by decide) (by first | exact upd_self | (simp only [upd, Nat.beq_refl]; rfl) | (simp only [Shelf.rowT, upd, Nat.beq_refl]; rfl) | exact rowT_at) rfl (show 1 ≠ 2 by decide) rfl (rowO_le (Nat.le_refl _))) ?_
  all_goals refine endM_turn (turn_eq (id := 1) (x := rowL 2 Table.csO (s.setE who.toNat (s.tables.getD who.toNat default).entries).tables) rfl rfl setE_len rfl rfl (setE_rows (l := (s.tables.getD who.toNat default).entries) hw2 rfl (fun i j _ _ => .refl _))) ?_
  all_goals refine endM_turn (turn_close (id := 0) (i := 0) (j := 1) (id' := 1) rfl (show 0 < 1 by decide) (show 1 < 3 by decide) rfl rfl (show 0 ≠ 1 by decide) rfl (rowO_le (Nat.le_of_eq setE_len.symm))) ?_
  all_goals refine endM_turn (turn_close (id := 0) (i := 0) (j := 2) (id' := 3) rfl (show 0 < 1 by decide) (show 2 < 3 by decide) rfl rfl (show 0 ≠ 3 by decide) rfl (rowO_le (Nat.le_refl _))) ?_
  all_goals refine endM_turn (turn_box (id := 0) (ds := (s).csO) rfl rfl rfl (.cons (.refl _) (.cons (OwEq.len rfl (fun i j _ _ => HoldC.h _ j) (fun i j _ _ => by rw [setE_self]; exact .refl _)) (.cons (.refl _) .nil)))) ?_
  all_goals exact endM_pick [0] [some (boxRow (s).csO)] (.tup [.i .i64 0, .i .i64 12]) (view_of rfl (.cons rfl (.self (rowPl_box rfl)) .nil)) rfl rfl (by rw [hX]; exact keepK (n := 1) rfl rfl) ⟨rfl, rfl⟩
set_option maxHeartbeats 2000000 in
theorem move_full (s : Shelf) (h : s.ok) (who num res to : Int) (hg : s.good) (hw : 0 ≤ who ∧ who < (s.tables.length : Int)) (hto : 0 ≤ to ∧ to < (s.tables.length : Int)) (q : Nat) (hq : (s.tables.getD who.toNat default).find num = some q) (hr : (s.thingOf ((s.tables.getD who.toNat default).entries.getD q default)).res = res) (ho : ((s.tables.getD who.toNat default).entries.getD q default).own = true) (hl0 : ((s.tables.getD who.toNat default).entries.getD q default).lends = 0) (hf : s.fullB to.toNat) : RetM env.P 86 [some (boxRow s.csO)] [.ptr 0 0 0, .i .i64 who, .i .i64 num, .i .i64 res, .i .i64 to] (fun r H => r = .tup [.i .i64 0, .i .i64 4] ∧ H = [some (boxRow s.csO)]) := by
  have hl : s.tables.length ≤ 1048576 := h.1.1
  have hw2 : who.toNat < s.tables.length := by omega
  have h7 := hg.2.1.2
  refine ret_ofM (nt := 52) (rvs := [.tmp 10, .tmp 11]) Tryz.func86 rfl rfl rfl rfl (fun X hX => ?_)
  repeat' (first | exact aa | ((conv => whnf) <;> (first | (refine .inr (.inl (.inl ⟨[0], _, _, _, typedO_some s h hg who num res hw q hq hr, (view_of rfl (.cons rfl (.self (rowPl_box rfl)) .nil)), ⟨rfl, rfl⟩, ?_⟩)); rintro _ _ ⟨rfl, rfl⟩; refine ⟨rfl, _, lok_open, ?_⟩) | (exfalso; have qq := ‹((s.tables.getD who.toNat default).entries.getD q default).own = false›; rw [ho] at qq; cases qq) | ((first | refine .inl ⟨_, Ret.wku (full_ok s h to hto (tab_good hg hto).1 (tab_good hg hto).2.2), ?_⟩ | refine ⟨_, Ret.wku (full_ok s h to hto (tab_good hg hto).1 (tab_good hg hto).2.2), ?_⟩); (try rintro _ rfl)) | refine And.intro ?_ ?_ | (intro _h; first | contradiction | (try simp only [dd] at _h)) | (refine dt_go ?_) | exact rfl | exact True.intro | exact dkk | exact dks | (refine wrap_succ ?_; omega))))
  all_goals (first | contradiction | (exfalso; omega) | skip)
  all_goals (conv => whnf)
  all_goals refine endM_turn (turn_close (id := 1) (i := who.toNat) (j := 1) (id' := 2) rfl hw2 (show 1 < 2 by decide) (by first | exact upd_self | (simp only [upd, Nat.beq_refl]; rfl) | (simp only [Shelf.rowT, upd, Nat.beq_refl]; rfl) | exact rowT_at) rfl (show 1 ≠ 2 by decide) rfl (rowO_le (Nat.le_refl _))) ?_
  all_goals refine endM_turn (turn_eq (id := 1) (x := rowL 2 Table.csO (s.setE who.toNat (s.tables.getD who.toNat default).entries).tables) rfl rfl setE_len rfl rfl (setE_rows (l := (s.tables.getD who.toNat default).entries) hw2 rfl (fun i j _ _ => .refl _))) ?_
  all_goals refine endM_turn (turn_close (id := 0) (i := 0) (j := 1) (id' := 1) rfl (show 0 < 1 by decide) (show 1 < 3 by decide) rfl rfl (show 0 ≠ 1 by decide) rfl (rowO_le (Nat.le_of_eq setE_len.symm))) ?_
  all_goals refine endM_turn (turn_close (id := 0) (i := 0) (j := 2) (id' := 3) rfl (show 0 < 1 by decide) (show 2 < 3 by decide) rfl rfl (show 0 ≠ 3 by decide) rfl (rowO_le (Nat.le_refl _))) ?_
  all_goals refine endM_turn (turn_box (id := 0) (ds := (s).csO) rfl rfl rfl (.cons (.refl _) (.cons (OwEq.len rfl (fun i j _ _ => HoldC.h _ j) (fun i j _ _ => by rw [setE_self]; exact .refl _)) (.cons (.refl _) .nil)))) ?_
  all_goals exact endM_pick [0] [some (boxRow (s).csO)] (.tup [.i .i64 0, .i .i64 4]) (view_of rfl (.cons rfl (.self (rowPl_box rfl)) .nil)) rfl rfl (by rw [hX]; exact keepK (n := 1) rfl rfl) ⟨rfl, rfl⟩
set_option maxHeartbeats 2000000 in
theorem move_fine (s : Shelf) (h : s.ok) (who num res to : Int) (hg : s.good) (hw : 0 ≤ who ∧ who < (s.tables.length : Int)) (hto : 0 ≤ to ∧ to < (s.tables.length : Int)) (q : Nat) (hq : (s.tables.getD who.toNat default).find num = some q) (hr : (s.thingOf ((s.tables.getD who.toNat default).entries.getD q default)).res = res) (ho : ((s.tables.getD who.toNat default).entries.getD q default).own = true) (hl0 : ((s.tables.getD who.toNat default).entries.getD q default).lends = 0) (hf : ¬ s.fullB to.toNat) : RetM env.P 86 [some (boxRow s.csO)] [.ptr 0 0 0, .i .i64 who, .i .i64 num, .i .i64 res, .i .i64 to] (fun r H => r = .tup [.i .i64 ((s.cut who.toNat num).tables.getD to.toNat default).next, .i .i64 0] ∧ H = [some (boxRow (s.movedTo who num q to.toNat).csO)]) := by
  have hl : s.tables.length ≤ 1048576 := h.1.1
  have hw2 : who.toNat < s.tables.length := by omega
  have h7 := hg.2.1.2
  have hf4 : (s.tables.getD to.toNat default).entries.length < 12 := Nat.lt_of_not_le fun q => hf (.inl q)
  have hf5 : (s.tables.getD to.toNat default).next < 1000000 := Int.lt_of_not_ge fun q => hf (.inr q)
  refine ret_ofM (nt := 52) (rvs := [.tmp 10, .tmp 11]) Tryz.func86 rfl rfl rfl rfl (fun X hX => ?_)
  repeat' (first | exact aa | ((conv => whnf) <;> (first | (exfalso; have qq := ‹((s.tables.getD who.toNat default).entries.getD q default).own = false›; rw [ho] at qq; cases qq) | (refine .inr (.inl (.inl ⟨[0], _, _, _, typedO_some s h hg who num res hw q hq hr, (view_of rfl (.cons rfl (.self (rowPl_box rfl)) .nil)), ⟨rfl, rfl⟩, ?_⟩)); rintro _ _ ⟨rfl, rfl⟩; refine ⟨rfl, _, lok_open, ?_⟩) | ((first | refine .inl ⟨_, Ret.wku (full_ok s h to hto (tab_good hg hto).1 (tab_good hg hto).2.2), ?_⟩ | refine ⟨_, Ret.wku (full_ok s h to hto (tab_good hg hto).1 (tab_good hg hto).2.2), ?_⟩); (try rintro _ rfl)) | (refine .inr (.inr ⟨[some (boxRow s.csO), none, none, none], (by intro X; refine Turn.trans (turn_close (id := 1) (i := who.toNat) (j := 1) (id' := 2) rfl hw2 (show 1 < 2 by decide) (by first | exact upd_self | (simp only [upd, Nat.beq_refl]; rfl) | (simp only [Shelf.rowT, upd, Nat.beq_refl]; rfl) | exact rowT_at) rfl (show 1 ≠ 2 by decide) rfl (rowO_le (Nat.le_refl _))) ?_; refine Turn.trans (turn_eq (id := 1) (x := rowL 2 Table.csO (s.setE who.toNat (s.tables.getD who.toNat default).entries).tables) rfl rfl setE_len rfl rfl (setE_rows (l := (s.tables.getD who.toNat default).entries) hw2 rfl (fun i j _ _ => .refl _))) ?_; refine Turn.trans (turn_close (id := 0) (i := 0) (j := 1) (id' := 1) rfl (show 0 < 1 by decide) (show 1 < 3 by decide) rfl rfl (show 0 ≠ 1 by decide) rfl (rowO_le (Nat.le_of_eq setE_len.symm))) ?_; refine Turn.trans (turn_close (id := 0) (i := 0) (j := 2) (id' := 3) rfl (show 0 < 1 by decide) (show 2 < 3 by decide) rfl rfl (show 0 ≠ 3 by decide) rfl (rowO_le (Nat.le_refl _))) ?_; exact turn_box (id := 0) (ds := (s).csO) rfl rfl rfl (.cons (.refl _) (.cons (OwEq.len rfl (fun i j _ _ => HoldC.h _ j) (fun i j _ _ => by rw [setE_self]; exact .refl _)) (.cons (.refl _) .nil)))), (fun i _ q => (by cases q)), .inl ⟨[0], _, _, _, remove_ok s h who num hw h7 q hq, (view_of rfl (.cons rfl (.self (rowPl_box rfl)) .nil)), ⟨rfl, rfl⟩, ?_⟩⟩); rintro _ _ ⟨rfl, rfl⟩; refine ⟨rfl, _, (lok_pl (.cons (rowPl_box rfl) .nil)), ?_⟩) | refine And.intro ?_ ?_ | (intro _h; first | contradiction | (try simp only [dd] at _h)) | (refine dt_go ?_) | exact rfl | exact True.intro | exact dkk | exact dks | (refine .inr (.inl (.inl ⟨[0], _, _, _, add_ok (s.cut who.toNat num) (cut_ok h) to ⟨hto.1, by rw [show (s.cut who.toNat num).tables.length = s.tables.length from setE_len]; exact hto.2⟩ ⟨0, _, true, 0, 0, 0, 0⟩ (Nat.lt_of_le_of_lt cut_at.1 hf4) (by rw [cut_at.2]; exact ⟨(tab_good hg hto).2.1, hf5⟩), viewA, ⟨rfl, rfl⟩, ?_⟩)); rintro _ _ ⟨rfl, rfl⟩; refine ⟨rfl, _, lokA, ?_⟩) | (refine wrap_succ ?_; omega))))
  all_goals (first | contradiction | (exfalso; omega) | skip)
  all_goals (conv => whnf)
  all_goals exact endM_pick [0] [some (boxRow (s.movedTo who num q to.toNat).csO)] (.tup [.i .i64 ((s.cut who.toNat num).tables.getD to.toNat default).next, .i .i64 0]) (view_of rfl (.cons rfl (.self (rowPl_box rfl)) .nil)) rfl rfl (by rw [hX]; exact keepK (n := 1) rfl rfl) ⟨rfl, rfl⟩
set_option maxHeartbeats 2000000 in
theorem l19Move_none (s : Shelf) (h : s.ok) (who num res to : Int) (hg : s.good) (hw : 0 ≤ who ∧ who < (s.tables.length : Int)) (hto : 0 ≤ to ∧ to < (s.tables.length : Int)) (hE : s.typ who num res = none) : RetM env.P 96 [some (boxRow s.csO)] [.ptr 0 0 0, .i .i64 who, .i .i64 num, .i .i64 res, .i .i64 to] (fun r H => r = .tup [.i .i64 0, .i .i64 11] ∧ H = [some (boxRow s.csO)]) := by
  have hl : s.tables.length ≤ 1048576 := h.1.1
  have hw2 : who.toNat < s.tables.length := by omega
  have h7 := hg.2.1.2
  refine ret_ofM (nt := 44) (rvs := [.tmp 10, .tmp 11]) Tryz.func96 rfl rfl rfl rfl (fun X hX => ?_)
  repeat' (first | exact aa | ((conv => whnf) <;> (first | ((first | refine .inl ⟨_, Ret.wka (l19Find_ok s h hg who num res), ?_⟩ | refine ⟨_, Ret.wka (l19Find_ok s h hg who num res), ?_⟩); (try rintro _ rfl); rw [hE]; simp only [findR]) | refine And.intro ?_ ?_ | (intro _h; first | contradiction | (try simp only [dd] at _h)) | (refine dt_go ?_) | exact rfl | exact True.intro | exact dkk | exact dks | (refine wrap_succ ?_; omega))))
  all_goals (first | contradiction | skip)
  all_goals (conv => whnf)
  all_goals exact endM_pick [0] [some (boxRow (s).csO)] (.tup [.i .i64 0, .i .i64 11]) (view_of rfl (.cons rfl (.self (rowPl_box rfl)) .nil)) rfl rfl (by rw [hX]; exact keepK (n := 1) rfl rfl) ⟨rfl, rfl⟩
set_option maxHeartbeats 2000000 in
theorem l19Move_own (s : Shelf) (h : s.ok) (who num res to : Int) (hg : s.good) (hw : 0 ≤ who ∧ who < (s.tables.length : Int)) (hto : 0 ≤ to ∧ to < (s.tables.length : Int)) (q : Nat) (hq : (s.tables.getD who.toNat default).find num = some q) (hr : (s.thingOf ((s.tables.getD who.toNat default).entries.getD q default)).res = res) (ho : ((s.tables.getD who.toNat default).entries.getD q default).own = false) : RetM env.P 96 [some (boxRow s.csO)] [.ptr 0 0 0, .i .i64 who, .i .i64 num, .i .i64 res, .i .i64 to] (fun r H => r = .tup [.i .i64 0, .i .i64 11] ∧ H = [some (boxRow s.csO)]) := by
  have hl : s.tables.length ≤ 1048576 := h.1.1
  have hw2 : who.toNat < s.tables.length := by omega
  have h7 := hg.2.1.2
  have hE : s.typ who num res = some ((s.tables.getD who.toNat default).entries.getD q default) := typ_some (find_at hw hq) hr
  refine ret_ofM (nt := 44) (rvs := [.tmp 10, .tmp 11]) Tryz.func96 rfl rfl rfl rfl (fun X hX => ?_)
  repeat' (first | exact aa | ((conv => whnf) <;> (first | ((first | refine .inl ⟨_, Ret.wka (l19Find_ok s h hg who num res), ?_⟩ | refine ⟨_, Ret.wka (l19Find_ok s h hg who num res), ?_⟩); (try rintro _ rfl); rw [hE]; simp only [findR]) | (exfalso; have qq := ‹((s.tables.getD who.toNat default).entries.getD q default).own = true›; rw [ho] at qq; cases qq) | refine And.intro ?_ ?_ | (intro _h; first | contradiction | (try simp only [dd] at _h)) | (refine dt_go ?_) | exact rfl | exact True.intro | exact dkk | exact dks | (refine wrap_succ ?_; omega))))
  all_goals (first | contradiction | (exfalso; omega) | skip)
  all_goals (conv => whnf)
  all_goals exact endM_pick [0] [some (boxRow (s).csO)] (.tup [.i .i64 0, .i .i64 11]) (view_of rfl (.cons rfl (.self (rowPl_box rfl)) .nil)) rfl rfl (by rw [hX]; exact keepK (n := 1) rfl rfl) ⟨rfl, rfl⟩
set_option maxHeartbeats 2000000 in
theorem l19Move_lent (s : Shelf) (h : s.ok) (who num res to : Int) (hg : s.good) (hw : 0 ≤ who ∧ who < (s.tables.length : Int)) (hto : 0 ≤ to ∧ to < (s.tables.length : Int)) (q : Nat) (hq : (s.tables.getD who.toNat default).find num = some q) (hr : (s.thingOf ((s.tables.getD who.toNat default).entries.getD q default)).res = res) (ho : ((s.tables.getD who.toNat default).entries.getD q default).own = true) (hl0 : 0 < ((s.tables.getD who.toNat default).entries.getD q default).lends) : RetM env.P 96 [some (boxRow s.csO)] [.ptr 0 0 0, .i .i64 who, .i .i64 num, .i .i64 res, .i .i64 to] (fun r H => r = .tup [.i .i64 0, .i .i64 12] ∧ H = [some (boxRow s.csO)]) := by
  have hl : s.tables.length ≤ 1048576 := h.1.1
  have hw2 : who.toNat < s.tables.length := by omega
  have h7 := hg.2.1.2
  have hE : s.typ who num res = some ((s.tables.getD who.toNat default).entries.getD q default) := typ_some (find_at hw hq) hr
  refine ret_ofM (nt := 44) (rvs := [.tmp 10, .tmp 11]) Tryz.func96 rfl rfl rfl rfl (fun X hX => ?_)
  repeat' (first | exact aa | ((conv => whnf) <;> (first | ((first | refine .inl ⟨_, Ret.wka (l19Find_ok s h hg who num res), ?_⟩ | refine ⟨_, Ret.wka (l19Find_ok s h hg who num res), ?_⟩); (try rintro _ rfl); rw [hE]; simp only [findR]) | (exfalso; have qq := ‹((s.tables.getD who.toNat default).entries.getD q default).own = false›; rw [ho] at qq; cases qq) | refine And.intro ?_ ?_ | (intro _h; first | contradiction | (try simp only [dd] at _h)) | (refine dt_go ?_) | exact rfl | exact True.intro | exact dkk | exact dks | (refine wrap_succ ?_; omega))))
  all_goals (first | contradiction | (exfalso; omega) | skip)
  all_goals (conv => whnf)
  all_goals exact endM_pick [0] [some (boxRow (s).csO)] (.tup [.i .i64 0, .i .i64 12]) (view_of rfl (.cons rfl (.self (rowPl_box rfl)) .nil)) rfl rfl (by rw [hX]; exact keepK (n := 1) rfl rfl) ⟨rfl, rfl⟩
set_option maxHeartbeats 2000000 in
theorem l19Move_full (s : Shelf) (h : s.ok) (who num res to : Int) (hg : s.good) (hw : 0 ≤ who ∧ who < (s.tables.length : Int)) (hto : 0 ≤ to ∧ to < (s.tables.length : Int)) (q : Nat) (hq : (s.tables.getD who.toNat default).find num = some q) (hr : (s.thingOf ((s.tables.getD who.toNat default).entries.getD q default)).res = res) (ho : ((s.tables.getD who.toNat default).entries.getD q default).own = true) (hl0 : ((s.tables.getD who.toNat default).entries.getD q default).lends = 0) (hf : s.fullB to.toNat) : RetM env.P 96 [some (boxRow s.csO)] [.ptr 0 0 0, .i .i64 who, .i .i64 num, .i .i64 res, .i .i64 to] (fun r H => r = .tup [.i .i64 0, .i .i64 4] ∧ H = [some (boxRow s.csO)]) := by
  have hl : s.tables.length ≤ 1048576 := h.1.1
  have hw2 : who.toNat < s.tables.length := by omega
  have h7 := hg.2.1.2
  have hE : s.typ who num res = some ((s.tables.getD who.toNat default).entries.getD q default) := typ_some (find_at hw hq) hr
  refine ret_ofM (nt := 44) (rvs := [.tmp 10, .tmp 11]) Tryz.func96 rfl rfl rfl rfl (fun X hX => ?_)
  repeat' (first | exact aa | ((conv => whnf) <;> (first | ((first | refine .inl ⟨_, Ret.wka (l19Find_ok s h hg who num res), ?_⟩ | refine ⟨_, Ret.wka (l19Find_ok s h hg who num res), ?_⟩); (try rintro _ rfl); rw [hE]; simp only [findR]) | (exfalso; have qq := ‹((s.tables.getD who.toNat default).entries.getD q default).own = false›; rw [ho] at qq; cases qq) | refine And.intro ?_ ?_ | (intro _h; first | contradiction | (try simp only [dd] at _h)) | (refine dt_go ?_) | exact rfl | exact True.intro | exact dkk | exact dks | ((first | refine .inl ⟨_, Ret.wka (l19Full_ok s h to hto), ?_⟩ | refine ⟨_, Ret.wka (l19Full_ok s h to hto), ?_⟩); (try rintro _ rfl)) | (refine wrap_succ ?_; omega))))
  all_goals (first | contradiction | (exfalso; omega) | skip)
  all_goals (conv => whnf)
  all_goals exact endM_pick [0] [some (boxRow (s).csO)] (.tup [.i .i64 0, .i .i64 4]) (view_of rfl (.cons rfl (.self (rowPl_box rfl)) .nil)) rfl rfl (by rw [hX]; exact keepK (n := 1) rfl rfl) ⟨rfl, rfl⟩
set_option maxHeartbeats 2000000 in
theorem l19Move_fine (s : Shelf) (h : s.ok) (who num res to : Int) (hg : s.good) (hw : 0 ≤ who ∧ who < (s.tables.length : Int)) (hto : 0 ≤ to ∧ to < (s.tables.length : Int)) (q : Nat) (hq : (s.tables.getD who.toNat default).find num = some q) (hr : (s.thingOf ((s.tables.getD who.toNat default).entries.getD q default)).res = res) (ho : ((s.tables.getD who.toNat default).entries.getD q default).own = true) (hl0 : ((s.tables.getD who.toNat default).entries.getD q default).lends = 0) (hf : ¬ s.fullB to.toNat) : RetM env.P 96 [some (boxRow s.csO)] [.ptr 0 0 0, .i .i64 who, .i .i64 num, .i .i64 res, .i .i64 to] (fun r H => r = .tup [.i .i64 ((s.cut who.toNat num).tables.getD to.toNat default).next, .i .i64 0] ∧ H = [some (boxRow (s.movedTo who num q to.toNat).csO)]) := by
  have hl : s.tables.length ≤ 1048576 := h.1.1
  have hw2 : who.toNat < s.tables.length := by omega
  have h7 := hg.2.1.2
  have hf4 : (s.tables.getD to.toNat default).entries.length < 12 := Nat.lt_of_not_le fun q => hf (.inl q)
  have hf5 : (s.tables.getD to.toNat default).next < 1000000 := Int.lt_of_not_ge fun q => hf (.inr q)
  have hE : s.typ who num res = some ((s.tables.getD who.toNat default).entries.getD q default) := typ_some (find_at hw hq) hr
  refine ret_ofM (nt := 44) (rvs := [.tmp 10, .tmp 11]) Tryz.func96 rfl rfl rfl rfl (fun X hX => ?_)
  repeat' (first | exact aa | ((conv => whnf) <;> (first | (exfalso; have qq := ‹((s.tables.getD who.toNat default).entries.getD q default).own = false›; rw [ho] at qq; cases qq) | ((first | refine .inl ⟨_, Ret.wka (l19Find_ok s h hg who num res), ?_⟩ | refine ⟨_, Ret.wka (l19Find_ok s h hg who num res), ?_⟩); (try rintro _ rfl); rw [hE]; simp only [findR]) | refine And.intro ?_ ?_ | (intro _h; first | contradiction | (try simp only [dd] at _h)) | (refine dt_go ?_) | exact rfl | exact True.intro | exact dkk | exact dks | ((first | refine .inl ⟨_, Ret.wka (l19Full_ok s h to hto), ?_⟩ | refine ⟨_, Ret.wka (l19Full_ok s h to hto), ?_⟩); (try rintro _ rfl)) | (refine .inr (.inl (.inl ⟨[0], _, _, _, l19Cut_ok s h who num hw h7, viewA, ⟨rfl, rfl⟩, ?_⟩)); rintro _ _ ⟨rfl, rfl⟩; refine ⟨rfl, _, lokA, ?_⟩) | (refine .inr (.inl (.inl ⟨[0], _, _, _, l19Put_ok (s.cut who.toNat num) (cut_ok h) to ⟨hto.1, by rw [show (s.cut who.toNat num).tables.length = s.tables.length from setE_len]; exact hto.2⟩ ⟨0, _, true, 0, 0, 0, 0⟩ (Nat.lt_of_le_of_lt cut_at.1 hf4) (by rw [cut_at.2]; exact ⟨(tab_good hg hto).2.1, hf5⟩), viewA, ⟨rfl, rfl⟩, ?_⟩)); rintro _ _ ⟨rfl, rfl⟩; refine ⟨rfl, _, lokA, ?_⟩) | (refine wrap_succ ?_; omega))))
  all_goals (first | contradiction | (exfalso; omega) | skip)
  all_goals (conv => whnf)
  all_goals exact endM_pick [0] [some (boxRow (s.movedTo who num q to.toNat).csO)] (.tup [.i .i64 ((s.cut who.toNat num).tables.getD to.toNat default).next, .i .i64 0]) (view_of rfl (.cons rfl (.self (rowPl_box rfl)) .nil)) rfl rfl (by rw [hX]; exact keepK (n := 1) rfl rfl) ⟨rfl, rfl⟩
def setLd (l : List Entry) (k : Nat) (v : Int) : List Entry := l.set k { l.getD k default with lends := v }
def Shelf.setL (s : Shelf) (w k : Nat) (v : Int) : Shelf := s.setE w (setLd (s.tables.getD w default).entries k v)
theorem setLd_len {l : List Entry} {k : Nat} {v : Int} : (setLd l k v).length = l.length := List.length_set
theorem setLd_rows {l : List Entry} {k n : Nat} {v : Int} (hk : k < l.length) : ∀ i j, i < n → j < 7 → OwEq (upd (elE Entry.cs l) k 3 [.i .i64 v] i j) (elE Entry.cs (setLd l k v) i j) := fun i j hi hj => by
  have hr : elE Entry.cs (setLd l k v) i j = (Entry.cs (if i = k then { l.getD k default with lends := v } else l.getD i default)).getD j .any := by
    unfold elE setLd
    rw [getD_set hk]
  rw [hr, upd_one]
  by_cases e1 : i = k
  · subst e1
    rw [if_pos rfl]
    rcases (show j = 0 ∨ j = 1 ∨ j = 2 ∨ j = 3 ∨ j = 4 ∨ j = 5 ∨ j = 6 by omega) with rfl | rfl | rfl | rfl | rfl | rfl | rfl <;> first | exact .refl _ | (rw [if_neg (by omega)]; exact .refl _) | (rw [if_pos ⟨rfl, rfl⟩]; exact .refl _)
  · rw [if_neg (fun q => e1 q.1), if_neg e1]
    exact .refl _
theorem setLd_rowO {l : List Entry} {k n : Nat} {v : Int} (hn : n ≤ l.length) : RowO n ⟨7, l.length, upd (elE Entry.cs l) k 3 [.i .i64 v], .arr⟩ := ⟨hn, fun i j hi hj => by
  show (upd _ k 3 [.i .i64 v] i j).idfO
  rw [upd_one]
  split
  · exact trivial
  · exact HoldC.h _ j⟩
theorem setL_ok {s : Shelf} (h : s.ok) {w k : Nat} {v : Int} : (s.setL w k v).ok := setE_ok h (by rw [setLd_len]; exact entLe h w)
theorem setL_at {s : Shelf} {w k j : Nat} {v : Int} : ((s.setL w k v).tables.getD j default).entries.length = (s.tables.getD j default).entries.length ∧ ((s.setL w k v).tables.getD j default).next = (s.tables.getD j default).next := by
  unfold Shelf.setL
  by_cases hw : w < s.tables.length
  · rw [setE_at hw]
    split
    · rename_i e
      subst e
      exact ⟨setLd_len, rfl⟩
    · exact ⟨rfl, rfl⟩
  · have : (s.setE w (setLd (s.tables.getD w default).entries k v)).tables = s.tables := by
      unfold Shelf.setE
      rw [List.set_eq_of_length_le (by omega)]
    rw [this]
    exact ⟨rfl, rfl⟩
def Shelf.lentTo (s : Shelf) (who num : Int) (q : Nat) (to : Nat) (scope : Int) : Shelf :=
  (s.setL who.toNat q (IntKind.i64.wrap (((s.tables.getD who.toNat default).entries.getD q default).lends + 1))).put to ⟨0, ((s.tables.getD who.toNat default).entries.getD q default).id, false, 0, scope, who, num⟩
set_option maxHeartbeats 2000000 in
theorem lend_none (s : Shelf) (h : s.ok) (who num res to scope : Int) (hg : s.good) (hw : 0 ≤ who ∧ who < (s.tables.length : Int)) (hto : 0 ≤ to ∧ to < (s.tables.length : Int)) (hE : s.typ who num res = none) : RetM env.P 87 [some (boxRow s.csO)] [.ptr 0 0 0, .i .i64 who, .i .i64 num, .i .i64 res, .i .i64 to, .i .i64 scope] (fun r H => r = .tup [.i .i64 0, .i .i64 11] ∧ H = [some (boxRow s.csO)]) := by
  have hl : s.tables.length ≤ 1048576 := h.1.1
  have hw2 : who.toNat < s.tables.length := by omega
  refine ret_ofM (nt := 45) (rvs := [.tmp 12, .tmp 13]) Tryz.func87 rfl rfl rfl rfl (fun X hX => ?_)
  repeat' (first | exact aa | ((conv => whnf) <;> (first | refine And.intro ?_ ?_ | (intro _h; first | contradiction | (try simp only [dd] at _h)) | (refine dt_go ?_) | exact rfl | exact True.intro | exact dkk | exact dks | (refine .inr (.inl (.inl ⟨[0], _, _, _, typedO_none s h hg who num res hw hE, viewA, ⟨rfl, rfl⟩, ?_⟩)); rintro _ _ ⟨rfl, rfl⟩; refine ⟨rfl, _, lokA, ?_⟩) | (refine wrap_succ ?_; omega))))
  all_goals (first | contradiction | skip)
  all_goals (conv => whnf)
  all_goals exact endM_pick [0] [some (boxRow (s).csO)] (.tup [.i .i64 0, .i .i64 11]) (view_of rfl (.cons rfl (.self (rowPl_box rfl)) .nil)) rfl rfl (by rw [hX]; exact keepK (n := 1) rfl rfl) ⟨rfl, rfl⟩
set_option maxHeartbeats 2000000 in
theorem lend_full (s : Shelf) (h : s.ok) (who num res to scope : Int) (hg : s.good) (hw : 0 ≤ who ∧ who < (s.tables.length : Int)) (hto : 0 ≤ to ∧ to < (s.tables.length : Int)) (q : Nat) (hq : (s.tables.getD who.toNat default).find num = some q) (hr : (s.thingOf ((s.tables.getD who.toNat default).entries.getD q default)).res = res) (hf : s.fullB to.toNat) : RetM env.P 87 [some (boxRow s.csO)] [.ptr 0 0 0, .i .i64 who, .i .i64 num, .i .i64 res, .i .i64 to, .i .i64 scope] (fun r H => r = .tup [.i .i64 0, .i .i64 4] ∧ H = [some (boxRow s.csO)]) := by
  have hl : s.tables.length ≤ 1048576 := h.1.1
  have hw2 : who.toNat < s.tables.length := by omega
  refine ret_ofM (nt := 45) (rvs := [.tmp 12, .tmp 13]) Tryz.func87 rfl rfl rfl rfl (fun X hX => ?_)
  repeat' (first | exact aa | ((conv => whnf) <;> (first | (refine .inr (.inl (.inl ⟨[0], _, _, _, typedO_some s h hg who num res hw q hq hr, (view_of rfl (.cons rfl (.self (rowPl_box rfl)) .nil)), ⟨rfl, rfl⟩, ?_⟩)); rintro _ _ ⟨rfl, rfl⟩; refine ⟨rfl, _, lok_open, ?_⟩) | ((first | refine .inl ⟨_, Ret.wku (full_ok s h to hto (tab_good hg hto).1 (tab_good hg hto).2.2), ?_⟩ | refine ⟨_, Ret.wku (full_ok s h to hto (tab_good hg hto).1 (tab_good hg hto).2.2), ?_⟩); (try rintro _ rfl)) | refine And.intro ?_ ?_ | (intro _h; first | contradiction | (try simp only [dd] at _h)) | (refine dt_go ?_) | exact rfl | exact True.intro | exact dkk | exact dks | (refine wrap_succ ?_; omega))))
  all_goals (first | contradiction | skip)
  all_goals (conv => whnf)
  all_goals refine endM_turn (turn_close (id := 1) (i := who.toNat) (j := 1) (id' := 2) rfl hw2 (show 1 < 2 by decide) (by first | exact upd_self | (simp only [upd, Nat.beq_refl]; rfl) | (simp only [Shelf.rowT, upd, Nat.beq_refl]; rfl) | exact rowT_at) rfl (show 1 ≠ 2 by decide) rfl (rowO_le (Nat.le_refl _))) ?_
  all_goals refine endM_turn (turn_eq (id := 1) (x := rowL 2 Table.csO (s.setE who.toNat (s.tables.getD who.toNat default).entries).tables) rfl rfl setE_len rfl rfl (setE_rows (l := (s.tables.getD who.toNat default).entries) hw2 rfl (fun i j _ _ => .refl _))) ?_
  all_goals refine endM_turn (turn_close (id := 0) (i := 0) (j := 1) (id' := 1) rfl (show 0 < 1 by decide) (show 1 < 3 by decide) rfl rfl (show 0 ≠ 1 by decide) rfl (rowO_le (Nat.le_of_eq setE_len.symm))) ?_
  all_goals refine endM_turn (turn_close (id := 0) (i := 0) (j := 2) (id' := 3) rfl (show 0 < 1 by decide) (show 2 < 3 by decide) rfl rfl (show 0 ≠ 3 by decide) rfl (rowO_le (Nat.le_refl _))) ?_
  all_goals refine endM_turn (turn_box (id := 0) (ds := (s).csO) rfl rfl rfl (.cons (.refl _) (.cons (OwEq.len rfl (fun i j _ _ => HoldC.h _ j) (fun i j _ _ => by rw [setE_self]; exact .refl _)) (.cons (.refl _) .nil)))) ?_
  all_goals exact endM_pick [0] [some (boxRow (s).csO)] (.tup [.i .i64 0, .i .i64 4]) (view_of rfl (.cons rfl (.self (rowPl_box rfl)) .nil)) rfl rfl (by rw [hX]; exact keepK (n := 1) rfl rfl) ⟨rfl, rfl⟩
set_option maxHeartbeats 2000000 in
theorem lend_fine (s : Shelf) (h : s.ok) (who num res to scope : Int) (hg : s.good) (hw : 0 ≤ who ∧ who < (s.tables.length : Int)) (hto : 0 ≤ to ∧ to < (s.tables.length : Int)) (q : Nat) (hq : (s.tables.getD who.toNat default).find num = some q) (hr : (s.thingOf ((s.tables.getD who.toNat default).entries.getD q default)).res = res) (hf : ¬ s.fullB to.toNat) : RetM env.P 87 [some (boxRow s.csO)] [.ptr 0 0 0, .i .i64 who, .i .i64 num, .i .i64 res, .i .i64 to, .i .i64 scope] (fun r H => r = .tup [.i .i64 ((s.setL who.toNat q (IntKind.i64.wrap (((s.tables.getD who.toNat default).entries.getD q default).lends + 1))).tables.getD to.toNat default).next, .i .i64 0] ∧ H = [some (boxRow (s.lentTo who num q to.toNat scope).csO)]) := by
  have hl : s.tables.length ≤ 1048576 := h.1.1
  have hw2 : who.toNat < s.tables.length := by omega
  have hf4 : (s.tables.getD to.toNat default).entries.length < 12 := Nat.lt_of_not_le fun q => hf (.inl q)
  have hf5 : (s.tables.getD to.toNat default).next < 1000000 := Int.lt_of_not_ge fun q => hf (.inr q)
  have hlt : q < (s.tables.getD who.toNat default).entries.length := (find_lt hq).1
  have he : (s.tables.getD who.toNat default).entries.length ≤ 1048576 := entLe h _
  refine ret_ofM (nt := 45) (rvs := [.tmp 12, .tmp 13]) Tryz.func87 rfl rfl rfl rfl (fun X hX => ?_)
  repeat' (first | exact aa | ((conv => whnf) <;> (first | (refine .inr (.inl (.inl ⟨[0], _, _, _, typedO_some s h hg who num res hw q hq hr, (view_of rfl (.cons rfl (.self (rowPl_box rfl)) .nil)), ⟨rfl, rfl⟩, ?_⟩)); rintro _ _ ⟨rfl, rfl⟩; refine ⟨rfl, _, lok_open, ?_⟩) | ((first | refine .inl ⟨_, Ret.wku (full_ok s h to hto (tab_good hg hto).1 (tab_good hg hto).2.2), ?_⟩ | refine ⟨_, Ret.wku (full_ok s h to hto (tab_good hg hto).1 (tab_good hg hto).2.2), ?_⟩); (try rintro _ rfl)) | (refine .inr (.inr ⟨[some (boxRow (s.setL who.toNat q (IntKind.i64.wrap (((s.tables.getD who.toNat default).entries.getD q default).lends + 1))).csO), none, none, none], (by intro X; refine Turn.trans (turn_close (id := 1) (i := who.toNat) (j := 1) (id' := 2) rfl hw2 (show 1 < 2 by decide) (by first | exact upd_self | (simp only [upd, Nat.beq_refl]; rfl) | (simp only [Shelf.rowT, upd, Nat.beq_refl]; rfl) | exact rowT_at) rfl (show 1 ≠ 2 by decide) rfl (setLd_rowO (Nat.le_refl _))) ?_; refine Turn.trans (turn_eq (id := 1) (x := rowL 2 Table.csO (s.setE who.toNat (setLd (s.tables.getD who.toNat default).entries q (IntKind.i64.wrap (((s.tables.getD who.toNat default).entries.getD q default).lends + 1)))).tables) rfl rfl setE_len rfl rfl (setE_rows (l := (setLd (s.tables.getD who.toNat default).entries q (IntKind.i64.wrap (((s.tables.getD who.toNat default).entries.getD q default).lends + 1)))) hw2 setLd_len.symm (setLd_rows hlt))) ?_; refine Turn.trans (turn_close (id := 0) (i := 0) (j := 1) (id' := 1) rfl (show 0 < 1 by decide) (show 1 < 3 by decide) rfl rfl (show 0 ≠ 1 by decide) rfl (rowO_le (Nat.le_of_eq setE_len.symm))) ?_; refine Turn.trans (turn_close (id := 0) (i := 0) (j := 2) (id' := 3) rfl (show 0 < 1 by decide) (show 2 < 3 by decide) rfl rfl (show 0 ≠ 3 by decide) rfl (rowO_le (Nat.le_refl _))) ?_; exact turn_box (id := 0) (ds := (s.setE who.toNat (setLd (s.tables.getD who.toNat default).entries q (IntKind.i64.wrap (((s.tables.getD who.toNat default).entries.getD q default).lends + 1)))).csO) rfl rfl rfl (.cons (.refl _) (.cons (OwEq.len setE_len.symm (fun i j _ _ => HoldC.h _ j) (fun i j _ _ => .refl _)) (.cons (.refl _) .nil)))), (fun i _ q => (by cases q)), .inl ⟨[0], _, _, _, add_ok (s.setL who.toNat q (IntKind.i64.wrap (((s.tables.getD who.toNat default).entries.getD q default).lends + 1))) (setL_ok h) to ⟨hto.1, by rw [show (s.setL who.toNat q (IntKind.i64.wrap (((s.tables.getD who.toNat default).entries.getD q default).lends + 1))).tables.length = s.tables.length from setE_len]; exact hto.2⟩ ⟨0, _, false, 0, scope, who, num⟩ (by rw [setL_at.1]; exact hf4) (by rw [setL_at.2]; exact ⟨(tab_good hg hto).2.1, hf5⟩), (view_of rfl (.cons rfl (.self (rowPl_box rfl)) .nil)), ⟨rfl, rfl⟩, ?_⟩⟩); rintro _ _ ⟨rfl, rfl⟩; refine ⟨rfl, _, (lok_pl (.cons (rowPl_box rfl) .nil)), ?_⟩) | refine And.intro ?_ ?_ | (intro _h; first | contradiction | (try simp only [dd] at _h)) | (refine dt_go ?_) | exact rfl | exact True.intro | exact dkk | exact dks | (refine wrap_succ ?_; omega))))
  all_goals (first | contradiction | skip)
  all_goals (conv => whnf)
  all_goals exact endM_pick [0] [some (boxRow (s.lentTo who num q to.toNat scope).csO)] (.tup [.i .i64 ((s.setL who.toNat q (IntKind.i64.wrap (((s.tables.getD who.toNat default).entries.getD q default).lends + 1))).tables.getD to.toNat default).next, .i .i64 0]) (view_of rfl (.cons rfl (.self (rowPl_box rfl)) .nil)) rfl rfl (by rw [hX]; exact keepK (n := 1) rfl rfl) ⟨rfl, rfl⟩
set_option maxHeartbeats 2000000 in
theorem l19Lend_none (s : Shelf) (h : s.ok) (who num res to scope : Int) (hg : s.good) (hw : 0 ≤ who ∧ who < (s.tables.length : Int)) (hto : 0 ≤ to ∧ to < (s.tables.length : Int)) (hE : s.typ who num res = none) : RetM env.P 97 [some (boxRow s.csO)] [.ptr 0 0 0, .i .i64 who, .i .i64 num, .i .i64 res, .i .i64 to, .i .i64 scope] (fun r H => r = .tup [.i .i64 0, .i .i64 11] ∧ H = [some (boxRow s.csO)]) := by
  have hl : s.tables.length ≤ 1048576 := h.1.1
  have hw2 : who.toNat < s.tables.length := by omega
  refine ret_ofM (nt := 64) (rvs := [.tmp 12, .tmp 13]) Tryz.func97 rfl rfl rfl rfl (fun X hX => ?_)
  repeat' (first | exact aa | ((conv => whnf) <;> (first | ((first | refine .inl ⟨_, Ret.wka (l19Find_ok s h hg who num res), ?_⟩ | refine ⟨_, Ret.wka (l19Find_ok s h hg who num res), ?_⟩); (try rintro _ rfl); rw [hE]; simp only [findR]) | refine And.intro ?_ ?_ | (intro _h; first | contradiction | (try simp only [dd] at _h)) | (refine dt_go ?_) | exact rfl | exact True.intro | exact dkk | exact dks | (refine wrap_succ ?_; omega))))
  all_goals (first | contradiction | skip)
  all_goals (conv => whnf)
  all_goals exact endM_pick [0] [some (boxRow (s).csO)] (.tup [.i .i64 0, .i .i64 11]) (view_of rfl (.cons rfl (.self (rowPl_box rfl)) .nil)) rfl rfl (by rw [hX]; exact keepK (n := 1) rfl rfl) ⟨rfl, rfl⟩
set_option maxHeartbeats 2000000 in
theorem l19Lend_full (s : Shelf) (h : s.ok) (who num res to scope : Int) (hg : s.good) (hw : 0 ≤ who ∧ who < (s.tables.length : Int)) (hto : 0 ≤ to ∧ to < (s.tables.length : Int)) (q : Nat) (hq : (s.tables.getD who.toNat default).find num = some q) (hr : (s.thingOf ((s.tables.getD who.toNat default).entries.getD q default)).res = res) (hf : s.fullB to.toNat) : RetM env.P 97 [some (boxRow s.csO)] [.ptr 0 0 0, .i .i64 who, .i .i64 num, .i .i64 res, .i .i64 to, .i .i64 scope] (fun r H => r = .tup [.i .i64 0, .i .i64 4] ∧ H = [some (boxRow s.csO)]) := by
  have hl : s.tables.length ≤ 1048576 := h.1.1
  have hw2 : who.toNat < s.tables.length := by omega
  have hE : s.typ who num res = some ((s.tables.getD who.toNat default).entries.getD q default) := typ_some (find_at hw hq) hr
  refine ret_ofM (nt := 64) (rvs := [.tmp 12, .tmp 13]) Tryz.func97 rfl rfl rfl rfl (fun X hX => ?_)
  repeat' (first | exact aa | ((conv => whnf) <;> (first | ((first | refine .inl ⟨_, Ret.wka (l19Find_ok s h hg who num res), ?_⟩ | refine ⟨_, Ret.wka (l19Find_ok s h hg who num res), ?_⟩); (try rintro _ rfl); rw [hE]; simp only [findR]) | refine And.intro ?_ ?_ | (intro _h; first | contradiction | (try simp only [dd] at _h)) | (refine dt_go ?_) | exact rfl | exact True.intro | exact dkk | exact dks | ((first | refine .inl ⟨_, Ret.wka (l19Full_ok s h to hto), ?_⟩ | refine ⟨_, Ret.wka (l19Full_ok s h to hto), ?_⟩); (try rintro _ rfl)) | (refine wrap_succ ?_; omega))))
  all_goals (first | contradiction | skip)
  all_goals (conv => whnf)
  all_goals exact endM_pick [0] [some (boxRow (s).csO)] (.tup [.i .i64 0, .i .i64 4]) (view_of rfl (.cons rfl (.self (rowPl_box rfl)) .nil)) rfl rfl (by rw [hX]; exact keepK (n := 1) rfl rfl) ⟨rfl, rfl⟩
set_option maxHeartbeats 2000000 in
theorem l19Lend_fine (s : Shelf) (h : s.ok) (who num res to scope : Int) (hg : s.good) (hw : 0 ≤ who ∧ who < (s.tables.length : Int)) (hto : 0 ≤ to ∧ to < (s.tables.length : Int)) (q : Nat) (hq : (s.tables.getD who.toNat default).find num = some q) (hr : (s.thingOf ((s.tables.getD who.toNat default).entries.getD q default)).res = res) (hf : ¬ s.fullB to.toNat) : RetM env.P 97 [some (boxRow s.csO)] [.ptr 0 0 0, .i .i64 who, .i .i64 num, .i .i64 res, .i .i64 to, .i .i64 scope] (fun r H => r = .tup [.i .i64 ((s.setL who.toNat q (IntKind.i64.wrap (((s.tables.getD who.toNat default).entries.getD q default).lends + 1))).tables.getD to.toNat default).next, .i .i64 0] ∧ H = [some (boxRow (s.lentTo who num q to.toNat scope).csO)]) := by
  have hl : s.tables.length ≤ 1048576 := h.1.1
  have hw2 : who.toNat < s.tables.length := by omega
  have hf4 : (s.tables.getD to.toNat default).entries.length < 12 := Nat.lt_of_not_le fun q => hf (.inl q)
  have hf5 : (s.tables.getD to.toNat default).next < 1000000 := Int.lt_of_not_ge fun q => hf (.inr q)
  have hlt : q < (s.tables.getD who.toNat default).entries.length := (find_lt hq).1
  have he : (s.tables.getD who.toNat default).entries.length ≤ 1048576 := entLe h _
  have hE : s.typ who num res = some ((s.tables.getD who.toNat default).entries.getD q default) := typ_some (find_at hw hq) hr
  refine ret_ofM (nt := 64) (rvs := [.tmp 12, .tmp 13]) Tryz.func97 rfl rfl rfl rfl (fun X hX => ?_)
  repeat' (first | exact aa | ((conv => whnf) <;> (first | ((first | refine .inl ⟨_, Ret.wka (l19Find_ok s h hg who num res), ?_⟩ | refine ⟨_, Ret.wka (l19Find_ok s h hg who num res), ?_⟩); (try rintro _ rfl); rw [hE]; simp only [findR]) | ((first | refine .inl ⟨_, Ret.wka (l19Entry_ok _ (h.1.2 who.toNat hw2) num), ?_⟩ | refine ⟨_, Ret.wka (l19Entry_ok _ (h.1.2 who.toNat hw2) num), ?_⟩); (try rintro _ rfl); rw [hq]; simp only [idxI]) | (refine ld_skip rfl rfl rfl rfl upd_self ?_) | (refine bool_skip any_self ?_) | (first | rw [ld_self rfl] | rw [ld_selfA rfl]) | (refine .inr (.inr ⟨[some (boxRow (s.setL who.toNat q (IntKind.i64.wrap (((s.tables.getD who.toNat default).entries.getD q default).lends + 1))).csO), none, none, none], (by intro X; refine Turn.trans (turn_kill 1) ?_; refine Turn.trans (turn_close (id := 2) (i := who.toNat) (j := 1) (id' := 3) rfl hw2 (show 1 < 2 by decide) (by first | exact upd_self | (simp only [upd, Nat.beq_refl]; rfl) | (simp only [Shelf.rowT, upd, Nat.beq_refl]; rfl) | exact rowT_at) rfl (show 2 ≠ 3 by decide) rfl (setLd_rowO (Nat.le_refl _))) ?_; refine Turn.trans (turn_eq (id := 2) (x := rowL 2 Table.csO (s.setE who.toNat (setLd (s.tables.getD who.toNat default).entries q (IntKind.i64.wrap (((s.tables.getD who.toNat default).entries.getD q default).lends + 1)))).tables) rfl rfl setE_len rfl rfl (setE_rows (l := (setLd (s.tables.getD who.toNat default).entries q (IntKind.i64.wrap (((s.tables.getD who.toNat default).entries.getD q default).lends + 1)))) hw2 setLd_len.symm (setLd_rows hlt))) ?_; refine Turn.trans (turn_close (id := 0) (i := 0) (j := 1) (id' := 2) rfl (show 0 < 1 by decide) (show 1 < 3 by decide) rfl rfl (show 0 ≠ 2 by decide) rfl (rowO_le (Nat.le_of_eq setE_len.symm))) ?_; exact turn_box (id := 0) (ds := (s.setE who.toNat (setLd (s.tables.getD who.toNat default).entries q (IntKind.i64.wrap (((s.tables.getD who.toNat default).entries.getD q default).lends + 1)))).csO) rfl rfl rfl (.cons (.refl _) (.cons (OwEq.len setE_len.symm (fun i j _ _ => HoldC.h _ j) (fun i j _ _ => .refl _)) (.cons (.refl _) .nil)))), (fun i _ q => (by cases q)), .inl ⟨[0], _, _, _, l19Put_ok (s.setL who.toNat q (IntKind.i64.wrap (((s.tables.getD who.toNat default).entries.getD q default).lends + 1))) (setL_ok h) to ⟨hto.1, by rw [show (s.setL who.toNat q (IntKind.i64.wrap (((s.tables.getD who.toNat default).entries.getD q default).lends + 1))).tables.length = s.tables.length from setE_len]; exact hto.2⟩ ⟨0, _, false, 0, scope, who, num⟩ (by rw [setL_at.1]; exact hf4) (by rw [setL_at.2]; exact ⟨(tab_good hg hto).2.1, hf5⟩), (view_of rfl (.cons rfl (.self (rowPl_box rfl)) .nil)), ⟨rfl, rfl⟩, ?_⟩⟩); rintro _ _ ⟨rfl, rfl⟩; refine ⟨rfl, _, (lok_pl (.cons (rowPl_box rfl) .nil)), ?_⟩) | refine And.intro ?_ ?_ | (intro _h; first | contradiction | (try simp only [dd] at _h)) | (refine dt_go ?_) | exact rfl | exact True.intro | exact dkk | exact dks | ((first | refine .inl ⟨_, Ret.wka (l19Full_ok s h to hto), ?_⟩ | refine ⟨_, Ret.wka (l19Full_ok s h to hto), ?_⟩); (try rintro _ rfl)) | (refine wrap_succ ?_; omega))))
  all_goals (first | contradiction | skip)
  all_goals (conv => whnf)
  all_goals exact endM_pick [0] [some (boxRow (s.lentTo who num q to.toNat scope).csO)] (.tup [.i .i64 ((s.setL who.toNat q (IntKind.i64.wrap (((s.tables.getD who.toNat default).entries.getD q default).lends + 1))).tables.getD to.toNat default).next, .i .i64 0]) (view_of rfl (.cons rfl (.self (rowPl_box rfl)) .nil)) rfl rfl (by rw [hX]; exact keepK (n := 1) rfl rfl) ⟨rfl, rfl⟩
end Go.Proofs.YthggkafdjnheeaaGreat
