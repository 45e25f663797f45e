/- Texts for VMakeInP. -/
import Derived.Test.YtmchgnbeoefhhaaGreatVm26
namespace Go.Proofs.YtmchgnbeoefhhaaGreat
open Go Go.RowKit
set_option linter.unusedVariables false
set_option linter.unusedSimpArgs false
set_option maxRecDepth 8000
def Shelf.noMake (s : Shelf) (who : Nat) : Prop := 24 ≤ s.things.length ∨ 1000000 ≤ s.next ∨ s.fullB who
def Shelf.made (s : Shelf) (who : Nat) (res rep : Int) : Shelf := (s.plus res rep).put who ⟨0, s.next, true, 0, 0, 0, 0⟩
theorem plus_ok {s : Shelf} (h : s.ok) (hn : s.things.length < 24) (res rep : Int) : (s.plus res rep).ok := ⟨h.1, by simp only [Shelf.plus, List.length_append, List.length_singleton]; omega, fun _ _ => trivial⟩
theorem rowNs_box {α : Type} {c : α → List AV} {a : α} [h : FreeC c] : RowNs (boxRow (c a)) := ⟨fun i j _ _ => h.h a j⟩
theorem Ret.toM {P : Program} {g : FuncId} {av : List AV} {post : AV → Prop} (h : Ret P g av post) : RetM P g [] av (fun r H => post r ∧ H = []) := .mk fun w S blk FP us hR hc => by
 refine (h.h w S us (fun b hb => (hR.free b hb).1) ⟨hc.1, fun j c u hj hu => (hc.2 j c u hj hu).nil⟩).mono fun e w' ⟨r, u, he, hq, hcu, hb⟩ => ⟨r, u, [], blk, FP, he, ⟨hq, rfl⟩, ⟨fun id r hr => by simp at hr, fun i j r r' hr => by simp at hr, fun b hb => ⟨hb.2.1, fun id r hr => by simp at hr⟩⟩, ?_, HExt.refl _ _, ?_, ⟨hb.os, hb.tape, hb.output, hb.size, fun k hk _ => hb.block k hk⟩⟩
 ·have hcu' : Conc w' (fun b => S b ∨ (w.heap.size ≤ b ∧ b < w'.heap.size)) blk [] r u := hcu.nil
  refine hcu'.mono (fun b hb' => ⟨⟨?_, ?_, fun id r hr => by simp at hr⟩, rfl⟩) (HExt.refl _ _)
  ·rcases hb' with h | h
   ·exact .inl h
   ·exact .inr h.1
  ·rcases hb' with h | h
   ·have := (hR.free b h).1
    have := hb.size
    omega
   ·exact h.2
 ·rintro b ⟨id, r, hr, _⟩
  simp at hr
theorem plus_len (s : Shelf) (res rep : Int) : s.things.length + 1 = (s.plus res rep).things.length := by simp [Shelf.plus]
set_option maxHeartbeats 2000000 in
theorem make_err (s : Shelf) (h : s.ok) (who res rep : Int) (hw : 0 ≤ who ∧ who < (s.tables.length : Int)) (hg1 : (s.tables.getD who.toNat default).entries.length ≤ 12) (hg2 : (s.tables.getD who.toNat default).next ≤ 1000000) (hg3 : s.things.length ≤ 24) (hg4 : s.next ≤ 1000000) (hf : s.noMake who.toNat) : RetM env.P 31 [some (boxRow s.csO)] [.ptr 0 0 0, .i .i64 who, .i .i64 res, .i .i64 rep] (fun r H => r = .tup [.i .i64 0, .i .i64 4] ∧ H = [some (boxRow s.csO)]) := by
 have hl2 : s.things.length ≤ 1048576 := h.2.1
 have hfF : ¬ s.fullB who.toNat → 24 ≤ s.things.length ∨ 1000000 ≤ s.next := fun q => hf.elim .inl fun r => r.elim .inr fun r => absurd r q
 refine ret_ofM (nt := 65) (rvs := [.tmp 8, .tmp 9]) Tryz.func31 rfl rfl rfl rfl (fun X hX => ?_)
 repeat' (first | exact aa | ((conv => whnf) <;> (first | (exfalso; have hq := hfF ‹_›; omega) | refine And.intro ?_ ?_ | (intro _h; first | contradiction | (try simp only [dd] at _h)) | (refine dt_go ?_) | exact rfl | exact True.intro | exact dkk | exact dks | ((first | refine .inl ⟨_, Ret.wka (full_ok s h who hw hg1 hg2), ?_⟩ | refine ⟨_, Ret.wka (full_ok s h who hw hg1 hg2), ?_⟩); (try rintro _ rfl)) | (refine wrap_succ ?_; omega))))
 all_goals (conv => whnf)
 all_goals refine endM_turn (turn_close (id := 0) (i := 0) (j := 2) (id' := 1) rfl (show 0 < 1 by decide) (show 2 < 3 by decide) rfl rfl (show 0 ≠ 1 by decide) rfl (rowO_le (Nat.le_refl _))) ?_
 all_goals refine endM_turn (turn_box (id := 0) (ds := s.csO) rfl rfl rfl (.cons (.refl _) (.cons (.refl _) (.cons (.refl _) .nil)))) ?_
 all_goals exact endM_pick [0] [some (boxRow s.csO)] (.tup [.i .i64 0, .i .i64 4]) (view_of rfl (.cons rfl (.self (rowPl_box rfl)) .nil)) rfl rfl (by rw [hX]; exact keepK (n := 1) rfl rfl) ⟨rfl, rfl⟩
set_option maxHeartbeats 2000000 in
theorem make_fine (s : Shelf) (h : s.ok) (who res rep : Int) (hw : 0 ≤ who ∧ who < (s.tables.length : Int)) (hg1 : (s.tables.getD who.toNat default).entries.length ≤ 12) (hg2 : (s.tables.getD who.toNat default).next ≤ 1000000) (hg3 : s.things.length ≤ 24) (hg4 : s.next ≤ 1000000) (hn : 0 ≤ s.next) (ht : 1 ≤ (s.tables.getD who.toNat default).next) (hf : ¬ s.noMake who.toNat) : RetM env.P 31 [some (boxRow s.csO)] [.ptr 0 0 0, .i .i64 who, .i .i64 res, .i .i64 rep] (fun r H => r = .tup [.i .i64 (s.tables.getD who.toNat default).next, .i .i64 0] ∧ H = [some (boxRow (s.made who.toNat res rep).csO)]) := by
 have hl2 : s.things.length ≤ 1048576 := h.2.1
 have hf1 : s.things.length < 24 := Nat.lt_of_not_le fun q => hf (.inl q)
 have hf2 : s.next < 1000000 := Int.lt_of_not_ge fun q => hf (.inr (.inl q))
 have hf3 : ¬ s.fullB who.toNat := fun q => hf (.inr (.inr q))
 have hf4 : (s.tables.getD who.toNat default).entries.length < 12 := Nat.lt_of_not_le fun q => hf3 (.inl q)
 have hf5 : (s.tables.getD who.toNat default).next < 1000000 := Int.lt_of_not_ge fun q => hf3 (.inr q)
 have hi1 : IntKind.i64.wrap (s.next + 1) = s.next + 1 := wrap_in (by omega) (by omega)
 have hid : IntKind.i64.wrap (IntKind.i64.wrap (s.next + 1) - 1) = s.next := by rw [hi1, wrap_in (by omega) (by omega)]; omega
 refine ret_ofM (nt := 65) (rvs := [.tmp 8, .tmp 9]) Tryz.func31 rfl rfl rfl rfl (fun X hX => ?_)
 repeat' (first | exact aa | ((conv => whnf) <;> (first | exact capB2 hl2 (by decide) | exact capN2 hl2 | (refine .inr (.inr ⟨[some (boxRow (s.plus res rep).csO), none, none, none], (by intro X; refine Turn.trans (turn_kill 1) ?_; refine Turn.trans (turn_kill 2) ?_; refine Turn.trans (turn_close (id := 0) (i := 0) (j := 2) (id' := 3) rfl (show 0 < 1 by decide) (show 2 < 3 by decide) rfl rfl (show 0 ≠ 3 by decide) rfl ⟨Nat.le_refl _, snoc_idf (l := s.things) rfl (fun j hj => HoldC.h (c := Thing.cs) ⟨s.next, res, rep⟩ j)⟩) ?_; exact turn_box (id := 0) (ds := (s.plus res rep).csO) rfl rfl rfl (.cons (show OwEq (.i .i64 (IntKind.i64.wrap (s.next + 1))) (.i .i64 (s.next + 1)) from (by rw [wrap_in (by omega) (by omega)]; exact .refl _)) (.cons (.refl _) (.cons (OwEq.len (plus_len s res rep) (fun i j _ _ => HoldC.h _ j) (snoc_eq (l := s.things) (sz := 3) (a := ⟨s.next, res, rep⟩) (c := Thing.cs) rfl (fun j hj => .refl _))) .nil)))), (fun i _ q => (by cases q)), .inl ⟨[0], _, _, _, add_ok (s.plus res rep) (plus_ok h hf1 res rep) who hw ⟨0, _, true, 0, 0, 0, 0⟩ hf4 ⟨ht, hf5⟩, (view_of rfl (.cons rfl (.self (rowPl_box rfl)) .nil)), ⟨rfl, rfl⟩, ?_⟩⟩); rintro _ _ ⟨rfl, rfl⟩; refine ⟨rfl, _, (lok_pl (.cons (rowPl_box rfl) .nil)), ?_⟩) | refine And.intro ?_ ?_ | (intro _h; first | contradiction | (try simp only [dd] at _h)) | (refine dt_go ?_) | exact rfl | exact True.intro | exact dkk | exact dks | ((first | refine .inl ⟨_, Ret.wka (full_ok s h who hw hg1 hg2), ?_⟩ | refine ⟨_, Ret.wka (full_ok s h who hw hg1 hg2), ?_⟩); (try rintro _ rfl)) | (refine wrap_succ ?_; omega))))
 all_goals (first | contradiction | skip)
 all_goals (conv => whnf)
 all_goals refine endM_pick [0] [some (boxRow (s.made who.toNat res rep).csO)] (.tup [.i .i64 (s.tables.getD who.toNat default).next, .i .i64 0]) (view_of rfl (.cons ?_ (.self (rowPl_box rfl)) .nil)) rfl rfl (by rw [hX]; exact keepK (n := 1) rfl rfl) ⟨rfl, rfl⟩
 all_goals first
  | exact rfl
  | (refine congrArg (fun z => some (some (boxRow ((s.plus res rep).put who.toNat ⟨0, z, true, 0, 0, 0, 0⟩).csO))) ?_; exact hid)
end Go.Proofs.YtmchgnbeoefhhaaGreat
