/- Texts for VDropInP. -/
import Derived.Test.YtmjjadcmmpfljaaGreatVd19
namespace Go.Proofs.YtmjjadcmmpfljaaGreat
open Go Go.RowKit
set_option linter.unusedVariables false
set_option linter.unusedSimpArgs false
set_option maxRecDepth 8000
structure Table where
 next : Int
 entries : List Entry
 deriving DecidableEq, Inhabited
def Table.cs (a : Table) : List AV := [.i .i64 a.next, slL 7 Entry.cs a.entries]
theorem Table.low (a : Table) : a.cs.all (low1 0) = true := rfl
theorem Table.eta {a b : Table} (h0 : a.next = b.next) (h1 : a.entries = b.entries) : a = b := by cases a; cases b; simp_all
def Table.ok (a : Table) : Prop := (okL Entry.ok) a.entries
theorem toTable_ok (a : Table) (h : Table.ok a) : Ret env.P 111 [.agg a.cs] (fun r => r = .agg a.cs) := by
 refine ret_of (nt := 12) (rvs := [.cell 2 58]) Tryz.func111 rfl rfl rfl rfl (fun X => ?_)
 repeat' (first | exact aa | ((conv => whnf) <;> (first | refine And.intro ?_ ?_ | (intro _h; first | contradiction | (try simp only [dd] at _h)) | (refine dt_go ?_) | exact rfl | exact True.intro | exact dkk | exact dks | ((first | refine .inl ⟨_, toEntryS_ok _ h, ?_⟩ | refine ⟨_, toEntryS_ok _ h, ?_⟩); (try rintro _ rfl)) | (refine wrap_succ ?_; omega))))
theorem eqTable_ok (a b : Table) (h : Table.ok a) : Ret env.P 131 [.agg a.cs, .agg b.cs] (fun r => r = .b (decide (a = b))) := by
 obtain ⟨a0, a1⟩ := a
 obtain ⟨b0, b1⟩ := b
 refine ret_of (nt := 16) (rvs := [.tmp 4]) Tryz.func131 rfl rfl rfl rfl (fun X => ?_)
 repeat' (first | exact aa | ((conv => whnf) <;> (first | refine And.intro ?_ ?_ | (intro _h; first | contradiction | (try simp only [dd] at _h)) | (refine dt_go ?_) | exact rfl | exact True.intro | exact dkk | exact dks | ((first | refine .inl ⟨_, eqEntryS_ok _ _ h, ?_⟩ | refine ⟨_, eqEntryS_ok _ _ h, ?_⟩); (try rintro _ rfl)) | (refine wrap_succ ?_; omega))))
 all_goals (clear h; refine leaf_b ?_; simp_all)
def Table.sz (a : Table) (left : Int) : Int :=
 if (szFl a.entries left) < 0 then -1 else (szFl a.entries left)
theorem Table.sz_le (a : Table) (left : Int) (h1 : left ≤ 1048576) : Table.sz a left ≤ 1048576 := by
 have b1 : (szFl a.entries left) ≤ 1048576 := szN_le h1
 unfold Table.sz
 repeat' split
 all_goals omega
theorem Table.sz_ok (a : Table) (left : Int) (h0 : 0 ≤ left) (h1 : left ≤ 1048576) (hn : ¬ Table.sz a left < 0) : Table.ok a := by
 have b1 : (szFl a.entries left) ≤ 1048576 := szN_le h1
 unfold Table.sz at hn
 by_cases c1 : (szFl a.entries left) < 0
 ·rw [if_pos c1] at hn; omega
 rw [if_neg c1] at hn
 exact szFl_ok (fun _ => trivial) h0 h1 c1
theorem szTable_ok (a : Table) (left : Int) (h0 : 0 ≤ left) (h1 : left ≤ 1048576) : Ret env.P 110 [.agg a.cs, .i .i64 left] (fun r => r = .i .i64 (Table.sz a left)) := by
 have b1 : (szFl a.entries left) ≤ 1048576 := szN_le h1
 refine ret_of (nt := 12) (rvs := [.tmp 4]) Tryz.func110 rfl rfl rfl rfl (fun X => ?_)
 repeat' (first | exact aa | ((conv => whnf) <;> (first | refine And.intro ?_ ?_ | (intro _h; first | contradiction | (try simp only [dd] at _h)) | (refine dt_go ?_) | exact rfl | exact True.intro | exact dkk | exact dks | ((first | refine .inl ⟨_, szEntryS_ok _ _ (by omega) (by omega), ?_⟩ | refine ⟨_, szEntryS_ok _ _ (by omega) (by omega), ?_⟩); (try rintro _ rfl)) | (refine wrap_succ ?_; omega))))
 all_goals (refine leaf_i ?_; simp_all [Table.sz]; try (intros; omega))
theorem toTableS_ok (l : List Table) (h : okL Table.ok l) : Ret env.P 73 [slL 2 Table.cs l] (fun r => r = slL 2 Table.cs l) := by
 have hl := h.1
 refine Ret.to ?_
 refine ret_of (nt := 23) (rvs := [.tmp 2]) Tryz.func73 rfl rfl rfl rfl (fun X => ?_)
 conv => whnf
 refine ⟨⟨by omega, by omega, by dsimp only; omega, by omega⟩, ?_⟩
 conv => whnf
 refine loopN l.length (fun k => [(4, .i .i64 k)]) (fun k => [some (.arr ⟨2, l.length, fillE k (elE Table.cs l) (fun _ j => [AV.i .i64 0, AV.nils].getD j .any), .arr⟩)]) (fun k => True) ⟨trivial, ?_⟩
 repeat' (first | exact aa | ((conv => whnf) <;> (first | exact arr_start rfl (fun _ _ => low_cells (Table.low _)) (fun _ _ => low_cells rfl) | exact arr_round rfl rfl (fun _ _ => rfl) (fun _ _ => low_cells (Table.low _)) (fun _ _ => low_cells rfl) | refine And.intro ?_ ?_ | (intro _h; first | contradiction | (try simp only [dd] at _h)) | (refine dt_go ?_) | exact rfl | exact True.intro | exact dkk | exact dks | ((first | refine .inl ⟨_, toTable_ok _ (h.2 _ (by omega)), ?_⟩ | refine ⟨_, toTable_ok _ (h.2 _ (by omega)), ?_⟩); (try rintro _ rfl)) | (refine wrap_succ ?_; omega))))
 exact wk_fill rfl (by omega) rfl (fun _ => rfl)
theorem eqTableS_ok (l m : List Table) (h : okL Table.ok l) : Ret env.P 90 [slL 2 Table.cs l, slL 2 Table.cs m] (fun r => r = .b (decide (l = m))) := by
 have hl := h.1
 refine ret_of (nt := 27) (rvs := [.tmp 4]) Tryz.func90 rfl rfl rfl rfl (fun X => ?_)
 repeat' (first | exact aa | ((conv => whnf) <;> (first | exact upto_succ (by assumption) (by assumption) | refine loopN l.length (fun k => [(5, .i .i64 k)]) (fun k => []) (fun k => ∀ j, j < k → l.getD j default = m.getD j default) ⟨fun _ h => by omega, ?_⟩ | refine And.intro ?_ ?_ | (intro _h; first | contradiction | (try simp only [dd] at _h)) | (refine dt_go ?_) | exact rfl | exact True.intro | exact dkk | exact dks | ((first | refine .inl ⟨_, eqTable_ok _ _ (h.2 _ (by omega)), ?_⟩ | refine ⟨_, eqTable_ok _ _ (h.2 _ (by omega)), ?_⟩); (try rintro _ rfl)) | (refine wrap_succ ?_; omega))))
 ·exact leaf_ne (by rintro rfl; omega)
 ·exact leaf_ne (by rintro rfl; contradiction)
 ·exact leaf_eq (list_eq (by omega) fun j hj => by have := ‹∀ j, j < _ → l.getD j default = m.getD j default›; exact this j (by omega))
theorem szTableS_ok (l : List Table) (left : Int) (h0 : 0 ≤ left) (h1 : left ≤ 1048576) : Ret env.P 61 [slL 2 Table.cs l, .i .i64 left] (fun r => r = .i .i64 (szLs Table.sz l left)) := by
 refine Ret.args fun hw => ?_
 have hl := wfs_sl (hw _ (List.mem_cons_self))
 have e : IntKind.i64.wrap (left - (l.length : Int)) = left - (l.length : Int) := wrap_in (by omega) (by omega)
 refine ret_of (nt := 27) (rvs := [.tmp 4]) Tryz.func61 rfl rfl rfl rfl (fun X => ?_)
 conv => whnf
 rw [e]
 refine ⟨fun _h => ?_, fun _h => ?_⟩
 ·exact leaf_i (szLs_neg (of_decide_eq_true _h))
 have _h : ¬ (left - (l.length : Int) < 0) := fun hc => _h (decide_eq_true hc)
 conv => whnf
 refine loopN l.length (fun k => [(5, .i .i64 k), (1, .i .i64 (szAt Table.sz l (left - l.length) k))]) (fun k => []) (fun k => SzI Table.sz l (left - l.length) k) ⟨.start (by omega) (by omega), ?_⟩
 repeat' (first | exact aa | ((conv => whnf) <;> (first | exact SzI.step (fun a v h => Table.sz_le a v h) (by assumption) (by assumption) (by assumption) | refine And.intro ?_ ?_ | (intro _h; first | contradiction | (try simp only [dd] at _h)) | (refine dt_go ?_) | exact rfl | exact True.intro | exact dkk | exact dks | ((first | refine .inl ⟨_, szTable_ok _ _ (SzI.lo ‹_›) (SzI.hi ‹_›), ?_⟩ | refine ⟨_, szTable_ok _ _ (SzI.lo ‹_›) (SzI.hi ‹_›), ?_⟩); (try rintro _ rfl)) | (refine wrap_succ ?_; omega))))
 all_goals first | exact leaf_i (SzI.neg ‹SzI _ _ _ _› (by assumption) (by assumption) (by assumption)) | exact leaf_i (SzI.fin ‹SzI _ _ _ _› (by assumption) (by assumption))
set_option maxRecDepth 8000
structure Thing where
 id : Int
 res : Int
 rep : Int
 deriving DecidableEq, Inhabited
def Thing.cs (a : Thing) : List AV := [.i .i64 a.id, .i .i64 a.res, .i .i64 a.rep]
theorem Thing.low (a : Thing) : a.cs.all (low1 0) = true := rfl
theorem Thing.eta {a b : Thing} (h0 : a.id = b.id) (h1 : a.res = b.res) (h2 : a.rep = b.rep) : a = b := by cases a; cases b; simp_all
def Thing.ok (a : Thing) : Prop := True
theorem toThing_ok (a : Thing) (h : Thing.ok a) : Ret env.P 112 [.agg a.cs] (fun r => r = .agg a.cs) := by
 refine ret_of (nt := 14) (rvs := [.cell 2 39]) Tryz.func112 rfl rfl rfl rfl (fun X => ?_)
 exact rfl
theorem eqThing_ok (a b : Thing) (h : Thing.ok a) : Ret env.P 11 [.agg a.cs, .agg b.cs] (fun r => r = .b (decide (a = b))) := by
 obtain ⟨a0, a1, a2⟩ := a
 obtain ⟨b0, b1, b2⟩ := b
 refine ret_of (nt := 20) (rvs := [.tmp 4]) Tryz.func11 rfl rfl rfl rfl (fun X => ?_)
 repeat' (first | exact aa | ((conv => whnf) <;> (first | refine And.intro ?_ ?_ | (intro _h; first | contradiction | (try simp only [dd] at _h)) | (refine dt_go ?_) | exact rfl | exact True.intro | exact dkk | exact dks | (refine wrap_succ ?_; omega))))
 all_goals (clear h; refine leaf_b ?_; simp_all)
theorem toThingS_ok (l : List Thing) (h : okL Thing.ok l) : Ret env.P 74 [slL 3 Thing.cs l] (fun r => r = slL 3 Thing.cs l) := by
 have hl := h.1
 refine Ret.to ?_
 refine ret_of (nt := 23) (rvs := [.tmp 2]) Tryz.func74 rfl rfl rfl rfl (fun X => ?_)
 conv => whnf
 refine ⟨⟨by omega, by omega, by dsimp only; omega, by omega⟩, ?_⟩
 conv => whnf
 refine loopN l.length (fun k => [(4, .i .i64 k)]) (fun k => [some (.arr ⟨3, l.length, fillE k (elE Thing.cs l) (fun _ j => [AV.i .i64 0, AV.i .i64 0, AV.i .i64 0].getD j .any), .arr⟩)]) (fun k => True) ⟨trivial, ?_⟩
 repeat' (first | exact aa | ((conv => whnf) <;> (first | exact arr_start rfl (fun _ _ => low_cells (Thing.low _)) (fun _ _ => low_cells rfl) | exact arr_round rfl rfl (fun _ _ => rfl) (fun _ _ => low_cells (Thing.low _)) (fun _ _ => low_cells rfl) | refine And.intro ?_ ?_ | (intro _h; first | contradiction | (try simp only [dd] at _h)) | (refine dt_go ?_) | exact rfl | exact True.intro | exact dkk | exact dks | ((first | refine .inl ⟨_, toThing_ok _ (h.2 _ (by omega)), ?_⟩ | refine ⟨_, toThing_ok _ (h.2 _ (by omega)), ?_⟩); (try rintro _ rfl)) | (refine wrap_succ ?_; omega))))
 exact wk_fill rfl (by omega) rfl (fun _ => rfl)
theorem eqThingS_ok (l m : List Thing) (h : okL Thing.ok l) : Ret env.P 23 [slL 3 Thing.cs l, slL 3 Thing.cs m] (fun r => r = .b (decide (l = m))) := by
 have hl := h.1
 refine ret_of (nt := 27) (rvs := [.tmp 4]) Tryz.func23 rfl rfl rfl rfl (fun X => ?_)
 repeat' (first | exact aa | ((conv => whnf) <;> (first | exact upto_succ (by assumption) (by assumption) | refine loopN l.length (fun k => [(5, .i .i64 k)]) (fun k => []) (fun k => ∀ j, j < k → l.getD j default = m.getD j default) ⟨fun _ h => by omega, ?_⟩ | refine And.intro ?_ ?_ | (intro _h; first | contradiction | (try simp only [dd] at _h)) | (refine dt_go ?_) | exact rfl | exact True.intro | exact dkk | exact dks | ((first | refine .inl ⟨_, eqThing_ok _ _ (h.2 _ (by omega)), ?_⟩ | refine ⟨_, eqThing_ok _ _ (h.2 _ (by omega)), ?_⟩); (try rintro _ rfl)) | (refine wrap_succ ?_; omega))))
 ·exact leaf_ne (by rintro rfl; omega)
 ·exact leaf_ne (by rintro rfl; contradiction)
 ·exact leaf_eq (list_eq (by omega) fun j hj => by have := ‹∀ j, j < _ → l.getD j default = m.getD j default›; exact this j (by omega))
theorem szThingS_ok (l : List Thing) (left : Int) (h0 : 0 ≤ left) (h1 : left ≤ 1048576) : Ret env.P 62 [slL 3 Thing.cs l, .i .i64 left] (fun r => r = .i .i64 (szFl l left)) := by
 refine Ret.args fun hw => ?_
 have hl := wfs_sl (hw _ (List.mem_cons_self))
 have e : IntKind.i64.wrap (left - (l.length : Int)) = left - (l.length : Int) := wrap_in (by omega) (by omega)
 refine ret_of (nt := 12) (rvs := [.tmp 4]) Tryz.func62 rfl rfl rfl rfl (fun X => ?_)
 repeat' (first | exact aa | ((conv => whnf) <;> (first | refine And.intro ?_ ?_ | (intro _h; first | contradiction | (try simp only [dd] at _h)) | (refine dt_go ?_) | exact rfl | exact True.intro | exact dkk | exact dks | (refine wrap_succ ?_; omega))))
 all_goals (refine leaf_i ?_; unfold szFl szN; rw [e] at _h; first | rw [if_pos (by omega)] | (rw [if_neg (by omega)]; exact e))
set_option maxRecDepth 8000
structure Shelf where
 next : Int
 tables : List Table
 things : List Thing
 deriving DecidableEq, Inhabited
def Shelf.cs (a : Shelf) : List AV := [.i .i64 a.next, slL 2 Table.cs a.tables, slL 3 Thing.cs a.things]
theorem Shelf.low (a : Shelf) : a.cs.all (low1 0) = true := rfl
theorem Shelf.eta {a b : Shelf} (h0 : a.next = b.next) (h1 : a.tables = b.tables) (h2 : a.things = b.things) : a = b := by cases a; cases b; simp_all
def Shelf.ok (a : Shelf) : Prop := (okL Table.ok) a.tables ∧ (okL Thing.ok) a.things
theorem toShelf_ok (a : Shelf) (h : Shelf.ok a) : Ret env.P 34 [.agg a.cs] (fun r => r = .agg a.cs) := by
 refine ret_of (nt := 16) (rvs := [.cell 2 34]) Tryz.func34 rfl rfl rfl rfl (fun X => ?_)
 repeat' (first | exact aa | ((conv => whnf) <;> (first | refine And.intro ?_ ?_ | (intro _h; first | contradiction | (try simp only [dd] at _h)) | (refine dt_go ?_) | exact rfl | exact True.intro | exact dkk | exact dks | ((first | refine .inl ⟨_, toTableS_ok _ h.1, ?_⟩ | refine ⟨_, toTableS_ok _ h.1, ?_⟩); (try rintro _ rfl)) | ((first | refine .inl ⟨_, toThingS_ok _ h.2, ?_⟩ | refine ⟨_, toThingS_ok _ h.2, ?_⟩); (try rintro _ rfl)) | (refine wrap_succ ?_; omega))))
theorem eqShelf_ok (a b : Shelf) (h : Shelf.ok a) : Ret env.P 43 [.agg a.cs, .agg b.cs] (fun r => r = .b (decide (a = b))) := by
 obtain ⟨a0, a1, a2⟩ := a
 obtain ⟨b0, b1, b2⟩ := b
 refine ret_of (nt := 22) (rvs := [.tmp 4]) Tryz.func43 rfl rfl rfl rfl (fun X => ?_)
 repeat' (first | exact aa | ((conv => whnf) <;> (first | refine And.intro ?_ ?_ | (intro _h; first | contradiction | (try simp only [dd] at _h)) | (refine dt_go ?_) | exact rfl | exact True.intro | exact dkk | exact dks | ((first | refine .inl ⟨_, eqTableS_ok _ _ h.1, ?_⟩ | refine ⟨_, eqTableS_ok _ _ h.1, ?_⟩); (try rintro _ rfl)) | ((first | refine .inl ⟨_, eqThingS_ok _ _ h.2, ?_⟩ | refine ⟨_, eqThingS_ok _ _ h.2, ?_⟩); (try rintro _ rfl)) | (refine wrap_succ ?_; omega))))
 all_goals (clear h; refine leaf_b ?_; simp_all)
def Shelf.sz (a : Shelf) (left : Int) : Int :=
 if ((szLs Table.sz) a.tables left) < 0 then -1 else if (szFl a.things ((szLs Table.sz) a.tables left)) < 0 then -1 else (szFl a.things ((szLs Table.sz) a.tables left))
theorem Shelf.sz_le (a : Shelf) (left : Int) (h1 : left ≤ 1048576) : Shelf.sz a left ≤ 1048576 := by
 have b1 : ((szLs Table.sz) a.tables left) ≤ 1048576 := szLs_le (fun a v h => Table.sz_le a v h) h1
 have b2 : (szFl a.things ((szLs Table.sz) a.tables left)) ≤ 1048576 := szN_le b1
 unfold Shelf.sz
 repeat' split
 all_goals omega
theorem Shelf.sz_ok (a : Shelf) (left : Int) (h0 : 0 ≤ left) (h1 : left ≤ 1048576) (hn : ¬ Shelf.sz a left < 0) : Shelf.ok a := by
 have b1 : ((szLs Table.sz) a.tables left) ≤ 1048576 := szLs_le (fun a v h => Table.sz_le a v h) h1
 have b2 : (szFl a.things ((szLs Table.sz) a.tables left)) ≤ 1048576 := szN_le b1
 unfold Shelf.sz at hn
 by_cases c1 : ((szLs Table.sz) a.tables left) < 0
 ·rw [if_pos c1] at hn; omega
 rw [if_neg c1] at hn
 by_cases c2 : (szFl a.things ((szLs Table.sz) a.tables left)) < 0
 ·rw [if_pos c2] at hn; omega
 rw [if_neg c2] at hn
 exact ⟨szLs_ok (fun a v h => Table.sz_le a v h) (fun a v h0 h1 hn => Table.sz_ok a v h0 h1 hn) h0 h1 c1, szFl_ok (fun _ => trivial) (by omega) b1 c2⟩
theorem szShelf_ok (a : Shelf) (left : Int) (h0 : 0 ≤ left) (h1 : left ≤ 1048576) : Ret env.P 26 [.agg a.cs, .i .i64 left] (fun r => r = .i .i64 (Shelf.sz a left)) := by
 have b1 : ((szLs Table.sz) a.tables left) ≤ 1048576 := szLs_le (fun a v h => Table.sz_le a v h) h1
 have b2 : (szFl a.things ((szLs Table.sz) a.tables left)) ≤ 1048576 := szN_le b1
 refine ret_of (nt := 18) (rvs := [.tmp 4]) Tryz.func26 rfl rfl rfl rfl (fun X => ?_)
 repeat' (first | exact aa | ((conv => whnf) <;> (first | refine And.intro ?_ ?_ | (intro _h; first | contradiction | (try simp only [dd] at _h)) | (refine dt_go ?_) | exact rfl | exact True.intro | exact dkk | exact dks | ((first | refine .inl ⟨_, szTableS_ok _ _ (by omega) (by omega), ?_⟩ | refine ⟨_, szTableS_ok _ _ (by omega) (by omega), ?_⟩); (try rintro _ rfl)) | ((first | refine .inl ⟨_, szThingS_ok _ _ (by omega) (by omega), ?_⟩ | refine ⟨_, szThingS_ok _ _ (by omega) (by omega), ?_⟩); (try rintro _ rfl)) | (refine wrap_succ ?_; omega))))
 all_goals (refine leaf_i ?_; simp_all [Shelf.sz]; try (intros; omega))
set_option maxRecDepth 8000
instance : HoldC Entry.cs := holdC_plain fun _ => rfl
instance : FreeC Entry.cs := freeC_plain fun _ => rfl
instance : Shr 0 Entry.cs Entry.cs := shr_plain fun _ => rfl
def Entry.mkE (a : Entry) (k : Int) : Entry × Int := (⟨k, (k + 1), decide (Int.tmod ((k + 1) + 1) 3 = 0), (((k + 1) + 1) + 1), ((((k + 1) + 1) + 1) + 1), (((((k + 1) + 1) + 1) + 1) + 1), ((((((k + 1) + 1) + 1) + 1) + 1) + 1)⟩, (((((((k + 1) + 1) + 1) + 1) + 1) + 1) + 1))
theorem Entry.mkE_mono (a : Entry) (k : Int) : k ≤ (Entry.mkE a k).2 := by simp only [Entry.mkE]; omega
theorem Entry.mkE_ok (a : Entry) (k : Int) (h : Entry.ok a) : Entry.ok (Entry.mkE a k).1 := trivial
theorem Entry.mkE_idem (a : Entry) (k : Int) : Entry.mkE (Entry.mkE a k).1 k = Entry.mkE a k := by simp only [Entry.mkE]
theorem toEntrySO_ok (l : List Entry) (h : okL Entry.ok l) : RetM env.P 153 [] [slL 7 Entry.cs l] (fun r H => r = .row 0 l.length ∧ H = [some (rowL 7 Entry.cs l)]) := by
 have hl := h.1
 refine ret_ofM (nt := 23) (rvs := [.tmp 2]) Tryz.func153 rfl rfl rfl rfl (fun X hX => ?_)
 conv => whnf
 refine ⟨⟨by omega, by omega, by dsimp only; omega, by omega⟩, ?_⟩
 conv => whnf
 refine loopN l.length (fun k => [(4, .i .i64 k)]) (fun k => [some (.arr ⟨7, l.length, fillE k (elE Entry.cs l) (fun _ j => [AV.i .i64 0, AV.i .i64 0, AV.kb false, AV.i .i64 0, AV.i .i64 0, AV.i .i64 0, AV.i .i64 0].getD j .any), .arr⟩)]) (fun k => True) ⟨trivial, ?_⟩
 repeat' (first | exact aa | ((conv => whnf) <;> (first | exact arr_start rfl (fun _ _ => low_cells rfl) (fun _ _ => low_cells rfl) | exact arr_round rfl rfl (fun _ _ => rfl) (fun _ _ => low_cells rfl) (fun _ _ => low_cells rfl) | refine And.intro ?_ ?_ | (intro _h; first | contradiction | (try simp only [dd] at _h)) | (refine dt_go ?_) | exact rfl | exact True.intro | exact dkk | exact dks | ((first | refine .inl ⟨_, toEntry_ok _ (h.2 _ (by omega)), ?_⟩ | refine ⟨_, toEntry_ok _ (h.2 _ (by omega)), ?_⟩); (try rintro _ rfl)) | (refine wrap_succ ?_; omega))))
 exact endM_rowL (l := l) (c := Entry.cs) rfl (fun i j hi hj => fill_end (by omega)) ⟨rfl, rfl⟩
theorem markEntryS_ok (l : List Entry) (k : Int) (h0 : 0 ≤ k) (hk : (markL Entry.mkE l k).2 ≤ 4611686018427387904) (hl : l.length ≤ 1048576) : RetM env.P 132 [some (rowL 7 Entry.cs l)] [.row 0 l.length, .i .i64 k] (fun r H => r = .i .i64 (markL Entry.mkE l k).2 ∧ H = [some (rowL 7 Entry.cs (markL Entry.mkE l k).1)]) := by
 refine ret_ofM (nt := 64) (rvs := [.tmp 4]) Tryz.func132 rfl rfl rfl rfl (fun X hX => ?_)
 conv => whnf
 refine loopN l.length (fun i => [(5, .i .i64 i), (1, .i .i64 (mkC Entry.mkE l k i))]) (fun i => [some (.arr ⟨7, l.length, elE Entry.cs (mkL Entry.mkE l k i), .arr⟩)]) (fun i => True) ⟨trivial, ?_⟩
 repeat' (first | exact aa | ((conv => whnf) <;> (first | exact mkC_zero.symm | exact arr_same mkL_zero rfl (fun a j => low_cells rfl) | refine And.intro ?_ ?_ | (intro _h; first | contradiction | (try simp only [dd] at _h)) | (refine dt_go ?_) | exact rfl | exact True.intro | exact dkk | exact dks | (refine wrap_succ ?_; omega))))
 ·rename_i i _ _
  have q1 := mkC_le (l := l) (k := k) Entry.mkE_mono (i + 1)
  have q2 := mkC_ge (l := l) (k := k) Entry.mkE_mono i
  rw [mkC_succ (by omega)] at q1
  rw [mkC_succ (by omega)]
  simp only [Entry.mkE] at q1 ⊢
  simp (disch := omega) only [wrap_in]
 ·rename_i i _ _
  have q1 := mkC_le (l := l) (k := k) Entry.mkE_mono (i + 1)
  have q2 := mkC_ge (l := l) (k := k) Entry.mkE_mono i
  rw [mkC_succ (by omega)] at q1
  simp only [Entry.mkE] at q1
  conv => whnf
  refine arr_set (mkL_succ (by omega)) (by rw [mkL_len]; omega) rfl (fun a j => low_cells rfl) ?_ ?_
  ·intro j hj
   rcases (show j = 0 ∨ j = 1 ∨ j = 2 ∨ j = 3 ∨ j = 4 ∨ j = 5 ∨ j = 6 by omega) with rfl | rfl | rfl | rfl | rfl | rfl | rfl
   all_goals (simp (disch := omega) only [upd, Nat.beq_refl, wrap_in, Int.toNat_natCast]; rfl)
  ·intro a j hne
   simp only [upd, beq_ff hne, Bool.and_false, cond_false, Int.toNat_natCast]
 ·exact endM_self ⟨congrArg _ (mkC_end (by omega)), rowL_end (by omega)⟩
theorem heldEntryS_ok (l : List Entry) (k : Int) (h0 : 0 ≤ k) (hk : (markL Entry.mkE l k).2 ≤ 4611686018427387904) (hl : l.length ≤ 1048576) : Ret env.P 133 [slL 7 Entry.cs l, .i .i64 k] (fun r => r = .i .i64 (heldI l (markL Entry.mkE l k))) := by
 refine ret_of (nt := 78) (rvs := [.tmp 4]) Tryz.func133 rfl rfl rfl rfl (fun X => ?_)
 repeat' (first | exact aa | ((conv => whnf) <;> (first | refine loopN l.length (fun i => [(5, .i .i64 i), (1, .i .i64 (mkC Entry.mkE l k i))]) (fun i => []) (fun i => HeldUp Entry.mkE l k i) ⟨heldUp_zero, ?_⟩ | exact mkC_zero.symm | refine And.intro ?_ ?_ | (intro _h; first | contradiction | (try simp only [dd] at _h)) | (refine dt_go ?_) | exact rfl | exact True.intro | exact dkk | exact dks | (refine wrap_succ ?_; omega))))
 all_goals (first | (conv => whnf) | skip)
 all_goals (try simp only [Int.toNat_natCast] at *)
 all_goals first
  | exact leaf_i (held_end ‹HeldUp _ l k _› (by omega))
  | (have q := held_rng Entry.mkE_mono ‹HeldUp Entry.mkE l k _› (by omega)
     simp only [Entry.mkE] at q
     have q1 := q.1
     have q2 := q.2
     clear q
     (try simp (disch := omega) only [wrap_in, bne_iff_ne, ne_eq, bne_eq_false_iff_eq] at *)
     first
      | (rw [mkC_succ (by omega)]; done)
      | (rw [mkC_succ (by omega)]; rfl)
      | exact heldUp_succ ‹_› (Entry.eta ‹_› ‹_› ‹_› ‹_› ‹_› ‹_› ‹_›)
      | (refine leaf_i (held_no ‹HeldUp Entry.mkE l k _› (by omega) fun e => ?_); first | exact _h (congrArg (fun a => a.num) e) | exact _h (congrArg (fun a => a.id) e) | exact _h (congrArg (fun a => a.own) e) | exact _h (congrArg (fun a => a.lends) e) | exact _h (congrArg (fun a => a.scope) e) | exact _h (congrArg (fun a => a.from_) e) | exact _h (congrArg (fun a => a.fromNum) e)))
theorem heldEntryS_or (l : List Entry) (k : Int) (h0 : 0 ≤ k) (hk : (markL Entry.mkE l k).2 ≤ 4611686018427387904) (hl : l.length ≤ 1048576) : Ret env.P 133 [slL 7 Entry.cs l, .i .i64 k] (fun y => (l = (markL Entry.mkE l k).1 ∧ k ≤ (markL Entry.mkE l k).2 ∧ y = .i .i64 (markL Entry.mkE l k).2) ∨ (¬ l = (markL Entry.mkE l k).1 ∧ y = .i .i64 (-1))) :=
 (heldEntryS_ok l k h0 hk hl).mono fun y hy => by
  subst hy
  obtain ⟨h1, h2⟩ | ⟨h1, h2⟩ := heldI_cases l (markL Entry.mkE l k)
  ·exact .inl ⟨h1, markL_mono Entry.mkE_mono l k, by rw [h2]⟩
  ·exact .inr ⟨h1, by rw [h2]⟩
set_option maxRecDepth 8000
def Table.csO (a : Table) : List AV := [.i .i64 a.next, owL 7 Entry.cs a.entries]
instance : HoldC Table.csO := ⟨fun a => (idf_cons trivial (idf_cons owL_idf idf_nil))⟩
instance : FreeC Table.csO := ⟨fun a => (free_cons trivial (free_cons owL_free free_nil))⟩
instance : Shr 1 Table.csO Table.cs := ⟨fun H k a => (.cons (.refl _) (.cons (shr_ow (d := 0) (k := k + 0)) .nil))⟩
def Table.resO (a : Table) : List AV := [.i .i64 a.next, .row 0 a.entries.length]
def Table.rowsO (a : Table) : Hp := [some (rowL 7 Entry.cs a.entries)]
theorem toTableO_ok (a : Table) (h : Table.ok a) : RetM env.P 111 [] [.agg a.cs] (fun r H => r = .agg a.resO ∧ H = a.rowsO) := by
 refine ret_ofM (nt := 12) (rvs := [.cell 2 58]) Tryz.func111 rfl rfl rfl rfl (fun X hX => ?_)
 repeat' (first | exact aa | ((conv => whnf) <;> (first | refine And.intro ?_ ?_ | (intro _h; first | contradiction | (try simp only [dd] at _h)) | (refine dt_go ?_) | exact rfl | exact True.intro | exact dkk | exact dks | (refine .inr (.inl (.inl ⟨[], _, _, _, toEntrySO_ok _ h, viewA, ⟨rfl, rfl⟩, ?_⟩)); rintro _ _ ⟨rfl, rfl⟩; refine ⟨rfl, _, lokA, ?_⟩) | (refine wrap_succ ?_; omega))))
 exact endM_pick [3] a.rowsO (.agg a.resO) viewA rfl rfl (fun k hk => by rw [hX] at hk; exact absurd hk (Nat.not_lt_zero _)) ⟨rfl, rfl⟩
def Table.mkE (a : Table) (k : Int) : Table × Int := (⟨k, (markL Entry.mkE a.entries (k + 1)).1⟩, (markL Entry.mkE a.entries (k + 1)).2)
theorem Table.mkE_mono (a : Table) (k : Int) : k ≤ (Table.mkE a k).2 := by have m0 := markL_mono Entry.mkE_mono a.entries (k + 1); simp only [Table.mkE]; omega
theorem Table.mkE_ok (a : Table) (k : Int) (h : Table.ok a) : Table.ok (Table.mkE a k).1 := (okL_mark Entry.mkE_ok h)
theorem Table.mkE_idem (a : Table) (k : Int) : Table.mkE (Table.mkE a k).1 k = Table.mkE a k := by simp only [Table.mkE, markL_idem Entry.mkE_idem]
theorem toTableSO_ok (l : List Table) (h : okL Table.ok l) : RetM env.P 73 [] [slL 2 Table.cs l] (fun r H => r = .row 0 l.length ∧ H = [some (rowL 2 Table.csO l)]) := by
 have hl := h.1
 refine ret_ofM (nt := 23) (rvs := [.tmp 2]) Tryz.func73 rfl rfl rfl rfl (fun X hX => ?_)
 conv => whnf
 refine ⟨⟨by omega, by omega, by dsimp only; omega, by omega⟩, ?_⟩
 conv => whnf
 refine loopNT l.length (fun k => [(4, .i .i64 k)]) (fun k => [some (.arr ⟨2, l.length, fillE k (elE Table.csO l) (fun _ j => [AV.i .i64 0, AV.nils].getD j .any), .arr⟩)]) (fun k => True) ⟨trivial, ?_⟩
 repeat' (first | exact aa | ((conv => whnf) <;> (first | exact arr_start rfl (fun _ _ => low_cells rfl) (fun _ _ => low_cells rfl) | refine And.intro ?_ ?_ | (intro _h; first | contradiction | (try simp only [dd] at _h)) | (refine dt_go ?_) | exact rfl | exact True.intro | exact dkk | exact dks | (refine .inr (.inl (.inl ⟨[], _, _, _, toTableO_ok _ (h.2 _ (by omega)), viewA, ⟨rfl, rfl⟩, ?_⟩)); rintro _ _ ⟨rfl, rfl⟩; refine ⟨rfl, _, lokA, ?_⟩) | (refine wrap_succ ?_; omega))))
 ·have hi : ‹Nat› < l.length := by omega
  refine ⟨_, (turn_close (id := 0) (j := 1) (id' := 1) rfl (by omega) (show 1 < 2 by decide) (by simp only [upd, Nat.beq_refl, Int.toNat_natCast]; rfl) rfl (by decide) rfl (rowO_le (by first | exact Nat.le_refl _ | (simp only [markL_len]; exact Nat.le_refl _)))), ?_⟩
  repeat' (first | exact aa | ((conv => whnf) <;> (first | refine And.intro ?_ ?_ | (intro _h; first | contradiction | (try simp only [dd] at _h)) | (refine dt_go ?_) | exact rfl | exact True.intro | exact dkk | exact dks | (refine wrap_succ ?_; omega))))
  conv => whnf
  refine arr_fill rfl (fun _ _ => low_cells rfl) (fun _ _ => low_cells rfl) ?_ ?_
  ·intro j hj
   rcases (show j = 0 ∨ j = 1 by omega) with rfl | rfl
   all_goals (simp only [upd, Nat.beq_refl, Int.toNat_natCast]; rfl)
  ·intro a j hne
   simp only [upd, beq_ff hne, Bool.and_false, cond_false, Int.toNat_natCast]
 ·exact endM_rowL (l := l) (c := Table.csO) rfl (fun i j hi hj => fill_end (by omega)) ⟨rfl, rfl⟩
theorem markTableS_ok (l : List Table) (k : Int) (h0 : 0 ≤ k) (hk : (markL Table.mkE l k).2 ≤ 4611686018427387904) (hl : okL Table.ok l) : RetM env.P 92 [some (rowL 2 Table.csO l)] [.row 0 l.length, .i .i64 k] (fun r H => r = .i .i64 (markL Table.mkE l k).2 ∧ H = [some (rowL 2 Table.csO (markL Table.mkE l k).1)]) := by
 have hl1 := hl.1
 refine ret_ofM (nt := 27) (rvs := [.tmp 4]) Tryz.func92 rfl rfl rfl rfl (fun X hX => ?_)
 conv => whnf
 refine loopNT l.length (fun i => [(5, .i .i64 i), (1, .i .i64 (mkC Table.mkE l k i))]) (fun i => [some (.arr ⟨2, l.length, elE Table.csO (mkL Table.mkE l k i), .arr⟩)]) (fun i => MarkUp Table.mkE l k i) ⟨markUp_zero Table.mkE_mono h0 hk, ?_⟩
 repeat' (first | exact aa | ((conv => whnf) <;> (first | exact mkC_zero.symm | exact arr_same mkL_zero rfl (fun a j => low_cells rfl) | (rename_i i _ hM; have hi : i < l.length := (by omega); have q1 := hM.le hi; have q2 := hM.lo; simp only [Table.mkE] at q1; have m0 := markL_mono Entry.mkE_mono (l.getD i default).entries (mkC Table.mkE l k i + 1); refine .inr (.inl (.inl ⟨[1], _, _, _, markEntryS_ok _ _ (by simp (disch := omega) only [wrap_in, Int.toNat_natCast, mkL_at hi]; omega) (by simp (disch := omega) only [wrap_in, Int.toNat_natCast, mkL_at hi]; omega) (by simp (disch := omega) only [wrap_in, Int.toNat_natCast, mkL_at hi]; exact (hl.2 _ hi).1), viewA, ⟨rfl, rfl⟩, ?_⟩)); rintro _ _ ⟨rfl, rfl⟩; refine ⟨rfl, _, lokA, ?_⟩) | refine And.intro ?_ ?_ | (intro _h; first | contradiction | (try simp only [dd] at _h)) | (refine dt_go ?_) | exact rfl | exact True.intro | exact dkk | exact dks | (refine wrap_succ ?_; omega))))
 ·refine ⟨_, (turn_close (id := 0) (j := 1) (id' := 1) rfl (by omega) (show 1 < 2 by decide) (by simp only [upd, Nat.beq_refl, Int.toNat_natCast]; rfl) rfl (by decide) rfl (rowO_le (by first | exact Nat.le_refl _ | (simp only [markL_len]; exact Nat.le_refl _)))), ?_⟩
  repeat' (first | exact aa | ((conv => whnf) <;> (first | exact markUp_succ hM h0 | refine And.intro ?_ ?_ | (intro _h; first | contradiction | (try simp only [dd] at _h)) | (refine dt_go ?_) | exact rfl | exact True.intro | exact dkk | exact dks | (refine wrap_succ ?_; omega))))
  ·rw [mkC_succ hi]
   simp only [Table.mkE]
   simp (disch := omega) only [wrap_in, Int.toNat_natCast, mkL_at hi]
  ·conv => whnf
   refine arr_set (mkL_succ hi) (by rw [mkL_len]; omega) rfl (fun a j => low_cells rfl) ?_ ?_
   ·intro j hj
    rcases (show j = 0 ∨ j = 1 by omega) with rfl | rfl
    all_goals (simp (disch := omega) only [upd, Nat.beq_refl, wrap_in, Int.toNat_natCast, mkL_at hi, Table.csO, Table.mkE, owL, markL_len]; rfl)
   ·intro a j hne
    simp only [upd, beq_ff hne, Bool.and_false, cond_false, Int.toNat_natCast]
 ·exact endM_self ⟨congrArg _ (mkC_end (by omega)), rowL_end (by omega)⟩
theorem markTableS_nil (k : Int) : Ret env.P 92 [.nils, .i .i64 k] (fun r => r = .i .i64 k) := by
 refine ret_of (nt := 27) (rvs := [.tmp 4]) Tryz.func92 rfl rfl rfl rfl (fun X => ?_)
 repeat' (first | exact aa | ((conv => whnf) <;> (first | refine loopN 0 (fun i => [(5, .i .i64 i), (1, .i .i64 k)]) (fun i => []) (fun i => True) ⟨trivial, ?_⟩ | refine And.intro ?_ ?_ | (intro _h; first | contradiction | (try simp only [dd] at _h)) | (refine dt_go ?_) | exact rfl | exact True.intro | exact dkk | exact dks | (refine wrap_succ ?_; omega))))
 all_goals first | rfl | omega
theorem heldTableS_ok (l : List Table) (k : Int) (h0 : 0 ≤ k) (hk : (markL Table.mkE l k).2 ≤ 4611686018427387904) (hl : okL Table.ok l) : Ret env.P 93 [slL 2 Table.cs l, .i .i64 k] (fun r => r = .i .i64 (heldI l (markL Table.mkE l k))) := by
 have hl1 := hl.1
 refine ret_of (nt := 31) (rvs := [.tmp 4]) Tryz.func93 rfl rfl rfl rfl (fun X => ?_)
 repeat' (first | exact aa | ((conv => whnf) <;> (first | refine loopN l.length (fun i => [(5, .i .i64 i), (1, .i .i64 (mkC Table.mkE l k i))]) (fun i => []) (fun i => HeldUp Table.mkE l k i) ⟨heldUp_zero, ?_⟩ | exact mkC_zero.symm | (have hU := ‹HeldUp Table.mkE l k _›; have hq := held_rng Table.mkE_mono hU (by omega); have hok := held_get hU (by omega) hl; simp only [Table.mkE] at hq; have q1 := hq.1; have q2 := hq.2; have m0 := held_m0 Entry.mkE_mono q2; (first | refine .inl ⟨_, heldEntryS_or _ _ (by (try simp (disch := omega) only [wrap_in, Int.toNat_natCast]); omega) (by (try simp (disch := omega) only [wrap_in, Int.toNat_natCast]); omega) hok.1, ?_⟩ | refine ⟨_, heldEntryS_or _ _ (by (try simp (disch := omega) only [wrap_in, Int.toNat_natCast]); omega) (by (try simp (disch := omega) only [wrap_in, Int.toNat_natCast]); omega) hok.1, ?_⟩); clear hU hq hok; rintro _ (⟨_, _, rfl⟩ | ⟨_, rfl⟩)) | refine And.intro ?_ ?_ | (intro _h; first | contradiction | (try simp only [dd] at _h)) | (refine dt_go ?_) | exact rfl | exact True.intro | exact dkk | exact dks | (refine wrap_succ ?_; omega))))
 all_goals (first | (conv => whnf) | skip)
 all_goals (try simp only [Int.toNat_natCast] at *)
 all_goals first
  | exact leaf_i (held_end ‹HeldUp _ l k _› (by omega))
  | (have q := held_rng Table.mkE_mono ‹HeldUp Table.mkE l k _› (by omega)
     simp only [Table.mkE] at q
     have q1 := q.1
     have q2 := q.2
     clear q
     have m0 := held_m0 Entry.mkE_mono q2
     (try simp (disch := omega) only [wrap_in, bne_iff_ne, ne_eq, bne_eq_false_iff_eq] at *)
     first
      | omega
      | (rw [mkC_succ (by omega)]; done)
      | (rw [mkC_succ (by omega)]; rfl)
      | exact heldUp_succ ‹_› (Table.eta ‹_› ‹_›)
      | (refine leaf_i (held_no ‹HeldUp Table.mkE l k _› (by omega) fun e => ?_); first | (have e1 := congrArg (fun a => a.next) e; simp only [Table.mkE] at e1; contradiction) | (have e1 := congrArg (fun a => a.entries) e; simp only [Table.mkE] at e1; contradiction)))
theorem heldTableS_or (l : List Table) (k : Int) (h0 : 0 ≤ k) (hk : (markL Table.mkE l k).2 ≤ 4611686018427387904) (hl : okL Table.ok l) : Ret env.P 93 [slL 2 Table.cs l, .i .i64 k] (fun y => (l = (markL Table.mkE l k).1 ∧ k ≤ (markL Table.mkE l k).2 ∧ y = .i .i64 (markL Table.mkE l k).2) ∨ (¬ l = (markL Table.mkE l k).1 ∧ y = .i .i64 (-1))) :=
 (heldTableS_ok l k h0 hk hl).mono fun y hy => by
  subst hy
  obtain ⟨h1, h2⟩ | ⟨h1, h2⟩ := heldI_cases l (markL Table.mkE l k)
  ·exact .inl ⟨h1, markL_mono Table.mkE_mono l k, by rw [h2]⟩
  ·exact .inr ⟨h1, by rw [h2]⟩
end Go.Proofs.YtmjjadcmmpfljaaGreat
