/- Texts for VMakeInP. -/
import Derived.Test.YtmchgnbeoefhhaaGreatVm16
namespace Go.Proofs.YtmchgnbeoefhhaaGreat
open Go Go.RowKit
set_option linter.unusedVariables false
set_option linter.unusedSimpArgs false
set_option maxRecDepth 8000
instance : HoldC Entry.cs := holdC_plain fun _ => rfl
instance : FreeC Entry.cs := freeC_plain fun _ => rfl
instance : Shr 0 Entry.cs Entry.cs := shr_plain fun _ => rfl
def Entry.mkE (a : Entry) (k : Int) : Entry × Int := (⟨k, (k + 1), decide (Int.tmod ((k + 1) + 1) 3 = 0), (((k + 1) + 1) + 1), ((((k + 1) + 1) + 1) + 1), (((((k + 1) + 1) + 1) + 1) + 1), ((((((k + 1) + 1) + 1) + 1) + 1) + 1)⟩, (((((((k + 1) + 1) + 1) + 1) + 1) + 1) + 1))
theorem Entry.mkE_mono (a : Entry) (k : Int) : k ≤ (Entry.mkE a k).2 := by simp only [Entry.mkE]; omega
theorem Entry.mkE_ok (a : Entry) (k : Int) (h : Entry.ok a) : Entry.ok (Entry.mkE a k).1 := trivial
theorem Entry.mkE_idem (a : Entry) (k : Int) : Entry.mkE (Entry.mkE a k).1 k = Entry.mkE a k := by simp only [Entry.mkE]
theorem toEntrySO_ok (l : List Entry) (h : okL Entry.ok l) : RetM env.P 117 [] [slL 7 Entry.cs l] (fun r H => r = .row 0 l.length ∧ H = [some (rowL 7 Entry.cs l)]) := by
 have hl := h.1
 refine ret_ofM (nt := 23) (rvs := [.tmp 2]) Tryz.func117 rfl rfl rfl rfl (fun X hX => ?_)
 conv => whnf
 refine ⟨⟨by omega, by omega, by dsimp only; omega, by omega⟩, ?_⟩
 conv => whnf
 refine loopN l.length (fun k => [(4, .i .i64 k)]) (fun k => [some (.arr ⟨7, l.length, fillE k (elE Entry.cs l) (fun _ j => [AV.i .i64 0, AV.i .i64 0, AV.kb false, AV.i .i64 0, AV.i .i64 0, AV.i .i64 0, AV.i .i64 0].getD j .any), .arr⟩)]) (fun k => True) ⟨trivial, ?_⟩
 repeat' (first | exact aa | ((conv => whnf) <;> (first | exact arr_start rfl (fun _ _ => low_cells rfl) (fun _ _ => low_cells rfl) | exact arr_round rfl rfl (fun _ _ => rfl) (fun _ _ => low_cells rfl) (fun _ _ => low_cells rfl) | refine And.intro ?_ ?_ | (intro _h; first | contradiction | (try simp only [dd] at _h)) | (refine dt_go ?_) | exact rfl | exact True.intro | exact dkk | exact dks | ((first | refine .inl ⟨_, toEntry_ok _ (h.2 _ (by omega)), ?_⟩ | refine ⟨_, toEntry_ok _ (h.2 _ (by omega)), ?_⟩); (try rintro _ rfl)) | (refine wrap_succ ?_; omega))))
 exact endM_rowL (l := l) (c := Entry.cs) rfl (fun i j hi hj => fill_end (by omega)) ⟨rfl, rfl⟩
theorem markEntryS_ok (l : List Entry) (k : Int) (h0 : 0 ≤ k) (hk : (markL Entry.mkE l k).2 ≤ 4611686018427387904) (hl : l.length ≤ 1048576) : RetM env.P 108 [some (rowL 7 Entry.cs l)] [.row 0 l.length, .i .i64 k] (fun r H => r = .i .i64 (markL Entry.mkE l k).2 ∧ H = [some (rowL 7 Entry.cs (markL Entry.mkE l k).1)]) := by
 refine ret_ofM (nt := 64) (rvs := [.tmp 4]) Tryz.func108 rfl rfl rfl rfl (fun X hX => ?_)
 conv => whnf
 refine loopN l.length (fun i => [(5, .i .i64 i), (1, .i .i64 (mkC Entry.mkE l k i))]) (fun i => [some (.arr ⟨7, l.length, elE Entry.cs (mkL Entry.mkE l k i), .arr⟩)]) (fun i => True) ⟨trivial, ?_⟩
 repeat' (first | exact aa | ((conv => whnf) <;> (first | exact mkC_zero.symm | exact arr_same mkL_zero rfl (fun a j => low_cells rfl) | refine And.intro ?_ ?_ | (intro _h; first | contradiction | (try simp only [dd] at _h)) | (refine dt_go ?_) | exact rfl | exact True.intro | exact dkk | exact dks | (refine wrap_succ ?_; omega))))
 ·rename_i i _ _
  have q1 := mkC_le (l := l) (k := k) Entry.mkE_mono (i + 1)
  have q2 := mkC_ge (l := l) (k := k) Entry.mkE_mono i
  rw [mkC_succ (by omega)] at q1
  rw [mkC_succ (by omega)]
  simp only [Entry.mkE] at q1 ⊢
  simp (disch := omega) only [wrap_in]
 ·rename_i i _ _
  have q1 := mkC_le (l := l) (k := k) Entry.mkE_mono (i + 1)
  have q2 := mkC_ge (l := l) (k := k) Entry.mkE_mono i
  rw [mkC_succ (by omega)] at q1
  simp only [Entry.mkE] at q1
  conv => whnf
  refine arr_set (mkL_succ (by omega)) (by rw [mkL_len]; omega) rfl (fun a j => low_cells rfl) ?_ ?_
  ·intro j hj
   rcases (show j = 0 ∨ j = 1 ∨ j = 2 ∨ j = 3 ∨ j = 4 ∨ j = 5 ∨ j = 6 by omega) with rfl | rfl | rfl | rfl | rfl | rfl | rfl
   all_goals (simp (disch := omega) only [upd, Nat.beq_refl, wrap_in, Int.toNat_natCast]; rfl)
  ·intro a j hne
   simp only [upd, beq_ff hne, Bool.and_false, cond_false, Int.toNat_natCast]
 ·exact endM_self ⟨congrArg _ (mkC_end (by omega)), rowL_end (by omega)⟩
theorem heldEntryS_ok (l : List Entry) (k : Int) (h0 : 0 ≤ k) (hk : (markL Entry.mkE l k).2 ≤ 4611686018427387904) (hl : l.length ≤ 1048576) : Ret env.P 109 [slL 7 Entry.cs l, .i .i64 k] (fun r => r = .i .i64 (heldI l (markL Entry.mkE l k))) := by
 refine ret_of (nt := 78) (rvs := [.tmp 4]) Tryz.func109 rfl rfl rfl rfl (fun X => ?_)
 repeat' (first | exact aa | ((conv => whnf) <;> (first | refine loopN l.length (fun i => [(5, .i .i64 i), (1, .i .i64 (mkC Entry.mkE l k i))]) (fun i => []) (fun i => HeldUp Entry.mkE l k i) ⟨heldUp_zero, ?_⟩ | exact mkC_zero.symm | refine And.intro ?_ ?_ | (intro _h; first | contradiction | (try simp only [dd] at _h)) | (refine dt_go ?_) | exact rfl | exact True.intro | exact dkk | exact dks | (refine wrap_succ ?_; omega))))
 all_goals (first | (conv => whnf) | skip)
 all_goals (try simp only [Int.toNat_natCast] at *)
 all_goals first
  | exact leaf_i (held_end ‹HeldUp _ l k _› (by omega))
  | (have q := held_rng Entry.mkE_mono ‹HeldUp Entry.mkE l k _› (by omega)
     simp only [Entry.mkE] at q
     have q1 := q.1
     have q2 := q.2
     clear q
     (try simp (disch := omega) only [wrap_in, bne_iff_ne, ne_eq, bne_eq_false_iff_eq] at *)
     first
      | (rw [mkC_succ (by omega)]; done)
      | (rw [mkC_succ (by omega)]; rfl)
      | exact heldUp_succ ‹_› (Entry.eta ‹_› ‹_› ‹_› ‹_› ‹_› ‹_› ‹_›)
      | (refine leaf_i (held_no ‹HeldUp Entry.mkE l k _› (by omega) fun e => ?_); first | exact _h (congrArg (fun a => a.num) e) | exact _h (congrArg (fun a => a.id) e) | exact _h (congrArg (fun a => a.own) e) | exact _h (congrArg (fun a => a.lends) e) | exact _h (congrArg (fun a => a.scope) e) | exact _h (congrArg (fun a => a.from_) e) | exact _h (congrArg (fun a => a.fromNum) e)))
theorem heldEntryS_or (l : List Entry) (k : Int) (h0 : 0 ≤ k) (hk : (markL Entry.mkE l k).2 ≤ 4611686018427387904) (hl : l.length ≤ 1048576) : Ret env.P 109 [slL 7 Entry.cs l, .i .i64 k] (fun y => (l = (markL Entry.mkE l k).1 ∧ k ≤ (markL Entry.mkE l k).2 ∧ y = .i .i64 (markL Entry.mkE l k).2) ∨ (¬ l = (markL Entry.mkE l k).1 ∧ y = .i .i64 (-1))) :=
 (heldEntryS_ok l k h0 hk hl).mono fun y hy => by
  subst hy
  obtain ⟨h1, h2⟩ | ⟨h1, h2⟩ := heldI_cases l (markL Entry.mkE l k)
  ·exact .inl ⟨h1, markL_mono Entry.mkE_mono l k, by rw [h2]⟩
  ·exact .inr ⟨h1, by rw [h2]⟩
set_option maxRecDepth 8000
def Table.csO (a : Table) : List AV := [.i .i64 a.next, owL 7 Entry.cs a.entries]
instance : HoldC Table.csO := ⟨fun a => (idf_cons trivial (idf_cons owL_idf idf_nil))⟩
instance : FreeC Table.csO := ⟨fun a => (free_cons trivial (free_cons owL_free free_nil))⟩
instance : Shr 1 Table.csO Table.cs := ⟨fun H k a => (.cons (.refl _) (.cons (shr_ow (d := 0) (k := k + 0)) .nil))⟩
def Table.resO (a : Table) : List AV := [.i .i64 a.next, .row 0 a.entries.length]
def Table.rowsO (a : Table) : Hp := [some (rowL 7 Entry.cs a.entries)]
theorem toTableO_ok (a : Table) (h : Table.ok a) : RetM env.P 92 [] [.agg a.cs] (fun r H => r = .agg a.resO ∧ H = a.rowsO) := by
 refine ret_ofM (nt := 12) (rvs := [.cell 2 92]) Tryz.func92 rfl rfl rfl rfl (fun X hX => ?_)
 repeat' (first | exact aa | ((conv => whnf) <;> (first | refine And.intro ?_ ?_ | (intro _h; first | contradiction | (try simp only [dd] at _h)) | (refine dt_go ?_) | exact rfl | exact True.intro | exact dkk | exact dks | (refine .inr (.inl (.inl ⟨[], _, _, _, toEntrySO_ok _ h, viewA, ⟨rfl, rfl⟩, ?_⟩)); rintro _ _ ⟨rfl, rfl⟩; refine ⟨rfl, _, lokA, ?_⟩) | (refine wrap_succ ?_; omega))))
 exact endM_pick [3] a.rowsO (.agg a.resO) viewA rfl rfl (fun k hk => by rw [hX] at hk; exact absurd hk (Nat.not_lt_zero _)) ⟨rfl, rfl⟩
def Table.mkE (a : Table) (k : Int) : Table × Int := (⟨k, (markL Entry.mkE a.entries (k + 1)).1⟩, (markL Entry.mkE a.entries (k + 1)).2)
theorem Table.mkE_mono (a : Table) (k : Int) : k ≤ (Table.mkE a k).2 := by have m0 := markL_mono Entry.mkE_mono a.entries (k + 1); simp only [Table.mkE]; omega
theorem Table.mkE_ok (a : Table) (k : Int) (h : Table.ok a) : Table.ok (Table.mkE a k).1 := (okL_mark Entry.mkE_ok h)
theorem Table.mkE_idem (a : Table) (k : Int) : Table.mkE (Table.mkE a k).1 k = Table.mkE a k := by simp only [Table.mkE, markL_idem Entry.mkE_idem]
theorem toTableSO_ok (l : List Table) (h : okL Table.ok l) : RetM env.P 57 [] [slL 2 Table.cs l] (fun r H => r = .row 0 l.length ∧ H = [some (rowL 2 Table.csO l)]) := by
 have hl := h.1
 refine ret_ofM (nt := 23) (rvs := [.tmp 2]) Tryz.func57 rfl rfl rfl rfl (fun X hX => ?_)
 conv => whnf
 refine ⟨⟨by omega, by omega, by dsimp only; omega, by omega⟩, ?_⟩
 conv => whnf
 refine loopNT l.length (fun k => [(4, .i .i64 k)]) (fun k => [some (.arr ⟨2, l.length, fillE k (elE Table.csO l) (fun _ j => [AV.i .i64 0, AV.nils].getD j .any), .arr⟩)]) (fun k => True) ⟨trivial, ?_⟩
 repeat' (first | exact aa | ((conv => whnf) <;> (first | exact arr_start rfl (fun _ _ => low_cells rfl) (fun _ _ => low_cells rfl) | refine And.intro ?_ ?_ | (intro _h; first | contradiction | (try simp only [dd] at _h)) | (refine dt_go ?_) | exact rfl | exact True.intro | exact dkk | exact dks | (refine .inr (.inl (.inl ⟨[], _, _, _, toTableO_ok _ (h.2 _ (by omega)), viewA, ⟨rfl, rfl⟩, ?_⟩)); rintro _ _ ⟨rfl, rfl⟩; refine ⟨rfl, _, lokA, ?_⟩) | (refine wrap_succ ?_; omega))))
 ·have hi : ‹Nat› < l.length := by omega
  refine ⟨_, (turn_close (id := 0) (j := 1) (id' := 1) rfl (by omega) (show 1 < 2 by decide) (by simp only [upd, Nat.beq_refl, Int.toNat_natCast]; rfl) rfl (by decide) rfl (rowO_le (by first | exact Nat.le_refl _ | (simp only [markL_len]; exact Nat.le_refl _)))), ?_⟩
  repeat' (first | exact aa | ((conv => whnf) <;> (first | refine And.intro ?_ ?_ | (intro _h; first | contradiction | (try simp only [dd] at _h)) | (refine dt_go ?_) | exact rfl | exact True.intro | exact dkk | exact dks | (refine wrap_succ ?_; omega))))
  conv => whnf
  refine arr_fill rfl (fun _ _ => low_cells rfl) (fun _ _ => low_cells rfl) ?_ ?_
  ·intro j hj
   rcases (show j = 0 ∨ j = 1 by omega) with rfl | rfl
   all_goals (simp only [upd, Nat.beq_refl, Int.toNat_natCast]; rfl)
  ·intro a j hne
   simp only [upd, beq_ff hne, Bool.and_false, cond_false, Int.toNat_natCast]
 ·exact endM_rowL (l := l) (c := Table.csO) rfl (fun i j hi hj => fill_end (by omega)) ⟨rfl, rfl⟩
theorem markTableS_ok (l : List Table) (k : Int) (h0 : 0 ≤ k) (hk : (markL Table.mkE l k).2 ≤ 4611686018427387904) (hl : okL Table.ok l) : RetM env.P 73 [some (rowL 2 Table.csO l)] [.row 0 l.length, .i .i64 k] (fun r H => r = .i .i64 (markL Table.mkE l k).2 ∧ H = [some (rowL 2 Table.csO (markL Table.mkE l k).1)]) := by
 have hl1 := hl.1
 refine ret_ofM (nt := 27) (rvs := [.tmp 4]) Tryz.func73 rfl rfl rfl rfl (fun X hX => ?_)
 conv => whnf
 refine loopNT l.length (fun i => [(5, .i .i64 i), (1, .i .i64 (mkC Table.mkE l k i))]) (fun i => [some (.arr ⟨2, l.length, elE Table.csO (mkL Table.mkE l k i), .arr⟩)]) (fun i => MarkUp Table.mkE l k i) ⟨markUp_zero Table.mkE_mono h0 hk, ?_⟩
 repeat' (first | exact aa | ((conv => whnf) <;> (first | exact mkC_zero.symm | exact arr_same mkL_zero rfl (fun a j => low_cells rfl) | (rename_i i _ hM; have hi : i < l.length := (by omega); have q1 := hM.le hi; have q2 := hM.lo; simp only [Table.mkE] at q1; have m0 := markL_mono Entry.mkE_mono (l.getD i default).entries (mkC Table.mkE l k i + 1); refine .inr (.inl (.inl ⟨[1], _, _, _, markEntryS_ok _ _ (by simp (disch := omega) only [wrap_in, Int.toNat_natCast, mkL_at hi]; omega) (by simp (disch := omega) only [wrap_in, Int.toNat_natCast, mkL_at hi]; omega) (by simp (disch := omega) only [wrap_in, Int.toNat_natCast, mkL_at hi]; exact (hl.2 _ hi).1), viewA, ⟨rfl, rfl⟩, ?_⟩)); rintro _ _ ⟨rfl, rfl⟩; refine ⟨rfl, _, lokA, ?_⟩) | refine And.intro ?_ ?_ | (intro _h; first | contradiction | (try simp only [dd] at _h)) | (refine dt_go ?_) | exact rfl | exact True.intro | exact dkk | exact dks | (refine wrap_succ ?_; omega))))
 ·refine ⟨_, (turn_close (id := 0) (j := 1) (id' := 1) rfl (by omega) (show 1 < 2 by decide) (by simp only [upd, Nat.beq_refl, Int.toNat_natCast]; rfl) rfl (by decide) rfl (rowO_le (by first | exact Nat.le_refl _ | (simp only [markL_len]; exact Nat.le_refl _)))), ?_⟩
  repeat' (first | exact aa | ((conv => whnf) <;> (first | exact markUp_succ hM h0 | refine And.intro ?_ ?_ | (intro _h; first | contradiction | (try simp only [dd] at _h)) | (refine dt_go ?_) | exact rfl | exact True.intro | exact dkk | exact dks | (refine wrap_succ ?_; omega))))
  ·rw [mkC_succ hi]
   simp only [Table.mkE]
   simp (disch := omega) only [wrap_in, Int.toNat_natCast, mkL_at hi]
  ·conv => whnf
   refine arr_set (mkL_succ hi) (by rw [mkL_len]; omega) rfl (fun a j => low_cells rfl) ?_ ?_
   ·intro j hj
    rcases (show j = 0 ∨ j = 1 by omega) with rfl | rfl
    all_goals (simp (disch := omega) only [upd, Nat.beq_refl, wrap_in, Int.toNat_natCast, mkL_at hi, Table.csO, Table.mkE, owL, markL_len]; rfl)
   ·intro a j hne
    simp only [upd, beq_ff hne, Bool.and_false, cond_false, Int.toNat_natCast]
 ·exact endM_self ⟨congrArg _ (mkC_end (by omega)), rowL_end (by omega)⟩
theorem markTableS_nil (k : Int) : Ret env.P 73 [.nils, .i .i64 k] (fun r => r = .i .i64 k) := by
 refine ret_of (nt := 27) (rvs := [.tmp 4]) Tryz.func73 rfl rfl rfl rfl (fun X => ?_)
 repeat' (first | exact aa | ((conv => whnf) <;> (first | refine loopN 0 (fun i => [(5, .i .i64 i), (1, .i .i64 k)]) (fun i => []) (fun i => True) ⟨trivial, ?_⟩ | refine And.intro ?_ ?_ | (intro _h; first | contradiction | (try simp only [dd] at _h)) | (refine dt_go ?_) | exact rfl | exact True.intro | exact dkk | exact dks | (refine wrap_succ ?_; omega))))
 all_goals first | rfl | omega
theorem heldTableS_ok (l : List Table) (k : Int) (h0 : 0 ≤ k) (hk : (markL Table.mkE l k).2 ≤ 4611686018427387904) (hl : okL Table.ok l) : Ret env.P 75 [slL 2 Table.cs l, .i .i64 k] (fun r => r = .i .i64 (heldI l (markL Table.mkE l k))) := by
 have hl1 := hl.1
 refine ret_of (nt := 31) (rvs := [.tmp 4]) Tryz.func75 rfl rfl rfl rfl (fun X => ?_)
 repeat' (first | exact aa | ((conv => whnf) <;> (first | refine loopN l.length (fun i => [(5, .i .i64 i), (1, .i .i64 (mkC Table.mkE l k i))]) (fun i => []) (fun i => HeldUp Table.mkE l k i) ⟨heldUp_zero, ?_⟩ | exact mkC_zero.symm | (have hU := ‹HeldUp Table.mkE l k _›; have hq := held_rng Table.mkE_mono hU (by omega); have hok := held_get hU (by omega) hl; simp only [Table.mkE] at hq; have q1 := hq.1; have q2 := hq.2; have m0 := held_m0 Entry.mkE_mono q2; (first | refine .inl ⟨_, heldEntryS_or _ _ (by (try simp (disch := omega) only [wrap_in, Int.toNat_natCast]); omega) (by (try simp (disch := omega) only [wrap_in, Int.toNat_natCast]); omega) hok.1, ?_⟩ | refine ⟨_, heldEntryS_or _ _ (by (try simp (disch := omega) only [wrap_in, Int.toNat_natCast]); omega) (by (try simp (disch := omega) only [wrap_in, Int.toNat_natCast]); omega) hok.1, ?_⟩); clear hU hq hok; rintro _ (⟨_, _, rfl⟩ | ⟨_, rfl⟩)) | refine And.intro ?_ ?_ | (intro _h; first | contradiction | (try simp only [dd] at _h)) | (refine dt_go ?_) | exact rfl | exact True.intro | exact dkk | exact dks | (refine wrap_succ ?_; omega))))
 all_goals (first | (conv => whnf) | skip)
 all_goals (try simp only [Int.toNat_natCast] at *)
 all_goals first
  | exact leaf_i (held_end ‹HeldUp _ l k _› (by omega))
  | (have q := held_rng Table.mkE_mono ‹HeldUp Table.mkE l k _› (by omega)
     simp only [Table.mkE] at q
     have q1 := q.1
     have q2 := q.2
     clear q
     have m0 := held_m0 Entry.mkE_mono q2
     (try simp (disch := omega) only [wrap_in, bne_iff_ne, ne_eq, bne_eq_false_iff_eq] at *)
     first
      | omega
      | (rw [mkC_succ (by omega)]; done)
      | (rw [mkC_succ (by omega)]; rfl)
      | exact heldUp_succ ‹_› (Table.eta ‹_› ‹_›)
      | (refine leaf_i (held_no ‹HeldUp Table.mkE l k _› (by omega) fun e => ?_); first | (have e1 := congrArg (fun a => a.next) e; simp only [Table.mkE] at e1; contradiction) | (have e1 := congrArg (fun a => a.entries) e; simp only [Table.mkE] at e1; contradiction)))
theorem heldTableS_or (l : List Table) (k : Int) (h0 : 0 ≤ k) (hk : (markL Table.mkE l k).2 ≤ 4611686018427387904) (hl : okL Table.ok l) : Ret env.P 75 [slL 2 Table.cs l, .i .i64 k] (fun y => (l = (markL Table.mkE l k).1 ∧ k ≤ (markL Table.mkE l k).2 ∧ y = .i .i64 (markL Table.mkE l k).2) ∨ (¬ l = (markL Table.mkE l k).1 ∧ y = .i .i64 (-1))) :=
 (heldTableS_ok l k h0 hk hl).mono fun y hy => by
  subst hy
  obtain ⟨h1, h2⟩ | ⟨h1, h2⟩ := heldI_cases l (markL Table.mkE l k)
  ·exact .inl ⟨h1, markL_mono Table.mkE_mono l k, by rw [h2]⟩
  ·exact .inr ⟨h1, by rw [h2]⟩
set_option maxRecDepth 8000
instance : HoldC Thing.cs := holdC_plain fun _ => rfl
instance : FreeC Thing.cs := freeC_plain fun _ => rfl
instance : Shr 0 Thing.cs Thing.cs := shr_plain fun _ => rfl
def Thing.mkE (a : Thing) (k : Int) : Thing × Int := (⟨k, (k + 1), ((k + 1) + 1)⟩, (((k + 1) + 1) + 1))
theorem Thing.mkE_mono (a : Thing) (k : Int) : k ≤ (Thing.mkE a k).2 := by simp only [Thing.mkE]; omega
theorem Thing.mkE_ok (a : Thing) (k : Int) (h : Thing.ok a) : Thing.ok (Thing.mkE a k).1 := trivial
theorem Thing.mkE_idem (a : Thing) (k : Int) : Thing.mkE (Thing.mkE a k).1 k = Thing.mkE a k := by simp only [Thing.mkE]
theorem toThingSO_ok (l : List Thing) (h : okL Thing.ok l) : RetM env.P 58 [] [slL 3 Thing.cs l] (fun r H => r = .row 0 l.length ∧ H = [some (rowL 3 Thing.cs l)]) := by
 have hl := h.1
 refine ret_ofM (nt := 23) (rvs := [.tmp 2]) Tryz.func58 rfl rfl rfl rfl (fun X hX => ?_)
 conv => whnf
 refine ⟨⟨by omega, by omega, by dsimp only; omega, by omega⟩, ?_⟩
 conv => whnf
 refine loopN l.length (fun k => [(4, .i .i64 k)]) (fun k => [some (.arr ⟨3, l.length, fillE k (elE Thing.cs l) (fun _ j => [AV.i .i64 0, AV.i .i64 0, AV.i .i64 0].getD j .any), .arr⟩)]) (fun k => True) ⟨trivial, ?_⟩
 repeat' (first | exact aa | ((conv => whnf) <;> (first | exact arr_start rfl (fun _ _ => low_cells rfl) (fun _ _ => low_cells rfl) | exact arr_round rfl rfl (fun _ _ => rfl) (fun _ _ => low_cells rfl) (fun _ _ => low_cells rfl) | refine And.intro ?_ ?_ | (intro _h; first | contradiction | (try simp only [dd] at _h)) | (refine dt_go ?_) | exact rfl | exact True.intro | exact dkk | exact dks | ((first | refine .inl ⟨_, toThing_ok _ (h.2 _ (by omega)), ?_⟩ | refine ⟨_, toThing_ok _ (h.2 _ (by omega)), ?_⟩); (try rintro _ rfl)) | (refine wrap_succ ?_; omega))))
 exact endM_rowL (l := l) (c := Thing.cs) rfl (fun i j hi hj => fill_end (by omega)) ⟨rfl, rfl⟩
theorem markThingS_ok (l : List Thing) (k : Int) (h0 : 0 ≤ k) (hk : (markL Thing.mkE l k).2 ≤ 4611686018427387904) (hl : l.length ≤ 1048576) : RetM env.P 74 [some (rowL 3 Thing.cs l)] [.row 0 l.length, .i .i64 k] (fun r H => r = .i .i64 (markL Thing.mkE l k).2 ∧ H = [some (rowL 3 Thing.cs (markL Thing.mkE l k).1)]) := by
 refine ret_ofM (nt := 34) (rvs := [.tmp 4]) Tryz.func74 rfl rfl rfl rfl (fun X hX => ?_)
 conv => whnf
 refine loopN l.length (fun i => [(5, .i .i64 i), (1, .i .i64 (mkC Thing.mkE l k i))]) (fun i => [some (.arr ⟨3, l.length, elE Thing.cs (mkL Thing.mkE l k i), .arr⟩)]) (fun i => True) ⟨trivial, ?_⟩
 repeat' (first | exact aa | ((conv => whnf) <;> (first | exact mkC_zero.symm | exact arr_same mkL_zero rfl (fun a j => low_cells rfl) | refine And.intro ?_ ?_ | (intro _h; first | contradiction | (try simp only [dd] at _h)) | (refine dt_go ?_) | exact rfl | exact True.intro | exact dkk | exact dks | (refine wrap_succ ?_; omega))))
 ·rename_i i _ _
  have q1 := mkC_le (l := l) (k := k) Thing.mkE_mono (i + 1)
  have q2 := mkC_ge (l := l) (k := k) Thing.mkE_mono i
  rw [mkC_succ (by omega)] at q1
  rw [mkC_succ (by omega)]
  simp only [Thing.mkE] at q1 ⊢
  simp (disch := omega) only [wrap_in]
 ·rename_i i _ _
  have q1 := mkC_le (l := l) (k := k) Thing.mkE_mono (i + 1)
  have q2 := mkC_ge (l := l) (k := k) Thing.mkE_mono i
  rw [mkC_succ (by omega)] at q1
  simp only [Thing.mkE] at q1
  conv => whnf
  refine arr_set (mkL_succ (by omega)) (by rw [mkL_len]; omega) rfl (fun a j => low_cells rfl) ?_ ?_
  ·intro j hj
   rcases (show j = 0 ∨ j = 1 ∨ j = 2 by omega) with rfl | rfl | rfl
   all_goals (simp (disch := omega) only [upd, Nat.beq_refl, wrap_in, Int.toNat_natCast]; rfl)
  ·intro a j hne
   simp only [upd, beq_ff hne, Bool.and_false, cond_false, Int.toNat_natCast]
 ·exact endM_self ⟨congrArg _ (mkC_end (by omega)), rowL_end (by omega)⟩
theorem markThingS_nil (k : Int) : Ret env.P 74 [.nils, .i .i64 k] (fun r => r = .i .i64 k) := by
 refine ret_of (nt := 34) (rvs := [.tmp 4]) Tryz.func74 rfl rfl rfl rfl (fun X => ?_)
 repeat' (first | exact aa | ((conv => whnf) <;> (first | refine loopN 0 (fun i => [(5, .i .i64 i), (1, .i .i64 k)]) (fun i => []) (fun i => True) ⟨trivial, ?_⟩ | refine And.intro ?_ ?_ | (intro _h; first | contradiction | (try simp only [dd] at _h)) | (refine dt_go ?_) | exact rfl | exact True.intro | exact dkk | exact dks | (refine wrap_succ ?_; omega))))
 all_goals first | rfl | omega
theorem heldThingS_ok (l : List Thing) (k : Int) (h0 : 0 ≤ k) (hk : (markL Thing.mkE l k).2 ≤ 4611686018427387904) (hl : l.length ≤ 1048576) : Ret env.P 76 [slL 3 Thing.cs l, .i .i64 k] (fun r => r = .i .i64 (heldI l (markL Thing.mkE l k))) := by
 refine ret_of (nt := 40) (rvs := [.tmp 4]) Tryz.func76 rfl rfl rfl rfl (fun X => ?_)
 repeat' (first | exact aa | ((conv => whnf) <;> (first | refine loopN l.length (fun i => [(5, .i .i64 i), (1, .i .i64 (mkC Thing.mkE l k i))]) (fun i => []) (fun i => HeldUp Thing.mkE l k i) ⟨heldUp_zero, ?_⟩ | exact mkC_zero.symm | refine And.intro ?_ ?_ | (intro _h; first | contradiction | (try simp only [dd] at _h)) | (refine dt_go ?_) | exact rfl | exact True.intro | exact dkk | exact dks | (refine wrap_succ ?_; omega))))
 all_goals (first | (conv => whnf) | skip)
 all_goals (try simp only [Int.toNat_natCast] at *)
 all_goals first
  | exact leaf_i (held_end ‹HeldUp _ l k _› (by omega))
  | (have q := held_rng Thing.mkE_mono ‹HeldUp Thing.mkE l k _› (by omega)
     simp only [Thing.mkE] at q
     have q1 := q.1
     have q2 := q.2
     clear q
     (try simp (disch := omega) only [wrap_in, bne_iff_ne, ne_eq, bne_eq_false_iff_eq] at *)
     first
      | (rw [mkC_succ (by omega)]; done)
      | (rw [mkC_succ (by omega)]; rfl)
      | exact heldUp_succ ‹_› (Thing.eta ‹_› ‹_› ‹_›)
      | (refine leaf_i (held_no ‹HeldUp Thing.mkE l k _› (by omega) fun e => ?_); first | exact _h (congrArg (fun a => a.id) e) | exact _h (congrArg (fun a => a.res) e) | exact _h (congrArg (fun a => a.rep) e)))
theorem heldThingS_or (l : List Thing) (k : Int) (h0 : 0 ≤ k) (hk : (markL Thing.mkE l k).2 ≤ 4611686018427387904) (hl : l.length ≤ 1048576) : Ret env.P 76 [slL 3 Thing.cs l, .i .i64 k] (fun y => (l = (markL Thing.mkE l k).1 ∧ k ≤ (markL Thing.mkE l k).2 ∧ y = .i .i64 (markL Thing.mkE l k).2) ∨ (¬ l = (markL Thing.mkE l k).1 ∧ y = .i .i64 (-1))) :=
 (heldThingS_ok l k h0 hk hl).mono fun y hy => by
  subst hy
  obtain ⟨h1, h2⟩ | ⟨h1, h2⟩ := heldI_cases l (markL Thing.mkE l k)
  ·exact .inl ⟨h1, markL_mono Thing.mkE_mono l k, by rw [h2]⟩
  ·exact .inr ⟨h1, by rw [h2]⟩
set_option maxRecDepth 8000
def Shelf.csO (a : Shelf) : List AV := [.i .i64 a.next, owL 2 Table.csO a.tables, owL 3 Thing.cs a.things]
instance : HoldC Shelf.csO := ⟨fun a => (idf_cons trivial (idf_cons owL_idf (idf_cons owL_idf idf_nil)))⟩
instance : FreeC Shelf.csO := ⟨fun a => (free_cons trivial (free_cons owL_free (free_cons owL_free free_nil)))⟩
instance : Shr 2 Shelf.csO Shelf.cs := ⟨fun H k a => (.cons (.refl _) (.cons (shr_ow (d := 1) (k := k + 0)) (.cons (shr_ow (d := 0) (k := k + 1)) .nil)))⟩
def Shelf.resO (a : Shelf) : List AV := [.i .i64 a.next, .row 0 a.tables.length, .row 1 a.things.length]
def Shelf.rowsO (a : Shelf) : Hp := [some (rowL 2 Table.csO a.tables), some (rowL 3 Thing.cs a.things)]
theorem toShelfO_ok (a : Shelf) (h : Shelf.ok a) : RetM env.P 23 [] [.agg a.cs] (fun r H => r = .agg a.resO ∧ H = a.rowsO) := by
 refine ret_ofM (nt := 16) (rvs := [.cell 2 34]) Tryz.func23 rfl rfl rfl rfl (fun X hX => ?_)
 repeat' (first | exact aa | ((conv => whnf) <;> (first | refine And.intro ?_ ?_ | (intro _h; first | contradiction | (try simp only [dd] at _h)) | (refine dt_go ?_) | exact rfl | exact True.intro | exact dkk | exact dks | (refine .inr (.inl (.inl ⟨[], _, _, _, toTableSO_ok _ h.1, viewA, ⟨rfl, rfl⟩, ?_⟩)); rintro _ _ ⟨rfl, rfl⟩; refine ⟨rfl, _, lokA, ?_⟩) | (refine .inr (.inl (.inl ⟨[], _, _, _, toThingSO_ok _ h.2, viewA, ⟨rfl, rfl⟩, ?_⟩)); rintro _ _ ⟨rfl, rfl⟩; refine ⟨rfl, _, lokA, ?_⟩) | (refine wrap_succ ?_; omega))))
 exact endM_pick [3, 4] a.rowsO (.agg a.resO) viewA rfl rfl (fun k hk => by rw [hX] at hk; exact absurd hk (Nat.not_lt_zero _)) ⟨rfl, rfl⟩
def Shelf.mk_ (a : Shelf) (k : Int) : Shelf × Int := (⟨a.next, (markL Table.mkE a.tables k).1, (markL Thing.mkE a.things (markL Table.mkE a.tables k).2).1⟩, (markL Thing.mkE a.things (markL Table.mkE a.tables k).2).2)
theorem Shelf.mk_mono (a : Shelf) (k : Int) : k ≤ (Shelf.mk_ a k).2 := by have m0 := markL_mono Table.mkE_mono a.tables k; have m1 := markL_mono Thing.mkE_mono a.things (markL Table.mkE a.tables k).2; simp only [Shelf.mk_]; omega
theorem Shelf.mk_ok (a : Shelf) (k : Int) (h : Shelf.ok a) : Shelf.ok (Shelf.mk_ a k).1 := ⟨(okL_mark Table.mkE_ok h.1), (okL_mark Thing.mkE_ok h.2)⟩
theorem Shelf.mk_idem (a : Shelf) (k : Int) : Shelf.mk_ (Shelf.mk_ a k).1 k = Shelf.mk_ a k := by simp only [Shelf.mk_, markL_idem Table.mkE_idem, markL_idem Thing.mkE_idem]
theorem markShelf_ok (a : Shelf) (k : Int) (h0 : 0 ≤ k) (hk : (Shelf.mk_ a k).2 ≤ 4611686018427387904) (h : Shelf.ok a) : RetM env.P 36 a.rowsO [.agg a.resO, .i .i64 k] (fun r H => r = .i .i64 (Shelf.mk_ a k).2 ∧ H = (Shelf.mk_ a k).1.rowsO) := by
 simp only [Shelf.mk_] at hk
 have m0 := markL_mono Table.mkE_mono a.tables k
 have m1 := markL_mono Thing.mkE_mono a.things (markL Table.mkE a.tables k).2
 refine ret_ofM (nt := 14) (rvs := [.tmp 4]) Tryz.func36 rfl rfl rfl rfl (fun X hX => ?_)
 repeat' (first | exact aa | ((conv => whnf) <;> (first | refine And.intro ?_ ?_ | (intro _h; first | contradiction | (try simp only [dd] at _h)) | (refine dt_go ?_) | exact rfl | exact True.intro | exact dkk | exact dks | (refine .inr (.inl (.inl ⟨[0], _, _, _, markTableS_ok _ k (by omega) (by omega) h.1, viewA, ⟨rfl, rfl⟩, ?_⟩)); rintro _ _ ⟨rfl, rfl⟩; refine ⟨rfl, _, lokA, ?_⟩) | (refine .inr (.inl (.inl ⟨[1], _, _, _, markThingS_ok _ (markL Table.mkE a.tables k).2 (by omega) (by omega) h.2.1, viewA, ⟨rfl, rfl⟩, ?_⟩)); rintro _ _ ⟨rfl, rfl⟩; refine ⟨rfl, _, lokA, ?_⟩) | (refine wrap_succ ?_; omega))))
 exact endM_pick [0, 1] (Shelf.mk_ a k).1.rowsO (.i .i64 (Shelf.mk_ a k).2) viewA rfl rfl (by rw [hX]; exact keepK (n := 2) rfl rfl) ⟨rfl, rfl⟩
theorem markShelf_nil (k : Int) : Ret env.P 36 [.agg [AV.i .i64 0, AV.nils, AV.nils], .i .i64 k] (fun r => r = .i .i64 k) := by
 refine ret_of (nt := 14) (rvs := [.tmp 4]) Tryz.func36 rfl rfl rfl rfl (fun X => ?_)
 repeat' (first | exact aa | ((conv => whnf) <;> (first | refine And.intro ?_ ?_ | (intro _h; first | contradiction | (try simp only [dd] at _h)) | (refine dt_go ?_) | exact rfl | exact True.intro | exact dkk | exact dks | ((first | refine .inl ⟨_, markTableS_nil k, ?_⟩ | refine ⟨_, markTableS_nil k, ?_⟩); (try rintro _ rfl)) | ((first | refine .inl ⟨_, markThingS_nil k, ?_⟩ | refine ⟨_, markThingS_nil k, ?_⟩); (try rintro _ rfl)) | (refine wrap_succ ?_; omega))))
 all_goals rfl
theorem heldShelf_ok (a : Shelf) (k : Int) (h0 : 0 ≤ k) (hk : (Shelf.mk_ a k).2 ≤ 4611686018427387904) (h : Shelf.ok a) : Ret env.P 39 [.agg a.cs, .i .i64 k] (fun r => r = .i .i64 (heldI a (Shelf.mk_ a k))) := by
 simp only [Shelf.mk_] at hk
 have m0 := markL_mono Table.mkE_mono a.tables k
 have m1 := markL_mono Thing.mkE_mono a.things (markL Table.mkE a.tables k).2
 refine ret_of (nt := 18) (rvs := [.tmp 4]) Tryz.func39 rfl rfl rfl rfl (fun X => ?_)
 repeat' (first | exact aa | ((conv => whnf) <;> (first | ((first | refine .inl ⟨_, heldTableS_or _ k (by omega) (by omega) h.1, ?_⟩ | refine ⟨_, heldTableS_or _ k (by omega) (by omega) h.1, ?_⟩); rintro _ (⟨_, _, rfl⟩ | ⟨_, rfl⟩)) | ((first | refine .inl ⟨_, heldThingS_or _ (markL Table.mkE a.tables k).2 (by omega) (by omega) h.2.1, ?_⟩ | refine ⟨_, heldThingS_or _ (markL Table.mkE a.tables k).2 (by omega) (by omega) h.2.1, ?_⟩); rintro _ (⟨_, _, rfl⟩ | ⟨_, rfl⟩)) | refine And.intro ?_ ?_ | (intro _h; first | contradiction | (try simp only [dd] at _h)) | (refine dt_go ?_) | exact rfl | exact True.intro | exact dkk | exact dks | (refine wrap_succ ?_; omega))))
 all_goals (first | (conv => whnf) | skip)
 all_goals first
  | omega
  | exact leaf_i (heldI_eq (r := Shelf.mk_ a k) (by simp only [Shelf.mk_]; exact Shelf.eta rfl ‹_› ‹_›)).symm
  | (refine leaf_i (heldI_ne (r := Shelf.mk_ a k) fun e => ?_).symm; first | (have e1 := congrArg (fun a => a.tables) e; simp only [Shelf.mk_] at e1; contradiction) | (have e1 := congrArg (fun a => a.things) e; simp only [Shelf.mk_] at e1; contradiction))
  | trace_state
theorem heldShelf_or (a : Shelf) (k : Int) (h0 : 0 ≤ k) (hk : (Shelf.mk_ a k).2 ≤ 4611686018427387904) (hl : Shelf.ok a) : Ret env.P 39 [.agg a.cs, .i .i64 k] (fun y => (a = (Shelf.mk_ a k).1 ∧ k ≤ (Shelf.mk_ a k).2 ∧ y = .i .i64 (Shelf.mk_ a k).2) ∨ (¬ a = (Shelf.mk_ a k).1 ∧ y = .i .i64 (-1))) :=
 (heldShelf_ok a k h0 hk hl).mono fun y hy => by
  subst hy
  obtain ⟨h1, h2⟩ | ⟨h1, h2⟩ := heldI_cases a (Shelf.mk_ a k)
  ·exact .inl ⟨h1, Shelf.mk_mono a k, by rw [h2]⟩
  ·exact .inr ⟨h1, by rw [h2]⟩
set_option maxRecDepth 8000
theorem within_ok (x lo hi : Int) : Ret env.P 28 [.i .i64 x, .i .i64 lo, .i .i64 hi] (fun r => r = .b (decide (lo ≤ x ∧ x ≤ hi))) := by
 refine ret_of (nt := 15) (rvs := [.tmp 6]) Tryz.func28 rfl rfl rfl rfl (fun X => ?_)
 repeat' (first | exact aa | ((conv => whnf) <;> (first | refine And.intro ?_ ?_ | (intro _h; first | contradiction | (try simp only [dd] at _h)) | (refine dt_go ?_) | exact rfl | exact True.intro | exact dkk | exact dks | (refine wrap_succ ?_; omega))))
 all_goals (refine leaf_b ?_; rw [Bool.eq_iff_iff]; simp at *; omega)
theorem l00In_ok (x lo hi : Int) : Ret env.P 19 [.i .i64 x, .i .i64 lo, .i .i64 hi] (fun r => r = .b (decide (lo ≤ x ∧ x ≤ hi))) := by
 refine ret_of (nt := 15) (rvs := [.tmp 6]) Tryz.func19 rfl rfl rfl rfl (fun X => ?_)
 repeat' (first | exact aa | ((conv => whnf) <;> (first | refine And.intro ?_ ?_ | (intro _h; first | contradiction | (try simp only [dd] at _h)) | (refine dt_go ?_) | exact rfl | exact True.intro | exact dkk | exact dks | (refine wrap_succ ?_; omega))))
 all_goals (refine leaf_b ?_; rw [Bool.eq_iff_iff]; simp at *; omega)
theorem indexFuncThing1_ok (l : List Thing) (g : Nat) {fv} (hg : env.F.get g = some fv) (c0 : List AV) (p : Thing → Bool) (hl : l.length ≤ 1048576) (hp : ∀ k, k < l.length → Ret env.P g (.agg (Thing.cs (l.getD k default)) :: [rfL c0]) (fun r => r = .b (p (l.getD k default)))) :
  Ret env.P 113 [slL 3 Thing.cs l, .fn g [rfL c0]] (fun r => r = .i .i64 (idxI (l.findIdx? p))) := by
 refine ret_of (nt := 19) (rvs := [.tmp 4]) Tryz.func113 rfl rfl rfl rfl (fun X => ?_)
 repeat' (first | exact aa | ((conv => whnf) <;> (first | rw [hg] | exact upto_succ (by assumption) (by assumption) | refine loopN l.length (fun k => [(8, .i .i64 k)]) (fun k => []) (fun k => ∀ j, j < k → p (l.getD j default) = false) ⟨fun _ h => by omega, ?_⟩ | refine And.intro ?_ ?_ | (intro _h; first | contradiction | (try simp only [dd] at _h)) | (refine dt_go ?_) | exact rfl | exact True.intro | exact dkk | exact dks | ((first | refine .inl ⟨_, hp _ (by omega), ?_⟩ | refine ⟨_, hp _ (by omega), ?_⟩); (try rintro _ rfl)) | (refine wrap_succ ?_; omega))))
 ·exact leaf_i (idx_some (by omega) (by assumption) (by assumption))
 ·exact leaf_i (idx_none fun j hj => by have := ‹∀ j, j < _ → p (l.getD j default) = false›; exact this j (by omega))
theorem containsFuncThing1_ok (l : List Thing) (g : Nat) {fv} (hg : env.F.get g = some fv) (c0 : List AV) (p : Thing → Bool) (hl : l.length ≤ 1048576) (hp : ∀ k, k < l.length → Ret env.P g (.agg (Thing.cs (l.getD k default)) :: [rfL c0]) (fun r => r = .b (p (l.getD k default)))) :
  Ret env.P 121 [slL 3 Thing.cs l, .fn g [rfL c0]] (fun r => r = .b (l.any p)) := by
 refine ret_of (nt := 9) (rvs := [.tmp 4]) Tryz.func121 rfl rfl rfl rfl (fun X => ?_)
 repeat' (first | exact aa | ((conv => whnf) <;> (first | refine And.intro ?_ ?_ | (intro _h; first | contradiction | (try simp only [dd] at _h)) | (refine dt_go ?_) | exact rfl | exact True.intro | exact dkk | exact dks | ((first | refine .inl ⟨_, indexFuncThing1_ok l g hg c0 p hl hp, ?_⟩ | refine ⟨_, indexFuncThing1_ok l g hg c0 p hl hp, ?_⟩); (try rintro _ rfl)) | (refine wrap_succ ?_; omega))))
 all_goals exact leaf_b (idx_any _ _)
theorem indexFuncTable_ok (l : List Table) (g : Nat) {fv} (hg : env.F.get g = some fv) (p : Table → Bool) (hl : l.length ≤ 1048576) (hp : ∀ k, k < l.length → Ret env.P g (.agg (Table.cs (l.getD k default)) :: []) (fun r => r = .b (p (l.getD k default)))) :
  Ret env.P 118 [slL 2 Table.cs l, .fn g []] (fun r => r = .i .i64 (idxI (l.findIdx? p))) := by
 refine ret_of (nt := 19) (rvs := [.tmp 4]) Tryz.func118 rfl rfl rfl rfl (fun X => ?_)
 repeat' (first | exact aa | ((conv => whnf) <;> (first | rw [hg] | exact upto_succ (by assumption) (by assumption) | refine loopN l.length (fun k => [(8, .i .i64 k)]) (fun k => []) (fun k => ∀ j, j < k → p (l.getD j default) = false) ⟨fun _ h => by omega, ?_⟩ | refine And.intro ?_ ?_ | (intro _h; first | contradiction | (try simp only [dd] at _h)) | (refine dt_go ?_) | exact rfl | exact True.intro | exact dkk | exact dks | ((first | refine .inl ⟨_, hp _ (by omega), ?_⟩ | refine ⟨_, hp _ (by omega), ?_⟩); (try rintro _ rfl)) | (refine wrap_succ ?_; omega))))
 ·exact leaf_i (idx_some (by omega) (by assumption) (by assumption))
 ·exact leaf_i (idx_none fun j hj => by have := ‹∀ j, j < _ → p (l.getD j default) = false›; exact this j (by omega))
theorem containsFuncTable_ok (l : List Table) (g : Nat) {fv} (hg : env.F.get g = some fv) (p : Table → Bool) (hl : l.length ≤ 1048576) (hp : ∀ k, k < l.length → Ret env.P g (.agg (Table.cs (l.getD k default)) :: []) (fun r => r = .b (p (l.getD k default)))) :
  Ret env.P 95 [slL 2 Table.cs l, .fn g []] (fun r => r = .b (l.any p)) := by
 refine ret_of (nt := 9) (rvs := [.tmp 4]) Tryz.func95 rfl rfl rfl rfl (fun X => ?_)
 repeat' (first | exact aa | ((conv => whnf) <;> (first | refine And.intro ?_ ?_ | (intro _h; first | contradiction | (try simp only [dd] at _h)) | (refine dt_go ?_) | exact rfl | exact True.intro | exact dkk | exact dks | ((first | refine .inl ⟨_, indexFuncTable_ok l g hg p hl hp, ?_⟩ | refine ⟨_, indexFuncTable_ok l g hg p hl hp, ?_⟩); (try rintro _ rfl)) | (refine wrap_succ ?_; omega))))
 all_goals exact leaf_b (idx_any _ _)
end Go.Proofs.YtmchgnbeoefhhaaGreat
