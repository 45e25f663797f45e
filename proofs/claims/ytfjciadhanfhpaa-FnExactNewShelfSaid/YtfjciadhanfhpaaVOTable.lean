/-
  Table, as slices held alone. Printed by fam2.py.
-/
import Derived.Test.YtfjciadhanfhpaaVTOwn
import Derived.Test.YtfjciadhanfhpaaVTTable
import Derived.Test.YtfjciadhanfhpaaVOEntry
namespace Go.Proofs.Ytfjciadhanfhpaa
open Go Go.RowKit
set_option linter.unusedVariables false
set_option linter.unusedSimpArgs false

def Table.csO (a : Table) : List AV := [.i .i64 a.next, owL 7 Entry.cs a.entries]
instance : HoldC Table.csO := ⟨fun a => (idf_cons trivial (idf_cons owL_idf idf_nil))⟩
instance : FreeC Table.csO := ⟨fun a => (free_cons trivial (free_cons owL_free free_nil))⟩
instance : Shr 1 Table.csO Table.cs := ⟨fun H k a => (.cons (.refl _) (.cons (shr_ow (d := 0) (k := k + 0)) .nil))⟩

def Table.resO (a : Table) : List AV := [.i .i64 a.next, .row 0 a.entries.length]
def Table.rowsO (a : Table) : Hp := [some (rowL 7 Entry.cs a.entries)]

set_option maxRecDepth 8000 in
theorem toTableO_ok (a : Table) (h : Table.ok a) : RetM env.P 61 [] [.agg a.cs] (fun r H => r = .agg a.resO ∧ H = a.rowsO) := by
  refine ret_ofM (nt := 12) (rvs := [.cell 2 52]) Try.func61 rfl rfl rfl rfl (fun X hX => ?_)
  repeat' (first | exact aa | ((conv => whnf) <;> (first | refine And.intro ?_ ?_ | (intro _h; first | contradiction | (try simp only [dd] at _h)) | (refine dt_go ?_) | exact rfl | exact True.intro | exact dkk | exact dks | (refine .inr (.inl (.inl ⟨[], _, _, _, toEntrySO_ok _ h, viewA, ⟨rfl, rfl⟩, ?_⟩)); rintro _ _ ⟨rfl, rfl⟩; refine ⟨rfl, _, lokA, ?_⟩) | (refine wrap_succ ?_; omega))))
  exact endM_pick [3] a.rowsO (.agg a.resO) viewA rfl rfl (fun k hk => by rw [hX] at hk; exact absurd hk (Nat.not_lt_zero _)) ⟨rfl, rfl⟩

def Table.mkE (a : Table) (k : Int) : Table × Int := (⟨k, (markL Entry.mkE a.entries (k + 1)).1⟩, (markL Entry.mkE a.entries (k + 1)).2)
theorem Table.mkE_mono (a : Table) (k : Int) : k ≤ (Table.mkE a k).2 := by have m0 := markL_mono Entry.mkE_mono a.entries (k + 1); simp only [Table.mkE]; omega
theorem Table.mkE_ok (a : Table) (k : Int) (h : Table.ok a) : Table.ok (Table.mkE a k).1 := (okL_mark Entry.mkE_ok h)
theorem Table.mkE_idem (a : Table) (k : Int) : Table.mkE (Table.mkE a k).1 k = Table.mkE a k := by simp only [Table.mkE, markL_idem Entry.mkE_idem]

set_option maxRecDepth 8000 in
theorem toTableSO_ok (l : List Table) (h : okL Table.ok l) : RetM env.P 42 [] [slL 2 Table.cs l] (fun r H => r = .row 0 l.length ∧ H = [some (rowL 2 Table.csO l)]) := by
  have hl := h.1
  refine ret_ofM (nt := 23) (rvs := [.tmp 2]) Try.func42 rfl rfl rfl rfl (fun X hX => ?_)
  conv => whnf
  refine ⟨⟨by omega, by omega, by dsimp only; omega, by omega⟩, ?_⟩
  conv => whnf
  refine loopNT l.length (fun k => [(4, .i .i64 k)]) (fun k => [some (.arr ⟨2, l.length, fillE k (elE Table.csO l) (fun _ j => [AV.i .i64 0, AV.nils].getD j .any), .arr⟩)]) (fun k => True) ⟨trivial, ?_⟩
  repeat' (first | exact aa | ((conv => whnf) <;> (first | exact arr_start rfl (fun _ _ => low_cells rfl) (fun _ _ => low_cells rfl) | refine And.intro ?_ ?_ | (intro _h; first | contradiction | (try simp only [dd] at _h)) | (refine dt_go ?_) | exact rfl | exact True.intro | exact dkk | exact dks | (refine .inr (.inl (.inl ⟨[], _, _, _, toTableO_ok _ (h.2 _ (by omega)), viewA, ⟨rfl, rfl⟩, ?_⟩)); rintro _ _ ⟨rfl, rfl⟩; refine ⟨rfl, _, lokA, ?_⟩) | (refine wrap_succ ?_; omega))))
  · have hi : ‹Nat› < l.length := by omega
    refine ⟨_, (turn_close (id := 0) (j := 1) (id' := 1) rfl (by omega) (show 1 < 2 by decide) (by simp only [upd, Nat.beq_refl, Int.toNat_natCast]; rfl) rfl (by decide) rfl (rowO_le (by first | exact Nat.le_refl _ | (simp only [markL_len]; exact Nat.le_refl _)))), ?_⟩
    repeat' (first | exact aa | ((conv => whnf) <;> (first | refine And.intro ?_ ?_ | (intro _h; first | contradiction | (try simp only [dd] at _h)) | (refine dt_go ?_) | exact rfl | exact True.intro | exact dkk | exact dks | (refine wrap_succ ?_; omega))))
    conv => whnf
    refine arr_fill rfl (fun _ _ => low_cells rfl) (fun _ _ => low_cells rfl) ?_ ?_
    · intro j hj
      rcases (show j = 0 ∨ j = 1 by omega) with rfl | rfl
      all_goals (simp only [upd, Nat.beq_refl, Int.toNat_natCast]; rfl)
    · intro a j hne
      simp only [upd, beq_ff hne, Bool.and_false, cond_false, Int.toNat_natCast]
  · exact endM_rowL (l := l) (c := Table.csO) rfl (fun i j hi hj => fill_end (by omega)) ⟨rfl, rfl⟩

set_option maxRecDepth 8000 in
theorem markTableS_ok (l : List Table) (k : Int) (h0 : 0 ≤ k) (hk : (markL Table.mkE l k).2 ≤ 4611686018427387904) (hl : okL Table.ok l) : RetM env.P 26 [some (rowL 2 Table.csO l)] [.row 0 l.length, .i .i64 k] (fun r H => r = .i .i64 (markL Table.mkE l k).2 ∧ H = [some (rowL 2 Table.csO (markL Table.mkE l k).1)]) := by
  have hl1 := hl.1
  refine ret_ofM (nt := 27) (rvs := [.tmp 4]) Try.func26 rfl rfl rfl rfl (fun X hX => ?_)
  conv => whnf
  refine loopNT l.length (fun i => [(5, .i .i64 i), (1, .i .i64 (mkC Table.mkE l k i))]) (fun i => [some (.arr ⟨2, l.length, elE Table.csO (mkL Table.mkE l k i), .arr⟩)]) (fun i => MarkUp Table.mkE l k i) ⟨markUp_zero Table.mkE_mono h0 hk, ?_⟩
  repeat' (first | exact aa | ((conv => whnf) <;> (first | exact mkC_zero.symm | exact arr_same mkL_zero rfl (fun a j => low_cells rfl) | (rename_i i _ hM; have hi : i < l.length := (by omega); have q1 := hM.le hi; have q2 := hM.lo; simp only [Table.mkE] at q1; have m0 := markL_mono Entry.mkE_mono (l.getD i default).entries (mkC Table.mkE l k i + 1); refine .inr (.inl (.inl ⟨[1], _, _, _, markEntryS_ok _ _ (by simp (disch := omega) only [wrap_in, Int.toNat_natCast, mkL_at hi]; omega) (by simp (disch := omega) only [wrap_in, Int.toNat_natCast, mkL_at hi]; omega) (by simp (disch := omega) only [wrap_in, Int.toNat_natCast, mkL_at hi]; exact (hl.2 _ hi).1), viewA, ⟨rfl, rfl⟩, ?_⟩)); rintro _ _ ⟨rfl, rfl⟩; refine ⟨rfl, _, lokA, ?_⟩) | refine And.intro ?_ ?_ | (intro _h; first | contradiction | (try simp only [dd] at _h)) | (refine dt_go ?_) | exact rfl | exact True.intro | exact dkk | exact dks | (refine wrap_succ ?_; omega))))
  · refine ⟨_, (turn_close (id := 0) (j := 1) (id' := 1) rfl (by omega) (show 1 < 2 by decide) (by simp only [upd, Nat.beq_refl, Int.toNat_natCast]; rfl) rfl (by decide) rfl (rowO_le (by first | exact Nat.le_refl _ | (simp only [markL_len]; exact Nat.le_refl _)))), ?_⟩
    repeat' (first | exact aa | ((conv => whnf) <;> (first | exact markUp_succ hM h0 | refine And.intro ?_ ?_ | (intro _h; first | contradiction | (try simp only [dd] at _h)) | (refine dt_go ?_) | exact rfl | exact True.intro | exact dkk | exact dks | (refine wrap_succ ?_; omega))))
    · rw [mkC_succ hi]
      simp only [Table.mkE]
      simp (disch := omega) only [wrap_in, Int.toNat_natCast, mkL_at hi]
    · conv => whnf
      refine arr_set (mkL_succ hi) (by rw [mkL_len]; omega) rfl (fun a j => low_cells rfl) ?_ ?_
      · intro j hj
        rcases (show j = 0 ∨ j = 1 by omega) with rfl | rfl
        all_goals (simp (disch := omega) only [upd, Nat.beq_refl, wrap_in, Int.toNat_natCast, mkL_at hi, Table.csO, Table.mkE, owL, markL_len]; rfl)
      · intro a j hne
        simp only [upd, beq_ff hne, Bool.and_false, cond_false, Int.toNat_natCast]
  · exact endM_self ⟨congrArg _ (mkC_end (by omega)), rowL_end (by omega)⟩

set_option maxRecDepth 8000 in
theorem markTableS_nil (k : Int) : Ret env.P 26 [.nils, .i .i64 k] (fun r => r = .i .i64 k) := by
  refine ret_of (nt := 27) (rvs := [.tmp 4]) Try.func26 rfl rfl rfl rfl (fun X => ?_)
  repeat' (first | exact aa | ((conv => whnf) <;> (first | refine loopN 0 (fun i => [(5, .i .i64 i), (1, .i .i64 k)]) (fun i => []) (fun i => True) ⟨trivial, ?_⟩ | refine And.intro ?_ ?_ | (intro _h; first | contradiction | (try simp only [dd] at _h)) | (refine dt_go ?_) | exact rfl | exact True.intro | exact dkk | exact dks | (refine wrap_succ ?_; omega))))
  all_goals first | rfl | omega

set_option maxRecDepth 8000 in
theorem heldTableS_ok (l : List Table) (k : Int) (h0 : 0 ≤ k) (hk : (markL Table.mkE l k).2 ≤ 4611686018427387904) (hl : okL Table.ok l) : Ret env.P 28 [slL 2 Table.cs l, .i .i64 k] (fun r => r = .i .i64 (heldI l (markL Table.mkE l k))) := by
  have hl1 := hl.1
  refine ret_of (nt := 31) (rvs := [.tmp 4]) Try.func28 rfl rfl rfl rfl (fun X => ?_)
  repeat' (first | exact aa | ((conv => whnf) <;> (first | refine loopN l.length (fun i => [(5, .i .i64 i), (1, .i .i64 (mkC Table.mkE l k i))]) (fun i => []) (fun i => HeldUp Table.mkE l k i) ⟨heldUp_zero, ?_⟩ | exact mkC_zero.symm | (have hU := ‹HeldUp Table.mkE l k _›; have hq := held_rng Table.mkE_mono hU (by omega); have hok := held_get hU (by omega) hl; simp only [Table.mkE] at hq; have q1 := hq.1; have q2 := hq.2; have m0 := held_m0 Entry.mkE_mono q2; (first | refine .inl ⟨_, heldEntryS_or _ _ (by (try simp (disch := omega) only [wrap_in, Int.toNat_natCast]); omega) (by (try simp (disch := omega) only [wrap_in, Int.toNat_natCast]); omega) hok.1, ?_⟩ | refine ⟨_, heldEntryS_or _ _ (by (try simp (disch := omega) only [wrap_in, Int.toNat_natCast]); omega) (by (try simp (disch := omega) only [wrap_in, Int.toNat_natCast]); omega) hok.1, ?_⟩); clear hU hq hok; rintro _ (⟨_, _, rfl⟩ | ⟨_, rfl⟩)) | refine And.intro ?_ ?_ | (intro _h; first | contradiction | (try simp only [dd] at _h)) | (refine dt_go ?_) | exact rfl | exact True.intro | exact dkk | exact dks | (refine wrap_succ ?_; omega))))
  all_goals (first | (conv => whnf) | skip)
  all_goals (try simp only [Int.toNat_natCast] at *)
  all_goals first
    | exact leaf_i (held_end ‹HeldUp _ l k _› (by omega))
    | (have q := held_rng Table.mkE_mono ‹HeldUp Table.mkE l k _› (by omega)
       simp only [Table.mkE] at q
       have q1 := q.1
       have q2 := q.2
       clear q
       have m0 := held_m0 Entry.mkE_mono q2
       (try simp (disch := omega) only [wrap_in, bne_iff_ne, ne_eq, bne_eq_false_iff_eq] at *)
       first
         | omega
         | (rw [mkC_succ (by omega)]; done)
         | (rw [mkC_succ (by omega)]; rfl)
         | exact heldUp_succ ‹_› (Table.eta ‹_› ‹_›)
         | (refine leaf_i (held_no ‹HeldUp Table.mkE l k _› (by omega) fun e => ?_); first | (have e1 := congrArg (fun a => a.next) e; simp only [Table.mkE] at e1; contradiction) | (have e1 := congrArg (fun a => a.entries) e; simp only [Table.mkE] at e1; contradiction)))

theorem heldTableS_or (l : List Table) (k : Int) (h0 : 0 ≤ k) (hk : (markL Table.mkE l k).2 ≤ 4611686018427387904) (hl : okL Table.ok l) : Ret env.P 28 [slL 2 Table.cs l, .i .i64 k] (fun y => (l = (markL Table.mkE l k).1 ∧ k ≤ (markL Table.mkE l k).2 ∧ y = .i .i64 (markL Table.mkE l k).2) ∨ (¬ l = (markL Table.mkE l k).1 ∧ y = .i .i64 (-1))) :=
  (heldTableS_ok l k h0 hk hl).mono fun y hy => by
    subst hy
    obtain ⟨h1, h2⟩ | ⟨h1, h2⟩ := heldI_cases l (markL Table.mkE l k)
    · exact .inl ⟨h1, markL_mono Table.mkE_mono l k, by rw [h2]⟩
    · exact .inr ⟨h1, by rw [h2]⟩

end Go.Proofs.Ytfjciadhanfhpaa
