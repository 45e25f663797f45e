/-
  Call, as slices held alone. Printed by fam2.py.
-/
import Derived.Test.YthhenipljdanjaaVTOwn
import Derived.Test.YthhenipljdanjaaVTCall
import Derived.Test.YthhenipljdanjaaVOInt64S
namespace Go.Proofs.Ythhenipljdanjaa
open Go Go.RowKit
set_option linter.unusedVariables false
set_option linter.unusedSimpArgs false

def Call.csO (a : Call) : List AV := [.i .i64 a.id, .i .i64 a.caller, .i .i64 a.callee, owL 1 intC a.args]
instance : HoldC Call.csO := ⟨fun a => (idf_cons trivial (idf_cons trivial (idf_cons trivial (idf_cons owL_idf idf_nil))))⟩
instance : FreeC Call.csO := ⟨fun a => (free_cons trivial (free_cons trivial (free_cons trivial (free_cons owL_free free_nil))))⟩
instance : Shr 1 Call.csO Call.cs := ⟨fun H k a => (.cons (.refl _) (.cons (.refl _) (.cons (.refl _) (.cons (shr_ow (d := 0) (k := k + 0)) .nil))))⟩

def Call.resO (a : Call) : List AV := [.i .i64 a.id, .i .i64 a.caller, .i .i64 a.callee, .row 0 a.args.length]
def Call.rowsO (a : Call) : Hp := [some (rowL 1 intC a.args)]

set_option maxRecDepth 8000 in
theorem toCallO_ok (a : Call) (h : Call.ok a) : RetM env.P 109 [] [.agg a.cs] (fun r H => r = .agg a.resO ∧ H = a.rowsO) := by
  refine ret_ofM (nt := 18) (rvs := [.cell 2 141]) Try.func109 rfl rfl rfl rfl (fun X hX => ?_)
  repeat' (first | omega | (with_reducible show (_ : Int) < _; dsimp only; omega) | (with_reducible show (_ : Nat) ≤ _; dsimp only; omega) | exact srcOk_1 rfl | exact srcOk_L (fun _ => ⟨rfl, rfl⟩) | exact srcOk_E (fun _ => ⟨rfl, rfl⟩) | ((conv => whnf) <;> (first | refine And.intro ?_ ?_ | (intro _h; first | contradiction | (try simp only [decide_eq_true_eq, Bool.not_eq_true', Bool.not_eq_false', decide_eq_false_iff_not, Bool.not_eq_true, Decidable.not_not, Bool.true_eq_false, Bool.false_eq_true, pb_t, pb_f] at _h)) | exact rfl | exact True.intro | (refine dok ?_; kernel_rfl) | (refine doks ?_; kernel_rfl) | (refine .inr (.inl (.inl ⟨[], _, _, _, toInt64SO_ok _ h, (view_of rfl (by repeat' (first | exact ViewL.nil | refine ViewL.cons rfl (RowBack.self ?_) ?_ | exact rowPl_L (fun _ => rfl) | exact rowPl_box rfl))), ⟨rfl, rfl⟩, ?_⟩)); rintro _ _ ⟨rfl, rfl⟩; refine ⟨rfl, _, (lok_pl (by repeat' (first | exact RowsPl.nil | refine RowsPl.cons ?_ ?_ | refine RowsPl.none ?_ | exact rowPl_L (fun _ => rfl) | exact rowPl_box rfl))), ?_⟩) | (refine wrap_succ ?_; omega))))
  exact endM_pick [3] a.rowsO (.agg a.resO) (view_of rfl (by repeat' (first | exact ViewL.nil | refine ViewL.cons rfl (RowBack.self ?_) ?_ | exact rowPl_L (fun _ => rfl) | exact rowPl_box rfl))) rfl rfl (fun k hk => by rw [hX] at hk; exact absurd hk (Nat.not_lt_zero _)) ⟨rfl, rfl⟩

def Call.mkE (a : Call) (k : Int) : Call × Int := (⟨k, (k + 1), ((k + 1) + 1), (markL Int64.mkE a.args (((k + 1) + 1) + 1)).1⟩, (markL Int64.mkE a.args (((k + 1) + 1) + 1)).2)
theorem Call.mkE_mono (a : Call) (k : Int) : k ≤ (Call.mkE a k).2 := by have m0 := markL_mono Int64.mkE_mono a.args (((k + 1) + 1) + 1); simp only [Call.mkE]; omega
theorem Call.mkE_ok (a : Call) (k : Int) (h : Call.ok a) : Call.ok (Call.mkE a k).1 := (okL_mark (fun _ _ _ => trivial) h)
theorem Call.mkE_idem (a : Call) (k : Int) : Call.mkE (Call.mkE a k).1 k = Call.mkE a k := by simp only [Call.mkE, markL_idem Int64.mkE_idem]

set_option maxRecDepth 8000 in
theorem toCallSO_ok (l : List Call) (h : okL Call.ok l) : RetM env.P 51 [] [slL 4 Call.cs l] (fun r H => r = .row 0 l.length ∧ H = [some (rowL 4 Call.csO l)]) := by
  have hl := h.1
  refine ret_ofM (nt := 23) (rvs := [.tmp 2]) Try.func51 rfl rfl rfl rfl (fun X hX => ?_)
  conv => whnf
  refine ⟨⟨by omega, by omega, by dsimp only; omega, by omega⟩, ?_⟩
  conv => whnf
  refine loopNT l.length (fun k => [(4, .i .i64 k)]) (fun k => [some (.arr ⟨4, l.length, fillE k (elE Call.csO l) (fun _ j => [AV.i .i64 0, AV.i .i64 0, AV.i .i64 0, AV.nils].getD j .any), .arr⟩)]) (fun k => True) ⟨trivial, ?_⟩
  repeat' (first | omega | (with_reducible show (_ : Int) < _; dsimp only; omega) | (with_reducible show (_ : Nat) ≤ _; dsimp only; omega) | exact srcOk_1 rfl | exact srcOk_L (fun _ => ⟨rfl, rfl⟩) | exact srcOk_E (fun _ => ⟨rfl, rfl⟩) | ((conv => whnf) <;> (first | exact arr_start rfl (fun _ _ => low_cells rfl) (fun _ _ => low_cells rfl) | refine And.intro ?_ ?_ | (intro _h; first | contradiction | (try simp only [decide_eq_true_eq, Bool.not_eq_true', Bool.not_eq_false', decide_eq_false_iff_not, Bool.not_eq_true, Decidable.not_not, Bool.true_eq_false, Bool.false_eq_true, pb_t, pb_f] at _h)) | exact rfl | exact True.intro | (refine dok ?_; kernel_rfl) | (refine doks ?_; kernel_rfl) | (refine .inr (.inl (.inl ⟨[], _, _, _, toCallO_ok _ (h.2 _ (by omega)), (view_of rfl (by repeat' (first | exact ViewL.nil | refine ViewL.cons rfl (RowBack.self ?_) ?_ | exact rowPl_L (fun _ => rfl) | exact rowPl_box rfl))), ⟨rfl, rfl⟩, ?_⟩)); rintro _ _ ⟨rfl, rfl⟩; refine ⟨rfl, _, (lok_pl (by repeat' (first | exact RowsPl.nil | refine RowsPl.cons ?_ ?_ | refine RowsPl.none ?_ | exact rowPl_L (fun _ => rfl) | exact rowPl_box rfl))), ?_⟩) | (refine wrap_succ ?_; omega))))
  · have hi : ‹Nat› < l.length := by omega
    refine ⟨_, (turn_close (id := 0) (j := 3) (id' := 1) rfl (by omega) (show 3 < 4 by decide) (by simp only [upd, Nat.beq_refl, Int.toNat_natCast]; rfl) rfl (by decide) rfl (rowO_le (by first | exact Nat.le_refl _ | (simp only [markL_len]; exact Nat.le_refl _)))), ?_⟩
    repeat' (first | omega | (with_reducible show (_ : Int) < _; dsimp only; omega) | (with_reducible show (_ : Nat) ≤ _; dsimp only; omega) | exact srcOk_1 rfl | exact srcOk_L (fun _ => ⟨rfl, rfl⟩) | exact srcOk_E (fun _ => ⟨rfl, rfl⟩) | ((conv => whnf) <;> (first | refine And.intro ?_ ?_ | (intro _h; first | contradiction | (try simp only [decide_eq_true_eq, Bool.not_eq_true', Bool.not_eq_false', decide_eq_false_iff_not, Bool.not_eq_true, Decidable.not_not, Bool.true_eq_false, Bool.false_eq_true, pb_t, pb_f] at _h)) | exact rfl | exact True.intro | (refine dok ?_; kernel_rfl) | (refine doks ?_; kernel_rfl) | (refine wrap_succ ?_; omega))))
    conv => whnf
    refine arr_fill rfl (fun _ _ => low_cells rfl) (fun _ _ => low_cells rfl) ?_ ?_
    · intro j hj
      rcases (show j = 0 ∨ j = 1 ∨ j = 2 ∨ j = 3 by omega) with rfl | rfl | rfl | rfl
      all_goals (simp only [upd, Nat.beq_refl, Int.toNat_natCast]; rfl)
    · intro a j hne
      simp only [upd, beq_ff hne, Bool.and_false, cond_false, Int.toNat_natCast]
  · exact endM_rowL (l := l) (c := Call.csO) rfl (fun i j hi hj => fill_end (by omega)) ⟨rfl, rfl⟩

set_option maxRecDepth 8000 in
theorem markCallS_ok (l : List Call) (k : Int) (h0 : 0 ≤ k) (hk : (markL Call.mkE l k).2 ≤ 4611686018427387904) (hl : okL Call.ok l) : RetM env.P 73 [some (rowL 4 Call.csO l)] [.row 0 l.length, .i .i64 k] (fun r H => r = .i .i64 (markL Call.mkE l k).2 ∧ H = [some (rowL 4 Call.csO (markL Call.mkE l k).1)]) := by
  have hl1 := hl.1
  refine ret_ofM (nt := 41) (rvs := [.tmp 4]) Try.func73 rfl rfl rfl rfl (fun X hX => ?_)
  conv => whnf
  refine loopNT l.length (fun i => [(5, .i .i64 i), (1, .i .i64 (mkC Call.mkE l k i))]) (fun i => [some (.arr ⟨4, l.length, elE Call.csO (mkL Call.mkE l k i), .arr⟩)]) (fun i => MarkUp Call.mkE l k i) ⟨markUp_zero Call.mkE_mono h0 hk, ?_⟩
  repeat' (first | omega | (with_reducible show (_ : Int) < _; dsimp only; omega) | (with_reducible show (_ : Nat) ≤ _; dsimp only; omega) | exact srcOk_1 rfl | exact srcOk_L (fun _ => ⟨rfl, rfl⟩) | exact srcOk_E (fun _ => ⟨rfl, rfl⟩) | ((conv => whnf) <;> (first | exact mkC_zero.symm | exact arr_same mkL_zero rfl (fun a j => low_cells rfl) | (rename_i i _ hM; have hi : i < l.length := (by omega); have q1 := hM.le hi; have q2 := hM.lo; simp only [Call.mkE] at q1; have m0 := markL_mono Int64.mkE_mono (l.getD i default).args (((mkC Call.mkE l k i + 1) + 1) + 1); refine .inr (.inl (.inl ⟨[1], _, _, _, markInt64S_ok _ _ (by simp (disch := omega) only [wrap_in, Int.toNat_natCast, mkL_at hi]; omega) (by simp (disch := omega) only [wrap_in, Int.toNat_natCast, mkL_at hi]; omega) (by simp (disch := omega) only [wrap_in, Int.toNat_natCast, mkL_at hi]; exact (hl.2 _ hi).1), (view_of rfl (by repeat' (first | exact ViewL.nil | refine ViewL.cons rfl (RowBack.self ?_) ?_ | exact rowPl_L (fun _ => rfl) | exact rowPl_box rfl))), ⟨rfl, rfl⟩, ?_⟩)); rintro _ _ ⟨rfl, rfl⟩; refine ⟨rfl, _, (lok_pl (by repeat' (first | exact RowsPl.nil | refine RowsPl.cons ?_ ?_ | refine RowsPl.none ?_ | exact rowPl_L (fun _ => rfl) | exact rowPl_box rfl))), ?_⟩) | refine And.intro ?_ ?_ | (intro _h; first | contradiction | (try simp only [decide_eq_true_eq, Bool.not_eq_true', Bool.not_eq_false', decide_eq_false_iff_not, Bool.not_eq_true, Decidable.not_not, Bool.true_eq_false, Bool.false_eq_true, pb_t, pb_f] at _h)) | exact rfl | exact True.intro | (refine dok ?_; kernel_rfl) | (refine doks ?_; kernel_rfl) | (refine wrap_succ ?_; omega))))
  · refine ⟨_, (turn_close (id := 0) (j := 3) (id' := 1) rfl (by omega) (show 3 < 4 by decide) (by simp only [upd, Nat.beq_refl, Int.toNat_natCast]; rfl) rfl (by decide) rfl (rowO_le (by first | exact Nat.le_refl _ | (simp only [markL_len]; exact Nat.le_refl _)))), ?_⟩
    repeat' (first | omega | (with_reducible show (_ : Int) < _; dsimp only; omega) | (with_reducible show (_ : Nat) ≤ _; dsimp only; omega) | exact srcOk_1 rfl | exact srcOk_L (fun _ => ⟨rfl, rfl⟩) | exact srcOk_E (fun _ => ⟨rfl, rfl⟩) | ((conv => whnf) <;> (first | exact markUp_succ hM h0 | refine And.intro ?_ ?_ | (intro _h; first | contradiction | (try simp only [decide_eq_true_eq, Bool.not_eq_true', Bool.not_eq_false', decide_eq_false_iff_not, Bool.not_eq_true, Decidable.not_not, Bool.true_eq_false, Bool.false_eq_true, pb_t, pb_f] at _h)) | exact rfl | exact True.intro | (refine dok ?_; kernel_rfl) | (refine doks ?_; kernel_rfl) | (refine wrap_succ ?_; omega))))
    · rw [mkC_succ hi]
      simp only [Call.mkE]
      simp (disch := omega) only [wrap_in, Int.toNat_natCast, mkL_at hi]
    · conv => whnf
      refine arr_set (mkL_succ hi) (by rw [mkL_len]; omega) rfl (fun a j => low_cells rfl) ?_ ?_
      · intro j hj
        rcases (show j = 0 ∨ j = 1 ∨ j = 2 ∨ j = 3 by omega) with rfl | rfl | rfl | rfl
        all_goals (simp (disch := omega) only [upd, Nat.beq_refl, wrap_in, Int.toNat_natCast, mkL_at hi, Call.csO, Call.mkE, owL, markL_len]; rfl)
      · intro a j hne
        simp only [upd, beq_ff hne, Bool.and_false, cond_false, Int.toNat_natCast]
  · exact endM_self ⟨congrArg _ (mkC_end (by omega)), rowL_end (by omega)⟩

set_option maxRecDepth 8000 in
theorem markCallS_nil (k : Int) : Ret env.P 73 [.nils, .i .i64 k] (fun r => r = .i .i64 k) := by
  refine ret_of (nt := 41) (rvs := [.tmp 4]) Try.func73 rfl rfl rfl rfl (fun X => ?_)
  repeat' (first | omega | (with_reducible show (_ : Int) < _; dsimp only; omega) | (with_reducible show (_ : Nat) ≤ _; dsimp only; omega) | exact srcOk_1 rfl | exact srcOk_L (fun _ => ⟨rfl, rfl⟩) | exact srcOk_E (fun _ => ⟨rfl, rfl⟩) | ((conv => whnf) <;> (first | refine loopN 0 (fun i => [(5, .i .i64 i), (1, .i .i64 k)]) (fun i => []) (fun i => True) ⟨trivial, ?_⟩ | refine And.intro ?_ ?_ | (intro _h; first | contradiction | (try simp only [decide_eq_true_eq, Bool.not_eq_true', Bool.not_eq_false', decide_eq_false_iff_not, Bool.not_eq_true, Decidable.not_not, Bool.true_eq_false, Bool.false_eq_true, pb_t, pb_f] at _h)) | exact rfl | exact True.intro | (refine dok ?_; kernel_rfl) | (refine doks ?_; kernel_rfl) | (refine wrap_succ ?_; omega))))
  all_goals first | rfl | omega

set_option maxRecDepth 8000 in
theorem heldCallS_ok (l : List Call) (k : Int) (h0 : 0 ≤ k) (hk : (markL Call.mkE l k).2 ≤ 4611686018427387904) (hl : okL Call.ok l) : Ret env.P 75 [slL 4 Call.cs l, .i .i64 k] (fun r => r = .i .i64 (heldI l (markL Call.mkE l k))) := by
  have hl1 := hl.1
  refine ret_of (nt := 49) (rvs := [.tmp 4]) Try.func75 rfl rfl rfl rfl (fun X => ?_)
  repeat' (first | omega | (with_reducible show (_ : Int) < _; dsimp only; omega) | (with_reducible show (_ : Nat) ≤ _; dsimp only; omega) | exact srcOk_1 rfl | exact srcOk_L (fun _ => ⟨rfl, rfl⟩) | exact srcOk_E (fun _ => ⟨rfl, rfl⟩) | ((conv => whnf) <;> (first | refine loopN l.length (fun i => [(5, .i .i64 i), (1, .i .i64 (mkC Call.mkE l k i))]) (fun i => []) (fun i => HeldUp Call.mkE l k i) ⟨heldUp_zero, ?_⟩ | exact mkC_zero.symm | (have hU := ‹HeldUp Call.mkE l k _›; have hq := held_rng Call.mkE_mono hU (by omega); have hok := held_get hU (by omega) hl; simp only [Call.mkE] at hq; have q1 := hq.1; have q2 := hq.2; have m0 := held_m0 Int64.mkE_mono q2; (first | refine .inl ⟨_, heldInt64S_or _ _ (by (try simp (disch := omega) only [wrap_in, Int.toNat_natCast]); omega) (by (try simp (disch := omega) only [wrap_in, Int.toNat_natCast]); omega) hok.1, ?_⟩ | refine ⟨_, heldInt64S_or _ _ (by (try simp (disch := omega) only [wrap_in, Int.toNat_natCast]); omega) (by (try simp (disch := omega) only [wrap_in, Int.toNat_natCast]); omega) hok.1, ?_⟩); clear hU hq hok; rintro _ (⟨_, _, rfl⟩ | ⟨_, rfl⟩)) | refine And.intro ?_ ?_ | (intro _h; first | contradiction | (try simp only [decide_eq_true_eq, Bool.not_eq_true', Bool.not_eq_false', decide_eq_false_iff_not, Bool.not_eq_true, Decidable.not_not, Bool.true_eq_false, Bool.false_eq_true, pb_t, pb_f] at _h)) | exact rfl | exact True.intro | (refine dok ?_; kernel_rfl) | (refine doks ?_; kernel_rfl) | (refine wrap_succ ?_; omega))))
  all_goals (first | (conv => whnf) | skip)
  all_goals (try simp only [Int.toNat_natCast] at *)
  all_goals first
    | exact leaf_i (held_end ‹HeldUp _ l k _› (by omega))
    | (have q := held_rng Call.mkE_mono ‹HeldUp Call.mkE l k _› (by omega)
       simp only [Call.mkE] at q
       have q1 := q.1
       have q2 := q.2
       clear q
       have m0 := held_m0 Int64.mkE_mono q2
       (try simp (disch := omega) only [wrap_in, bne_iff_ne, ne_eq, bne_eq_false_iff_eq] at *)
       first
         | omega
         | (rw [mkC_succ (by omega)]; done)
         | (rw [mkC_succ (by omega)]; rfl)
         | exact heldUp_succ ‹_› (Call.eta ‹_› ‹_› ‹_› ‹_›)
         | (refine leaf_i (held_no ‹HeldUp Call.mkE l k _› (by omega) fun e => ?_); first | (have e1 := congrArg (fun a => a.id) e; simp only [Call.mkE] at e1; contradiction) | (have e1 := congrArg (fun a => a.caller) e; simp only [Call.mkE] at e1; contradiction) | (have e1 := congrArg (fun a => a.callee) e; simp only [Call.mkE] at e1; contradiction) | (have e1 := congrArg (fun a => a.args) e; simp only [Call.mkE] at e1; contradiction)))

theorem heldCallS_or (l : List Call) (k : Int) (h0 : 0 ≤ k) (hk : (markL Call.mkE l k).2 ≤ 4611686018427387904) (hl : okL Call.ok l) : Ret env.P 75 [slL 4 Call.cs l, .i .i64 k] (fun y => (l = (markL Call.mkE l k).1 ∧ k ≤ (markL Call.mkE l k).2 ∧ y = .i .i64 (markL Call.mkE l k).2) ∨ (¬ l = (markL Call.mkE l k).1 ∧ y = .i .i64 (-1))) :=
  (heldCallS_ok l k h0 hk hl).mono fun y hy => by
    subst hy
    obtain ⟨h1, h2⟩ | ⟨h1, h2⟩ := heldI_cases l (markL Call.mkE l k)
    · exact .inl ⟨h1, markL_mono Call.mkE_mono l k, by rw [h2]⟩
    · exact .inr ⟨h1, by rw [h2]⟩

end Go.Proofs.Ythhenipljdanjaa
