/-
  Call, as slices held alone. Printed by fam2.py.
-/
import Derived.Test.YtfjciadhanfhpaaVTOwn
import Derived.Test.YtfjciadhanfhpaaVTCall
import Derived.Test.YtfjciadhanfhpaaVOInt64S
namespace Go.Proofs.Ytfjciadhanfhpaa
open Go Go.RowKit
set_option linter.unusedVariables false
set_option linter.unusedSimpArgs false

def Call.csO (a : Call) : List AV := [.i .i64 a.id, .i .i64 a.caller, .i .i64 a.callee, owL 1 intC a.args]
instance : HoldC Call.csO := ⟨fun a => (idf_cons trivial (idf_cons trivial (idf_cons trivial (idf_cons owL_idf idf_nil))))⟩
instance : FreeC Call.csO := ⟨fun a => (free_cons trivial (free_cons trivial (free_cons trivial (free_cons owL_free free_nil))))⟩
instance : Shr 1 Call.csO Call.cs := ⟨fun H k a => (.cons (.refl _) (.cons (.refl _) (.cons (.refl _) (.cons (shr_ow (d := 0) (k := k + 0)) .nil))))⟩

def Call.resO (a : Call) : List AV := [.i .i64 a.id, .i .i64 a.caller, .i .i64 a.callee, .row 0 a.args.length]
def Call.rowsO (a : Call) : Hp := [some (rowL 1 intC a.args)]

def Call.mkE (a : Call) (k : Int) : Call × Int := (⟨k, (k + 1), ((k + 1) + 1), (markL Int64.mkE a.args (((k + 1) + 1) + 1)).1⟩, (markL Int64.mkE a.args (((k + 1) + 1) + 1)).2)
theorem Call.mkE_mono (a : Call) (k : Int) : k ≤ (Call.mkE a k).2 := by have m0 := markL_mono Int64.mkE_mono a.args (((k + 1) + 1) + 1); simp only [Call.mkE]; omega
theorem Call.mkE_ok (a : Call) (k : Int) (h : Call.ok a) : Call.ok (Call.mkE a k).1 := (okL_mark (fun _ _ _ => trivial) h)
theorem Call.mkE_idem (a : Call) (k : Int) : Call.mkE (Call.mkE a k).1 k = Call.mkE a k := by simp only [Call.mkE, markL_idem Int64.mkE_idem]

set_option maxRecDepth 8000 in
theorem markCallS_ok (l : List Call) (k : Int) (h0 : 0 ≤ k) (hk : (markL Call.mkE l k).2 ≤ 4611686018427387904) (hl : okL Call.ok l) : RetM env.P 33 [some (rowL 4 Call.csO l)] [.row 0 l.length, .i .i64 k] (fun r H => r = .i .i64 (markL Call.mkE l k).2 ∧ H = [some (rowL 4 Call.csO (markL Call.mkE l k).1)]) := by
  have hl1 := hl.1
  refine ret_ofM (nt := 41) (rvs := [.tmp 4]) Try.func33 rfl rfl rfl rfl (fun X hX => ?_)
  conv => whnf
  refine loopNT l.length (fun i => [(5, .i .i64 i), (1, .i .i64 (mkC Call.mkE l k i))]) (fun i => [some (.arr ⟨4, l.length, elE Call.csO (mkL Call.mkE l k i), .arr⟩)]) (fun i => MarkUp Call.mkE l k i) ⟨markUp_zero Call.mkE_mono h0 hk, ?_⟩
  repeat' (first | exact aa | ((conv => whnf) <;> (first | exact mkC_zero.symm | exact arr_same mkL_zero rfl (fun a j => low_cells rfl) | (rename_i i _ hM; have hi : i < l.length := (by omega); have q1 := hM.le hi; have q2 := hM.lo; simp only [Call.mkE] at q1; have m0 := markL_mono Int64.mkE_mono (l.getD i default).args (((mkC Call.mkE l k i + 1) + 1) + 1); refine .inr (.inl (.inl ⟨[1], _, _, _, markInt64S_ok _ _ (by simp (disch := omega) only [wrap_in, Int.toNat_natCast, mkL_at hi]; omega) (by simp (disch := omega) only [wrap_in, Int.toNat_natCast, mkL_at hi]; omega) (by simp (disch := omega) only [wrap_in, Int.toNat_natCast, mkL_at hi]; exact (hl.2 _ hi).1), viewA, ⟨rfl, rfl⟩, ?_⟩)); rintro _ _ ⟨rfl, rfl⟩; refine ⟨rfl, _, lokA, ?_⟩) | refine And.intro ?_ ?_ | (intro _h; first | contradiction | (try simp only [dd] at _h)) | (refine dt_go ?_) | exact rfl | exact True.intro | exact dkk | exact dks | (refine wrap_succ ?_; omega))))
  · refine ⟨_, (turn_close (id := 0) (j := 3) (id' := 1) rfl (by omega) (show 3 < 4 by decide) (by simp only [upd, Nat.beq_refl, Int.toNat_natCast]; rfl) rfl (by decide) rfl (rowO_le (by first | exact Nat.le_refl _ | (simp only [markL_len]; exact Nat.le_refl _)))), ?_⟩
    repeat' (first | exact aa | ((conv => whnf) <;> (first | exact markUp_succ hM h0 | refine And.intro ?_ ?_ | (intro _h; first | contradiction | (try simp only [dd] at _h)) | (refine dt_go ?_) | exact rfl | exact True.intro | exact dkk | exact dks | (refine wrap_succ ?_; omega))))
    · rw [mkC_succ hi]
      simp only [Call.mkE]
      simp (disch := omega) only [wrap_in, Int.toNat_natCast, mkL_at hi]
    · conv => whnf
      refine arr_set (mkL_succ hi) (by rw [mkL_len]; omega) rfl (fun a j => low_cells rfl) ?_ ?_
      · intro j hj
        rcases (show j = 0 ∨ j = 1 ∨ j = 2 ∨ j = 3 by omega) with rfl | rfl | rfl | rfl
        all_goals (simp (disch := omega) only [upd, Nat.beq_refl, wrap_in, Int.toNat_natCast, mkL_at hi, Call.csO, Call.mkE, owL, markL_len]; rfl)
      · intro a j hne
        simp only [upd, beq_ff hne, Bool.and_false, cond_false, Int.toNat_natCast]
  · exact endM_self ⟨congrArg _ (mkC_end (by omega)), rowL_end (by omega)⟩

set_option maxRecDepth 8000 in
theorem markCallS_nil (k : Int) : Ret env.P 33 [.nils, .i .i64 k] (fun r => r = .i .i64 k) := by
  refine ret_of (nt := 41) (rvs := [.tmp 4]) Try.func33 rfl rfl rfl rfl (fun X => ?_)
  repeat' (first | exact aa | ((conv => whnf) <;> (first | refine loopN 0 (fun i => [(5, .i .i64 i), (1, .i .i64 k)]) (fun i => []) (fun i => True) ⟨trivial, ?_⟩ | refine And.intro ?_ ?_ | (intro _h; first | contradiction | (try simp only [dd] at _h)) | (refine dt_go ?_) | exact rfl | exact True.intro | exact dkk | exact dks | (refine wrap_succ ?_; omega))))
  all_goals first | rfl | omega

set_option maxRecDepth 8000 in
theorem heldCallS_ok (l : List Call) (k : Int) (h0 : 0 ≤ k) (hk : (markL Call.mkE l k).2 ≤ 4611686018427387904) (hl : okL Call.ok l) : Ret env.P 35 [slL 4 Call.cs l, .i .i64 k] (fun r => r = .i .i64 (heldI l (markL Call.mkE l k))) := by
  have hl1 := hl.1
  refine ret_of (nt := 49) (rvs := [.tmp 4]) Try.func35 rfl rfl rfl rfl (fun X => ?_)
  repeat' (first | exact aa | ((conv => whnf) <;> (first | refine loopN l.length (fun i => [(5, .i .i64 i), (1, .i .i64 (mkC Call.mkE l k i))]) (fun i => []) (fun i => HeldUp Call.mkE l k i) ⟨heldUp_zero, ?_⟩ | exact mkC_zero.symm | (have hU := ‹HeldUp Call.mkE l k _›; have hq := held_rng Call.mkE_mono hU (by omega); have hok := held_get hU (by omega) hl; simp only [Call.mkE] at hq; have q1 := hq.1; have q2 := hq.2; have m0 := held_m0 Int64.mkE_mono q2; (first | refine .inl ⟨_, heldInt64S_or _ _ (by (try simp (disch := omega) only [wrap_in, Int.toNat_natCast]); omega) (by (try simp (disch := omega) only [wrap_in, Int.toNat_natCast]); omega) hok.1, ?_⟩ | refine ⟨_, heldInt64S_or _ _ (by (try simp (disch := omega) only [wrap_in, Int.toNat_natCast]); omega) (by (try simp (disch := omega) only [wrap_in, Int.toNat_natCast]); omega) hok.1, ?_⟩); clear hU hq hok; rintro _ (⟨_, _, rfl⟩ | ⟨_, rfl⟩)) | refine And.intro ?_ ?_ | (intro _h; first | contradiction | (try simp only [dd] at _h)) | (refine dt_go ?_) | exact rfl | exact True.intro | exact dkk | exact dks | (refine wrap_succ ?_; omega))))
  all_goals (first | (conv => whnf) | skip)
  all_goals (try simp only [Int.toNat_natCast] at *)
  all_goals first
    | exact leaf_i (held_end ‹HeldUp _ l k _› (by omega))
    | (have q := held_rng Call.mkE_mono ‹HeldUp Call.mkE l k _› (by omega)
       simp only [Call.mkE] at q
       have q1 := q.1
       have q2 := q.2
       clear q
       have m0 := held_m0 Int64.mkE_mono q2
       (try simp (disch := omega) only [wrap_in, bne_iff_ne, ne_eq, bne_eq_false_iff_eq] at *)
       first
         | omega
         | (rw [mkC_succ (by omega)]; done)
         | (rw [mkC_succ (by omega)]; rfl)
         | exact heldUp_succ ‹_› (Call.eta ‹_› ‹_› ‹_› ‹_›)
         | (refine leaf_i (held_no ‹HeldUp Call.mkE l k _› (by omega) fun e => ?_); first | (have e1 := congrArg (fun a => a.id) e; simp only [Call.mkE] at e1; contradiction) | (have e1 := congrArg (fun a => a.caller) e; simp only [Call.mkE] at e1; contradiction) | (have e1 := congrArg (fun a => a.callee) e; simp only [Call.mkE] at e1; contradiction) | (have e1 := congrArg (fun a => a.args) e; simp only [Call.mkE] at e1; contradiction)))

theorem heldCallS_or (l : List Call) (k : Int) (h0 : 0 ≤ k) (hk : (markL Call.mkE l k).2 ≤ 4611686018427387904) (hl : okL Call.ok l) : Ret env.P 35 [slL 4 Call.cs l, .i .i64 k] (fun y => (l = (markL Call.mkE l k).1 ∧ k ≤ (markL Call.mkE l k).2 ∧ y = .i .i64 (markL Call.mkE l k).2) ∨ (¬ l = (markL Call.mkE l k).1 ∧ y = .i .i64 (-1))) :=
  (heldCallS_ok l k h0 hk hl).mono fun y hy => by
    subst hy
    obtain ⟨h1, h2⟩ | ⟨h1, h2⟩ := heldI_cases l (markL Call.mkE l k)
    · exact .inl ⟨h1, markL_mono Call.mkE_mono l k, by rw [h2]⟩
    · exact .inr ⟨h1, by rw [h2]⟩

end Go.Proofs.Ytfjciadhanfhpaa
