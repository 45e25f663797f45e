/-
  Ins, as slices held alone. Printed by fam2.py.
-/
import Derived.Test.YtfejjddkglkigaaVTOwn
import Derived.Test.YtfejjddkglkigaaVTIns
namespace Go.Proofs.Ytfejjddkglkigaa
open Go Go.RowKit
set_option linter.unusedVariables false
set_option linter.unusedSimpArgs false

instance : HoldC Ins.cs := holdC_plain fun _ => rfl
instance : FreeC Ins.cs := freeC_plain fun _ => rfl
instance : Shr 0 Ins.cs Ins.cs := shr_plain fun _ => rfl

def Ins.mkE (a : Ins) (k : Int) : Ins × Int := (⟨k, (k + 1)⟩, ((k + 1) + 1))
theorem Ins.mkE_mono (a : Ins) (k : Int) : k ≤ (Ins.mkE a k).2 := by simp only [Ins.mkE]; omega
theorem Ins.mkE_ok (a : Ins) (k : Int) (h : Ins.ok a) : Ins.ok (Ins.mkE a k).1 := trivial
theorem Ins.mkE_idem (a : Ins) (k : Int) : Ins.mkE (Ins.mkE a k).1 k = Ins.mkE a k := by simp only [Ins.mkE]

set_option maxRecDepth 8000 in
theorem markInsS_ok (l : List Ins) (k : Int) (h0 : 0 ≤ k) (hk : (markL Ins.mkE l k).2 ≤ 4611686018427387904) (hl : l.length ≤ 1048576) : RetM env.P 7 [some (rowL 2 Ins.cs l)] [.row 0 l.length, .i .i64 k] (fun r H => r = .i .i64 (markL Ins.mkE l k).2 ∧ H = [some (rowL 2 Ins.cs (markL Ins.mkE l k).1)]) := by
  refine ret_ofM (nt := 27) (rvs := [.tmp 4]) Try.func7 rfl rfl rfl rfl (fun X hX => ?_)
  conv => whnf
  refine loopN l.length (fun i => [(5, .i .i64 i), (1, .i .i64 (mkC Ins.mkE l k i))]) (fun i => [some (.arr ⟨2, l.length, elE Ins.cs (mkL Ins.mkE l k i), .arr⟩)]) (fun i => True) ⟨trivial, ?_⟩
  repeat' (first | exact aa | ((conv => whnf) <;> (first | exact mkC_zero.symm | exact arr_same mkL_zero rfl (fun a j => low_cells rfl) | refine And.intro ?_ ?_ | (intro _h; first | contradiction | (try simp only [dd] at _h)) | (refine dt_go ?_) | exact rfl | exact True.intro | exact dkk | exact dks | (refine wrap_succ ?_; omega))))
  · rename_i i _ _
    have q1 := mkC_le (l := l) (k := k) Ins.mkE_mono (i + 1)
    have q2 := mkC_ge (l := l) (k := k) Ins.mkE_mono i
    rw [mkC_succ (by omega)] at q1
    rw [mkC_succ (by omega)]
    simp only [Ins.mkE] at q1 ⊢
    simp (disch := omega) only [wrap_in]
  · rename_i i _ _
    have q1 := mkC_le (l := l) (k := k) Ins.mkE_mono (i + 1)
    have q2 := mkC_ge (l := l) (k := k) Ins.mkE_mono i
    rw [mkC_succ (by omega)] at q1
    simp only [Ins.mkE] at q1
    conv => whnf
    refine arr_set (mkL_succ (by omega)) (by rw [mkL_len]; omega) rfl (fun a j => low_cells rfl) ?_ ?_
    · intro j hj
      rcases (show j = 0 ∨ j = 1 by omega) with rfl | rfl
      all_goals (simp (disch := omega) only [upd, Nat.beq_refl, wrap_in, Int.toNat_natCast]; rfl)
    · intro a j hne
      simp only [upd, beq_ff hne, Bool.and_false, cond_false, Int.toNat_natCast]
  · exact endM_self ⟨congrArg _ (mkC_end (by omega)), rowL_end (by omega)⟩

set_option maxRecDepth 8000 in
theorem markInsS_nil (k : Int) : Ret env.P 7 [.nils, .i .i64 k] (fun r => r = .i .i64 k) := by
  refine ret_of (nt := 27) (rvs := [.tmp 4]) Try.func7 rfl rfl rfl rfl (fun X => ?_)
  repeat' (first | exact aa | ((conv => whnf) <;> (first | refine loopN 0 (fun i => [(5, .i .i64 i), (1, .i .i64 k)]) (fun i => []) (fun i => True) ⟨trivial, ?_⟩ | refine And.intro ?_ ?_ | (intro _h; first | contradiction | (try simp only [dd] at _h)) | (refine dt_go ?_) | exact rfl | exact True.intro | exact dkk | exact dks | (refine wrap_succ ?_; omega))))
  all_goals first | rfl | omega

set_option maxRecDepth 8000 in
theorem heldInsS_ok (l : List Ins) (k : Int) (h0 : 0 ≤ k) (hk : (markL Ins.mkE l k).2 ≤ 4611686018427387904) (hl : l.length ≤ 1048576) : Ret env.P 8 [slL 2 Ins.cs l, .i .i64 k] (fun r => r = .i .i64 (heldI l (markL Ins.mkE l k))) := by
  refine ret_of (nt := 31) (rvs := [.tmp 4]) Try.func8 rfl rfl rfl rfl (fun X => ?_)
  repeat' (first | exact aa | ((conv => whnf) <;> (first | refine loopN l.length (fun i => [(5, .i .i64 i), (1, .i .i64 (mkC Ins.mkE l k i))]) (fun i => []) (fun i => HeldUp Ins.mkE l k i) ⟨heldUp_zero, ?_⟩ | exact mkC_zero.symm | refine And.intro ?_ ?_ | (intro _h; first | contradiction | (try simp only [dd] at _h)) | (refine dt_go ?_) | exact rfl | exact True.intro | exact dkk | exact dks | (refine wrap_succ ?_; omega))))
  all_goals (first | (conv => whnf) | skip)
  all_goals (try simp only [Int.toNat_natCast] at *)
  all_goals first
    | exact leaf_i (held_end ‹HeldUp _ l k _› (by omega))
    | (have q := held_rng Ins.mkE_mono ‹HeldUp Ins.mkE l k _› (by omega)
       simp only [Ins.mkE] at q
       have q1 := q.1
       have q2 := q.2
       clear q
       (try simp (disch := omega) only [wrap_in, bne_iff_ne, ne_eq, bne_eq_false_iff_eq] at *)
       first
         | (rw [mkC_succ (by omega)]; done)
         | (rw [mkC_succ (by omega)]; rfl)
         | exact heldUp_succ ‹_› (Ins.eta ‹_› ‹_›)
         | (refine leaf_i (held_no ‹HeldUp Ins.mkE l k _› (by omega) fun e => ?_); first | exact _h (congrArg (fun a => a.op) e) | exact _h (congrArg (fun a => a.a) e)))

theorem heldInsS_or (l : List Ins) (k : Int) (h0 : 0 ≤ k) (hk : (markL Ins.mkE l k).2 ≤ 4611686018427387904) (hl : l.length ≤ 1048576) : Ret env.P 8 [slL 2 Ins.cs l, .i .i64 k] (fun y => (l = (markL Ins.mkE l k).1 ∧ k ≤ (markL Ins.mkE l k).2 ∧ y = .i .i64 (markL Ins.mkE l k).2) ∨ (¬ l = (markL Ins.mkE l k).1 ∧ y = .i .i64 (-1))) :=
  (heldInsS_ok l k h0 hk hl).mono fun y hy => by
    subst hy
    obtain ⟨h1, h2⟩ | ⟨h1, h2⟩ := heldI_cases l (markL Ins.mkE l k)
    · exact .inl ⟨h1, markL_mono Ins.mkE_mono l k, by rw [h2]⟩
    · exact .inr ⟨h1, by rw [h2]⟩

end Go.Proofs.Ytfejjddkglkigaa
