/-
  Block, as slices held alone. Printed by fam2.py.
-/
import Derived.Test.YtkajnhnmlgogeaaVTOwn
import Derived.Test.YtkajnhnmlgogeaaVTBlock
namespace Go.Proofs.Ytkajnhnmlgogeaa
open Go Go.RowKit
set_option linter.unusedVariables false
set_option linter.unusedSimpArgs false

instance : HoldC Block.cs := holdC_plain fun _ => rfl
instance : FreeC Block.cs := freeC_plain fun _ => rfl
instance : Shr 0 Block.cs Block.cs := shr_plain fun _ => rfl

def Block.mkE (a : Block) (k : Int) : Block × Int := (⟨k, (k + 1)⟩, ((k + 1) + 1))
theorem Block.mkE_mono (a : Block) (k : Int) : k ≤ (Block.mkE a k).2 := by simp only [Block.mkE]; omega
theorem Block.mkE_ok (a : Block) (k : Int) (h : Block.ok a) : Block.ok (Block.mkE a k).1 := trivial
theorem Block.mkE_idem (a : Block) (k : Int) : Block.mkE (Block.mkE a k).1 k = Block.mkE a k := by simp only [Block.mkE]

set_option maxRecDepth 8000 in
theorem toBlockSO_ok (l : List Block) (h : okL Block.ok l) : RetM env.P 17 [] [slL 2 Block.cs l] (fun r H => r = .row 0 l.length ∧ H = [some (rowL 2 Block.cs l)]) := by
  have hl := h.1
  refine ret_ofM (nt := 23) (rvs := [.tmp 2]) Try.func17 rfl rfl rfl rfl (fun X hX => ?_)
  conv => whnf
  refine ⟨⟨by omega, by omega, by dsimp only; omega, by omega⟩, ?_⟩
  conv => whnf
  refine loopN l.length (fun k => [(4, .i .i64 k)]) (fun k => [some (.arr ⟨2, l.length, fillE k (elE Block.cs l) (fun _ j => [AV.i .i64 0, AV.i .i64 0].getD j .any), .arr⟩)]) (fun k => True) ⟨trivial, ?_⟩
  repeat' (first | exact aa | ((conv => whnf) <;> (first | exact arr_start rfl (fun _ _ => low_cells rfl) (fun _ _ => low_cells rfl) | exact arr_round rfl rfl (fun _ _ => rfl) (fun _ _ => low_cells rfl) (fun _ _ => low_cells rfl) | refine And.intro ?_ ?_ | (intro _h; first | contradiction | (try simp only [dd] at _h)) | (refine dt_go ?_) | exact rfl | exact True.intro | exact dkk | exact dks | ((first | refine .inl ⟨_, toBlock_ok _ (h.2 _ (by omega)), ?_⟩ | refine ⟨_, toBlock_ok _ (h.2 _ (by omega)), ?_⟩); (try rintro _ rfl)) | (refine wrap_succ ?_; omega))))
  exact endM_rowL (l := l) (c := Block.cs) rfl (fun i j hi hj => fill_end (by omega)) ⟨rfl, rfl⟩

set_option maxRecDepth 8000 in
theorem markBlockS_ok (l : List Block) (k : Int) (h0 : 0 ≤ k) (hk : (markL Block.mkE l k).2 ≤ 4611686018427387904) (hl : l.length ≤ 1048576) : RetM env.P 25 [some (rowL 2 Block.cs l)] [.row 0 l.length, .i .i64 k] (fun r H => r = .i .i64 (markL Block.mkE l k).2 ∧ H = [some (rowL 2 Block.cs (markL Block.mkE l k).1)]) := by
  refine ret_ofM (nt := 27) (rvs := [.tmp 4]) Try.func25 rfl rfl rfl rfl (fun X hX => ?_)
  conv => whnf
  refine loopN l.length (fun i => [(5, .i .i64 i), (1, .i .i64 (mkC Block.mkE l k i))]) (fun i => [some (.arr ⟨2, l.length, elE Block.cs (mkL Block.mkE l k i), .arr⟩)]) (fun i => True) ⟨trivial, ?_⟩
  repeat' (first | exact aa | ((conv => whnf) <;> (first | exact mkC_zero.symm | exact arr_same mkL_zero rfl (fun a j => low_cells rfl) | refine And.intro ?_ ?_ | (intro _h; first | contradiction | (try simp only [dd] at _h)) | (refine dt_go ?_) | exact rfl | exact True.intro | exact dkk | exact dks | (refine wrap_succ ?_; omega))))
  · rename_i i _ _
    have q1 := mkC_le (l := l) (k := k) Block.mkE_mono (i + 1)
    have q2 := mkC_ge (l := l) (k := k) Block.mkE_mono i
    rw [mkC_succ (by omega)] at q1
    rw [mkC_succ (by omega)]
    simp only [Block.mkE] at q1 ⊢
    simp (disch := omega) only [wrap_in]
  · rename_i i _ _
    have q1 := mkC_le (l := l) (k := k) Block.mkE_mono (i + 1)
    have q2 := mkC_ge (l := l) (k := k) Block.mkE_mono i
    rw [mkC_succ (by omega)] at q1
    simp only [Block.mkE] at q1
    conv => whnf
    refine arr_set (mkL_succ (by omega)) (by rw [mkL_len]; omega) rfl (fun a j => low_cells rfl) ?_ ?_
    · intro j hj
      rcases (show j = 0 ∨ j = 1 by omega) with rfl | rfl
      all_goals (simp (disch := omega) only [upd, Nat.beq_refl, wrap_in, Int.toNat_natCast]; rfl)
    · intro a j hne
      simp only [upd, beq_ff hne, Bool.and_false, cond_false, Int.toNat_natCast]
  · exact endM_self ⟨congrArg _ (mkC_end (by omega)), rowL_end (by omega)⟩

set_option maxRecDepth 8000 in
theorem markBlockS_nil (k : Int) : Ret env.P 25 [.nils, .i .i64 k] (fun r => r = .i .i64 k) := by
  refine ret_of (nt := 27) (rvs := [.tmp 4]) Try.func25 rfl rfl rfl rfl (fun X => ?_)
  repeat' (first | exact aa | ((conv => whnf) <;> (first | refine loopN 0 (fun i => [(5, .i .i64 i), (1, .i .i64 k)]) (fun i => []) (fun i => True) ⟨trivial, ?_⟩ | refine And.intro ?_ ?_ | (intro _h; first | contradiction | (try simp only [dd] at _h)) | (refine dt_go ?_) | exact rfl | exact True.intro | exact dkk | exact dks | (refine wrap_succ ?_; omega))))
  all_goals first | rfl | omega

set_option maxRecDepth 8000 in
theorem heldBlockS_ok (l : List Block) (k : Int) (h0 : 0 ≤ k) (hk : (markL Block.mkE l k).2 ≤ 4611686018427387904) (hl : l.length ≤ 1048576) : Ret env.P 26 [slL 2 Block.cs l, .i .i64 k] (fun r => r = .i .i64 (heldI l (markL Block.mkE l k))) := by
  refine ret_of (nt := 31) (rvs := [.tmp 4]) Try.func26 rfl rfl rfl rfl (fun X => ?_)
  repeat' (first | exact aa | ((conv => whnf) <;> (first | refine loopN l.length (fun i => [(5, .i .i64 i), (1, .i .i64 (mkC Block.mkE l k i))]) (fun i => []) (fun i => HeldUp Block.mkE l k i) ⟨heldUp_zero, ?_⟩ | exact mkC_zero.symm | refine And.intro ?_ ?_ | (intro _h; first | contradiction | (try simp only [dd] at _h)) | (refine dt_go ?_) | exact rfl | exact True.intro | exact dkk | exact dks | (refine wrap_succ ?_; omega))))
  all_goals (first | (conv => whnf) | skip)
  all_goals (try simp only [Int.toNat_natCast] at *)
  all_goals first
    | exact leaf_i (held_end ‹HeldUp _ l k _› (by omega))
    | (have q := held_rng Block.mkE_mono ‹HeldUp Block.mkE l k _› (by omega)
       simp only [Block.mkE] at q
       have q1 := q.1
       have q2 := q.2
       clear q
       (try simp (disch := omega) only [wrap_in, bne_iff_ne, ne_eq, bne_eq_false_iff_eq] at *)
       first
         | (rw [mkC_succ (by omega)]; done)
         | (rw [mkC_succ (by omega)]; rfl)
         | exact heldUp_succ ‹_› (Block.eta ‹_› ‹_›)
         | (refine leaf_i (held_no ‹HeldUp Block.mkE l k _› (by omega) fun e => ?_); first | exact _h (congrArg (fun a => a.at_) e) | exact _h (congrArg (fun a => a.size) e)))

theorem heldBlockS_or (l : List Block) (k : Int) (h0 : 0 ≤ k) (hk : (markL Block.mkE l k).2 ≤ 4611686018427387904) (hl : l.length ≤ 1048576) : Ret env.P 26 [slL 2 Block.cs l, .i .i64 k] (fun y => (l = (markL Block.mkE l k).1 ∧ k ≤ (markL Block.mkE l k).2 ∧ y = .i .i64 (markL Block.mkE l k).2) ∨ (¬ l = (markL Block.mkE l k).1 ∧ y = .i .i64 (-1))) :=
  (heldBlockS_ok l k h0 hk hl).mono fun y hy => by
    subst hy
    obtain ⟨h1, h2⟩ | ⟨h1, h2⟩ := heldI_cases l (markL Block.mkE l k)
    · exact .inl ⟨h1, markL_mono Block.mkE_mono l k, by rw [h2]⟩
    · exact .inr ⟨h1, by rw [h2]⟩

end Go.Proofs.Ytkajnhnmlgogeaa
