/-
  []string held alone: what the laws' functions do with it.
-/
import Derived.Test.YtgjihfinbaopcaaVToA
namespace Go.Proofs.Ytgjihfinbaopcaa
open Go Go.RowKit
set_option linter.unusedVariables false
set_option linter.unusedSimpArgs false

instance strC_hold : HoldC strC := holdC_plain fun _ => rfl
instance strC_free : FreeC strC := freeC_plain fun _ => rfl
instance strC_shr : Shr 0 strC strC := shr_plain fun _ => rfl

def Str.mkE (a : ByteArray) (k : Int) : ByteArray × Int := (mtxt k, (k + 1))
theorem Str.mkE_mono (a : ByteArray) (k : Int) : k ≤ (Str.mkE a k).2 := by simp only [Str.mkE]; omega
theorem Str.mkE_idem (a : ByteArray) (k : Int) : Str.mkE (Str.mkE a k).1 k = Str.mkE a k := by simp only [Str.mkE]
theorem mtxt_sz (k : Int) : (mtxt k).size ≤ 20 := by
  unfold mtxt
  split
  · decide
  · rw [ByteArray.size_append]
    have := mst_sz (k := k) 19
    have : (⟨#[109]⟩ : ByteArray).size = 1 := rfl
    omega
theorem Str.mkE_ok (a : ByteArray) (k : Int) (h : okS a) : okS (Str.mkE a k).1 := Nat.le_trans (mtxt_sz k) (by decide)

set_option maxRecDepth 8000 in
theorem toStringSO_ok (l : List ByteArray) (h : okL okS l) : RetM env.P 20 [] [slL 1 strC l] (fun r H => r = .row 0 l.length ∧ H = [some (rowL 1 strC l)]) := by
  have hl := h.1
  refine ret_ofM (nt := 22) (rvs := [.tmp 2]) Try.func20 rfl rfl rfl rfl (fun X hX => ?_)
  conv => whnf
  refine ⟨⟨by omega, by omega, by dsimp only; omega, by omega⟩, ?_⟩
  conv => whnf
  refine loopN l.length (fun k => [(4, .i .i64 k)]) (fun k => [some (.arr ⟨1, l.length, fillE k (elE strC l) (fun _ j => [AV.s ByteArray.empty].getD j .any), .arr⟩)]) (fun k => True) ⟨trivial, ?_⟩
  repeat' (first | exact aa | ((conv => whnf) <;> (first | exact arr_start rfl (fun _ _ => low_cells rfl) (fun _ _ => low_cells rfl) | exact arr_round rfl rfl (fun _ _ => rfl) (fun _ _ => low_cells rfl) (fun _ _ => low_cells rfl) | refine And.intro ?_ ?_ | (intro _h; first | contradiction | (try simp only [dd] at _h)) | (refine dt_go ?_) | exact rfl | exact True.intro | exact dkk | exact dks | (refine wrap_succ ?_; omega))))
  exact endM_rowL (l := l) (c := strC) rfl (fun i j hi hj => fill_end (by omega)) ⟨rfl, rfl⟩
set_option maxRecDepth 8000 in
theorem markStringS_ok (l : List ByteArray) (k : Int) (h0 : 0 ≤ k) (hk : (markL Str.mkE l k).2 ≤ 4611686018427387904) (hl : l.length ≤ 1048576) : RetM env.P 27 [some (rowL 1 strC l)] [.row 0 l.length, .i .i64 k] (fun r H => r = .i .i64 (markL Str.mkE l k).2 ∧ H = [some (rowL 1 strC (markL Str.mkE l k).1)]) := by
  refine ret_ofM (nt := 20) (rvs := [.tmp 4]) Try.func27 rfl rfl rfl rfl (fun X hX => ?_)
  conv => whnf
  refine loopN l.length (fun i => [(5, .i .i64 i), (1, .i .i64 (mkC Str.mkE l k i))]) (fun i => [some (.arr ⟨1, l.length, elE strC (mkL Str.mkE l k i), .arr⟩)]) (fun i => MarkUp Str.mkE l k i) ⟨markUp_zero Str.mkE_mono h0 hk, ?_⟩
  repeat' (first | exact aa | ((conv => whnf) <;> (first | exact mkC_zero.symm | exact arr_same mkL_zero rfl (fun a j => low_cells rfl) | exact markUp_succ (by assumption) h0 | refine And.intro ?_ ?_ | (intro _h; first | contradiction | (try simp only [dd] at _h)) | (refine dt_go ?_) | exact rfl | exact True.intro | exact dkk | exact dks | ((first | refine .inl ⟨_, markText_ok _ (MarkUp.lo ‹_›) (by have q := MarkUp.le ‹_› (show _ < l.length by omega); simp only [Str.mkE] at q; omega), ?_⟩ | refine ⟨_, markText_ok _ (MarkUp.lo ‹_›) (by have q := MarkUp.le ‹_› (show _ < l.length by omega); simp only [Str.mkE] at q; omega), ?_⟩); (try rintro _ rfl)) | (refine wrap_succ ?_; omega))))
  · rename_i i _ hM
    have q1 := hM.le (show i < l.length by omega)
    have q2 := hM.lo
    rw [mkC_succ (by omega)]
    simp only [Str.mkE] at q1 ⊢
    simp (disch := omega) only [wrap_in]
  · rename_i i _ hM
    have q1 := hM.le (show i < l.length by omega)
    have q2 := hM.lo
    simp only [Str.mkE] at q1
    conv => whnf
    refine arr_set (mkL_succ (by omega)) (by rw [mkL_len]; omega) rfl (fun a j => low_cells rfl) ?_ ?_
    · intro j hj
      obtain rfl : j = 0 := by omega
      all_goals (simp (disch := omega) only [upd, Nat.beq_refl, wrap_in, Int.toNat_natCast]; rfl)
    · intro a j hne
      simp only [upd, beq_ff hne, Bool.and_false, cond_false, Int.toNat_natCast]
  · exact endM_self ⟨congrArg _ (mkC_end (by omega)), rowL_end (by omega)⟩

set_option maxRecDepth 8000 in
theorem markStringS_nil (k : Int) : Ret env.P 27 [.nils, .i .i64 k] (fun r => r = .i .i64 k) := by
  refine ret_of (nt := 20) (rvs := [.tmp 4]) Try.func27 rfl rfl rfl rfl (fun X => ?_)
  repeat' (first | exact aa | ((conv => whnf) <;> (first | refine loopN 0 (fun i => [(5, .i .i64 i), (1, .i .i64 k)]) (fun i => []) (fun i => True) ⟨trivial, ?_⟩ | refine And.intro ?_ ?_ | (intro _h; first | contradiction | (try simp only [dd] at _h)) | (refine dt_go ?_) | exact rfl | exact True.intro | exact dkk | exact dks | (refine wrap_succ ?_; omega))))
  all_goals first | rfl | omega
set_option maxRecDepth 8000 in
theorem heldStringS_ok (l : List ByteArray) (k : Int) (h0 : 0 ≤ k) (hk : (markL Str.mkE l k).2 ≤ 4611686018427387904) (hl : l.length ≤ 1048576) : Ret env.P 43 [slL 1 strC l, .i .i64 k] (fun r => r = .i .i64 (heldI l (markL Str.mkE l k))) := by
  refine ret_of (nt := 22) (rvs := [.tmp 4]) Try.func43 rfl rfl rfl rfl (fun X => ?_)
  repeat' (first | exact aa | ((conv => whnf) <;> (first | refine loopN l.length (fun i => [(5, .i .i64 i), (1, .i .i64 (mkC Str.mkE l k i))]) (fun i => []) (fun i => HeldUp Str.mkE l k i) ⟨heldUp_zero, ?_⟩ | exact mkC_zero.symm | refine And.intro ?_ ?_ | (intro _h; first | contradiction | (try simp only [dd] at _h)) | (refine dt_go ?_) | exact rfl | exact True.intro | exact dkk | exact dks | ((first | refine .inl ⟨_, markText_ok _ (by have q := held_rng Str.mkE_mono ‹HeldUp Str.mkE l k _› (by omega); simp only [Str.mkE] at q; omega) (by have q := held_rng Str.mkE_mono ‹HeldUp Str.mkE l k _› (by omega); simp only [Str.mkE] at q; omega), ?_⟩ | refine ⟨_, markText_ok _ (by have q := held_rng Str.mkE_mono ‹HeldUp Str.mkE l k _› (by omega); simp only [Str.mkE] at q; omega) (by have q := held_rng Str.mkE_mono ‹HeldUp Str.mkE l k _› (by omega); simp only [Str.mkE] at q; omega), ?_⟩); (try rintro _ rfl)) | (refine wrap_succ ?_; omega))))
  all_goals (first | (conv => whnf) | skip)
  all_goals (try simp only [Int.toNat_natCast] at *)
  all_goals first
    | exact leaf_i (held_end ‹HeldUp _ l k _› (by omega))
    | (have q := held_rng Str.mkE_mono ‹HeldUp Str.mkE l k _› (by omega)
       simp only [Str.mkE] at q
       have q1 := q.1
       have q2 := q.2
       clear q
       (try simp (disch := omega) only [wrap_in, bne_iff_ne, ne_eq, bne_eq_false_iff_eq] at *)
       first
         | (rw [mkC_succ (by omega)]; done)
         | (rw [mkC_succ (by omega)]; rfl)
         | exact heldUp_succ ‹_› ‹_›
         | exact leaf_i (held_no ‹HeldUp Str.mkE l k _› (by omega) ‹_›)
         | trace_state)

theorem heldStringS_or (l : List ByteArray) (k : Int) (h0 : 0 ≤ k) (hk : (markL Str.mkE l k).2 ≤ 4611686018427387904) (hl : l.length ≤ 1048576) : Ret env.P 43 [slL 1 strC l, .i .i64 k] (fun y => (l = (markL Str.mkE l k).1 ∧ k ≤ (markL Str.mkE l k).2 ∧ y = .i .i64 (markL Str.mkE l k).2) ∨ (¬ l = (markL Str.mkE l k).1 ∧ y = .i .i64 (-1))) :=
  (heldStringS_ok l k h0 hk hl).mono fun y hy => by
    subst hy
    obtain ⟨h1, h2⟩ | ⟨h1, h2⟩ := heldI_cases l (markL Str.mkE l k)
    · exact .inl ⟨h1, markL_mono Str.mkE_mono l k, by rw [h2]⟩
    · exact .inr ⟨h1, by rw [h2]⟩
end Go.Proofs.Ytgjihfinbaopcaa
