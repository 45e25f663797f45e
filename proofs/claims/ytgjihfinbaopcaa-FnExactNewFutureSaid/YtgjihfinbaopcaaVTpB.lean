/-
  Names and labels: on both sides.
-/
import Derived.Test.YtgjihfinbaopcaaVTpA
import Derived.Test.YtgjihfinbaopcaaVX
namespace Go.Proofs.Ytgjihfinbaopcaa
open Go Go.RowKit
set_option linter.unusedVariables false
set_option linter.unusedSimpArgs false
attribute [local irreducible] IntKind.wrap

theorem within_ok (x lo hi : Int) : Ret env.P 33 [.i .i64 x, .i .i64 lo, .i .i64 hi] (fun r => r = .b (decide (lo ≤ x ∧ x ≤ hi))) := by
  refine ret_of (nt := 15) (rvs := [.tmp 6]) Try.func33 rfl rfl rfl rfl (fun X => ?_)
  repeat' (first | exact aa | ((conv => whnf) <;> (first | refine And.intro ?_ ?_ | (intro _h; first | contradiction | (try simp only [dd] at _h)) | (refine dt_go ?_) | exact rfl | exact True.intro | exact dkk | exact dks | (refine wrap_succ ?_; omega))))
  all_goals (conv => whnf)
  all_goals first
    | exact leaf_b (by rw [decide_eq_decide]; omega)
    | exact leaf_b (by symm; rw [decide_eq_false_iff_not]; omega)
    | trace_state
theorem l00In_ok (x lo hi : Int) : Ret env.P 32 [.i .i64 x, .i .i64 lo, .i .i64 hi] (fun r => r = .b (decide (lo ≤ x ∧ x ≤ hi))) := by
  refine ret_of (nt := 15) (rvs := [.tmp 6]) Try.func32 rfl rfl rfl rfl (fun X => ?_)
  repeat' (first | exact aa | ((conv => whnf) <;> (first | refine And.intro ?_ ?_ | (intro _h; first | contradiction | (try simp only [dd] at _h)) | (refine dt_go ?_) | exact rfl | exact True.intro | exact dkk | exact dks | (refine wrap_succ ?_; omega))))
  all_goals (conv => whnf)
  all_goals first
    | exact leaf_b (by rw [decide_eq_decide]; omega)
    | exact leaf_b (by symm; rw [decide_eq_false_iff_not]; omega)
    | trace_state
theorem wk1 {n : Nat} (h0 : 1 ≤ n) (h1 : n ≤ 1048576) : IntKind.i64.wrap ((n : Int) - 1) = ((n - 1 : Nat) : Int) := by
  rw [wrap_in (by omega) (by omega)]
  omega
theorem kp {b : ByteArray} {k : Nat} (h : (((b.data.getD k 0).toNat : Nat) : Int) = 45) (h0 : ¬ (((b.data.getD 0 0).toNat : Nat) : Int) < 97) : 1 ≤ k := by
  rcases k with _ | k
  · omega
  · omega
abbrev NmTo.nat {b : ByteArray} {k : Nat} (_ : NmTo b k) : Nat := k
theorem kpw {b : ByteArray} {k : Nat} (hw : NmTo b k) (h : (((b.data.getD k 0).toNat : Nat) : Int) = 45) (h0 : 0 < k ∨ ¬ (((b.data.getD 0 0).toNat : Nat) : Int) < 97) : 1 ≤ k := by
  rcases k with _ | k
  · omega
  · omega
theorem wk1w {b : ByteArray} {n : Nat} (hw : NmTo b n) (h0 : 1 ≤ n) (h1 : n ≤ 1048576) : IntKind.i64.wrap ((n : Int) - 1) = ((n - 1 : Nat) : Int) := wk1 h0 h1
theorem nm_fst {b : ByteArray} {k : Nat} (h : 0 < k ∨ (97 ≤ (((b.data.getD 0 0).toNat : Nat) : Int) ∧ (((b.data.getD 0 0).toNat : Nat) : Int) ≤ 122) ∨ (97 ≤ (((b.data.getD k 0).toNat : Nat) : Int) ∧ (((b.data.getD k 0).toNat : Nat) : Int) ≤ 122)) : k = 0 → chA (byA b k) := fun e => by
  subst e
  unfold chA byA
  omega
theorem nm_z {b : ByteArray} {k : Nat} (hw : NmTo b k) (hk : k = 0) (h : ¬ (97 ≤ (((b.data.getD k 0).toNat : Nat) : Int) ∧ (((b.data.getD k 0).toNat : Nat) : Int) ≤ 122)) : ¬ nmB b := fun q => by
  subst hk
  have := q.fst
  unfold chA byA at this
  omega
theorem nm_end {b : ByteArray} {k : Nat} (hw : NmTo b k) (hk : k = b.size) (h1 : 1 ≤ b.size) (h2 : b.size ≤ 12) : (!decide ((((b.data.getD (b.size - 1) 0).toNat : Nat) : Int) = 45)) = pb (nmB b) := by
  subst hk
  have h0 := hw.h 0 (by omega)
  have h1' := h0.2.2 rfl
  by_cases q : (((b.data.getD (b.size - 1) 0).toNat : Nat) : Int) = 45
  · rw [decide_eq_true q, pb_f.mpr (fun r => r.last (by unfold byA; omega))]; rfl
  · rw [decide_eq_false q, pb_t.mpr ⟨h1, h2, h1', by unfold byA; omega, hw⟩]; rfl
theorem nm_no {b : ByteArray} {k : Nat} (hw : NmTo b k) (hk : k < b.size) (h : ¬ (chB (byA b k) ∧ (byA b k = 45 → 0 < k ∧ byA b (k - 1) ≠ 45))) : ¬ nmB b := fun q => h ⟨(q.all.h k hk).1, (q.all.h k hk).2.1⟩
theorem nm_ok {b : ByteArray} {k : Nat} (hw : NmTo b k) (hk : k = b.size) (h1 : 1 ≤ b.size) (h2 : b.size ≤ 12) (h3 : chA (byA b 0)) (h4 : byA b (b.size - 1) ≠ 45) : nmB b := ⟨h1, h2, h3, h4, hk ▸ hw⟩
set_option maxRecDepth 8000 in
set_option maxHeartbeats 1000000 in
theorem l03Name_ok (b : ByteArray) (hs : b.size ≤ 1048576) : Ret env.P 63 [.s b] (fun r => r = .b (pb (nmB b))) := by
  refine ret_of (nt := 69) (rvs := [.tmp 2]) Try.func63 rfl rfl rfl rfl (fun X => ?_)
  repeat' (first | exact aa | ((conv => whnf) <;> (first | refine loopN b.size (fun k => [(3, .i .i64 k)]) (fun k => []) (fun k => NmTo b k) ⟨.zero b, ?_⟩ | refine And.intro ?_ ?_ | (intro _h; first | contradiction | (try simp only [dd] at _h)) | (refine dt_go ?_) | exact rfl | exact True.intro | exact dkk | exact dks | (refine wrap_succ ?_; omega))))
  all_goals (try simp only [Int.toNat_natCast, Int.toNat_zero] at *)
  all_goals first
    | (rw [wk1 (by omega) (by omega)]; omega)
    | (have hk := kpw ‹NmTo b _› (by omega) (by omega)
       rw [wk1w ‹NmTo b _› hk (by omega)]; omega)
    | exact NmTo.succ ‹_› (by unfold chB byA; omega) (by unfold byA; omega) (nm_fst (by omega))
    | (have hk := kpw ‹NmTo b _› (by omega) (by omega)
       rw [wk1w ‹NmTo b _› hk (by omega), Int.toNat_natCast] at *
       exact NmTo.succ ‹_› (by unfold chB byA; omega) (by unfold byA; omega) (nm_fst (by omega)))
    | (conv => whnf
       exact leaf_f (nm_z ‹NmTo b _› (by omega) (by omega)))
    | (conv => whnf
       exact leaf_f (nm_no ‹NmTo b _› (by omega) (by unfold chB byA; omega)))
    | (conv => whnf
       have hk := kpw ‹NmTo b _› (by omega) (by omega)
       rw [wk1w ‹NmTo b _› hk (by omega), Int.toNat_natCast] at *
       exact leaf_f (nm_no ‹NmTo b _› (by omega) (by unfold chB byA; omega)))
    | (conv => whnf
       refine leaf_f fun q => ?_
       have q1 := q.lo
       have q2 := q.hi
       have q3 := q.fst
       have q4 := q.last
       unfold chA byA at q3
       unfold byA at q4
       first
         | omega
         | (rw [wk1 (n := b.size) (by omega) (by omega), Int.toNat_natCast] at *; omega))
    | (conv => whnf
       refine leaf_t (nm_ok ‹NmTo b _› (by omega) (by omega) (by omega) (by unfold chA byA; omega) (by unfold byA; rw [wk1 (n := b.size) (by omega) (by omega), Int.toNat_natCast] at *; omega)))
    | (conv => whnf
       rw [wk1 (n := b.size) (by omega) (by omega), Int.toNat_natCast]
       exact leaf_b (nm_end ‹NmTo b _› (by omega) (by omega) (by omega)))
    | (conv => whnf
       trace_state)
set_option maxRecDepth 8000 in
set_option maxHeartbeats 1000000 in
theorem nameOk_ok (b : ByteArray) (hs : b.size ≤ 1048576) : Ret env.P 57 [.s b] (fun r => r = .b (pb (nmB b))) := by
  refine ret_of (nt := 75) (rvs := [.tmp 2]) Try.func57 rfl rfl rfl rfl (fun X => ?_)
  repeat' (first | exact aa | ((conv => whnf) <;> (first | refine loopN b.size (fun k => [(8, .i .i64 k)]) (fun k => []) (fun k => NmTo b k) ⟨.zero b, ?_⟩ | refine And.intro ?_ ?_ | (intro _h; first | contradiction | (try simp only [dd] at _h)) | (refine dt_go ?_) | exact rfl | exact True.intro | exact dkk | exact dks | (refine wrap_succ ?_; omega))))
  all_goals (try simp only [Int.toNat_natCast, Int.toNat_zero] at *)
  all_goals first
    | (rw [wk1 (by omega) (by omega)]; omega)
    | (have hk := kpw ‹NmTo b _› (by omega) (by omega)
       rw [wk1w ‹NmTo b _› hk (by omega)]; omega)
    | exact NmTo.succ ‹_› (by unfold chB byA; omega) (by unfold byA; omega) (nm_fst (by omega))
    | (have hk := kpw ‹NmTo b _› (by omega) (by omega)
       rw [wk1w ‹NmTo b _› hk (by omega), Int.toNat_natCast] at *
       exact NmTo.succ ‹_› (by unfold chB byA; omega) (by unfold byA; omega) (nm_fst (by omega)))
    | (conv => whnf
       exact leaf_f (nm_z ‹NmTo b _› (by omega) (by omega)))
    | (conv => whnf
       exact leaf_f (nm_no ‹NmTo b _› (by omega) (by unfold chB byA; omega)))
    | (conv => whnf
       have hk := kpw ‹NmTo b _› (by omega) (by omega)
       rw [wk1w ‹NmTo b _› hk (by omega), Int.toNat_natCast] at *
       exact leaf_f (nm_no ‹NmTo b _› (by omega) (by unfold chB byA; omega)))
    | (conv => whnf
       refine leaf_f fun q => ?_
       have q1 := q.lo
       have q2 := q.hi
       have q3 := q.fst
       have q4 := q.last
       unfold chA byA at q3
       unfold byA at q4
       first
         | omega
         | (rw [wk1 (n := b.size) (by omega) (by omega), Int.toNat_natCast] at *; omega))
    | (conv => whnf
       refine leaf_t (nm_ok ‹NmTo b _› (by omega) (by omega) (by omega) (by unfold chA byA; omega) (by unfold byA; rw [wk1 (n := b.size) (by omega) (by omega), Int.toNat_natCast] at *; omega)))
    | (conv => whnf
       rw [wk1 (n := b.size) (by omega) (by omega), Int.toNat_natCast]
       exact leaf_b (nm_end ‹NmTo b _› (by omega) (by omega) (by omega)))
    | (conv => whnf
       trace_state)
/-! Labels. -/
structure LbTo (l : List ByteArray) (k : Nat) : Prop where
  h : ∀ j, j < k → nmB (l.getD j default) ∧ ∀ i, i < j → l.getD i default ≠ l.getD j default
theorem LbTo.zero (l : List ByteArray) : LbTo l 0 := ⟨fun j hj => absurd hj (Nat.not_lt_zero _)⟩
structure NeTo (l : List ByteArray) (j k : Nat) : Prop where
  h : ∀ i, i < k → l.getD i default ≠ l.getD j default
theorem NeTo.zero (l : List ByteArray) (j : Nat) : NeTo l j 0 := ⟨fun i hi => absurd hi (Nat.not_lt_zero _)⟩
theorem NeTo.succ {l : List ByteArray} {j k : Nat} (h : NeTo l j k) (h1 : ¬ l.getD k default = l.getD j default) : NeTo l j (k + 1) := ⟨fun i hi => by
  rcases Nat.lt_or_eq_of_le (Nat.le_of_lt_succ hi) with r | rfl
  · exact h.h i r
  · exact h1⟩
theorem LbTo.succ {l : List ByteArray} {k m : Nat} (h : LbTo l k) (h1 : nmB (l.getD k default)) (h2 : NeTo l k m) (hm : m = k) : LbTo l (k + 1) := ⟨fun j hj => by
  subst hm
  rcases Nat.lt_or_eq_of_le (Nat.le_of_lt_succ hj) with r | rfl
  · exact h.h j r
  · exact ⟨h1, h2.h⟩⟩
theorem lb_no1 {l : List ByteArray} {k : Nat} (hw : LbTo l k) (hk : k < l.length) (h : ¬ nmB (l.getD k default)) : ¬ lbB l := fun q => h (q.nm k hk)
theorem lb_no2 {l : List ByteArray} {i k : Nat} (hw : NeTo l k i) (hk : k < l.length) (hi : i < k) (h : l.getD i default = l.getD k default) : ¬ lbB l := fun q => nodup_getD.1 q.nd k hk i hi h
theorem lb_yes {l : List ByteArray} {k : Nat} (h : LbTo l k) (hk : k = l.length) (h1 : 1 ≤ l.length) (h2 : l.length ≤ 16) : lbB l := by
  subst hk
  exact ⟨h1, h2, nodup_getD.2 fun j hj => (h.h j hj).2, fun j hj => (h.h j hj).1⟩
set_option maxRecDepth 8000 in
set_option maxHeartbeats 1000000 in
theorem l03Labels_ok (l : List ByteArray) (hl : l.length ≤ 1048576) (hs : ∀ k, k < l.length → (l.getD k default).size ≤ 1048576) : Ret env.P 64 [slL 1 strC l] (fun r => r = .b (pb (lbB l))) := by
  refine ret_of (nt := 39) (rvs := [.tmp 2]) Try.func64 rfl rfl rfl rfl (fun X => ?_)
  repeat' (first | exact aa | ((conv => whnf) <;> (first | refine loopAt 3 l.length (fun k => [(3, .i .i64 k)]) (fun k => []) (fun k => LbTo l k) rfl ⟨.zero l, ?_⟩ | (rename_i i _ _ _; refine loopAt 4 i (fun k => [(4, .i .i64 k)]) (fun k => []) (fun k => NeTo l i k) rfl ⟨.zero _ _, ?_⟩) | refine And.intro ?_ ?_ | (intro _h; first | contradiction | (try simp only [dd] at _h)) | (refine dt_go ?_) | exact rfl | exact True.intro | exact dkk | exact dks | ((first | refine .inl ⟨_, l03Name_ok _ (hs _ (by omega)), ?_⟩ | refine ⟨_, l03Name_ok _ (hs _ (by omega)), ?_⟩); (try rintro _ rfl)) | (refine wrap_succ ?_; omega))))
  all_goals (try simp only [Int.toNat_natCast] at *)
  all_goals first
    | exact NeTo.succ ‹_› ‹_›
    | exact LbTo.succ ‹_› (Classical.not_not.1 ‹_›) ‹NeTo _ _ _› (by omega)
    | (conv => whnf
       first
         | exact leaf_f (lb_no1 ‹LbTo l _› (by omega) ‹_›)
         | exact leaf_f (lb_no2 ‹NeTo l _ _› (by omega) (by omega) ‹_›)
         | exact leaf_f (fun q => by have := q.lo; have := q.hi; omega)
         | exact leaf_t (lb_yes ‹LbTo l _› (by omega) (by omega) (by omega))
         | trace_state)
end Go.Proofs.Ytgjihfinbaopcaa
