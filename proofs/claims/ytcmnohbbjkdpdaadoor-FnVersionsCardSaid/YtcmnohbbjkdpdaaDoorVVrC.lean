/-
  Ranges: the program's functions on them.
-/
import Derived.Test.YtcmnohbbjkdpdaaDoorVVrB
namespace Go.Proofs.YtcmnohbbjkdpdaaDoor
open Go Go.RowKit
set_option linter.unusedVariables false
set_option linter.unusedSimpArgs false
attribute [local irreducible] IntKind.wrap

theorem in1 {v : ByteArray} {r : Rng} (h1 : (vnum v).isSome = true) (h2 : rangeOk r = true) : decide (r.low ≤ (((vnum v).getD 0 : Nat) : Int) ∧ (((vnum v).getD 0 : Nat) : Int) ≤ IntKind.i64.wrap (r.below - 1)) = inR v r := by
  have h3 := h2
  unfold rangeOk at h3
  simp only [Bool.and_eq_true, decide_eq_true_eq] at h3
  rw [wrap_in (by omega) (by omega)]
  unfold inR
  cases e : vnum v with
  | none => rw [e] at h1; cases h1
  | some n =>
    dsimp only
    rw [h2, Bool.true_and]
    rfl
theorem in2 {v : ByteArray} {r : Rng} (h2 : rangeOk r = false) : false = inR v r := by
  unfold inR
  cases e : vnum v with
  | none => rfl
  | some n =>
    dsimp only
    rw [h2, Bool.false_and]
theorem in3 {v : ByteArray} {r : Rng} (h1 : (vnum v).isSome = false) : false = inR v r := by
  unfold inR
  cases e : vnum v with
  | none => rfl
  | some n => rw [e] at h1; cases h1
theorem inR_ok (v : ByteArray) (hv : v.size ≤ 1000000000) (r : Rng) : Ret env.P 11 [.s v, .agg r.cs] (fun x => x = .b (inR v r)) := by
  have hn := versionNumber_ok v hv
  have hr := rangeOk_ok r
  refine ret_of (nt := 26) (rvs := [.tmp 4]) Tryd.func11 rfl rfl rfl rfl (fun X => ?_)
  repeat' (first | exact aa | ((conv => whnf) <;> (first | refine And.intro ?_ ?_ | (intro _h; first | contradiction | (try simp only [dd] at _h)) | (refine dt_go ?_) | exact rfl | exact True.intro | exact dkk | exact dks | ((first | refine .inl ⟨_, hn, ?_⟩ | refine ⟨_, hn, ?_⟩); (try rintro _ rfl)) | ((first | refine .inl ⟨_, hr, ?_⟩ | refine ⟨_, hr, ?_⟩); (try rintro _ rfl)) | ((first | refine .inl ⟨_, within_ok _ _ _, ?_⟩ | refine ⟨_, within_ok _ _ _, ?_⟩); (try rintro _ rfl)) | (refine wrap_succ ?_; omega))))
  all_goals (conv => whnf)
  all_goals first | exact leaf_b (in1 ‹_› ‹_›) | exact leaf_b (in3 ‹_›) | exact leaf_b (in2 ‹_›) | trace_state
/-- What Meet returns. -/
def mtR (o : Option Rng) : AV := match o with
  | none => .tup [.agg [.i .i64 0, .i .i64 0], .b false]
  | some r => .tup [.agg r.cs, .b true]
theorem mx (a b : Int) : (if b > a then b else a) = max a b := by split <;> omega
theorem mn (a b : Int) : (if b < a then b else a) = min a b := by split <;> omega
theorem mt1 {a b : Rng} (h : rangeOk a = false) : AV.tup [.agg [.i .i64 0, .i .i64 0], .b false] = mtR (meetN a b) := by
  unfold meetN; rw [h]; rfl
theorem mt2 {a b : Rng} (h : rangeOk b = false) : AV.tup [.agg [.i .i64 0, .i .i64 0], .b false] = mtR (meetN a b) := by
  unfold meetN; rw [h, Bool.and_false, Bool.false_and]; rfl
theorem mt3 {a b : Rng} (h : (if b.below < a.below then b.below else a.below) ≤ if b.low > a.low then b.low else a.low) : AV.tup [.agg [.i .i64 0, .i .i64 0], .b false] = mtR (meetN a b) := by
  rw [mx, mn] at h
  unfold meetN; rw [decide_eq_false (by omega), Bool.and_false]; rfl
theorem mt4 {a b : Rng} (h : ¬ (if b.below < a.below then b.below else a.below) ≤ if b.low > a.low then b.low else a.low) (h1 : ¬ rangeOk a = false) (h2 : ¬ rangeOk b = false) : AV.tup [.agg [.i .i64 (if b.low > a.low then b.low else a.low), .i .i64 (if b.below < a.below then b.below else a.below)], .b true] = mtR (meetN a b) := by
  rw [mx, mn] at h ⊢
  rw [Bool.not_eq_false] at h1 h2
  unfold meetN; rw [h1, h2, decide_eq_true (by omega)]; rfl
theorem meet_ok (a b : Rng) : Ret env.P 16 [.agg a.cs, .agg b.cs] (fun x => x = mtR (meetN a b)) := by
  have ha := rangeOk_ok a
  have hb := rangeOk_ok b
  refine ret_of (nt := 35) (rvs := [.cell 4 29, .tmp 5]) Tryd.func16 rfl rfl rfl rfl (fun X => ?_)
  repeat' (first | exact aa | ((conv => whnf) <;> (first | exact mt4 ‹_› ‹_› ‹_› | exact mt3 ‹_› | exact mt2 ‹_› | exact mt1 ‹_› | refine And.intro ?_ ?_ | (intro _h; first | contradiction | (try simp only [dd] at _h)) | (refine dt_go ?_) | exact rfl | exact True.intro | exact dkk | exact dks | ((first | refine .inl ⟨_, ha, ?_⟩ | refine ⟨_, ha, ?_⟩); (try rintro _ rfl)) | ((first | refine .inl ⟨_, hb, ?_⟩ | refine ⟨_, hb, ?_⟩); (try rintro _ rfl)) | (refine wrap_succ ?_; omega))))
/-- None of the first k signs makes this range. -/
structure RtI (m : Nat) (b : Int) (k : Nat) : Prop where
  h : ∀ j, j < k → ¬ ((belowN (opsV4.getD j default) m : Nat) : Int) = b
theorem RtI.zero (m : Nat) (b : Int) : RtI m b 0 := ⟨fun j hj => absurd hj (Nat.not_lt_zero _)⟩
theorem RtI.succ {m : Nat} {b : Int} {k : Nat} (h : RtI m b k) (hn : ¬ ((belowN (opsV4.getD k default) m : Nat) : Int) = b) : RtI m b (k + 1) := ⟨fun j hj => by
  rcases Nat.lt_or_ge j k with q | q
  · exact h.h j q
  · obtain rfl : j = k := by omega
    exact hn⟩
theorem rt0 {r : Rng} {m : Nat} (h : rangeOk r = true) (hm : r.low = m) (he : ((belowN ⟨#[61]⟩ m : Nat) : Int) = r.below) : AV.s (⟨#[61]⟩ ++ verOf r.low) = AV.s (rtext r) := by
  unfold rtext
  have e : r.low.toNat = m := by rw [hm]; rfl
  rw [if_pos h, e, if_pos (show ((belowN opEq m : Nat) : Int) = r.below from he)]
  rfl
theorem rt1 {r : Rng} {m : Nat} (h : rangeOk r = true) (hm : r.low = m) (hI : RtI m r.below 1) (he : ((belowN ⟨#[126]⟩ m : Nat) : Int) = r.below) : AV.s (⟨#[126]⟩ ++ verOf r.low) = AV.s (rtext r) := by
  unfold rtext
  have e : r.low.toNat = m := by rw [hm]; rfl
  rw [if_pos h, e, if_neg (show ¬ ((belowN opEq m : Nat) : Int) = r.below from hI.h 0 (by omega)), if_pos (show ((belowN opTl m : Nat) : Int) = r.below from he)]
  rfl
theorem rt2 {r : Rng} {m : Nat} (h : rangeOk r = true) (hm : r.low = m) (hI : RtI m r.below 2) (he : ((belowN ⟨#[94]⟩ m : Nat) : Int) = r.below) : AV.s (⟨#[94]⟩ ++ verOf r.low) = AV.s (rtext r) := by
  unfold rtext
  have e : r.low.toNat = m := by rw [hm]; rfl
  rw [if_pos h, e, if_neg (show ¬ ((belowN opEq m : Nat) : Int) = r.below from hI.h 0 (by omega)), if_neg (show ¬ ((belowN opTl m : Nat) : Int) = r.below from hI.h 1 (by omega)), if_pos (show ((belowN opHat m : Nat) : Int) = r.below from he)]
  rfl
theorem rt3 {r : Rng} {m : Nat} (h : rangeOk r = true) (hm : r.low = m) (hI : RtI m r.below 3) (he : ((belowN ⟨#[62]⟩ m : Nat) : Int) = r.below) : AV.s (⟨#[62]⟩ ++ verOf r.low) = AV.s (rtext r) := by
  unfold rtext
  have e : r.low.toNat = m := by rw [hm]; rfl
  rw [if_pos h, e, if_neg (show ¬ ((belowN opEq m : Nat) : Int) = r.below from hI.h 0 (by omega)), if_neg (show ¬ ((belowN opTl m : Nat) : Int) = r.below from hI.h 1 (by omega)), if_neg (show ¬ ((belowN opHat m : Nat) : Int) = r.below from hI.h 2 (by omega)), if_pos (show ((belowN opGt m : Nat) : Int) = r.below from he)]
  rfl
theorem rt4 {r : Rng} {m : Nat} (h : rangeOk r = true) (hm : r.low = m) (hI : RtI m r.below 4) : AV.s (⟨#[62]⟩ ++ verOf r.low ++ ⟨#[32, 60]⟩ ++ verOf r.below) = AV.s (rtext r) := by
  unfold rtext
  have e : r.low.toNat = m := by rw [hm]; rfl
  rw [if_pos h, e, if_neg (show ¬ ((belowN opEq m : Nat) : Int) = r.below from hI.h 0 (by omega)), if_neg (show ¬ ((belowN opTl m : Nat) : Int) = r.below from hI.h 1 (by omega)), if_neg (show ¬ ((belowN opHat m : Nat) : Int) = r.below from hI.h 2 (by omega)), if_neg (show ¬ ((belowN opGt m : Nat) : Int) = r.below from hI.h 3 (by omega))]
  rfl
set_option maxRecDepth 8000 in
set_option maxHeartbeats 4000000 in
theorem rangeText_ok (r : Rng) : Ret env.P 18 [.agg r.cs] (fun x => x = .s (rtext r)) := by
  have hr := rangeOk_ok r
  by_cases h : rangeOk r = true
  · rw [h] at hr
    have h3 := h
    unfold rangeOk at h3
    simp only [Bool.and_eq_true, decide_eq_true_eq] at h3
    obtain ⟨m, hm⟩ := Int.eq_ofNat_of_zero_le h3.1.1
    have hb : ∀ o, Ret env.P 24 [.s o, .i .i64 r.low] (fun x => x = .i .i64 (belowN o m : Int)) := fun o => by rw [hm]; exact belowOf_ok o m (by omega)
    have z1 := verOf_size r.low
    have z2 := verOf_size r.below
    have z3 : (⟨#[61]⟩ : ByteArray).size = 1 := rfl
    have z4 : (⟨#[126]⟩ : ByteArray).size = 1 := rfl
    have z5 : (⟨#[94]⟩ : ByteArray).size = 1 := rfl
    have z6 : (⟨#[62]⟩ : ByteArray).size = 1 := rfl
    have z7 : (⟨#[32, 60]⟩ : ByteArray).size = 2 := rfl
    refine ret_of (nt := 36) (rvs := [.tmp 2]) Tryd.func18 rfl rfl rfl rfl (fun X => ?_)
    repeat' (first | exact aa | ((conv => whnf) <;> (first | (intro i j hi hj; have hi2 : i < 4 := hi; have hj2 : j < 1 := hj; clear hi hj; obtain rfl : j = 0 := (by omega); rcases (show i = 0 ∨ i = 1 ∨ i = 2 ∨ i = 3 by omega) with rfl | rfl | rfl | rfl <;> first | exact rfl | exact True.intro) | (intro k hk hI; have hI2 : RtI m r.below k := hI; clear hI; rcases (show k = 0 ∨ k = 1 ∨ k = 2 ∨ k = 3 ∨ k = 4 by omega) with rfl | rfl | rfl | rfl | rfl) | (refine le_max ?_; (try simp only [ByteArray.size_append]); omega) | exact rt0 h hm ‹_› | exact rt1 h hm ‹_› ‹_› | exact rt2 h hm ‹_› ‹_› | exact rt3 h hm ‹_› ‹_› | exact rt4 h hm ‹_› | exact RtI.succ (k := 0) ‹_› (by assumption) | exact RtI.succ (k := 1) ‹_› (by assumption) | exact RtI.succ (k := 2) ‹_› (by assumption) | exact RtI.succ (k := 3) ‹_› (by assumption) | refine loopN 4 (fun k => [(10, .i .i64 k)]) (fun k => []) (fun k => RtI m r.below k) ⟨.zero _ _, ?_⟩ | refine And.intro ?_ ?_ | (intro _h; first | contradiction | (try simp only [dd] at _h)) | (refine dt_go ?_) | exact rfl | exact True.intro | exact dkk | exact dks | ((first | refine .inl ⟨_, hr, ?_⟩ | refine ⟨_, hr, ?_⟩); (try rintro _ rfl)) | ((first | refine .inl ⟨_, hb _, ?_⟩ | refine ⟨_, hb _, ?_⟩); (try rintro _ rfl)) | ((first | refine .inl ⟨_, versionOf_ok _, ?_⟩ | refine ⟨_, versionOf_ok _, ?_⟩); (try rintro _ rfl)) | (refine wrap_succ ?_; omega))))
    all_goals trace_state
  · rw [Bool.not_eq_true] at h
    rw [h] at hr
    unfold rtext
    rw [h]
    refine ret_of (nt := 36) (rvs := [.tmp 2]) Tryd.func18 rfl rfl rfl rfl (fun X => ?_)
    repeat' (first | exact aa | ((conv => whnf) <;> (first | refine And.intro ?_ ?_ | (intro _h; first | contradiction | (try simp only [dd] at _h)) | (refine dt_go ?_) | exact rfl | exact True.intro | exact dkk | exact dks | ((first | refine .inl ⟨_, hr, ?_⟩ | refine ⟨_, hr, ?_⟩); (try rintro _ rfl)) | (refine wrap_succ ?_; omega))))
    all_goals trace_state
end Go.Proofs.YtcmnohbbjkdpdaaDoor
