/-
  Versions: the number that the reference reads of a text.
-/
import Derived.Test.YtcmnohbbjkdpdaaDoorVVrD
namespace Go.Proofs.YtcmnohbbjkdpdaaDoor
open Go Go.RowKit
set_option linter.unusedVariables false
set_option linter.unusedSimpArgs false
attribute [local irreducible] IntKind.wrap

structure NmS where
  n : Int
  part : Int
  dots : Int
/-- A byte of a version. -/
def okC (c : Nat) : Prop := c = 46 ∨ 48 ≤ c ∧ c ≤ 57
instance (c : Nat) : Decidable (okC c) := by unfold okC; infer_instance
def byN (b : ByteArray) (k : Nat) : Nat := (b.data.getD k 0).toNat
def nmStep (y : NmS) (c : Nat) : NmS := if c = 46 then ⟨IntKind.i64.wrap (IntKind.i64.wrap (y.n + y.part) * 1000), 0, IntKind.i64.wrap (y.dots + 1)⟩ else ⟨y.n, IntKind.i64.wrap (IntKind.i64.wrap (10 * y.part) + IntKind.i64.wrap (IntKind.u8.wrap ((c : Int) - 48))), y.dots⟩
def nmAt (b : ByteArray) : Nat → NmS
  | 0 => ⟨0, 0, 0⟩
  | k + 1 => nmStep (nmAt b k) (byN b k)
structure NmI (b : ByteArray) (k : Nat) : Prop where
  hk : k ≤ b.size
  h : ∀ j, j < k → okC (byN b j)
theorem NmI.zero (b : ByteArray) : NmI b 0 := ⟨Nat.zero_le _, fun j hj => absurd hj (Nat.not_lt_zero _)⟩
theorem NmI.succ {b : ByteArray} {k : Nat} (h : NmI b k) (h1 : okC (byN b k)) (hk : k < b.size) : NmI b (k + 1) := ⟨hk, fun j hj => by
  rcases Nat.lt_or_ge j k with q | q
  · exact h.h j q
  · obtain rfl : j = k := by omega
    exact h1⟩
def finS (b : ByteArray) (y : NmS) : Int :=
  if y.dots = 2 ∧ y.part ≤ 999 ∧ (0 ≤ IntKind.i64.wrap (y.n + y.part) ∧ IntKind.i64.wrap (y.n + y.part) ≤ 999999999) ∧ vtext (IntKind.i64.wrap (y.n + y.part)).toNat = b then IntKind.i64.wrap (y.n + y.part) else -1
/-- What l02Num returns. -/
def numS (b : ByteArray) : Int := if ∀ j, j < min b.size 12 → okC (byN b j) then finS b (nmAt b (min b.size 12)) else -1
theorem numS_no {b : ByteArray} {k : Nat} (hk : k < b.size) (h12 : k < 12) (h : ¬ okC (byN b k)) : (-1 : Int) = numS b := by
  unfold numS
  rw [if_neg (fun q => h (q k (by omega)))]
theorem numS_end {b : ByteArray} {k : Nat} (h : NmI b k) (hk : k = min b.size 12) : numS b = finS b (nmAt b k) := by
  unfold numS
  rw [if_pos (fun j hj => h.h j (by omega)), hk]
theorem nm_dot {b : ByteArray} {k : Nat} (h : byN b k = 46) : nmAt b (k + 1) = ⟨IntKind.i64.wrap (IntKind.i64.wrap ((nmAt b k).n + (nmAt b k).part) * 1000), 0, IntKind.i64.wrap ((nmAt b k).dots + 1)⟩ := by
  show nmStep _ _ = _
  unfold nmStep
  rw [if_pos h]
theorem nm_dig {b : ByteArray} {k : Nat} (h : ¬ byN b k = 46) : nmAt b (k + 1) = ⟨(nmAt b k).n, IntKind.i64.wrap (IntKind.i64.wrap (10 * (nmAt b k).part) + IntKind.i64.wrap (IntKind.u8.wrap ((byN b k : Nat) - 48))), (nmAt b k).dots⟩ := by
  show nmStep _ _ = _
  unfold nmStep
  rw [if_neg h]
theorem numS_c {b : ByteArray} {k : Nat} (_ : NmI b k) (hk : k < b.size) (h12 : k < 12) (h : ¬ okC (byN b k)) : (-1 : Int) = numS b := numS_no hk h12 h
theorem fin_no {b : ByteArray} {k : Nat} (h : NmI b k) (hx : ¬ (k < b.size ∧ k < 12)) (h12 : k ≤ 12) (hn : ¬ ((nmAt b k).dots = 2 ∧ (nmAt b k).part ≤ 999 ∧ (0 ≤ IntKind.i64.wrap ((nmAt b k).n + (nmAt b k).part) ∧ IntKind.i64.wrap ((nmAt b k).n + (nmAt b k).part) ≤ 999999999) ∧ vtext (IntKind.i64.wrap ((nmAt b k).n + (nmAt b k).part)).toNat = b)) : (-1 : Int) = numS b := by
  have := h.hk
  rw [numS_end h (by omega)]
  unfold finS
  rw [if_neg hn]
theorem fin_ok {b : ByteArray} {k : Nat} (h : NmI b k) (hx : ¬ (k < b.size ∧ k < 12)) (h12 : k ≤ 12) (hn : (nmAt b k).dots = 2 ∧ (nmAt b k).part ≤ 999 ∧ (0 ≤ IntKind.i64.wrap ((nmAt b k).n + (nmAt b k).part) ∧ IntKind.i64.wrap ((nmAt b k).n + (nmAt b k).part) ≤ 999999999) ∧ vtext (IntKind.i64.wrap ((nmAt b k).n + (nmAt b k).part)).toNat = b) : IntKind.i64.wrap ((nmAt b k).n + (nmAt b k).part) = numS b := by
  have := h.hk
  rw [numS_end h (by omega)]
  unfold finS
  rw [if_pos hn]
theorem in9 {x : Int} (h : 0 ≤ x ∧ x ≤ 999999999) : 0 ≤ x ∧ x < 1000000000 := by omega
set_option maxRecDepth 8000 in
set_option maxHeartbeats 4000000 in
theorem l02Num_ok (b : ByteArray) (hs : b.size ≤ 1000000) : Ret env.P 22 [.s b] (fun r => r = .i .i64 (numS b)) := by
  refine ret_of (nt := 71) (rvs := [.tmp 2]) Tryd.func22 rfl rfl rfl rfl (fun X => ?_)
  repeat' (first | exact aa | ((conv => whnf) <;> (first | refine loopN 12 (fun k => [(6, .i .i64 k), (3, .i .i64 (nmAt b k).n), (4, .i .i64 (nmAt b k).part), (5, .i .i64 (nmAt b k).dots)]) (fun k => []) (fun k => NmI b k) ⟨.zero b, ?_⟩ | refine And.intro ?_ ?_ | (intro _h; first | contradiction | (try simp only [dd] at _h)) | (refine dt_go ?_) | exact rfl | exact True.intro | exact dkk | exact dks | ((first | refine .inl ⟨_, l00In_ok _ _ _, ?_⟩ | refine ⟨_, l00In_ok _ _ _, ?_⟩); (try rintro _ rfl)) | ((first | refine .inl ⟨_, verOf_spec _ (in9 (by assumption)), ?_⟩ | refine ⟨_, verOf_spec _ (in9 (by assumption)), ?_⟩); (try rintro _ rfl)) | (refine wrap_succ ?_; omega))))
  all_goals (try simp only [Int.toNat_natCast] at *)
  all_goals first
    | exact NmI.succ ‹_› (by unfold okC byN; omega) (by omega)
    | exact (congrArg NmS.n (nm_dot (by unfold byN; omega))).symm
    | exact (congrArg NmS.part (nm_dot (by unfold byN; omega))).symm
    | exact (congrArg NmS.dots (nm_dot (by unfold byN; omega))).symm
    | exact (congrArg NmS.n (nm_dig (by unfold byN; omega))).symm
    | exact (congrArg NmS.part (nm_dig (by unfold byN; omega))).symm
    | exact (congrArg NmS.dots (nm_dig (by unfold byN; omega))).symm
    | (conv => whnf
       exact leaf_i (numS_c ‹NmI b _› (by omega) (by omega) (by unfold okC byN; omega)))
    | (conv => whnf
       exact leaf_i (fin_no ‹NmI b _› (by omega) (by omega) (by rintro ⟨q1, q2, q3, q4⟩; first | omega | contradiction)))
    | (conv => whnf
       exact leaf_i (fin_ok ‹NmI b _› (by omega) (by omega) ⟨by assumption, by omega, by assumption, by assumption⟩))
    | trace_state
end Go.Proofs.YtcmnohbbjkdpdaaDoor
