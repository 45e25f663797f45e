/-
  Numbers of seven bits a byte: GetSleb.
-/
import Derived.Test.YtfejjddkglkigaaVLbF
namespace Go.Proofs.Ytfejjddkglkigaa
open Go Go.RowKit
set_option linter.unusedVariables false
set_option linter.unusedSimpArgs false
theorem and64 : ∀ x : _root_.Fin 128, (0 < bits .and .u8 (x.val : Int) 64 ↔ 64 ≤ x.val) := by decide
theorem and64' {x : Nat} (h : x < 128) : 0 < bits .and .u8 (x : Int) 64 ↔ 64 ≤ x := and64 ⟨x, h⟩
attribute [local irreducible] IntKind.wrap

/-- The bits of the first k bytes. -/
def slA (b : ByteArray) : Nat → Int
  | 0 => 0
  | k + 1 => bits .or .i64 (slA b k) (IntKind.i64.wrap (IntKind.i64.wrap (bits .and .u8 ((b.data.getD k 0).toNat : Int) 127) * 2 ^ min (7 * k) 64))
def slM (b : ByteArray) (k : Nat) : Int := if k < 9 ∧ 64 ≤ (b.data.getD k 0).toNat then bits .or .i64 (slA b (k + 1)) (IntKind.i64.wrap (-1 * 2 ^ min (7 * k + 7) 64)) else slA b (k + 1)
theorem wrapR (x : Int) : i64R (IntKind.i64.wrap x) := by rw [IntKind.wrap_i64]; unfold i64R; omega
theorem orR (x y : Int) : i64R (bits .or .i64 x y) := wrapR _
theorem slA_R (b : ByteArray) : ∀ k, i64R (slA b k)
  | 0 => ⟨by show (-9223372036854775808 : Int) ≤ 0; omega, by show (0 : Int) ≤ 9223372036854775807; omega⟩
  | k + 1 => orR _ _
theorem slM_R (b : ByteArray) (k : Nat) : i64R (slM b k) := by
  unfold slM
  split
  · exact orR _ _
  · exact slA_R b _
/-- What GetSleb gives. -/
def getS (b : ByteArray) : Int × Int × Bool := match fstI b 10 with
  | none => (0, 0, false)
  | some i => if baN (slebL (slM b i)) = b.extract 0 (i + 1) then (slM b i, (i : Int) + 1, true) else (0, 0, false)
theorem getS_none {b : ByteArray} {k : Nat} (h : FstTo b k) (hk : b.size ≤ k ∨ 10 ≤ k) : getS b = (0, 0, false) := by
  unfold getS
  rw [fstI_none h hk]
theorem getS_some {b : ByteArray} {k : Nat} (h : FstTo b k) (hk : k < b.size) (h9 : k < 10) (hb : (b.data.getD k 0).toNat < 128) : getS b = if baN (slebL (slM b k)) = b.extract 0 (k + 1) then (slM b k, (k : Int) + 1, true) else (0, 0, false) := by
  unfold getS
  rw [fstI_some hk h9 (by rw [bsN_at]; exact hb) h]
theorem u7s {k : Nat} (hk : k < 10) : IntKind.u64.wrap (7 * IntKind.u64.wrap (k : Int)) = ((7 * k : Nat) : Int) := by
  rw [IntKind.wrap_u64, IntKind.wrap_u64]
  omega
theorem u7s_nn {k : Nat} (hk : k < 10) : 0 ≤ IntKind.u64.wrap (7 * IntKind.u64.wrap (k : Int)) := by rw [u7s hk]; omega
theorem u7p {k : Nat} (hk : k < 10) : IntKind.u64.wrap (IntKind.u64.wrap (7 * IntKind.u64.wrap (k : Int)) + 7) = ((7 * k + 7 : Nat) : Int) := by
  rw [u7s hk, IntKind.wrap_u64]
  omega
theorem u7p_nn {k : Nat} (hk : k < 10) : 0 ≤ IntKind.u64.wrap (IntKind.u64.wrap (7 * IntKind.u64.wrap (k : Int)) + 7) := by rw [u7p hk]; omega
theorem slX_eq {b : ByteArray} {k : Nat} (hk : k < 10) : bits .or .i64 (slA b k) (IntKind.i64.wrap (IntKind.i64.wrap (bits .and .u8 ((b.data.getD k 0).toNat : Int) 127) * 2 ^ min (IntKind.u64.wrap (7 * IntKind.u64.wrap (k : Int))).toNat IntKind.i64.bits)) = slA b (k + 1) := by
  rw [u7s hk, Int.toNat_natCast]; rfl
theorem slY_eq {k : Nat} {x : Int} (hk : k < 10) : bits .or .i64 x (IntKind.i64.wrap (-1 * 2 ^ min (IntKind.u64.wrap (IntKind.u64.wrap (7 * IntKind.u64.wrap (k : Int)) + 7)).toNat IntKind.i64.bits)) = bits .or .i64 x (IntKind.i64.wrap (-1 * 2 ^ min (7 * k + 7) 64)) := by
  rw [u7p hk, Int.toNat_natCast]; rfl
theorem slM_big {b : ByteArray} {k : Nat} (h9 : k < 9) (h : 64 ≤ (b.data.getD k 0).toNat) : bits .or .i64 (slA b (k + 1)) (IntKind.i64.wrap (-1 * 2 ^ min (7 * k + 7) 64)) = slM b k := (if_pos ⟨h9, h⟩).symm
theorem slM_low {b : ByteArray} {k : Nat} (h : ¬ (k < 9 ∧ 64 ≤ (b.data.getD k 0).toNat)) : slA b (k + 1) = slM b k := (if_neg h).symm
theorem k1 {k : Nat} (hk : k < 10) : (IntKind.i64.wrap ((k : Int) + 1)).toNat = k + 1 := by rw [wrap_in (by omega) (by omega)]; omega
theorem getS_yes {b : ByteArray} {k : Nat} (h : FstTo b k) (hk : k < b.size) (h9 : k < 10) (hb : (b.data.getD k 0).toNat < 128) (he : baN (slebL (slM b k)) = b.extract 0 (k + 1)) : getR (getS b) = .tup [.i .i64 (slM b k), .i .i64 (IntKind.i64.wrap ((k : Int) + 1)), .b true] := by
  rw [getS_some h hk h9 hb, if_pos he, wrap_in (by omega) (by omega)]
  rfl
theorem getS_no {b : ByteArray} {k : Nat} (h : FstTo b k) (hk : k < b.size) (h9 : k < 10) (hb : (b.data.getD k 0).toNat < 128) (he : ¬ baN (slebL (slM b k)) = b.extract 0 (k + 1)) : getR (getS b) = .tup [.i .i64 0, .i .i64 0, .b false] := by
  rw [getS_some h hk h9 hb, if_neg he]
  rfl
set_option maxRecDepth 8000 in
set_option maxHeartbeats 4000000 in
theorem getSleb_spec (b : ByteArray) (hs : b.size ≤ 1048576) : Ret env.P 18 [.s b] (fun r => r = getR (getS b)) := by
  refine ret_of (nt := 58) (rvs := [.tmp 2, .tmp 3, .tmp 4]) Try.func18 rfl rfl rfl rfl (fun X => ?_)
  repeat' (first | exact aa | ((conv => whnf) <;> (first | (rw [wrap_in (by omega) (by omega)]; omega) | exact u7s_nn (by omega) | exact u7p_nn (by omega) | refine loopN (min b.size 10) (fun k => [(6, .i .i64 k), (5, .i .i64 (slA b k))]) (fun k => []) (fun k => FstTo b k) ⟨.zero b, ?_⟩ | refine And.intro ?_ ?_ | (intro _h; first | contradiction | (try simp only [dd] at _h)) | (refine dt_go ?_) | exact rfl | exact True.intro | exact dkk | exact dks | ((first | refine .inl ⟨_, (putSleb_spec _ (orR _ _)).toRet, ?_⟩ | refine ⟨_, (putSleb_spec _ (orR _ _)).toRet, ?_⟩); (try rintro _ rfl)) | (refine wrap_succ ?_; omega))))
  all_goals (try simp only [Int.toNat_natCast] at *)
  all_goals first
    | exact fst_next ‹_› (by omega)
    | (rw [u7s (by omega), Int.toNat_natCast]; rfl)
    | (conv => whnf
       have e := getS_none ‹FstTo b _› (by omega)
       rw [e]
       rfl)
    | (rw [slX_eq (by omega), slY_eq (by omega), slM_big (by omega) ((and64' (by omega)).1 ‹_›), k1 (by omega)] at _h
       conv => whnf
       rw [getS_no ‹FstTo b _› (by omega) (by omega) (by omega) _h]
       rfl)
    | (rw [slX_eq (by omega), slY_eq (by omega), slM_big (by omega) ((and64' (by omega)).1 ‹_›), k1 (by omega)] at _h
       conv => whnf
       rw [getS_yes ‹FstTo b _› (by omega) (by omega) (by omega) _h]
       refine leaf_iib ?_ rfl rfl
       rw [slX_eq (by omega), slY_eq (by omega), slM_big (by omega) ((and64' (by omega)).1 ‹_›)])
    | (rw [slX_eq (by omega), slM_low (fun q => absurd ((and64' (by omega)).2 q.2) ‹_›), k1 (by omega)] at _h
       conv => whnf
       rw [getS_no ‹FstTo b _› (by omega) (by omega) (by omega) _h]
       rfl)
    | (rw [slX_eq (by omega), slM_low (fun q => absurd ((and64' (by omega)).2 q.2) ‹_›), k1 (by omega)] at _h
       conv => whnf
       rw [getS_yes ‹FstTo b _› (by omega) (by omega) (by omega) _h]
       refine leaf_iib ?_ rfl rfl
       rw [slX_eq (by omega), slM_low (fun q => absurd ((and64' (by omega)).2 q.2) ‹_›)])
    | (rw [slX_eq (by omega), slM_low (fun q => absurd q.1 (by omega)), k1 (by omega)] at _h
       conv => whnf
       rw [getS_no ‹FstTo b _› (by omega) (by omega) (by omega) _h]
       rfl)
    | (rw [slX_eq (by omega), slM_low (fun q => absurd q.1 (by omega)), k1 (by omega)] at _h
       conv => whnf
       rw [getS_yes ‹FstTo b _› (by omega) (by omega) (by omega) _h]
       refine leaf_iib ?_ rfl rfl
       rw [slX_eq (by omega), slM_low (fun q => absurd q.1 (by omega))])
    | trace_state
end Go.Proofs.Ytfejjddkglkigaa
