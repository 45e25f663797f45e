/-
  Numbers of seven bits a byte: GetSleb, the program's.
-/
import Derived.Test.YtfejjddkglkigaaVLbG
namespace Go.Proofs.Ytfejjddkglkigaa
open Go Go.RowKit
set_option linter.unusedVariables false
set_option linter.unusedSimpArgs false
attribute [local irreducible] IntKind.wrap

theorem i7s {k : Nat} (hk : k < 10) : IntKind.i64.wrap (7 * (k : Int)) = ((7 * k : Nat) : Int) := by rw [wrap_in (by omega) (by omega)]; omega
theorem i7s_nn {k : Nat} (hk : k < 10) : 0 ≤ IntKind.i64.wrap (7 * (k : Int)) := by rw [i7s hk]; omega
theorem i7p {k : Nat} (hk : k < 10) : IntKind.i64.wrap (7 * IntKind.i64.wrap ((k : Int) + 1)) = ((7 * k + 7 : Nat) : Int) := by
  have e : IntKind.i64.wrap ((k : Int) + 1) = (k : Int) + 1 := wrap_in (by omega) (by omega)
  rw [e, wrap_in (by omega) (by omega)]
  omega
theorem i7p_nn {k : Nat} (hk : k < 10) : 0 ≤ IntKind.i64.wrap (7 * IntKind.i64.wrap ((k : Int) + 1)) := by rw [i7p hk]; omega
theorem slXi_eq {b : ByteArray} {k : Nat} (hk : k < 10) : bits .or .i64 (slA b k) (IntKind.i64.wrap (IntKind.i64.wrap (bits .and .u8 ((b.data.getD k 0).toNat : Int) 127) * 2 ^ min (IntKind.i64.wrap (7 * (k : Int))).toNat IntKind.i64.bits)) = slA b (k + 1) := by
  rw [i7s hk, Int.toNat_natCast]; rfl
theorem slYi_eq {k : Nat} {x : Int} (hk : k < 10) : bits .or .i64 x (IntKind.i64.wrap (-1 * 2 ^ min (IntKind.i64.wrap (7 * IntKind.i64.wrap ((k : Int) + 1))).toNat IntKind.i64.bits)) = bits .or .i64 x (IntKind.i64.wrap (-1 * 2 ^ min (7 * k + 7) 64)) := by
  rw [i7p hk, Int.toNat_natCast]; rfl
set_option maxRecDepth 8000 in
set_option maxHeartbeats 4000000 in
theorem getSleb_impl (b : ByteArray) (hs : b.size ≤ 1048576) : Ret env.P 21 [.s b] (fun r => r = getR (getS b)) := by
  refine ret_of (nt := 55) (rvs := [.tmp 2, .tmp 3, .tmp 4]) Try.func21 rfl rfl rfl rfl (fun X => ?_)
  repeat' (first | exact aa | ((conv => whnf) <;> (first | (rw [wrap_in (by omega) (by omega)]; omega) | exact i7s_nn (by omega) | exact i7p_nn (by omega) | refine loopN (min b.size 10) (fun k => [(6, .i .i64 k), (5, .i .i64 (slA b k))]) (fun k => []) (fun k => FstTo b k) ⟨.zero b, ?_⟩ | refine And.intro ?_ ?_ | (intro _h; first | contradiction | (try simp only [dd] at _h)) | (refine dt_go ?_) | exact rfl | exact True.intro | exact dkk | exact dks | ((first | refine .inl ⟨_, (putSleb_impl _ (orR _ _)).toRet, ?_⟩ | refine ⟨_, (putSleb_impl _ (orR _ _)).toRet, ?_⟩); (try rintro _ rfl)) | (refine wrap_succ ?_; omega))))
  all_goals (try simp only [Int.toNat_natCast] at *)
  all_goals first
    | exact fst_next ‹_› (by omega)
    | (rw [i7s (by omega), Int.toNat_natCast]; rfl)
    | (conv => whnf
       have e := getS_none ‹FstTo b _› (by omega)
       rw [e]
       rfl)
    | (rw [slXi_eq (by omega), slYi_eq (by omega), slM_big (by omega) (by omega), k1 (by omega)] at _h
       conv => whnf
       rw [getS_no ‹FstTo b _› (by omega) (by omega) (by omega) _h]
       rfl)
    | (rw [slXi_eq (by omega), slYi_eq (by omega), slM_big (by omega) (by omega), k1 (by omega)] at _h
       conv => whnf
       rw [getS_yes ‹FstTo b _› (by omega) (by omega) (by omega) _h]
       refine leaf_iib ?_ rfl rfl
       rw [slXi_eq (by omega), slYi_eq (by omega), slM_big (by omega) (by omega)])
    | (rw [slXi_eq (by omega), slM_low (fun q => absurd q.2 (by omega)), k1 (by omega)] at _h
       conv => whnf
       rw [getS_no ‹FstTo b _› (by omega) (by omega) (by omega) _h]
       rfl)
    | (rw [slXi_eq (by omega), slM_low (fun q => absurd q.2 (by omega)), k1 (by omega)] at _h
       conv => whnf
       rw [getS_yes ‹FstTo b _› (by omega) (by omega) (by omega) _h]
       refine leaf_iib ?_ rfl rfl
       rw [slXi_eq (by omega), slM_low (fun q => absurd q.2 (by omega))])
    | (rw [slXi_eq (by omega), slM_low (fun q => absurd q.1 (by omega)), k1 (by omega)] at _h
       conv => whnf
       rw [getS_no ‹FstTo b _› (by omega) (by omega) (by omega) _h]
       rfl)
    | (rw [slXi_eq (by omega), slM_low (fun q => absurd q.1 (by omega)), k1 (by omega)] at _h
       conv => whnf
       rw [getS_yes ‹FstTo b _› (by omega) (by omega) (by omega) _h]
       refine leaf_iib ?_ rfl rfl
       rw [slXi_eq (by omega), slM_low (fun q => absurd q.1 (by omega))])
    | trace_state
end Go.Proofs.Ytfejjddkglkigaa
