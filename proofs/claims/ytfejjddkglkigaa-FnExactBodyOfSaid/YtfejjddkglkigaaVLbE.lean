/-
  Numbers of seven bits a byte: getting them.
-/
import Derived.Test.YtfejjddkglkigaaVLbD
namespace Go.Proofs.Ytfejjddkglkigaa
open Go Go.RowKit
set_option linter.unusedVariables false
set_option linter.unusedSimpArgs false
attribute [local irreducible] IntKind.wrap

def lebV (b : ByteArray) : Int × Int := match fstI b 9 with
  | none => (0, 0)
  | some i => ((decL ((bsN b).take (i + 1)) : Nat), (i : Int) + 1)
theorem u7 {k : Nat} (hk : k < 9) : IntKind.u64.wrap (7 * IntKind.u64.wrap (k : Int)) = ((7 * k : Nat) : Int) := by
  rw [IntKind.wrap_u64, IntKind.wrap_u64]
  omega
theorem u7_nn {k : Nat} (hk : k < 9) : 0 ≤ IntKind.u64.wrap (7 * IntKind.u64.wrap (k : Int)) := by rw [u7 hk]; omega
theorem take_snocN {l : List Nat} {k : Nat} (hk : k < l.length) : l.take (k + 1) = l.take k ++ [l.getD k 0] := by
  rw [List.take_add_one, List.getElem?_eq_getElem hk, List.getD_eq_getElem?_getD, List.getElem?_eq_getElem hk]
  rfl
theorem byte_lt (b : ByteArray) (k : Nat) : (0 : Int) ≤ ((b.data.getD k 0).toNat : Int) ∧ ((b.data.getD k 0).toNat : Int) < 256 := by
  have := (b.data.getD k 0).toNat_lt
  omega
theorem step_or {b : ByteArray} {k : Nat} (hk : k < b.size) (h9 : k < 9) : bits .or .i64 (decL ((bsN b).take k) : Int) (IntKind.i64.wrap (IntKind.i64.wrap (bits .and .u8 ((b.data.getD k 0).toNat : Int) 127) * 2 ^ min (7 * k) 64)) = (decL ((bsN b).take (k + 1)) : Int) := by
  have hl : k < (bsN b).length := by rw [bsN_len]; exact hk
  have hx := byte_lt b k
  have hn : ((bsN b).take k).length = k := by rw [List.length_take]; omega
  have e : (((b.data.getD k 0).toNat : Int) % 128) = (((bsN b).getD k 0 % 128 : Nat) : Int) := by rw [bsN_at]; omega
  have hw : IntKind.i64.wrap (((b.data.getD k 0).toNat : Int) % 128) = ((b.data.getD k 0).toNat : Int) % 128 := wrap_in (by omega) (by omega)
  rw [and_u8 hx, hw, show min (7 * k) 64 = 7 * k by omega, e, take_snocN hl]
  have := leb_step (l := (bsN b).take k) (x := (bsN b).getD k 0) (by omega)
  rw [hn] at this
  exact this
theorem leaf_ii {a a' b b' : Int} (h : a = a') (h' : b = b') : AV.tup [.i .i64 a, .i .i64 b] = .tup [.i .i64 a', .i .i64 b'] := by rw [h, h']
theorem lebV_some {b : ByteArray} {k : Nat} (h : FstTo b k) (hk : k < b.size) (h9 : k < 9) (hb : (b.data.getD k 0).toNat < 128) : lebV b = (((decL ((bsN b).take (k + 1)) : Nat) : Int), (k : Int) + 1) := by
  unfold lebV
  rw [fstI_some hk h9 (by rw [bsN_at]; exact hb) h]
theorem lebV_none {b : ByteArray} {k : Nat} (h : FstTo b k) (hk : b.size ≤ k ∨ 9 ≤ k) : lebV b = (0, 0) := by
  unfold lebV
  rw [fstI_none h hk]
theorem fst_next {b : ByteArray} {k : Nat} (h : FstTo b k) (hb : ¬ (b.data.getD k 0).toNat < 128) : FstTo b (k + 1) := h.succ (by rw [bsN_at]; exact hb)
set_option maxRecDepth 8000 in
set_option maxHeartbeats 4000000 in
theorem l01Leb_ok (b : ByteArray) (hs : b.size ≤ 1048576) : Ret env.P 15 [.s b] (fun r => r = .tup [.i .i64 (lebV b).1, .i .i64 (lebV b).2]) := by
  refine ret_of (nt := 34) (rvs := [.tmp 2, .tmp 3]) Try.func15 rfl rfl rfl rfl (fun X => ?_)
  repeat' (first | exact aa | ((conv => whnf) <;> (first | exact u7_nn (by omega) | refine loopN (min b.size 9) (fun k => [(5, .i .i64 k), (4, .i .i64 (decL ((bsN b).take k) : Nat))]) (fun k => []) (fun k => FstTo b k) ⟨.zero b, ?_⟩ | refine And.intro ?_ ?_ | (intro _h; first | contradiction | (try simp only [dd] at _h)) | (refine dt_go ?_) | exact rfl | exact True.intro | exact dkk | exact dks | (refine wrap_succ ?_; omega))))
  all_goals (try simp only [Int.toNat_natCast] at *)
  all_goals first
    | exact fst_next ‹_› (by omega)
    | (rw [u7 (by omega), Int.toNat_natCast]; exact step_or (by omega) (by omega))
    | (conv => whnf
       have e := lebV_none ‹FstTo b _› (by omega)
       rw [e]
       rfl)
    | (conv => whnf
       have e := lebV_some ‹FstTo b _› (by omega) (by omega) (by omega)
       rw [e]
       refine leaf_ii ?_ ?_
       · rw [u7 (by omega), Int.toNat_natCast]; exact step_or (by omega) (by omega)
       · exact wrap_in (by omega) (by omega))
    | trace_state
end Go.Proofs.Ytfejjddkglkigaa
