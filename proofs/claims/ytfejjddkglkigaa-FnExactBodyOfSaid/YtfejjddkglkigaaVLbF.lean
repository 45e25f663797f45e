/-
  Numbers of seven bits a byte: GetLeb.
-/
import Derived.Test.YtfejjddkglkigaaVLbE
namespace Go.Proofs.Ytfejjddkglkigaa
open Go Go.RowKit
set_option linter.unusedVariables false
set_option linter.unusedSimpArgs false
attribute [local irreducible] IntKind.wrap

theorem fstI_get {b : ByteArray} {m i : Nat} (h : fstI b m = some i) : i < b.size ∧ i < m ∧ (bsN b).getD i 0 < 128 ∧ FstTo b i := by
  unfold fstI at h
  rw [List.findIdx?_eq_some_iff_getElem] at h
  obtain ⟨h1, h2, h3⟩ := h
  rw [List.length_take, bsN_len] at h1
  rw [List.getElem_take, bsN_get (by rw [bsN_len]; omega)] at h2
  refine ⟨by omega, by omega, of_decide_eq_true h2, ⟨fun j hj => ?_⟩⟩
  have := h3 j hj
  rw [List.getElem_take, bsN_get (by rw [bsN_len]; omega)] at this
  simpa using this
/-- A contract without rows is one of a function that reads. -/
theorem RetM.toRet {P : Program} {g : FuncId} {av : List AV} {v : AV} (h : RetM P g [] av (fun r H => r = v ∧ H = [])) : Ret P g av (fun r => r = v) := .mk fun w S us hS hc => by
  refine (h.h w S (fun _ => ⟨0, 0⟩) (fun _ => []) us ⟨fun id r q => by simp at q, fun i j r r' q => by simp at q, fun b hb => ⟨hS b hb, fun id r q => by simp at q⟩⟩ hc).mono ?_
  rintro e w' ⟨r, u, H', blk', FP', he, ⟨hq, rfl⟩, _, hcu, _, _, hk⟩
  refine ⟨r, u, he, hq, ?_, ⟨hk.os, hk.tape, hk.output, hk.size, fun k hlt => hk.block k hlt (by rintro ⟨id, r, q, _⟩; simp at q)⟩⟩
  have hcu' : Conc w' _ (fun _ => ⟨0, 0⟩) [] r u := hcu.nil
  exact hcu'.mono (fun b hb => ⟨hb.1.imp_right fun q => ⟨q, hb.2.1⟩, rfl⟩) (HExt.refl _ _)
def getR (v : Int × Int × Bool) : AV := .tup [.i .i64 v.1, .i .i64 v.2.1, .b v.2.2]
theorem leaf_iib {a a' b b' : Int} {c c' : Bool} (h : a = a') (h' : b = b') (h'' : c = c') : AV.tup [.i .i64 a, .i .i64 b, .b c] = .tup [.i .i64 a', .i .i64 b', .b c'] := by rw [h, h', h'']
theorem dec63 {b : ByteArray} {i : Nat} (h9 : i < 9) : decL ((bsN b).take (i + 1)) < 9223372036854775808 := by
  have h1 := dec_lt ((bsN b).take (i + 1))
  have h2 : (128 : Nat) ^ ((bsN b).take (i + 1)).length ≤ 128 ^ 9 := Nat.pow_le_pow_right (by decide) (by rw [List.length_take]; omega)
  have h3 : (128 : Nat) ^ 9 = 9223372036854775808 := by decide
  omega
set_option maxRecDepth 8000 in
set_option maxHeartbeats 4000000 in
theorem getLeb_spec (b : ByteArray) (hs : b.size ≤ 1048576) : Ret env.P 9 [.s b] (fun r => r = getR (getL b)) := by
  cases hF : fstI b 9 with
  | none =>
    have h1 : Ret env.P 15 [.s b] (fun r => r = .tup [.i .i64 0, .i .i64 0]) := (l01Leb_ok b hs).mono fun r h => by unfold lebV at h; rw [hF] at h; exact h
    have hg : getL b = (0, 0, false) := by unfold getL; rw [hF]
    rw [hg]
    refine ret_of (nt := 24) (rvs := [.tmp 2, .tmp 3, .tmp 4]) Try.func9 rfl rfl rfl rfl (fun X => ?_)
    repeat' (first | exact aa | ((conv => whnf) <;> (first | (exfalso; exact ‹¬True› trivial) | refine And.intro ?_ ?_ | (intro _h; first | contradiction | (try simp only [dd] at _h)) | (refine dt_go ?_) | exact rfl | exact True.intro | exact dkk | exact dks | ((first | refine .inl ⟨_, h1, ?_⟩ | refine ⟨_, h1, ?_⟩); (try rintro _ rfl)) | (refine wrap_succ ?_; omega))))
  | some i =>
    obtain ⟨f1, f2, f3, f4⟩ := fstI_get hF
    have h1 : Ret env.P 15 [.s b] (fun r => r = .tup [.i .i64 ((decL ((bsN b).take (i + 1)) : Nat) : Int), .i .i64 ((i : Int) + 1)]) := (l01Leb_ok b hs).mono fun r h => by unfold lebV at h; rw [hF] at h; exact h
    have hc := canon f1 f3 f4
    have hp := (putLeb_spec _ (dec63 (b := b) f2)).toRet
    refine ret_of (nt := 24) (rvs := [.tmp 2, .tmp 3, .tmp 4]) Try.func9 rfl rfl rfl rfl (fun X => ?_)
    repeat' (first | exact aa | ((conv => whnf) <;> (first | (exfalso; omega) | refine And.intro ?_ ?_ | (intro _h; first | contradiction | (try simp only [dd] at _h)) | (refine dt_go ?_) | exact rfl | exact True.intro | exact dkk | exact dks | ((first | refine .inl ⟨_, h1, ?_⟩ | refine ⟨_, h1, ?_⟩); (try rintro _ rfl)) | ((first | refine .inl ⟨_, hp, ?_⟩ | refine ⟨_, hp, ?_⟩); (try rintro _ rfl)) | (refine wrap_succ ?_; omega))))
    all_goals (conv => whnf)
    all_goals rw [show ((i : Int) + 1).toNat = i + 1 by omega] at _h
    · have hg : getL b = (0, 0, false) := by
        unfold getL
        rw [hF]
        exact if_neg fun q => _h (hc.mpr q)
      rw [hg]
      rfl
    · have hg : getL b = (((decL ((bsN b).take (i + 1)) : Nat) : Int), (i : Int) + 1, true) := by
        unfold getL
        rw [hF]
        exact if_pos (hc.mp _h)
      rw [hg]
      rfl
theorem i7 {k : Nat} (hk : k < 9) : IntKind.i64.wrap (7 * (k : Int)) = ((7 * k : Nat) : Int) := by rw [wrap_in (by omega) (by omega)]; omega
theorem i7_nn {k : Nat} (hk : k < 9) : 0 ≤ IntKind.i64.wrap (7 * (k : Int)) := by rw [i7 hk]; omega
theorem step_orU {b : ByteArray} {k : Nat} (hk : k < b.size) (h9 : k < 9) : bits .or .u64 (decL ((bsN b).take k) : Int) (IntKind.u64.wrap (IntKind.u64.wrap (bits .and .u8 ((b.data.getD k 0).toNat : Int) 127) * 2 ^ min (7 * k) 64)) = (decL ((bsN b).take (k + 1)) : Int) := by
  have hl : k < (bsN b).length := by rw [bsN_len]; exact hk
  have hx := byte_lt b k
  have hn : ((bsN b).take k).length = k := by rw [List.length_take]; omega
  have e : (((b.data.getD k 0).toNat : Int) % 128) = (((bsN b).getD k 0 % 128 : Nat) : Int) := by rw [bsN_at]; omega
  have hw : IntKind.u64.wrap (((b.data.getD k 0).toNat : Int) % 128) = ((b.data.getD k 0).toNat : Int) % 128 := by rw [IntKind.wrap_u64]; omega
  rw [and_u8 hx, hw, show min (7 * k) 64 = 7 * k by omega, e, take_snocN hl]
  generalize (bsN b).getD k 0 = x
  generalize (bsN b).take k = l at hn
  subst hn
  have h1 := dec_lt l
  have hp : (128 : Nat) ^ l.length = 2 ^ (7 * l.length) := by rw [Nat.pow_mul]
  have h8 : (128 : Nat) ^ l.length ≤ 128 ^ 8 := Nat.pow_le_pow_right (by decide) (by omega)
  have hm : x % 128 * 2 ^ (7 * l.length) ≤ 127 * 128 ^ 8 := by
    rw [← hp]
    exact Nat.mul_le_mul (by omega) h8
  have hc : ((x % 128 : Nat) : Int) * 2 ^ (7 * l.length) = ((x % 128 * 2 ^ (7 * l.length) : Nat) : Int) := by push_cast; rfl
  have h9 : (128 : Nat) ^ 8 = 72057594037927936 := by decide
  have hw2 : IntKind.u64.wrap ((x % 128 * 2 ^ (7 * l.length) : Nat) : Int) = ((x % 128 * 2 ^ (7 * l.length) : Nat) : Int) := by rw [IntKind.wrap_u64]; omega
  rw [hc, hw2, or_u64 ⟨by omega, by omega⟩ ⟨by omega, by omega⟩, Int.toNat_natCast, Int.toNat_natCast, or_add (by rw [← hp]; exact h1), dec_snoc, hp]
theorem wrap_dec {b : ByteArray} {k : Nat} (h9 : k < 9) : IntKind.i64.wrap (decL ((bsN b).take (k + 1)) : Int) = (decL ((bsN b).take (k + 1)) : Int) := by
  have := dec63 (b := b) h9
  exact wrap_in (by omega) (by omega)
theorem getL_some {b : ByteArray} {k : Nat} (h : FstTo b k) (hk : k < b.size) (h9 : k < 9) (hb : (b.data.getD k 0).toNat < 128) : getL b = if k = 0 ∨ ¬ (b.data.getD k 0).toNat = 0 then (((decL ((bsN b).take (k + 1)) : Nat) : Int), (k : Int) + 1, true) else (0, 0, false) := by
  unfold getL
  rw [fstI_some hk h9 (by rw [bsN_at]; exact hb) h]
  dsimp only
  rw [bsN_at]
theorem getL_none {b : ByteArray} {k : Nat} (h : FstTo b k) (hk : b.size ≤ k ∨ 9 ≤ k) : getL b = (0, 0, false) := by
  unfold getL
  rw [fstI_none h hk]
set_option maxRecDepth 8000 in
set_option maxHeartbeats 4000000 in
theorem getLeb_impl (b : ByteArray) (hs : b.size ≤ 1048576) : Ret env.P 11 [.s b] (fun r => r = getR (getL b)) := by
  refine ret_of (nt := 43) (rvs := [.tmp 2, .tmp 3, .tmp 4]) Try.func11 rfl rfl rfl rfl (fun X => ?_)
  repeat' (first | exact aa | ((conv => whnf) <;> (first | exact i7_nn (by omega) | refine loopN (min b.size 9) (fun k => [(6, .i .i64 k), (5, .i .u64 (decL ((bsN b).take k) : Nat))]) (fun k => []) (fun k => FstTo b k) ⟨.zero b, ?_⟩ | refine And.intro ?_ ?_ | (intro _h; first | contradiction | (try simp only [dd] at _h)) | (refine dt_go ?_) | exact rfl | exact True.intro | exact dkk | exact dks | (refine wrap_succ ?_; omega))))
  all_goals (try simp only [Int.toNat_natCast] at *)
  all_goals first
    | exact fst_next ‹_› (by omega)
    | (rw [i7 (by omega), Int.toNat_natCast]; exact step_orU (by omega) (by omega))
    | (conv => whnf
       have e := getL_none ‹FstTo b _› (by omega)
       rw [e]
       rfl)
    | (conv => whnf
       have e := getL_some ‹FstTo b _› (by omega) (by omega) (by omega)
       rw [if_neg (by omega)] at e
       rw [e]
       rfl)
    | (conv => whnf
       have e := getL_some ‹FstTo b _› (by omega) (by omega) (by omega)
       rw [if_pos (by omega)] at e
       rw [e]
       refine leaf_iib ?_ ?_ rfl
       · rw [i7 (by omega), Int.toNat_natCast, show IntKind.u64.bits = 64 from rfl, step_orU (by omega) (by omega)]
         exact wrap_dec (by omega)
       · exact wrap_in (by omega) (by omega))
    | trace_state
end Go.Proofs.Ytfejjddkglkigaa
