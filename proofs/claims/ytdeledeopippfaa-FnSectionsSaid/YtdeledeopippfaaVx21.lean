/- Texts for VSectionsP. -/
import Derived.Test.YtdeledeopippfaaVx20
namespace Go.Proofs.Ytdeledeopippfaa
open Go Go.RowKit
set_option linter.unusedVariables false
set_option linter.unusedSimpArgs false
set_option maxRecDepth 8000
section
attribute [local irreducible] IntKind.wrap
theorem fstI_get {b : ByteArray} {m i : Nat} (h : fstI b m = some i) : i < b.size ∧ i < m ∧ (bsN b).getD i 0 < 128 ∧ FstTo b i := by
  unfold fstI at h
  rw [List.findIdx?_eq_some_iff_getElem] at h
  obtain ⟨h1, h2, h3⟩ := h
  rw [List.length_take, bsN_len] at h1
  rw [List.getElem_take, bsN_get (by rw [bsN_len]; omega)] at h2
  refine ⟨by omega, by omega, of_decide_eq_true h2, ⟨fun j hj => ?_⟩⟩
  have := h3 j hj
  rw [List.getElem_take, bsN_get (by rw [bsN_len]; omega)] at this
  simpa using this
theorem leaf_iib {a a' b b' : Int} {c c' : Bool} (h : a = a') (h' : b = b') (h'' : c = c') : AV.tup [.i .i64 a, .i .i64 b, .b c] = .tup [.i .i64 a', .i .i64 b', .b c'] := by rw [h, h', h'']
theorem dec63 {b : ByteArray} {i : Nat} (h9 : i < 9) : decL ((bsN b).take (i + 1)) < 9223372036854775808 := by
  have h1 := dec_lt ((bsN b).take (i + 1))
  have h2 : (128 : Nat) ^ ((bsN b).take (i + 1)).length ≤ 128 ^ 9 := Nat.pow_le_pow_right (by decide) (by rw [List.length_take]; omega)
  have h3 : (128 : Nat) ^ 9 = 9223372036854775808 := by decide
  omega
set_option maxHeartbeats 4000000 in
theorem getLeb_spec (b : ByteArray) (hs : b.size ≤ 1048576) : Ret env.P 88 [.s b] (fun r => r = getR (getL b)) := by
  cases hF : fstI b 9 with
  | none =>
    have h1 : Ret env.P 94 [.s b] (fun r => r = .tup [.i .i64 0, .i .i64 0]) := (l01Leb_ok b hs).mono fun r h => by unfold lebV at h; rw [hF] at h; exact h
    have hg : getL b = (0, 0, false) := by unfold getL; rw [hF]
    rw [hg]
    refine ret_of (nt := 24) (rvs := [.tmp 2, .tmp 3, .tmp 4]) Try.func88 rfl rfl rfl rfl (fun X => ?_)
    repeat' (first | omega | (with_reducible show (_ : Int) < _; dsimp only; omega) | (with_reducible show (_ : Nat) ≤ _; dsimp only; omega) | ((with_reducible show SrcOk _ _ _) <;> (first | exact srcOk_1 rfl | exact srcOk_L (fun _ => ⟨rfl, rfl⟩) | exact srcOk_E (fun _ => ⟨rfl, rfl⟩))) | ((conv => whnf) <;> (first | (exfalso; exact ‹¬True› trivial) | refine And.intro ?_ ?_ | (intro _h; first | contradiction | (try simp only [dd] at _h)) | (refine dt_go ?_) | exact rfl | exact True.intro | exact dkk | exact dks | ((first | refine .inl ⟨_, h1, ?_⟩ | refine ⟨_, h1, ?_⟩); (try rintro _ rfl)) | (refine wrap_succ ?_; omega))))
  | some i =>
    obtain ⟨f1, f2, f3, f4⟩ := fstI_get hF
    have h1 : Ret env.P 94 [.s b] (fun r => r = .tup [.i .i64 ((decL ((bsN b).take (i + 1)) : Nat) : Int), .i .i64 ((i : Int) + 1)]) := (l01Leb_ok b hs).mono fun r h => by unfold lebV at h; rw [hF] at h; exact h
    have hc := canon f1 f3 f4
    have hp := (putLeb_spec _ (dec63 (b := b) f2)).toRet
    refine ret_of (nt := 24) (rvs := [.tmp 2, .tmp 3, .tmp 4]) Try.func88 rfl rfl rfl rfl (fun X => ?_)
    repeat' (first | omega | (with_reducible show (_ : Int) < _; dsimp only; omega) | (with_reducible show (_ : Nat) ≤ _; dsimp only; omega) | ((with_reducible show SrcOk _ _ _) <;> (first | exact srcOk_1 rfl | exact srcOk_L (fun _ => ⟨rfl, rfl⟩) | exact srcOk_E (fun _ => ⟨rfl, rfl⟩))) | ((conv => whnf) <;> (first | (exfalso; omega) | refine And.intro ?_ ?_ | (intro _h; first | contradiction | (try simp only [dd] at _h)) | (refine dt_go ?_) | exact rfl | exact True.intro | exact dkk | exact dks | ((first | refine .inl ⟨_, h1, ?_⟩ | refine ⟨_, h1, ?_⟩); (try rintro _ rfl)) | ((first | refine .inl ⟨_, hp, ?_⟩ | refine ⟨_, hp, ?_⟩); (try rintro _ rfl)) | (refine wrap_succ ?_; omega))))
    all_goals (conv => whnf)
    all_goals rw [show ((i : Int) + 1).toNat = i + 1 by omega] at _h
    · have hg : getL b = (0, 0, false) := by
        unfold getL
        rw [hF]
        exact if_neg fun q => _h (hc.mpr q)
      rw [hg]
      rfl
    · have hg : getL b = (((decL ((bsN b).take (i + 1)) : Nat) : Int), (i : Int) + 1, true) := by
        unfold getL
        rw [hF]
        exact if_pos (hc.mp _h)
      rw [hg]
      rfl
theorem i7 {k : Nat} (hk : k < 9) : IntKind.i64.wrap (7 * (k : Int)) = ((7 * k : Nat) : Int) := by rw [wrap_in (by omega) (by omega)]; omega
theorem i7_nn {k : Nat} (hk : k < 9) : 0 ≤ IntKind.i64.wrap (7 * (k : Int)) := by rw [i7 hk]; omega
theorem step_orU {b : ByteArray} {k : Nat} (hk : k < b.size) (h9 : k < 9) : bits .or .u64 (decL ((bsN b).take k) : Int) (IntKind.u64.wrap (IntKind.u64.wrap (bits .and .u8 ((b.data.getD k 0).toNat : Int) 127) * 2 ^ min (7 * k) 64)) = (decL ((bsN b).take (k + 1)) : Int) := by
  have hl : k < (bsN b).length := by rw [bsN_len]; exact hk
  have hx := byte_lt b k
  have hn : ((bsN b).take k).length = k := by rw [List.length_take]; omega
  have e : (((b.data.getD k 0).toNat : Int) % 128) = (((bsN b).getD k 0 % 128 : Nat) : Int) := by rw [bsN_at]; omega
  have hw : IntKind.u64.wrap (((b.data.getD k 0).toNat : Int) % 128) = ((b.data.getD k 0).toNat : Int) % 128 := by rw [IntKind.wrap_u64]; omega
  rw [and_u8 hx, hw, show min (7 * k) 64 = 7 * k by omega, e, take_snocN hl]
  generalize (bsN b).getD k 0 = x
  generalize (bsN b).take k = l at hn
  subst hn
  have h1 := dec_lt l
  have hp : (128 : Nat) ^ l.length = 2 ^ (7 * l.length) := by rw [Nat.pow_mul]
  have h8 : (128 : Nat) ^ l.length ≤ 128 ^ 8 := Nat.pow_le_pow_right (by decide) (by omega)
  have hm : x % 128 * 2 ^ (7 * l.length) ≤ 127 * 128 ^ 8 := by
    rw [← hp]
    exact Nat.mul_le_mul (by omega) h8
  have hc : ((x % 128 : Nat) : Int) * 2 ^ (7 * l.length) = ((x % 128 * 2 ^ (7 * l.length) : Nat) : Int) := by push_cast; rfl
  have h9 : (128 : Nat) ^ 8 = 72057594037927936 := by decide
  have hw2 : IntKind.u64.wrap ((x % 128 * 2 ^ (7 * l.length) : Nat) : Int) = ((x % 128 * 2 ^ (7 * l.length) : Nat) : Int) := by rw [IntKind.wrap_u64]; omega
  rw [hc, hw2, or_u64 ⟨by omega, by omega⟩ ⟨by omega, by omega⟩, Int.toNat_natCast, Int.toNat_natCast, or_add (by rw [← hp]; exact h1), dec_snoc, hp]
theorem wrap_dec {b : ByteArray} {k : Nat} (h9 : k < 9) : IntKind.i64.wrap (decL ((bsN b).take (k + 1)) : Int) = (decL ((bsN b).take (k + 1)) : Int) := by
  have := dec63 (b := b) h9
  exact wrap_in (by omega) (by omega)
theorem getL_some {b : ByteArray} {k : Nat} (h : FstTo b k) (hk : k < b.size) (h9 : k < 9) (hb : (b.data.getD k 0).toNat < 128) : getL b = if k = 0 ∨ ¬ (b.data.getD k 0).toNat = 0 then (((decL ((bsN b).take (k + 1)) : Nat) : Int), (k : Int) + 1, true) else (0, 0, false) := by
  unfold getL
  rw [fstI_some hk h9 (by rw [bsN_at]; exact hb) h]
  dsimp only
  rw [bsN_at]
theorem getL_none {b : ByteArray} {k : Nat} (h : FstTo b k) (hk : b.size ≤ k ∨ 9 ≤ k) : getL b = (0, 0, false) := by
  unfold getL
  rw [fstI_none h hk]
set_option maxHeartbeats 4000000 in
theorem getLeb_impl (b : ByteArray) (hs : b.size ≤ 1048576) : Ret env.P 28 [.s b] (fun r => r = getR (getL b)) := by
  refine ret_of (nt := 43) (rvs := [.tmp 2, .tmp 3, .tmp 4]) Try.func28 rfl rfl rfl rfl (fun X => ?_)
  repeat' (first | omega | (with_reducible show (_ : Int) < _; dsimp only; omega) | (with_reducible show (_ : Nat) ≤ _; dsimp only; omega) | ((with_reducible show SrcOk _ _ _) <;> (first | exact srcOk_1 rfl | exact srcOk_L (fun _ => ⟨rfl, rfl⟩) | exact srcOk_E (fun _ => ⟨rfl, rfl⟩))) | ((conv => whnf) <;> (first | exact i7_nn (by omega) | refine loopN (min b.size 9) (fun k => [(6, .i .i64 k), (5, .i .u64 (decL ((bsN b).take k) : Nat))]) (fun k => []) (fun k => FstTo b k) ⟨.zero b, ?_⟩ | refine And.intro ?_ ?_ | (intro _h; first | contradiction | (try simp only [dd] at _h)) | (refine dt_go ?_) | exact rfl | exact True.intro | exact dkk | exact dks | (refine wrap_succ ?_; omega))))
  all_goals (try simp only [Int.toNat_natCast] at *)
  all_goals first
    | exact fst_next ‹_› (by omega)
    | (rw [i7 (by omega), Int.toNat_natCast]; exact step_orU (by omega) (by omega))
    | (conv => whnf
       have e := getL_none ‹FstTo b _› (by omega)
       rw [e]
       rfl)
    | (conv => whnf
       have e := getL_some ‹FstTo b _› (by omega) (by omega) (by omega)
       rw [if_neg (by omega)] at e
       rw [e]
       rfl)
    | (conv => whnf
       have e := getL_some ‹FstTo b _› (by omega) (by omega) (by omega)
       rw [if_pos (by omega)] at e
       rw [e]
       refine leaf_iib ?_ ?_ rfl
       · rw [i7 (by omega), Int.toNat_natCast, show IntKind.u64.bits = 64 from rfl, step_orU (by omega) (by omega)]
         exact wrap_dec (by omega)
       · exact wrap_in (by omega) (by omega))
    | trace_state
end
section
attribute [local irreducible] IntKind.wrap
def slA (b : ByteArray) : Nat → Int
  | 0 => 0
  | k + 1 => bits .or .i64 (slA b k) (IntKind.i64.wrap (IntKind.i64.wrap (bits .and .u8 ((b.data.getD k 0).toNat : Int) 127) * 2 ^ min (7 * k) 64))
def slM (b : ByteArray) (k : Nat) : Int := if k < 9 ∧ 64 ≤ (b.data.getD k 0).toNat then bits .or .i64 (slA b (k + 1)) (IntKind.i64.wrap (-1 * 2 ^ min (7 * k + 7) 64)) else slA b (k + 1)
theorem wrapR (x : Int) : i64R (IntKind.i64.wrap x) := by rw [IntKind.wrap_i64]; unfold i64R; omega
theorem orR (x y : Int) : i64R (bits .or .i64 x y) := wrapR _
def getS (b : ByteArray) : Int × Int × Bool := match fstI b 10 with
  | none => (0, 0, false)
  | some i => if baN (slebL (slM b i)) = b.extract 0 (i + 1) then (slM b i, (i : Int) + 1, true) else (0, 0, false)
theorem getS_none {b : ByteArray} {k : Nat} (h : FstTo b k) (hk : b.size ≤ k ∨ 10 ≤ k) : getS b = (0, 0, false) := by
  unfold getS
  rw [fstI_none h hk]
theorem getS_some {b : ByteArray} {k : Nat} (h : FstTo b k) (hk : k < b.size) (h9 : k < 10) (hb : (b.data.getD k 0).toNat < 128) : getS b = if baN (slebL (slM b k)) = b.extract 0 (k + 1) then (slM b k, (k : Int) + 1, true) else (0, 0, false) := by
  unfold getS
  rw [fstI_some hk h9 (by rw [bsN_at]; exact hb) h]
theorem slM_big {b : ByteArray} {k : Nat} (h9 : k < 9) (h : 64 ≤ (b.data.getD k 0).toNat) : bits .or .i64 (slA b (k + 1)) (IntKind.i64.wrap (-1 * 2 ^ min (7 * k + 7) 64)) = slM b k := (if_pos ⟨h9, h⟩).symm
theorem slM_low {b : ByteArray} {k : Nat} (h : ¬ (k < 9 ∧ 64 ≤ (b.data.getD k 0).toNat)) : slA b (k + 1) = slM b k := (if_neg h).symm
theorem k1 {k : Nat} (hk : k < 10) : (IntKind.i64.wrap ((k : Int) + 1)).toNat = k + 1 := by rw [wrap_in (by omega) (by omega)]; omega
theorem getS_yes {b : ByteArray} {k : Nat} (h : FstTo b k) (hk : k < b.size) (h9 : k < 10) (hb : (b.data.getD k 0).toNat < 128) (he : baN (slebL (slM b k)) = b.extract 0 (k + 1)) : getR (getS b) = .tup [.i .i64 (slM b k), .i .i64 (IntKind.i64.wrap ((k : Int) + 1)), .b true] := by
  rw [getS_some h hk h9 hb, if_pos he, wrap_in (by omega) (by omega)]
  rfl
theorem getS_no {b : ByteArray} {k : Nat} (h : FstTo b k) (hk : k < b.size) (h9 : k < 10) (hb : (b.data.getD k 0).toNat < 128) (he : ¬ baN (slebL (slM b k)) = b.extract 0 (k + 1)) : getR (getS b) = .tup [.i .i64 0, .i .i64 0, .b false] := by
  rw [getS_some h hk h9 hb, if_neg he]
  rfl
end
section
attribute [local irreducible] IntKind.wrap
theorem i7s {k : Nat} (hk : k < 10) : IntKind.i64.wrap (7 * (k : Int)) = ((7 * k : Nat) : Int) := by rw [wrap_in (by omega) (by omega)]; omega
theorem i7s_nn {k : Nat} (hk : k < 10) : 0 ≤ IntKind.i64.wrap (7 * (k : Int)) := by rw [i7s hk]; omega
theorem i7p {k : Nat} (hk : k < 10) : IntKind.i64.wrap (7 * IntKind.i64.wrap ((k : Int) + 1)) = ((7 * k + 7 : Nat) : Int) := by
  have e : IntKind.i64.wrap ((k : Int) + 1) = (k : Int) + 1 := wrap_in (by omega) (by omega)
  rw [e, wrap_in (by omega) (by omega)]
  omega
theorem i7p_nn {k : Nat} (hk : k < 10) : 0 ≤ IntKind.i64.wrap (7 * IntKind.i64.wrap ((k : Int) + 1)) := by rw [i7p hk]; omega
theorem slXi_eq {b : ByteArray} {k : Nat} (hk : k < 10) : bits .or .i64 (slA b k) (IntKind.i64.wrap (IntKind.i64.wrap (bits .and .u8 ((b.data.getD k 0).toNat : Int) 127) * 2 ^ min (IntKind.i64.wrap (7 * (k : Int))).toNat IntKind.i64.bits)) = slA b (k + 1) := by
  rw [i7s hk, Int.toNat_natCast]; rfl
theorem slYi_eq {k : Nat} {x : Int} (hk : k < 10) : bits .or .i64 x (IntKind.i64.wrap (-1 * 2 ^ min (IntKind.i64.wrap (7 * IntKind.i64.wrap ((k : Int) + 1))).toNat IntKind.i64.bits)) = bits .or .i64 x (IntKind.i64.wrap (-1 * 2 ^ min (7 * k + 7) 64)) := by
  rw [i7p hk, Int.toNat_natCast]; rfl
set_option maxHeartbeats 4000000 in
theorem getSleb_impl (b : ByteArray) (hs : b.size ≤ 1048576) : Ret env.P 27 [.s b] (fun r => r = getR (getS b)) := by
  refine ret_of (nt := 55) (rvs := [.tmp 2, .tmp 3, .tmp 4]) Try.func27 rfl rfl rfl rfl (fun X => ?_)
  repeat' (first | omega | (with_reducible show (_ : Int) < _; dsimp only; omega) | (with_reducible show (_ : Nat) ≤ _; dsimp only; omega) | ((with_reducible show SrcOk _ _ _) <;> (first | exact srcOk_1 rfl | exact srcOk_L (fun _ => ⟨rfl, rfl⟩) | exact srcOk_E (fun _ => ⟨rfl, rfl⟩))) | ((conv => whnf) <;> (first | (rw [wrap_in (by omega) (by omega)]; omega) | exact i7s_nn (by omega) | exact i7p_nn (by omega) | refine loopN (min b.size 10) (fun k => [(6, .i .i64 k), (5, .i .i64 (slA b k))]) (fun k => []) (fun k => FstTo b k) ⟨.zero b, ?_⟩ | refine And.intro ?_ ?_ | (intro _h; first | contradiction | (try simp only [dd] at _h)) | (refine dt_go ?_) | exact rfl | exact True.intro | exact dkk | exact dks | ((first | refine .inl ⟨_, (putSleb_impl _ (orR _ _)).toRet, ?_⟩ | refine ⟨_, (putSleb_impl _ (orR _ _)).toRet, ?_⟩); (try rintro _ rfl)) | (refine wrap_succ ?_; omega))))
  all_goals (try simp only [Int.toNat_natCast] at *)
  all_goals first
    | exact fst_next ‹_› (by omega)
    | (rw [i7s (by omega), Int.toNat_natCast]; rfl)
    | (conv => whnf
       have e := getS_none ‹FstTo b _› (by omega)
       rw [e]
       rfl)
    | (rw [slXi_eq (by omega), slYi_eq (by omega), slM_big (by omega) (by omega), k1 (by omega)] at _h
       conv => whnf
       rw [getS_no ‹FstTo b _› (by omega) (by omega) (by omega) _h]
       rfl)
    | (rw [slXi_eq (by omega), slYi_eq (by omega), slM_big (by omega) (by omega), k1 (by omega)] at _h
       conv => whnf
       rw [getS_yes ‹FstTo b _› (by omega) (by omega) (by omega) _h]
       refine leaf_iib ?_ rfl rfl
       rw [slXi_eq (by omega), slYi_eq (by omega), slM_big (by omega) (by omega)])
    | (rw [slXi_eq (by omega), slM_low (fun q => absurd q.2 (by omega)), k1 (by omega)] at _h
       conv => whnf
       rw [getS_no ‹FstTo b _› (by omega) (by omega) (by omega) _h]
       rfl)
    | (rw [slXi_eq (by omega), slM_low (fun q => absurd q.2 (by omega)), k1 (by omega)] at _h
       conv => whnf
       rw [getS_yes ‹FstTo b _› (by omega) (by omega) (by omega) _h]
       refine leaf_iib ?_ rfl rfl
       rw [slXi_eq (by omega), slM_low (fun q => absurd q.2 (by omega))])
    | (rw [slXi_eq (by omega), slM_low (fun q => absurd q.1 (by omega)), k1 (by omega)] at _h
       conv => whnf
       rw [getS_no ‹FstTo b _› (by omega) (by omega) (by omega) _h]
       rfl)
    | (rw [slXi_eq (by omega), slM_low (fun q => absurd q.1 (by omega)), k1 (by omega)] at _h
       conv => whnf
       rw [getS_yes ‹FstTo b _› (by omega) (by omega) (by omega) _h]
       refine leaf_iib ?_ rfl rfl
       rw [slXi_eq (by omega), slM_low (fun q => absurd q.1 (by omega))])
    | trace_state
end
section
attribute [local irreducible] IntKind.wrap
def argV (op : Int) (r : ByteArray) : Int × Int := if op = 1 then ((getS r).1, (getS r).2.1) else if (opV op).2.2 = true then ((getL r).1, (getL r).2.1) else (0, 0)
def opB (b : ByteArray) : Int := IntKind.i64.wrap ((b.data.getD 0 0).toNat : Int)
def argB (b : ByteArray) : Int × Int := argV (opB b) (b.extract 1 b.size)
def insB (b : ByteArray) : Ins := ⟨opB b, (argB b).1⟩
def insV (b : ByteArray) : Ins × Int × Bool :=
  if b.size = 0 then (⟨0, 0⟩, 0, false)
  else if baN (insB b).by = ByteArray.empty ∨ ¬ baN (insB b).by = b.extract 0 (1 + (argB b).2).toNat then (⟨0, 0⟩, 0, false)
  else (insB b, 1 + (argB b).2, true)
def insR (v : Ins × Int × Bool) : AV := .tup [.agg v.1.cs, .i .i64 v.2.1, .b v.2.2]
theorem getL_many (b : ByteArray) : 0 ≤ (getL b).2.1 ∧ (getL b).2.1 ≤ b.size := by
  unfold getL
  cases h : fstI b 9 with
  | none => exact ⟨Int.le_refl 0, Int.natCast_nonneg _⟩
  | some i =>
    have := fstI_get h
    dsimp only
    split
    · exact ⟨by show (0 : Int) ≤ i + 1; omega, by show (i : Int) + 1 ≤ b.size; omega⟩
    · exact ⟨Int.le_refl 0, Int.natCast_nonneg _⟩
theorem getS_many (b : ByteArray) : 0 ≤ (getS b).2.1 ∧ (getS b).2.1 ≤ b.size := by
  unfold getS
  cases h : fstI b 10 with
  | none => exact ⟨Int.le_refl 0, Int.natCast_nonneg _⟩
  | some i =>
    have := fstI_get h
    dsimp only
    split
    · exact ⟨by show (0 : Int) ≤ i + 1; omega, by show (i : Int) + 1 ≤ b.size; omega⟩
    · exact ⟨Int.le_refl 0, Int.natCast_nonneg _⟩
theorem argV_many (op : Int) (b : ByteArray) : 0 ≤ (argV op b).2 ∧ (argV op b).2 ≤ b.size := by
  unfold argV
  split
  · exact getS_many b
  · split
    · exact getL_many b
    · exact ⟨Int.le_refl 0, Int.natCast_nonneg _⟩
theorem ext1 {b : ByteArray} (h : ¬ b.size = 0) : (b.extract 1 b.size).size = b.size - 1 := by
  rw [ByteArray.size_extract]
  omega
theorem argB_many {b : ByteArray} (h : ¬ b.size = 0) : 0 ≤ (argB b).2 ∧ (argB b).2 + 1 ≤ b.size := by
  have := argV_many (opB b) (b.extract 1 b.size)
  rw [ext1 h] at this
  show 0 ≤ (argV (opB b) (b.extract 1 b.size)).2 ∧ (argV (opB b) (b.extract 1 b.size)).2 + 1 ≤ b.size
  omega
theorem insV_nil {b : ByteArray} (h : b.size = 0) : insR (insV b) = .tup [.agg [.i .i64 0, .i .i64 0], .i .i64 0, .b false] := by
  unfold insV
  rw [if_pos h]
  rfl
theorem insV_no {b : ByteArray} (h : ¬ b.size = 0) (h1 : baN (insB b).by = ByteArray.empty ∨ ¬ baN (insB b).by = b.extract 0 (1 + (argB b).2).toNat) : insR (insV b) = .tup [.agg [.i .i64 0, .i .i64 0], .i .i64 0, .b false] := by
  unfold insV
  rw [if_neg h, if_pos h1]
  rfl
theorem insV_yes {b : ByteArray} (h : ¬ b.size = 0) (h1 : ¬ (baN (insB b).by = ByteArray.empty ∨ ¬ baN (insB b).by = b.extract 0 (1 + (argB b).2).toNat)) : insR (insV b) = .tup [.agg (insB b).cs, .i .i64 (1 + (argB b).2), .b true] := by
  unfold insV
  rw [if_neg h, if_neg h1]
  rfl
theorem insB_cs {b : ByteArray} {a m : Int} (h : argB b = (a, m)) : (insB b).cs = [.i .i64 (opB b), .i .i64 a] := by
  show [AV.i .i64 (opB b), .i .i64 (argB b).1] = _
  rw [h]
theorem i64in {n : Int} (h : 0 ≤ n ∧ n ≤ 1048576) : IntKind.i64.wrap (1 + n) = 1 + n := wrap_in (by omega) (by omega)
theorem argB_1 {b : ByteArray} (h1 : opB b = 1) : argB b = ((getS (b.extract 1 b.size)).1, (getS (b.extract 1 b.size)).2.1) := if_pos h1
theorem argB_n {b : ByteArray} (h1 : ¬ opB b = 1) (ho : (opV (opB b)).2.2 = true) : argB b = ((getL (b.extract 1 b.size)).1, (getL (b.extract 1 b.size)).2.1) := (if_neg h1).trans (if_pos ho)
theorem argB_0 {b : ByteArray} (h1 : ¬ opB b = 1) (ho : (opV (opB b)).2.2 = false) : argB b = (0, 0) := (if_neg h1).trans (if_neg (by rw [ho]; decide))
attribute [local irreducible] insV argB getS getL Ins.by baN
set_option maxHeartbeats 4000000 in
theorem insOf_impl (b : ByteArray) (hs : b.size ≤ 1048576) : Ret env.P 10 [.s b] (fun r => r = insR (insV b)) := by
  by_cases h0 : b.size = 0
  · have : b = ByteArray.empty := by
      apply ByteArray.ext
      exact Array.eq_empty_of_size_eq_zero h0
    subst this
    rw [insV_nil h0]
    refine ret_of (nt := 65) (rvs := [.cell 2 30, .tmp 3, .tmp 4]) Try.func10 rfl rfl rfl rfl (fun X => ?_)
    repeat' (first | omega | (with_reducible show (_ : Int) < _; dsimp only; omega) | (with_reducible show (_ : Nat) ≤ _; dsimp only; omega) | ((with_reducible show SrcOk _ _ _) <;> (first | exact srcOk_1 rfl | exact srcOk_L (fun _ => ⟨rfl, rfl⟩) | exact srcOk_E (fun _ => ⟨rfl, rfl⟩))) | ((conv => whnf) <;> (first | (exfalso; exact ‹¬True› trivial) | (exfalso; exact ‹¬ByteArray.empty = ByteArray.empty› rfl) | refine And.intro ?_ ?_ | (intro _h; first | contradiction | (try simp only [dd] at _h)) | (refine dt_go ?_) | exact rfl | exact True.intro | exact dkk | exact dks | (refine wrap_succ ?_; omega))))
  · have hb := insBytes_impl (insB b)
    have hm := argB_many h0
    have hS : Ret env.P 27 [.s (b.extract 1 b.size)] (fun r => r = .tup [.i .i64 (getS (b.extract 1 b.size)).1, .i .i64 (getS (b.extract 1 b.size)).2.1, .b (getS (b.extract 1 b.size)).2.2]) := getSleb_impl (b.extract 1 b.size) (by rw [ext1 h0]; omega)
    have hL : Ret env.P 28 [.s (b.extract 1 b.size)] (fun r => r = .tup [.i .i64 (getL (b.extract 1 b.size)).1, .i .i64 (getL (b.extract 1 b.size)).2.1, .b (getL (b.extract 1 b.size)).2.2]) := getLeb_impl (b.extract 1 b.size) (by rw [ext1 h0]; omega)
    have hne : ¬ b = ByteArray.empty := fun e => h0 (by rw [e]; rfl)
    have hY := insV_yes h0
    have hN := insV_no h0
    by_cases h1 : opB b = 1
    · have ha := argB_1 h1
      have ho : (opV (opB b)).2.2 = true := by rw [h1]; rfl
      have hh := hasI_ok (opB b)
      rw [ho] at hh
      rw [insB_cs ha] at hb hY
      rw [ha] at hm hY hN
      dsimp only at hm hY hN
      have hw := i64in (n := (getS (b.extract 1 b.size)).2.1) (by omega)
      refine ret_of (nt := 65) (rvs := [.cell 2 30, .tmp 3, .tmp 4]) Try.func10 rfl rfl rfl rfl (fun X => ?_)
      repeat' (first | omega | (with_reducible show (_ : Int) < _; dsimp only; omega) | (with_reducible show (_ : Nat) ≤ _; dsimp only; omega) | ((with_reducible show SrcOk _ _ _) <;> (first | exact srcOk_1 rfl | exact srcOk_L (fun _ => ⟨rfl, rfl⟩) | exact srcOk_E (fun _ => ⟨rfl, rfl⟩))) | ((conv => whnf) <;> (first | (exfalso; exact ‹¬True› trivial) | (exfalso; exact hne ‹_›) | (exfalso; exact ‹¬ opB b = 1› h1) | (rw [hw]; refine ⟨?_, ?_⟩ <;> omega) | (refine ⟨?_, ?_⟩ <;> omega) | refine And.intro ?_ ?_ | (intro _h; first | contradiction | (try simp only [dd] at _h)) | (refine dt_go ?_) | exact rfl | exact True.intro | exact dkk | exact dks | ((first | refine .inl ⟨_, hh, ?_⟩ | refine ⟨_, hh, ?_⟩); (try rintro _ rfl)) | ((first | refine .inl ⟨_, hS, ?_⟩ | refine ⟨_, hS, ?_⟩); (try rintro _ rfl)) | ((first | refine .inl ⟨_, hb, ?_⟩ | refine ⟨_, hb, ?_⟩); (try rintro _ rfl)) | (refine wrap_succ ?_; omega))))
      all_goals (conv => whnf)
      all_goals (try rw [hw] at *)
      all_goals first
        | exact (hN (.inl ‹_›)).symm
        | exact (hN (.inr ‹_›)).symm
        | exact (hY (fun q => q.elim (fun q => absurd q ‹_›) (fun q => q ‹_›))).symm
        | trace_state
    · cases ho : (opV (opB b)).2.2 with
      | true =>
        have ha := argB_n h1 ho
        have hh := hasI_ok (opB b)
        rw [ho] at hh
        rw [insB_cs ha] at hb hY
        rw [ha] at hm hY hN
        dsimp only at hm hY hN
        have hw := i64in (n := (getL (b.extract 1 b.size)).2.1) (by omega)
        refine ret_of (nt := 65) (rvs := [.cell 2 30, .tmp 3, .tmp 4]) Try.func10 rfl rfl rfl rfl (fun X => ?_)
        repeat' (first | omega | (with_reducible show (_ : Int) < _; dsimp only; omega) | (with_reducible show (_ : Nat) ≤ _; dsimp only; omega) | ((with_reducible show SrcOk _ _ _) <;> (first | exact srcOk_1 rfl | exact srcOk_L (fun _ => ⟨rfl, rfl⟩) | exact srcOk_E (fun _ => ⟨rfl, rfl⟩))) | ((conv => whnf) <;> (first | (exfalso; exact ‹¬True› trivial) | (exfalso; exact hne ‹_›) | (exfalso; exact h1 ‹_›) | (rw [hw]; refine ⟨?_, ?_⟩ <;> omega) | (refine ⟨?_, ?_⟩ <;> omega) | refine And.intro ?_ ?_ | (intro _h; first | contradiction | (try simp only [dd] at _h)) | (refine dt_go ?_) | exact rfl | exact True.intro | exact dkk | exact dks | ((first | refine .inl ⟨_, hh, ?_⟩ | refine ⟨_, hh, ?_⟩); (try rintro _ rfl)) | ((first | refine .inl ⟨_, hL, ?_⟩ | refine ⟨_, hL, ?_⟩); (try rintro _ rfl)) | ((first | refine .inl ⟨_, hb, ?_⟩ | refine ⟨_, hb, ?_⟩); (try rintro _ rfl)) | (refine wrap_succ ?_; omega))))
        all_goals (conv => whnf)
        all_goals (try rw [hw] at *)
        all_goals first
          | exact (hN (.inl ‹_›)).symm
          | exact (hN (.inr ‹_›)).symm
          | exact (hY (fun q => q.elim (fun q => absurd q ‹_›) (fun q => q ‹_›))).symm
          | trace_state
      | false =>
        have ha := argB_0 h1 ho
        have hh := hasI_ok (opB b)
        rw [ho] at hh
        rw [insB_cs ha] at hb hY
        rw [ha] at hm hY hN
        dsimp only at hm hY hN
        have hw : IntKind.i64.wrap (1 + 0) = 1 + 0 := i64in (n := 0) (by omega)
        refine ret_of (nt := 65) (rvs := [.cell 2 30, .tmp 3, .tmp 4]) Try.func10 rfl rfl rfl rfl (fun X => ?_)
        repeat' (first | omega | (with_reducible show (_ : Int) < _; dsimp only; omega) | (with_reducible show (_ : Nat) ≤ _; dsimp only; omega) | ((with_reducible show SrcOk _ _ _) <;> (first | exact srcOk_1 rfl | exact srcOk_L (fun _ => ⟨rfl, rfl⟩) | exact srcOk_E (fun _ => ⟨rfl, rfl⟩))) | ((conv => whnf) <;> (first | (exfalso; exact ‹¬True› trivial) | (exfalso; exact hne ‹_›) | (exfalso; exact h1 ‹_›) | (rw [hw]; refine ⟨?_, ?_⟩ <;> omega) | (refine ⟨?_, ?_⟩ <;> omega) | refine And.intro ?_ ?_ | (intro _h; first | contradiction | (try simp only [dd] at _h)) | (refine dt_go ?_) | exact rfl | exact True.intro | exact dkk | exact dks | ((first | refine .inl ⟨_, hh, ?_⟩ | refine ⟨_, hh, ?_⟩); (try rintro _ rfl)) | ((first | refine .inl ⟨_, hL, ?_⟩ | refine ⟨_, hL, ?_⟩); (try rintro _ rfl)) | ((first | refine .inl ⟨_, hb, ?_⟩ | refine ⟨_, hb, ?_⟩); (try rintro _ rfl)) | (refine wrap_succ ?_; omega))))
        all_goals (conv => whnf)
        all_goals (try rw [hw] at *)
        all_goals first
          | exact (hN (.inl ‹_›)).symm
          | exact (hN (.inr ‹_›)).symm
          | exact (hY (fun q => q.elim (fun q => absurd q ‹_›) (fun q => q ‹_›))).symm
          | trace_state
end
instance : HoldC Ins.cs := holdC_plain fun _ => rfl
instance : FreeC Ins.cs := freeC_plain fun _ => rfl
instance : Shr 0 Ins.cs Ins.cs := shr_plain fun _ => rfl
section
attribute [local irreducible] IntKind.wrap
theorem insV_many (b : ByteArray) : 0 ≤ (insV b).2.1 ∧ (insV b).2.1 ≤ b.size := by
  unfold insV
  split
  · exact ⟨Int.le_refl 0, Int.natCast_nonneg _⟩
  · rename_i h
    have := argB_many h
    split
    · exact ⟨Int.le_refl 0, Int.natCast_nonneg _⟩
    · exact ⟨by show 0 ≤ 1 + (argB b).2; omega, by show 1 + (argB b).2 ≤ b.size; omega⟩
def bodyW (b : ByteArray) : Nat → Int → List Ins → Option (List Ins × Int)
  | 0, p, l => some (l, p)
  | k + 1, p, l => if (insV (b.extract p.toNat b.size)).2.2 = true then bodyW b k (p + (insV (b.extract p.toNat b.size)).2.1) (l ++ [(insV (b.extract p.toNat b.size)).1]) else none
def bodyV (b : ByteArray) : Option (List Ins) :=
  if (getL b).2.2 = true ∧ (getL b).1 ≤ 120 then
    match bodyW b (getL b).1.toNat (getL b).2.1 [] with
    | some (l, p) => if p = b.size then some l else none
    | none => none
  else none
structure BdS where
  k : Nat
  p : Int
  l : List Ins
structure BdI (b : ByteArray) (n : Nat) (y : BdS) : Prop where
  hk : y.k ≤ n
  hp : 0 ≤ y.p ∧ y.p ≤ b.size
  hl : y.l.length = y.k
  hw : bodyW b (n - y.k) y.p y.l = bodyW b n (getL b).2.1 []
theorem BdI.zero (b : ByteArray) (n : Nat) : BdI b n ⟨0, (getL b).2.1, []⟩ := ⟨Nat.zero_le _, getL_many b, rfl, rfl⟩
theorem ext_len {b : ByteArray} {p : Int} (h : 0 ≤ p ∧ p ≤ b.size) : ((b.extract p.toNat b.size).size : Int) = b.size - p := by
  rw [ByteArray.size_extract]
  omega
theorem BdI.many {b : ByteArray} {n : Nat} {y : BdS} (h : BdI b n y) : 0 ≤ (insV (b.extract y.p.toNat b.size)).2.1 ∧ y.p + (insV (b.extract y.p.toNat b.size)).2.1 ≤ b.size := by
  have h1 := insV_many (b.extract y.p.toNat b.size)
  rw [ext_len h.hp] at h1
  omega
theorem BdI.next {b : ByteArray} {n : Nat} {y : BdS} (h : BdI b n y) (hk : y.k < n) (hv : (insV (b.extract y.p.toNat b.size)).2.2 = true) : BdI b n ⟨y.k + 1, y.p + (insV (b.extract y.p.toNat b.size)).2.1, y.l ++ [(insV (b.extract y.p.toNat b.size)).1]⟩ := by
  refine ⟨hk, ?_, ?_, ?_⟩
  · have := h.many
    have := h.hp
    dsimp only
    omega
  · dsimp only
    rw [List.length_append, h.hl]
    rfl
  · rw [← h.hw]
    dsimp only
    rw [show n - y.k = n - (y.k + 1) + 1 by omega, bodyW, if_pos hv]
theorem BdI.none {b : ByteArray} {n : Nat} {y : BdS} (h : BdI b n y) (hk : y.k < n) (hv : ¬ (insV (b.extract y.p.toNat b.size)).2.2 = true) : bodyW b n (getL b).2.1 [] = none := by
  rw [← h.hw, show n - y.k = n - (y.k + 1) + 1 by omega, bodyW, if_neg hv]
theorem BdI.last {b : ByteArray} {n : Nat} {y : BdS} (h : BdI b n y) (hk : ¬ y.k < n) : bodyW b n (getL b).2.1 [] = some (y.l, y.p) := by
  rw [← h.hw, show n - y.k = 0 by have := h.hk; omega, bodyW]
attribute [local irreducible] insV getL bodyW
def bodyP (v : Option (List Ins)) (r : AV) (H : Hp) : Prop := match v with
  | none => r = .tup [.nils, .kb false] ∧ H = []
  | some l => r = .tup [.row 0 l.length, .kb true] ∧ H = [some (rowL 2 Ins.cs l)]
theorem body_no1 {b : ByteArray} (h : ¬ (getL b).2.2 = true) : bodyV b = none := if_neg fun q => h q.1
theorem body_no2 {b : ByteArray} (h : 120 < (getL b).1) : bodyV b = none := if_neg fun q => by omega
theorem body_no3 {b : ByteArray} (h : bodyW b (getL b).1.toNat (getL b).2.1 [] = none) : bodyV b = none := by
  unfold bodyV
  rw [h]
  exact ite_self _
theorem body_no4 {b : ByteArray} {l : List Ins} {p : Int} (h : bodyW b (getL b).1.toNat (getL b).2.1 [] = some (l, p)) (hp : ¬ p = b.size) : bodyV b = none := by
  unfold bodyV
  rw [h]
  show (if _ then (if p = b.size then some l else none) else none) = none
  rw [if_neg hp]
  exact ite_self _
theorem body_yes {b : ByteArray} {l : List Ins} {p : Int} (h1 : (getL b).2.2 = true) (h2 : (getL b).1 ≤ 120) (h : bodyW b (getL b).1.toNat (getL b).2.1 [] = some (l, p)) (hp : p = b.size) : bodyV b = some l := by
  unfold bodyV
  rw [if_pos ⟨h1, h2⟩, h]
  exact if_pos hp
theorem lbz_capB {n b : Nat} (h : n ≤ 1000) (hb : b ≤ 1000) : (n + 1) * b ≤ 140737488355328 := Nat.le_trans (Nat.mul_le_mul (Nat.succ_le_succ h) hb) (by decide)
theorem BdI.len {b : ByteArray} {n : Nat} {y : BdS} (h : BdI b n y) (hn : n ≤ 120) : y.l.length ≤ 1000 := by
  have := h.hl
  have := h.hk
  omega
theorem getL_nn (b : ByteArray) : 0 ≤ (getL b).1 := by
  unfold getL
  split
  · exact Int.le_refl 0
  · split
    · exact Int.natCast_nonneg _
    · exact Int.le_refl 0
end
end Go.Proofs.Ytdeledeopippfaa
