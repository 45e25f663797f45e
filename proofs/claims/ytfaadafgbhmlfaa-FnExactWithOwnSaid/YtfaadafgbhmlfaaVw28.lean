/- Texts for VWithOwnP. -/
import Derived.Test.YtfaadafgbhmlfaaVw18
namespace Go.Proofs.Ytfaadafgbhmlfaa
open Go Go.RowKit
set_option linter.unusedVariables false
set_option linter.unusedSimpArgs false
set_option maxRecDepth 8000
section
attribute [local irreducible] IntKind.wrap
def lebV (b : ByteArray) : Int × Int := match fstI b 9 with
  | none => (0, 0)
  | some i => ((decL ((bsN b).take (i + 1)) : Nat), (i : Int) + 1)
theorem u7 {k : Nat} (hk : k < 9) : IntKind.u64.wrap (7 * IntKind.u64.wrap (k : Int)) = ((7 * k : Nat) : Int) := by
  rw [IntKind.wrap_u64, IntKind.wrap_u64]
  omega
theorem u7_nn {k : Nat} (hk : k < 9) : 0 ≤ IntKind.u64.wrap (7 * IntKind.u64.wrap (k : Int)) := by rw [u7 hk]; omega
theorem take_snocN {l : List Nat} {k : Nat} (hk : k < l.length) : l.take (k + 1) = l.take k ++ [l.getD k 0] := by
  rw [List.take_add_one, List.getElem?_eq_getElem hk, List.getD_eq_getElem?_getD, List.getElem?_eq_getElem hk]
  rfl
theorem byte_lt (b : ByteArray) (k : Nat) : (0 : Int) ≤ ((b.data.getD k 0).toNat : Int) ∧ ((b.data.getD k 0).toNat : Int) < 256 := by
  have := (b.data.getD k 0).toNat_lt
  omega
theorem step_or {b : ByteArray} {k : Nat} (hk : k < b.size) (h9 : k < 9) : bits .or .i64 (decL ((bsN b).take k) : Int) (IntKind.i64.wrap (IntKind.i64.wrap (bits .and .u8 ((b.data.getD k 0).toNat : Int) 127) * 2 ^ min (7 * k) 64)) = (decL ((bsN b).take (k + 1)) : Int) := by
  have hl : k < (bsN b).length := by rw [bsN_len]; exact hk
  have hx := byte_lt b k
  have hn : ((bsN b).take k).length = k := by rw [List.length_take]; omega
  have e : (((b.data.getD k 0).toNat : Int) % 128) = (((bsN b).getD k 0 % 128 : Nat) : Int) := by rw [bsN_at]; omega
  have hw : IntKind.i64.wrap (((b.data.getD k 0).toNat : Int) % 128) = ((b.data.getD k 0).toNat : Int) % 128 := wrap_in (by omega) (by omega)
  rw [and_u8 hx, hw, show min (7 * k) 64 = 7 * k by omega, e, take_snocN hl]
  have := leb_step (l := (bsN b).take k) (x := (bsN b).getD k 0) (by omega)
  rw [hn] at this
  exact this
theorem leaf_ii {a a' b b' : Int} (h : a = a') (h' : b = b') : AV.tup [.i .i64 a, .i .i64 b] = .tup [.i .i64 a', .i .i64 b'] := by rw [h, h']
theorem lebV_some {b : ByteArray} {k : Nat} (h : FstTo b k) (hk : k < b.size) (h9 : k < 9) (hb : (b.data.getD k 0).toNat < 128) : lebV b = (((decL ((bsN b).take (k + 1)) : Nat) : Int), (k : Int) + 1) := by
  unfold lebV
  rw [fstI_some hk h9 (by rw [bsN_at]; exact hb) h]
theorem lebV_none {b : ByteArray} {k : Nat} (h : FstTo b k) (hk : b.size ≤ k ∨ 9 ≤ k) : lebV b = (0, 0) := by
  unfold lebV
  rw [fstI_none h hk]
theorem fst_next {b : ByteArray} {k : Nat} (h : FstTo b k) (hb : ¬ (b.data.getD k 0).toNat < 128) : FstTo b (k + 1) := h.succ (by rw [bsN_at]; exact hb)
set_option maxHeartbeats 4000000 in
theorem l01Leb_ok (b : ByteArray) (hs : b.size ≤ 1048576) : Ret env.P 47 [.s b] (fun r => r = .tup [.i .i64 (lebV b).1, .i .i64 (lebV b).2]) := by
  refine ret_of (nt := 34) (rvs := [.tmp 2, .tmp 3]) Try.func47 rfl rfl rfl rfl (fun X => ?_)
  repeat' (first | omega | (with_reducible show (_ : Int) < _; dsimp only; omega) | (with_reducible show (_ : Nat) ≤ _; dsimp only; omega) | ((with_reducible show SrcOk _ _ _) <;> (first | exact srcOk_1 rfl | exact srcOk_L (fun _ => ⟨rfl, rfl⟩) | exact srcOk_E (fun _ => ⟨rfl, rfl⟩))) | ((conv => whnf) <;> (first | exact u7_nn (by omega) | refine loopN (min b.size 9) (fun k => [(5, .i .i64 k), (4, .i .i64 (decL ((bsN b).take k) : Nat))]) (fun k => []) (fun k => FstTo b k) ⟨.zero b, ?_⟩ | refine And.intro ?_ ?_ | (intro _h; first | contradiction | (try simp only [dd] at _h)) | (refine dt_go ?_) | exact rfl | exact True.intro | exact dkk | exact dks | (refine wrap_succ ?_; omega))))
  all_goals (try simp only [Int.toNat_natCast] at *)
  all_goals first
    | exact fst_next ‹_› (by omega)
    | (rw [u7 (by omega), Int.toNat_natCast]; exact step_or (by omega) (by omega))
    | (conv => whnf
       have e := lebV_none ‹FstTo b _› (by omega)
       rw [e]
       rfl)
    | (conv => whnf
       have e := lebV_some ‹FstTo b _› (by omega) (by omega) (by omega)
       rw [e]
       refine leaf_ii ?_ ?_
       · rw [u7 (by omega), Int.toNat_natCast]; exact step_or (by omega) (by omega)
       · exact wrap_in (by omega) (by omega))
    | trace_state
end
section
attribute [local irreducible] IntKind.wrap
theorem fstI_get {b : ByteArray} {m i : Nat} (h : fstI b m = some i) : i < b.size ∧ i < m ∧ (bsN b).getD i 0 < 128 ∧ FstTo b i := by
  unfold fstI at h
  rw [List.findIdx?_eq_some_iff_getElem] at h
  obtain ⟨h1, h2, h3⟩ := h
  rw [List.length_take, bsN_len] at h1
  rw [List.getElem_take, bsN_get (by rw [bsN_len]; omega)] at h2
  refine ⟨by omega, by omega, of_decide_eq_true h2, ⟨fun j hj => ?_⟩⟩
  have := h3 j hj
  rw [List.getElem_take, bsN_get (by rw [bsN_len]; omega)] at this
  simpa using this
theorem leaf_iib {a a' b b' : Int} {c c' : Bool} (h : a = a') (h' : b = b') (h'' : c = c') : AV.tup [.i .i64 a, .i .i64 b, .b c] = .tup [.i .i64 a', .i .i64 b', .b c'] := by rw [h, h', h'']
theorem dec63 {b : ByteArray} {i : Nat} (h9 : i < 9) : decL ((bsN b).take (i + 1)) < 9223372036854775808 := by
  have h1 := dec_lt ((bsN b).take (i + 1))
  have h2 : (128 : Nat) ^ ((bsN b).take (i + 1)).length ≤ 128 ^ 9 := Nat.pow_le_pow_right (by decide) (by rw [List.length_take]; omega)
  have h3 : (128 : Nat) ^ 9 = 9223372036854775808 := by decide
  omega
set_option maxHeartbeats 4000000 in
theorem getLeb_spec (b : ByteArray) (hs : b.size ≤ 1048576) : Ret env.P 40 [.s b] (fun r => r = getR (getL b)) := by
  cases hF : fstI b 9 with
  | none =>
    have h1 : Ret env.P 47 [.s b] (fun r => r = .tup [.i .i64 0, .i .i64 0]) := (l01Leb_ok b hs).mono fun r h => by unfold lebV at h; rw [hF] at h; exact h
    have hg : getL b = (0, 0, false) := by unfold getL; rw [hF]
    rw [hg]
    refine ret_of (nt := 24) (rvs := [.tmp 2, .tmp 3, .tmp 4]) Try.func40 rfl rfl rfl rfl (fun X => ?_)
    repeat' (first | omega | (with_reducible show (_ : Int) < _; dsimp only; omega) | (with_reducible show (_ : Nat) ≤ _; dsimp only; omega) | ((with_reducible show SrcOk _ _ _) <;> (first | exact srcOk_1 rfl | exact srcOk_L (fun _ => ⟨rfl, rfl⟩) | exact srcOk_E (fun _ => ⟨rfl, rfl⟩))) | ((conv => whnf) <;> (first | (exfalso; exact ‹¬True› trivial) | refine And.intro ?_ ?_ | (intro _h; first | contradiction | (try simp only [dd] at _h)) | (refine dt_go ?_) | exact rfl | exact True.intro | exact dkk | exact dks | ((first | refine .inl ⟨_, h1, ?_⟩ | refine ⟨_, h1, ?_⟩); (try rintro _ rfl)) | (refine wrap_succ ?_; omega))))
  | some i =>
    obtain ⟨f1, f2, f3, f4⟩ := fstI_get hF
    have h1 : Ret env.P 47 [.s b] (fun r => r = .tup [.i .i64 ((decL ((bsN b).take (i + 1)) : Nat) : Int), .i .i64 ((i : Int) + 1)]) := (l01Leb_ok b hs).mono fun r h => by unfold lebV at h; rw [hF] at h; exact h
    have hc := canon f1 f3 f4
    have hp := (putLeb_spec _ (dec63 (b := b) f2)).toRet
    refine ret_of (nt := 24) (rvs := [.tmp 2, .tmp 3, .tmp 4]) Try.func40 rfl rfl rfl rfl (fun X => ?_)
    repeat' (first | omega | (with_reducible show (_ : Int) < _; dsimp only; omega) | (with_reducible show (_ : Nat) ≤ _; dsimp only; omega) | ((with_reducible show SrcOk _ _ _) <;> (first | exact srcOk_1 rfl | exact srcOk_L (fun _ => ⟨rfl, rfl⟩) | exact srcOk_E (fun _ => ⟨rfl, rfl⟩))) | ((conv => whnf) <;> (first | (exfalso; omega) | refine And.intro ?_ ?_ | (intro _h; first | contradiction | (try simp only [dd] at _h)) | (refine dt_go ?_) | exact rfl | exact True.intro | exact dkk | exact dks | ((first | refine .inl ⟨_, h1, ?_⟩ | refine ⟨_, h1, ?_⟩); (try rintro _ rfl)) | ((first | refine .inl ⟨_, hp, ?_⟩ | refine ⟨_, hp, ?_⟩); (try rintro _ rfl)) | (refine wrap_succ ?_; omega))))
    all_goals (conv => whnf)
    all_goals rw [show ((i : Int) + 1).toNat = i + 1 by omega] at _h
    · have hg : getL b = (0, 0, false) := by
        unfold getL
        rw [hF]
        exact if_neg fun q => _h (hc.mpr q)
      rw [hg]
      rfl
    · have hg : getL b = (((decL ((bsN b).take (i + 1)) : Nat) : Int), (i : Int) + 1, true) := by
        unfold getL
        rw [hF]
        exact if_pos (hc.mp _h)
      rw [hg]
      rfl
theorem i7 {k : Nat} (hk : k < 9) : IntKind.i64.wrap (7 * (k : Int)) = ((7 * k : Nat) : Int) := by rw [wrap_in (by omega) (by omega)]; omega
theorem i7_nn {k : Nat} (hk : k < 9) : 0 ≤ IntKind.i64.wrap (7 * (k : Int)) := by rw [i7 hk]; omega
theorem step_orU {b : ByteArray} {k : Nat} (hk : k < b.size) (h9 : k < 9) : bits .or .u64 (decL ((bsN b).take k) : Int) (IntKind.u64.wrap (IntKind.u64.wrap (bits .and .u8 ((b.data.getD k 0).toNat : Int) 127) * 2 ^ min (7 * k) 64)) = (decL ((bsN b).take (k + 1)) : Int) := by
  have hl : k < (bsN b).length := by rw [bsN_len]; exact hk
  have hx := byte_lt b k
  have hn : ((bsN b).take k).length = k := by rw [List.length_take]; omega
  have e : (((b.data.getD k 0).toNat : Int) % 128) = (((bsN b).getD k 0 % 128 : Nat) : Int) := by rw [bsN_at]; omega
  have hw : IntKind.u64.wrap (((b.data.getD k 0).toNat : Int) % 128) = ((b.data.getD k 0).toNat : Int) % 128 := by rw [IntKind.wrap_u64]; omega
  rw [and_u8 hx, hw, show min (7 * k) 64 = 7 * k by omega, e, take_snocN hl]
  generalize (bsN b).getD k 0 = x
  generalize (bsN b).take k = l at hn
  subst hn
  have h1 := dec_lt l
  have hp : (128 : Nat) ^ l.length = 2 ^ (7 * l.length) := by rw [Nat.pow_mul]
  have h8 : (128 : Nat) ^ l.length ≤ 128 ^ 8 := Nat.pow_le_pow_right (by decide) (by omega)
  have hm : x % 128 * 2 ^ (7 * l.length) ≤ 127 * 128 ^ 8 := by
    rw [← hp]
    exact Nat.mul_le_mul (by omega) h8
  have hc : ((x % 128 : Nat) : Int) * 2 ^ (7 * l.length) = ((x % 128 * 2 ^ (7 * l.length) : Nat) : Int) := by push_cast; rfl
  have h9 : (128 : Nat) ^ 8 = 72057594037927936 := by decide
  have hw2 : IntKind.u64.wrap ((x % 128 * 2 ^ (7 * l.length) : Nat) : Int) = ((x % 128 * 2 ^ (7 * l.length) : Nat) : Int) := by rw [IntKind.wrap_u64]; omega
  rw [hc, hw2, or_u64 ⟨by omega, by omega⟩ ⟨by omega, by omega⟩, Int.toNat_natCast, Int.toNat_natCast, or_add (by rw [← hp]; exact h1), dec_snoc, hp]
theorem wrap_dec {b : ByteArray} {k : Nat} (h9 : k < 9) : IntKind.i64.wrap (decL ((bsN b).take (k + 1)) : Int) = (decL ((bsN b).take (k + 1)) : Int) := by
  have := dec63 (b := b) h9
  exact wrap_in (by omega) (by omega)
theorem getL_some {b : ByteArray} {k : Nat} (h : FstTo b k) (hk : k < b.size) (h9 : k < 9) (hb : (b.data.getD k 0).toNat < 128) : getL b = if k = 0 ∨ ¬ (b.data.getD k 0).toNat = 0 then (((decL ((bsN b).take (k + 1)) : Nat) : Int), (k : Int) + 1, true) else (0, 0, false) := by
  unfold getL
  rw [fstI_some hk h9 (by rw [bsN_at]; exact hb) h]
  dsimp only
  rw [bsN_at]
theorem getL_none {b : ByteArray} {k : Nat} (h : FstTo b k) (hk : b.size ≤ k ∨ 9 ≤ k) : getL b = (0, 0, false) := by
  unfold getL
  rw [fstI_none h hk]
set_option maxHeartbeats 4000000 in
theorem getLeb_impl (b : ByteArray) (hs : b.size ≤ 1048576) : Ret env.P 43 [.s b] (fun r => r = getR (getL b)) := by
  refine ret_of (nt := 43) (rvs := [.tmp 2, .tmp 3, .tmp 4]) Try.func43 rfl rfl rfl rfl (fun X => ?_)
  repeat' (first | omega | (with_reducible show (_ : Int) < _; dsimp only; omega) | (with_reducible show (_ : Nat) ≤ _; dsimp only; omega) | ((with_reducible show SrcOk _ _ _) <;> (first | exact srcOk_1 rfl | exact srcOk_L (fun _ => ⟨rfl, rfl⟩) | exact srcOk_E (fun _ => ⟨rfl, rfl⟩))) | ((conv => whnf) <;> (first | exact i7_nn (by omega) | refine loopN (min b.size 9) (fun k => [(6, .i .i64 k), (5, .i .u64 (decL ((bsN b).take k) : Nat))]) (fun k => []) (fun k => FstTo b k) ⟨.zero b, ?_⟩ | refine And.intro ?_ ?_ | (intro _h; first | contradiction | (try simp only [dd] at _h)) | (refine dt_go ?_) | exact rfl | exact True.intro | exact dkk | exact dks | (refine wrap_succ ?_; omega))))
  all_goals (try simp only [Int.toNat_natCast] at *)
  all_goals first
    | exact fst_next ‹_› (by omega)
    | (rw [i7 (by omega), Int.toNat_natCast]; exact step_orU (by omega) (by omega))
    | (conv => whnf
       have e := getL_none ‹FstTo b _› (by omega)
       rw [e]
       rfl)
    | (conv => whnf
       have e := getL_some ‹FstTo b _› (by omega) (by omega) (by omega)
       rw [if_neg (by omega)] at e
       rw [e]
       rfl)
    | (conv => whnf
       have e := getL_some ‹FstTo b _› (by omega) (by omega) (by omega)
       rw [if_pos (by omega)] at e
       rw [e]
       refine leaf_iib ?_ ?_ rfl
       · rw [i7 (by omega), Int.toNat_natCast, show IntKind.u64.bits = 64 from rfl, step_orU (by omega) (by omega)]
         exact wrap_dec (by omega)
       · exact wrap_in (by omega) (by omega))
    | trace_state
end
def ow1 : AV → Bool
  | .ow .. => true
  | _ => false
theorem own_nil {w : World} {S : Nat → Prop} {blk : Nat → BC} {H : Hp} {x : AV} {u : Value} {fp : List Nat} (h : Own w S blk H x u fp) (hx : ow1 x = false) : fp = [] := by
  cases h with
  | plain => rfl
  | ow0 => cases hx
  | ow => cases hx
def PlainH (H : Hp) : Prop := ∀ (k : Nat) (x : Option Row), H[k]? = some x → ∃ r : Row, x = some r ∧ 0 < r.cap ∧ ∀ i j, i < r.cap → j < r.sz → ow1 (r.es i j) = false
theorem plainH_nil : PlainH [] := fun k x h => by simp at h
def FrzP (π : List Nat) (post : AV → Hp → Prop) (r : AV) (H : Hp) : Prop := ∃ (H1 : Hp) (r1 : AV), ViewOk π H H1 ∧ WkC (shr (outM π 0 H) r) r1 ∧ post r1 H1
theorem RetM.frz {P : Program} {g : FuncId} {H0 : Hp} {avs : List AV} {post : AV → Hp → Prop} (π : List Nat) (hπe : List.range H0.length = π) (hp : PlainH H0) (h : RetM P g H0 avs (FrzP π post)) : RetM P g H0 avs post := .mk fun w S blk FP us hR hG hc => by
  have hbk : ∀ (k : Nat) (r : Row), H0[k]? = some (some r) → RowOk w S blk H0 [(blk k).b] (blk k) r ∧ (blk k).b ∈ FP k := fun k r hr => by
    obtain ⟨r', e, hcap, hpl⟩ := hp k _ hr
    cases e
    obtain ⟨h1, h2⟩ := hR.rows k r hr
    rcases h1 with ⟨h0, _⟩ | ⟨c0, c1, c2, c3, ty, cur, F, d1, d2, d3, d4, d5, d6⟩
    · omega
    · refine ⟨.inr ⟨c0, c1, c2, List.mem_singleton.2 rfl, ty, cur, fun _ _ => [], d1, d2, d3, fun i j hi hj => ?_, fun i j _ _ x hx => by simp at hx, fun i j i' j' _ _ _ _ _ x hx => by simp at hx⟩, c3⟩
      obtain ⟨u, e1, e2, e3⟩ := d4 i j hi hj
      have := own_nil e3 (hpl i j hi hj)
      rw [this] at e3
      exact ⟨u, e1, e2, e3⟩
  have hR' : RowsIn w S blk (fun k => [(blk k).b]) H0 := ⟨fun id r hr => ⟨(hbk id r hr).1, fun b hb => by
      rw [List.mem_singleton.1 hb]
      exact (hR.rows id r hr).2 _ (hbk id r hr).2⟩, fun i j r r' hi hj hij b hb hb' => by
      rw [List.mem_singleton.1 hb] at hb'
      have e := List.mem_singleton.1 hb'
      exact hR.apart i j r r' hi hj hij _ (hbk i r hi).2 (e ▸ (hbk j r' hj).2), fun b hb => ⟨(hR.free b hb).1, fun id r hr hm => by
      have e := List.mem_singleton.1 hm
      subst e
      exact (hR.free _ hb).2 id r hr (hbk id r hr).2⟩⟩
  refine (h.h w S blk (fun k => [(blk k).b]) us hR' hG hc).mono ?_
  rintro e w' ⟨r, u, H', blk', FP', he, ⟨H1, r1, hv, hw, hq⟩, hR2, hc2, hext, hfr, hk⟩
  have hmem : ∀ i, i ∈ π ↔ i < H0.length := fun i => by rw [← hπe]; exact List.mem_range
  have hat0 : ∀ k, k < H0.length → π[k]? = some k := fun k hk => by rw [← hπe]; simp [hk]
  have hπ : ∀ i ∈ π, i < H'.length := fun i hi => by
    obtain ⟨k, hk⟩ := List.getElem?_of_mem hi
    obtain ⟨_, y, _, hy, _⟩ := hv.row k i hk
    exact (List.getElem?_eq_some_iff.1 hy).1
  have hsm : ∀ k, k < π.length → sig π H'.length k ∈ π := fun k hk => by
    unfold sig
    rw [List.getElem?_eq_getElem hk]
    exact List.getElem_mem hk
  have hat : ∀ {k : Nat} {x : Row}, H1[k]? = some (some x) → k < π.length ∧ ∃ y, H'[sig π H'.length k]? = some (some y) ∧ RowBack (sig π H'.length) π.length x y := by
    intro k x hx
    have hk : k < π.length := by rw [← hv.len]; exact (List.getElem?_eq_some_iff.1 hx).1
    have hk' : π[k]? = some π[k] := List.getElem?_eq_getElem hk
    obtain ⟨x', y, h1, h2, h3⟩ := hv.row k _ hk'
    rw [hx] at h1
    cases h1
    exact ⟨hk, y, by unfold sig; rw [hk']; exact h2, h3⟩
  have hB : Back (sig π H'.length) π.length H' blk' H1 (fun k => blk' (sig π H'.length k)) := by
    intro k hk
    have hk' : π[k]? = some π[k] := List.getElem?_eq_getElem hk
    obtain ⟨x', y, h1, h2, h3⟩ := hv.row k _ hk'
    exact ⟨x', y, h1, by unfold sig; rw [hk']; exact h2, h3.sz, h3.cap, rfl⟩
  have hS : ∀ b, aftS S w.heap.size w'.heap.size FP' H' b → aftS S w.heap.size w'.heap.size (fun k => FP' (sig π H'.length k)) H1 b := fun b hb => ⟨hb.1, hb.2.1, fun k x hx => by
    obtain ⟨_, y, hy, _⟩ := hat hx
    exact hb.2.2 _ y hy⟩
  have hfz : ∀ (id : Nat) (y : Row), (outM π 0 H')[id]? = some (some y) → ∀ b ∈ FP' id, aftS S w.heap.size w'.heap.size (fun k => FP' (sig π H'.length k)) H1 b := fun id y hy b hb => by
    obtain ⟨hy, hn⟩ := outM_row hy
    refine ⟨?_, (hR2.rows id y hy).2 b hb, fun k x hx hbk' => ?_⟩
    · rcases hfr b ⟨id, y, hy, hb⟩ with h1 | ⟨k, r0, hr0, hb0⟩
      · exact .inr h1
      · exfalso
        have hk0 : k < H0.length := (List.getElem?_eq_some_iff.1 hr0).1
        obtain ⟨x', y', _, h2, _⟩ := hv.row k k (hat0 k hk0)
        rcases hext k _ hr0 with h4 | ⟨ra, rb, ea, h5, h6, h7, h8⟩
        · rw [h2] at h4; cases h4
        · cases ea
          obtain ⟨_, e0, hcap, _⟩ := hp k _ hr0
          cases e0
          have hb1 : (blk' k).b ∈ FP' k := by
            rcases (hR2.rows k rb h5).1 with ⟨h0, _⟩ | ⟨_, _, _, c3, _⟩
            · omega
            · exact c3
          rw [List.mem_singleton.1 hb0, ← h8] at hb
          exact hR2.apart k id rb y h5 hy (fun e => hn (e ▸ (hmem k).2 hk0)) _ hb1 hb
    · obtain ⟨hk', y', hy', _⟩ := hat hx
      exact hR2.apart id _ y y' hy hy' (fun e => hn (e ▸ hsm k hk')) b hb hbk'
  refine ⟨r1, u, H1, fun k => blk' (sig π H'.length k), fun k => FP' (sig π H'.length k), he, hq, ⟨fun k x hx => ?_, fun i j x x' hi hj hij => ?_, fun b hb => ⟨hb.2.1, hb.2.2⟩⟩, ?_, fun k x hx => ?_, fun b hb => ?_, ?_⟩
  · obtain ⟨_, y, hy, hrb⟩ := hat hx
    obtain ⟨h1, h2⟩ := hR2.rows _ y hy
    exact ⟨h1.back hrb (fun b hb => ⟨hS b hb, rfl⟩) hB fun _ _ => rfl, h2⟩
  · obtain ⟨_, y, hy, _⟩ := hat hi
    obtain ⟨_, y', hy', _⟩ := hat hj
    exact hR2.apart _ _ y y' hy hy' fun e => hij (sig_inj hv.nodup hπ e)
  · have c3 : Conc w' _ blk' (outM π 0 H') r u := hc2.mono (fun b hb => ⟨hb, rfl⟩) outM_ext
    have c4 : Conc w' (aftS S w.heap.size w'.heap.size (fun k => FP' (sig π H'.length k)) H1) (fun _ => ⟨0, 0⟩) [] (shr (outM π 0 H') r) u :=
      shr_conc (FP := FP') hS (fun id y hy => ⟨(hR2.rows id y (outM_row hy).1).1.mono (fun b hb => ⟨hb, rfl⟩) outM_ext fun _ _ => rfl, hfz id y hy⟩) c3
    exact (hw _ _ _ c4).mono (fun b hb => ⟨hb, rfl⟩) fun id x hx => by simp at hx
  · have hk0 : k < H0.length := (List.getElem?_eq_some_iff.1 hx).1
    obtain ⟨x', y, h1, h2, h3⟩ := hv.row k k (hat0 k hk0)
    rcases hext k x hx with h4 | ⟨r, r', rfl, h5, h6, h7, h8⟩
    · rw [h2] at h4; cases h4
    · rw [h2] at h5
      cases h5
      refine .inr ⟨r, x', rfl, h1, h3.sz.trans h6, h3.cap.trans h7, ?_⟩
      show blk' (sig π H'.length k) = blk k
      unfold sig
      rw [hat0 k hk0]
      exact h8
  · obtain ⟨k, x, hx, hb⟩ := hb
    obtain ⟨_, y, hy, _⟩ := hat hx
    rcases hfr b ⟨_, y, hy, hb⟩ with h1 | ⟨k', r0, hr0, hb0⟩
    · exact .inl h1
    · exact .inr ⟨k', r0, hr0, by rw [List.mem_singleton.1 hb0]; exact (hbk k' r0 hr0).2⟩
  · exact ⟨hk.os, hk.tape, hk.output, hk.size, fun k hlt hm => hk.block k hlt fun ⟨k', r0, hr0, hb0⟩ => hm ⟨k', r0, hr0, by rw [List.mem_singleton.1 hb0]; exact (hbk k' r0 hr0).2⟩⟩
theorem frz_tup {H : Hp} {cs ds : List AV} (h : WkL (cs.map fun c => match c with | .agg ds => .agg (ds.map (shrC 5 H)) | c => shrC 5 H c) ds) : WkC (shr H (.tup cs)) (.tup ds) := fun w S u hu => by
  obtain ⟨us, rfl, hl, hc⟩ := inv_tup hu
  refine .tup _ us (hl.trans h.1) fun j c u hj hju => ?_
  have hlt : j < (cs.map fun c => match c with | .agg ds => AV.agg (ds.map (shrC 5 H)) | c => shrC 5 H c).length := by rw [h.1]; exact (List.getElem?_eq_some_iff.1 hj).1
  exact (h.2 j _ c (List.getElem?_eq_getElem hlt) hj).c w S u (hc j _ u (List.getElem?_eq_getElem hlt) hju)
theorem RetM.toRetG {P : Program} {g : FuncId} {av : List AV} {post : AV → Prop} (h : RetM P g [] av (fun r H => post r ∧ H = [])) : Ret P g av post := .mk fun w S us hS hc => by
  refine (h.h w S (fun _ => ⟨0, 0⟩) (fun _ => []) us ⟨fun id r q => by simp at q, fun i j r r' q => by simp at q, fun b hb => ⟨hS b hb, fun id r q => by simp at q⟩⟩ hS.gl hc).mono ?_
  rintro e w' ⟨r, u, H', blk', FP', he, ⟨hq, rfl⟩, _, hcu, _, _, hk⟩
  refine ⟨r, u, he, hq, ?_, ⟨hk.os, hk.tape, hk.output, hk.size, fun k hlt => hk.block k hlt (by rintro ⟨id, r, q, _⟩; simp at q)⟩⟩
  have hcu' : Conc w' _ (fun _ => ⟨0, 0⟩) [] r u := hcu.nil
  exact hcu'.mono (fun b hb => ⟨hb.1.imp_right fun q => ⟨q, hb.2.1⟩, rfl⟩) (HExt.refl _ _)
theorem Ret.ofFrz {P : Program} {g : FuncId} {av : List AV} {post : AV → Prop} (h : RetM P g [] av (FrzP [] fun r H => post r ∧ H = [])) : Ret P g av post := (RetM.frz [] rfl plainH_nil h).toRetG
theorem view_none {H : Hp} : ViewOk [] H [] := view_of rfl .nil
theorem frz0 {H : Hp} {r r1 : AV} {post : AV → Prop} (hw : WkC (shr (outM [] 0 H) r) r1) (hp : post r1) : FrzP [] (fun r H => post r ∧ H = []) r H := ⟨[], r1, view_none, hw, hp, rfl⟩
end Go.Proofs.Ytfaadafgbhmlfaa
