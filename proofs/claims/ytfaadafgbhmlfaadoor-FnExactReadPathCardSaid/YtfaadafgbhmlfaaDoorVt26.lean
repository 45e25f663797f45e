/- Texts for VReadPathP. -/
import Derived.Lib.SplitLaws
import Derived.Test.YtfaadafgbhmlfaaDoorVt25
namespace Go.Proofs.YtfaadafgbhmlfaaDoor
open Go Go.RowKit
set_option linter.unusedVariables false
set_option linter.unusedSimpArgs false
set_option maxRecDepth 8000
section
attribute [local irreducible] IntKind.wrap
theorem rdV_r (s : ByteArray) : i64V (rdV s).1 := by
  unfold rdV
  split
  · rename_i v hv
    split
    · exact parse_r hv
    · exact ⟨by decide, by decide⟩
  · exact ⟨by decide, by decide⟩
theorem readDecimal_ok (s : ByteArray) (hs : s.size ≤ 281474976710656) : Ret env.P 51 [.s s] (fun r => r = .tup [.i .i64 (rdV s).1, .b (rdV s).2]) := .mk fun w S us hS hc => by
  obtain ⟨u, rfl, h1⟩ := concL_1 hc
  obtain ⟨rfl, _⟩ := inv_s h1
  have hr := rdV_r s
  refine (rd_walk s hs w hS.gl.now fun W hB => (hS.below hB (Nat.le_refl _)).gl.now).mono ?_
  rintro e w' ⟨rfl, hb⟩
  refine ⟨_, _, rfl, rfl, .tup _ [_, _] rfl (fun j c u hj hu => ?_), hb⟩
  match j with
  | 0 => cases hj; cases hu; exact conc_i (by have := hr.1; omega) (by have := hr.2; omega)
  | 1 => cases hj; cases hu; exact .b _
  | j + 2 => cases hj
theorem withinV_ok (x lo hi : Int) : Ret env.P 52 [.i .i64 x, .i .i64 lo, .i .i64 hi] (fun r => r = .b (decide (lo ≤ x ∧ x ≤ hi))) := by
  refine ret_of (nt := 15) (rvs := [.tmp 6]) Tryd.func52 rfl rfl rfl rfl (fun X => ?_)
  repeat' (first | omega | (with_reducible show (_ : Int) < _; dsimp only; omega) | (with_reducible show (_ : Nat) ≤ _; dsimp only; omega) | ((with_reducible show SrcOk _ _ _) <;> (first | exact srcOk_1 rfl | exact srcOk_L (fun _ => ⟨rfl, rfl⟩) | exact srcOk_E (fun _ => ⟨rfl, rfl⟩))) | ((conv => whnf) <;> (first | refine And.intro ?_ ?_ | (intro _h; first | contradiction | (try simp only [dd] at _h)) | (refine dt_go ?_) | exact rfl | exact True.intro | exact dkk | exact dks | (refine wrap_succ ?_; omega))))
  all_goals (refine leaf_b ?_; rw [Bool.eq_iff_iff]; simp at *; omega)
def goodV (s : ByteArray) : Prop := (rdV s).2 = true ∧ 0 ≤ (rdV s).1 ∧ (rdV s).1 ≤ 999
def accV (l : List ByteArray) : Nat → Int
  | 0 => 0
  | k + 1 => accV l k * 1000 + (rdV (l.getD k default)).1
structure VnI (l : List ByteArray) (k : Nat) : Prop where
  h : ∀ j, j < k → goodV (l.getD j default)
theorem VnI.zero (l : List ByteArray) : VnI l 0 := ⟨fun j hj => absurd hj (Nat.not_lt_zero _)⟩
theorem VnI.succ {l : List ByteArray} {k : Nat} (h : VnI l k) (h1 : (rdV (l.getD k default)).2 = true) (h2 : 0 ≤ (rdV (l.getD k default)).1 ∧ (rdV (l.getD k default)).1 ≤ 999) : VnI l (k + 1) := ⟨fun j hj => by
  rcases Nat.lt_or_ge j k with q | q
  · exact h.h j q
  · obtain rfl : j = k := by omega
    exact ⟨h1, h2⟩⟩
theorem accV_lt {l : List ByteArray} : ∀ {k : Nat}, VnI l k → k ≤ 3 → 0 ≤ accV l k ∧ accV l k < 1000000000
  | 0, _, _ => ⟨Int.le_refl _, by show (0 : Int) < _; decide⟩
  | 1, h, _ => by have h0 := h.h 0 (by omega); obtain ⟨_, a, b⟩ := h0; simp only [accV]; omega
  | 2, h, _ => by obtain ⟨_, a, b⟩ := h.h 0 (by omega); obtain ⟨_, c, d⟩ := h.h 1 (by omega); simp only [accV]; omega
  | 3, h, _ => by obtain ⟨_, a, b⟩ := h.h 0 (by omega); obtain ⟨_, c, d⟩ := h.h 1 (by omega); obtain ⟨_, e, f⟩ := h.h 2 (by omega); simp only [accV]; omega
  | k + 4, _, h => by omega
def vnR (o : Option Nat) : AV := .tup [.i .i64 ((o.getD 0 : Nat) : Int), .b o.isSome]
theorem vnum_len {s : ByteArray} (h : ¬ (parts s).length = 3) : vnum s = none := by
  unfold vnum
  split
  · rename_i e
    rw [e] at h
    exact absurd rfl h
  · rfl
theorem three {l : List ByteArray} (h : l.length = 3) : ∃ p q r, l = [p, q, r] := by
  match l, h with
  | [p, q, r], _ => exact ⟨p, q, r, rfl⟩
theorem good_pd {s : ByteArray} : goodV s ↔ ∃ m, pdB s = some m := by
  constructor
  · intro h
    cases e : pdB s with
    | none => exact absurd h (rdV_none e)
    | some m => exact ⟨m, rfl⟩
  · rintro ⟨m, e⟩
    have h1 := rdV_some e
    have h2 := (pd_some e).1
    unfold goodV
    rw [h1]
    exact ⟨rfl, by show (0 : Int) ≤ (m : Int); omega, by show (m : Int) ≤ 999; omega⟩
theorem vnum_no {s : ByteArray} {k : Nat} (h3 : (parts s).length = 3) (hk : k < 3) (hb : ¬ goodV ((parts s).getD k default)) : vnum s = none := by
  obtain ⟨p, q, r, e⟩ := three h3
  rw [e] at hb
  cases hv : vnum s with
  | none => rfl
  | some n =>
    exfalso
    apply hb
    unfold vnum at hv
    rw [e] at hv
    dsimp only at hv
    split at hv
    · rename_i a b c e1 e2 e3
      rcases (show k = 0 ∨ k = 1 ∨ k = 2 by omega) with rfl | rfl | rfl
      · exact good_pd.2 ⟨_, e1⟩
      · exact good_pd.2 ⟨_, e2⟩
      · exact good_pd.2 ⟨_, e3⟩
    · cases hv
theorem vn_noF {s : ByteArray} {k : Nat} (hb : (rdV ((parts s).getD k default)).2 = false) (h3 : (parts s).length = 3) (hk : k < 3) : AV.tup [.i .i64 0, .b false] = vnR (vnum s) := by
  rw [vnum_no h3 hk (fun g => by rw [g.1] at hb; cases hb)]; rfl
theorem vn_noR {s : ByteArray} {k : Nat} (hb : ¬ (0 ≤ (rdV ((parts s).getD k default)).1 ∧ (rdV ((parts s).getD k default)).1 ≤ 999)) (h3 : (parts s).length = 3) (hk : k < 3) : AV.tup [.i .i64 0, .b false] = vnR (vnum s) := by
  rw [vnum_no h3 hk (fun g => hb g.2)]; rfl
theorem VnI.succ' {l : List ByteArray} {k : Nat} (h : VnI l k) (h1 : ¬ (rdV (l.getD ((k : Int)).toNat default)).2 = false) (h2 : 0 ≤ (rdV (l.getD ((k : Int)).toNat default)).1 ∧ (rdV (l.getD ((k : Int)).toNat default)).1 ≤ 999) : VnI l (k + 1) := by
  rw [Int.toNat_natCast] at h1 h2
  exact h.succ (by cases e : (rdV (l.getD k default)).2 with | true => rfl | false => exact absurd e h1) h2
theorem acc_wrap {l : List ByteArray} {k : Nat} (h : VnI l k) (hk : k < 3) (h2 : 0 ≤ (rdV (l.getD ((k : Int)).toNat default)).1 ∧ (rdV (l.getD ((k : Int)).toNat default)).1 ≤ 999) : IntKind.i64.wrap (IntKind.i64.wrap (accV l k * 1000) + (rdV (l.getD ((k : Int)).toNat default)).1) = accV l (k + 1) := by
  rw [Int.toNat_natCast] at h2 ⊢
  have := accV_lt h (by omega)
  have e : IntKind.i64.wrap (accV l k * 1000) = accV l k * 1000 := wrap_in (by omega) (by omega)
  rw [e, wrap_in (by omega) (by omega)]
  rfl
theorem vnum_yes {s : ByteArray} (h3 : (parts s).length = 3) (h : VnI (parts s) 3) : vnum s = some (accV (parts s) 3).toNat := by
  obtain ⟨p, q, r, e⟩ := three h3
  rw [e] at h ⊢
  obtain ⟨a, ea⟩ := good_pd.1 (h.h 0 (by omega))
  obtain ⟨b, eb⟩ := good_pd.1 (h.h 1 (by omega))
  obtain ⟨c, ec⟩ := good_pd.1 (h.h 2 (by omega))
  have ra := rdV_some ea
  have rb := rdV_some eb
  have rc := rdV_some ec
  have ha : accV [p, q, r] 3 = ((a * 1000 + b) * 1000 + c : Nat) := by
    simp only [accV, ra, rb, rc]
    omega
  rw [ha, Int.toNat_natCast]
  simp only [List.getD_cons_zero, List.getD_cons_succ] at ea eb ec
  unfold vnum
  rw [e]
  simp only [ea, eb, ec]
theorem vn_yes {s : ByteArray} {k : Nat} (h3 : (parts s).length = 3) (h : VnI (parts s) k) (hk : k = 3) : AV.tup [.i .i64 (accV (parts s) k), .b true] = vnR (vnum s) := by
  subst hk
  have := accV_lt h (by omega)
  rw [vnum_yes h3 h]
  unfold vnR
  simp only [Option.getD_some, Option.isSome_some]
  rw [Int.toNat_of_nonneg this.1]
theorem vn_no {s : ByteArray} (h : vnum s = none) : AV.tup [.i .i64 0, .b false] = vnR (vnum s) := by rw [h]; rfl
set_option maxHeartbeats 4000000 in
theorem versionNumber_ok (s : ByteArray) (hs : s.size ≤ 1000000000) : Ret env.P 44 [.s s] (fun r => r = vnR (vnum s)) := by
  have hpz : ∀ k, k < (parts s).length → ((parts s).getD k default).size ≤ 281474976710656 := fun k hk => by
    have := parts_size (s := s) (p := (parts s).getD k default) (by rw [List.getD_eq_getElem?_getD, List.getElem?_eq_getElem hk]; exact List.getElem_mem hk)
    omega
  refine ret_of (nt := 39) (rvs := [.tmp 2, .tmp 3]) Tryd.func44 rfl rfl rfl rfl (fun X => ?_)
  repeat' (first | omega | (with_reducible show (_ : Int) < _; dsimp only; omega) | (with_reducible show (_ : Nat) ≤ _; dsimp only; omega) | ((with_reducible show SrcOk _ _ _) <;> (first | exact srcOk_1 rfl | exact srcOk_L (fun _ => ⟨rfl, rfl⟩) | exact srcOk_E (fun _ => ⟨rfl, rfl⟩))) | ((conv => whnf) <;> (first | exact vn_no (vnum_len (by omega)) | exact vn_noF ‹_› (by omega) (by omega) | exact vn_noR ‹_› (by omega) (by omega) | exact VnI.succ' ‹_› ‹_› ‹_› | exact acc_wrap ‹VnI _ _› (by omega) ‹_› | exact vn_yes (by omega) ‹_› (by omega) | refine loopN (parts s).length (fun k => [(17, .i .i64 k), (5, .i .i64 (accV (parts s) k))]) (fun k => []) (fun k => VnI (parts s) k) ⟨.zero _, ?_⟩ | refine And.intro ?_ ?_ | (intro _h; first | contradiction | (try simp only [dd] at _h)) | (refine dt_go ?_) | exact rfl | exact True.intro | exact dkk | exact dks | ((first | refine .inl ⟨_, split_ok s (by omega), ?_⟩ | refine ⟨_, split_ok s (by omega), ?_⟩); (try rintro _ rfl)) | ((first | refine .inl ⟨_, readDecimal_ok _ (hpz _ (by omega)), ?_⟩ | refine ⟨_, readDecimal_ok _ (hpz _ (by omega)), ?_⟩); (try rintro _ rfl)) | ((first | refine .inl ⟨_, withinV_ok _ _ _, ?_⟩ | refine ⟨_, withinV_ok _ _ _, ?_⟩); (try rintro _ rfl)) | (refine wrap_succ ?_; omega))))
theorem dgB_size (n : Nat) : (dgB n).size ≤ 3 := by
  show (dg n).length ≤ 3
  unfold dg
  split <;> (try split) <;> simp
theorem le_max {n : Nat} (h : n ≤ 1000000000) : n ≤ maxLen := Nat.le_trans h (by decide)
def Rng.cs (r : Rng) : List AV := [.i .i64 r.low, .i .i64 r.below]
end
section
attribute [local irreducible] IntKind.wrap
theorem mx (a b : Int) : (if b > a then b else a) = max a b := by split <;> omega
structure RtI (m : Nat) (b : Int) (k : Nat) : Prop where
  h : ∀ j, j < k → ¬ ((belowN (opsV4.getD j default) m : Nat) : Int) = b
theorem RtI.zero (m : Nat) (b : Int) : RtI m b 0 := ⟨fun j hj => absurd hj (Nat.not_lt_zero _)⟩
theorem RtI.succ {m : Nat} {b : Int} {k : Nat} (h : RtI m b k) (hn : ¬ ((belowN (opsV4.getD k default) m : Nat) : Int) = b) : RtI m b (k + 1) := ⟨fun j hj => by
  rcases Nat.lt_or_ge j k with q | q
  · exact h.h j q
  · obtain rfl : j = k := by omega
    exact hn⟩
end
def byteC (b : UInt8) : List AV := [.i .u8 b.toNat]
structure Src where
  code : List UInt8
  at' : Int
  seed : Int
def Src.cs (s : Src) : List AV := [slL 1 byteC s.code, .i .i64 s.at', .i .u64 s.seed]
def Src.ok (s : Src) (n : Int) : Prop := 0 ≤ s.at' ∧ s.at' + n ≤ 1000000000 ∧ s.code.length ≤ 2000000
def Src.byte (s : Src) : Int := if s.at' < s.code.length then ((s.code.getD s.at'.toNat default).toNat : Int) else 0
def Src.next (s : Src) : Src := ⟨s.code, s.at' + 1, IntKind.u64.wrap (IntKind.u64.wrap (IntKind.u64.wrap (s.seed * 6364136223846793005) + s.byte) + 1442695040888963407)⟩
section
attribute [local irreducible] IntKind.wrap
def Src.rm (s : Src) (n : Int) : Prop := 0 ≤ s.at' ∧ s.at' + n ≤ 100000000 ∧ s.code.length ≤ 2000000
theorem Src.rm.ok {s : Src} {n : Int} (h : s.rm n) (hn : 1 ≤ n) : s.ok 1 := ⟨h.1, by have := h.2.1; omega, h.2.2⟩
end
section
attribute [local irreducible] IntKind.wrap
theorem l00InV_ok (x lo hi : Int) : Ret env.P 45 [.i .i64 x, .i .i64 lo, .i .i64 hi] (fun r => r = .b (decide (lo ≤ x ∧ x ≤ hi))) := by
  refine ret_of (nt := 15) (rvs := [.tmp 6]) Tryd.func45 rfl rfl rfl rfl (fun X => ?_)
  repeat' (first | omega | (with_reducible show (_ : Int) < _; dsimp only; omega) | (with_reducible show (_ : Nat) ≤ _; dsimp only; omega) | ((with_reducible show SrcOk _ _ _) <;> (first | exact srcOk_1 rfl | exact srcOk_L (fun _ => ⟨rfl, rfl⟩) | exact srcOk_E (fun _ => ⟨rfl, rfl⟩))) | ((conv => whnf) <;> (first | refine And.intro ?_ ?_ | (intro _h; first | contradiction | (try simp only [dd] at _h)) | (refine dt_go ?_) | exact rfl | exact True.intro | exact dkk | exact dks | (refine wrap_succ ?_; omega))))
  all_goals (refine leaf_b ?_; rw [Bool.eq_iff_iff]; simp at *; omega)
theorem bytes1 {g : Nat → Nat → AV} {z : Int} (h : g 0 0 = .i .u8 z) : Bytes 1 g := ⟨fun i hi => by
  obtain rfl : i = 0 := by omega
  exact ⟨z, h⟩⟩
theorem bytesOf1 {g : Nat → Nat → AV} {z : Nat} (h : g 0 0 = .i .u8 (z : Int)) : bytesOf 1 g = ⟨#[UInt8.ofNat z]⟩ := by
  unfold bytesOf
  simp [h]
  rfl
theorem bytesOf_sz (n : Nat) (g : Nat → Nat → AV) : (bytesOf n g).size = n := by
  unfold bytesOf
  show ((List.range n).map _).length = n
  simp
theorem dec_cat {l : List UInt8} {g : Nat → Nat → AV} {z : Nat} (h : g 0 0 = .i .u8 (z : Int)) : AV.s ((⟨l.toArray⟩ : ByteArray) ++ bytesOf 1 g) = AV.s ⟨(l ++ [UInt8.ofNat z]).toArray⟩ := by
  rw [bytesOf1 h]
  congr 1
theorem dig_eq {n : Int} (h : 0 ≤ n ∧ n < 10) : IntKind.u8.wrap (IntKind.i64.wrap (48 + n)) = ((48 + n.toNat : Nat) : Int) := by
  rw [wrap_in (by omega) (by omega), IntKind.wrap_u8]
  omega
theorem dec0_ok (n : Nat) (h : n < 10) : Ret env.P 53 [.i .i64 (n : Int)] (fun r => r = .s ⟨(Lib.decDigits n).toArray⟩) := by
  have e : Lib.decDigits n = [UInt8.ofNat (48 + n)] := by rw [Lib.decDigits, dif_pos h]
  have e2 := dig_eq (n := (n : Int)) (by omega)
  rw [Int.toNat_natCast] at e2
  rw [e]
  refine ret_of (nt := 20) (rvs := [.tmp 2]) Tryd.func53 rfl rfl rfl rfl (fun X => ?_)
  repeat' (first | omega | (with_reducible show (_ : Int) < _; dsimp only; omega) | (with_reducible show (_ : Nat) ≤ _; dsimp only; omega) | ((with_reducible show SrcOk _ _ _) <;> (first | exact srcOk_1 rfl | exact srcOk_L (fun _ => ⟨rfl, rfl⟩) | exact srcOk_E (fun _ => ⟨rfl, rfl⟩))) | ((conv => whnf) <;> (first | exact bytes1 rfl | exact congrArg AV.s (bytesOf1 (congrArg (AV.i .u8) e2)) | refine And.intro ?_ ?_ | (intro _h; first | contradiction | (try simp only [dd] at _h)) | (refine dt_go ?_) | exact rfl | exact True.intro | exact dkk | exact dks | (refine wrap_succ ?_; omega))))
theorem decD_len {n : Nat} : ∀ {k : Nat}, n < 10 ^ (k + 1) → (Lib.decDigits n).length ≤ k + 1
  | 0, h => by rw [Lib.decDigits, dif_pos (by simpa using h)]; exact Nat.le_refl _
  | k + 1, h => by
    rw [Lib.decDigits]
    split
    · simp
    · rename_i q
      have := decD_len (n := n / 10) (k := k) (by rw [Nat.pow_succ] at h; omega)
      rw [List.length_append, List.length_singleton]
      omega
theorem dec_ok : ∀ (k n : Nat), n < 10 ^ (k + 1) → k ≤ 10 → Ret env.P 53 [.i .i64 (n : Int)] (fun r => r = .s ⟨(Lib.decDigits n).toArray⟩)
  | 0, n, h, _ => dec0_ok n (by simpa using h)
  | k + 1, n, h, hk => by
    by_cases q : n < 10
    · exact dec0_ok n q
    · have ih := dec_ok k (n / 10) (by rw [Nat.pow_succ] at h; omega) (by omega)
      have hn : n < 1000000000000 := Nat.lt_of_lt_of_le h (Nat.pow_le_pow_right (by decide) (show k + 1 + 1 ≤ 12 by omega))
      have e : Lib.decDigits n = Lib.decDigits (n / 10) ++ [UInt8.ofNat (48 + n % 10)] := by rw [Lib.decDigits, dif_neg q]
      have e2 := dig_eq (n := (n : Int).tmod 10) (by rw [Int.tmod_eq_emod_of_nonneg (by omega)]; omega)
      have e3 : ((n : Int).tmod 10).toNat = n % 10 := by rw [Int.tmod_eq_emod_of_nonneg (by omega)]; omega
      rw [e3] at e2
      have e4 : IntKind.i64.wrap ((n : Int).tdiv 10) = ((n / 10 : Nat) : Int) := by rw [Int.tdiv_eq_ediv_of_nonneg (by omega), wrap_in (by omega) (by omega)]; rfl
      rw [← e4] at ih
      have hl := decD_len (n := n / 10) (k := 11) (by omega)
      have hs : (⟨(Lib.decDigits (n / 10)).toArray⟩ : ByteArray).size ≤ 12 := hl
      rw [e]
      refine ret_of (nt := 20) (rvs := [.tmp 2]) Tryd.func53 rfl rfl rfl rfl (fun X => ?_)
      repeat' (first | omega | (with_reducible show (_ : Int) < _; dsimp only; omega) | (with_reducible show (_ : Nat) ≤ _; dsimp only; omega) | ((with_reducible show SrcOk _ _ _) <;> (first | exact srcOk_1 rfl | exact srcOk_L (fun _ => ⟨rfl, rfl⟩) | exact srcOk_E (fun _ => ⟨rfl, rfl⟩))) | ((conv => whnf) <;> (first | exact bytes1 rfl | (refine le_max ?_; rw [bytesOf_sz]; omega) | exact dec_cat (congrArg (AV.i .u8) e2) | refine And.intro ?_ ?_ | (intro _h; first | contradiction | (try simp only [dd] at _h)) | (refine dt_go ?_) | exact rfl | exact True.intro | exact dkk | exact dks | ((first | refine .inl ⟨_, ih, ?_⟩ | refine ⟨_, ih, ?_⟩); (try rintro _ rfl)) | (refine wrap_succ ?_; omega))))
theorem dec_dg {n : Nat} (h : n < 1000) : Ret env.P 53 [.i .i64 (n : Int)] (fun r => r = .s (dgB n)) := by
  have := dec_ok 10 n (by omega) (by omega)
  rwa [decDigits_dg h] at this
set_option maxHeartbeats 4000000 in
theorem l02Text_ok (m : Nat) (h : m < 1000000000) : Ret env.P 46 [.i .i64 (m : Int)] (fun r => r = .s (vtext m)) := by
  have t1 : IntKind.i64.wrap ((m : Int).tdiv 1000000) = ((m / 1000000 : Nat) : Int) := by rw [Int.tdiv_eq_ediv_of_nonneg (by omega), wrap_in (by omega) (by omega)]; rfl
  have t3 : ∀ k : Nat, (k : Int).tmod 1000 = ((k % 1000 : Nat) : Int) := fun k => by rw [Int.tmod_eq_emod_of_nonneg (by omega)]; rfl
  have t2 : IntKind.i64.wrap ((m : Int).tdiv 1000) = ((m / 1000 : Nat) : Int) := by rw [Int.tdiv_eq_ediv_of_nonneg (by omega), wrap_in (by omega) (by omega)]; rfl
  have d1 : Ret env.P 53 [.i .i64 (IntKind.i64.wrap ((m : Int).tdiv 1000000))] (fun r => r = .s (dgB (m / 1000000))) := by rw [t1]; exact dec_dg (by omega)
  have d2 : Ret env.P 53 [.i .i64 ((IntKind.i64.wrap ((m : Int).tdiv 1000)).tmod 1000)] (fun r => r = .s (dgB (m / 1000 % 1000))) := by rw [t2, t3]; exact dec_dg (by omega)
  have d3 : Ret env.P 53 [.i .i64 ((m : Int).tmod 1000)] (fun r => r = .s (dgB (m % 1000))) := by rw [t3]; exact dec_dg (by omega)
  have z0 : (⟨#[46]⟩ : ByteArray).size = 1 := rfl
  have z1 := dgB_size (m / 1000000)
  have z2 := dgB_size (m / 1000 % 1000)
  have z3 := dgB_size (m % 1000)
  refine ret_of (nt := 17) (rvs := [.tmp 2]) Tryd.func46 rfl rfl rfl rfl (fun X => ?_)
  repeat' (first | omega | (with_reducible show (_ : Int) < _; dsimp only; omega) | (with_reducible show (_ : Nat) ≤ _; dsimp only; omega) | ((with_reducible show SrcOk _ _ _) <;> (first | exact srcOk_1 rfl | exact srcOk_L (fun _ => ⟨rfl, rfl⟩) | exact srcOk_E (fun _ => ⟨rfl, rfl⟩))) | ((conv => whnf) <;> (first | (refine le_max ?_; (try simp only [ByteArray.size_append]); omega) | refine And.intro ?_ ?_ | (intro _h; first | contradiction | (try simp only [dd] at _h)) | (refine dt_go ?_) | exact rfl | exact True.intro | exact dkk | exact dks | ((first | refine .inl ⟨_, d1, ?_⟩ | refine ⟨_, d1, ?_⟩); (try rintro _ rfl)) | ((first | refine .inl ⟨_, d2, ?_⟩ | refine ⟨_, d2, ?_⟩); (try rintro _ rfl)) | ((first | refine .inl ⟨_, d3, ?_⟩ | refine ⟨_, d3, ?_⟩); (try rintro _ rfl)) | (refine wrap_succ ?_; omega))))
theorem verOf_spec (n : Int) (h : 0 ≤ n ∧ n < 1000000000) : Ret env.P 46 [.i .i64 n] (fun r => r = .s (vtext n.toNat)) := by
  obtain ⟨m, rfl⟩ := Int.eq_ofNat_of_zero_le h.1
  exact l02Text_ok m (by omega)
end
section
attribute [local irreducible] IntKind.wrap
structure NmS where
  n : Int
  part : Int
  dots : Int
def okC (c : Nat) : Prop := c = 46 ∨ 48 ≤ c ∧ c ≤ 57
instance (c : Nat) : Decidable (okC c) := by unfold okC; infer_instance
def byN (b : ByteArray) (k : Nat) : Nat := (b.data.getD k 0).toNat
def nmStep (y : NmS) (c : Nat) : NmS := if c = 46 then ⟨IntKind.i64.wrap (IntKind.i64.wrap (y.n + y.part) * 1000), 0, IntKind.i64.wrap (y.dots + 1)⟩ else ⟨y.n, IntKind.i64.wrap (IntKind.i64.wrap (10 * y.part) + IntKind.i64.wrap (IntKind.u8.wrap ((c : Int) - 48))), y.dots⟩
def nmAt (b : ByteArray) : Nat → NmS
  | 0 => ⟨0, 0, 0⟩
  | k + 1 => nmStep (nmAt b k) (byN b k)
structure NmI (b : ByteArray) (k : Nat) : Prop where
  hk : k ≤ b.size
  h : ∀ j, j < k → okC (byN b j)
theorem NmI.zero (b : ByteArray) : NmI b 0 := ⟨Nat.zero_le _, fun j hj => absurd hj (Nat.not_lt_zero _)⟩
theorem NmI.succ {b : ByteArray} {k : Nat} (h : NmI b k) (h1 : okC (byN b k)) (hk : k < b.size) : NmI b (k + 1) := ⟨hk, fun j hj => by
  rcases Nat.lt_or_ge j k with q | q
  · exact h.h j q
  · obtain rfl : j = k := by omega
    exact h1⟩
def finS (b : ByteArray) (y : NmS) : Int :=
  if y.dots = 2 ∧ y.part ≤ 999 ∧ (0 ≤ IntKind.i64.wrap (y.n + y.part) ∧ IntKind.i64.wrap (y.n + y.part) ≤ 999999999) ∧ vtext (IntKind.i64.wrap (y.n + y.part)).toNat = b then IntKind.i64.wrap (y.n + y.part) else -1
def numS (b : ByteArray) : Int := if ∀ j, j < min b.size 12 → okC (byN b j) then finS b (nmAt b (min b.size 12)) else -1
theorem numS_no {b : ByteArray} {k : Nat} (hk : k < b.size) (h12 : k < 12) (h : ¬ okC (byN b k)) : (-1 : Int) = numS b := by
  unfold numS
  rw [if_neg (fun q => h (q k (by omega)))]
theorem numS_end {b : ByteArray} {k : Nat} (h : NmI b k) (hk : k = min b.size 12) : numS b = finS b (nmAt b k) := by
  unfold numS
  rw [if_pos (fun j hj => h.h j (by omega)), hk]
theorem nm_dot {b : ByteArray} {k : Nat} (h : byN b k = 46) : nmAt b (k + 1) = ⟨IntKind.i64.wrap (IntKind.i64.wrap ((nmAt b k).n + (nmAt b k).part) * 1000), 0, IntKind.i64.wrap ((nmAt b k).dots + 1)⟩ := by
  show nmStep _ _ = _
  unfold nmStep
  rw [if_pos h]
theorem nm_dig {b : ByteArray} {k : Nat} (h : ¬ byN b k = 46) : nmAt b (k + 1) = ⟨(nmAt b k).n, IntKind.i64.wrap (IntKind.i64.wrap (10 * (nmAt b k).part) + IntKind.i64.wrap (IntKind.u8.wrap ((byN b k : Nat) - 48))), (nmAt b k).dots⟩ := by
  show nmStep _ _ = _
  unfold nmStep
  rw [if_neg h]
theorem numS_c {b : ByteArray} {k : Nat} (_ : NmI b k) (hk : k < b.size) (h12 : k < 12) (h : ¬ okC (byN b k)) : (-1 : Int) = numS b := numS_no hk h12 h
theorem fin_no {b : ByteArray} {k : Nat} (h : NmI b k) (hx : ¬ (k < b.size ∧ k < 12)) (h12 : k ≤ 12) (hn : ¬ ((nmAt b k).dots = 2 ∧ (nmAt b k).part ≤ 999 ∧ (0 ≤ IntKind.i64.wrap ((nmAt b k).n + (nmAt b k).part) ∧ IntKind.i64.wrap ((nmAt b k).n + (nmAt b k).part) ≤ 999999999) ∧ vtext (IntKind.i64.wrap ((nmAt b k).n + (nmAt b k).part)).toNat = b)) : (-1 : Int) = numS b := by
  have := h.hk
  rw [numS_end h (by omega)]
  unfold finS
  rw [if_neg hn]
theorem fin_ok {b : ByteArray} {k : Nat} (h : NmI b k) (hx : ¬ (k < b.size ∧ k < 12)) (h12 : k ≤ 12) (hn : (nmAt b k).dots = 2 ∧ (nmAt b k).part ≤ 999 ∧ (0 ≤ IntKind.i64.wrap ((nmAt b k).n + (nmAt b k).part) ∧ IntKind.i64.wrap ((nmAt b k).n + (nmAt b k).part) ≤ 999999999) ∧ vtext (IntKind.i64.wrap ((nmAt b k).n + (nmAt b k).part)).toNat = b) : IntKind.i64.wrap ((nmAt b k).n + (nmAt b k).part) = numS b := by
  have := h.hk
  rw [numS_end h (by omega)]
  unfold finS
  rw [if_pos hn]
theorem in9 {x : Int} (h : 0 ≤ x ∧ x ≤ 999999999) : 0 ≤ x ∧ x < 1000000000 := by omega
set_option maxHeartbeats 4000000 in
theorem l02Num_ok (b : ByteArray) (hs : b.size ≤ 1000000) : Ret env.P 38 [.s b] (fun r => r = .i .i64 (numS b)) := by
  refine ret_of (nt := 71) (rvs := [.tmp 2]) Tryd.func38 rfl rfl rfl rfl (fun X => ?_)
  repeat' (first | omega | (with_reducible show (_ : Int) < _; dsimp only; omega) | (with_reducible show (_ : Nat) ≤ _; dsimp only; omega) | ((with_reducible show SrcOk _ _ _) <;> (first | exact srcOk_1 rfl | exact srcOk_L (fun _ => ⟨rfl, rfl⟩) | exact srcOk_E (fun _ => ⟨rfl, rfl⟩))) | ((conv => whnf) <;> (first | refine loopN 12 (fun k => [(6, .i .i64 k), (3, .i .i64 (nmAt b k).n), (4, .i .i64 (nmAt b k).part), (5, .i .i64 (nmAt b k).dots)]) (fun k => []) (fun k => NmI b k) ⟨.zero b, ?_⟩ | refine And.intro ?_ ?_ | (intro _h; first | contradiction | (try simp only [dd] at _h)) | (refine dt_go ?_) | exact rfl | exact True.intro | exact dkk | exact dks | ((first | refine .inl ⟨_, l00InV_ok _ _ _, ?_⟩ | refine ⟨_, l00InV_ok _ _ _, ?_⟩); (try rintro _ rfl)) | ((first | refine .inl ⟨_, verOf_spec _ (in9 (by assumption)), ?_⟩ | refine ⟨_, verOf_spec _ (in9 (by assumption)), ?_⟩); (try rintro _ rfl)) | (refine wrap_succ ?_; omega))))
  all_goals (try simp only [Int.toNat_natCast] at *)
  all_goals first
    | exact NmI.succ ‹_› (by unfold okC byN; omega) (by omega)
    | exact (congrArg NmS.n (nm_dot (by unfold byN; omega))).symm
    | exact (congrArg NmS.part (nm_dot (by unfold byN; omega))).symm
    | exact (congrArg NmS.dots (nm_dot (by unfold byN; omega))).symm
    | exact (congrArg NmS.n (nm_dig (by unfold byN; omega))).symm
    | exact (congrArg NmS.part (nm_dig (by unfold byN; omega))).symm
    | exact (congrArg NmS.dots (nm_dig (by unfold byN; omega))).symm
    | (conv => whnf
       exact leaf_i (numS_c ‹NmI b _› (by omega) (by omega) (by unfold okC byN; omega)))
    | (conv => whnf
       exact leaf_i (fin_no ‹NmI b _› (by omega) (by omega) (by rintro ⟨q1, q2, q3, q4⟩; first | omega | contradiction)))
    | (conv => whnf
       exact leaf_i (fin_ok ‹NmI b _› (by omega) (by omega) ⟨by assumption, by omega, by assumption, by assumption⟩))
    | trace_state
end
def spl : List UInt8 → List (List UInt8)
  | [] => [[]]
  | b :: l => if b = 46 then [] :: spl l else match spl l with
    | h :: t => (b :: h) :: t
    | [] => [[b]]
theorem spl_cons (b : UInt8) (l : List UInt8) : spl (b :: l) = if b = 46 then [] :: spl l else match spl l with
    | h :: t => (b :: h) :: t
    | [] => [[b]] := rfl
theorem ix_eq (l : List UInt8) : Lib.index ((46 : UInt8) :: l) [46] = ((0 : Nat) : Int) := by rw [Lib.index]; simp [List.isPrefixOf]
theorem ix_ne {b : UInt8} (h : b ≠ 46) (l : List UInt8) : Lib.index (b :: l) [46] = if Lib.index l [46] == -1 then -1 else Lib.index l [46] + 1 := by
  have hp : ([46] : List UInt8).isPrefixOf (b :: l) = false := by simp [List.isPrefixOf, Ne.symm h]
  rw [Lib.index, hp]
  simp
theorem spl_ok : ∀ l : List UInt8, Lib.splitK [46] 0 (Lib.count l [46]) l = spl l
  | [] => by rw [Lib.count_miss (by simp [Lib.index])]; rfl
  | b :: l => by
    have ih := spl_ok l
    by_cases h : b = 46
    · subst h
      rw [Lib.count_cons_eq, spl, if_pos rfl, ← ih, Nat.add_comm]
      rw [Lib.splitK, ix_eq]
      rfl
    · rw [Lib.count_cons_ne b 46 l h, spl, if_neg h, ← ih]
      by_cases hm : Lib.index l [46] = -1
      · rw [Lib.count_miss hm]
        rfl
      · have hge := Lib.index_ge l [46]
        obtain ⟨j, hj⟩ : ∃ j : Nat, Lib.index l [46] = j := ⟨(Lib.index l [46]).toNat, by omega⟩
        have hix : Lib.index (b :: l) [46] = ((j + 1 : Nat) : Int) := by rw [ix_ne h, if_neg (fun e => hm (beq_iff_eq.1 e)), hj]; omega
        obtain ⟨k, hk⟩ : ∃ k, Lib.count l [46] = k + 1 := ⟨_, (Lib.count_hit (by simp) hj).trans (Nat.add_comm _ _)⟩
        rw [hk]
        have e1 : ¬ (Lib.index (b :: l) [46] == -1) = true := fun e => by have := beq_iff_eq.1 e; omega
        have e2 : ¬ (Lib.index l [46] == -1) = true := fun e => hm (beq_iff_eq.1 e)
        have t1 : (Lib.index (b :: l) [46]).toNat = j + 1 := by omega
        have t2 : (Lib.index l [46]).toNat = j := by omega
        rw [Lib.splitK, if_neg e1, Lib.splitK, if_neg e2, t1, t2]
        simp
theorem spl_ne : ∀ l, spl l ≠ []
  | [] => by simp [spl]
  | b :: l => by
    unfold spl
    split
    · simp
    · split <;> simp
def jn : List (List UInt8) → List UInt8
  | [] => []
  | [x] => x
  | x :: y :: r => x ++ 46 :: jn (y :: r)
theorem jn_cons (x : List UInt8) {r : List (List UInt8)} (h : r ≠ []) : jn (x :: r) = x ++ 46 :: jn r := by
  cases r with
  | nil => exact absurd rfl h
  | cons y r => rfl
theorem jn_head (b : UInt8) (h : List UInt8) (t : List (List UInt8)) : jn ((b :: h) :: t) = b :: jn (h :: t) := by
  cases t <;> rfl
theorem jn_spl : ∀ l, jn (spl l) = l
  | [] => rfl
  | b :: l => by
    have ih := jn_spl l
    unfold spl
    split
    · rename_i h
      rw [jn_cons _ (spl_ne l), ih, h]
      rfl
    · cases hs : spl l with
      | nil => exact absurd hs (spl_ne l)
      | cons h t =>
        dsimp only
        rw [jn_head, ← hs, ih]
theorem spl_none : ∀ (l : List UInt8), (∀ c ∈ l, c ≠ 46) → spl l = [l]
  | [], _ => rfl
  | b :: l, h => by
    have hb := h b List.mem_cons_self
    have ih := spl_none l (fun c hc => h c (List.mem_cons_of_mem _ hc))
    rw [spl_cons, if_neg hb, ih]
theorem spl_app : ∀ (p : List UInt8) (l : List UInt8), (∀ c ∈ p, c ≠ 46) → spl (p ++ 46 :: l) = p :: spl l
  | [], l, _ => by simp [spl]
  | b :: p, l, h => by
    have hb := h b List.mem_cons_self
    have ih := spl_app p l (fun c hc => h c (List.mem_cons_of_mem _ hc))
    show spl (b :: (p ++ 46 :: l)) = _
    rw [spl_cons, if_neg hb, ih]
theorem parts_spl (s : ByteArray) : (parts s).map (·.data.toList) = spl s.data.toList := by
  unfold parts
  rw [Lib.splitB_data]
  exact spl_ok _
def vbytes (a b c : Nat) : List UInt8 := dg a ++ 46 :: (dg b ++ 46 :: dg c)
theorem dg_dig : ∀ m < 1000, ∀ c ∈ dg m, c ≠ 46 ∧ 48 ≤ c.toNat ∧ c.toNat ≤ 57 := by decide +kernel
theorem spl_v {a b c : Nat} (ha : a < 1000) (hb : b < 1000) (hc : c < 1000) : spl (vbytes a b c) = [dg a, dg b, dg c] := by
  unfold vbytes
  rw [spl_app _ _ fun x hx => (dg_dig a ha x hx).1, spl_app _ _ fun x hx => (dg_dig b hb x hx).1, spl_none _ fun x hx => (dg_dig c hc x hx).1]
theorem vnum_iff (s : ByteArray) : (vnum s).isSome = true ↔ ∃ a b c, a < 1000 ∧ b < 1000 ∧ c < 1000 ∧ s.data.toList = vbytes a b c := by
  have hp := parts_spl s
  constructor
  · intro h
    unfold vnum at h
    split at h
    · rename_i p q r e
      rw [e] at hp
      split at h
      · rename_i a b c e1 e2 e3
        obtain ⟨a1, a2⟩ := pd_some e1
        obtain ⟨b1, b2⟩ := pd_some e2
        obtain ⟨c1, c2⟩ := pd_some e3
        refine ⟨a, b, c, a1, b1, c1, ?_⟩
        rw [← jn_spl s.data.toList, ← hp]
        simp only [List.map_cons, List.map_nil, a2, b2, c2]
        rfl
      · cases h
    · cases h
  · rintro ⟨a, b, c, ha, hb, hc, e⟩
    rw [e, spl_v ha hb hc] at hp
    unfold vnum
    have hl : (parts s).length = 3 := by
      have := congrArg List.length hp
      simpa using this
    obtain ⟨p, q, r, e3⟩ := three hl
    rw [e3] at hp ⊢
    simp only [List.map_cons, List.map_nil, List.cons.injEq, and_true] at hp
    obtain ⟨h1, h2, h3⟩ := hp
    dsimp only
    unfold pdB
    rw [h1, h2, h3, pd_dg a ha, pd_dg b hb, pd_dg c hc]
    rfl
def nmF (y : NmS) (l : List UInt8) : NmS := l.foldl (fun y c => nmStep y c.toNat) y
theorem nmAt_fold (b : ByteArray) : ∀ k, k ≤ b.size → nmAt b k = nmF ⟨0, 0, 0⟩ (b.data.toList.take k)
  | 0, _ => rfl
  | k + 1, h => by
    have hk : k < b.data.toList.length := by show k < b.size; omega
    have e : byN b k = (b.data.toList[k]).toNat := by
      unfold byN
      have : b.data.getD k 0 = b.data.toList[k] := by
        rw [Array.getD_eq_getD_getElem?, Array.getElem?_eq_getElem (by simpa using hk)]
        simp
      rw [this]
    rw [List.take_add_one, List.getElem?_eq_getElem hk]
    unfold nmF
    rw [List.foldl_append]
    show nmStep (nmAt b k) (byN b k) = _
    rw [nmAt_fold b k (by omega), e]
    rfl
theorem wrap_in8 {n : Int} (h1 : 0 ≤ n) (h2 : n < 256) : IntKind.u8.wrap n = n := by
  have : IntKind.u8.wrap n = n % 256 := by unfold IntKind.wrap; simp [IntKind.bits, IntKind.signed]
  omega
theorem step_dig {n part d : Int} {c : UInt8} (hc : 48 ≤ c.toNat ∧ c.toNat ≤ 57) (hp : 0 ≤ part ∧ part ≤ 99) : nmStep ⟨n, part, d⟩ c.toNat = ⟨n, 10 * part + (c.toNat - 48 : Nat), d⟩ := by
  unfold nmStep
  rw [if_neg (by omega)]
  have h1 : IntKind.u8.wrap ((c.toNat : Int) - 48) = ((c.toNat - 48 : Nat) : Int) := by rw [wrap_in8 (by omega) (by omega)]; omega
  have h2 : IntKind.i64.wrap ((c.toNat - 48 : Nat) : Int) = ((c.toNat - 48 : Nat) : Int) := wrap_in (by omega) (by omega)
  have h3 : IntKind.i64.wrap (10 * part) = 10 * part := wrap_in (by omega) (by omega)
  dsimp only
  rw [h1, h2, h3, wrap_in (by omega) (by omega)]
theorem step_dot {n part d : Int} (hn : 0 ≤ n ∧ n ≤ 1000000000) (hp : 0 ≤ part ∧ part ≤ 999) (hd : 0 ≤ d ∧ d ≤ 5) : nmStep ⟨n, part, d⟩ 46 = ⟨(n + part) * 1000, 0, d + 1⟩ := by
  unfold nmStep
  rw [if_pos rfl]
  dsimp only
  have h1 : IntKind.i64.wrap (n + part) = n + part := wrap_in (by omega) (by omega)
  rw [h1, wrap_in (by omega) (by omega), wrap_in (by omega) (by omega)]
theorem nmF_dg {n d : Int} {m : Nat} (h : m < 1000) : nmF ⟨n, 0, d⟩ (dg m) = ⟨n, m, d⟩ := by
  have e : ∀ k, k < 10 → (UInt8.ofNat (48 + k)).toNat = 48 + k := by decide
  have d1 : ∀ k : Nat, k < 10 → ∀ part : Int, 0 ≤ part ∧ part ≤ 99 → nmStep ⟨n, part, d⟩ (UInt8.ofNat (48 + k)).toNat = ⟨n, 10 * part + k, d⟩ := fun k hk part hp => by
    rw [step_dig (c := UInt8.ofNat (48 + k)) (by rw [e k hk]; omega) hp, e k hk]
    congr 1
    omega
  unfold dg nmF
  split
  · simp only [List.foldl_cons, List.foldl_nil]
    rw [d1 m (by omega) 0 (by omega)]
    congr 1
    omega
  · split
    · simp only [List.foldl_cons, List.foldl_nil]
      rw [d1 (m / 10) (by omega) 0 (by omega), d1 (m % 10) (by omega) (10 * 0 + (m / 10 : Nat)) (by omega)]
      congr 1
      omega
    · simp only [List.foldl_cons, List.foldl_nil]
      rw [d1 (m / 100) (by omega) 0 (by omega), d1 (m / 10 % 10) (by omega) (10 * 0 + (m / 100 : Nat)) (by omega), d1 (m % 10) (by omega) (10 * (10 * 0 + (m / 100 : Nat)) + (m / 10 % 10 : Nat)) (by omega)]
      congr 1
      omega
theorem nmF_app (y : NmS) (l m : List UInt8) : nmF y (l ++ m) = nmF (nmF y l) m := List.foldl_append ..
theorem nmF_dot (y : NmS) (l : List UInt8) : nmF y (46 :: l) = nmF (nmStep y 46) l := rfl
theorem dg_len (m : Nat) : (dg m).length ≤ 3 := by
  unfold dg
  split
  · simp
  · split <;> simp
theorem vtext_bytes (n : Nat) : (vtext n).data.toList = vbytes (n / 1000000) (n / 1000 % 1000) (n % 1000) := by
  unfold vtext vbytes dgB dotB
  simp
theorem num_iff (s : ByteArray) : 0 ≤ numS s ↔ (vnum s).isSome = true := by
  rw [vnum_iff]
  constructor
  · intro h
    unfold numS at h
    split at h
    · unfold finS at h
      split at h
      · rename_i q
        obtain ⟨_, _, ⟨q3, q4⟩, q5⟩ := q
        generalize IntKind.i64.wrap ((nmAt s (min s.size 12)).n + (nmAt s (min s.size 12)).part) = x at *
        refine ⟨_, _, _, ?_, ?_, ?_, (congrArg (fun b : ByteArray => b.data.toList) q5.symm).trans (vtext_bytes x.toNat)⟩ <;> omega
      · omega
    · omega
  · rintro ⟨a, b, c, ha, hb, hc, e⟩
    have hsz : s.size = s.data.toList.length := rfl
    have hl : s.size ≤ 11 := by
      rw [hsz, e]
      have h1 := dg_len a; have h2 := dg_len b; have h3 := dg_len c
      unfold vbytes
      simp only [List.length_append, List.length_cons]
      omega
    have hmin : min s.size 12 = s.size := by omega
    have hok : ∀ j, j < min s.size 12 → okC (byN s j) := fun j hj => by
      have hj' : j < s.data.toList.length := by rw [← hsz]; omega
      have e1 : byN s j = (s.data.toList[j]).toNat := by
        unfold byN
        have : s.data.getD j 0 = s.data.toList[j] := by
          rw [Array.getD_eq_getD_getElem?, Array.getElem?_eq_getElem (by simpa using hj')]
          simp
        rw [this]
      have hm : s.data.toList[j] ∈ vbytes a b c := by rw [← e]; exact List.getElem_mem hj'
      rw [e1]
      unfold vbytes at hm
      rcases List.mem_append.1 hm with q | q
      · exact .inr (dg_dig a ha _ q).2
      · rcases List.mem_cons.1 q with q | q
        · rw [q]; exact .inl rfl
        · rcases List.mem_append.1 q with q | q
          · exact .inr (dg_dig b hb _ q).2
          · rcases List.mem_cons.1 q with q | q
            · rw [q]; exact .inl rfl
            · exact .inr (dg_dig c hc _ q).2
    have hst : nmAt s (min s.size 12) = ⟨((a : Int) * 1000 + b) * 1000, c, 2⟩ := by
      rw [hmin, nmAt_fold s _ (Nat.le_refl _)]
      have : s.data.toList.take s.size = s.data.toList := List.take_of_length_le (by rw [← hsz]; exact Nat.le_refl _)
      rw [this, e]
      unfold vbytes
      rw [nmF_app, nmF_dg ha, nmF_dot, step_dot (by omega) (by omega) (by omega), nmF_app, nmF_dg hb, nmF_dot, step_dot (by omega) (by omega) (by omega), nmF_dg hc]
      simp only [NmS.mk.injEq]
      exact ⟨by omega, trivial, by omega⟩
    unfold numS
    rw [if_pos hok, hst]
    unfold finS
    have hw : IntKind.i64.wrap (((a : Int) * 1000 + b) * 1000 + c) = (((a * 1000 + b) * 1000 + c : Nat) : Int) := by rw [wrap_in (by omega) (by omega)]; omega
    dsimp only
    rw [hw]
    rw [if_pos ?_]
    · omega
    · refine ⟨rfl, by omega, by omega, ?_⟩
      apply ByteArray.ext
      apply Array.ext'
      rw [vtext_bytes, e]
      have e1 : (((a * 1000 + b) * 1000 + c : Nat) : Int).toNat = (a * 1000 + b) * 1000 + c := by omega
      rw [e1]
      have e2 : ((a * 1000 + b) * 1000 + c) / 1000000 = a := by omega
      have e3 : ((a * 1000 + b) * 1000 + c) / 1000 % 1000 = b := by omega
      have e4 : ((a * 1000 + b) * 1000 + c) % 1000 = c := by omega
      rw [e2, e3, e4]
end Go.Proofs.YtfaadafgbhmlfaaDoor
