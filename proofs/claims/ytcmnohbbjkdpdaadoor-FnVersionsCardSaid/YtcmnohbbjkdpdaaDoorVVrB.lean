/-
  Versions: the program's functions on them.
-/
import Derived.Test.YtcmnohbbjkdpdaaDoorVVrA
import Derived.Test.YtcmnohbbjkdpdaaDoorVX
namespace Go.Proofs.YtcmnohbbjkdpdaaDoor
open Go Go.RowKit
set_option linter.unusedVariables false
set_option linter.unusedSimpArgs false
attribute [local irreducible] IntKind.wrap

theorem rdV_r (s : ByteArray) : i64V (rdV s).1 := by
  unfold rdV
  split
  · rename_i v hv
    split
    · exact parse_r hv
    · exact ⟨by decide, by decide⟩
  · exact ⟨by decide, by decide⟩
theorem readDecimal_ok (s : ByteArray) (hs : s.size ≤ 281474976710656) : Ret env.P 41 [.s s] (fun r => r = .tup [.i .i64 (rdV s).1, .b (rdV s).2]) := .mk fun w S us hS hc => by
  obtain ⟨u, rfl, h1⟩ := concL_1 hc
  obtain ⟨rfl, _⟩ := inv_s h1
  have hr := rdV_r s
  refine (rd_walk s hs w hS.gl.now fun W hB => (hS.below hB (Nat.le_refl _)).gl.now).mono ?_
  rintro e w' ⟨rfl, hb⟩
  refine ⟨_, _, rfl, rfl, .tup _ [_, _] rfl (fun j c u hj hu => ?_), hb⟩
  match j with
  | 0 => cases hj; cases hu; exact conc_i (by have := hr.1; omega) (by have := hr.2; omega)
  | 1 => cases hj; cases hu; exact .b _
  | j + 2 => cases hj
theorem decimal_ok {n : Nat} (h : n < 1000) : Ret env.P 38 [.i .i64 (n : Int)] (fun r => r = .s (dgB n)) := .mk fun w S us hS hc => by
  obtain ⟨u, rfl, h1⟩ := concL_1 hc
  obtain ⟨rfl, _⟩ := inv_i h1
  refine (decimal_calls n ⟨by omega, by omega⟩ w hS.gl.now).mono ?_
  rintro e w' ⟨rfl, hb⟩
  rw [itoa_dg h]
  refine ⟨_, _, rfl, rfl, .s ?_, hb⟩
  show (dg n).length ≤ _
  have : (dg n).length ≤ 3 := by unfold dg; split <;> (try split) <;> simp
  exact Nat.le_trans this (by decide)
theorem within_ok (x lo hi : Int) : Ret env.P 26 [.i .i64 x, .i .i64 lo, .i .i64 hi] (fun r => r = .b (decide (lo ≤ x ∧ x ≤ hi))) := by
  refine ret_of (nt := 15) (rvs := [.tmp 6]) Tryd.func26 rfl rfl rfl rfl (fun X => ?_)
  repeat' (first | exact aa | ((conv => whnf) <;> (first | refine And.intro ?_ ?_ | (intro _h; first | contradiction | (try simp only [dd] at _h)) | (refine dt_go ?_) | exact rfl | exact True.intro | exact dkk | exact dks | (refine wrap_succ ?_; omega))))
  all_goals (refine leaf_b ?_; rw [Bool.eq_iff_iff]; simp at *; omega)
def goodV (s : ByteArray) : Prop := (rdV s).2 = true ∧ 0 ≤ (rdV s).1 ∧ (rdV s).1 ≤ 999
def accV (l : List ByteArray) : Nat → Int
  | 0 => 0
  | k + 1 => accV l k * 1000 + (rdV (l.getD k default)).1
structure VnI (l : List ByteArray) (k : Nat) : Prop where
  h : ∀ j, j < k → goodV (l.getD j default)
theorem VnI.zero (l : List ByteArray) : VnI l 0 := ⟨fun j hj => absurd hj (Nat.not_lt_zero _)⟩
theorem VnI.succ {l : List ByteArray} {k : Nat} (h : VnI l k) (h1 : (rdV (l.getD k default)).2 = true) (h2 : 0 ≤ (rdV (l.getD k default)).1 ∧ (rdV (l.getD k default)).1 ≤ 999) : VnI l (k + 1) := ⟨fun j hj => by
  rcases Nat.lt_or_ge j k with q | q
  · exact h.h j q
  · obtain rfl : j = k := by omega
    exact ⟨h1, h2⟩⟩
theorem accV_lt {l : List ByteArray} : ∀ {k : Nat}, VnI l k → k ≤ 3 → 0 ≤ accV l k ∧ accV l k < 1000000000
  | 0, _, _ => ⟨Int.le_refl _, by show (0 : Int) < _; decide⟩
  | 1, h, _ => by have h0 := h.h 0 (by omega); obtain ⟨_, a, b⟩ := h0; simp only [accV]; omega
  | 2, h, _ => by obtain ⟨_, a, b⟩ := h.h 0 (by omega); obtain ⟨_, c, d⟩ := h.h 1 (by omega); simp only [accV]; omega
  | 3, h, _ => by obtain ⟨_, a, b⟩ := h.h 0 (by omega); obtain ⟨_, c, d⟩ := h.h 1 (by omega); obtain ⟨_, e, f⟩ := h.h 2 (by omega); simp only [accV]; omega
  | k + 4, _, h => by omega
theorem accV_step {l : List ByteArray} {k : Nat} (h : VnI l k) (hk : k < 3) (h2 : 0 ≤ (rdV (l.getD k default)).1 ∧ (rdV (l.getD k default)).1 ≤ 999) : 0 ≤ accV l k * 1000 ∧ accV l k * 1000 + 999 < 9223372036854775808 := by
  have := accV_lt h (by omega)
  omega
/-- What VersionNumber returns. -/
def vnR (o : Option Nat) : AV := .tup [.i .i64 ((o.getD 0 : Nat) : Int), .b o.isSome]
theorem vnum_len {s : ByteArray} (h : ¬ (parts s).length = 3) : vnum s = none := by
  unfold vnum
  split
  · rename_i e
    rw [e] at h
    exact absurd rfl h
  · rfl
theorem three {l : List ByteArray} (h : l.length = 3) : ∃ p q r, l = [p, q, r] := by
  match l, h with
  | [p, q, r], _ => exact ⟨p, q, r, rfl⟩
theorem good_pd {s : ByteArray} : goodV s ↔ ∃ m, pdB s = some m := by
  constructor
  · intro h
    cases e : pdB s with
    | none => exact absurd h (rdV_none e)
    | some m => exact ⟨m, rfl⟩
  · rintro ⟨m, e⟩
    have h1 := rdV_some e
    have h2 := (pd_some e).1
    unfold goodV
    rw [h1]
    exact ⟨rfl, by show (0 : Int) ≤ (m : Int); omega, by show (m : Int) ≤ 999; omega⟩
theorem vnum_no {s : ByteArray} {k : Nat} (h3 : (parts s).length = 3) (hk : k < 3) (hb : ¬ goodV ((parts s).getD k default)) : vnum s = none := by
  obtain ⟨p, q, r, e⟩ := three h3
  rw [e] at hb
  cases hv : vnum s with
  | none => rfl
  | some n =>
    exfalso
    apply hb
    unfold vnum at hv
    rw [e] at hv
    dsimp only at hv
    split at hv
    · rename_i a b c e1 e2 e3
      rcases (show k = 0 ∨ k = 1 ∨ k = 2 by omega) with rfl | rfl | rfl
      · exact good_pd.2 ⟨_, e1⟩
      · exact good_pd.2 ⟨_, e2⟩
      · exact good_pd.2 ⟨_, e3⟩
    · cases hv
theorem vn_noF {s : ByteArray} {k : Nat} (hb : (rdV ((parts s).getD k default)).2 = false) (h3 : (parts s).length = 3) (hk : k < 3) : AV.tup [.i .i64 0, .b false] = vnR (vnum s) := by
  rw [vnum_no h3 hk (fun g => by rw [g.1] at hb; cases hb)]; rfl
theorem vn_noR {s : ByteArray} {k : Nat} (hb : ¬ (0 ≤ (rdV ((parts s).getD k default)).1 ∧ (rdV ((parts s).getD k default)).1 ≤ 999)) (h3 : (parts s).length = 3) (hk : k < 3) : AV.tup [.i .i64 0, .b false] = vnR (vnum s) := by
  rw [vnum_no h3 hk (fun g => hb g.2)]; rfl
theorem VnI.succ' {l : List ByteArray} {k : Nat} (h : VnI l k) (h1 : ¬ (rdV (l.getD ((k : Int)).toNat default)).2 = false) (h2 : 0 ≤ (rdV (l.getD ((k : Int)).toNat default)).1 ∧ (rdV (l.getD ((k : Int)).toNat default)).1 ≤ 999) : VnI l (k + 1) := by
  rw [Int.toNat_natCast] at h1 h2
  exact h.succ (by cases e : (rdV (l.getD k default)).2 with | true => rfl | false => exact absurd e h1) h2
theorem acc_wrap {l : List ByteArray} {k : Nat} (h : VnI l k) (hk : k < 3) (h2 : 0 ≤ (rdV (l.getD ((k : Int)).toNat default)).1 ∧ (rdV (l.getD ((k : Int)).toNat default)).1 ≤ 999) : IntKind.i64.wrap (IntKind.i64.wrap (accV l k * 1000) + (rdV (l.getD ((k : Int)).toNat default)).1) = accV l (k + 1) := by
  rw [Int.toNat_natCast] at h2 ⊢
  have := accV_lt h (by omega)
  have e : IntKind.i64.wrap (accV l k * 1000) = accV l k * 1000 := wrap_in (by omega) (by omega)
  rw [e, wrap_in (by omega) (by omega)]
  rfl
theorem vnum_yes {s : ByteArray} (h3 : (parts s).length = 3) (h : VnI (parts s) 3) : vnum s = some (accV (parts s) 3).toNat := by
  obtain ⟨p, q, r, e⟩ := three h3
  rw [e] at h ⊢
  obtain ⟨a, ea⟩ := good_pd.1 (h.h 0 (by omega))
  obtain ⟨b, eb⟩ := good_pd.1 (h.h 1 (by omega))
  obtain ⟨c, ec⟩ := good_pd.1 (h.h 2 (by omega))
  have ra := rdV_some ea
  have rb := rdV_some eb
  have rc := rdV_some ec
  have ha : accV [p, q, r] 3 = ((a * 1000 + b) * 1000 + c : Nat) := by
    simp only [accV, ra, rb, rc]
    omega
  rw [ha, Int.toNat_natCast]
  simp only [List.getD_cons_zero, List.getD_cons_succ] at ea eb ec
  unfold vnum
  rw [e]
  simp only [ea, eb, ec]
theorem vn_yes {s : ByteArray} {k : Nat} (h3 : (parts s).length = 3) (h : VnI (parts s) k) (hk : k = 3) : AV.tup [.i .i64 (accV (parts s) k), .b true] = vnR (vnum s) := by
  subst hk
  have := accV_lt h (by omega)
  rw [vnum_yes h3 h]
  unfold vnR
  simp only [Option.getD_some, Option.isSome_some]
  rw [Int.toNat_of_nonneg this.1]
theorem vn_no {s : ByteArray} (h : vnum s = none) : AV.tup [.i .i64 0, .b false] = vnR (vnum s) := by rw [h]; rfl
set_option maxRecDepth 8000 in
set_option maxHeartbeats 4000000 in
theorem versionNumber_ok (s : ByteArray) (hs : s.size ≤ 1000000000) : Ret env.P 23 [.s s] (fun r => r = vnR (vnum s)) := by
  have hpz : ∀ k, k < (parts s).length → ((parts s).getD k default).size ≤ 281474976710656 := fun k hk => by
    have := parts_size (s := s) (p := (parts s).getD k default) (by rw [List.getD_eq_getElem?_getD, List.getElem?_eq_getElem hk]; exact List.getElem_mem hk)
    omega
  refine ret_of (nt := 39) (rvs := [.tmp 2, .tmp 3]) Tryd.func23 rfl rfl rfl rfl (fun X => ?_)
  repeat' (first | exact aa | ((conv => whnf) <;> (first | exact vn_no (vnum_len (by omega)) | exact vn_noF ‹_› (by omega) (by omega) | exact vn_noR ‹_› (by omega) (by omega) | exact VnI.succ' ‹_› ‹_› ‹_› | exact acc_wrap ‹VnI _ _› (by omega) ‹_› | exact vn_yes (by omega) ‹_› (by omega) | refine loopN (parts s).length (fun k => [(17, .i .i64 k), (5, .i .i64 (accV (parts s) k))]) (fun k => []) (fun k => VnI (parts s) k) ⟨.zero _, ?_⟩ | refine And.intro ?_ ?_ | (intro _h; first | contradiction | (try simp only [dd] at _h)) | (refine dt_go ?_) | exact rfl | exact True.intro | exact dkk | exact dks | ((first | refine .inl ⟨_, split_ok s (by omega), ?_⟩ | refine ⟨_, split_ok s (by omega), ?_⟩); (try rintro _ rfl)) | ((first | refine .inl ⟨_, readDecimal_ok _ (hpz _ (by omega)), ?_⟩ | refine ⟨_, readDecimal_ok _ (hpz _ (by omega)), ?_⟩); (try rintro _ rfl)) | ((first | refine .inl ⟨_, within_ok _ _ _, ?_⟩ | refine ⟨_, within_ok _ _ _, ?_⟩); (try rintro _ rfl)) | (refine wrap_succ ?_; omega))))
theorem decimalI {n : Int} (h : 0 ≤ n ∧ n < 1000) : Ret env.P 38 [.i .i64 n] (fun r => r = .s (dgB n.toNat)) := by
  obtain ⟨m, rfl⟩ := Int.eq_ofNat_of_zero_le h.1
  rw [Int.toNat_natCast]
  exact decimal_ok (by omega)
theorem dgB_size (n : Nat) : (dgB n).size ≤ 3 := by
  show (dg n).length ≤ 3
  unfold dg
  split <;> (try split) <;> simp
theorem le_max {n : Nat} (h : n ≤ 1000000000) : n ≤ maxLen := Nat.le_trans h (by decide)
theorem ver_eq {m : Nat} (h : 0 ≤ (m : Int) ∧ (m : Int) ≤ 999999999) : AV.s (dgB (m / 1000000) ++ ⟨#[46]⟩ ++ dgB (m / 1000 % 1000) ++ ⟨#[46]⟩ ++ dgB (m % 1000)) = AV.s (verOf m) := by
  unfold verOf vtext
  rw [if_pos h, Int.toNat_natCast]
  rfl
set_option maxRecDepth 8000 in
set_option maxHeartbeats 4000000 in
theorem versionOf_ok (n : Int) : Ret env.P 20 [.i .i64 n] (fun r => r = .s (verOf n)) := by
  have hW := within_ok n 0 999999999
  by_cases h : 0 ≤ n ∧ n ≤ 999999999
  · rw [decide_eq_true h] at hW
    obtain ⟨m, rfl⟩ := Int.eq_ofNat_of_zero_le h.1
    have t1 : IntKind.i64.wrap ((m : Int).tdiv 1000000) = ((m / 1000000 : Nat) : Int) := by rw [Int.tdiv_eq_ediv_of_nonneg (by omega), wrap_in (by omega) (by omega)]; rfl
    have t3 : ∀ k : Nat, (k : Int).tmod 1000 = ((k % 1000 : Nat) : Int) := fun k => by rw [Int.tmod_eq_emod_of_nonneg (by omega)]; rfl
    have t2 : IntKind.i64.wrap ((m : Int).tdiv 1000) = ((m / 1000 : Nat) : Int) := by rw [Int.tdiv_eq_ediv_of_nonneg (by omega), wrap_in (by omega) (by omega)]; rfl
    have d1 : Ret env.P 38 [.i .i64 (IntKind.i64.wrap ((m : Int).tdiv 1000000))] (fun r => r = .s (dgB (m / 1000000))) := by rw [t1]; exact decimal_ok (by omega)
    have d2 : Ret env.P 38 [.i .i64 ((IntKind.i64.wrap ((m : Int).tdiv 1000)).tmod 1000)] (fun r => r = .s (dgB (m / 1000 % 1000))) := by rw [t2, t3]; exact decimal_ok (by omega)
    have d3 : Ret env.P 38 [.i .i64 ((m : Int).tmod 1000)] (fun r => r = .s (dgB (m % 1000))) := by rw [t3]; exact decimal_ok (by omega)
    have z0 : (⟨#[46]⟩ : ByteArray).size = 1 := rfl
    have z1 := dgB_size (m / 1000000)
    have z2 := dgB_size (m / 1000 % 1000)
    have z3 := dgB_size (m % 1000)
    refine ret_of (nt := 20) (rvs := [.tmp 2]) Tryd.func20 rfl rfl rfl rfl (fun X => ?_)
    repeat' (first | exact aa | ((conv => whnf) <;> (first | (refine le_max ?_; (try simp only [ByteArray.size_append]); omega) | exact ver_eq h | refine And.intro ?_ ?_ | (intro _h; first | contradiction | (try simp only [dd] at _h)) | (refine dt_go ?_) | exact rfl | exact True.intro | exact dkk | exact dks | ((first | refine .inl ⟨_, hW, ?_⟩ | refine ⟨_, hW, ?_⟩); (try rintro _ rfl)) | ((first | refine .inl ⟨_, d1, ?_⟩ | refine ⟨_, d1, ?_⟩); (try rintro _ rfl)) | ((first | refine .inl ⟨_, d2, ?_⟩ | refine ⟨_, d2, ?_⟩); (try rintro _ rfl)) | ((first | refine .inl ⟨_, d3, ?_⟩ | refine ⟨_, d3, ?_⟩); (try rintro _ rfl)) | (refine wrap_succ ?_; omega))))
    all_goals trace_state
  · rw [decide_eq_false h] at hW
    unfold verOf
    rw [if_neg h]
    refine ret_of (nt := 20) (rvs := [.tmp 2]) Tryd.func20 rfl rfl rfl rfl (fun X => ?_)
    repeat' (first | exact aa | ((conv => whnf) <;> (first | refine And.intro ?_ ?_ | (intro _h; first | contradiction | (try simp only [dd] at _h)) | (refine dt_go ?_) | exact rfl | exact True.intro | exact dkk | exact dks | ((first | refine .inl ⟨_, hW, ?_⟩ | refine ⟨_, hW, ?_⟩); (try rintro _ rfl)) | (refine wrap_succ ?_; omega))))
    all_goals trace_state
theorem verOf_size (n : Int) : (verOf n).size ≤ 11 := by
  unfold verOf vtext
  split
  · have z0 : dotB.size = 1 := rfl
    have z1 := dgB_size (n.toNat / 1000000)
    have z2 := dgB_size (n.toNat / 1000 % 1000)
    have z3 := dgB_size (n.toNat % 1000)
    simp only [ByteArray.size_append]
    omega
  · exact Nat.zero_le _
def Rng.cs (r : Rng) : List AV := [.i .i64 r.low, .i .i64 r.below]
theorem rok_t {r : Rng} (h : 0 ≤ r.low ∧ r.low ≤ 999999999) : decide (IntKind.i64.wrap (r.low + 1) ≤ r.below ∧ r.below ≤ 1000000000) = rangeOk r := by
  rw [wrap_in (by omega) (by omega)]
  unfold rangeOk
  rw [decide_eq_true h, Bool.true_and]
theorem rok_f {r : Rng} (h : ¬ (0 ≤ r.low ∧ r.low ≤ 999999999)) : false = rangeOk r := by
  unfold rangeOk
  rw [decide_eq_false h, Bool.false_and]
theorem rangeOk_ok (r : Rng) : Ret env.P 25 [.agg r.cs] (fun x => x = .b (rangeOk r)) := by
  have h1 := within_ok r.low 0 999999999
  refine ret_of (nt := 14) (rvs := [.tmp 2]) Tryd.func25 rfl rfl rfl rfl (fun X => ?_)
  repeat' (first | exact aa | ((conv => whnf) <;> (first | exact leaf_b (rok_t ‹_›) | exact leaf_b (rok_f ‹_›) | refine And.intro ?_ ?_ | (intro _h; first | contradiction | (try simp only [dd] at _h)) | (refine dt_go ?_) | exact rfl | exact True.intro | exact dkk | exact dks | ((first | refine .inl ⟨_, h1, ?_⟩ | refine ⟨_, h1, ?_⟩); (try rintro _ rfl)) | ((first | refine .inl ⟨_, within_ok _ _ _, ?_⟩ | refine ⟨_, within_ok _ _ _, ?_⟩); (try rintro _ rfl)) | (refine wrap_succ ?_; omega))))
  all_goals (conv => whnf)
  all_goals first | exact leaf_b (rok_t ‹_›) | exact leaf_b (rok_f ‹_›) | trace_state
theorem quo_nat (n k : Nat) (h : n < 1000000000) : IntKind.i64.wrap ((n : Int).tdiv (k : Int)) = ((n / k : Nat) : Int) := by
  have := Nat.div_le_self n k
  rw [Int.tdiv_eq_ediv_of_nonneg (by omega), ← Int.natCast_ediv]
  generalize n / k = q at *
  rw [wrap_in (by omega) (by omega)]
theorem b_eq {o : ByteArray} {n : Nat} (ho : o = ⟨#[61]⟩) (h : n < 1000000000) : IntKind.i64.wrap ((n : Int) + 1) = (belowN o n : Int) := by
  unfold belowN
  rw [if_pos (show o = opEq from ho), wrap_in (by omega) (by omega)]
  rfl
theorem b_gt {o : ByteArray} {n : Nat} (ho : o = ⟨#[62]⟩) : (1000000000 : Int) = (belowN o n : Int) := by
  unfold belowN
  rw [if_neg (by rw [ho]; decide), if_pos (show o = opGt from ho)]
  rfl
theorem b_hat1 {o : ByteArray} {n : Nat} (ho : o = ⟨#[94]⟩) (h : n < 1000000000) (hn : (1000000 : Int) ≤ n) : IntKind.i64.wrap (IntKind.i64.wrap (IntKind.i64.wrap ((n : Int).tdiv 1000000) * 1000000) + 1000000) = (belowN o n : Int) := by
  have e := quo_nat n 1000000 h
  rw [show ((1000000 : Nat) : Int) = 1000000 from rfl] at e
  have e2 : IntKind.i64.wrap (((n / 1000000 : Nat) : Int) * 1000000) = ((n / 1000000 : Nat) : Int) * 1000000 := wrap_in (by omega) (by omega)
  rw [e, e2, wrap_in (by omega) (by omega)]
  unfold belowN
  rw [if_neg (by rw [ho]; decide), if_neg (by rw [ho]; decide), if_pos (show o = opHat from ho), if_pos (by omega)]
  omega
theorem b_mid {n : Nat} (h : n < 1000000000) : IntKind.i64.wrap (IntKind.i64.wrap (IntKind.i64.wrap ((n : Int).tdiv 1000) * 1000) + 1000) = ((n / 1000 * 1000 + 1000 : Nat) : Int) := by
  have e := quo_nat n 1000 h
  rw [show ((1000 : Nat) : Int) = 1000 from rfl] at e
  have e2 : IntKind.i64.wrap (((n / 1000 : Nat) : Int) * 1000) = ((n / 1000 : Nat) : Int) * 1000 := wrap_in (by omega) (by omega)
  rw [e, e2, wrap_in (by omega) (by omega)]
  omega
theorem b_hat2 {o : ByteArray} {n : Nat} (ho : o = ⟨#[94]⟩) (h : n < 1000000000) (hn : ¬ (1000000 : Int) ≤ n) : IntKind.i64.wrap (IntKind.i64.wrap (IntKind.i64.wrap ((n : Int).tdiv 1000) * 1000) + 1000) = (belowN o n : Int) := by
  rw [b_mid h]
  unfold belowN
  rw [if_neg (by rw [ho]; decide), if_neg (by rw [ho]; decide), if_pos (show o = opHat from ho), if_neg (by omega)]
theorem b_tl {o : ByteArray} {n : Nat} (ho : o = ⟨#[126]⟩) (h : n < 1000000000) : IntKind.i64.wrap (IntKind.i64.wrap (IntKind.i64.wrap ((n : Int).tdiv 1000) * 1000) + 1000) = (belowN o n : Int) := by
  rw [b_mid h]
  unfold belowN
  rw [if_neg (by rw [ho]; decide), if_neg (by rw [ho]; decide), if_neg (by rw [ho]; decide), if_pos (show o = opTl from ho)]
theorem b_no {o : ByteArray} {n : Nat} (h1 : ¬ o = ⟨#[61]⟩) (h2 : ¬ o = ⟨#[62]⟩) (h3 : ¬ o = ⟨#[94]⟩) (h4 : ¬ o = ⟨#[126]⟩) : (0 : Int) = (belowN o n : Int) := by
  unfold belowN
  rw [if_neg (show ¬ o = opEq from h1), if_neg (show ¬ o = opGt from h2), if_neg (show ¬ o = opHat from h3), if_neg (show ¬ o = opTl from h4)]
  rfl
set_option maxRecDepth 8000 in
theorem belowOf_ok (o : ByteArray) (n : Nat) (h : n < 1000000000) : Ret env.P 24 [.s o, .i .i64 (n : Int)] (fun x => x = .i .i64 (belowN o n : Int)) := by
  refine ret_of (nt := 30) (rvs := [.tmp 4]) Tryd.func24 rfl rfl rfl rfl (fun X => ?_)
  repeat' (first | exact aa | ((conv => whnf) <;> (first | exact leaf_i (b_eq ‹_› h) | exact leaf_i (b_gt ‹_›) | exact leaf_i (b_hat1 ‹_› h ‹_›) | exact leaf_i (b_hat2 ‹_› h (by omega)) | exact leaf_i (b_tl ‹_› h) | exact leaf_i (b_no ‹_› ‹_› ‹_› ‹_›) | refine And.intro ?_ ?_ | (intro _h; first | contradiction | (try simp only [dd] at _h)) | (refine dt_go ?_) | exact rfl | exact True.intro | exact dkk | exact dks | (refine wrap_succ ?_; omega))))
/-- What RangeOf returns. -/
def rngR (o : Option Rng) : AV := match o with
  | none => .tup [.agg [.i .i64 0, .i .i64 0], .i .i64 6]
  | some r => .tup [.agg r.cs, .i .i64 0]
theorem belowN_le (o : ByteArray) {n : Nat} (h : n < 1000000000) : belowN o n ≤ 1000000000 := by
  unfold belowN
  repeat' split
  all_goals omega
theorem vget_lt (s : ByteArray) : (vnum s).getD 0 < 1000000000 := by
  cases h : vnum s with
  | none => decide
  | some n => exact vnum_lt h
theorem rg_empty {s : ByteArray} (h : s = ⟨#[]⟩) : AV.tup [.agg [.i .i64 0, .i .i64 0], .i .i64 6] = rngR (rangeN s) := by
  subst h
  rfl
theorem ne_size {s : ByteArray} (h : ¬ s = ⟨#[]⟩) : (1 : Int) ≤ s.size := by
  rcases Nat.eq_zero_or_pos s.size with q | q
  · exact absurd (ByteArray.ext (Array.eq_empty_of_size_eq_zero q)) h
  · omega
theorem size_ne {s : ByteArray} (h : ¬ s = ⟨#[]⟩) : ¬ s.size = 0 := by have := ne_size h; omega
theorem rg_none {s : ByteArray} (h : ¬ s = ⟨#[]⟩) (hv : (vnum (s.extract 1 s.size)).isSome = false) : AV.tup [.agg [.i .i64 0, .i .i64 0], .i .i64 6] = rngR (rangeN s) := by
  unfold rangeN
  rw [if_neg (size_ne h)]
  cases e : vnum (s.extract 1 s.size) with
  | none => rfl
  | some n => rw [e] at hv; cases hv
theorem rg_below {s : ByteArray} (h : ¬ s = ⟨#[]⟩) (hb : ((belowN (s.extract (Int.toNat 0) (Int.toNat 1)) ((vnum (s.extract 1 s.size)).getD 0) : Nat) : Int) = 0) (hv : ¬ (vnum (s.extract 1 s.size)).isSome = false) : AV.tup [.agg [.i .i64 0, .i .i64 0], .i .i64 6] = rngR (rangeN s) := by
  unfold rangeN
  rw [if_neg (size_ne h)]
  cases e : vnum (s.extract 1 s.size) with
  | none => rw [e] at hv; exact absurd rfl hv
  | some n =>
    rw [e] at hb
    dsimp only
    rw [if_pos (by exact_mod_cast hb)]
    rfl
theorem rg_some {s : ByteArray} (h : ¬ s = ⟨#[]⟩) (hb : ¬ ((belowN (s.extract (Int.toNat 0) (Int.toNat 1)) ((vnum (s.extract 1 s.size)).getD 0) : Nat) : Int) = 0) (hv : ¬ (vnum (s.extract 1 s.size)).isSome = false) : AV.tup [.agg [.i .i64 ((vnum (s.extract 1 s.size)).getD 0 : Nat), .i .i64 (belowN (s.extract (Int.toNat 0) (Int.toNat 1)) ((vnum (s.extract 1 s.size)).getD 0) : Nat)], .i .i64 0] = rngR (rangeN s) := by
  unfold rangeN
  rw [if_neg (size_ne h)]
  cases e : vnum (s.extract 1 s.size) with
  | none => rw [e] at hv; exact absurd rfl hv
  | some n =>
    rw [e] at hb
    dsimp only
    rw [if_neg (by exact_mod_cast hb)]
    rfl
set_option maxRecDepth 8000 in
set_option maxHeartbeats 4000000 in
theorem rangeOf_ok (s : ByteArray) (hs : s.size ≤ 1000000000) : Ret env.P 10 [.s s] (fun x => x = rngR (rangeN s)) := by
  have hv := versionNumber_ok (s.extract 1 s.size) (by rw [ByteArray.size_extract]; omega)
  refine ret_of (nt := 30) (rvs := [.cell 2 29, .tmp 3]) Tryd.func10 rfl rfl rfl rfl (fun X => ?_)
  repeat' (first | exact aa | ((conv => whnf) <;> (first | exact rg_empty ‹_› | exact rg_none ‹_› ‹_› | exact rg_below ‹_› ‹_› ‹_› | exact rg_some ‹_› ‹_› ‹_› | exact ne_size ‹_› | refine And.intro ?_ ?_ | (intro _h; first | contradiction | (try simp only [dd] at _h)) | (refine dt_go ?_) | exact rfl | exact True.intro | exact dkk | exact dks | ((first | refine .inl ⟨_, hv, ?_⟩ | refine ⟨_, hv, ?_⟩); (try rintro _ rfl)) | ((first | refine .inl ⟨_, belowOf_ok _ _ (vget_lt _), ?_⟩ | refine ⟨_, belowOf_ok _ _ (vget_lt _), ?_⟩); (try rintro _ rfl)) | (refine wrap_succ ?_; omega))))
end Go.Proofs.YtcmnohbbjkdpdaaDoor
