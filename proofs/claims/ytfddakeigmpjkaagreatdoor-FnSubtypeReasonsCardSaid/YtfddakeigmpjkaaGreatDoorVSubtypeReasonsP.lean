/-
  The law FnSubtypeReasons returns true at every argument (its row, and its tied card); no conditions beyond the row.
-/
import Derived.Test.YtfddakeigmpjkaaGreatDoorVSbD
import Derived.Test.YtfddakeigmpjkaaGreatDoorVSbX
import Derived.Test.YtfddakeigmpjkaaGreatDoorVTpF
import Derived.Test.YtfddakeigmpjkaaGreatDoorVSbV
import Derived.Test.YtfddakeigmpjkaaGreatDoorVSbZ
import Derived.Test.YtfddakeigmpjkaaGreatDoorRows
import Derived.ProofKit
import Derived.Test.YtfddakeigmpjkaaGreatDoorVVrW
import Derived.Test.YtfddakeigmpjkaaGreatDoorTie
import Derived.Test.YtfddakeigmpjkaaGreatDoorCards
import Derived.OpenShut
import Derived.LaidMore
import Derived.Lay
import Derived.SevenTiedAt
import Derived.Stop.Joined
import Derived.MakeChecks
namespace Go.Proofs.YtfddakeigmpjkaaGreatDoor
open Go Go.RowKit
set_option linter.unusedVariables false
set_option linter.unusedSimpArgs false

theorem fstK_ex {f : Nat → Option Rsn} {x : Rsn} : ∀ {n : Nat}, fstK f n = some x → ∃ k, k < n ∧ f k = some x
  | 0, h => (nomatch h)
  | n + 1, h => by
    cases e : fstK f n with
    | some y =>
      have := fstK_some e (n + 1) (Nat.le_succ n)
      rw [this] at h
      obtain ⟨k, hk, q⟩ := fstK_ex (e.trans h)
      exact ⟨k, by omega, q⟩
    | none => exact ⟨n, Nat.lt_succ_self n, (fstK_next e).symm.trans h⟩
structure RsF (m : Nat) (r : Rsn) : Prop where
  lo : 1 ≤ r.1
  hi : r.1 ≤ 6
  sz : r.2.size ≤ m
theorem RsF.le {m m' : Nat} {r : Rsn} (h : RsF m r) (q : m ≤ m') : RsF m' r := ⟨h.lo, h.hi, Nat.le_trans h.sz q⟩
theorem rs_fin {k : Int} {s : ByteArray} {n : Nat} (h : 1 ≤ k ∧ k ≤ 6) : RsF (s.size + n) (k, s) := ⟨h.1, h.2, Nat.le_add_right _ _⟩
def WFin (w : Why) (n : Nat) : Prop := ∀ (a b : Typ) (s : ByteArray) (r : Rsn), Typ.sh a → Typ.sh b → w a b s = some r → RsF (s.size + 14 * n) r
theorem labs_fin {w : Why} {n : Nat} {a b : Typ} {s : ByteArray} {kind : Int} {r : Rsn} (hk : 1 ≤ kind ∧ kind ≤ 6) (hw : ∀ i j s' r, i < a.kids.length → j < b.kids.length → w (kidA a i) (kidA b j) s' = some r → RsF (s'.size + 14 * n) r) (hl : ∀ k, k < a.labels.length → (a.labels.getD k default).size ≤ 12) (ha : ¬ a.kids.length = 0 → a.kids.length = a.labels.length ∧ b.kids.length = b.labels.length) (h : labsW w a b s kind = some r) : RsF (s.size + 14 * (n + 1)) r := by
  obtain ⟨k, hk1, e⟩ := fstK_ex h
  have hz : (labA a k).size ≤ 12 := hl k hk1
  by_cases q : plI b.labels (labA a k) < 0
  · rw [lbW_neg q] at e
    cases e
    exact ⟨hk.1, hk.2, Nat.le_trans (dl_lab hz) (by omega)⟩
  by_cases q0 : a.kids.length = 0
  · rw [lbW_nil q q0] at e; cases e
  rw [lbW_pos q q0] at e
  obtain ⟨h1, h2⟩ := ha q0
  have := hw k (plI b.labels (labA a k)).toNat _ r (by omega) (pl_nat q h2) e
  exact this.le (by have := dl_lab (s := s) hz; omega)
theorem why_fin : ∀ n, WFin (whyN n) n
  | 0 => fun a b s r _ _ h => (nomatch h)
  | n + 1 => fun a b s r sa sb h => by
    have ih := why_fin n
    have hs : ∀ c : ByteArray, c.size ≤ 12 → (s ++ c).size ≤ s.size + 14 := fun c hc => dl_cat hc
    have hK : ∀ i j s' r, i < a.kids.length → j < b.kids.length → whyN n (kidA a i) (kidA b j) s' = some r → RsF (s'.size + 14 * n) r := fun i j s' r hi hj q => ih _ _ _ _ (sh_kid sa hi) (sh_kid sb hj) q
    have hs1 : ∀ (i j : Nat) (c : ByteArray) (r : Rsn), c.size ≤ 12 → i < a.kids.length → j < b.kids.length → whyN n (kidA a i) (kidA b j) (s ++ c) = some r → RsF (s.size + 14 * (n + 1)) r := fun i j c r hc hi hj q => (hK i j _ r hi hj q).le (by have := hs c hc; omega)
    rw [whyN_succ] at h
    obtain ⟨a1, a3, a4, a5, a7, all, alz⟩ := knd sa
    obtain ⟨b1, b3, b4, b5, b7, bll, blz⟩ := knd sb
    by_cases h1 : numK a.kind ∧ numK b.kind
    · by_cases q : widK a.kind b.kind
      · rw [ws_in h1.1 h1.2 q] at h; cases h
      · rw [ws_out h1.1 h1.2 q] at h; cases h
        exact rs_fin (by decide)
    by_cases h2' : ¬ a.kind = b.kind
    · rw [ws_kind h1 h2'] at h; cases h
      exact rs_fin (by decide)
    have h2 := Classical.not_not.1 h2'
    by_cases q1 : a.kind = 12
    · rw [ws_12 h2 q1] at h
      exact hs1 0 0 _ r (by decide) (by omega) (by omega) h
    by_cases q2 : a.kind = 13
    · rw [ws_13 h2 q2] at h
      exact hs1 0 0 _ r (by decide) (by omega) (by omega) h
    by_cases q3 : a.kind = 14
    · rw [ws_14 h2 q3] at h
      cases e : whyN n (kidA a 0) (kidA b 0) (s ++ ⟨#[46, 111, 107]⟩) with
      | some x =>
        rw [e] at h
        obtain rfl : x = r := Option.some.inj h
        exact hs1 0 0 _ x (by decide) (by omega) (by omega) e
      | none =>
        rw [e] at h
        exact hs1 1 1 _ r (by decide) (by omega) (by omega) h
    by_cases q4 : a.kind = 15
    · rw [ws_15 h2 q4] at h
      unfold tupW at h
      by_cases q : a.kids.length = b.kids.length
      · rw [if_pos q] at h
        obtain ⟨k, hk, e⟩ := fstK_ex h
        exact (hK k k _ r hk (by omega) e).le (by have := dl_lab (s := s) (dig_sz k); omega)
      · rw [if_neg q] at h
        cases h
        exact rs_fin (by decide)
    by_cases q5 : a.kind = 16
    · rw [ws_16 h2 q5] at h
      exact labs_fin (w := fun x y s => whyN n y x s) (by decide) (fun i j s' r hi hj q => hK j i s' r hj hi q) blz (fun _ => ⟨b5 (by omega), a5 (by omega)⟩) h
    by_cases q6 : a.kind = 17 ∨ a.kind = 18 ∨ a.kind = 19
    · rw [ws_17 h2 q6] at h
      exact labs_fin (w := whyN n) (by decide) hK alz (fun q => ⟨a5 (by omega), b5 (by omega)⟩) h
    by_cases q7 : a.kind = 20 ∨ a.kind = 21
    · rw [ws_20 h2 q7] at h
      by_cases q : a.name = b.name
      · rw [if_pos q] at h; cases h
      · rw [if_neg q] at h; cases h
        exact rs_fin (by decide)
    by_cases q8 : a.kind = 22 ∨ a.kind = 23
    · rw [ws_22 h2 q8] at h
      by_cases q : pb (Typ.sam 100 (kidA a 0) (kidA b 0)) = true
      · rw [if_pos q] at h; cases h
      · rw [if_neg q] at h; cases h
        exact rs_fin (by decide)
    rw [ws_no h1 h2 (by omega)] at h
    cases h
end Go.Proofs.YtfddakeigmpjkaaGreatDoor

namespace Go.Proofs.YtfddakeigmpjkaaGreatDoor
open Go Go.RowKit
set_option linter.unusedVariables false
set_option linter.unusedSimpArgs false

def msgK (k : Int) : ByteArray := if k = 1 then ⟨#[97, 110, 111, 116, 104, 101, 114, 32, 107, 105, 110, 100]⟩ else if k = 2 then ⟨#[110, 117, 109, 98, 101, 114, 115, 32, 100, 111, 32, 110, 111, 116, 32, 102, 105, 116]⟩ else if k = 3 then ⟨#[111, 116, 104, 101, 114, 32, 112, 97, 114, 116, 115]⟩ else if k = 4 then ⟨#[97, 32, 108, 97, 98, 101, 108, 32, 108, 97, 99, 107, 115]⟩ else if k = 5 then ⟨#[97, 110, 32, 117, 110, 107, 110, 111, 119, 110, 32, 99, 97, 115, 101]⟩ else ⟨#[97, 110, 111, 116, 104, 101, 114, 32, 114, 101, 115, 111, 117, 114, 99, 101]⟩
def msgT (k : Int) (s : ByteArray) : ByteArray := if s = ⟨#[]⟩ then msgK k else s ++ ⟨#[58, 32]⟩ ++ msgK k
theorem str3 {s c t : ByteArray} (hs : s.size ≤ 1000) (hc : c.size ≤ 16) (ht : t.size ≤ 32) : ((s ++ c).size + t.size).le maxLen := Nat.le_trans (show (s ++ c).size + t.size ≤ 1048 by rw [ByteArray.size_append]; omega) (by decide)
theorem msgK_lo (k : Int) : 11 ≤ (msgK k).size ∧ (msgK k).size ≤ 18 := by
  unfold msgK
  repeat' split
  all_goals exact ⟨by decide, by decide⟩
theorem msgT_lt (k : Int) (s : ByteArray) : s.size < (msgT k s).size := by
  have := msgK_lo k
  unfold msgT
  by_cases h : s = ⟨#[]⟩
  · rw [if_pos h, h]; show 0 < _; omega
  · rw [if_neg h, ByteArray.size_append, ByteArray.size_append]
    omega
theorem msgT_pre (k : Int) (s : ByteArray) : (msgT k s).extract 0 s.size = s := by
  unfold msgT
  by_cases h : s = ⟨#[]⟩
  · rw [if_pos h, h]
    apply ByteArray.ext
    show ((msgK k).extract 0 0).data = #[]
    simp
  · rw [if_neg h]
    apply ByteArray.ext
    simp [ByteArray.append_assoc]
set_option maxRecDepth 8000 in
set_option maxHeartbeats 1000000 in
theorem text_ok (k : Int) (s : ByteArray) (hk : 1 ≤ k ∧ k ≤ 6) (hs : s.size ≤ 1000) : Ret env.P 14 [.agg [.i .i64 k, .s s]] (fun r => r = .s (msgT k s)) := by
  have hT := fun q : s = ⟨#[]⟩ => show msgT k s = msgK k from if_pos q
  have hT' := fun q : ¬ s = ⟨#[]⟩ => show msgT k s = s ++ ⟨#[58, 32]⟩ ++ msgK k from if_neg q
  have hw := within_ok k 1 11
  rw [decide_eq_true (show 1 ≤ k ∧ k ≤ 11 by omega)] at hw
  rcases (show k = 1 ∨ k = 2 ∨ k = 3 ∨ k = 4 ∨ k = 5 ∨ k = 6 by omega) with rfl | rfl | rfl | rfl | rfl | rfl
  all_goals
    refine ret_of (nt := 25) (rvs := [.tmp 2]) Tryz.func14 rfl rfl rfl rfl (fun X => ?_)
    repeat' (first | exact aa | ((conv => whnf) <;> (first | (exfalso; exact ‹¬True› trivial) | decide | exact str1 hs (by decide) | exact str3 hs (by decide) (by decide) | refine And.intro ?_ ?_ | (intro _h; first | contradiction | (try simp only [dd] at _h)) | (refine dt_go ?_) | exact rfl | exact True.intro | exact dkk | exact dks | ((first | refine .inl ⟨_, hw, ?_⟩ | refine ⟨_, hw, ?_⟩); (try rintro _ rfl)) | (refine wrap_succ ?_; omega))))
    all_goals (conv => whnf)
    all_goals first
      | exact congrArg AV.s (hT' _h).symm
      | exact congrArg AV.s (hT _h).symm
      | trace_state
theorem text_none : Ret env.P 14 [.agg [.i .i64 0, .s ⟨#[]⟩]] (fun r => r = .s ⟨#[]⟩) := by
  have hw := within_ok 0 1 11
  rw [decide_eq_false (by decide)] at hw
  refine ret_of (nt := 25) (rvs := [.tmp 2]) Tryz.func14 rfl rfl rfl rfl (fun X => ?_)
  repeat' (first | exact aa | ((conv => whnf) <;> (first | (exfalso; exact ‹¬True› trivial) | refine And.intro ?_ ?_ | (intro _h; first | contradiction | (try simp only [dd] at _h)) | (refine dt_go ?_) | exact rfl | exact True.intro | exact dkk | exact dks | ((first | refine .inl ⟨_, hw, ?_⟩ | refine ⟨_, hw, ?_⟩); (try rintro _ rfl)) | (refine wrap_succ ?_; omega))))
  all_goals trace_state
theorem tm_lo {x m : Int} (hx : 0 ≤ x) (hm : 0 < m) : 0 ≤ x.tmod m := by rw [Int.tmod_eq_emod_of_nonneg hx]; exact Int.emod_nonneg _ (by omega)
theorem tm_hi {x m : Int} (hx : 0 ≤ x) (hm : 0 < m) : x.tmod m < m := by rw [Int.tmod_eq_emod_of_nonneg hx]; exact Int.emod_lt_of_pos _ hm
theorem a8At_ok (l : List UInt8) (hl : l.length ≤ 1048576) : Ret env.P 11 [slL 1 byteC l, .i .i64 1, .i .i64 2] (fun r => ∃ v : Int, r = .i .i64 v) := by
  refine ret_of (nt := 42) (rvs := [.tmp 6]) Tryz.func11 rfl rfl rfl rfl (fun X => ?_)
  repeat' (first | exact aa | ((conv => whnf) <;> (first | exact tm_lo (by decide) (by omega) | exact tm_hi (by decide) (by omega) | refine And.intro ?_ ?_ | (intro _h; first | contradiction | (try simp only [dd] at _h)) | (refine dt_go ?_) | exact rfl | exact True.intro | exact dkk | exact dks | (refine wrap_succ ?_; omega))))
  all_goals (conv => whnf)
  all_goals first
    | exact ⟨_, rfl⟩
    | trace_state
end Go.Proofs.YtfddakeigmpjkaaGreatDoor

namespace Go.Proofs.YtfddakeigmpjkaaGreatDoor
open Go Go.RowKit
set_option linter.unusedVariables false
set_option linter.unusedSimpArgs false

set_option maxRecDepth 8000 in
theorem whyNotI_ok {a b : Typ} (ha : Gd a) (hb : Gd b) : Ret env.P 12 [.agg (Typ.pN 6 a), .agg (Typ.pN 6 b)] (fun r => r = rsV (whyN 6 a b ⟨#[]⟩)) := by
  have h1 := okI_ok ha
  have h2 := okI_ok hb
  have h3 := whyI_6 ha hb
  refine ret_of (nt := 22) (rvs := [.cell 4 34, .tmp 5]) Tryz.func12 rfl rfl rfl rfl (fun X => ?_)
  repeat' (first | exact aa | ((conv => whnf) <;> (first | (exfalso; exact ‹¬True› trivial) | refine And.intro ?_ ?_ | (intro _h; first | contradiction | (try simp only [dd] at _h)) | (refine dt_go ?_) | exact rfl | exact True.intro | exact dkk | exact dks | ((first | refine .inl ⟨_, h1, ?_⟩ | refine ⟨_, h1, ?_⟩); (try rintro _ rfl)) | ((first | refine .inl ⟨_, h2, ?_⟩ | refine ⟨_, h2, ?_⟩); (try rintro _ rfl)) | ((first | refine .inl ⟨_, h3, ?_⟩ | refine ⟨_, h3, ?_⟩); (try rintro _ rfl)) | (refine wrap_succ ?_; omega))))
  all_goals trace_state
set_option maxRecDepth 8000 in
theorem whyNotS_ok {a b : Typ} (ha : Gd a) (hb : Gd b) : Ret env.P 13 [.agg (Typ.pN 6 a), .agg (Typ.pN 6 b)] (fun r => r = rsV (whyN 6 a b ⟨#[]⟩)) := by
  have h1 := okS_ok ha
  have h2 := okS_ok hb
  have h3 := whyS_6 ha hb
  refine ret_of (nt := 20) (rvs := [.cell 4 34, .tmp 5]) Tryz.func13 rfl rfl rfl rfl (fun X => ?_)
  repeat' (first | exact aa | ((conv => whnf) <;> (first | (exfalso; exact ‹¬True› trivial) | refine And.intro ?_ ?_ | (intro _h; first | contradiction | (try simp only [dd] at _h)) | (refine dt_go ?_) | exact rfl | exact True.intro | exact dkk | exact dks | ((first | refine .inl ⟨_, h1, ?_⟩ | refine ⟨_, h1, ?_⟩); (try rintro _ rfl)) | ((first | refine .inl ⟨_, h2, ?_⟩ | refine ⟨_, h2, ?_⟩); (try rintro _ rfl)) | ((first | refine .inl ⟨_, h3, ?_⟩ | refine ⟨_, h3, ?_⟩); (try rintro _ rfl)) | (refine wrap_succ ?_; omega))))
  all_goals trace_state
/-- What the law asks of two valid types. -/
structure RsA (a b : Typ) (k : Int) (s : ByteArray) (p : Bool) (m : ByteArray) : Prop where
  e1 : Ret env.P 12 [.agg (Typ.pN 6 a), .agg (Typ.pN 6 b)] (fun r => r = .tup [.agg [.i .i64 k, .s s], .b p])
  e2 : Ret env.P 13 [.agg (Typ.pN 6 a), .agg (Typ.pN 6 b)] (fun r => r = .tup [.agg [.i .i64 k, .s s], .b p])
  e3 : Ret env.P 9 [.agg (Typ.pN 6 a), .agg (Typ.pN 6 b)] (fun r => r = .b (!p))
  e4 : Ret env.P 14 [.agg [.i .i64 k, .s s]] (fun r => r = .s m)
theorem rs_facts {a b : Typ} (ha : Gd a) (hb : Gd b) : ∃ (k : Int) (s : ByteArray) (p : Bool) (m : ByteArray), RsA a b k s p m ∧ ((p = false ∧ m = ⟨#[]⟩) ∨ (p = true ∧ s.size < m.size ∧ m.extract 0 s.size = s)) := by
  have h1 := whyNotI_ok ha hb
  have h2 := whyNotS_ok ha hb
  have h3 := mayI_ok ha hb
  have h4 := why_fin 6 a b ⟨#[]⟩
  unfold mayB at h3
  cases e : whyN 6 a b ⟨#[]⟩ with
  | none =>
    rw [e] at h1 h2 h3
    exact ⟨0, ⟨#[]⟩, false, ⟨#[]⟩, ⟨h1, h2, h3, text_none⟩, .inl ⟨rfl, rfl⟩⟩
  | some r =>
    have hf := h4 r ha.g.2.2 hb.g.2.2 e
    rw [e] at h1 h2 h3
    obtain ⟨k, s⟩ := r
    have hs : s.size ≤ 1000 := Nat.le_trans hf.sz (by decide)
    exact ⟨k, s, true, msgT k s, ⟨h1, h2, h3, text_ok k s ⟨hf.lo, hf.hi⟩ hs⟩, .inr ⟨rfl, msgT_lt k s, msgT_pre k s⟩⟩
theorem rs_dt (h : (decide True && (decide True && true)) = false) : False := absurd h (by decide)
theorem rs_lt {m s : ByteArray} (h : s.size < m.size) (e : ¬ (s.size : Int) < m.size) : False := by omega
theorem rs_ne {m s : ByteArray} (h : s.size < m.size) (e : m = ⟨#[]⟩) : False := by
  subst e
  exact absurd h (Nat.not_lt_zero _)
set_option maxRecDepth 8000 in
set_option maxHeartbeats 4000000 in
theorem reasonsLaw_of (l : List UInt8) : RetM env.P 4 [] [slL 1 byteC l] (fun r H => (r = .b true ∨ r = .kb true) ∧ H = []) := by
  by_cases hl : 1048576 < (l.length : Int)
  · refine ret_ofM (nt := 77) (rvs := [.tmp 2]) Tryz.func4 rfl rfl rfl rfl (fun X hX => ?_)
    repeat' (first | exact aa | ((conv => whnf) <;> (first | (exfalso; omega) | refine And.intro ?_ ?_ | (intro _h; first | contradiction | (try simp only [dd] at _h)) | (refine dt_go ?_) | exact rfl | exact True.intro | exact dkk | exact dks | (refine wrap_succ ?_; omega))))
    all_goals (conv => whnf)
    all_goals exact endM_pick [] [] (.kb true) (view_of rfl .nil) rfl rfl (fun k hk => by rw [hX] at hk; exact absurd hk (Nat.not_lt_zero _)) ⟨.inr rfl, rfl⟩
  · have hA := retA l (by omega)
    have hM1 := retM 1 (.inl rfl) l (by omega)
    have hAt := a8At_ok l (by omega)
    refine ret_ofM (nt := 77) (rvs := [.tmp 2]) Tryz.func4 rfl rfl rfl rfl (fun X hX => ?_)
    repeat' (first | exact aa | ((conv => whnf) <;> (first | (exfalso; omega) | ((first | refine .inl ⟨_, hA, ?_⟩ | refine ⟨_, hA, ?_⟩); rintro _ ⟨a, ha, rfl⟩) | ((first | refine .inl ⟨_, hM1, ?_⟩ | refine ⟨_, hM1, ?_⟩); rintro _ ⟨l1, hl1, rfl⟩) | ((first | refine .inl ⟨_, retW l1 hl1 a ha, ?_⟩ | refine ⟨_, retW l1 hl1 a ha, ?_⟩); rintro _ ⟨b, hb, rfl⟩) | ((first | refine .inl ⟨_, hAt, ?_⟩ | refine ⟨_, hAt, ?_⟩); rintro _ ⟨v, rfl⟩) | refine And.intro ?_ ?_ | (intro _h; first | contradiction | (try simp only [dd] at _h)) | (refine dt_go ?_) | exact rfl | exact True.intro | exact dkk | exact dks | (refine wrap_succ ?_; omega))))
    all_goals (conv => whnf)
    all_goals first
      | (have hv : v = 0 := _h
         obtain ⟨k, t, p, m, ⟨e1, e2, e3, e4⟩, ⟨rfl, rfl⟩ | ⟨rfl, h6, h7⟩⟩ := rs_facts hb ha
         · repeat' (first | exact aa | ((conv => whnf) <;> (first | (exfalso; exact ‹¬True› trivial) | (exfalso; exact rs_dt ‹_›) | refine And.intro ?_ ?_ | (intro _h; first | contradiction | (try simp only [dd] at _h)) | (refine dt_go ?_) | exact rfl | exact True.intro | exact dkk | exact dks | ((first | refine .inl ⟨_, e1, ?_⟩ | refine ⟨_, e1, ?_⟩); (try rintro _ rfl)) | ((first | refine .inl ⟨_, e2, ?_⟩ | refine ⟨_, e2, ?_⟩); (try rintro _ rfl)) | ((first | refine .inl ⟨_, e3, ?_⟩ | refine ⟨_, e3, ?_⟩); (try rintro _ rfl)) | ((first | refine .inl ⟨_, e4, ?_⟩ | refine ⟨_, e4, ?_⟩); (try rintro _ rfl)) | (refine wrap_succ ?_; omega))))
           all_goals (conv => whnf)
           all_goals first
               | exact endM_pick [] [] (.b true) (view_of rfl .nil) rfl rfl (fun k hk => by rw [hX] at hk; exact absurd hk (Nat.not_lt_zero _)) ⟨.inl rfl, rfl⟩
               | exact endM_pick [] [] (.b (decide _)) (view_of rfl .nil) rfl rfl (fun k hk => by rw [hX] at hk; exact absurd hk (Nat.not_lt_zero _)) ⟨.inl (congrArg AV.b (decide_eq_true rfl)), rfl⟩
               | (exfalso; exact rs_dt ‹_›)
               | trace_state
         · repeat' (first | exact aa | ((conv => whnf) <;> (first | (exfalso; exact ‹¬True› trivial) | (exfalso; exact rs_dt ‹_›) | (exfalso; exact rs_ne h6 ‹_›) | (exfalso; exact rs_lt h6 ‹_›) | refine And.intro ?_ ?_ | (intro _h; first | contradiction | (try simp only [dd] at _h)) | (refine dt_go ?_) | exact rfl | exact True.intro | exact dkk | exact dks | ((first | refine .inl ⟨_, e1, ?_⟩ | refine ⟨_, e1, ?_⟩); (try rintro _ rfl)) | ((first | refine .inl ⟨_, e2, ?_⟩ | refine ⟨_, e2, ?_⟩); (try rintro _ rfl)) | ((first | refine .inl ⟨_, e3, ?_⟩ | refine ⟨_, e3, ?_⟩); (try rintro _ rfl)) | ((first | refine .inl ⟨_, e4, ?_⟩ | refine ⟨_, e4, ?_⟩); (try rintro _ rfl)) | (refine wrap_succ ?_; omega))))
           all_goals (conv => whnf)
           all_goals first
               | exact endM_pick [] [] (.b (decide (m.extract 0 t.size = t))) (view_of rfl .nil) rfl rfl (fun k hk => by rw [hX] at hk; exact absurd hk (Nat.not_lt_zero _)) ⟨.inl (congrArg AV.b (decide_eq_true h7)), rfl⟩
               | (exfalso; exact rs_dt ‹_›)
               | trace_state)
      | (have hv : ¬ v = 0 := _h
         obtain ⟨k, t, p, m, ⟨e1, e2, e3, e4⟩, ⟨rfl, rfl⟩ | ⟨rfl, h6, h7⟩⟩ := rs_facts ha hb
         · repeat' (first | exact aa | ((conv => whnf) <;> (first | (exfalso; exact ‹¬True› trivial) | (exfalso; exact rs_dt ‹_›) | refine And.intro ?_ ?_ | (intro _h; first | contradiction | (try simp only [dd] at _h)) | (refine dt_go ?_) | exact rfl | exact True.intro | exact dkk | exact dks | ((first | refine .inl ⟨_, e1, ?_⟩ | refine ⟨_, e1, ?_⟩); (try rintro _ rfl)) | ((first | refine .inl ⟨_, e2, ?_⟩ | refine ⟨_, e2, ?_⟩); (try rintro _ rfl)) | ((first | refine .inl ⟨_, e3, ?_⟩ | refine ⟨_, e3, ?_⟩); (try rintro _ rfl)) | ((first | refine .inl ⟨_, e4, ?_⟩ | refine ⟨_, e4, ?_⟩); (try rintro _ rfl)) | (refine wrap_succ ?_; omega))))
           all_goals (conv => whnf)
           all_goals first
               | exact endM_pick [] [] (.b true) (view_of rfl .nil) rfl rfl (fun k hk => by rw [hX] at hk; exact absurd hk (Nat.not_lt_zero _)) ⟨.inl rfl, rfl⟩
               | exact endM_pick [] [] (.b (decide _)) (view_of rfl .nil) rfl rfl (fun k hk => by rw [hX] at hk; exact absurd hk (Nat.not_lt_zero _)) ⟨.inl (congrArg AV.b (decide_eq_true rfl)), rfl⟩
               | (exfalso; exact rs_dt ‹_›)
               | trace_state
         · repeat' (first | exact aa | ((conv => whnf) <;> (first | (exfalso; exact ‹¬True› trivial) | (exfalso; exact rs_dt ‹_›) | (exfalso; exact rs_ne h6 ‹_›) | (exfalso; exact rs_lt h6 ‹_›) | refine And.intro ?_ ?_ | (intro _h; first | contradiction | (try simp only [dd] at _h)) | (refine dt_go ?_) | exact rfl | exact True.intro | exact dkk | exact dks | ((first | refine .inl ⟨_, e1, ?_⟩ | refine ⟨_, e1, ?_⟩); (try rintro _ rfl)) | ((first | refine .inl ⟨_, e2, ?_⟩ | refine ⟨_, e2, ?_⟩); (try rintro _ rfl)) | ((first | refine .inl ⟨_, e3, ?_⟩ | refine ⟨_, e3, ?_⟩); (try rintro _ rfl)) | ((first | refine .inl ⟨_, e4, ?_⟩ | refine ⟨_, e4, ?_⟩); (try rintro _ rfl)) | (refine wrap_succ ?_; omega))))
           all_goals (conv => whnf)
           all_goals first
               | exact endM_pick [] [] (.b (decide (m.extract 0 t.size = t))) (view_of rfl .nil) rfl rfl (fun k hk => by rw [hX] at hk; exact absurd hk (Nat.not_lt_zero _)) ⟨.inl (congrArg AV.b (decide_eq_true h7)), rfl⟩
               | (exfalso; exact rs_dt ‹_›)
               | trace_state)
      | trace_state
end Go.Proofs.YtfddakeigmpjkaaGreatDoor

namespace Go.Proofs.YtfddakeigmpjkaaGreatDoor.fnSubtypeReasons
open Go.ChangeShapes Go.WideShapes Go.ChangeAt Go.RowKit
set_option linter.unusedVariables false
set_option maxRecDepth 100000 in
theorem fact_joined : joinedFacts Tryz.pinned.checked.prog 4 Tryz.f4 Rows.fnSubtypeReasonsSpec Rows.fnSubtypeReasonsRow = true := by kernel_rfl
end Go.Proofs.YtfddakeigmpjkaaGreatDoor.fnSubtypeReasons

namespace Go.Proofs.YtfddakeigmpjkaaGreatDoor.fnSubtypeReasons
open Go.ChangeShapes Go.WideShapes Go.ChangeAt Go.RowKit
set_option linter.unusedVariables false
set_option maxRecDepth 100000 in
theorem fact_named : Tryz.pinned.checked.prog.funcNamed Rows.fnSubtypeReasonsRow.func = some 4 := by kernel_rfl
set_option maxRecDepth 100000 in
theorem fact_inst : Tryz.f4.isInstance Tryz.pinned.checked.prog Rows.fnSubtypeReasonsRow.origin Rows.fnSubtypeReasonsRow.targs := of_decide_eq_true (by kernel_rfl)
set_option maxRecDepth 100000 in
theorem fact_wrap : Tryz.f4.isWrapper Tryz.pinned.checked.prog Rows.fnSubtypeReasonsRow.wrapper Rows.fnSubtypeReasonsRow.mainSum := by
  unfold Func.isWrapper; first | (rw [if_pos (by decide +kernel)]; kernel_rfl) | (rw [if_neg (by decide +kernel)]; exact ⟨rfl, rfl⟩)
end Go.Proofs.YtfddakeigmpjkaaGreatDoor.fnSubtypeReasons

namespace Go.Proofs.YtfddakeigmpjkaaGreatDoor
open Go Go.RowKit
set_option linter.unusedVariables false
set_option linter.unusedSimpArgs false

theorem Lw.of_eq {w w' : World} (h : ∀ b, b < w.heap.size → w'.heap[b]? = w.heap[b]?) (hl : Lw w) : Lw w' := trivial
theorem lw_of {W : World} {p q : Prop} (_ : p) (_ : q) : Lw W := trivial
theorem reasonsLaw (l : List UInt8) : Ret env.P 4 [slL 1 byteC l] (fun r => r = .b true) := (reasonsLaw_of l).toRetP

namespace fnSubtypeReasons
theorem law_ret (dss : List (List AV)) (h : TyCs Tryz.prog Tryz.f4.params.toList dss) : Ret Tryz.prog 4 (mkArgs Tryz.prog Tryz.f4.params.toList dss) fun r => r = .b true := by
  obtain ⟨d0, r0, rfl, h0, h⟩ := h.cons_inv
  obtain rfl := h.nil_inv
  obtain ⟨l, hl⟩ := arg_one (c := fun l => slL 1 byteC l) (rd_sl Tryz.underlying22 (by kernel_rfl) (rd_u8 Tryz.underlying5)) (by kernel_rfl) h0
  exact Ret.wk (.cons hl .nil) (reasonsLaw l)
end fnSubtypeReasons
end Go.Proofs.YtfddakeigmpjkaaGreatDoor
namespace Go.Proofs.YtfddakeigmpjkaaGreatDoor.fnSubtypeReasons
open Go.ChangeShapes Go.WideShapes Go.ChangeAt Go.RowKit
set_option linter.unusedVariables false

theorem own : ownKnob Tryz.prog.godebug = none := by kernel_rfl

set_option maxRecDepth 100000 in
theorem lifted (os : Os) (started : os.Started) (H : Type) (enc : TypeId × Go.Value → H) :
    ReturnsInHanded {} Tryz.checked os 4 .any (fun w args => (Rows.fnSubtypeReasonsSpec.pre enc Tryz.prog Tryz.f4 Rows.fnSubtypeReasonsRow.domain false w args ∧ laidMetH Tryz.prog Rows.fnSubtypeReasonsRow.laid w) ∧ sizedMet enc Tryz.prog Tryz.f4 (OpenSpec.ofChange Rows.fnSubtypeReasonsSpec) false w args) (Rows.fnSubtypeReasonsSpec.post enc Tryz.prog Tryz.f4 false true false false) := by
  refine returns_laid_shaped (C := Tryz.checked) (X := fun w _ => laidMetH Tryz.prog Rows.fnSubtypeReasonsRow.laid w) (fun _ _ _ hh h => h.of_heap hh) own started (by kernel_rfl) Tryz.func4
    (ChangeSpec.witness_shaped (enc := enc) (C := Tryz.checked) (os := os) (X := fun w _ => laidMetH Tryz.prog Rows.fnSubtypeReasonsRow.laid w) false (World.laidAll Tryz.prog os Rows.fnSubtypeReasonsRow.laid) #[.slice none 0 0] 8 (World.laidAll_os _ _ _)
      (World.shaped_of_ZipB (by kernel_rfl) (by kernel_rfl)) (by kernel_rfl) (by kernel_rfl) (by kernel_rfl)
      (by rw [MakeChecks.laidMetH_plain _ _ _ (by kernel_rfl)]; exact laidMet_laidAll _ (by kernel_rfl) (by kernel_rfl))) ?_
  intro W base args ds gs before hval0 hW hX hsh
  have hl : Lw W := lw_of hX hsh
  refine law_end (k := closeT Tryz.prog 9 Tryz.f4.params.toList) rfl (by kernel_rfl) (by kernel_rfl) rfl Tryz.underlying4 ?_ (fun dss h => law_ret dss h) hval0 hW ⟨fun w' h => hl.of_eq h⟩
  · rintro ds hl
    match ds, hl with
    | [_], _ => rfl

theorem over : Rows.fnSubtypeReasonsRow.holds Tryz.pinned (OpenSpec.ofChange Rows.fnSubtypeReasonsSpec) :=
  OpenClaim.holds_of_wide 4 Tryz.f4 rfl rfl rfl rfl rfl rfl rfl ⟨rfl, rfl, rfl, rfl, rfl⟩ rfl rfl rfl rfl rfl fact_named Tryz.func4 fact_joined fact_inst fact_wrap
    (fun os started H enc _ => lifted os started H enc)

theorem proved : Rows.FnSubtypeReasonsCardSaid :=
  Claim7.holds_tied_plain_at .later [] [.data, .data, .data] true (true, "c4d8198ccd0a4e5007924c343eb2c32ed47ffb01e87d658d64c631371c8412e2") false over (fun _ h => by cases h) (by kernel_rfl) (fun _ h => by cases h) fnSubtypeReasons_row_tie rfl ⟨rfl, rfl⟩ (by kernel_rfl) rfl
    (fun f fn hf hfn => by
      obtain rfl : f = 4 := Option.some.inj ((show Tryz.prog.funcNamed "loop.example/g00901/laws.FnSubtypeReasons" = some 4 by kernel_rfl).symm.trans hf) |>.symm
      obtain rfl : fn = Tryz.f4 := (Option.some.inj (Tryz.func4.symm.trans hfn)).symm
      exact ⟨by kernel_rfl, fun j t ht => by
        rw [Tryz.params4] at ht
        have hm : t ∈ [22] := by simpa using Array.mem_of_getElem? ht
        have hall : ([22].all fun u => !Tryz.prog.wantsStandIn u) = true := by kernel_rfl
        exact (show Tryz.prog.wantsStandIn t = false by simpa using List.all_eq_true.1 hall t hm)⟩)
    (by kernel_rfl)
end Go.Proofs.YtfddakeigmpjkaaGreatDoor.fnSubtypeReasons
