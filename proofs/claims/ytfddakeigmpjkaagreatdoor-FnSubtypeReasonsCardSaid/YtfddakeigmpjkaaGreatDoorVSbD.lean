/-
  Subtypes: the reference's search for a reason, recursively.
-/
import Derived.Test.YtfddakeigmpjkaaGreatDoorVSbC
namespace Go.Proofs.YtfddakeigmpjkaaGreatDoor
open Go Go.RowKit
set_option linter.unusedVariables false
set_option linter.unusedSimpArgs false
attribute [local irreducible] IntKind.wrap

/-! Each kind. -/
section
variable {w : Why} {a b : Typ} {s : ByteArray}
theorem ws_in (h1 : numK a.kind) (h2 : numK b.kind) (h : widK a.kind b.kind) : whyS w a b s = none := by unfold whyS; rw [if_pos ⟨h1, h2⟩, if_pos h]
theorem ws_out (h1 : numK a.kind) (h2 : numK b.kind) (h : ¬ widK a.kind b.kind) : whyS w a b s = some (2, s) := by unfold whyS; rw [if_pos ⟨h1, h2⟩, if_neg h]
theorem ws_kind (h1 : ¬ (numK a.kind ∧ numK b.kind)) (h2 : ¬ a.kind = b.kind) : whyS w a b s = some (1, s) := by unfold whyS; rw [if_neg h1, if_pos h2]
theorem nn_num {k l : Int} (h : ¬ (3 ≤ k ∧ k ≤ 9)) : ¬ (numK k ∧ numK l) := fun q => h q.1
theorem ws_12 (h2 : a.kind = b.kind) (h : a.kind = 12) : whyS w a b s = w (kidA a 0) (kidA b 0) (s ++ ⟨#[91, 93]⟩) := by
  unfold whyS; rw [if_neg (nn_num (by omega)), if_neg (Classical.not_not.2 h2), if_pos h]
theorem ws_13 (h2 : a.kind = b.kind) (h : a.kind = 13) : whyS w a b s = w (kidA a 0) (kidA b 0) (s ++ ⟨#[63]⟩) := by
  unfold whyS; rw [if_neg (nn_num (by omega)), if_neg (Classical.not_not.2 h2), if_neg (by omega), if_pos h]
theorem ws_14 (h2 : a.kind = b.kind) (h : a.kind = 14) : whyS w a b s = orE (w (kidA a 0) (kidA b 0) (s ++ ⟨#[46, 111, 107]⟩)) (w (kidA a 1) (kidA b 1) (s ++ ⟨#[46, 101, 114, 114]⟩)) := by
  unfold whyS; rw [if_neg (nn_num (by omega)), if_neg (Classical.not_not.2 h2), if_neg (by omega), if_neg (by omega), if_pos h]
theorem ws_14a (h2 : a.kind = b.kind) (h : a.kind = 14) (q : rsB (w (kidA a 0) (kidA b 0) (s ++ ⟨#[46, 111, 107]⟩)) = true) : whyS w a b s = w (kidA a 0) (kidA b 0) (s ++ ⟨#[46, 111, 107]⟩) := by
  rw [ws_14 h2 h]
  obtain ⟨r, e⟩ := rs_is q
  rw [e]; rfl
theorem ws_14b (h2 : a.kind = b.kind) (h : a.kind = 14) (q : w (kidA a 0) (kidA b 0) (s ++ ⟨#[46, 111, 107]⟩) = none) : whyS w a b s = w (kidA a 1) (kidA b 1) (s ++ ⟨#[46, 101, 114, 114]⟩) := by
  rw [ws_14 h2 h, q]; rfl
theorem ws_15 (h2 : a.kind = b.kind) (h : a.kind = 15) : whyS w a b s = tupW w a b s := by
  unfold whyS; rw [if_neg (nn_num (by omega)), if_neg (Classical.not_not.2 h2), if_neg (by omega), if_neg (by omega), if_neg (by omega), if_pos h]
theorem ws_16 (h2 : a.kind = b.kind) (h : a.kind = 16) : whyS w a b s = labsW (fun x y s => w y x s) b a s 4 := by
  unfold whyS; rw [if_neg (nn_num (by omega)), if_neg (Classical.not_not.2 h2), if_neg (by omega), if_neg (by omega), if_neg (by omega), if_neg (by omega), if_pos h]
theorem ws_17 (h2 : a.kind = b.kind) (h : a.kind = 17 ∨ a.kind = 18 ∨ a.kind = 19) : whyS w a b s = labsW w a b s 5 := by
  unfold whyS; rw [if_neg (nn_num (by omega)), if_neg (Classical.not_not.2 h2), if_neg (by omega), if_neg (by omega), if_neg (by omega), if_neg (by omega), if_neg (by omega), if_pos h]
theorem ws_20 (h2 : a.kind = b.kind) (h : a.kind = 20 ∨ a.kind = 21) : whyS w a b s = if a.name = b.name then none else some (6, s) := by
  unfold whyS; rw [if_neg (nn_num (by omega)), if_neg (Classical.not_not.2 h2), if_neg (by omega), if_neg (by omega), if_neg (by omega), if_neg (by omega), if_neg (by omega), if_neg (by omega), if_pos h]
theorem ws_22 (h2 : a.kind = b.kind) (h : a.kind = 22 ∨ a.kind = 23) : whyS w a b s = if pb (Typ.sam 100 (kidA a 0) (kidA b 0)) then none else some (3, s) := by
  unfold whyS; rw [if_neg (nn_num (by omega)), if_neg (Classical.not_not.2 h2), if_neg (by omega), if_neg (by omega), if_neg (by omega), if_neg (by omega), if_neg (by omega), if_neg (by omega), if_neg (by omega), if_pos h]
theorem ws_no (h1 : ¬ (numK a.kind ∧ numK b.kind)) (h2 : a.kind = b.kind) (h : ¬ ((12 ≤ a.kind ∧ a.kind ≤ 23))) : whyS w a b s = none := by
  unfold whyS; rw [if_neg h1, if_neg (Classical.not_not.2 h2), if_neg (by omega), if_neg (by omega), if_neg (by omega), if_neg (by omega), if_neg (by omega), if_neg (by omega), if_neg (by omega), if_neg (by omega)]
end
/-! What is known of a valid type, in numbers. -/
structure Knd (a : Typ) : Prop where
  k1 : a.kind = 12 ∨ a.kind = 13 ∨ a.kind = 22 ∨ a.kind = 23 → a.kids.length = 1
  k3 : a.kind = 14 → a.kids.length = 2
  k4 : a.kind = 15 → a.kids.length ≤ 6
  k5 : a.kind = 16 ∨ a.kind = 17 → a.kids.length = a.labels.length
  k7 : a.kind = 18 ∨ a.kind = 19 → a.kids.length = 0
  ll : a.labels.length ≤ 16
  lz : ∀ k, k < a.labels.length → (a.labels.getD k default).size ≤ 12
theorem knd {a : Typ} (h : Typ.sh a) : Knd a := by
  have hp := (Typ.sh_eq.1 h).1
  have hl : isLab a.kind ∨ a.labels.length = 0 := by
    by_cases q : isLab a.kind
    · exact .inl q
    · exact .inr (hp.l2 q)
  refine ⟨fun e => ?_, hp.ks.k3, fun e => (hp.ks.k4 e).2.1, fun e => ?_, fun e => (hp.ks.k7 (by omega)).2, ?_, fun k hk => ?_⟩
  · by_cases q : a.kind = 12 ∨ a.kind = 13
    · exact (hp.ks.k1 q).1
    · exact (hp.ks.k2 (by omega)).1
  · rcases e with e | e
    · exact (hp.ks.k5 e).1
    · exact hp.ks.k6 e
  · rcases hl with q | q
    · exact (hp.l1 q).hi
    · omega
  · rcases hl with q | q
    · exact ((hp.l1 q).nm k hk).hi
    · omega
theorem sameTS_ok {m m' : Nat} {a b : Typ} (h : Typ.oN (m + 1) a) (hb : Typ.oN (m' + 1) b) : Ret env.P 54 [.agg (Typ.pN (m + 1) a), .agg (Typ.pN (m' + 1) b)] (fun r => r = .b (pb (Typ.sam 100 a b))) := by
  refine ret_of (nt := 8) (rvs := [.tmp 4]) Tryz.func54 rfl rfl rfl rfl (fun X => ?_)
  repeat' (first | exact aa | ((conv => whnf) <;> (first | refine And.intro ?_ ?_ | (intro _h; first | contradiction | (try simp only [dd] at _h)) | (refine dt_go ?_) | exact rfl | exact True.intro | exact dkk | exact dks | ((first | refine .inl ⟨_, l03Same_n 100 (by omega) 1 (by omega) m a h m' b (Typ.oN_fN _ _ hb), ?_⟩ | refine ⟨_, l03Same_n 100 (by omega) 1 (by omega) m a h m' b (Typ.oN_fN _ _ hb), ?_⟩); (try rintro _ rfl)) | (refine wrap_succ ?_; omega))))
/-- What a search for a reason shows. -/
def WhyOk (g : FuncId) (n : Nat) : Prop := ∀ (a b : Typ) (s : ByteArray), Typ.oN n a → Typ.oN n b → Typ.sh a → Typ.sh b → s.size + 14 * n ≤ 1000 → Ret env.P g [.agg (Typ.pN n a), .agg (Typ.pN n b), .s s] (fun r => r = rsV (whyN n a b s))
theorem WhyOk.kids {g : FuncId} {n : Nat} (ih : WhyOk g n) {a b : Typ} {s : ByteArray} (ha : Typ.oN (n + 1) a) (hb : Typ.oN (n + 1) b) (sa : Typ.sh a) (sb : Typ.sh b) (hs : s.size + 14 * (n + 1) ≤ 1000) : KidW g (whyN n) (n + 1) a b s := fun i j s' hs' hi hj => by
  have o1 := Typ.oN_kid ha hi
  have o2 := Typ.oN_kid hb hj
  exact Ret.wk (.cons (Typ.down o1) (.cons (Typ.down o2) (.cons (.refl _) .nil))) (ih _ _ s' o1 o2 (sh_kid sa hi) (sh_kid sb hj) (by omega))
theorem notNum {k : Int} (h : ¬ numK k) : Ret env.P 35 [.i .i64 k] (fun r => r = .b false) := (numberS_ok k).mono fun r e => by rw [e, decide_eq_false h]
theorem isNum {k : Int} (h : numK k) : Ret env.P 35 [.i .i64 k] (fun r => r = .b true) := (numberS_ok k).mono fun r e => by rw [e, decide_eq_true h]
def WhyR (g : FuncId) (n : Nat) (a b : Typ) (s : ByteArray) : Prop := Ret env.P g [.agg (Typ.pN (n + 2) a), .agg (Typ.pN (n + 2) b), .s s] (fun r => r = rsV (whyN (n + 1) a b s))
set_option maxRecDepth 8000 in
theorem wS_num {n : Nat} {a b : Typ} {s : ByteArray} (h1 : numK a.kind) (h2 : numK b.kind) : WhyR 27 n a b s := by
  unfold WhyR
  have e1 := isNum h1
  have e2 := isNum h2
  refine ret_of (nt := 185) (rvs := [.cell 6 34, .tmp 7]) Tryz.func27 rfl rfl rfl rfl (fun X => ?_)
  repeat' (first | exact aa | ((conv => whnf) <;> (first | (exfalso; exact ‹¬True› trivial) | refine And.intro ?_ ?_ | (intro _h; first | contradiction | (try simp only [dd] at _h)) | (refine dt_go ?_) | exact rfl | exact True.intro | exact dkk | exact dks | ((first | refine .inl ⟨_, e1, ?_⟩ | refine ⟨_, e1, ?_⟩); (try rintro _ rfl)) | ((first | refine .inl ⟨_, e2, ?_⟩ | refine ⟨_, e2, ?_⟩); (try rintro _ rfl)) | ((first | refine .inl ⟨_, withinS_ok _ _, ?_⟩ | refine ⟨_, withinS_ok _ _, ?_⟩); (try rintro _ rfl)) | ((first | refine .inl ⟨_, noS_ok _ _, ?_⟩ | refine ⟨_, noS_ok _ _, ?_⟩); (try rintro _ rfl)) | (refine wrap_succ ?_; omega))))
  all_goals first
    | exact congrArg rsV (ws_in h1 h2 ‹_›).symm
    | exact congrArg rsV (ws_out h1 h2 ‹_›).symm
    | trace_state
set_option maxRecDepth 8000 in
theorem wS_kind {n : Nat} {a b : Typ} {s : ByteArray} (h1 : ¬ (numK a.kind ∧ numK b.kind)) (h2 : ¬ a.kind = b.kind) : WhyR 27 n a b s := by
  unfold WhyR
  refine ret_of (nt := 185) (rvs := [.cell 6 34, .tmp 7]) Tryz.func27 rfl rfl rfl rfl (fun X => ?_)
  repeat' (first | exact aa | ((conv => whnf) <;> (first | (exfalso; exact h1 ⟨‹_›, ‹_›⟩) | (exfalso; exact h2 ‹_›) | refine And.intro ?_ ?_ | (intro _h; first | contradiction | (try simp only [dd] at _h)) | (refine dt_go ?_) | exact rfl | exact True.intro | exact dkk | exact dks | ((first | refine .inl ⟨_, numberS_ok _, ?_⟩ | refine ⟨_, numberS_ok _, ?_⟩); (try rintro _ rfl)) | ((first | refine .inl ⟨_, noS_ok _ _, ?_⟩ | refine ⟨_, noS_ok _ _, ?_⟩); (try rintro _ rfl)) | (refine wrap_succ ?_; omega))))
  all_goals first
    | exact congrArg rsV (ws_kind h1 h2).symm
    | (exfalso; exact h1 ⟨‹_›, ‹_›⟩)
    | trace_state
set_option maxRecDepth 8000 in
theorem wS_one {n : Nat} {k : Int} {nm nm' : ByteArray} {ls ls' : List ByteArray} {ks ks' : List Typ} {s : ByteArray} (hk : k = 12 ∨ k = 13) (hs : s.size ≤ 1000) (hK : KidW 27 (whyN n) (n + 1) ⟨k, nm, ls, ks⟩ ⟨k, nm', ls', ks'⟩ s) (h0 : 0 < ks.length) (h0' : 0 < ks'.length) : WhyR 27 n ⟨k, nm, ls, ks⟩ ⟨k, nm', ls', ks'⟩ s := by
  unfold WhyR
  have e := fun q : ¬ numK k => notNum q
  rcases hk with rfl | rfl
  · have e := notNum (k := 12) (by decide)
    have hq := hK 0 0 (s ++ ⟨#[91, 93]⟩) (dl_cat (by decide)) h0 h0'
    refine ret_of (nt := 185) (rvs := [.cell 6 34, .tmp 7]) Tryz.func27 rfl rfl rfl rfl (fun X => ?_)
    repeat' (first | exact aa | ((conv => whnf) <;> (first | exact str1 hs (by decide) | refine And.intro ?_ ?_ | (intro _h; first | contradiction | (try simp only [dd] at _h)) | (refine dt_go ?_) | exact rfl | exact True.intro | exact dkk | exact dks | ((first | refine .inl ⟨_, e, ?_⟩ | refine ⟨_, e, ?_⟩); (try rintro _ rfl)) | ((first | refine .inl ⟨_, hq, ?_⟩ | refine ⟨_, hq, ?_⟩); (try rintro _ rfl)) | (refine wrap_succ ?_; omega))))
    all_goals first
      | exact congrArg rsV (ws_12 rfl rfl).symm
      | trace_state
  · have e := notNum (k := 13) (by decide)
    have hq := hK 0 0 (s ++ ⟨#[63]⟩) (dl_cat (by decide)) h0 h0'
    refine ret_of (nt := 185) (rvs := [.cell 6 34, .tmp 7]) Tryz.func27 rfl rfl rfl rfl (fun X => ?_)
    repeat' (first | exact aa | ((conv => whnf) <;> (first | exact str1 hs (by decide) | refine And.intro ?_ ?_ | (intro _h; first | contradiction | (try simp only [dd] at _h)) | (refine dt_go ?_) | exact rfl | exact True.intro | exact dkk | exact dks | ((first | refine .inl ⟨_, e, ?_⟩ | refine ⟨_, e, ?_⟩); (try rintro _ rfl)) | ((first | refine .inl ⟨_, hq, ?_⟩ | refine ⟨_, hq, ?_⟩); (try rintro _ rfl)) | (refine wrap_succ ?_; omega))))
    all_goals first
      | exact congrArg rsV (ws_13 rfl rfl).symm
      | trace_state
set_option maxRecDepth 8000 in
set_option maxHeartbeats 1600000 in
theorem wS_two {n : Nat} {nm nm' : ByteArray} {ls ls' : List ByteArray} {ks ks' : List Typ} {s : ByteArray} (hs : s.size ≤ 1000) (hK : KidW 27 (whyN n) (n + 1) ⟨14, nm, ls, ks⟩ ⟨14, nm', ls', ks'⟩ s) (h0 : ks.length = 2) (h0' : ks'.length = 2) : WhyR 27 n ⟨14, nm, ls, ks⟩ ⟨14, nm', ls', ks'⟩ s := by
  unfold WhyR
  have e := notNum (k := 14) (by decide)
  have g1 : (⟨14, nm, ls, ks⟩ : Typ).kids.length = 2 := h0
  have g2 : (⟨14, nm', ls', ks'⟩ : Typ).kids.length = 2 := h0'
  have hq := hK 0 0 (s ++ ⟨#[46, 111, 107]⟩) (dl_cat (by decide)) (show 0 < ks.length by omega) (show 0 < ks'.length by omega)
  have hq1 := hK 1 1 (s ++ ⟨#[46, 101, 114, 114]⟩) (dl_cat (by decide)) (show 1 < ks.length by omega) (show 1 < ks'.length by omega)
  refine ret_of (nt := 185) (rvs := [.cell 6 34, .tmp 7]) Tryz.func27 rfl rfl rfl rfl (fun X => ?_)
  repeat' (first | exact aa | ((conv => whnf) <;> (first | exact str1 hs (by decide) | refine And.intro ?_ ?_ | (intro _h; first | contradiction | (try simp only [dd] at _h)) | (refine dt_go ?_) | exact rfl | exact True.intro | exact dkk | exact dks | ((first | refine .inl ⟨_, e, ?_⟩ | refine ⟨_, e, ?_⟩); (try rintro _ rfl)) | ((first | refine .inl ⟨_, hq, ?_⟩ | refine ⟨_, hq, ?_⟩); (try rintro _ rfl)) | ((first | refine .inl ⟨_, hq1, ?_⟩ | refine ⟨_, hq1, ?_⟩); (try rintro _ rfl)) | (refine wrap_succ ?_; omega))))
  all_goals first
    | exact rs_some ‹_› (ws_14a rfl rfl ‹_›)
    | exact (congrArg rsV (ws_14b (w := whyN n) (a := ⟨14, nm, ls, ks⟩) (b := ⟨14, nm', ls', ks'⟩) (s := s) rfl rfl (rs_nof _h)).symm : rsV (whyN n (kidA ⟨14, nm, ls, ks⟩ 1) (kidA ⟨14, nm', ls', ks'⟩ 1) (s ++ ⟨#[46, 101, 114, 114]⟩)) = _)
    | trace_state
set_option maxRecDepth 8000 in
theorem wS_tup {n : Nat} {nm nm' : ByteArray} {ls ls' : List ByteArray} {ks ks' : List Typ} {s : ByteArray} (hs : s.size ≤ 1000) (hK : KidW 27 (whyN n) (n + 1) ⟨15, nm, ls, ks⟩ ⟨15, nm', ls', ks'⟩ s) (h0 : ks.length ≤ 6) : WhyR 27 n ⟨15, nm, ls, ks⟩ ⟨15, nm', ls', ks'⟩ s := by
  unfold WhyR
  have e := notNum (k := 15) (by decide)
  have hq := tupS_ok s hs hK h0
  refine ret_of (nt := 185) (rvs := [.cell 6 34, .tmp 7]) Tryz.func27 rfl rfl rfl rfl (fun X => ?_)
  repeat' (first | exact aa | ((conv => whnf) <;> (first | refine And.intro ?_ ?_ | (intro _h; first | contradiction | (try simp only [dd] at _h)) | (refine dt_go ?_) | exact rfl | exact True.intro | exact dkk | exact dks | ((first | refine .inl ⟨_, e, ?_⟩ | refine ⟨_, e, ?_⟩); (try rintro _ rfl)) | ((first | refine .inl ⟨_, hq, ?_⟩ | refine ⟨_, hq, ?_⟩); (try rintro _ rfl)) | (refine wrap_succ ?_; omega))))
  all_goals first
    | exact congrArg rsV (ws_15 rfl rfl).symm
    | trace_state
set_option maxRecDepth 8000 in
theorem wS_rec {n : Nat} {nm nm' : ByteArray} {ls ls' : List ByteArray} {ks ks' : List Typ} {s : ByteArray} (hs : s.size ≤ 1000) (hK : KidW 27 (whyN n) (n + 1) ⟨16, nm, ls, ks⟩ ⟨16, nm', ls', ks'⟩ s) (ha : ks.length = ls.length) (hb : ks'.length = ls'.length) (hla : ls.length ≤ 16) (hlb : ls'.length ≤ 16) (hza : ∀ k, k < ls.length → (ls.getD k default).size ≤ 12) (hzb : ∀ k, k < ls'.length → (ls'.getD k default).size ≤ 12) : WhyR 27 n ⟨16, nm, ls, ks⟩ ⟨16, nm', ls', ks'⟩ s := by
  unfold WhyR
  have e := notNum (k := 16) (by decide)
  have hq := recS_ok s hs hK ha hb hla hlb hza hzb
  refine ret_of (nt := 185) (rvs := [.cell 6 34, .tmp 7]) Tryz.func27 rfl rfl rfl rfl (fun X => ?_)
  repeat' (first | exact aa | ((conv => whnf) <;> (first | refine And.intro ?_ ?_ | (intro _h; first | contradiction | (try simp only [dd] at _h)) | (refine dt_go ?_) | exact rfl | exact True.intro | exact dkk | exact dks | ((first | refine .inl ⟨_, e, ?_⟩ | refine ⟨_, e, ?_⟩); (try rintro _ rfl)) | ((first | refine .inl ⟨_, hq, ?_⟩ | refine ⟨_, hq, ?_⟩); (try rintro _ rfl)) | (refine wrap_succ ?_; omega))))
  all_goals first
    | exact congrArg rsV (ws_16 rfl rfl).symm
    | trace_state
set_option maxRecDepth 8000 in
theorem wS_var {n : Nat} {nm nm' : ByteArray} {ls ls' : List ByteArray} {ks ks' : List Typ} {s : ByteArray} (hs : s.size ≤ 1000) (hK : KidW 27 (whyN n) (n + 1) ⟨17, nm, ls, ks⟩ ⟨17, nm', ls', ks'⟩ s) (ha : ks.length = ls.length) (hb : ks'.length = ls'.length) (hla : ls.length ≤ 16) (hlb : ls'.length ≤ 16) (hza : ∀ k, k < ls.length → (ls.getD k default).size ≤ 12) (hzb : ∀ k, k < ls'.length → (ls'.getD k default).size ≤ 12) : WhyR 27 n ⟨17, nm, ls, ks⟩ ⟨17, nm', ls', ks'⟩ s := by
  unfold WhyR
  have e := notNum (k := 17) (by decide)
  have hq := varS_ok s hs hK ha hb hla hlb hza hzb
  refine ret_of (nt := 185) (rvs := [.cell 6 34, .tmp 7]) Tryz.func27 rfl rfl rfl rfl (fun X => ?_)
  repeat' (first | exact aa | ((conv => whnf) <;> (first | refine And.intro ?_ ?_ | (intro _h; first | contradiction | (try simp only [dd] at _h)) | (refine dt_go ?_) | exact rfl | exact True.intro | exact dkk | exact dks | ((first | refine .inl ⟨_, e, ?_⟩ | refine ⟨_, e, ?_⟩); (try rintro _ rfl)) | ((first | refine .inl ⟨_, hq, ?_⟩ | refine ⟨_, hq, ?_⟩); (try rintro _ rfl)) | (refine wrap_succ ?_; omega))))
  all_goals first
    | exact congrArg rsV (ws_17 rfl (.inl rfl)).symm
    | trace_state
set_option maxRecDepth 8000 in
set_option maxHeartbeats 800000 in
theorem wS_lab {n : Nat} {k : Int} {nm nm' : ByteArray} {ls ls' : List ByteArray} {ks ks' : List Typ} {s : ByteArray} (hs : s.size ≤ 1000) (hk : k = 18 ∨ k = 19) (h0 : ks.length = 0) (hla : ls.length ≤ 16) (hlb : ls'.length ≤ 16) (hza : ∀ k, k < ls.length → (ls.getD k default).size ≤ 12) : WhyR 27 n ⟨k, nm, ls, ks⟩ ⟨k, nm', ls', ks'⟩ s := by
  unfold WhyR
  have hL : ∀ t, Ret env.P 53 [slL 1 strC ls', .s t] (fun r => r = .i .i64 (plI ls' t)) := fun t => labelS_ok _ t (by omega)
  rcases hk with rfl | rfl
  · have e := notNum (k := 18) (by decide)
    refine ret_of (nt := 185) (rvs := [.cell 6 34, .tmp 7]) Tryz.func27 rfl rfl rfl rfl (fun X => ?_)
    repeat' (first | exact aa | ((conv => whnf) <;> (first | exact str1 hs (by decide) | exact str2 hs (by decide) (Nat.le_trans (hza _ (by omega)) (by decide)) | refine loopN ls.length (fun k => [(10, .i .i64 k)]) (fun k => []) (fun k => FstN (labW (whyN n) ⟨18, nm, ls, ks⟩ ⟨18, nm', ls', ks'⟩ s 5) k) ⟨.zero _, ?_⟩ | refine And.intro ?_ ?_ | (intro _h; first | contradiction | (try simp only [dd] at _h)) | (refine dt_go ?_) | exact rfl | exact True.intro | exact dkk | exact dks | ((first | refine .inl ⟨_, e, ?_⟩ | refine ⟨_, e, ?_⟩); (try rintro _ rfl)) | ((first | refine .inl ⟨_, hL _, ?_⟩ | refine ⟨_, hL _, ?_⟩); (try rintro _ rfl)) | ((first | refine .inl ⟨_, noS_ok _ _, ?_⟩ | refine ⟨_, noS_ok _ _, ?_⟩); (try rintro _ rfl)) | (refine wrap_succ ?_; omega))))
    all_goals (try simp only [Int.toNat_natCast] at *)
    all_goals (conv => whnf)
    all_goals first
      | (rename_i k _ hI _
         refine (congrArg rsV ?_ : rsV (some (5, dotL s (labA ⟨18, nm, ls, ks⟩ k))) = _)
         exact ((ws_17 (w := whyN n) (a := ⟨18, nm, ls, ks⟩) (b := ⟨18, nm', ls', ks'⟩) (s := s) rfl (.inr (.inl rfl))).trans (FstN.found hI (show k < ls.length by omega) (lbW_neg (a := ⟨18, nm, ls, ks⟩) (b := ⟨18, nm', ls', ks'⟩) _h) rfl)).symm)
      | (rename_i k _ hI _
         exact FstN.next hI (lbW_nil _h h0))
      | (rename_i k _ hI
         refine (congrArg rsV ?_ : rsV none = _)
         exact ((ws_17 (w := whyN n) (a := ⟨18, nm, ls, ks⟩) (b := ⟨18, nm', ls', ks'⟩) (s := s) rfl (.inr (.inl rfl))).trans (FstN.end hI (show k ≤ ls.length by omega) (show ls.length ≤ k by omega))).symm)
      | trace_state
  · have e := notNum (k := 19) (by decide)
    refine ret_of (nt := 185) (rvs := [.cell 6 34, .tmp 7]) Tryz.func27 rfl rfl rfl rfl (fun X => ?_)
    repeat' (first | exact aa | ((conv => whnf) <;> (first | exact str1 hs (by decide) | exact str2 hs (by decide) (Nat.le_trans (hza _ (by omega)) (by decide)) | refine loopN ls.length (fun k => [(10, .i .i64 k)]) (fun k => []) (fun k => FstN (labW (whyN n) ⟨19, nm, ls, ks⟩ ⟨19, nm', ls', ks'⟩ s 5) k) ⟨.zero _, ?_⟩ | refine And.intro ?_ ?_ | (intro _h; first | contradiction | (try simp only [dd] at _h)) | (refine dt_go ?_) | exact rfl | exact True.intro | exact dkk | exact dks | ((first | refine .inl ⟨_, e, ?_⟩ | refine ⟨_, e, ?_⟩); (try rintro _ rfl)) | ((first | refine .inl ⟨_, hL _, ?_⟩ | refine ⟨_, hL _, ?_⟩); (try rintro _ rfl)) | ((first | refine .inl ⟨_, noS_ok _ _, ?_⟩ | refine ⟨_, noS_ok _ _, ?_⟩); (try rintro _ rfl)) | (refine wrap_succ ?_; omega))))
    all_goals (try simp only [Int.toNat_natCast] at *)
    all_goals (conv => whnf)
    all_goals first
      | (rename_i k _ hI _
         refine (congrArg rsV ?_ : rsV (some (5, dotL s (labA ⟨19, nm, ls, ks⟩ k))) = _)
         exact ((ws_17 (w := whyN n) (a := ⟨19, nm, ls, ks⟩) (b := ⟨19, nm', ls', ks'⟩) (s := s) rfl (.inr (.inr rfl))).trans (FstN.found hI (show k < ls.length by omega) (lbW_neg (a := ⟨19, nm, ls, ks⟩) (b := ⟨19, nm', ls', ks'⟩) _h) rfl)).symm)
      | (rename_i k _ hI _
         exact FstN.next hI (lbW_nil _h h0))
      | (rename_i k _ hI
         refine (congrArg rsV ?_ : rsV none = _)
         exact ((ws_17 (w := whyN n) (a := ⟨19, nm, ls, ks⟩) (b := ⟨19, nm', ls', ks'⟩) (s := s) rfl (.inr (.inr rfl))).trans (FstN.end hI (show k ≤ ls.length by omega) (show ls.length ≤ k by omega))).symm)
      | trace_state
set_option maxRecDepth 8000 in
theorem wS_own {n : Nat} {k : Int} {nm nm' : ByteArray} {ls ls' : List ByteArray} {ks ks' : List Typ} {s : ByteArray} (hs : s.size ≤ 1000) (hk : k = 20 ∨ k = 21) : WhyR 27 n ⟨k, nm, ls, ks⟩ ⟨k, nm', ls', ks'⟩ s := by
  unfold WhyR
  have hw := fun q : nm = nm' => (ws_20 (w := whyN n) (a := ⟨k, nm, ls, ks⟩) (b := ⟨k, nm', ls', ks'⟩) (s := s) rfl hk).trans (if_pos q)
  have hw' := fun q : ¬ nm = nm' => (ws_20 (w := whyN n) (a := ⟨k, nm, ls, ks⟩) (b := ⟨k, nm', ls', ks'⟩) (s := s) rfl hk).trans (if_neg q)
  rcases hk with rfl | rfl
  · have e := notNum (k := 20) (by decide)
    refine ret_of (nt := 185) (rvs := [.cell 6 34, .tmp 7]) Tryz.func27 rfl rfl rfl rfl (fun X => ?_)
    repeat' (first | exact aa | ((conv => whnf) <;> (first | refine And.intro ?_ ?_ | (intro _h; first | contradiction | (try simp only [dd] at _h)) | (refine dt_go ?_) | exact rfl | exact True.intro | exact dkk | exact dks | ((first | refine .inl ⟨_, e, ?_⟩ | refine ⟨_, e, ?_⟩); (try rintro _ rfl)) | ((first | refine .inl ⟨_, noS_ok _ _, ?_⟩ | refine ⟨_, noS_ok _ _, ?_⟩); (try rintro _ rfl)) | (refine wrap_succ ?_; omega))))
    all_goals first
      | exact (congrArg rsV (hw ‹_›).symm : rsV none = _)
      | exact (congrArg rsV (hw' ‹_›).symm : rsV (some (6, s)) = _)
      | trace_state
  · have e := notNum (k := 21) (by decide)
    refine ret_of (nt := 185) (rvs := [.cell 6 34, .tmp 7]) Tryz.func27 rfl rfl rfl rfl (fun X => ?_)
    repeat' (first | exact aa | ((conv => whnf) <;> (first | refine And.intro ?_ ?_ | (intro _h; first | contradiction | (try simp only [dd] at _h)) | (refine dt_go ?_) | exact rfl | exact True.intro | exact dkk | exact dks | ((first | refine .inl ⟨_, e, ?_⟩ | refine ⟨_, e, ?_⟩); (try rintro _ rfl)) | ((first | refine .inl ⟨_, noS_ok _ _, ?_⟩ | refine ⟨_, noS_ok _ _, ?_⟩); (try rintro _ rfl)) | (refine wrap_succ ?_; omega))))
    all_goals first
      | exact (congrArg rsV (hw ‹_›).symm : rsV none = _)
      | exact (congrArg rsV (hw' ‹_›).symm : rsV (some (6, s)) = _)
      | trace_state
set_option maxRecDepth 8000 in
theorem wS_str {n : Nat} {k : Int} {nm nm' : ByteArray} {ls ls' : List ByteArray} {ks ks' : List Typ} {s : ByteArray} (hs : s.size ≤ 1000) (hk : k = 22 ∨ k = 23) (h0 : 0 < ks.length) (h0' : 0 < ks'.length) (ha : Typ.oN (n + 1) (ks.getD 0 default)) (hb : Typ.oN (n + 1) (ks'.getD 0 default)) : WhyR 27 n ⟨k, nm, ls, ks⟩ ⟨k, nm', ls', ks'⟩ s := by
  unfold WhyR
  have hq := sameTS_ok ha hb
  have hw := fun q : Typ.sam 100 (ks.getD 0 default) (ks'.getD 0 default) => (ws_22 (w := whyN n) (a := ⟨k, nm, ls, ks⟩) (b := ⟨k, nm', ls', ks'⟩) (s := s) rfl hk).trans (if_pos (pb_t.mpr q))
  have hw' := fun q : ¬ Typ.sam 100 (ks.getD 0 default) (ks'.getD 0 default) => (ws_22 (w := whyN n) (a := ⟨k, nm, ls, ks⟩) (b := ⟨k, nm', ls', ks'⟩) (s := s) rfl hk).trans (if_neg (by intro e; exact q (pb_t.mp e)))
  rcases hk with rfl | rfl
  · have e := notNum (k := 22) (by decide)
    refine ret_of (nt := 185) (rvs := [.cell 6 34, .tmp 7]) Tryz.func27 rfl rfl rfl rfl (fun X => ?_)
    repeat' (first | exact aa | ((conv => whnf) <;> (first | refine And.intro ?_ ?_ | (intro _h; first | contradiction | (try simp only [dd] at _h)) | (refine dt_go ?_) | exact rfl | exact True.intro | exact dkk | exact dks | ((first | refine .inl ⟨_, e, ?_⟩ | refine ⟨_, e, ?_⟩); (try rintro _ rfl)) | ((first | refine .inl ⟨_, hq, ?_⟩ | refine ⟨_, hq, ?_⟩); (try rintro _ rfl)) | ((first | refine .inl ⟨_, noS_ok _ _, ?_⟩ | refine ⟨_, noS_ok _ _, ?_⟩); (try rintro _ rfl)) | (refine wrap_succ ?_; omega))))
    all_goals first
      | exact (congrArg rsV (hw ‹_›).symm : rsV none = _)
      | exact (congrArg rsV (hw (Classical.not_not.1 ‹_›)).symm : rsV none = _)
      | exact (congrArg rsV (hw' ‹_›).symm : rsV (some (3, s)) = _)
      | trace_state
  · have e := notNum (k := 23) (by decide)
    refine ret_of (nt := 185) (rvs := [.cell 6 34, .tmp 7]) Tryz.func27 rfl rfl rfl rfl (fun X => ?_)
    repeat' (first | exact aa | ((conv => whnf) <;> (first | refine And.intro ?_ ?_ | (intro _h; first | contradiction | (try simp only [dd] at _h)) | (refine dt_go ?_) | exact rfl | exact True.intro | exact dkk | exact dks | ((first | refine .inl ⟨_, e, ?_⟩ | refine ⟨_, e, ?_⟩); (try rintro _ rfl)) | ((first | refine .inl ⟨_, hq, ?_⟩ | refine ⟨_, hq, ?_⟩); (try rintro _ rfl)) | ((first | refine .inl ⟨_, noS_ok _ _, ?_⟩ | refine ⟨_, noS_ok _ _, ?_⟩); (try rintro _ rfl)) | (refine wrap_succ ?_; omega))))
    all_goals first
      | exact (congrArg rsV (hw ‹_›).symm : rsV none = _)
      | exact (congrArg rsV (hw (Classical.not_not.1 ‹_›)).symm : rsV none = _)
      | exact (congrArg rsV (hw' ‹_›).symm : rsV (some (3, s)) = _)
      | trace_state
set_option maxRecDepth 8000 in
theorem wS_no {n : Nat} {k : Int} {nm nm' : ByteArray} {ls ls' : List ByteArray} {ks ks' : List Typ} {s : ByteArray} (hs : s.size ≤ 1000) (hk : k = 1 ∨ k = 2 ∨ k = 10 ∨ k = 11) : WhyR 27 n ⟨k, nm, ls, ks⟩ ⟨k, nm', ls', ks'⟩ s := by
  unfold WhyR
  rcases hk with rfl | rfl | rfl | rfl
  · have e := notNum (k := 1) (by decide)
    refine ret_of (nt := 185) (rvs := [.cell 6 34, .tmp 7]) Tryz.func27 rfl rfl rfl rfl (fun X => ?_)
    repeat' (first | exact aa | ((conv => whnf) <;> (first | refine And.intro ?_ ?_ | (intro _h; first | contradiction | (try simp only [dd] at _h)) | (refine dt_go ?_) | exact rfl | exact True.intro | exact dkk | exact dks | ((first | refine .inl ⟨_, e, ?_⟩ | refine ⟨_, e, ?_⟩); (try rintro _ rfl)) | (refine wrap_succ ?_; omega))))
    all_goals exact (congrArg rsV (ws_no (fun q => absurd q.1 (by decide)) rfl (fun q => absurd q.1 (by decide))).symm : rsV none = _)
  · have e := notNum (k := 2) (by decide)
    refine ret_of (nt := 185) (rvs := [.cell 6 34, .tmp 7]) Tryz.func27 rfl rfl rfl rfl (fun X => ?_)
    repeat' (first | exact aa | ((conv => whnf) <;> (first | refine And.intro ?_ ?_ | (intro _h; first | contradiction | (try simp only [dd] at _h)) | (refine dt_go ?_) | exact rfl | exact True.intro | exact dkk | exact dks | ((first | refine .inl ⟨_, e, ?_⟩ | refine ⟨_, e, ?_⟩); (try rintro _ rfl)) | (refine wrap_succ ?_; omega))))
    all_goals exact (congrArg rsV (ws_no (fun q => absurd q.1 (by decide)) rfl (fun q => absurd q.1 (by decide))).symm : rsV none = _)
  · have e := notNum (k := 10) (by decide)
    refine ret_of (nt := 185) (rvs := [.cell 6 34, .tmp 7]) Tryz.func27 rfl rfl rfl rfl (fun X => ?_)
    repeat' (first | exact aa | ((conv => whnf) <;> (first | refine And.intro ?_ ?_ | (intro _h; first | contradiction | (try simp only [dd] at _h)) | (refine dt_go ?_) | exact rfl | exact True.intro | exact dkk | exact dks | ((first | refine .inl ⟨_, e, ?_⟩ | refine ⟨_, e, ?_⟩); (try rintro _ rfl)) | (refine wrap_succ ?_; omega))))
    all_goals exact (congrArg rsV (ws_no (fun q => absurd q.1 (by decide)) rfl (fun q => absurd q.1 (by decide))).symm : rsV none = _)
  · have e := notNum (k := 11) (by decide)
    refine ret_of (nt := 185) (rvs := [.cell 6 34, .tmp 7]) Tryz.func27 rfl rfl rfl rfl (fun X => ?_)
    repeat' (first | exact aa | ((conv => whnf) <;> (first | refine And.intro ?_ ?_ | (intro _h; first | contradiction | (try simp only [dd] at _h)) | (refine dt_go ?_) | exact rfl | exact True.intro | exact dkk | exact dks | ((first | refine .inl ⟨_, e, ?_⟩ | refine ⟨_, e, ?_⟩); (try rintro _ rfl)) | (refine wrap_succ ?_; omega))))
    all_goals exact (congrArg rsV (ws_no (fun q => absurd q.1 (by decide)) rfl (fun q => absurd q.1 (by decide))).symm : rsV none = _)
theorem whyS_ok : ∀ n, n ≤ 50 → WhyOk 27 n
  | 0, _ => fun a b s ha => ha.elim
  | n + 1, hn => fun a b s ha hb sa sb hs => by
    have hK := (whyS_ok n (by omega)).kids ha hb sa sb hs
    have hs1 : s.size ≤ 1000 := by omega
    refine Ret.wk (.cons (Typ.lift ha) (.cons (Typ.lift hb) (.cons (.refl _) .nil))) ?_
    show WhyR 27 n a b s
    by_cases h1 : numK a.kind ∧ numK b.kind
    · exact wS_num h1.1 h1.2
    by_cases h2' : ¬ a.kind = b.kind
    · exact wS_kind h1 h2'
    have h2 := Classical.not_not.1 h2'
    have hk := (Typ.sh_eq.1 sa).1.ks.k7
    obtain ⟨a1, a3, a4, a5, a7, all, alz⟩ := knd sa
    obtain ⟨b1, b3, b4, b5, b7, bll, blz⟩ := knd sb
    have o1 := fun q : 0 < a.kids.length => Typ.oN_up _ _ (Typ.oN_kid ha q)
    have o2 := fun q : 0 < b.kids.length => Typ.oN_up _ _ (Typ.oN_kid hb q)
    obtain ⟨k, nm, ls, ks⟩ := a
    obtain ⟨k', nm', ls', ks'⟩ := b
    dsimp only at *
    obtain rfl := h2
    unfold numK at h1
    by_cases q1 : k = 12 ∨ k = 13
    · exact wS_one q1 hs1 hK (by omega) (by omega)
    by_cases q2 : k = 14
    · obtain rfl := q2
      exact wS_two hs1 hK (by omega) (by omega)
    by_cases q3 : k = 15
    · obtain rfl := q3
      exact wS_tup hs1 hK (by omega)
    by_cases q4 : k = 16
    · obtain rfl := q4
      exact wS_rec hs1 hK (by omega) (by omega) all bll alz blz
    by_cases q5 : k = 17
    · obtain rfl := q5
      exact wS_var hs1 hK (by omega) (by omega) all bll alz blz
    by_cases q6 : k = 18 ∨ k = 19
    · exact wS_lab hs1 q6 (by omega) all bll alz
    by_cases q7 : k = 20 ∨ k = 21
    · exact wS_own hs1 q7
    by_cases q8 : k = 22 ∨ k = 23
    · exact wS_str hs1 q8 (by omega) (by omega) (o1 (by omega)) (o2 (by omega))
    have := (hk (by omega)).1
    exact wS_no hs1 (by omega)
end Go.Proofs.YtfddakeigmpjkaaGreatDoor
