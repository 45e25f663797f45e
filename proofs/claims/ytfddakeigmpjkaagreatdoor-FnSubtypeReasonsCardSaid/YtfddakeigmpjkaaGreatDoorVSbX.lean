/-
  Subtypes: the program's search for a reason, recursively.
-/
import Derived.Test.YtfddakeigmpjkaaGreatDoorVSbW
namespace Go.Proofs.YtfddakeigmpjkaaGreatDoor
open Go Go.RowKit
set_option linter.unusedVariables false
set_option linter.unusedSimpArgs false
attribute [local irreducible] IntKind.wrap

theorem sameTI_ok {m m' : Nat} {a b : Typ} (h : Typ.oN (m + 1) a) (hb : Typ.oN (m' + 1) b) : Ret env.P 48 [.agg (Typ.pN (m + 1) a), .agg (Typ.pN (m' + 1) b)] (fun r => r = .b (pb (Typ.sam 100 a b))) := by
  refine ret_of (nt := 8) (rvs := [.tmp 4]) Tryz.func48 rfl rfl rfl rfl (fun X => ?_)
  repeat' (first | exact aa | ((conv => whnf) <;> (first | refine And.intro ?_ ?_ | (intro _h; first | contradiction | (try simp only [dd] at _h)) | (refine dt_go ?_) | exact rfl | exact True.intro | exact dkk | exact dks | ((first | refine .inl ⟨_, sameType_n 100 (by omega) 100 (by omega) m a h m' b (Typ.oN_fN _ _ hb), ?_⟩ | refine ⟨_, sameType_n 100 (by omega) 100 (by omega) m a h m' b (Typ.oN_fN _ _ hb), ?_⟩); (try rintro _ rfl)) | (refine wrap_succ ?_; omega))))
theorem notNumI {k : Int} (h : ¬ numK k) : Ret env.P 43 [.i .i64 k] (fun r => r = .tup [.i .i64 (lowK k), .i .i64 (highK k), .b false]) := (numRange_ok k).mono fun r e => by rw [e, decide_eq_false h]
theorem isNumI {k : Int} (h : numK k) : Ret env.P 43 [.i .i64 k] (fun r => r = .tup [.i .i64 (lowK k), .i .i64 (highK k), .b true]) := (numRange_ok k).mono fun r e => by rw [e, decide_eq_true h]
theorem flip_ok {w : Why} {n : Nat} {a b : Typ} {s : ByteArray} (h : KidW 24 w (n + 1) a b s) : KidW 47 (fun x y s => w y x s) (n + 1) b a s := fun i j s' hs' hi hj => by
  have hq := h j i s' hs' hj hi
  refine ret_of (nt := 14) (rvs := [.cell 6 34, .tmp 7]) Tryz.func47 rfl rfl rfl rfl (fun X => ?_)
  repeat' (first | exact aa | ((conv => whnf) <;> (first | refine And.intro ?_ ?_ | (intro _h; first | contradiction | (try simp only [dd] at _h)) | (refine dt_go ?_) | exact rfl | exact True.intro | exact dkk | exact dks | ((first | refine .inl ⟨_, hq, ?_⟩ | refine ⟨_, hq, ?_⟩); (try rintro _ rfl)) | (refine wrap_succ ?_; omega))))
set_option maxRecDepth 8000 in
theorem wI_num {n : Nat} {a b : Typ} {s : ByteArray} (h1 : numK a.kind) (h2 : numK b.kind) : WhyR 24 n a b s := by
  unfold WhyR
  have e1 := isNumI h1
  have e2 := isNumI h2
  refine ret_of (nt := 189) (rvs := [.cell 6 34, .tmp 7]) Tryz.func24 rfl rfl rfl rfl (fun X => ?_)
  repeat' (first | exact aa | ((conv => whnf) <;> (first | (exfalso; exact ‹¬True› trivial) | refine And.intro ?_ ?_ | (intro _h; first | contradiction | (try simp only [dd] at _h)) | (refine dt_go ?_) | exact rfl | exact True.intro | exact dkk | exact dks | ((first | refine .inl ⟨_, e1, ?_⟩ | refine ⟨_, e1, ?_⟩); (try rintro _ rfl)) | ((first | refine .inl ⟨_, e2, ?_⟩ | refine ⟨_, e2, ?_⟩); (try rintro _ rfl)) | ((first | refine .inl ⟨_, reason_ok _ _, ?_⟩ | refine ⟨_, reason_ok _ _, ?_⟩); (try rintro _ rfl)) | ((first | refine .inl ⟨_, none_ok, ?_⟩ | refine ⟨_, none_ok, ?_⟩); (try rintro _ rfl)) | (refine wrap_succ ?_; omega))))
  all_goals first
    | exact congrArg rsV (ws_in h1 h2 (by unfold widK; omega)).symm
    | exact congrArg rsV (ws_out h1 h2 (by unfold widK; omega)).symm
    | trace_state
set_option maxRecDepth 8000 in
theorem wI_kind {n : Nat} {a b : Typ} {s : ByteArray} (h1 : ¬ (numK a.kind ∧ numK b.kind)) (h2 : ¬ a.kind = b.kind) : WhyR 24 n a b s := by
  unfold WhyR
  refine ret_of (nt := 189) (rvs := [.cell 6 34, .tmp 7]) Tryz.func24 rfl rfl rfl rfl (fun X => ?_)
  repeat' (first | exact aa | ((conv => whnf) <;> (first | (exfalso; exact h1 ⟨‹_›, ‹_›⟩) | (exfalso; exact h2 ‹_›) | refine And.intro ?_ ?_ | (intro _h; first | contradiction | (try simp only [dd] at _h)) | (refine dt_go ?_) | exact rfl | exact True.intro | exact dkk | exact dks | ((first | refine .inl ⟨_, numRange_ok _, ?_⟩ | refine ⟨_, numRange_ok _, ?_⟩); (try rintro _ rfl)) | ((first | refine .inl ⟨_, reason_ok _ _, ?_⟩ | refine ⟨_, reason_ok _ _, ?_⟩); (try rintro _ rfl)) | ((first | refine .inl ⟨_, none_ok, ?_⟩ | refine ⟨_, none_ok, ?_⟩); (try rintro _ rfl)) | (refine wrap_succ ?_; omega))))
  all_goals first
    | exact congrArg rsV (ws_kind h1 h2).symm
    | (exfalso; exact h1 ⟨‹_›, ‹_›⟩)
    | trace_state
set_option maxRecDepth 8000 in
theorem wI_one {n : Nat} {k : Int} {nm nm' : ByteArray} {ls ls' : List ByteArray} {ks ks' : List Typ} {s : ByteArray} (hk : k = 12 ∨ k = 13) (hs : s.size ≤ 1000) (hK : KidW 24 (whyN n) (n + 1) ⟨k, nm, ls, ks⟩ ⟨k, nm', ls', ks'⟩ s) (h0 : 0 < ks.length) (h0' : 0 < ks'.length) : WhyR 24 n ⟨k, nm, ls, ks⟩ ⟨k, nm', ls', ks'⟩ s := by
  unfold WhyR
  rcases hk with rfl | rfl
  · have e := notNumI (k := 12) (by decide)
    have hq := hK 0 0 (s ++ ⟨#[91, 93]⟩) (dl_cat (by decide)) h0 h0'
    refine ret_of (nt := 189) (rvs := [.cell 6 34, .tmp 7]) Tryz.func24 rfl rfl rfl rfl (fun X => ?_)
    repeat' (first | exact aa | ((conv => whnf) <;> (first | exact str1 hs (by decide) | refine And.intro ?_ ?_ | (intro _h; first | contradiction | (try simp only [dd] at _h)) | (refine dt_go ?_) | exact rfl | exact True.intro | exact dkk | exact dks | ((first | refine .inl ⟨_, e, ?_⟩ | refine ⟨_, e, ?_⟩); (try rintro _ rfl)) | ((first | refine .inl ⟨_, hq, ?_⟩ | refine ⟨_, hq, ?_⟩); (try rintro _ rfl)) | (refine wrap_succ ?_; omega))))
    all_goals first
      | exact congrArg rsV (ws_12 rfl rfl).symm
      | trace_state
  · have e := notNumI (k := 13) (by decide)
    have hq := hK 0 0 (s ++ ⟨#[63]⟩) (dl_cat (by decide)) h0 h0'
    refine ret_of (nt := 189) (rvs := [.cell 6 34, .tmp 7]) Tryz.func24 rfl rfl rfl rfl (fun X => ?_)
    repeat' (first | exact aa | ((conv => whnf) <;> (first | exact str1 hs (by decide) | refine And.intro ?_ ?_ | (intro _h; first | contradiction | (try simp only [dd] at _h)) | (refine dt_go ?_) | exact rfl | exact True.intro | exact dkk | exact dks | ((first | refine .inl ⟨_, e, ?_⟩ | refine ⟨_, e, ?_⟩); (try rintro _ rfl)) | ((first | refine .inl ⟨_, hq, ?_⟩ | refine ⟨_, hq, ?_⟩); (try rintro _ rfl)) | (refine wrap_succ ?_; omega))))
    all_goals first
      | exact congrArg rsV (ws_13 rfl rfl).symm
      | trace_state
set_option maxRecDepth 8000 in
set_option maxHeartbeats 1600000 in
theorem wI_two {n : Nat} {nm nm' : ByteArray} {ls ls' : List ByteArray} {ks ks' : List Typ} {s : ByteArray} (hs : s.size ≤ 1000) (hK : KidW 24 (whyN n) (n + 1) ⟨14, nm, ls, ks⟩ ⟨14, nm', ls', ks'⟩ s) (h0 : ks.length = 2) (h0' : ks'.length = 2) : WhyR 24 n ⟨14, nm, ls, ks⟩ ⟨14, nm', ls', ks'⟩ s := by
  unfold WhyR
  have e := notNumI (k := 14) (by decide)
  have g1 : (⟨14, nm, ls, ks⟩ : Typ).kids.length = 2 := h0
  have g2 : (⟨14, nm', ls', ks'⟩ : Typ).kids.length = 2 := h0'
  have hq := hK 0 0 (s ++ ⟨#[46, 111, 107]⟩) (dl_cat (by decide)) (show 0 < ks.length by omega) (show 0 < ks'.length by omega)
  have hq1 := hK 1 1 (s ++ ⟨#[46, 101, 114, 114]⟩) (dl_cat (by decide)) (show 1 < ks.length by omega) (show 1 < ks'.length by omega)
  refine ret_of (nt := 189) (rvs := [.cell 6 34, .tmp 7]) Tryz.func24 rfl rfl rfl rfl (fun X => ?_)
  repeat' (first | exact aa | ((conv => whnf) <;> (first | exact str1 hs (by decide) | refine And.intro ?_ ?_ | (intro _h; first | contradiction | (try simp only [dd] at _h)) | (refine dt_go ?_) | exact rfl | exact True.intro | exact dkk | exact dks | ((first | refine .inl ⟨_, e, ?_⟩ | refine ⟨_, e, ?_⟩); (try rintro _ rfl)) | ((first | refine .inl ⟨_, hq, ?_⟩ | refine ⟨_, hq, ?_⟩); (try rintro _ rfl)) | ((first | refine .inl ⟨_, hq1, ?_⟩ | refine ⟨_, hq1, ?_⟩); (try rintro _ rfl)) | (refine wrap_succ ?_; omega))))
  all_goals (conv => whnf)
  all_goals first
    | exact rs_some (o := whyN n (kidA ⟨14, nm, ls, ks⟩ 0) (kidA ⟨14, nm', ls', ks'⟩ 0) (s ++ ⟨#[46, 111, 107]⟩)) _h (ws_14a (w := whyN n) (a := ⟨14, nm, ls, ks⟩) (b := ⟨14, nm', ls', ks'⟩) (s := s) rfl rfl _h)
    | exact (congrArg rsV (ws_14a (w := whyN n) (a := ⟨14, nm, ls, ks⟩) (b := ⟨14, nm', ls', ks'⟩) (s := s) rfl rfl _h).symm : rsV (whyN n (kidA ⟨14, nm, ls, ks⟩ 0) (kidA ⟨14, nm', ls', ks'⟩ 0) (s ++ ⟨#[46, 111, 107]⟩)) = _)
    | exact rs_some ‹_› (ws_14a rfl rfl ‹_›)
    | exact (congrArg rsV (ws_14b (w := whyN n) (a := ⟨14, nm, ls, ks⟩) (b := ⟨14, nm', ls', ks'⟩) (s := s) rfl rfl (rs_nof _h)).symm : rsV (whyN n (kidA ⟨14, nm, ls, ks⟩ 1) (kidA ⟨14, nm', ls', ks'⟩ 1) (s ++ ⟨#[46, 101, 114, 114]⟩)) = _)
    | trace_state
set_option maxRecDepth 8000 in
theorem wI_tup {n : Nat} {nm nm' : ByteArray} {ls ls' : List ByteArray} {ks ks' : List Typ} {s : ByteArray} (hs : s.size ≤ 1000) (hK : KidW 24 (whyN n) (n + 1) ⟨15, nm, ls, ks⟩ ⟨15, nm', ls', ks'⟩ s) (h0 : ks.length ≤ 6) : WhyR 24 n ⟨15, nm, ls, ks⟩ ⟨15, nm', ls', ks'⟩ s := by
  unfold WhyR
  have e := notNumI (k := 15) (by decide)
  have hq := tupI_ok s hs hK h0
  refine ret_of (nt := 189) (rvs := [.cell 6 34, .tmp 7]) Tryz.func24 rfl rfl rfl rfl (fun X => ?_)
  repeat' (first | exact aa | ((conv => whnf) <;> (first | refine And.intro ?_ ?_ | (intro _h; first | contradiction | (try simp only [dd] at _h)) | (refine dt_go ?_) | exact rfl | exact True.intro | exact dkk | exact dks | ((first | refine .inl ⟨_, e, ?_⟩ | refine ⟨_, e, ?_⟩); (try rintro _ rfl)) | ((first | refine .inl ⟨_, hq, ?_⟩ | refine ⟨_, hq, ?_⟩); (try rintro _ rfl)) | (refine wrap_succ ?_; omega))))
  all_goals first
    | exact congrArg rsV (ws_15 rfl rfl).symm
    | trace_state
set_option maxRecDepth 8000 in
theorem wI_rec {n : Nat} {nm nm' : ByteArray} {ls ls' : List ByteArray} {ks ks' : List Typ} {s : ByteArray} (hs : s.size ≤ 1000) (hK : KidW 24 (whyN n) (n + 1) ⟨16, nm, ls, ks⟩ ⟨16, nm', ls', ks'⟩ s) (ha : ks.length = ls.length) (hb : ks'.length = ls'.length) (hla : ls.length ≤ 16) (hlb : ls'.length ≤ 16) (hza : ∀ k, k < ls.length → (ls.getD k default).size ≤ 12) (hzb : ∀ k, k < ls'.length → (ls'.getD k default).size ≤ 12) : WhyR 24 n ⟨16, nm, ls, ks⟩ ⟨16, nm', ls', ks'⟩ s := by
  unfold WhyR
  have e := notNumI (k := 16) (by decide)
  have hf : KidW 47 (fun x y s => whyN n y x s) (n + 1) ⟨16, nm', ls', ks'⟩ ⟨16, nm, ls, ks⟩ s := flip_ok hK
  have hq := labsI_ok (g := 47) rfl s 4 hs (fun _ => hf) (fun _ => ⟨hb, ha⟩) hlb hla hzb
  refine ret_of (nt := 189) (rvs := [.cell 6 34, .tmp 7]) Tryz.func24 rfl rfl rfl rfl (fun X => ?_)
  repeat' (first | exact aa | ((conv => whnf) <;> (first | refine And.intro ?_ ?_ | (intro _h; first | contradiction | (try simp only [dd] at _h)) | (refine dt_go ?_) | exact rfl | exact True.intro | exact dkk | exact dks | ((first | refine .inl ⟨_, e, ?_⟩ | refine ⟨_, e, ?_⟩); (try rintro _ rfl)) | ((first | refine .inl ⟨_, hq, ?_⟩ | refine ⟨_, hq, ?_⟩); (try rintro _ rfl)) | (refine wrap_succ ?_; omega))))
  all_goals first
    | exact congrArg rsV (ws_16 rfl rfl).symm
    | trace_state
set_option maxRecDepth 8000 in
theorem wI_var {n : Nat} {nm nm' : ByteArray} {ls ls' : List ByteArray} {ks ks' : List Typ} {s : ByteArray} (hs : s.size ≤ 1000) (hK : KidW 24 (whyN n) (n + 1) ⟨17, nm, ls, ks⟩ ⟨17, nm', ls', ks'⟩ s) (ha : ks.length = ls.length) (hb : ks'.length = ls'.length) (hla : ls.length ≤ 16) (hlb : ls'.length ≤ 16) (hza : ∀ k, k < ls.length → (ls.getD k default).size ≤ 12) (hzb : ∀ k, k < ls'.length → (ls'.getD k default).size ≤ 12) : WhyR 24 n ⟨17, nm, ls, ks⟩ ⟨17, nm', ls', ks'⟩ s := by
  unfold WhyR
  have e := notNumI (k := 17) (by decide)
  have hq := labsI_ok (g := 24) rfl s 5 hs (fun _ => hK) (fun _ => ⟨ha, hb⟩) hla hlb hza
  refine ret_of (nt := 189) (rvs := [.cell 6 34, .tmp 7]) Tryz.func24 rfl rfl rfl rfl (fun X => ?_)
  repeat' (first | exact aa | ((conv => whnf) <;> (first | refine And.intro ?_ ?_ | (intro _h; first | contradiction | (try simp only [dd] at _h)) | (refine dt_go ?_) | exact rfl | exact True.intro | exact dkk | exact dks | ((first | refine .inl ⟨_, e, ?_⟩ | refine ⟨_, e, ?_⟩); (try rintro _ rfl)) | ((first | refine .inl ⟨_, hq, ?_⟩ | refine ⟨_, hq, ?_⟩); (try rintro _ rfl)) | (refine wrap_succ ?_; omega))))
  all_goals first
    | exact congrArg rsV (ws_17 rfl (.inl rfl)).symm
    | trace_state
set_option maxRecDepth 8000 in
theorem wI_lab {n : Nat} {k : Int} {nm nm' : ByteArray} {ls ls' : List ByteArray} {ks ks' : List Typ} {s : ByteArray} (hs : s.size ≤ 1000) (hk : k = 18 ∨ k = 19) (h0 : ks.length = 0) (hla : ls.length ≤ 16) (hlb : ls'.length ≤ 16) (hza : ∀ k, k < ls.length → (ls.getD k default).size ≤ 12) : WhyR 24 n ⟨k, nm, ls, ks⟩ ⟨k, nm', ls', ks'⟩ s := by
  unfold WhyR
  rcases hk with rfl | rfl
  · have e := notNumI (k := 18) (by decide)
    have hq := labsI_ok (n := n) (w := whyN n) (a := ⟨18, nm, ls, ks⟩) (b := ⟨18, nm', ls', ks'⟩) (g := 24) rfl s 5 hs (fun q => absurd h0 q) (fun q => absurd h0 q) hla hlb hza
    refine ret_of (nt := 189) (rvs := [.cell 6 34, .tmp 7]) Tryz.func24 rfl rfl rfl rfl (fun X => ?_)
    repeat' (first | exact aa | ((conv => whnf) <;> (first | refine And.intro ?_ ?_ | (intro _h; first | contradiction | (try simp only [dd] at _h)) | (refine dt_go ?_) | exact rfl | exact True.intro | exact dkk | exact dks | ((first | refine .inl ⟨_, e, ?_⟩ | refine ⟨_, e, ?_⟩); (try rintro _ rfl)) | ((first | refine .inl ⟨_, hq, ?_⟩ | refine ⟨_, hq, ?_⟩); (try rintro _ rfl)) | (refine wrap_succ ?_; omega))))
    all_goals first
      | exact congrArg rsV (ws_17 rfl (.inr (.inl rfl))).symm
      | trace_state
  · have e := notNumI (k := 19) (by decide)
    have hq := labsI_ok (n := n) (w := whyN n) (a := ⟨19, nm, ls, ks⟩) (b := ⟨19, nm', ls', ks'⟩) (g := 24) rfl s 5 hs (fun q => absurd h0 q) (fun q => absurd h0 q) hla hlb hza
    refine ret_of (nt := 189) (rvs := [.cell 6 34, .tmp 7]) Tryz.func24 rfl rfl rfl rfl (fun X => ?_)
    repeat' (first | exact aa | ((conv => whnf) <;> (first | refine And.intro ?_ ?_ | (intro _h; first | contradiction | (try simp only [dd] at _h)) | (refine dt_go ?_) | exact rfl | exact True.intro | exact dkk | exact dks | ((first | refine .inl ⟨_, e, ?_⟩ | refine ⟨_, e, ?_⟩); (try rintro _ rfl)) | ((first | refine .inl ⟨_, hq, ?_⟩ | refine ⟨_, hq, ?_⟩); (try rintro _ rfl)) | (refine wrap_succ ?_; omega))))
    all_goals first
      | exact congrArg rsV (ws_17 rfl (.inr (.inr rfl))).symm
      | trace_state
set_option maxRecDepth 8000 in
theorem wI_own {n : Nat} {k : Int} {nm nm' : ByteArray} {ls ls' : List ByteArray} {ks ks' : List Typ} {s : ByteArray} (hs : s.size ≤ 1000) (hk : k = 20 ∨ k = 21) : WhyR 24 n ⟨k, nm, ls, ks⟩ ⟨k, nm', ls', ks'⟩ s := by
  unfold WhyR
  have hw := fun q : nm = nm' => (ws_20 (w := whyN n) (a := ⟨k, nm, ls, ks⟩) (b := ⟨k, nm', ls', ks'⟩) (s := s) rfl hk).trans (if_pos q)
  have hw' := fun q : ¬ nm = nm' => (ws_20 (w := whyN n) (a := ⟨k, nm, ls, ks⟩) (b := ⟨k, nm', ls', ks'⟩) (s := s) rfl hk).trans (if_neg q)
  rcases hk with rfl | rfl
  · have e := notNumI (k := 20) (by decide)
    refine ret_of (nt := 189) (rvs := [.cell 6 34, .tmp 7]) Tryz.func24 rfl rfl rfl rfl (fun X => ?_)
    repeat' (first | exact aa | ((conv => whnf) <;> (first | refine And.intro ?_ ?_ | (intro _h; first | contradiction | (try simp only [dd] at _h)) | (refine dt_go ?_) | exact rfl | exact True.intro | exact dkk | exact dks | ((first | refine .inl ⟨_, e, ?_⟩ | refine ⟨_, e, ?_⟩); (try rintro _ rfl)) | ((first | refine .inl ⟨_, reason_ok _ _, ?_⟩ | refine ⟨_, reason_ok _ _, ?_⟩); (try rintro _ rfl)) | ((first | refine .inl ⟨_, none_ok, ?_⟩ | refine ⟨_, none_ok, ?_⟩); (try rintro _ rfl)) | (refine wrap_succ ?_; omega))))
    all_goals first
      | exact (congrArg rsV (hw ‹_›).symm : rsV none = _)
      | exact (congrArg rsV (hw' ‹_›).symm : rsV (some (6, s)) = _)
      | trace_state
  · have e := notNumI (k := 21) (by decide)
    refine ret_of (nt := 189) (rvs := [.cell 6 34, .tmp 7]) Tryz.func24 rfl rfl rfl rfl (fun X => ?_)
    repeat' (first | exact aa | ((conv => whnf) <;> (first | refine And.intro ?_ ?_ | (intro _h; first | contradiction | (try simp only [dd] at _h)) | (refine dt_go ?_) | exact rfl | exact True.intro | exact dkk | exact dks | ((first | refine .inl ⟨_, e, ?_⟩ | refine ⟨_, e, ?_⟩); (try rintro _ rfl)) | ((first | refine .inl ⟨_, reason_ok _ _, ?_⟩ | refine ⟨_, reason_ok _ _, ?_⟩); (try rintro _ rfl)) | ((first | refine .inl ⟨_, none_ok, ?_⟩ | refine ⟨_, none_ok, ?_⟩); (try rintro _ rfl)) | (refine wrap_succ ?_; omega))))
    all_goals first
      | exact (congrArg rsV (hw ‹_›).symm : rsV none = _)
      | exact (congrArg rsV (hw' ‹_›).symm : rsV (some (6, s)) = _)
      | trace_state
set_option maxRecDepth 8000 in
theorem wI_str {n : Nat} {k : Int} {nm nm' : ByteArray} {ls ls' : List ByteArray} {ks ks' : List Typ} {s : ByteArray} (hs : s.size ≤ 1000) (hk : k = 22 ∨ k = 23) (h0 : 0 < ks.length) (h0' : 0 < ks'.length) (ha : Typ.oN (n + 1) (ks.getD 0 default)) (hb : Typ.oN (n + 1) (ks'.getD 0 default)) : WhyR 24 n ⟨k, nm, ls, ks⟩ ⟨k, nm', ls', ks'⟩ s := by
  unfold WhyR
  have hq := sameTI_ok ha hb
  have hw := fun q : Typ.sam 100 (ks.getD 0 default) (ks'.getD 0 default) => (ws_22 (w := whyN n) (a := ⟨k, nm, ls, ks⟩) (b := ⟨k, nm', ls', ks'⟩) (s := s) rfl hk).trans (if_pos (pb_t.mpr q))
  have hw' := fun q : ¬ Typ.sam 100 (ks.getD 0 default) (ks'.getD 0 default) => (ws_22 (w := whyN n) (a := ⟨k, nm, ls, ks⟩) (b := ⟨k, nm', ls', ks'⟩) (s := s) rfl hk).trans (if_neg (by intro e; exact q (pb_t.mp e)))
  rcases hk with rfl | rfl
  · have e := notNumI (k := 22) (by decide)
    refine ret_of (nt := 189) (rvs := [.cell 6 34, .tmp 7]) Tryz.func24 rfl rfl rfl rfl (fun X => ?_)
    repeat' (first | exact aa | ((conv => whnf) <;> (first | refine And.intro ?_ ?_ | (intro _h; first | contradiction | (try simp only [dd] at _h)) | (refine dt_go ?_) | exact rfl | exact True.intro | exact dkk | exact dks | ((first | refine .inl ⟨_, e, ?_⟩ | refine ⟨_, e, ?_⟩); (try rintro _ rfl)) | ((first | refine .inl ⟨_, hq, ?_⟩ | refine ⟨_, hq, ?_⟩); (try rintro _ rfl)) | ((first | refine .inl ⟨_, reason_ok _ _, ?_⟩ | refine ⟨_, reason_ok _ _, ?_⟩); (try rintro _ rfl)) | ((first | refine .inl ⟨_, none_ok, ?_⟩ | refine ⟨_, none_ok, ?_⟩); (try rintro _ rfl)) | (refine wrap_succ ?_; omega))))
    all_goals first
      | exact (congrArg rsV (hw ‹_›).symm : rsV none = _)
      | exact (congrArg rsV (hw (Classical.not_not.1 ‹_›)).symm : rsV none = _)
      | exact (congrArg rsV (hw' ‹_›).symm : rsV (some (3, s)) = _)
      | trace_state
  · have e := notNumI (k := 23) (by decide)
    refine ret_of (nt := 189) (rvs := [.cell 6 34, .tmp 7]) Tryz.func24 rfl rfl rfl rfl (fun X => ?_)
    repeat' (first | exact aa | ((conv => whnf) <;> (first | refine And.intro ?_ ?_ | (intro _h; first | contradiction | (try simp only [dd] at _h)) | (refine dt_go ?_) | exact rfl | exact True.intro | exact dkk | exact dks | ((first | refine .inl ⟨_, e, ?_⟩ | refine ⟨_, e, ?_⟩); (try rintro _ rfl)) | ((first | refine .inl ⟨_, hq, ?_⟩ | refine ⟨_, hq, ?_⟩); (try rintro _ rfl)) | ((first | refine .inl ⟨_, reason_ok _ _, ?_⟩ | refine ⟨_, reason_ok _ _, ?_⟩); (try rintro _ rfl)) | ((first | refine .inl ⟨_, none_ok, ?_⟩ | refine ⟨_, none_ok, ?_⟩); (try rintro _ rfl)) | (refine wrap_succ ?_; omega))))
    all_goals first
      | exact (congrArg rsV (hw ‹_›).symm : rsV none = _)
      | exact (congrArg rsV (hw (Classical.not_not.1 ‹_›)).symm : rsV none = _)
      | exact (congrArg rsV (hw' ‹_›).symm : rsV (some (3, s)) = _)
      | trace_state
set_option maxRecDepth 8000 in
set_option maxHeartbeats 1600000 in
theorem wI_no {n : Nat} {k : Int} {nm nm' : ByteArray} {ls ls' : List ByteArray} {ks ks' : List Typ} {s : ByteArray} (hs : s.size ≤ 1000) (hk : k = 1 ∨ k = 2 ∨ k = 10 ∨ k = 11) : WhyR 24 n ⟨k, nm, ls, ks⟩ ⟨k, nm', ls', ks'⟩ s := by
  unfold WhyR
  rcases hk with rfl | rfl | rfl | rfl
  · have e := notNumI (k := 1) (by decide)
    refine ret_of (nt := 189) (rvs := [.cell 6 34, .tmp 7]) Tryz.func24 rfl rfl rfl rfl (fun X => ?_)
    repeat' (first | exact aa | ((conv => whnf) <;> (first | refine And.intro ?_ ?_ | (intro _h; first | contradiction | (try simp only [dd] at _h)) | (refine dt_go ?_) | exact rfl | exact True.intro | exact dkk | exact dks | ((first | refine .inl ⟨_, e, ?_⟩ | refine ⟨_, e, ?_⟩); (try rintro _ rfl)) | ((first | refine .inl ⟨_, none_ok, ?_⟩ | refine ⟨_, none_ok, ?_⟩); (try rintro _ rfl)) | (refine wrap_succ ?_; omega))))
    all_goals exact (congrArg rsV (ws_no (fun q => absurd q.1 (by decide)) rfl (fun q => absurd q.1 (by decide))).symm : rsV none = _)
  · have e := notNumI (k := 2) (by decide)
    refine ret_of (nt := 189) (rvs := [.cell 6 34, .tmp 7]) Tryz.func24 rfl rfl rfl rfl (fun X => ?_)
    repeat' (first | exact aa | ((conv => whnf) <;> (first | refine And.intro ?_ ?_ | (intro _h; first | contradiction | (try simp only [dd] at _h)) | (refine dt_go ?_) | exact rfl | exact True.intro | exact dkk | exact dks | ((first | refine .inl ⟨_, e, ?_⟩ | refine ⟨_, e, ?_⟩); (try rintro _ rfl)) | ((first | refine .inl ⟨_, none_ok, ?_⟩ | refine ⟨_, none_ok, ?_⟩); (try rintro _ rfl)) | (refine wrap_succ ?_; omega))))
    all_goals exact (congrArg rsV (ws_no (fun q => absurd q.1 (by decide)) rfl (fun q => absurd q.1 (by decide))).symm : rsV none = _)
  · have e := notNumI (k := 10) (by decide)
    refine ret_of (nt := 189) (rvs := [.cell 6 34, .tmp 7]) Tryz.func24 rfl rfl rfl rfl (fun X => ?_)
    repeat' (first | exact aa | ((conv => whnf) <;> (first | refine And.intro ?_ ?_ | (intro _h; first | contradiction | (try simp only [dd] at _h)) | (refine dt_go ?_) | exact rfl | exact True.intro | exact dkk | exact dks | ((first | refine .inl ⟨_, e, ?_⟩ | refine ⟨_, e, ?_⟩); (try rintro _ rfl)) | ((first | refine .inl ⟨_, none_ok, ?_⟩ | refine ⟨_, none_ok, ?_⟩); (try rintro _ rfl)) | (refine wrap_succ ?_; omega))))
    all_goals exact (congrArg rsV (ws_no (fun q => absurd q.1 (by decide)) rfl (fun q => absurd q.1 (by decide))).symm : rsV none = _)
  · have e := notNumI (k := 11) (by decide)
    refine ret_of (nt := 189) (rvs := [.cell 6 34, .tmp 7]) Tryz.func24 rfl rfl rfl rfl (fun X => ?_)
    repeat' (first | exact aa | ((conv => whnf) <;> (first | refine And.intro ?_ ?_ | (intro _h; first | contradiction | (try simp only [dd] at _h)) | (refine dt_go ?_) | exact rfl | exact True.intro | exact dkk | exact dks | ((first | refine .inl ⟨_, e, ?_⟩ | refine ⟨_, e, ?_⟩); (try rintro _ rfl)) | ((first | refine .inl ⟨_, none_ok, ?_⟩ | refine ⟨_, none_ok, ?_⟩); (try rintro _ rfl)) | (refine wrap_succ ?_; omega))))
    all_goals exact (congrArg rsV (ws_no (fun q => absurd q.1 (by decide)) rfl (fun q => absurd q.1 (by decide))).symm : rsV none = _)
theorem whyI_ok : ∀ n, n ≤ 50 → WhyOk 24 n
  | 0, _ => fun a b s ha => ha.elim
  | n + 1, hn => fun a b s ha hb sa sb hs => by
    have hK := (whyI_ok n (by omega)).kids ha hb sa sb hs
    have hs1 : s.size ≤ 1000 := by omega
    refine Ret.wk (.cons (Typ.lift ha) (.cons (Typ.lift hb) (.cons (.refl _) .nil))) ?_
    show WhyR 24 n a b s
    by_cases h1 : numK a.kind ∧ numK b.kind
    · exact wI_num h1.1 h1.2
    by_cases h2' : ¬ a.kind = b.kind
    · exact wI_kind h1 h2'
    have h2 := Classical.not_not.1 h2'
    have hk := (Typ.sh_eq.1 sa).1.ks.k7
    obtain ⟨a1, a3, a4, a5, a7, all, alz⟩ := knd sa
    obtain ⟨b1, b3, b4, b5, b7, bll, blz⟩ := knd sb
    have o1 := fun q : 0 < a.kids.length => Typ.oN_up _ _ (Typ.oN_kid ha q)
    have o2 := fun q : 0 < b.kids.length => Typ.oN_up _ _ (Typ.oN_kid hb q)
    obtain ⟨k, nm, ls, ks⟩ := a
    obtain ⟨k', nm', ls', ks'⟩ := b
    dsimp only at *
    obtain rfl := h2
    unfold numK at h1
    by_cases q1 : k = 12 ∨ k = 13
    · exact wI_one q1 hs1 hK (by omega) (by omega)
    by_cases q2 : k = 14
    · obtain rfl := q2
      exact wI_two hs1 hK (by omega) (by omega)
    by_cases q3 : k = 15
    · obtain rfl := q3
      exact wI_tup hs1 hK (by omega)
    by_cases q4 : k = 16
    · obtain rfl := q4
      exact wI_rec hs1 hK (by omega) (by omega) all bll alz blz
    by_cases q5 : k = 17
    · obtain rfl := q5
      exact wI_var hs1 hK (by omega) (by omega) all bll alz blz
    by_cases q6 : k = 18 ∨ k = 19
    · exact wI_lab hs1 q6 (by omega) all bll alz
    by_cases q7 : k = 20 ∨ k = 21
    · exact wI_own hs1 q7
    by_cases q8 : k = 22 ∨ k = 23
    · exact wI_str hs1 q8 (by omega) (by omega) (o1 (by omega)) (o2 (by omega))
    have := (hk (by omega)).1
    exact wI_no hs1 (by omega)
end Go.Proofs.YtfddakeigmpjkaaGreatDoor
