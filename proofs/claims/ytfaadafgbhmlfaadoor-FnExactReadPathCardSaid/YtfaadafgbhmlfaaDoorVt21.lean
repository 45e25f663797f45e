/- Texts for VReadPathP. -/
import Derived.Test.YtfaadafgbhmlfaaDoorVt19
import Derived.Test.YtfaadafgbhmlfaaDoorVt20
namespace Go.Proofs.YtfaadafgbhmlfaaDoor
open Go Go.RowKit
set_option linter.unusedVariables false
set_option linter.unusedSimpArgs false
section
attribute [local irreducible] IntKind.wrap
theorem tWk_rfp {m m' : Nat} {g : Nat → AV} (hm : m' ≤ m) : Wk (.rf m g) (.rf m' g) := by
  refine ⟨fun hi j hj => hi j (by omega), fun w S u hc => ?_⟩
  obtain ⟨b, o, U, rfl, hS, hcc, hu, hf⟩ := inv_rf hc
  exact .rf b o U hS (fun j hj => hcc j (by omega)) (fun j hj => hf j (by omega)) fun j hj => hu j (by omega)
theorem tWk_trans {x y z : AV} (h : Wk x y) (k : Wk y z) : Wk x z := ⟨fun q => k.idf (h.idf q), fun w S u hc => k.c w S u (h.c w S u hc)⟩
theorem tWk_rfcp {m : Nat} {g : Nat → AV} {cs : List AV} (hm : Nat.ble cs.length m = true) (h : cellsAt g 0 cs.length = cs) : Wk (.rf m g) (rfL cs) :=
  tWk_trans (tWk_rfp (Nat.le_of_ble_eq_true hm)) (Wk.rfc h)
theorem sg_mem (c : Nat) (hc : c < 256) : (c.toUInt8 ∈ (⟨#[123, 125, 40, 41, 60, 62, 44, 59, 58, 61, 46, 47, 64, 95]⟩ : ByteArray).data.toList) ↔ ((c : Int) ∈ sgL) := by
  constructor
  · intro h
    have : ∀ x ∈ (⟨#[123, 125, 40, 41, 60, 62, 44, 59, 58, 61, 46, 47, 64, 95]⟩ : ByteArray).data.toList, (x.toNat : Int) ∈ sgL := by decide
    have := this _ h
    rw [Nat.toUInt8_eq, UInt8.toNat_ofNat', Nat.mod_eq_of_lt hc] at this
    exact this
  · intro h
    have : ∀ z ∈ sgL, z.toNat.toUInt8 ∈ (⟨#[123, 125, 40, 41, 60, 62, 44, 59, 58, 61, 46, 47, 64, 95]⟩ : ByteArray).data.toList := by decide
    have := this _ h
    rwa [Int.toNat_natCast] at this
theorem sgn_ok (s : ByteArray) (k : Nat) : Ret env.P 43 [.s ⟨#[123, 125, 40, 41, 60, 62, 44, 59, 58, 61, 46, 47, 64, 95]⟩, .i .u8 (byI s k)] (fun r => (byI s k ∈ sgL ∧ ∃ n : Int, 0 ≤ n ∧ n < 14 ∧ r = .i .i64 n) ∨ (¬ byI s k ∈ sgL ∧ r = .i .i64 (-1))) :=
  (indexByte_ok ⟨#[123, 125, 40, 41, 60, 62, 44, 59, 58, 61, 46, 47, 64, 95]⟩ (s.data.getD k 0).toNat).mono fun r e => by
    have h1 := indexByte_iff (⟨#[123, 125, 40, 41, 60, 62, 44, 59, 58, 61, 46, 47, 64, 95]⟩ : ByteArray).data.toList (s.data.getD k 0).toNat.toUInt8
    have h2 := indexByte_lt (⟨#[123, 125, 40, 41, 60, 62, 44, 59, 58, 61, 46, 47, 64, 95]⟩ : ByteArray).data.toList (s.data.getD k 0).toNat.toUInt8
    have h3 := Lib.indexByte_ge (⟨#[123, 125, 40, 41, 60, 62, 44, 59, 58, 61, 46, 47, 64, 95]⟩ : ByteArray).data.toList (s.data.getD k 0).toNat.toUInt8
    rw [sg_mem _ (UInt8.toNat_lt _)] at h1
    have h4 : (⟨#[123, 125, 40, 41, 60, 62, 44, 59, 58, 61, 46, 47, 64, 95]⟩ : ByteArray).data.toList.length = 14 := rfl
    rw [h4] at h2
    by_cases h : byI s k ∈ sgL
    · exact .inl ⟨h, _, h1.2 h, by omega, e⟩
    · refine .inr ⟨h, ?_⟩
      have : ¬ 0 ≤ Lib.indexByte (⟨#[123, 125, 40, 41, 60, 62, 44, 59, 58, 61, 46, 47, 64, 95]⟩ : ByteArray).data.toList (s.data.getD k 0).toNat.toUInt8 := fun q => h (h1.1 q)
      rw [e]
      congr 1
      omega
theorem nxt_w {s : ByteArray} {k : Nat} (h : 97 ≤ byI s k ∧ byI s k ≤ 122) : nxt s k = (1, endF (wdP s) (s.size - k) k) := if_pos h
theorem nxt_n {s : ByteArray} {k : Nat} (h : 48 ≤ byI s k ∧ byI s k ≤ 57) : nxt s k = (2, endF (nbP s) (s.size - k) k) := by
  unfold nxt
  rw [if_neg (fun q : isLt (byI s k) => nl_97 h q), if_pos (show isDg (byI s k) from h)]
theorem nxt_a {s : ByteArray} {k : Nat} (h : byI s k = 45 ∧ byI s (k + 1) = 62) : nxt s k = (3, k + 2) := by
  unfold nxt
  rw [if_neg (fun q : isLt (byI s k) => by unfold isLt at q; omega), if_neg (fun q : isDg (byI s k) => by unfold isDg at q; omega), if_pos h]
theorem nxt_s {s : ByteArray} {k : Nat} (h1 : ¬ (97 ≤ byI s k ∧ byI s k ≤ 122)) (h2 : ¬ (48 ≤ byI s k ∧ byI s k ≤ 57)) (h3 : ¬ (byI s k = 45 ∧ byI s (k + 1) = 62)) (h : byI s k ∈ sgL) : nxt s k = (3, k + 1) := by
  unfold nxt
  rw [if_neg (show ¬ isLt (byI s k) from h1), if_neg (show ¬ isDg (byI s k) from h2), if_neg h3, if_pos h]
theorem nxt_0 {s : ByteArray} {k : Nat} (h1 : ¬ (97 ≤ byI s k ∧ byI s k ≤ 122)) (h2 : ¬ (48 ≤ byI s k ∧ byI s k ≤ 57)) (h3 : ¬ (byI s k = 45 ∧ byI s (k + 1) = 62)) (h : ¬ byI s k ∈ sgL) : nxt s k = (0, 0) := by
  unfold nxt
  rw [if_neg (show ¬ isLt (byI s k) from h1), if_neg (show ¬ isDg (byI s k) from h2), if_neg h3, if_neg h]
set_option maxRecDepth 8000 in
set_option maxHeartbeats 1000000 in
theorem next_ok (s : ByteArray) (k : Nat) (line : Int) (hs : s.size ≤ 30000) (hk : k < s.size) : Ret env.P 32 [rfL (lxC s k line)] (fun r => r = .tup [.i .i64 (nxt s k).1, .i .i64 ((nxt s k).2 : Nat)]) := by
  refine ret_of (nt := 57) (rvs := [.tmp 2, .tmp 3]) Tryd.func32 rfl rfl rfl rfl (fun X => ?_)
  repeat' (first | omega | (with_reducible show (_ : Int) < _; dsimp only; omega) | (with_reducible show (_ : Nat) ≤ _; dsimp only; omega) | ((with_reducible show SrcOk _ _ _) <;> (first | exact srcOk_1 rfl | exact srcOk_L (fun _ => ⟨rfl, rfl⟩) | exact srcOk_E (fun _ => ⟨rfl, rfl⟩))) | ((conv => whnf) <;> (first | ((first | refine .inl ⟨_, sgn_ok s k, ?_⟩ | refine ⟨_, sgn_ok s k, ?_⟩); rintro _ (⟨_, n, _, _, rfl⟩ | ⟨_, rfl⟩)) | refine And.intro ?_ ?_ | (intro _h; first | contradiction | (try simp only [dd] at _h)) | (refine dt_go ?_) | exact rfl | exact True.intro | exact dkk | exact dks | ((first | refine .inl ⟨_, isLetter_ok _, ?_⟩ | refine ⟨_, isLetter_ok _, ?_⟩); (try rintro _ rfl)) | ((first | refine .inl ⟨_, isDigit_ok _, ?_⟩ | refine ⟨_, isDigit_ok _, ?_⟩); (try rintro _ rfl)) | ((first | refine .inl ⟨_, pre4562 s _ hs, ?_⟩ | refine ⟨_, pre4562 s _ hs, ?_⟩); (try rintro _ rfl)) | ((first | refine .inl ⟨_, wordEnd_w s k _ _ hs hk ‹97 ≤ byI s k ∧ byI s k ≤ 122›, ?_⟩ | refine ⟨_, wordEnd_w s k _ _ hs hk ‹97 ≤ byI s k ∧ byI s k ≤ 122›, ?_⟩); (try rintro _ rfl)) | ((first | refine .inl ⟨_, wordEnd_n s k _ _ hs hk ‹48 ≤ byI s k ∧ byI s k ≤ 57›, ?_⟩ | refine ⟨_, wordEnd_n s k _ _ hs hk ‹48 ≤ byI s k ∧ byI s k ≤ 57›, ?_⟩); (try rintro _ rfl)) | (refine wrap_succ ?_; omega))))
  all_goals (try simp only [Int.toNat_natCast] at *)
  all_goals (first | (conv => whnf) | skip)
  all_goals first
    | (exfalso; omega)
    | (rw [nxt_w (by assumption)]; rfl)
    | (rw [nxt_n (by assumption)]; rfl)
    | (rw [nxt_a (by assumption)]; simp (disch := omega) only [wrap_in]; rfl)
    | (rw [nxt_s (by assumption) (by assumption) (by assumption) (by assumption)]; simp (disch := omega) only [wrap_in]; rfl)
    | (rw [nxt_0 (by assumption) (by assumption) (by assumption) (by assumption)]; rfl)
    | trace_state
theorem nxt_or {s : ByteArray} {k : Nat} (hk : k < s.size) : (nxt s k).1 = 0 ∨ (k < (nxt s k).2 ∧ (nxt s k).2 ≤ s.size) := by
  by_cases h : (nxt s k).1 = 0
  · exact .inl h
  · have := nxt_rng hk h
    exact .inr ⟨this.1, this.2.1⟩
theorem next_or (s : ByteArray) (k : Nat) (line : Int) (hs : s.size ≤ 30000) (hk : (k : Int) < s.size) : Ret env.P 32 [rfL (lxC s k line)] (fun r => r = .tup [.i .i64 (nxt s k).1, .i .i64 ((nxt s k).2 : Nat)] ∧ ((nxt s k).1 = 0 ∨ (k < (nxt s k).2 ∧ (nxt s k).2 ≤ s.size))) := (next_ok s k line hs (by omega)).mono fun r e => ⟨e, nxt_or (by omega)⟩
theorem cap4C {n b : Nat} (h : n ≤ 4000) (hb : b ≤ 1000) : (n + 1) * b ≤ 140737488355328 := Nat.le_trans (Nat.mul_le_mul (Nat.succ_le_succ h) hb) (by decide)
theorem cap4M {n : Nat} (h : n ≤ 4000) : n + 1 ≤ 9223372036854775807 := by omega
theorem tlen_ow {sz n m : Nat} {g g' : Nat → Nat → AV} (e : n = m) (hf : ∀ i j, i < n → j < sz → (g' i j).idfO) (h : ∀ i j, i < n → j < sz → OwEq (g i j) (g' i j)) : OwEq (.ow sz n g) (.ow sz m g') := by subst e; exact .ow hf h
theorem tk_idf {g : Nat → Nat → AV} {t : Tok} (h0 : g 0 0 = .i .i64 t.kind) (h1 : g 0 1 = .s t.text) (h2 : g 0 2 = .i .i64 t.line) : ∀ j, j < 3 → (g 0 j).idfO := fun j hj => by
  rcases (show j = 0 ∨ j = 1 ∨ j = 2 by omega) with rfl | rfl | rfl
  · rw [h0]; trivial
  · rw [h1]; trivial
  · rw [h2]; trivial
theorem tk_eq {g : Nat → Nat → AV} {t : Tok} (h0 : g 0 0 = .i .i64 t.kind) (h1 : g 0 1 = .s t.text) (h2 : g 0 2 = .i .i64 t.line) : ∀ j, j < 3 → OwEq (g 0 j) ((tokC t).getD j .any) := fun j hj => by
  rcases (show j = 0 ∨ j = 1 ∨ j = 2 by omega) with rfl | rfl | rfl
  · rw [h0]; exact .refl _
  · rw [h1]; exact .refl _
  · rw [h2]; exact .refl _
theorem LxI_lt {s : ByteArray} {y : List Tok × Nat × Int} (hk : y.2.1 < s.size) (hn : ¬ (nxt s y.2.1).1 = 0) : s.size - (skW s (nxt s y.2.1).2 y.2.2).1 < s.size - y.2.1 := by
  have h1 := nxt_rng hk hn
  have h2 := skW_ge s _ (nxt s y.2.1).2 y.2.2 (Nat.le_refl _)
  omega
noncomputable def tkAt (s : ByteArray) (y : List Tok × Nat × Int) : Tok := ⟨(nxt s y.2.1).1, s.extract y.2.1 (nxt s y.2.1).2, y.2.2⟩
structure LxI (s : ByteArray) (y : List Tok × Nat × Int) : Prop where
  eq : lexG s y.1 y.2.1 y.2.2 = lexG s [] (skW s 0 1).1 (skW s 0 1).2
  le : y.2.1 ≤ s.size
  len : y.1.length ≤ 4000
  lo : 1 ≤ y.2.2
  hi : y.2.2 ≤ 1 + y.2.1
theorem LxI.zero (s : ByteArray) : LxI s ([], (skW s 0 1).1, (skW s 0 1).2) := by
  obtain ⟨a, b, c, d⟩ := skW_ge s _ 0 1 (Nat.le_refl _)
  exact ⟨rfl, b (Nat.zero_le _), Nat.zero_le _, c, by simp at d; exact d⟩
theorem LxI.next {s : ByteArray} {y : List Tok × Nat × Int} (h : LxI s y) (hk : y.2.1 < s.size) (hn : ¬ (nxt s y.2.1).1 = 0) (hl : ¬ y.1.length = 4000) : LxI s (y.1 ++ [⟨(nxt s y.2.1).1, s.extract y.2.1 (nxt s y.2.1).2, y.2.2⟩], (skW s (nxt s y.2.1).2 y.2.2).1, (skW s (nxt s y.2.1).2 y.2.2).2) := by
  obtain ⟨e, le, len, lo, hi⟩ := h
  have h1 := nxt_rng hk hn
  obtain ⟨a, b, c, d⟩ := skW_ge s _ (nxt s y.2.1).2 y.2.2 (Nat.le_refl _)
  refine ⟨?_, b h1.2.1, ?_, ?_, ?_⟩
  · rw [← e]
    conv => rhs; rw [lexG, dif_pos hk, dif_neg hn, if_neg hl]
  · rw [List.length_append, List.length_singleton]
    show y.1.length + 1 ≤ 4000
    omega
  · show 1 ≤ (skW s (nxt s y.2.1).2 y.2.2).2
    omega
  · show (skW s (nxt s y.2.1).2 y.2.2).2 ≤ 1 + ((skW s (nxt s y.2.1).2 y.2.2).1 : Int)
    omega
theorem LxI.end {s : ByteArray} {y : List Tok × Nat × Int} (h : LxI s y) (hk : ¬ y.2.1 < s.size) (hs : s.size ≤ 30000) : lexF s = .ok (y.1 ++ [⟨4, ⟨#[]⟩, y.2.2⟩]) := by
  unfold lexF
  rw [if_neg (by omega), ← h.eq, lexG, dif_neg hk]
theorem LxI.bad {s : ByteArray} {y : List Tok × Nat × Int} (h : LxI s y) (hk : y.2.1 < s.size) (hs : s.size ≤ 30000) (hn : (nxt s y.2.1).1 = 0) : lexF s = .err y.2.2 6 := by
  unfold lexF
  rw [if_neg (by omega), ← h.eq, lexG, dif_pos hk, dif_pos hn]
theorem LxI.many {s : ByteArray} {y : List Tok × Nat × Int} (h : LxI s y) (hk : y.2.1 < s.size) (hs : s.size ≤ 30000) (hn : ¬ (nxt s y.2.1).1 = 0) (hl : y.1.length = 4000) : lexF s = .err y.2.2 4 := by
  unfold lexF
  rw [if_neg (by omega), ← h.eq, lexG, dif_pos hk, dif_neg hn, if_pos hl]
def lxR : Lx → AV
  | .ok l => .tup [slL 3 tokC l, .i .i64 0, .i .i64 0]
  | .err line c => .tup [.nils, .i .i64 line, .i .i64 c]
set_option maxRecDepth 8000 in
set_option maxHeartbeats 4000000 in
theorem tokens_ok (s : ByteArray) : Ret env.P 18 [.s s] (fun r => r = lxR (lexF s)) := by
  by_cases hs : s.size ≤ 30000
  · refine Ret.ofFrz ?_
    refine ret_ofPM (nt := 85) (rvs := [.tmp 2, .tmp 3, .tmp 4]) Tryd.func18 rfl rfl rfl rfl (fun X hX => ?_)
    refine pw_cut 3 (fun _ : Unit => True) (fun _ => [(0, .s s), (5, .ptr 0 0 0)]) (fun _ => [some (boxRow (lxB s ((0 : Nat) : Int) 1 []))]) ?_ (fun _ _ => ?_)
    · repeat' (first | omega | (with_reducible show (_ : Int) < _; dsimp only; omega) | (with_reducible show (_ : Nat) ≤ _; dsimp only; omega) | ((with_reducible show SrcOk _ _ _) <;> (first | exact srcOk_1 rfl | exact srcOk_L (fun _ => ⟨rfl, rfl⟩) | exact srcOk_E (fun _ => ⟨rfl, rfl⟩))) | ((conv => whnf) <;> (first | refine And.intro ?_ ?_ | (intro _h; first | contradiction | (try simp only [dd] at _h)) | (refine dt_go ?_) | exact rfl | exact True.intro | exact dkk | exact dks | (refine wrap_succ ?_; omega))))
      all_goals first | (exfalso; omega) | skip
      conv => whnf
      refine cut_turn (turn_box (id := 0) (ds := [.s s, .i .i64 0, .i .i64 1, .ow 3 0 (elE tokC [])]) rfl rfl rfl (.cons (.refl _) (.cons (.refl _) (.cons (.refl _) (.cons (.nil _ _) .nil))))) ?_
      exact cut_go () trivial (by repeat' (first | exact trivial | refine And.intro rfl ?_)) (by repeat' (first | exact trivial | refine And.intro (.inl rfl) ?_ | refine And.intro (.inr rfl) ?_ | refine And.intro rfl ?_))
    refine wpc_ok _ _ _ _ ?_
    (try dsimp only)
    conv => whnf
    repeat' (first | omega | (with_reducible show (_ : Int) < _; dsimp only; omega) | (with_reducible show (_ : Nat) ≤ _; dsimp only; omega) | ((with_reducible show SrcOk _ _ _) <;> (first | exact srcOk_1 rfl | exact srcOk_L (fun _ => ⟨rfl, rfl⟩) | exact srcOk_E (fun _ => ⟨rfl, rfl⟩))) | ((conv => whnf) <;> (first | (rename_i y hy _ _; refine .inr (.inr ⟨_, (fun X => Turn.trans (turn_close (id := 0) (i := 0) (j := 3) (id' := 3) rfl (show 0 < 1 by decide) (show 3 < 4 by decide) rfl rfl (show 0 ≠ 3 by decide) rfl ⟨Nat.le_refl _, snoc_idf rfl (tk_idf (t := tkAt s y) rfl rfl rfl)⟩) (turn_box (id := 0) (ds := lxB s ((nxt s y.2.1).2 : Nat) y.2.2 (y.1 ++ [tkAt s y])) rfl rfl rfl (.cons (.refl _) (.cons (.refl _) (.cons (.refl _) (.cons (tlen_ow lbz_len (fun i j _ _ => HoldC.h _ j) (snoc_eq rfl (tk_eq (t := tkAt s y) rfl rfl rfl))) .nil)))))), (fun i _ q => (by cases q)), .inl ⟨[0], _, _, _, skip_ok s ((nxt s y.2.1).2) y.2.2 (y.1 ++ [tkAt s y]) hs (by omega) (by have := hy.lo; omega) (by have := hy.hi; omega), viewA, ⟨rfl, rfl⟩, ?_⟩⟩); rintro _ _ ⟨rfl, rfl⟩; refine ⟨rfl, _, lokA, ?_⟩) | ((first | refine .inl ⟨_, Ret.wk (by exact .cons (tWk_rfcp rfl rfl) .nil) (next_or s _ _ hs ‹((_ : Nat) : Int) < s.size›), ?_⟩ | refine ⟨_, Ret.wk (by exact .cons (tWk_rfcp rfl rfl) .nil) (next_or s _ _ hs ‹((_ : Nat) : Int) < s.size›), ?_⟩); rintro _ ⟨rfl, _hr⟩) | (refine dt_turn (turn_open (id := 0) (i := 0) (j := 3) rfl (show 0 < 1 by decide) (show 3 < 4 by decide) rfl) ?_; refine dt_goH 1 [0] rfl ?_) | refine dt_goH 1 [0] rfl ?_ | exact cap4C ‹LxI s _›.len (by decide) | exact cap4M ‹LxI s _›.len | exact srcOk_1 rfl | refine loopFT (fun y : List Tok × Nat × Int => []) (fun y => [some (.box [.s s, .i .i64 y.2.1, .i .i64 y.2.2, .ow 3 y.1.length (elE tokC y.1)])]) (fun y => LxI s y) (fun y => s.size - y.2.1) ([], (skW s 0 1).1, (skW s 0 1).2) ⟨LxI.zero s, ?_⟩ | refine And.intro ?_ ?_ | (intro _h; first | contradiction | (try simp only [dd] at _h)) | (refine dt_go ?_) | exact rfl | exact True.intro | exact dkk | exact dks | (refine .inr (.inl (.inl ⟨[0], _, _, _, skip_ok s 0 1 [] hs (Nat.zero_le _) (by decide) (by decide), viewA, ⟨rfl, rfl⟩, ?_⟩)); (rintro _ _ ⟨rfl, rfl⟩) <;> (refine ⟨rfl, _, lokA, ?_⟩)) | (refine wrap_succ ?_; omega))))
    all_goals (conv => whnf)
    all_goals first
      | (rename_i y hy _ hn
         have hk : y.2.1 < s.size := by omega
         refine roundET_end ?_
         refine ⟨(y.1 ++ [tkAt s y], (skW s (nxt s y.2.1).2 y.2.2).1, (skW s (nxt s y.2.1).2 y.2.2).2), [], hy.next hk hn (by omega), LxI_lt hk hn, ?_⟩
         repeat' (first | omega | (with_reducible show (_ : Int) < _; dsimp only; omega) | (with_reducible show (_ : Nat) ≤ _; dsimp only; omega) | ((with_reducible show SrcOk _ _ _) <;> (first | exact srcOk_1 rfl | exact srcOk_L (fun _ => ⟨rfl, rfl⟩) | exact srcOk_E (fun _ => ⟨rfl, rfl⟩))) | ((conv => whnf) <;> (first | refine And.intro ?_ ?_ | (intro _h; first | contradiction | (try simp only [dd] at _h)) | (refine dt_go ?_) | exact rfl | exact True.intro | exact dkk | exact dks | (refine wrap_succ ?_; omega)))))
      | (rename_i y hy _
         exact endM_self (frz0 (frz_tup (.cons (.refl _) (.cons (.refl _) (.cons (.refl _) .nil)))) (by rw [hy.bad (by omega) hs ‹_›]; rfl)))
      | (rename_i y hy _ hn
         exact endM_self (frz0 (frz_tup (.cons (.refl _) (.cons (.refl _) (.cons (.refl _) .nil)))) (by rw [hy.many (by omega) hs hn (by omega)]; rfl)))
      | (rename_i y hy
         refine endM_turn (turn_eq (id := 3) (x := rowL 3 tokC (y.1 ++ [⟨4, ⟨#[]⟩, y.2.2⟩])) rfl rfl lbz_len.symm rfl rfl (snoc_eq rfl (tk_eq (t := ⟨4, ⟨#[]⟩, y.2.2⟩) rfl rfl rfl))) ?_
         exact endM_self (frz0 (frz_tup (.cons (shr_L (d := 0) (k := 4) lbz_len) (.cons (.refl _) (.cons (.refl _) .nil)))) (by rw [hy.end (by omega) hs]; rfl)))
      | trace_state
  · have e : lexF s = .err 0 4 := if_pos (by omega)
    rw [e]
    refine ret_of (nt := 85) (rvs := [.tmp 2, .tmp 3, .tmp 4]) Tryd.func18 rfl rfl rfl rfl (fun X => ?_)
    repeat' (first | omega | (with_reducible show (_ : Int) < _; dsimp only; omega) | (with_reducible show (_ : Nat) ≤ _; dsimp only; omega) | ((with_reducible show SrcOk _ _ _) <;> (first | exact srcOk_1 rfl | exact srcOk_L (fun _ => ⟨rfl, rfl⟩) | exact srcOk_E (fun _ => ⟨rfl, rfl⟩))) | ((conv => whnf) <;> (first | refine And.intro ?_ ?_ | (intro _h; first | contradiction | (try simp only [dd] at _h)) | (refine dt_go ?_) | exact rfl | exact True.intro | exact dkk | exact dks | (refine wrap_succ ?_; omega))))
    all_goals first | (exfalso; omega) | exact rfl
end
end Go.Proofs.YtfaadafgbhmlfaaDoor
