/- Texts for VTermOkP. -/
import Derived.Shelf.Strings.OnBuilder
import Derived.Test.YtllcemegnggpfaaProg
import Derived.Test.YtllcemegnggpfaaVs30
namespace Go.Proofs.Ytllcemegnggpfaa
open Go Go.RowKit
set_option linter.unusedVariables false
set_option linter.unusedSimpArgs false
section
attribute [local irreducible] IntKind.wrap
def AccOk (acc : List Tok) : Prop := acc.length ≤ 4000 ∧ ∀ t ∈ acc, (1 ≤ t.kind ∧ t.kind ≤ 3) ∧ (t.kind = 2 → isDg (byI t.text 0)) ∧ t.text.size ≤ 30000
theorem getD_mem {l : List Tok} {i : Nat} (h : i < l.length) : l.getD i default ∈ l := by
  rw [List.getD_eq_getElem?_getD, List.getElem?_eq_getElem h]
  exact List.getElem_mem h
theorem getD_app {l : List Tok} {t : Tok} {i : Nat} (h : i < l.length) : (l ++ [t]).getD i default = l.getD i default := by
  rw [List.getD_eq_getElem?_getD, List.getElem?_append_left h, ← List.getD_eq_getElem?_getD]
theorem getD_lst {l : List Tok} {t : Tok} : (l ++ [t]).getD l.length default = t := by
  rw [List.getD_eq_getElem?_getD, List.getElem?_append_right (Nat.le_refl _), Nat.sub_self]
  rfl
theorem AccOk.lex {acc : List Tok} {line : Int} (h : AccOk acc) : LexOk (acc ++ [⟨4, ⟨#[]⟩, line⟩]) where
  pos := by simp
  most := by have := h.1; simp; omega
  last := by rw [show (acc ++ [(⟨4, ⟨#[]⟩, line⟩ : Tok)]).length - 1 = acc.length by simp, getD_lst]
  rest := fun i hi => by
    have hi : i < acc.length := by simpa using hi
    rw [getD_app hi]
    exact (h.2 _ (getD_mem hi)).1
  num := fun i hi hk => by
    by_cases e : i < acc.length
    · rw [getD_app e] at hk ⊢
      exact (h.2 _ (getD_mem e)).2.1 hk
    · obtain rfl : i = acc.length := by simp at hi; omega
      rw [getD_lst] at hk
      cases hk
  sz := fun i hi => by
    by_cases e : i < acc.length
    · rw [getD_app e]
      exact (h.2 _ (getD_mem e)).2.2
    · obtain rfl : i = acc.length := by simp at hi; omega
      rw [getD_lst]
      exact Nat.zero_le _
theorem byI_ext {s : ByteArray} {k e : Nat} (h : k < e) (he : e ≤ s.size) : byI (s.extract k e) 0 = byI s k := by
  unfold byI
  have : (s.extract k e).data.getD 0 0 = s.data.getD k 0 := by
    rw [ByteArray.data_extract]
    have hk : k < s.data.size := Nat.lt_of_lt_of_le h he
    rw [Array.getD_eq_getD_getElem?, Array.getD_eq_getD_getElem?, Array.getElem?_extract_of_lt (by have : s.data.size = s.size := rfl; omega), Array.getElem?_eq_getElem hk]
    simp only [Nat.add_zero]
  rw [this]
theorem nxt_dg {s : ByteArray} {k : Nat} (h : (nxt s k).1 = 2) : isDg (byI s k) := by
  unfold nxt at h
  by_cases h1 : isLt (byI s k)
  · rw [if_pos h1] at h; cases h
  · rw [if_neg h1] at h
    by_cases h2 : isDg (byI s k)
    · exact h2
    · rw [if_neg h2] at h
      split at h
      · cases h
      · split at h <;> cases h
theorem lexG_ok {s : ByteArray} (hs : s.size ≤ 30000) {L : List Tok} : ∀ (n : Nat) (acc : List Tok) (k : Nat) (line : Int), s.size - k ≤ n → AccOk acc → lexG s acc k line = .ok L → LexOk L := by
  intro n
  induction n with
  | zero =>
    intro acc k line hn ha h
    rw [lexG, dif_neg (by omega)] at h
    cases h
    exact ha.lex
  | succ n ih =>
    intro acc k line hn ha h
    rw [lexG] at h
    by_cases hk : k < s.size
    · rw [dif_pos hk] at h
      split at h
      · cases h
      · rename_i h0
        split at h
        · cases h
        · rename_i h4
          have hr := nxt_rng hk h0
          refine ih _ _ _ ?_ ?_ h
          · have := skW_ge s _ (nxt s k).2 line (Nat.le_refl _)
            omega
          · refine ⟨by have := ha.1; simp; omega, fun t ht => ?_⟩
            rcases List.mem_append.1 ht with q | q
            · exact ha.2 t q
            · obtain rfl := List.mem_singleton.1 q
              refine ⟨hr.2.2, fun e => ?_, ?_⟩
              · dsimp only at e ⊢
                rw [byI_ext hr.1 hr.2.1]
                exact nxt_dg e
              · dsimp only
                rw [ByteArray.size_extract]
                omega
    · rw [dif_neg hk] at h
      cases h
      exact ha.lex
theorem lexF_ok {s : ByteArray} {L : List Tok} (h : lexF s = .ok L) : LexOk L := by
  unfold lexF at h
  split at h
  · cases h
  · exact lexG_ok (by omega) _ [] _ _ (Nat.le_refl _) ⟨Nat.zero_le _, by simp⟩ h
theorem lexG_err {s : ByteArray} {l c : Int} : ∀ (n : Nat) (acc : List Tok) (k : Nat) (line : Int), s.size - k ≤ n → lexG s acc k line = .err l c → c = 6 ∨ c = 4 := by
  intro n
  induction n with
  | zero =>
    intro acc k line hn h
    rw [lexG, dif_neg (by omega)] at h
    cases h
  | succ n ih =>
    intro acc k line hn h
    rw [lexG] at h
    by_cases hk : k < s.size
    · rw [dif_pos hk] at h
      split at h
      · cases h; exact .inl rfl
      · rename_i h0
        split at h
        · cases h; exact .inr rfl
        · have hr := nxt_rng hk h0
          refine ih _ _ _ ?_ h
          have := skW_ge s _ (nxt s k).2 line (Nat.le_refl _)
          omega
    · rw [dif_neg hk] at h
      cases h
theorem lexF_err {s : ByteArray} {l c : Int} (h : lexF s = .err l c) : c = 6 ∨ c = 4 := by
  unfold lexF at h
  split at h
  · cases h; exact .inr rfl
  · exact lexG_err _ _ _ _ (Nat.le_refl _) h
theorem spT_all {L : List Tok} (hL : LexOk L) : ∀ d : Nat, d ≤ 100 → SpT L d
  | 0, _ => ⟨fun a D ha hD => by
      obtain rfl : D = 0 := hD
      exact (term_0 L hL 0 a ha).mono fun r H ⟨x, a', h1, h2, h3⟩ => .inr ⟨rfl, x, a', h1, h2, h3⟩, fun a D ha _ => term_b L hL 0 a D ha⟩
  | d + 1, h => ⟨fun a D ha hD => term_f L hL d (by omega) (spT_all hL d (by omega)) a D ha (by omega), fun a D ha _ => term_b L hL (d + 1) a D ha⟩
def noT : Term := ⟨0, ⟨#[]⟩, [], []⟩
noncomputable def rdT (s : ByteArray) : Term × Int := match lexF s with
  | .err _ c => (noT, c)
  | .ok L => match pTerm L 4 0 with
    | none => (noT, 6)
    | some (x, i) => bif decide ((tkL L i).kind = 4) then (x, 0) else (noT, 6)
noncomputable def rtR (y : Term × Int) : AV := .tup [.agg (Term.pN 5 y.1), .i .i64 y.2]
end
section
def shG (f : Term → Int) (k : Int) : List Term → Int → Int
  | [], s => s
  | x :: xs, s => if (k = 14 ∨ k = 17) ∧ x.kind = 1 then shG f k xs (s + 1) else if f x < 0 ∨ 12000 < s then -1 else shG f k xs (s + f x)
def kLo (t : Term) : Int := if t.kind = 12 ∨ t.kind = 13 ∨ t.kind = 22 ∨ t.kind = 23 then 1 else if t.kind = 14 then 2 else if t.kind = 15 then 1 else if t.kind = 16 ∨ t.kind = 17 then t.labels.length else 0
def kHi (t : Term) : Int := if t.kind = 12 ∨ t.kind = 13 ∨ t.kind = 22 ∨ t.kind = 23 then 1 else if t.kind = 14 then 2 else if t.kind = 15 then 6 else if t.kind = 16 ∨ t.kind = 17 then t.labels.length else 0
structure ndB (t : Term) : Prop where
  l : t.labels.length ≤ 16
  k : t.kids.length ≤ 16
  n : t.name.size ≤ 12
  d : (1 ≤ t.kind ∧ t.kind ≤ 23) ∨ t.kind = 30
  lo : kLo t ≤ t.kids.length
  hi : t.kids.length ≤ kHi t
open Classical in
noncomputable def shp : Nat → Term → Int
  | 0, _ => -1
  | d + 1, t => if ndB t then shG (shp d) t.kind t.kids 1 else -1
theorem shG_app {f : Term → Int} {k : Int} : ∀ (a b : List Term) (s : Int), 0 ≤ shG f k a s → shG f k (a ++ b) s = shG f k b (shG f k a s)
  | [], b, s, h => rfl
  | x :: xs, b, s, h => by
    simp only [List.cons_append, shG] at h ⊢
    split
    · rename_i q
      rw [if_pos q] at h
      exact shG_app xs b _ h
    · rename_i q
      rw [if_neg q] at h
      split
      · rename_i q2
        rw [if_pos q2] at h
        omega
      · rename_i q2
        rw [if_neg q2] at h
        exact shG_app xs b _ h
def Term.mw (n : Nat) : Term → Nat := Nat.rec (motive := fun _ => Term → Nat) (fun _ => 0) (fun _ ih a => 2 + 2 * a.labels.length + (a.kids.map ih).sum) n
structure PtOk (L : List Tok) (d : Nat) (x : Term) (i j : Nat) : Prop where
  lt : i < j
  le : j < L.length
  o : Term.oN (d + 1) x
  s0 : 1 ≤ shp d x
  s1 : shp d x ≤ 3 * ((j : Int) - i)
  mw : (Term.mw (d + 1) x : Int) ≤ 6 * ((j : Int) - i)
structure AccT (d : Nat) (k : Int) (acc : List Term) (i j : Nat) (c : Int) (lc : Nat) : Prop where
  lt : i < j
  o : ∀ x ∈ acc, Term.oN (d + 1) x
  q1 : 1 ≤ shG (shp d) k acc 1
  q2 : shG (shp d) k acc 1 + c ≤ 3 * ((j : Int) - i)
  m : ((acc.map (Term.mw (d + 1))).sum : Int) + 2 * (lc : Int) + 2 + 2 * c ≤ 6 * ((j : Int) - i)
theorem AccT.nil {d : Nat} {k : Int} {i : Nat} : AccT d k [] i (i + 1) 2 0 := ⟨Nat.lt_succ_self _, fun x h => absurd h List.not_mem_nil, by simp [shG], by simp only [shG]; omega, by simp only [List.map_nil, List.sum_nil]; omega⟩
theorem AccT.tok {d : Nat} {k : Int} {acc : List Term} {i j j' : Nat} {c c' : Int} {lc : Nat} (h : AccT d k acc i j c lc) (hj : j ≤ j') (hc : c' ≤ c + 3 * ((j' : Int) - j)) : AccT d k acc i j' c' lc := ⟨Nat.lt_of_lt_of_le h.lt hj, h.o, h.q1, by have := h.q2; omega, by have := h.m; omega⟩
theorem AccT.lab {d : Nat} {k : Int} {acc : List Term} {i j : Nat} {c c' : Int} {lc : Nat} (h : AccT d k acc i j c lc) (hc : c' ≤ c - 1) : AccT d k acc i j c' (lc + 1) := ⟨h.lt, h.o, h.q1, by have := h.q2; omega, by have := h.m; omega⟩
theorem AccT.kid {L : List Tok} (hL : LexOk L) {d : Nat} {k : Int} {acc : List Term} {i j j' : Nat} {c : Int} {lc : Nat} {x : Term} (h : AccT d k acc i j c lc) (hc : 0 ≤ c) (hx : PtOk L d x j j') : AccT d k (acc ++ [x]) i j' c lc := by
  have h1 := h.q1; have h2 := h.q2; have h3 := hx.lt; have h4 := hx.le; have h5 := hL.most; have h6 := hx.s0; have h7 := hx.s1; have h8 := h.lt
  refine ⟨Nat.lt_trans h.lt hx.lt, fun y hy => ?_, ?_, ?_, by have := h.m; have := hx.mw; simp only [List.map_append, List.map_cons, List.map_nil, List.sum_append, List.sum_cons, List.sum_nil]; omega⟩
  · rcases List.mem_append.1 hy with q | q
    · exact h.o y q
    · rw [List.mem_singleton.1 q]; exact hx.o
  all_goals
    rw [shG_app _ _ _ (by omega)]
    simp only [shG]
    split
    · omega
    · rw [if_neg (by omega)]; omega
theorem unitM_o (d : Nat) : Term.oN (d + 1) unitM := ⟨Nat.zero_le _, ⟨Nat.zero_le _, fun k hk => absurd hk (Nat.not_lt_zero _)⟩, ⟨Nat.zero_le _, fun k hk => absurd hk (Nat.not_lt_zero _)⟩⟩
theorem AccT.unit {d : Nat} {k : Int} {acc : List Term} {i j : Nat} {c : Int} {lc : Nat} (h : AccT d k acc i j c lc) (hk : k = 14 ∨ k = 17) : AccT d k (acc ++ [unitM]) i j (c - 1) lc := by
  have h1 := h.q1; have h2 := h.q2
  have hu : Term.mw (d + 1) unitM = 2 := rfl
  refine ⟨h.lt, fun y hy => ?_, ?_, ?_, by have := h.m; simp only [List.map_append, List.map_cons, List.map_nil, List.sum_append, List.sum_cons, List.sum_nil, hu]; omega⟩
  · rcases List.mem_append.1 hy with q | q
    · exact h.o y q
    · rw [List.mem_singleton.1 q]; exact unitM_o d
  all_goals
    rw [shG_app _ _ _ (by omega)]
    simp only [shG]
    rw [if_pos ⟨hk, rfl⟩]
    omega
theorem pNeed_ok {L : List Tok} (hL : LexOk L) {t : ByteArray} {i j : Nat} (hi : i < L.length) (h : pNeed L t i = some j) : j = i + 1 ∧ j < L.length := by
  unfold pNeed at h
  split at h
  · rename_i q
    cases h
    exact ⟨rfl, hL.isT_lt hi q⟩
  · cases h
theorem pName_ok {L : List Tok} (hL : LexOk L) {w : ByteArray} {i j : Nat} (hi : i < L.length) (h : pName L i = some (w, j)) : j = i + 1 ∧ j < L.length ∧ w.size ≤ 12 := by
  unfold pName at h
  split at h
  · rename_i q
    cases h
    exact ⟨rfl, hL.lt hi (by rw [q.1]; decide), q.2.hi⟩
  · cases h
theorem pIdent_ok {L : List Tok} (hL : LexOk L) {w : ByteArray} {i j : Nat} (hi : i < L.length) (h : pIdent L i = some (w, j)) : j = i + 1 ∧ j < L.length ∧ w.size ≤ 12 := by
  unfold pIdent at h
  split at h
  · rename_i q
    cases h
    exact ⟨rfl, hL.lt hi (by rw [q.1]; decide), q.2.1.hi⟩
  · cases h
def PtAll (L : List Tok) (d : Nat) (P : Nat → Option (Term × Nat)) : Prop := ∀ i x j, i < L.length → P i = some (x, j) → PtOk L d x i j
theorem pList_ok {L : List Tok} (hL : LexOk L) {d : Nat} {P : Nat → Option (Term × Nat)} (hP : PtAll L d P) {k : Int} {i0 : Nat} : ∀ (m : Nat) (acc : List Term) (j : Nat) (ts : List Term) (j' : Nat), AccT d k acc i0 j 2 0 → j < L.length → acc.length + m = 5 → pList L P m acc j = some (ts, j') → AccT d k ts i0 j' 2 0 ∧ j' < L.length ∧ 1 ≤ ts.length ∧ ts.length ≤ 6
  | 0, acc, j, ts, j', h, hj, hl, e => by
    simp only [pList] at e
    cases hp : P j with
    | none => rw [hp] at e; cases e
    | some y =>
      obtain ⟨t, j1⟩ := y
      rw [hp] at e
      dsimp only at e
      have hx := hP _ _ _ hj hp
      split at e
      · rename_i q
        cases e
        refine ⟨(h.kid hL (by decide) hx).tok (Nat.le_succ _) (by omega), hL.isT_lt hx.le q, ?_, ?_⟩ <;> rw [List.length_append, List.length_singleton] <;> omega
      · cases e
  | m + 1, acc, j, ts, j', h, hj, hl, e => by
    simp only [pList] at e
    cases hp : P j with
    | none => rw [hp] at e; cases e
    | some y =>
      obtain ⟨t, j1⟩ := y
      rw [hp] at e
      dsimp only at e
      have hx := hP _ _ _ hj hp
      split at e
      · rename_i q
        cases e
        refine ⟨(h.kid hL (by decide) hx).tok (Nat.le_succ _) (by omega), hL.isT_lt hx.le q, ?_, ?_⟩ <;> rw [List.length_append, List.length_singleton] <;> omega
      · cases hn : pNeed L ⟨#[44]⟩ j1 with
        | none => rw [hn] at e; cases e
        | some j2 =>
          rw [hn] at e
          obtain ⟨e2, h2⟩ := pNeed_ok hL hx.le hn
          exact pList_ok hL hP m (acc ++ [t]) j2 ts j' ((h.kid hL (by decide) hx).tok (by omega) (by omega)) h2 (by rw [List.length_append, List.length_singleton]; omega) e
theorem pRes_ok {L : List Tok} (hL : LexOk L) {d : Nat} {P : Nat → Option (Term × Nat)} (hP : PtAll L d P) {i : Nat} {ts : List Term} {j' : Nat} (hi : i + 1 < L.length) (e : pRes L P (i + 1) = some (ts, j')) : AccT d 14 ts i j' 0 0 ∧ j' < L.length ∧ ts.length = 2 := by
  have h0 : AccT d 14 [] i (i + 1) 2 0 := .nil
  unfold pRes at e
  split at e
  · rename_i q
    have hq := hL.isT_lt hi q
    have h1 : AccT d 14 [] i (i + 1 + 1) 5 0 := h0.tok (by omega) (by omega)
    cases hp : pRes0 L P (i + 1 + 1) with
    | none => rw [hp] at e; cases e
    | some y =>
      obtain ⟨t0, j0⟩ := y
      rw [hp] at e
      dsimp only at e
      have hA : AccT d 14 [t0] i j0 5 0 ∧ j0 < L.length := by
        unfold pRes0 at hp
        split at hp
        · rename_i q2
          cases hp
          exact ⟨(h1.unit (.inl rfl)).tok (Nat.le_succ _) (by omega), hL.isT_lt hq q2⟩
        · have := hP _ _ _ hq hp
          exact ⟨h1.kid hL (by decide) this, this.le⟩
      cases hp1 : pRes1 L P j0 with
      | none => rw [hp1] at e; cases e
      | some y =>
        obtain ⟨t1, j1⟩ := y
        rw [hp1] at e
        dsimp only at e
        have hB : AccT d 14 [t0, t1] i j1 4 0 ∧ j1 < L.length := by
          unfold pRes1 at hp1
          split at hp1
          · rename_i q2
            have h3 := hL.isT_lt hA.2 q2
            have := hP _ _ _ h3 hp1
            exact ⟨((hA.1.tok (c' := 5) (Nat.le_succ _) (by omega)).kid hL (by decide) this).tok (Nat.le_refl _) (by omega), this.le⟩
          · cases hp1
            exact ⟨hA.1.unit (.inl rfl), hA.2⟩
        cases hn : pNeed L ⟨#[62]⟩ j1 with
        | none => rw [hn] at e; cases e
        | some j2 =>
          rw [hn] at e
          cases e
          obtain ⟨e2, h2⟩ := pNeed_ok hL hB.2 hn
          exact ⟨hB.1.tok (by omega) (by omega), h2, rfl⟩
  · cases e
    exact ⟨((h0.unit (.inl rfl)).unit (.inl rfl)).tok (Nat.le_refl _) (by omega), hi, rfl⟩
theorem pLab_ok {L : List Tok} (hL : LexOk L) {d : Nat} {P : Nat → Option (Term × Nat)} (hP : PtAll L d P) {k : Int} {acc ts : List Term} {i j j' lc : Nat} (h : AccT d k acc i j 4 lc) (hj : j < L.length) (e : pLab L P k j = some (ts, j')) : AccT d k (acc ++ ts) i j' 2 lc ∧ j' < L.length ∧ (k = 16 ∨ k = 17 → ts.length = 1) ∧ (¬ k = 16 ∧ ¬ k = 17 → ts = []) := by
  unfold pLab at e
  split at e
  · rename_i q
    cases hn : pNeed L ⟨#[58]⟩ j with
    | none => rw [hn] at e; cases e
    | some j1 =>
      rw [hn] at e
      dsimp only at e
      obtain ⟨e2, h2⟩ := pNeed_ok hL hj hn
      cases hp : P j1 with
      | none => rw [hp] at e; cases e
      | some y =>
        obtain ⟨t, j2⟩ := y
        rw [hp] at e
        cases e
        have hx := hP _ _ _ h2 hp
        exact ⟨((h.tok (c' := 5) (by omega) (by omega)).kid hL (by decide) hx).tok (Nat.le_refl _) (by omega), hx.le, fun _ => rfl, fun q2 => absurd q q2.1⟩
  · rename_i q
    split at e
    · rename_i q17
      split at e
      · rename_i qt
        have h3 := hL.isT_lt hj qt
        cases hp : P (j + 1) with
        | none => rw [hp] at e; cases e
        | some y =>
          obtain ⟨t, j2⟩ := y
          rw [hp] at e
          dsimp only at e
          have hx := hP _ _ _ h3 hp
          cases hn : pNeed L ⟨#[41]⟩ j2 with
          | none => rw [hn] at e; cases e
          | some j1 =>
            rw [hn] at e
            cases e
            obtain ⟨e2, h2⟩ := pNeed_ok hL hx.le hn
            exact ⟨((h.tok (c' := 5) (Nat.le_succ _) (by omega)).kid hL (by decide) hx).tok (by omega) (by omega), h2, fun _ => rfl, fun q2 => absurd q17 q2.2⟩
      · cases e
        exact ⟨(h.unit (.inr q17)).tok (Nat.le_refl _) (by omega), hj, fun _ => rfl, fun q2 => absurd q17 q2.2⟩
    · rename_i q17
      cases e
      rw [List.append_nil]
      exact ⟨h.tok (Nat.le_refl _) (by omega), hj, fun q2 => by rcases q2 with q2 | q2 <;> contradiction, fun _ => rfl⟩
structure LbsOk (k : Int) (ls : List ByteArray) (ts : List Term) : Prop where
  o : ∀ x ∈ ls, okS x
  e1 : k = 16 ∨ k = 17 → ts.length = ls.length
  e2 : ¬ k = 16 ∧ ¬ k = 17 → ts = []
theorem LbsOk.push {k : Int} {ls : List ByteArray} {ts T : List Term} {w : ByteArray} (h : LbsOk k ls ts) (hw : w.size ≤ 12) (h1 : k = 16 ∨ k = 17 → T.length = 1) (h2 : ¬ k = 16 ∧ ¬ k = 17 → T = []) : LbsOk k (ls ++ [w]) (ts ++ T) := ⟨fun x hx => by
  rcases List.mem_append.1 hx with q | q
  · exact h.o x q
  · rw [List.mem_singleton.1 q]; unfold okS; omega, fun q => by rw [List.length_append, List.length_append, h.e1 q, h1 q, List.length_singleton], fun q => by rw [h.e2 q, h2 q]; rfl⟩
theorem pLabs_ok {L : List Tok} (hL : LexOk L) {d : Nat} {P : Nat → Option (Term × Nat)} (hP : PtAll L d P) {k : Int} {i0 : Nat} : ∀ (m : Nat) (ls : List ByteArray) (acc : List Term) (j : Nat) (x : List ByteArray × List Term) (j' : Nat), AccT d k acc i0 j 2 ls.length → LbsOk k ls acc → j < L.length → ls.length + m = 15 → pLabs L P k m ls acc j = some (x, j') → AccT d k x.2 i0 j' 2 x.1.length ∧ LbsOk k x.1 x.2 ∧ j' < L.length ∧ x.1.length ≤ 16
  | m, ls, acc, j, x, j', h, hb, hj, hl, e => by
    have step : ∀ w j1 T j2, pName L j = some (w, j1) → pLab L P k j1 = some (T, j2) → AccT d k (acc ++ T) i0 j2 2 (ls ++ [w]).length ∧ LbsOk k (ls ++ [w]) (acc ++ T) ∧ j2 < L.length := fun w j1 T j2 hw hT => by
      obtain ⟨a1, a2, a3⟩ := pName_ok hL hj hw
      obtain ⟨b1, b2, b3, b4⟩ := pLab_ok hL hP ((h.tok (c' := 5) (by omega) (by omega)).lab (c' := 4) (by omega)) a2 hT
      exact ⟨by rw [List.length_append]; exact b1, hb.push a3 b3 b4, b2⟩
    cases m with
    | zero =>
      simp only [pLabs] at e
      cases hw : pName L j with
      | none => rw [hw] at e; cases e
      | some y =>
        obtain ⟨w, j1⟩ := y
        rw [hw] at e
        dsimp only at e
        cases hT : pLab L P k j1 with
        | none => rw [hT] at e; cases e
        | some y =>
          obtain ⟨T, j2⟩ := y
          rw [hT] at e
          dsimp only at e
          obtain ⟨s1, s2, s3⟩ := step w j1 T j2 hw hT
          split at e
          · rename_i q
            cases e
            exact ⟨s1.tok (Nat.le_succ _) (by omega), s2, hL.isT_lt s3 q, by rw [List.length_append, List.length_singleton]; omega⟩
          · cases e
    | succ m =>
      simp only [pLabs] at e
      cases hw : pName L j with
      | none => rw [hw] at e; cases e
      | some y =>
        obtain ⟨w, j1⟩ := y
        rw [hw] at e
        dsimp only at e
        cases hT : pLab L P k j1 with
        | none => rw [hT] at e; cases e
        | some y =>
          obtain ⟨T, j2⟩ := y
          rw [hT] at e
          dsimp only at e
          obtain ⟨s1, s2, s3⟩ := step w j1 T j2 hw hT
          split at e
          · rename_i q
            cases e
            exact ⟨s1.tok (Nat.le_succ _) (by omega), s2, hL.isT_lt s3 q, by rw [List.length_append, List.length_singleton]; omega⟩
          · cases hn : pNeed L ⟨#[44]⟩ j2 with
            | none => rw [hn] at e; cases e
            | some j3 =>
              rw [hn] at e
              obtain ⟨e2, h2⟩ := pNeed_ok hL s3 hn
              exact pLabs_ok hL hP m _ _ j3 x j' (s1.tok (by omega) (by omega)) s2 h2 (by rw [List.length_append, List.length_singleton]; omega) e
theorem okL_mem {α : Type} [Inhabited α] {p : α → Prop} {l : List α} (h : ∀ x ∈ l, p x) (hl : l.length ≤ 1048576) : okL p l := ⟨hl, fun k hk => h _ (by rw [List.getD_eq_getElem?_getD, List.getElem?_eq_getElem hk]; exact List.getElem_mem hk)⟩
theorem node_ok {L : List Tok} {d : Nat} {k : Int} {nm : ByteArray} {ls : List ByteArray} {ts : List Term} {i j : Nat} {c : Int} (h : AccT d k ts i j c ls.length) (hc : 0 ≤ c) (hj : j < L.length) (hn : ndB ⟨k, nm, ls, ts⟩) (hls : ∀ x ∈ ls, okS x) : PtOk L (d + 1) ⟨k, nm, ls, ts⟩ i j := by
  have e : shp (d + 1) ⟨k, nm, ls, ts⟩ = shG (shp d) k ts 1 := by simp only [shp]; rw [if_pos hn]
  have h1 := h.q1; have h2 := h.q2; have h3 := hn.l; have h4 := hn.k; have h5 := hn.n
  dsimp only at h3 h4 h5
  refine ⟨h.lt, hj, ⟨by unfold okS; dsimp only; omega, okL_mem hls (by dsimp only; omega), okL_mem h.o (by dsimp only; omega)⟩, by rw [e]; omega, by rw [e]; omega, ?_⟩
  have hm := h.m
  have em : Term.mw (d + 1 + 1) ⟨k, nm, ls, ts⟩ = 2 + 2 * ls.length + (ts.map (Term.mw (d + 1))).sum := rfl
  rw [em]
  omega
theorem pRest_ok {L : List Tok} (hL : LexOk L) {d : Nat} {P : Nat → Option (Term × Nat)} (hP : PtAll L d P) {k : Int} {i j : Nat} {x : Term} (hk : 1 ≤ k ∧ k ≤ 23) (hi : i + 1 < L.length) (e : pRest L P k (i + 1) = some (x, j)) : PtOk L (d + 1) x i j := by
  have h0 : AccT d k [] i (i + 1) 2 0 := .nil
  unfold pRest at e
  split at e
  · cases e
    exact node_ok (h0) (by decide) hi ⟨Nat.zero_le _, Nat.zero_le _, Nat.zero_le _, .inl hk, by (unfold kLo; dsimp only; simp only [List.length_nil]; repeat' split) <;> omega, by (unfold kHi; dsimp only; simp only [List.length_nil]; repeat' split) <;> omega⟩ (fun x h => absurd h List.not_mem_nil)
  · split at e
    · rename_i q
      cases hn : pNeed L ⟨#[60]⟩ (i + 1) with
      | none => rw [hn] at e; cases e
      | some j1 =>
        rw [hn] at e
        dsimp only at e
        obtain ⟨e1, h1⟩ := pNeed_ok hL hi hn
        cases hp : P j1 with
        | none => rw [hp] at e; cases e
        | some y =>
          obtain ⟨t, j2⟩ := y
          rw [hp] at e
          dsimp only at e
          have hx := hP _ _ _ h1 hp
          cases hn2 : pNeed L ⟨#[62]⟩ j2 with
          | none => rw [hn2] at e; cases e
          | some j3 =>
            rw [hn2] at e
            cases e
            obtain ⟨e3, h3⟩ := pNeed_ok hL hx.le hn2
            exact node_ok (((h0.tok (c' := 2) (by omega) (by omega)).kid hL (by decide) hx).tok (c' := 2) (by omega) (by omega)) (by decide) h3 ⟨Nat.zero_le _, by simp, Nat.zero_le _, .inl hk, by unfold kLo; dsimp only; rw [if_pos q]; simp, by unfold kHi; dsimp only; rw [if_pos q]; simp⟩ (fun x h => absurd h List.not_mem_nil)
    · split at e
      · rename_i q1 q2
        cases hp : pRes L P (i + 1) with
        | none => rw [hp] at e; cases e
        | some y =>
          obtain ⟨ts, j2⟩ := y
          rw [hp] at e
          cases e
          obtain ⟨a1, a2, a3⟩ := pRes_ok hL hP hi hp
          subst q2
          exact node_ok a1 (by decide) a2 ⟨Nat.zero_le _, by dsimp only; omega, Nat.zero_le _, .inl hk, by unfold kLo; dsimp only; rw [if_neg q1, if_pos rfl, a3]; decide, by unfold kHi; dsimp only; rw [if_neg q1, if_pos rfl, a3]; decide⟩ (fun x h => absurd h List.not_mem_nil)
      · split at e
        · rename_i q1 q2 q3
          cases hn : pNeed L ⟨#[60]⟩ (i + 1) with
          | none => rw [hn] at e; cases e
          | some j1 =>
            rw [hn] at e
            dsimp only at e
            obtain ⟨e1, h1⟩ := pNeed_ok hL hi hn
            cases hp : pList L P 5 [] j1 with
            | none => rw [hp] at e; cases e
            | some y =>
              obtain ⟨ts, j2⟩ := y
              rw [hp] at e
              cases e
              obtain ⟨a1, a2, a3, a4⟩ := pList_ok hL hP 5 [] j1 _ _ (h0.tok (by omega) (by omega)) h1 rfl hp
              exact node_ok (c := 2) a1 (by decide) a2 ⟨Nat.zero_le _, by dsimp only; omega, Nat.zero_le _, .inl hk, by unfold kLo; dsimp only; rw [if_neg q1, if_neg q2, if_pos q3]; omega, by unfold kHi; dsimp only; rw [if_neg q1, if_neg q2, if_pos q3]; omega⟩ (fun x h => absurd h List.not_mem_nil)
        · split at e
          · rename_i q0 q1 q2 q3 q4
            cases hn : pNeed L ⟨#[60]⟩ (i + 1) with
            | none => rw [hn] at e; cases e
            | some j1 =>
              rw [hn] at e
              dsimp only at e
              obtain ⟨e1, h1⟩ := pNeed_ok hL hi hn
              cases hp : pIdent L j1 with
              | none => rw [hp] at e; cases e
              | some y =>
                obtain ⟨w, j2⟩ := y
                rw [hp] at e
                dsimp only at e
                obtain ⟨b1, b2, b3⟩ := pIdent_ok hL h1 hp
                cases hn2 : pNeed L ⟨#[62]⟩ j2 with
                | none => rw [hn2] at e; cases e
                | some j3 =>
                  rw [hn2] at e
                  cases e
                  obtain ⟨e3, h3⟩ := pNeed_ok hL b2 hn2
                  exact node_ok (h0.tok (c' := 2) (by omega) (by omega)) (by decide) h3 ⟨Nat.zero_le _, Nat.zero_le _, b3, .inl hk, by (unfold kLo; dsimp only; simp only [List.length_nil]; repeat' split) <;> omega, by (unfold kHi; dsimp only; simp only [List.length_nil]; repeat' split) <;> omega⟩ (fun x h => absurd h List.not_mem_nil)
          · rename_i q0 q1 q2 q3 q4
            cases hn : pNeed L ⟨#[123]⟩ (i + 1) with
            | none => rw [hn] at e; cases e
            | some j1 =>
              rw [hn] at e
              dsimp only at e
              obtain ⟨e1, h1⟩ := pNeed_ok hL hi hn
              cases hp : pLabs L P k 15 [] [] j1 with
              | none => rw [hp] at e; cases e
              | some y =>
                obtain ⟨y, j2⟩ := y
                rw [hp] at e
                cases e
                obtain ⟨a1, a2, a3, a4⟩ := pLabs_ok hL hP 15 [] [] j1 _ _ (h0.tok (by omega) (by omega)) ⟨fun x h => absurd h List.not_mem_nil, fun _ => rfl, fun _ => rfl⟩ h1 rfl hp
                have hlen : (k = 16 ∨ k = 17) ∧ y.2.length = y.1.length ∨ (k = 18 ∨ k = 19) ∧ y.2.length = 0 := by
                  by_cases q : k = 16 ∨ k = 17
                  · exact .inl ⟨q, a2.e1 q⟩
                  · exact .inr ⟨by omega, by rw [a2.e2 (by omega)]; rfl⟩
                refine node_ok (c := 2) a1 (by decide) a3 ⟨a4, by dsimp only; omega, Nat.zero_le _, .inl hk, ?_, ?_⟩ a2.o
                · unfold kLo; dsimp only; rw [if_neg q1, if_neg q2, if_neg q3]; split <;> omega
                · unfold kHi; dsimp only; rw [if_neg q1, if_neg q2, if_neg q3]; split <;> omega
theorem pTerm_ok {L : List Tok} (hL : LexOk L) : ∀ d, PtAll L d (pTerm L d)
  | 0, i, x, j, hi, e => by simp [pTerm] at e
  | d + 1, i, x, j, hi, e => by
    simp only [pTerm] at e
    cases hw : pName L i with
    | none => rw [hw] at e; cases e
    | some y =>
      obtain ⟨w, j1⟩ := y
      rw [hw] at e
      dsimp only at e
      obtain ⟨a1, a2, a3⟩ := pName_ok hL hi hw
      subst a1
      split at e
      · cases e
        exact node_ok (AccT.nil (d := d)) (by decide) a2 ⟨Nat.zero_le _, Nat.zero_le _, a3, .inr rfl, by (unfold kLo; dsimp only; simp), by (unfold kHi; dsimp only; simp)⟩ (fun x h => absurd h List.not_mem_nil)
      · rename_i q
        have := kd_rng w
        exact pRest_ok hL (pTerm_ok hL d) (by omega) a2 e
theorem noT_o : Term.oN 5 noT := ⟨Nat.zero_le _, ⟨Nat.zero_le _, fun k hk => absurd hk (Nat.not_lt_zero _)⟩, ⟨Nat.zero_le _, fun k hk => absurd hk (Nat.not_lt_zero _)⟩⟩
theorem rdT_ok (s : ByteArray) : Term.oN 5 (rdT s).1 ∧ Term.mw 5 (rdT s).1 ≤ 30000 ∧ ((rdT s).2 = 0 → 1 ≤ shp 4 (rdT s).1) := by
  unfold rdT
  cases hx : lexF s with
  | err l c =>
    refine ⟨noT_o, (by show 2 ≤ 30000; decide), fun h => ?_⟩
    have := lexF_err hx
    dsimp only at h
    omega
  | ok L =>
    have hL := lexF_ok hx
    dsimp only
    cases hp : pTerm L 4 0 with
    | none => exact ⟨noT_o, (by show 2 ≤ 30000; decide), fun h => by cases h⟩
    | some y =>
      obtain ⟨x, j⟩ := y
      have h := pTerm_ok hL 4 _ _ _ hL.pos hp
      dsimp only
      by_cases q : (tkL L j).kind = 4
      · rw [decide_eq_true q]
        exact ⟨h.o, (by have h1 : (Term.mw 5 x : Int) ≤ 6 * ((j : Int) - (0 : Nat)) := h.mw; have h2 := h.le; have h3 := hL.most; show Term.mw 5 x ≤ 30000; omega), fun _ => h.s0⟩
      · rw [decide_eq_false q]
        exact ⟨noT_o, (by show 2 ≤ 30000; decide), fun h => by cases h⟩
end
section
open Go Go.Shelf
def lays156_ren : Go.Shelf.Ren := ⟨fun | 156 => 84 | 165 => 102 | 166 => 103 | 169 => 104 | 240 => 109 | 241 => 110 | 276 => 112 | 277 => 113 | n => n, fun | 31 => 22 | 9 => 9 | 3 => 3 | 4 => 4 | 0 => 0 | 20 => 20 | 72 => 107 | 76 => 111 | 70 => 105 | 37 => 95 | 75 => 110 | 127 => 114 | 164 => 115 | 5 => 5 | 80 => 67 | n => n, fun | n => n⟩
theorem lays156 : Lays.n156 Try.prog lays156_ren := {
  mixed := by kernel_rfl,
  f156 := Try.func84.trans (congrArg some (by kernel_rfl)),
  f165 := Try.func102.trans (congrArg some (by kernel_rfl)),
  f166 := Try.func103.trans (congrArg some (by kernel_rfl)),
  f169 := Try.func104.trans (congrArg some (by kernel_rfl)),
  f240 := Try.func109.trans (congrArg some (by kernel_rfl)),
  f241 := Try.func110.trans (congrArg some (by kernel_rfl)),
  f276 := Try.func112.trans (congrArg some (by kernel_rfl)),
  f277 := Try.func113.trans (congrArg some (by kernel_rfl)),
  t0 := Try.underlying0,
  a0 := Try.isAgg0,
  z0 := Try.sizeOf0,
  v0 := Try.zeroValue0,
  t3 := Try.underlying3,
  a3 := Try.isAgg3,
  z3 := Try.sizeOf3,
  v3 := Try.zeroValue3,
  t4 := Try.underlying4,
  a4 := Try.isAgg4,
  z4 := Try.sizeOf4,
  v4 := Try.zeroValue4,
  t9 := Try.underlying9,
  a9 := Try.isAgg9,
  z9 := Try.sizeOf9,
  v9 := Try.zeroValue9,
  t20 := Try.underlying20,
  a20 := Try.isAgg20,
  z20 := Try.sizeOf20,
  v20 := Try.zeroValue20,
  t31 := Try.underlying22,
  a31 := Try.isAgg22,
  z31 := Try.sizeOf22,
  v31 := Try.zeroValue22,
  t37 := Try.underlying95,
  a37 := Try.isAgg95,
  z37 := Try.sizeOf95,
  v37 := Try.zeroValue95,
  t70 := Try.underlying105,
  a70 := Try.isAgg105,
  z70 := Try.sizeOf105,
  v70 := Try.zeroValue105,
  t72 := Try.underlying107,
  a72 := Try.isAgg107,
  z72 := Try.sizeOf107,
  v72 := Try.zeroValue107,
  t75 := Try.underlying110,
  a75 := Try.isAgg110,
  z75 := Try.sizeOf110,
  v75 := Try.zeroValue110,
  t76 := Try.underlying111,
  a76 := Try.isAgg111,
  z76 := Try.sizeOf111,
  v76 := Try.zeroValue111,
  t127 := Try.underlying114,
  a127 := Try.isAgg114,
  z127 := Try.sizeOf114,
  v127 := Try.zeroValue114,
  t164 := Try.underlying115,
  a164 := Try.isAgg115,
  z164 := Try.sizeOf115,
  v164 := Try.zeroValue115 }
end
section
open Go Go.RowKit Go.Shelf
theorem jn_extra : Builder.Extra Try.prog lays156_ren where
  sizeBuilder := by kernel_rfl
  liesBuilder := by kernel_rfl
  t5 := Try.underlying5
  a5 := Try.isAgg5
  z5 := Try.sizeOf5
  v5 := Try.zeroValue5
  infoByte := by kernel_rfl
  cellsByte := by kernel_rfl
  sizeByte := by kernel_rfl
  neB5 := by decide
def joinB (sep : ByteArray) : List ByteArray → ByteArray
  | [] => ByteArray.empty
  | [x] => x
  | x :: y :: r => x ++ sep ++ joinB sep (y :: r)
theorem joinB_lib (sep : ByteArray) : ∀ l : List ByteArray, (⟨(Lib.join (l.map (·.data.toList)) sep.data.toList).toArray⟩ : ByteArray) = joinB sep l
  | [] => rfl
  | [x] => by
    apply ByteArray.ext
    simp [joinB, Lib.join_one]
  | x :: y :: r => by
    have ih := joinB_lib sep (y :: r)
    have e : Lib.join ((x :: y :: r).map (·.data.toList)) sep.data.toList = x.data.toList ++ sep.data.toList ++ Lib.join ((y :: r).map (·.data.toList)) sep.data.toList := by
      simp [Lib.join]
    rw [e]
    apply ByteArray.ext
    rw [joinB, ← ih]
    simp
theorem joinB_len (sep : ByteArray) (l : List ByteArray) : (Lib.join (l.map (·.data.toList)) sep.data.toList).length = (joinB sep l).size := by
  rw [← joinB_lib]
  rfl
theorem joinI_ok (l : List ByteArray) (sep : ByteArray) (hl : (joinB sep l).size ≤ 140737488355328) (hn : l.length ≤ 140737488355328) : Ret env.P 84 [slL 1 strC l, .s sep] (fun r => r = .s (joinB sep l)) := .mk fun w S us hS hc => by
  obtain ⟨u, v, rfl, h1, h2⟩ := concL_2 hc
  obtain ⟨rfl, hs⟩ := inv_s h2
  have hm : (140737488355328 : Nat) ≤ maxLen := by decide
  rcases Nat.eq_zero_or_pos l.length with h0 | h0
  · obtain ⟨a, cap, rfl, _, _⟩ := sl_form h1
    have e : l = [] := List.eq_nil_of_length_eq_zero h0
    subst e
    exact (Any.strings_Join_none lays156 jn_extra a cap sep w).mono fun e w' ⟨he, hw⟩ => ⟨_, _, he, rfl, .s (Nat.zero_le _), hw ▸ Below.refl _ _⟩
  · obtain ⟨b, o, cap, U, rfl, hb, hn1, hn2, hcl, hu, _⟩ := inv_sl h1 h0
    refine (Any.strings_Join lays156 jn_extra b o cap l sep w (fun j x hj => ?_) (hS.lt b hb) hn hn1 (by rw [joinB_len]; exact hl)).mono fun e w' ⟨he, hw⟩ => ⟨_, _, he, rfl, ?_, hw⟩
    · have hlt := (List.getElem?_eq_some_iff.1 hj).1
      have := hcl j 0 hlt (by decide)
      rw [Nat.mul_one, Nat.add_zero] at this
      rw [this]
      have h3 := hu j 0 hlt (by decide)
      have e : (strC (l.getD j default)).getD 0 .any = .s x := by
        show AV.s (l.getD j default) = .s x
        rw [List.getD_eq_getElem?_getD, hj]
        rfl
      rw [e] at h3
      rw [(inv_s h3).1]
    · rw [joinB_lib]
      exact .s (Nat.le_trans hl hm)
end
end Go.Proofs.Ytllcemegnggpfaa
