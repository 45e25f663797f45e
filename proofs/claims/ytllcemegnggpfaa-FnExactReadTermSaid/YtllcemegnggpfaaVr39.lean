/- Texts for VReadTermP. -/
import Derived.Test.YtllcemegnggpfaaVr32
namespace Go.Proofs.Ytllcemegnggpfaa
open Go Go.RowKit
set_option linter.unusedVariables false
set_option linter.unusedSimpArgs false
section
def shG (f : Term → Int) (k : Int) : List Term → Int → Int
  | [], s => s
  | x :: xs, s => if (k = 14 ∨ k = 17) ∧ x.kind = 1 then shG f k xs (s + 1) else if f x < 0 ∨ 12000 < s then -1 else shG f k xs (s + f x)
def kLo (t : Term) : Int := if t.kind = 12 ∨ t.kind = 13 ∨ t.kind = 22 ∨ t.kind = 23 then 1 else if t.kind = 14 then 2 else if t.kind = 15 then 1 else if t.kind = 16 ∨ t.kind = 17 then t.labels.length else 0
def kHi (t : Term) : Int := if t.kind = 12 ∨ t.kind = 13 ∨ t.kind = 22 ∨ t.kind = 23 then 1 else if t.kind = 14 then 2 else if t.kind = 15 then 6 else if t.kind = 16 ∨ t.kind = 17 then t.labels.length else 0
structure ndB (t : Term) : Prop where
  l : t.labels.length ≤ 16
  k : t.kids.length ≤ 16
  n : t.name.size ≤ 12
  d : (1 ≤ t.kind ∧ t.kind ≤ 23) ∨ t.kind = 30
  lo : kLo t ≤ t.kids.length
  hi : t.kids.length ≤ kHi t
open Classical in
noncomputable def shp : Nat → Term → Int
  | 0, _ => -1
  | d + 1, t => if ndB t then shG (shp d) t.kind t.kids 1 else -1
theorem shG_app {f : Term → Int} {k : Int} : ∀ (a b : List Term) (s : Int), 0 ≤ shG f k a s → shG f k (a ++ b) s = shG f k b (shG f k a s)
  | [], b, s, h => rfl
  | x :: xs, b, s, h => by
    simp only [List.cons_append, shG] at h ⊢
    split
    · rename_i q
      rw [if_pos q] at h
      exact shG_app xs b _ h
    · rename_i q
      rw [if_neg q] at h
      split
      · rename_i q2
        rw [if_pos q2] at h
        omega
      · rename_i q2
        rw [if_neg q2] at h
        exact shG_app xs b _ h
def Term.mw (n : Nat) : Term → Nat := Nat.rec (motive := fun _ => Term → Nat) (fun _ => 0) (fun _ ih a => 2 + 2 * a.labels.length + (a.kids.map ih).sum) n
structure PtOk (L : List Tok) (d : Nat) (x : Term) (i j : Nat) : Prop where
  lt : i < j
  le : j < L.length
  o : Term.oN (d + 1) x
  s0 : 1 ≤ shp d x
  s1 : shp d x ≤ 3 * ((j : Int) - i)
  mw : (Term.mw (d + 1) x : Int) ≤ 6 * ((j : Int) - i)
structure AccT (d : Nat) (k : Int) (acc : List Term) (i j : Nat) (c : Int) (lc : Nat) : Prop where
  lt : i < j
  o : ∀ x ∈ acc, Term.oN (d + 1) x
  q1 : 1 ≤ shG (shp d) k acc 1
  q2 : shG (shp d) k acc 1 + c ≤ 3 * ((j : Int) - i)
  m : ((acc.map (Term.mw (d + 1))).sum : Int) + 2 * (lc : Int) + 2 + 2 * c ≤ 6 * ((j : Int) - i)
theorem AccT.nil {d : Nat} {k : Int} {i : Nat} : AccT d k [] i (i + 1) 2 0 := ⟨Nat.lt_succ_self _, fun x h => absurd h List.not_mem_nil, by simp [shG], by simp only [shG]; omega, by simp only [List.map_nil, List.sum_nil]; omega⟩
theorem AccT.tok {d : Nat} {k : Int} {acc : List Term} {i j j' : Nat} {c c' : Int} {lc : Nat} (h : AccT d k acc i j c lc) (hj : j ≤ j') (hc : c' ≤ c + 3 * ((j' : Int) - j)) : AccT d k acc i j' c' lc := ⟨Nat.lt_of_lt_of_le h.lt hj, h.o, h.q1, by have := h.q2; omega, by have := h.m; omega⟩
theorem AccT.lab {d : Nat} {k : Int} {acc : List Term} {i j : Nat} {c c' : Int} {lc : Nat} (h : AccT d k acc i j c lc) (hc : c' ≤ c - 1) : AccT d k acc i j c' (lc + 1) := ⟨h.lt, h.o, h.q1, by have := h.q2; omega, by have := h.m; omega⟩
theorem AccT.kid {L : List Tok} (hL : LexOk L) {d : Nat} {k : Int} {acc : List Term} {i j j' : Nat} {c : Int} {lc : Nat} {x : Term} (h : AccT d k acc i j c lc) (hc : 0 ≤ c) (hx : PtOk L d x j j') : AccT d k (acc ++ [x]) i j' c lc := by
  have h1 := h.q1; have h2 := h.q2; have h3 := hx.lt; have h4 := hx.le; have h5 := hL.most; have h6 := hx.s0; have h7 := hx.s1; have h8 := h.lt
  refine ⟨Nat.lt_trans h.lt hx.lt, fun y hy => ?_, ?_, ?_, by have := h.m; have := hx.mw; simp only [List.map_append, List.map_cons, List.map_nil, List.sum_append, List.sum_cons, List.sum_nil]; omega⟩
  · rcases List.mem_append.1 hy with q | q
    · exact h.o y q
    · rw [List.mem_singleton.1 q]; exact hx.o
  all_goals
    rw [shG_app _ _ _ (by omega)]
    simp only [shG]
    split
    · omega
    · rw [if_neg (by omega)]; omega
theorem unitM_o (d : Nat) : Term.oN (d + 1) unitM := ⟨Nat.zero_le _, ⟨Nat.zero_le _, fun k hk => absurd hk (Nat.not_lt_zero _)⟩, ⟨Nat.zero_le _, fun k hk => absurd hk (Nat.not_lt_zero _)⟩⟩
theorem AccT.unit {d : Nat} {k : Int} {acc : List Term} {i j : Nat} {c : Int} {lc : Nat} (h : AccT d k acc i j c lc) (hk : k = 14 ∨ k = 17) : AccT d k (acc ++ [unitM]) i j (c - 1) lc := by
  have h1 := h.q1; have h2 := h.q2
  have hu : Term.mw (d + 1) unitM = 2 := rfl
  refine ⟨h.lt, fun y hy => ?_, ?_, ?_, by have := h.m; simp only [List.map_append, List.map_cons, List.map_nil, List.sum_append, List.sum_cons, List.sum_nil, hu]; omega⟩
  · rcases List.mem_append.1 hy with q | q
    · exact h.o y q
    · rw [List.mem_singleton.1 q]; exact unitM_o d
  all_goals
    rw [shG_app _ _ _ (by omega)]
    simp only [shG]
    rw [if_pos ⟨hk, rfl⟩]
    omega
theorem pNeed_ok {L : List Tok} (hL : LexOk L) {t : ByteArray} {i j : Nat} (hi : i < L.length) (h : pNeed L t i = some j) : j = i + 1 ∧ j < L.length := by
  unfold pNeed at h
  split at h
  · rename_i q
    cases h
    exact ⟨rfl, hL.isT_lt hi q⟩
  · cases h
theorem pName_ok {L : List Tok} (hL : LexOk L) {w : ByteArray} {i j : Nat} (hi : i < L.length) (h : pName L i = some (w, j)) : j = i + 1 ∧ j < L.length ∧ w.size ≤ 12 := by
  unfold pName at h
  split at h
  · rename_i q
    cases h
    exact ⟨rfl, hL.lt hi (by rw [q.1]; decide), q.2.hi⟩
  · cases h
theorem pIdent_ok {L : List Tok} (hL : LexOk L) {w : ByteArray} {i j : Nat} (hi : i < L.length) (h : pIdent L i = some (w, j)) : j = i + 1 ∧ j < L.length ∧ w.size ≤ 12 := by
  unfold pIdent at h
  split at h
  · rename_i q
    cases h
    exact ⟨rfl, hL.lt hi (by rw [q.1]; decide), q.2.1.hi⟩
  · cases h
def PtAll (L : List Tok) (d : Nat) (P : Nat → Option (Term × Nat)) : Prop := ∀ i x j, i < L.length → P i = some (x, j) → PtOk L d x i j
theorem pList_ok {L : List Tok} (hL : LexOk L) {d : Nat} {P : Nat → Option (Term × Nat)} (hP : PtAll L d P) {k : Int} {i0 : Nat} : ∀ (m : Nat) (acc : List Term) (j : Nat) (ts : List Term) (j' : Nat), AccT d k acc i0 j 2 0 → j < L.length → acc.length + m = 5 → pList L P m acc j = some (ts, j') → AccT d k ts i0 j' 2 0 ∧ j' < L.length ∧ 1 ≤ ts.length ∧ ts.length ≤ 6
  | 0, acc, j, ts, j', h, hj, hl, e => by
    simp only [pList] at e
    cases hp : P j with
    | none => rw [hp] at e; cases e
    | some y =>
      obtain ⟨t, j1⟩ := y
      rw [hp] at e
      dsimp only at e
      have hx := hP _ _ _ hj hp
      split at e
      · rename_i q
        cases e
        refine ⟨(h.kid hL (by decide) hx).tok (Nat.le_succ _) (by omega), hL.isT_lt hx.le q, ?_, ?_⟩ <;> rw [List.length_append, List.length_singleton] <;> omega
      · cases e
  | m + 1, acc, j, ts, j', h, hj, hl, e => by
    simp only [pList] at e
    cases hp : P j with
    | none => rw [hp] at e; cases e
    | some y =>
      obtain ⟨t, j1⟩ := y
      rw [hp] at e
      dsimp only at e
      have hx := hP _ _ _ hj hp
      split at e
      · rename_i q
        cases e
        refine ⟨(h.kid hL (by decide) hx).tok (Nat.le_succ _) (by omega), hL.isT_lt hx.le q, ?_, ?_⟩ <;> rw [List.length_append, List.length_singleton] <;> omega
      · cases hn : pNeed L ⟨#[44]⟩ j1 with
        | none => rw [hn] at e; cases e
        | some j2 =>
          rw [hn] at e
          obtain ⟨e2, h2⟩ := pNeed_ok hL hx.le hn
          exact pList_ok hL hP m (acc ++ [t]) j2 ts j' ((h.kid hL (by decide) hx).tok (by omega) (by omega)) h2 (by rw [List.length_append, List.length_singleton]; omega) e
theorem pRes_ok {L : List Tok} (hL : LexOk L) {d : Nat} {P : Nat → Option (Term × Nat)} (hP : PtAll L d P) {i : Nat} {ts : List Term} {j' : Nat} (hi : i + 1 < L.length) (e : pRes L P (i + 1) = some (ts, j')) : AccT d 14 ts i j' 0 0 ∧ j' < L.length ∧ ts.length = 2 := by
  have h0 : AccT d 14 [] i (i + 1) 2 0 := .nil
  unfold pRes at e
  split at e
  · rename_i q
    have hq := hL.isT_lt hi q
    have h1 : AccT d 14 [] i (i + 1 + 1) 5 0 := h0.tok (by omega) (by omega)
    cases hp : pRes0 L P (i + 1 + 1) with
    | none => rw [hp] at e; cases e
    | some y =>
      obtain ⟨t0, j0⟩ := y
      rw [hp] at e
      dsimp only at e
      have hA : AccT d 14 [t0] i j0 5 0 ∧ j0 < L.length := by
        unfold pRes0 at hp
        split at hp
        · rename_i q2
          cases hp
          exact ⟨(h1.unit (.inl rfl)).tok (Nat.le_succ _) (by omega), hL.isT_lt hq q2⟩
        · have := hP _ _ _ hq hp
          exact ⟨h1.kid hL (by decide) this, this.le⟩
      cases hp1 : pRes1 L P j0 with
      | none => rw [hp1] at e; cases e
      | some y =>
        obtain ⟨t1, j1⟩ := y
        rw [hp1] at e
        dsimp only at e
        have hB : AccT d 14 [t0, t1] i j1 4 0 ∧ j1 < L.length := by
          unfold pRes1 at hp1
          split at hp1
          · rename_i q2
            have h3 := hL.isT_lt hA.2 q2
            have := hP _ _ _ h3 hp1
            exact ⟨((hA.1.tok (c' := 5) (Nat.le_succ _) (by omega)).kid hL (by decide) this).tok (Nat.le_refl _) (by omega), this.le⟩
          · cases hp1
            exact ⟨hA.1.unit (.inl rfl), hA.2⟩
        cases hn : pNeed L ⟨#[62]⟩ j1 with
        | none => rw [hn] at e; cases e
        | some j2 =>
          rw [hn] at e
          cases e
          obtain ⟨e2, h2⟩ := pNeed_ok hL hB.2 hn
          exact ⟨hB.1.tok (by omega) (by omega), h2, rfl⟩
  · cases e
    exact ⟨((h0.unit (.inl rfl)).unit (.inl rfl)).tok (Nat.le_refl _) (by omega), hi, rfl⟩
theorem pLab_ok {L : List Tok} (hL : LexOk L) {d : Nat} {P : Nat → Option (Term × Nat)} (hP : PtAll L d P) {k : Int} {acc ts : List Term} {i j j' lc : Nat} (h : AccT d k acc i j 4 lc) (hj : j < L.length) (e : pLab L P k j = some (ts, j')) : AccT d k (acc ++ ts) i j' 2 lc ∧ j' < L.length ∧ (k = 16 ∨ k = 17 → ts.length = 1) ∧ (¬ k = 16 ∧ ¬ k = 17 → ts = []) := by
  unfold pLab at e
  split at e
  · rename_i q
    cases hn : pNeed L ⟨#[58]⟩ j with
    | none => rw [hn] at e; cases e
    | some j1 =>
      rw [hn] at e
      dsimp only at e
      obtain ⟨e2, h2⟩ := pNeed_ok hL hj hn
      cases hp : P j1 with
      | none => rw [hp] at e; cases e
      | some y =>
        obtain ⟨t, j2⟩ := y
        rw [hp] at e
        cases e
        have hx := hP _ _ _ h2 hp
        exact ⟨((h.tok (c' := 5) (by omega) (by omega)).kid hL (by decide) hx).tok (Nat.le_refl _) (by omega), hx.le, fun _ => rfl, fun q2 => absurd q q2.1⟩
  · rename_i q
    split at e
    · rename_i q17
      split at e
      · rename_i qt
        have h3 := hL.isT_lt hj qt
        cases hp : P (j + 1) with
        | none => rw [hp] at e; cases e
        | some y =>
          obtain ⟨t, j2⟩ := y
          rw [hp] at e
          dsimp only at e
          have hx := hP _ _ _ h3 hp
          cases hn : pNeed L ⟨#[41]⟩ j2 with
          | none => rw [hn] at e; cases e
          | some j1 =>
            rw [hn] at e
            cases e
            obtain ⟨e2, h2⟩ := pNeed_ok hL hx.le hn
            exact ⟨((h.tok (c' := 5) (Nat.le_succ _) (by omega)).kid hL (by decide) hx).tok (by omega) (by omega), h2, fun _ => rfl, fun q2 => absurd q17 q2.2⟩
      · cases e
        exact ⟨(h.unit (.inr q17)).tok (Nat.le_refl _) (by omega), hj, fun _ => rfl, fun q2 => absurd q17 q2.2⟩
    · rename_i q17
      cases e
      rw [List.append_nil]
      exact ⟨h.tok (Nat.le_refl _) (by omega), hj, fun q2 => by rcases q2 with q2 | q2 <;> contradiction, fun _ => rfl⟩
structure LbsOk (k : Int) (ls : List ByteArray) (ts : List Term) : Prop where
  o : ∀ x ∈ ls, okS x
  e1 : k = 16 ∨ k = 17 → ts.length = ls.length
  e2 : ¬ k = 16 ∧ ¬ k = 17 → ts = []
theorem LbsOk.push {k : Int} {ls : List ByteArray} {ts T : List Term} {w : ByteArray} (h : LbsOk k ls ts) (hw : w.size ≤ 12) (h1 : k = 16 ∨ k = 17 → T.length = 1) (h2 : ¬ k = 16 ∧ ¬ k = 17 → T = []) : LbsOk k (ls ++ [w]) (ts ++ T) := ⟨fun x hx => by
  rcases List.mem_append.1 hx with q | q
  · exact h.o x q
  · rw [List.mem_singleton.1 q]; unfold okS; omega, fun q => by rw [List.length_append, List.length_append, h.e1 q, h1 q, List.length_singleton], fun q => by rw [h.e2 q, h2 q]; rfl⟩
theorem pLabs_ok {L : List Tok} (hL : LexOk L) {d : Nat} {P : Nat → Option (Term × Nat)} (hP : PtAll L d P) {k : Int} {i0 : Nat} : ∀ (m : Nat) (ls : List ByteArray) (acc : List Term) (j : Nat) (x : List ByteArray × List Term) (j' : Nat), AccT d k acc i0 j 2 ls.length → LbsOk k ls acc → j < L.length → ls.length + m = 15 → pLabs L P k m ls acc j = some (x, j') → AccT d k x.2 i0 j' 2 x.1.length ∧ LbsOk k x.1 x.2 ∧ j' < L.length ∧ x.1.length ≤ 16
  | m, ls, acc, j, x, j', h, hb, hj, hl, e => by
    have step : ∀ w j1 T j2, pName L j = some (w, j1) → pLab L P k j1 = some (T, j2) → AccT d k (acc ++ T) i0 j2 2 (ls ++ [w]).length ∧ LbsOk k (ls ++ [w]) (acc ++ T) ∧ j2 < L.length := fun w j1 T j2 hw hT => by
      obtain ⟨a1, a2, a3⟩ := pName_ok hL hj hw
      obtain ⟨b1, b2, b3, b4⟩ := pLab_ok hL hP ((h.tok (c' := 5) (by omega) (by omega)).lab (c' := 4) (by omega)) a2 hT
      exact ⟨by rw [List.length_append]; exact b1, hb.push a3 b3 b4, b2⟩
    cases m with
    | zero =>
      simp only [pLabs] at e
      cases hw : pName L j with
      | none => rw [hw] at e; cases e
      | some y =>
        obtain ⟨w, j1⟩ := y
        rw [hw] at e
        dsimp only at e
        cases hT : pLab L P k j1 with
        | none => rw [hT] at e; cases e
        | some y =>
          obtain ⟨T, j2⟩ := y
          rw [hT] at e
          dsimp only at e
          obtain ⟨s1, s2, s3⟩ := step w j1 T j2 hw hT
          split at e
          · rename_i q
            cases e
            exact ⟨s1.tok (Nat.le_succ _) (by omega), s2, hL.isT_lt s3 q, by rw [List.length_append, List.length_singleton]; omega⟩
          · cases e
    | succ m =>
      simp only [pLabs] at e
      cases hw : pName L j with
      | none => rw [hw] at e; cases e
      | some y =>
        obtain ⟨w, j1⟩ := y
        rw [hw] at e
        dsimp only at e
        cases hT : pLab L P k j1 with
        | none => rw [hT] at e; cases e
        | some y =>
          obtain ⟨T, j2⟩ := y
          rw [hT] at e
          dsimp only at e
          obtain ⟨s1, s2, s3⟩ := step w j1 T j2 hw hT
          split at e
          · rename_i q
            cases e
            exact ⟨s1.tok (Nat.le_succ _) (by omega), s2, hL.isT_lt s3 q, by rw [List.length_append, List.length_singleton]; omega⟩
          · cases hn : pNeed L ⟨#[44]⟩ j2 with
            | none => rw [hn] at e; cases e
            | some j3 =>
              rw [hn] at e
              obtain ⟨e2, h2⟩ := pNeed_ok hL s3 hn
              exact pLabs_ok hL hP m _ _ j3 x j' (s1.tok (by omega) (by omega)) s2 h2 (by rw [List.length_append, List.length_singleton]; omega) e
theorem okL_mem {α : Type} [Inhabited α] {p : α → Prop} {l : List α} (h : ∀ x ∈ l, p x) (hl : l.length ≤ 1048576) : okL p l := ⟨hl, fun k hk => h _ (by rw [List.getD_eq_getElem?_getD, List.getElem?_eq_getElem hk]; exact List.getElem_mem hk)⟩
theorem node_ok {L : List Tok} {d : Nat} {k : Int} {nm : ByteArray} {ls : List ByteArray} {ts : List Term} {i j : Nat} {c : Int} (h : AccT d k ts i j c ls.length) (hc : 0 ≤ c) (hj : j < L.length) (hn : ndB ⟨k, nm, ls, ts⟩) (hls : ∀ x ∈ ls, okS x) : PtOk L (d + 1) ⟨k, nm, ls, ts⟩ i j := by
  have e : shp (d + 1) ⟨k, nm, ls, ts⟩ = shG (shp d) k ts 1 := by simp only [shp]; rw [if_pos hn]
  have h1 := h.q1; have h2 := h.q2; have h3 := hn.l; have h4 := hn.k; have h5 := hn.n
  dsimp only at h3 h4 h5
  refine ⟨h.lt, hj, ⟨by unfold okS; dsimp only; omega, okL_mem hls (by dsimp only; omega), okL_mem h.o (by dsimp only; omega)⟩, by rw [e]; omega, by rw [e]; omega, ?_⟩
  have hm := h.m
  have em : Term.mw (d + 1 + 1) ⟨k, nm, ls, ts⟩ = 2 + 2 * ls.length + (ts.map (Term.mw (d + 1))).sum := rfl
  rw [em]
  omega
theorem pRest_ok {L : List Tok} (hL : LexOk L) {d : Nat} {P : Nat → Option (Term × Nat)} (hP : PtAll L d P) {k : Int} {i j : Nat} {x : Term} (hk : 1 ≤ k ∧ k ≤ 23) (hi : i + 1 < L.length) (e : pRest L P k (i + 1) = some (x, j)) : PtOk L (d + 1) x i j := by
  have h0 : AccT d k [] i (i + 1) 2 0 := .nil
  unfold pRest at e
  split at e
  · cases e
    exact node_ok (h0) (by decide) hi ⟨Nat.zero_le _, Nat.zero_le _, Nat.zero_le _, .inl hk, by (unfold kLo; dsimp only; simp only [List.length_nil]; repeat' split) <;> omega, by (unfold kHi; dsimp only; simp only [List.length_nil]; repeat' split) <;> omega⟩ (fun x h => absurd h List.not_mem_nil)
  · split at e
    · rename_i q
      cases hn : pNeed L ⟨#[60]⟩ (i + 1) with
      | none => rw [hn] at e; cases e
      | some j1 =>
        rw [hn] at e
        dsimp only at e
        obtain ⟨e1, h1⟩ := pNeed_ok hL hi hn
        cases hp : P j1 with
        | none => rw [hp] at e; cases e
        | some y =>
          obtain ⟨t, j2⟩ := y
          rw [hp] at e
          dsimp only at e
          have hx := hP _ _ _ h1 hp
          cases hn2 : pNeed L ⟨#[62]⟩ j2 with
          | none => rw [hn2] at e; cases e
          | some j3 =>
            rw [hn2] at e
            cases e
            obtain ⟨e3, h3⟩ := pNeed_ok hL hx.le hn2
            exact node_ok (((h0.tok (c' := 2) (by omega) (by omega)).kid hL (by decide) hx).tok (c' := 2) (by omega) (by omega)) (by decide) h3 ⟨Nat.zero_le _, by simp, Nat.zero_le _, .inl hk, by unfold kLo; dsimp only; rw [if_pos q]; simp, by unfold kHi; dsimp only; rw [if_pos q]; simp⟩ (fun x h => absurd h List.not_mem_nil)
    · split at e
      · rename_i q1 q2
        cases hp : pRes L P (i + 1) with
        | none => rw [hp] at e; cases e
        | some y =>
          obtain ⟨ts, j2⟩ := y
          rw [hp] at e
          cases e
          obtain ⟨a1, a2, a3⟩ := pRes_ok hL hP hi hp
          subst q2
          exact node_ok a1 (by decide) a2 ⟨Nat.zero_le _, by dsimp only; omega, Nat.zero_le _, .inl hk, by unfold kLo; dsimp only; rw [if_neg q1, if_pos rfl, a3]; decide, by unfold kHi; dsimp only; rw [if_neg q1, if_pos rfl, a3]; decide⟩ (fun x h => absurd h List.not_mem_nil)
      · split at e
        · rename_i q1 q2 q3
          cases hn : pNeed L ⟨#[60]⟩ (i + 1) with
          | none => rw [hn] at e; cases e
          | some j1 =>
            rw [hn] at e
            dsimp only at e
            obtain ⟨e1, h1⟩ := pNeed_ok hL hi hn
            cases hp : pList L P 5 [] j1 with
            | none => rw [hp] at e; cases e
            | some y =>
              obtain ⟨ts, j2⟩ := y
              rw [hp] at e
              cases e
              obtain ⟨a1, a2, a3, a4⟩ := pList_ok hL hP 5 [] j1 _ _ (h0.tok (by omega) (by omega)) h1 rfl hp
              exact node_ok (c := 2) a1 (by decide) a2 ⟨Nat.zero_le _, by dsimp only; omega, Nat.zero_le _, .inl hk, by unfold kLo; dsimp only; rw [if_neg q1, if_neg q2, if_pos q3]; omega, by unfold kHi; dsimp only; rw [if_neg q1, if_neg q2, if_pos q3]; omega⟩ (fun x h => absurd h List.not_mem_nil)
        · split at e
          · rename_i q0 q1 q2 q3 q4
            cases hn : pNeed L ⟨#[60]⟩ (i + 1) with
            | none => rw [hn] at e; cases e
            | some j1 =>
              rw [hn] at e
              dsimp only at e
              obtain ⟨e1, h1⟩ := pNeed_ok hL hi hn
              cases hp : pIdent L j1 with
              | none => rw [hp] at e; cases e
              | some y =>
                obtain ⟨w, j2⟩ := y
                rw [hp] at e
                dsimp only at e
                obtain ⟨b1, b2, b3⟩ := pIdent_ok hL h1 hp
                cases hn2 : pNeed L ⟨#[62]⟩ j2 with
                | none => rw [hn2] at e; cases e
                | some j3 =>
                  rw [hn2] at e
                  cases e
                  obtain ⟨e3, h3⟩ := pNeed_ok hL b2 hn2
                  exact node_ok (h0.tok (c' := 2) (by omega) (by omega)) (by decide) h3 ⟨Nat.zero_le _, Nat.zero_le _, b3, .inl hk, by (unfold kLo; dsimp only; simp only [List.length_nil]; repeat' split) <;> omega, by (unfold kHi; dsimp only; simp only [List.length_nil]; repeat' split) <;> omega⟩ (fun x h => absurd h List.not_mem_nil)
          · rename_i q0 q1 q2 q3 q4
            cases hn : pNeed L ⟨#[123]⟩ (i + 1) with
            | none => rw [hn] at e; cases e
            | some j1 =>
              rw [hn] at e
              dsimp only at e
              obtain ⟨e1, h1⟩ := pNeed_ok hL hi hn
              cases hp : pLabs L P k 15 [] [] j1 with
              | none => rw [hp] at e; cases e
              | some y =>
                obtain ⟨y, j2⟩ := y
                rw [hp] at e
                cases e
                obtain ⟨a1, a2, a3, a4⟩ := pLabs_ok hL hP 15 [] [] j1 _ _ (h0.tok (by omega) (by omega)) ⟨fun x h => absurd h List.not_mem_nil, fun _ => rfl, fun _ => rfl⟩ h1 rfl hp
                have hlen : (k = 16 ∨ k = 17) ∧ y.2.length = y.1.length ∨ (k = 18 ∨ k = 19) ∧ y.2.length = 0 := by
                  by_cases q : k = 16 ∨ k = 17
                  · exact .inl ⟨q, a2.e1 q⟩
                  · exact .inr ⟨by omega, by rw [a2.e2 (by omega)]; rfl⟩
                refine node_ok (c := 2) a1 (by decide) a3 ⟨a4, by dsimp only; omega, Nat.zero_le _, .inl hk, ?_, ?_⟩ a2.o
                · unfold kLo; dsimp only; rw [if_neg q1, if_neg q2, if_neg q3]; split <;> omega
                · unfold kHi; dsimp only; rw [if_neg q1, if_neg q2, if_neg q3]; split <;> omega
theorem pTerm_ok {L : List Tok} (hL : LexOk L) : ∀ d, PtAll L d (pTerm L d)
  | 0, i, x, j, hi, e => by simp [pTerm] at e
  | d + 1, i, x, j, hi, e => by
    simp only [pTerm] at e
    cases hw : pName L i with
    | none => rw [hw] at e; cases e
    | some y =>
      obtain ⟨w, j1⟩ := y
      rw [hw] at e
      dsimp only at e
      obtain ⟨a1, a2, a3⟩ := pName_ok hL hi hw
      subst a1
      split at e
      · cases e
        exact node_ok (AccT.nil (d := d)) (by decide) a2 ⟨Nat.zero_le _, Nat.zero_le _, a3, .inr rfl, by (unfold kLo; dsimp only; simp), by (unfold kHi; dsimp only; simp)⟩ (fun x h => absurd h List.not_mem_nil)
      · rename_i q
        have := kd_rng w
        exact pRest_ok hL (pTerm_ok hL d) (by omega) a2 e
theorem markL_le {α : Type} {f : α → Int → α × Int} {g : α → Nat} (h : ∀ a k, (f a k).2 ≤ k + g a) : ∀ (l : List α) (k : Int), (markL f l k).2 ≤ k + (l.map g).sum
  | [], k => by simp [markL]
  | a :: l, k => by
    have h1 := h a k
    have h2 := markL_le h l (f a k).2
    simp only [markL, List.map_cons, List.sum_cons]
    omega
theorem ones_len : ∀ l : List ByteArray, (l.map fun _ => 1).sum = l.length
  | [] => rfl
  | a :: l => by simp only [List.map_cons, List.sum_cons, List.length_cons, ones_len l]; omega
theorem Term.mkN_mw : ∀ (n : Nat) (a : Term) (k : Int), (Term.mkN n a k).2 ≤ k + Term.mw n a
  | 0, a, k => by show k ≤ k + (0 : Nat); omega
  | n + 1, a, k => by
    have e : Term.mw (n + 1) a = 2 + 2 * a.labels.length + (a.kids.map (Term.mw n)).sum := rfl
    have h1 := markL_le (f := Str.mkE) (g := fun _ => 1) (fun a k => by simp only [Str.mkE]; omega) a.labels (k + 1 + 1)
    rw [ones_len] at h1
    have h2 := markL_le (f := Term.mkN n) (g := Term.mw n) (Term.mkN_mw n) a.kids (markL Str.mkE a.labels (k + 1 + 1)).2
    rw [Term.mkN_succ, e]
    dsimp only
    omega
theorem Term.mk_mw (n : Nat) (a : Term) (k : Int) : (Term.mk_ n a k).2 ≤ k + Term.mw (n + 1) a := by
  have e : Term.mw (n + 1) a = 2 + 2 * a.labels.length + (a.kids.map (Term.mw n)).sum := rfl
  have h1 := markL_le (f := Str.mkE) (g := fun _ => 1) (fun a k => by simp only [Str.mkE]; omega) a.labels k
  rw [ones_len] at h1
  have h2 := markL_le (f := Term.mkN n) (g := Term.mw n) (Term.mkN_mw n) a.kids (markL Str.mkE a.labels k).2
  rw [e]
  unfold Term.mk_
  dsimp only
  omega
theorem noT_o : Term.oN 5 noT := ⟨Nat.zero_le _, ⟨Nat.zero_le _, fun k hk => absurd hk (Nat.not_lt_zero _)⟩, ⟨Nat.zero_le _, fun k hk => absurd hk (Nat.not_lt_zero _)⟩⟩
theorem rdT_ok (s : ByteArray) : Term.oN 5 (rdT s).1 ∧ Term.mw 5 (rdT s).1 ≤ 30000 ∧ ((rdT s).2 = 0 → 1 ≤ shp 4 (rdT s).1) := by
  unfold rdT
  cases hx : lexF s with
  | err l c =>
    refine ⟨noT_o, (by show 2 ≤ 30000; decide), fun h => ?_⟩
    have := lexF_err hx
    dsimp only at h
    omega
  | ok L =>
    have hL := lexF_ok hx
    dsimp only
    cases hp : pTerm L 4 0 with
    | none => exact ⟨noT_o, (by show 2 ≤ 30000; decide), fun h => by cases h⟩
    | some y =>
      obtain ⟨x, j⟩ := y
      have h := pTerm_ok hL 4 _ _ _ hL.pos hp
      dsimp only
      by_cases q : (tkL L j).kind = 4
      · rw [decide_eq_true q]
        exact ⟨h.o, (by have h1 : (Term.mw 5 x : Int) ≤ 6 * ((j : Int) - (0 : Nat)) := h.mw; have h2 := h.le; have h3 := hL.most; show Term.mw 5 x ≤ 30000; omega), fun _ => h.s0⟩
      · rw [decide_eq_false q]
        exact ⟨noT_o, (by show 2 ≤ 30000; decide), fun h => by cases h⟩
end
end Go.Proofs.Ytllcemegnggpfaa
