/- Texts for VHandlesOneP. -/
import Derived.Test.YtmglpojnoadgeaaGreatVo33
import Derived.Test.YtmglpojnoadgeaaGreatVo36
namespace Go.Proofs.YtmglpojnoadgeaaGreat
open Go Go.RowKit
set_option linter.unusedVariables false
set_option linter.unusedSimpArgs false
theorem getD_of {l : List Entry} {k : Nat} {e : Entry} (h : l[k]? = some e) : l.getD k default = e := by rw [List.getD_eq_getElem?_getD, h]; rfl
theorem run_back {q : List Entry → Entry → Bool} {l : List Entry} : ∀ {n j : Nat}, j ≤ n → delRun q l n = [] → delRun q l j = []
 | 0, j, hj, h => by
  obtain rfl : j = 0 := by omega
  exact h
 | n + 1, j, hj, h => by
  rcases Nat.lt_or_eq_of_le hj with q1 | rfl
  ·refine run_back (n := n) (by omega) ?_
   rw [delRun] at h
   split at h
   ·cases h
   ·exact h
  ·exact h
theorem dK_end {q : List Entry → Entry → Bool} {l : List Entry} : dK q l l.length = l.filter (notIn (delRun q l l.length)) := by
 unfold dK
 rw [List.take_length]
theorem run_none {q : List Entry → Entry → Bool} {l : List Entry} (h : (dK q l l.length).length = l.length) : delRun q l l.length = [] := by
 rw [dK_end, List.length_filter_eq_length_iff] at h
 cases hR : delRun q l l.length with
 | nil => rfl
 | cons n R =>
  exfalso
  obtain ⟨k, hk, e⟩ := run_sub (q := q) (l := l) (j := l.length) (n := n) (by rw [hR]; simp)
  have := h _ (getD_mem hk)
  unfold notIn at this
  rw [hR, ← e] at this
  simp at this
theorem dK_full {q : List Entry → Entry → Bool} {l : List Entry} (h : (dK q l l.length).length = l.length) : ∀ j, j < l.length → q l (l.getD j default) = false := fun j hj => by
 have hR := run_none h
 have h1 := run_back (j := j + 1) (by omega) hR
 have h0 := run_back (j := j) (by omega) hR
 rw [delRun] at h1
 split at h1
 ·cases h1
 ·rename_i hn
  rw [h0] at hn
  have hm : inM (notIn []) l j = l := by
   unfold inM
   have e : (l.take j).filter (notIn []) = l.take j := List.filter_eq_self.2 fun _ _ => rfl
   rw [e, List.length_take, show min j l.length = j by omega]
   exact List.take_append_drop _ _
  rw [hm] at hn
  simpa using hn
theorem mem_dM {q : List Entry → Entry → Bool} {l : List Entry} {j k : Nat} (hk : k < l.length) (h : (l.getD k default).num ∉ delRun q l j) : l.getD k default ∈ dM q l j := by
 rw [dM_eq]
 by_cases hj : k < j
 ·refine List.mem_append_left _ (List.mem_filter.2 ⟨?_, ?_⟩)
  ·have : (l.take j)[k]? = some (l.getD k default) := by
    rw [List.getElem?_take, if_pos hj, List.getD_eq_getElem?_getD, List.getElem?_eq_getElem hk]; rfl
   exact List.mem_of_getElem? this
  ·unfold notIn
   rw [Bool.not_eq_true', ← Bool.not_eq_true, List.contains_iff_mem]
   exact h
 ·refine List.mem_append_right _ ?_
  have hle := (dK_le (q := q) (l := l) (j := j)).1
  have : (l.drop (dK q l j).length)[k - (dK q l j).length]? = some (l.getD k default) := by
   rw [List.getElem?_drop, show (dK q l j).length + (k - (dK q l j).length) = k by omega, List.getD_eq_getElem?_getD, List.getElem?_eq_getElem hk]; rfl
  exact List.mem_of_getElem? this
theorem run_stay {q : List Entry → Entry → Bool} {l : List Entry} {P : Entry → Prop} (hu : uniq l) (hq : ∀ j, j < l.length → (∀ k, k < l.length → P (l.getD k default) → l.getD k default ∈ dM q l j) → q (dM q l j) (l.getD j default) = true → ¬ P (l.getD j default)) :
  ∀ {j : Nat}, j ≤ l.length → ∀ k, k < l.length → P (l.getD k default) → (l.getD k default).num ∉ delRun q l j
 | 0, _, k, _, _ => by simp [delRun]
 | j + 1, hj, k, hk, hP => by
  have ih := run_stay hu hq (j := j) (by omega)
  rw [delRun]
  split
  ·rename_i hh
   rw [List.mem_cons, not_or]
   refine ⟨fun e => ?_, ih k hk hP⟩
   have := hu k j hk (by omega) e
   subst this
   exact hq k hk (fun k' hk' hP' => mem_dM hk' (ih k' hk' hP')) hh hP
  ·exact ih k hk hP
def goQ (S : Shelf) (i : Nat) : List Entry → Entry → Bool := fun l e => !e.own && ((S.setE i l).orig e).isNone
def cutR (K : Nat → Entry → Bool) (i : Nat) (R : List Int) : Nat → Entry → Bool := fun j e => K j e && (!Nat.beq j i || notIn R e)
theorem keep_cutR {s : Shelf} {K : Nat → Entry → Bool} {i : Nat} {R : List Int} (hi : i < s.tables.length) : (s.keep K).setE i (((s.keep K).tables.getD i default).entries.filter (notIn R)) = s.keep (cutR K i R) := by
 refine shelf_ext rfl rfl (by rw [setE_len, keep_len, keep_len]) fun j hj => ?_
 rw [setE_at (by rw [keep_len]; exact hi), keep_tab, keep_tab]
 split
 ·rename_i e
  subst e
  rw [keep_tab]
  dsimp only
  congr 1
  rw [List.filter_filter]
  refine List.filter_congr fun e _ => ?_
  unfold cutR
  rw [Nat.beq_refl, Bool.not_true, Bool.false_or, Bool.and_comm]
 ·rename_i e
  rw [keep_tab]
  congr 1
  refine List.filter_congr fun x _ => ?_
  unfold cutR
  rw [beq_ff e, Bool.not_false, Bool.true_or, Bool.and_true]
theorem keep_uniq {s : Shelf} {K : Nat → Entry → Bool} (hu : ∀ i, uniq (s.tables.getD i default).entries) (i : Nat) : uniq ((s.keep K).tables.getD i default).entries := by
 rw [keep_tab]
 have h := hu i
 generalize (s.tables.getD i default).entries = l at h
 induction l with
 | nil => intro a b ha; cases ha
 | cons a l ih =>
  obtain ⟨h1, h2⟩ := uniq_tail h
  have ih := ih h1
  rw [List.filter_cons]
  split
  ·intro x y hx hy e
   cases x with
   | zero =>
    cases y with
    | zero => rfl
    | succ y =>
     exfalso
     have hy' : y < (l.filter (K i)).length := by simpa using hy
     have hm : (l.filter (K i)).getD y default ∈ l := (List.mem_filter.1 (getD_mem hy')).1
     exact h2 _ hm (by simpa using e.symm)
   | succ x =>
    cases y with
    | zero =>
     exfalso
     have hx' : x < (l.filter (K i)).length := by simpa using hx
     have hm : (l.filter (K i)).getD x default ∈ l := (List.mem_filter.1 (getD_mem hx')).1
     exact h2 _ hm (by simpa using e)
    | succ y =>
     have := ih x y (by simpa using hx) (by simpa using hy) (by simpa using e)
     omega
  ·exact ih
theorem find_some_of {num : Int} {l : List Entry} {x : Entry} (h : x ∈ l) (hx : x.num = num) : ¬ l.find? (numP num) = none := by
 intro q
 rw [List.find?_eq_none] at q
 exact q x h (by simp [numP, hx])
theorem cutR_cut {s : Shelf} {K0 K : Nat → Entry → Bool} (h : s.Cut K0 K) (hu : ∀ i, uniq (s.tables.getD i default).entries) {i : Nat} (hi : i < s.tables.length) : s.Cut K0 (cutR K i (delRun (goQ (s.keep K) i) ((s.keep K).tables.getD i default).entries ((s.keep K).tables.getD i default).entries.length)) := by
 have hul := keep_uniq (K := K) hu i
 have hmem : ∀ x, x ∈ ((s.keep K).tables.getD i default).entries ↔ x ∈ (s.tables.getD i default).entries ∧ K i x = true := fun x => by
  rw [keep_tab]
  exact List.mem_filter
 generalize hl : ((s.keep K).tables.getD i default).entries = l at hul hmem
 have stay := run_stay (q := goQ (s.keep K) i) (l := l) (P := s.Live K0) hul (fun j hj hin hq hP => by
  have hq' : (!(l.getD j default).own && (((s.keep K).setE i (dM (goQ (s.keep K) i) l j)).orig (l.getD j default)).isNone) = true := hq
  rw [Bool.and_eq_true, Bool.not_eq_true', Option.isNone_iff_eq_none] at hq'
  obtain ⟨ho, hn⟩ := hq'
  cases hP with
  | own q => rw [ho] at q; cases q
  | @lent e x ha hk hx =>
   obtain ⟨h1, h2, k, h3, h4⟩ := at_in ha
   have hKx : K (l.getD j default).from_.toNat x = true := by
    have := h.live _ k h1 h3 (by rw [h4]; exact hk) (by rw [h4]; exact hx)
    rwa [h4] at this
   unfold Shelf.orig at hn
   have hT : s.isT (l.getD j default).from_ = true := by
    rw [at_eq] at ha
    split at ha
    ·assumption
    ·cases ha
   rw [at_eq] at hn
   have hT' : ((s.keep K).setE i (dM (goQ (s.keep K) i) l j)).isT (l.getD j default).from_ = true := by
    unfold Shelf.isT at hT ⊢
    rw [setE_len, keep_len]
    exact hT
   rw [if_pos hT', setE_at (by rw [keep_len]; exact hi)] at hn
   by_cases hf : (l.getD j default).from_.toNat = i
   ·rw [if_pos hf] at hn
    have hxm : x ∈ l := (hmem x).2 ⟨by rw [← hf, ← h4]; exact getD_mem h3, by rw [← hf]; exact hKx⟩
    obtain ⟨k', hk'⟩ := List.getElem?_of_mem hxm
    have hkl := (List.getElem?_eq_some_iff.1 hk').1
    have he : l.getD k' default = x := by rw [List.getD_eq_getElem?_getD, hk']; rfl
    have := hin k' hkl (by rw [he]; exact hx)
    rw [he] at this
    exact find_some_of this h2 hn
   ·rw [if_neg hf, keep_tab] at hn
    exact find_some_of (List.mem_filter.2 ⟨by rw [← h4]; exact getD_mem h3, hKx⟩) h2 hn) (Nat.le_refl _)
 refine ⟨fun j e q => h.sub j e (by unfold cutR at q; rw [Bool.and_eq_true] at q; exact q.1), fun j k hj hk h0 hL => ?_⟩
 have hK := h.live j k hj hk h0 hL
 unfold cutR
 rw [hK, Bool.true_and]
 cases hb : Nat.beq j i with
 | false => rfl
 | true =>
  have := Nat.eq_of_beq_eq_true hb
  subst this
  rw [Bool.not_true, Bool.false_or]
  generalize he : (s.tables.getD j default).entries.getD k default = e at hL hK h0
  have hm : e ∈ l := (hmem e).2 ⟨by rw [← he]; exact getD_mem hk, hK⟩
  obtain ⟨k', hk'⟩ := List.getElem?_of_mem hm
  have hkl := (List.getElem?_eq_some_iff.1 hk').1
  have he' : l.getD k' default = e := by rw [List.getD_eq_getElem?_getD, hk']; rfl
  have := stay k' hkl (by rw [he']; exact hL)
  rw [he'] at this
  unfold notIn
  rw [Bool.not_eq_true', ← Bool.not_eq_true, List.contains_iff_mem]
  exact this
structure LoG (s : Shelf) (K0 : Nat → Entry → Bool) (x : Bool × Bool × (Nat → Entry → Bool)) : Prop where
 fst : x.1 = true → x.2.1 = true ∧ s.keep x.2.2 = s
 rest : x.1 = false → LoA s K0 x.2
def muG (s : Shelf) (x : Bool × Bool × (Nat → Entry → Bool)) : Nat := if x.1 = true then 2 * s.cnt + 3 else muA s x.2
theorem loG_start {s : Shelf} {K0 : Nat → Entry → Bool} : LoG s K0 (true, true, fun _ _ => true) := ⟨fun _ => ⟨rfl, by
 refine shelf_ext rfl rfl keep_len fun i _ => ?_
 rw [keep_tab]
 have : (s.tables.getD i default).entries.filter (fun _ => true) = (s.tables.getD i default).entries := List.filter_eq_self.2 fun _ _ => rfl
 rw [this]⟩, fun h => by cases h⟩
structure LoF (s : Shelf) (K0 : Nat → Entry → Bool) (y : Nat × Bool) : Prop where
 le : y.1 ≤ s.tables.length
 same : y.2 = false → ∀ j, j < y.1 → (s.tables.getD j default).entries.filter (K0 j) = (s.tables.getD j default).entries
theorem loF_start {s : Shelf} {K0 : Nat → Entry → Bool} : LoF s K0 (0, false) := ⟨Nat.zero_le _, fun _ j hj => absurd hj (Nat.not_lt_zero _)⟩
theorem LoF.next {s : Shelf} {K0 : Nat → Entry → Bool} {y : Nat × Bool} (h : LoF s K0 y) (hi : y.1 < s.tables.length) {b : Bool} (hb : b = false → y.2 = false ∧ ¬ ((s.tables.getD y.1 default).entries.filter (K0 y.1)).length < (s.tables.getD y.1 default).entries.length) : LoF s K0 (y.1 + 1, b) := ⟨hi, fun q j hj => by
 obtain ⟨h1, h2⟩ := hb q
 rcases Nat.lt_or_eq_of_le (Nat.le_of_lt_succ hj) with r | rfl
 ·exact h.same h1 j r
 ·have hle := List.length_filter_le (K0 y.1) (s.tables.getD y.1 default).entries
  refine List.filter_eq_self.2 ?_
  exact (List.length_filter_eq_length_iff.1 (by omega))⟩
theorem cnt_keep {s : Shelf} {K : Nat → Entry → Bool} : (s.keep K).cnt ≤ s.cnt := by
 unfold Shelf.cnt Shelf.keep
 dsimp only
 have key : ∀ (ts : List Table) (n : Nat), ((ts.mapIdx fun i t => (⟨t.next, t.entries.filter (K (n + i))⟩ : Table)).map fun t => t.entries.length).sum ≤ (ts.map fun t => t.entries.length).sum := by
  intro ts
  induction ts with
  | nil => intro n; exact Nat.le_refl _
  | cons t ts ih =>
   intro n
   rw [List.mapIdx_cons, List.map_cons, List.map_cons, List.sum_cons, List.sum_cons]
   have h1 := List.length_filter_le (K (n + 0)) t.entries
   have h2 := ih (n + 1)
   have e : (fun i (t : Table) => (⟨t.next, t.entries.filter (K (n + 1 + i))⟩ : Table)) = fun i t => ⟨t.next, t.entries.filter (K (n + (i + 1)))⟩ := by
    funext i t
    rw [show n + 1 + i = n + (i + 1) by omega]
   rw [e] at h2
   dsimp only
   omega
 have := key s.tables 0
 simp only [Nat.zero_add] at this
 exact this
theorem LoF.done {s : Shelf} {K0 : Nat → Entry → Bool} {y : Nat × Bool} (hg : s.Tidy) (h : LoF s K0 y) (hn : ¬ y.1 < s.tables.length) {x : Bool × Bool × (Nat → Entry → Bool)} (hx : x.1 = true) : LoG s K0 (false, y.2, K0) ∧ muG s (false, y.2, K0) < muG s x := by
 refine ⟨⟨fun q => (by cases q), fun _ => ⟨.start s K0, fun q i hi => ?_⟩⟩, ?_⟩
 ·have hs : s.keep K0 = s := by
   refine shelf_ext rfl rfl keep_len fun j hj => ?_
   rw [keep_len] at hj
   rw [keep_tab, h.same q j (by omega)]
  intro k hk _
  rw [show (y.2, K0).2 = K0 from rfl, hs]
  by_cases ho : ((s.tables.getD i default).entries.getD k default).own = true
  ·exact .inl ho
  ·right
   obtain ⟨n, hn⟩ := shelf_ends hg i k hi hk
   intro e
   cases n with
   | zero => cases hn
   | succ n => rw [Shelf.sEnds_none (by simpa using ho) e] at hn; cases hn
 ·unfold muG muA
  rw [if_pos hx, if_neg (show ¬ (false, y.2, K0).1 = true from fun q => Bool.noConfusion q)]
  have := cnt_keep (s := s) (K := K0)
  dsimp only
  split <;> omega
def stepK (s : Shelf) (y : Nat × Bool × (Nat → Entry → Bool)) : Nat → Entry → Bool :=
 if (dK (goQ (s.keep y.2.2) y.1) ((s.keep y.2.2).tables.getD y.1 default).entries ((s.keep y.2.2).tables.getD y.1 default).entries.length).length < ((s.keep y.2.2).tables.getD y.1 default).entries.length
 then cutR y.2.2 y.1 (delRun (goQ (s.keep y.2.2) y.1) ((s.keep y.2.2).tables.getD y.1 default).entries ((s.keep y.2.2).tables.getD y.1 default).entries.length) else y.2.2
theorem step_keep {s : Shelf} {y : Nat × Bool × (Nat → Entry → Bool)} (hi : y.1 < s.tables.length) : (s.keep y.2.2).setE y.1 (dK (goQ (s.keep y.2.2) y.1) ((s.keep y.2.2).tables.getD y.1 default).entries ((s.keep y.2.2).tables.getD y.1 default).entries.length) = s.keep (stepK s y) := by
 unfold stepK
 split
 ·rw [dK_end]
  exact keep_cutR hi
 ·rename_i hn
  have hle := (dK_le (q := goQ (s.keep y.2.2) y.1) (l := ((s.keep y.2.2).tables.getD y.1 default).entries) (j := ((s.keep y.2.2).tables.getD y.1 default).entries.length)).2
  have hR := run_none (q := goQ (s.keep y.2.2) y.1) (l := ((s.keep y.2.2).tables.getD y.1 default).entries) (by omega)
  rw [dK_end, hR]
  have : (((s.keep y.2.2).tables.getD y.1 default).entries).filter (notIn []) = ((s.keep y.2.2).tables.getD y.1 default).entries := List.filter_eq_self.2 fun _ _ => rfl
  rw [this, setE_self]
theorem LoB.step {s : Shelf} {K0 K : Nat → Entry → Bool} {y : Nat × Bool × (Nat → Entry → Bool)} (hu : ∀ i, uniq (s.tables.getD i default).entries) (h : LoB s K0 K y) (hi : y.1 < s.tables.length) {b : Bool}
  (hb : b = false ↔ y.2.1 = false ∧ ¬ (dK (goQ (s.keep y.2.2) y.1) ((s.keep y.2.2).tables.getD y.1 default).entries ((s.keep y.2.2).tables.getD y.1 default).entries.length).length < ((s.keep y.2.2).tables.getD y.1 default).entries.length) : LoB s K0 K (y.1 + 1, b, stepK s y) := by
 have hk := step_keep hi
 by_cases hlt : (dK (goQ (s.keep y.2.2) y.1) ((s.keep y.2.2).tables.getD y.1 default).entries ((s.keep y.2.2).tables.getD y.1 default).entries.length).length < ((s.keep y.2.2).tables.getD y.1 default).entries.length
 ·have hcnt : (s.keep (stepK s y)).cnt < (s.keep y.2.2).cnt := by
   rw [← hk]
   exact cnt_setE (by rw [keep_len]; exact hi) hlt
  refine ⟨hi, ?_, fun q => absurd hlt (hb.1 q).2, fun _ => ?_⟩
  ·show s.Cut K0 (stepK s y)
   unfold stepK
   rw [if_pos hlt]
   exact cutR_cut h.cut hu hi
  ·refine Nat.lt_of_lt_of_le hcnt ?_
   cases hb : y.2.1 with
   | true => exact Nat.le_of_lt (h.less hb)
   | false => rw [← (h.same hb).1]; exact Nat.le_refl _
 ·have hst : stepK s y = y.2.2 := by unfold stepK; rw [if_neg hlt]
  rw [hst]
  have hle := (dK_le (q := goQ (s.keep y.2.2) y.1) (l := ((s.keep y.2.2).tables.getD y.1 default).entries) (j := ((s.keep y.2.2).tables.getD y.1 default).entries.length)).2
  have hf := dK_full (q := goQ (s.keep y.2.2) y.1) (l := ((s.keep y.2.2).tables.getD y.1 default).entries) (by omega)
  have hcl : s.closedT y.2.2 y.1 := fun k hk hK => by
   have hm : (s.tables.getD y.1 default).entries.getD k default ∈ ((s.keep y.2.2).tables.getD y.1 default).entries := by
    rw [keep_tab]
    exact List.mem_filter.2 ⟨getD_mem hk, hK⟩
   obtain ⟨k', hk'⟩ := List.getElem?_of_mem hm
   have := hf k' (List.getElem?_eq_some_iff.1 hk').1
   rw [getD_of hk'] at this
   unfold goQ at this
   rw [setE_self] at this
   have h2 : (!((s.tables.getD y.1 default).entries.getD k default).own && ((s.keep y.2.2).orig ((s.tables.getD y.1 default).entries.getD k default)).isNone) = false := this
   cases ho : ((s.tables.getD y.1 default).entries.getD k default).own with
   | true => exact .inl rfl
   | false =>
    right
    intro e
    rw [ho, e] at h2
    cases h2
  have hn := h.next hi hcl
  exact ⟨hn.le, hn.cut, fun q => hn.same (hb.1 q).1, fun q => hn.less (by
   cases hc : y.2.1 with
   | true => rfl
   | false => rw [hb.2 ⟨hc, hlt⟩] at q; cases q)⟩
end Go.Proofs.YtmglpojnoadgeaaGreat
