/- Texts for VHandlesOneP. -/
import Derived.Test.YtmglpojnoadgeaaGreatVo28
namespace Go.Proofs.YtmglpojnoadgeaaGreat
open Go Go.RowKit
set_option linter.unusedVariables false
set_option linter.unusedSimpArgs false
theorem loopTF {E : Env} {nt : Nat} {X : Ctx} {f : Fr} {H : Hp} {c : Code} {Q : Exit → Fr → Hp → Prop} {α : Type} (t : Nat) (vs : α → Fr) (hp : α → List (Option RowI)) (I : α → Prop) (μ : α → Nat) (x0 : α) (ht : inL (asg c) t = true)
  (h : I x0 ∧ agK (mkH H (hp x0)) H [] f (vs x0) ∧ hpP (mkH H (hp x0)) H [] 0 (hp x0) H ∧
   delK H.length (asg c) f fun f0 => ∀ x, I x → wpc E nt X c (vs x ++ f0) (mkH H (hp x)) (thn (RoundEndT X f0 H vs hp I μ x) Q)) :
  LW E.P nt X (.loop c) f H Q := loopFT vs hp I μ x0 h
def untilK (K : Nat → Entry → Bool) (i : Nat) : Nat → Entry → Bool := fun j e => if j < i then K j e else true
theorem until_zero {s : Shelf} {K : Nat → Entry → Bool} : s.keep (untilK K 0) = s := by
 refine shelf_ext rfl rfl keep_len fun i hi => ?_
 rw [keep_tab]
 have : (s.tables.getD i default).entries.filter (untilK K 0 i) = (s.tables.getD i default).entries := List.filter_eq_self.2 fun e _ => by simp [untilK]
 rw [this]
theorem until_at {s : Shelf} {K : Nat → Entry → Bool} {i j : Nat} (h : i ≤ j) : (s.keep (untilK K i)).tables.getD j default = s.tables.getD j default := by
 rw [keep_tab]
 have : (s.tables.getD j default).entries.filter (untilK K i j) = (s.tables.getD j default).entries := List.filter_eq_self.2 fun e _ => by
  unfold untilK
  rw [if_neg (by omega)]
 rw [this]
theorem until_succ {s : Shelf} {K : Nat → Entry → Bool} {i : Nat} (h : i < s.tables.length) : (s.keep (untilK K i)).setE i ((s.tables.getD i default).entries.filter (K i)) = s.keep (untilK K (i + 1)) := by
 refine shelf_ext rfl rfl (by rw [setE_len, keep_len, keep_len]) fun j hj => ?_
 rw [setE_at (by rw [keep_len]; exact h), keep_tab, keep_tab]
 split
 ·rename_i e
  subst e
  rw [keep_tab]
  congr 1
  refine List.filter_congr fun e _ => ?_
  unfold untilK
  rw [if_pos (by omega)]
 ·rename_i e
  rw [keep_tab]
  congr 1
  refine List.filter_congr fun x _ => ?_
  unfold untilK
  by_cases h2 : j < i
  ·rw [if_pos h2, if_pos (by omega)]
  ·rw [if_neg h2, if_neg (by omega)]
theorem until_end {s : Shelf} {K : Nat → Entry → Bool} {i : Nat} (h : ¬ i < s.tables.length) : s.keep (untilK K i) = s.keep K := keep_congr fun j k hj _ => by
 unfold untilK
 rw [if_pos (by omega)]
noncomputable def Shelf.fixK (s : Shelf) (K0 : Nat → Entry → Bool) : Nat → Entry → Bool := fun i e => K0 i e && pb (s.Live K0 e)
theorem fixK_fix (s : Shelf) (K0 : Nat → Entry → Bool) : s.Fix K0 (s.fixK K0) :=
 ⟨⟨fun i e h => by unfold Shelf.fixK at h; rw [Bool.and_eq_true] at h; exact h.1, fun i k hi hk h0 hl => by unfold Shelf.fixK; rw [h0, Bool.true_and]; exact pb_t.mpr hl⟩,
   fun i k hi hk h => by unfold Shelf.fixK at h; rw [Bool.and_eq_true] at h; exact pb_t.mp h.2⟩
theorem keep_ok {s : Shelf} (h : s.ok) {K : Nat → Entry → Bool} : (s.keep K).ok := ⟨⟨by rw [keep_len]; exact h.1.1, fun i hi => by
 rw [keep_tab]
 exact ⟨Nat.le_trans (List.length_filter_le _ _) (entLe h i), fun _ _ => trivial⟩⟩, h.2⟩
def Shelf.cnt (s : Shelf) : Nat := (s.tables.map fun t => t.entries.length).sum
theorem sum_set {l : List Nat} : ∀ {w : Nat} {v : Nat}, w < l.length → v < l.getD w 0 → (l.set w v).sum < l.sum := by
 induction l with
 | nil => intro w v h; simp at h
 | cons a l ih =>
  intro w v h hv
  cases w with
  | zero =>
   have : v < a := by simpa using hv
   simp only [List.set_cons_zero, List.sum_cons]
   omega
  | succ w =>
   have := ih (w := w) (v := v) (by simpa using h) (by simpa using hv)
   simp only [List.set_cons_succ, List.sum_cons]
   omega
theorem cnt_setE {s : Shelf} {w : Nat} {l : List Entry} (hw : w < s.tables.length) (hl : l.length < (s.tables.getD w default).entries.length) : (s.setE w l).cnt < s.cnt := by
 unfold Shelf.cnt Shelf.setE
 dsimp only
 rw [List.map_set]
 refine sum_set (by simpa using hw) ?_
 have e : (s.tables.map fun t => t.entries.length).getD w 0 = (s.tables.getD w default).entries.length := by
  rw [List.getD_eq_getElem?_getD (l := s.tables.map _), List.getElem?_map, List.getElem?_eq_getElem hw, List.getD_eq_getElem?_getD, List.getElem?_eq_getElem hw]; rfl
 rw [e]
 exact hl
theorem cutL_lt {num : Int} {l : List Entry} {k : Nat} (hk : k < l.length) (h : (l.getD k default).num = num) : (cutL num l).length < l.length := by
 have h1 : l = l.take k ++ l.drop k := (List.take_append_drop k l).symm
 have h2 : l.drop k = l.getD k default :: l.drop (k + 1) := by
  rw [List.drop_eq_getElem_cons hk, List.getD_eq_getElem?_getD, List.getElem?_eq_getElem hk]; rfl
 have h3 : cutL num l = cutL num (l.take k) ++ cutL num (l.drop (k + 1)) := by
  conv => lhs; rw [h1, h2]
  unfold cutL
  rw [List.filter_append, List.filter_cons]
  have : (!numP num (l.getD k default)) = false := by simp only [numP, h, decide_true, Bool.not_true]
  rw [this]
  rfl
 have h4 := cutL_le (num := num) (l := l.take k)
 have h5 := cutL_le (num := num) (l := l.drop (k + 1))
 rw [h3, List.length_append]
 rw [List.length_take] at h4
 rw [List.length_drop] at h5
 omega
theorem filt_no {α : Type} [Inhabited α] {p : α → Bool} {l : List α} {k : Nat} (hk : k < l.length) (h : p (l.getD k default) = false) : (l.take (k + 1)).filter p = (l.take k).filter p := by
 rw [take_snoc hk, List.filter_append]
 simp only [List.filter, h, List.append_nil]
theorem filt_yes {α : Type} [Inhabited α] {p : α → Bool} {l : List α} {k : Nat} (hk : k < l.length) (h : p (l.getD k default) = true) : (l.take (k + 1)).filter p = (l.take k).filter p ++ [l.getD k default] := by
 rw [take_snoc hk, List.filter_append]
 simp only [List.filter, h]
theorem filt_le {α : Type} {p : α → Bool} {l : List α} {k : Nat} : ((l.take k).filter p).length ≤ l.length := by
 have h1 := List.length_filter_le p (l.take k)
 rw [List.length_take] at h1
 omega
def lendE (f : List Int → Int) (j : Nat) (e : Entry) : Entry := { e with lends := f [(j : Int), e.num] }
def lendU (f : List Int → Int) (s : Shelf) (i k : Nat) : Shelf := ⟨s.next, s.tables.mapIdx fun j t => ⟨t.next, t.entries.mapIdx fun l e => if j < i ∨ (j = i ∧ l < k) then lendE f j e else e⟩, s.things⟩
def Shelf.relend (s : Shelf) : Shelf := lendU (leF s.all) s s.tables.length 0
theorem lendU_len {f : List Int → Int} {s : Shelf} {i k : Nat} : (lendU f s i k).tables.length = s.tables.length := List.length_mapIdx
theorem lendU_tab {f : List Int → Int} {s : Shelf} {i k j : Nat} : (lendU f s i k).tables.getD j default = ⟨(s.tables.getD j default).next, (s.tables.getD j default).entries.mapIdx fun l e => if j < i ∨ (j = i ∧ l < k) then lendE f j e else e⟩ := by
 unfold lendU
 dsimp only
 rw [List.getD_eq_getElem?_getD, List.getElem?_mapIdx, List.getD_eq_getElem?_getD]
 cases s.tables[j]? with
 | none => rfl
 | some t => rfl
theorem lendU_elen {f : List Int → Int} {s : Shelf} {i k j : Nat} : ((lendU f s i k).tables.getD j default).entries.length = (s.tables.getD j default).entries.length := by
 rw [lendU_tab]
 exact List.length_mapIdx
theorem lendU_ent {f : List Int → Int} {s : Shelf} {i k j l : Nat} (hl : l < (s.tables.getD j default).entries.length) : ((lendU f s i k).tables.getD j default).entries.getD l default = if j < i ∨ (j = i ∧ l < k) then lendE f j ((s.tables.getD j default).entries.getD l default) else (s.tables.getD j default).entries.getD l default := by
 rw [lendU_tab]
 dsimp only
 generalize (s.tables.getD j default).entries = es at hl ⊢
 rw [List.getD_eq_getElem?_getD, List.getElem?_mapIdx, List.getD_eq_getElem?_getD, List.getElem?_eq_getElem hl]
 rfl
theorem table_ext {a b : Table} (h1 : a.next = b.next) (h2 : a.entries.length = b.entries.length) (h3 : ∀ k, k < a.entries.length → a.entries.getD k default = b.entries.getD k default) : a = b := by
 obtain ⟨n, l⟩ := a
 obtain ⟨m, l'⟩ := b
 dsimp only at h1 h2 h3
 subst h1
 rw [list_ext h2 h3]
theorem lendU_next0 {f : List Int → Int} {s : Shelf} {i k j : Nat} : ((lendU f s i k).tables.getD j default).next = (s.tables.getD j default).next := by rw [lendU_tab]
theorem lendU_congr {f : List Int → Int} {s : Shelf} {i k i' k' : Nat} (h : ∀ j l, j < s.tables.length → l < (s.tables.getD j default).entries.length → ((j < i ∨ (j = i ∧ l < k)) ↔ (j < i' ∨ (j = i' ∧ l < k')))) : lendU f s i k = lendU f s i' k' := by
 refine shelf_ext rfl rfl (lendU_len.trans lendU_len.symm) fun j hj => ?_
 rw [lendU_len] at hj
 refine table_ext (lendU_next0.trans lendU_next0.symm) (lendU_elen.trans lendU_elen.symm) fun l hl => ?_
 rw [lendU_elen] at hl
 rw [lendU_ent hl, lendU_ent hl]
 by_cases c : j < i ∨ (j = i ∧ l < k)
 ·rw [if_pos c, if_pos ((h j l hj hl).1 c)]
 ·rw [if_neg c, if_neg (fun q => c ((h j l hj hl).2 q))]
theorem lendU_zero {f : List Int → Int} {s : Shelf} : lendU f s 0 0 = s := by
 refine shelf_ext rfl rfl lendU_len fun j hj => ?_
 refine table_ext lendU_next0 lendU_elen fun l hl => ?_
 rw [lendU_elen] at hl
 rw [lendU_ent hl, if_neg (by omega)]
theorem lendU_next {f : List Int → Int} {s : Shelf} {i k : Nat} (h : ¬ k < (s.tables.getD i default).entries.length) : lendU f s i k = lendU f s (i + 1) 0 := lendU_congr fun j l _ hl => by
 by_cases e : j = i
 ·subst e; omega
 ·omega
theorem lendU_end {f : List Int → Int} {s : Shelf} {i : Nat} (h : ¬ i < s.tables.length) : lendU f s i 0 = lendU f s s.tables.length 0 := lendU_congr fun j l hj _ => by omega
theorem lendU_step {f : List Int → Int} {s : Shelf} {i k : Nat} (hi : i < s.tables.length) (hk : k < (s.tables.getD i default).entries.length) {v : Int} (hv : v = f [(i : Int), ((s.tables.getD i default).entries.getD k default).num]) : (lendU f s i k).setL i k v = lendU f s i (k + 1) := by
 subst hv
 have hi' : i < (lendU f s i k).tables.length := by rw [lendU_len]; exact hi
 have hk' : k < ((lendU f s i k).tables.getD i default).entries.length := by rw [lendU_elen]; exact hk
 unfold Shelf.setL
 refine shelf_ext rfl rfl (by rw [setE_len, lendU_len, lendU_len]) fun j hj => ?_
 rw [setE_len, lendU_len] at hj
 rw [setE_at hi']
 split
 ·rename_i e
  subst e
  refine table_ext (lendU_next0.trans lendU_next0.symm) (by rw [setLd_len, lendU_elen, lendU_elen]) fun l hl => ?_
  rw [setLd_len, lendU_elen] at hl
  unfold setLd
  rw [getD_set hk', lendU_ent hl, lendU_ent hk]
  by_cases e : l = k
  ·subst e
   rw [if_pos rfl, if_neg (by omega), lendU_ent hl, if_pos (by omega)]
   rfl
  ·rw [if_neg e, lendU_ent hl]
   by_cases c : j < j ∨ (j = j ∧ l < k)
   ·rw [if_pos c, if_pos (by omega)]
   ·rw [if_neg c, if_neg (by omega)]
 ·rename_i e
  refine table_ext (lendU_next0.trans lendU_next0.symm) (lendU_elen.trans lendU_elen.symm) fun l hl => ?_
  rw [lendU_elen] at hl
  rw [lendU_ent hl, lendU_ent hl]
  by_cases c : j < i ∨ (j = i ∧ l < k)
  ·rw [if_pos c, if_pos (by omega)]
  ·rw [if_neg c, if_neg (by omega)]
theorem lendU_ok {f : List Int → Int} {s : Shelf} (h : s.ok) {i k : Nat} : (lendU f s i k).ok := ⟨⟨by rw [lendU_len]; exact h.1.1, fun j hj => ⟨by rw [lendU_elen]; exact entLe h j, fun _ _ => trivial⟩⟩, h.2⟩
theorem fold_idx {g : (List Int → Int) → Entry → (List Int → Int)} (F : Nat → Entry → Entry) (hF : ∀ f l e, g f (F l e) = g f e) : ∀ (l : List Entry) (n : Nat) (f : List Int → Int), (l.mapIdx fun i e => F (n + i) e).foldl g f = l.foldl g f
 | [], _, _ => rfl
 | a :: l, n, f => by
  rw [List.mapIdx_cons, List.foldl_cons, List.foldl_cons, hF]
  have := fold_idx F hF l (n + 1) (g f a)
  rw [← this]
  congr 1
  refine congrArg (fun q => List.mapIdx q l) ?_
  funext i e
  rw [show n + 1 + i = n + (i + 1) by omega]
theorem fold_flat {g : (List Int → Int) → Entry → (List Int → Int)} (F : Nat → Nat → Entry → Entry) (hF : ∀ f j l e, g f (F j l e) = g f e) : ∀ (ts : List Table) (n : Nat) (f : List Int → Int), ((ts.mapIdx fun j t => (⟨t.next, t.entries.mapIdx fun l e => F (n + j) l e⟩ : Table)).flatMap Table.entries).foldl g f = (ts.flatMap Table.entries).foldl g f
 | [], _, _ => rfl
 | t :: ts, n, f => by
  rw [List.mapIdx_cons, List.flatMap_cons, List.flatMap_cons, List.foldl_append, List.foldl_append]
  have h1 := fold_idx (g := g) (fun l e => F (n + 0) l e) (fun f l e => hF f _ l e) t.entries 0 f
  simp only [Nat.zero_add] at h1
  dsimp only
  rw [h1]
  have := fold_flat F hF ts (n + 1) (t.entries.foldl g f)
  rw [← this]
  congr 2
  refine congrArg (fun q => List.mapIdx q ts) ?_
  funext j t
  rw [show n + 1 + j = n + (j + 1) by omega]
theorem lendU_le {f : List Int → Int} {s : Shelf} {i k : Nat} : leF (lendU f s i k).all = leF s.all := by
 unfold leF Shelf.all lendU
 have := fold_flat (g := leStep) (fun j l e => if j < i ∨ (j = i ∧ l < k) then lendE f j e else e) (fun f' j l e => by split <;> rfl) s.tables 0 (fun _ => 0)
 simp only [Nat.zero_add] at this
 exact this
def borP (a b : Int) (e : Entry) : Bool := !e.own && decide (e.from_ = a ∧ e.fromNum = b)
def owsP (id : Int) (e : Entry) : Bool := e.own && decide (e.id = id)
theorem wrap_small {n : Nat} (h : n ≤ 1000000) : IntKind.i64.wrap ((n : Int) + 1) = ((n + 1 : Nat) : Int) := by
 rw [wrap_in (by omega) (by omega)]
 omega
theorem leF_count {a b : Int} {l0 : List Entry} (h0 : l0.length ≤ 1000000) : leF l0 [a, b] = (l0.countP (borP a b) : Int) := by
 have key : ∀ n, n ≤ l0.length → leF (l0.take n) [a, b] = ((l0.take n).countP (borP a b) : Int) := by
   intro n
   induction n with
   | zero => intro _; rfl
   | succ n ih =>
  intro hn
  have h1 := ih (by omega)
  rw [take_snoc (show n < l0.length by omega)]
  generalize hl : l0.take n = l at h1
  generalize l0.getD n default = e
  have h : l.length + 1 ≤ 1000000 := by rw [← hl, List.length_take]; omega
  have hc : l.countP (borP a b) ≤ 1000000 := Nat.le_trans List.countP_le_length (by omega)
  rw [leF_snoc, leStep, List.countP_append, List.countP_singleton]
  cases ho : e.own with
  | true =>
   rw [if_pos rfl, h1]
   simp [borP, ho]
  | false =>
   rw [if_neg (by decide), putF]
   by_cases hp : e.from_ = a ∧ e.fromNum = b
   ·obtain ⟨rfl, rfl⟩ := hp
    rw [if_pos rfl, h1, wrap_small hc]
    simp [borP, ho]
   ·rw [if_neg (fun q => hp (by injection q with e1 e2; injection e2 with e2 _; exact ⟨e1.symm, e2.symm⟩)), h1]
    simp [borP, ho, hp]
 have := key l0.length (Nat.le_refl _)
 rwa [List.take_length] at this
theorem owF_count {id : Int} {l0 : List Entry} (h0 : l0.length ≤ 1000000) : owF l0 [id] = (l0.countP (owsP id) : Int) := by
 have key : ∀ n, n ≤ l0.length → owF (l0.take n) [id] = ((l0.take n).countP (owsP id) : Int) := by
   intro n
   induction n with
   | zero => intro _; rfl
   | succ n ih =>
  intro hn
  have h1 := ih (by omega)
  rw [take_snoc (show n < l0.length by omega)]
  generalize hl : l0.take n = l at h1
  generalize l0.getD n default = e
  have h : l.length + 1 ≤ 1000000 := by rw [← hl, List.length_take]; omega
  have hc : l.countP (owsP id) ≤ 1000000 := Nat.le_trans List.countP_le_length (by omega)
  rw [owF_snoc, owStep, List.countP_append, List.countP_singleton]
  cases ho : e.own with
  | false =>
   rw [if_neg (by decide), h1]
   simp [owsP, ho]
  | true =>
   rw [if_pos rfl, putF]
   by_cases hp : e.id = id
   ·obtain rfl := hp
    rw [if_pos rfl, h1, wrap_small hc]
    simp [owsP, ho]
   ·rw [if_neg (fun q => hp (by injection q with e1 e2; exact e1.symm)), h1]
    simp [owsP, ho, hp]
 have := key l0.length (Nat.le_refl _)
 rwa [List.take_length] at this
theorem all_small {s : Shelf} (h7 : s.tables.length ≤ 7) (h4 : ∀ k, k < s.tables.length → (s.tables.getD k default).good) : s.all.length < 85 := by
 have := all_length s.tables fun t ht => by
  obtain ⟨k, hk⟩ := List.getElem?_of_mem ht
  have := (h4 k (List.getElem?_eq_some_iff.1 hk).1).2.2
  rw [List.getD_eq_getElem?_getD, hk] at this
  exact this
 unfold Shelf.all
 omega
theorem ends_85 {s : Shelf} {e : Entry} (hs : s.all.length < 85) (he : e ∈ s.all) : ∀ n, s.sEnds n e = true → s.sEnds 85 e = true := by
 have down : ∀ d, s.sEnds (85 + d) e = true → s.sEnds 85 e = true := by
  intro d
  induction d with
  | zero => exact id
  | succ d ih => exact fun h => ih (ends_short (n := 85 + d) (by omega) he h)
 have up : ∀ d n, n + d = 85 → s.sEnds n e = true → s.sEnds 85 e = true := by
  intro d
  induction d with
  | zero => rintro n rfl h; exact h
  | succ d ih => exact fun n hn h => ih (n + 1) (by omega) (sEnds_mono n e h)
 intro n h
 rcases Nat.le_total n 85 with q | q
 ·exact up (85 - n) n (by omega) h
 ·exact down (n - 85) (by rwa [show 85 + (n - 85) = n by omega])
structure Shelf.G (s : Shelf) : Prop where
 nx : 1 ≤ s.next ∧ s.next ≤ 1000000
 tb : 1 ≤ s.tables.length ∧ s.tables.length ≤ 7
 tg : s.goodT
 tt : ∀ i, i < s.tables.length → (s.tables.getD i default).good
 snd : ∀ i k, i < s.tables.length → k < (s.tables.getD i default).entries.length → s.soundE ((s.tables.getD i default).entries.getD k default)
 ends : ∀ i k, i < s.tables.length → k < (s.tables.getD i default).entries.length → ∃ n, s.sEnds n ((s.tables.getD i default).entries.getD k default) = true
 lends : ∀ i k, i < s.tables.length → k < (s.tables.getD i default).entries.length → ((s.tables.getD i default).entries.getD k default).lends = (s.all.countP (borP i ((s.tables.getD i default).entries.getD k default).num) : Int)
 own : ∀ k, k < s.things.length → s.all.countP (owsP (s.things.getD k default).id) = 1
theorem good_G {s : Shelf} (h : s.good) : s.G := by
 obtain ⟨⟨h1, h2, h3⟩, h4, h5, h6⟩ := (good_iff s).1 h
 have hs := all_small h2.2 fun k hk => (h4 k hk).1
 exact ⟨h1, h2, h3, fun i hi => (h4 i hi).1, fun i k hi hk => (h4 i hi).2 k hk, fun i k hi hk => ⟨85, (h5 i k hi hk).1⟩, fun i k hi hk => by rw [← leF_count (by omega)]; exact (h5 i k hi hk).2, fun k hk => by
  have := h6 k hk
  rw [owF_count (by omega)] at this
  omega⟩
theorem G_good {s : Shelf} (h : s.G) : s.good := by
 have hs := all_small h.tb.2 h.tt
 exact (good_iff s).2 ⟨⟨h.nx, h.tb, h.tg⟩, fun i hi => ⟨h.tt i hi, fun k hk => h.snd i k hi hk⟩, fun i k hi hk => ⟨by
  obtain ⟨n, hn⟩ := h.ends i k hi hk
  exact ends_85 hs (mem_all hi hk) n hn, by rw [leF_count (by omega)]; exact h.lends i k hi hk⟩, fun k hk => by rw [owF_count (by omega), h.own k hk]; rfl⟩
theorem grow_iff {α : Type} [Inhabited α] {f : α → Int} {l : List α} : (∀ k, k < l.length → (if k = 0 then 0 else f (l.getD (k - 1) default)) < f (l.getD k default)) ↔ (l.Pairwise (fun a b => f a < f b) ∧ ∀ x ∈ l, 0 < f x) := by
 constructor
 ·intro h
  have lt : ∀ j i, i < j → j < l.length → f (l.getD i default) < f (l.getD j default) := by
   intro j
   induction j with
   | zero => intro i hi; omega
   | succ j ih =>
    intro i hi hj
    have h1 := h (j + 1) hj
    rw [if_neg (by omega), Nat.add_sub_cancel] at h1
    rcases Nat.lt_or_eq_of_le (Nat.le_of_lt_succ hi) with q | rfl
    ·have := ih i q (by omega); omega
    ·exact h1
  have h0 : ∀ k, k < l.length → 0 < f (l.getD k default) := by
   intro k hk
   have h1 := h 0 (by omega)
   rw [if_pos rfl] at h1
   by_cases e : k = 0
   ·subst e; exact h1
   ·have := lt k 0 (by omega) hk; omega
  constructor
  ·rw [List.pairwise_iff_getElem]
   intro i j hi hj hij
   have := lt j i hij hj
   rw [List.getD_eq_getElem?_getD, List.getElem?_eq_getElem hi, List.getD_eq_getElem?_getD, List.getElem?_eq_getElem hj] at this
   exact this
  ·intro x hx
   obtain ⟨k, hk⟩ := List.getElem?_of_mem hx
   have := h0 k (List.getElem?_eq_some_iff.1 hk).1
   rw [List.getD_eq_getElem?_getD, hk] at this
   exact this
 ·rintro ⟨h1, h2⟩ k hk
  split
  ·exact h2 _ (getD_mem hk)
  ·rename_i hne
   rw [List.pairwise_iff_getElem] at h1
   have := h1 (k - 1) k (by omega) hk (by omega)
   rw [List.getD_eq_getElem?_getD, List.getElem?_eq_getElem (by omega), List.getD_eq_getElem?_getD, List.getElem?_eq_getElem hk]
   exact this
theorem all_getD {α : Type} [Inhabited α] {l : List α} {P : α → Prop} : (∀ k, k < l.length → P (l.getD k default)) ↔ ∀ x ∈ l, P x := by
 constructor
 ·intro h x hx
  obtain ⟨k, hk⟩ := List.getElem?_of_mem hx
  have := h k (List.getElem?_eq_some_iff.1 hk).1
  rw [List.getD_eq_getElem?_getD, hk] at this
  exact this
 ·exact fun h k hk => h _ (getD_mem hk)
def Thing.fine (nx : Int) (x : Thing) : Prop := x.id < nx ∧ (1 ≤ x.res ∧ x.res ≤ 8) ∧ (0 ≤ x.rep ∧ x.rep ≤ 2147483647)
theorem goodT_iff {s : Shelf} : s.goodT ↔ ((s.things.Pairwise (fun a b => a.id < b.id) ∧ ∀ x ∈ s.things, 0 < x.id) ∧ (∀ x ∈ s.things, x.fine s.next)) ∧ s.things.length ≤ 24 := by
 rw [← grow_iff (f := Thing.id), ← all_getD (l := s.things) (P := fun x => x.fine s.next)]
 constructor
 ·rintro ⟨h1, h2⟩
  exact ⟨⟨fun k hk => (h1 k hk).1, fun k hk => (h1 k hk).2⟩, h2⟩
 ·rintro ⟨⟨h1, h2⟩, h3⟩
  exact ⟨fun k hk => ⟨h1 k hk, h2 k hk⟩, h3⟩
theorem tgood_iff {t : Table} : t.good ↔ ((t.entries.Pairwise (fun a b => a.num < b.num) ∧ ∀ e ∈ t.entries, 0 < e.num) ∧ (∀ e ∈ t.entries, e.num < t.next ∧ 0 ≤ e.lends)) ∧ (1 ≤ t.next ∧ t.next ≤ 1000000) ∧ t.entries.length ≤ 12 := by
 rw [← grow_iff (f := Entry.num), ← all_getD (l := t.entries) (P := fun e : Entry => e.num < t.next ∧ 0 ≤ e.lends)]
 constructor
 ·rintro ⟨h1, h2⟩
  exact ⟨⟨fun k hk => (h1 k hk).1, fun k hk => (h1 k hk).2⟩, h2⟩
 ·rintro ⟨⟨h1, h2⟩, h3⟩
  exact ⟨fun k hk => ⟨h1 k hk, h2 k hk⟩, h3⟩
theorem thing_mem {s : Shelf} {id : Int} : (s.thing id).isSome = true ↔ ∃ x ∈ s.things, x.id = id := by
 unfold Shelf.thing
 rw [List.findIdx?_isSome, List.any_eq_true]
 simp only [idP, decide_eq_true_eq]
abbrev Shelf.en (s : Shelf) (i : Nat) : List Entry := (s.tables.getD i default).entries
def Entry.plain (e : Entry) : Prop := if e.own = true then e.scope = 0 ∧ e.from_ = 0 ∧ e.fromNum = 0 else 1 ≤ e.scope ∧ e.scope ≤ 1000000
structure Shelf.H (s : Shelf) : Prop where
 nx : 1 ≤ s.next ∧ s.next ≤ 1000000
 tb : 1 ≤ s.tables.length ∧ s.tables.length ≤ 7
 ids : s.things.Pairwise fun a b => a.id < b.id
 fine : ∀ x ∈ s.things, 0 < x.id ∧ x.fine s.next
 tl : s.things.length ≤ 24
 nums : ∀ i, i < s.tables.length → (s.en i).Pairwise fun a b => a.num < b.num
 num : ∀ i, i < s.tables.length → ∀ e ∈ s.en i, 0 < e.num ∧ e.num < (s.tables.getD i default).next
 tn : ∀ i, i < s.tables.length → (1 ≤ (s.tables.getD i default).next ∧ (s.tables.getD i default).next ≤ 1000000) ∧ (s.en i).length ≤ 12
 thing : ∀ i, i < s.tables.length → ∀ e ∈ s.en i, ∃ x ∈ s.things, x.id = e.id
 plain : ∀ i, i < s.tables.length → ∀ e ∈ s.en i, e.plain
 ends : ∀ i, i < s.tables.length → ∀ e ∈ s.en i, ∃ n, s.sEnds n e = true
 own : ∀ x ∈ s.things, s.all.countP (owsP x.id) = 1
def Shelf.Lds (s : Shelf) : Prop := ∀ i, i < s.tables.length → ∀ e ∈ s.en i, e.lends = (s.all.countP (borP i e.num) : Int)
theorem good_H {s : Shelf} (h : s.good) : s.H ∧ s.Lds := by
 have g := good_G h
 have hT := goodT_iff.1 g.tg
 have ht := fun i hi => tgood_iff.1 (g.tt i hi)
 exact ⟨⟨g.nx, g.tb, hT.1.1.1, fun x hx => ⟨hT.1.1.2 x hx, hT.1.2 x hx⟩, hT.2, fun i hi => (ht i hi).1.1.1, fun i hi e he => ⟨(ht i hi).1.1.2 e he, ((ht i hi).1.2 e he).1⟩, fun i hi => (ht i hi).2,
  fun i hi => all_getD.1 fun k hk => thing_mem.1 (g.snd i k hi hk).1, fun i hi => all_getD.1 fun k hk => (g.snd i k hi hk).2, fun i hi => all_getD.1 fun k hk => g.ends i k hi hk, all_getD.1 g.own⟩,
  fun i hi => (all_getD (P := fun e => e.lends = (s.all.countP (borP i e.num) : Int))).1 fun k hk => g.lends i k hi hk⟩
theorem H_good {s : Shelf} (h : s.H) (hl : s.Lds) : s.good := by
 refine G_good ⟨h.nx, h.tb, goodT_iff.2 ⟨⟨⟨h.ids, fun x hx => (h.fine x hx).1⟩, fun x hx => (h.fine x hx).2⟩, h.tl⟩, fun i hi => tgood_iff.2 ⟨⟨⟨h.nums i hi, fun e he => (h.num i hi e he).1⟩, fun e he => ⟨(h.num i hi e he).2, ?_⟩⟩, h.tn i hi⟩,
  fun i k hi hk => ⟨thing_mem.2 (h.thing i hi _ (getD_mem hk)), h.plain i hi _ (getD_mem hk)⟩, fun i k hi hk => h.ends i hi _ (getD_mem hk), fun i k hi hk => hl i hi _ (getD_mem hk), fun k hk => h.own _ (getD_mem hk)⟩
 rw [hl i hi e he]
 omega
theorem all_count {s : Shelf} {p : Entry → Bool} : s.all.countP p = ((List.range s.tables.length).map fun i => (s.en i).countP p).sum := by
 unfold Shelf.all
 rw [List.countP_flatMap]
 congr 1
 refine List.ext_getElem? fun i => ?_
 rw [List.getElem?_map, List.getElem?_map]
 by_cases h : i < s.tables.length
 ·rw [List.getElem?_eq_getElem h, List.getElem?_range h]
  simp only [Option.map_some, Function.comp, Shelf.en, List.getD_eq_getElem?_getD, List.getElem?_eq_getElem h, Option.getD_some]
 ·rw [List.getElem?_eq_none (by omega), List.getElem?_eq_none (by rw [List.length_range]; omega)]
  rfl
structure Shelf.Same (s s' : Shelf) (f : Nat → Entry → Entry) : Prop where
 nx : s'.next = s.next
 th : s'.things = s.things
 len : s'.tables.length = s.tables.length
 tn : ∀ i, i < s.tables.length → (s'.tables.getD i default).next = (s.tables.getD i default).next
 en : ∀ i, i < s.tables.length → s'.en i = (s.en i).map (f i)
 eq : ∀ i e, (f i e).num = e.num ∧ (f i e).id = e.id ∧ (f i e).own = e.own ∧ (f i e).scope = e.scope ∧ (f i e).from_ = e.from_ ∧ (f i e).fromNum = e.fromNum
theorem Shelf.Same.count {s s' : Shelf} {f : Nat → Entry → Entry} (h : s.Same s' f) {p : Entry → Bool} (hp : ∀ i e, p (f i e) = p e) : s'.all.countP p = s.all.countP p := by
 rw [all_count, all_count, h.len]
 congr 1
 refine List.map_congr_left fun i hi => ?_
 rw [h.en i (List.mem_range.1 hi), List.countP_map]
 congr 1
 funext e
 exact hp i e
theorem Shelf.Same.at {s s' : Shelf} {f : Nat → Entry → Entry} (h : s.Same s' f) {w n : Int} : s'.at_ w n = (s.at_ w n).map (f w.toNat) := by
 rw [at_eq, at_eq]
 have hT : s'.isT w = s.isT w := by unfold Shelf.isT; rw [h.len]
 rw [hT]
 split
 ·rename_i ht
  have ht' : 0 ≤ w ∧ w < (s.tables.length : Int) := by simpa [Shelf.isT] using ht
  have := h.en w.toNat (by omega)
  unfold Shelf.en at this
  rw [this, List.find?_map]
  congr 2
  funext e
  simp only [Function.comp, numP, (h.eq w.toNat e).1]
 ·rfl
theorem Shelf.Same.sEnds {s s' : Shelf} {f : Nat → Entry → Entry} (h : s.Same s' f) : ∀ (n : Nat) (i : Nat) (e : Entry), s'.sEnds n (f i e) = s.sEnds n e
 | 0, _, _ => rfl
 | n + 1, i, e => by
  have q := h.eq i e
  cases ho : e.own with
  | true => rw [Shelf.sEnds_own ho, Shelf.sEnds_own (by rw [q.2.2.1, ho])]
  | false =>
   have ho' : (f i e).own = false := by rw [q.2.2.1, ho]
   have hO : s'.orig (f i e) = (s.orig e).map (f e.from_.toNat) := by
    unfold Shelf.orig
    rw [h.at, q.2.2.2.2.1, q.2.2.2.2.2]
   cases hx : s.orig e with
   | none => rw [Shelf.sEnds_none ho hx, Shelf.sEnds_none ho' (by rw [hO, hx]; rfl)]
   | some x =>
    have hx' : s'.orig (f i e) = some (f e.from_.toNat x) := by rw [hO, hx]; rfl
    have hi' : (f e.from_.toNat x).id = x.id := (h.eq _ x).2.1
    by_cases hi : x.id = e.id
    ·rw [Shelf.sEnds_on ho hx hi, Shelf.sEnds_on ho' hx' (by rw [hi', q.2.1, hi]), h.sEnds n]
    ·rw [Shelf.sEnds_id ho hx hi, Shelf.sEnds_id ho' hx' (by rw [hi', q.2.1]; exact hi)]
theorem Shelf.Same.H {s s' : Shelf} {f : Nat → Entry → Entry} (h : s.Same s' f) (g : s.H) : s'.H := by
 have mem : ∀ {P : Entry → Prop} {i : Nat}, i < s'.tables.length → (∀ e ∈ s.en i, P (f i e)) → ∀ e ∈ s'.en i, P e := by
  intro P i hi hP e he
  rw [h.en i (h.len ▸ hi), List.mem_map] at he
  obtain ⟨x, hx, rfl⟩ := he
  exact hP x hx
 refine ⟨h.nx ▸ g.nx, h.len ▸ g.tb, h.th ▸ g.ids, fun x hx => ?_, h.th ▸ g.tl, fun i hi => ?_, fun i hi => mem hi fun e he => ?_, fun i hi => ?_, fun i hi => mem hi fun e he => ?_, fun i hi => mem hi fun e he => ?_, fun i hi => mem hi fun e he => ?_, fun x hx => ?_⟩
 ·rw [h.nx]; exact g.fine x (h.th ▸ hx)
 ·have hi' := h.len ▸ hi
  rw [h.en i hi', List.pairwise_map]
  exact (g.nums i hi').imp fun hab => by rw [(h.eq i _).1, (h.eq i _).1]; exact hab
 ·have hi' := h.len ▸ hi
  rw [h.tn i hi', (h.eq i e).1]; exact g.num i hi' e he
 ·have hi' := h.len ▸ hi
  rw [h.tn i hi', h.en i hi', List.length_map]; exact g.tn i hi'
 ·rw [h.th, (h.eq i e).2.1]; exact g.thing i (h.len ▸ hi) e he
 ·have := g.plain i (h.len ▸ hi) e he
  unfold Entry.plain at *
  obtain ⟨_, _, q3, q4, q5, q6⟩ := h.eq i e
  rw [q3, q4, q5, q6]; exact this
 ·obtain ⟨n, hn⟩ := g.ends i (h.len ▸ hi) e he
  exact ⟨n, by rw [h.sEnds n i e]; exact hn⟩
 ·rw [h.count fun i e => by unfold owsP; rw [(h.eq i e).2.1, (h.eq i e).2.2.1]]
  exact g.own x (h.th ▸ hx)
theorem H_small {s : Shelf} (h : s.H) : s.all.length < 85 := by
 have := all_length s.tables fun t ht => by
  obtain ⟨k, hk⟩ := List.getElem?_of_mem ht
  have := (h.tn k (List.getElem?_eq_some_iff.1 hk).1).2
  unfold Shelf.en at this
  rw [List.getD_eq_getElem?_getD, hk] at this
  exact this
 have := h.tb.2
 unfold Shelf.all
 omega
theorem relend_same (s : Shelf) : s.Same s.relend (fun i e => lendE (leF s.all) i e) := by
 refine ⟨rfl, rfl, lendU_len, fun i hi => lendU_next0, fun i hi => ?_, fun i e => ⟨rfl, rfl, rfl, rfl, rfl, rfl⟩⟩
 unfold Shelf.en Shelf.relend
 rw [lendU_tab]
 dsimp only
 refine List.ext_getElem? fun k => ?_
 rw [List.getElem?_mapIdx, List.getElem?_map]
 cases (s.tables.getD i default).entries[k]? with
 | none => rfl
 | some e => simp only [Option.map_some, hi, true_or, if_true]
theorem relend_good {s : Shelf} (h : s.H) : s.relend.good := by
 have hS := relend_same s
 refine H_good (hS.H h) fun i hi e he => ?_
 have hi' : i < s.tables.length := hS.len ▸ hi
 rw [hS.en i hi', List.mem_map] at he
 obtain ⟨x, hx, rfl⟩ := he
 rw [hS.count fun i e => rfl]
 show leF s.all [(i : Int), x.num] = _
 exact leF_count (by have := H_small h; omega)
theorem filter_count {α : Type} {p q : α → Bool} {l : List α} (h : ∀ x ∈ l, p x = true → q x = true) : (l.filter q).countP p = l.countP p := by
 rw [List.countP_filter]
 refine List.countP_congr fun x hx => ?_
 constructor
 ·intro hp; rw [Bool.and_eq_true] at hp; exact hp.1
 ·intro hp; rw [Bool.and_eq_true]; exact ⟨hp, h x hx hp⟩
theorem keep_H {s : Shelf} (h : s.H) {K : Nat → Entry → Bool} {T : List Thing} (hT : T.Sublist s.things)
  (ho : ∀ i, i < s.tables.length → ∀ e ∈ s.en i, K i e = true → e.own = false → ∃ x, s.at_ e.from_ e.fromNum = some x ∧ K e.from_.toNat x = true)
  (ht : ∀ i, i < s.tables.length → ∀ e ∈ s.en i, K i e = true → ∃ x ∈ T, x.id = e.id)
  (hk : ∀ x ∈ T, ∀ i, i < s.tables.length → ∀ e ∈ s.en i, e.own = true → e.id = x.id → K i e = true) : ((⟨s.next, s.tables, T⟩ : Shelf).keep K).H := by
 have hlen : ((⟨s.next, s.tables, T⟩ : Shelf).keep K).tables.length = s.tables.length := keep_len
 have hen : ∀ i, ((⟨s.next, s.tables, T⟩ : Shelf).keep K).en i = (s.en i).filter (K i) := fun i => by unfold Shelf.en; rw [keep_tab]
 have htn : ∀ i, (((⟨s.next, s.tables, T⟩ : Shelf).keep K).tables.getD i default).next = (s.tables.getD i default).next := fun i => by rw [keep_tab]
 have hmem : ∀ {i e}, e ∈ ((⟨s.next, s.tables, T⟩ : Shelf).keep K).en i → e ∈ s.en i ∧ K i e = true := fun {i e} he => by rw [hen] at he; exact List.mem_filter.1 he
 have hu : ∀ i, uniq ((⟨s.next, s.tables, T⟩ : Shelf).tables.getD i default).entries := fun i => by
  show uniq (s.tables.getD i default).entries
  by_cases hi : i < s.tables.length
  ·intro a b ha hb e
   have := h.nums i hi
   rw [List.pairwise_iff_getElem] at this
   have hlt : ∀ {a b}, a < b → b < (s.en i).length → ((s.en i).getD a default).num < ((s.en i).getD b default).num := fun {a b} hab hb => by
    have := this a b (by omega) hb hab
    rw [List.getD_eq_getElem?_getD, List.getElem?_eq_getElem (by omega), List.getD_eq_getElem?_getD, List.getElem?_eq_getElem hb]
    exact this
   rcases Nat.lt_trichotomy a b with q | q | q
   ·have := hlt q hb; unfold Shelf.en at this; omega
   ·exact q
   ·have := hlt q ha; unfold Shelf.en at this; omega
  ·rw [List.getD_eq_getElem?_getD, List.getElem?_eq_none (by omega)]
   intro a b ha; cases ha
 have hE : ∀ (n : Nat) (i : Nat) (e : Entry), i < s.tables.length → e ∈ s.en i → K i e = true → s.sEnds n e = true → ((⟨s.next, s.tables, T⟩ : Shelf).keep K).sEnds n e = true := by
  intro n
  induction n with
  | zero => intro i e _ _ _ q; cases q
  | succ n ih =>
   intro i e hi he hKe q
   cases hoe : e.own with
   | true => exact Shelf.sEnds_own hoe
   | false =>
    obtain ⟨x, hx, hKx⟩ := ho i hi e he hKe hoe
    have hx' : ((⟨s.next, s.tables, T⟩ : Shelf).keep K).orig e = some x := by
     unfold Shelf.orig
     rw [keep_at hu, show (⟨s.next, s.tables, T⟩ : Shelf).at_ e.from_ e.fromNum = s.at_ e.from_ e.fromNum from rfl, hx]
     simp only [Option.filter, hKx, if_true]
    obtain ⟨h1, h2, k, h3, h4⟩ := at_in hx
    by_cases hid : x.id = e.id
    ·rw [Shelf.sEnds_on hoe hx hid] at q
     rw [Shelf.sEnds_on hoe hx' hid]
     exact ih _ x h1 (h4 ▸ getD_mem h3) hKx q
    ·rw [Shelf.sEnds_id hoe hx hid] at q; cases q
 refine ⟨h.nx, hlen ▸ h.tb, h.ids.sublist hT, fun x hx => h.fine x (hT.subset hx), Nat.le_trans hT.length_le h.tl, fun i hi => ?_, fun i hi e he => ?_, fun i hi => ?_, fun i hi e he => ht i (hlen ▸ hi) e (hmem he).1 (hmem he).2, fun i hi e he => h.plain i (hlen ▸ hi) e (hmem he).1, fun i hi e he => ?_, fun x hx => ?_⟩
 ·rw [hen]; exact (h.nums i (hlen ▸ hi)).sublist List.filter_sublist
 ·rw [htn]; exact h.num i (hlen ▸ hi) e (hmem he).1
 ·rw [htn, hen]
  have := h.tn i (hlen ▸ hi)
  exact ⟨this.1, Nat.le_trans (List.length_filter_le _ _) this.2⟩
 ·obtain ⟨n, hn⟩ := h.ends i (hlen ▸ hi) e (hmem he).1
  exact ⟨n, hE n i e (hlen ▸ hi) (hmem he).1 (hmem he).2 hn⟩
 ·rw [← h.own x (hT.subset hx), all_count, all_count, hlen]
  congr 1
  refine List.map_congr_left fun i hi => ?_
  rw [hen]
  refine filter_count fun e he hp => ?_
  unfold owsP at hp
  rw [Bool.and_eq_true, decide_eq_true_eq] at hp
  exact hk x hx i (List.mem_range.1 hi) e he hp.1 hp.2
def cutE (num : Int) (l : List Entry) : Nat → Nat → AV := fun i j => if i < (cutL num l).length then elE Entry.cs (cutL num l) i j else [AV.i .i64 0, AV.i .i64 0, AV.kb false, AV.i .i64 0, AV.i .i64 0, AV.i .i64 0, AV.i .i64 0].getD j .any
theorem cutE_pl {num : Int} {l : List Entry} {i j : Nat} : pl1 (cutE num l i j) = true := by
 unfold cutE
 split
 ·exact pl1_getD rfl j
 ·exact pl1_getD rfl j
theorem keepH {num : Int} {l : List Entry} {j : Nat} (hj : j < l.length) (h : numP num ((cutM num l j).getD ((j : Nat) : Int).toNat default) = false) : ¬ (l.getD j default).num = num := by
 rw [Int.toNat_natCast, cutM_at (cutT_le (num := num) (l := l) (i := j)).1] at h
 simpa only [numP, decide_eq_false_iff_not] using h
theorem hitH {num : Int} {l : List Entry} {j : Nat} (hj : j < l.length) (h : ¬ numP num ((cutM num l j).getD ((j : Nat) : Int).toNat default) = false) : (l.getD j default).num = num := by
 rw [Int.toNat_natCast, cutM_at (cutT_le (num := num) (l := l) (i := j)).1] at h
 simpa only [numP, decide_eq_false_iff_not, Classical.not_not] using h
theorem cutE_idf {num : Int} {l : List Entry} {i j : Nat} : (cutE num l i j).idfO := by
 unfold cutE
 split
 ·exact HoldC.h _ j
 ·exact (holdC_plain (c := fun _ : Unit => [AV.i .i64 0, AV.i .i64 0, AV.kb false, AV.i .i64 0, AV.i .i64 0, AV.i .i64 0, AV.i .i64 0]) fun _ => rfl).h () j
theorem cutE_in {num : Int} {l : List Entry} {i j : Nat} (h : i < (cutL num l).length) : cutE num l i j = elE Entry.cs (cutL num l) i j := if_pos h
theorem getD_app {α : Type} [Inhabited α] {l m : List α} {i : Nat} (h : i < l.length) : (l ++ m).getD i default = l.getD i default := by
 rw [List.getD_eq_getElem?_getD, List.getD_eq_getElem?_getD, List.getElem?_append_left h]
theorem cutE_row {num : Int} {l : List Entry} {n : Nat} : RowPl ⟨7, n, cutE num l, .arr⟩ := ⟨fun i j _ _ => cutE_pl⟩
set_option maxRecDepth 8000 in
set_option maxHeartbeats 2000000 in
theorem deleteFunc_ok (l : List Entry) (num : Int) (hl : l.length ≤ 1048576) (q : Nat) (hq : l.findIdx? (numP num) = some q) (hlt : q < l.length) (h1 : ∀ j, j < q → ¬ (l.getD j default).num = num) (h2 : (l.getD q default).num = num) : RetM env.P 110 [some (rowL 7 Entry.cs l), some (boxRow [.i .i64 num])] [.row 0 l.length, .fn 111 [.ptr 1 0 0]] (fun r H => r = .row 0 (cutL num l).length ∧ H = [some ⟨7, l.length, cutE num l, .arr⟩, some (boxRow [.i .i64 num])]) := by
 have hS := cutM_start hlt h1 h2
 refine ret_ofM (nt := 42) (rvs := [.tmp 4]) Tryz.func110 rfl rfl rfl rfl (fun X hX => ?_)
 repeat' (first | exact aa | ((conv => whnf) <;> (first | (refine .inl ⟨_, Ret.wka (indexFuncEntry1_ok l 111 rfl [.i .i64 num] (numP num) hl (fun k hk => del1_ok _ _)), ?_⟩; rintro _ rfl; rw [hq]; simp only [idxI]) | refine loopN (l.length - (q + 1)) (fun k => [(6, .i .i64 ((q + 1 + k : Nat) : Int)), (5, .i .i64 ((cutL num (l.take (q + 1 + k))).length : Nat))]) (fun k => [some (.arr ⟨7, l.length, elE Entry.cs (cutM num l (q + 1 + k)), .arr⟩)]) (fun k => True) ⟨trivial, ?_⟩ | refine And.intro ?_ ?_ | (intro _h; first | contradiction | (try simp only [dd] at _h)) | (refine dt_go ?_) | exact rfl | exact True.intro | exact dkk | exact dks | ((first | refine .inl ⟨_, Ret.wka (del1_ok _ _), ?_⟩ | refine ⟨_, Ret.wka (del1_ok _ _), ?_⟩); (try rintro _ rfl)) | (refine wrap_succ ?_; omega))))
 ·exact congrArg _ hS.2.symm
 ·exact arr_same hS.1 rfl (fun a j => low_cells rfl)
 ·rename_i k _ _ _
  have := (cutT_le (num := num) (l := l) (i := q + 1 + k)).1
  omega
 ·rename_i k _ _ hj
  have hj' : q + 1 + k < l.length := by omega
  have hn := keepH hj' _h
  have hle := (cutT_le (num := num) (l := l) (i := q + 1 + k)).2
  rw [show q + 1 + (k + 1) = q + 1 + k + 1 from rfl, cutL_miss hj' hn, List.length_append, List.length_singleton, wrap_in (by omega) (by omega)]
  rfl
 ·rename_i k _ _ hj
  have hj' : q + 1 + k < l.length := by omega
  have hn := keepH hj' _h
  have hle := (cutT_le (num := num) (l := l) (i := q + 1 + k)).1
  conv => whnf
  refine arr_set (k := (cutL num (l.take (q + 1 + k))).length) (show cutM num l (q + 1 + (k + 1)) = _ from cutM_miss (k := q + 1 + k) hj' hn) (by rw [cutM_len]; omega) rfl (fun a j => low_cells rfl) ?_ ?_
  ·intro j hj
   have e0 : (cutM num l (q + 1 + k)).getD (((q + 1 + k : Nat) : Int)).toNat default = l.getD (q + 1 + k) default := by rw [Int.toNat_natCast, cutM_at hle]
   have hj7 : j < 7 := hj
   rw [← e0]
   rcases (show j = 0 ∨ j = 1 ∨ j = 2 ∨ j = 3 ∨ j = 4 ∨ j = 5 ∨ j = 6 by omega) with rfl | rfl | rfl | rfl | rfl | rfl | rfl
   all_goals (simp only [upd, Nat.beq_refl, Int.toNat_natCast]; rfl)
  ·intro a j hne
   simp only [upd, beq_ff hne, Bool.and_false, cond_false, Int.toNat_natCast]
 ·rename_i k _ _ hj
  have hj' : q + 1 + k < l.length := by omega
  exact congrArg _ (congrArg List.length (cutL_hit hj' (hitH hj' _h)).symm)
 ·rename_i k _ _ hj
  have hj' : q + 1 + k < l.length := by omega
  exact arr_same (cutM_hit hj' (hitH hj' _h)) rfl (fun a j => low_cells rfl)
 all_goals first | (exact Int.ofNat_le.2 cutT_le.2) | exact Int.le_refl _ | skip
 all_goals (conv => whnf)
 rename_i k _ _
 have hk : cutL num (l.take (q + 1 + k)) = cutL num l := cutL_all (by omega)
 have hM : cutM num l (q + 1 + k) = cutL num l ++ l.drop (cutL num l).length := by unfold cutM; rw [hk]
 refine endM_turn (turn_same (id := 0) (x := ⟨7, l.length, cutE num l, .arr⟩) rfl rfl rfl rfl rfl (fun i j hi hj => ?_)) ?_
 ·have hi' : i < l.length := hi
  dsimp only
  rw [hk, hM]
  have hle := cutL_le (num := num) (l := l)
  unfold cutE
  by_cases h : i < (cutL num l).length
  ·rw [if_pos h, segE_out (by omega)]
   unfold elE
   rw [getD_app h]
  ·rw [if_neg h, segE_in (by omega) (by omega)]
   rfl
 exact endM_pick [0, 1] [some ⟨7, l.length, cutE num l, .arr⟩, some (boxRow [.i .i64 num])] (.row 0 (cutL num l).length) (view_of rfl (.cons rfl (.self cutE_row) (.cons rfl (.self (rowPl_box rfl)) .nil))) (by rw [hk]; rfl) rfl (by rw [hX]; exact keepK (n := 2) rfl rfl) ⟨rfl, rfl⟩
theorem find_first {t : Table} {num : Int} {q : Nat} (h : t.find num = some q) : q < t.entries.length ∧ (t.entries.getD q default).num = num ∧ ∀ j, j < q → ¬ (t.entries.getD j default).num = num := by
 refine ⟨(find_lt h).1, (find_lt h).2, fun j hj hn => ?_⟩
 unfold Table.find at h
 rw [List.findIdx?_eq_some_iff_getElem] at h
 obtain ⟨hk, _, hb⟩ := h
 have := hb j hj
 rw [List.getD_eq_getElem?_getD, List.getElem?_eq_getElem (by omega)] at hn
 simp only [numP, Bool.not_eq_true, decide_eq_false_iff_not] at this
 exact this hn
set_option maxRecDepth 8000 in
set_option maxHeartbeats 2000000 in
theorem remove_ok (s : Shelf) (h : s.ok) (who num : Int) (hw : 0 ≤ who ∧ who < (s.tables.length : Int)) (h7 : s.tables.length ≤ 7) (q : Nat) (hq : (s.tables.getD who.toNat default).find num = some q) : RetM env.P 82 [some (boxRow s.csO)] [.ptr 0 0 0, .i .i64 who, .i .i64 num] (fun r H => r = .tup [] ∧ H = [some (boxRow (s.cut who.toNat num).csO)]) := by
 have hl : s.tables.length ≤ 1048576 := h.1.1
 have hw2 : who.toNat < s.tables.length := by omega
 have he : (s.tables.getD who.toNat default).entries.length ≤ 1048576 := entLe h _
 have hf := find_first hq
 refine ret_ofM (nt := 23) (rvs := []) Tryz.func82 rfl rfl rfl rfl (fun X hX => ?_)
 repeat' (first | exact aa | ((conv => whnf) <;> (first | (refine .inr (.inl (.inl ⟨[3, 1], _, _, _, deleteFunc_ok (s.tables.getD who.toNat default).entries num he q hq hf.1 hf.2.2 hf.2.1, (view_of rfl (.cons rfl (.self (rowPl_L fun _ => rfl)) (.cons rfl (.self (rowPl_box rfl)) .nil))), ⟨rfl, rfl⟩, ?_⟩)); rintro _ _ ⟨rfl, rfl⟩; refine ⟨rfl, _, lok_pl (.cons cutE_row (.cons (rowPl_box rfl) .nil)), ?_⟩) | refine And.intro ?_ ?_ | (intro _h; first | contradiction | (try simp only [dd] at _h)) | (refine dt_go ?_) | exact rfl | exact True.intro | exact dkk | exact dks | (refine wrap_succ ?_; omega))))
 all_goals (conv => whnf)
 all_goals refine endM_turn (turn_close (id := 2) (i := who.toNat) (j := 1) (id' := 3) rfl hw2 (show 1 < 2 by decide) (by exact upd_self) rfl (show 2 ≠ 3 by decide) rfl ⟨cutL_le, fun i j _ _ => cutE_idf⟩) ?_
 all_goals refine endM_turn (turn_eq (id := 2) (x := rowL 2 Table.csO (s.setE who.toNat (cutL num (s.tables.getD who.toNat default).entries)).tables) rfl rfl setE_len rfl rfl (setE_rows3 (l := (cutL num (s.tables.getD who.toNat default).entries)) hw2 rfl (fun i j hi _ => by dsimp only; rw [cutE_in hi]; exact .refl _))) ?_
 all_goals refine endM_turn (turn_close (id := 0) (i := 0) (j := 1) (id' := 2) rfl (show 0 < 1 by decide) (show 1 < 3 by decide) rfl rfl (show 0 ≠ 2 by decide) rfl (rowO_le (Nat.le_of_eq setE_len.symm))) ?_
 all_goals refine endM_turn (turn_box (id := 0) (ds := (s.setE who.toNat (cutL num (s.tables.getD who.toNat default).entries)).csO) rfl rfl rfl (.cons (.refl _) (.cons (OwEq.len setE_len.symm (fun i j _ _ => HoldC.h _ j) (fun i j _ _ => .refl _)) (.cons (.refl _) .nil)))) ?_
 all_goals exact endM_pick [0] [some (boxRow (s.cut who.toNat num).csO)] (.tup []) (view_of rfl (.cons rfl (.self (rowPl_box rfl)) .nil)) rfl rfl (by rw [hX]; exact keepK (n := 1) rfl rfl) ⟨rfl, rfl⟩
end Go.Proofs.YtmglpojnoadgeaaGreat
