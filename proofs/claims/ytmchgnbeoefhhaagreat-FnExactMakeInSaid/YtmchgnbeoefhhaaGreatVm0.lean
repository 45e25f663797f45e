/- Texts for VMakeInP. -/
import Derived.WalkKit
import Derived.MapKept
import Derived.WideKeyEntry
import Derived.DeepKeys4
import Derived.WideKeyArr
import Derived.Laws.Cells
import Derived.Laws.CopyRow
namespace Go.Proofs.YtmchgnbeoefhhaaGreat
open Go Go.RowKit
set_option linter.unusedVariables false
set_option linter.unusedSimpArgs false
section
open Go Go.MapKept
def keyV (ak : Bool) (ks : List Int) : Value := match ak with
 | true => .agg (ks.map (Value.int .i64)).toArray
 | false => .int .i64 (ks.headD 0)
def ok2 (ks : List Int) : Prop := ∃ a b, ks = [a, b] ∧ (Lit.int .i64 a).wf = true ∧ (Lit.int .i64 b).wf = true
def okK : Bool → List Int → Prop
 | true => ok2
 | false => fun ks => ks.length = 1
def MapOk (w : World) (b : Nat) (ak : Bool) (f : List Int → Int) (sts : List (Int × List Int)) : Prop :=
 ∃ (es : Array MapEntry) (clock : Nat), w.heap[b]? = some (.map es clock) ∧ Stamped es clock ∧
  (∀ e ∈ es.toList, ∃ ks, okK ak ks ∧ e.key = keyV ak ks ∧ e.val = .int .i64 (f ks) ∧ (Lit.int .i64 (f ks)).wf = true) ∧
  (∀ ks, okK ak ks → (∀ e ∈ es.toList, e.key ≠ keyV ak ks) → f ks = 0) ∧
  (∀ p ∈ sts, okK ak p.2 ∧ ∃ e ∈ es.toList, (e.born : Int) = p.1 ∧ e.key = keyV ak p.2)
theorem MapOk.mono {w w' : World} {b : Nat} {ak : Bool} {f : List Int → Int} {sts : List (Int × List Int)} (h : MapOk w b ak f sts) (hb : w'.heap[b]? = w.heap[b]?) : MapOk w' b ak f sts := by
 obtain ⟨es, clock, h1, h2⟩ := h
 exact ⟨es, clock, hb.trans h1, h2⟩
theorem MapOk.less {w : World} {b : Nat} {ak : Bool} {f : List Int → Int} {sts : List (Int × List Int)} (h : MapOk w b ak f sts) : MapOk w b ak f [] := by
 obtain ⟨es, clock, h1, h2, h3, h4, _⟩ := h
 exact ⟨es, clock, h1, h2, h3, h4, by simp⟩
structure MKey (P : Program) (kt : TypeId) (ak : Bool) : Prop where
 check : ∀ (w : World) (em : Bool) (ks : List Int), okK ak ks → (Instr.checkKey em 10000 kt (keyV ak ks)).run P w = .ok () w
 find : ∀ (w : World) (ks : List Int), okK ak ks → ∀ es : List MapEntry, (∀ e ∈ es, ∃ ks', okK ak ks' ∧ e.key = keyV ak ks') →
  ((Instr.findKey kt (keyV ak ks) es).run P w = .ok none w ∧ ∀ e ∈ es, e.key ≠ keyV ak ks) ∨ ∃ j e, (Instr.findKey kt (keyV ak ks) es).run P w = .ok (some (j, e.val)) w ∧ es[j]? = some e ∧ e.key = keyV ak ks
 stays : ∀ (w : World) (ks : List Int), okK ak ks → (Instr.keyThatStays (keyV ak ks) (keyV ak ks)).run P w = .ok (keyV ak ks) w
 inj : ∀ ks ks' : List Int, okK ak ks → okK ak ks' → keyV ak ks = keyV ak ks' → ks = ks'
theorem isKey_int (ks : List Int) : IsKey (.int .i64) (keyV false ks) := by show IsKey (.int .i64) (.int .i64 _); exact rfl
theorem mkey_int {P : Program} {kt : TypeId} (hu : P.underlying kt = some (.int .i64)) : MKey P kt false where
 check := fun w em ks _ => run_checkKey (d := .int .i64) hu (isKey_int ks) em 9999
 find := fun w ks _ es hes => by
  rcases findNow_spec (d := .int .i64) (k := keyV false ks) (isKey_int ks) es 0 (fun e he => by obtain ⟨ks', _, h⟩ := hes e he; rw [h]; exact isKey_int ks') with ⟨h1, h2⟩ | ⟨j, e, h1, h2, h3⟩
  ·exact .inl ⟨run_findKey hu h1, h2⟩
  ·exact .inr ⟨j, e, by have := run_findKey (w := w) hu h1; simpa using this, h2, h3⟩
 stays := fun w ks _ => run_keyThatStays (isKey_int ks)
 inj := fun ks ks' h h' e => by
  obtain ⟨a, rfl⟩ := List.length_eq_one_iff.1 h
  obtain ⟨b, rfl⟩ := List.length_eq_one_iff.1 h'
  simp [keyV] at e
  rw [e]
theorem keyOf2 {P : Program} {k e : TypeId} (A : WideMaps.ArrKey P k e 2) (he : P.underlying e = some (.int .i64)) (hsz : ∃ m, P.types.size = m + 1) {ks : List Int} (h : ok2 ks) : ∃ l, keyOf P k (keyV true ks) = some l := by
 obtain ⟨a, b, rfl, ha, hb⟩ := h
 have h1 := A.keyType hsz
 obtain ⟨m, hm⟩ := hsz
 have h2 : (Value.agg #[.int .i64 a, .int .i64 b]).formed P k = true := by
  simp [Value.formed, A.hu, A.size]
 unfold keyOf keyV
 rw [A.hu]
 dsimp only
 simp [h1, h2, hm, Program.keyLits, A.hu, A.size, A.one, he, ha, hb, List.range, List.range.loop, Value.cells]
theorem mkey_arr2 {P : Program} {k e : TypeId} (A : WideMaps.ArrKey P k e 2) (he : P.underlying e = some (.int .i64)) (hsz : ∃ m, P.types.size = m + 1) : MKey P k true where
 check := fun w em ks h => by obtain ⟨l, hl⟩ := keyOf2 A he hsz h; exact A.law.check w em hl
 find := fun w ks h es hes => by
  obtain ⟨l, hl⟩ := keyOf2 A he hsz h
  exact A.law.find w hl es fun x hx => by obtain ⟨ks', h', q⟩ := hes x hx; rw [q]; exact keyOf2 A he hsz h'
 stays := fun w ks h => by obtain ⟨l, hl⟩ := keyOf2 A he hsz h; exact A.law.stays w hl
 inj := fun ks ks' h h' q => by
  obtain ⟨a, b, rfl, _⟩ := h
  obtain ⟨c, d, rfl, _⟩ := h'
  simpa [keyV] using q
section
variable {P : Program} {t kt et : TypeId} {w : World} {b : Nat} {ak : Bool} {f : List Int → Int} {sts : List (Int × List Int)}
theorem MapOk.wf (h : MapOk w b ak f sts) {ks : List Int} (hk : okK ak ks) (inj : ∀ ks ks' : List Int, okK ak ks → okK ak ks' → keyV ak ks = keyV ak ks' → ks = ks') : (Lit.int .i64 (f ks)).wf = true := by
 obtain ⟨es, clock, hb, hs, he, h0, _⟩ := h
 by_cases hx : ∃ e ∈ es.toList, e.key = keyV ak ks
 ·obtain ⟨e, h1, h2⟩ := hx
  obtain ⟨ks', q1, q2, q3, q4⟩ := he e h1
  obtain rfl := inj _ _ hk q1 (h2.symm.trans q2)
  exact q4
 ·rw [h0 ks hk (fun e h1 h2 => hx ⟨e, h1, h2⟩)]
  decide
theorem map_lookup (K : MKey P kt ak) (ht : P.underlying t = some (.map kt et)) (hz : ∀ u : World, (zeroValue et).run P u = .ok (.int .i64 0) u) (h : MapOk w b ak f sts) {ks : List Int} (hk : okK ak ks) :
  (Instr.lookup t (.map (some b)) (keyV ak ks) false).run P w = .ok (.int .i64 (f ks)) w := by
 obtain ⟨es, clock, hb, hs, he, h0, _⟩ := h
 rcases K.find w ks hk es.toList (fun e hx => by obtain ⟨ks', h1, h2, _⟩ := he e hx; exact ⟨ks', h1, h2⟩) with ⟨h1, h2⟩ | ⟨j, e, h1, h2, h3⟩
 ·rw [h0 ks hk h2]
  simp [Instr.lookup, run_underlying ht, MapKept.run_getObj_map hb, K.check w _ ks hk, h1, hz, Result.andThen]
 ·obtain ⟨ks', q1, q2, q3, _⟩ := he e (List.mem_of_getElem? h2)
  obtain rfl := K.inj _ _ hk q1 (h3.symm.trans q2)
  simp [Instr.lookup, run_underlying ht, MapKept.run_getObj_map hb, K.check w _ ks hk, h1, q3, Result.andThen]
theorem map_make : (Instr.makeMap t none).run P w = .ok (.map (some w.heap.size)) (w.alloc (.map #[] 0)) ∧ MapOk (w.alloc (.map #[] 0)) w.heap.size ak (fun _ => 0) [] := by
 obtain ⟨h1, _⟩ := heap_alloc w (.map #[] 0)
 refine ⟨?_, #[], 0, h1, stamped_empty 0, by simp, by simp, by simp⟩
 simp only [Instr.makeMap, Sem.run_bind, Sem.run_pure, newObj]
 rfl
theorem mem_modify {α : Type} {es : Array α} {i : Nat} {g : α → α} {x : α} (h : x ∈ (es.modify i g).toList) : (∃ e, es[i]? = some e ∧ x = g e) ∨ ∃ j, j ≠ i ∧ es[j]? = some x := by
 obtain ⟨j, hj⟩ := List.getElem?_of_mem h
 rw [Array.getElem?_toList, Array.getElem?_modify] at hj
 by_cases e : i = j
 ·subst e
  rw [if_pos rfl] at hj
  obtain ⟨y, hy, rfl⟩ := Option.map_eq_some_iff.1 hj
  exact .inl ⟨y, hy, rfl⟩
 ·rw [if_neg e] at hj
  exact .inr ⟨j, fun h => e h.symm, hj⟩
theorem keys_apart {es : Array MapEntry} {clock : Nat} (hs : Stamped es clock) {i j : Nat} {x y : MapEntry} (hi : es[i]? = some x) (hj : es[j]? = some y) (hij : i ≠ j) : x.key ≠ y.key := by
 obtain ⟨_, _, hp⟩ := (stamped_iff es clock).1 hs
 have hi' : es.toList[i]? = some x := by simpa using hi
 have hj' : es.toList[j]? = some y := by simpa using hj
 have q := List.pairwise_iff_getElem.1 hp
 obtain ⟨li, e1⟩ := List.getElem?_eq_some_iff.1 hi'
 obtain ⟨lj, e2⟩ := List.getElem?_eq_some_iff.1 hj'
 rcases Nat.lt_or_gt_of_ne hij with h | h
 ·have := q i j li lj h; rw [e1, e2] at this; exact this
 ·have := q j i lj li h; rw [e1, e2] at this; exact fun e => this e.symm
def putF (f : List Int → Int) (ks : List Int) (v : Int) : List Int → Int := fun x => if x = ks then v else f x
theorem MapOk.setAt (K : MKey P kt ak) {es : Array MapEntry} {clock : Nat} (hb : w.heap[b]? = some (.map es clock)) (hs : Stamped es clock)
  (he : ∀ e ∈ es.toList, ∃ ks, okK ak ks ∧ e.key = keyV ak ks ∧ e.val = .int .i64 (f ks) ∧ (Lit.int .i64 (f ks)).wf = true) (h0 : ∀ ks, okK ak ks → (∀ e ∈ es.toList, e.key ≠ keyV ak ks) → f ks = 0)
  (hst : ∀ p ∈ sts, okK ak p.2 ∧ ∃ e ∈ es.toList, (e.born : Int) = p.1 ∧ e.key = keyV ak p.2) {ks : List Int} (hk : okK ak ks) {v : Int} (hv : (Lit.int .i64 v).wf = true) {i : Nat} {e0 : MapEntry} (hi : es[i]? = some e0) (h3 : e0.key = keyV ak ks) (g : MapEntry → MapEntry)
  (hg : ∀ e, e.key = keyV ak ks → (g e).key = e.key ∧ (g e).born = e.born ∧ (g e).val = .int .i64 v) (hgb : ∀ e, (g e).born = e.born) : MapOk { w with heap := w.heap.setIfInBounds b (.map (es.modify i g) clock) } b ak (putF f ks v) sts := by
 have hkeys : ∀ x ∈ es.toList, ∃ y ∈ (es.modify i g).toList, y.key = x.key ∧ y.born = x.born := by
  intro x hx
  obtain ⟨j, hj⟩ := List.getElem?_of_mem hx
  have hj' : es[j]? = some x := by simpa using hj
  by_cases e : i = j
  ·subst e
   rw [hi] at hj'
   cases hj'
   refine ⟨g e0, List.mem_of_getElem? (i := i) (by rw [Array.getElem?_toList, Array.getElem?_modify, if_pos rfl, hi]; rfl), (hg e0 h3).1, (hg e0 h3).2.1⟩
  ·exact ⟨x, List.mem_of_getElem? (i := j) (by rw [Array.getElem?_toList, Array.getElem?_modify, if_neg e, hj']), rfl, rfl⟩
 refine ⟨_, clock, (heap_set (o' := .map (es.modify i g) clock) hb).1, stamped_modify hs i g (fun e _ => hgb e) (fun e _ hei => ?_), fun x hx => ?_, fun ks' hk' hn => ?_, fun p hp => ?_⟩
 ·rw [hi] at hei; cases hei; exact (hg e0 h3).1
 ·rcases mem_modify hx with ⟨e, hei, rfl⟩ | ⟨j, hj, hjx⟩
  ·rw [hi] at hei; cases hei
   refine ⟨ks, hk, (hg e0 h3).1.trans h3, ?_, ?_⟩
   ·rw [(hg e0 h3).2.2]; simp [putF]
   ·simpa [putF] using hv
  ·obtain ⟨ks', q1, q2, q3, q4⟩ := he x (List.mem_of_getElem? (by simpa using hjx))
   have : ks' ≠ ks := by
    rintro rfl
    exact keys_apart hs hjx hi hj (q2.trans h3.symm)
   exact ⟨ks', q1, q2, by simpa [putF, this] using q3, by simpa [putF, this] using q4⟩
 ·have hne : ks' ≠ ks := by
   rintro rfl
   obtain ⟨y, hy, e1, _⟩ := hkeys e0 (List.mem_of_getElem? (by simpa using hi))
   exact hn y hy (e1.trans h3)
  simp only [putF, if_neg hne]
  refine h0 ks' hk' fun e he' hek => ?_
  obtain ⟨y, hy, e1, _⟩ := hkeys e he'
  exact hn y hy (e1.trans hek)
 ·obtain ⟨q0, e, he', e1, e2⟩ := hst p hp
  obtain ⟨y, hy, q1, q2⟩ := hkeys e he'
  exact ⟨q0, y, hy, by rw [q2]; exact e1, q1.trans e2⟩
theorem MapOk.pushed (K : MKey P kt ak) {es : Array MapEntry} {clock : Nat} (hb : w.heap[b]? = some (.map es clock)) (hs : Stamped es clock)
  (he : ∀ e ∈ es.toList, ∃ ks, okK ak ks ∧ e.key = keyV ak ks ∧ e.val = .int .i64 (f ks) ∧ (Lit.int .i64 (f ks)).wf = true) (h0 : ∀ ks, okK ak ks → (∀ e ∈ es.toList, e.key ≠ keyV ak ks) → f ks = 0)
  (hst : ∀ p ∈ sts, okK ak p.2 ∧ ∃ e ∈ es.toList, (e.born : Int) = p.1 ∧ e.key = keyV ak p.2) {ks : List Int} (hk : okK ak ks) {v : Int} (hv : (Lit.int .i64 v).wf = true) (hno : ∀ e ∈ es.toList, e.key ≠ keyV ak ks) :
  MapOk { w with heap := w.heap.setIfInBounds b (.map (es.push { key := keyV ak ks, val := .int .i64 v, born := clock }) (clock + 1)) } b ak (putF f ks v) (sts) ∧
  MapOk { w with heap := w.heap.setIfInBounds b (.map (es.push { key := keyV ak ks, val := .int .i64 v, born := clock }) (clock + 1)) } b ak (putF f ks v) (((clock : Nat), ks) :: sts) := by
 have main : MapOk { w with heap := w.heap.setIfInBounds b (.map (es.push { key := keyV ak ks, val := .int .i64 v, born := clock }) (clock + 1)) } b ak (putF f ks v) (((clock : Nat), ks) :: sts) := by
  refine ⟨_, clock + 1, (heap_set (o' := .map (es.push { key := keyV ak ks, val := .int .i64 v, born := clock }) (clock + 1)) hb).1, stamped_push hs hno, fun x hx => ?_, fun ks' hk' hn => ?_, fun p hp => ?_⟩
  ·rw [Array.toList_push] at hx
   rcases List.mem_append.1 hx with hy | hx
   ·obtain ⟨ks', q1, q2, q3, q4⟩ := he x hy
    have : ks' ≠ ks := by
     rintro rfl
     exact hno x hy q2
    exact ⟨ks', q1, q2, by simpa [putF, this] using q3, by simpa [putF, this] using q4⟩
   ·obtain rfl := List.mem_singleton.1 hx
    exact ⟨ks, hk, rfl, by simp [putF], by simpa [putF] using hv⟩
  ·have hne : ks' ≠ ks := by
    rintro rfl
    exact hn { key := keyV ak ks', val := .int .i64 v, born := clock } (by simp) rfl
   simp only [putF, if_neg hne]
   exact h0 ks' hk' fun e he' => hn e (by simp [he'])
  ·rcases List.mem_cons.1 hp with rfl | hp
   ·exact ⟨hk, _, by simp; exact .inr rfl, rfl, rfl⟩
   ·obtain ⟨q0, e, he', q1, q2⟩ := hst p hp
    exact ⟨q0, e, by simp [he'], q1, q2⟩
 refine ⟨?_, main⟩
 obtain ⟨es', c', h1, h2, h3, h4, h5⟩ := main
 exact ⟨es', c', h1, h2, h3, h4, fun p hp => h5 p (List.mem_cons_of_mem _ hp)⟩
theorem map_update (K : MKey P kt ak) (ht : P.underlying t = some (.map kt et)) (h : MapOk w b ak f sts) {ks : List Int} (hk : okK ak ks) {v : Int} (hv : (Lit.int .i64 v).wf = true) :
  ∃ o, (Instr.mapUpdate t (.map (some b)) (keyV ak ks) (.int .i64 v)).run P w = .ok () { w with heap := w.heap.setIfInBounds b o } ∧ MapOk { w with heap := w.heap.setIfInBounds b o } b ak (putF f ks v) sts := by
 obtain ⟨es, clock, hb, hs, he, h0, hst⟩ := h
 rcases K.find w ks hk es.toList (fun e hx => by obtain ⟨ks', h1, h2, _⟩ := he e hx; exact ⟨ks', h1, h2⟩) with ⟨h1, h2⟩ | ⟨j, e, h1, h2, h3⟩
 ·refine ⟨_, ?_, (MapOk.pushed K hb hs he h0 hst hk hv h2).1⟩
  simp [Instr.mapUpdate, run_underlying ht, MapKept.run_getObj_map hb, K.check w _ ks hk, h1, Result.andThen, MapKept.run_setObj_map _ hb]
 ·have h2' : es[j]? = some e := by simpa using h2
  refine ⟨_, ?_, MapOk.setAt K hb hs he h0 hst hk hv h2' h3 (fun e => { e with key := keyV ak ks, val := .int .i64 v }) (fun e he => ⟨he.symm, rfl, rfl⟩) (fun e => rfl)⟩
  simp [Instr.mapUpdate, run_underlying ht, MapKept.run_getObj_map hb, K.check w _ ks hk, h1, h2', h3, K.stays w ks hk, Result.andThen, MapKept.run_setObj_map _ hb]
theorem map_entry (K : MKey P kt ak) (ht : P.underlying t = some (.map kt et)) (hz : ∀ u : World, (zeroValue et).run P u = .ok (.int .i64 0) u) (h : MapOk w b ak f sts) {ks : List Int} (hk : okK ak ks) :
  ∃ (o : Obj) (st : Int), (Instr.mapEntry t (.map (some b)) (keyV ak ks)).run P w = .ok (.tuple #[.int .i64 (f ks), .int .i64 st]) { w with heap := w.heap.setIfInBounds b o } ∧ MapOk { w with heap := w.heap.setIfInBounds b o } b ak f ((st, ks) :: sts) := by
 have hwf := h.wf hk K.inj
 obtain ⟨es, clock, hb, hs, he, h0, hst⟩ := h
 have same : putF f ks (f ks) = f := by
  funext x
  unfold putF
  split
  ·subst_vars; rfl
  ·rfl
 rcases K.find w ks hk es.toList (fun e hx => by obtain ⟨ks', h1, h2, _⟩ := he e hx; exact ⟨ks', h1, h2⟩) with ⟨h1, h2⟩ | ⟨j, e, h1, h2, h3⟩
 ·have hf := h0 ks hk h2
  have hp := (MapOk.pushed (w := w) K hb hs he h0 hst hk hwf h2).2
  rw [same] at hp
  refine ⟨_, (clock : Nat), ?_, hp⟩
  rw [hf]
  simp [Instr.mapEntry, run_underlying ht, MapKept.run_getObj_map hb, K.check w _ ks hk, h1, hz, Result.andThen, MapKept.run_setObj_map _ hb, goInt]
 ·have h2' : es[j]? = some e := by simpa using h2
  have hm := List.mem_of_getElem? h2
  obtain ⟨ks', q1, q2, q3, q4⟩ := he e hm
  obtain rfl := K.inj _ _ hk q1 (h3.symm.trans q2)
  have hp : MapOk { w with heap := w.heap.setIfInBounds b (.map (es.modify j fun e => { e with key := keyV ak ks }) clock) } b ak f sts := by
   have hg : es.modify j (fun e => { e with key := keyV ak ks }) = es.modify j (fun e => { e with key := keyV ak ks, val := .int .i64 (f ks) }) := by
    apply Array.ext_getElem?
    intro i
    rw [Array.getElem?_modify, Array.getElem?_modify]
    by_cases e1 : j = i
    ·subst e1
     rw [if_pos rfl, if_pos rfl, h2']
     simp [q3]
    ·rw [if_neg e1, if_neg e1]
   rw [hg]
   have := MapOk.setAt (w := w) (f := f) K hb hs he h0 hst hk hwf h2' h3 (fun e => { e with key := keyV ak ks, val := .int .i64 (f ks) }) (fun e he => ⟨he.symm, rfl, rfl⟩) (fun e => rfl)
   rwa [same] at this
  refine ⟨.map (es.modify j fun e => { e with key := keyV ak ks }) clock, (e.born : Nat), ?_, ?_⟩
  ·simp [Instr.mapEntry, run_underlying ht, MapKept.run_getObj_map hb, K.check w _ ks hk, h1, h2', h3, K.stays w ks hk, q3, Result.andThen, MapKept.run_setObj_map _ hb, goInt]
  ·obtain ⟨es', c', p1, p2, p3, p4, p5⟩ := hp
   have hh := (heap_set (w := w) (r := b) (o' := .map (es.modify j fun e => { e with key := keyV ak ks }) clock) hb).1
   have : es' = es.modify j fun e => { e with key := keyV ak ks } := by
    rw [hh] at p1
    cases p1
    rfl
   refine ⟨es', c', p1, p2, p3, p4, fun p hp => ?_⟩
   rcases List.mem_cons.1 hp with rfl | hp
   ·refine ⟨hk, { e with key := keyV ak ks }, ?_, rfl, rfl⟩
    rw [this]
    exact List.mem_of_getElem? (i := j) (by rw [Array.getElem?_toList, Array.getElem?_modify, if_pos rfl, h2']; rfl)
   ·exact p5 p hp
theorem map_store (K : MKey P kt ak) (h : MapOk w b ak f sts) {ks : List Int} {st : Int} (hst : (st, ks) ∈ sts) {v : Int} (hv : (Lit.int .i64 v).wf = true) :
  ∃ o, (Instr.entryStore t (.map (some b)) (.int .i64 st) (.int .i64 v)).run P w = .ok () { w with heap := w.heap.setIfInBounds b o } ∧ MapOk { w with heap := w.heap.setIfInBounds b o } b ak (putF f ks v) sts := by
 obtain ⟨es, clock, hb, hs, he, h0, hs'⟩ := h
 obtain ⟨hk, e, hm, h1, h2⟩ := hs' _ hst
 dsimp only at hk h1 h2
 obtain ⟨j, hj⟩ := List.getElem?_of_mem hm
 have hj' : es[j]? = some e := by simpa using hj
 have hfind := WideElems.findIdx_born (l := es.toList) ((stamped_iff es clock).1 hs).2.1 hj
 rw [← WideElems.findIdx_arr] at hfind
 refine ⟨_, ?_, MapOk.setAt K hb hs he h0 hs' hk hv hj' h2 (fun e => { e with val := .int .i64 v }) (fun e he => ⟨rfl, rfl, rfl⟩) (fun e => rfl)⟩
 rw [← h1]
 simp only [Instr.entryStore, Sem.run_bind, MapKept.run_getObj_map hb, Result.andThen_ok, asInt, asIntOf, Sem.run_pure]
 rw [hfind]
 simp [MapKept.run_setObj_map _ hb]
end
end
theorem add_mk (b o n : Nat) : (⟨b, o, none⟩ : Addr).add n = ⟨b, o + n, none⟩ := by
 unfold Addr.add
 split
 ·simp [*]
 ·rfl
inductive AV where
 | any
 | i (k : IntKind) (n : Int)
 | b (x : Bool)
 | kb (x : Bool)
 | s (x : ByteArray)
 | nils
 | nilp
 | sl (sz n : Nat) (g : Nat → Nat → AV)
 | rf (m : Nat) (g : Nat → AV)
 | ow (sz n : Nat) (g : Nat → Nat → AV)
 | ptr (id j off : Nat)
 | row (id n : Nat)
 | rs (id o n : Nat)
 | mp (id : Nat)
 | fm (ak : Bool) (f : List Int → Int)
 | st (z : Int)
 | agg (cs : List AV)
 | tup (cs : List AV)
 | fn (f : FuncId) (cs : List AV)
def AV.idf : AV → Prop
 | .ptr .. | .row .. | .rs .. | .mp _ | .ow .. | .agg _ | .tup _ => False
 | .fn _ cs => cs = []
 | .sl sz n g => ∀ i j, i < n → j < sz → (g i j).idf
 | .rf m g => ∀ j, j < m → (g j).idf
 | _ => True
def AV.idfO : AV → Prop
 | .ow sz n g => ∀ i j, i < n → j < sz → (g i j).idfO
 | x => x.idf
inductive RK where
 | arr
 | box
 | mp (ak : Bool) (f : List Int → Int) (sts : List (Int × List Int))
 | hid
def RK.isMp : RK → Bool
 | .mp .. => true
 | .hid => true
 | _ => false
structure Row where
 sz : Nat
 cap : Nat
 es : Nat → Nat → AV
 k : RK
structure BC where
 b : Nat
 c : Nat
abbrev Fr := List (Nat × AV)
abbrev Hp := List (Option Row)
inductive Conc (w : World) (S : Nat → Prop) (blk : Nat → BC) (H : Hp) : AV → Value → Prop
 | any (u : Value) : Conc w S blk H .any u
 | i {k : IntKind} {n : Int} (h : (Lit.int k n).wf = true) : Conc w S blk H (.i k n) (.int k n)
 | b (x : Bool) : Conc w S blk H (.b x) (.bool x)
 | kb (x : Bool) : Conc w S blk H (.kb x) (.bool x)
 | s {x : ByteArray} (h : x.size ≤ maxLen) : Conc w S blk H (.s x) (.string x)
 | nils : Conc w S blk H .nils (.slice none 0 0)
 | nilp : Conc w S blk H .nilp (.pointer none)
 | sl0 {sz : Nat} {g : Nat → Nat → AV} (a : Option Addr) (cap : Nat) (hm : cap ≤ maxLen) : Conc w S blk H (.sl sz 0 g) (.slice a 0 cap)
 | sl {sz n : Nat} {g : Nat → Nat → AV} (b o cap : Nat) (U : Nat → Nat → Value) (hS : S b) (hn : n ≤ cap) (hm : cap ≤ maxLen)
   (hc : ∀ i j, i < n → j < sz → w.cell? ⟨b, o + i * sz + j, none⟩ = some (U i j)) (hf : ∀ i j, i < n → j < sz → (g i j).idf)
   (hu : ∀ i j, i < n → j < sz → Conc w S blk H (g i j) (U i j)) : Conc w S blk H (.sl sz n g) (.slice (some ⟨b, o, none⟩) n cap)
 | rf {m : Nat} {g : Nat → AV} (b o : Nat) (U : Nat → Value) (hS : S b) (hc : ∀ j, j < m → w.cell? ⟨b, o + j, none⟩ = some (U j)) (hf : ∀ j, j < m → (g j).idf)
   (hu : ∀ j, j < m → Conc w S blk H (g j) (U j)) : Conc w S blk H (.rf m g) (.pointer (some ⟨b, o, none⟩))
 | ptr {id j off : Nat} (r : Row) (h : H[id]? = some (some r)) (hj : j < r.cap) (ho : off ≤ r.sz) : Conc w S blk H (.ptr id j off) (.pointer (some ⟨(blk id).b, j * r.sz + off, none⟩))
 | ptrD {id j off : Nat} (h : H[id]? = some none) (u : Value) : Conc w S blk H (.ptr id j off) u
 | row {id n : Nat} (r : Row) (h : H[id]? = some (some r)) (hn : n ≤ r.cap) (hc : r.cap ≤ (blk id).c) (h0 : 0 < (blk id).c) (hm : (blk id).c ≤ maxLen) : Conc w S blk H (.row id n) (.slice (some ⟨(blk id).b, 0, none⟩) n (blk id).c)
 | row0 {id : Nat} (r : Row) (h : H[id]? = some (some r)) (hr : r.cap = 0) (h0 : (blk id).c = 0) (a : Option Addr) : Conc w S blk H (.row id 0) (.slice a 0 0)
 | rs {id o n : Nat} (r : Row) (h : H[id]? = some (some r)) (hn : o + n ≤ r.cap) (hc : r.cap ≤ (blk id).c) (hm : (blk id).c ≤ maxLen) (a : Option Addr) (ha : o < (blk id).c → a = some ⟨(blk id).b, o * r.sz, none⟩) : Conc w S blk H (.rs id o n) (.slice a n ((blk id).c - o))
 | rsD {id o n : Nat} (h : H[id]? = some none) (u : Value) : Conc w S blk H (.rs id o n) u
 | mp {id : Nat} (r : Row) (h : H[id]? = some (some r)) : Conc w S blk H (.mp id) (.map (some (blk id).b))
 | mpD {id : Nat} (h : H[id]? = some none) (u : Value) : Conc w S blk H (.mp id) u
 | st (z : Int) : Conc w S blk H (.st z) (.int .i64 z)
 | fm {ak : Bool} {f : List Int → Int} (b : Nat) (hS : S b) (h : MapOk w b ak f []) : Conc w S blk H (.fm ak f) (.map (some b))
 | rowD {id n : Nat} (h : H[id]? = some none) (u : Value) : Conc w S blk H (.row id n) u
 | agg (cs : List AV) (us : List Value) (hl : us.length = cs.length) (hu : ∀ (j : Nat) (c : AV) (u : Value), cs[j]? = some c → us[j]? = some u → Conc w S blk H c u) : Conc w S blk H (.agg cs) (.agg us.toArray)
 | tup (cs : List AV) (us : List Value) (hl : us.length = cs.length) (hu : ∀ (j : Nat) (c : AV) (u : Value), cs[j]? = some c → us[j]? = some u → Conc w S blk H c u) : Conc w S blk H (.tup cs) (.tuple us.toArray)
 | fn (f : FuncId) (cs : List AV) (us : List Value) (hl : us.length = cs.length) (hu : ∀ (j : Nat) (c : AV) (u : Value), cs[j]? = some c → us[j]? = some u → Conc w S blk H c u) : Conc w S blk H (.fn f cs) (.func (.func f) #[] us.toArray)
def RowAt (w : World) (b : Nat) (cur : Array Value) (ty : TypeId) : Prop := ∃ fz : Nat × Nat, w.heap[b]? = some (.cells cur ty fz) ∧ ∀ i, i < cur.size → (fz.1 ≤ i && i < fz.2) = false
theorem RowAt.mono {w w' : World} {b : Nat} {cur : Array Value} {ty : TypeId} (h : RowAt w b cur ty) (e : w'.heap[b]? = w.heap[b]?) : RowAt w' b cur ty := by
 obtain ⟨fz, h1, h2⟩ := h
 exact ⟨fz, e.trans h1, h2⟩
theorem rowAt0 {w : World} {b : Nat} {cur : Array Value} {ty : TypeId} (h : w.heap[b]? = some (.cells cur ty (0, 0))) : RowAt w b cur ty := ⟨(0, 0), h, fun i _ => by simp⟩
theorem RowAt.cell {w : World} {b j : Nat} {cur : Array Value} {ty : TypeId} (h : RowAt w b cur ty) : w.cell? ⟨b, j, none⟩ = cur[j]? := by
 obtain ⟨fz, h1, h2⟩ := h
 simp [World.cell?, h1]
theorem RowAt.lt {w : World} {b : Nat} {cur : Array Value} {ty : TypeId} (h : RowAt w b cur ty) : b < w.heap.size := by
 obtain ⟨fz, h1, h2⟩ := h
 exact (Array.getElem?_eq_some_iff.1 h1).1
theorem RowAt.setRow {w : World} {b : Nat} {cur cur' : Array Value} {ty : TypeId} (h : RowAt w b cur ty) (hs : cur'.size = cur.size) : RowAt (w.setRow b cur') b cur' ty := by
 obtain ⟨fz, h1, h2⟩ := h
 exact ⟨fz, setRow_heap w b cur cur' ty fz h1, fun i hi => h2 i (by omega)⟩
theorem RowAt.self {w : World} {b : Nat} {cur : Array Value} {ty : TypeId} (h : RowAt w b cur ty) : w.setRow b cur = w := by
 obtain ⟨fz, h1, h2⟩ := h
 exact setRow_self w b cur ty fz h1
theorem run_storeZ (P : Program) (g o : Nat) (t : TypeId) : ∀ (vs : List Value) (i : Nat) (cur : Array Value) (w : World), RowAt w g cur t → o + i + vs.length ≤ cur.size → (∀ v ∈ vs, v.oneCell' = true) →
  (storeCells ⟨g, o, none⟩ vs i).run P w = .ok () (w.setRow g (cur.toList.take (o + i) ++ vs ++ cur.toList.drop (o + i + vs.length)).toArray)
 | [], i, cur, w, hg, _, _ => by
  simp only [storeCells, List.append_nil, List.length_nil, Nat.add_zero, List.take_append_drop, Array.toArray_toList]
  rw [hg.self]
  rfl
 | v :: rest, i, cur, w, hg, hl, h1 => by
  have hi : o + i < cur.size := by simp at hl; omega
  have hadd := add_mk g o i
  obtain ⟨fz, hg1, hg2⟩ := id hg
  have hcell : w.cell? ⟨g, o + i, none⟩ = some cur[o + i] := by simp [World.cell?, hg1, hi]
  have hfro : w.frozen? ⟨g, o + i, none⟩ = false := by
   have := hg2 (o + i) hi
   simpa [World.frozen?, hg1] using this
  have hst : (store ((⟨g, o, none⟩ : Addr).add i) v).run P w = .ok () (w.setRow g (cur.setIfInBounds (o + i) v)) := by
   rw [hadd, run_store P w _ v _ (h1 v (by simp)), hcell]
   simp [hfro, setCell_eq_setRow w g (o + i) cur t fz v hg1]
  have ih := run_storeZ P g o t rest (i + 1) (cur.setIfInBounds (o + i) v) (w.setRow g (cur.setIfInBounds (o + i) v)) (hg.setRow (by simp)) (by simp at hl ⊢; omega) (fun x hx => h1 x (by simp [hx]))
  simp only [storeCells, Sem.run_bind, hst, Result.andThen_ok, ih, setRow_setRow]
  congr 3
  have e := list_seg_step cur.toList (o + i) v rest (by simp at hl ⊢; omega)
  simpa [Array.toList_setIfInBounds, Nat.add_assoc] using e
def cat (F : Nat → Nat → List Nat) (n sz : Nat) : List Nat := (List.range n).flatMap fun i => (List.range sz).flatMap fun j => F i j
inductive Own (w : World) (S : Nat → Prop) (blk : Nat → BC) (H : Hp) : AV → Value → List Nat → Prop
 | plain {x : AV} {u : Value} (h : Conc w S blk H x u) : Own w S blk H x u []
 | ow0 {sz : Nat} {g : Nat → Nat → AV} (a : Option Addr) : Own w S blk H (.ow sz 0 g) (.slice a 0 0) []
 | ow {sz n : Nat} {g : Nat → Nat → AV} (b cap : Nat) (ty : TypeId) (cur : Array Value) (U : Nat → Nat → Value) (F : Nat → Nat → List Nat)
   (hb : RowAt w b cur ty) (hcur : cur.size = cap * sz) (hn : n ≤ cap) (hm : cap ≤ maxLen) (h0 : 0 < cap) (h1 : ∀ u ∈ cur, u.oneCell' = true)
   (hc : ∀ i j, i < n → j < sz → cur[i * sz + j]? = some (U i j)) (hf : ∀ i j, i < n → j < sz → (g i j).idfO)
   (hu : ∀ i j, i < n → j < sz → Own w S blk H (g i j) (U i j) (F i j)) (hF : (b :: cat F n sz).Nodup) :
   Own w S blk H (.ow sz n g) (.slice (some ⟨b, 0, none⟩) n cap) (b :: cat F n sz)
theorem mem_cat {F : Nat → Nat → List Nat} {n sz i j x : Nat} (hi : i < n) (hj : j < sz) (hx : x ∈ F i j) : x ∈ cat F n sz := by
 unfold cat
 exact List.mem_flatMap.2 ⟨i, by simpa using hi, List.mem_flatMap.2 ⟨j, by simpa using hj, hx⟩⟩
theorem of_mem_cat {F : Nat → Nat → List Nat} {n sz x : Nat} (h : x ∈ cat F n sz) : ∃ i j, i < n ∧ j < sz ∧ x ∈ F i j := by
 unfold cat at h
 obtain ⟨i, hi, h⟩ := List.mem_flatMap.1 h
 obtain ⟨j, hj, h⟩ := List.mem_flatMap.1 h
 exact ⟨i, j, by simpa using hi, by simpa using hj, h⟩
def HExt (H : Hp) (blk : Nat → BC) (H' : Hp) (blk' : Nat → BC) : Prop :=
 ∀ (id : Nat) (x : Option Row), H[id]? = some x → H'[id]? = some none ∨ ∃ r r' : Row, x = some r ∧ H'[id]? = some (some r') ∧ r'.sz = r.sz ∧ r'.cap = r.cap ∧ blk' id = blk id
theorem HExt.refl (H : Hp) (blk : Nat → BC) : HExt H blk H blk := fun id x h => by
 cases x with
 | none => exact .inl h
 | some r => exact .inr ⟨r, r, rfl, h, rfl, rfl, rfl⟩
theorem HExt.trans {H H' H'' : Hp} {b b' b'' : Nat → BC} (h : HExt H b H' b') (k : HExt H' b' H'' b'') : HExt H b H'' b'' := fun id x hx => by
 rcases h id x hx with h1 | ⟨r, r', rfl, h2, h3, h4, h5⟩
 ·rcases k id _ h1 with h | ⟨r, r', h, _⟩
  ·exact .inl h
  ·cases h
 ·rcases k id _ h2 with h | ⟨r1, r2, e, g2, g3, g4, g5⟩
  ·exact .inl h
  ·cases e
   exact .inr ⟨r, r2, rfl, g2, g3.trans h3, g4.trans h4, g5.trans h5⟩
theorem Conc.mono {w w' : World} {S S' : Nat → Prop} {blk blk' : Nat → BC} {H H' : Hp} {x : AV} {u : Value} (h : Conc w S blk H x u)
  (hS : ∀ b, S b → S' b ∧ w'.heap[b]? = w.heap[b]?) (hH : HExt H blk H' blk') : Conc w' S' blk' H' x u := by
 induction h with
 | any u => exact .any u
 | i h => exact .i h
 | b x => exact .b x
 | kb x => exact .kb x
 | s h => exact .s h
 | nils => exact .nils
 | nilp => exact .nilp
 | sl0 a cap hm => exact .sl0 a cap hm
 | sl b o cap U hb hn hm hc hf hu ih =>
  refine .sl b o cap U (hS b hb).1 hn hm (fun i j hi hj => ?_) hf (fun i j hi hj => ih i j hi hj)
  rw [World.cell?_of_block (w := w) (hS b hb).2]
  exact hc i j hi hj
 | rf b o U hb hc hf hu ih =>
  refine .rf b o U (hS b hb).1 (fun j hj => ?_) hf (fun j hj => ih j hj)
  rw [World.cell?_of_block (w := w) (hS b hb).2]
  exact hc j hj
 | @ptr id j off r h hj ho =>
  rcases hH id _ h with h1 | ⟨r1, r', e, h', h2, h3, h4⟩
  ·exact .ptrD h1 _
  ·cases e
   have := Conc.ptr (w := w') (S := S') (blk := blk') (j := j) (off := off) r' h' (by omega) (by omega)
   rwa [h2, h4] at this
 | ptrD h u =>
  rcases hH _ _ h with h1 | ⟨r1, r', e, _⟩
  ·exact .ptrD h1 _
  ·cases e
 | @row id n r h hn hc h0 hm =>
  rcases hH id _ h with h1 | ⟨r1, r', e, h', h2, h3, h4⟩
  ·exact .rowD h1 _
  ·cases e
   have := Conc.row (w := w') (S := S') (blk := blk') (n := n) r' h' (by omega) (by rw [h4]; omega) (by rw [h4]; omega) (by rw [h4]; omega)
   rwa [h4] at this
 | @row0 id r h hr h0 a =>
  rcases hH id _ h with h1 | ⟨r1, r', e, h', h2, h3, h4⟩
  ·exact .rowD h1 _
  ·cases e
   exact .row0 r' h' (by omega) (by rw [h4]; exact h0) a
 | @rs id o n r h hn hc hm a ha =>
  rcases hH id _ h with h1 | ⟨r1, r', e, h', h2, h3, h4⟩
  ·exact .rsD h1 _
  ·cases e
   have := Conc.rs (w := w') (S := S') (blk := blk') (o := o) (n := n) r' h' (by omega) (by rw [h4]; omega) (by rw [h4]; omega) a (by rw [h4, h2]; exact ha)
   rwa [h4] at this
 | rsD h u =>
  rcases hH _ _ h with h1 | ⟨r1, r', e, _⟩
  ·exact .rsD h1 _
  ·cases e
 | @mp id r h =>
  rcases hH id _ h with h1 | ⟨r1, r', e, h', h2, h3, h4⟩
  ·exact .mpD h1 _
  ·cases e
   have := Conc.mp (w := w') (S := S') (blk := blk') r' h'
   rwa [h4] at this
 | mpD h u =>
  rcases hH _ _ h with h1 | ⟨r1, r', e, _⟩
  ·exact .mpD h1 _
  ·cases e
 | st z => exact .st z
 | fm b hb h => exact .fm b (hS b hb).1 (h.mono (hS b hb).2)
 | rowD h u =>
  rcases hH _ _ h with h1 | ⟨r1, r', e, _⟩
  ·exact .rowD h1 _
  ·cases e
 | agg cs us hl hu ih => exact .agg cs us hl fun j c u hj hju => ih j c u hj hju
 | tup cs us hl hu ih => exact .tup cs us hl fun j c u hj hju => ih j c u hj hju
 | fn f cs us hl hu ih => exact .fn f cs us hl fun j c u hj hju => ih j c u hj hju
theorem Own.mono {w w' : World} {S S' : Nat → Prop} {blk blk' : Nat → BC} {H H' : Hp} {x : AV} {u : Value} {fp : List Nat} (h : Own w S blk H x u fp)
  (hS : ∀ b, S b → S' b ∧ w'.heap[b]? = w.heap[b]?) (hH : HExt H blk H' blk') (hf : ∀ b ∈ fp, w'.heap[b]? = w.heap[b]?) : Own w' S' blk' H' x u fp := by
 induction h with
 | plain h => exact .plain (h.mono hS hH)
 | ow0 a => exact .ow0 a
 | ow b cap ty cur U F hb hcur hn hm h0 h1 hc hff hu hF ih =>
  exact .ow b cap ty cur U F (hb.mono (hf b (by simp))) hcur hn hm h0 h1 hc hff (fun i j hi hj => ih i j hi hj fun x hx => hf x (List.mem_cons_of_mem _ (mem_cat hi hj hx))) hF
theorem Own.lt {w : World} {S : Nat → Prop} {blk : Nat → BC} {H : Hp} {x : AV} {u : Value} {fp : List Nat} (h : Own w S blk H x u fp) : ∀ b ∈ fp, b < w.heap.size := by
 induction h with
 | plain h => simp
 | ow0 a => simp
 | ow b cap ty cur U F hb hcur hn hm h0 h1 hc hf hu hF ih =>
  intro x hx
  rcases List.mem_cons.1 hx with rfl | hx
  ·exact hb.lt
  ·obtain ⟨i, j, hi, hj, hx⟩ := of_mem_cat hx
   exact ih i j hi hj x hx
def AV.one : AV → Bool
 | .any | .agg _ | .tup _ => false
 | _ => true
def AV.one1 : AV → Bool
 | .any | .agg _ | .tup _ | .ptr .. | .row .. | .rs .. | .mp _ | .ow .. => false
 | _ => true
theorem Conc.one1 {w : World} {S : Nat → Prop} {blk : Nat → BC} {H : Hp} {x : AV} {u : Value} (h : Conc w S blk H x u) (h1 : x.one1 = true) : u.oneCell' = true := by
 cases h <;> first | rfl | cases h1
def one2 (H : Hp) : AV → Bool
 | .ptr id _ _ | .row id _ | .rs id _ _ | .mp id => (match H[id]? with | some (some _) => true | _ => false)
 | x => x.one1
theorem Conc.one2 {w : World} {S : Nat → Prop} {blk : Nat → BC} {H : Hp} {x : AV} {u : Value} (h : Conc w S blk H x u) (h1 : Go.Proofs.YtmchgnbeoefhhaaGreat.one2 H x = true) : u.oneCell' = true := by
 cases h with
 | ptrD h u => simp [Go.Proofs.YtmchgnbeoefhhaaGreat.one2, h] at h1
 | rowD h u => simp [Go.Proofs.YtmchgnbeoefhhaaGreat.one2, h] at h1
 | rsD h u => simp [Go.Proofs.YtmchgnbeoefhhaaGreat.one2, h] at h1
 | mpD h u => simp [Go.Proofs.YtmchgnbeoefhhaaGreat.one2, h] at h1
 | any => cases h1
 | agg => cases h1
 | tup => cases h1
 | _ => rfl
def RowOk (w : World) (S : Nat → Prop) (blk : Nat → BC) (H : Hp) (fp : List Nat) (bc : BC) (r : Row) : Prop :=
 (r.cap = 0 ∧ bc.c = 0 ∧ ((r.k.isMp = false ∧ fp = []) ∨ r.k = .hid ∨ ∃ ak f sts, r.k = .mp ak f sts ∧ fp = [bc.b] ∧ MapOk w bc.b ak f sts)) ∨
 (0 < bc.c ∧ r.cap ≤ bc.c ∧ r.k.isMp = false ∧ bc.b ∈ fp ∧ ∃ (ty : TypeId) (cur : Array Value) (F : Nat → Nat → List Nat), RowAt w bc.b cur ty ∧ cur.size = bc.c * r.sz ∧ (∀ u ∈ cur, u.oneCell' = true) ∧
  (∀ i j, i < r.cap → j < r.sz → ∃ u, cur[i * r.sz + j]? = some u ∧ u.oneCell' = true ∧ Own w S blk H (r.es i j) u (F i j)) ∧
  (∀ i j, i < r.cap → j < r.sz → ∀ x ∈ F i j, x ∈ fp ∧ x ≠ bc.b) ∧
  (∀ i j i' j', i < r.cap → j < r.sz → i' < r.cap → j' < r.sz → (i ≠ i' ∨ j ≠ j') → ∀ x ∈ F i j, x ∉ F i' j'))
theorem RowOk.mono {w w' : World} {S S' : Nat → Prop} {blk blk' : Nat → BC} {H H' : Hp} {fp : List Nat} {bc : BC} {r : Row} (h : RowOk w S blk H fp bc r)
  (hS : ∀ b, S b → S' b ∧ w'.heap[b]? = w.heap[b]?) (hH : HExt H blk H' blk') (hf : ∀ x ∈ fp, w'.heap[x]? = w.heap[x]?) : RowOk w' S' blk' H' fp bc r := by
 rcases h with ⟨h1, h2, h3⟩ | ⟨h0, hle, hk, hb, ty, cur, F, h1, h2, hall, h3, h4, h5⟩
 ·refine .inl ⟨h1, h2, h3.imp_right (Or.imp_right ?_)⟩
  rintro ⟨ak, f, sts, e1, rfl, e3⟩
  exact ⟨ak, f, sts, e1, rfl, e3.mono (hf _ (by simp))⟩
 ·refine .inr ⟨h0, hle, hk, hb, ty, cur, F, h1.mono (hf _ hb), h2, hall, fun i j hi hj => ?_, h4, h5⟩
  obtain ⟨u, hu, ho, hc⟩ := h3 i j hi hj
  exact ⟨u, hu, ho, hc.mono hS hH fun x hx => hf x (h4 i j hi hj x hx).1⟩
theorem inv_i {w : World} {S : Nat → Prop} {blk : Nat → BC} {H : Hp} {k : IntKind} {n : Int} {u : Value} (h : Conc w S blk H (.i k n) u) : u = .int k n ∧ (Lit.int k n).wf = true := by
 cases h with | i h => exact ⟨rfl, h⟩
theorem inv_b {w : World} {S : Nat → Prop} {blk : Nat → BC} {H : Hp} {x : Bool} {u : Value} (h : Conc w S blk H (.b x) u) : u = .bool x := by cases h; rfl
theorem inv_kb {w : World} {S : Nat → Prop} {blk : Nat → BC} {H : Hp} {x : Bool} {u : Value} (h : Conc w S blk H (.kb x) u) : u = .bool x := by cases h; rfl
theorem inv_s {w : World} {S : Nat → Prop} {blk : Nat → BC} {H : Hp} {x : ByteArray} {u : Value} (h : Conc w S blk H (.s x) u) : u = .string x ∧ x.size ≤ maxLen := by
 cases h with | s h => exact ⟨rfl, h⟩
theorem inv_nils {w : World} {S : Nat → Prop} {blk : Nat → BC} {H : Hp} {u : Value} (h : Conc w S blk H .nils u) : u = .slice none 0 0 := by cases h; rfl
theorem inv_nilp {w : World} {S : Nat → Prop} {blk : Nat → BC} {H : Hp} {u : Value} (h : Conc w S blk H .nilp u) : u = .pointer none := by cases h; rfl
theorem inv_rf {w : World} {S : Nat → Prop} {blk : Nat → BC} {H : Hp} {m : Nat} {g : Nat → AV} {u : Value} (h : Conc w S blk H (.rf m g) u) :
  ∃ (b o : Nat) (U : Nat → Value), u = .pointer (some ⟨b, o, none⟩) ∧ S b ∧ (∀ j, j < m → w.cell? ⟨b, o + j, none⟩ = some (U j)) ∧ (∀ j, j < m → Conc w S blk H (g j) (U j)) ∧ (∀ j, j < m → (g j).idf) := by
 cases h with | rf b o U hS hc hf hu => exact ⟨b, o, U, rfl, hS, hc, hu, hf⟩
theorem inv_sl {w : World} {S : Nat → Prop} {blk : Nat → BC} {H : Hp} {sz n : Nat} {g : Nat → Nat → AV} {u : Value} (h : Conc w S blk H (.sl sz n g) u) (hn : 0 < n) :
  ∃ (b o cap : Nat) (U : Nat → Nat → Value), u = .slice (some ⟨b, o, none⟩) n cap ∧ S b ∧ n ≤ cap ∧ cap ≤ maxLen ∧ (∀ i j, i < n → j < sz → w.cell? ⟨b, o + i * sz + j, none⟩ = some (U i j)) ∧
   (∀ i j, i < n → j < sz → Conc w S blk H (g i j) (U i j)) ∧ (∀ i j, i < n → j < sz → (g i j).idf) := by
 cases h with
 | sl0 => omega
 | sl b o cap U hS hn hm hc hf hu => exact ⟨b, o, cap, U, rfl, hS, hn, hm, hc, hu, hf⟩
theorem sl_form {w : World} {S : Nat → Prop} {blk : Nat → BC} {H : Hp} {sz n : Nat} {g : Nat → Nat → AV} {u : Value} (h : Conc w S blk H (.sl sz n g) u) :
  ∃ (a : Option Addr) (cap : Nat), u = .slice a n cap ∧ n ≤ cap ∧ cap ≤ maxLen := by
 cases h with
 | sl0 a cap hm => exact ⟨a, cap, rfl, Nat.zero_le _, hm⟩
 | sl b o cap U hS hn hm hc hf hu => exact ⟨_, cap, rfl, hn, hm⟩
theorem inv_ptr {w : World} {S : Nat → Prop} {blk : Nat → BC} {H : Hp} {id j off : Nat} {r : Row} {u : Value} (hr : H[id]? = some (some r)) (h : Conc w S blk H (.ptr id j off) u) :
  u = .pointer (some ⟨(blk id).b, j * r.sz + off, none⟩) ∧ j < r.cap ∧ off ≤ r.sz := by
 cases h with
 | ptr r' h hj ho => rw [hr] at h; cases h; exact ⟨rfl, hj, ho⟩
 | ptrD h => rw [hr] at h; cases h
theorem inv_row {w : World} {S : Nat → Prop} {blk : Nat → BC} {H : Hp} {id n : Nat} {r : Row} {u : Value} (hr : H[id]? = some (some r)) (h : Conc w S blk H (.row id n) u) :
  (u = .slice (some ⟨(blk id).b, 0, none⟩) n (blk id).c ∧ n ≤ r.cap ∧ r.cap ≤ (blk id).c ∧ 0 < (blk id).c ∧ (blk id).c ≤ maxLen) ∨ (∃ a, u = .slice a 0 0 ∧ n = 0 ∧ r.cap = 0 ∧ (blk id).c = 0) := by
 cases h with
 | row r' h hn hc h0 hm => rw [hr] at h; cases h; exact .inl ⟨rfl, hn, hc, h0, hm⟩
 | row0 r' h hr' h0 a => rw [hr] at h; cases h; exact .inr ⟨a, rfl, rfl, hr', h0⟩
 | rowD h => rw [hr] at h; cases h
theorem inv_rs {w : World} {S : Nat → Prop} {blk : Nat → BC} {H : Hp} {id o n : Nat} {r : Row} {u : Value} (hr : H[id]? = some (some r)) (h : Conc w S blk H (.rs id o n) u) :
  ∃ a, u = .slice a n ((blk id).c - o) ∧ o + n ≤ r.cap ∧ r.cap ≤ (blk id).c ∧ (blk id).c ≤ maxLen ∧ (o < (blk id).c → a = some ⟨(blk id).b, o * r.sz, none⟩) := by
 cases h with
 | rs r' h hn hc hm a ha => rw [hr] at h; cases h; exact ⟨a, rfl, hn, hc, hm, ha⟩
 | rsD h => rw [hr] at h; cases h
theorem inv_mp {w : World} {S : Nat → Prop} {blk : Nat → BC} {H : Hp} {id : Nat} {r : Row} {u : Value} (hr : H[id]? = some (some r)) (h : Conc w S blk H (.mp id) u) : u = .map (some (blk id).b) := by
 cases h with
 | mp r' h => rfl
 | mpD h => rw [hr] at h; cases h
theorem inv_st {w : World} {S : Nat → Prop} {blk : Nat → BC} {H : Hp} {z : Int} {u : Value} (h : Conc w S blk H (.st z) u) : u = .int .i64 z := by cases h; rfl
theorem inv_fm {w : World} {S : Nat → Prop} {blk : Nat → BC} {H : Hp} {ak : Bool} {f : List Int → Int} {u : Value} (h : Conc w S blk H (.fm ak f) u) : ∃ b, u = .map (some b) ∧ S b ∧ MapOk w b ak f [] := by
 cases h with | fm b hS h => exact ⟨b, rfl, hS, h⟩
theorem inv_agg {w : World} {S : Nat → Prop} {blk : Nat → BC} {H : Hp} {cs : List AV} {u : Value} (h : Conc w S blk H (.agg cs) u) :
  ∃ us : List Value, u = .agg us.toArray ∧ us.length = cs.length ∧ ∀ (j : Nat) (c : AV) (u : Value), cs[j]? = some c → us[j]? = some u → Conc w S blk H c u := by
 cases h with | agg _ us hl hu => exact ⟨us, rfl, hl, hu⟩
theorem inv_tup {w : World} {S : Nat → Prop} {blk : Nat → BC} {H : Hp} {cs : List AV} {u : Value} (h : Conc w S blk H (.tup cs) u) :
  ∃ us : List Value, u = .tuple us.toArray ∧ us.length = cs.length ∧ ∀ (j : Nat) (c : AV) (u : Value), cs[j]? = some c → us[j]? = some u → Conc w S blk H c u := by
 cases h with | tup _ us hl hu => exact ⟨us, rfl, hl, hu⟩
theorem inv_fn {w : World} {S : Nat → Prop} {blk : Nat → BC} {H : Hp} {f : FuncId} {cs : List AV} {u : Value} (h : Conc w S blk H (.fn f cs) u) :
  ∃ us : List Value, u = .func (.func f) #[] us.toArray ∧ us.length = cs.length ∧ ∀ (j : Nat) (c : AV) (u : Value), cs[j]? = some c → us[j]? = some u → Conc w S blk H c u := by
 cases h with | fn _ _ us hl hu => exact ⟨us, rfl, hl, hu⟩
theorem Conc.free {w : World} {S : Nat → Prop} {blk blk' : Nat → BC} {H H' : Hp} {x : AV} {u : Value} (h : Conc w S blk H x u) (hx : x.idf) : Conc w S blk' H' x u := by
 induction h with
 | any u => exact .any u
 | i h => exact .i h
 | b x => exact .b x
 | kb x => exact .kb x
 | s h => exact .s h
 | nils => exact .nils
 | nilp => exact .nilp
 | sl0 a cap hm => exact .sl0 a cap hm
 | sl b o cap U hb hn hm hc hf hu ih => exact .sl b o cap U hb hn hm hc hf fun i j hi hj => ih i j hi hj (hf i j hi hj)
 | rf b o U hb hc hf hu ih => exact .rf b o U hb hc hf fun j hj => ih j hj (hf j hj)
 | ptr => exact hx.elim
 | ptrD => exact hx.elim
 | row => exact hx.elim
 | row0 => exact hx.elim
 | rowD => exact hx.elim
 | rs => exact hx.elim
 | rsD => exact hx.elim
 | mp => exact hx.elim
 | mpD => exact hx.elim
 | st z => exact .st z
 | fm b hb h => exact .fm b hb h
 | agg => exact hx.elim
 | tup => exact hx.elim
 | fn f cs us hl hu ih =>
  have : cs = [] := hx
  subst this
  exact .fn f [] us hl (by simp)
theorem Conc.idf_sl {w : World} {S : Nat → Prop} {blk : Nat → BC} {H : Hp} {sz n : Nat} {g : Nat → Nat → AV} {u : Value} (h : Conc w S blk H (.sl sz n g) u) : (AV.sl sz n g).idf := by
 cases h with
 | sl0 => intro i j hi; omega
 | sl b o cap U hS hn hm hc hf hu => exact hf
theorem Conc.idf_rf {w : World} {S : Nat → Prop} {blk : Nat → BC} {H : Hp} {m : Nat} {g : Nat → AV} {u : Value} (h : Conc w S blk H (.rf m g) u) : (AV.rf m g).idf := by
 cases h with | rf b o U hS hc hf hu => exact hf
def cv : Value → AV
 | .int k n => bif (Lit.int k n).wf then .i k n else .any
 | .bool b => .kb b
 | .string s => bif Nat.ble s.size 1000000 then .s s else .any
 | .slice none 0 0 => .nils
 | .pointer none => .nilp
 | _ => .any
theorem conc_cv {w : World} {S : Nat → Prop} {blk : Nat → BC} {H : Hp} (v : Value) : Conc w S blk H (cv v) v := by
 unfold cv
 split
 ·rename_i k n
  cases hw : (Lit.int k n).wf with
  | true => exact .i hw
  | false => exact .any _
 ·exact .kb _
 ·rename_i s
  cases hw : Nat.ble s.size 1000000 with
  | true => exact .s (by have := Nat.le_of_ble_eq_true hw; unfold maxLen; omega)
  | false => exact .any _
 ·exact .nils
 ·exact .nilp
 ·exact .any _
end Go.Proofs.YtmchgnbeoefhhaaGreat
