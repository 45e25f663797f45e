/- Texts for VSectionsP. -/
import Derived.WalkKit
import Derived.MapKept
import Derived.WideKeyEntry
import Derived.DeepKeys4
import Derived.WideKeyArr
namespace Go.Proofs.Ytdeledeopippfaa
open Go Go.RowKit
set_option linter.unusedVariables false
set_option linter.unusedSimpArgs false
section
open Go Go.MapKept
def keyV (ak : Bool) (ks : List Int) : Value := match ak with
  | true => .agg (ks.map (Value.int .i64)).toArray
  | false => .int .i64 (ks.headD 0)
def ok2 (ks : List Int) : Prop := ∃ a b, ks = [a, b] ∧ (Lit.int .i64 a).wf = true ∧ (Lit.int .i64 b).wf = true
def okK : Bool → List Int → Prop
  | true => ok2
  | false => fun ks => ks.length = 1
def MapOk (w : World) (b : Nat) (ak : Bool) (f : List Int → Int) (sts : List (Int × List Int)) : Prop :=
  ∃ (es : Array MapEntry) (clock : Nat), w.heap[b]? = some (.map es clock) ∧ Stamped es clock ∧
    (∀ e ∈ es.toList, ∃ ks, okK ak ks ∧ e.key = keyV ak ks ∧ e.val = .int .i64 (f ks) ∧ (Lit.int .i64 (f ks)).wf = true) ∧
    (∀ ks, okK ak ks → (∀ e ∈ es.toList, e.key ≠ keyV ak ks) → f ks = 0) ∧
    (∀ p ∈ sts, okK ak p.2 ∧ ∃ e ∈ es.toList, (e.born : Int) = p.1 ∧ e.key = keyV ak p.2)
theorem MapOk.mono {w w' : World} {b : Nat} {ak : Bool} {f : List Int → Int} {sts : List (Int × List Int)} (h : MapOk w b ak f sts) (hb : w'.heap[b]? = w.heap[b]?) : MapOk w' b ak f sts := by
  obtain ⟨es, clock, h1, h2⟩ := h
  exact ⟨es, clock, hb.trans h1, h2⟩
theorem MapOk.less {w : World} {b : Nat} {ak : Bool} {f : List Int → Int} {sts : List (Int × List Int)} (h : MapOk w b ak f sts) : MapOk w b ak f [] := by
  obtain ⟨es, clock, h1, h2, h3, h4, _⟩ := h
  exact ⟨es, clock, h1, h2, h3, h4, by simp⟩
structure MKey (P : Program) (kt : TypeId) (ak : Bool) : Prop where
  check : ∀ (w : World) (em : Bool) (ks : List Int), okK ak ks → (Instr.checkKey em 10000 kt (keyV ak ks)).run P w = .ok () w
  find : ∀ (w : World) (ks : List Int), okK ak ks → ∀ es : List MapEntry, (∀ e ∈ es, ∃ ks', okK ak ks' ∧ e.key = keyV ak ks') →
    ((Instr.findKey kt (keyV ak ks) es).run P w = .ok none w ∧ ∀ e ∈ es, e.key ≠ keyV ak ks) ∨ ∃ j e, (Instr.findKey kt (keyV ak ks) es).run P w = .ok (some (j, e.val)) w ∧ es[j]? = some e ∧ e.key = keyV ak ks
  stays : ∀ (w : World) (ks : List Int), okK ak ks → (Instr.keyThatStays (keyV ak ks) (keyV ak ks)).run P w = .ok (keyV ak ks) w
  inj : ∀ ks ks' : List Int, okK ak ks → okK ak ks' → keyV ak ks = keyV ak ks' → ks = ks'
theorem isKey_int (ks : List Int) : IsKey (.int .i64) (keyV false ks) := by show IsKey (.int .i64) (.int .i64 _); exact rfl
theorem mkey_int {P : Program} {kt : TypeId} (hu : P.underlying kt = some (.int .i64)) : MKey P kt false where
  check := fun w em ks _ => run_checkKey (d := .int .i64) hu (isKey_int ks) em 9999
  find := fun w ks _ es hes => by
    rcases findNow_spec (d := .int .i64) (k := keyV false ks) (isKey_int ks) es 0 (fun e he => by obtain ⟨ks', _, h⟩ := hes e he; rw [h]; exact isKey_int ks') with ⟨h1, h2⟩ | ⟨j, e, h1, h2, h3⟩
    · exact .inl ⟨run_findKey hu h1, h2⟩
    · exact .inr ⟨j, e, by have := run_findKey (w := w) hu h1; simpa using this, h2, h3⟩
  stays := fun w ks _ => run_keyThatStays (isKey_int ks)
  inj := fun ks ks' h h' e => by
    obtain ⟨a, rfl⟩ := List.length_eq_one_iff.1 h
    obtain ⟨b, rfl⟩ := List.length_eq_one_iff.1 h'
    simp [keyV] at e
    rw [e]
theorem keyOf2 {P : Program} {k e : TypeId} (A : WideMaps.ArrKey P k e 2) (he : P.underlying e = some (.int .i64)) (hsz : ∃ m, P.types.size = m + 1) {ks : List Int} (h : ok2 ks) : ∃ l, keyOf P k (keyV true ks) = some l := by
  obtain ⟨a, b, rfl, ha, hb⟩ := h
  have h1 := A.keyType hsz
  obtain ⟨m, hm⟩ := hsz
  have h2 : (Value.agg #[.int .i64 a, .int .i64 b]).formed P k = true := by
    simp [Value.formed, A.hu, A.size]
  unfold keyOf keyV
  rw [A.hu]
  dsimp only
  simp [h1, h2, hm, Program.keyLits, A.hu, A.size, A.one, he, ha, hb, List.range, List.range.loop, Value.cells]
theorem mkey_arr2 {P : Program} {k e : TypeId} (A : WideMaps.ArrKey P k e 2) (he : P.underlying e = some (.int .i64)) (hsz : ∃ m, P.types.size = m + 1) : MKey P k true where
  check := fun w em ks h => by obtain ⟨l, hl⟩ := keyOf2 A he hsz h; exact A.law.check w em hl
  find := fun w ks h es hes => by
    obtain ⟨l, hl⟩ := keyOf2 A he hsz h
    exact A.law.find w hl es fun x hx => by obtain ⟨ks', h', q⟩ := hes x hx; rw [q]; exact keyOf2 A he hsz h'
  stays := fun w ks h => by obtain ⟨l, hl⟩ := keyOf2 A he hsz h; exact A.law.stays w hl
  inj := fun ks ks' h h' q => by
    obtain ⟨a, b, rfl, _⟩ := h
    obtain ⟨c, d, rfl, _⟩ := h'
    simpa [keyV] using q
section
variable {P : Program} {t kt et : TypeId} {w : World} {b : Nat} {ak : Bool} {f : List Int → Int} {sts : List (Int × List Int)}
theorem MapOk.wf (h : MapOk w b ak f sts) {ks : List Int} (hk : okK ak ks) (inj : ∀ ks ks' : List Int, okK ak ks → okK ak ks' → keyV ak ks = keyV ak ks' → ks = ks') : (Lit.int .i64 (f ks)).wf = true := by
  obtain ⟨es, clock, hb, hs, he, h0, _⟩ := h
  by_cases hx : ∃ e ∈ es.toList, e.key = keyV ak ks
  · obtain ⟨e, h1, h2⟩ := hx
    obtain ⟨ks', q1, q2, q3, q4⟩ := he e h1
    obtain rfl := inj _ _ hk q1 (h2.symm.trans q2)
    exact q4
  · rw [h0 ks hk (fun e h1 h2 => hx ⟨e, h1, h2⟩)]
    decide
theorem map_lookup (K : MKey P kt ak) (ht : P.underlying t = some (.map kt et)) (hz : ∀ u : World, (zeroValue et).run P u = .ok (.int .i64 0) u) (h : MapOk w b ak f sts) {ks : List Int} (hk : okK ak ks) :
    (Instr.lookup t (.map (some b)) (keyV ak ks) false).run P w = .ok (.int .i64 (f ks)) w := by
  obtain ⟨es, clock, hb, hs, he, h0, _⟩ := h
  rcases K.find w ks hk es.toList (fun e hx => by obtain ⟨ks', h1, h2, _⟩ := he e hx; exact ⟨ks', h1, h2⟩) with ⟨h1, h2⟩ | ⟨j, e, h1, h2, h3⟩
  · rw [h0 ks hk h2]
    simp [Instr.lookup, run_underlying ht, MapKept.run_getObj_map hb, K.check w _ ks hk, h1, hz, Result.andThen]
  · obtain ⟨ks', q1, q2, q3, _⟩ := he e (List.mem_of_getElem? h2)
    obtain rfl := K.inj _ _ hk q1 (h3.symm.trans q2)
    simp [Instr.lookup, run_underlying ht, MapKept.run_getObj_map hb, K.check w _ ks hk, h1, q3, Result.andThen]
theorem map_make : (Instr.makeMap t none).run P w = .ok (.map (some w.heap.size)) (w.alloc (.map #[] 0)) ∧ MapOk (w.alloc (.map #[] 0)) w.heap.size ak (fun _ => 0) [] := by
  obtain ⟨h1, _⟩ := heap_alloc w (.map #[] 0)
  refine ⟨?_, #[], 0, h1, stamped_empty 0, by simp, by simp, by simp⟩
  simp only [Instr.makeMap, Sem.run_bind, Sem.run_pure, newObj]
  rfl
theorem mem_modify {α : Type} {es : Array α} {i : Nat} {g : α → α} {x : α} (h : x ∈ (es.modify i g).toList) : (∃ e, es[i]? = some e ∧ x = g e) ∨ ∃ j, j ≠ i ∧ es[j]? = some x := by
  obtain ⟨j, hj⟩ := List.getElem?_of_mem h
  rw [Array.getElem?_toList, Array.getElem?_modify] at hj
  by_cases e : i = j
  · subst e
    rw [if_pos rfl] at hj
    obtain ⟨y, hy, rfl⟩ := Option.map_eq_some_iff.1 hj
    exact .inl ⟨y, hy, rfl⟩
  · rw [if_neg e] at hj
    exact .inr ⟨j, fun h => e h.symm, hj⟩
theorem keys_apart {es : Array MapEntry} {clock : Nat} (hs : Stamped es clock) {i j : Nat} {x y : MapEntry} (hi : es[i]? = some x) (hj : es[j]? = some y) (hij : i ≠ j) : x.key ≠ y.key := by
  obtain ⟨_, _, hp⟩ := (stamped_iff es clock).1 hs
  have hi' : es.toList[i]? = some x := by simpa using hi
  have hj' : es.toList[j]? = some y := by simpa using hj
  have q := List.pairwise_iff_getElem.1 hp
  obtain ⟨li, e1⟩ := List.getElem?_eq_some_iff.1 hi'
  obtain ⟨lj, e2⟩ := List.getElem?_eq_some_iff.1 hj'
  rcases Nat.lt_or_gt_of_ne hij with h | h
  · have := q i j li lj h; rw [e1, e2] at this; exact this
  · have := q j i lj li h; rw [e1, e2] at this; exact fun e => this e.symm
def putF (f : List Int → Int) (ks : List Int) (v : Int) : List Int → Int := fun x => if x = ks then v else f x
theorem MapOk.setAt (K : MKey P kt ak) {es : Array MapEntry} {clock : Nat} (hb : w.heap[b]? = some (.map es clock)) (hs : Stamped es clock)
    (he : ∀ e ∈ es.toList, ∃ ks, okK ak ks ∧ e.key = keyV ak ks ∧ e.val = .int .i64 (f ks) ∧ (Lit.int .i64 (f ks)).wf = true) (h0 : ∀ ks, okK ak ks → (∀ e ∈ es.toList, e.key ≠ keyV ak ks) → f ks = 0)
    (hst : ∀ p ∈ sts, okK ak p.2 ∧ ∃ e ∈ es.toList, (e.born : Int) = p.1 ∧ e.key = keyV ak p.2) {ks : List Int} (hk : okK ak ks) {v : Int} (hv : (Lit.int .i64 v).wf = true) {i : Nat} {e0 : MapEntry} (hi : es[i]? = some e0) (h3 : e0.key = keyV ak ks) (g : MapEntry → MapEntry)
    (hg : ∀ e, e.key = keyV ak ks → (g e).key = e.key ∧ (g e).born = e.born ∧ (g e).val = .int .i64 v) (hgb : ∀ e, (g e).born = e.born) : MapOk { w with heap := w.heap.setIfInBounds b (.map (es.modify i g) clock) } b ak (putF f ks v) sts := by
  have hkeys : ∀ x ∈ es.toList, ∃ y ∈ (es.modify i g).toList, y.key = x.key ∧ y.born = x.born := by
    intro x hx
    obtain ⟨j, hj⟩ := List.getElem?_of_mem hx
    have hj' : es[j]? = some x := by simpa using hj
    by_cases e : i = j
    · subst e
      rw [hi] at hj'
      cases hj'
      refine ⟨g e0, List.mem_of_getElem? (i := i) (by rw [Array.getElem?_toList, Array.getElem?_modify, if_pos rfl, hi]; rfl), (hg e0 h3).1, (hg e0 h3).2.1⟩
    · exact ⟨x, List.mem_of_getElem? (i := j) (by rw [Array.getElem?_toList, Array.getElem?_modify, if_neg e, hj']), rfl, rfl⟩
  refine ⟨_, clock, (heap_set (o' := .map (es.modify i g) clock) hb).1, stamped_modify hs i g (fun e _ => hgb e) (fun e _ hei => ?_), fun x hx => ?_, fun ks' hk' hn => ?_, fun p hp => ?_⟩
  · rw [hi] at hei; cases hei; exact (hg e0 h3).1
  · rcases mem_modify hx with ⟨e, hei, rfl⟩ | ⟨j, hj, hjx⟩
    · rw [hi] at hei; cases hei
      refine ⟨ks, hk, (hg e0 h3).1.trans h3, ?_, ?_⟩
      · rw [(hg e0 h3).2.2]; simp [putF]
      · simpa [putF] using hv
    · obtain ⟨ks', q1, q2, q3, q4⟩ := he x (List.mem_of_getElem? (by simpa using hjx))
      have : ks' ≠ ks := by
        rintro rfl
        exact keys_apart hs hjx hi hj (q2.trans h3.symm)
      exact ⟨ks', q1, q2, by simpa [putF, this] using q3, by simpa [putF, this] using q4⟩
  · have hne : ks' ≠ ks := by
      rintro rfl
      obtain ⟨y, hy, e1, _⟩ := hkeys e0 (List.mem_of_getElem? (by simpa using hi))
      exact hn y hy (e1.trans h3)
    simp only [putF, if_neg hne]
    refine h0 ks' hk' fun e he' hek => ?_
    obtain ⟨y, hy, e1, _⟩ := hkeys e he'
    exact hn y hy (e1.trans hek)
  · obtain ⟨q0, e, he', e1, e2⟩ := hst p hp
    obtain ⟨y, hy, q1, q2⟩ := hkeys e he'
    exact ⟨q0, y, hy, by rw [q2]; exact e1, q1.trans e2⟩
theorem MapOk.pushed (K : MKey P kt ak) {es : Array MapEntry} {clock : Nat} (hb : w.heap[b]? = some (.map es clock)) (hs : Stamped es clock)
    (he : ∀ e ∈ es.toList, ∃ ks, okK ak ks ∧ e.key = keyV ak ks ∧ e.val = .int .i64 (f ks) ∧ (Lit.int .i64 (f ks)).wf = true) (h0 : ∀ ks, okK ak ks → (∀ e ∈ es.toList, e.key ≠ keyV ak ks) → f ks = 0)
    (hst : ∀ p ∈ sts, okK ak p.2 ∧ ∃ e ∈ es.toList, (e.born : Int) = p.1 ∧ e.key = keyV ak p.2) {ks : List Int} (hk : okK ak ks) {v : Int} (hv : (Lit.int .i64 v).wf = true) (hno : ∀ e ∈ es.toList, e.key ≠ keyV ak ks) :
    MapOk { w with heap := w.heap.setIfInBounds b (.map (es.push { key := keyV ak ks, val := .int .i64 v, born := clock }) (clock + 1)) } b ak (putF f ks v) (sts) ∧
    MapOk { w with heap := w.heap.setIfInBounds b (.map (es.push { key := keyV ak ks, val := .int .i64 v, born := clock }) (clock + 1)) } b ak (putF f ks v) (((clock : Nat), ks) :: sts) := by
  have main : MapOk { w with heap := w.heap.setIfInBounds b (.map (es.push { key := keyV ak ks, val := .int .i64 v, born := clock }) (clock + 1)) } b ak (putF f ks v) (((clock : Nat), ks) :: sts) := by
    refine ⟨_, clock + 1, (heap_set (o' := .map (es.push { key := keyV ak ks, val := .int .i64 v, born := clock }) (clock + 1)) hb).1, stamped_push hs hno, fun x hx => ?_, fun ks' hk' hn => ?_, fun p hp => ?_⟩
    · rw [Array.toList_push] at hx
      rcases List.mem_append.1 hx with hy | hx
      · obtain ⟨ks', q1, q2, q3, q4⟩ := he x hy
        have : ks' ≠ ks := by
          rintro rfl
          exact hno x hy q2
        exact ⟨ks', q1, q2, by simpa [putF, this] using q3, by simpa [putF, this] using q4⟩
      · obtain rfl := List.mem_singleton.1 hx
        exact ⟨ks, hk, rfl, by simp [putF], by simpa [putF] using hv⟩
    · have hne : ks' ≠ ks := by
        rintro rfl
        exact hn { key := keyV ak ks', val := .int .i64 v, born := clock } (by simp) rfl
      simp only [putF, if_neg hne]
      exact h0 ks' hk' fun e he' => hn e (by simp [he'])
    · rcases List.mem_cons.1 hp with rfl | hp
      · exact ⟨hk, _, by simp; exact .inr rfl, rfl, rfl⟩
      · obtain ⟨q0, e, he', q1, q2⟩ := hst p hp
        exact ⟨q0, e, by simp [he'], q1, q2⟩
  refine ⟨?_, main⟩
  obtain ⟨es', c', h1, h2, h3, h4, h5⟩ := main
  exact ⟨es', c', h1, h2, h3, h4, fun p hp => h5 p (List.mem_cons_of_mem _ hp)⟩
theorem map_update (K : MKey P kt ak) (ht : P.underlying t = some (.map kt et)) (h : MapOk w b ak f sts) {ks : List Int} (hk : okK ak ks) {v : Int} (hv : (Lit.int .i64 v).wf = true) :
    ∃ o, (Instr.mapUpdate t (.map (some b)) (keyV ak ks) (.int .i64 v)).run P w = .ok () { w with heap := w.heap.setIfInBounds b o } ∧ MapOk { w with heap := w.heap.setIfInBounds b o } b ak (putF f ks v) sts := by
  obtain ⟨es, clock, hb, hs, he, h0, hst⟩ := h
  rcases K.find w ks hk es.toList (fun e hx => by obtain ⟨ks', h1, h2, _⟩ := he e hx; exact ⟨ks', h1, h2⟩) with ⟨h1, h2⟩ | ⟨j, e, h1, h2, h3⟩
  · refine ⟨_, ?_, (MapOk.pushed K hb hs he h0 hst hk hv h2).1⟩
    simp [Instr.mapUpdate, run_underlying ht, MapKept.run_getObj_map hb, K.check w _ ks hk, h1, Result.andThen, MapKept.run_setObj_map _ hb]
  · have h2' : es[j]? = some e := by simpa using h2
    refine ⟨_, ?_, MapOk.setAt K hb hs he h0 hst hk hv h2' h3 (fun e => { e with key := keyV ak ks, val := .int .i64 v }) (fun e he => ⟨he.symm, rfl, rfl⟩) (fun e => rfl)⟩
    simp [Instr.mapUpdate, run_underlying ht, MapKept.run_getObj_map hb, K.check w _ ks hk, h1, h2', h3, K.stays w ks hk, Result.andThen, MapKept.run_setObj_map _ hb]
theorem map_entry (K : MKey P kt ak) (ht : P.underlying t = some (.map kt et)) (hz : ∀ u : World, (zeroValue et).run P u = .ok (.int .i64 0) u) (h : MapOk w b ak f sts) {ks : List Int} (hk : okK ak ks) :
    ∃ (o : Obj) (st : Int), (Instr.mapEntry t (.map (some b)) (keyV ak ks)).run P w = .ok (.tuple #[.int .i64 (f ks), .int .i64 st]) { w with heap := w.heap.setIfInBounds b o } ∧ MapOk { w with heap := w.heap.setIfInBounds b o } b ak f ((st, ks) :: sts) := by
  have hwf := h.wf hk K.inj
  obtain ⟨es, clock, hb, hs, he, h0, hst⟩ := h
  have same : putF f ks (f ks) = f := by
    funext x
    unfold putF
    split
    · subst_vars; rfl
    · rfl
  rcases K.find w ks hk es.toList (fun e hx => by obtain ⟨ks', h1, h2, _⟩ := he e hx; exact ⟨ks', h1, h2⟩) with ⟨h1, h2⟩ | ⟨j, e, h1, h2, h3⟩
  · have hf := h0 ks hk h2
    have hp := (MapOk.pushed (w := w) K hb hs he h0 hst hk hwf h2).2
    rw [same] at hp
    refine ⟨_, (clock : Nat), ?_, hp⟩
    rw [hf]
    simp [Instr.mapEntry, run_underlying ht, MapKept.run_getObj_map hb, K.check w _ ks hk, h1, hz, Result.andThen, MapKept.run_setObj_map _ hb, goInt]
  · have h2' : es[j]? = some e := by simpa using h2
    have hm := List.mem_of_getElem? h2
    obtain ⟨ks', q1, q2, q3, q4⟩ := he e hm
    obtain rfl := K.inj _ _ hk q1 (h3.symm.trans q2)
    have hp : MapOk { w with heap := w.heap.setIfInBounds b (.map (es.modify j fun e => { e with key := keyV ak ks }) clock) } b ak f sts := by
      have hg : es.modify j (fun e => { e with key := keyV ak ks }) = es.modify j (fun e => { e with key := keyV ak ks, val := .int .i64 (f ks) }) := by
        apply Array.ext_getElem?
        intro i
        rw [Array.getElem?_modify, Array.getElem?_modify]
        by_cases e1 : j = i
        · subst e1
          rw [if_pos rfl, if_pos rfl, h2']
          simp [q3]
        · rw [if_neg e1, if_neg e1]
      rw [hg]
      have := MapOk.setAt (w := w) (f := f) K hb hs he h0 hst hk hwf h2' h3 (fun e => { e with key := keyV ak ks, val := .int .i64 (f ks) }) (fun e he => ⟨he.symm, rfl, rfl⟩) (fun e => rfl)
      rwa [same] at this
    refine ⟨.map (es.modify j fun e => { e with key := keyV ak ks }) clock, (e.born : Nat), ?_, ?_⟩
    · simp [Instr.mapEntry, run_underlying ht, MapKept.run_getObj_map hb, K.check w _ ks hk, h1, h2', h3, K.stays w ks hk, q3, Result.andThen, MapKept.run_setObj_map _ hb, goInt]
    · obtain ⟨es', c', p1, p2, p3, p4, p5⟩ := hp
      have hh := (heap_set (w := w) (r := b) (o' := .map (es.modify j fun e => { e with key := keyV ak ks }) clock) hb).1
      have : es' = es.modify j fun e => { e with key := keyV ak ks } := by
        rw [hh] at p1
        cases p1
        rfl
      refine ⟨es', c', p1, p2, p3, p4, fun p hp => ?_⟩
      rcases List.mem_cons.1 hp with rfl | hp
      · refine ⟨hk, { e with key := keyV ak ks }, ?_, rfl, rfl⟩
        rw [this]
        exact List.mem_of_getElem? (i := j) (by rw [Array.getElem?_toList, Array.getElem?_modify, if_pos rfl, h2']; rfl)
      · exact p5 p hp
theorem map_store (K : MKey P kt ak) (h : MapOk w b ak f sts) {ks : List Int} {st : Int} (hst : (st, ks) ∈ sts) {v : Int} (hv : (Lit.int .i64 v).wf = true) :
    ∃ o, (Instr.entryStore t (.map (some b)) (.int .i64 st) (.int .i64 v)).run P w = .ok () { w with heap := w.heap.setIfInBounds b o } ∧ MapOk { w with heap := w.heap.setIfInBounds b o } b ak (putF f ks v) sts := by
  obtain ⟨es, clock, hb, hs, he, h0, hs'⟩ := h
  obtain ⟨hk, e, hm, h1, h2⟩ := hs' _ hst
  dsimp only at hk h1 h2
  obtain ⟨j, hj⟩ := List.getElem?_of_mem hm
  have hj' : es[j]? = some e := by simpa using hj
  have hfind := WideElems.findIdx_born (l := es.toList) ((stamped_iff es clock).1 hs).2.1 hj
  rw [← WideElems.findIdx_arr] at hfind
  refine ⟨_, ?_, MapOk.setAt K hb hs he h0 hs' hk hv hj' h2 (fun e => { e with val := .int .i64 v }) (fun e he => ⟨rfl, rfl, rfl⟩) (fun e => rfl)⟩
  rw [← h1]
  simp only [Instr.entryStore, Sem.run_bind, MapKept.run_getObj_map hb, Result.andThen_ok, asInt, asIntOf, Sem.run_pure]
  rw [hfind]
  simp [MapKept.run_setObj_map _ hb]
end
end
end Go.Proofs.Ytdeledeopippfaa
