/-
  An abstract layer over the walk's program logic: values of a function's frame are described by pure data trees (D), owned trees with their blocks (CO), or local rows; contracts speak of data, not of worlds.
  This text: the data trees, how a world bears them, and that they stay borne where their blocks stay.
-/
import Derived.WalkKit
import Derived.Laws.Cells
import Derived.Laws.CopyRow
namespace Go.Proofs.Ytbphkpojhinbiaa
open Go Go.RowKit
set_option linter.unusedVariables false
set_option linter.unusedSimpArgs false

theorem add_mk (b o n : Nat) : (⟨b, o, none⟩ : Addr).add n = ⟨b, o + n, none⟩ := by
  unfold Addr.add
  split
  · simp [*]
  · rfl

/-- A pure data tree: a scalar, or a slice of elements (an element: its cells). -/
inductive D where
  | v (x : Value)
  | sl (es : List (List D))

/-- A scalar that lies in its kind's range and is one cell. -/
def Sc : Value → Prop
  | .int k n => (Lit.int k n).wf = true
  | .string s => s.size ≤ maxLen
  | .bool _ => True
  | _ => False

theorem Sc.one {x : Value} (h : Sc x) : x.oneCell' = true := by cases x <;> simp_all [Sc, Value.oneCell']

/-- The world bears the tree t at the value u; its blocks are among S. -/
inductive CD (w : World) (S : Nat → Prop) : D → Value → Prop
  | v (x : Value) (h : Sc x) : CD w S (.v x) x
  | nil : CD w S (.sl []) (.slice none 0 0)
  | emp (a : Addr) (cap : Nat) (hm : cap ≤ maxLen) : CD w S (.sl []) (.slice (some a) 0 cap)
  | sl (b o cap sz : Nat) (es : List (List D)) (U : Nat → Nat → Value) (hS : S b) (hcap : es.length ≤ cap) (hm : cap ≤ maxLen)
      (hsz : ∀ e ∈ es, e.length = sz)
      (hc : ∀ (i j : Nat) (e : List D) (c : D), es[i]? = some e → e[j]? = some c → w.cell? ⟨b, o + i * sz + j, none⟩ = some (U i j))
      (hu : ∀ (i j : Nat) (e : List D) (c : D), es[i]? = some e → e[j]? = some c → CD w S c (U i j)) :
      CD w S (.sl es) (.slice (some ⟨b, o, none⟩) es.length cap)

/-- All blocks of n elements of sz cells each. -/
def cat (F : Nat → Nat → List Nat) (n sz : Nat) : List Nat := (List.range n).flatMap fun i => (List.range sz).flatMap fun j => F i j

/-- The world bears the tree t at the value u, each slice in a block of its own, from its first cell on; these blocks are the list fp. -/
inductive CO (w : World) : D → Value → List Nat → Prop
  | v (x : Value) (h : Sc x) : CO w (.v x) x []
  | nil : CO w (.sl []) (.slice none 0 0) []
  | sl (b cap sz : Nat) (ty : TypeId) (cur : Array Value) (es : List (List D)) (U : Nat → Nat → Value) (F : Nat → Nat → List Nat)
      (hb : w.heap[b]? = some (.cells cur ty (0, 0))) (hcur : cur.size = cap * sz) (hcap : es.length ≤ cap) (hm : cap ≤ maxLen)
      (hsz : ∀ e ∈ es, e.length = sz)
      (hc : ∀ (i j : Nat) (e : List D) (c : D), es[i]? = some e → e[j]? = some c → cur[i * sz + j]? = some (U i j))
      (hu : ∀ (i j : Nat) (e : List D) (c : D), es[i]? = some e → e[j]? = some c → CO w c (U i j) (F i j)) :
      CO w (.sl es) (.slice (some ⟨b, 0, none⟩) es.length cap) (b :: cat F es.length sz)

/-- Every scalar in the tree lies in its range, every slice is of a length that an int holds. -/
inductive WFD : D → Prop
  | v (x : Value) (h : Sc x) : WFD (.v x)
  | sl (es : List (List D)) (hm : es.length ≤ maxLen) (hu : ∀ (i j : Nat) (e : List D) (c : D), es[i]? = some e → e[j]? = some c → WFD c) : WFD (.sl es)

theorem CD.wf {w : World} {S : Nat → Prop} {t : D} {u : Value} (h : CD w S t u) : WFD t := by
  induction h with
  | v x h => exact .v x h
  | nil => exact .sl [] (by simp) (by simp)
  | emp => exact .sl [] (by simp) (by simp)
  | sl b o cap sz es U hS hcap hm hsz hc hu ih => exact .sl es (Nat.le_trans hcap hm) ih

theorem CO.wf {w : World} {t : D} {u : Value} {fp : List Nat} (h : CO w t u fp) : WFD t := by
  induction h with
  | v x h => exact .v x h
  | nil => exact .sl [] (by simp) (by simp)
  | sl b cap sz ty cur es U F hb hcur hcap hm hsz hc hu ih => exact .sl es (Nat.le_trans hcap hm) ih

theorem WFD.at_ {es : List (List D)} (h : WFD (.sl es)) {i j : Nat} {e : List D} {c : D} (hi : es[i]? = some e) (hj : e[j]? = some c) : WFD c := by
  cases h with | sl _ _ hu => exact hu i j e c hi hj
theorem WFD.len {es : List (List D)} (h : WFD (.sl es)) : es.length ≤ maxLen := by cases h with | sl _ hm _ => exact hm
theorem WFD.sc {x : Value} (h : WFD (.v x)) : Sc x := by cases h with | v _ h => exact h

theorem mem_cat {F : Nat → Nat → List Nat} {n sz i j x : Nat} (hi : i < n) (hj : j < sz) (hx : x ∈ F i j) : x ∈ cat F n sz := by
  unfold cat
  exact List.mem_flatMap.2 ⟨i, by simpa using hi, List.mem_flatMap.2 ⟨j, by simpa using hj, hx⟩⟩

theorem of_mem_cat {F : Nat → Nat → List Nat} {n sz x : Nat} (h : x ∈ cat F n sz) : ∃ i j, i < n ∧ j < sz ∧ x ∈ F i j := by
  unfold cat at h
  obtain ⟨i, hi, h⟩ := List.mem_flatMap.1 h
  obtain ⟨j, hj, h⟩ := List.mem_flatMap.1 h
  exact ⟨i, j, by simpa using hi, by simpa using hj, h⟩

theorem len_of {α : Type} {es : List (List α)} {sz i j : Nat} {e : List α} {c : α} (hsz : ∀ e ∈ es, e.length = sz) (hi : es[i]? = some e) (hj : e[j]? = some c) : i < es.length ∧ j < sz := by
  refine ⟨(List.getElem?_eq_some_iff.1 hi).1, ?_⟩
  rw [← hsz e (List.mem_of_getElem? hi)]
  exact (List.getElem?_eq_some_iff.1 hj).1

theorem CD.mono {w w' : World} {S S' : Nat → Prop} {t : D} {u : Value} (h : CD w S t u) (hS : ∀ b, S b → S' b ∧ w'.heap[b]? = w.heap[b]?) : CD w' S' t u := by
  induction h with
  | v x h => exact .v x h
  | nil => exact .nil
  | emp a cap hm => exact .emp a cap hm
  | sl b o cap sz es U hb hcap hm hsz hc hu ih =>
    refine .sl b o cap sz es U (hS b hb).1 hcap hm hsz (fun i j e c hi hj => ?_) (fun i j e c hi hj => ih i j e c hi hj)
    rw [World.cell?_of_block (w := w) (hS b hb).2]
    exact hc i j e c hi hj

theorem CO.mono {w w' : World} {t : D} {u : Value} {fp : List Nat} (h : CO w t u fp) (hS : ∀ b ∈ fp, w'.heap[b]? = w.heap[b]?) : CO w' t u fp := by
  induction h with
  | v x h => exact .v x h
  | nil => exact .nil
  | sl b cap sz ty cur es U F hb hcur hcap hm hsz hc hu ih =>
    refine .sl b cap sz ty cur es U F ((hS b (by simp)).trans hb) hcur hcap hm hsz hc (fun i j e c hi hj => ih i j e c hi hj fun x hx => hS x ?_)
    obtain ⟨h1, h2⟩ := len_of hsz hi hj
    exact List.mem_cons_of_mem _ (mem_cat h1 h2 hx)

/-- An owned tree is a tree. -/
theorem CO.cd {w : World} {S : Nat → Prop} {t : D} {u : Value} {fp : List Nat} (h : CO w t u fp) (hS : ∀ b ∈ fp, S b) : CD w S t u := by
  induction h with
  | v x h => exact .v x h
  | nil => exact .nil
  | sl b cap sz ty cur es U F hb hcur hcap hm hsz hc hu ih =>
    refine .sl b 0 cap sz es U (hS b (by simp)) hcap hm hsz (fun i j e c hi hj => ?_) (fun i j e c hi hj => ih i j e c hi hj fun x hx => hS x ?_)
    · rw [cell_of_row w b _ cur ty (0, 0) hb, Nat.zero_add]
      exact hc i j e c hi hj
    · obtain ⟨h1, h2⟩ := len_of hsz hi hj
      exact List.mem_cons_of_mem _ (mem_cat h1 h2 hx)

theorem CO.lt {w : World} {t : D} {u : Value} {fp : List Nat} (h : CO w t u fp) : ∀ b ∈ fp, b < w.heap.size := by
  induction h with
  | v x h => simp
  | nil => simp
  | sl b cap sz ty cur es U F hb hcur hcap hm hsz hc hu ih =>
    intro x hx
    rcases List.mem_cons.1 hx with rfl | hx
    · exact (Array.getElem?_eq_some_iff.1 hb).1
    · obtain ⟨i, j, hi, hj, hx⟩ := of_mem_cat hx
      have hi' : es[i]? = some es[i] := List.getElem?_eq_getElem hi
      have hj' : es[i][j]? = some (es[i][j]'(by rw [hsz _ (List.getElem_mem hi)]; exact hj)) := List.getElem?_eq_getElem _
      exact ih i j _ _ hi' hj' x hx

theorem CD.one {w : World} {S : Nat → Prop} {t : D} {u : Value} (h : CD w S t u) : u.oneCell' = true := by
  cases h with
  | v x h => exact h.one
  | nil => rfl
  | emp => rfl
  | sl => rfl

theorem CO.one {w : World} {t : D} {u : Value} {fp : List Nat} (h : CO w t u fp) : u.oneCell' = true := by
  cases h with
  | v x h => exact h.one
  | nil => rfl
  | sl => rfl

/-- A value in a frame, described. any: not said. d: a tree. ow: an owned tree, and its blocks. rf: a pointer to cells that hold trees. ptr: a pointer into local row id: element i, cell off. row: a slice that is local row id. agg, tup: several. fn: a function value with what it captured. -/
inductive AV where
  | any
  | d (t : D)
  | ow (fp : List Nat) (t : D)
  | rf (cs : List D)
  | ptr (id i off : Nat)
  | row (id n cap : Nat)
  | agg (cs : List AV)
  | tup (cs : List AV)
  | fn (f : FuncId) (cs : List AV)

/-- A local row: its block, the cells an element, its elements up to its capacity. -/
structure LRow where
  blk : Nat
  sz : Nat
  es : List (List AV)

inductive Conc (w : World) (S : Nat → Prop) (H : List (Option LRow)) : AV → Value → Prop
  | any (u : Value) : Conc w S H .any u
  | d {t : D} {u : Value} (h : CD w S t u) : Conc w S H (.d t) u
  | ow {fp : List Nat} {t : D} {u : Value} (h : CO w t u fp) (hS : ∀ b ∈ fp, S b) : Conc w S H (.ow fp t) u
  | rf (b o : Nat) (cs : List D) (U : Nat → Value) (hS : S b) (hc : ∀ (j : Nat) (c : D), cs[j]? = some c → w.cell? ⟨b, o + j, none⟩ = some (U j))
      (hu : ∀ (j : Nat) (c : D), cs[j]? = some c → CD w S c (U j)) : Conc w S H (.rf cs) (.pointer (some ⟨b, o, none⟩))
  | ptr (id i off : Nat) (r : LRow) (h : H[id]? = some (some r)) : Conc w S H (.ptr id i off) (.pointer (some ⟨r.blk, i * r.sz + off, none⟩))
  | row (id n cap : Nat) (r : LRow) (h : H[id]? = some (some r)) (hn : n ≤ cap) (hl : r.es.length = cap) (hm : cap ≤ maxLen) : Conc w S H (.row id n cap) (.slice (some ⟨r.blk, 0, none⟩) n cap)
  | agg (cs : List AV) (us : List Value) (hl : us.length = cs.length) (hu : ∀ (j : Nat) (c : AV) (u : Value), cs[j]? = some c → us[j]? = some u → Conc w S H c u) : Conc w S H (.agg cs) (.agg us.toArray)
  | tup (cs : List AV) (us : List Value) (hl : us.length = cs.length) (hu : ∀ (j : Nat) (c : AV) (u : Value), cs[j]? = some c → us[j]? = some u → Conc w S H c u) : Conc w S H (.tup cs) (.tuple us.toArray)
  | fn (f : FuncId) (cs : List AV) (us : List Value) (hl : us.length = cs.length) (hu : ∀ (j : Nat) (c : AV) (u : Value), cs[j]? = some c → us[j]? = some u → Conc w S H c u) : Conc w S H (.fn f cs) (.func (.func f) #[] us.toArray)

/-- Rows keep their places. -/
def Same (H H' : List (Option LRow)) : Prop := ∀ (id : Nat) (r : LRow), H[id]? = some (some r) → ∃ r' : LRow, H'[id]? = some (some r') ∧ r'.blk = r.blk ∧ r'.sz = r.sz ∧ r'.es.length = r.es.length

theorem Same.refl (H : List (Option LRow)) : Same H H := fun _ r h => ⟨r, h, rfl, rfl, rfl⟩

theorem Conc.mono {w w' : World} {S S' : Nat → Prop} {H H' : List (Option LRow)} {x : AV} {u : Value} (h : Conc w S H x u)
    (hS : ∀ b, S b → S' b ∧ w'.heap[b]? = w.heap[b]?) (hH : Same H H') : Conc w' S' H' x u := by
  induction h with
  | any u => exact .any u
  | d h => exact .d (h.mono hS)
  | ow h hs => exact .ow (h.mono fun b hb => (hS b (hs b hb)).2) fun b hb => (hS b (hs b hb)).1
  | rf b o cs U hb hc hu =>
    refine .rf b o cs U (hS b hb).1 (fun j c hj => ?_) (fun j c hj => (hu j c hj).mono hS)
    rw [World.cell?_of_block (w := w) (hS b hb).2]
    exact hc j c hj
  | ptr id i off r h =>
    obtain ⟨r', h', hb, hs, _⟩ := hH id r h
    have := Conc.ptr (w := w') (S := S') id i off r' h'
    rwa [hb, hs] at this
  | row id n cap r h hn hl hm =>
    obtain ⟨r', h', hb, hs, hl'⟩ := hH id r h
    have := Conc.row (w := w') (S := S') id n cap r' h' hn (hl'.trans hl) hm
    rwa [hb] at this
  | agg cs us hl hu ih => exact .agg cs us hl fun j c u hj hju => ih j c u hj hju
  | tup cs us hl hu ih => exact .tup cs us hl fun j c u hj hju => ih j c u hj hju
  | fn f cs us hl hu ih => exact .fn f cs us hl fun j c u hj hju => ih j c u hj hju

def AV.one : AV → Bool
  | .any | .agg _ | .tup _ => false
  | _ => true

theorem Conc.one {w : World} {S : Nat → Prop} {H : List (Option LRow)} {x : AV} {u : Value} (h : Conc w S H x u) (h1 : x.one = true) : u.oneCell' = true := by
  cases h with
  | any => cases h1
  | d h => exact h.one
  | ow h => exact h.one
  | rf => rfl
  | ptr => rfl
  | row => rfl
  | agg => cases h1
  | tup => cases h1
  | fn => rfl

/-- A local row lies in the world. -/
def RowOk (w : World) (S : Nat → Prop) (H : List (Option LRow)) (r : LRow) : Prop :=
  ∃ ty cur, w.heap[r.blk]? = some (.cells cur ty (0, 0)) ∧ cur.size = r.es.length * r.sz ∧ (∀ e ∈ r.es, e.length = r.sz) ∧
    ∀ (i j : Nat) (e : List AV) (c : AV), r.es[i]? = some e → e[j]? = some c → ∃ u, cur[i * r.sz + j]? = some u ∧ u.oneCell' = true ∧ Conc w S H c u

end Go.Proofs.Ytbphkpojhinbiaa
