/- Texts for VSectionsP. -/
import Derived.WalkKit
import Derived.Laws.Cells
import Derived.Laws.CopyRow
import Derived.Test.YtdeledeopippfaaVx0
namespace Go.Proofs.Ytdeledeopippfaa
open Go Go.RowKit
set_option linter.unusedVariables false
set_option linter.unusedSimpArgs false
theorem add_mk (b o n : Nat) : (⟨b, o, none⟩ : Addr).add n = ⟨b, o + n, none⟩ := by
  unfold Addr.add
  split
  · simp [*]
  · rfl
inductive AV where
  | any
  | i (k : IntKind) (n : Int)
  | b (x : Bool)
  | kb (x : Bool)
  | s (x : ByteArray)
  | nils
  | nilp
  | sl (sz n : Nat) (g : Nat → Nat → AV)
  | rf (m : Nat) (g : Nat → AV)
  | ow (sz n : Nat) (g : Nat → Nat → AV)
  | ptr (id j off : Nat)
  | row (id n : Nat)
  | rs (id o n : Nat)
  | mp (id : Nat)
  | fm (ak : Bool) (f : List Int → Int)
  | st (z : Int)
  | agg (cs : List AV)
  | tup (cs : List AV)
  | fn (f : FuncId) (cs : List AV)
def AV.idf : AV → Prop
  | .ptr .. | .row .. | .rs .. | .mp _ | .ow .. | .agg _ | .tup _ => False
  | .fn _ cs => cs = []
  | .sl sz n g => ∀ i j, i < n → j < sz → (g i j).idf
  | .rf m g => ∀ j, j < m → (g j).idf
  | _ => True
def AV.idfO : AV → Prop
  | .ow sz n g => ∀ i j, i < n → j < sz → (g i j).idfO
  | x => x.idf
inductive RK where
  | arr
  | box
  | mp (ak : Bool) (f : List Int → Int) (sts : List (Int × List Int))
  | hid
def RK.isMp : RK → Bool
  | .mp .. => true
  | .hid => true
  | _ => false
structure Row where
  sz : Nat
  cap : Nat
  es : Nat → Nat → AV
  k : RK
structure BC where
  b : Nat
  c : Nat
abbrev Fr := List (Nat × AV)
abbrev Hp := List (Option Row)
inductive Conc (w : World) (S : Nat → Prop) (blk : Nat → BC) (H : Hp) : AV → Value → Prop
  | any (u : Value) : Conc w S blk H .any u
  | i {k : IntKind} {n : Int} (h : (Lit.int k n).wf = true) : Conc w S blk H (.i k n) (.int k n)
  | b (x : Bool) : Conc w S blk H (.b x) (.bool x)
  | kb (x : Bool) : Conc w S blk H (.kb x) (.bool x)
  | s {x : ByteArray} (h : x.size ≤ maxLen) : Conc w S blk H (.s x) (.string x)
  | nils : Conc w S blk H .nils (.slice none 0 0)
  | nilp : Conc w S blk H .nilp (.pointer none)
  | sl0 {sz : Nat} {g : Nat → Nat → AV} (a : Option Addr) (cap : Nat) (hm : cap ≤ maxLen) : Conc w S blk H (.sl sz 0 g) (.slice a 0 cap)
  | sl {sz n : Nat} {g : Nat → Nat → AV} (b o cap : Nat) (U : Nat → Nat → Value) (hS : S b) (hn : n ≤ cap) (hm : cap ≤ maxLen)
      (hc : ∀ i j, i < n → j < sz → w.cell? ⟨b, o + i * sz + j, none⟩ = some (U i j)) (hf : ∀ i j, i < n → j < sz → (g i j).idf)
      (hu : ∀ i j, i < n → j < sz → Conc w S blk H (g i j) (U i j)) : Conc w S blk H (.sl sz n g) (.slice (some ⟨b, o, none⟩) n cap)
  | rf {m : Nat} {g : Nat → AV} (b o : Nat) (U : Nat → Value) (hS : S b) (hc : ∀ j, j < m → w.cell? ⟨b, o + j, none⟩ = some (U j)) (hf : ∀ j, j < m → (g j).idf)
      (hu : ∀ j, j < m → Conc w S blk H (g j) (U j)) : Conc w S blk H (.rf m g) (.pointer (some ⟨b, o, none⟩))
  | ptr {id j off : Nat} (r : Row) (h : H[id]? = some (some r)) (hj : j < r.cap) (ho : off ≤ r.sz) : Conc w S blk H (.ptr id j off) (.pointer (some ⟨(blk id).b, j * r.sz + off, none⟩))
  | ptrD {id j off : Nat} (h : H[id]? = some none) (u : Value) : Conc w S blk H (.ptr id j off) u
  | row {id n : Nat} (r : Row) (h : H[id]? = some (some r)) (hn : n ≤ r.cap) (hc : r.cap ≤ (blk id).c) (h0 : 0 < (blk id).c) (hm : (blk id).c ≤ maxLen) : Conc w S blk H (.row id n) (.slice (some ⟨(blk id).b, 0, none⟩) n (blk id).c)
  | row0 {id : Nat} (r : Row) (h : H[id]? = some (some r)) (hr : r.cap = 0) (h0 : (blk id).c = 0) (a : Option Addr) : Conc w S blk H (.row id 0) (.slice a 0 0)
  | rs {id o n : Nat} (r : Row) (h : H[id]? = some (some r)) (hn : o + n ≤ r.cap) (hc : r.cap ≤ (blk id).c) (hm : (blk id).c ≤ maxLen) (a : Option Addr) (ha : o < (blk id).c → a = some ⟨(blk id).b, o * r.sz, none⟩) : Conc w S blk H (.rs id o n) (.slice a n ((blk id).c - o))
  | rsD {id o n : Nat} (h : H[id]? = some none) (u : Value) : Conc w S blk H (.rs id o n) u
  | mp {id : Nat} (r : Row) (h : H[id]? = some (some r)) : Conc w S blk H (.mp id) (.map (some (blk id).b))
  | mpD {id : Nat} (h : H[id]? = some none) (u : Value) : Conc w S blk H (.mp id) u
  | st (z : Int) : Conc w S blk H (.st z) (.int .i64 z)
  | fm {ak : Bool} {f : List Int → Int} (b : Nat) (hS : S b) (h : MapOk w b ak f []) : Conc w S blk H (.fm ak f) (.map (some b))
  | rowD {id n : Nat} (h : H[id]? = some none) (u : Value) : Conc w S blk H (.row id n) u
  | agg (cs : List AV) (us : List Value) (hl : us.length = cs.length) (hu : ∀ (j : Nat) (c : AV) (u : Value), cs[j]? = some c → us[j]? = some u → Conc w S blk H c u) : Conc w S blk H (.agg cs) (.agg us.toArray)
  | tup (cs : List AV) (us : List Value) (hl : us.length = cs.length) (hu : ∀ (j : Nat) (c : AV) (u : Value), cs[j]? = some c → us[j]? = some u → Conc w S blk H c u) : Conc w S blk H (.tup cs) (.tuple us.toArray)
  | fn (f : FuncId) (cs : List AV) (us : List Value) (hl : us.length = cs.length) (hu : ∀ (j : Nat) (c : AV) (u : Value), cs[j]? = some c → us[j]? = some u → Conc w S blk H c u) : Conc w S blk H (.fn f cs) (.func (.func f) #[] us.toArray)
def FzOk (fz : Nat × Nat) (n : Nat) : Prop := fz.1 = fz.2 ∨ n ≤ fz.1
theorem FzOk.no {fz : Nat × Nat} {n i : Nat} (h : FzOk fz n) (hi : i < n) : (fz.1 ≤ i && i < fz.2) = false := by
  rcases h with h | h
  · rw [h]
    cases hq : (decide (fz.2 ≤ i) && decide (i < fz.2)) with
    | false => rfl
    | true => simp at hq; omega
  · cases hq : (decide (fz.1 ≤ i) && decide (i < fz.2)) with
    | false => rfl
    | true => simp at hq; omega
def RowAt (w : World) (b : Nat) (cur : Array Value) (ty : TypeId) : Prop := ∃ fz : Nat × Nat, w.heap[b]? = some (.cells cur ty fz) ∧ FzOk fz cur.size
theorem RowAt.mono {w w' : World} {b : Nat} {cur : Array Value} {ty : TypeId} (h : RowAt w b cur ty) (e : w'.heap[b]? = w.heap[b]?) : RowAt w' b cur ty := by
  obtain ⟨fz, h1, h2⟩ := h
  exact ⟨fz, e.trans h1, h2⟩
theorem rowAt0 {w : World} {b : Nat} {cur : Array Value} {ty : TypeId} (h : w.heap[b]? = some (.cells cur ty (0, 0))) : RowAt w b cur ty := ⟨(0, 0), h, .inl rfl⟩
theorem RowAt.cell {w : World} {b j : Nat} {cur : Array Value} {ty : TypeId} (h : RowAt w b cur ty) : w.cell? ⟨b, j, none⟩ = cur[j]? := by
  obtain ⟨fz, h1, h2⟩ := h
  simp [World.cell?, h1]
theorem RowAt.lt {w : World} {b : Nat} {cur : Array Value} {ty : TypeId} (h : RowAt w b cur ty) : b < w.heap.size := by
  obtain ⟨fz, h1, h2⟩ := h
  exact (Array.getElem?_eq_some_iff.1 h1).1
theorem RowAt.setRow {w : World} {b : Nat} {cur cur' : Array Value} {ty : TypeId} (h : RowAt w b cur ty) (hs : cur'.size = cur.size) : RowAt (w.setRow b cur') b cur' ty := by
  obtain ⟨fz, h1, h2⟩ := h
  exact ⟨fz, setRow_heap w b cur cur' ty fz h1, by rw [hs]; exact h2⟩
theorem RowAt.self {w : World} {b : Nat} {cur : Array Value} {ty : TypeId} (h : RowAt w b cur ty) : w.setRow b cur = w := by
  obtain ⟨fz, h1, h2⟩ := h
  exact setRow_self w b cur ty fz h1
theorem run_storeZ (P : Program) (g o : Nat) (t : TypeId) : ∀ (vs : List Value) (i : Nat) (cur : Array Value) (w : World), RowAt w g cur t → o + i + vs.length ≤ cur.size → (∀ v ∈ vs, v.oneCell' = true) →
    (storeCells ⟨g, o, none⟩ vs i).run P w = .ok () (w.setRow g (cur.toList.take (o + i) ++ vs ++ cur.toList.drop (o + i + vs.length)).toArray)
  | [], i, cur, w, hg, _, _ => by
    simp only [storeCells, List.append_nil, List.length_nil, Nat.add_zero, List.take_append_drop, Array.toArray_toList]
    rw [hg.self]
    rfl
  | v :: rest, i, cur, w, hg, hl, h1 => by
    have hi : o + i < cur.size := by simp at hl; omega
    have hadd := add_mk g o i
    obtain ⟨fz, hg1, hg2⟩ := id hg
    have hcell : w.cell? ⟨g, o + i, none⟩ = some cur[o + i] := by simp [World.cell?, hg1, hi]
    have hfro : w.frozen? ⟨g, o + i, none⟩ = false := by
      have := hg2.no hi
      simpa [World.frozen?, hg1] using this
    have hst : (store ((⟨g, o, none⟩ : Addr).add i) v).run P w = .ok () (w.setRow g (cur.setIfInBounds (o + i) v)) := by
      rw [hadd, run_store P w _ v _ (h1 v (by simp)), hcell]
      simp [hfro, setCell_eq_setRow w g (o + i) cur t fz v hg1]
    have ih := run_storeZ P g o t rest (i + 1) (cur.setIfInBounds (o + i) v) (w.setRow g (cur.setIfInBounds (o + i) v)) (hg.setRow (by simp)) (by simp at hl ⊢; omega) (fun x hx => h1 x (by simp [hx]))
    simp only [storeCells, Sem.run_bind, hst, Result.andThen_ok, ih, setRow_setRow]
    congr 3
    have e := list_seg_step cur.toList (o + i) v rest (by simp at hl ⊢; omega)
    simpa [Array.toList_setIfInBounds, Nat.add_assoc] using e
def cat (F : Nat → Nat → List Nat) (n sz : Nat) : List Nat := (List.range n).flatMap fun i => (List.range sz).flatMap fun j => F i j
inductive Own (w : World) (S : Nat → Prop) (blk : Nat → BC) (H : Hp) : AV → Value → List Nat → Prop
  | plain {x : AV} {u : Value} (h : Conc w S blk H x u) : Own w S blk H x u []
  | ow0 {sz : Nat} {g : Nat → Nat → AV} (a : Option Addr) : Own w S blk H (.ow sz 0 g) (.slice a 0 0) []
  | ow {sz n : Nat} {g : Nat → Nat → AV} (b cap : Nat) (ty : TypeId) (cur : Array Value) (U : Nat → Nat → Value) (F : Nat → Nat → List Nat)
      (hb : RowAt w b cur ty) (hcur : cur.size = cap * sz) (hn : n ≤ cap) (hm : cap ≤ maxLen) (h0 : 0 < cap) (h1 : ∀ u ∈ cur, u.oneCell' = true)
      (hc : ∀ i j, i < n → j < sz → cur[i * sz + j]? = some (U i j)) (hf : ∀ i j, i < n → j < sz → (g i j).idfO)
      (hu : ∀ i j, i < n → j < sz → Own w S blk H (g i j) (U i j) (F i j)) (hF : (b :: cat F n sz).Nodup) :
      Own w S blk H (.ow sz n g) (.slice (some ⟨b, 0, none⟩) n cap) (b :: cat F n sz)
theorem mem_cat {F : Nat → Nat → List Nat} {n sz i j x : Nat} (hi : i < n) (hj : j < sz) (hx : x ∈ F i j) : x ∈ cat F n sz := by
  unfold cat
  exact List.mem_flatMap.2 ⟨i, by simpa using hi, List.mem_flatMap.2 ⟨j, by simpa using hj, hx⟩⟩
theorem of_mem_cat {F : Nat → Nat → List Nat} {n sz x : Nat} (h : x ∈ cat F n sz) : ∃ i j, i < n ∧ j < sz ∧ x ∈ F i j := by
  unfold cat at h
  obtain ⟨i, hi, h⟩ := List.mem_flatMap.1 h
  obtain ⟨j, hj, h⟩ := List.mem_flatMap.1 h
  exact ⟨i, j, by simpa using hi, by simpa using hj, h⟩
def HExt (H : Hp) (blk : Nat → BC) (H' : Hp) (blk' : Nat → BC) : Prop :=
  ∀ (id : Nat) (x : Option Row), H[id]? = some x → H'[id]? = some none ∨ ∃ r r' : Row, x = some r ∧ H'[id]? = some (some r') ∧ r'.sz = r.sz ∧ r'.cap = r.cap ∧ blk' id = blk id
theorem HExt.refl (H : Hp) (blk : Nat → BC) : HExt H blk H blk := fun id x h => by
  cases x with
  | none => exact .inl h
  | some r => exact .inr ⟨r, r, rfl, h, rfl, rfl, rfl⟩
theorem HExt.trans {H H' H'' : Hp} {b b' b'' : Nat → BC} (h : HExt H b H' b') (k : HExt H' b' H'' b'') : HExt H b H'' b'' := fun id x hx => by
  rcases h id x hx with h1 | ⟨r, r', rfl, h2, h3, h4, h5⟩
  · rcases k id _ h1 with h | ⟨r, r', h, _⟩
    · exact .inl h
    · cases h
  · rcases k id _ h2 with h | ⟨r1, r2, e, g2, g3, g4, g5⟩
    · exact .inl h
    · cases e
      exact .inr ⟨r, r2, rfl, g2, g3.trans h3, g4.trans h4, g5.trans h5⟩
theorem Conc.mono {w w' : World} {S S' : Nat → Prop} {blk blk' : Nat → BC} {H H' : Hp} {x : AV} {u : Value} (h : Conc w S blk H x u)
    (hS : ∀ b, S b → S' b ∧ w'.heap[b]? = w.heap[b]?) (hH : HExt H blk H' blk') : Conc w' S' blk' H' x u := by
  induction h with
  | any u => exact .any u
  | i h => exact .i h
  | b x => exact .b x
  | kb x => exact .kb x
  | s h => exact .s h
  | nils => exact .nils
  | nilp => exact .nilp
  | sl0 a cap hm => exact .sl0 a cap hm
  | sl b o cap U hb hn hm hc hf hu ih =>
    refine .sl b o cap U (hS b hb).1 hn hm (fun i j hi hj => ?_) hf (fun i j hi hj => ih i j hi hj)
    rw [World.cell?_of_block (w := w) (hS b hb).2]
    exact hc i j hi hj
  | rf b o U hb hc hf hu ih =>
    refine .rf b o U (hS b hb).1 (fun j hj => ?_) hf (fun j hj => ih j hj)
    rw [World.cell?_of_block (w := w) (hS b hb).2]
    exact hc j hj
  | @ptr id j off r h hj ho =>
    rcases hH id _ h with h1 | ⟨r1, r', e, h', h2, h3, h4⟩
    · exact .ptrD h1 _
    · cases e
      have := Conc.ptr (w := w') (S := S') (blk := blk') (j := j) (off := off) r' h' (by omega) (by omega)
      rwa [h2, h4] at this
  | ptrD h u =>
    rcases hH _ _ h with h1 | ⟨r1, r', e, _⟩
    · exact .ptrD h1 _
    · cases e
  | @row id n r h hn hc h0 hm =>
    rcases hH id _ h with h1 | ⟨r1, r', e, h', h2, h3, h4⟩
    · exact .rowD h1 _
    · cases e
      have := Conc.row (w := w') (S := S') (blk := blk') (n := n) r' h' (by omega) (by rw [h4]; omega) (by rw [h4]; omega) (by rw [h4]; omega)
      rwa [h4] at this
  | @row0 id r h hr h0 a =>
    rcases hH id _ h with h1 | ⟨r1, r', e, h', h2, h3, h4⟩
    · exact .rowD h1 _
    · cases e
      exact .row0 r' h' (by omega) (by rw [h4]; exact h0) a
  | @rs id o n r h hn hc hm a ha =>
    rcases hH id _ h with h1 | ⟨r1, r', e, h', h2, h3, h4⟩
    · exact .rsD h1 _
    · cases e
      have := Conc.rs (w := w') (S := S') (blk := blk') (o := o) (n := n) r' h' (by omega) (by rw [h4]; omega) (by rw [h4]; omega) a (by rw [h4, h2]; exact ha)
      rwa [h4] at this
  | rsD h u =>
    rcases hH _ _ h with h1 | ⟨r1, r', e, _⟩
    · exact .rsD h1 _
    · cases e
  | @mp id r h =>
    rcases hH id _ h with h1 | ⟨r1, r', e, h', h2, h3, h4⟩
    · exact .mpD h1 _
    · cases e
      have := Conc.mp (w := w') (S := S') (blk := blk') r' h'
      rwa [h4] at this
  | mpD h u =>
    rcases hH _ _ h with h1 | ⟨r1, r', e, _⟩
    · exact .mpD h1 _
    · cases e
  | st z => exact .st z
  | fm b hb h => exact .fm b (hS b hb).1 (h.mono (hS b hb).2)
  | rowD h u =>
    rcases hH _ _ h with h1 | ⟨r1, r', e, _⟩
    · exact .rowD h1 _
    · cases e
  | agg cs us hl hu ih => exact .agg cs us hl fun j c u hj hju => ih j c u hj hju
  | tup cs us hl hu ih => exact .tup cs us hl fun j c u hj hju => ih j c u hj hju
  | fn f cs us hl hu ih => exact .fn f cs us hl fun j c u hj hju => ih j c u hj hju
theorem Own.mono {w w' : World} {S S' : Nat → Prop} {blk blk' : Nat → BC} {H H' : Hp} {x : AV} {u : Value} {fp : List Nat} (h : Own w S blk H x u fp)
    (hS : ∀ b, S b → S' b ∧ w'.heap[b]? = w.heap[b]?) (hH : HExt H blk H' blk') (hf : ∀ b ∈ fp, w'.heap[b]? = w.heap[b]?) : Own w' S' blk' H' x u fp := by
  induction h with
  | plain h => exact .plain (h.mono hS hH)
  | ow0 a => exact .ow0 a
  | ow b cap ty cur U F hb hcur hn hm h0 h1 hc hff hu hF ih =>
    exact .ow b cap ty cur U F (hb.mono (hf b (by simp))) hcur hn hm h0 h1 hc hff (fun i j hi hj => ih i j hi hj fun x hx => hf x (List.mem_cons_of_mem _ (mem_cat hi hj hx))) hF
theorem Own.lt {w : World} {S : Nat → Prop} {blk : Nat → BC} {H : Hp} {x : AV} {u : Value} {fp : List Nat} (h : Own w S blk H x u fp) : ∀ b ∈ fp, b < w.heap.size := by
  induction h with
  | plain h => simp
  | ow0 a => simp
  | ow b cap ty cur U F hb hcur hn hm h0 h1 hc hf hu hF ih =>
    intro x hx
    rcases List.mem_cons.1 hx with rfl | hx
    · exact hb.lt
    · obtain ⟨i, j, hi, hj, hx⟩ := of_mem_cat hx
      exact ih i j hi hj x hx
def AV.one : AV → Bool
  | .any | .agg _ | .tup _ => false
  | _ => true
def AV.one1 : AV → Bool
  | .any | .agg _ | .tup _ | .ptr .. | .row .. | .rs .. | .mp _ | .ow .. => false
  | _ => true
theorem Conc.one1 {w : World} {S : Nat → Prop} {blk : Nat → BC} {H : Hp} {x : AV} {u : Value} (h : Conc w S blk H x u) (h1 : x.one1 = true) : u.oneCell' = true := by
  cases h <;> first | rfl | cases h1
def one2 (H : Hp) : AV → Bool
  | .ptr id _ _ | .row id _ | .rs id _ _ | .mp id => (match H[id]? with | some (some _) => true | _ => false)
  | x => x.one1
theorem Conc.one2 {w : World} {S : Nat → Prop} {blk : Nat → BC} {H : Hp} {x : AV} {u : Value} (h : Conc w S blk H x u) (h1 : Go.Proofs.Ytdeledeopippfaa.one2 H x = true) : u.oneCell' = true := by
  cases h with
  | ptrD h u => simp [Go.Proofs.Ytdeledeopippfaa.one2, h] at h1
  | rowD h u => simp [Go.Proofs.Ytdeledeopippfaa.one2, h] at h1
  | rsD h u => simp [Go.Proofs.Ytdeledeopippfaa.one2, h] at h1
  | mpD h u => simp [Go.Proofs.Ytdeledeopippfaa.one2, h] at h1
  | any => cases h1
  | agg => cases h1
  | tup => cases h1
  | _ => rfl
def RowOk (w : World) (S : Nat → Prop) (blk : Nat → BC) (H : Hp) (fp : List Nat) (bc : BC) (r : Row) : Prop :=
  (r.cap = 0 ∧ bc.c = 0 ∧ ((r.k.isMp = false ∧ fp = []) ∨ r.k = .hid ∨ ∃ ak f sts, r.k = .mp ak f sts ∧ fp = [bc.b] ∧ MapOk w bc.b ak f sts)) ∨
  (0 < bc.c ∧ r.cap ≤ bc.c ∧ r.k.isMp = false ∧ bc.b ∈ fp ∧ ∃ (ty : TypeId) (cur : Array Value) (F : Nat → Nat → List Nat), RowAt w bc.b cur ty ∧ cur.size = bc.c * r.sz ∧ (∀ u ∈ cur, u.oneCell' = true) ∧
    (∀ i j, i < r.cap → j < r.sz → ∃ u, cur[i * r.sz + j]? = some u ∧ u.oneCell' = true ∧ Own w S blk H (r.es i j) u (F i j)) ∧
    (∀ i j, i < r.cap → j < r.sz → ∀ x ∈ F i j, x ∈ fp ∧ x ≠ bc.b) ∧
    (∀ i j i' j', i < r.cap → j < r.sz → i' < r.cap → j' < r.sz → (i ≠ i' ∨ j ≠ j') → ∀ x ∈ F i j, x ∉ F i' j'))
theorem RowOk.mono {w w' : World} {S S' : Nat → Prop} {blk blk' : Nat → BC} {H H' : Hp} {fp : List Nat} {bc : BC} {r : Row} (h : RowOk w S blk H fp bc r)
    (hS : ∀ b, S b → S' b ∧ w'.heap[b]? = w.heap[b]?) (hH : HExt H blk H' blk') (hf : ∀ x ∈ fp, w'.heap[x]? = w.heap[x]?) : RowOk w' S' blk' H' fp bc r := by
  rcases h with ⟨h1, h2, h3⟩ | ⟨h0, hle, hk, hb, ty, cur, F, h1, h2, hall, h3, h4, h5⟩
  · refine .inl ⟨h1, h2, h3.imp_right (Or.imp_right ?_)⟩
    rintro ⟨ak, f, sts, e1, rfl, e3⟩
    exact ⟨ak, f, sts, e1, rfl, e3.mono (hf _ (by simp))⟩
  · refine .inr ⟨h0, hle, hk, hb, ty, cur, F, h1.mono (hf _ hb), h2, hall, fun i j hi hj => ?_, h4, h5⟩
    obtain ⟨u, hu, ho, hc⟩ := h3 i j hi hj
    exact ⟨u, hu, ho, hc.mono hS hH fun x hx => hf x (h4 i j hi hj x hx).1⟩
theorem inv_i {w : World} {S : Nat → Prop} {blk : Nat → BC} {H : Hp} {k : IntKind} {n : Int} {u : Value} (h : Conc w S blk H (.i k n) u) : u = .int k n ∧ (Lit.int k n).wf = true := by
  cases h with | i h => exact ⟨rfl, h⟩
theorem inv_b {w : World} {S : Nat → Prop} {blk : Nat → BC} {H : Hp} {x : Bool} {u : Value} (h : Conc w S blk H (.b x) u) : u = .bool x := by cases h; rfl
theorem inv_kb {w : World} {S : Nat → Prop} {blk : Nat → BC} {H : Hp} {x : Bool} {u : Value} (h : Conc w S blk H (.kb x) u) : u = .bool x := by cases h; rfl
theorem inv_s {w : World} {S : Nat → Prop} {blk : Nat → BC} {H : Hp} {x : ByteArray} {u : Value} (h : Conc w S blk H (.s x) u) : u = .string x ∧ x.size ≤ maxLen := by
  cases h with | s h => exact ⟨rfl, h⟩
theorem inv_nils {w : World} {S : Nat → Prop} {blk : Nat → BC} {H : Hp} {u : Value} (h : Conc w S blk H .nils u) : u = .slice none 0 0 := by cases h; rfl
theorem inv_nilp {w : World} {S : Nat → Prop} {blk : Nat → BC} {H : Hp} {u : Value} (h : Conc w S blk H .nilp u) : u = .pointer none := by cases h; rfl
theorem inv_rf {w : World} {S : Nat → Prop} {blk : Nat → BC} {H : Hp} {m : Nat} {g : Nat → AV} {u : Value} (h : Conc w S blk H (.rf m g) u) :
    ∃ (b o : Nat) (U : Nat → Value), u = .pointer (some ⟨b, o, none⟩) ∧ S b ∧ (∀ j, j < m → w.cell? ⟨b, o + j, none⟩ = some (U j)) ∧ (∀ j, j < m → Conc w S blk H (g j) (U j)) ∧ (∀ j, j < m → (g j).idf) := by
  cases h with | rf b o U hS hc hf hu => exact ⟨b, o, U, rfl, hS, hc, hu, hf⟩
theorem inv_sl {w : World} {S : Nat → Prop} {blk : Nat → BC} {H : Hp} {sz n : Nat} {g : Nat → Nat → AV} {u : Value} (h : Conc w S blk H (.sl sz n g) u) (hn : 0 < n) :
    ∃ (b o cap : Nat) (U : Nat → Nat → Value), u = .slice (some ⟨b, o, none⟩) n cap ∧ S b ∧ n ≤ cap ∧ cap ≤ maxLen ∧ (∀ i j, i < n → j < sz → w.cell? ⟨b, o + i * sz + j, none⟩ = some (U i j)) ∧
      (∀ i j, i < n → j < sz → Conc w S blk H (g i j) (U i j)) ∧ (∀ i j, i < n → j < sz → (g i j).idf) := by
  cases h with
  | sl0 => omega
  | sl b o cap U hS hn hm hc hf hu => exact ⟨b, o, cap, U, rfl, hS, hn, hm, hc, hu, hf⟩
theorem sl_form {w : World} {S : Nat → Prop} {blk : Nat → BC} {H : Hp} {sz n : Nat} {g : Nat → Nat → AV} {u : Value} (h : Conc w S blk H (.sl sz n g) u) :
    ∃ (a : Option Addr) (cap : Nat), u = .slice a n cap ∧ n ≤ cap ∧ cap ≤ maxLen := by
  cases h with
  | sl0 a cap hm => exact ⟨a, cap, rfl, Nat.zero_le _, hm⟩
  | sl b o cap U hS hn hm hc hf hu => exact ⟨_, cap, rfl, hn, hm⟩
theorem inv_ptr {w : World} {S : Nat → Prop} {blk : Nat → BC} {H : Hp} {id j off : Nat} {r : Row} {u : Value} (hr : H[id]? = some (some r)) (h : Conc w S blk H (.ptr id j off) u) :
    u = .pointer (some ⟨(blk id).b, j * r.sz + off, none⟩) ∧ j < r.cap ∧ off ≤ r.sz := by
  cases h with
  | ptr r' h hj ho => rw [hr] at h; cases h; exact ⟨rfl, hj, ho⟩
  | ptrD h => rw [hr] at h; cases h
theorem inv_row {w : World} {S : Nat → Prop} {blk : Nat → BC} {H : Hp} {id n : Nat} {r : Row} {u : Value} (hr : H[id]? = some (some r)) (h : Conc w S blk H (.row id n) u) :
    (u = .slice (some ⟨(blk id).b, 0, none⟩) n (blk id).c ∧ n ≤ r.cap ∧ r.cap ≤ (blk id).c ∧ 0 < (blk id).c ∧ (blk id).c ≤ maxLen) ∨ (∃ a, u = .slice a 0 0 ∧ n = 0 ∧ r.cap = 0 ∧ (blk id).c = 0) := by
  cases h with
  | row r' h hn hc h0 hm => rw [hr] at h; cases h; exact .inl ⟨rfl, hn, hc, h0, hm⟩
  | row0 r' h hr' h0 a => rw [hr] at h; cases h; exact .inr ⟨a, rfl, rfl, hr', h0⟩
  | rowD h => rw [hr] at h; cases h
theorem inv_rs {w : World} {S : Nat → Prop} {blk : Nat → BC} {H : Hp} {id o n : Nat} {r : Row} {u : Value} (hr : H[id]? = some (some r)) (h : Conc w S blk H (.rs id o n) u) :
    ∃ a, u = .slice a n ((blk id).c - o) ∧ o + n ≤ r.cap ∧ r.cap ≤ (blk id).c ∧ (blk id).c ≤ maxLen ∧ (o < (blk id).c → a = some ⟨(blk id).b, o * r.sz, none⟩) := by
  cases h with
  | rs r' h hn hc hm a ha => rw [hr] at h; cases h; exact ⟨a, rfl, hn, hc, hm, ha⟩
  | rsD h => rw [hr] at h; cases h
theorem inv_mp {w : World} {S : Nat → Prop} {blk : Nat → BC} {H : Hp} {id : Nat} {r : Row} {u : Value} (hr : H[id]? = some (some r)) (h : Conc w S blk H (.mp id) u) : u = .map (some (blk id).b) := by
  cases h with
  | mp r' h => rfl
  | mpD h => rw [hr] at h; cases h
theorem inv_st {w : World} {S : Nat → Prop} {blk : Nat → BC} {H : Hp} {z : Int} {u : Value} (h : Conc w S blk H (.st z) u) : u = .int .i64 z := by cases h; rfl
theorem inv_fm {w : World} {S : Nat → Prop} {blk : Nat → BC} {H : Hp} {ak : Bool} {f : List Int → Int} {u : Value} (h : Conc w S blk H (.fm ak f) u) : ∃ b, u = .map (some b) ∧ S b ∧ MapOk w b ak f [] := by
  cases h with | fm b hS h => exact ⟨b, rfl, hS, h⟩
theorem inv_agg {w : World} {S : Nat → Prop} {blk : Nat → BC} {H : Hp} {cs : List AV} {u : Value} (h : Conc w S blk H (.agg cs) u) :
    ∃ us : List Value, u = .agg us.toArray ∧ us.length = cs.length ∧ ∀ (j : Nat) (c : AV) (u : Value), cs[j]? = some c → us[j]? = some u → Conc w S blk H c u := by
  cases h with | agg _ us hl hu => exact ⟨us, rfl, hl, hu⟩
theorem inv_tup {w : World} {S : Nat → Prop} {blk : Nat → BC} {H : Hp} {cs : List AV} {u : Value} (h : Conc w S blk H (.tup cs) u) :
    ∃ us : List Value, u = .tuple us.toArray ∧ us.length = cs.length ∧ ∀ (j : Nat) (c : AV) (u : Value), cs[j]? = some c → us[j]? = some u → Conc w S blk H c u := by
  cases h with | tup _ us hl hu => exact ⟨us, rfl, hl, hu⟩
theorem inv_fn {w : World} {S : Nat → Prop} {blk : Nat → BC} {H : Hp} {f : FuncId} {cs : List AV} {u : Value} (h : Conc w S blk H (.fn f cs) u) :
    ∃ us : List Value, u = .func (.func f) #[] us.toArray ∧ us.length = cs.length ∧ ∀ (j : Nat) (c : AV) (u : Value), cs[j]? = some c → us[j]? = some u → Conc w S blk H c u := by
  cases h with | fn _ _ us hl hu => exact ⟨us, rfl, hl, hu⟩
theorem Conc.free {w : World} {S : Nat → Prop} {blk blk' : Nat → BC} {H H' : Hp} {x : AV} {u : Value} (h : Conc w S blk H x u) (hx : x.idf) : Conc w S blk' H' x u := by
  induction h with
  | any u => exact .any u
  | i h => exact .i h
  | b x => exact .b x
  | kb x => exact .kb x
  | s h => exact .s h
  | nils => exact .nils
  | nilp => exact .nilp
  | sl0 a cap hm => exact .sl0 a cap hm
  | sl b o cap U hb hn hm hc hf hu ih => exact .sl b o cap U hb hn hm hc hf fun i j hi hj => ih i j hi hj (hf i j hi hj)
  | rf b o U hb hc hf hu ih => exact .rf b o U hb hc hf fun j hj => ih j hj (hf j hj)
  | ptr => exact hx.elim
  | ptrD => exact hx.elim
  | row => exact hx.elim
  | row0 => exact hx.elim
  | rowD => exact hx.elim
  | rs => exact hx.elim
  | rsD => exact hx.elim
  | mp => exact hx.elim
  | mpD => exact hx.elim
  | st z => exact .st z
  | fm b hb h => exact .fm b hb h
  | agg => exact hx.elim
  | tup => exact hx.elim
  | fn f cs us hl hu ih =>
    have : cs = [] := hx
    subst this
    exact .fn f [] us hl (by simp)
theorem Conc.idf_sl {w : World} {S : Nat → Prop} {blk : Nat → BC} {H : Hp} {sz n : Nat} {g : Nat → Nat → AV} {u : Value} (h : Conc w S blk H (.sl sz n g) u) : (AV.sl sz n g).idf := by
  cases h with
  | sl0 => intro i j hi; omega
  | sl b o cap U hS hn hm hc hf hu => exact hf
theorem Conc.idf_rf {w : World} {S : Nat → Prop} {blk : Nat → BC} {H : Hp} {m : Nat} {g : Nat → AV} {u : Value} (h : Conc w S blk H (.rf m g) u) : (AV.rf m g).idf := by
  cases h with | rf b o U hS hc hf hu => exact hf
def cv0 : Value → AV
  | .int k n => bif (Lit.int k n).wf then .i k n else .any
  | .bool b => .kb b
  | .string s => bif Nat.ble s.size 1000000 then .s s else .any
  | .slice none 0 0 => .nils
  | .pointer none => .nilp
  | _ => .any
theorem conc_cv0 {w : World} {S : Nat → Prop} {blk : Nat → BC} {H : Hp} (v : Value) : Conc w S blk H (cv0 v) v := by
  unfold cv0
  split
  · rename_i k n
    cases hw : (Lit.int k n).wf with
    | true => exact .i hw
    | false => exact .any _
  · exact .kb _
  · rename_i s
    cases hw : Nat.ble s.size 1000000 with
    | true => exact .s (by have := Nat.le_of_ble_eq_true hw; unfold maxLen; omega)
    | false => exact .any _
  · exact .nils
  · exact .nilp
  · exact .any _
def cv : Value → AV
  | .agg us => .agg (us.toList.map cv0)
  | v => cv0 v
theorem conc_cv {w : World} {S : Nat → Prop} {blk : Nat → BC} {H : Hp} (v : Value) : Conc w S blk H (cv v) v := by
  unfold cv
  split
  · rename_i us
    have := Conc.agg (w := w) (S := S) (blk := blk) (H := H) (us.toList.map cv0) us.toList (by simp) (fun j c u hj hu => by
      rw [List.getElem?_map, hu] at hj
      cases hj
      exact conc_cv0 u)
    simpa using this
  · exact conc_cv0 _
def Lw (w : World) : Prop := True
structure Gl (w : World) (S : Nat → Prop) : Prop where
  h : ∀ w' : World, (∀ b, S b → w'.heap[b]? = w.heap[b]?) → Lw w'
theorem Gl.mono {w w' : World} {S S' : Nat → Prop} (h : Gl w S) (hS : ∀ b, S b → S' b ∧ w'.heap[b]? = w.heap[b]?) : Gl w' S' := ⟨fun w2 h2 => h.h w2 fun b hb => (h2 b (hS b hb).1).trans (hS b hb).2⟩
structure SIn (w : World) (S : Nat → Prop) : Prop where
  lt : ∀ b, S b → b < w.heap.size
  gl : Gl w S
instance {w : World} {S : Nat → Prop} : CoeFun (SIn w S) (fun _ => ∀ b, S b → b < w.heap.size) := ⟨SIn.lt⟩
theorem SIn.below {n : Nat} {w W : World} {S : Nat → Prop} (h : SIn w S) (hB : Below n w W) (hn : w.heap.size ≤ n) : SIn W S := ⟨fun b hb => Nat.lt_of_lt_of_le (h.lt b hb) hB.size, h.gl.mono fun b hb => ⟨hb, hB.block b (Nat.lt_of_lt_of_le (h.lt b hb) hn)⟩⟩
end Go.Proofs.Ytdeledeopippfaa
