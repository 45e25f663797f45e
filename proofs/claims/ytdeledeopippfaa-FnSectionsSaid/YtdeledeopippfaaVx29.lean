/- Texts for VSectionsP. -/
import Derived.Test.YtdeledeopippfaaVx27
import Derived.Test.YtdeledeopippfaaVx28
namespace Go.Proofs.Ytdeledeopippfaa
open Go Go.RowKit
set_option linter.unusedVariables false
set_option linter.unusedSimpArgs false
section
def digB1 (k : Nat) : ByteArray := ⟨#[UInt8.ofNat (48 + k)]⟩
theorem dig1_eq {n : Nat} (h : n ≤ 1) : AV.s (bytesOf 1 (litE [[.i .u8 (IntKind.u8.wrap (IntKind.i64.wrap (48 + (n : Int))))]])) = .s (digB1 n) := by
  rcases (show n = 0 ∨ n = 1 by omega) with rfl | rfl <;> rfl
attribute [local irreducible] IntKind.wrap
theorem bytes1 {css : List AV} {v : Int} : Bytes 1 (litE [.i .u8 v :: css]) := ⟨fun i hi => by
  obtain rfl : i = 0 := Nat.lt_one_iff.1 hi
  exact ⟨v, rfl⟩⟩
theorem dg_ok (n : Nat) (h : n ≤ 1) : Ret env.P 73 [.i .i64 (n : Int)] (fun r => r = .s (digB1 n)) := by
  refine ret_of (nt := 28) (rvs := [.tmp 2]) Try.func73 rfl rfl rfl rfl (fun X => ?_)
  repeat' (first | omega | (with_reducible show (_ : Int) < _; dsimp only; omega) | (with_reducible show (_ : Nat) ≤ _; dsimp only; omega) | ((with_reducible show SrcOk _ _ _) <;> (first | exact srcOk_1 rfl | exact srcOk_L (fun _ => ⟨rfl, rfl⟩) | exact srcOk_E (fun _ => ⟨rfl, rfl⟩))) | ((conv => whnf) <;> (first | exact bytes1 | exact dig1_eq h | refine And.intro ?_ ?_ | (intro _h; first | contradiction | (try simp only [dd] at _h)) | (refine dt_go ?_) | exact rfl | exact True.intro | exact dkk | exact dks | (refine wrap_succ ?_; omega))))
  all_goals (conv => whnf)
  all_goals exact dig1_eq h
structure HoldG (p : Prop) : Prop where
  h : p
theorem HoldG.get {p : Prop} (h : HoldG p) : p := h.h
theorem host_len {n : Nat} : (⟨#[104, 111, 115, 116, 45]⟩ : ByteArray).size + (digB1 n).size ≤ maxLen := by
  show 5 + 1 ≤ maxLen
  decide
instance : HoldC Import.cs := holdC_plain fun _ => rfl
theorem OwEq.lenT {sz n m : Nat} {g g' : Nat → Nat → AV} (e : n = m) (hf : ∀ i j, i < n → j < sz → (g' i j).idfO) (h : ∀ i j, i < n → j < sz → OwEq (g i j) (g' i j)) : OwEq (.ow sz n g) (.ow sz m g') := by subst e; exact .ow hf h
def hostN (k : Nat) : ByteArray := ⟨#[104, 111, 115, 116, 45]⟩ ++ digB1 k
structure ImI (l : List Import) : Prop where
  nm : ∀ k, k < l.length → (l.getD k default).name = hostN k
  p : ∀ k, k < l.length → 0 ≤ (l.getD k default).params ∧ (l.getD k default).params ≤ 2
structure ImS where
  i : Int
  l : List Import
  t : Src
theorem getD_snoc' {α : Type} [Inhabited α] {l : List α} {a : α} {k : Nat} (hk : k < (l ++ [a]).length) : (l ++ [a]).getD k default = if k < l.length then l.getD k default else a := by
  rw [List.getD_eq_getElem?_getD]
  split
  · rename_i h
    rw [List.getElem?_append_left h, ← List.getD_eq_getElem?_getD]
  · rename_i h
    rw [List.length_append, List.length_singleton] at hk
    obtain rfl : k = l.length := by omega
    rw [List.getElem?_append_right (Nat.le_refl _), Nat.sub_self]
    rfl
theorem ImI.zero : ImI [] := ⟨fun k h => absurd h (Nat.not_lt_zero _), fun k h => absurd h (Nat.not_lt_zero _)⟩
theorem ImI.next {l : List Import} (h : ImI l) {a : Import} (h1 : a.name = hostN l.length) (h2 : 0 ≤ a.params ∧ a.params ≤ 2) : ImI (l ++ [a]) := by
  have hk : ∀ k, k < (l ++ [a]).length → ¬ k < l.length → k = l.length := fun k hk hn => by
    rw [List.length_append, List.length_singleton] at hk; omega
  refine ⟨fun k q => ?_, fun k q => ?_⟩ <;> rw [getD_snoc' q] <;> split
  · exact h.nm k ‹_›
  · rw [hk k q ‹_›]; exact h1
  · exact h.p k ‹_›
  · exact h2
def coN (k : Nat) : ByteArray := if k = 0 then ⟨#[114, 117, 110]⟩ else if k = 1 then ⟨#[116, 119, 111]⟩ else ⟨#[116, 104, 114, 101, 101]⟩
structure CoI (l : List Core) : Prop where
  nm : ∀ k, k < l.length → (l.getD k default).name = coN k
  p : ∀ k, k < l.length → 0 ≤ (l.getD k default).params ∧ (l.getD k default).params ≤ 2
  lc : ∀ k, k < l.length → 0 ≤ (l.getD k default).locals ∧ (l.getD k default).locals ≤ 2
  c : ∀ k, k < l.length → AllG (l.getD k default).code ∧ (l.getD k default).code.length ≤ 111
structure CoS where
  i : Int
  l : List Core
  t : Src
theorem CoI.zero : CoI [] := ⟨fun k h => absurd h (Nat.not_lt_zero _), fun k h => absurd h (Nat.not_lt_zero _), fun k h => absurd h (Nat.not_lt_zero _), fun k h => absurd h (Nat.not_lt_zero _)⟩
theorem CoI.next {l : List Core} (h : CoI l) {a : Core} (h1 : a.name = coN l.length) (h2 : 0 ≤ a.params ∧ a.params ≤ 2) (h3 : 0 ≤ a.locals ∧ a.locals ≤ 2) (h4 : a.code = []) : CoI (l ++ [a]) := by
  have hk : ∀ k, k < (l ++ [a]).length → ¬ k < l.length → k = l.length := fun k hk hn => by
    rw [List.length_append, List.length_singleton] at hk; omega
  refine ⟨fun k q => ?_, fun k q => ?_, fun k q => ?_, fun k q => ?_⟩ <;> rw [getD_snoc' q] <;> split
  · exact h.nm k ‹_›
  · rw [hk k q ‹_›]; exact h1
  · exact h.p k ‹_›
  · exact h2
  · exact h.lc k ‹_›
  · exact h3
  · exact h.c k ‹_›
  · rw [h4]; exact ⟨(fun x hx => nomatch hx), Nat.zero_le _⟩
theorem coNil_next {l : List Core} (h : ∀ k, k < l.length → (l.getD k default).code = []) {a : Core} (ha : a.code = []) : ∀ k, k < (l ++ [a]).length → ((l ++ [a]).getD k default).code = [] := fun k q => by
  rw [getD_snoc' q]
  split
  · exact h k ‹_›
  · exact ha
theorem core_eq {n : ByteArray} {p q : Int} {b : Bool} {g : Nat → AV} (h0 : g 0 = .s n) (h1 : g 1 = .i .i64 p) (h2 : g 2 = .i .i64 q) (h3 : g 3 = .b b) (h4 : g 4 = .nils) : ∀ j, j < 5 → OwEq (g j) ((Core.csO ⟨n, p, q, b, []⟩).getD j .any)
  | 0, _ => by rw [h0]; exact .refl _
  | 1, _ => by rw [h1]; exact .refl _
  | 2, _ => by rw [h2]; exact .refl _
  | 3, _ => by rw [h3]; exact .refl _
  | 4, _ => by rw [h4]; exact .nil _ _
  | j + 5, h => absurd h (by omega)
theorem core_idf {n : ByteArray} {p q : Int} {b : Bool} {g : Nat → AV} (h0 : g 0 = .s n) (h1 : g 1 = .i .i64 p) (h2 : g 2 = .i .i64 q) (h3 : g 3 = .b b) (h4 : g 4 = .nils) : ∀ j, j < 5 → (g j).idfO
  | 0, _ => by rw [h0]; exact trivial
  | 1, _ => by rw [h1]; exact trivial
  | 2, _ => by rw [h2]; exact trivial
  | 3, _ => by rw [h3]; exact trivial
  | 4, _ => by rw [h4]; exact trivial
  | j + 5, h => absurd h (by omega)
theorem lsum {n m : Nat} (h : n ≤ 89) (hm : m ≤ 100) : n + m ≤ 1000 := by omega
def setC (l : List Core) (i : Nat) (c : List Ins) : List Core := l.set i { l.getD i default with code := c }
theorem setC_len {l : List Core} {i : Nat} {c : List Ins} : (setC l i c).length = l.length := List.length_set
theorem setC_at {l : List Core} {i : Nat} (hi : i < l.length) {c : List Ins} (k : Nat) : (setC l i c).getD k default = if k = i then { l.getD i default with code := c } else l.getD k default := by
  unfold setC
  rw [List.getD_eq_getElem?_getD, List.getElem?_set]
  by_cases h : i = k
  · subst h
    rw [if_pos rfl, if_pos rfl, if_pos hi]
    rfl
  · rw [if_neg h, if_neg (fun q => h q.symm), ← List.getD_eq_getElem?_getD]
theorem CoI.set {l : List Core} (h : CoI l) {i : Nat} (hi : i < l.length) {c : List Ins} (hc : AllG c ∧ c.length ≤ 111) : CoI (setC l i c) := by
  refine ⟨fun k q => ?_, fun k q => ?_, fun k q => ?_, fun k q => ?_⟩ <;> rw [setC_len] at q <;> rw [setC_at hi] <;> split
  · rename_i e; subst e; exact h.nm k hi
  · exact h.nm k q
  · rename_i e; subst e; exact h.p k hi
  · exact h.p k q
  · rename_i e; subst e; exact h.lc k hi
  · exact h.lc k q
  · exact hc
  · exact h.c k q
theorem CoI.d {l : List Core} (h : CoI l) (h1 : 1 ≤ l.length) (h3 : l.length ≤ 3) : CoD l := ⟨h1, h3, h.p⟩
theorem ImI.d {l : List Import} (h : ImI l) (h2 : l.length ≤ 2) : ImD l := ⟨h2, h.p⟩
theorem deed2 (im : List Import) (co : List Core) (hI : ImD im) (hC : CoD co) (pg : Int) {nc : Nat} (hn : nc = co.length) (s : Src) (h : s.rm 360) (lc : Int) (hl : 0 ≤ lc ∧ lc ≤ 6) : RetM env.P 74 [some (boxRow s.cs), some (rowL 3 Import.cs im), some (rowL 5 Core.csO co)] [.ptr 0 0 0, .agg [.i .i64 pg, .row 1 im.length, .row 2 nc], .i .i64 lc, .i .i64 2] (DeedP s im co 360 69) := by
  subst hn
  exact deed_2 im co hI hC pg s h lc hl 2 rfl
theorem coi_n {l : List Core} (h : CoI l) {i : Nat} (hi : i < l.length) : 0 ≤ IntKind.i64.wrap ((l.getD i default).params + (l.getD i default).locals) ∧ IntKind.i64.wrap ((l.getD i default).params + (l.getD i default).locals) ≤ 6 := by
  have h1 := h.p i hi
  have h2 := h.lc i hi
  rw [wrap_in (by omega) (by omega)]
  omega
structure C3S where
  i : Nat
  l : List Core
  t : Src
structure C4S where
  k : Int
  c : List Ins
  n : Nat
  t : Src
theorem upd_one {es : Nat → Nat → AV} {w j : Nat} {c : AV} {i k : Nat} : upd es w j [c] i k = if i = w ∧ k = j then c else es i k := by
  by_cases e : i = w ∧ k = j
  · obtain ⟨rfl, rfl⟩ := e
    rw [if_pos ⟨rfl, rfl⟩]
    have := upd_in (es := es) (j := i) (off := k) (cs := [c]) (k := 0) (by simp)
    simpa using this
  · rw [if_neg e, upd_out (by rintro ⟨h1, h2, h3⟩; exact e ⟨h1, by simp at h3; omega⟩)]
theorem core_upd {l : List Core} {i : Nat} (hi : i < l.length) {c c' : List Ins} {n : Nat} {e : Nat → Nat → AV} (he : EG e n c') : ∀ a b, a < l.length → b < 5 → OwEq (upd (elE Core.csO (setC l i c)) i 4 [.ow 2 n e] a b) (elE Core.csO (setC l i c') a b) := fun a b ha hb => by
  have h1 : elE Core.csO (setC l i c') a b = (Core.csO (if a = i then { l.getD i default with code := c' } else l.getD a default)).getD b .any := by unfold elE; rw [setC_at hi]
  have h2 : elE Core.csO (setC l i c) a b = (Core.csO (if a = i then { l.getD i default with code := c } else l.getD a default)).getD b .any := by unfold elE; rw [setC_at hi]
  rw [h1, upd_one]
  by_cases e1 : a = i
  · subst e1
    rw [if_pos rfl]
    by_cases e2 : b = 4
    · subst e2
      rw [if_pos ⟨rfl, rfl⟩]
      show OwEq (.ow 2 n e) (.ow 2 c'.length (elE Ins.cs c'))
      exact OwEq.lenT he.len (fun i j _ _ => HoldC.h _ j) (fun i j hi hj => he.at i j hi hj)
    · rw [if_neg (fun q => e2 q.2), h2, if_pos rfl]
      rcases (show b = 0 ∨ b = 1 ∨ b = 2 ∨ b = 3 by omega) with rfl | rfl | rfl | rfl <;> exact .refl _
  · rw [if_neg (fun q => e1 q.1), h2, if_neg e1, if_neg e1]
    exact .refl _
theorem upd2 {g : Nat → Nat → AV} {i j : Nat} {a b : AV} : upd (upd g i j [a]) i j [b] = upd g i j [b] := by
  funext x y
  rw [upd_one, upd_one, upd_one]
  split
  · rfl
  · rfl
theorem setC_nil {l : List Core} {i : Nat} (hi : i < l.length) (h : (l.getD i default).code = []) : setC l i [] = l := by
  refine List.ext_getElem? fun k => ?_
  unfold setC
  rw [List.getElem?_set]
  by_cases e : i = k
  · subst e
    rw [if_pos rfl, if_pos hi, List.getElem?_eq_getElem hi]
    rw [List.getD_eq_getElem?_getD, List.getElem?_eq_getElem hi] at h ⊢
    show some _ = some l[i]
    congr 1
    have h' : l[i].code = [] := h
    show ({ l[i] with code := [] } : Core) = l[i]
    rw [← h']
  · rw [if_neg e]
theorem setC_code {l : List Core} {i : Nat} (hi : i < l.length) {c : List Ins} : ((setC l i c).getD i default).code = c := by rw [setC_at hi, if_pos rfl]
structure C4I (y : C4S) : Prop where
  g : AllG y.c
  n : y.n = y.c.length
theorem C4I.eg {l : List Core} {i : Nat} (hi : i < l.length) {y : C4S} (h : C4I y) : EG (elE Ins.cs ((setC l i y.c).getD i default).code) ((setC l i y.c).getD i default).code.length y.c := by
  rw [setC_code hi]
  exact ⟨.el, h.g, rfl⟩
theorem C4I.next {y : C4S} (h : C4I y) {l : List Ins} {k k3 m : Nat} {t : Src} {kk : Int} (hl : AllG l ∧ l.length ≤ m) (h3 : k3 = l.length) (hk : k = y.n) : C4I ⟨kk, y.c ++ l, k + k3, t⟩ := ⟨h.g.app hl.1, by
  show k + k3 = (y.c ++ l).length
  rw [List.length_append, hk, h.n, h3]⟩
theorem core_upd2 {l : List Core} {i : Nat} (hi : i < l.length) {c c' : List Ins} {n : Nat} {x : AV} {e : Nat → Nat → AV} (he : EG e n c') : ∀ a b, a < (setC l i c).length → b < 5 → OwEq (upd (upd (elE Core.csO (setC l i c)) i 4 [x]) i 4 [.ow 2 n e] a b) (elE Core.csO (setC l i c') a b) := fun a b ha hb => by
  rw [upd2]
  exact core_upd hi he a b (by rw [setC_len] at ha; exact ha) hb
theorem core_upd3 {l : List Core} {i : Nat} (hi : i < l.length) {c c' : List Ins} {n : Nat} {x y : AV} {e : Nat → Nat → AV} (he : EG e n c') : ∀ a b, a < (setC l i c).length → b < 5 → OwEq (upd (upd (upd (elE Core.csO (setC l i c)) i 4 [x]) i 4 [y]) i 4 [.ow 2 n e] a b) (elE Core.csO (setC l i c') a b) := fun a b ha hb => by
  rw [upd2]
  exact core_upd2 hi he a b ha hb
theorem core_upd4 {l : List Core} {i : Nat} (hi : i < l.length) {c c' : List Ins} {n : Nat} {x y z : AV} {e : Nat → Nat → AV} (he : EG e n c') : ∀ a b, a < (setC l i c).length → b < 5 → OwEq (upd (upd (upd (upd (elE Core.csO (setC l i c)) i 4 [x]) i 4 [y]) i 4 [z]) i 4 [.ow 2 n e] a b) (elE Core.csO (setC l i c') a b) := fun a b ha hb => by
  rw [upd2]
  exact core_upd3 hi he a b ha hb
theorem cat_idf {n : Nat} {e e' : Nat → Nat → AV} (h : ∀ i j, (e i j).idfO) (h' : ∀ i j, (e' i j).idfO) : ∀ i j, (catE n e e' i j).idfO := fun i j => by
  by_cases q : i < n
  · rw [catE_lt q]; exact h i j
  · rw [catE_ge (by omega)]; exact h' _ j
theorem el_idf {l : List Ins} : ∀ i j, (elE Ins.cs l i j).idfO := fun i j => HoldC.h _ j
theorem lit_idf {x : Ins} {css : List (List AV)} (h : css = [x.cs]) : ∀ i j, (litE css i j).idfO := fun i j => by
  subst h
  cases i with
  | zero => exact HoldC.h (c := Ins.cs) x j
  | succ i => exact trivial
theorem le89 {n : Nat} (h : n ≤ 89) : n ≤ 1000 := by omega
theorem nil_from {l : List Core} {i : Nat} (hi : i < l.length) (h : ∀ k, i ≤ k → k < l.length → (l.getD k default).code = []) {c : List Ins} : ∀ k, i + 1 ≤ k → k < (setC l i c).length → ((setC l i c).getD k default).code = [] := fun k h1 h2 => by
  rw [setC_len] at h2
  rw [setC_at hi, if_neg (by omega)]
  exact h k (by omega) h2
def DrwP (s : Src) (r : AV) (H : Hp) : Prop := ∃ (pg : Int) (im : List Import) (co : List Core) (t : Src) (n : Nat), (1 ≤ pg ∧ pg ≤ 2) ∧ (ImI im ∧ im.length ≤ 2) ∧ (CoI co ∧ 1 ≤ co.length ∧ co.length ≤ 3) ∧ (s.at' ≤ t.at' ∧ t.at' ≤ s.at' + 6000 ∧ t.code.length = s.code.length) ∧ n = co.length ∧ r = .agg [.i .i64 pg, .row 1 im.length, .row 2 n] ∧ H = [some (boxRow t.cs), some (rowL 3 Import.cs im), some (rowL 5 Core.csO co)]
set_option maxRecDepth 8000 in
set_option maxHeartbeats 4000000 in
theorem l15Draw_ok (s : Src) (h : s.rm 20000) : RetM env.P 56 [some (boxRow s.cs)] [.ptr 0 0 0] (DrwP s) := by
  obtain ⟨q1, q2, q3⟩ := h
  refine ret_ofPM (nt := 151) (rvs := [.cell 2 91]) Try.func56 rfl rfl rfl rfl (fun X hX => ?_)
  refine pw_cut 3 (fun y : Int × List Import × Src => (ImI y.2.1 ∧ y.2.1.length ≤ 2) ∧ (1 ≤ y.1 ∧ y.1 ≤ 2) ∧ (s.at' ≤ y.2.2.at' ∧ y.2.2.at' ≤ s.at' + 10 ∧ y.2.2.code.length = s.code.length)) (fun y => [(0, .ptr 0 0 0), (2, .ptr 1 0 0), (3, .ptr 2 0 0)])
    (fun y => [some (boxRow y.2.2.cs), some (boxRow [.i .i64 0, .nils, .nils]), some (boxRow [.i .i64 y.1, .ow 3 y.2.1.length (elE Import.cs y.2.1), .ow 5 0 (elE Core.csO [])])]) ?_ (fun y hy => ?_)
  · repeat' (first | omega | (with_reducible show (_ : Int) < _; dsimp only; omega) | (with_reducible show (_ : Nat) ≤ _; dsimp only; omega) | ((with_reducible show SrcOk _ _ _) <;> (first | exact srcOk_1 rfl | exact srcOk_L (fun _ => ⟨rfl, rfl⟩) | exact srcOk_E (fun _ => ⟨rfl, rfl⟩))) | ((conv => whnf) <;> (first | (refine Src.rm_i ?_ ?_ ?_) | refine And.intro ?_ ?_ | (intro _h; first | contradiction | (try simp only [dd] at _h)) | (refine dt_go ?_) | exact rfl | exact True.intro | exact dkk | exact dks | (refine .inr (.inl (.inl ⟨[0], _, _, _, pick_ex _ ?_ 2 (by decide), viewA, ⟨rfl, rfl⟩, ?_⟩)); rotate_left 1; (rintro _ _ ⟨v0, t0, hv0, ht0, rfl, rfl⟩) <;> (refine ⟨rfl, _, lokA, ?_⟩)) | (refine .inr (.inl (.inl ⟨[0], _, _, _, pick_ex _ ?_ 3 (by decide), viewA, ⟨rfl, rfl⟩, ?_⟩)); rotate_left 1; (rintro _ _ ⟨v1, t1, hv1, ht1, rfl, rfl⟩) <;> (refine ⟨rfl, _, lokA, ?_⟩)) | (refine wrap_succ ?_; omega))))
    conv => whnf
    refine lw_turn _ (turn_box (id := 2) (ds := [.i .i64 (IntKind.i64.wrap (1 + v0)), .ow 3 0 (elE Import.cs []), .ow 5 0 (elE Core.csO [])]) rfl rfl rfl (.cons (.refl _) (.cons (.nil _ _) (.cons (.nil _ _) .nil)))) ?_
    refine loopFT (fun y : ImS => [(4, .i .i64 y.i)]) (fun y => [some (.box y.t.cs), none, some (.box [.i .i64 (IntKind.i64.wrap (1 + v0)), .ow 3 y.l.length (elE Import.cs y.l), .ow 5 0 (elE Core.csO [])])]) (fun y => ImI y.l ∧ (0 ≤ y.i ∧ y.i + y.l.length = v1) ∧ (t1.at' ≤ y.t.at' ∧ y.t.at' ≤ t1.at' + 2 * y.l.length ∧ y.t.code.length = t1.code.length)) (fun y => y.i.toNat) ⟨v1, [], t1⟩ ⟨⟨.zero, ⟨hv1.1, Int.add_zero _⟩, Int.le_refl _, (by show t1.at' ≤ t1.at' + 2 * ((0 : Nat) : Int); omega), rfl⟩, ?_⟩
    repeat' (first | omega | (with_reducible show (_ : Int) < _; dsimp only; omega) | (with_reducible show (_ : Nat) ≤ _; dsimp only; omega) | ((with_reducible show SrcOk _ _ _) <;> (first | exact srcOk_1 rfl | exact srcOk_L (fun _ => ⟨rfl, rfl⟩) | exact srcOk_E (fun _ => ⟨rfl, rfl⟩))) | ((conv => whnf) <;> (first | (refine dt_turn (turn_open (id := 2) (i := 0) (j := 1) rfl (show 0 < 1 by decide) (show 1 < 3 by decide) rfl) ?_; refine dt_goS 13 4 [0] rfl rfl ?_) | (refine Src.rm_i ?_ ?_ ?_) | exact host_len | exact lbz_capC (by omega) (show 32 ≤ 1000 by decide) | exact lbz_capM (by omega) | exact srcOk_1 rfl | refine And.intro ?_ ?_ | (intro _h; first | contradiction | (try simp only [dd] at _h)) | (refine dt_go ?_) | exact rfl | exact True.intro | exact dkk | exact dks | (refine .inr (.inl (.inl ⟨[0], _, _, _, pick_ex _ ?_ _ ?_, viewA, ⟨rfl, rfl⟩, ?_⟩)); rotate_left 2; (rintro _ _ ⟨v2, t2, hv2, ht2, rfl, rfl⟩) <;> (refine ⟨rfl, _, lokA, ?_⟩)) | (refine .inr (.inl (.inl ⟨[0], _, _, _, one_ex _ ?_ 2 (by decide), viewA, ⟨rfl, rfl⟩, ?_⟩)); rotate_left 1; (rintro _ _ ⟨b3, t3, ht3, rfl, rfl⟩) <;> (refine ⟨rfl, _, lokA, ?_⟩)) | ((first | refine .inl ⟨_, dg_ok _ (by omega), ?_⟩ | refine ⟨_, dg_ok _ (by omega), ?_⟩); (try rintro _ rfl)) | (refine wrap_succ ?_; omega))))
    all_goals first
      | (rename ImS => y
         rename ImI y.l ∧ _ => hy
         have hi : 0 < y.i := ‹0 < y.i›
         have he : IntKind.i64.wrap (y.i - 1) = y.i - 1 := wrap_in (by omega) (by omega)
         conv => whnf
         refine roundET_turn (turn_close (id := 2) (i := 0) (j := 1) (id' := 5) rfl (show 0 < 1 by decide) (show 1 < 3 by decide) rfl rfl (show 2 ≠ 5 by decide) rfl ⟨Nat.le_refl _, snoc_idf rfl (fun j hj => HoldC.h (c := Import.cs) (Import.mk (hostN y.l.length) v2 b3) j)⟩) ?_
         refine roundET_turn (turn_box (id := 2) (ds := [.i .i64 (IntKind.i64.wrap (1 + v0)), .ow 3 (y.l ++ [Import.mk (hostN y.l.length) v2 b3]).length (elE Import.cs (y.l ++ [Import.mk (hostN y.l.length) v2 b3])), .ow 5 0 (elE Core.csO [])]) rfl rfl rfl (.cons (.refl _) (.cons (OwEq.lenT lbz_len (fun i j _ _ => HoldC.h _ j) (snoc_eq rfl (fun j hj => .refl _))) (.cons (.refl _) .nil)))) ?_
         refine roundET_end ?_
         refine ⟨⟨y.i - 1, y.l ++ [Import.mk (hostN y.l.length) v2 b3], t3⟩, [], ⟨hy.1.next rfl ⟨by dsimp only; omega, by dsimp only; omega⟩, ⟨by dsimp only; omega, by dsimp only; rw [List.length_append, List.length_singleton]; omega⟩, by dsimp only; omega, by dsimp only; rw [List.length_append, List.length_singleton]; omega, by dsimp only; omega⟩, (by show (y.i - 1).toNat < y.i.toNat; omega), ?_⟩
         repeat' (first | omega | (with_reducible show (_ : Int) < _; dsimp only; omega) | (with_reducible show (_ : Nat) ≤ _; dsimp only; omega) | ((with_reducible show SrcOk _ _ _) <;> (first | exact srcOk_1 rfl | exact srcOk_L (fun _ => ⟨rfl, rfl⟩) | exact srcOk_E (fun _ => ⟨rfl, rfl⟩))) | ((conv => whnf) <;> (first | exact he | refine And.intro ?_ ?_ | (intro _h; first | contradiction | (try simp only [dd] at _h)) | (refine dt_go ?_) | exact rfl | exact True.intro | exact dkk | exact dks | (refine wrap_succ ?_; omega)))))
      | skip
    rename ImS => y
    rename ImI y.l ∧ _ => hy
    conv => whnf
    have he : IntKind.i64.wrap (1 + v0) = 1 + v0 := wrap_in (by omega) (by omega)
    refine cut_go (IntKind.i64.wrap (1 + v0), y.l, y.t) ?_ (by repeat' (first | exact trivial | refine And.intro rfl ?_)) (by repeat' (first | exact trivial | refine And.intro (.inl rfl) ?_ | refine And.intro (.inr rfl) ?_ | refine And.intro rfl ?_))
    exact ⟨⟨hy.1, by dsimp only; omega⟩, (by dsimp only; omega), by dsimp only; omega, by dsimp only; omega, by dsimp only; omega⟩
  obtain ⟨pg, im, ts⟩ := y
  obtain ⟨hI, hpg, hts⟩ := hy
  dsimp only at hI hpg hts
  dsimp only
  refine pw_cut 1 (fun y : List Core × Src => (CoI y.1 ∧ 1 ≤ y.1.length ∧ y.1.length ≤ 3 ∧ ∀ k, k < y.1.length → (y.1.getD k default).code = []) ∧ (s.at' ≤ y.2.at' ∧ y.2.at' ≤ s.at' + 30 ∧ y.2.code.length = s.code.length)) (fun y => [(0, .ptr 0 0 0), (2, .ptr 1 0 0), (3, .ptr 2 0 0)])
    (fun y => [some (boxRow y.2.cs), some (boxRow [.i .i64 0, .nils, .nils]), some (boxRow [.i .i64 pg, .row 3 im.length, .row 4 y.1.length]), some (rowL 3 Import.cs im), some (rowL 5 Core.csO y.1)]) ?_ (fun y hy => ?_)
  · repeat' (first | omega | (with_reducible show (_ : Int) < _; dsimp only; omega) | (with_reducible show (_ : Nat) ≤ _; dsimp only; omega) | ((with_reducible show SrcOk _ _ _) <;> (first | exact srcOk_1 rfl | exact srcOk_L (fun _ => ⟨rfl, rfl⟩) | exact srcOk_E (fun _ => ⟨rfl, rfl⟩))) | ((conv => whnf) <;> (first | (refine Src.rm_i ?_ ?_ ?_) | refine And.intro ?_ ?_ | (intro _h; first | contradiction | (try simp only [dd] at _h)) | (refine dt_go ?_) | exact rfl | exact True.intro | exact dkk | exact dks | (refine .inr (.inl (.inl ⟨[0], _, _, _, pick_ex _ ?_ 3 (by decide), viewA, ⟨rfl, rfl⟩, ?_⟩)); rotate_left 1; (rintro _ _ ⟨v1, t1, hv1, ht1, rfl, rfl⟩) <;> (refine ⟨rfl, _, lokA, ?_⟩)) | (refine wrap_succ ?_; omega))))
    conv => whnf
    have hw : IntKind.i64.wrap (1 + v1) = 1 + v1 := wrap_in (by omega) (by omega)
    refine loopFT (fun y : CoS => [(5, .i .i64 y.i)]) (fun y => [some (.box y.t.cs), none, some (.box [.i .i64 pg, .ow 3 im.length (elE Import.cs im), .ow 5 y.l.length (elE Core.csO y.l)])]) (fun y => (CoI y.l ∧ ∀ k, k < y.l.length → (y.l.getD k default).code = []) ∧ (0 ≤ y.i ∧ y.i + y.l.length = 1 + v1) ∧ (t1.at' ≤ y.t.at' ∧ y.t.at' ≤ t1.at' + 3 * y.l.length ∧ y.t.code.length = t1.code.length)) (fun y => y.i.toNat) ⟨IntKind.i64.wrap (1 + v1), [], t1⟩ ⟨⟨⟨.zero, fun k h => absurd h (Nat.not_lt_zero _)⟩, ⟨by dsimp only; omega, by show IntKind.i64.wrap (1 + v1) + ((0 : Nat) : Int) = 1 + v1; omega⟩, Int.le_refl _, (by show t1.at' ≤ t1.at' + 3 * ((0 : Nat) : Int); omega), rfl⟩, ?_⟩
    repeat' (first | omega | (with_reducible show (_ : Int) < _; dsimp only; omega) | (with_reducible show (_ : Nat) ≤ _; dsimp only; omega) | ((with_reducible show SrcOk _ _ _) <;> (first | exact srcOk_1 rfl | exact srcOk_L (fun _ => ⟨rfl, rfl⟩) | exact srcOk_E (fun _ => ⟨rfl, rfl⟩))) | ((conv => whnf) <;> (first | (rintro ⟨i2, (_ | ⟨c1, _ | ⟨c2, _ | ⟨c3, _ | ⟨c4, l2⟩⟩⟩⟩), t2⟩ ⟨hy, hy2⟩ <;> (try simp only [List.length_cons, List.length_nil] at hy2) <;> (by_cases h0 : i2 = 0) <;> (first | subst h0 | skip) <;> (first | (exfalso; omega) | skip) <;> (try dsimp only)) | (refine dt_turn (turn_open (id := 2) (i := 0) (j := 2) rfl (show 0 < 1 by decide) (show 2 < 3 by decide) rfl) ?_; refine dt_goS 16 4 [0] rfl rfl ?_) | (refine Src.rm_i ?_ ?_ ?_) | exact lbz_capC (Nat.le_of_ble_eq_true rfl) (show 64 ≤ 1000 by decide) | exact lbz_capM (Nat.le_of_ble_eq_true rfl) | exact Int.ofNat_lt.2 (Nat.le_of_ble_eq_true rfl) | exact srcOk_1 rfl | refine And.intro ?_ ?_ | (intro _h; first | contradiction | (try simp only [dd] at _h)) | (refine dt_go ?_) | exact rfl | exact True.intro | exact dkk | exact dks | (refine .inr (.inl (.inl ⟨[0], _, _, _, pick_ex _ ?_ _ ?_, viewA, ⟨rfl, rfl⟩, ?_⟩)); rotate_left 2; (rintro _ _ ⟨v2, t2, hv2, ht2, rfl, rfl⟩) <;> (refine ⟨rfl, _, lokA, ?_⟩)) | (refine .inr (.inl (.inl ⟨[0], _, _, _, one_ex _ ?_ 2 (by decide), viewA, ⟨rfl, rfl⟩, ?_⟩)); rotate_left 1; (rintro _ _ ⟨b3, t3, ht3, rfl, rfl⟩) <;> (refine ⟨rfl, _, lokA, ?_⟩)) | (refine wrap_succ ?_; omega))))
    all_goals first
      | (rename_i w2 u2 hw2 hu2
         have he : IntKind.i64.wrap (i2 - 1) = i2 - 1 := wrap_in (by omega) (by omega)
         conv => whnf
         refine roundET_turn (turn_close (id := 2) (i := 0) (j := 2) (id' := 6) rfl (show 0 < 1 by decide) (show 2 < 3 by decide) rfl rfl (show 2 ≠ 6 by decide) rfl ⟨Nat.le_refl _, snoc_idf (c := Core.csO) (l := ([] : List Core)) rfl (core_idf rfl rfl rfl rfl rfl)⟩) ?_
         refine roundET_turn (turn_box (id := 2) (ds := [.i .i64 pg, .ow 3 im.length (elE Import.cs im), .ow 5 (([] : List Core) ++ [(Core.mk (coN ([] : List Core).length) w2 v2 b3 [])]).length (elE Core.csO (([] : List Core) ++ [(Core.mk (coN ([] : List Core).length) w2 v2 b3 [])]))]) rfl rfl rfl (.cons (.refl _) (.cons (.refl _) (.cons (OwEq.lenT lbz_len (fun i j _ _ => HoldC.h _ j) (snoc_eq rfl (core_eq rfl rfl rfl rfl rfl))) .nil)))) ?_
         refine roundET_end ?_
         refine ⟨⟨i2 - 1, ([] : List Core) ++ [(Core.mk (coN ([] : List Core).length) w2 v2 b3 [])], t3⟩, [], ⟨⟨hy.1.next rfl ⟨by dsimp only; omega, by dsimp only; omega⟩ ⟨by dsimp only; omega, by dsimp only; omega⟩ rfl, coNil_next hy.2 rfl⟩, ⟨by dsimp only; omega, by dsimp only; simp only [List.length_append, List.length_cons, List.length_nil]; omega⟩, by dsimp only; omega, by dsimp only; simp only [List.length_append, List.length_cons, List.length_nil]; omega, by dsimp only; omega⟩, (by show (i2 - 1).toNat < i2.toNat; omega), ?_⟩
         repeat' (first | omega | (with_reducible show (_ : Int) < _; dsimp only; omega) | (with_reducible show (_ : Nat) ≤ _; dsimp only; omega) | ((with_reducible show SrcOk _ _ _) <;> (first | exact srcOk_1 rfl | exact srcOk_L (fun _ => ⟨rfl, rfl⟩) | exact srcOk_E (fun _ => ⟨rfl, rfl⟩))) | ((conv => whnf) <;> (first | exact he | refine And.intro ?_ ?_ | (intro _h; first | contradiction | (try simp only [dd] at _h)) | (refine dt_go ?_) | exact rfl | exact True.intro | exact dkk | exact dks | (refine wrap_succ ?_; omega)))))
      | (rename_i w2 u2 hw2 hu2
         have he : IntKind.i64.wrap (i2 - 1) = i2 - 1 := wrap_in (by omega) (by omega)
         conv => whnf
         refine roundET_turn (turn_close (id := 2) (i := 0) (j := 2) (id' := 6) rfl (show 0 < 1 by decide) (show 2 < 3 by decide) rfl rfl (show 2 ≠ 6 by decide) rfl ⟨Nat.le_refl _, snoc_idf (c := Core.csO) (l := [c1]) rfl (core_idf rfl rfl rfl rfl rfl)⟩) ?_
         refine roundET_turn (turn_box (id := 2) (ds := [.i .i64 pg, .ow 3 im.length (elE Import.cs im), .ow 5 ([c1] ++ [(Core.mk (coN [c1].length) w2 v2 b3 [])]).length (elE Core.csO ([c1] ++ [(Core.mk (coN [c1].length) w2 v2 b3 [])]))]) rfl rfl rfl (.cons (.refl _) (.cons (.refl _) (.cons (OwEq.lenT lbz_len (fun i j _ _ => HoldC.h _ j) (snoc_eq rfl (core_eq rfl rfl rfl rfl rfl))) .nil)))) ?_
         refine roundET_end ?_
         refine ⟨⟨i2 - 1, [c1] ++ [(Core.mk (coN [c1].length) w2 v2 b3 [])], t3⟩, [], ⟨⟨hy.1.next rfl ⟨by dsimp only; omega, by dsimp only; omega⟩ ⟨by dsimp only; omega, by dsimp only; omega⟩ rfl, coNil_next hy.2 rfl⟩, ⟨by dsimp only; omega, by dsimp only; simp only [List.length_append, List.length_cons, List.length_nil]; omega⟩, by dsimp only; omega, by dsimp only; simp only [List.length_append, List.length_cons, List.length_nil]; omega, by dsimp only; omega⟩, (by show (i2 - 1).toNat < i2.toNat; omega), ?_⟩
         repeat' (first | omega | (with_reducible show (_ : Int) < _; dsimp only; omega) | (with_reducible show (_ : Nat) ≤ _; dsimp only; omega) | ((with_reducible show SrcOk _ _ _) <;> (first | exact srcOk_1 rfl | exact srcOk_L (fun _ => ⟨rfl, rfl⟩) | exact srcOk_E (fun _ => ⟨rfl, rfl⟩))) | ((conv => whnf) <;> (first | exact he | refine And.intro ?_ ?_ | (intro _h; first | contradiction | (try simp only [dd] at _h)) | (refine dt_go ?_) | exact rfl | exact True.intro | exact dkk | exact dks | (refine wrap_succ ?_; omega)))))
      | (rename_i w2 u2 hw2 hu2
         have he : IntKind.i64.wrap (i2 - 1) = i2 - 1 := wrap_in (by omega) (by omega)
         conv => whnf
         refine roundET_turn (turn_close (id := 2) (i := 0) (j := 2) (id' := 6) rfl (show 0 < 1 by decide) (show 2 < 3 by decide) rfl rfl (show 2 ≠ 6 by decide) rfl ⟨Nat.le_refl _, snoc_idf (c := Core.csO) (l := [c1, c2]) rfl (core_idf rfl rfl rfl rfl rfl)⟩) ?_
         refine roundET_turn (turn_box (id := 2) (ds := [.i .i64 pg, .ow 3 im.length (elE Import.cs im), .ow 5 ([c1, c2] ++ [(Core.mk (coN [c1, c2].length) w2 v2 b3 [])]).length (elE Core.csO ([c1, c2] ++ [(Core.mk (coN [c1, c2].length) w2 v2 b3 [])]))]) rfl rfl rfl (.cons (.refl _) (.cons (.refl _) (.cons (OwEq.lenT lbz_len (fun i j _ _ => HoldC.h _ j) (snoc_eq rfl (core_eq rfl rfl rfl rfl rfl))) .nil)))) ?_
         refine roundET_end ?_
         refine ⟨⟨i2 - 1, [c1, c2] ++ [(Core.mk (coN [c1, c2].length) w2 v2 b3 [])], t3⟩, [], ⟨⟨hy.1.next rfl ⟨by dsimp only; omega, by dsimp only; omega⟩ ⟨by dsimp only; omega, by dsimp only; omega⟩ rfl, coNil_next hy.2 rfl⟩, ⟨by dsimp only; omega, by dsimp only; simp only [List.length_append, List.length_cons, List.length_nil]; omega⟩, by dsimp only; omega, by dsimp only; simp only [List.length_append, List.length_cons, List.length_nil]; omega, by dsimp only; omega⟩, (by show (i2 - 1).toNat < i2.toNat; omega), ?_⟩
         repeat' (first | omega | (with_reducible show (_ : Int) < _; dsimp only; omega) | (with_reducible show (_ : Nat) ≤ _; dsimp only; omega) | ((with_reducible show SrcOk _ _ _) <;> (first | exact srcOk_1 rfl | exact srcOk_L (fun _ => ⟨rfl, rfl⟩) | exact srcOk_E (fun _ => ⟨rfl, rfl⟩))) | ((conv => whnf) <;> (first | exact he | refine And.intro ?_ ?_ | (intro _h; first | contradiction | (try simp only [dd] at _h)) | (refine dt_go ?_) | exact rfl | exact True.intro | exact dkk | exact dks | (refine wrap_succ ?_; omega)))))
      | (conv => whnf
         refine cut_turn (turn_open (id := 2) (i := 0) (j := 1) rfl (show 0 < 1 by decide) (show 1 < 3 by decide) rfl) ?_
         refine cut_turn (turn_open (id := 2) (i := 0) (j := 2) rfl (show 0 < 1 by decide) (show 2 < 3 by decide) rfl) ?_
         refine cut_turn (turn_box (id := 2) (ds := [.i .i64 pg, .row 3 im.length, .row 4 [c1].length]) rfl rfl rfl (.cons (.refl _) (.cons (.refl _) (.cons (.refl _) .nil)))) ?_
         refine cut_go ([c1], t2) ?_ (by repeat' (first | exact trivial | refine And.intro rfl ?_)) (by repeat' (first | exact trivial | refine And.intro (.inl rfl) ?_ | refine And.intro (.inr rfl) ?_ | refine And.intro rfl ?_))
         exact ⟨⟨hy.1, Nat.le_of_ble_eq_true rfl, Nat.le_of_ble_eq_true rfl, hy.2⟩, by dsimp only; omega, by dsimp only; omega, by dsimp only; omega⟩)
      | (conv => whnf
         refine cut_turn (turn_open (id := 2) (i := 0) (j := 1) rfl (show 0 < 1 by decide) (show 1 < 3 by decide) rfl) ?_
         refine cut_turn (turn_open (id := 2) (i := 0) (j := 2) rfl (show 0 < 1 by decide) (show 2 < 3 by decide) rfl) ?_
         refine cut_turn (turn_box (id := 2) (ds := [.i .i64 pg, .row 3 im.length, .row 4 [c1, c2].length]) rfl rfl rfl (.cons (.refl _) (.cons (.refl _) (.cons (.refl _) .nil)))) ?_
         refine cut_go ([c1, c2], t2) ?_ (by repeat' (first | exact trivial | refine And.intro rfl ?_)) (by repeat' (first | exact trivial | refine And.intro (.inl rfl) ?_ | refine And.intro (.inr rfl) ?_ | refine And.intro rfl ?_))
         exact ⟨⟨hy.1, Nat.le_of_ble_eq_true rfl, Nat.le_of_ble_eq_true rfl, hy.2⟩, by dsimp only; omega, by dsimp only; omega, by dsimp only; omega⟩)
      | (conv => whnf
         refine cut_turn (turn_open (id := 2) (i := 0) (j := 1) rfl (show 0 < 1 by decide) (show 1 < 3 by decide) rfl) ?_
         refine cut_turn (turn_open (id := 2) (i := 0) (j := 2) rfl (show 0 < 1 by decide) (show 2 < 3 by decide) rfl) ?_
         refine cut_turn (turn_box (id := 2) (ds := [.i .i64 pg, .row 3 im.length, .row 4 [c1, c2, c3].length]) rfl rfl rfl (.cons (.refl _) (.cons (.refl _) (.cons (.refl _) .nil)))) ?_
         refine cut_go ([c1, c2, c3], t2) ?_ (by repeat' (first | exact trivial | refine And.intro rfl ?_)) (by repeat' (first | exact trivial | refine And.intro (.inl rfl) ?_ | refine And.intro (.inr rfl) ?_ | refine And.intro rfl ?_))
         exact ⟨⟨hy.1, Nat.le_of_ble_eq_true rfl, Nat.le_of_ble_eq_true rfl, hy.2⟩, by dsimp only; omega, by dsimp only; omega, by dsimp only; omega⟩)
      | (exfalso; omega)
      | trace_state
  obtain ⟨co0, tc⟩ := y
  obtain ⟨⟨hC, hl1, hl3, hnil⟩, htc⟩ := hy
  dsimp only at hC hl1 hl3 hnil htc
  dsimp only
  refine pw_cut 1 (fun y : List Core × Src => (CoI y.1 ∧ y.1.length = co0.length) ∧ (s.at' ≤ y.2.at' ∧ y.2.at' ≤ s.at' + 5000 ∧ y.2.code.length = s.code.length)) (fun y => [(0, .ptr 0 0 0), (2, .ptr 1 0 0), (3, .ptr 2 0 0)])
    (fun y => [some (boxRow y.2.cs), some (boxRow [.i .i64 0, .nils, .nils]), some (boxRow [.i .i64 pg, .row 3 im.length, .row 4 co0.length]), some (rowL 3 Import.cs im), some (rowL 5 Core.csO y.1)]) ?_ (fun y hy => ?_)
  · repeat' (first | omega | (with_reducible show (_ : Int) < _; dsimp only; omega) | (with_reducible show (_ : Nat) ≤ _; dsimp only; omega) | ((with_reducible show SrcOk _ _ _) <;> (first | exact srcOk_1 rfl | exact srcOk_L (fun _ => ⟨rfl, rfl⟩) | exact srcOk_E (fun _ => ⟨rfl, rfl⟩))) | ((conv => whnf) <;> (first | refine And.intro ?_ ?_ | (intro _h; first | contradiction | (try simp only [dd] at _h)) | (refine dt_go ?_) | exact rfl | exact True.intro | exact dkk | exact dks | (refine wrap_succ ?_; omega))))
    conv => whnf
    refine loopFT (fun y : C3S => [(6, .i .i64 y.i)]) (fun y => [some (.box y.t.cs), none, none, none, some (.arr ⟨5, y.l.length, elE Core.csO y.l, .arr⟩)]) (fun y => (CoI y.l ∧ ∀ k, y.i ≤ k → k < y.l.length → (y.l.getD k default).code = []) ∧ (y.l.length = co0.length ∧ y.i ≤ co0.length) ∧ (tc.at' ≤ y.t.at' ∧ y.t.at' ≤ tc.at' + 1600 * y.i ∧ y.t.code.length = tc.code.length)) (fun y => co0.length - y.i) ⟨0, co0, tc⟩ ⟨⟨⟨hC, fun k _ h => hnil k h⟩, ⟨rfl, Nat.zero_le _⟩, Int.le_refl _, (by show tc.at' ≤ tc.at' + 1600 * ((0 : Nat) : Int); omega), rfl⟩, ?_⟩
    repeat' (first | omega | (with_reducible show (_ : Int) < _; dsimp only; omega) | (with_reducible show (_ : Nat) ≤ _; dsimp only; omega) | ((with_reducible show SrcOk _ _ _) <;> (first | exact srcOk_1 rfl | exact srcOk_L (fun _ => ⟨rfl, rfl⟩) | exact srcOk_E (fun _ => ⟨rfl, rfl⟩))) | ((conv => whnf) <;> (first | (rintro ⟨(_ | _ | _ | _ | i), l, ta⟩ ⟨hy, hy2⟩ <;> (try dsimp only at hy hy2) <;> (first | (exfalso; omega) | skip) <;> (try dsimp only)) | exact arr_same rfl rfl (fun a j => low_cells rfl) | exact low_cells rfl | (refine lw_del 4 ?_; refine HoldG.get ?_) | (refine Src.rm_i ?_ ?_ ?_) | refine And.intro ?_ ?_ | (intro _h; first | contradiction | (try simp only [dd] at _h)) | (refine dt_go ?_) | exact rfl | exact True.intro | exact dkk | exact dks | (refine .inr (.inl (.inl ⟨[0], _, _, _, pick_ex _ ?_ _ ?_, viewA, ⟨rfl, rfl⟩, ?_⟩)); rotate_left 2; (rintro _ _ ⟨v2, t2, hv2, ht2, rfl, rfl⟩) <;> (refine ⟨rfl, _, lokA, ?_⟩)) | (refine wrap_succ ?_; omega))))
    all_goals first
      | (have hi : 0 < l.length := by omega
         have hn := coi_n hy.1 hi
         have hnl := setC_nil hi (hy.2 0 (Nat.le_refl _) hi)
         have hsl : ∀ c, (setC l 0 c).length = l.length := fun c => setC_len
         have hlt : ∀ c, 0 < (setC l 0 c).length := fun c => by rw [hsl]; exact hi
         have hI2 := hI.1.d hI.2
         have hCC : ∀ y : C4S, C4I y ∧ (0 ≤ y.k ∧ y.k ≤ v2 ∧ y.n ≤ 89 ∧ ((setC l 0 y.c).getD 0 default).code.length = y.n) ∧ (t2.at' ≤ y.t.at' ∧ y.t.at' ≤ t2.at' + 360 * (v2 - y.k) ∧ y.t.code.length = t2.code.length) → CoD (setC l 0 y.c) := fun y hq => (hy.1.set hi ⟨hq.1.g, by have := hq.1.n; have := hq.2.1.2.2.1; omega⟩).d (by rw [hsl]; omega) (by rw [hsl]; omega)
         have hcl : ∀ y : C4S, C4I y ∧ (0 ≤ y.k ∧ y.k ≤ v2 ∧ y.n ≤ 89 ∧ ((setC l 0 y.c).getD 0 default).code.length = y.n) ∧ (t2.at' ≤ y.t.at' ∧ y.t.at' ≤ t2.at' + 360 * (v2 - y.k) ∧ y.t.code.length = t2.code.length) → ((setC l 0 y.c).getD 0 default).code.length ≤ 89 := fun y hq => by rw [hq.2.1.2.2.2]; exact hq.2.1.2.2.1
         have hnc : ∀ c, co0.length = (setC l 0 c).length := fun c => hy2.1.1.symm.trans (hsl c).symm
         refine HoldG.mk ?_
         refine loopFT (fun y : C4S => [(9, .i .i64 y.k)]) (fun y => [some (.box y.t.cs), none, none, none, some (.arr ⟨5, (setC l 0 y.c).length, elE Core.csO (setC l 0 y.c), .arr⟩)]) (fun y => C4I y ∧ (0 ≤ y.k ∧ y.k ≤ v2 ∧ y.n ≤ 89 ∧ ((setC l 0 y.c).getD 0 default).code.length = y.n) ∧ (t2.at' ≤ y.t.at' ∧ y.t.at' ≤ t2.at' + 360 * (v2 - y.k) ∧ y.t.code.length = t2.code.length)) (fun y => y.k.toNat) ⟨v2, [], 0, t2⟩ ⟨⟨⟨(fun x hx => nomatch hx), rfl⟩, ⟨hv2.1, Int.le_refl _, Nat.zero_le _, by rw [setC_code hi]; rfl⟩, Int.le_refl _, (by show t2.at' ≤ t2.at' + 360 * (v2 - v2); omega), rfl⟩, ?_⟩
         repeat' (first | omega | (with_reducible show (_ : Int) < _; dsimp only; omega) | (with_reducible show (_ : Nat) ≤ _; dsimp only; omega) | ((with_reducible show SrcOk _ _ _) <;> (first | exact srcOk_1 rfl | exact srcOk_L (fun _ => ⟨rfl, rfl⟩) | exact srcOk_E (fun _ => ⟨rfl, rfl⟩))) | ((conv => whnf) <;> (first | exact arr_same hnl.symm (by rw [hnl]) (fun a j => low_cells rfl) | exact arr_same hnl (by rw [hnl]) (fun a j => low_cells rfl) | exact low_cells rfl | (refine Src.rm_i ?_ ?_ ?_) | exact hCC _ ‹C4I _ ∧ _› | exact hnc _ | exact hn | (refine dt_turn (turn_open (id := 4) (i := 0) (j := 4) rfl (hlt _) (show 4 < 5 by decide) rfl) ?_; refine dt_goH 5 [0, 4] rfl ?_) | exact lit_cap (le89 (hcl _ ‹C4I _ ∧ _›)) (by omega) (show 16 ≤ 1000 by decide) | exact lit_len (le89 (hcl _ ‹C4I _ ∧ _›)) (by omega) | exact lit_cap (lsum (hcl _ ‹C4I _ ∧ _›) (by omega)) (by decide) (show 16 ≤ 1000 by decide) | exact lit_len (lsum (hcl _ ‹C4I _ ∧ _›) (by omega)) (by decide) | exact srcOk_1 rfl | refine And.intro ?_ ?_ | (intro _h; first | contradiction | (try simp only [dd] at _h)) | (refine dt_go ?_) | exact rfl | exact True.intro | exact dkk | exact dks | (refine .inr (.inl (.inl ⟨[0, 3, 4], _, _, _, deed2 im _ hI2 ?_ pg ?_ _ ?_ _ ?_, viewA, ⟨rfl, rfl⟩, ?_⟩)); rotate_left 4; (rintro _ _ ⟨l3, t3, k3, hl3, ht3, hk3, rfl, rfl⟩) <;> (refine ⟨rfl, _, lokA, ?_⟩)) | (refine .inr (.inl (.inl ⟨[0], _, _, _, one_ex _ ?_ 9 (by decide), viewA, ⟨rfl, rfl⟩, ?_⟩)); rotate_left 1; (rintro _ _ ⟨b5, t5, ht5, rfl, rfl⟩) <;> (refine ⟨rfl, _, lokA, ?_⟩)) | (refine .inr (.inl (.inl ⟨[0], _, _, _, one_ex _ ?_ 3 (by decide), viewA, ⟨rfl, rfl⟩, ?_⟩)); rotate_left 1; (rintro _ _ ⟨b7, t7, ht7, rfl, rfl⟩) <;> (refine ⟨rfl, _, lokA, ?_⟩)) | (refine .inr (.inl (.inl ⟨[0], _, _, _, val2_104 _ ?_ _ ?_, viewA, ⟨rfl, rfl⟩, ?_⟩)); rotate_left 2; (rintro _ _ ⟨l6, t6, k6, hl6, ht6, hk6, rfl, rfl⟩) <;> (refine ⟨rfl, _, lokA, ?_⟩)) | (refine wrap_succ ?_; omega))))
         all_goals (rename C4S => y; rename C4I y ∧ _ => hw; have hcn := hw.1.n)
         all_goals first
           | (have hb : IntKind.i64.wrap ((((setC l 0 y.c).getD 0 default).code.length : Int) + (k3 : Int)) < 90 := _h
              rw [hw.2.1.2.2.2, wrap_in (by omega) (by omega)] at hb
              conv => whnf
              refine roundET_turn (turn_close (id := 4) (i := 0) (j := 4) (id' := 7) rfl (hlt _) (show 4 < 5 by decide) rfl rfl (show 4 ≠ 7 by decide) rfl ⟨Nat.le_refl _, fun i j _ _ => (cat_idf el_idf el_idf) i j⟩) ?_
              refine roundET_turn (turn_eq (id := 4) (x := ⟨5, (setC l 0 (y.c ++ l3)).length, elE Core.csO (setC l 0 (y.c ++ l3)), .arr⟩) rfl rfl ((hsl _).trans (hsl _).symm) rfl rfl (core_upd3 hi ((hw.1.eg hi).cat (EG.el hl3 hk3)))) ?_
              refine roundET_end ?_
              refine ⟨⟨y.k - 1, (y.c ++ l3), (y.n + k3), t3⟩, [], ⟨⟨hw.1.g.app hl3.1, by dsimp only; rw [List.length_append, ← hw.1.n, ← hk3]⟩, ⟨by dsimp only; omega, by dsimp only; omega, by dsimp only; omega, by dsimp only; rw [setC_code hi]; exact (by rw [List.length_append, ← hw.1.n, ← hk3])⟩, by dsimp only; omega, by dsimp only; omega, by dsimp only; omega⟩, (by show (y.k - 1).toNat < y.k.toNat; omega), ?_⟩
              repeat' (first | omega | (with_reducible show (_ : Int) < _; dsimp only; omega) | (with_reducible show (_ : Nat) ≤ _; dsimp only; omega) | ((with_reducible show SrcOk _ _ _) <;> (first | exact srcOk_1 rfl | exact srcOk_L (fun _ => ⟨rfl, rfl⟩) | exact srcOk_E (fun _ => ⟨rfl, rfl⟩))) | ((conv => whnf) <;> (first | exact (wrap_in (by omega) (by omega) : IntKind.i64.wrap (y.k - 1) = y.k - 1) | exact arr_same rfl rfl (fun a j => low_cells rfl) | exact low_cells rfl | exact rfl | refine And.intro ?_ ?_ | (intro _h; first | contradiction | (try simp only [dd] at _h)) | (refine dt_go ?_) | exact rfl | exact True.intro | exact dkk | exact dks | (refine wrap_succ ?_; omega)))))
           | (have hb : ¬ IntKind.i64.wrap ((((setC l 0 y.c).getD 0 default).code.length : Int) + (k3 : Int)) < 90 := _h
              conv => whnf
              refine roundET_turn (turn_close (id := 4) (i := 0) (j := 4) (id' := 6) rfl (hlt _) (show 4 < 5 by decide) rfl rfl (show 4 ≠ 6 by decide) rfl ⟨Nat.le_refl _, fun i j _ _ => el_idf i j⟩) ?_
              refine roundET_turn (turn_eq (id := 4) (x := ⟨5, (setC l 0 y.c).length, elE Core.csO (setC l 0 y.c), .arr⟩) rfl rfl ((hsl _).trans (hsl _).symm) rfl rfl (core_upd2 hi (hw.1.eg hi))) ?_
              refine roundET_end ?_
              refine ⟨⟨y.k - 1, y.c, y.n, t3⟩, [], ⟨⟨hw.1.g, hw.1.n⟩, ⟨by dsimp only; omega, by dsimp only; omega, by dsimp only; omega, by dsimp only; rw [setC_code hi]; exact hw.1.n.symm⟩, by dsimp only; omega, by dsimp only; omega, by dsimp only; omega⟩, (by show (y.k - 1).toNat < y.k.toNat; omega), ?_⟩
              repeat' (first | omega | (with_reducible show (_ : Int) < _; dsimp only; omega) | (with_reducible show (_ : Nat) ≤ _; dsimp only; omega) | ((with_reducible show SrcOk _ _ _) <;> (first | exact srcOk_1 rfl | exact srcOk_L (fun _ => ⟨rfl, rfl⟩) | exact srcOk_E (fun _ => ⟨rfl, rfl⟩))) | ((conv => whnf) <;> (first | exact (wrap_in (by omega) (by omega) : IntKind.i64.wrap (y.k - 1) = y.k - 1) | exact arr_same rfl rfl (fun a j => low_cells rfl) | exact low_cells rfl | exact rfl | refine And.intro ?_ ?_ | (intro _h; first | contradiction | (try simp only [dd] at _h)) | (refine dt_go ?_) | exact rfl | exact True.intro | exact dkk | exact dks | (refine wrap_succ ?_; omega)))))
           | (conv => whnf
              refine roundET_turn (turn_close (id := 4) (i := 0) (j := 4) (id' := 7) rfl (hlt _) (show 4 < 5 by decide) rfl rfl (show 4 ≠ 7 by decide) rfl ⟨Nat.le_refl _, fun i j _ _ => (cat_idf el_idf (lit_idf (x := ⟨40, 0⟩) (by rfl))) i j⟩) ?_
              refine roundET_turn (turn_eq (id := 4) (x := ⟨5, (setC l 0 (y.c ++ [⟨40, 0⟩])).length, elE Core.csO (setC l 0 (y.c ++ [⟨40, 0⟩])), .arr⟩) rfl rfl ((hsl _).trans (hsl _).symm) rfl rfl (core_upd3 hi ((hw.1.eg hi).cat (EG.one ⟨40, 0⟩ (by rfl) (by decide))))) ?_
              refine roundET_end ?_
              refine ⟨⟨0 + 1, setC l 0 (y.c ++ [⟨40, 0⟩]), t5⟩, [], ⟨⟨hy.1.set hi ⟨hw.1.g.app (AllG.one (by decide)), by (try simp only [List.length_append, List.length_cons, List.length_nil]); omega⟩, nil_from hi hy.2⟩, ⟨(hsl _).trans hy2.1.1, by dsimp only; omega⟩, by dsimp only; omega, by dsimp only; omega, by dsimp only; omega⟩, (by show co0.length - (0 + 1) < co0.length - 0; omega), ?_⟩
              repeat' (first | omega | (with_reducible show (_ : Int) < _; dsimp only; omega) | (with_reducible show (_ : Nat) ≤ _; dsimp only; omega) | ((with_reducible show SrcOk _ _ _) <;> (first | exact srcOk_1 rfl | exact srcOk_L (fun _ => ⟨rfl, rfl⟩) | exact srcOk_E (fun _ => ⟨rfl, rfl⟩))) | ((conv => whnf) <;> (first | exact (wrap_in (by decide) (by decide)) | exact arr_same rfl rfl (fun a j => low_cells rfl) | exact low_cells rfl | exact rfl | refine And.intro ?_ ?_ | (intro _h; first | contradiction | (try simp only [dd] at _h)) | (refine dt_go ?_) | exact rfl | exact True.intro | exact dkk | exact dks | (refine wrap_succ ?_; omega)))))
           | (conv => whnf
              refine roundET_turn (turn_close (id := 4) (i := 0) (j := 4) (id' := 7) rfl (hlt _) (show 4 < 5 by decide) rfl rfl (show 4 ≠ 7 by decide) rfl ⟨Nat.le_refl _, fun i j _ _ => (cat_idf el_idf el_idf) i j⟩) ?_
              refine roundET_turn (turn_eq (id := 4) (x := ⟨5, (setC l 0 (y.c ++ l6)).length, elE Core.csO (setC l 0 (y.c ++ l6)), .arr⟩) rfl rfl ((hsl _).trans (hsl _).symm) rfl rfl (core_upd3 hi ((hw.1.eg hi).cat (EG.el hl6 hk6)))) ?_
              refine roundET_end ?_
              refine ⟨⟨0 + 1, setC l 0 (y.c ++ l6), t7⟩, [], ⟨⟨hy.1.set hi ⟨hw.1.g.app hl6.1, by (try simp only [List.length_append, List.length_cons, List.length_nil]); omega⟩, nil_from hi hy.2⟩, ⟨(hsl _).trans hy2.1.1, by dsimp only; omega⟩, by dsimp only; omega, by dsimp only; omega, by dsimp only; omega⟩, (by show co0.length - (0 + 1) < co0.length - 0; omega), ?_⟩
              repeat' (first | omega | (with_reducible show (_ : Int) < _; dsimp only; omega) | (with_reducible show (_ : Nat) ≤ _; dsimp only; omega) | ((with_reducible show SrcOk _ _ _) <;> (first | exact srcOk_1 rfl | exact srcOk_L (fun _ => ⟨rfl, rfl⟩) | exact srcOk_E (fun _ => ⟨rfl, rfl⟩))) | ((conv => whnf) <;> (first | exact (wrap_in (by decide) (by decide)) | exact arr_same rfl rfl (fun a j => low_cells rfl) | exact low_cells rfl | exact rfl | refine And.intro ?_ ?_ | (intro _h; first | contradiction | (try simp only [dd] at _h)) | (refine dt_go ?_) | exact rfl | exact True.intro | exact dkk | exact dks | (refine wrap_succ ?_; omega)))))
           | (conv => whnf
              refine roundET_turn (turn_close (id := 4) (i := 0) (j := 4) (id' := 9) rfl (hlt _) (show 4 < 5 by decide) rfl rfl (show 4 ≠ 9 by decide) rfl ⟨Nat.le_refl _, fun i j _ _ => (cat_idf (cat_idf el_idf el_idf) (lit_idf (x := ⟨31, 0⟩) (by rfl))) i j⟩) ?_
              refine roundET_turn (turn_eq (id := 4) (x := ⟨5, (setC l 0 ((y.c ++ l6) ++ [⟨31, 0⟩])).length, elE Core.csO (setC l 0 ((y.c ++ l6) ++ [⟨31, 0⟩])), .arr⟩) rfl rfl ((hsl _).trans (hsl _).symm) rfl rfl (core_upd4 hi (((hw.1.eg hi).cat (EG.el hl6 hk6)).cat (EG.one ⟨31, 0⟩ (by rfl) (by decide))))) ?_
              refine roundET_end ?_
              refine ⟨⟨0 + 1, setC l 0 ((y.c ++ l6) ++ [⟨31, 0⟩]), t7⟩, [], ⟨⟨hy.1.set hi ⟨(hw.1.g.app hl6.1).app (AllG.one (by decide)), by (try simp only [List.length_append, List.length_cons, List.length_nil]); omega⟩, nil_from hi hy.2⟩, ⟨(hsl _).trans hy2.1.1, by dsimp only; omega⟩, by dsimp only; omega, by dsimp only; omega, by dsimp only; omega⟩, (by show co0.length - (0 + 1) < co0.length - 0; omega), ?_⟩
              repeat' (first | omega | (with_reducible show (_ : Int) < _; dsimp only; omega) | (with_reducible show (_ : Nat) ≤ _; dsimp only; omega) | ((with_reducible show SrcOk _ _ _) <;> (first | exact srcOk_1 rfl | exact srcOk_L (fun _ => ⟨rfl, rfl⟩) | exact srcOk_E (fun _ => ⟨rfl, rfl⟩))) | ((conv => whnf) <;> (first | exact (wrap_in (by decide) (by decide)) | exact arr_same rfl rfl (fun a j => low_cells rfl) | exact low_cells rfl | exact rfl | refine And.intro ?_ ?_ | (intro _h; first | contradiction | (try simp only [dd] at _h)) | (refine dt_go ?_) | exact rfl | exact True.intro | exact dkk | exact dks | (refine wrap_succ ?_; omega)))))
           | (conv => whnf
              refine roundET_end ?_
              refine ⟨⟨0 + 1, setC l 0 y.c, t5⟩, [], ⟨⟨hy.1.set hi ⟨hw.1.g, by (try simp only [List.length_append, List.length_cons, List.length_nil]); omega⟩, nil_from hi hy.2⟩, ⟨(hsl _).trans hy2.1.1, by dsimp only; omega⟩, by dsimp only; omega, by dsimp only; omega, by dsimp only; omega⟩, (by show co0.length - (0 + 1) < co0.length - 0; omega), ?_⟩
              repeat' (first | omega | (with_reducible show (_ : Int) < _; dsimp only; omega) | (with_reducible show (_ : Nat) ≤ _; dsimp only; omega) | ((with_reducible show SrcOk _ _ _) <;> (first | exact srcOk_1 rfl | exact srcOk_L (fun _ => ⟨rfl, rfl⟩) | exact srcOk_E (fun _ => ⟨rfl, rfl⟩))) | ((conv => whnf) <;> (first | exact (wrap_in (by decide) (by decide)) | exact arr_same rfl rfl (fun a j => low_cells rfl) | exact low_cells rfl | exact rfl | refine And.intro ?_ ?_ | (intro _h; first | contradiction | (try simp only [dd] at _h)) | (refine dt_go ?_) | exact rfl | exact True.intro | exact dkk | exact dks | (refine wrap_succ ?_; omega)))))
           | trace_state)
      | (have hi : (0 + 1) < l.length := by omega
         have hn := coi_n hy.1 hi
         have hnl := setC_nil hi (hy.2 (0 + 1) (Nat.le_refl _) hi)
         have hsl : ∀ c, (setC l (0 + 1) c).length = l.length := fun c => setC_len
         have hlt : ∀ c, (0 + 1) < (setC l (0 + 1) c).length := fun c => by rw [hsl]; exact hi
         have hI2 := hI.1.d hI.2
         have hCC : ∀ y : C4S, C4I y ∧ (0 ≤ y.k ∧ y.k ≤ v2 ∧ y.n ≤ 89 ∧ ((setC l (0 + 1) y.c).getD (0 + 1) default).code.length = y.n) ∧ (t2.at' ≤ y.t.at' ∧ y.t.at' ≤ t2.at' + 360 * (v2 - y.k) ∧ y.t.code.length = t2.code.length) → CoD (setC l (0 + 1) y.c) := fun y hq => (hy.1.set hi ⟨hq.1.g, by have := hq.1.n; have := hq.2.1.2.2.1; omega⟩).d (by rw [hsl]; omega) (by rw [hsl]; omega)
         have hcl : ∀ y : C4S, C4I y ∧ (0 ≤ y.k ∧ y.k ≤ v2 ∧ y.n ≤ 89 ∧ ((setC l (0 + 1) y.c).getD (0 + 1) default).code.length = y.n) ∧ (t2.at' ≤ y.t.at' ∧ y.t.at' ≤ t2.at' + 360 * (v2 - y.k) ∧ y.t.code.length = t2.code.length) → ((setC l (0 + 1) y.c).getD (0 + 1) default).code.length ≤ 89 := fun y hq => by rw [hq.2.1.2.2.2]; exact hq.2.1.2.2.1
         have hnc : ∀ c, co0.length = (setC l (0 + 1) c).length := fun c => hy2.1.1.symm.trans (hsl c).symm
         refine HoldG.mk ?_
         refine loopFT (fun y : C4S => [(9, .i .i64 y.k)]) (fun y => [some (.box y.t.cs), none, none, none, some (.arr ⟨5, (setC l (0 + 1) y.c).length, elE Core.csO (setC l (0 + 1) y.c), .arr⟩)]) (fun y => C4I y ∧ (0 ≤ y.k ∧ y.k ≤ v2 ∧ y.n ≤ 89 ∧ ((setC l (0 + 1) y.c).getD (0 + 1) default).code.length = y.n) ∧ (t2.at' ≤ y.t.at' ∧ y.t.at' ≤ t2.at' + 360 * (v2 - y.k) ∧ y.t.code.length = t2.code.length)) (fun y => y.k.toNat) ⟨v2, [], 0, t2⟩ ⟨⟨⟨(fun x hx => nomatch hx), rfl⟩, ⟨hv2.1, Int.le_refl _, Nat.zero_le _, by rw [setC_code hi]; rfl⟩, Int.le_refl _, (by show t2.at' ≤ t2.at' + 360 * (v2 - v2); omega), rfl⟩, ?_⟩
         repeat' (first | omega | (with_reducible show (_ : Int) < _; dsimp only; omega) | (with_reducible show (_ : Nat) ≤ _; dsimp only; omega) | ((with_reducible show SrcOk _ _ _) <;> (first | exact srcOk_1 rfl | exact srcOk_L (fun _ => ⟨rfl, rfl⟩) | exact srcOk_E (fun _ => ⟨rfl, rfl⟩))) | ((conv => whnf) <;> (first | exact arr_same hnl.symm (by rw [hnl]) (fun a j => low_cells rfl) | exact arr_same hnl (by rw [hnl]) (fun a j => low_cells rfl) | exact low_cells rfl | (refine Src.rm_i ?_ ?_ ?_) | exact hCC _ ‹C4I _ ∧ _› | exact hnc _ | exact hn | (refine dt_turn (turn_open (id := 4) (i := (0 + 1)) (j := 4) rfl (hlt _) (show 4 < 5 by decide) rfl) ?_; refine dt_goH 5 [0, 4] rfl ?_) | exact lit_cap (le89 (hcl _ ‹C4I _ ∧ _›)) (by omega) (show 16 ≤ 1000 by decide) | exact lit_len (le89 (hcl _ ‹C4I _ ∧ _›)) (by omega) | exact lit_cap (lsum (hcl _ ‹C4I _ ∧ _›) (by omega)) (by decide) (show 16 ≤ 1000 by decide) | exact lit_len (lsum (hcl _ ‹C4I _ ∧ _›) (by omega)) (by decide) | exact srcOk_1 rfl | refine And.intro ?_ ?_ | (intro _h; first | contradiction | (try simp only [dd] at _h)) | (refine dt_go ?_) | exact rfl | exact True.intro | exact dkk | exact dks | (refine .inr (.inl (.inl ⟨[0, 3, 4], _, _, _, deed2 im _ hI2 ?_ pg ?_ _ ?_ _ ?_, viewA, ⟨rfl, rfl⟩, ?_⟩)); rotate_left 4; (rintro _ _ ⟨l3, t3, k3, hl3, ht3, hk3, rfl, rfl⟩) <;> (refine ⟨rfl, _, lokA, ?_⟩)) | (refine .inr (.inl (.inl ⟨[0], _, _, _, one_ex _ ?_ 9 (by decide), viewA, ⟨rfl, rfl⟩, ?_⟩)); rotate_left 1; (rintro _ _ ⟨b5, t5, ht5, rfl, rfl⟩) <;> (refine ⟨rfl, _, lokA, ?_⟩)) | (refine .inr (.inl (.inl ⟨[0], _, _, _, one_ex _ ?_ 3 (by decide), viewA, ⟨rfl, rfl⟩, ?_⟩)); rotate_left 1; (rintro _ _ ⟨b7, t7, ht7, rfl, rfl⟩) <;> (refine ⟨rfl, _, lokA, ?_⟩)) | (refine .inr (.inl (.inl ⟨[0], _, _, _, val2_104 _ ?_ _ ?_, viewA, ⟨rfl, rfl⟩, ?_⟩)); rotate_left 2; (rintro _ _ ⟨l6, t6, k6, hl6, ht6, hk6, rfl, rfl⟩) <;> (refine ⟨rfl, _, lokA, ?_⟩)) | (refine wrap_succ ?_; omega))))
         all_goals (rename C4S => y; rename C4I y ∧ _ => hw; have hcn := hw.1.n)
         all_goals first
           | (have hb : IntKind.i64.wrap ((((setC l (0 + 1) y.c).getD (0 + 1) default).code.length : Int) + (k3 : Int)) < 90 := _h
              rw [hw.2.1.2.2.2, wrap_in (by omega) (by omega)] at hb
              conv => whnf
              refine roundET_turn (turn_close (id := 4) (i := (0 + 1)) (j := 4) (id' := 7) rfl (hlt _) (show 4 < 5 by decide) rfl rfl (show 4 ≠ 7 by decide) rfl ⟨Nat.le_refl _, fun i j _ _ => (cat_idf el_idf el_idf) i j⟩) ?_
              refine roundET_turn (turn_eq (id := 4) (x := ⟨5, (setC l (0 + 1) (y.c ++ l3)).length, elE Core.csO (setC l (0 + 1) (y.c ++ l3)), .arr⟩) rfl rfl ((hsl _).trans (hsl _).symm) rfl rfl (core_upd3 hi ((hw.1.eg hi).cat (EG.el hl3 hk3)))) ?_
              refine roundET_end ?_
              refine ⟨⟨y.k - 1, (y.c ++ l3), (y.n + k3), t3⟩, [], ⟨⟨hw.1.g.app hl3.1, by dsimp only; rw [List.length_append, ← hw.1.n, ← hk3]⟩, ⟨by dsimp only; omega, by dsimp only; omega, by dsimp only; omega, by dsimp only; rw [setC_code hi]; exact (by rw [List.length_append, ← hw.1.n, ← hk3])⟩, by dsimp only; omega, by dsimp only; omega, by dsimp only; omega⟩, (by show (y.k - 1).toNat < y.k.toNat; omega), ?_⟩
              repeat' (first | omega | (with_reducible show (_ : Int) < _; dsimp only; omega) | (with_reducible show (_ : Nat) ≤ _; dsimp only; omega) | ((with_reducible show SrcOk _ _ _) <;> (first | exact srcOk_1 rfl | exact srcOk_L (fun _ => ⟨rfl, rfl⟩) | exact srcOk_E (fun _ => ⟨rfl, rfl⟩))) | ((conv => whnf) <;> (first | exact (wrap_in (by omega) (by omega) : IntKind.i64.wrap (y.k - 1) = y.k - 1) | exact arr_same rfl rfl (fun a j => low_cells rfl) | exact low_cells rfl | exact rfl | refine And.intro ?_ ?_ | (intro _h; first | contradiction | (try simp only [dd] at _h)) | (refine dt_go ?_) | exact rfl | exact True.intro | exact dkk | exact dks | (refine wrap_succ ?_; omega)))))
           | (have hb : ¬ IntKind.i64.wrap ((((setC l (0 + 1) y.c).getD (0 + 1) default).code.length : Int) + (k3 : Int)) < 90 := _h
              conv => whnf
              refine roundET_turn (turn_close (id := 4) (i := (0 + 1)) (j := 4) (id' := 6) rfl (hlt _) (show 4 < 5 by decide) rfl rfl (show 4 ≠ 6 by decide) rfl ⟨Nat.le_refl _, fun i j _ _ => el_idf i j⟩) ?_
              refine roundET_turn (turn_eq (id := 4) (x := ⟨5, (setC l (0 + 1) y.c).length, elE Core.csO (setC l (0 + 1) y.c), .arr⟩) rfl rfl ((hsl _).trans (hsl _).symm) rfl rfl (core_upd2 hi (hw.1.eg hi))) ?_
              refine roundET_end ?_
              refine ⟨⟨y.k - 1, y.c, y.n, t3⟩, [], ⟨⟨hw.1.g, hw.1.n⟩, ⟨by dsimp only; omega, by dsimp only; omega, by dsimp only; omega, by dsimp only; rw [setC_code hi]; exact hw.1.n.symm⟩, by dsimp only; omega, by dsimp only; omega, by dsimp only; omega⟩, (by show (y.k - 1).toNat < y.k.toNat; omega), ?_⟩
              repeat' (first | omega | (with_reducible show (_ : Int) < _; dsimp only; omega) | (with_reducible show (_ : Nat) ≤ _; dsimp only; omega) | ((with_reducible show SrcOk _ _ _) <;> (first | exact srcOk_1 rfl | exact srcOk_L (fun _ => ⟨rfl, rfl⟩) | exact srcOk_E (fun _ => ⟨rfl, rfl⟩))) | ((conv => whnf) <;> (first | exact (wrap_in (by omega) (by omega) : IntKind.i64.wrap (y.k - 1) = y.k - 1) | exact arr_same rfl rfl (fun a j => low_cells rfl) | exact low_cells rfl | exact rfl | refine And.intro ?_ ?_ | (intro _h; first | contradiction | (try simp only [dd] at _h)) | (refine dt_go ?_) | exact rfl | exact True.intro | exact dkk | exact dks | (refine wrap_succ ?_; omega)))))
           | (conv => whnf
              refine roundET_turn (turn_close (id := 4) (i := (0 + 1)) (j := 4) (id' := 7) rfl (hlt _) (show 4 < 5 by decide) rfl rfl (show 4 ≠ 7 by decide) rfl ⟨Nat.le_refl _, fun i j _ _ => (cat_idf el_idf (lit_idf (x := ⟨40, 0⟩) (by rfl))) i j⟩) ?_
              refine roundET_turn (turn_eq (id := 4) (x := ⟨5, (setC l (0 + 1) (y.c ++ [⟨40, 0⟩])).length, elE Core.csO (setC l (0 + 1) (y.c ++ [⟨40, 0⟩])), .arr⟩) rfl rfl ((hsl _).trans (hsl _).symm) rfl rfl (core_upd3 hi ((hw.1.eg hi).cat (EG.one ⟨40, 0⟩ (by rfl) (by decide))))) ?_
              refine roundET_end ?_
              refine ⟨⟨(0 + 1) + 1, setC l (0 + 1) (y.c ++ [⟨40, 0⟩]), t5⟩, [], ⟨⟨hy.1.set hi ⟨hw.1.g.app (AllG.one (by decide)), by (try simp only [List.length_append, List.length_cons, List.length_nil]); omega⟩, nil_from hi hy.2⟩, ⟨(hsl _).trans hy2.1.1, by dsimp only; omega⟩, by dsimp only; omega, by dsimp only; omega, by dsimp only; omega⟩, (by show co0.length - ((0 + 1) + 1) < co0.length - (0 + 1); omega), ?_⟩
              repeat' (first | omega | (with_reducible show (_ : Int) < _; dsimp only; omega) | (with_reducible show (_ : Nat) ≤ _; dsimp only; omega) | ((with_reducible show SrcOk _ _ _) <;> (first | exact srcOk_1 rfl | exact srcOk_L (fun _ => ⟨rfl, rfl⟩) | exact srcOk_E (fun _ => ⟨rfl, rfl⟩))) | ((conv => whnf) <;> (first | exact (wrap_in (by decide) (by decide)) | exact arr_same rfl rfl (fun a j => low_cells rfl) | exact low_cells rfl | exact rfl | refine And.intro ?_ ?_ | (intro _h; first | contradiction | (try simp only [dd] at _h)) | (refine dt_go ?_) | exact rfl | exact True.intro | exact dkk | exact dks | (refine wrap_succ ?_; omega)))))
           | (conv => whnf
              refine roundET_turn (turn_close (id := 4) (i := (0 + 1)) (j := 4) (id' := 7) rfl (hlt _) (show 4 < 5 by decide) rfl rfl (show 4 ≠ 7 by decide) rfl ⟨Nat.le_refl _, fun i j _ _ => (cat_idf el_idf el_idf) i j⟩) ?_
              refine roundET_turn (turn_eq (id := 4) (x := ⟨5, (setC l (0 + 1) (y.c ++ l6)).length, elE Core.csO (setC l (0 + 1) (y.c ++ l6)), .arr⟩) rfl rfl ((hsl _).trans (hsl _).symm) rfl rfl (core_upd3 hi ((hw.1.eg hi).cat (EG.el hl6 hk6)))) ?_
              refine roundET_end ?_
              refine ⟨⟨(0 + 1) + 1, setC l (0 + 1) (y.c ++ l6), t7⟩, [], ⟨⟨hy.1.set hi ⟨hw.1.g.app hl6.1, by (try simp only [List.length_append, List.length_cons, List.length_nil]); omega⟩, nil_from hi hy.2⟩, ⟨(hsl _).trans hy2.1.1, by dsimp only; omega⟩, by dsimp only; omega, by dsimp only; omega, by dsimp only; omega⟩, (by show co0.length - ((0 + 1) + 1) < co0.length - (0 + 1); omega), ?_⟩
              repeat' (first | omega | (with_reducible show (_ : Int) < _; dsimp only; omega) | (with_reducible show (_ : Nat) ≤ _; dsimp only; omega) | ((with_reducible show SrcOk _ _ _) <;> (first | exact srcOk_1 rfl | exact srcOk_L (fun _ => ⟨rfl, rfl⟩) | exact srcOk_E (fun _ => ⟨rfl, rfl⟩))) | ((conv => whnf) <;> (first | exact (wrap_in (by decide) (by decide)) | exact arr_same rfl rfl (fun a j => low_cells rfl) | exact low_cells rfl | exact rfl | refine And.intro ?_ ?_ | (intro _h; first | contradiction | (try simp only [dd] at _h)) | (refine dt_go ?_) | exact rfl | exact True.intro | exact dkk | exact dks | (refine wrap_succ ?_; omega)))))
           | (conv => whnf
              refine roundET_turn (turn_close (id := 4) (i := (0 + 1)) (j := 4) (id' := 9) rfl (hlt _) (show 4 < 5 by decide) rfl rfl (show 4 ≠ 9 by decide) rfl ⟨Nat.le_refl _, fun i j _ _ => (cat_idf (cat_idf el_idf el_idf) (lit_idf (x := ⟨31, 0⟩) (by rfl))) i j⟩) ?_
              refine roundET_turn (turn_eq (id := 4) (x := ⟨5, (setC l (0 + 1) ((y.c ++ l6) ++ [⟨31, 0⟩])).length, elE Core.csO (setC l (0 + 1) ((y.c ++ l6) ++ [⟨31, 0⟩])), .arr⟩) rfl rfl ((hsl _).trans (hsl _).symm) rfl rfl (core_upd4 hi (((hw.1.eg hi).cat (EG.el hl6 hk6)).cat (EG.one ⟨31, 0⟩ (by rfl) (by decide))))) ?_
              refine roundET_end ?_
              refine ⟨⟨(0 + 1) + 1, setC l (0 + 1) ((y.c ++ l6) ++ [⟨31, 0⟩]), t7⟩, [], ⟨⟨hy.1.set hi ⟨(hw.1.g.app hl6.1).app (AllG.one (by decide)), by (try simp only [List.length_append, List.length_cons, List.length_nil]); omega⟩, nil_from hi hy.2⟩, ⟨(hsl _).trans hy2.1.1, by dsimp only; omega⟩, by dsimp only; omega, by dsimp only; omega, by dsimp only; omega⟩, (by show co0.length - ((0 + 1) + 1) < co0.length - (0 + 1); omega), ?_⟩
              repeat' (first | omega | (with_reducible show (_ : Int) < _; dsimp only; omega) | (with_reducible show (_ : Nat) ≤ _; dsimp only; omega) | ((with_reducible show SrcOk _ _ _) <;> (first | exact srcOk_1 rfl | exact srcOk_L (fun _ => ⟨rfl, rfl⟩) | exact srcOk_E (fun _ => ⟨rfl, rfl⟩))) | ((conv => whnf) <;> (first | exact (wrap_in (by decide) (by decide)) | exact arr_same rfl rfl (fun a j => low_cells rfl) | exact low_cells rfl | exact rfl | refine And.intro ?_ ?_ | (intro _h; first | contradiction | (try simp only [dd] at _h)) | (refine dt_go ?_) | exact rfl | exact True.intro | exact dkk | exact dks | (refine wrap_succ ?_; omega)))))
           | (conv => whnf
              refine roundET_end ?_
              refine ⟨⟨(0 + 1) + 1, setC l (0 + 1) y.c, t5⟩, [], ⟨⟨hy.1.set hi ⟨hw.1.g, by (try simp only [List.length_append, List.length_cons, List.length_nil]); omega⟩, nil_from hi hy.2⟩, ⟨(hsl _).trans hy2.1.1, by dsimp only; omega⟩, by dsimp only; omega, by dsimp only; omega, by dsimp only; omega⟩, (by show co0.length - ((0 + 1) + 1) < co0.length - (0 + 1); omega), ?_⟩
              repeat' (first | omega | (with_reducible show (_ : Int) < _; dsimp only; omega) | (with_reducible show (_ : Nat) ≤ _; dsimp only; omega) | ((with_reducible show SrcOk _ _ _) <;> (first | exact srcOk_1 rfl | exact srcOk_L (fun _ => ⟨rfl, rfl⟩) | exact srcOk_E (fun _ => ⟨rfl, rfl⟩))) | ((conv => whnf) <;> (first | exact (wrap_in (by decide) (by decide)) | exact arr_same rfl rfl (fun a j => low_cells rfl) | exact low_cells rfl | exact rfl | refine And.intro ?_ ?_ | (intro _h; first | contradiction | (try simp only [dd] at _h)) | (refine dt_go ?_) | exact rfl | exact True.intro | exact dkk | exact dks | (refine wrap_succ ?_; omega)))))
           | trace_state)
      | (have hi : (0 + 1 + 1) < l.length := by omega
         have hn := coi_n hy.1 hi
         have hnl := setC_nil hi (hy.2 (0 + 1 + 1) (Nat.le_refl _) hi)
         have hsl : ∀ c, (setC l (0 + 1 + 1) c).length = l.length := fun c => setC_len
         have hlt : ∀ c, (0 + 1 + 1) < (setC l (0 + 1 + 1) c).length := fun c => by rw [hsl]; exact hi
         have hI2 := hI.1.d hI.2
         have hCC : ∀ y : C4S, C4I y ∧ (0 ≤ y.k ∧ y.k ≤ v2 ∧ y.n ≤ 89 ∧ ((setC l (0 + 1 + 1) y.c).getD (0 + 1 + 1) default).code.length = y.n) ∧ (t2.at' ≤ y.t.at' ∧ y.t.at' ≤ t2.at' + 360 * (v2 - y.k) ∧ y.t.code.length = t2.code.length) → CoD (setC l (0 + 1 + 1) y.c) := fun y hq => (hy.1.set hi ⟨hq.1.g, by have := hq.1.n; have := hq.2.1.2.2.1; omega⟩).d (by rw [hsl]; omega) (by rw [hsl]; omega)
         have hcl : ∀ y : C4S, C4I y ∧ (0 ≤ y.k ∧ y.k ≤ v2 ∧ y.n ≤ 89 ∧ ((setC l (0 + 1 + 1) y.c).getD (0 + 1 + 1) default).code.length = y.n) ∧ (t2.at' ≤ y.t.at' ∧ y.t.at' ≤ t2.at' + 360 * (v2 - y.k) ∧ y.t.code.length = t2.code.length) → ((setC l (0 + 1 + 1) y.c).getD (0 + 1 + 1) default).code.length ≤ 89 := fun y hq => by rw [hq.2.1.2.2.2]; exact hq.2.1.2.2.1
         have hnc : ∀ c, co0.length = (setC l (0 + 1 + 1) c).length := fun c => hy2.1.1.symm.trans (hsl c).symm
         refine HoldG.mk ?_
         refine loopFT (fun y : C4S => [(9, .i .i64 y.k)]) (fun y => [some (.box y.t.cs), none, none, none, some (.arr ⟨5, (setC l (0 + 1 + 1) y.c).length, elE Core.csO (setC l (0 + 1 + 1) y.c), .arr⟩)]) (fun y => C4I y ∧ (0 ≤ y.k ∧ y.k ≤ v2 ∧ y.n ≤ 89 ∧ ((setC l (0 + 1 + 1) y.c).getD (0 + 1 + 1) default).code.length = y.n) ∧ (t2.at' ≤ y.t.at' ∧ y.t.at' ≤ t2.at' + 360 * (v2 - y.k) ∧ y.t.code.length = t2.code.length)) (fun y => y.k.toNat) ⟨v2, [], 0, t2⟩ ⟨⟨⟨(fun x hx => nomatch hx), rfl⟩, ⟨hv2.1, Int.le_refl _, Nat.zero_le _, by rw [setC_code hi]; rfl⟩, Int.le_refl _, (by show t2.at' ≤ t2.at' + 360 * (v2 - v2); omega), rfl⟩, ?_⟩
         repeat' (first | omega | (with_reducible show (_ : Int) < _; dsimp only; omega) | (with_reducible show (_ : Nat) ≤ _; dsimp only; omega) | ((with_reducible show SrcOk _ _ _) <;> (first | exact srcOk_1 rfl | exact srcOk_L (fun _ => ⟨rfl, rfl⟩) | exact srcOk_E (fun _ => ⟨rfl, rfl⟩))) | ((conv => whnf) <;> (first | exact arr_same hnl.symm (by rw [hnl]) (fun a j => low_cells rfl) | exact arr_same hnl (by rw [hnl]) (fun a j => low_cells rfl) | exact low_cells rfl | (refine Src.rm_i ?_ ?_ ?_) | exact hCC _ ‹C4I _ ∧ _› | exact hnc _ | exact hn | (refine dt_turn (turn_open (id := 4) (i := (0 + 1 + 1)) (j := 4) rfl (hlt _) (show 4 < 5 by decide) rfl) ?_; refine dt_goH 5 [0, 4] rfl ?_) | exact lit_cap (le89 (hcl _ ‹C4I _ ∧ _›)) (by omega) (show 16 ≤ 1000 by decide) | exact lit_len (le89 (hcl _ ‹C4I _ ∧ _›)) (by omega) | exact lit_cap (lsum (hcl _ ‹C4I _ ∧ _›) (by omega)) (by decide) (show 16 ≤ 1000 by decide) | exact lit_len (lsum (hcl _ ‹C4I _ ∧ _›) (by omega)) (by decide) | exact srcOk_1 rfl | refine And.intro ?_ ?_ | (intro _h; first | contradiction | (try simp only [dd] at _h)) | (refine dt_go ?_) | exact rfl | exact True.intro | exact dkk | exact dks | (refine .inr (.inl (.inl ⟨[0, 3, 4], _, _, _, deed2 im _ hI2 ?_ pg ?_ _ ?_ _ ?_, viewA, ⟨rfl, rfl⟩, ?_⟩)); rotate_left 4; (rintro _ _ ⟨l3, t3, k3, hl3, ht3, hk3, rfl, rfl⟩) <;> (refine ⟨rfl, _, lokA, ?_⟩)) | (refine .inr (.inl (.inl ⟨[0], _, _, _, one_ex _ ?_ 9 (by decide), viewA, ⟨rfl, rfl⟩, ?_⟩)); rotate_left 1; (rintro _ _ ⟨b5, t5, ht5, rfl, rfl⟩) <;> (refine ⟨rfl, _, lokA, ?_⟩)) | (refine .inr (.inl (.inl ⟨[0], _, _, _, one_ex _ ?_ 3 (by decide), viewA, ⟨rfl, rfl⟩, ?_⟩)); rotate_left 1; (rintro _ _ ⟨b7, t7, ht7, rfl, rfl⟩) <;> (refine ⟨rfl, _, lokA, ?_⟩)) | (refine .inr (.inl (.inl ⟨[0], _, _, _, val2_104 _ ?_ _ ?_, viewA, ⟨rfl, rfl⟩, ?_⟩)); rotate_left 2; (rintro _ _ ⟨l6, t6, k6, hl6, ht6, hk6, rfl, rfl⟩) <;> (refine ⟨rfl, _, lokA, ?_⟩)) | (refine wrap_succ ?_; omega))))
         all_goals (rename C4S => y; rename C4I y ∧ _ => hw; have hcn := hw.1.n)
         all_goals first
           | (have hb : IntKind.i64.wrap ((((setC l (0 + 1 + 1) y.c).getD (0 + 1 + 1) default).code.length : Int) + (k3 : Int)) < 90 := _h
              rw [hw.2.1.2.2.2, wrap_in (by omega) (by omega)] at hb
              conv => whnf
              refine roundET_turn (turn_close (id := 4) (i := (0 + 1 + 1)) (j := 4) (id' := 7) rfl (hlt _) (show 4 < 5 by decide) rfl rfl (show 4 ≠ 7 by decide) rfl ⟨Nat.le_refl _, fun i j _ _ => (cat_idf el_idf el_idf) i j⟩) ?_
              refine roundET_turn (turn_eq (id := 4) (x := ⟨5, (setC l (0 + 1 + 1) (y.c ++ l3)).length, elE Core.csO (setC l (0 + 1 + 1) (y.c ++ l3)), .arr⟩) rfl rfl ((hsl _).trans (hsl _).symm) rfl rfl (core_upd3 hi ((hw.1.eg hi).cat (EG.el hl3 hk3)))) ?_
              refine roundET_end ?_
              refine ⟨⟨y.k - 1, (y.c ++ l3), (y.n + k3), t3⟩, [], ⟨⟨hw.1.g.app hl3.1, by dsimp only; rw [List.length_append, ← hw.1.n, ← hk3]⟩, ⟨by dsimp only; omega, by dsimp only; omega, by dsimp only; omega, by dsimp only; rw [setC_code hi]; exact (by rw [List.length_append, ← hw.1.n, ← hk3])⟩, by dsimp only; omega, by dsimp only; omega, by dsimp only; omega⟩, (by show (y.k - 1).toNat < y.k.toNat; omega), ?_⟩
              repeat' (first | omega | (with_reducible show (_ : Int) < _; dsimp only; omega) | (with_reducible show (_ : Nat) ≤ _; dsimp only; omega) | ((with_reducible show SrcOk _ _ _) <;> (first | exact srcOk_1 rfl | exact srcOk_L (fun _ => ⟨rfl, rfl⟩) | exact srcOk_E (fun _ => ⟨rfl, rfl⟩))) | ((conv => whnf) <;> (first | exact (wrap_in (by omega) (by omega) : IntKind.i64.wrap (y.k - 1) = y.k - 1) | exact arr_same rfl rfl (fun a j => low_cells rfl) | exact low_cells rfl | exact rfl | refine And.intro ?_ ?_ | (intro _h; first | contradiction | (try simp only [dd] at _h)) | (refine dt_go ?_) | exact rfl | exact True.intro | exact dkk | exact dks | (refine wrap_succ ?_; omega)))))
           | (have hb : ¬ IntKind.i64.wrap ((((setC l (0 + 1 + 1) y.c).getD (0 + 1 + 1) default).code.length : Int) + (k3 : Int)) < 90 := _h
              conv => whnf
              refine roundET_turn (turn_close (id := 4) (i := (0 + 1 + 1)) (j := 4) (id' := 6) rfl (hlt _) (show 4 < 5 by decide) rfl rfl (show 4 ≠ 6 by decide) rfl ⟨Nat.le_refl _, fun i j _ _ => el_idf i j⟩) ?_
              refine roundET_turn (turn_eq (id := 4) (x := ⟨5, (setC l (0 + 1 + 1) y.c).length, elE Core.csO (setC l (0 + 1 + 1) y.c), .arr⟩) rfl rfl ((hsl _).trans (hsl _).symm) rfl rfl (core_upd2 hi (hw.1.eg hi))) ?_
              refine roundET_end ?_
              refine ⟨⟨y.k - 1, y.c, y.n, t3⟩, [], ⟨⟨hw.1.g, hw.1.n⟩, ⟨by dsimp only; omega, by dsimp only; omega, by dsimp only; omega, by dsimp only; rw [setC_code hi]; exact hw.1.n.symm⟩, by dsimp only; omega, by dsimp only; omega, by dsimp only; omega⟩, (by show (y.k - 1).toNat < y.k.toNat; omega), ?_⟩
              repeat' (first | omega | (with_reducible show (_ : Int) < _; dsimp only; omega) | (with_reducible show (_ : Nat) ≤ _; dsimp only; omega) | ((with_reducible show SrcOk _ _ _) <;> (first | exact srcOk_1 rfl | exact srcOk_L (fun _ => ⟨rfl, rfl⟩) | exact srcOk_E (fun _ => ⟨rfl, rfl⟩))) | ((conv => whnf) <;> (first | exact (wrap_in (by omega) (by omega) : IntKind.i64.wrap (y.k - 1) = y.k - 1) | exact arr_same rfl rfl (fun a j => low_cells rfl) | exact low_cells rfl | exact rfl | refine And.intro ?_ ?_ | (intro _h; first | contradiction | (try simp only [dd] at _h)) | (refine dt_go ?_) | exact rfl | exact True.intro | exact dkk | exact dks | (refine wrap_succ ?_; omega)))))
           | (conv => whnf
              refine roundET_turn (turn_close (id := 4) (i := (0 + 1 + 1)) (j := 4) (id' := 7) rfl (hlt _) (show 4 < 5 by decide) rfl rfl (show 4 ≠ 7 by decide) rfl ⟨Nat.le_refl _, fun i j _ _ => (cat_idf el_idf (lit_idf (x := ⟨40, 0⟩) (by rfl))) i j⟩) ?_
              refine roundET_turn (turn_eq (id := 4) (x := ⟨5, (setC l (0 + 1 + 1) (y.c ++ [⟨40, 0⟩])).length, elE Core.csO (setC l (0 + 1 + 1) (y.c ++ [⟨40, 0⟩])), .arr⟩) rfl rfl ((hsl _).trans (hsl _).symm) rfl rfl (core_upd3 hi ((hw.1.eg hi).cat (EG.one ⟨40, 0⟩ (by rfl) (by decide))))) ?_
              refine roundET_end ?_
              refine ⟨⟨(0 + 1 + 1) + 1, setC l (0 + 1 + 1) (y.c ++ [⟨40, 0⟩]), t5⟩, [], ⟨⟨hy.1.set hi ⟨hw.1.g.app (AllG.one (by decide)), by (try simp only [List.length_append, List.length_cons, List.length_nil]); omega⟩, nil_from hi hy.2⟩, ⟨(hsl _).trans hy2.1.1, by dsimp only; omega⟩, by dsimp only; omega, by dsimp only; omega, by dsimp only; omega⟩, (by show co0.length - ((0 + 1 + 1) + 1) < co0.length - (0 + 1 + 1); omega), ?_⟩
              repeat' (first | omega | (with_reducible show (_ : Int) < _; dsimp only; omega) | (with_reducible show (_ : Nat) ≤ _; dsimp only; omega) | ((with_reducible show SrcOk _ _ _) <;> (first | exact srcOk_1 rfl | exact srcOk_L (fun _ => ⟨rfl, rfl⟩) | exact srcOk_E (fun _ => ⟨rfl, rfl⟩))) | ((conv => whnf) <;> (first | exact (wrap_in (by decide) (by decide)) | exact arr_same rfl rfl (fun a j => low_cells rfl) | exact low_cells rfl | exact rfl | refine And.intro ?_ ?_ | (intro _h; first | contradiction | (try simp only [dd] at _h)) | (refine dt_go ?_) | exact rfl | exact True.intro | exact dkk | exact dks | (refine wrap_succ ?_; omega)))))
           | (conv => whnf
              refine roundET_turn (turn_close (id := 4) (i := (0 + 1 + 1)) (j := 4) (id' := 7) rfl (hlt _) (show 4 < 5 by decide) rfl rfl (show 4 ≠ 7 by decide) rfl ⟨Nat.le_refl _, fun i j _ _ => (cat_idf el_idf el_idf) i j⟩) ?_
              refine roundET_turn (turn_eq (id := 4) (x := ⟨5, (setC l (0 + 1 + 1) (y.c ++ l6)).length, elE Core.csO (setC l (0 + 1 + 1) (y.c ++ l6)), .arr⟩) rfl rfl ((hsl _).trans (hsl _).symm) rfl rfl (core_upd3 hi ((hw.1.eg hi).cat (EG.el hl6 hk6)))) ?_
              refine roundET_end ?_
              refine ⟨⟨(0 + 1 + 1) + 1, setC l (0 + 1 + 1) (y.c ++ l6), t7⟩, [], ⟨⟨hy.1.set hi ⟨hw.1.g.app hl6.1, by (try simp only [List.length_append, List.length_cons, List.length_nil]); omega⟩, nil_from hi hy.2⟩, ⟨(hsl _).trans hy2.1.1, by dsimp only; omega⟩, by dsimp only; omega, by dsimp only; omega, by dsimp only; omega⟩, (by show co0.length - ((0 + 1 + 1) + 1) < co0.length - (0 + 1 + 1); omega), ?_⟩
              repeat' (first | omega | (with_reducible show (_ : Int) < _; dsimp only; omega) | (with_reducible show (_ : Nat) ≤ _; dsimp only; omega) | ((with_reducible show SrcOk _ _ _) <;> (first | exact srcOk_1 rfl | exact srcOk_L (fun _ => ⟨rfl, rfl⟩) | exact srcOk_E (fun _ => ⟨rfl, rfl⟩))) | ((conv => whnf) <;> (first | exact (wrap_in (by decide) (by decide)) | exact arr_same rfl rfl (fun a j => low_cells rfl) | exact low_cells rfl | exact rfl | refine And.intro ?_ ?_ | (intro _h; first | contradiction | (try simp only [dd] at _h)) | (refine dt_go ?_) | exact rfl | exact True.intro | exact dkk | exact dks | (refine wrap_succ ?_; omega)))))
           | (conv => whnf
              refine roundET_turn (turn_close (id := 4) (i := (0 + 1 + 1)) (j := 4) (id' := 9) rfl (hlt _) (show 4 < 5 by decide) rfl rfl (show 4 ≠ 9 by decide) rfl ⟨Nat.le_refl _, fun i j _ _ => (cat_idf (cat_idf el_idf el_idf) (lit_idf (x := ⟨31, 0⟩) (by rfl))) i j⟩) ?_
              refine roundET_turn (turn_eq (id := 4) (x := ⟨5, (setC l (0 + 1 + 1) ((y.c ++ l6) ++ [⟨31, 0⟩])).length, elE Core.csO (setC l (0 + 1 + 1) ((y.c ++ l6) ++ [⟨31, 0⟩])), .arr⟩) rfl rfl ((hsl _).trans (hsl _).symm) rfl rfl (core_upd4 hi (((hw.1.eg hi).cat (EG.el hl6 hk6)).cat (EG.one ⟨31, 0⟩ (by rfl) (by decide))))) ?_
              refine roundET_end ?_
              refine ⟨⟨(0 + 1 + 1) + 1, setC l (0 + 1 + 1) ((y.c ++ l6) ++ [⟨31, 0⟩]), t7⟩, [], ⟨⟨hy.1.set hi ⟨(hw.1.g.app hl6.1).app (AllG.one (by decide)), by (try simp only [List.length_append, List.length_cons, List.length_nil]); omega⟩, nil_from hi hy.2⟩, ⟨(hsl _).trans hy2.1.1, by dsimp only; omega⟩, by dsimp only; omega, by dsimp only; omega, by dsimp only; omega⟩, (by show co0.length - ((0 + 1 + 1) + 1) < co0.length - (0 + 1 + 1); omega), ?_⟩
              repeat' (first | omega | (with_reducible show (_ : Int) < _; dsimp only; omega) | (with_reducible show (_ : Nat) ≤ _; dsimp only; omega) | ((with_reducible show SrcOk _ _ _) <;> (first | exact srcOk_1 rfl | exact srcOk_L (fun _ => ⟨rfl, rfl⟩) | exact srcOk_E (fun _ => ⟨rfl, rfl⟩))) | ((conv => whnf) <;> (first | exact (wrap_in (by decide) (by decide)) | exact arr_same rfl rfl (fun a j => low_cells rfl) | exact low_cells rfl | exact rfl | refine And.intro ?_ ?_ | (intro _h; first | contradiction | (try simp only [dd] at _h)) | (refine dt_go ?_) | exact rfl | exact True.intro | exact dkk | exact dks | (refine wrap_succ ?_; omega)))))
           | (conv => whnf
              refine roundET_end ?_
              refine ⟨⟨(0 + 1 + 1) + 1, setC l (0 + 1 + 1) y.c, t5⟩, [], ⟨⟨hy.1.set hi ⟨hw.1.g, by (try simp only [List.length_append, List.length_cons, List.length_nil]); omega⟩, nil_from hi hy.2⟩, ⟨(hsl _).trans hy2.1.1, by dsimp only; omega⟩, by dsimp only; omega, by dsimp only; omega, by dsimp only; omega⟩, (by show co0.length - ((0 + 1 + 1) + 1) < co0.length - (0 + 1 + 1); omega), ?_⟩
              repeat' (first | omega | (with_reducible show (_ : Int) < _; dsimp only; omega) | (with_reducible show (_ : Nat) ≤ _; dsimp only; omega) | ((with_reducible show SrcOk _ _ _) <;> (first | exact srcOk_1 rfl | exact srcOk_L (fun _ => ⟨rfl, rfl⟩) | exact srcOk_E (fun _ => ⟨rfl, rfl⟩))) | ((conv => whnf) <;> (first | exact (wrap_in (by decide) (by decide)) | exact arr_same rfl rfl (fun a j => low_cells rfl) | exact low_cells rfl | exact rfl | refine And.intro ?_ ?_ | (intro _h; first | contradiction | (try simp only [dd] at _h)) | (refine dt_go ?_) | exact rfl | exact True.intro | exact dkk | exact dks | (refine wrap_succ ?_; omega)))))
           | trace_state)
      | (conv => whnf
         refine cut_go (l, ta) ?_ (by repeat' (first | exact trivial | refine And.intro rfl ?_)) (by repeat' (first | exact trivial | refine And.intro (.inl rfl) ?_ | refine And.intro (.inr rfl) ?_ | refine And.intro rfl ?_))
         exact ⟨⟨hy.1, hy2.1.1⟩, by dsimp only; omega, by dsimp only; omega, by dsimp only; omega⟩)
      | trace_state
  obtain ⟨co, t1⟩ := y
  obtain ⟨⟨hC2, hlen⟩, ht1⟩ := hy
  dsimp only at hC2 hlen ht1
  dsimp only
  refine wpc_ok _ _ _ _ ?_
  repeat' (first | omega | (with_reducible show (_ : Int) < _; dsimp only; omega) | (with_reducible show (_ : Nat) ≤ _; dsimp only; omega) | ((with_reducible show SrcOk _ _ _) <;> (first | exact srcOk_1 rfl | exact srcOk_L (fun _ => ⟨rfl, rfl⟩) | exact srcOk_E (fun _ => ⟨rfl, rfl⟩))) | ((conv => whnf) <;> (first | refine And.intro ?_ ?_ | (intro _h; first | contradiction | (try simp only [dd] at _h)) | (refine dt_go ?_) | exact rfl | exact True.intro | exact dkk | exact dks | (refine wrap_succ ?_; omega))))
  conv => whnf
  exact endM_pick [0, 3, 4] [some (boxRow t1.cs), some (rowL 3 Import.cs im), some (rowL 5 Core.csO co)] (.agg [.i .i64 pg, .row 1 im.length, .row 2 co0.length]) (view_of rfl (.cons rfl (.self (rowPl_box rfl)) (.cons rfl (.self (rowPl_L fun _ => rfl)) (.cons rfl (.self (rowPl_L fun _ => rfl)) .nil)))) rfl rfl (by rw [hX]; exact keepK (n := 1) rfl rfl) ⟨pg, im, co, t1, co0.length, hpg, hI, ⟨hC2, by omega, by omega⟩, ⟨by omega, by omega, by omega⟩, hlen.symm, rfl, rfl⟩
end
end Go.Proofs.Ytdeledeopippfaa
