/- Texts for VHandlesOneP. -/
import Derived.Test.YtmglpojnoadgeaaGreatVo13
import Derived.Test.YtmglpojnoadgeaaGreatVo14
namespace Go.Proofs.YtmglpojnoadgeaaGreat
open Go Go.RowKit
set_option linter.unusedVariables false
set_option linter.unusedSimpArgs false
theorem leaf_b {a b : Bool} (h : a = b) : AV.b a = AV.b b := by rw [h]
noncomputable def pb (p : Prop) : Bool := @decide p (Classical.propDecidable p)
theorem pb_t {p : Prop} : (pb p = true) = p := by
 unfold pb
 exact propext (@decide_eq_true_iff p (Classical.propDecidable p))
theorem pb_f {p : Prop} : (pb p = false) = ¬ p := by
 unfold pb
 exact propext (@decide_eq_false_iff_not p (Classical.propDecidable p))
theorem leaf_t {p : Prop} (h : p) : AV.b true = AV.b (pb p) := by rw [pb_t.mpr h]
theorem leaf_f {p : Prop} (h : ¬ p) : AV.b false = AV.b (pb p) := by rw [pb_f.mpr h]
theorem leaf_p {b : Bool} {p : Prop} (h : b = true ↔ p) : AV.b b = AV.b (pb p) := by
 cases b with
 | true => exact leaf_t (h.1 rfl)
 | false => exact leaf_f fun hp => by have := h.2 hp; cases this
theorem leaf_i {k : IntKind} {a b : Int} (h : a = b) : AV.i k a = AV.i k b := by rw [h]
theorem wrap_succ {k : Nat} (h : k < 9223372036854775807) : IntKind.i64.wrap ((k : Int) + 1) = ((k + 1 : Nat) : Int) := by
 rw [IntKind.wrap_i64]; omega
theorem wrap_in {n : Int} (h1 : -9223372036854775808 ≤ n) (h2 : n ≤ 9223372036854775807) : IntKind.i64.wrap n = n := by
 rw [IntKind.wrap_i64]; omega
theorem low_cells {r : List Nat} {n j : Nat} {cs : List AV} (h : cs.all (low1 0) = true) : fx r n (cs.getD j .any) = true := by
 by_cases hj : j < cs.length
 ·have : cs.getD j .any = cs[j] := by rw [List.getD_eq_getElem?_getD, List.getElem?_eq_getElem hj]; rfl
  rw [this]
  exact fx_low (List.all_eq_true.1 h _ (List.getElem_mem hj))
 ·have : cs.getD j .any = .any := by rw [List.getD_eq_getElem?_getD, List.getElem?_eq_none (by omega)]; rfl
  rw [this]; rfl
def elE {α : Type} [Inhabited α] (cells : α → List AV) (l : List α) : Nat → Nat → AV := fun i j => (cells (l.getD i default)).getD j .any
def AV.wf : AV → Prop
 | .i k n => (Lit.int k n).wf = true
 | .s x => x.size ≤ maxLen
 | .sl sz n g => n ≤ maxLen ∧ ∀ i j, i < n → j < sz → (g i j).wf
 | .rf m g => ∀ j, j < m → (g j).wf
 | _ => True
theorem Conc.wf {w : World} {S : Nat → Prop} {blk : Nat → BC} {H : Hp} {x : AV} {u : Value} (h : Conc w S blk H x u) : x.wf := by
 induction h with
 | i h => exact h
 | s h => exact h
 | sl0 a cap hm => exact ⟨Nat.zero_le _, fun i j hi => by omega⟩
 | sl b o cap U hb hn hm hc hf hu ih => exact ⟨Nat.le_trans hn hm, ih⟩
 | rf b o U hb hc hf hu ih => exact ih
 | _ => trivial
def AV.wfs : AV → Prop
 | .agg cs => ∀ c ∈ cs, c.wf
 | x => x.wf
theorem Conc.wfs {w : World} {S : Nat → Prop} {blk : Nat → BC} {H : Hp} {x : AV} {u : Value} (h : Conc w S blk H x u) : x.wfs := by
 cases x with
 | agg cs =>
  obtain ⟨us, rfl, hl, hu⟩ := inv_agg h
  intro c hc
  obtain ⟨j, hj⟩ := List.getElem?_of_mem hc
  have hlt : j < us.length := by rw [hl]; exact (List.getElem?_eq_some_iff.1 hj).1
  exact (hu j c _ hj (List.getElem?_eq_getElem hlt)).wf
 | _ => exact h.wf
theorem Ret.args {P : Program} {g : FuncId} {av : List AV} {post : AV → Prop} (h : (∀ a ∈ av, a.wfs) → Ret P g av post) : Ret P g av post :=
 Ret.know (p := ∀ a ∈ av, a.wfs) (fun w S us hc a ha => by
  obtain ⟨j, hj⟩ := List.getElem?_of_mem ha
  have hlt : j < us.length := by rw [hc.1]; exact (List.getElem?_eq_some_iff.1 hj).1
  exact (hc.2 j a _ hj (List.getElem?_eq_getElem hlt)).wfs) h
structure Wk (x y : AV) : Prop where
 idf : x.idf → y.idf
 c : ∀ (w : World) (S : Nat → Prop) (u : Value), Conc w S (fun _ => ⟨0, 0⟩) [] x u → Conc w S (fun _ => ⟨0, 0⟩) [] y u
theorem Wk.refl (x : AV) : Wk x x := ⟨id, fun _ _ _ h => h⟩
theorem Wk.of {x y : AV} (h : x = y) : Wk x y := h ▸ Wk.refl x
theorem Wk.sl {sz n : Nat} {g g' : Nat → Nat → AV} (h : ∀ i j, i < n → j < sz → Wk (g i j) (g' i j)) : Wk (.sl sz n g) (.sl sz n g') := by
 refine ⟨fun hi i j hi' hj => (h i j hi' hj).idf (hi i j hi' hj), fun w S u hc => ?_⟩
 cases hc with
 | sl0 a cap hm => exact .sl0 a cap hm
 | sl b o cap U hb hn hm hc hf hu => exact .sl b o cap U hb hn hm hc (fun i j hi hj => (h i j hi hj).idf (hf i j hi hj)) (fun i j hi hj => (h i j hi hj).c w S _ (hu i j hi hj))
theorem Wk.rf {m : Nat} {g g' : Nat → AV} (h : ∀ j, j < m → Wk (g j) (g' j)) : Wk (.rf m g) (.rf m g') := by
 refine ⟨fun hi j hj => (h j hj).idf (hi j hj), fun w S u hc => ?_⟩
 obtain ⟨b, o, U, rfl, hS, hcc, hu, hf⟩ := inv_rf hc
 exact .rf b o U hS hcc (fun j hj => (h j hj).idf (hf j hj)) fun j hj => (h j hj).c w S _ (hu j hj)
def rfL (cs : List AV) : AV := .rf cs.length fun j => cs.getD j .any
theorem Wk.rfc {m : Nat} {g : Nat → AV} {cs : List AV} (h : cellsAt g 0 m = cs) : Wk (.rf m g) (rfL cs) := by
 have hl : cs.length = m := by rw [← h, cellsAt_length]
 unfold rfL
 rw [hl]
 refine Wk.rf fun j hj => Wk.of ?_
 obtain ⟨_, e⟩ := cellsAt_get g m 0 j (cs.getD j .any) (by rw [h, List.getElem?_eq_getElem (by omega), List.getD_eq_getElem?_getD, List.getElem?_eq_getElem (by omega)]; rfl)
 rw [e, Nat.zero_add]
def WkL (xs ys : List AV) : Prop := xs.length = ys.length ∧ ∀ (j : Nat) (x y : AV), xs[j]? = some x → ys[j]? = some y → Wk x y
theorem WkL.nil : WkL [] [] := ⟨rfl, fun j x y h => by simp at h⟩
theorem WkL.cons {x y : AV} {xs ys : List AV} (h : Wk x y) (r : WkL xs ys) : WkL (x :: xs) (y :: ys) :=
 ⟨by simp [r.1], fun j a b ha hb => by
  cases j with
  | zero => cases ha; cases hb; exact h
  | succ j => exact r.2 j a b (by simpa using ha) (by simpa using hb)⟩
theorem WkL.append {xs ys xs' ys' : List AV} (h : WkL xs ys) (r : WkL xs' ys') : WkL (xs ++ xs') (ys ++ ys') := by
 refine ⟨by simp [h.1, r.1], fun j a b ha hb => ?_⟩
 rcases Nat.lt_or_ge j xs.length with hlt | hge
 ·rw [List.getElem?_append_left hlt] at ha
  rw [List.getElem?_append_left (by rw [← h.1]; exact hlt)] at hb
  exact h.2 j a b ha hb
 ·rw [List.getElem?_append_right hge] at ha
  rw [List.getElem?_append_right (by rw [← h.1]; exact hge), ← h.1] at hb
  exact r.2 _ a b ha hb
theorem Wk.agg {xs ys : List AV} (h : WkL xs ys) : Wk (.agg xs) (.agg ys) := by
 refine ⟨fun hi => hi.elim, fun w S u hc => ?_⟩
 obtain ⟨us, rfl, hl, hu⟩ := inv_agg hc
 refine .agg ys us (hl.trans h.1) fun j c u hj hju => ?_
 have hlt : j < xs.length := by rw [h.1]; exact (List.getElem?_eq_some_iff.1 hj).1
 exact (h.2 j _ c (List.getElem?_eq_getElem hlt) hj).c w S u (hu j _ u (List.getElem?_eq_getElem hlt) hju)
theorem Wk.fn {g : FuncId} {xs ys : List AV} (h : WkL xs ys) : Wk (.fn g xs) (.fn g ys) := by
 refine ⟨fun hi => ?_, fun w S u hc => ?_⟩
 ·have hx : xs = [] := hi
  subst hx
  show ys = []
  exact List.eq_nil_of_length_eq_zero h.1.symm
 ·obtain ⟨us, rfl, hl, hu⟩ := inv_fn hc
  refine .fn g ys us (hl.trans h.1) fun j c u hj hju => ?_
  have hlt : j < xs.length := by rw [h.1]; exact (List.getElem?_eq_some_iff.1 hj).1
  exact (h.2 j _ c (List.getElem?_eq_getElem hlt) hj).c w S u (hu j _ u (List.getElem?_eq_getElem hlt) hju)
theorem Ret.wk {P : Program} {g : FuncId} {av bs : List AV} {post : AV → Prop} (h : WkL av bs) (r : Ret P g bs post) : Ret P g av post := .mk fun w S us hS hc =>
 r.h w S us hS ⟨hc.1.trans h.1, fun j c u hj hu => by
  have hlt : j < av.length := by rw [h.1]; exact (List.getElem?_eq_some_iff.1 hj).1
  exact (h.2 j _ c (List.getElem?_eq_getElem hlt) hj).c w S u (hc.2 j _ u (List.getElem?_eq_getElem hlt) hu)⟩
theorem Ret.to {P : Program} {g : FuncId} {av : List AV} {r0 : AV} (h : Ret P g av fun r => Wk r r0) : Ret P g av fun r => r = r0 := .mk fun w S us hS hc =>
 (h.h w S us hS hc).mono fun e w' ⟨r, u, he, hq, hr, hb⟩ => ⟨r0, u, he, rfl, hq.c w' _ u hr, hb⟩
def slL {α : Type} [Inhabited α] (sz : Nat) (cells : α → List AV) (l : List α) : AV := .sl sz l.length fun i j => (cells (l.getD i default)).getD j .any
def stay : AV → Bool
 | .any | .i .. | .b _ | .s _ | .nils | .nilp | .sl .. | .rf .. => true
 | _ => false
theorem stay_eq {k : Nat} {H : Hp} {v : AV} (h : stay v = true) : shrC k H v = v := by
 cases k <;> cases v <;> first | rfl | cases h
theorem leaf_ne {α : Type} [DecidableEq α] {l m : α} (h : ¬ l = m) : AV.b false = AV.b (decide (l = m)) := by rw [decide_eq_false h]
theorem leaf_eq {α : Type} [DecidableEq α] {l m : α} (h : l = m) : AV.b true = AV.b (decide (l = m)) := by rw [decide_eq_true h]
theorem upto_succ {p : Nat → Prop} {k : Nat} (h : ∀ j, j < k → p j) (hk : p k) : ∀ j, j < k + 1 → p j := fun j hj => by
 rcases Nat.lt_or_eq_of_le (Nat.le_of_lt_succ hj) with h1 | rfl
 ·exact h j h1
 ·exact hk
def szN (n : Nat) (left : Int) : Int := if left < n then -1 else left - n
theorem list_eq {α : Type} [Inhabited α] {l m : List α} (hl : l.length = m.length) (h : ∀ j, j < l.length → l.getD j default = m.getD j default) : l = m := by
 refine List.ext_getElem hl fun i h1 h2 => ?_
 have := h i h1
 rwa [List.getD_eq_getElem?_getD, List.getElem?_eq_getElem h1, List.getD_eq_getElem?_getD, List.getElem?_eq_getElem h2] at this
def Rd (P : Program) (t : TypeId) (α : Type) (cells : α → List AV) : Prop := ∀ cs, TyC P t cs → ∃ a, WkL cs (cells a)
theorem rd_sl {P : Program} {t e : TypeId} {α : Type} [Inhabited α] {cells : α → List AV} {sz : Nat} (hu : P.underlying t = some (.slice e)) (hsz : P.cellsOf e = sz) (h : Rd P e α cells) : Rd P t (List α) fun l => [slL sz cells l] := fun cs hc => by
 obtain ⟨n, g, rfl, hm, he⟩ := hc.sl_inv hu
 subst hsz
 have hall : ∀ i, i < n → ∃ a, WkL (cellsAt (g i) 0 (P.cellsOf e)) (cells a) := fun i hi => h _ (he i hi)
 let l : List α := (List.range n).map fun i => if h : i < n then Classical.choose (hall i h) else default
 have hl : l.length = n := by simp [l]
 have hget : ∀ i (hi : i < n), l.getD i default = Classical.choose (hall i hi) := fun i hi => by simp [l, hi]
 refine ⟨l, .cons ?_ .nil⟩
 unfold slL
 rw [hl]
 refine .sl fun i j hi hj => ?_
 have hw := Classical.choose_spec (hall i hi)
 rw [← hget i hi] at hw
 have h1 : j < (cellsAt (g i) 0 (P.cellsOf e)).length := by rw [cellsAt_length]; exact hj
 have h2 : j < (cells (l.getD i default)).length := by rw [← hw.1]; exact h1
 have h3 := hw.2 j _ _ (List.getElem?_eq_getElem h1) (List.getElem?_eq_getElem h2)
 obtain ⟨_, e1⟩ := cellsAt_get (g i) (P.cellsOf e) 0 j _ (List.getElem?_eq_getElem h1)
 rw [e1, Nat.zero_add] at h3
 have e2 : (cells (l.getD i default)).getD j .any = (cells (l.getD i default))[j] := by rw [List.getD_eq_getElem?_getD, List.getElem?_eq_getElem h2]; rfl
 rw [e2]
 exact h3
theorem arg_one {P : Program} {t : TypeId} {α : Type} {c : α → AV} {cs : List AV} (h : Rd P t α fun a => [c a]) (ha : aggT P t = false) (hc : TyC P t cs) : ∃ a, Wk (mkArg P t cs) (c a) := by
 obtain ⟨a, h1⟩ := h cs hc
 refine ⟨a, ?_⟩
 unfold mkArg
 rw [ha, cond_false]
 obtain ⟨x, rfl⟩ := List.length_eq_one_iff.1 (show cs.length = 1 from h1.1)
 exact h1.2 0 x _ rfl rfl
def idxI (o : Option Nat) : Int := match o with | some k => k | none => -1
theorem idx_some {α : Type} [Inhabited α] {p : α → Bool} {l : List α} {k : Nat} (hk : k < l.length) (hp : p (l.getD k default) = true) (h : ∀ j, j < k → p (l.getD j default) = false) : (k : Int) = idxI (l.findIdx? p) := by
 have : l.findIdx? p = some k := by
  rw [List.findIdx?_eq_some_iff_getElem]
  refine ⟨hk, ?_, fun j hj => ?_⟩
  ·rw [List.getD_eq_getElem?_getD, List.getElem?_eq_getElem hk] at hp
   exact hp
  ·have := h j hj
   rw [List.getD_eq_getElem?_getD, List.getElem?_eq_getElem (by omega)] at this
   simpa using this
 rw [this]; rfl
theorem idx_none {α : Type} [Inhabited α] {p : α → Bool} {l : List α} (h : ∀ j, j < l.length → p (l.getD j default) = false) : (-1 : Int) = idxI (l.findIdx? p) := by
 have : l.findIdx? p = none := by
  rw [List.findIdx?_eq_none_iff]
  intro x hx
  obtain ⟨j, hj⟩ := List.getElem?_of_mem hx
  have hlt := (List.getElem?_eq_some_iff.1 hj).1
  have := h j hlt
  rw [List.getD_eq_getElem?_getD, hj] at this
  exact this
 rw [this]; rfl
theorem idx_any {α : Type} (l : List α) (p : α → Bool) : decide (0 ≤ idxI (l.findIdx? p)) = l.any p := by
 rw [Bool.eq_iff_iff, decide_eq_true_eq]
 cases h : l.findIdx? p with
 | none =>
  rw [List.findIdx?_eq_none_iff] at h
  simp only [idxI, List.any_eq_true]
  exact ⟨fun q => absurd q (by decide), fun ⟨x, hx, hp⟩ => by rw [h x hx] at hp; cases hp⟩
 | some k =>
  rw [List.findIdx?_eq_some_iff_getElem] at h
  obtain ⟨hk, hp, _⟩ := h
  simp only [idxI, List.any_eq_true]
  exact ⟨fun _ => ⟨_, List.getElem_mem hk, hp⟩, fun _ => by omega⟩
theorem loopAt {E : Env} {nt : Nat} {X : Ctx} {f : Fr} {H : Hp} {c : Code} {Q : Exit → Fr → Hp → Prop} (t n : Nat) (vs : Nat → Fr) (hp : Nat → List (Option RowI)) (I : Nat → Prop) (ht : inL (asg c) t = true)
  (h : I 0 ∧ agK (mkH H (hp 0)) H [] f (vs 0) ∧ hpP (mkH H (hp 0)) H [] 0 (hp 0) H ∧
   delK H.length (asg c) f fun f0 => ∀ k, k ≤ n → I k → wpc E nt X c (vs k ++ f0) (mkH H (hp k)) (thn (RoundN f0 H vs hp I n k) Q)) :
  LW E.P nt X (.loop c) f H Q := loopN n vs hp I h
theorem srcOk_1 {sz : Nat} {g : Nat → Nat → AV} (h : (cellsAt (g 0) 0 sz).all cp1 = true) : SrcOk 1 sz g := ⟨fun i j hi hj => by
 obtain rfl : i = 0 := by omega
 have hl : j < (cellsAt (g 0) 0 sz).length := by rw [cellsAt_length]; exact hj
 have := List.all_eq_true.1 h _ (List.getElem_mem hl)
 have e := (cellsAt_get (g 0) sz 0 j _ (List.getElem?_eq_getElem hl)).2
 rw [e, Nat.zero_add] at this
 exact this⟩
theorem srcOk_L {α : Type} [Inhabited α] {m sz : Nat} {c : α → List AV} {l : List α} (h : ∀ a, (c a).all cp1 = true ∧ (c a).length = sz) : SrcOk m sz (fun i j => (c (l.getD i default)).getD j .any) := ⟨fun i j hi hj => by
 have hj' : j < (c (l.getD i default)).length := by rw [(h _).2]; exact hj
 rw [List.getD_eq_getElem?_getD, List.getElem?_eq_getElem hj']
 exact List.all_eq_true.1 (h _).1 _ (List.getElem_mem hj')⟩
theorem srcOk_E {α : Type} [Inhabited α] {m sz : Nat} {c : α → List AV} {l : List α} (h : ∀ a, (c a).all cp1 = true ∧ (c a).length = sz) : SrcOk m sz (elE c l) := srcOk_L h
theorem aa {p : Prop} (h : p := by first | omega | (with_reducible show (_ : Int) < _; dsimp only; omega) | (with_reducible show (_ : Nat) ≤ _; dsimp only; omega) | exact srcOk_1 rfl | exact srcOk_L (fun _ => ⟨rfl, rfl⟩) | exact srcOk_E (fun _ => ⟨rfl, rfl⟩)) : p := h
theorem dd : (∀ (p : Prop) [Decidable p], decide p = true ↔ p) ∧ (∀ b : Bool, (!b) = true ↔ b = false) ∧ (∀ b : Bool, (!b) = false ↔ b = true) ∧ (∀ (p : Prop) [Decidable p], decide p = false ↔ ¬ p) ∧ (∀ b : Bool, (¬ b = true) ↔ b = false) ∧ (∀ (p : Prop) [Decidable p], ¬¬p ↔ p) ∧ (true = false ↔ False) ∧ (false = true ↔ False) ∧ (∀ p : Prop, pb p = true ↔ p) ∧ (∀ p : Prop, pb p = false ↔ ¬ p) :=
 ⟨fun _ _ => by simp, fun _ => by simp, fun _ => by simp, fun _ _ => by simp, fun _ => by simp, fun _ _ => by simp, by simp, by simp, fun _ => iff_of_eq pb_t, fun _ => iff_of_eq pb_f⟩
theorem dkk {ops : Array Oper} (h : drawOk ops = true := by kernel_rfl) : drawOk ops = true := h
theorem dks {ops : Array Oper} (h : drawOkS ops = true := by kernel_rfl) : drawOkS ops = true := h
theorem Ret.wke {P : Program} {g : FuncId} {av bs : List AV} {post : AV → Prop} (r : Ret P g bs post) (h : WkL av bs := by ((repeat (first | exact WkL.nil | refine WkL.cons ?_ ?_ | exact Wk.refl _ | exact Wk.rfc rfl | refine Wk.fn ?_ | refine Wk.agg ?_)); first | done | fail)) : Ret P g av post := Ret.wk h r
def intC (n : Int) : List AV := [.i .i64 n]
def okL {α : Type} [Inhabited α] (p : α → Prop) (l : List α) : Prop := l.length ≤ 1048576 ∧ ∀ k, k < l.length → p (l.getD k default)
def szFl {α : Type} (l : List α) (left : Int) : Int := szN l.length left
def szF {α : Type} (g : α → Int → Int) : List α → Int → Int
 | [], v => v
 | x :: r, v => if g x v < 0 then -1 else szF g r (g x v)
def szLs {α : Type} (g : α → Int → Int) (l : List α) (left : Int) : Int := if left - l.length < 0 then -1 else szF g l (left - l.length)
def szAt {α : Type} [Inhabited α] (g : α → Int → Int) (l : List α) (v0 : Int) : Nat → Int
 | 0 => v0
 | k + 1 => g (l.getD k default) (szAt g l v0 k)
theorem szF_cons {α : Type} {g : α → Int → Int} {x : α} {r : List α} {v : Int} : szF g (x :: r) v = if g x v < 0 then -1 else szF g r (g x v) := rfl
structure SzI {α : Type} [Inhabited α] (g : α → Int → Int) (l : List α) (v0 : Int) (k : Nat) : Prop where
 eq : szF g (l.drop k) (szAt g l v0 k) = szF g l v0
 lo : 0 ≤ szAt g l v0 k
 hi : szAt g l v0 k ≤ 1048576
theorem SzI.start {α : Type} [Inhabited α] {g : α → Int → Int} {l : List α} {v0 : Int} (h0 : 0 ≤ v0) (h1 : v0 ≤ 1048576) : SzI g l v0 0 := ⟨rfl, h0, h1⟩
theorem drop_get {α : Type} [Inhabited α] {l : List α} {k : Nat} (hk : k < l.length) : l.drop k = l.getD k default :: l.drop (k + 1) := by
 rw [List.drop_eq_getElem_cons hk, List.getD_eq_getElem?_getD, List.getElem?_eq_getElem hk]; rfl
theorem SzI.step {α : Type} [Inhabited α] {g : α → Int → Int} {l : List α} {v0 : Int} {k : Nat} (hg : ∀ a v, v ≤ 1048576 → g a v ≤ 1048576) (s : SzI g l v0 k) (hk : (k : Int) < (l.length : Int))
  (hn : ¬ g (l.getD k default) (szAt g l v0 k) < 0) : SzI g l v0 (k + 1) := by
 have e := s.eq
 rw [drop_get (by omega)] at e
 rw [szF_cons, if_neg hn] at e
 refine ⟨e, ?_, ?_⟩
 ·show 0 ≤ g (l.getD k default) (szAt g l v0 k); omega
 ·exact hg _ _ s.hi
theorem SzI.neg {α : Type} [Inhabited α] {g : α → Int → Int} {l : List α} {left : Int} {k : Nat} (s : SzI g l (left - l.length) k) (hk : (k : Int) < (l.length : Int))
  (hn : g (l.getD k default) (szAt g l (left - l.length) k) < 0) (h0 : ¬ left - l.length < 0) : (-1 : Int) = szLs g l left := by
 have e := s.eq
 rw [drop_get (by omega)] at e
 rw [szF_cons, if_pos hn] at e
 unfold szLs
 rw [if_neg h0]
 exact e
theorem SzI.fin {α : Type} [Inhabited α] {g : α → Int → Int} {l : List α} {left : Int} {k : Nat} (s : SzI g l (left - l.length) k) (hk : ¬ (k : Int) < (l.length : Int)) (h0 : ¬ left - l.length < 0) : szAt g l (left - l.length) k = szLs g l left := by
 have e := s.eq
 rw [List.drop_eq_nil_of_le (by omega)] at e
 unfold szLs
 rw [if_neg h0]
 exact e
section
def owL {α : Type} [Inhabited α] (sz : Nat) (c : α → List AV) (l : List α) : AV := .ow sz l.length (elE c l)
def rowL {α : Type} [Inhabited α] (sz : Nat) (c : α → List AV) (l : List α) : Row := ⟨sz, l.length, elE c l, .arr⟩
class Shr (d : outParam Nat) {α : Type} (cO : α → List AV) (c : outParam (α → List AV)) : Prop where
 h : ∀ (H : Hp) (k : Nat) (a : α), WkL ((cO a).map (shrC (k + d) H)) (c a)
theorem pl1_getD {cs : List AV} (h : cs.all pl1 = true) (j : Nat) : pl1 (cs.getD j .any) = true := by
 rw [List.getD_eq_getElem?_getD]
 cases hj : cs[j]? with
 | none => rfl
 | some c => exact List.all_eq_true.1 h c (List.mem_of_getElem? hj)
theorem rowPl_L {α : Type} [Inhabited α] {sz : Nat} {c : α → List AV} {l : List α} (h : ∀ a, (c a).all pl1 = true) : RowPl (rowL sz c l) := ⟨fun i j _ _ => pl1_getD (h _) j⟩
def idfB : AV → Bool
 | .any | .i .. | .b _ | .kb _ | .s _ | .nils | .nilp | .st _ => true
 | _ => false
theorem idfB_ok {x : AV} (h : idfB x = true) : x.idfO := by cases x <;> first | exact trivial | cases h
class HoldC {α : Type} (c : α → List AV) : Prop where
 h : ∀ a j, ((c a).getD j .any).idfO
theorem holdC_plain {α : Type} {c : α → List AV} (h : ∀ a, (c a).all idfB = true) : HoldC c := ⟨fun a j => by
 rw [List.getD_eq_getElem?_getD]
 cases hj : (c a)[j]? with
 | none => exact trivial
 | some x => exact idfB_ok (List.all_eq_true.1 (h a) x (List.mem_of_getElem? hj))⟩
theorem owL_idf {α : Type} [Inhabited α] {sz : Nat} {c : α → List AV} {l : List α} [h : HoldC c] : (owL sz c l).idfO := fun i j _ _ => h.h _ j
theorem idf_cons {x : AV} {cs : List AV} (hx : x.idfO) (h : ∀ j, (cs.getD j .any).idfO) : ∀ j, ((x :: cs).getD j .any).idfO
 | 0 => hx
 | j + 1 => by simpa using h j
theorem idf_nil : ∀ j, (([] : List AV).getD j .any).idfO := fun j => trivial
theorem rowO_le {α : Type} [Inhabited α] {sz n : Nat} {c : α → List AV} {l : List α} [h : HoldC c] (hn : n ≤ l.length) : RowO n (rowL sz c l) := ⟨hn, fun i j _ _ => h.h _ j⟩
class FreeC {α : Type} (c : α → List AV) : Prop where
 h : ∀ a j, noS ((c a).getD j .any)
theorem freeC_plain {α : Type} {c : α → List AV} (h : ∀ a, (c a).all noS1 = true) : FreeC c := ⟨fun a j => by
 rw [List.getD_eq_getElem?_getD]
 cases hj : (c a)[j]? with
 | none => exact trivial
 | some x => exact noS1_ok (List.all_eq_true.1 (h a) x (List.mem_of_getElem? hj))⟩
theorem owL_free {α : Type} [Inhabited α] {sz : Nat} {c : α → List AV} {l : List α} [h : FreeC c] : noS (owL sz c l) := fun i j _ _ => h.h _ j
theorem free_cons {x : AV} {cs : List AV} (hx : noS x) (h : ∀ j, noS (cs.getD j .any)) : ∀ j, noS ((x :: cs).getD j .any)
 | 0 => hx
 | j + 1 => by simpa using h j
theorem free_nil : ∀ j, noS (([] : List AV).getD j .any) := fun j => trivial
theorem rowNs_L {α : Type} [Inhabited α] {sz : Nat} {c : α → List AV} {l : List α} [h : FreeC c] : RowNs (rowL sz c l) := ⟨fun i j _ _ => h.h _ j⟩
theorem Conc.nil {w : World} {S : Nat → Prop} {blk blk' : Nat → BC} {x : AV} {u : Value} (h : Conc w S blk [] x u) : Conc w S blk' [] x u := h.mono (fun b hb => ⟨hb, rfl⟩) fun id x hx => by simp at hx
theorem RetM.wk {P : Program} {g : FuncId} {av bs : List AV} {post : AV → Hp → Prop} (h : WkL av bs) (r : RetM P g [] bs post) : RetM P g [] av post := .mk fun w S blk FP us hR hc => by
 refine r.h w S blk FP us hR ⟨by rw [hc.1, h.1], fun j c u hj hu => ?_⟩
 have hjl : j < av.length := by rw [h.1]; exact (List.getElem?_eq_some_iff.1 hj).1
 have e := List.getElem?_eq_getElem hjl
 exact ((h.2 j _ _ e hj).c w S u (hc.2 j _ u e hu).nil).nil
theorem shr_plain {α : Type} {c : α → List AV} (h : ∀ a, (c a).all stay = true) : Shr 0 c c := ⟨fun H k a => by
 have : (c a).map (shrC (k + 0) H) = c a := by
  conv => rhs; rw [← List.map_id (c a)]
  exact List.map_congr_left fun x hx => stay_eq (List.all_eq_true.1 (h a) x hx)
 rw [this]
 exact ⟨rfl, fun j x y hx hy => by rw [hx] at hy; cases hy; exact .refl _⟩⟩
theorem WkL.getD {xs ys : List AV} (h : WkL xs ys) (j : Nat) : Wk (xs.getD j .any) (ys.getD j .any) := by
 rw [List.getD_eq_getElem?_getD, List.getD_eq_getElem?_getD]
 cases hx : xs[j]? with
 | none =>
  have : ys[j]? = none := by
   rw [List.getElem?_eq_none_iff] at hx ⊢
   rw [← h.1]; exact hx
  rw [this]
  exact .refl _
 | some x =>
  have hj : j < ys.length := by rw [← h.1]; exact (List.getElem?_eq_some_iff.1 hx).1
  rw [List.getElem?_eq_getElem hj]
  exact h.2 j _ _ hx (List.getElem?_eq_getElem hj)
theorem shr_any {k : Nat} {H : Hp} : shrC k H .any = .any := by cases k <;> rfl
theorem shr_L {α : Type} [Inhabited α] {d sz k n : Nat} {H : Hp} {cO c : α → List AV} {l : List α} [h : Shr d cO c] (hn : n = l.length) : Wk (.sl sz n fun i j => shrC (k + d) H (elE cO l i j)) (slL sz c l) := by
 subst hn
 refine Wk.sl fun i j hi hj => ?_
 have := (h.h H k (l.getD i default)).getD j
 have e : ((cO (l.getD i default)).map (shrC (k + d) H)).getD j .any = shrC (k + d) H (elE cO l i j) := by
  unfold elE
  generalize cO (l.getD i default) = cs
  rw [List.getD_eq_getElem?_getD, List.getD_eq_getElem?_getD, List.getElem?_map]
  cases cs[j]? with
  | none => exact shr_any.symm
  | some x => rfl
 rw [e] at this
 exact this
theorem shr_ow {α : Type} [Inhabited α] {d sz k : Nat} {H : Hp} {cO c : α → List AV} {l : List α} [h : Shr d cO c] : Wk (shrC (k + (d + 1)) H (owL sz cO l)) (slL sz c l) := by
 show Wk (.sl sz l.length fun i j => shrC (k + d) H (elE cO l i j)) _
 exact shr_L rfl
inductive RowsPl : Hp → Prop
 | nil : RowsPl []
 | cons {x : Row} {H : Hp} (h : RowPl x) (r : RowsPl H) : RowsPl (some x :: H)
 | none {H : Hp} (r : RowsPl H) : RowsPl (none :: H)
theorem RowsPl.at {H : Hp} (h : RowsPl H) : ∀ (k : Nat) (x : Row), H[k]? = some (some x) → RowPl x := by
 induction h with
 | nil => intro k x h; simp at h
 | cons h r ih =>
  intro k y hk
  cases k with
  | zero => cases hk; exact h
  | succ k => exact ih k y (by simpa using hk)
 | none r ih =>
  intro k y hk
  cases k with
  | zero => cases hk
  | succ k => exact ih k y (by simpa using hk)
theorem lok_pl {σ : Nat → Nat} {L : Hp} (h : RowsPl L) : LOk σ L L := lok_self h.at
theorem keepK {π : List Nat} {H0 : Hp} {n : Nat} (hX : H0.length = n) (h : (List.range n).all (fun k => π[k]? == some k) = true) : ∀ k, k < H0.length → π[k]? = some k := fun k hk => by
 have := List.all_eq_true.1 h k (List.mem_range.2 (by omega))
 simpa using this
def markL {α : Type} (f : α → Int → α × Int) : List α → Int → List α × Int
 | [], k => ([], k)
 | a :: l, k => ((f a k).1 :: (markL f l (f a k).2).1, (markL f l (f a k).2).2)
theorem markL_len {α : Type} {f : α → Int → α × Int} : ∀ (l : List α) (k : Int), (markL f l k).1.length = l.length
 | [], k => rfl
 | a :: l, k => by simp [markL, markL_len l]
theorem markL_snoc {α : Type} {f : α → Int → α × Int} {a : α} : ∀ (l : List α) (k : Int), markL f (l ++ [a]) k = ((markL f l k).1 ++ [(f a (markL f l k).2).1], (f a (markL f l k).2).2)
 | [], k => rfl
 | b :: l, k => by simp [markL, markL_snoc l]
theorem markL_mono {α : Type} {f : α → Int → α × Int} (hf : ∀ a k, k ≤ (f a k).2) : ∀ (l : List α) (k : Int), k ≤ (markL f l k).2
 | [], k => Int.le_refl _
 | a :: l, k => Int.le_trans (hf a k) (markL_mono hf l _)
theorem markL_app {α : Type} {f : α → Int → α × Int} : ∀ (l m : List α) (k : Int), markL f (l ++ m) k = ((markL f l k).1 ++ (markL f m (markL f l k).2).1, (markL f m (markL f l k).2).2)
 | [], m, k => rfl
 | b :: l, m, k => by simp [markL, markL_app l]
def mkC {α : Type} (f : α → Int → α × Int) (l : List α) (k : Int) (i : Nat) : Int := (markL f (l.take i) k).2
section
variable {α : Type} {f : α → Int → α × Int} {l : List α} {k : Int} {i : Nat}
theorem take_snoc [Inhabited α] (h : i < l.length) : l.take (i + 1) = l.take i ++ [l.getD i default] := by
 rw [List.take_add_one, List.getElem?_eq_getElem h, List.getD_eq_getElem?_getD, List.getElem?_eq_getElem h]; rfl
theorem mkC_succ [Inhabited α] (h : i < l.length) : mkC f l k (i + 1) = (f (l.getD i default) (mkC f l k i)).2 := by
 unfold mkC
 rw [take_snoc h, markL_snoc]
theorem mkC_le (hf : ∀ a k, k ≤ (f a k).2) (i : Nat) : mkC f l k i ≤ (markL f l k).2 := by
 unfold mkC
 conv => rhs; rw [← List.take_append_drop i l]
 rw [markL_app]
 exact markL_mono hf _ _
end
theorem upd_miss {es : Nat → Nat → AV} {i j off : Nat} {cs : List AV} {k : Nat} (h : i ≠ j) : upd es j off cs i k = es i k := upd_out fun q => h q.1
theorem beq_ff {i j : Nat} (h : i ≠ j) : Nat.beq i j = false := by
 cases hb : Nat.beq i j with
 | true => exact absurd (Nat.eq_of_beq_eq_true hb) h
 | false => rfl
theorem getD_set {α : Type} [Inhabited α] {l : List α} {k i : Nat} {a : α} (hk : k < l.length) : (l.set k a).getD i default = if i = k then a else l.getD i default := by
 rw [List.getD_eq_getElem?_getD, List.getD_eq_getElem?_getD]
 by_cases e : i = k
 ·subst e; rw [List.getElem?_set_self hk, if_pos rfl]; rfl
 ·rw [List.getElem?_set_ne (fun h => e h.symm), if_neg e]
theorem arr_set {α : Type} [Inhabited α] {r : List Nat} {n sz k cap cap' : Nat} {c : α → List AV} {l l' : List α} {a : α} {y : Nat → Nat → AV} {bx : RK} (e : l' = l.set k a) (hk : k < l.length) (hc : cap' = cap) (hlow : ∀ a j, fx r n ((c a).getD j .any) = true)
  (h1 : ∀ j, j < sz → y k j = (c a).getD j .any) (h2 : ∀ i j, i ≠ k → y i j = elE c l i j) : ArrP r n ⟨sz, cap, elE c l', bx⟩ ⟨sz, cap', y, bx⟩ :=
 ⟨rfl, hc, rfl, fun i j hi hj => by
  show y i j = elE c l' i j
  subst e
  unfold elE
  rw [getD_set hk]
  by_cases h : i = k
  ·subst h; rw [if_pos rfl]; exact h1 j hj
  ·rw [if_neg h]; exact h2 i j h, fun i j _ _ => hlow _ _⟩
theorem arr_same {α : Type} [Inhabited α] {r : List Nat} {n sz cap cap' : Nat} {c : α → List AV} {l l' : List α} {bx : RK} (e : l' = l) (hc : cap' = cap) (hlow : ∀ a j, fx r n ((c a).getD j .any) = true) : ArrP r n ⟨sz, cap, elE c l', bx⟩ ⟨sz, cap', elE c l, bx⟩ :=
 ⟨rfl, hc, rfl, fun i j hi hj => by show elE c l i j = elE c l' i j; rw [e], fun i j _ _ => hlow _ _⟩
structure MarkUp {α : Type} (f : α → Int → α × Int) (l : List α) (k : Int) (i : Nat) : Prop where
 lo : 0 ≤ mkC f l k i
 mono : ∀ a k, k ≤ (f a k).2
 hi : (markL f l k).2 ≤ 4611686018427387904
theorem MarkUp.le {α : Type} [Inhabited α] {f : α → Int → α × Int} {l : List α} {k : Int} {i : Nat} (h : MarkUp f l k i) (hi : i < l.length) : (f (l.getD i default) (mkC f l k i)).2 ≤ 4611686018427387904 := by
 rw [← mkC_succ hi]
 exact Int.le_trans (mkC_le h.mono _) h.hi
theorem Wk.nilS0 {α : Type} [Inhabited α] {sz : Nat} {c : α → List AV} : Wk .nils (slL sz c []) := by
 refine ⟨fun _ i j hi _ => ?_, fun w S u h => ?_⟩
 ·exact absurd hi (Nat.not_lt_zero _)
 ·rw [inv_nils h]
  exact .sl0 none 0 (Nat.zero_le _)
theorem roundNT_turn {X : Ctx} {f0 : Fr} {H0 : Hp} {vs : Nat → Fr} {hp : Nat → List (Option RowI)} {I : Nat → Prop} {n k : Nat} {f' : Fr} {H' H1 : Hp} (t : Turn X H' H1) (h : RoundNT X f0 H0 vs hp I n k f' H1) : RoundNT X f0 H0 vs hp I n k f' H' := by
 obtain ⟨H2, t2, h⟩ := h
 exact ⟨H2, t.trans t2, h⟩
theorem roundNT_end {X : Ctx} {f0 : Fr} {H0 : Hp} {vs : Nat → Fr} {hp : Nat → List (Option RowI)} {I : Nat → Prop} {n k : Nat} {f' : Fr} {H' : Hp} (h : RoundN f0 H0 vs hp I n k f' H') : RoundNT X f0 H0 vs hp I n k f' H' := ⟨H', Turn.refl, h⟩
theorem roundET_turn {α : Type} {X : Ctx} {f0 : Fr} {H0 : Hp} {vs : α → Fr} {hp : α → List (Option RowI)} {I : α → Prop} {μ : α → Nat} {x : α} {f' : Fr} {H' H1 : Hp} (t : Turn X H' H1) (h : RoundEndT X f0 H0 vs hp I μ x f' H1) : RoundEndT X f0 H0 vs hp I μ x f' H' := by
 obtain ⟨H2, t2, h⟩ := h
 exact ⟨H2, t.trans t2, h⟩
theorem roundET_end {α : Type} {X : Ctx} {f0 : Fr} {H0 : Hp} {vs : α → Fr} {hp : α → List (Option RowI)} {I : α → Prop} {μ : α → Nat} {x : α} {f' : Fr} {H' : Hp} (h : RoundEnd X f0 H0 vs hp I μ x f' H') : RoundEndT X f0 H0 vs hp I μ x f' H' := ⟨H', Turn.refl, h⟩
theorem catE_at {n i j : Nat} {es g : Nat → Nat → AV} : catE n es g i j = if i < n then es i j else g (i - n) j := by
 by_cases h : i < n
 ·rw [if_pos h, catE_lt h]
 ·rw [if_neg h, catE_ge (by omega)]
theorem getD_snoc {α : Type} [Inhabited α] {l : List α} {a : α} {i : Nat} : (l ++ [a]).getD i default = if i < l.length then l.getD i default else if i = l.length then a else default := by
 rw [List.getD_eq_getElem?_getD, List.getD_eq_getElem?_getD]
 by_cases h : i < l.length
 ·rw [if_pos h, List.getElem?_append_left h]
 ·rw [if_neg h, List.getElem?_append_right (by omega)]
  by_cases e : i = l.length
  ·rw [if_pos e, e, Nat.sub_self]; rfl
  ·rw [if_neg e, List.getElem?_eq_none (by simp; omega)]; rfl
theorem snoc_idf {α : Type} [Inhabited α] {k sz : Nat} {c : α → List AV} {l : List α} {g : Nat → Nat → AV} [h : HoldC c] (hk : k = l.length) (hg : ∀ j, j < sz → (g 0 j).idfO) : ∀ i j, i < k + 1 → j < sz → (catE k (elE c l) g i j).idfO := fun i j hi hj => by
 rw [catE_at]
 by_cases h' : i < k
 ·rw [if_pos h']; exact h.h _ j
 ·rw [if_neg h', show i - k = 0 by omega]; exact hg j hj
theorem snoc_eq {α : Type} [Inhabited α] {k sz : Nat} {c : α → List AV} {l : List α} {a : α} {g : Nat → Nat → AV} (hk : k = l.length) (hg : ∀ j, j < sz → OwEq (g 0 j) ((c a).getD j .any)) : ∀ i j, i < k + 1 → j < sz → OwEq (catE k (elE c l) g i j) (elE c (l ++ [a]) i j) := fun i j hi hj => by
 rw [catE_at]
 unfold elE
 rw [getD_snoc]
 by_cases h' : i < k
 ·rw [if_pos h', if_pos (by omega)]; exact .refl _
 ·rw [if_neg h', if_neg (by omega), if_pos (by omega), show i - k = 0 by omega]; exact hg j hj
theorem RowBack.L {α : Type} [Inhabited α] {σ : Nat → Nat} {m sz n : Nat} {c : α → List AV} {l : List α} (hn : l.length = n) (h : ∀ a, (c a).all pl1 = true) : RowBack σ m (rowL sz c l) ⟨sz, n, elE c l, .arr⟩ := ⟨rfl, hn, .refl _, fun i j _ _ => ⟨(pl1_ren (pl1_getD (h _) j)).1.symm, pl1_low2 (pl1_getD (h _) j)⟩⟩
theorem Wk.rfLo {m : Nat} {g : Nat → AV} {cs : List AV} (h : WkL (cellsAt g 0 m) cs) : Wk (.rf m g) (rfL cs) := by
 have hl : m = cs.length := by rw [← h.1, cellsAt_length]
 subst hl
 unfold rfL
 refine Wk.rf fun j hj => ?_
 have := h.getD j
 have hj' : j < (cellsAt g 0 cs.length).length := by rw [cellsAt_length]; exact hj
 have e := (cellsAt_get g cs.length 0 j _ (List.getElem?_eq_getElem hj')).2
 rw [Nat.zero_add] at e
 rw [List.getD_eq_getElem?_getD, List.getElem?_eq_getElem hj'] at this
 rw [e] at this
 exact this
theorem MixL.wk {π : List Nat} {H : Hp} {a c : AV} {es cs : List AV} (h : Wk (shr (outM π 0 H) c) a) (r : MixL π H es cs) : MixL π H (a :: es) (c :: cs) := .frz h.c r
theorem Ret.wka {P : Program} {g : FuncId} {av bs : List AV} {post : AV → Prop} (r : Ret P g bs post) (h : WkL av bs := by ((repeat (first | exact WkL.nil | refine WkL.cons ?_ ?_ | exact Wk.refl _ | exact Wk.rfc rfl | refine Wk.fn ?_ | exact Wk.nilS0 | exact shr_L (d := 0) (k := 4) rfl | exact shr_L (d := 1) (k := 3) rfl | exact shr_L (d := 2) (k := 2) rfl | exact shr_L (d := 0) (k := 4) (by simp only [markL_len]) | exact shr_L (d := 1) (k := 3) (by simp only [markL_len]) | refine Wk.agg ?_ | exact shr_L (d := 0) (k := 3) rfl | exact shr_L (d := 1) (k := 2) rfl | exact shr_ow (d := 1) (k := 2) | exact shr_ow (d := 0) (k := 3) | refine Wk.rfLo ?_)); first | done | fail)) : Ret P g av post := Ret.wk h r
theorem RetM.wka {P : Program} {g : FuncId} {av bs : List AV} {post : AV → Hp → Prop} (r : RetM P g [] bs post) (h : WkL av bs := by ((repeat (first | exact WkL.nil | refine WkL.cons ?_ ?_ | exact Wk.refl _ | exact Wk.rfc rfl | refine Wk.fn ?_ | exact Wk.nilS0 | exact shr_L (d := 0) (k := 4) rfl | exact shr_L (d := 1) (k := 3) rfl | exact shr_L (d := 2) (k := 2) rfl | exact shr_L (d := 0) (k := 4) (by simp only [markL_len]) | exact shr_L (d := 1) (k := 3) (by simp only [markL_len]) | refine Wk.agg ?_ | exact shr_L (d := 0) (k := 3) rfl | exact shr_L (d := 1) (k := 2) rfl | exact shr_ow (d := 1) (k := 2) | exact shr_ow (d := 0) (k := 3) | refine Wk.rfLo ?_)); first | done | fail)) : RetM P g [] av post := RetM.wk h r
theorem viewA {π : List Nat} {H H0 : Hp} (hn : nodupB π = true := by exact rfl) (h : ViewL H (sig π H.length) π.length π H0 := by repeat' (first | exact ViewL.nil | refine ViewL.cons rfl (RowBack.self ?_) ?_ | exact rowPl_L (fun _ => rfl) | exact rowPl_box rfl)) : ViewOk π H H0 := view_of hn h
theorem lokA {σ : Nat → Nat} {L : Hp} (h : RowsPl L := by repeat' (first | exact RowsPl.nil | refine RowsPl.cons ?_ ?_ | refine RowsPl.none ?_ | exact rowPl_L (fun _ => rfl) | exact rowPl_box rfl)) : LOk σ L L := lok_pl h
theorem nssA {H : Hp} (h : RowsNs H := by repeat' (first | exact rowsNs_nil | refine rowsNs_cons ?_ ?_ | refine rowsNs_none ?_ | exact rowNs_L | exact rowNs_box)) : RowsNs H := h
end
set_option maxRecDepth 8000
def byteC (b : UInt8) : List AV := [.i .u8 b.toNat]
structure Src where
 code : List UInt8
 at' : Int
 seed : Int
def Src.cs (s : Src) : List AV := [slL 1 byteC s.code, .i .i64 s.at', .i .u64 s.seed]
def Src.ok (s : Src) (n : Int) : Prop := 0 ≤ s.at' ∧ s.at' + n ≤ 1000000000 ∧ s.code.length ≤ 1048576
def Src.byte (s : Src) : Int := if s.at' < s.code.length then ((s.code.getD s.at'.toNat default).toNat : Int) else 0
def Src.next (s : Src) : Src := ⟨s.code, s.at' + 1, IntKind.u64.wrap (IntKind.u64.wrap (IntKind.u64.wrap (s.seed * 6364136223846793005) + s.byte) + 1442695040888963407)⟩
def Src.nextV (s : Src) : Int := if s.at' < s.code.length then s.byte else bits .and .u64 (s.next.seed.fdiv (2 ^ 40)) 255
theorem wrap_u0 {n : Int} (h1 : 0 ≤ n) (h2 : n ≤ 9223372036854775807) : IntKind.u64.wrap n = n := by
 rw [IntKind.wrap_u64]; omega
theorem byte_le (s : Src) : 0 ≤ s.byte ∧ s.byte ≤ 255 := by
 unfold Src.byte
 split
 ·have := (s.code.getD s.at'.toNat default).toNat_lt; omega
 ·omega
theorem and_le (x : Int) : 0 ≤ bits .and .u64 x 255 ∧ bits .and .u64 x 255 ≤ 255 := by
 have h : ((BitVec.ofInt 64 x &&& BitVec.ofInt 64 255).toNat : Int) ≤ 255 := by
  rw [BitVec.toNat_and]
  have := @Nat.and_le_right (BitVec.ofInt 64 x).toNat (BitVec.ofInt 64 255).toNat
  have e : (BitVec.ofInt 64 255).toNat = 255 := by decide
  omega
 have e : bits .and .u64 x 255 = IntKind.u64.wrap ((BitVec.ofInt 64 x &&& BitVec.ofInt 64 255).toNat : Int) := rfl
 rw [e, wrap_u0 (by omega) (by omega)]
 omega
theorem wrap_bits (x : Int) : IntKind.i64.wrap (bits .and .u64 x 255) = bits .and .u64 x 255 := wrap_in (by have := and_le x; omega) (by have := and_le x; omega)
theorem nextV_le (s : Src) : 0 ≤ s.nextV ∧ s.nextV ≤ 255 := by
 unfold Src.nextV
 split
 ·exact byte_le s
 ·exact and_le _
theorem next_ok (s : Src) (h : s.ok 1) : RetM env.P 54 [some (boxRow s.cs)] [.ptr 0 0 0] (fun r H => r = .i .i64 s.nextV ∧ H = [some (boxRow s.next.cs)]) := by
 obtain ⟨h1, h2, h3⟩ := h
 have e0 : ((s.code.getD s.at'.toNat default).toNat : Int) < 256 := by have := (s.code.getD s.at'.toNat default).toNat_lt; omega
 have e1 : IntKind.i64.wrap (s.at' + 1) = s.at' + 1 := wrap_in (by omega) (by omega)
 have e2 : IntKind.i64.wrap ((s.code.getD s.at'.toNat default).toNat : Int) = ((s.code.getD s.at'.toNat default).toNat : Int) := wrap_in (by omega) (by omega)
 have e3 : IntKind.u64.wrap ((s.code.getD s.at'.toNat default).toNat : Int) = ((s.code.getD s.at'.toNat default).toNat : Int) := wrap_u0 (by omega) (by omega)
 have e4 : IntKind.u64.wrap 0 = 0 := by decide
 refine ret_ofM (nt := 62) (rvs := [.tmp 2]) Tryz.func54 rfl rfl rfl rfl (fun X hX => ?_)
 repeat' (first | exact aa | ((conv => whnf) <;> (first | refine And.intro ?_ ?_ | (intro _h; first | contradiction | (try simp only [dd] at _h)) | (refine dt_go ?_) | exact rfl | exact True.intro | exact dkk | exact dks | (refine wrap_succ ?_; omega))))
 all_goals (conv => whnf)
 all_goals refine endM_turn (turn_box (id := 0) (ds := [slL 1 byteC s.code, .i .i64 _, .i .u64 _]) rfl rfl rfl (.cons (.refl _) (.cons (.refl _) (.cons (.refl _) .nil)))) ?_
 all_goals refine endM_pick [0] [some (boxRow [slL 1 byteC s.code, .i .i64 _, .i .u64 _])] (.i .i64 _) (view_of rfl (.cons rfl (.self (rowPl_box rfl)) .nil)) rfl rfl (by rw [hX]; exact keepK (n := 1) rfl rfl) ⟨?_, ?_⟩
 all_goals (try (exfalso; rw [e1] at *; omega))
 all_goals (rename_i q; first | (simp only [Src.nextV, Src.next, Src.cs, Src.byte, e1, e2, e3, e4, wrap_bits, if_pos q]; done) | (simp only [Src.nextV, Src.next, Src.cs, Src.byte, e1, e2, e3, e4, wrap_bits, if_neg q]; done) | (simp only [Src.nextV, Src.next, Src.cs, Src.byte, e1, e2, e3, e4, wrap_bits, if_pos q]; rfl) | (simp only [Src.nextV, Src.next, Src.cs, Src.byte, e1, e2, e3, e4, wrap_bits, if_neg q]; rfl))
def Src.pickV (s : Src) (n : Int) : Int := if n ≤ 1 then 0 else s.nextV.tmod n
def Src.pickS (s : Src) (n : Int) : Src := if n ≤ 1 then s else s.next
theorem pick_le (s : Src) (n : Int) : 0 ≤ s.pickV n ∧ (1 ≤ n → s.pickV n < n) := by
 have := nextV_le s
 unfold Src.pickV
 split
 ·omega
 ·rw [Int.tmod_eq_emod_of_nonneg this.1]
  exact ⟨Int.emod_nonneg _ (by omega), fun _ => Int.emod_lt_of_pos _ (by omega)⟩
theorem pick_ok (s : Src) (h : s.ok 1) (n : Int) (hn : n ≤ 200) : RetM env.P 23 [some (boxRow s.cs)] [.ptr 0 0 0, .i .i64 n] (fun r H => r = .i .i64 (s.pickV n) ∧ H = [some (boxRow (s.pickS n).cs)]) := by
 refine ret_ofM (nt := 20) (rvs := [.tmp 4]) Tryz.func23 rfl rfl rfl rfl (fun X hX => ?_)
 repeat' (first | exact aa | ((conv => whnf) <;> (first | refine And.intro ?_ ?_ | (intro _h; first | contradiction | (try simp only [dd] at _h)) | (refine dt_go ?_) | exact rfl | exact True.intro | exact dkk | exact dks | (refine .inr (.inl (.inl ⟨[0], _, _, _, next_ok s h, viewA, ⟨rfl, rfl⟩, ?_⟩)); rintro _ _ ⟨rfl, rfl⟩; refine ⟨rfl, _, lokA, ?_⟩) | (refine wrap_succ ?_; omega))))
 all_goals (conv => whnf)
 rotate_left; rename_i q; rotate_right
 ·refine endM_pick [0] [some (boxRow s.cs)] (.i .i64 _) (view_of rfl (.cons rfl (.self (rowPl_box rfl)) .nil)) rfl rfl (by rw [hX]; exact keepK (n := 1) rfl rfl) ⟨?_, ?_⟩
  ·exact leaf_i (if_pos _h).symm
  ·unfold Src.pickS; rw [if_pos _h]
 ·refine endM_pick [0] [some (boxRow s.next.cs)] (.i .i64 _) (view_of rfl (.cons rfl (.self (rowPl_box rfl)) .nil)) rfl rfl (by rw [hX]; exact keepK (n := 1) rfl rfl) ⟨?_, ?_⟩
  ·exact leaf_i (if_neg q).symm
  ·unfold Src.pickS; rw [if_neg q]
theorem one_ok (s : Src) (h : s.ok 1) (n : Int) (hn : n ≤ 200) : RetM env.P 97 [some (boxRow s.cs)] [.ptr 0 0 0, .i .i64 n] (fun r H => r = .b (pb (s.pickV n = 0)) ∧ H = [some (boxRow (s.pickS n).cs)]) := by
 refine ret_ofM (nt := 9) (rvs := [.tmp 4]) Tryz.func97 rfl rfl rfl rfl (fun X hX => ?_)
 repeat' (first | exact aa | ((conv => whnf) <;> (first | refine And.intro ?_ ?_ | (intro _h; first | contradiction | (try simp only [dd] at _h)) | (refine dt_go ?_) | exact rfl | exact True.intro | exact dkk | exact dks | (refine .inr (.inl (.inl ⟨[0], _, _, _, pick_ok s h n hn, viewA, ⟨rfl, rfl⟩, ?_⟩)); rintro _ _ ⟨rfl, rfl⟩; refine ⟨rfl, _, lokA, ?_⟩) | (refine wrap_succ ?_; omega))))
 all_goals (conv => whnf)
 exact endM_pick [0] [some (boxRow (s.pickS n).cs)] (.b _) (view_of rfl (.cons rfl (.self (rowPl_box rfl)) .nil)) rfl rfl (by rw [hX]; exact keepK (n := 1) rfl rfl) ⟨leaf_p (by rw [decide_eq_true_eq]), rfl⟩
theorem from_ok (l : List UInt8) : RetM env.P 20 [] [slL 1 byteC l] (fun r H => r = .ptr 0 0 0 ∧ H = [some (boxRow (Src.mk l 0 0).cs)]) := by
 refine ret_ofM (nt := 6) (rvs := [.tmp 2]) Tryz.func20 rfl rfl rfl rfl (fun X hX => ?_)
 repeat' (first | exact aa | ((conv => whnf) <;> (first | refine And.intro ?_ ?_ | (intro _h; first | contradiction | (try simp only [dd] at _h)) | (refine dt_go ?_) | exact rfl | exact True.intro | exact dkk | exact dks | (refine wrap_succ ?_; omega))))
 all_goals (conv => whnf)
 exact endM_pick [0] [some (boxRow (Src.mk l 0 0).cs)] (.ptr 0 0 0) (view_of rfl (.cons rfl (.self (rowPl_box rfl)) .nil)) rfl rfl (fun k hk => by rw [hX] at hk; exact absurd hk (Nat.not_lt_zero k)) ⟨rfl, rfl⟩
structure Entry where
 num : Int
 id : Int
 own : Bool
 lends : Int
 scope : Int
 from_ : Int
 fromNum : Int
 deriving DecidableEq, Inhabited
def Entry.cs (a : Entry) : List AV := [.i .i64 a.num, .i .i64 a.id, .b a.own, .i .i64 a.lends, .i .i64 a.scope, .i .i64 a.from_, .i .i64 a.fromNum]
theorem Entry.low (a : Entry) : a.cs.all (low1 0) = true := rfl
theorem Entry.eta {a b : Entry} (h0 : a.num = b.num) (h1 : a.id = b.id) (h2 : a.own = b.own) (h3 : a.lends = b.lends) (h4 : a.scope = b.scope) (h5 : a.from_ = b.from_) (h6 : a.fromNum = b.fromNum) : a = b := by cases a; cases b; simp_all
theorem Entry.etaC {a b : Entry} (h : a.num = b.num ∧ a.id = b.id ∧ a.own = b.own ∧ a.lends = b.lends ∧ a.scope = b.scope ∧ a.from_ = b.from_ ∧ a.fromNum = b.fromNum) : a = b := by cases a; cases b; simp_all
def Entry.ok (a : Entry) : Prop := True
structure Table where
 next : Int
 entries : List Entry
 deriving DecidableEq, Inhabited
def Table.cs (a : Table) : List AV := [.i .i64 a.next, slL 7 Entry.cs a.entries]
theorem Table.low (a : Table) : a.cs.all (low1 0) = true := rfl
theorem Table.eta {a b : Table} (h0 : a.next = b.next) (h1 : a.entries = b.entries) : a = b := by cases a; cases b; simp_all
theorem Table.etaC {a b : Table} (h : a.next = b.next ∧ a.entries = b.entries) : a = b := by cases a; cases b; simp_all
def Table.ok (a : Table) : Prop := (okL Entry.ok) a.entries
def Table.sz (a : Table) (left : Int) : Int :=
 if (szFl a.entries left) < 0 then -1 else (szFl a.entries left)
structure Thing where
 id : Int
 res : Int
 rep : Int
 deriving DecidableEq, Inhabited
def Thing.cs (a : Thing) : List AV := [.i .i64 a.id, .i .i64 a.res, .i .i64 a.rep]
theorem Thing.low (a : Thing) : a.cs.all (low1 0) = true := rfl
theorem Thing.eta {a b : Thing} (h0 : a.id = b.id) (h1 : a.res = b.res) (h2 : a.rep = b.rep) : a = b := by cases a; cases b; simp_all
theorem Thing.etaC {a b : Thing} (h : a.id = b.id ∧ a.res = b.res ∧ a.rep = b.rep) : a = b := by cases a; cases b; simp_all
def Thing.ok (a : Thing) : Prop := True
structure Shelf where
 next : Int
 tables : List Table
 things : List Thing
 deriving DecidableEq, Inhabited
def Shelf.cs (a : Shelf) : List AV := [.i .i64 a.next, slL 2 Table.cs a.tables, slL 3 Thing.cs a.things]
theorem Shelf.low (a : Shelf) : a.cs.all (low1 0) = true := rfl
theorem Shelf.eta {a b : Shelf} (h0 : a.next = b.next) (h1 : a.tables = b.tables) (h2 : a.things = b.things) : a = b := by cases a; cases b; simp_all
theorem Shelf.etaC {a b : Shelf} (h : a.next = b.next ∧ a.tables = b.tables ∧ a.things = b.things) : a = b := by cases a; cases b; simp_all
def Shelf.ok (a : Shelf) : Prop := (okL Table.ok) a.tables ∧ (okL Thing.ok) a.things
def Shelf.sz (a : Shelf) (left : Int) : Int :=
 if ((szLs Table.sz) a.tables left) < 0 then -1 else if (szFl a.things ((szLs Table.sz) a.tables left)) < 0 then -1 else (szFl a.things ((szLs Table.sz) a.tables left))
end Go.Proofs.YtmglpojnoadgeaaGreat
