/-
  Small words for the walks: how a leaf is closed; what is known of arguments; an argument described otherwise.
-/
import Derived.Test.YtbphkpojhinbiaaVL
import Derived.Test.YtbphkpojhinbiaaVR
import Derived.Test.YtbphkpojhinbiaaVT
namespace Go.Proofs.Ytbphkpojhinbiaa
open Go Go.RowKit
set_option linter.unusedVariables false

theorem dok {ops : Array Oper} (h : drawOk ops = true) : drawOk ops = true := h
theorem doks {ops : Array Oper} (h : drawOkS ops = true) : drawOkS ops = true := h
theorem leaf_b {a b : Bool} (h : a = b) : AV.b a = AV.b b := by rw [h]

theorem leaf_i {k : IntKind} {a b : Int} (h : a = b) : AV.i k a = AV.i k b := by rw [h]

/-- What is known of a described value. -/
def AV.wf : AV → Prop
  | .i k n => (Lit.int k n).wf = true
  | .s x => x.size ≤ maxLen
  | .sl sz n g => n ≤ maxLen ∧ ∀ i j, i < n → j < sz → (g i j).wf
  | .rf m g => ∀ j, j < m → (g j).wf
  | _ => True
theorem Conc.wf {w : World} {S : Nat → Prop} {blk : Nat → Nat} {H : Hp} {x : AV} {u : Value} (h : Conc w S blk H x u) : x.wf := by
  induction h with
  | i h => exact h
  | s h => exact h
  | sl0 a cap hm => exact ⟨Nat.zero_le _, fun i j hi => by omega⟩
  | sl b o cap U hb hn hm hc hf hu ih => exact ⟨Nat.le_trans hn hm, ih⟩
  | rf b o U hb hc hf hu ih => exact ih
  | _ => trivial
def AV.wfs : AV → Prop
  | .agg cs => ∀ c ∈ cs, c.wf
  | x => x.wf
theorem Conc.wfs {w : World} {S : Nat → Prop} {blk : Nat → Nat} {H : Hp} {x : AV} {u : Value} (h : Conc w S blk H x u) : x.wfs := by
  cases x with
  | agg cs =>
    obtain ⟨us, rfl, hl, hu⟩ := inv_agg h
    intro c hc
    obtain ⟨j, hj⟩ := List.getElem?_of_mem hc
    have hlt : j < us.length := by rw [hl]; exact (List.getElem?_eq_some_iff.1 hj).1
    exact (hu j c _ hj (List.getElem?_eq_getElem hlt)).wf
  | _ => exact h.wf

/-- The arguments are of their types' kinds: this may be used. -/
theorem Ret.args {P : Program} {g : FuncId} {av : List AV} {post : AV → Prop} (h : (∀ a ∈ av, a.wfs) → Ret P g av post) : Ret P g av post :=
  Ret.know (p := ∀ a ∈ av, a.wfs) (fun w S us hc a ha => by
    obtain ⟨j, hj⟩ := List.getElem?_of_mem ha
    have hlt : j < us.length := by rw [hc.1]; exact (List.getElem?_eq_some_iff.1 hj).1
    exact (hc.2 j a _ hj (List.getElem?_eq_getElem hlt)).wfs) h

/-- x may be taken for y. -/
def Wk (x y : AV) : Prop := (x.idf → y.idf) ∧ ∀ (w : World) (S : Nat → Prop) (u : Value), Conc w S (fun _ => 0) [] x u → Conc w S (fun _ => 0) [] y u
theorem Wk.refl (x : AV) : Wk x x := ⟨id, fun _ _ _ h => h⟩
theorem Wk.sl {sz n : Nat} {g g' : Nat → Nat → AV} (h : ∀ i j, i < n → j < sz → Wk (g i j) (g' i j)) : Wk (.sl sz n g) (.sl sz n g') := by
  refine ⟨fun hi i j hi' hj => (h i j hi' hj).1 (hi i j hi' hj), fun w S u hc => ?_⟩
  cases hc with
  | sl0 a cap hm => exact .sl0 a cap hm
  | sl b o cap U hb hn hm hc hf hu => exact .sl b o cap U hb hn hm hc (fun i j hi hj => (h i j hi hj).1 (hf i j hi hj)) (fun i j hi hj => (h i j hi hj).2 w S _ (hu i j hi hj))
/-- Cell by cell. -/
def WkL (xs ys : List AV) : Prop := xs.length = ys.length ∧ ∀ (j : Nat) (x y : AV), xs[j]? = some x → ys[j]? = some y → Wk x y
theorem WkL.nil : WkL [] [] := ⟨rfl, fun j x y h => by simp at h⟩
theorem WkL.cons {x y : AV} {xs ys : List AV} (h : Wk x y) (r : WkL xs ys) : WkL (x :: xs) (y :: ys) :=
  ⟨by simp [r.1], fun j a b ha hb => by
    cases j with
    | zero => cases ha; cases hb; exact h
    | succ j => exact r.2 j a b (by simpa using ha) (by simpa using hb)⟩
theorem WkL.append {xs ys xs' ys' : List AV} (h : WkL xs ys) (r : WkL xs' ys') : WkL (xs ++ xs') (ys ++ ys') := by
  refine ⟨by simp [h.1, r.1], fun j a b ha hb => ?_⟩
  rcases Nat.lt_or_ge j xs.length with hlt | hge
  · rw [List.getElem?_append_left hlt] at ha
    rw [List.getElem?_append_left (by rw [← h.1]; exact hlt)] at hb
    exact h.2 j a b ha hb
  · rw [List.getElem?_append_right hge] at ha
    rw [List.getElem?_append_right (by rw [← h.1]; exact hge), ← h.1] at hb
    exact r.2 _ a b ha hb
theorem Wk.agg {xs ys : List AV} (h : WkL xs ys) : Wk (.agg xs) (.agg ys) := by
  refine ⟨fun hi => hi.elim, fun w S u hc => ?_⟩
  obtain ⟨us, rfl, hl, hu⟩ := inv_agg hc
  refine .agg ys us (hl.trans h.1) fun j c u hj hju => ?_
  have hlt : j < xs.length := by rw [h.1]; exact (List.getElem?_eq_some_iff.1 hj).1
  exact (h.2 j _ c (List.getElem?_eq_getElem hlt) hj).2 w S u (hu j _ u (List.getElem?_eq_getElem hlt) hju)
theorem Ret.wk {P : Program} {g : FuncId} {av bs : List AV} {post : AV → Prop} (h : WkL av bs) (r : Ret P g bs post) : Ret P g av post := fun w S us hS hc =>
  r w S us hS ⟨hc.1.trans h.1, fun j c u hj hu => by
    have hlt : j < av.length := by rw [h.1]; exact (List.getElem?_eq_some_iff.1 hj).1
    exact (h.2 j _ c (List.getElem?_eq_getElem hlt) hj).2 w S u (hc.2 j _ u (List.getElem?_eq_getElem hlt) hu)⟩

/-- A list, as a slice; cells gives an element's cells. -/
def slL {α : Type} [Inhabited α] (sz : Nat) (cells : α → List AV) (l : List α) : AV := .sl sz l.length fun i j => (cells (l.getD i default)).getD j .any

/-- Cells of type t are the cells of an element of α. -/
def Rd (P : Program) (t : TypeId) (α : Type) (cells : α → List AV) : Prop := ∀ cs, TyC P t cs → ∃ a, WkL cs (cells a)
theorem rd_int {P : Program} {t : TypeId} {k : IntKind} (hu : P.underlying t = some (.int k)) : Rd P t Int fun n => [.i k n] := fun cs h => by
  obtain ⟨n, rfl, _⟩ := h.int_inv hu
  exact ⟨n, .cons (.refl _) .nil⟩
theorem rd_bool {P : Program} {t : TypeId} (hu : P.underlying t = some .bool) : Rd P t Bool fun b => [.b b] := fun cs h => by
  obtain ⟨n, rfl⟩ := h.bool_inv hu
  exact ⟨n, .cons (.refl _) .nil⟩
theorem rd_str {P : Program} {t : TypeId} (hu : P.underlying t = some .string) : Rd P t ByteArray fun b => [.s b] := fun cs h => by
  obtain ⟨n, rfl, _⟩ := h.string_inv hu
  exact ⟨n, .cons (.refl _) .nil⟩
theorem rd_sl {P : Program} {t e : TypeId} {α : Type} [Inhabited α] {cells : α → List AV} {sz : Nat} (hu : P.underlying t = some (.slice e)) (hsz : P.cellsOf e = sz) (h : Rd P e α cells) : Rd P t (List α) fun l => [slL sz cells l] := fun cs hc => by
  obtain ⟨n, g, rfl, hm, he⟩ := hc.sl_inv hu
  subst hsz
  have hall : ∀ i, i < n → ∃ a, WkL (cellsAt (g i) 0 (P.cellsOf e)) (cells a) := fun i hi => h _ (he i hi)
  let l : List α := (List.range n).map fun i => if h : i < n then Classical.choose (hall i h) else default
  have hl : l.length = n := by simp [l]
  have hget : ∀ i (hi : i < n), l.getD i default = Classical.choose (hall i hi) := fun i hi => by simp [l, hi]
  refine ⟨l, .cons ?_ .nil⟩
  unfold slL
  rw [hl]
  refine .sl fun i j hi hj => ?_
  have hw := Classical.choose_spec (hall i hi)
  rw [← hget i hi] at hw
  have h1 : j < (cellsAt (g i) 0 (P.cellsOf e)).length := by rw [cellsAt_length]; exact hj
  have h2 : j < (cells (l.getD i default)).length := by rw [← hw.1]; exact h1
  have h3 := hw.2 j _ _ (List.getElem?_eq_getElem h1) (List.getElem?_eq_getElem h2)
  obtain ⟨_, e1⟩ := cellsAt_get (g i) (P.cellsOf e) 0 j _ (List.getElem?_eq_getElem h1)
  rw [e1, Nat.zero_add] at h3
  have e2 : (cells (l.getD i default)).getD j .any = (cells (l.getD i default))[j] := by rw [List.getD_eq_getElem?_getD, List.getElem?_eq_getElem h2]; rfl
  rw [e2]
  exact h3
/-- The fields' cells. -/
def RdF (P : Program) (ts : List TypeId) (α : Type) (cells : α → List AV) : Prop := ∀ cs, TyF P ts cs → ∃ a, WkL cs (cells a)
theorem rdF_nil {P : Program} : RdF P [] Unit fun _ => [] := fun cs h => by
  obtain rfl := h.nil_inv
  exact ⟨(), .nil⟩
theorem rdF_cons {P : Program} {t : TypeId} {ts : List TypeId} {α β : Type} {c1 : α → List AV} {c2 : β → List AV} (h : Rd P t α c1) (r : RdF P ts β c2) : RdF P (t :: ts) (α × β) fun p => c1 p.1 ++ c2 p.2 := fun cs hc => by
  obtain ⟨a, b, rfl, h1, h2⟩ := hc.cons_inv
  obtain ⟨x, hx⟩ := h a h1
  obtain ⟨y, hy⟩ := r b h2
  exact ⟨(x, y), hx.append hy⟩
theorem rd_st {P : Program} {t : TypeId} {fs : Array Field} {ts : List TypeId} {α β : Type} {cells : α → List AV} {c2 : β → List AV} (hu : P.underlying t = some (.struct fs)) (hi : inLine P 0 fs.toList (P.cellsOf t) = true) (hts : fs.toList.map (·.type) = ts) (r : RdF P ts β c2) (F : β → α) (hF : ∀ b, cells (F b) = c2 b) : Rd P t α cells := fun cs hc => by
  obtain ⟨b, hb⟩ := r cs (hc.st_inv hu hi hts)
  exact ⟨F b, by rw [hF]; exact hb⟩

/-- One argument. -/
theorem arg_agg {P : Program} {t : TypeId} {α : Type} {cells : α → List AV} {cs : List AV} (h : Rd P t α cells) (ha : aggT P t = true) (hc : TyC P t cs) : ∃ a, Wk (mkArg P t cs) (.agg (cells a)) := by
  obtain ⟨a, h1⟩ := h cs hc
  exact ⟨a, by unfold mkArg; rw [ha, cond_true]; exact .agg h1⟩
theorem arg_one {P : Program} {t : TypeId} {α : Type} {c : α → AV} {cs : List AV} (h : Rd P t α fun a => [c a]) (ha : aggT P t = false) (hc : TyC P t cs) : ∃ a, Wk (mkArg P t cs) (c a) := by
  obtain ⟨a, h1⟩ := h cs hc
  refine ⟨a, ?_⟩
  unfold mkArg
  rw [ha, cond_false]
  obtain ⟨x, rfl⟩ := List.length_eq_one_iff.1 (show cs.length = 1 from h1.1)
  exact h1.2 0 x _ rfl rfl

end Go.Proofs.Ytbphkpojhinbiaa
