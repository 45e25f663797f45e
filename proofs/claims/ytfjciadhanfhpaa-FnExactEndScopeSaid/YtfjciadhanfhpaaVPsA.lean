/-
  Sizes of values, as the laws reckon them.
  Values that hold their slices alone: rows of lists, marks and what holds them, as the laws reckon them.
  Thing: what the laws' functions for it do.
  Entry: what the laws' functions for it do.
  Table: what the laws' functions for it do.
  Shelf: what the laws' functions for it do.
  Entry, as slices held alone.
  Thing, as slices held alone.
  Table, as slices held alone.
  Shelf, as slices held alone.
  How far marks go.
-/
import Derived.Test.YtfjciadhanfhpaaVU
namespace Go.Proofs.Ytfjciadhanfhpaa
open Go Go.RowKit
set_option linter.unusedVariables false

def okL {α : Type} [Inhabited α] (p : α → Prop) (l : List α) : Prop := l.length ≤ 1048576 ∧ ∀ k, k < l.length → p (l.getD k default)

def szFl {α : Type} (l : List α) (left : Int) : Int := szN l.length left
/-- The sizes of a list's elements, one by one. -/
def szF {α : Type} (g : α → Int → Int) : List α → Int → Int
  | [], v => v
  | x :: r, v => if g x v < 0 then -1 else szF g r (g x v)
def szLs {α : Type} (g : α → Int → Int) (l : List α) (left : Int) : Int := if left - l.length < 0 then -1 else szF g l (left - l.length)
def szAt {α : Type} [Inhabited α] (g : α → Int → Int) (l : List α) (v0 : Int) : Nat → Int
  | 0 => v0
  | k + 1 => g (l.getD k default) (szAt g l v0 k)

theorem szN_le {n : Nat} {v : Int} (h : v ≤ 1048576) : szN n v ≤ 1048576 := by unfold szN; split <;> omega
theorem szN_ok {n : Nat} {v : Int} (h : v ≤ 1048576) (hn : ¬ szN n v < 0) : n ≤ 1048576 := by unfold szN at hn; split at hn <;> omega
theorem szFl_ok {α : Type} [Inhabited α] {p : α → Prop} (hp : ∀ a, p a) {l : List α} {v : Int} (h0 : 0 ≤ v) (h : v ≤ 1048576) (hn : ¬ szFl l v < 0) : okL p l := ⟨szN_ok h hn, fun k _ => hp _⟩
theorem szF_cons {α : Type} {g : α → Int → Int} {x : α} {r : List α} {v : Int} : szF g (x :: r) v = if g x v < 0 then -1 else szF g r (g x v) := rfl
theorem szF_le {α : Type} {g : α → Int → Int} (hg : ∀ a v, v ≤ 1048576 → g a v ≤ 1048576) : ∀ {l : List α} {v : Int}, v ≤ 1048576 → szF g l v ≤ 1048576
  | [], v, h => h
  | x :: r, v, h => by unfold szF; split; omega; exact szF_le hg (hg x v h)
theorem szLs_le {α : Type} {g : α → Int → Int} (hg : ∀ a v, v ≤ 1048576 → g a v ≤ 1048576) {l : List α} {v : Int} (h : v ≤ 1048576) : szLs g l v ≤ 1048576 := by
  unfold szLs; split; omega; exact szF_le hg (by omega)
theorem szF_ok {α : Type} [Inhabited α] {g : α → Int → Int} {p : α → Prop} (hg : ∀ a v, v ≤ 1048576 → g a v ≤ 1048576) (hp : ∀ a v, 0 ≤ v → v ≤ 1048576 → ¬ g a v < 0 → p a) :
    ∀ {l : List α} {v : Int}, 0 ≤ v → v ≤ 1048576 → ¬ szF g l v < 0 → ∀ k, k < l.length → p (l.getD k default)
  | [], v, h0, h, hn, k, hk => by simp at hk
  | x :: r, v, h0, h, hn, k, hk => by
    unfold szF at hn
    by_cases c : g x v < 0
    · rw [if_pos c] at hn; omega
    rw [if_neg c] at hn
    cases k with
    | zero => exact hp x v h0 h c
    | succ k => exact szF_ok hg hp (by omega) (hg x v h) hn k (by simpa using hk)
theorem szLs_ok {α : Type} [Inhabited α] {g : α → Int → Int} {p : α → Prop} (hg : ∀ a v, v ≤ 1048576 → g a v ≤ 1048576) (hp : ∀ a v, 0 ≤ v → v ≤ 1048576 → ¬ g a v < 0 → p a)
    {l : List α} {v : Int} (h0 : 0 ≤ v) (h : v ≤ 1048576) (hn : ¬ szLs g l v < 0) : okL p l := by
  unfold szLs at hn
  by_cases c : v - l.length < 0
  · rw [if_pos c] at hn; omega
  rw [if_neg c] at hn
  exact ⟨by omega, szF_ok hg hp (by omega) (by omega) hn⟩
theorem szLs_neg {α : Type} {g : α → Int → Int} {l : List α} {v : Int} (h : v - l.length < 0) : (-1 : Int) = szLs g l v := by unfold szLs; rw [if_pos h]

/-- Where the reckoning of a list's sizes stands. -/
structure SzI {α : Type} [Inhabited α] (g : α → Int → Int) (l : List α) (v0 : Int) (k : Nat) : Prop where
  eq : szF g (l.drop k) (szAt g l v0 k) = szF g l v0
  lo : 0 ≤ szAt g l v0 k
  hi : szAt g l v0 k ≤ 1048576
theorem SzI.start {α : Type} [Inhabited α] {g : α → Int → Int} {l : List α} {v0 : Int} (h0 : 0 ≤ v0) (h1 : v0 ≤ 1048576) : SzI g l v0 0 := ⟨rfl, h0, h1⟩
theorem drop_get {α : Type} [Inhabited α] {l : List α} {k : Nat} (hk : k < l.length) : l.drop k = l.getD k default :: l.drop (k + 1) := by
  rw [List.drop_eq_getElem_cons hk, List.getD_eq_getElem?_getD, List.getElem?_eq_getElem hk]; rfl
theorem SzI.step {α : Type} [Inhabited α] {g : α → Int → Int} {l : List α} {v0 : Int} {k : Nat} (hg : ∀ a v, v ≤ 1048576 → g a v ≤ 1048576) (s : SzI g l v0 k) (hk : (k : Int) < (l.length : Int))
    (hn : ¬ g (l.getD k default) (szAt g l v0 k) < 0) : SzI g l v0 (k + 1) := by
  have e := s.eq
  rw [drop_get (by omega)] at e
  rw [szF_cons, if_neg hn] at e
  refine ⟨e, ?_, ?_⟩
  · show 0 ≤ g (l.getD k default) (szAt g l v0 k); omega
  · exact hg _ _ s.hi
theorem SzI.neg {α : Type} [Inhabited α] {g : α → Int → Int} {l : List α} {left : Int} {k : Nat} (s : SzI g l (left - l.length) k) (hk : (k : Int) < (l.length : Int))
    (hn : g (l.getD k default) (szAt g l (left - l.length) k) < 0) (h0 : ¬ left - l.length < 0) : (-1 : Int) = szLs g l left := by
  have e := s.eq
  rw [drop_get (by omega)] at e
  rw [szF_cons, if_pos hn] at e
  unfold szLs
  rw [if_neg h0]
  exact e
theorem SzI.fin {α : Type} [Inhabited α] {g : α → Int → Int} {l : List α} {left : Int} {k : Nat} (s : SzI g l (left - l.length) k) (hk : ¬ (k : Int) < (l.length : Int)) (h0 : ¬ left - l.length < 0) : szAt g l (left - l.length) k = szLs g l left := by
  have e := s.eq
  rw [List.drop_eq_nil_of_le (by omega)] at e
  unfold szLs
  rw [if_neg h0]
  exact e
end Go.Proofs.Ytfjciadhanfhpaa

namespace Go.Proofs.Ytfjciadhanfhpaa
open Go Go.RowKit
set_option linter.unusedVariables false
set_option linter.unusedSimpArgs false

/-- A list, as a slice that its holder alone holds; as a row. -/
def owL {α : Type} [Inhabited α] (sz : Nat) (c : α → List AV) (l : List α) : AV := .ow sz l.length (elE c l)
def rowL {α : Type} [Inhabited α] (sz : Nat) (c : α → List AV) (l : List α) : Row := ⟨sz, l.length, elE c l, .arr⟩
/-- The same cells, those of the first frozen. -/
class Shr (d : outParam Nat) {α : Type} (cO : α → List AV) (c : outParam (α → List AV)) : Prop where
  h : ∀ (H : Hp) (k : Nat) (a : α), WkL ((cO a).map (shrC (k + d) H)) (c a)

theorem pl1_getD {cs : List AV} (h : cs.all pl1 = true) (j : Nat) : pl1 (cs.getD j .any) = true := by
  rw [List.getD_eq_getElem?_getD]
  cases hj : cs[j]? with
  | none => rfl
  | some c => exact List.all_eq_true.1 h c (List.mem_of_getElem? hj)
theorem rowPl_L {α : Type} [Inhabited α] {sz : Nat} {c : α → List AV} {l : List α} (h : ∀ a, (c a).all pl1 = true) : RowPl (rowL sz c l) := ⟨fun i j _ _ => pl1_getD (h _) j⟩
/-- A cell that speaks of no row may be held alone. -/
def idfB : AV → Bool
  | .any | .i .. | .b _ | .kb _ | .s _ | .nils | .nilp | .st _ => true
  | _ => false
theorem idfB_ok {x : AV} (h : idfB x = true) : x.idfO := by cases x <;> first | exact trivial | cases h
/-- An element's cells may be held alone. -/
class HoldC {α : Type} (c : α → List AV) : Prop where
  h : ∀ a j, ((c a).getD j .any).idfO
theorem holdC_plain {α : Type} {c : α → List AV} (h : ∀ a, (c a).all idfB = true) : HoldC c := ⟨fun a j => by
  rw [List.getD_eq_getElem?_getD]
  cases hj : (c a)[j]? with
  | none => exact trivial
  | some x => exact idfB_ok (List.all_eq_true.1 (h a) x (List.mem_of_getElem? hj))⟩
theorem owL_idf {α : Type} [Inhabited α] {sz : Nat} {c : α → List AV} {l : List α} [h : HoldC c] : (owL sz c l).idfO := fun i j _ _ => h.h _ j
/-- An element's cells, one by one. -/
theorem idf_cons {x : AV} {cs : List AV} (hx : x.idfO) (h : ∀ j, (cs.getD j .any).idfO) : ∀ j, ((x :: cs).getD j .any).idfO
  | 0 => hx
  | j + 1 => by simpa using h j
theorem idf_nil : ∀ j, (([] : List AV).getD j .any).idfO := fun j => trivial
theorem rowO_le {α : Type} [Inhabited α] {sz n : Nat} {c : α → List AV} {l : List α} [h : HoldC c] (hn : n ≤ l.length) : RowO n (rowL sz c l) := ⟨hn, fun i j _ _ => h.h _ j⟩
/-- They lean on no memory that stays. -/
class FreeC {α : Type} (c : α → List AV) : Prop where
  h : ∀ a j, noS ((c a).getD j .any)
theorem freeC_plain {α : Type} {c : α → List AV} (h : ∀ a, (c a).all noS1 = true) : FreeC c := ⟨fun a j => by
  rw [List.getD_eq_getElem?_getD]
  cases hj : (c a)[j]? with
  | none => exact trivial
  | some x => exact noS1_ok (List.all_eq_true.1 (h a) x (List.mem_of_getElem? hj))⟩
theorem owL_free {α : Type} [Inhabited α] {sz : Nat} {c : α → List AV} {l : List α} [h : FreeC c] : noS (owL sz c l) := fun i j _ _ => h.h _ j
theorem free_cons {x : AV} {cs : List AV} (hx : noS x) (h : ∀ j, noS (cs.getD j .any)) : ∀ j, noS ((x :: cs).getD j .any)
  | 0 => hx
  | j + 1 => by simpa using h j
theorem free_nil : ∀ j, noS (([] : List AV).getD j .any) := fun j => trivial
theorem rowNs_L {α : Type} [Inhabited α] {sz : Nat} {c : α → List AV} {l : List α} [h : FreeC c] : RowNs (rowL sz c l) := ⟨fun i j _ _ => h.h _ j⟩

/-! ### What a callee sees -/
theorem Conc.nil {w : World} {S : Nat → Prop} {blk blk' : Nat → BC} {x : AV} {u : Value} (h : Conc w S blk [] x u) : Conc w S blk' [] x u := h.mono (fun b hb => ⟨hb, rfl⟩) fun id x hx => by simp at hx
theorem RetM.wk {P : Program} {g : FuncId} {av bs : List AV} {post : AV → Hp → Prop} (h : WkL av bs) (r : RetM P g [] bs post) : RetM P g [] av post := fun w S blk FP us hR hc => by
  refine r w S blk FP us hR ⟨by rw [hc.1, h.1], fun j c u hj hu => ?_⟩
  have hjl : j < av.length := by rw [h.1]; exact (List.getElem?_eq_some_iff.1 hj).1
  have e := List.getElem?_eq_getElem hjl
  exact ((h.2 j _ _ e hj).c w S u (hc.2 j _ u e hu).nil).nil
theorem shr_plain {α : Type} {c : α → List AV} (h : ∀ a, (c a).all stay = true) : Shr 0 c c := ⟨fun H k a => by
  have : (c a).map (shrC (k + 0) H) = c a := by
    conv => rhs; rw [← List.map_id (c a)]
    exact List.map_congr_left fun x hx => stay_eq (List.all_eq_true.1 (h a) x hx)
  rw [this]
  exact ⟨rfl, fun j x y hx hy => by rw [hx] at hy; cases hy; exact .refl _⟩⟩
theorem WkL.getD {xs ys : List AV} (h : WkL xs ys) (j : Nat) : Wk (xs.getD j .any) (ys.getD j .any) := by
  rw [List.getD_eq_getElem?_getD, List.getD_eq_getElem?_getD]
  cases hx : xs[j]? with
  | none =>
    have : ys[j]? = none := by
      rw [List.getElem?_eq_none_iff] at hx ⊢
      rw [← h.1]; exact hx
    rw [this]
    exact .refl _
  | some x =>
    have hj : j < ys.length := by rw [← h.1]; exact (List.getElem?_eq_some_iff.1 hx).1
    rw [List.getElem?_eq_getElem hj]
    exact h.2 j _ _ hx (List.getElem?_eq_getElem hj)
theorem shr_any {k : Nat} {H : Hp} : shrC k H .any = .any := by cases k <;> rfl
/-- A slice that a row or a cell holds, frozen. -/
theorem shr_L {α : Type} [Inhabited α] {d sz k n : Nat} {H : Hp} {cO c : α → List AV} {l : List α} [h : Shr d cO c] (hn : n = l.length) : Wk (.sl sz n fun i j => shrC (k + d) H (elE cO l i j)) (slL sz c l) := by
  subst hn
  refine Wk.sl fun i j hi hj => ?_
  have := (h.h H k (l.getD i default)).getD j
  have e : ((cO (l.getD i default)).map (shrC (k + d) H)).getD j .any = shrC (k + d) H (elE cO l i j) := by
    unfold elE
    generalize cO (l.getD i default) = cs
    rw [List.getD_eq_getElem?_getD, List.getD_eq_getElem?_getD, List.getElem?_map]
    cases cs[j]? with
    | none => exact shr_any.symm
    | some x => rfl
  rw [e] at this
  exact this

theorem shr_ow {α : Type} [Inhabited α] {d sz k : Nat} {H : Hp} {cO c : α → List AV} {l : List α} [h : Shr d cO c] : Wk (shrC (k + (d + 1)) H (owL sz cO l)) (slL sz c l) := by
  show Wk (.sl sz l.length fun i j => shrC (k + d) H (elE cO l i j)) _
  exact shr_L rfl

/-- Rows that speak of no row, one by one. -/
inductive RowsPl : Hp → Prop
  | nil : RowsPl []
  | cons {x : Row} {H : Hp} (h : RowPl x) (r : RowsPl H) : RowsPl (some x :: H)
  | none {H : Hp} (r : RowsPl H) : RowsPl (none :: H)
theorem RowsPl.at {H : Hp} (h : RowsPl H) : ∀ (k : Nat) (x : Row), H[k]? = some (some x) → RowPl x := by
  induction h with
  | nil => intro k x h; simp at h
  | cons h r ih =>
    intro k y hk
    cases k with
    | zero => cases hk; exact h
    | succ k => exact ih k y (by simpa using hk)
  | none r ih =>
    intro k y hk
    cases k with
    | zero => cases hk
    | succ k => exact ih k y (by simpa using hk)
theorem lok_pl {σ : Nat → Nat} {L : Hp} (h : RowsPl L) : LOk σ L L := lok_self h.at
/-- The first rows are kept where they are. -/
theorem keepK {π : List Nat} {H0 : Hp} {n : Nat} (hX : H0.length = n) (h : (List.range n).all (fun k => π[k]? == some k) = true) : ∀ k, k < H0.length → π[k]? = some k := fun k hk => by
  have := List.all_eq_true.1 h k (List.mem_range.2 (by omega))
  simpa using this

/-- A function's end whose only row is the list's. -/
theorem endM_rowL {α : Type} [Inhabited α] {X : Ctx} {sz n : Nat} {c : α → List AV} {l : List α} {y : Nat → Nat → AV} {r : AV} {post : AV → Hp → Prop} (hn : n = l.length) (he : ∀ i j, i < n → j < sz → y i j = elE c l i j) (hp : post r [some (rowL sz c l)]) : EndM X [some ⟨sz, n, y, .arr⟩] r post := by
  subst hn
  exact endM_turn (turn_same (id := 0) (x := rowL sz c l) rfl rfl rfl rfl rfl (fun i j hi hj => (he i j hi hj).symm)) (endM_self hp)

/-! ### Marks -/
def markL {α : Type} (f : α → Int → α × Int) : List α → Int → List α × Int
  | [], k => ([], k)
  | a :: l, k => ((f a k).1 :: (markL f l (f a k).2).1, (markL f l (f a k).2).2)
theorem markL_len {α : Type} {f : α → Int → α × Int} : ∀ (l : List α) (k : Int), (markL f l k).1.length = l.length
  | [], k => rfl
  | a :: l, k => by simp [markL, markL_len l]
theorem markL_snoc {α : Type} {f : α → Int → α × Int} {a : α} : ∀ (l : List α) (k : Int), markL f (l ++ [a]) k = ((markL f l k).1 ++ [(f a (markL f l k).2).1], (f a (markL f l k).2).2)
  | [], k => rfl
  | b :: l, k => by simp [markL, markL_snoc l]
theorem markL_mono {α : Type} {f : α → Int → α × Int} (hf : ∀ a k, k ≤ (f a k).2) : ∀ (l : List α) (k : Int), k ≤ (markL f l k).2
  | [], k => Int.le_refl _
  | a :: l, k => Int.le_trans (hf a k) (markL_mono hf l _)
theorem markL_app {α : Type} {f : α → Int → α × Int} : ∀ (l m : List α) (k : Int), markL f (l ++ m) k = ((markL f l k).1 ++ (markL f m (markL f l k).2).1, (markL f m (markL f l k).2).2)
  | [], m, k => rfl
  | b :: l, m, k => by simp [markL, markL_app l]
theorem markL_idem {α : Type} {f : α → Int → α × Int} (hf : ∀ a k, f (f a k).1 k = f a k) : ∀ (l : List α) (k : Int), markL f (markL f l k).1 k = markL f l k
  | [], k => rfl
  | a :: l, k => by simp [markL, hf, markL_idem hf l]
/-- The first i elements marked. -/
def mkL {α : Type} (f : α → Int → α × Int) (l : List α) (k : Int) (i : Nat) : List α := (markL f (l.take i) k).1 ++ l.drop i
def mkC {α : Type} (f : α → Int → α × Int) (l : List α) (k : Int) (i : Nat) : Int := (markL f (l.take i) k).2
section
variable {α : Type} {f : α → Int → α × Int} {l : List α} {k : Int} {i : Nat}
theorem mkL_zero : mkL f l k 0 = l := by simp [mkL, markL]
theorem mkC_zero : mkC f l k 0 = k := by simp [mkC, markL]
theorem mkL_len : (mkL f l k i).length = l.length := by
  unfold mkL
  rw [List.length_append, markL_len, List.length_take, List.length_drop]
  omega
theorem mkL_at [Inhabited α] (h : i < l.length) : (mkL f l k i).getD i default = l.getD i default := by
  have h1 : (markL f (l.take i) k).1.length = i := by rw [markL_len, List.length_take]; omega
  unfold mkL
  rw [List.getD_eq_getElem?_getD, List.getD_eq_getElem?_getD, List.getElem?_append_right (by omega), h1, Nat.sub_self, List.getElem?_drop, Nat.add_zero]
theorem take_snoc [Inhabited α] (h : i < l.length) : l.take (i + 1) = l.take i ++ [l.getD i default] := by
  rw [List.take_add_one, List.getElem?_eq_getElem h, List.getD_eq_getElem?_getD, List.getElem?_eq_getElem h]; rfl
theorem mkL_succ [Inhabited α] (h : i < l.length) : mkL f l k (i + 1) = (mkL f l k i).set i (f (l.getD i default) (mkC f l k i)).1 := by
  have h1 : (markL f (l.take i) k).1.length = i := by rw [markL_len, List.length_take]; omega
  unfold mkL mkC
  rw [take_snoc h, markL_snoc]
  rw [List.set_append_right _ _ (by omega), h1, Nat.sub_self]
  have : l.drop i = l.getD i default :: l.drop (i + 1) := by
    rw [List.getD_eq_getElem?_getD, List.getElem?_eq_getElem h]
    exact List.drop_eq_getElem_cons h
  rw [this]
  simp
theorem mkC_succ [Inhabited α] (h : i < l.length) : mkC f l k (i + 1) = (f (l.getD i default) (mkC f l k i)).2 := by
  unfold mkC
  rw [take_snoc h, markL_snoc]
theorem mkL_end (h : ¬ i < l.length) : mkL f l k i = (markL f l k).1 := by
  unfold mkL
  rw [List.take_of_length_le (by omega), List.drop_eq_nil_of_le (by omega), List.append_nil]
theorem mkC_end (h : ¬ i < l.length) : mkC f l k i = (markL f l k).2 := by
  unfold mkC
  rw [List.take_of_length_le (by omega)]
theorem mkC_le (hf : ∀ a k, k ≤ (f a k).2) (i : Nat) : mkC f l k i ≤ (markL f l k).2 := by
  unfold mkC
  conv => rhs; rw [← List.take_append_drop i l]
  rw [markL_app]
  exact markL_mono hf _ _
theorem mkC_ge (hf : ∀ a k, k ≤ (f a k).2) (i : Nat) : k ≤ mkC f l k i := markL_mono hf _ _
end

/-! ### Rows behind a round -/
theorem upd_miss {es : Nat → Nat → AV} {i j off : Nat} {cs : List AV} {k : Nat} (h : i ≠ j) : upd es j off cs i k = es i k := upd_out fun q => h q.1
theorem beq_ff {i j : Nat} (h : i ≠ j) : Nat.beq i j = false := by
  cases hb : Nat.beq i j with
  | true => exact absurd (Nat.eq_of_beq_eq_true hb) h
  | false => rfl
theorem getD_set {α : Type} [Inhabited α] {l : List α} {k i : Nat} {a : α} (hk : k < l.length) : (l.set k a).getD i default = if i = k then a else l.getD i default := by
  rw [List.getD_eq_getElem?_getD, List.getD_eq_getElem?_getD]
  by_cases e : i = k
  · subst e; rw [List.getElem?_set_self hk, if_pos rfl]; rfl
  · rw [List.getElem?_set_ne (fun h => e h.symm), if_neg e]
/-- A row whose k-th element is anew. -/
theorem arr_set {α : Type} [Inhabited α] {r : List Nat} {n sz k cap cap' : Nat} {c : α → List AV} {l l' : List α} {a : α} {y : Nat → Nat → AV} {bx : RK} (e : l' = l.set k a) (hk : k < l.length) (hc : cap' = cap) (hlow : ∀ a j, fx r n ((c a).getD j .any) = true)
    (h1 : ∀ j, j < sz → y k j = (c a).getD j .any) (h2 : ∀ i j, i ≠ k → y i j = elE c l i j) : ArrP r n ⟨sz, cap, elE c l', bx⟩ ⟨sz, cap', y, bx⟩ :=
  ⟨rfl, hc, rfl, fun i j hi hj => by
    show y i j = elE c l' i j
    subst e
    unfold elE
    rw [getD_set hk]
    by_cases h : i = k
    · subst h; rw [if_pos rfl]; exact h1 j hj
    · rw [if_neg h]; exact h2 i j h, fun i j _ _ => hlow _ _⟩
theorem fill_end {n i j : Nat} {c z : Nat → Nat → AV} (h : i < n) : fillE n c z i j = c i j := by
  unfold fillE
  rw [show Nat.blt i n = true from Nat.ble_eq_true_of_le h]; rfl
theorem fill_miss {k i j : Nat} {c z : Nat → Nat → AV} (h : i ≠ k) : fillE (k + 1) c z i j = fillE k c z i j := by
  unfold fillE
  have : Nat.blt i (k + 1) = Nat.blt i k := by
    rw [Bool.eq_iff_iff]
    constructor
    · intro h
      have := Nat.le_of_ble_eq_true h
      exact Nat.ble_eq_true_of_le (by omega)
    · intro h
      have := Nat.le_of_ble_eq_true h
      exact Nat.ble_eq_true_of_le (by omega)
  rw [this]
/-- A row that is filled, behind a round. -/
theorem arr_fill {r : List Nat} {n sz cap cap' k : Nat} {c z y : Nat → Nat → AV} {bx : RK} (hc : cap' = cap) (hlow : ∀ i j, fx r n (c i j) = true) (hlow2 : ∀ i j, fx r n (z i j) = true)
    (h1 : ∀ j, j < sz → y k j = c k j) (h2 : ∀ i j, i ≠ k → y i j = fillE k c z i j) : ArrP r n ⟨sz, cap, fillE (k + 1) c z, bx⟩ ⟨sz, cap', y, bx⟩ :=
  ⟨rfl, hc, rfl, fun i j hi hj => by
    show y i j = fillE (k + 1) c z i j
    by_cases h : i = k
    · subst h; rw [fill_end (by omega)]; exact h1 j hj
    · rw [fill_miss h]; exact h2 i j h, fun i j _ _ => low_fill (hlow i j) (hlow2 i j)⟩
/-- A row as it was. -/
theorem rowL_end {α : Type} [Inhabited α] {f : α → Int → α × Int} {l : List α} {k : Int} {i : Nat} {sz : Nat} {c : α → List AV} (h : ¬ i < l.length) : [some (⟨sz, l.length, elE c (mkL f l k i), .arr⟩ : Row)] = [some (rowL sz c (markL f l k).1)] := by
  rw [mkL_end h]; unfold rowL; rw [markL_len]
theorem arr_same {α : Type} [Inhabited α] {r : List Nat} {n sz cap cap' : Nat} {c : α → List AV} {l l' : List α} {bx : RK} (e : l' = l) (hc : cap' = cap) (hlow : ∀ a j, fx r n ((c a).getD j .any) = true) : ArrP r n ⟨sz, cap, elE c l', bx⟩ ⟨sz, cap', elE c l, bx⟩ :=
  ⟨rfl, hc, rfl, fun i j hi hj => by show elE c l i j = elE c l' i j; rw [e], fun i j _ _ => hlow _ _⟩
/-- A value that is marked from k on, or -1. -/
def heldI {α : Type} [DecidableEq α] (a : α) (r : α × Int) : Int := if a = r.1 then r.2 else -1
theorem heldI_eq {α : Type} [DecidableEq α] {a : α} {r : α × Int} (h : a = r.1) : heldI a r = r.2 := if_pos h
theorem heldI_ne {α : Type} [DecidableEq α] {a : α} {r : α × Int} (h : ¬ a = r.1) : heldI a r = -1 := if_neg h
theorem heldI_cases {α : Type} [DecidableEq α] (a : α) (r : α × Int) : (a = r.1 ∧ heldI a r = r.2) ∨ (¬ a = r.1 ∧ heldI a r = -1) := by
  by_cases h : a = r.1
  · exact .inl ⟨h, heldI_eq h⟩
  · exact .inr ⟨h, heldI_ne h⟩
theorem held_at {α : Type} [Inhabited α] {f : α → Int → α × Int} {l : List α} {k : Int} (h : l = (markL f l k).1) {i : Nat} (hi : i < l.length) : l.getD i default = (f (l.getD i default) (mkC f l k i)).1 := by
  have e : (markL f l k).1 = (mkL f l k (i + 1)).take (i + 1) ++ (markL f (l.drop (i + 1)) (mkC f l k (i + 1))).1 := by
    have h1 : (markL f (l.take (i + 1)) k).1.length = i + 1 := by rw [markL_len, List.length_take]; omega
    have h2 := markL_app (f := f) (l.take (i + 1)) (l.drop (i + 1)) k
    rw [List.take_append_drop] at h2
    rw [h2]
    unfold mkL mkC
    dsimp only
    rw [List.take_append_of_le_length (by rw [h1]; exact Nat.le_refl _), List.take_of_length_le (l := (markL f (l.take (i + 1)) k).1) (by rw [h1]; exact Nat.le_refl _)]
  have h2 : (markL f l k).1.getD i default = (f (l.getD i default) (mkC f l k i)).1 := by
    rw [e, List.getD_eq_getElem?_getD, List.getElem?_append_left (by rw [List.length_take, mkL_len]; omega), List.getElem?_take, if_pos (by omega), mkL_succ hi, List.getElem?_set_self (by rw [mkL_len]; exact hi)]
    rfl
  rw [← h2, ← h]
theorem held_all {α : Type} [Inhabited α] {f : α → Int → α × Int} {l : List α} {k : Int} (h : ∀ i, i < l.length → l.getD i default = (f (l.getD i default) (mkC f l k i)).1) : l = (markL f l k).1 := by
  have main : ∀ i, i ≤ l.length → l.take i = (markL f (l.take i) k).1 := by
    intro i
    induction i with
    | zero => intro _; simp [markL]
    | succ i ih =>
      intro hi
      rw [take_snoc (by omega), markL_snoc, ← ih (by omega)]
      have := h i (by omega)
      unfold mkC at this
      rw [← this]
  have := main l.length (Nat.le_refl _)
  rwa [List.take_length] at this
/-- The first i elements are marked. -/
structure HeldUp {α : Type} [Inhabited α] (f : α → Int → α × Int) (l : List α) (k : Int) (i : Nat) : Prop where
  h : ∀ j, j < i → l.getD j default = (f (l.getD j default) (mkC f l k j)).1
theorem heldUp_zero {α : Type} [Inhabited α] {f : α → Int → α × Int} {l : List α} {k : Int} : HeldUp f l k 0 := ⟨fun j h => by omega⟩
theorem heldUp_succ {α : Type} [Inhabited α] {f : α → Int → α × Int} {l : List α} {k : Int} {i : Nat} (h : HeldUp f l k i) (e : l.getD i default = (f (l.getD i default) (mkC f l k i)).1) : HeldUp f l k (i + 1) := ⟨fun j hj => by
  rcases Nat.lt_or_eq_of_le (Nat.le_of_lt_succ hj) with q | rfl
  · exact h.h j q
  · exact e⟩
theorem held_no {α : Type} [Inhabited α] [DecidableEq α] {f : α → Int → α × Int} {l : List α} {k : Int} {i : Nat} (_ : HeldUp f l k i) (hi : i < l.length) (h : ¬ l.getD i default = (f (l.getD i default) (mkC f l k i)).1) : (-1 : Int) = heldI l (markL f l k) := (heldI_ne fun e => h (held_at e hi)).symm
theorem held_end {α : Type} [Inhabited α] [DecidableEq α] {f : α → Int → α × Int} {l : List α} {k : Int} {i : Nat} (h : HeldUp f l k i) (hi : ¬ i < l.length) : mkC f l k i = heldI l (markL f l k) := by
  rw [heldI_eq (held_all fun j hj => h.h j (by omega)), mkC_end hi]
theorem held_rng {α : Type} [Inhabited α] {f : α → Int → α × Int} {l : List α} {k : Int} {i : Nat} (hf : ∀ a k, k ≤ (f a k).2) (h : HeldUp f l k i) (hi : i < l.length) : k ≤ mkC f l k i ∧ (f (l.getD i default) (mkC f l k i)).2 ≤ (markL f l k).2 := by
  refine ⟨mkC_ge hf i, ?_⟩
  rw [← mkC_succ hi]
  exact mkC_le hf _
/-- What is known of the counter while elements are marked. -/
structure MarkUp {α : Type} (f : α → Int → α × Int) (l : List α) (k : Int) (i : Nat) : Prop where
  lo : 0 ≤ mkC f l k i
  mono : ∀ a k, k ≤ (f a k).2
  hi : (markL f l k).2 ≤ 4611686018427387904
theorem markUp_zero {α : Type} {f : α → Int → α × Int} {l : List α} {k : Int} (hf : ∀ a k, k ≤ (f a k).2) (h0 : 0 ≤ k) (hk : (markL f l k).2 ≤ 4611686018427387904) : MarkUp f l k 0 := ⟨by rw [mkC_zero]; exact h0, hf, hk⟩
theorem markUp_succ {α : Type} {f : α → Int → α × Int} {l : List α} {k : Int} {i : Nat} (h : MarkUp f l k i) (h0 : 0 ≤ k) : MarkUp f l k (i + 1) := ⟨Int.le_trans h0 (mkC_ge h.mono _), h.mono, h.hi⟩
theorem MarkUp.le {α : Type} [Inhabited α] {f : α → Int → α × Int} {l : List α} {k : Int} {i : Nat} (h : MarkUp f l k i) (hi : i < l.length) : (f (l.getD i default) (mkC f l k i)).2 ≤ 4611686018427387904 := by
  rw [← mkC_succ hi]
  exact Int.le_trans (mkC_le h.mono _) h.hi
theorem held_get {α : Type} [Inhabited α] {f : α → Int → α × Int} {l : List α} {k : Int} {i : Nat} {p : α → Prop} (_ : HeldUp f l k i) (hi : i < l.length) (h : okL p l) : p (l.getD i default) := h.2 i hi
theorem held_m0 {α : Type} {f : α → Int → α × Int} (hf : ∀ a k, k ≤ (f a k).2) {l : List α} {k B : Int} (_ : (markL f l k).2 ≤ B) : k ≤ (markL f l k).2 := markL_mono hf l k
theorem Wk.nilS0 {α : Type} [Inhabited α] {sz : Nat} {c : α → List AV} : Wk .nils (slL sz c []) := by
  refine ⟨fun _ i j hi _ => ?_, fun w S u h => ?_⟩
  · exact absurd hi (Nat.not_lt_zero _)
  · rw [inv_nils h]
    exact .sl0 none 0 (Nat.zero_le _)
/-- Behind a round, rows said otherwise, step by step. -/
theorem roundNT_turn {X : Ctx} {f0 : Fr} {H0 : Hp} {vs : Nat → Fr} {hp : Nat → List (Option RowI)} {I : Nat → Prop} {n k : Nat} {f' : Fr} {H' H1 : Hp} (t : Turn X H' H1) (h : RoundNT X f0 H0 vs hp I n k f' H1) : RoundNT X f0 H0 vs hp I n k f' H' := by
  obtain ⟨H2, t2, h⟩ := h
  exact ⟨H2, t.trans t2, h⟩
theorem roundNT_end {X : Ctx} {f0 : Fr} {H0 : Hp} {vs : Nat → Fr} {hp : Nat → List (Option RowI)} {I : Nat → Prop} {n k : Nat} {f' : Fr} {H' : Hp} (h : RoundN f0 H0 vs hp I n k f' H') : RoundNT X f0 H0 vs hp I n k f' H' := ⟨H', Turn.refl, h⟩
theorem roundET_turn {α : Type} {X : Ctx} {f0 : Fr} {H0 : Hp} {vs : α → Fr} {hp : α → List (Option RowI)} {I : α → Prop} {μ : α → Nat} {x : α} {f' : Fr} {H' H1 : Hp} (t : Turn X H' H1) (h : RoundEndT X f0 H0 vs hp I μ x f' H1) : RoundEndT X f0 H0 vs hp I μ x f' H' := by
  obtain ⟨H2, t2, h⟩ := h
  exact ⟨H2, t.trans t2, h⟩
theorem roundET_end {α : Type} {X : Ctx} {f0 : Fr} {H0 : Hp} {vs : α → Fr} {hp : α → List (Option RowI)} {I : α → Prop} {μ : α → Nat} {x : α} {f' : Fr} {H' : Hp} (h : RoundEnd X f0 H0 vs hp I μ x f' H') : RoundEndT X f0 H0 vs hp I μ x f' H' := ⟨H', Turn.refl, h⟩
theorem catE_at {n i j : Nat} {es g : Nat → Nat → AV} : catE n es g i j = if i < n then es i j else g (i - n) j := by
  by_cases h : i < n
  · rw [if_pos h, catE_lt h]
  · rw [if_neg h, catE_ge (by omega)]
/-- One element more. -/
theorem getD_snoc {α : Type} [Inhabited α] {l : List α} {a : α} {i : Nat} : (l ++ [a]).getD i default = if i < l.length then l.getD i default else if i = l.length then a else default := by
  rw [List.getD_eq_getElem?_getD, List.getD_eq_getElem?_getD]
  by_cases h : i < l.length
  · rw [if_pos h, List.getElem?_append_left h]
  · rw [if_neg h, List.getElem?_append_right (by omega)]
    by_cases e : i = l.length
    · rw [if_pos e, e, Nat.sub_self]; rfl
    · rw [if_neg e, List.getElem?_eq_none (by simp; omega)]; rfl
theorem snoc_idf {α : Type} [Inhabited α] {k sz : Nat} {c : α → List AV} {l : List α} {g : Nat → Nat → AV} [h : HoldC c] (hk : k = l.length) (hg : ∀ j, j < sz → (g 0 j).idfO) : ∀ i j, i < k + 1 → j < sz → (catE k (elE c l) g i j).idfO := fun i j hi hj => by
  rw [catE_at]
  by_cases h' : i < k
  · rw [if_pos h']; exact h.h _ j
  · rw [if_neg h', show i - k = 0 by omega]; exact hg j hj
theorem snoc_eq {α : Type} [Inhabited α] {k sz : Nat} {c : α → List AV} {l : List α} {a : α} {g : Nat → Nat → AV} (hk : k = l.length) (hg : ∀ j, j < sz → OwEq (g 0 j) ((c a).getD j .any)) : ∀ i j, i < k + 1 → j < sz → OwEq (catE k (elE c l) g i j) (elE c (l ++ [a]) i j) := fun i j hi hj => by
  rw [catE_at]
  unfold elE
  rw [getD_snoc]
  by_cases h' : i < k
  · rw [if_pos h', if_pos (by omega)]; exact .refl _
  · rw [if_neg h', if_neg (by omega), if_pos (by omega), show i - k = 0 by omega]; exact hg j hj
theorem RowBack.L {α : Type} [Inhabited α] {σ : Nat → Nat} {m sz n : Nat} {c : α → List AV} {l : List α} (hn : l.length = n) (h : ∀ a, (c a).all pl1 = true) : RowBack σ m (rowL sz c l) ⟨sz, n, elE c l, .arr⟩ := ⟨rfl, hn, .refl _, fun i j _ _ => ⟨(pl1_ren (pl1_getD (h _) j)).1.symm, pl1_low2 (pl1_getD (h _) j)⟩⟩
theorem markL_at {α : Type} [Inhabited α] {f : α → Int → α × Int} {l : List α} {k : Int} {i : Nat} (hi : i < l.length) : (markL f l k).1.getD i default = (f (l.getD i default) (mkC f l k i)).1 := by
  have h1 : (markL f (l.take (i + 1)) k).1.length = i + 1 := by rw [markL_len, List.length_take]; omega
  have h2 := markL_app (f := f) (l.take (i + 1)) (l.drop (i + 1)) k
  rw [List.take_append_drop] at h2
  rw [h2, List.getD_eq_getElem?_getD, List.getElem?_append_left (by rw [h1]; omega)]
  have h3 := mkL_succ (f := f) (l := l) (k := k) hi
  have h4 : (mkL f l k (i + 1))[i]? = (markL f (l.take (i + 1)) k).1[i]? := by
    unfold mkL
    rw [List.getElem?_append_left (by rw [h1]; omega)]
  rw [← h4, h3, List.getElem?_set_self (by rw [mkL_len]; exact hi)]
  rfl
theorem okL_mark {α : Type} [Inhabited α] {f : α → Int → α × Int} {p : α → Prop} (hp : ∀ a k, p a → p (f a k).1) {l : List α} {k : Int} (h : okL p l) : okL p (markL f l k).1 := ⟨by rw [markL_len]; exact h.1, fun i hi => by
  rw [markL_len] at hi
  rw [markL_at hi]
  exact hp _ _ (h.2 i hi)⟩
end Go.Proofs.Ytfjciadhanfhpaa

namespace Go.Proofs.Ytfjciadhanfhpaa
open Go Go.RowKit
set_option linter.unusedVariables false
set_option linter.unusedSimpArgs false

structure Thing where
  id : Int
  res : Int
  rep : Int
  deriving DecidableEq, Inhabited
def Thing.cs (a : Thing) : List AV := [.i .i64 a.id, .i .i64 a.res, .i .i64 a.rep]
theorem Thing.low (a : Thing) : a.cs.all (low1 0) = true := rfl
theorem Thing.eta {a b : Thing} (h0 : a.id = b.id) (h1 : a.res = b.res) (h2 : a.rep = b.rep) : a = b := by cases a; cases b; simp_all
theorem Thing.etaC {a b : Thing} (h : a.id = b.id ∧ a.res = b.res ∧ a.rep = b.rep) : a = b := by cases a; cases b; simp_all
def Thing.ok (a : Thing) : Prop := True

set_option maxRecDepth 8000 in
theorem toThing_ok (a : Thing) (h : Thing.ok a) : Ret env.P 62 [.agg a.cs] (fun r => r = .agg a.cs) := by
  refine ret_of (nt := 14) (rvs := [.cell 2 82]) Try.func62 rfl rfl rfl rfl (fun X => ?_)
  exact rfl

set_option maxRecDepth 8000 in
theorem eqThing_ok (a b : Thing) (h : Thing.ok a) : Ret env.P 50 [.agg a.cs, .agg b.cs] (fun r => r = .b (decide (a = b))) := by
  obtain ⟨a0, a1, a2⟩ := a
  obtain ⟨b0, b1, b2⟩ := b
  refine ret_of (nt := 20) (rvs := [.tmp 4]) Try.func50 rfl rfl rfl rfl (fun X => ?_)
  repeat' (first | exact aa | ((conv => whnf) <;> (first | refine And.intro ?_ ?_ | (intro _h; first | contradiction | (try simp only [dd] at _h)) | (refine dt_go ?_) | exact rfl | exact True.intro | exact dkk | exact dks | (refine wrap_succ ?_; omega))))
  all_goals (clear h; refine leaf_b ?_; simp_all)

set_option maxRecDepth 8000 in
theorem toThingS_ok (l : List Thing) (h : okL Thing.ok l) : Ret env.P 43 [slL 3 Thing.cs l] (fun r => r = slL 3 Thing.cs l) := by
  have hl := h.1
  refine Ret.to ?_
  refine ret_of (nt := 23) (rvs := [.tmp 2]) Try.func43 rfl rfl rfl rfl (fun X => ?_)
  conv => whnf
  refine ⟨⟨by omega, by omega, by dsimp only; omega, by omega⟩, ?_⟩
  conv => whnf
  refine loopN l.length (fun k => [(4, .i .i64 k)]) (fun k => [some (.arr ⟨3, l.length, fillE k (elE Thing.cs l) (fun _ j => [AV.i .i64 0, AV.i .i64 0, AV.i .i64 0].getD j .any), .arr⟩)]) (fun k => True) ⟨trivial, ?_⟩
  repeat' (first | exact aa | ((conv => whnf) <;> (first | exact arr_start rfl (fun _ _ => low_cells (Thing.low _)) (fun _ _ => low_cells rfl) | exact arr_round rfl rfl (fun _ _ => rfl) (fun _ _ => low_cells (Thing.low _)) (fun _ _ => low_cells rfl) | refine And.intro ?_ ?_ | (intro _h; first | contradiction | (try simp only [dd] at _h)) | (refine dt_go ?_) | exact rfl | exact True.intro | exact dkk | exact dks | ((first | refine .inl ⟨_, toThing_ok _ (h.2 _ (by omega)), ?_⟩ | refine ⟨_, toThing_ok _ (h.2 _ (by omega)), ?_⟩); (try rintro _ rfl)) | (refine wrap_succ ?_; omega))))
  exact wk_fill rfl (by omega) rfl (fun _ => rfl)

set_option maxRecDepth 8000 in
theorem eqThingS_ok (l m : List Thing) (h : okL Thing.ok l) : Ret env.P 25 [slL 3 Thing.cs l, slL 3 Thing.cs m] (fun r => r = .b (decide (l = m))) := by
  have hl := h.1
  refine ret_of (nt := 27) (rvs := [.tmp 4]) Try.func25 rfl rfl rfl rfl (fun X => ?_)
  repeat' (first | exact aa | ((conv => whnf) <;> (first | exact upto_succ (by assumption) (by assumption) | refine loopN l.length (fun k => [(5, .i .i64 k)]) (fun k => []) (fun k => ∀ j, j < k → l.getD j default = m.getD j default) ⟨fun _ h => by omega, ?_⟩ | refine And.intro ?_ ?_ | (intro _h; first | contradiction | (try simp only [dd] at _h)) | (refine dt_go ?_) | exact rfl | exact True.intro | exact dkk | exact dks | ((first | refine .inl ⟨_, eqThing_ok _ _ (h.2 _ (by omega)), ?_⟩ | refine ⟨_, eqThing_ok _ _ (h.2 _ (by omega)), ?_⟩); (try rintro _ rfl)) | (refine wrap_succ ?_; omega))))
  · exact leaf_ne (by rintro rfl; omega)
  · exact leaf_ne (by rintro rfl; contradiction)
  · exact leaf_eq (list_eq (by omega) fun j hj => by have := ‹∀ j, j < _ → l.getD j default = m.getD j default›; exact this j (by omega))

set_option maxRecDepth 8000 in
theorem szThingS_ok (l : List Thing) (left : Int) (h0 : 0 ≤ left) (h1 : left ≤ 1048576) : Ret env.P 38 [slL 3 Thing.cs l, .i .i64 left] (fun r => r = .i .i64 (szFl l left)) := by
  refine Ret.args fun hw => ?_
  have hl := wfs_sl (hw _ (List.mem_cons_self))
  have e : IntKind.i64.wrap (left - (l.length : Int)) = left - (l.length : Int) := wrap_in (by omega) (by omega)
  refine ret_of (nt := 12) (rvs := [.tmp 4]) Try.func38 rfl rfl rfl rfl (fun X => ?_)
  repeat' (first | exact aa | ((conv => whnf) <;> (first | refine And.intro ?_ ?_ | (intro _h; first | contradiction | (try simp only [dd] at _h)) | (refine dt_go ?_) | exact rfl | exact True.intro | exact dkk | exact dks | (refine wrap_succ ?_; omega))))
  all_goals (refine leaf_i ?_; unfold szFl szN; rw [e] at _h; first | rw [if_pos (by omega)] | (rw [if_neg (by omega)]; exact e))

end Go.Proofs.Ytfjciadhanfhpaa

namespace Go.Proofs.Ytfjciadhanfhpaa
open Go Go.RowKit
set_option linter.unusedVariables false
set_option linter.unusedSimpArgs false

structure Entry where
  num : Int
  id : Int
  own : Bool
  lends : Int
  scope : Int
  from_ : Int
  fromNum : Int
  deriving DecidableEq, Inhabited
def Entry.cs (a : Entry) : List AV := [.i .i64 a.num, .i .i64 a.id, .b a.own, .i .i64 a.lends, .i .i64 a.scope, .i .i64 a.from_, .i .i64 a.fromNum]
theorem Entry.low (a : Entry) : a.cs.all (low1 0) = true := rfl
theorem Entry.eta {a b : Entry} (h0 : a.num = b.num) (h1 : a.id = b.id) (h2 : a.own = b.own) (h3 : a.lends = b.lends) (h4 : a.scope = b.scope) (h5 : a.from_ = b.from_) (h6 : a.fromNum = b.fromNum) : a = b := by cases a; cases b; simp_all
theorem Entry.etaC {a b : Entry} (h : a.num = b.num ∧ a.id = b.id ∧ a.own = b.own ∧ a.lends = b.lends ∧ a.scope = b.scope ∧ a.from_ = b.from_ ∧ a.fromNum = b.fromNum) : a = b := by cases a; cases b; simp_all
def Entry.ok (a : Entry) : Prop := True

set_option maxRecDepth 8000 in
theorem toEntry_ok (a : Entry) (h : Entry.ok a) : Ret env.P 94 [.agg a.cs] (fun r => r = .agg a.cs) := by
  refine ret_of (nt := 26) (rvs := [.cell 2 93]) Try.func94 rfl rfl rfl rfl (fun X => ?_)
  exact rfl

set_option maxRecDepth 8000 in
theorem eqEntry_ok (a b : Entry) (h : Entry.ok a) : Ret env.P 92 [.agg a.cs, .agg b.cs] (fun r => r = .b (decide (a = b))) := by
  obtain ⟨a0, a1, a2, a3, a4, a5, a6⟩ := a
  obtain ⟨b0, b1, b2, b3, b4, b5, b6⟩ := b
  refine ret_of (nt := 40) (rvs := [.tmp 4]) Try.func92 rfl rfl rfl rfl (fun X => ?_)
  repeat' (first | exact aa | ((conv => whnf) <;> (first | refine And.intro ?_ ?_ | (intro _h; first | contradiction | (try simp only [dd] at _h)) | (refine dt_go ?_) | exact rfl | exact True.intro | exact dkk | exact dks | (refine wrap_succ ?_; omega))))
  all_goals (clear h; refine leaf_b ?_; simp_all)

set_option maxRecDepth 8000 in
theorem toEntryS_ok (l : List Entry) (h : okL Entry.ok l) : Ret env.P 79 [slL 7 Entry.cs l] (fun r => r = slL 7 Entry.cs l) := by
  have hl := h.1
  refine Ret.to ?_
  refine ret_of (nt := 23) (rvs := [.tmp 2]) Try.func79 rfl rfl rfl rfl (fun X => ?_)
  conv => whnf
  refine ⟨⟨by omega, by omega, by dsimp only; omega, by omega⟩, ?_⟩
  conv => whnf
  refine loopN l.length (fun k => [(4, .i .i64 k)]) (fun k => [some (.arr ⟨7, l.length, fillE k (elE Entry.cs l) (fun _ j => [AV.i .i64 0, AV.i .i64 0, AV.kb false, AV.i .i64 0, AV.i .i64 0, AV.i .i64 0, AV.i .i64 0].getD j .any), .arr⟩)]) (fun k => True) ⟨trivial, ?_⟩
  repeat' (first | exact aa | ((conv => whnf) <;> (first | exact arr_start rfl (fun _ _ => low_cells (Entry.low _)) (fun _ _ => low_cells rfl) | exact arr_round rfl rfl (fun _ _ => rfl) (fun _ _ => low_cells (Entry.low _)) (fun _ _ => low_cells rfl) | refine And.intro ?_ ?_ | (intro _h; first | contradiction | (try simp only [dd] at _h)) | (refine dt_go ?_) | exact rfl | exact True.intro | exact dkk | exact dks | ((first | refine .inl ⟨_, toEntry_ok _ (h.2 _ (by omega)), ?_⟩ | refine ⟨_, toEntry_ok _ (h.2 _ (by omega)), ?_⟩); (try rintro _ rfl)) | (refine wrap_succ ?_; omega))))
  exact wk_fill rfl (by omega) rfl (fun _ => rfl)

set_option maxRecDepth 8000 in
theorem eqEntryS_ok (l m : List Entry) (h : okL Entry.ok l) : Ret env.P 74 [slL 7 Entry.cs l, slL 7 Entry.cs m] (fun r => r = .b (decide (l = m))) := by
  have hl := h.1
  refine ret_of (nt := 27) (rvs := [.tmp 4]) Try.func74 rfl rfl rfl rfl (fun X => ?_)
  repeat' (first | exact aa | ((conv => whnf) <;> (first | exact upto_succ (by assumption) (by assumption) | refine loopN l.length (fun k => [(5, .i .i64 k)]) (fun k => []) (fun k => ∀ j, j < k → l.getD j default = m.getD j default) ⟨fun _ h => by omega, ?_⟩ | refine And.intro ?_ ?_ | (intro _h; first | contradiction | (try simp only [dd] at _h)) | (refine dt_go ?_) | exact rfl | exact True.intro | exact dkk | exact dks | ((first | refine .inl ⟨_, eqEntry_ok _ _ (h.2 _ (by omega)), ?_⟩ | refine ⟨_, eqEntry_ok _ _ (h.2 _ (by omega)), ?_⟩); (try rintro _ rfl)) | (refine wrap_succ ?_; omega))))
  · exact leaf_ne (by rintro rfl; omega)
  · exact leaf_ne (by rintro rfl; contradiction)
  · exact leaf_eq (list_eq (by omega) fun j hj => by have := ‹∀ j, j < _ → l.getD j default = m.getD j default›; exact this j (by omega))

set_option maxRecDepth 8000 in
theorem szEntryS_ok (l : List Entry) (left : Int) (h0 : 0 ≤ left) (h1 : left ≤ 1048576) : Ret env.P 75 [slL 7 Entry.cs l, .i .i64 left] (fun r => r = .i .i64 (szFl l left)) := by
  refine Ret.args fun hw => ?_
  have hl := wfs_sl (hw _ (List.mem_cons_self))
  have e : IntKind.i64.wrap (left - (l.length : Int)) = left - (l.length : Int) := wrap_in (by omega) (by omega)
  refine ret_of (nt := 12) (rvs := [.tmp 4]) Try.func75 rfl rfl rfl rfl (fun X => ?_)
  repeat' (first | exact aa | ((conv => whnf) <;> (first | refine And.intro ?_ ?_ | (intro _h; first | contradiction | (try simp only [dd] at _h)) | (refine dt_go ?_) | exact rfl | exact True.intro | exact dkk | exact dks | (refine wrap_succ ?_; omega))))
  all_goals (refine leaf_i ?_; unfold szFl szN; rw [e] at _h; first | rw [if_pos (by omega)] | (rw [if_neg (by omega)]; exact e))

end Go.Proofs.Ytfjciadhanfhpaa

namespace Go.Proofs.Ytfjciadhanfhpaa
open Go Go.RowKit
set_option linter.unusedVariables false
set_option linter.unusedSimpArgs false

structure Table where
  next : Int
  entries : List Entry
  deriving DecidableEq, Inhabited
def Table.cs (a : Table) : List AV := [.i .i64 a.next, slL 7 Entry.cs a.entries]
theorem Table.low (a : Table) : a.cs.all (low1 0) = true := rfl
theorem Table.eta {a b : Table} (h0 : a.next = b.next) (h1 : a.entries = b.entries) : a = b := by cases a; cases b; simp_all
theorem Table.etaC {a b : Table} (h : a.next = b.next ∧ a.entries = b.entries) : a = b := by cases a; cases b; simp_all
def Table.ok (a : Table) : Prop := (okL Entry.ok) a.entries

set_option maxRecDepth 8000 in
theorem toTable_ok (a : Table) (h : Table.ok a) : Ret env.P 61 [.agg a.cs] (fun r => r = .agg a.cs) := by
  refine ret_of (nt := 12) (rvs := [.cell 2 52]) Try.func61 rfl rfl rfl rfl (fun X => ?_)
  repeat' (first | exact aa | ((conv => whnf) <;> (first | refine And.intro ?_ ?_ | (intro _h; first | contradiction | (try simp only [dd] at _h)) | (refine dt_go ?_) | exact rfl | exact True.intro | exact dkk | exact dks | ((first | refine .inl ⟨_, toEntryS_ok _ h, ?_⟩ | refine ⟨_, toEntryS_ok _ h, ?_⟩); (try rintro _ rfl)) | (refine wrap_succ ?_; omega))))

set_option maxRecDepth 8000 in
theorem eqTable_ok (a b : Table) (h : Table.ok a) : Ret env.P 49 [.agg a.cs, .agg b.cs] (fun r => r = .b (decide (a = b))) := by
  obtain ⟨a0, a1⟩ := a
  obtain ⟨b0, b1⟩ := b
  refine ret_of (nt := 16) (rvs := [.tmp 4]) Try.func49 rfl rfl rfl rfl (fun X => ?_)
  repeat' (first | exact aa | ((conv => whnf) <;> (first | refine And.intro ?_ ?_ | (intro _h; first | contradiction | (try simp only [dd] at _h)) | (refine dt_go ?_) | exact rfl | exact True.intro | exact dkk | exact dks | ((first | refine .inl ⟨_, eqEntryS_ok _ _ h, ?_⟩ | refine ⟨_, eqEntryS_ok _ _ h, ?_⟩); (try rintro _ rfl)) | (refine wrap_succ ?_; omega))))
  all_goals (clear h; refine leaf_b ?_; simp_all)

def Table.sz (a : Table) (left : Int) : Int :=
  if (szFl a.entries left) < 0 then -1 else (szFl a.entries left)
theorem Table.sz_le (a : Table) (left : Int) (h1 : left ≤ 1048576) : Table.sz a left ≤ 1048576 := by
  have b1 : (szFl a.entries left) ≤ 1048576 := szN_le h1
  unfold Table.sz
  repeat' split
  all_goals omega
theorem Table.sz_ok (a : Table) (left : Int) (h0 : 0 ≤ left) (h1 : left ≤ 1048576) (hn : ¬ Table.sz a left < 0) : Table.ok a := by
  have b1 : (szFl a.entries left) ≤ 1048576 := szN_le h1
  unfold Table.sz at hn
  by_cases c1 : (szFl a.entries left) < 0
  · rw [if_pos c1] at hn; omega
  rw [if_neg c1] at hn
  exact szFl_ok (fun _ => trivial) h0 h1 c1

set_option maxRecDepth 8000 in
theorem szTable_ok (a : Table) (left : Int) (h0 : 0 ≤ left) (h1 : left ≤ 1048576) : Ret env.P 54 [.agg a.cs, .i .i64 left] (fun r => r = .i .i64 (Table.sz a left)) := by
  have b1 : (szFl a.entries left) ≤ 1048576 := szN_le h1
  refine ret_of (nt := 12) (rvs := [.tmp 4]) Try.func54 rfl rfl rfl rfl (fun X => ?_)
  repeat' (first | exact aa | ((conv => whnf) <;> (first | refine And.intro ?_ ?_ | (intro _h; first | contradiction | (try simp only [dd] at _h)) | (refine dt_go ?_) | exact rfl | exact True.intro | exact dkk | exact dks | ((first | refine .inl ⟨_, szEntryS_ok _ _ (by omega) (by omega), ?_⟩ | refine ⟨_, szEntryS_ok _ _ (by omega) (by omega), ?_⟩); (try rintro _ rfl)) | (refine wrap_succ ?_; omega))))
  all_goals (refine leaf_i ?_; simp_all [Table.sz]; try (intros; omega))

set_option maxRecDepth 8000 in
theorem toTableS_ok (l : List Table) (h : okL Table.ok l) : Ret env.P 42 [slL 2 Table.cs l] (fun r => r = slL 2 Table.cs l) := by
  have hl := h.1
  refine Ret.to ?_
  refine ret_of (nt := 23) (rvs := [.tmp 2]) Try.func42 rfl rfl rfl rfl (fun X => ?_)
  conv => whnf
  refine ⟨⟨by omega, by omega, by dsimp only; omega, by omega⟩, ?_⟩
  conv => whnf
  refine loopN l.length (fun k => [(4, .i .i64 k)]) (fun k => [some (.arr ⟨2, l.length, fillE k (elE Table.cs l) (fun _ j => [AV.i .i64 0, AV.nils].getD j .any), .arr⟩)]) (fun k => True) ⟨trivial, ?_⟩
  repeat' (first | exact aa | ((conv => whnf) <;> (first | exact arr_start rfl (fun _ _ => low_cells (Table.low _)) (fun _ _ => low_cells rfl) | exact arr_round rfl rfl (fun _ _ => rfl) (fun _ _ => low_cells (Table.low _)) (fun _ _ => low_cells rfl) | refine And.intro ?_ ?_ | (intro _h; first | contradiction | (try simp only [dd] at _h)) | (refine dt_go ?_) | exact rfl | exact True.intro | exact dkk | exact dks | ((first | refine .inl ⟨_, toTable_ok _ (h.2 _ (by omega)), ?_⟩ | refine ⟨_, toTable_ok _ (h.2 _ (by omega)), ?_⟩); (try rintro _ rfl)) | (refine wrap_succ ?_; omega))))
  exact wk_fill rfl (by omega) rfl (fun _ => rfl)

set_option maxRecDepth 8000 in
theorem eqTableS_ok (l m : List Table) (h : okL Table.ok l) : Ret env.P 24 [slL 2 Table.cs l, slL 2 Table.cs m] (fun r => r = .b (decide (l = m))) := by
  have hl := h.1
  refine ret_of (nt := 27) (rvs := [.tmp 4]) Try.func24 rfl rfl rfl rfl (fun X => ?_)
  repeat' (first | exact aa | ((conv => whnf) <;> (first | exact upto_succ (by assumption) (by assumption) | refine loopN l.length (fun k => [(5, .i .i64 k)]) (fun k => []) (fun k => ∀ j, j < k → l.getD j default = m.getD j default) ⟨fun _ h => by omega, ?_⟩ | refine And.intro ?_ ?_ | (intro _h; first | contradiction | (try simp only [dd] at _h)) | (refine dt_go ?_) | exact rfl | exact True.intro | exact dkk | exact dks | ((first | refine .inl ⟨_, eqTable_ok _ _ (h.2 _ (by omega)), ?_⟩ | refine ⟨_, eqTable_ok _ _ (h.2 _ (by omega)), ?_⟩); (try rintro _ rfl)) | (refine wrap_succ ?_; omega))))
  · exact leaf_ne (by rintro rfl; omega)
  · exact leaf_ne (by rintro rfl; contradiction)
  · exact leaf_eq (list_eq (by omega) fun j hj => by have := ‹∀ j, j < _ → l.getD j default = m.getD j default›; exact this j (by omega))

set_option maxRecDepth 8000 in
theorem szTableS_ok (l : List Table) (left : Int) (h0 : 0 ≤ left) (h1 : left ≤ 1048576) : Ret env.P 37 [slL 2 Table.cs l, .i .i64 left] (fun r => r = .i .i64 (szLs Table.sz l left)) := by
  refine Ret.args fun hw => ?_
  have hl := wfs_sl (hw _ (List.mem_cons_self))
  have e : IntKind.i64.wrap (left - (l.length : Int)) = left - (l.length : Int) := wrap_in (by omega) (by omega)
  refine ret_of (nt := 27) (rvs := [.tmp 4]) Try.func37 rfl rfl rfl rfl (fun X => ?_)
  conv => whnf
  rw [e]
  refine ⟨fun _h => ?_, fun _h => ?_⟩
  · exact leaf_i (szLs_neg (of_decide_eq_true _h))
  have _h : ¬ (left - (l.length : Int) < 0) := fun hc => _h (decide_eq_true hc)
  conv => whnf
  refine loopN l.length (fun k => [(5, .i .i64 k), (1, .i .i64 (szAt Table.sz l (left - l.length) k))]) (fun k => []) (fun k => SzI Table.sz l (left - l.length) k) ⟨.start (by omega) (by omega), ?_⟩
  repeat' (first | exact aa | ((conv => whnf) <;> (first | exact SzI.step (fun a v h => Table.sz_le a v h) (by assumption) (by assumption) (by assumption) | refine And.intro ?_ ?_ | (intro _h; first | contradiction | (try simp only [dd] at _h)) | (refine dt_go ?_) | exact rfl | exact True.intro | exact dkk | exact dks | ((first | refine .inl ⟨_, szTable_ok _ _ (SzI.lo ‹_›) (SzI.hi ‹_›), ?_⟩ | refine ⟨_, szTable_ok _ _ (SzI.lo ‹_›) (SzI.hi ‹_›), ?_⟩); (try rintro _ rfl)) | (refine wrap_succ ?_; omega))))
  all_goals first | exact leaf_i (SzI.neg ‹SzI _ _ _ _› (by assumption) (by assumption) (by assumption)) | exact leaf_i (SzI.fin ‹SzI _ _ _ _› (by assumption) (by assumption))

end Go.Proofs.Ytfjciadhanfhpaa

namespace Go.Proofs.Ytfjciadhanfhpaa
open Go Go.RowKit
set_option linter.unusedVariables false
set_option linter.unusedSimpArgs false

structure Shelf where
  next : Int
  tables : List Table
  things : List Thing
  deriving DecidableEq, Inhabited
def Shelf.cs (a : Shelf) : List AV := [.i .i64 a.next, slL 2 Table.cs a.tables, slL 3 Thing.cs a.things]
theorem Shelf.low (a : Shelf) : a.cs.all (low1 0) = true := rfl
theorem Shelf.eta {a b : Shelf} (h0 : a.next = b.next) (h1 : a.tables = b.tables) (h2 : a.things = b.things) : a = b := by cases a; cases b; simp_all
theorem Shelf.etaC {a b : Shelf} (h : a.next = b.next ∧ a.tables = b.tables ∧ a.things = b.things) : a = b := by cases a; cases b; simp_all
def Shelf.ok (a : Shelf) : Prop := (okL Table.ok) a.tables ∧ (okL Thing.ok) a.things

set_option maxRecDepth 8000 in
theorem toShelf_ok (a : Shelf) (h : Shelf.ok a) : Ret env.P 18 [.agg a.cs] (fun r => r = .agg a.cs) := by
  refine ret_of (nt := 16) (rvs := [.cell 2 25]) Try.func18 rfl rfl rfl rfl (fun X => ?_)
  repeat' (first | exact aa | ((conv => whnf) <;> (first | refine And.intro ?_ ?_ | (intro _h; first | contradiction | (try simp only [dd] at _h)) | (refine dt_go ?_) | exact rfl | exact True.intro | exact dkk | exact dks | ((first | refine .inl ⟨_, toTableS_ok _ h.1, ?_⟩ | refine ⟨_, toTableS_ok _ h.1, ?_⟩); (try rintro _ rfl)) | ((first | refine .inl ⟨_, toThingS_ok _ h.2, ?_⟩ | refine ⟨_, toThingS_ok _ h.2, ?_⟩); (try rintro _ rfl)) | (refine wrap_succ ?_; omega))))

set_option maxRecDepth 8000 in
theorem eqShelf_ok (a b : Shelf) (h : Shelf.ok a) : Ret env.P 8 [.agg a.cs, .agg b.cs] (fun r => r = .b (decide (a = b))) := by
  obtain ⟨a0, a1, a2⟩ := a
  obtain ⟨b0, b1, b2⟩ := b
  refine ret_of (nt := 22) (rvs := [.tmp 4]) Try.func8 rfl rfl rfl rfl (fun X => ?_)
  repeat' (first | exact aa | ((conv => whnf) <;> (first | refine And.intro ?_ ?_ | (intro _h; first | contradiction | (try simp only [dd] at _h)) | (refine dt_go ?_) | exact rfl | exact True.intro | exact dkk | exact dks | ((first | refine .inl ⟨_, eqTableS_ok _ _ h.1, ?_⟩ | refine ⟨_, eqTableS_ok _ _ h.1, ?_⟩); (try rintro _ rfl)) | ((first | refine .inl ⟨_, eqThingS_ok _ _ h.2, ?_⟩ | refine ⟨_, eqThingS_ok _ _ h.2, ?_⟩); (try rintro _ rfl)) | (refine wrap_succ ?_; omega))))
  all_goals (clear h; refine leaf_b ?_; simp_all)

def Shelf.sz (a : Shelf) (left : Int) : Int :=
  if ((szLs Table.sz) a.tables left) < 0 then -1 else if (szFl a.things ((szLs Table.sz) a.tables left)) < 0 then -1 else (szFl a.things ((szLs Table.sz) a.tables left))
theorem Shelf.sz_le (a : Shelf) (left : Int) (h1 : left ≤ 1048576) : Shelf.sz a left ≤ 1048576 := by
  have b1 : ((szLs Table.sz) a.tables left) ≤ 1048576 := szLs_le (fun a v h => Table.sz_le a v h) h1
  have b2 : (szFl a.things ((szLs Table.sz) a.tables left)) ≤ 1048576 := szN_le b1
  unfold Shelf.sz
  repeat' split
  all_goals omega
theorem Shelf.sz_ok (a : Shelf) (left : Int) (h0 : 0 ≤ left) (h1 : left ≤ 1048576) (hn : ¬ Shelf.sz a left < 0) : Shelf.ok a := by
  have b1 : ((szLs Table.sz) a.tables left) ≤ 1048576 := szLs_le (fun a v h => Table.sz_le a v h) h1
  have b2 : (szFl a.things ((szLs Table.sz) a.tables left)) ≤ 1048576 := szN_le b1
  unfold Shelf.sz at hn
  by_cases c1 : ((szLs Table.sz) a.tables left) < 0
  · rw [if_pos c1] at hn; omega
  rw [if_neg c1] at hn
  by_cases c2 : (szFl a.things ((szLs Table.sz) a.tables left)) < 0
  · rw [if_pos c2] at hn; omega
  rw [if_neg c2] at hn
  exact ⟨szLs_ok (fun a v h => Table.sz_le a v h) (fun a v h0 h1 hn => Table.sz_ok a v h0 h1 hn) h0 h1 c1, szFl_ok (fun _ => trivial) (by omega) b1 c2⟩

set_option maxRecDepth 8000 in
theorem szShelf_ok (a : Shelf) (left : Int) (h0 : 0 ≤ left) (h1 : left ≤ 1048576) : Ret env.P 16 [.agg a.cs, .i .i64 left] (fun r => r = .i .i64 (Shelf.sz a left)) := by
  have b1 : ((szLs Table.sz) a.tables left) ≤ 1048576 := szLs_le (fun a v h => Table.sz_le a v h) h1
  have b2 : (szFl a.things ((szLs Table.sz) a.tables left)) ≤ 1048576 := szN_le b1
  refine ret_of (nt := 18) (rvs := [.tmp 4]) Try.func16 rfl rfl rfl rfl (fun X => ?_)
  repeat' (first | exact aa | ((conv => whnf) <;> (first | refine And.intro ?_ ?_ | (intro _h; first | contradiction | (try simp only [dd] at _h)) | (refine dt_go ?_) | exact rfl | exact True.intro | exact dkk | exact dks | ((first | refine .inl ⟨_, szTableS_ok _ _ (by omega) (by omega), ?_⟩ | refine ⟨_, szTableS_ok _ _ (by omega) (by omega), ?_⟩); (try rintro _ rfl)) | ((first | refine .inl ⟨_, szThingS_ok _ _ (by omega) (by omega), ?_⟩ | refine ⟨_, szThingS_ok _ _ (by omega) (by omega), ?_⟩); (try rintro _ rfl)) | (refine wrap_succ ?_; omega))))
  all_goals (refine leaf_i ?_; simp_all [Shelf.sz]; try (intros; omega))

end Go.Proofs.Ytfjciadhanfhpaa

namespace Go.Proofs.Ytfjciadhanfhpaa
open Go Go.RowKit
set_option linter.unusedVariables false
set_option linter.unusedSimpArgs false

instance : HoldC Entry.cs := holdC_plain fun _ => rfl
instance : FreeC Entry.cs := freeC_plain fun _ => rfl
instance : Shr 0 Entry.cs Entry.cs := shr_plain fun _ => rfl

def Entry.mkE (a : Entry) (k : Int) : Entry × Int := (⟨k, (k + 1), decide (Int.tmod ((k + 1) + 1) 3 = 0), (((k + 1) + 1) + 1), ((((k + 1) + 1) + 1) + 1), (((((k + 1) + 1) + 1) + 1) + 1), ((((((k + 1) + 1) + 1) + 1) + 1) + 1)⟩, (((((((k + 1) + 1) + 1) + 1) + 1) + 1) + 1))
theorem Entry.mkE_mono (a : Entry) (k : Int) : k ≤ (Entry.mkE a k).2 := by simp only [Entry.mkE]; omega
theorem Entry.mkE_ok (a : Entry) (k : Int) (h : Entry.ok a) : Entry.ok (Entry.mkE a k).1 := trivial
theorem Entry.mkE_idem (a : Entry) (k : Int) : Entry.mkE (Entry.mkE a k).1 k = Entry.mkE a k := by simp only [Entry.mkE]

set_option maxRecDepth 8000 in
theorem toEntrySO_ok (l : List Entry) (h : okL Entry.ok l) : RetM env.P 79 [] [slL 7 Entry.cs l] (fun r H => r = .row 0 l.length ∧ H = [some (rowL 7 Entry.cs l)]) := by
  have hl := h.1
  refine ret_ofM (nt := 23) (rvs := [.tmp 2]) Try.func79 rfl rfl rfl rfl (fun X hX => ?_)
  conv => whnf
  refine ⟨⟨by omega, by omega, by dsimp only; omega, by omega⟩, ?_⟩
  conv => whnf
  refine loopN l.length (fun k => [(4, .i .i64 k)]) (fun k => [some (.arr ⟨7, l.length, fillE k (elE Entry.cs l) (fun _ j => [AV.i .i64 0, AV.i .i64 0, AV.kb false, AV.i .i64 0, AV.i .i64 0, AV.i .i64 0, AV.i .i64 0].getD j .any), .arr⟩)]) (fun k => True) ⟨trivial, ?_⟩
  repeat' (first | exact aa | ((conv => whnf) <;> (first | exact arr_start rfl (fun _ _ => low_cells rfl) (fun _ _ => low_cells rfl) | exact arr_round rfl rfl (fun _ _ => rfl) (fun _ _ => low_cells rfl) (fun _ _ => low_cells rfl) | refine And.intro ?_ ?_ | (intro _h; first | contradiction | (try simp only [dd] at _h)) | (refine dt_go ?_) | exact rfl | exact True.intro | exact dkk | exact dks | ((first | refine .inl ⟨_, toEntry_ok _ (h.2 _ (by omega)), ?_⟩ | refine ⟨_, toEntry_ok _ (h.2 _ (by omega)), ?_⟩); (try rintro _ rfl)) | (refine wrap_succ ?_; omega))))
  exact endM_rowL (l := l) (c := Entry.cs) rfl (fun i j hi hj => fill_end (by omega)) ⟨rfl, rfl⟩

set_option maxRecDepth 8000 in
theorem markEntryS_ok (l : List Entry) (k : Int) (h0 : 0 ≤ k) (hk : (markL Entry.mkE l k).2 ≤ 4611686018427387904) (hl : l.length ≤ 1048576) : RetM env.P 51 [some (rowL 7 Entry.cs l)] [.row 0 l.length, .i .i64 k] (fun r H => r = .i .i64 (markL Entry.mkE l k).2 ∧ H = [some (rowL 7 Entry.cs (markL Entry.mkE l k).1)]) := by
  refine ret_ofM (nt := 64) (rvs := [.tmp 4]) Try.func51 rfl rfl rfl rfl (fun X hX => ?_)
  conv => whnf
  refine loopN l.length (fun i => [(5, .i .i64 i), (1, .i .i64 (mkC Entry.mkE l k i))]) (fun i => [some (.arr ⟨7, l.length, elE Entry.cs (mkL Entry.mkE l k i), .arr⟩)]) (fun i => True) ⟨trivial, ?_⟩
  repeat' (first | exact aa | ((conv => whnf) <;> (first | exact mkC_zero.symm | exact arr_same mkL_zero rfl (fun a j => low_cells rfl) | refine And.intro ?_ ?_ | (intro _h; first | contradiction | (try simp only [dd] at _h)) | (refine dt_go ?_) | exact rfl | exact True.intro | exact dkk | exact dks | (refine wrap_succ ?_; omega))))
  · rename_i i _ _
    have q1 := mkC_le (l := l) (k := k) Entry.mkE_mono (i + 1)
    have q2 := mkC_ge (l := l) (k := k) Entry.mkE_mono i
    rw [mkC_succ (by omega)] at q1
    rw [mkC_succ (by omega)]
    simp only [Entry.mkE] at q1 ⊢
    simp (disch := omega) only [wrap_in]
  · rename_i i _ _
    have q1 := mkC_le (l := l) (k := k) Entry.mkE_mono (i + 1)
    have q2 := mkC_ge (l := l) (k := k) Entry.mkE_mono i
    rw [mkC_succ (by omega)] at q1
    simp only [Entry.mkE] at q1
    conv => whnf
    refine arr_set (mkL_succ (by omega)) (by rw [mkL_len]; omega) rfl (fun a j => low_cells rfl) ?_ ?_
    · intro j hj
      rcases (show j = 0 ∨ j = 1 ∨ j = 2 ∨ j = 3 ∨ j = 4 ∨ j = 5 ∨ j = 6 by omega) with rfl | rfl | rfl | rfl | rfl | rfl | rfl
      all_goals (simp (disch := omega) only [upd, Nat.beq_refl, wrap_in, Int.toNat_natCast]; rfl)
    · intro a j hne
      simp only [upd, beq_ff hne, Bool.and_false, cond_false, Int.toNat_natCast]
  · exact endM_self ⟨congrArg _ (mkC_end (by omega)), rowL_end (by omega)⟩

set_option maxRecDepth 8000 in
theorem heldEntryS_ok (l : List Entry) (k : Int) (h0 : 0 ≤ k) (hk : (markL Entry.mkE l k).2 ≤ 4611686018427387904) (hl : l.length ≤ 1048576) : Ret env.P 52 [slL 7 Entry.cs l, .i .i64 k] (fun r => r = .i .i64 (heldI l (markL Entry.mkE l k))) := by
  refine ret_of (nt := 78) (rvs := [.tmp 4]) Try.func52 rfl rfl rfl rfl (fun X => ?_)
  repeat' (first | exact aa | ((conv => whnf) <;> (first | refine loopN l.length (fun i => [(5, .i .i64 i), (1, .i .i64 (mkC Entry.mkE l k i))]) (fun i => []) (fun i => HeldUp Entry.mkE l k i) ⟨heldUp_zero, ?_⟩ | exact mkC_zero.symm | refine And.intro ?_ ?_ | (intro _h; first | contradiction | (try simp only [dd] at _h)) | (refine dt_go ?_) | exact rfl | exact True.intro | exact dkk | exact dks | (refine wrap_succ ?_; omega))))
  all_goals (first | (conv => whnf) | skip)
  all_goals (try simp only [Int.toNat_natCast] at *)
  all_goals first
    | exact leaf_i (held_end ‹HeldUp _ l k _› (by omega))
    | (have q := held_rng Entry.mkE_mono ‹HeldUp Entry.mkE l k _› (by omega)
       simp only [Entry.mkE] at q
       have q1 := q.1
       have q2 := q.2
       clear q
       (try simp (disch := omega) only [wrap_in, bne_iff_ne, ne_eq, bne_eq_false_iff_eq] at *)
       first
         | (rw [mkC_succ (by omega)]; done)
         | (rw [mkC_succ (by omega)]; rfl)
         | exact heldUp_succ ‹_› (Entry.eta ‹_› ‹_› ‹_› ‹_› ‹_› ‹_› ‹_›)
         | (refine leaf_i (held_no ‹HeldUp Entry.mkE l k _› (by omega) fun e => ?_); first | exact _h (congrArg (fun a => a.num) e) | exact _h (congrArg (fun a => a.id) e) | exact _h (congrArg (fun a => a.own) e) | exact _h (congrArg (fun a => a.lends) e) | exact _h (congrArg (fun a => a.scope) e) | exact _h (congrArg (fun a => a.from_) e) | exact _h (congrArg (fun a => a.fromNum) e)))

theorem heldEntryS_or (l : List Entry) (k : Int) (h0 : 0 ≤ k) (hk : (markL Entry.mkE l k).2 ≤ 4611686018427387904) (hl : l.length ≤ 1048576) : Ret env.P 52 [slL 7 Entry.cs l, .i .i64 k] (fun y => (l = (markL Entry.mkE l k).1 ∧ k ≤ (markL Entry.mkE l k).2 ∧ y = .i .i64 (markL Entry.mkE l k).2) ∨ (¬ l = (markL Entry.mkE l k).1 ∧ y = .i .i64 (-1))) :=
  (heldEntryS_ok l k h0 hk hl).mono fun y hy => by
    subst hy
    obtain ⟨h1, h2⟩ | ⟨h1, h2⟩ := heldI_cases l (markL Entry.mkE l k)
    · exact .inl ⟨h1, markL_mono Entry.mkE_mono l k, by rw [h2]⟩
    · exact .inr ⟨h1, by rw [h2]⟩

end Go.Proofs.Ytfjciadhanfhpaa

namespace Go.Proofs.Ytfjciadhanfhpaa
open Go Go.RowKit
set_option linter.unusedVariables false
set_option linter.unusedSimpArgs false

instance : HoldC Thing.cs := holdC_plain fun _ => rfl
instance : FreeC Thing.cs := freeC_plain fun _ => rfl
instance : Shr 0 Thing.cs Thing.cs := shr_plain fun _ => rfl

def Thing.mkE (a : Thing) (k : Int) : Thing × Int := (⟨k, (k + 1), ((k + 1) + 1)⟩, (((k + 1) + 1) + 1))
theorem Thing.mkE_mono (a : Thing) (k : Int) : k ≤ (Thing.mkE a k).2 := by simp only [Thing.mkE]; omega
theorem Thing.mkE_ok (a : Thing) (k : Int) (h : Thing.ok a) : Thing.ok (Thing.mkE a k).1 := trivial
theorem Thing.mkE_idem (a : Thing) (k : Int) : Thing.mkE (Thing.mkE a k).1 k = Thing.mkE a k := by simp only [Thing.mkE]

set_option maxRecDepth 8000 in
theorem toThingSO_ok (l : List Thing) (h : okL Thing.ok l) : RetM env.P 43 [] [slL 3 Thing.cs l] (fun r H => r = .row 0 l.length ∧ H = [some (rowL 3 Thing.cs l)]) := by
  have hl := h.1
  refine ret_ofM (nt := 23) (rvs := [.tmp 2]) Try.func43 rfl rfl rfl rfl (fun X hX => ?_)
  conv => whnf
  refine ⟨⟨by omega, by omega, by dsimp only; omega, by omega⟩, ?_⟩
  conv => whnf
  refine loopN l.length (fun k => [(4, .i .i64 k)]) (fun k => [some (.arr ⟨3, l.length, fillE k (elE Thing.cs l) (fun _ j => [AV.i .i64 0, AV.i .i64 0, AV.i .i64 0].getD j .any), .arr⟩)]) (fun k => True) ⟨trivial, ?_⟩
  repeat' (first | exact aa | ((conv => whnf) <;> (first | exact arr_start rfl (fun _ _ => low_cells rfl) (fun _ _ => low_cells rfl) | exact arr_round rfl rfl (fun _ _ => rfl) (fun _ _ => low_cells rfl) (fun _ _ => low_cells rfl) | refine And.intro ?_ ?_ | (intro _h; first | contradiction | (try simp only [dd] at _h)) | (refine dt_go ?_) | exact rfl | exact True.intro | exact dkk | exact dks | ((first | refine .inl ⟨_, toThing_ok _ (h.2 _ (by omega)), ?_⟩ | refine ⟨_, toThing_ok _ (h.2 _ (by omega)), ?_⟩); (try rintro _ rfl)) | (refine wrap_succ ?_; omega))))
  exact endM_rowL (l := l) (c := Thing.cs) rfl (fun i j hi hj => fill_end (by omega)) ⟨rfl, rfl⟩

set_option maxRecDepth 8000 in
theorem markThingS_ok (l : List Thing) (k : Int) (h0 : 0 ≤ k) (hk : (markL Thing.mkE l k).2 ≤ 4611686018427387904) (hl : l.length ≤ 1048576) : RetM env.P 27 [some (rowL 3 Thing.cs l)] [.row 0 l.length, .i .i64 k] (fun r H => r = .i .i64 (markL Thing.mkE l k).2 ∧ H = [some (rowL 3 Thing.cs (markL Thing.mkE l k).1)]) := by
  refine ret_ofM (nt := 34) (rvs := [.tmp 4]) Try.func27 rfl rfl rfl rfl (fun X hX => ?_)
  conv => whnf
  refine loopN l.length (fun i => [(5, .i .i64 i), (1, .i .i64 (mkC Thing.mkE l k i))]) (fun i => [some (.arr ⟨3, l.length, elE Thing.cs (mkL Thing.mkE l k i), .arr⟩)]) (fun i => True) ⟨trivial, ?_⟩
  repeat' (first | exact aa | ((conv => whnf) <;> (first | exact mkC_zero.symm | exact arr_same mkL_zero rfl (fun a j => low_cells rfl) | refine And.intro ?_ ?_ | (intro _h; first | contradiction | (try simp only [dd] at _h)) | (refine dt_go ?_) | exact rfl | exact True.intro | exact dkk | exact dks | (refine wrap_succ ?_; omega))))
  · rename_i i _ _
    have q1 := mkC_le (l := l) (k := k) Thing.mkE_mono (i + 1)
    have q2 := mkC_ge (l := l) (k := k) Thing.mkE_mono i
    rw [mkC_succ (by omega)] at q1
    rw [mkC_succ (by omega)]
    simp only [Thing.mkE] at q1 ⊢
    simp (disch := omega) only [wrap_in]
  · rename_i i _ _
    have q1 := mkC_le (l := l) (k := k) Thing.mkE_mono (i + 1)
    have q2 := mkC_ge (l := l) (k := k) Thing.mkE_mono i
    rw [mkC_succ (by omega)] at q1
    simp only [Thing.mkE] at q1
    conv => whnf
    refine arr_set (mkL_succ (by omega)) (by rw [mkL_len]; omega) rfl (fun a j => low_cells rfl) ?_ ?_
    · intro j hj
      rcases (show j = 0 ∨ j = 1 ∨ j = 2 by omega) with rfl | rfl | rfl
      all_goals (simp (disch := omega) only [upd, Nat.beq_refl, wrap_in, Int.toNat_natCast]; rfl)
    · intro a j hne
      simp only [upd, beq_ff hne, Bool.and_false, cond_false, Int.toNat_natCast]
  · exact endM_self ⟨congrArg _ (mkC_end (by omega)), rowL_end (by omega)⟩

set_option maxRecDepth 8000 in
theorem markThingS_nil (k : Int) : Ret env.P 27 [.nils, .i .i64 k] (fun r => r = .i .i64 k) := by
  refine ret_of (nt := 34) (rvs := [.tmp 4]) Try.func27 rfl rfl rfl rfl (fun X => ?_)
  repeat' (first | exact aa | ((conv => whnf) <;> (first | refine loopN 0 (fun i => [(5, .i .i64 i), (1, .i .i64 k)]) (fun i => []) (fun i => True) ⟨trivial, ?_⟩ | refine And.intro ?_ ?_ | (intro _h; first | contradiction | (try simp only [dd] at _h)) | (refine dt_go ?_) | exact rfl | exact True.intro | exact dkk | exact dks | (refine wrap_succ ?_; omega))))
  all_goals first | rfl | omega

set_option maxRecDepth 8000 in
theorem heldThingS_ok (l : List Thing) (k : Int) (h0 : 0 ≤ k) (hk : (markL Thing.mkE l k).2 ≤ 4611686018427387904) (hl : l.length ≤ 1048576) : Ret env.P 29 [slL 3 Thing.cs l, .i .i64 k] (fun r => r = .i .i64 (heldI l (markL Thing.mkE l k))) := by
  refine ret_of (nt := 40) (rvs := [.tmp 4]) Try.func29 rfl rfl rfl rfl (fun X => ?_)
  repeat' (first | exact aa | ((conv => whnf) <;> (first | refine loopN l.length (fun i => [(5, .i .i64 i), (1, .i .i64 (mkC Thing.mkE l k i))]) (fun i => []) (fun i => HeldUp Thing.mkE l k i) ⟨heldUp_zero, ?_⟩ | exact mkC_zero.symm | refine And.intro ?_ ?_ | (intro _h; first | contradiction | (try simp only [dd] at _h)) | (refine dt_go ?_) | exact rfl | exact True.intro | exact dkk | exact dks | (refine wrap_succ ?_; omega))))
  all_goals (first | (conv => whnf) | skip)
  all_goals (try simp only [Int.toNat_natCast] at *)
  all_goals first
    | exact leaf_i (held_end ‹HeldUp _ l k _› (by omega))
    | (have q := held_rng Thing.mkE_mono ‹HeldUp Thing.mkE l k _› (by omega)
       simp only [Thing.mkE] at q
       have q1 := q.1
       have q2 := q.2
       clear q
       (try simp (disch := omega) only [wrap_in, bne_iff_ne, ne_eq, bne_eq_false_iff_eq] at *)
       first
         | (rw [mkC_succ (by omega)]; done)
         | (rw [mkC_succ (by omega)]; rfl)
         | exact heldUp_succ ‹_› (Thing.eta ‹_› ‹_› ‹_›)
         | (refine leaf_i (held_no ‹HeldUp Thing.mkE l k _› (by omega) fun e => ?_); first | exact _h (congrArg (fun a => a.id) e) | exact _h (congrArg (fun a => a.res) e) | exact _h (congrArg (fun a => a.rep) e)))

theorem heldThingS_or (l : List Thing) (k : Int) (h0 : 0 ≤ k) (hk : (markL Thing.mkE l k).2 ≤ 4611686018427387904) (hl : l.length ≤ 1048576) : Ret env.P 29 [slL 3 Thing.cs l, .i .i64 k] (fun y => (l = (markL Thing.mkE l k).1 ∧ k ≤ (markL Thing.mkE l k).2 ∧ y = .i .i64 (markL Thing.mkE l k).2) ∨ (¬ l = (markL Thing.mkE l k).1 ∧ y = .i .i64 (-1))) :=
  (heldThingS_ok l k h0 hk hl).mono fun y hy => by
    subst hy
    obtain ⟨h1, h2⟩ | ⟨h1, h2⟩ := heldI_cases l (markL Thing.mkE l k)
    · exact .inl ⟨h1, markL_mono Thing.mkE_mono l k, by rw [h2]⟩
    · exact .inr ⟨h1, by rw [h2]⟩

end Go.Proofs.Ytfjciadhanfhpaa

namespace Go.Proofs.Ytfjciadhanfhpaa
open Go Go.RowKit
set_option linter.unusedVariables false
set_option linter.unusedSimpArgs false

def Table.csO (a : Table) : List AV := [.i .i64 a.next, owL 7 Entry.cs a.entries]
instance : HoldC Table.csO := ⟨fun a => (idf_cons trivial (idf_cons owL_idf idf_nil))⟩
instance : FreeC Table.csO := ⟨fun a => (free_cons trivial (free_cons owL_free free_nil))⟩
instance : Shr 1 Table.csO Table.cs := ⟨fun H k a => (.cons (.refl _) (.cons (shr_ow (d := 0) (k := k + 0)) .nil))⟩

def Table.resO (a : Table) : List AV := [.i .i64 a.next, .row 0 a.entries.length]
def Table.rowsO (a : Table) : Hp := [some (rowL 7 Entry.cs a.entries)]

set_option maxRecDepth 8000 in
theorem toTableO_ok (a : Table) (h : Table.ok a) : RetM env.P 61 [] [.agg a.cs] (fun r H => r = .agg a.resO ∧ H = a.rowsO) := by
  refine ret_ofM (nt := 12) (rvs := [.cell 2 52]) Try.func61 rfl rfl rfl rfl (fun X hX => ?_)
  repeat' (first | exact aa | ((conv => whnf) <;> (first | refine And.intro ?_ ?_ | (intro _h; first | contradiction | (try simp only [dd] at _h)) | (refine dt_go ?_) | exact rfl | exact True.intro | exact dkk | exact dks | (refine .inr (.inl (.inl ⟨[], _, _, _, toEntrySO_ok _ h, (view_of rfl (by repeat' (first | exact ViewL.nil | refine ViewL.cons rfl (RowBack.self ?_) ?_ | exact rowPl_L (fun _ => rfl) | exact rowPl_box rfl))), ⟨rfl, rfl⟩, ?_⟩)); rintro _ _ ⟨rfl, rfl⟩; refine ⟨rfl, _, (lok_pl (by repeat' (first | exact RowsPl.nil | refine RowsPl.cons ?_ ?_ | refine RowsPl.none ?_ | exact rowPl_L (fun _ => rfl) | exact rowPl_box rfl))), ?_⟩) | (refine wrap_succ ?_; omega))))
  exact endM_pick [3] a.rowsO (.agg a.resO) (view_of rfl (by repeat' (first | exact ViewL.nil | refine ViewL.cons rfl (RowBack.self ?_) ?_ | exact rowPl_L (fun _ => rfl) | exact rowPl_box rfl))) rfl rfl (fun k hk => by rw [hX] at hk; exact absurd hk (Nat.not_lt_zero _)) ⟨rfl, rfl⟩

def Table.mkE (a : Table) (k : Int) : Table × Int := (⟨k, (markL Entry.mkE a.entries (k + 1)).1⟩, (markL Entry.mkE a.entries (k + 1)).2)
theorem Table.mkE_mono (a : Table) (k : Int) : k ≤ (Table.mkE a k).2 := by have m0 := markL_mono Entry.mkE_mono a.entries (k + 1); simp only [Table.mkE]; omega
theorem Table.mkE_ok (a : Table) (k : Int) (h : Table.ok a) : Table.ok (Table.mkE a k).1 := (okL_mark Entry.mkE_ok h)
theorem Table.mkE_idem (a : Table) (k : Int) : Table.mkE (Table.mkE a k).1 k = Table.mkE a k := by simp only [Table.mkE, markL_idem Entry.mkE_idem]

set_option maxRecDepth 8000 in
theorem toTableSO_ok (l : List Table) (h : okL Table.ok l) : RetM env.P 42 [] [slL 2 Table.cs l] (fun r H => r = .row 0 l.length ∧ H = [some (rowL 2 Table.csO l)]) := by
  have hl := h.1
  refine ret_ofM (nt := 23) (rvs := [.tmp 2]) Try.func42 rfl rfl rfl rfl (fun X hX => ?_)
  conv => whnf
  refine ⟨⟨by omega, by omega, by dsimp only; omega, by omega⟩, ?_⟩
  conv => whnf
  refine loopNT l.length (fun k => [(4, .i .i64 k)]) (fun k => [some (.arr ⟨2, l.length, fillE k (elE Table.csO l) (fun _ j => [AV.i .i64 0, AV.nils].getD j .any), .arr⟩)]) (fun k => True) ⟨trivial, ?_⟩
  repeat' (first | exact aa | ((conv => whnf) <;> (first | exact arr_start rfl (fun _ _ => low_cells rfl) (fun _ _ => low_cells rfl) | refine And.intro ?_ ?_ | (intro _h; first | contradiction | (try simp only [dd] at _h)) | (refine dt_go ?_) | exact rfl | exact True.intro | exact dkk | exact dks | (refine .inr (.inl (.inl ⟨[], _, _, _, toTableO_ok _ (h.2 _ (by omega)), (view_of rfl (by repeat' (first | exact ViewL.nil | refine ViewL.cons rfl (RowBack.self ?_) ?_ | exact rowPl_L (fun _ => rfl) | exact rowPl_box rfl))), ⟨rfl, rfl⟩, ?_⟩)); rintro _ _ ⟨rfl, rfl⟩; refine ⟨rfl, _, (lok_pl (by repeat' (first | exact RowsPl.nil | refine RowsPl.cons ?_ ?_ | refine RowsPl.none ?_ | exact rowPl_L (fun _ => rfl) | exact rowPl_box rfl))), ?_⟩) | (refine wrap_succ ?_; omega))))
  · have hi : ‹Nat› < l.length := by omega
    refine ⟨_, (turn_close (id := 0) (j := 1) (id' := 1) rfl (by omega) (show 1 < 2 by decide) (by simp only [upd, Nat.beq_refl, Int.toNat_natCast]; rfl) rfl (by decide) rfl (rowO_le (by first | exact Nat.le_refl _ | (simp only [markL_len]; exact Nat.le_refl _)))), ?_⟩
    repeat' (first | exact aa | ((conv => whnf) <;> (first | refine And.intro ?_ ?_ | (intro _h; first | contradiction | (try simp only [dd] at _h)) | (refine dt_go ?_) | exact rfl | exact True.intro | exact dkk | exact dks | (refine wrap_succ ?_; omega))))
    conv => whnf
    refine arr_fill rfl (fun _ _ => low_cells rfl) (fun _ _ => low_cells rfl) ?_ ?_
    · intro j hj
      rcases (show j = 0 ∨ j = 1 by omega) with rfl | rfl
      all_goals (simp only [upd, Nat.beq_refl, Int.toNat_natCast]; rfl)
    · intro a j hne
      simp only [upd, beq_ff hne, Bool.and_false, cond_false, Int.toNat_natCast]
  · exact endM_rowL (l := l) (c := Table.csO) rfl (fun i j hi hj => fill_end (by omega)) ⟨rfl, rfl⟩

set_option maxRecDepth 8000 in
theorem markTableS_ok (l : List Table) (k : Int) (h0 : 0 ≤ k) (hk : (markL Table.mkE l k).2 ≤ 4611686018427387904) (hl : okL Table.ok l) : RetM env.P 26 [some (rowL 2 Table.csO l)] [.row 0 l.length, .i .i64 k] (fun r H => r = .i .i64 (markL Table.mkE l k).2 ∧ H = [some (rowL 2 Table.csO (markL Table.mkE l k).1)]) := by
  have hl1 := hl.1
  refine ret_ofM (nt := 27) (rvs := [.tmp 4]) Try.func26 rfl rfl rfl rfl (fun X hX => ?_)
  conv => whnf
  refine loopNT l.length (fun i => [(5, .i .i64 i), (1, .i .i64 (mkC Table.mkE l k i))]) (fun i => [some (.arr ⟨2, l.length, elE Table.csO (mkL Table.mkE l k i), .arr⟩)]) (fun i => MarkUp Table.mkE l k i) ⟨markUp_zero Table.mkE_mono h0 hk, ?_⟩
  repeat' (first | exact aa | ((conv => whnf) <;> (first | exact mkC_zero.symm | exact arr_same mkL_zero rfl (fun a j => low_cells rfl) | (rename_i i _ hM; have hi : i < l.length := (by omega); have q1 := hM.le hi; have q2 := hM.lo; simp only [Table.mkE] at q1; have m0 := markL_mono Entry.mkE_mono (l.getD i default).entries (mkC Table.mkE l k i + 1); refine .inr (.inl (.inl ⟨[1], _, _, _, markEntryS_ok _ _ (by simp (disch := omega) only [wrap_in, Int.toNat_natCast, mkL_at hi]; omega) (by simp (disch := omega) only [wrap_in, Int.toNat_natCast, mkL_at hi]; omega) (by simp (disch := omega) only [wrap_in, Int.toNat_natCast, mkL_at hi]; exact (hl.2 _ hi).1), (view_of rfl (by repeat' (first | exact ViewL.nil | refine ViewL.cons rfl (RowBack.self ?_) ?_ | exact rowPl_L (fun _ => rfl) | exact rowPl_box rfl))), ⟨rfl, rfl⟩, ?_⟩)); rintro _ _ ⟨rfl, rfl⟩; refine ⟨rfl, _, (lok_pl (by repeat' (first | exact RowsPl.nil | refine RowsPl.cons ?_ ?_ | refine RowsPl.none ?_ | exact rowPl_L (fun _ => rfl) | exact rowPl_box rfl))), ?_⟩) | refine And.intro ?_ ?_ | (intro _h; first | contradiction | (try simp only [dd] at _h)) | (refine dt_go ?_) | exact rfl | exact True.intro | exact dkk | exact dks | (refine wrap_succ ?_; omega))))
  · refine ⟨_, (turn_close (id := 0) (j := 1) (id' := 1) rfl (by omega) (show 1 < 2 by decide) (by simp only [upd, Nat.beq_refl, Int.toNat_natCast]; rfl) rfl (by decide) rfl (rowO_le (by first | exact Nat.le_refl _ | (simp only [markL_len]; exact Nat.le_refl _)))), ?_⟩
    repeat' (first | exact aa | ((conv => whnf) <;> (first | exact markUp_succ hM h0 | refine And.intro ?_ ?_ | (intro _h; first | contradiction | (try simp only [dd] at _h)) | (refine dt_go ?_) | exact rfl | exact True.intro | exact dkk | exact dks | (refine wrap_succ ?_; omega))))
    · rw [mkC_succ hi]
      simp only [Table.mkE]
      simp (disch := omega) only [wrap_in, Int.toNat_natCast, mkL_at hi]
    · conv => whnf
      refine arr_set (mkL_succ hi) (by rw [mkL_len]; omega) rfl (fun a j => low_cells rfl) ?_ ?_
      · intro j hj
        rcases (show j = 0 ∨ j = 1 by omega) with rfl | rfl
        all_goals (simp (disch := omega) only [upd, Nat.beq_refl, wrap_in, Int.toNat_natCast, mkL_at hi, Table.csO, Table.mkE, owL, markL_len]; rfl)
      · intro a j hne
        simp only [upd, beq_ff hne, Bool.and_false, cond_false, Int.toNat_natCast]
  · exact endM_self ⟨congrArg _ (mkC_end (by omega)), rowL_end (by omega)⟩

set_option maxRecDepth 8000 in
theorem markTableS_nil (k : Int) : Ret env.P 26 [.nils, .i .i64 k] (fun r => r = .i .i64 k) := by
  refine ret_of (nt := 27) (rvs := [.tmp 4]) Try.func26 rfl rfl rfl rfl (fun X => ?_)
  repeat' (first | exact aa | ((conv => whnf) <;> (first | refine loopN 0 (fun i => [(5, .i .i64 i), (1, .i .i64 k)]) (fun i => []) (fun i => True) ⟨trivial, ?_⟩ | refine And.intro ?_ ?_ | (intro _h; first | contradiction | (try simp only [dd] at _h)) | (refine dt_go ?_) | exact rfl | exact True.intro | exact dkk | exact dks | (refine wrap_succ ?_; omega))))
  all_goals first | rfl | omega

set_option maxRecDepth 8000 in
theorem heldTableS_ok (l : List Table) (k : Int) (h0 : 0 ≤ k) (hk : (markL Table.mkE l k).2 ≤ 4611686018427387904) (hl : okL Table.ok l) : Ret env.P 28 [slL 2 Table.cs l, .i .i64 k] (fun r => r = .i .i64 (heldI l (markL Table.mkE l k))) := by
  have hl1 := hl.1
  refine ret_of (nt := 31) (rvs := [.tmp 4]) Try.func28 rfl rfl rfl rfl (fun X => ?_)
  repeat' (first | exact aa | ((conv => whnf) <;> (first | refine loopN l.length (fun i => [(5, .i .i64 i), (1, .i .i64 (mkC Table.mkE l k i))]) (fun i => []) (fun i => HeldUp Table.mkE l k i) ⟨heldUp_zero, ?_⟩ | exact mkC_zero.symm | (have hU := ‹HeldUp Table.mkE l k _›; have hq := held_rng Table.mkE_mono hU (by omega); have hok := held_get hU (by omega) hl; simp only [Table.mkE] at hq; have q1 := hq.1; have q2 := hq.2; have m0 := held_m0 Entry.mkE_mono q2; (first | refine .inl ⟨_, heldEntryS_or _ _ (by (try simp (disch := omega) only [wrap_in, Int.toNat_natCast]); omega) (by (try simp (disch := omega) only [wrap_in, Int.toNat_natCast]); omega) hok.1, ?_⟩ | refine ⟨_, heldEntryS_or _ _ (by (try simp (disch := omega) only [wrap_in, Int.toNat_natCast]); omega) (by (try simp (disch := omega) only [wrap_in, Int.toNat_natCast]); omega) hok.1, ?_⟩); clear hU hq hok; rintro _ (⟨_, _, rfl⟩ | ⟨_, rfl⟩)) | refine And.intro ?_ ?_ | (intro _h; first | contradiction | (try simp only [dd] at _h)) | (refine dt_go ?_) | exact rfl | exact True.intro | exact dkk | exact dks | (refine wrap_succ ?_; omega))))
  all_goals (first | (conv => whnf) | skip)
  all_goals (try simp only [Int.toNat_natCast] at *)
  all_goals first
    | exact leaf_i (held_end ‹HeldUp _ l k _› (by omega))
    | (have q := held_rng Table.mkE_mono ‹HeldUp Table.mkE l k _› (by omega)
       simp only [Table.mkE] at q
       have q1 := q.1
       have q2 := q.2
       clear q
       have m0 := held_m0 Entry.mkE_mono q2
       (try simp (disch := omega) only [wrap_in, bne_iff_ne, ne_eq, bne_eq_false_iff_eq] at *)
       first
         | omega
         | (rw [mkC_succ (by omega)]; done)
         | (rw [mkC_succ (by omega)]; rfl)
         | exact heldUp_succ ‹_› (Table.eta ‹_› ‹_›)
         | (refine leaf_i (held_no ‹HeldUp Table.mkE l k _› (by omega) fun e => ?_); first | (have e1 := congrArg (fun a => a.next) e; simp only [Table.mkE] at e1; contradiction) | (have e1 := congrArg (fun a => a.entries) e; simp only [Table.mkE] at e1; contradiction)))

theorem heldTableS_or (l : List Table) (k : Int) (h0 : 0 ≤ k) (hk : (markL Table.mkE l k).2 ≤ 4611686018427387904) (hl : okL Table.ok l) : Ret env.P 28 [slL 2 Table.cs l, .i .i64 k] (fun y => (l = (markL Table.mkE l k).1 ∧ k ≤ (markL Table.mkE l k).2 ∧ y = .i .i64 (markL Table.mkE l k).2) ∨ (¬ l = (markL Table.mkE l k).1 ∧ y = .i .i64 (-1))) :=
  (heldTableS_ok l k h0 hk hl).mono fun y hy => by
    subst hy
    obtain ⟨h1, h2⟩ | ⟨h1, h2⟩ := heldI_cases l (markL Table.mkE l k)
    · exact .inl ⟨h1, markL_mono Table.mkE_mono l k, by rw [h2]⟩
    · exact .inr ⟨h1, by rw [h2]⟩

end Go.Proofs.Ytfjciadhanfhpaa

namespace Go.Proofs.Ytfjciadhanfhpaa
open Go Go.RowKit
set_option linter.unusedVariables false
set_option linter.unusedSimpArgs false

def Shelf.csO (a : Shelf) : List AV := [.i .i64 a.next, owL 2 Table.csO a.tables, owL 3 Thing.cs a.things]
instance : HoldC Shelf.csO := ⟨fun a => (idf_cons trivial (idf_cons owL_idf (idf_cons owL_idf idf_nil)))⟩
instance : FreeC Shelf.csO := ⟨fun a => (free_cons trivial (free_cons owL_free (free_cons owL_free free_nil)))⟩
instance : Shr 2 Shelf.csO Shelf.cs := ⟨fun H k a => (.cons (.refl _) (.cons (shr_ow (d := 1) (k := k + 0)) (.cons (shr_ow (d := 0) (k := k + 1)) .nil)))⟩

def Shelf.resO (a : Shelf) : List AV := [.i .i64 a.next, .row 0 a.tables.length, .row 1 a.things.length]
def Shelf.rowsO (a : Shelf) : Hp := [some (rowL 2 Table.csO a.tables), some (rowL 3 Thing.cs a.things)]

set_option maxRecDepth 8000 in
theorem toShelfO_ok (a : Shelf) (h : Shelf.ok a) : RetM env.P 18 [] [.agg a.cs] (fun r H => r = .agg a.resO ∧ H = a.rowsO) := by
  refine ret_ofM (nt := 16) (rvs := [.cell 2 25]) Try.func18 rfl rfl rfl rfl (fun X hX => ?_)
  repeat' (first | exact aa | ((conv => whnf) <;> (first | refine And.intro ?_ ?_ | (intro _h; first | contradiction | (try simp only [dd] at _h)) | (refine dt_go ?_) | exact rfl | exact True.intro | exact dkk | exact dks | (refine .inr (.inl (.inl ⟨[], _, _, _, toTableSO_ok _ h.1, (view_of rfl (by repeat' (first | exact ViewL.nil | refine ViewL.cons rfl (RowBack.self ?_) ?_ | exact rowPl_L (fun _ => rfl) | exact rowPl_box rfl))), ⟨rfl, rfl⟩, ?_⟩)); rintro _ _ ⟨rfl, rfl⟩; refine ⟨rfl, _, (lok_pl (by repeat' (first | exact RowsPl.nil | refine RowsPl.cons ?_ ?_ | refine RowsPl.none ?_ | exact rowPl_L (fun _ => rfl) | exact rowPl_box rfl))), ?_⟩) | (refine .inr (.inl (.inl ⟨[], _, _, _, toThingSO_ok _ h.2, (view_of rfl (by repeat' (first | exact ViewL.nil | refine ViewL.cons rfl (RowBack.self ?_) ?_ | exact rowPl_L (fun _ => rfl) | exact rowPl_box rfl))), ⟨rfl, rfl⟩, ?_⟩)); rintro _ _ ⟨rfl, rfl⟩; refine ⟨rfl, _, (lok_pl (by repeat' (first | exact RowsPl.nil | refine RowsPl.cons ?_ ?_ | refine RowsPl.none ?_ | exact rowPl_L (fun _ => rfl) | exact rowPl_box rfl))), ?_⟩) | (refine wrap_succ ?_; omega))))
  exact endM_pick [3, 4] a.rowsO (.agg a.resO) (view_of rfl (by repeat' (first | exact ViewL.nil | refine ViewL.cons rfl (RowBack.self ?_) ?_ | exact rowPl_L (fun _ => rfl) | exact rowPl_box rfl))) rfl rfl (fun k hk => by rw [hX] at hk; exact absurd hk (Nat.not_lt_zero _)) ⟨rfl, rfl⟩

def Shelf.mk_ (a : Shelf) (k : Int) : Shelf × Int := (⟨a.next, (markL Table.mkE a.tables k).1, (markL Thing.mkE a.things (markL Table.mkE a.tables k).2).1⟩, (markL Thing.mkE a.things (markL Table.mkE a.tables k).2).2)
theorem Shelf.mk_mono (a : Shelf) (k : Int) : k ≤ (Shelf.mk_ a k).2 := by have m0 := markL_mono Table.mkE_mono a.tables k; have m1 := markL_mono Thing.mkE_mono a.things (markL Table.mkE a.tables k).2; simp only [Shelf.mk_]; omega
theorem Shelf.mk_ok (a : Shelf) (k : Int) (h : Shelf.ok a) : Shelf.ok (Shelf.mk_ a k).1 := ⟨(okL_mark Table.mkE_ok h.1), (okL_mark Thing.mkE_ok h.2)⟩
theorem Shelf.mk_idem (a : Shelf) (k : Int) : Shelf.mk_ (Shelf.mk_ a k).1 k = Shelf.mk_ a k := by simp only [Shelf.mk_, markL_idem Table.mkE_idem, markL_idem Thing.mkE_idem]

set_option maxRecDepth 8000 in
theorem markShelf_ok (a : Shelf) (k : Int) (h0 : 0 ≤ k) (hk : (Shelf.mk_ a k).2 ≤ 4611686018427387904) (h : Shelf.ok a) : RetM env.P 9 a.rowsO [.agg a.resO, .i .i64 k] (fun r H => r = .i .i64 (Shelf.mk_ a k).2 ∧ H = (Shelf.mk_ a k).1.rowsO) := by
  simp only [Shelf.mk_] at hk
  have m0 := markL_mono Table.mkE_mono a.tables k
  have m1 := markL_mono Thing.mkE_mono a.things (markL Table.mkE a.tables k).2
  refine ret_ofM (nt := 14) (rvs := [.tmp 4]) Try.func9 rfl rfl rfl rfl (fun X hX => ?_)
  repeat' (first | exact aa | ((conv => whnf) <;> (first | refine And.intro ?_ ?_ | (intro _h; first | contradiction | (try simp only [dd] at _h)) | (refine dt_go ?_) | exact rfl | exact True.intro | exact dkk | exact dks | (refine .inr (.inl (.inl ⟨[0], _, _, _, markTableS_ok _ k (by omega) (by omega) h.1, (view_of rfl (by repeat' (first | exact ViewL.nil | refine ViewL.cons rfl (RowBack.self ?_) ?_ | exact rowPl_L (fun _ => rfl) | exact rowPl_box rfl))), ⟨rfl, rfl⟩, ?_⟩)); rintro _ _ ⟨rfl, rfl⟩; refine ⟨rfl, _, (lok_pl (by repeat' (first | exact RowsPl.nil | refine RowsPl.cons ?_ ?_ | refine RowsPl.none ?_ | exact rowPl_L (fun _ => rfl) | exact rowPl_box rfl))), ?_⟩) | (refine .inr (.inl (.inl ⟨[1], _, _, _, markThingS_ok _ (markL Table.mkE a.tables k).2 (by omega) (by omega) h.2.1, (view_of rfl (by repeat' (first | exact ViewL.nil | refine ViewL.cons rfl (RowBack.self ?_) ?_ | exact rowPl_L (fun _ => rfl) | exact rowPl_box rfl))), ⟨rfl, rfl⟩, ?_⟩)); rintro _ _ ⟨rfl, rfl⟩; refine ⟨rfl, _, (lok_pl (by repeat' (first | exact RowsPl.nil | refine RowsPl.cons ?_ ?_ | refine RowsPl.none ?_ | exact rowPl_L (fun _ => rfl) | exact rowPl_box rfl))), ?_⟩) | (refine wrap_succ ?_; omega))))
  exact endM_pick [0, 1] (Shelf.mk_ a k).1.rowsO (.i .i64 (Shelf.mk_ a k).2) (view_of rfl (by repeat' (first | exact ViewL.nil | refine ViewL.cons rfl (RowBack.self ?_) ?_ | exact rowPl_L (fun _ => rfl) | exact rowPl_box rfl))) rfl rfl (by rw [hX]; exact keepK (n := 2) rfl rfl) ⟨rfl, rfl⟩

set_option maxRecDepth 8000 in
theorem markShelf_nil (k : Int) : Ret env.P 9 [.agg [AV.i .i64 0, AV.nils, AV.nils], .i .i64 k] (fun r => r = .i .i64 k) := by
  refine ret_of (nt := 14) (rvs := [.tmp 4]) Try.func9 rfl rfl rfl rfl (fun X => ?_)
  repeat' (first | exact aa | ((conv => whnf) <;> (first | refine And.intro ?_ ?_ | (intro _h; first | contradiction | (try simp only [dd] at _h)) | (refine dt_go ?_) | exact rfl | exact True.intro | exact dkk | exact dks | ((first | refine .inl ⟨_, markTableS_nil k, ?_⟩ | refine ⟨_, markTableS_nil k, ?_⟩); (try rintro _ rfl)) | ((first | refine .inl ⟨_, markThingS_nil k, ?_⟩ | refine ⟨_, markThingS_nil k, ?_⟩); (try rintro _ rfl)) | (refine wrap_succ ?_; omega))))
  all_goals rfl

set_option maxRecDepth 8000 in
theorem heldShelf_ok (a : Shelf) (k : Int) (h0 : 0 ≤ k) (hk : (Shelf.mk_ a k).2 ≤ 4611686018427387904) (h : Shelf.ok a) : Ret env.P 10 [.agg a.cs, .i .i64 k] (fun r => r = .i .i64 (heldI a (Shelf.mk_ a k))) := by
  simp only [Shelf.mk_] at hk
  have m0 := markL_mono Table.mkE_mono a.tables k
  have m1 := markL_mono Thing.mkE_mono a.things (markL Table.mkE a.tables k).2
  refine ret_of (nt := 18) (rvs := [.tmp 4]) Try.func10 rfl rfl rfl rfl (fun X => ?_)
  repeat' (first | exact aa | ((conv => whnf) <;> (first | ((first | refine .inl ⟨_, heldTableS_or _ k (by omega) (by omega) h.1, ?_⟩ | refine ⟨_, heldTableS_or _ k (by omega) (by omega) h.1, ?_⟩); rintro _ (⟨_, _, rfl⟩ | ⟨_, rfl⟩)) | ((first | refine .inl ⟨_, heldThingS_or _ (markL Table.mkE a.tables k).2 (by omega) (by omega) h.2.1, ?_⟩ | refine ⟨_, heldThingS_or _ (markL Table.mkE a.tables k).2 (by omega) (by omega) h.2.1, ?_⟩); rintro _ (⟨_, _, rfl⟩ | ⟨_, rfl⟩)) | refine And.intro ?_ ?_ | (intro _h; first | contradiction | (try simp only [dd] at _h)) | (refine dt_go ?_) | exact rfl | exact True.intro | exact dkk | exact dks | (refine wrap_succ ?_; omega))))
  all_goals (first | (conv => whnf) | skip)
  all_goals first
    | omega
    | exact leaf_i (heldI_eq (r := Shelf.mk_ a k) (by simp only [Shelf.mk_]; exact Shelf.eta rfl ‹_› ‹_›)).symm
    | (refine leaf_i (heldI_ne (r := Shelf.mk_ a k) fun e => ?_).symm; first | (have e1 := congrArg (fun a => a.tables) e; simp only [Shelf.mk_] at e1; contradiction) | (have e1 := congrArg (fun a => a.things) e; simp only [Shelf.mk_] at e1; contradiction))
    | trace_state

end Go.Proofs.Ytfjciadhanfhpaa

namespace Go.Proofs.Ytfjciadhanfhpaa
open Go Go.RowKit
set_option linter.unusedVariables false
set_option linter.unusedSimpArgs false

theorem markL_bound {α : Type} {f : α → Int → α × Int} {B : Nat} : ∀ (l : List α), (∀ a ∈ l, ∀ k, (f a k).2 ≤ k + B) → ∀ k, (markL f l k).2 ≤ k + (l.length * B : Nat)
  | [], _, k => by simp [markL]
  | a :: l, h, k => by
    have h1 := markL_bound l (fun b hb => h b (List.mem_cons_of_mem _ hb)) (f a k).2
    have h2 := h a List.mem_cons_self k
    show (markL f l (f a k).2).2 ≤ _
    rw [List.length_cons, Nat.succ_mul]
    omega
theorem okL_mem {α : Type} [Inhabited α] {p : α → Prop} {l : List α} (h : okL p l) {a : α} (ha : a ∈ l) : p a := by
  obtain ⟨i, hi, rfl⟩ := List.mem_iff_getElem.1 ha
  have := h.2 i hi
  rwa [List.getD_eq_getElem?_getD, List.getElem?_eq_getElem hi] at this
theorem entry_bound (a : Entry) (k : Int) : (Entry.mkE a k).2 ≤ k + (7 : Nat) := by simp only [Entry.mkE]; omega
theorem thing_bound (a : Thing) (k : Int) : (Thing.mkE a k).2 ≤ k + (3 : Nat) := by simp only [Thing.mkE]; omega
theorem table_bound (a : Table) (h : a.ok) (k : Int) : (Table.mkE a k).2 ≤ k + (7340033 : Nat) := by
  have h1 := markL_bound (f := Entry.mkE) (B := 7) a.entries (fun b _ => entry_bound b) (k + 1)
  have h2 : a.entries.length ≤ 1048576 := h.1
  simp only [Table.mkE]
  omega
theorem shelf_bound (s : Shelf) (h : s.ok) : (Shelf.mk_ s 1).2 ≤ 4611686018427387904 := by
  have h1 := markL_bound (f := Table.mkE) (B := 7340033) s.tables (fun b hb => table_bound b (okL_mem h.1 hb)) 1
  have h2 := markL_bound (f := Thing.mkE) (B := 3) s.things (fun b _ => thing_bound b) (markL Table.mkE s.tables 1).2
  have h3 : s.tables.length ≤ 1048576 := h.1.1
  have h4 : s.things.length ≤ 1048576 := h.2.1
  simp only [Shelf.mk_]
  omega
end Go.Proofs.Ytfjciadhanfhpaa

