/-
  Values that hold their slices alone: rows of lists, marks and what holds them, as the laws reckon them.
-/
import Derived.Test.YtgjihfinbaopcaaVTBase
namespace Go.Proofs.Ytgjihfinbaopcaa
open Go Go.RowKit
set_option linter.unusedVariables false
set_option linter.unusedSimpArgs false

/-- A list, as a slice that its holder alone holds; as a row. -/
def owL {α : Type} [Inhabited α] (sz : Nat) (c : α → List AV) (l : List α) : AV := .ow sz l.length (elE c l)
def rowL {α : Type} [Inhabited α] (sz : Nat) (c : α → List AV) (l : List α) : Row := ⟨sz, l.length, elE c l, .arr⟩
/-- The same cells, those of the first frozen. -/
class Shr (d : outParam Nat) {α : Type} (cO : α → List AV) (c : outParam (α → List AV)) : Prop where
  h : ∀ (H : Hp) (k : Nat) (a : α), WkL ((cO a).map (shrC (k + d) H)) (c a)

theorem pl1_getD {cs : List AV} (h : cs.all pl1 = true) (j : Nat) : pl1 (cs.getD j .any) = true := by
  rw [List.getD_eq_getElem?_getD]
  cases hj : cs[j]? with
  | none => rfl
  | some c => exact List.all_eq_true.1 h c (List.mem_of_getElem? hj)
theorem rowPl_L {α : Type} [Inhabited α] {sz : Nat} {c : α → List AV} {l : List α} (h : ∀ a, (c a).all pl1 = true) : RowPl (rowL sz c l) := ⟨fun i j _ _ => pl1_getD (h _) j⟩
/-- A cell that speaks of no row may be held alone. -/
def idfB : AV → Bool
  | .any | .i .. | .b _ | .kb _ | .s _ | .nils | .nilp | .st _ => true
  | _ => false
theorem idfB_ok {x : AV} (h : idfB x = true) : x.idfO := by cases x <;> first | exact trivial | cases h
/-- An element's cells may be held alone. -/
class HoldC {α : Type} (c : α → List AV) : Prop where
  h : ∀ a j, ((c a).getD j .any).idfO
theorem holdC_plain {α : Type} {c : α → List AV} (h : ∀ a, (c a).all idfB = true) : HoldC c := ⟨fun a j => by
  rw [List.getD_eq_getElem?_getD]
  cases hj : (c a)[j]? with
  | none => exact trivial
  | some x => exact idfB_ok (List.all_eq_true.1 (h a) x (List.mem_of_getElem? hj))⟩
theorem owL_idf {α : Type} [Inhabited α] {sz : Nat} {c : α → List AV} {l : List α} [h : HoldC c] : (owL sz c l).idfO := fun i j _ _ => h.h _ j
/-- An element's cells, one by one. -/
theorem idf_cons {x : AV} {cs : List AV} (hx : x.idfO) (h : ∀ j, (cs.getD j .any).idfO) : ∀ j, ((x :: cs).getD j .any).idfO
  | 0 => hx
  | j + 1 => by simpa using h j
theorem idf_nil : ∀ j, (([] : List AV).getD j .any).idfO := fun j => trivial
theorem rowO_L {α : Type} [Inhabited α] {sz : Nat} {c : α → List AV} {l : List α} [h : HoldC c] : RowO l.length (rowL sz c l) := ⟨Nat.le_refl _, fun i j _ _ => h.h _ j⟩
theorem rowO_le {α : Type} [Inhabited α] {sz n : Nat} {c : α → List AV} {l : List α} [h : HoldC c] (hn : n ≤ l.length) : RowO n (rowL sz c l) := ⟨hn, fun i j _ _ => h.h _ j⟩
/-- They lean on no memory that stays. -/
class FreeC {α : Type} (c : α → List AV) : Prop where
  h : ∀ a j, noS ((c a).getD j .any)
theorem freeC_plain {α : Type} {c : α → List AV} (h : ∀ a, (c a).all noS1 = true) : FreeC c := ⟨fun a j => by
  rw [List.getD_eq_getElem?_getD]
  cases hj : (c a)[j]? with
  | none => exact trivial
  | some x => exact noS1_ok (List.all_eq_true.1 (h a) x (List.mem_of_getElem? hj))⟩
theorem owL_free {α : Type} [Inhabited α] {sz : Nat} {c : α → List AV} {l : List α} [h : FreeC c] : noS (owL sz c l) := fun i j _ _ => h.h _ j
theorem free_cons {x : AV} {cs : List AV} (hx : noS x) (h : ∀ j, noS (cs.getD j .any)) : ∀ j, noS ((x :: cs).getD j .any)
  | 0 => hx
  | j + 1 => by simpa using h j
theorem free_nil : ∀ j, noS (([] : List AV).getD j .any) := fun j => trivial
theorem rowNs_L {α : Type} [Inhabited α] {sz : Nat} {c : α → List AV} {l : List α} [h : FreeC c] : RowNs (rowL sz c l) := ⟨fun i j _ _ => h.h _ j⟩

/-! ### What a callee sees -/
theorem Conc.nil {w : World} {S : Nat → Prop} {blk blk' : Nat → BC} {x : AV} {u : Value} (h : Conc w S blk [] x u) : Conc w S blk' [] x u := h.mono (fun b hb => ⟨hb, rfl⟩) fun id x hx => by simp at hx
theorem RetM.wk {P : Program} {g : FuncId} {av bs : List AV} {post : AV → Hp → Prop} (h : WkL av bs) (r : RetM P g [] bs post) : RetM P g [] av post := .mk fun w S blk FP us hR hG hc => by
  refine r.h w S blk FP us hR hG ⟨by rw [hc.1, h.1], fun j c u hj hu => ?_⟩
  have hjl : j < av.length := by rw [h.1]; exact (List.getElem?_eq_some_iff.1 hj).1
  have e := List.getElem?_eq_getElem hjl
  exact ((h.2 j _ _ e hj).c w S u (hc.2 j _ u e hu).nil).nil
/-- A contract that writes nothing and hands back what leans on nothing, as one that may write. -/
theorem stay_shr {k : Nat} {H : Hp} {v : AV} (h : stay v = true) : Wk (shrC k H v) v := by rw [stay_eq h]; exact .refl _
theorem shr_plain {α : Type} {c : α → List AV} (h : ∀ a, (c a).all stay = true) : Shr 0 c c := ⟨fun H k a => by
  have : (c a).map (shrC (k + 0) H) = c a := by
    conv => rhs; rw [← List.map_id (c a)]
    exact List.map_congr_left fun x hx => stay_eq (List.all_eq_true.1 (h a) x hx)
  rw [this]
  exact ⟨rfl, fun j x y hx hy => by rw [hx] at hy; cases hy; exact .refl _⟩⟩
theorem WkL.getD {xs ys : List AV} (h : WkL xs ys) (j : Nat) : Wk (xs.getD j .any) (ys.getD j .any) := by
  rw [List.getD_eq_getElem?_getD, List.getD_eq_getElem?_getD]
  cases hx : xs[j]? with
  | none =>
    have : ys[j]? = none := by
      rw [List.getElem?_eq_none_iff] at hx ⊢
      rw [← h.1]; exact hx
    rw [this]
    exact .refl _
  | some x =>
    have hj : j < ys.length := by rw [← h.1]; exact (List.getElem?_eq_some_iff.1 hx).1
    rw [List.getElem?_eq_getElem hj]
    exact h.2 j _ _ hx (List.getElem?_eq_getElem hj)
theorem shr_any {k : Nat} {H : Hp} : shrC k H .any = .any := by cases k <;> rfl
/-- A slice that a row or a cell holds, frozen. -/
theorem shr_L {α : Type} [Inhabited α] {d sz k n : Nat} {H : Hp} {cO c : α → List AV} {l : List α} [h : Shr d cO c] (hn : n = l.length) : Wk (.sl sz n fun i j => shrC (k + d) H (elE cO l i j)) (slL sz c l) := by
  subst hn
  refine Wk.sl fun i j hi hj => ?_
  have := (h.h H k (l.getD i default)).getD j
  have e : ((cO (l.getD i default)).map (shrC (k + d) H)).getD j .any = shrC (k + d) H (elE cO l i j) := by
    unfold elE
    generalize cO (l.getD i default) = cs
    rw [List.getD_eq_getElem?_getD, List.getD_eq_getElem?_getD, List.getElem?_map]
    cases cs[j]? with
    | none => exact shr_any.symm
    | some x => rfl
  rw [e] at this
  exact this

theorem shr_up {d : Nat} {α : Type} {cO c : α → List AV} (h : Shr d cO c) (e : Nat) : Shr (d + e) cO c := ⟨fun H k a => by
  have := h.h H (k + e) a
  rwa [show k + e + d = k + (d + e) by omega] at this⟩
theorem shr_ow {α : Type} [Inhabited α] {d sz k : Nat} {H : Hp} {cO c : α → List AV} {l : List α} [h : Shr d cO c] : Wk (shrC (k + (d + 1)) H (owL sz cO l)) (slL sz c l) := by
  show Wk (.sl sz l.length fun i j => shrC (k + d) H (elE cO l i j)) _
  exact shr_L rfl

/-- Rows that speak of no row, one by one. -/
inductive RowsPl : Hp → Prop
  | nil : RowsPl []
  | cons {x : Row} {H : Hp} (h : RowPl x) (r : RowsPl H) : RowsPl (some x :: H)
  | none {H : Hp} (r : RowsPl H) : RowsPl (none :: H)
theorem RowsPl.at {H : Hp} (h : RowsPl H) : ∀ (k : Nat) (x : Row), H[k]? = some (some x) → RowPl x := by
  induction h with
  | nil => intro k x h; simp at h
  | cons h r ih =>
    intro k y hk
    cases k with
    | zero => cases hk; exact h
    | succ k => exact ih k y (by simpa using hk)
  | none r ih =>
    intro k y hk
    cases k with
    | zero => cases hk
    | succ k => exact ih k y (by simpa using hk)
theorem lok_pl {σ : Nat → Nat} {L : Hp} (h : RowsPl L) : LOk σ L L := lok_self h.at
/-- The first rows are kept where they are. -/
theorem keepK {π : List Nat} {H0 : Hp} {n : Nat} (hX : H0.length = n) (h : (List.range n).all (fun k => π[k]? == some k) = true) : ∀ k, k < H0.length → π[k]? = some k := fun k hk => by
  have := List.all_eq_true.1 h k (List.mem_range.2 (by omega))
  simpa using this

/-- A function's end whose only row is the list's. -/
theorem endM_rowL {α : Type} [Inhabited α] {X : Ctx} {sz n : Nat} {c : α → List AV} {l : List α} {y : Nat → Nat → AV} {r : AV} {post : AV → Hp → Prop} (hn : n = l.length) (he : ∀ i j, i < n → j < sz → y i j = elE c l i j) (hp : post r [some (rowL sz c l)]) : EndM X [some ⟨sz, n, y, .arr⟩] r post := by
  subst hn
  exact endM_turn (turn_same (id := 0) (x := rowL sz c l) rfl rfl rfl rfl rfl (fun i j hi hj => (he i j hi hj).symm)) (endM_self hp)

/-! ### Marks -/
def markL {α : Type} (f : α → Int → α × Int) : List α → Int → List α × Int
  | [], k => ([], k)
  | a :: l, k => ((f a k).1 :: (markL f l (f a k).2).1, (markL f l (f a k).2).2)
theorem markL_len {α : Type} {f : α → Int → α × Int} : ∀ (l : List α) (k : Int), (markL f l k).1.length = l.length
  | [], k => rfl
  | a :: l, k => by simp [markL, markL_len l]
theorem markL_snoc {α : Type} {f : α → Int → α × Int} {a : α} : ∀ (l : List α) (k : Int), markL f (l ++ [a]) k = ((markL f l k).1 ++ [(f a (markL f l k).2).1], (f a (markL f l k).2).2)
  | [], k => rfl
  | b :: l, k => by simp [markL, markL_snoc l]
theorem markL_mono {α : Type} {f : α → Int → α × Int} (hf : ∀ a k, k ≤ (f a k).2) : ∀ (l : List α) (k : Int), k ≤ (markL f l k).2
  | [], k => Int.le_refl _
  | a :: l, k => Int.le_trans (hf a k) (markL_mono hf l _)
theorem markL_app {α : Type} {f : α → Int → α × Int} : ∀ (l m : List α) (k : Int), markL f (l ++ m) k = ((markL f l k).1 ++ (markL f m (markL f l k).2).1, (markL f m (markL f l k).2).2)
  | [], m, k => rfl
  | b :: l, m, k => by simp [markL, markL_app l]
theorem markL_idem {α : Type} {f : α → Int → α × Int} (hf : ∀ a k, f (f a k).1 k = f a k) : ∀ (l : List α) (k : Int), markL f (markL f l k).1 k = markL f l k
  | [], k => rfl
  | a :: l, k => by simp [markL, hf, markL_idem hf l]
/-- The first i elements marked. -/
def mkL {α : Type} (f : α → Int → α × Int) (l : List α) (k : Int) (i : Nat) : List α := (markL f (l.take i) k).1 ++ l.drop i
def mkC {α : Type} (f : α → Int → α × Int) (l : List α) (k : Int) (i : Nat) : Int := (markL f (l.take i) k).2
section
variable {α : Type} {f : α → Int → α × Int} {l : List α} {k : Int} {i : Nat}
theorem mkL_zero : mkL f l k 0 = l := by simp [mkL, markL]
theorem mkC_zero : mkC f l k 0 = k := by simp [mkC, markL]
theorem mkL_len : (mkL f l k i).length = l.length := by
  unfold mkL
  rw [List.length_append, markL_len, List.length_take, List.length_drop]
  omega
theorem mkL_at [Inhabited α] (h : i < l.length) : (mkL f l k i).getD i default = l.getD i default := by
  have h1 : (markL f (l.take i) k).1.length = i := by rw [markL_len, List.length_take]; omega
  unfold mkL
  rw [List.getD_eq_getElem?_getD, List.getD_eq_getElem?_getD, List.getElem?_append_right (by omega), h1, Nat.sub_self, List.getElem?_drop, Nat.add_zero]
theorem take_snoc [Inhabited α] (h : i < l.length) : l.take (i + 1) = l.take i ++ [l.getD i default] := by
  rw [List.take_add_one, List.getElem?_eq_getElem h, List.getD_eq_getElem?_getD, List.getElem?_eq_getElem h]; rfl
theorem mkL_succ [Inhabited α] (h : i < l.length) : mkL f l k (i + 1) = (mkL f l k i).set i (f (l.getD i default) (mkC f l k i)).1 := by
  have h1 : (markL f (l.take i) k).1.length = i := by rw [markL_len, List.length_take]; omega
  unfold mkL mkC
  rw [take_snoc h, markL_snoc]
  rw [List.set_append_right _ _ (by omega), h1, Nat.sub_self]
  have : l.drop i = l.getD i default :: l.drop (i + 1) := by
    rw [List.getD_eq_getElem?_getD, List.getElem?_eq_getElem h]
    exact List.drop_eq_getElem_cons h
  rw [this]
  simp
theorem mkC_succ [Inhabited α] (h : i < l.length) : mkC f l k (i + 1) = (f (l.getD i default) (mkC f l k i)).2 := by
  unfold mkC
  rw [take_snoc h, markL_snoc]
theorem mkL_end (h : ¬ i < l.length) : mkL f l k i = (markL f l k).1 := by
  unfold mkL
  rw [List.take_of_length_le (by omega), List.drop_eq_nil_of_le (by omega), List.append_nil]
theorem mkC_end (h : ¬ i < l.length) : mkC f l k i = (markL f l k).2 := by
  unfold mkC
  rw [List.take_of_length_le (by omega)]
theorem mkC_le (hf : ∀ a k, k ≤ (f a k).2) (i : Nat) : mkC f l k i ≤ (markL f l k).2 := by
  unfold mkC
  conv => rhs; rw [← List.take_append_drop i l]
  rw [markL_app]
  exact markL_mono hf _ _
theorem mkC_ge (hf : ∀ a k, k ≤ (f a k).2) (i : Nat) : k ≤ mkC f l k i := markL_mono hf _ _
end

/-! ### Rows behind a round -/
theorem upd_miss {es : Nat → Nat → AV} {i j off : Nat} {cs : List AV} {k : Nat} (h : i ≠ j) : upd es j off cs i k = es i k := upd_out fun q => h q.1
theorem beq_ff {i j : Nat} (h : i ≠ j) : Nat.beq i j = false := by
  cases hb : Nat.beq i j with
  | true => exact absurd (Nat.eq_of_beq_eq_true hb) h
  | false => rfl
theorem getD_set {α : Type} [Inhabited α] {l : List α} {k i : Nat} {a : α} (hk : k < l.length) : (l.set k a).getD i default = if i = k then a else l.getD i default := by
  rw [List.getD_eq_getElem?_getD, List.getD_eq_getElem?_getD]
  by_cases e : i = k
  · subst e; rw [List.getElem?_set_self hk, if_pos rfl]; rfl
  · rw [List.getElem?_set_ne (fun h => e h.symm), if_neg e]
/-- A row whose k-th element is anew. -/
theorem arr_set {α : Type} [Inhabited α] {r : List Nat} {n sz k cap cap' : Nat} {c : α → List AV} {l l' : List α} {a : α} {y : Nat → Nat → AV} {bx : RK} (e : l' = l.set k a) (hk : k < l.length) (hc : cap' = cap) (hlow : ∀ a j, fx r n ((c a).getD j .any) = true)
    (h1 : ∀ j, j < sz → y k j = (c a).getD j .any) (h2 : ∀ i j, i ≠ k → y i j = elE c l i j) : ArrP r n ⟨sz, cap, elE c l', bx⟩ ⟨sz, cap', y, bx⟩ :=
  ⟨rfl, hc, rfl, fun i j hi hj => by
    show y i j = elE c l' i j
    subst e
    unfold elE
    rw [getD_set hk]
    by_cases h : i = k
    · subst h; rw [if_pos rfl]; exact h1 j hj
    · rw [if_neg h]; exact h2 i j h, fun i j _ _ => hlow _ _⟩
theorem fill_end {n i j : Nat} {c z : Nat → Nat → AV} (h : i < n) : fillE n c z i j = c i j := by
  unfold fillE
  rw [show Nat.blt i n = true from Nat.ble_eq_true_of_le h]; rfl
theorem fill_miss {k i j : Nat} {c z : Nat → Nat → AV} (h : i ≠ k) : fillE (k + 1) c z i j = fillE k c z i j := by
  unfold fillE
  have : Nat.blt i (k + 1) = Nat.blt i k := by
    rw [Bool.eq_iff_iff]
    constructor
    · intro h
      have := Nat.le_of_ble_eq_true h
      exact Nat.ble_eq_true_of_le (by omega)
    · intro h
      have := Nat.le_of_ble_eq_true h
      exact Nat.ble_eq_true_of_le (by omega)
  rw [this]
/-- A row that is filled, behind a round. -/
theorem arr_fill {r : List Nat} {n sz cap cap' k : Nat} {c z y : Nat → Nat → AV} {bx : RK} (hc : cap' = cap) (hlow : ∀ i j, fx r n (c i j) = true) (hlow2 : ∀ i j, fx r n (z i j) = true)
    (h1 : ∀ j, j < sz → y k j = c k j) (h2 : ∀ i j, i ≠ k → y i j = fillE k c z i j) : ArrP r n ⟨sz, cap, fillE (k + 1) c z, bx⟩ ⟨sz, cap', y, bx⟩ :=
  ⟨rfl, hc, rfl, fun i j hi hj => by
    show y i j = fillE (k + 1) c z i j
    by_cases h : i = k
    · subst h; rw [fill_end (by omega)]; exact h1 j hj
    · rw [fill_miss h]; exact h2 i j h, fun i j _ _ => low_fill (hlow i j) (hlow2 i j)⟩
/-- A row as it was. -/
theorem rowL_end {α : Type} [Inhabited α] {f : α → Int → α × Int} {l : List α} {k : Int} {i : Nat} {sz : Nat} {c : α → List AV} (h : ¬ i < l.length) : [some (⟨sz, l.length, elE c (mkL f l k i), .arr⟩ : Row)] = [some (rowL sz c (markL f l k).1)] := by
  rw [mkL_end h]; unfold rowL; rw [markL_len]
theorem arr_same {α : Type} [Inhabited α] {r : List Nat} {n sz cap cap' : Nat} {c : α → List AV} {l l' : List α} {bx : RK} (e : l' = l) (hc : cap' = cap) (hlow : ∀ a j, fx r n ((c a).getD j .any) = true) : ArrP r n ⟨sz, cap, elE c l', bx⟩ ⟨sz, cap', elE c l, bx⟩ :=
  ⟨rfl, hc, rfl, fun i j hi hj => by show elE c l i j = elE c l' i j; rw [e], fun i j _ _ => hlow _ _⟩
/-- A value that is marked from k on, or -1. -/
def heldI {α : Type} [DecidableEq α] (a : α) (r : α × Int) : Int := if a = r.1 then r.2 else -1
theorem heldI_eq {α : Type} [DecidableEq α] {a : α} {r : α × Int} (h : a = r.1) : heldI a r = r.2 := if_pos h
theorem heldI_ne {α : Type} [DecidableEq α] {a : α} {r : α × Int} (h : ¬ a = r.1) : heldI a r = -1 := if_neg h
theorem heldI_cases {α : Type} [DecidableEq α] (a : α) (r : α × Int) : (a = r.1 ∧ heldI a r = r.2) ∨ (¬ a = r.1 ∧ heldI a r = -1) := by
  by_cases h : a = r.1
  · exact .inl ⟨h, heldI_eq h⟩
  · exact .inr ⟨h, heldI_ne h⟩
theorem held_at {α : Type} [Inhabited α] {f : α → Int → α × Int} {l : List α} {k : Int} (h : l = (markL f l k).1) {i : Nat} (hi : i < l.length) : l.getD i default = (f (l.getD i default) (mkC f l k i)).1 := by
  have e : (markL f l k).1 = (mkL f l k (i + 1)).take (i + 1) ++ (markL f (l.drop (i + 1)) (mkC f l k (i + 1))).1 := by
    have h1 : (markL f (l.take (i + 1)) k).1.length = i + 1 := by rw [markL_len, List.length_take]; omega
    have h2 := markL_app (f := f) (l.take (i + 1)) (l.drop (i + 1)) k
    rw [List.take_append_drop] at h2
    rw [h2]
    unfold mkL mkC
    dsimp only
    rw [List.take_append_of_le_length (by rw [h1]; exact Nat.le_refl _), List.take_of_length_le (l := (markL f (l.take (i + 1)) k).1) (by rw [h1]; exact Nat.le_refl _)]
  have h2 : (markL f l k).1.getD i default = (f (l.getD i default) (mkC f l k i)).1 := by
    rw [e, List.getD_eq_getElem?_getD, List.getElem?_append_left (by rw [List.length_take, mkL_len]; omega), List.getElem?_take, if_pos (by omega), mkL_succ hi, List.getElem?_set_self (by rw [mkL_len]; exact hi)]
    rfl
  rw [← h2, ← h]
theorem held_all {α : Type} [Inhabited α] {f : α → Int → α × Int} {l : List α} {k : Int} (h : ∀ i, i < l.length → l.getD i default = (f (l.getD i default) (mkC f l k i)).1) : l = (markL f l k).1 := by
  have main : ∀ i, i ≤ l.length → l.take i = (markL f (l.take i) k).1 := by
    intro i
    induction i with
    | zero => intro _; simp [markL]
    | succ i ih =>
      intro hi
      rw [take_snoc (by omega), markL_snoc, ← ih (by omega)]
      have := h i (by omega)
      unfold mkC at this
      rw [← this]
  have := main l.length (Nat.le_refl _)
  rwa [List.take_length] at this
/-- The first i elements are marked. -/
structure HeldUp {α : Type} [Inhabited α] (f : α → Int → α × Int) (l : List α) (k : Int) (i : Nat) : Prop where
  h : ∀ j, j < i → l.getD j default = (f (l.getD j default) (mkC f l k j)).1
theorem heldUp_zero {α : Type} [Inhabited α] {f : α → Int → α × Int} {l : List α} {k : Int} : HeldUp f l k 0 := ⟨fun j h => by omega⟩
theorem heldUp_succ {α : Type} [Inhabited α] {f : α → Int → α × Int} {l : List α} {k : Int} {i : Nat} (h : HeldUp f l k i) (e : l.getD i default = (f (l.getD i default) (mkC f l k i)).1) : HeldUp f l k (i + 1) := ⟨fun j hj => by
  rcases Nat.lt_or_eq_of_le (Nat.le_of_lt_succ hj) with q | rfl
  · exact h.h j q
  · exact e⟩
theorem held_no {α : Type} [Inhabited α] [DecidableEq α] {f : α → Int → α × Int} {l : List α} {k : Int} {i : Nat} (_ : HeldUp f l k i) (hi : i < l.length) (h : ¬ l.getD i default = (f (l.getD i default) (mkC f l k i)).1) : (-1 : Int) = heldI l (markL f l k) := (heldI_ne fun e => h (held_at e hi)).symm
theorem held_end {α : Type} [Inhabited α] [DecidableEq α] {f : α → Int → α × Int} {l : List α} {k : Int} {i : Nat} (h : HeldUp f l k i) (hi : ¬ i < l.length) : mkC f l k i = heldI l (markL f l k) := by
  rw [heldI_eq (held_all fun j hj => h.h j (by omega)), mkC_end hi]
theorem held_rng {α : Type} [Inhabited α] {f : α → Int → α × Int} {l : List α} {k : Int} {i : Nat} (hf : ∀ a k, k ≤ (f a k).2) (h : HeldUp f l k i) (hi : i < l.length) : k ≤ mkC f l k i ∧ (f (l.getD i default) (mkC f l k i)).2 ≤ (markL f l k).2 := by
  refine ⟨mkC_ge hf i, ?_⟩
  rw [← mkC_succ hi]
  exact mkC_le hf _
/-- What is known of the counter while elements are marked. -/
structure MarkUp {α : Type} (f : α → Int → α × Int) (l : List α) (k : Int) (i : Nat) : Prop where
  lo : 0 ≤ mkC f l k i
  mono : ∀ a k, k ≤ (f a k).2
  hi : (markL f l k).2 ≤ 4611686018427387904
theorem markUp_zero {α : Type} {f : α → Int → α × Int} {l : List α} {k : Int} (hf : ∀ a k, k ≤ (f a k).2) (h0 : 0 ≤ k) (hk : (markL f l k).2 ≤ 4611686018427387904) : MarkUp f l k 0 := ⟨by rw [mkC_zero]; exact h0, hf, hk⟩
theorem markUp_succ {α : Type} {f : α → Int → α × Int} {l : List α} {k : Int} {i : Nat} (h : MarkUp f l k i) (h0 : 0 ≤ k) : MarkUp f l k (i + 1) := ⟨Int.le_trans h0 (mkC_ge h.mono _), h.mono, h.hi⟩
theorem MarkUp.le {α : Type} [Inhabited α] {f : α → Int → α × Int} {l : List α} {k : Int} {i : Nat} (h : MarkUp f l k i) (hi : i < l.length) : (f (l.getD i default) (mkC f l k i)).2 ≤ 4611686018427387904 := by
  rw [← mkC_succ hi]
  exact Int.le_trans (mkC_le h.mono _) h.hi
theorem held_get {α : Type} [Inhabited α] {f : α → Int → α × Int} {l : List α} {k : Int} {i : Nat} {p : α → Prop} (_ : HeldUp f l k i) (hi : i < l.length) (h : okL p l) : p (l.getD i default) := h.2 i hi
theorem held_m0 {α : Type} {f : α → Int → α × Int} (hf : ∀ a k, k ≤ (f a k).2) {l : List α} {k B : Int} (_ : (markL f l k).2 ≤ B) : k ≤ (markL f l k).2 := markL_mono hf l k
theorem held_m1 {α : Type} {f : α → Int → α × Int} (hf : ∀ a k, k ≤ (f a k).2) {l : List α} {k B : Int} (_ : (markL f l k).2 + 1 ≤ B) : k ≤ (markL f l k).2 := markL_mono hf l k
theorem held_m2 {α : Type} {f : α → Int → α × Int} (hf : ∀ a k, k ≤ (f a k).2) {l : List α} {k B : Int} (_ : (markL f l k).2 + 1 + 1 ≤ B) : k ≤ (markL f l k).2 := markL_mono hf l k
theorem held_m3 {α : Type} {f : α → Int → α × Int} (hf : ∀ a k, k ≤ (f a k).2) {l : List α} {k B : Int} (_ : (markL f l k).2 + 1 + 1 + 1 ≤ B) : k ≤ (markL f l k).2 := markL_mono hf l k
theorem held_m4 {α : Type} {f : α → Int → α × Int} (hf : ∀ a k, k ≤ (f a k).2) {l : List α} {k B : Int} (_ : (markL f l k).2 + 1 + 1 + 1 + 1 ≤ B) : k ≤ (markL f l k).2 := markL_mono hf l k
theorem held_m5 {α : Type} {f : α → Int → α × Int} (hf : ∀ a k, k ≤ (f a k).2) {l : List α} {k B : Int} (_ : (markL f l k).2 + 1 + 1 + 1 + 1 + 1 ≤ B) : k ≤ (markL f l k).2 := markL_mono hf l k
theorem held_m6 {α : Type} {f : α → Int → α × Int} (hf : ∀ a k, k ≤ (f a k).2) {l : List α} {k B : Int} (_ : (markL f l k).2 + 1 + 1 + 1 + 1 + 1 + 1 ≤ B) : k ≤ (markL f l k).2 := markL_mono hf l k
theorem held_m7 {α : Type} {f : α → Int → α × Int} (hf : ∀ a k, k ≤ (f a k).2) {l : List α} {k B : Int} (_ : (markL f l k).2 + 1 + 1 + 1 + 1 + 1 + 1 + 1 ≤ B) : k ≤ (markL f l k).2 := markL_mono hf l k
theorem Wk.nilS0 {α : Type} [Inhabited α] {sz : Nat} {c : α → List AV} : Wk .nils (slL sz c []) := by
  refine ⟨fun _ i j hi _ => ?_, fun w S u h => ?_⟩
  · exact absurd hi (Nat.not_lt_zero _)
  · rw [inv_nils h]
    exact .sl0 none 0 (Nat.zero_le _)
/-- Behind a round, rows said otherwise, step by step. -/
theorem roundNT_turn {X : Ctx} {f0 : Fr} {H0 : Hp} {vs : Nat → Fr} {hp : Nat → List (Option RowI)} {I : Nat → Prop} {n k : Nat} {f' : Fr} {H' H1 : Hp} (t : Turn X H' H1) (h : RoundNT X f0 H0 vs hp I n k f' H1) : RoundNT X f0 H0 vs hp I n k f' H' := by
  obtain ⟨H2, t2, h⟩ := h
  exact ⟨H2, t.trans t2, h⟩
theorem roundNT_end {X : Ctx} {f0 : Fr} {H0 : Hp} {vs : Nat → Fr} {hp : Nat → List (Option RowI)} {I : Nat → Prop} {n k : Nat} {f' : Fr} {H' : Hp} (h : RoundN f0 H0 vs hp I n k f' H') : RoundNT X f0 H0 vs hp I n k f' H' := ⟨H', Turn.refl, h⟩
theorem roundET_turn {α : Type} {X : Ctx} {f0 : Fr} {H0 : Hp} {vs : α → Fr} {hp : α → List (Option RowI)} {I : α → Prop} {μ : α → Nat} {x : α} {f' : Fr} {H' H1 : Hp} (t : Turn X H' H1) (h : RoundEndT X f0 H0 vs hp I μ x f' H1) : RoundEndT X f0 H0 vs hp I μ x f' H' := by
  obtain ⟨H2, t2, h⟩ := h
  exact ⟨H2, t.trans t2, h⟩
theorem roundET_end {α : Type} {X : Ctx} {f0 : Fr} {H0 : Hp} {vs : α → Fr} {hp : α → List (Option RowI)} {I : α → Prop} {μ : α → Nat} {x : α} {f' : Fr} {H' : Hp} (h : RoundEnd X f0 H0 vs hp I μ x f' H') : RoundEndT X f0 H0 vs hp I μ x f' H' := ⟨H', Turn.refl, h⟩
theorem catE_at {n i j : Nat} {es g : Nat → Nat → AV} : catE n es g i j = if i < n then es i j else g (i - n) j := by
  by_cases h : i < n
  · rw [if_pos h, catE_lt h]
  · rw [if_neg h, catE_ge (by omega)]
/-- One element more. -/
theorem getD_snoc {α : Type} [Inhabited α] {l : List α} {a : α} {i : Nat} : (l ++ [a]).getD i default = if i < l.length then l.getD i default else if i = l.length then a else default := by
  rw [List.getD_eq_getElem?_getD, List.getD_eq_getElem?_getD]
  by_cases h : i < l.length
  · rw [if_pos h, List.getElem?_append_left h]
  · rw [if_neg h, List.getElem?_append_right (by omega)]
    by_cases e : i = l.length
    · rw [if_pos e, e, Nat.sub_self]; rfl
    · rw [if_neg e, List.getElem?_eq_none (by simp; omega)]; rfl
theorem snoc_idf {α : Type} [Inhabited α] {k sz : Nat} {c : α → List AV} {l : List α} {g : Nat → Nat → AV} [h : HoldC c] (hk : k = l.length) (hg : ∀ j, j < sz → (g 0 j).idfO) : ∀ i j, i < k + 1 → j < sz → (catE k (elE c l) g i j).idfO := fun i j hi hj => by
  rw [catE_at]
  by_cases h' : i < k
  · rw [if_pos h']; exact h.h _ j
  · rw [if_neg h', show i - k = 0 by omega]; exact hg j hj
theorem snoc_eq {α : Type} [Inhabited α] {k sz : Nat} {c : α → List AV} {l : List α} {a : α} {g : Nat → Nat → AV} (hk : k = l.length) (hg : ∀ j, j < sz → OwEq (g 0 j) ((c a).getD j .any)) : ∀ i j, i < k + 1 → j < sz → OwEq (catE k (elE c l) g i j) (elE c (l ++ [a]) i j) := fun i j hi hj => by
  rw [catE_at]
  unfold elE
  rw [getD_snoc]
  by_cases h' : i < k
  · rw [if_pos h', if_pos (by omega)]; exact .refl _
  · rw [if_neg h', if_neg (by omega), if_pos (by omega), show i - k = 0 by omega]; exact hg j hj
theorem RowBack.L {α : Type} [Inhabited α] {σ : Nat → Nat} {m sz n : Nat} {c : α → List AV} {l : List α} (hn : l.length = n) (h : ∀ a, (c a).all pl1 = true) : RowBack σ m (rowL sz c l) ⟨sz, n, elE c l, .arr⟩ := ⟨rfl, hn, .refl _, fun i j _ _ => ⟨(pl1_ren (pl1_getD (h _) j)).1.symm, pl1_low2 (pl1_getD (h _) j)⟩⟩
theorem markL_at {α : Type} [Inhabited α] {f : α → Int → α × Int} {l : List α} {k : Int} {i : Nat} (hi : i < l.length) : (markL f l k).1.getD i default = (f (l.getD i default) (mkC f l k i)).1 := by
  have h1 : (markL f (l.take (i + 1)) k).1.length = i + 1 := by rw [markL_len, List.length_take]; omega
  have h2 := markL_app (f := f) (l.take (i + 1)) (l.drop (i + 1)) k
  rw [List.take_append_drop] at h2
  rw [h2, List.getD_eq_getElem?_getD, List.getElem?_append_left (by rw [h1]; omega)]
  have h3 := mkL_succ (f := f) (l := l) (k := k) hi
  have h4 : (mkL f l k (i + 1))[i]? = (markL f (l.take (i + 1)) k).1[i]? := by
    unfold mkL
    rw [List.getElem?_append_left (by rw [h1]; omega)]
  rw [← h4, h3, List.getElem?_set_self (by rw [mkL_len]; exact hi)]
  rfl
theorem okL_mark {α : Type} [Inhabited α] {f : α → Int → α × Int} {p : α → Prop} (hp : ∀ a k, p a → p (f a k).1) {l : List α} {k : Int} (h : okL p l) : okL p (markL f l k).1 := ⟨by rw [markL_len]; exact h.1, fun i hi => by
  rw [markL_len] at hi
  rw [markL_at hi]
  exact hp _ _ (h.2 i hi)⟩
/-- A pointer to cells, said otherwise. -/
theorem Wk.rfLo {m : Nat} {g : Nat → AV} {cs : List AV} (h : WkL (cellsAt g 0 m) cs) : Wk (.rf m g) (rfL cs) := by
  have hl : m = cs.length := by rw [← h.1, cellsAt_length]
  subst hl
  unfold rfL
  refine Wk.rf fun j hj => ?_
  have := h.getD j
  have hj' : j < (cellsAt g 0 cs.length).length := by rw [cellsAt_length]; exact hj
  have e := (cellsAt_get g cs.length 0 j _ (List.getElem?_eq_getElem hj')).2
  rw [Nat.zero_add] at e
  rw [List.getD_eq_getElem?_getD, List.getElem?_eq_getElem hj'] at this
  rw [e] at this
  exact this
theorem MixL.wk {π : List Nat} {H : Hp} {a c : AV} {es cs : List AV} (h : Wk (shr (outM π 0 H) c) a) (r : MixL π H es cs) : MixL π H (a :: es) (c :: cs) := .frz h.c r
/-! ### What the walks hand to calls -/
theorem Ret.wka {P : Program} {g : FuncId} {av bs : List AV} {post : AV → Prop} (r : Ret P g bs post) (h : WkL av bs := by ((repeat (first | exact WkL.nil | refine WkL.cons ?_ ?_ | exact Wk.refl _ | exact Wk.rfc rfl | refine Wk.fn ?_ | exact Wk.nilS0 | exact shr_L (d := 0) (k := 4) rfl | exact shr_L (d := 1) (k := 3) rfl | exact shr_L (d := 2) (k := 2) rfl | exact shr_L (d := 0) (k := 4) (by simp only [markL_len]) | exact shr_L (d := 1) (k := 3) (by simp only [markL_len]) | refine Wk.agg ?_ | exact shr_L (d := 0) (k := 3) rfl | exact shr_L (d := 1) (k := 2) rfl | exact shr_ow (d := 1) (k := 2) | exact shr_ow (d := 0) (k := 3) | refine Wk.rfLo ?_)); first | done | fail)) : Ret P g av post := Ret.wk h r
theorem RetM.wka {P : Program} {g : FuncId} {av bs : List AV} {post : AV → Hp → Prop} (r : RetM P g [] bs post) (h : WkL av bs := by ((repeat (first | exact WkL.nil | refine WkL.cons ?_ ?_ | exact Wk.refl _ | exact Wk.rfc rfl | refine Wk.fn ?_ | exact Wk.nilS0 | exact shr_L (d := 0) (k := 4) rfl | exact shr_L (d := 1) (k := 3) rfl | exact shr_L (d := 2) (k := 2) rfl | exact shr_L (d := 0) (k := 4) (by simp only [markL_len]) | exact shr_L (d := 1) (k := 3) (by simp only [markL_len]) | refine Wk.agg ?_ | exact shr_L (d := 0) (k := 3) rfl | exact shr_L (d := 1) (k := 2) rfl | exact shr_ow (d := 1) (k := 2) | exact shr_ow (d := 0) (k := 3) | refine Wk.rfLo ?_)); first | done | fail)) : RetM P g [] av post := RetM.wk h r
theorem viewA {π : List Nat} {H H0 : Hp} (hn : nodupB π = true := by exact rfl) (h : ViewL H (sig π H.length) π.length π H0 := by repeat' (first | exact ViewL.nil | refine ViewL.cons rfl (RowBack.self ?_) ?_ | exact rowPl_L (fun _ => rfl) | exact rowPl_box rfl)) : ViewOk π H H0 := view_of hn h
theorem lokA {σ : Nat → Nat} {L : Hp} (h : RowsPl L := by repeat' (first | exact RowsPl.nil | refine RowsPl.cons ?_ ?_ | refine RowsPl.none ?_ | exact rowPl_L (fun _ => rfl) | exact rowPl_box rfl)) : LOk σ L L := lok_pl h
theorem nssA {H : Hp} (h : RowsNs H := by repeat' (first | exact rowsNs_nil | refine rowsNs_cons ?_ ?_ | refine rowsNs_none ?_ | exact rowNs_L | exact rowNs_box)) : RowsNs H := h
theorem mixA {π : List Nat} {H : Hp} {es cs : List AV} (h : MixL π H es cs := by ((repeat (first | exact MixL.nil | refine MixL.loc rfl rfl ?_ | refine MixL.wk ?_ ?_ | exact WkL.nil | refine WkL.cons ?_ ?_ | exact Wk.refl _ | exact Wk.rfc rfl | refine Wk.fn ?_ | exact Wk.nilS0 | exact shr_L (d := 0) (k := 4) rfl | exact shr_L (d := 1) (k := 3) rfl | exact shr_L (d := 2) (k := 2) rfl | exact shr_L (d := 0) (k := 4) (by simp only [markL_len]) | exact shr_L (d := 1) (k := 3) (by simp only [markL_len]) | refine Wk.agg ?_ | exact shr_L (d := 0) (k := 3) rfl | exact shr_L (d := 1) (k := 2) rfl | exact shr_ow (d := 1) (k := 2) | exact shr_ow (d := 0) (k := 3) | refine Wk.rfLo ?_)); first | done | fail)) : MixL π H es cs := h
end Go.Proofs.Ytgjihfinbaopcaa
