/-
  Types that are drawn: rows that are frozen.
-/
import Derived.Test.YtnppkgmodflkdaaGreatVTpJ
namespace Go.Proofs.YtnppkgmodflkdaaGreat
open Go Go.RowKit
set_option linter.unusedVariables false
set_option linter.unusedSimpArgs false

instance : HoldC strC := holdC_plain fun _ => rfl
/-- A row with one more element, frozen. -/
theorem shr_cat {α : Type} [Inhabited α] {sz n m k : Nat} {H : Hp} {cO c : α → List AV} {l : List α} {g : Nat → Nat → AV} {x : α} (hn : n = m + 1) (hm : m = l.length) (h : ∀ i, i < l.length → ∀ j, j < sz → Wk (shrC k H ((cO (l.getD i default)).getD j .any)) ((c (l.getD i default)).getD j .any)) (hx : ∀ j, j < sz → Wk (shrC k H (g 0 j)) ((c x).getD j .any)) : Wk (.sl sz n fun i j => shrC k H (catE m (elE cO l) g i j)) (slL sz c (l ++ [x])) := by
  subst hn hm
  have e : l.length + 1 = (l ++ [x]).length := by rw [List.length_append]; rfl
  show Wk (.sl sz (l.length + 1) _) (.sl sz (l ++ [x]).length _)
  rw [← e]
  refine Wk.sl fun i j hi hj => ?_
  rcases Nat.lt_or_eq_of_le (Nat.le_of_lt_succ hi) with q | rfl
  · rw [catE_lt q]
    show Wk (shrC k H ((cO (l.getD i default)).getD j .any)) ((c ((l ++ [x]).getD i default)).getD j .any)
    have : (l ++ [x]).getD i default = l.getD i default := by
      rw [List.getD_eq_getElem?_getD, List.getElem?_append_left q, ← List.getD_eq_getElem?_getD]
    rw [this]
    exact h i q j hj
  · have h1 : catE l.length (elE cO l) g l.length j = g 0 j := by
      unfold catE
      have : Nat.blt l.length l.length = false := by
        cases hb : Nat.blt l.length l.length with
        | false => rfl
        | true => exact absurd (Nat.le_of_ble_eq_true hb) (by omega)
      rw [this, cond_false, Nat.sub_self]
    rw [h1]
    show Wk _ ((c ((l ++ [x]).getD l.length default)).getD j .any)
    have : (l ++ [x]).getD l.length default = x := by
      rw [List.getD_eq_getElem?_getD, List.getElem?_append_right (Nat.le_refl _), Nat.sub_self]
      rfl
    rw [this]
    exact hx j hj
theorem pN_shr (n k : Nat) (H : Hp) (a : Typ) (j : Nat) : shrC k H ((Typ.pN (n + 1) a).getD j .any) = (Typ.pN (n + 1) a).getD j .any := match k, j with
  | 0, 0 => rfl
  | 0, 1 => rfl
  | 0, 2 => rfl
  | 0, 3 => rfl
  | 0, _ + 4 => rfl
  | _ + 1, 0 => rfl
  | _ + 1, 1 => rfl
  | _ + 1, 2 => rfl
  | _ + 1, 3 => rfl
  | _ + 1, _ + 4 => rfl
/-- Labels, one more. -/
theorem shr_catS {n m k : Nat} {H : Hp} {l : List ByteArray} {g : Nat → Nat → AV} {x : ByteArray} (hn : n = m + 1) (hm : m = l.length) (hx : shrC k H (g 0 0) = .s x) : Wk (.sl 1 n fun i j => shrC k H (catE m (elE strC l) g i j)) (slL 1 strC (l ++ [x])) := shr_cat hn hm (fun i hi j hj => by
  obtain rfl : j = 0 := by omega
  cases k <;> exact .refl _) (fun j hj => by
  obtain rfl : j = 0 := by omega
  rw [hx]
  exact .refl _)
/-- Parts, one more: of a kind alone. -/
theorem shr_catT {q n m k : Nat} {H : Hp} {l : List Typ} {g : Nat → Nat → AV} {v : Int} (hn : n = m + 1) (hm : m = l.length) (hl : ∀ i, i < l.length → Typ.fN (q + 1) (l.getD i default)) (h0 : shrC k H (g 0 0) = .i .i64 v) (h1 : shrC k H (g 0 1) = .s ByteArray.empty) (h2 : shrC k H (g 0 2) = .nils) (h3 : shrC k H (g 0 3) = .nils) : Wk (.sl 4 n fun i j => shrC k H (catE m (elE (Typ.pN (q + 1)) l) g i j)) (slL 4 (Typ.pN (q + 2)) (l ++ [⟨v, ByteArray.empty, [], []⟩])) := shr_cat hn hm (fun i hi j hj => by
  rw [pN_shr]
  exact (Typ.up _ _ (hl i hi)).getD j) (fun j hj => by
  rcases (show j = 0 ∨ j = 1 ∨ j = 2 ∨ j = 3 by omega) with rfl | rfl | rfl | rfl
  · rw [h0]; exact .refl _
  · rw [h1]; exact .refl _
  · rw [h2]; exact Wk.nilS0
  · rw [h3]; exact Wk.nilS0)
/-! Options around a type. -/
def opN : Nat → Typ → Typ
  | 0, a => a
  | n + 1, a => ⟨13, ByteArray.empty, [], [opN n a]⟩
noncomputable def bxN (q : Nat) (a : Typ) : Nat → List AV
  | 0 => [.i .i64 a.kind, .s a.name, owL 1 strC a.labels, owL 4 (Typ.pN (q + 1)) a.kids]
  | n + 1 => [.i .i64 13, .s ByteArray.empty, .nils, .ow 4 1 (litE [bxN q a n])]
theorem opN_oN {m : Nat} {a : Typ} (h : Typ.oN (m + 1) a) : ∀ n, Typ.oN (m + n + 1) (opN n a)
  | 0 => h
  | n + 1 => ⟨Nat.zero_le _, ⟨Nat.zero_le _, fun k hk => absurd hk (Nat.not_lt_zero _)⟩, ⟨(show 1 ≤ 1048576 by decide), fun k hk => by
    obtain rfl : k = 0 := Nat.lt_one_iff.1 hk
    exact opN_oN h n⟩⟩
theorem opN_np (a : Typ) : ∀ n, (opN n a).np = a.np + n
  | 0 => rfl
  | n + 1 => by
    rw [Typ.np_eq]
    show 1 + sumK Typ.np [opN n a] 1 = _
    rw [sumK_succ _ (show 0 < 1 by decide), sumK_zero]
    show 1 + (0 + (opN n a).np) = _
    rw [opN_np a n]
    omega
theorem bx_idf (q : Nat) (a : Typ) : ∀ (n j : Nat), ((bxN q a n).getD j .any).idfO
  | 0, 0 => trivial
  | 0, 1 => trivial
  | 0, 2 => fun i j _ _ => match j with
    | 0 => trivial
    | _ + 1 => trivial
  | 0, 3 => fun i j _ _ => pN_idfO q _ j
  | 0, _ + 4 => trivial
  | n + 1, 0 => trivial
  | n + 1, 1 => trivial
  | n + 1, 2 => trivial
  | n + 1, 3 => fun i j hi _ => by
    obtain rfl : i = 0 := Nat.lt_one_iff.1 hi
    exact bx_idf q a n j
  | n + 1, _ + 4 => trivial
theorem bx_shr (q : Nat) (a : Typ) (H : Hp) : ∀ (n k : Nat), n ≤ k → WkL ((bxN q a n).map (shrC (k + 1) H)) (Typ.pN (q + n + 2) (opN n a))
  | 0, k, _ => .cons (.refl _) (.cons (.refl _) (.cons (shr_ow (d := 0) (k := k)) (.cons (shr_ow (d := 0) (k := k)) .nil)))
  | n + 1, 0, h => absurd h (Nat.not_succ_le_zero _)
  | n + 1, k + 1, h => .cons (.refl _) (.cons (.refl _) (.cons Wk.nilS0 (.cons (Wk.sl fun i j hi hj => by
    obtain rfl : i = 0 := Nat.lt_one_iff.1 hi
    have := (bx_shr q a H n k (Nat.le_of_succ_le_succ h)).getD j
    rw [List.getD_eq_getElem?_getD, List.getElem?_map] at this
    show Wk (shrC (k + 1) H ((bxN q a n).getD j .any)) ((Typ.pN (q + n + 2) (opN n a)).getD j .any)
    rw [List.getD_eq_getElem?_getD (l := bxN q a n)]
    cases hc : (bxN q a n)[j]? with
    | none => rw [hc] at this; exact this
    | some c => rw [hc] at this; exact this) .nil)))
end Go.Proofs.YtnppkgmodflkdaaGreat
