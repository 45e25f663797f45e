/- Texts for VWithOwnP. -/
import Derived.Test.YtfaadafgbhmlfaaVw18
namespace Go.Proofs.Ytfaadafgbhmlfaa
open Go Go.RowKit
set_option linter.unusedVariables false
set_option linter.unusedSimpArgs false
section
attribute [local irreducible] IntKind.wrap
theorem strE_app (b c : ByteArray) (i j : Nat) : catE b.size (strE b) (strE c) i j = strE (b ++ c) i j := by
  rw [catE_at]
  unfold strE
  rw [ByteArray.data_append, Array.getD_eq_getD_getElem?, Array.getD_eq_getD_getElem?, Array.getD_eq_getD_getElem?, Array.getElem?_append]
  split
  · rename_i h
    rw [if_pos (show i < b.data.size from h)]
  · rename_i h
    rw [if_neg (show ¬ i < b.data.size from h)]
    rfl
theorem strE_appO (b c : ByteArray) : ∀ i j, i < b.size + c.size → j < 1 → OwEq (catE b.size (strE b) (strE c) i j) (strE (b ++ c) i j) := fun i j _ _ => by
  rw [strE_app]
  exact .refl _
theorem size_app (b c : ByteArray) : (b ++ c).size = b.size + c.size := ByteArray.size_append
theorem bytes_strE (b : ByteArray) : Bytes b.size (strE b) := ⟨fun i hi => ⟨_, rfl⟩⟩
theorem bytesOf_strE (b : ByteArray) : bytesOf b.size (strE b) = b := by
  have h : bytesOf b.size (strE b) = bytesOf (bsN b).length (elE u8C (bsN b)) := by
    rw [bsN_len]
    refine bytesOf_eq fun i hi => ?_
    show AV.i .u8 ((b.data.getD i 0).toNat : Int) = _
    rw [← bsN_at]
    rfl
  rw [h, bytesOf_u8, baN_bs]
theorem arr_str {r : List Nat} {n : Nat} {b b' : ByteArray} (e : b' = b) : ArrP r n ⟨1, b'.size, strE b', .arr⟩ ⟨1, b.size, strE b, .arr⟩ := by
  subst e
  exact ⟨rfl, rfl, rfl, fun i j hi hj => rfl, fun i j _ _ => rfl⟩
structure StS where
  k : Nat
  b : ByteArray
structure BbI (l : List Ins) (y : StS) : Prop where
  hk : y.k ≤ l.length
  hb : y.b = baN (lebL l.length ++ (l.take y.k).flatMap Ins.by)
theorem fm_take {α : Type} [Inhabited α] {f : α → List Nat} {l : List α} {k : Nat} (h : k < l.length) : (l.take (k + 1)).flatMap f = (l.take k).flatMap f ++ f (l.getD k default) := by
  rw [List.take_add_one, List.getElem?_eq_getElem h, List.flatMap_append, List.getD_eq_getElem?_getD, List.getElem?_eq_getElem h]
  simp
theorem BbI.zero (l : List Ins) : BbI l ⟨0, baN (lebL l.length)⟩ := ⟨Nat.zero_le _, by simp⟩
theorem BbI.next {l : List Ins} {y : StS} (h : BbI l y) (hk : y.k < l.length) : BbI l ⟨y.k + 1, y.b ++ baN (l.getD y.k default).by⟩ := ⟨hk, by
  dsimp only
  rw [h.hb, baN_app, fm_take hk, List.append_assoc]⟩
theorem BbI.size {l : List Ins} {y : StS} (h : BbI l y) (hl : l.length ≤ 120) : y.b.size ≤ 2000 := by
  have h1 := fm_len (f := Ins.by) (k := 11) (l := l.take y.k) fun x _ => x.by_len
  have h2 := lb_small (n := l.length) (by omega)
  rw [List.length_take] at h1
  rw [h.hb, baN_size, List.length_append]
  omega
theorem BbI.last {l : List Ins} {y : StS} (h : BbI l y) (hk : ¬ (y.k : Int) < (l.length : Int)) : y.b = baN (bodyN l) := by
  have := h.hk
  rw [h.hb, show y.k = l.length by omega, List.take_length]
  rfl
end
end Go.Proofs.Ytfaadafgbhmlfaa
