/- Texts for VSectionsP. -/
import Derived.Test.YtdeledeopippfaaVx17
namespace Go.Proofs.Ytdeledeopippfaa
open Go Go.RowKit
set_option linter.unusedVariables false
set_option linter.unusedSimpArgs false
def bsN (b : ByteArray) : List Nat := b.data.toList.map UInt8.toNat
def baN (l : List Nat) : ByteArray := ⟨(l.map UInt8.ofNat).toArray⟩
def u8C (n : Nat) : List AV := [.i .u8 (n : Int)]
theorem bsN_len (b : ByteArray) : (bsN b).length = b.size := by
  unfold bsN
  rw [List.length_map, Array.length_toList]
  rfl
theorem bsN_lt {b : ByteArray} : ∀ x ∈ bsN b, x < 256 := fun x hx => by
  obtain ⟨c, _, rfl⟩ := List.mem_map.1 hx
  exact c.toNat_lt
theorem bsN_at (b : ByteArray) (i : Nat) : (bsN b).getD i 0 = (b.data.getD i 0).toNat := by
  unfold bsN
  rw [List.getD_eq_getElem?_getD, List.getElem?_map, Array.getElem?_toList, Array.getD_eq_getD_getElem?]
  cases b.data[i]? <;> rfl
theorem bsN_ba {l : List Nat} (h : ∀ x ∈ l, x < 256) : bsN (baN l) = l := by
  unfold bsN baN
  dsimp only
  rw [List.map_map]
  conv => rhs; rw [← List.map_id l]
  refine List.map_congr_left fun x hx => ?_
  have := h x hx
  show (UInt8.ofNat x).toNat = x
  rw [UInt8.toNat_ofNat']
  omega
theorem baN_bs (b : ByteArray) : baN (bsN b) = b := by
  unfold bsN baN
  rw [List.map_map]
  have : (UInt8.ofNat ∘ UInt8.toNat) = id := by
    funext x
    exact UInt8.ofNat_toNat
  rw [this, List.map_id]
theorem baN_eq {l : List Nat} {b : ByteArray} (h : ∀ x ∈ l, x < 256) : baN l = b ↔ l = bsN b :=
  ⟨fun e => by rw [← e, bsN_ba h], fun e => by rw [e, baN_bs]⟩
theorem bsN_take {b : ByteArray} {k : Nat} (h : k ≤ b.size) : bsN (b.extract 0 k) = (bsN b).take k := by
  unfold bsN
  rw [ByteArray.data_extract, Array.toList_extract, List.map_take]
  simp
theorem bytesOf_u8 (l : List Nat) : bytesOf l.length (elE u8C l) = baN l := by
  unfold bytesOf baN
  congr 2
  refine List.ext_getElem? fun i => ?_
  rw [List.getElem?_map, List.getElem?_map]
  by_cases hi : i < l.length
  · rw [List.getElem?_range hi, List.getElem?_eq_getElem hi, Option.map_some, Option.map_some]
    congr 1
    show UInt8.ofNat (Int.toNat ((l.getD i default : Nat) : Int)) = _
    rw [Int.toNat_natCast, List.getD_eq_getElem?_getD, List.getElem?_eq_getElem hi]
    rfl
  · rw [List.getElem?_eq_none (by rw [List.length_range]; omega), List.getElem?_eq_none (by omega)]
    rfl
theorem lebL_lt : ∀ (n : Nat), ∀ x ∈ lebL n, x < 256 := fun n => by
  induction n using Nat.strongRecOn with
  | ind n ih =>
    intro x hx
    by_cases h : n ≤ 127
    · rw [lebL_small h, List.mem_singleton] at hx
      omega
    · rw [lebL_big h] at hx
      rcases List.mem_cons.1 hx with e | e
      · omega
      · exact ih (n / 128) (by omega) x e
def fstI (b : ByteArray) (m : Nat) : Option Nat := ((bsN b).take m).findIdx? fun x => decide (x < 128)
structure FstTo (b : ByteArray) (k : Nat) : Prop where
  h : ∀ j, j < k → ¬ (bsN b).getD j 0 < 128
theorem FstTo.zero (b : ByteArray) : FstTo b 0 := ⟨fun j hj => absurd hj (Nat.not_lt_zero _)⟩
theorem FstTo.succ {b : ByteArray} {k : Nat} (h : FstTo b k) (hk : ¬ (bsN b).getD k 0 < 128) : FstTo b (k + 1) := ⟨fun j hj => by
  rcases Nat.lt_or_eq_of_le (Nat.le_of_lt_succ hj) with q | rfl
  · exact h.h j q
  · exact hk⟩
theorem bsN_get {b : ByteArray} {i : Nat} (hi : i < (bsN b).length) : (bsN b)[i] = (bsN b).getD i 0 := by
  rw [List.getD_eq_getElem?_getD, List.getElem?_eq_getElem hi]; rfl
theorem fstI_some {b : ByteArray} {m i : Nat} (hi : i < b.size) (hm : i < m) (h : (bsN b).getD i 0 < 128) (hb : FstTo b i) : fstI b m = some i := by
  unfold fstI
  rw [List.findIdx?_eq_some_iff_getElem]
  have hl : i < ((bsN b).take m).length := by rw [List.length_take, bsN_len]; omega
  refine ⟨hl, ?_, fun j hj => ?_⟩
  · rw [List.getElem_take, bsN_get (by rw [bsN_len]; exact hi)]
    exact decide_eq_true h
  · rw [List.getElem_take, bsN_get (by rw [bsN_len]; omega)]
    simpa using hb.h j hj
theorem fstI_none {b : ByteArray} {m k : Nat} (hb : FstTo b k) (hk : b.size ≤ k ∨ m ≤ k) : fstI b m = none := by
  unfold fstI
  rw [List.findIdx?_eq_none_iff]
  intro x hx
  obtain ⟨j, hj, rfl⟩ := List.mem_iff_getElem.1 hx
  rw [List.length_take, bsN_len] at hj
  rw [List.getElem_take, bsN_get (by rw [bsN_len]; omega)]
  simpa using hb.h j (by omega)
theorem isLeb_of {b : ByteArray} {i : Nat} (hi : i < b.size) (h : (bsN b).getD i 0 < 128) (hb : FstTo b i) : isLeb ((bsN b).take (i + 1)) := by
  have hl : i < (bsN b).length := by rw [bsN_len]; exact hi
  rw [List.take_add_one, List.getElem?_eq_getElem hl]
  refine leb_snoc (fun x hx => ?_) (by rw [bsN_get hl]; exact h)
  obtain ⟨j, hj, rfl⟩ := List.mem_iff_getElem.1 hx
  rw [List.length_take] at hj
  rw [List.getElem_take]
  have h1 := bsN_lt (b := b) _ (List.getElem_mem (show j < (bsN b).length by omega))
  have h2 := hb.h j (by omega)
  rw [← bsN_get (by omega)] at h2
  omega
def getL (b : ByteArray) : Int × Int × Bool := match fstI b 9 with
  | none => (0, 0, false)
  | some i => if i = 0 ∨ ¬ (bsN b).getD i 0 = 0 then ((decL ((bsN b).take (i + 1)) : Nat), (i : Int) + 1, true) else (0, 0, false)
theorem canon {b : ByteArray} {i : Nat} (hi : i < b.size) (h : (bsN b).getD i 0 < 128) (hb : FstTo b i) : baN (lebL (decL ((bsN b).take (i + 1)))) = b.extract 0 (i + 1) ↔ (i = 0 ∨ ¬ (bsN b).getD i 0 = 0) := by
  have hl : i < (bsN b).length := by rw [bsN_len]; exact hi
  rw [baN_eq (lebL_lt _), bsN_take (by omega), leb_iff (isLeb_of hi h hb), List.length_take, show min (i + 1) (bsN b).length = i + 1 by omega, List.getLast?_eq_getElem?, List.length_take, show min (i + 1) (bsN b).length - 1 = i by omega, List.getElem?_take, if_pos (by omega), List.getElem?_eq_getElem hl, bsN_get hl, Option.some_inj]
  constructor
  · rintro (h | h)
    · exact .inl (by omega)
    · exact .inr h
  · rintro (h | h)
    · exact .inl (by omega)
    · exact .inr h
def slebL (n : Int) : List Nat := if h : -64 ≤ n ∧ n ≤ 63 then [(n % 128).toNat] else ((n % 128).toNat + 128) :: slebL (n / 128)
termination_by n.natAbs
decreasing_by omega
theorem slebL_small {n : Int} (h : -64 ≤ n ∧ n ≤ 63) : slebL n = [(n % 128).toNat] := by rw [slebL, dif_pos h]
theorem slebL_big {n : Int} (h : ¬ (-64 ≤ n ∧ n ≤ 63)) : slebL n = ((n % 128).toNat + 128) :: slebL (n / 128) := by rw [slebL, dif_neg h]
theorem and_i64 {n : Int} (h : -9223372036854775808 ≤ n ∧ n ≤ 9223372036854775807) : bits .and .i64 n 127 = n % 128 := by
  have e : bits .and .i64 n 127 = IntKind.i64.wrap ((BitVec.ofInt 64 n &&& BitVec.ofInt 64 127).toNat : Int) := rfl
  have h1 : (BitVec.ofInt 64 n).toNat = (n % 18446744073709551616).toNat := by rw [BitVec.toNat_ofInt]; rfl
  have h2 : (BitVec.ofInt 64 127).toNat = 2 ^ 7 - 1 := by decide
  rw [e, BitVec.toNat_and, h1, h2, Nat.and_two_pow_sub_one_eq_mod, wrap_in (by omega) (by omega)]
  omega
theorem or_u8 {x : Int} (h : 0 ≤ x ∧ x < 128) : bits .or .u8 x 128 = x + 128 := by
  have e : bits .or .u8 x 128 = IntKind.u8.wrap ((BitVec.ofInt 8 x ||| BitVec.ofInt 8 128).toNat : Int) := rfl
  have h1 : (BitVec.ofInt 8 x).toNat = x.toNat := by rw [BitVec.toNat_ofInt]; omega
  have h2 : (BitVec.ofInt 8 128).toNat = 1 * 2 ^ 7 := by decide
  rw [e, BitVec.toNat_or, h1, h2, or_add (by omega), IntKind.wrap_u8]
  omega
def intC (n : Int) : List AV := [.i .i64 n]
def strC (s : ByteArray) : List AV := [.s s]
def okS (s : ByteArray) : Prop := s.size ≤ 1048576
def okL {α : Type} [Inhabited α] (p : α → Prop) (l : List α) : Prop := l.length ≤ 1048576 ∧ ∀ k, k < l.length → p (l.getD k default)
def szFl {α : Type} (l : List α) (left : Int) : Int := szN l.length left
def szSt (s : ByteArray) (left : Int) : Int := szN s.size left
def szF {α : Type} (g : α → Int → Int) : List α → Int → Int
  | [], v => v
  | x :: r, v => if g x v < 0 then -1 else szF g r (g x v)
def szLs {α : Type} (g : α → Int → Int) (l : List α) (left : Int) : Int := if left - l.length < 0 then -1 else szF g l (left - l.length)
def szAt {α : Type} [Inhabited α] (g : α → Int → Int) (l : List α) (v0 : Int) : Nat → Int
  | 0 => v0
  | k + 1 => g (l.getD k default) (szAt g l v0 k)
theorem szF_cons {α : Type} {g : α → Int → Int} {x : α} {r : List α} {v : Int} : szF g (x :: r) v = if g x v < 0 then -1 else szF g r (g x v) := rfl
structure SzI {α : Type} [Inhabited α] (g : α → Int → Int) (l : List α) (v0 : Int) (k : Nat) : Prop where
  eq : szF g (l.drop k) (szAt g l v0 k) = szF g l v0
  lo : 0 ≤ szAt g l v0 k
  hi : szAt g l v0 k ≤ 1048576
theorem drop_get {α : Type} [Inhabited α] {l : List α} {k : Nat} (hk : k < l.length) : l.drop k = l.getD k default :: l.drop (k + 1) := by
  rw [List.drop_eq_getElem_cons hk, List.getD_eq_getElem?_getD, List.getElem?_eq_getElem hk]; rfl
theorem SzI.step {α : Type} [Inhabited α] {g : α → Int → Int} {l : List α} {v0 : Int} {k : Nat} (hg : ∀ a v, v ≤ 1048576 → g a v ≤ 1048576) (s : SzI g l v0 k) (hk : (k : Int) < (l.length : Int))
    (hn : ¬ g (l.getD k default) (szAt g l v0 k) < 0) : SzI g l v0 (k + 1) := by
  have e := s.eq
  rw [drop_get (by omega)] at e
  rw [szF_cons, if_neg hn] at e
  refine ⟨e, ?_, ?_⟩
  · show 0 ≤ g (l.getD k default) (szAt g l v0 k); omega
  · exact hg _ _ s.hi
theorem SzI.neg {α : Type} [Inhabited α] {g : α → Int → Int} {l : List α} {left : Int} {k : Nat} (s : SzI g l (left - l.length) k) (hk : (k : Int) < (l.length : Int))
    (hn : g (l.getD k default) (szAt g l (left - l.length) k) < 0) (h0 : ¬ left - l.length < 0) : (-1 : Int) = szLs g l left := by
  have e := s.eq
  rw [drop_get (by omega)] at e
  rw [szF_cons, if_pos hn] at e
  unfold szLs
  rw [if_neg h0]
  exact e
theorem SzI.fin {α : Type} [Inhabited α] {g : α → Int → Int} {l : List α} {left : Int} {k : Nat} (s : SzI g l (left - l.length) k) (hk : ¬ (k : Int) < (l.length : Int)) (h0 : ¬ left - l.length < 0) : szAt g l (left - l.length) k = szLs g l left := by
  have e := s.eq
  rw [List.drop_eq_nil_of_le (by omega)] at e
  unfold szLs
  rw [if_neg h0]
  exact e
section
def owL {α : Type} [Inhabited α] (sz : Nat) (c : α → List AV) (l : List α) : AV := .ow sz l.length (elE c l)
def rowL {α : Type} [Inhabited α] (sz : Nat) (c : α → List AV) (l : List α) : Row := ⟨sz, l.length, elE c l, .arr⟩
class Shr (d : outParam Nat) {α : Type} (cO : α → List AV) (c : outParam (α → List AV)) : Prop where
  h : ∀ (H : Hp) (k : Nat) (a : α), WkL ((cO a).map (shrC (k + d) H)) (c a)
theorem pl1_getD {cs : List AV} (h : cs.all pl1 = true) (j : Nat) : pl1 (cs.getD j .any) = true := by
  rw [List.getD_eq_getElem?_getD]
  cases hj : cs[j]? with
  | none => rfl
  | some c => exact List.all_eq_true.1 h c (List.mem_of_getElem? hj)
theorem rowPl_L {α : Type} [Inhabited α] {sz : Nat} {c : α → List AV} {l : List α} (h : ∀ a, (c a).all pl1 = true) : RowPl (rowL sz c l) := ⟨fun i j _ _ => pl1_getD (h _) j⟩
def idfB : AV → Bool
  | .any | .i .. | .b _ | .kb _ | .s _ | .nils | .nilp | .st _ => true
  | _ => false
theorem idfB_ok {x : AV} (h : idfB x = true) : x.idfO := by cases x <;> first | exact trivial | cases h
class HoldC {α : Type} (c : α → List AV) : Prop where
  h : ∀ a j, ((c a).getD j .any).idfO
theorem holdC_plain {α : Type} {c : α → List AV} (h : ∀ a, (c a).all idfB = true) : HoldC c := ⟨fun a j => by
  rw [List.getD_eq_getElem?_getD]
  cases hj : (c a)[j]? with
  | none => exact trivial
  | some x => exact idfB_ok (List.all_eq_true.1 (h a) x (List.mem_of_getElem? hj))⟩
theorem owL_idf {α : Type} [Inhabited α] {sz : Nat} {c : α → List AV} {l : List α} [h : HoldC c] : (owL sz c l).idfO := fun i j _ _ => h.h _ j
theorem idf_cons {x : AV} {cs : List AV} (hx : x.idfO) (h : ∀ j, (cs.getD j .any).idfO) : ∀ j, ((x :: cs).getD j .any).idfO
  | 0 => hx
  | j + 1 => by simpa using h j
theorem idf_nil : ∀ j, (([] : List AV).getD j .any).idfO := fun j => trivial
class FreeC {α : Type} (c : α → List AV) : Prop where
  h : ∀ a j, noS ((c a).getD j .any)
theorem freeC_plain {α : Type} {c : α → List AV} (h : ∀ a, (c a).all noS1 = true) : FreeC c := ⟨fun a j => by
  rw [List.getD_eq_getElem?_getD]
  cases hj : (c a)[j]? with
  | none => exact trivial
  | some x => exact noS1_ok (List.all_eq_true.1 (h a) x (List.mem_of_getElem? hj))⟩
theorem owL_free {α : Type} [Inhabited α] {sz : Nat} {c : α → List AV} {l : List α} [h : FreeC c] : noS (owL sz c l) := fun i j _ _ => h.h _ j
theorem free_cons {x : AV} {cs : List AV} (hx : noS x) (h : ∀ j, noS (cs.getD j .any)) : ∀ j, noS ((x :: cs).getD j .any)
  | 0 => hx
  | j + 1 => by simpa using h j
theorem free_nil : ∀ j, noS (([] : List AV).getD j .any) := fun j => trivial
theorem rowNs_L {α : Type} [Inhabited α] {sz : Nat} {c : α → List AV} {l : List α} [h : FreeC c] : RowNs (rowL sz c l) := ⟨fun i j _ _ => h.h _ j⟩
theorem Conc.nil {w : World} {S : Nat → Prop} {blk blk' : Nat → BC} {x : AV} {u : Value} (h : Conc w S blk [] x u) : Conc w S blk' [] x u := h.mono (fun b hb => ⟨hb, rfl⟩) fun id x hx => by simp at hx
theorem RetM.wk {P : Program} {g : FuncId} {av bs : List AV} {post : AV → Hp → Prop} (h : WkL av bs) (r : RetM P g [] bs post) : RetM P g [] av post := .mk fun w S blk FP us hR hG hc => by
  refine r.h w S blk FP us hR hG ⟨by rw [hc.1, h.1], fun j c u hj hu => ?_⟩
  have hjl : j < av.length := by rw [h.1]; exact (List.getElem?_eq_some_iff.1 hj).1
  have e := List.getElem?_eq_getElem hjl
  exact ((h.2 j _ _ e hj).c w S u (hc.2 j _ u e hu).nil).nil
theorem shr_plain {α : Type} {c : α → List AV} (h : ∀ a, (c a).all stay = true) : Shr 0 c c := ⟨fun H k a => by
  have : (c a).map (shrC (k + 0) H) = c a := by
    conv => rhs; rw [← List.map_id (c a)]
    exact List.map_congr_left fun x hx => stay_eq (List.all_eq_true.1 (h a) x hx)
  rw [this]
  exact ⟨rfl, fun j x y hx hy => by rw [hx] at hy; cases hy; exact .refl _⟩⟩
theorem WkL.getD {xs ys : List AV} (h : WkL xs ys) (j : Nat) : Wk (xs.getD j .any) (ys.getD j .any) := by
  rw [List.getD_eq_getElem?_getD, List.getD_eq_getElem?_getD]
  cases hx : xs[j]? with
  | none =>
    have : ys[j]? = none := by
      rw [List.getElem?_eq_none_iff] at hx ⊢
      rw [← h.1]; exact hx
    rw [this]
    exact .refl _
  | some x =>
    have hj : j < ys.length := by rw [← h.1]; exact (List.getElem?_eq_some_iff.1 hx).1
    rw [List.getElem?_eq_getElem hj]
    exact h.2 j _ _ hx (List.getElem?_eq_getElem hj)
theorem shr_any {k : Nat} {H : Hp} : shrC k H .any = .any := by cases k <;> rfl
theorem shr_L {α : Type} [Inhabited α] {d sz k n : Nat} {H : Hp} {cO c : α → List AV} {l : List α} [h : Shr d cO c] (hn : n = l.length) : Wk (.sl sz n fun i j => shrC (k + d) H (elE cO l i j)) (slL sz c l) := by
  subst hn
  refine Wk.sl fun i j hi hj => ?_
  have := (h.h H k (l.getD i default)).getD j
  have e : ((cO (l.getD i default)).map (shrC (k + d) H)).getD j .any = shrC (k + d) H (elE cO l i j) := by
    unfold elE
    generalize cO (l.getD i default) = cs
    rw [List.getD_eq_getElem?_getD, List.getD_eq_getElem?_getD, List.getElem?_map]
    cases cs[j]? with
    | none => exact shr_any.symm
    | some x => rfl
  rw [e] at this
  exact this
theorem shr_ow {α : Type} [Inhabited α] {d sz k : Nat} {H : Hp} {cO c : α → List AV} {l : List α} [h : Shr d cO c] : Wk (shrC (k + (d + 1)) H (owL sz cO l)) (slL sz c l) := by
  show Wk (.sl sz l.length fun i j => shrC (k + d) H (elE cO l i j)) _
  exact shr_L rfl
inductive RowsPl : Hp → Prop
  | nil : RowsPl []
  | cons {x : Row} {H : Hp} (h : RowPl x) (r : RowsPl H) : RowsPl (some x :: H)
  | none {H : Hp} (r : RowsPl H) : RowsPl (none :: H)
theorem RowsPl.at {H : Hp} (h : RowsPl H) : ∀ (k : Nat) (x : Row), H[k]? = some (some x) → RowPl x := by
  induction h with
  | nil => intro k x h; simp at h
  | cons h r ih =>
    intro k y hk
    cases k with
    | zero => cases hk; exact h
    | succ k => exact ih k y (by simpa using hk)
  | none r ih =>
    intro k y hk
    cases k with
    | zero => cases hk
    | succ k => exact ih k y (by simpa using hk)
theorem lok_pl {σ : Nat → Nat} {L : Hp} (h : RowsPl L) : LOk σ L L := lok_self h.at
theorem keepK {π : List Nat} {H0 : Hp} {n : Nat} (hX : H0.length = n) (h : (List.range n).all (fun k => π[k]? == some k) = true) : ∀ k, k < H0.length → π[k]? = some k := fun k hk => by
  have := List.all_eq_true.1 h k (List.mem_range.2 (by omega))
  simpa using this
def markL {α : Type} (f : α → Int → α × Int) : List α → Int → List α × Int
  | [], k => ([], k)
  | a :: l, k => ((f a k).1 :: (markL f l (f a k).2).1, (markL f l (f a k).2).2)
theorem markL_len {α : Type} {f : α → Int → α × Int} : ∀ (l : List α) (k : Int), (markL f l k).1.length = l.length
  | [], k => rfl
  | a :: l, k => by simp [markL, markL_len l]
theorem markL_snoc {α : Type} {f : α → Int → α × Int} {a : α} : ∀ (l : List α) (k : Int), markL f (l ++ [a]) k = ((markL f l k).1 ++ [(f a (markL f l k).2).1], (f a (markL f l k).2).2)
  | [], k => rfl
  | b :: l, k => by simp [markL, markL_snoc l]
theorem markL_mono {α : Type} {f : α → Int → α × Int} (hf : ∀ a k, k ≤ (f a k).2) : ∀ (l : List α) (k : Int), k ≤ (markL f l k).2
  | [], k => Int.le_refl _
  | a :: l, k => Int.le_trans (hf a k) (markL_mono hf l _)
theorem markL_app {α : Type} {f : α → Int → α × Int} : ∀ (l m : List α) (k : Int), markL f (l ++ m) k = ((markL f l k).1 ++ (markL f m (markL f l k).2).1, (markL f m (markL f l k).2).2)
  | [], m, k => rfl
  | b :: l, m, k => by simp [markL, markL_app l]
def mkC {α : Type} (f : α → Int → α × Int) (l : List α) (k : Int) (i : Nat) : Int := (markL f (l.take i) k).2
section
variable {α : Type} {f : α → Int → α × Int} {l : List α} {k : Int} {i : Nat}
theorem take_snoc [Inhabited α] (h : i < l.length) : l.take (i + 1) = l.take i ++ [l.getD i default] := by
  rw [List.take_add_one, List.getElem?_eq_getElem h, List.getD_eq_getElem?_getD, List.getElem?_eq_getElem h]; rfl
theorem mkC_succ [Inhabited α] (h : i < l.length) : mkC f l k (i + 1) = (f (l.getD i default) (mkC f l k i)).2 := by
  unfold mkC
  rw [take_snoc h, markL_snoc]
theorem mkC_le (hf : ∀ a k, k ≤ (f a k).2) (i : Nat) : mkC f l k i ≤ (markL f l k).2 := by
  unfold mkC
  conv => rhs; rw [← List.take_append_drop i l]
  rw [markL_app]
  exact markL_mono hf _ _
end
theorem arr_same {α : Type} [Inhabited α] {r : List Nat} {n sz cap cap' : Nat} {c : α → List AV} {l l' : List α} {bx : RK} (e : l' = l) (hc : cap' = cap) (hlow : ∀ a j, fx r n ((c a).getD j .any) = true) : ArrP r n ⟨sz, cap, elE c l', bx⟩ ⟨sz, cap', elE c l, bx⟩ :=
  ⟨rfl, hc, rfl, fun i j hi hj => by show elE c l i j = elE c l' i j; rw [e], fun i j _ _ => hlow _ _⟩
structure MarkUp {α : Type} (f : α → Int → α × Int) (l : List α) (k : Int) (i : Nat) : Prop where
  lo : 0 ≤ mkC f l k i
  mono : ∀ a k, k ≤ (f a k).2
  hi : (markL f l k).2 ≤ 4611686018427387904
theorem MarkUp.le {α : Type} [Inhabited α] {f : α → Int → α × Int} {l : List α} {k : Int} {i : Nat} (h : MarkUp f l k i) (hi : i < l.length) : (f (l.getD i default) (mkC f l k i)).2 ≤ 4611686018427387904 := by
  rw [← mkC_succ hi]
  exact Int.le_trans (mkC_le h.mono _) h.hi
theorem Wk.nilS0 {α : Type} [Inhabited α] {sz : Nat} {c : α → List AV} : Wk .nils (slL sz c []) := by
  refine ⟨fun _ i j hi _ => ?_, fun w S u h => ?_⟩
  · exact absurd hi (Nat.not_lt_zero _)
  · rw [inv_nils h]
    exact .sl0 none 0 (Nat.zero_le _)
theorem roundET_turn {α : Type} {X : Ctx} {f0 : Fr} {H0 : Hp} {vs : α → Fr} {hp : α → List (Option RowI)} {I : α → Prop} {μ : α → Nat} {x : α} {f' : Fr} {H' H1 : Hp} (t : Turn X H' H1) (h : RoundEndT X f0 H0 vs hp I μ x f' H1) : RoundEndT X f0 H0 vs hp I μ x f' H' := by
  obtain ⟨H2, t2, h⟩ := h
  exact ⟨H2, t.trans t2, h⟩
theorem roundET_end {α : Type} {X : Ctx} {f0 : Fr} {H0 : Hp} {vs : α → Fr} {hp : α → List (Option RowI)} {I : α → Prop} {μ : α → Nat} {x : α} {f' : Fr} {H' : Hp} (h : RoundEnd X f0 H0 vs hp I μ x f' H') : RoundEndT X f0 H0 vs hp I μ x f' H' := ⟨H', Turn.refl, h⟩
theorem catE_at {n i j : Nat} {es g : Nat → Nat → AV} : catE n es g i j = if i < n then es i j else g (i - n) j := by
  by_cases h : i < n
  · rw [if_pos h, catE_lt h]
  · rw [if_neg h, catE_ge (by omega)]
theorem getD_snoc {α : Type} [Inhabited α] {l : List α} {a : α} {i : Nat} : (l ++ [a]).getD i default = if i < l.length then l.getD i default else if i = l.length then a else default := by
  rw [List.getD_eq_getElem?_getD, List.getD_eq_getElem?_getD]
  by_cases h : i < l.length
  · rw [if_pos h, List.getElem?_append_left h]
  · rw [if_neg h, List.getElem?_append_right (by omega)]
    by_cases e : i = l.length
    · rw [if_pos e, e, Nat.sub_self]; rfl
    · rw [if_neg e, List.getElem?_eq_none (by simp; omega)]; rfl
theorem snoc_idf {α : Type} [Inhabited α] {k sz : Nat} {c : α → List AV} {l : List α} {g : Nat → Nat → AV} [h : HoldC c] (hk : k = l.length) (hg : ∀ j, j < sz → (g 0 j).idfO) : ∀ i j, i < k + 1 → j < sz → (catE k (elE c l) g i j).idfO := fun i j hi hj => by
  rw [catE_at]
  by_cases h' : i < k
  · rw [if_pos h']; exact h.h _ j
  · rw [if_neg h', show i - k = 0 by omega]; exact hg j hj
theorem snoc_eq {α : Type} [Inhabited α] {k sz : Nat} {c : α → List AV} {l : List α} {a : α} {g : Nat → Nat → AV} (hk : k = l.length) (hg : ∀ j, j < sz → OwEq (g 0 j) ((c a).getD j .any)) : ∀ i j, i < k + 1 → j < sz → OwEq (catE k (elE c l) g i j) (elE c (l ++ [a]) i j) := fun i j hi hj => by
  rw [catE_at]
  unfold elE
  rw [getD_snoc]
  by_cases h' : i < k
  · rw [if_pos h', if_pos (by omega)]; exact .refl _
  · rw [if_neg h', if_neg (by omega), if_pos (by omega), show i - k = 0 by omega]; exact hg j hj
theorem RowBack.L {α : Type} [Inhabited α] {σ : Nat → Nat} {m sz n : Nat} {c : α → List AV} {l : List α} (hn : l.length = n) (h : ∀ a, (c a).all pl1 = true) : RowBack σ m (rowL sz c l) ⟨sz, n, elE c l, .arr⟩ := ⟨rfl, hn, .refl _, fun i j _ _ => ⟨(pl1_ren (pl1_getD (h _) j)).1.symm, pl1_low2 (pl1_getD (h _) j)⟩⟩
theorem Wk.rfLo {m : Nat} {g : Nat → AV} {cs : List AV} (h : WkL (cellsAt g 0 m) cs) : Wk (.rf m g) (rfL cs) := by
  have hl : m = cs.length := by rw [← h.1, cellsAt_length]
  subst hl
  unfold rfL
  refine Wk.rf fun j hj => ?_
  have := h.getD j
  have hj' : j < (cellsAt g 0 cs.length).length := by rw [cellsAt_length]; exact hj
  have e := (cellsAt_get g cs.length 0 j _ (List.getElem?_eq_getElem hj')).2
  rw [Nat.zero_add] at e
  rw [List.getD_eq_getElem?_getD, List.getElem?_eq_getElem hj'] at this
  rw [e] at this
  exact this
theorem MixL.wk {π : List Nat} {H : Hp} {a c : AV} {es cs : List AV} (h : Wk (shr (outM π 0 H) c) a) (r : MixL π H es cs) : MixL π H (a :: es) (c :: cs) := .frz h.c r
theorem Ret.wka {P : Program} {g : FuncId} {av bs : List AV} {post : AV → Prop} (r : Ret P g bs post) (h : WkL av bs := by ((repeat (first | exact WkL.nil | refine WkL.cons ?_ ?_ | exact Wk.refl _ | exact Wk.rfc rfl | refine Wk.fn ?_ | exact Wk.nilS0 | exact shr_L (d := 0) (k := 4) rfl | exact shr_L (d := 1) (k := 3) rfl | exact shr_L (d := 2) (k := 2) rfl | exact shr_L (d := 0) (k := 4) (by simp only [markL_len]) | exact shr_L (d := 1) (k := 3) (by simp only [markL_len]) | refine Wk.agg ?_ | exact shr_L (d := 0) (k := 3) rfl | exact shr_L (d := 1) (k := 2) rfl | exact shr_ow (d := 1) (k := 2) | exact shr_ow (d := 0) (k := 3) | refine Wk.rfLo ?_)); first | done | fail)) : Ret P g av post := Ret.wk h r
theorem RetM.wka {P : Program} {g : FuncId} {av bs : List AV} {post : AV → Hp → Prop} (r : RetM P g [] bs post) (h : WkL av bs := by ((repeat (first | exact WkL.nil | refine WkL.cons ?_ ?_ | exact Wk.refl _ | exact Wk.rfc rfl | refine Wk.fn ?_ | exact Wk.nilS0 | exact shr_L (d := 0) (k := 4) rfl | exact shr_L (d := 1) (k := 3) rfl | exact shr_L (d := 2) (k := 2) rfl | exact shr_L (d := 0) (k := 4) (by simp only [markL_len]) | exact shr_L (d := 1) (k := 3) (by simp only [markL_len]) | refine Wk.agg ?_ | exact shr_L (d := 0) (k := 3) rfl | exact shr_L (d := 1) (k := 2) rfl | exact shr_ow (d := 1) (k := 2) | exact shr_ow (d := 0) (k := 3) | refine Wk.rfLo ?_)); first | done | fail)) : RetM P g [] av post := RetM.wk h r
theorem viewA {π : List Nat} {H H0 : Hp} (hn : nodupB π = true := by exact rfl) (h : ViewL H (sig π H.length) π.length π H0 := by repeat' (first | exact ViewL.nil | refine ViewL.cons rfl (RowBack.self ?_) ?_ | exact rowPl_L (fun _ => rfl) | exact rowPl_box rfl)) : ViewOk π H H0 := view_of hn h
theorem lokA {σ : Nat → Nat} {L : Hp} (h : RowsPl L := by repeat' (first | exact RowsPl.nil | refine RowsPl.cons ?_ ?_ | refine RowsPl.none ?_ | exact rowPl_L (fun _ => rfl) | exact rowPl_box rfl)) : LOk σ L L := lok_pl h
theorem nssA {H : Hp} (h : RowsNs H := by repeat' (first | exact rowsNs_nil | refine rowsNs_cons ?_ ?_ | refine rowsNs_none ?_ | exact rowNs_L | exact rowNs_box)) : RowsNs H := h
end
section
variable {E : Env} {P : Program} {nt : Nat} {X : Ctx} {f : Fr} {H : Hp} {ty : TypeId}
def dimsK (n0 : Nat) (H H' : Hp) : List Nat → Prop
  | [] => True
  | id :: r => (bif Nat.ble n0 id then True else match H[id]?, H'[id]? with
    | some (some x), some (some y) => y.sz = x.sz ∧ y.cap = x.cap ∧ blankK y.k = blankK x.k
    | some none, some none => True
    | _, _ => False) ∧ dimsK n0 H H' r
theorem dimsK_at {n0 : Nat} {H H' : Hp} : ∀ {M : List Nat}, dimsK n0 H H' M → ∀ i, i < n0 → i ∈ M → (H'[i]?).map (fun r => r.map Go.Proofs.Ytdeledeopippfaa.blank) = (H[i]?).map (fun r => r.map Go.Proofs.Ytdeledeopippfaa.blank)
  | [], _, i, _, hi => by cases hi
  | id :: r, h, i, hlt, hi => by
    rcases List.mem_cons.1 hi with rfl | hi
    · have h1 := h.1
      have hb : Nat.ble n0 i = false := by
        cases hb : Nat.ble n0 i with
        | false => rfl
        | true => have := Nat.le_of_ble_eq_true hb; omega
      rw [hb, cond_false] at h1
      split at h1
      · rename_i x y e1 e2
        rw [e1, e2]
        simp only [Option.map_some, Go.Proofs.Ytdeledeopippfaa.blank, h1.1, h1.2.1, h1.2.2]
      · rename_i e1 e2
        rw [e1, e2]
      · cases h1
    · exact dimsK_at h.2 i hlt hi
def efC (E : Env) (nt : Nat) (M : List Nat) (n0 : Nat) (o : Oper) (f : Fr) (H : Hp) (K : AV → Hp → Prop) : Prop :=
  match o.op with
  | .call ⟨.value fx, args, _⟩ => (match o.guard with
    | some _ => False
    | none => (match o.dst with
      | some d => bif Nat.blt d nt then clM E f H (fun i => M.contains i || Nat.ble n0 i) fx args.toList (fun v H' => dimsK n0 H H' M ∧ K v H') else False
      | none => clM E f H (fun i => M.contains i || Nat.ble n0 i) fx args.toList (fun _ H' => dimsK n0 H H' M ∧ K .any H')))
  | _ => efK E nt M n0 o f H K
theorem hid_call {M : List Nat} {n0 : Nat} {H2 : Hp} (hn : n0 ≤ H.length) (h1 : dimsK n0 H H2 M) (h2 : ∀ i, i < H.length → (M.contains i || Nat.ble n0 i) = false → H2[i]? = H[i]?) : hidM M 0 (H2.take n0) = hidM M 0 (H.take n0) := by
  apply List.ext_getElem?
  intro i
  rw [hidM_at, hidM_at, List.getElem?_take, List.getElem?_take]
  by_cases hi : i < n0
  · rw [if_pos hi, if_pos hi]
    simp only [Nat.zero_add]
    cases hM : M.contains i with
    | true =>
      simp only [cond_true]
      exact dimsK_at h1 i hi (List.contains_iff_mem.1 hM)
    | false =>
      rw [h2 i (by omega) (by
        rw [hM, Bool.false_or]
        cases hb : Nat.ble n0 i with
        | false => rfl
        | true => have := Nat.le_of_ble_eq_true hb; omega)]
  · rw [if_neg hi, if_neg hi]
theorem efC_po {M : List Nat} {n0 : Nat} {o : Oper} {K : AV → Hp → Prop} (hn : n0 ≤ H.length) (h : efC E nt M n0 o f H K) : o.guard = none ∧ PO E.P nt X o f H fun f' H' => ∃ v, f' = pushD o.dst v f ∧ hidM M 0 (H'.take n0) = hidM M 0 (H.take n0) ∧ K v H' := by
  unfold efC at h
  split at h
  · rename_i fx args tys hop
    split at h
    · cases h
    rename_i hg
    refine ⟨hg, ?_⟩
    obtain ⟨d?, op, ty, pos, after, gd⟩ := o
    dsimp only at h hop hg
    subst hop
    split at h
    · rename_i d
      cases hb : Nat.blt d nt with
      | false => rw [hb] at h; cases h
      | true =>
        rw [hb, cond_true] at h
        rintro a w ⟨blk, FP, s⟩ K' Q' hK
        refine clM_run h s _ tys (by simp) K' Q' fun r u w' H2 blk2 FP2 hk hsame s2 hc => ?_
        exact hK _ _ _ _ ⟨r, rfl, hid_call hn hk.1 hsame, hk.2⟩ ⟨blk2, FP2, s2.put (Nat.le_of_ble_eq_true hb) hc⟩
    · rintro a w ⟨blk, FP, s⟩ K' Q' hK
      refine clM_run h s _ tys (by simp) K' Q' fun r u w' H2 blk2 FP2 hk hsame s2 hc => ?_
      exact hK _ _ _ _ ⟨.any, rfl, hid_call hn hk.1 hsame, hk.2⟩ ⟨blk2, FP2, s2⟩
  · exact ef_po hn h
def dsC (E : Env) (nt : Nat) (ops : Array Oper) (M : List Nat) (H0 : Hp) (Q : Fr → Hp → Prop) (n : Nat) : List Nat → Fr → Hp → Prop :=
  Nat.rec (motive := fun _ => List Nat → Fr → Hp → Prop) (fun _ f H => Q f H) (fun _ ih D f H => match firstRd E ops M H0.length f D 0 ops.toList with
    | some (i, o) => (match o.dst with
      | some d => bif Nat.blt d nt then
          rdK E (hidM M 0 H0) (restr (looksL ops o) f) o.op fun v => frc v fun v => bif low H0.length v then ih (i :: D) ((d, v) :: f) H else False else False
      | none => False)
    | none => brsK D (fun i o => efC E nt M H0.length o f H fun v H' => pushK o.dst v f fun f => ih (i :: D) f H') ops.toList 0 none) n
theorem dsC_succ {ops : Array Oper} {M : List Nat} {H0 : Hp} {Q : Fr → Hp → Prop} {n : Nat} {D : List Nat} {f : Fr} {H : Hp} : dsC E nt ops M H0 Q (n + 1) D f H = match firstRd E ops M H0.length f D 0 ops.toList with
    | some (i, o) => (match o.dst with
      | some d => bif Nat.blt d nt then
          rdK E (hidM M 0 H0) (restr (looksL ops o) f) o.op fun v => frc v fun v => bif low H0.length v then dsC E nt ops M H0 Q n (i :: D) ((d, v) :: f) H else False else False
      | none => False)
    | none => brsK D (fun i o => efC E nt M H0.length o f H fun v H' => pushK o.dst v f fun f => dsC E nt ops M H0 Q n (i :: D) f H') ops.toList 0 none := rfl
theorem dsC_ok {ops : Array Oper} {M : List Nat} {H0 : Hp} {Q : Exit → Fr → Hp → Prop} : ∀ (n : Nat) (D : List Nat) (f : Fr) (H : Hp), hidM M 0 (H.take H0.length) = hidM M 0 H0 → dsC E nt ops M H0 (Q .normal) n D f H → DR E.P nt X ops M H0 Q n D f H
  | 0, D, f, H, _, h => h
  | n + 1, D, f, H, hold, h => by
    have hlen : H0.length ≤ H.length := by
      have := congrArg List.length hold
      rw [hidM_len, hidM_len, List.length_take] at this
      omega
    rw [dsC_succ] at h
    split at h
    · rename_i i o hfi
      obtain ⟨_, h1, h2, h3, h6, h4, h5⟩ := firstRd_ok hfi
      split at h
      · rename_i d hd
        rw [looksL_eq] at h
        cases hb : Nat.blt d nt with
        | false => rw [hb] at h; cases h
        | true =>
          rw [hb, cond_true] at h
          obtain ⟨v, hpj, hk⟩ := pj_of (nt := nt) (X := X) (ops := ops) (ty := o.type) h
          rw [frc_eq] at hk
          cases hl : low H0.length v with
          | false => rw [hl] at hk; cases hk
          | true =>
            rw [hl, cond_true] at hk
            exact .inl ⟨i, o, d, v, by simpa using h1, h2, hd, Nat.le_of_ble_eq_true hb, h3, h6, hl, h5 d hd, .inl ⟨h4, hpj⟩, dsC_ok n _ _ _ hold hk⟩
      · cases h
    · refine .inr fun i o ho hD hw => ?_
      have hm := brsK_mem h (Nat.zero_le i) (by simpa using ho) hD hw
      obtain ⟨hg, hpo⟩ := efC_po (X := X) hlen hm
      refine pl_op hg (hpo.mono ?_)
      rintro f' H' ⟨v, rfl, ho1, hk⟩
      rw [pushK_eq] at hk
      refine pl_nil ⟨rfl, ?_, ho1.trans hold, dsC_ok n _ _ _ (ho1.trans hold) hk⟩
      cases hd : o.dst with
      | none => exact ext_rfl
      | some d => exact ext_cons
theorem dt_goC {id : Nat} {ops : Array Oper} {Q : Exit → Fr → Hp → Prop} (M : List Nat) (h : drawOkS ops = true ∧ dsC E nt ops M H (Q .normal) ops.toList.length [] f H) : DT E nt X id ops f H Q := ⟨by
  obtain ⟨hok, h⟩ := h
  have := pw_drawS (id := id) (l := ops.toList) (Q := Q) (X := X) M E.mixed (by simpa using hok) (by simpa using dsC_ok (Q := Q) (X := X) _ _ _ _ (by rw [List.take_length]) h)
  simpa using this⟩
end
section
variable {E : Env} {P : Program} {nt : Nat} {X : Ctx} {f : Fr} {H H' : Hp} {a : Act} {w : World} {blk : Nat → BC} {FP : Nat → List Nat}
theorem StB.thin (hk : ∀ k : Nat, H'[k]? = H[k]? ∨ H'[k]? = some none) (s : StB nt X f H blk FP a w) : StB nt X f H' blk FP a w := by
  have hget : ∀ (k : Nat) (r : Row), H'[k]? = some (some r) → H[k]? = some (some r) := fun k r h => by
    rcases hk k with q | q
    · rw [← q]; exact h
    · rw [q] at h; cases h
  have hkeep : ∀ b, X.S FP H w.heap.size b → X.S FP H' w.heap.size b ∧ w.heap[b]? = w.heap[b]? := fun b hb => ⟨⟨hb.1, hb.2.1, fun k r h => hb.2.2 k r (hget k r h)⟩, rfl⟩
  have hext : HExt H blk H' blk := fun k x hx => by
    rcases hk k with q | q
    · cases x with
      | none => exact .inl (q.trans hx)
      | some r => exact .inr ⟨r, r, rfl, q.trans hx, rfl, rfl, rfl⟩
    · exact .inl q
  exact ⟨s.defers, s.size, s.keeps, fun k r h => ⟨(s.rows k r (hget k r h)).1.mono hkeep hext fun _ _ => rfl, (s.rows k r (hget k r h)).2⟩, fun i j r r' hi hj => s.apart i j r r' (hget i r hi) (hget j r' hj), fun t => (s.fr t).mono hkeep hext, s.ext.trans hext⟩
def frP (f : Fr) : Fr → Prop
  | [] => True
  | (t, v) :: g => lk f t = v ∧ frP f g
theorem frP_lk : ∀ {g : Fr}, frP f g → ∀ t, lk g t = .any ∨ lk g t = lk f t
  | [], _, t => .inl rfl
  | (d, v) :: g, h, t => by
    rw [lk_cons]
    split
    · rename_i e; subst e; exact .inr h.1.symm
    · exact frP_lk h.2 t
def hpK : Hp → Hp → Prop
  | [], [] => True
  | x :: H, y :: H' => (y = x ∨ y = none) ∧ hpK H H'
  | [], y :: H' => y = none ∧ hpK [] H'
  | _ :: _, [] => False
theorem hpK_at : ∀ {H H' : Hp}, hpK H H' → ∀ k : Nat, H'[k]? = H[k]? ∨ H'[k]? = some none
  | [], [], _, k => .inl rfl
  | x :: H, y :: H', h, 0 => by
    rcases h.1 with rfl | rfl
    · exact .inl rfl
    · exact .inr rfl
  | x :: H, y :: H', h, k + 1 => by simpa using hpK_at h.2 k
  | [], y :: H', h, 0 => by obtain ⟨rfl, _⟩ := h; exact .inr rfl
  | [], y :: H', h, k + 1 => by simpa using hpK_at h.2 k
  | _ :: _, [], h, _ => h.elim
structure Cut (nt : Nat) (X : Ctx) {α : Type} (I : α → Prop) (g : α → Fr) (hp : α → Hp) (f : Fr) (H : Hp) : Prop where
  h : ∃ y, I y ∧ ∀ a w, St nt X f H a w → St nt X (g y) (hp y) a w
theorem cut_go {α : Type} {I : α → Prop} {g : α → Fr} {hp : α → Hp} (y : α) (hI : I y) (hg : frP f (g y)) (hH : hpK H (hp y)) : Cut nt X I g hp f H :=
  ⟨y, hI, fun a w ⟨blk, FP, s⟩ => ⟨blk, FP, (s.refr (g := g y) fun t hc => by
    rcases frP_lk hg t with q | q
    · rw [q]; exact .any _
    · rw [q]; exact hc).thin (hpK_at hH)⟩⟩
theorem cut_turn {α : Type} {I : α → Prop} {g : α → Fr} {hp : α → Hp} (t : Turn X H H') (h : Cut nt X I g hp f H') : Cut nt X I g hp f H := by
  obtain ⟨y, hI, hs⟩ := h
  exact ⟨y, hI, fun a w s => hs a w (s.turn t)⟩
def wpcN (E : Env) (nt : Nat) (X : Ctx) : Nat → Code → Fr → Hp → (Fr → Hp → Prop) → (Exit → Fr → Hp → Prop) → Prop
  | 0, _, f, H, J, _ => J f H
  | k + 1, .seq a b, f, H, J, Q => wpc E nt X a f H (thn (fun f H => wpcN E nt X k b f H J Q) Q)
  | _ + 1, _, _, _, _, _ => False
def restC : Nat → Code → Code
  | 0, c => c
  | k + 1, .seq _ b => restC k b
  | _ + 1, c => c
theorem wpcN_ok {J : Fr → Hp → Prop} {Q : Exit → Fr → Hp → Prop} : ∀ (k : Nat) (c : Code) (f : Fr) (H : Hp), wpcN E nt X k c f H J Q → (∀ f H, J f H → PW E.P nt X (restC k c) f H Q) → PW E.P nt X c f H Q
  | 0, c, f, H, h, hJ => hJ f H h
  | k + 1, c, f, H, h, hJ => by
    cases c with
    | seq a b =>
      refine pw_seq fun x w s => wp_mono (wpc_ok a f H _ h x w s) fun e x w ⟨f, H, q, s⟩ => ?_
      refine ⟨f, H, ?_, s⟩
      cases e with
      | normal => exact wpcN_ok k b f H q hJ
      | _ => exact q
    | _ => exact h.elim
theorem pw_cut {c : Code} {Q : Exit → Fr → Hp → Prop} {α : Type} (k : Nat) (I : α → Prop) (gf : α → Fr) (hp : α → Hp)
    (h : wpcN E nt X k c f H (Cut nt X I gf hp) Q) (h2 : ∀ y, I y → PW E.P nt X (restC k c) (gf y) (hp y) Q) : PW E.P nt X c f H Q :=
  wpcN_ok k c _ _ h fun f H ⟨⟨y, hI, hs⟩⟩ a w s => h2 y hI a w (hs a w s)
theorem ret_ofPM {g : FuncId} {fn : Func} {c : Code} {H0 : Hp} {al : List AV} {post : AV → Hp → Prop} {rvs : List ResultVar} (hf : E.P.funcs[g]? = some fn) (hb : fn.body = some c) (hnt : fn.ntmps = nt) (hrv : fn.results.toList = rvs) (hle : Nat.ble al.length nt = true)
    (h : ∀ X : Ctx, X.H0 = H0 → PW E.P nt X c (frm 0 al) H0 (FinM E X rvs post)) : RetM E.P g H0 al post :=
  ret_ofPT hf hb hnt hrv hle (fun _ => Turn.refl) h
end
end Go.Proofs.Ytdeledeopippfaa
