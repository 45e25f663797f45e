/- Texts for VTermOkP. -/
import Derived.Test.YtllcemegnggpfaaVs18
namespace Go.Proofs.Ytllcemegnggpfaa
open Go Go.RowKit
set_option linter.unusedVariables false
set_option linter.unusedSimpArgs false
section
def owL {α : Type} [Inhabited α] (sz : Nat) (c : α → List AV) (l : List α) : AV := .ow sz l.length (elE c l)
def rowL {α : Type} [Inhabited α] (sz : Nat) (c : α → List AV) (l : List α) : Row := ⟨sz, l.length, elE c l, .arr⟩
class Shr (d : outParam Nat) {α : Type} (cO : α → List AV) (c : outParam (α → List AV)) : Prop where
  h : ∀ (H : Hp) (k : Nat) (a : α), WkL ((cO a).map (shrC (k + d) H)) (c a)
theorem pl1_getD {cs : List AV} (h : cs.all pl1 = true) (j : Nat) : pl1 (cs.getD j .any) = true := by
  rw [List.getD_eq_getElem?_getD]
  cases hj : cs[j]? with
  | none => rfl
  | some c => exact List.all_eq_true.1 h c (List.mem_of_getElem? hj)
theorem rowPl_L {α : Type} [Inhabited α] {sz : Nat} {c : α → List AV} {l : List α} (h : ∀ a, (c a).all pl1 = true) : RowPl (rowL sz c l) := ⟨fun i j _ _ => pl1_getD (h _) j⟩
def idfB : AV → Bool
  | .any | .i .. | .b _ | .kb _ | .s _ | .nils | .nilp | .st _ => true
  | _ => false
theorem idfB_ok {x : AV} (h : idfB x = true) : x.idfO := by cases x <;> first | exact trivial | cases h
class HoldC {α : Type} (c : α → List AV) : Prop where
  h : ∀ a j, ((c a).getD j .any).idfO
theorem holdC_plain {α : Type} {c : α → List AV} (h : ∀ a, (c a).all idfB = true) : HoldC c := ⟨fun a j => by
  rw [List.getD_eq_getElem?_getD]
  cases hj : (c a)[j]? with
  | none => exact trivial
  | some x => exact idfB_ok (List.all_eq_true.1 (h a) x (List.mem_of_getElem? hj))⟩
theorem owL_idf {α : Type} [Inhabited α] {sz : Nat} {c : α → List AV} {l : List α} [h : HoldC c] : (owL sz c l).idfO := fun i j _ _ => h.h _ j
theorem idf_cons {x : AV} {cs : List AV} (hx : x.idfO) (h : ∀ j, (cs.getD j .any).idfO) : ∀ j, ((x :: cs).getD j .any).idfO
  | 0 => hx
  | j + 1 => by simpa using h j
theorem idf_nil : ∀ j, (([] : List AV).getD j .any).idfO := fun j => trivial
theorem rowO_L {α : Type} [Inhabited α] {sz : Nat} {c : α → List AV} {l : List α} [h : HoldC c] : RowO l.length (rowL sz c l) := ⟨Nat.le_refl _, fun i j _ _ => h.h _ j⟩
theorem rowO_le {α : Type} [Inhabited α] {sz n : Nat} {c : α → List AV} {l : List α} [h : HoldC c] (hn : n ≤ l.length) : RowO n (rowL sz c l) := ⟨hn, fun i j _ _ => h.h _ j⟩
class FreeC {α : Type} (c : α → List AV) : Prop where
  h : ∀ a j, noS ((c a).getD j .any)
theorem freeC_plain {α : Type} {c : α → List AV} (h : ∀ a, (c a).all noS1 = true) : FreeC c := ⟨fun a j => by
  rw [List.getD_eq_getElem?_getD]
  cases hj : (c a)[j]? with
  | none => exact trivial
  | some x => exact noS1_ok (List.all_eq_true.1 (h a) x (List.mem_of_getElem? hj))⟩
theorem owL_free {α : Type} [Inhabited α] {sz : Nat} {c : α → List AV} {l : List α} [h : FreeC c] : noS (owL sz c l) := fun i j _ _ => h.h _ j
theorem free_cons {x : AV} {cs : List AV} (hx : noS x) (h : ∀ j, noS (cs.getD j .any)) : ∀ j, noS ((x :: cs).getD j .any)
  | 0 => hx
  | j + 1 => by simpa using h j
theorem free_nil : ∀ j, noS (([] : List AV).getD j .any) := fun j => trivial
theorem rowNs_L {α : Type} [Inhabited α] {sz : Nat} {c : α → List AV} {l : List α} [h : FreeC c] : RowNs (rowL sz c l) := ⟨fun i j _ _ => h.h _ j⟩
theorem Conc.nil {w : World} {S : Nat → Prop} {blk blk' : Nat → BC} {x : AV} {u : Value} (h : Conc w S blk [] x u) : Conc w S blk' [] x u := h.mono (fun b hb => ⟨hb, rfl⟩) fun id x hx => by simp at hx
theorem RetM.wk {P : Program} {g : FuncId} {av bs : List AV} {post : AV → Hp → Prop} (h : WkL av bs) (r : RetM P g [] bs post) : RetM P g [] av post := .mk fun w S blk FP us hR hG hc => by
  refine r.h w S blk FP us hR hG ⟨by rw [hc.1, h.1], fun j c u hj hu => ?_⟩
  have hjl : j < av.length := by rw [h.1]; exact (List.getElem?_eq_some_iff.1 hj).1
  have e := List.getElem?_eq_getElem hjl
  exact ((h.2 j _ _ e hj).c w S u (hc.2 j _ u e hu).nil).nil
theorem stay_shr {k : Nat} {H : Hp} {v : AV} (h : stay v = true) : Wk (shrC k H v) v := by rw [stay_eq h]; exact .refl _
theorem shr_plain {α : Type} {c : α → List AV} (h : ∀ a, (c a).all stay = true) : Shr 0 c c := ⟨fun H k a => by
  have : (c a).map (shrC (k + 0) H) = c a := by
    conv => rhs; rw [← List.map_id (c a)]
    exact List.map_congr_left fun x hx => stay_eq (List.all_eq_true.1 (h a) x hx)
  rw [this]
  exact ⟨rfl, fun j x y hx hy => by rw [hx] at hy; cases hy; exact .refl _⟩⟩
theorem WkL.getD {xs ys : List AV} (h : WkL xs ys) (j : Nat) : Wk (xs.getD j .any) (ys.getD j .any) := by
  rw [List.getD_eq_getElem?_getD, List.getD_eq_getElem?_getD]
  cases hx : xs[j]? with
  | none =>
    have : ys[j]? = none := by
      rw [List.getElem?_eq_none_iff] at hx ⊢
      rw [← h.1]; exact hx
    rw [this]
    exact .refl _
  | some x =>
    have hj : j < ys.length := by rw [← h.1]; exact (List.getElem?_eq_some_iff.1 hx).1
    rw [List.getElem?_eq_getElem hj]
    exact h.2 j _ _ hx (List.getElem?_eq_getElem hj)
theorem shr_any {k : Nat} {H : Hp} : shrC k H .any = .any := by cases k <;> rfl
theorem shr_L {α : Type} [Inhabited α] {d sz k n : Nat} {H : Hp} {cO c : α → List AV} {l : List α} [h : Shr d cO c] (hn : n = l.length) : Wk (.sl sz n fun i j => shrC (k + d) H (elE cO l i j)) (slL sz c l) := by
  subst hn
  refine Wk.sl fun i j hi hj => ?_
  have := (h.h H k (l.getD i default)).getD j
  have e : ((cO (l.getD i default)).map (shrC (k + d) H)).getD j .any = shrC (k + d) H (elE cO l i j) := by
    unfold elE
    generalize cO (l.getD i default) = cs
    rw [List.getD_eq_getElem?_getD, List.getD_eq_getElem?_getD, List.getElem?_map]
    cases cs[j]? with
    | none => exact shr_any.symm
    | some x => rfl
  rw [e] at this
  exact this
theorem shr_ow {α : Type} [Inhabited α] {d sz k : Nat} {H : Hp} {cO c : α → List AV} {l : List α} [h : Shr d cO c] : Wk (shrC (k + (d + 1)) H (owL sz cO l)) (slL sz c l) := by
  show Wk (.sl sz l.length fun i j => shrC (k + d) H (elE cO l i j)) _
  exact shr_L rfl
inductive RowsPl : Hp → Prop
  | nil : RowsPl []
  | cons {x : Row} {H : Hp} (h : RowPl x) (r : RowsPl H) : RowsPl (some x :: H)
  | none {H : Hp} (r : RowsPl H) : RowsPl (none :: H)
theorem RowsPl.at {H : Hp} (h : RowsPl H) : ∀ (k : Nat) (x : Row), H[k]? = some (some x) → RowPl x := by
  induction h with
  | nil => intro k x h; simp at h
  | cons h r ih =>
    intro k y hk
    cases k with
    | zero => cases hk; exact h
    | succ k => exact ih k y (by simpa using hk)
  | none r ih =>
    intro k y hk
    cases k with
    | zero => cases hk
    | succ k => exact ih k y (by simpa using hk)
theorem lok_pl {σ : Nat → Nat} {L : Hp} (h : RowsPl L) : LOk σ L L := lok_self h.at
theorem keepK {π : List Nat} {H0 : Hp} {n : Nat} (hX : H0.length = n) (h : (List.range n).all (fun k => π[k]? == some k) = true) : ∀ k, k < H0.length → π[k]? = some k := fun k hk => by
  have := List.all_eq_true.1 h k (List.mem_range.2 (by omega))
  simpa using this
def markL {α : Type} (f : α → Int → α × Int) : List α → Int → List α × Int
  | [], k => ([], k)
  | a :: l, k => ((f a k).1 :: (markL f l (f a k).2).1, (markL f l (f a k).2).2)
theorem markL_len {α : Type} {f : α → Int → α × Int} : ∀ (l : List α) (k : Int), (markL f l k).1.length = l.length
  | [], k => rfl
  | a :: l, k => by simp [markL, markL_len l]
theorem markL_snoc {α : Type} {f : α → Int → α × Int} {a : α} : ∀ (l : List α) (k : Int), markL f (l ++ [a]) k = ((markL f l k).1 ++ [(f a (markL f l k).2).1], (f a (markL f l k).2).2)
  | [], k => rfl
  | b :: l, k => by simp [markL, markL_snoc l]
theorem markL_mono {α : Type} {f : α → Int → α × Int} (hf : ∀ a k, k ≤ (f a k).2) : ∀ (l : List α) (k : Int), k ≤ (markL f l k).2
  | [], k => Int.le_refl _
  | a :: l, k => Int.le_trans (hf a k) (markL_mono hf l _)
theorem markL_app {α : Type} {f : α → Int → α × Int} : ∀ (l m : List α) (k : Int), markL f (l ++ m) k = ((markL f l k).1 ++ (markL f m (markL f l k).2).1, (markL f m (markL f l k).2).2)
  | [], m, k => rfl
  | b :: l, m, k => by simp [markL, markL_app l]
def mkC {α : Type} (f : α → Int → α × Int) (l : List α) (k : Int) (i : Nat) : Int := (markL f (l.take i) k).2
section
variable {α : Type} {f : α → Int → α × Int} {l : List α} {k : Int} {i : Nat}
theorem take_snoc [Inhabited α] (h : i < l.length) : l.take (i + 1) = l.take i ++ [l.getD i default] := by
  rw [List.take_add_one, List.getElem?_eq_getElem h, List.getD_eq_getElem?_getD, List.getElem?_eq_getElem h]; rfl
theorem mkC_succ [Inhabited α] (h : i < l.length) : mkC f l k (i + 1) = (f (l.getD i default) (mkC f l k i)).2 := by
  unfold mkC
  rw [take_snoc h, markL_snoc]
theorem mkC_le (hf : ∀ a k, k ≤ (f a k).2) (i : Nat) : mkC f l k i ≤ (markL f l k).2 := by
  unfold mkC
  conv => rhs; rw [← List.take_append_drop i l]
  rw [markL_app]
  exact markL_mono hf _ _
end
theorem upd_miss {es : Nat → Nat → AV} {i j off : Nat} {cs : List AV} {k : Nat} (h : i ≠ j) : upd es j off cs i k = es i k := upd_out fun q => h q.1
theorem arr_same {α : Type} [Inhabited α] {r : List Nat} {n sz cap cap' : Nat} {c : α → List AV} {l l' : List α} {bx : RK} (e : l' = l) (hc : cap' = cap) (hlow : ∀ a j, fx r n ((c a).getD j .any) = true) : ArrP r n ⟨sz, cap, elE c l', bx⟩ ⟨sz, cap', elE c l, bx⟩ :=
  ⟨rfl, hc, rfl, fun i j hi hj => by show elE c l i j = elE c l' i j; rw [e], fun i j _ _ => hlow _ _⟩
structure MarkUp {α : Type} (f : α → Int → α × Int) (l : List α) (k : Int) (i : Nat) : Prop where
  lo : 0 ≤ mkC f l k i
  mono : ∀ a k, k ≤ (f a k).2
  hi : (markL f l k).2 ≤ 4611686018427387904
theorem MarkUp.le {α : Type} [Inhabited α] {f : α → Int → α × Int} {l : List α} {k : Int} {i : Nat} (h : MarkUp f l k i) (hi : i < l.length) : (f (l.getD i default) (mkC f l k i)).2 ≤ 4611686018427387904 := by
  rw [← mkC_succ hi]
  exact Int.le_trans (mkC_le h.mono _) h.hi
theorem Wk.nilS0 {α : Type} [Inhabited α] {sz : Nat} {c : α → List AV} : Wk .nils (slL sz c []) := by
  refine ⟨fun _ i j hi _ => ?_, fun w S u h => ?_⟩
  · exact absurd hi (Nat.not_lt_zero _)
  · rw [inv_nils h]
    exact .sl0 none 0 (Nat.zero_le _)
theorem roundET_turn {α : Type} {X : Ctx} {f0 : Fr} {H0 : Hp} {vs : α → Fr} {hp : α → List (Option RowI)} {I : α → Prop} {μ : α → Nat} {x : α} {f' : Fr} {H' H1 : Hp} (t : Turn X H' H1) (h : RoundEndT X f0 H0 vs hp I μ x f' H1) : RoundEndT X f0 H0 vs hp I μ x f' H' := by
  obtain ⟨H2, t2, h⟩ := h
  exact ⟨H2, t.trans t2, h⟩
theorem roundET_end {α : Type} {X : Ctx} {f0 : Fr} {H0 : Hp} {vs : α → Fr} {hp : α → List (Option RowI)} {I : α → Prop} {μ : α → Nat} {x : α} {f' : Fr} {H' : Hp} (h : RoundEnd X f0 H0 vs hp I μ x f' H') : RoundEndT X f0 H0 vs hp I μ x f' H' := ⟨H', Turn.refl, h⟩
theorem catE_at {n i j : Nat} {es g : Nat → Nat → AV} : catE n es g i j = if i < n then es i j else g (i - n) j := by
  by_cases h : i < n
  · rw [if_pos h, catE_lt h]
  · rw [if_neg h, catE_ge (by omega)]
theorem getD_snoc {α : Type} [Inhabited α] {l : List α} {a : α} {i : Nat} : (l ++ [a]).getD i default = if i < l.length then l.getD i default else if i = l.length then a else default := by
  rw [List.getD_eq_getElem?_getD, List.getD_eq_getElem?_getD]
  by_cases h : i < l.length
  · rw [if_pos h, List.getElem?_append_left h]
  · rw [if_neg h, List.getElem?_append_right (by omega)]
    by_cases e : i = l.length
    · rw [if_pos e, e, Nat.sub_self]; rfl
    · rw [if_neg e, List.getElem?_eq_none (by simp; omega)]; rfl
theorem snoc_idf {α : Type} [Inhabited α] {k sz : Nat} {c : α → List AV} {l : List α} {g : Nat → Nat → AV} [h : HoldC c] (hk : k = l.length) (hg : ∀ j, j < sz → (g 0 j).idfO) : ∀ i j, i < k + 1 → j < sz → (catE k (elE c l) g i j).idfO := fun i j hi hj => by
  rw [catE_at]
  by_cases h' : i < k
  · rw [if_pos h']; exact h.h _ j
  · rw [if_neg h', show i - k = 0 by omega]; exact hg j hj
theorem snoc_eq {α : Type} [Inhabited α] {k sz : Nat} {c : α → List AV} {l : List α} {a : α} {g : Nat → Nat → AV} (hk : k = l.length) (hg : ∀ j, j < sz → OwEq (g 0 j) ((c a).getD j .any)) : ∀ i j, i < k + 1 → j < sz → OwEq (catE k (elE c l) g i j) (elE c (l ++ [a]) i j) := fun i j hi hj => by
  rw [catE_at]
  unfold elE
  rw [getD_snoc]
  by_cases h' : i < k
  · rw [if_pos h', if_pos (by omega)]; exact .refl _
  · rw [if_neg h', if_neg (by omega), if_pos (by omega), show i - k = 0 by omega]; exact hg j hj
theorem RowBack.L {α : Type} [Inhabited α] {σ : Nat → Nat} {m sz n : Nat} {c : α → List AV} {l : List α} (hn : l.length = n) (h : ∀ a, (c a).all pl1 = true) : RowBack σ m (rowL sz c l) ⟨sz, n, elE c l, .arr⟩ := ⟨rfl, hn, .refl _, fun i j _ _ => ⟨(pl1_ren (pl1_getD (h _) j)).1.symm, pl1_low2 (pl1_getD (h _) j)⟩⟩
theorem Wk.rfLo {m : Nat} {g : Nat → AV} {cs : List AV} (h : WkL (cellsAt g 0 m) cs) : Wk (.rf m g) (rfL cs) := by
  have hl : m = cs.length := by rw [← h.1, cellsAt_length]
  subst hl
  unfold rfL
  refine Wk.rf fun j hj => ?_
  have := h.getD j
  have hj' : j < (cellsAt g 0 cs.length).length := by rw [cellsAt_length]; exact hj
  have e := (cellsAt_get g cs.length 0 j _ (List.getElem?_eq_getElem hj')).2
  rw [Nat.zero_add] at e
  rw [List.getD_eq_getElem?_getD, List.getElem?_eq_getElem hj'] at this
  rw [e] at this
  exact this
theorem MixL.wk {π : List Nat} {H : Hp} {a c : AV} {es cs : List AV} (h : Wk (shr (outM π 0 H) c) a) (r : MixL π H es cs) : MixL π H (a :: es) (c :: cs) := .frz h.c r
theorem Ret.wka {P : Program} {g : FuncId} {av bs : List AV} {post : AV → Prop} (r : Ret P g bs post) (h : WkL av bs := by ((repeat (first | exact WkL.nil | refine WkL.cons ?_ ?_ | exact Wk.refl _ | exact Wk.rfc rfl | refine Wk.fn ?_ | exact Wk.nilS0 | exact shr_L (d := 0) (k := 4) rfl | exact shr_L (d := 1) (k := 3) rfl | exact shr_L (d := 2) (k := 2) rfl | exact shr_L (d := 0) (k := 4) (by simp only [markL_len]) | exact shr_L (d := 1) (k := 3) (by simp only [markL_len]) | refine Wk.agg ?_ | exact shr_L (d := 0) (k := 3) rfl | exact shr_L (d := 1) (k := 2) rfl | exact shr_ow (d := 1) (k := 2) | exact shr_ow (d := 0) (k := 3) | refine Wk.rfLo ?_)); first | done | fail)) : Ret P g av post := Ret.wk h r
theorem RetM.wka {P : Program} {g : FuncId} {av bs : List AV} {post : AV → Hp → Prop} (r : RetM P g [] bs post) (h : WkL av bs := by ((repeat (first | exact WkL.nil | refine WkL.cons ?_ ?_ | exact Wk.refl _ | exact Wk.rfc rfl | refine Wk.fn ?_ | exact Wk.nilS0 | exact shr_L (d := 0) (k := 4) rfl | exact shr_L (d := 1) (k := 3) rfl | exact shr_L (d := 2) (k := 2) rfl | exact shr_L (d := 0) (k := 4) (by simp only [markL_len]) | exact shr_L (d := 1) (k := 3) (by simp only [markL_len]) | refine Wk.agg ?_ | exact shr_L (d := 0) (k := 3) rfl | exact shr_L (d := 1) (k := 2) rfl | exact shr_ow (d := 1) (k := 2) | exact shr_ow (d := 0) (k := 3) | refine Wk.rfLo ?_)); first | done | fail)) : RetM P g [] av post := RetM.wk h r
theorem viewA {π : List Nat} {H H0 : Hp} (hn : nodupB π = true := by exact rfl) (h : ViewL H (sig π H.length) π.length π H0 := by repeat' (first | exact ViewL.nil | refine ViewL.cons rfl (RowBack.self ?_) ?_ | exact rowPl_L (fun _ => rfl) | exact rowPl_box rfl)) : ViewOk π H H0 := view_of hn h
theorem lokA {σ : Nat → Nat} {L : Hp} (h : RowsPl L := by repeat' (first | exact RowsPl.nil | refine RowsPl.cons ?_ ?_ | refine RowsPl.none ?_ | exact rowPl_L (fun _ => rfl) | exact rowPl_box rfl)) : LOk σ L L := lok_pl h
end
theorem lbz_zero {r : List Nat} {n sz cap cap' : Nat} {e e' : Nat → Nat → AV} {k : RK} (hc : cap = 0) (hc' : cap' = 0) : ArrP r n ⟨sz, cap, e, k⟩ ⟨sz, cap', e', k⟩ := by
  subst hc hc'
  exact ⟨rfl, rfl, rfl, fun i j hi => absurd hi (Nat.not_lt_zero _), fun i j hi => absurd hi (Nat.not_lt_zero _)⟩
theorem lbz_rho {X : Ctx} {r : List Nat} {id : Nat} (hX : X.H0 = []) (h : id < X.H0.length) : rhoF r id = id := by rw [hX] at h; exact absurd h (Nat.not_lt_zero _)
theorem lbz_len {α : Type} {l : List α} {a : α} : l.length + 1 = (l ++ [a]).length := by rw [List.length_append]; rfl
def delS (t : Nat) : Fr → Fr
  | [] => []
  | (d, v) :: f => bif Nat.beq d t then delS t f else (d, v) :: delS t f
theorem lk_delS {t u : Nat} : ∀ {f : Fr}, lk (delS t f) u = lk f u ∨ lk (delS t f) u = .any
  | [] => .inl rfl
  | (d, v) :: f => by
    unfold delS
    cases hb : Nat.beq d t with
    | true =>
      rw [cond_true]
      by_cases hu : d = u
      · right
        have hd := Nat.eq_of_beq_eq_true hb
        subst hd
        subst hu
        clear hb
        induction f with
        | nil => rfl
        | cons p f ih =>
          obtain ⟨e, z⟩ := p
          unfold delS
          cases hb : Nat.beq e d with
          | true => exact ih
          | false =>
            rw [cond_false, lk_cons, if_neg (fun q => by rw [q, Nat.beq_refl] at hb; cases hb)]
            exact ih
      · rw [lk_cons, if_neg hu]
        exact lk_delS
    | false =>
      rw [cond_false, lk_cons, lk_cons]
      split
      · exact .inl rfl
      · exact lk_delS
theorem lw_del {P : Program} {nt : Nat} {X : Ctx} {f : Fr} {Hh : Hp} {c : Code} {Q : Exit → Fr → Hp → Prop} (t : Nat) (h : LW P nt X c (delS t f) Hh Q) : LW P nt X c f Hh Q :=
  ⟨fun a w s => h.pw a w (by
    obtain ⟨blk, FP, s⟩ := s
    refine ⟨blk, FP, s.defers, s.size, s.keeps, s.rows, s.apart, fun u => ?_, s.ext⟩
    rcases lk_delS (t := t) (u := u) (f := f) with e | e
    · rw [e]; exact s.fr u
    · rw [e]; exact .any _)⟩
def ow1 : AV → Bool
  | .ow .. => true
  | _ => false
theorem own_nil {w : World} {S : Nat → Prop} {blk : Nat → BC} {H : Hp} {x : AV} {u : Value} {fp : List Nat} (h : Own w S blk H x u fp) (hx : ow1 x = false) : fp = [] := by
  cases h with
  | plain => rfl
  | ow0 => cases hx
  | ow => cases hx
def PlainH (H : Hp) : Prop := ∀ (k : Nat) (x : Option Row), H[k]? = some x → ∃ r : Row, x = some r ∧ 0 < r.cap ∧ ∀ i j, i < r.cap → j < r.sz → ow1 (r.es i j) = false
theorem plainH_nil : PlainH [] := fun k x h => by simp at h
theorem plainH_box {cs : List AV} (h : cs.all (fun x => !ow1 x) = true) : PlainH [some (boxRow cs)] := fun k x hk => by
  cases k with
  | zero =>
    cases hk
    refine ⟨_, rfl, Nat.one_pos, fun i j hi hj => ?_⟩
    have hj' : j < cs.length := hj
    show ow1 (cs.getD j .any) = false
    rw [List.getD_eq_getElem?_getD, List.getElem?_eq_getElem hj']
    have := List.all_eq_true.1 h _ (List.getElem_mem hj')
    simpa using this
  | succ k => simp at hk
def FrzP (π : List Nat) (post : AV → Hp → Prop) (r : AV) (H : Hp) : Prop := ∃ (H1 : Hp) (r1 : AV), ViewOk π H H1 ∧ WkC (shr (outM π 0 H) r) r1 ∧ post r1 H1
theorem RetM.frz {P : Program} {g : FuncId} {H0 : Hp} {avs : List AV} {post : AV → Hp → Prop} (π : List Nat) (hπe : List.range H0.length = π) (hp : PlainH H0) (h : RetM P g H0 avs (FrzP π post)) : RetM P g H0 avs post := .mk fun w S blk FP us hR hG hc => by
  have hbk : ∀ (k : Nat) (r : Row), H0[k]? = some (some r) → RowOk w S blk H0 [(blk k).b] (blk k) r ∧ (blk k).b ∈ FP k := fun k r hr => by
    obtain ⟨r', e, hcap, hpl⟩ := hp k _ hr
    cases e
    obtain ⟨h1, h2⟩ := hR.rows k r hr
    rcases h1 with ⟨h0, _⟩ | ⟨c0, c1, c2, c3, ty, cur, F, d1, d2, d3, d4, d5, d6⟩
    · omega
    · refine ⟨.inr ⟨c0, c1, c2, List.mem_singleton.2 rfl, ty, cur, fun _ _ => [], d1, d2, d3, fun i j hi hj => ?_, fun i j _ _ x hx => by simp at hx, fun i j i' j' _ _ _ _ _ x hx => by simp at hx⟩, c3⟩
      obtain ⟨u, e1, e2, e3⟩ := d4 i j hi hj
      have := own_nil e3 (hpl i j hi hj)
      rw [this] at e3
      exact ⟨u, e1, e2, e3⟩
  have hR' : RowsIn w S blk (fun k => [(blk k).b]) H0 := ⟨fun id r hr => ⟨(hbk id r hr).1, fun b hb => by
      rw [List.mem_singleton.1 hb]
      exact (hR.rows id r hr).2 _ (hbk id r hr).2⟩, fun i j r r' hi hj hij b hb hb' => by
      rw [List.mem_singleton.1 hb] at hb'
      have e := List.mem_singleton.1 hb'
      exact hR.apart i j r r' hi hj hij _ (hbk i r hi).2 (e ▸ (hbk j r' hj).2), fun b hb => ⟨(hR.free b hb).1, fun id r hr hm => by
      have e := List.mem_singleton.1 hm
      subst e
      exact (hR.free _ hb).2 id r hr (hbk id r hr).2⟩⟩
  refine (h.h w S blk (fun k => [(blk k).b]) us hR' hG hc).mono ?_
  rintro e w' ⟨r, u, H', blk', FP', he, ⟨H1, r1, hv, hw, hq⟩, hR2, hc2, hext, hfr, hk⟩
  have hmem : ∀ i, i ∈ π ↔ i < H0.length := fun i => by rw [← hπe]; exact List.mem_range
  have hat0 : ∀ k, k < H0.length → π[k]? = some k := fun k hk => by rw [← hπe]; simp [hk]
  have hπ : ∀ i ∈ π, i < H'.length := fun i hi => by
    obtain ⟨k, hk⟩ := List.getElem?_of_mem hi
    obtain ⟨_, y, _, hy, _⟩ := hv.row k i hk
    exact (List.getElem?_eq_some_iff.1 hy).1
  have hsm : ∀ k, k < π.length → sig π H'.length k ∈ π := fun k hk => by
    unfold sig
    rw [List.getElem?_eq_getElem hk]
    exact List.getElem_mem hk
  have hat : ∀ {k : Nat} {x : Row}, H1[k]? = some (some x) → k < π.length ∧ ∃ y, H'[sig π H'.length k]? = some (some y) ∧ RowBack (sig π H'.length) π.length x y := by
    intro k x hx
    have hk : k < π.length := by rw [← hv.len]; exact (List.getElem?_eq_some_iff.1 hx).1
    have hk' : π[k]? = some π[k] := List.getElem?_eq_getElem hk
    obtain ⟨x', y, h1, h2, h3⟩ := hv.row k _ hk'
    rw [hx] at h1
    cases h1
    exact ⟨hk, y, by unfold sig; rw [hk']; exact h2, h3⟩
  have hB : Back (sig π H'.length) π.length H' blk' H1 (fun k => blk' (sig π H'.length k)) := by
    intro k hk
    have hk' : π[k]? = some π[k] := List.getElem?_eq_getElem hk
    obtain ⟨x', y, h1, h2, h3⟩ := hv.row k _ hk'
    exact ⟨x', y, h1, by unfold sig; rw [hk']; exact h2, h3.sz, h3.cap, rfl⟩
  have hS : ∀ b, aftS S w.heap.size w'.heap.size FP' H' b → aftS S w.heap.size w'.heap.size (fun k => FP' (sig π H'.length k)) H1 b := fun b hb => ⟨hb.1, hb.2.1, fun k x hx => by
    obtain ⟨_, y, hy, _⟩ := hat hx
    exact hb.2.2 _ y hy⟩
  have hfz : ∀ (id : Nat) (y : Row), (outM π 0 H')[id]? = some (some y) → ∀ b ∈ FP' id, aftS S w.heap.size w'.heap.size (fun k => FP' (sig π H'.length k)) H1 b := fun id y hy b hb => by
    obtain ⟨hy, hn⟩ := outM_row hy
    refine ⟨?_, (hR2.rows id y hy).2 b hb, fun k x hx hbk' => ?_⟩
    · rcases hfr b ⟨id, y, hy, hb⟩ with h1 | ⟨k, r0, hr0, hb0⟩
      · exact .inr h1
      · exfalso
        have hk0 : k < H0.length := (List.getElem?_eq_some_iff.1 hr0).1
        obtain ⟨x', y', _, h2, _⟩ := hv.row k k (hat0 k hk0)
        rcases hext k _ hr0 with h4 | ⟨ra, rb, ea, h5, h6, h7, h8⟩
        · rw [h2] at h4; cases h4
        · cases ea
          obtain ⟨_, e0, hcap, _⟩ := hp k _ hr0
          cases e0
          have hb1 : (blk' k).b ∈ FP' k := by
            rcases (hR2.rows k rb h5).1 with ⟨h0, _⟩ | ⟨_, _, _, c3, _⟩
            · omega
            · exact c3
          rw [List.mem_singleton.1 hb0, ← h8] at hb
          exact hR2.apart k id rb y h5 hy (fun e => hn (e ▸ (hmem k).2 hk0)) _ hb1 hb
    · obtain ⟨hk', y', hy', _⟩ := hat hx
      exact hR2.apart id _ y y' hy hy' (fun e => hn (e ▸ hsm k hk')) b hb hbk'
  refine ⟨r1, u, H1, fun k => blk' (sig π H'.length k), fun k => FP' (sig π H'.length k), he, hq, ⟨fun k x hx => ?_, fun i j x x' hi hj hij => ?_, fun b hb => ⟨hb.2.1, hb.2.2⟩⟩, ?_, fun k x hx => ?_, fun b hb => ?_, ?_⟩
  · obtain ⟨_, y, hy, hrb⟩ := hat hx
    obtain ⟨h1, h2⟩ := hR2.rows _ y hy
    exact ⟨h1.back hrb (fun b hb => ⟨hS b hb, rfl⟩) hB fun _ _ => rfl, h2⟩
  · obtain ⟨_, y, hy, _⟩ := hat hi
    obtain ⟨_, y', hy', _⟩ := hat hj
    exact hR2.apart _ _ y y' hy hy' fun e => hij (sig_inj hv.nodup hπ e)
  · have c3 : Conc w' _ blk' (outM π 0 H') r u := hc2.mono (fun b hb => ⟨hb, rfl⟩) outM_ext
    have c4 : Conc w' (aftS S w.heap.size w'.heap.size (fun k => FP' (sig π H'.length k)) H1) (fun _ => ⟨0, 0⟩) [] (shr (outM π 0 H') r) u :=
      shr_conc (FP := FP') hS (fun id y hy => ⟨(hR2.rows id y (outM_row hy).1).1.mono (fun b hb => ⟨hb, rfl⟩) outM_ext fun _ _ => rfl, hfz id y hy⟩) c3
    exact (hw _ _ _ c4).mono (fun b hb => ⟨hb, rfl⟩) fun id x hx => by simp at hx
  · have hk0 : k < H0.length := (List.getElem?_eq_some_iff.1 hx).1
    obtain ⟨x', y, h1, h2, h3⟩ := hv.row k k (hat0 k hk0)
    rcases hext k x hx with h4 | ⟨r, r', rfl, h5, h6, h7, h8⟩
    · rw [h2] at h4; cases h4
    · rw [h2] at h5
      cases h5
      refine .inr ⟨r, x', rfl, h1, h3.sz.trans h6, h3.cap.trans h7, ?_⟩
      show blk' (sig π H'.length k) = blk k
      unfold sig
      rw [hat0 k hk0]
      exact h8
  · obtain ⟨k, x, hx, hb⟩ := hb
    obtain ⟨_, y, hy, _⟩ := hat hx
    rcases hfr b ⟨_, y, hy, hb⟩ with h1 | ⟨k', r0, hr0, hb0⟩
    · exact .inl h1
    · exact .inr ⟨k', r0, hr0, by rw [List.mem_singleton.1 hb0]; exact (hbk k' r0 hr0).2⟩
  · exact ⟨hk.os, hk.tape, hk.output, hk.size, fun k hlt hm => hk.block k hlt fun ⟨k', r0, hr0, hb0⟩ => hm ⟨k', r0, hr0, by rw [List.mem_singleton.1 hb0]; exact (hbk k' r0 hr0).2⟩⟩
theorem frz_agg {H : Hp} {cs ds : List AV} (h : WkL (cs.map (shrC 5 H)) ds) : WkC (shr H (.agg cs)) (.agg ds) := fun w S u hu => (Wk.agg h).c w S u hu
theorem frz_tup {H : Hp} {cs ds : List AV} (h : WkL (cs.map fun c => match c with | .agg ds => .agg (ds.map (shrC 5 H)) | c => shrC 5 H c) ds) : WkC (shr H (.tup cs)) (.tup ds) := fun w S u hu => by
  obtain ⟨us, rfl, hl, hc⟩ := inv_tup hu
  refine .tup _ us (hl.trans h.1) fun j c u hj hju => ?_
  have hlt : j < (cs.map fun c => match c with | .agg ds => AV.agg (ds.map (shrC 5 H)) | c => shrC 5 H c).length := by rw [h.1]; exact (List.getElem?_eq_some_iff.1 hj).1
  exact (h.2 j _ c (List.getElem?_eq_getElem hlt) hj).c w S u (hc j _ u (List.getElem?_eq_getElem hlt) hju)
theorem frz_cell {H : Hp} {x y : AV} (hs : shr H x = shrC 5 H x) (h : Wk (shrC 5 H x) y) : WkC (shr H x) y := fun w S u hu => h.c w S u (hs ▸ hu)
theorem shr_litL {α : Type} [Inhabited α] {d sz k n : Nat} {H : Hp} {cO c : α → List AV} {l : List α} {css : List (List AV)} [h : Shr d cO c] (hn : n = l.length) (hc : css = l.map cO) : Wk (.sl sz n fun i j => shrC (k + d) H (litE css i j)) (slL sz c l) := by
  have e := shr_L (sz := sz) (k := k) (H := H) (cO := cO) (c := c) hn
  subst hn
  subst hc
  refine Wk.sl fun i j hi hj => ?_
  have e2 : litE (l.map cO) i j = elE cO l i j := by
    unfold litE elE
    congr 1
    rw [List.getD_eq_getElem?_getD (l := l.map cO), List.getElem?_map, List.getElem?_eq_getElem hi, List.getD_eq_getElem?_getD (l := l), List.getElem?_eq_getElem hi]
    rfl
  rw [e2]
  have := (h.h H k (l.getD i default)).getD j
  have e3 : ((cO (l.getD i default)).map (shrC (k + d) H)).getD j .any = shrC (k + d) H (elE cO l i j) := by
    unfold elE
    generalize cO (l.getD i default) = cs
    rw [List.getD_eq_getElem?_getD, List.getD_eq_getElem?_getD, List.getElem?_map]
    cases cs[j]? with
    | none => exact shr_any.symm
    | some x => rfl
  rw [e3] at this
  exact this
theorem RetM.toRetG {P : Program} {g : FuncId} {av : List AV} {post : AV → Prop} (h : RetM P g [] av (fun r H => post r ∧ H = [])) : Ret P g av post := .mk fun w S us hS hc => by
  refine (h.h w S (fun _ => ⟨0, 0⟩) (fun _ => []) us ⟨fun id r q => by simp at q, fun i j r r' q => by simp at q, fun b hb => ⟨hS b hb, fun id r q => by simp at q⟩⟩ hS.gl hc).mono ?_
  rintro e w' ⟨r, u, H', blk', FP', he, ⟨hq, rfl⟩, _, hcu, _, _, hk⟩
  refine ⟨r, u, he, hq, ?_, ⟨hk.os, hk.tape, hk.output, hk.size, fun k hlt => hk.block k hlt (by rintro ⟨id, r, q, _⟩; simp at q)⟩⟩
  have hcu' : Conc w' _ (fun _ => ⟨0, 0⟩) [] r u := hcu.nil
  exact hcu'.mono (fun b hb => ⟨hb.1.imp_right fun q => ⟨q, hb.2.1⟩, rfl⟩) (HExt.refl _ _)
theorem Ret.ofFrz {P : Program} {g : FuncId} {av : List AV} {post : AV → Prop} (h : RetM P g [] av (FrzP [] fun r H => post r ∧ H = [])) : Ret P g av post := (RetM.frz [] rfl plainH_nil h).toRetG
theorem view_none {H : Hp} : ViewOk [] H [] := view_of rfl .nil
theorem frz0 {H : Hp} {r r1 : AV} {post : AV → Prop} (hw : WkC (shr (outM [] 0 H) r) r1) (hp : post r1) : FrzP [] (fun r H => post r ∧ H = []) r H := ⟨[], r1, view_none, hw, hp, rfl⟩
end Go.Proofs.Ytllcemegnggpfaa
