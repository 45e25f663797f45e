/-
  Types that are drawn: wider ones.
-/
import Derived.Test.YtfddakeigmpjkaaGreatDoorVSbV
import Derived.Test.YtfddakeigmpjkaaGreatDoorVSbD
namespace Go.Proofs.YtfddakeigmpjkaaGreatDoor
open Go Go.RowKit
set_option linter.unusedVariables false
set_option linter.unusedSimpArgs false
attribute [local irreducible] IntKind.wrap

/-- A goal that is put aside. -/
structure Hold (p : Prop) : Prop where
  h : p
theorem Hold.get {p : Prop} (h : Hold p) : p := h.h
/-- A type of limited depth and size, made of one with k parts. -/
structure Wd (d k : Nat) (a : Typ) : Prop where
  o : Typ.oN d a
  np : a.np ≤ 2 * k
  lb : a.labels.length ≤ 20
def WidD (d : Nat) : Prop := ∀ (s : Src) (a : Typ), Typ.oN d a → Typ.sh a → a.np ≤ 100 → s.rm (2 * a.np) → RetM env.P 21 [some (boxRow s.cs)] [.ptr 0 0 0, .agg (Typ.pN (d + 2) a)] (fun r H => ∃ (b : Typ) (t : Src), Wd (d + 1) a.np b ∧ (s.at' ≤ t.at' ∧ t.at' ≤ s.at' + 2 * a.np ∧ t.code.length = s.code.length) ∧ r = .agg (Typ.pN (d + 2) b) ∧ H = [some (boxRow t.cs)])
theorem lab_cap {n : Nat} (h : n ≤ 16) : (0 + n) * 16 ≤ 140737488355328 := Nat.le_trans (Nat.mul_le_mul_right _ (show 0 + n ≤ 16 by omega)) (by decide)
theorem lab_max {n : Nat} (h : n ≤ 16) : 0 + n ≤ 9223372036854775807 := by omega
theorem np_kidY {a : Typ} {k : Nat} (hk : k < a.kids.length) : (a.kids.getD k default).np + 1 ≤ a.np := by
  have e2 := sumK_succ Typ.np hk
  have e3 := sumK_mono Typ.np (l := a.kids) (k := k + 1) (m := a.kids.length) hk (Nat.le_refl _)
  have e4 := Typ.np_eq a
  omega
theorem sumK_snoc {f : Typ → Nat} {l : List Typ} {b : Typ} : sumK f (l ++ [b]) (l ++ [b]).length = sumK f l l.length + f b := by
  unfold sumK
  rw [List.take_length, List.take_length, List.map_append, List.sum_append]
  show _ + (f b + 0) = _
  omega
/-- The loop over the parts. -/
structure WI (d : Nat) (a : Typ) (s : Src) (y : TpS) : Prop where
  al : ∀ j, j < y.l.length → Typ.oN d (y.l.getD j default)
  le : y.l.length ≤ a.kids.length
  np : sumK Typ.np y.l y.l.length ≤ 2 * sumK Typ.np a.kids y.l.length
  lo : s.at' ≤ y.t.at'
  hi : y.t.at' ≤ s.at' + 2 * (sumK Typ.np a.kids y.l.length : Nat)
  cd : y.t.code.length = s.code.length
theorem WI.zero (d : Nat) (a : Typ) (s : Src) : WI d a s ⟨0, [], s⟩ := ⟨fun j hj => absurd hj (Nat.not_lt_zero _), Nat.zero_le _, Nat.zero_le _, Int.le_refl _, by show s.at' ≤ s.at' + 2 * ((0 : Nat) : Int); omega, rfl⟩
theorem WI.next {d : Nat} {a : Typ} {s : Src} {y : TpS} (h : WI d a s y) (hk : y.l.length < a.kids.length) {b : Typ} {t : Src} (hb : Wd d (a.kids.getD y.l.length default).np b) (ht : y.t.at' ≤ t.at' ∧ t.at' ≤ y.t.at' + 2 * ((a.kids.getD y.l.length default).np : Nat) ∧ t.code.length = y.t.code.length) : WI d a s ⟨0, y.l ++ [b], t⟩ := by
  have e : (y.l ++ [b]).length = y.l.length + 1 := by rw [List.length_append]; rfl
  have e2 := sumK_succ Typ.np hk
  refine ⟨at_snoc h.al hb.o, by show (y.l ++ [b]).length ≤ _; omega, ?_, by have := h.lo; show s.at' ≤ t.at'; omega, ?_, by have := h.cd; show t.code.length = _; omega⟩
  · show sumK Typ.np (y.l ++ [b]) (y.l ++ [b]).length ≤ 2 * sumK Typ.np a.kids (y.l ++ [b]).length
    rw [sumK_snoc, e, e2]
    have := h.np
    have := hb.np
    omega
  · show t.at' ≤ s.at' + 2 * ((sumK Typ.np a.kids (y.l ++ [b]).length : Nat) : Int)
    rw [e, e2]
    have := h.hi
    omega
theorem WI.rm {d : Nat} {a : Typ} {s : Src} {y : TpS} (h : WI d a s y) (hk : y.l.length < a.kids.length) (hs : s.rm (2 * a.np)) : y.t.rm (2 * ((a.kids.getD y.l.length default).np : Nat)) := by
  unfold Src.rm at hs
  have e2 := sumK_succ Typ.np hk
  have e3 := sumK_mono Typ.np (l := a.kids) (k := y.l.length + 1) (m := a.kids.length) hk (Nat.le_refl _)
  have e4 := Typ.np_eq a
  have h1 := h.hi
  have h2 := h.lo
  have h3 := h.cd
  exact Src.rm_i (by omega) (by omega) (by omega)
theorem WI.at {d : Nat} {a : Typ} {s : Src} {y : TpS} (h : WI d a s y) : s.at' ≤ y.t.at' ∧ y.t.at' ≤ s.at' + 2 * (a.np : Int) - 2 ∧ y.t.code.length = s.code.length := by
  have e3 := sumK_mono Typ.np (l := a.kids) (k := y.l.length) (m := a.kids.length) h.le (Nat.le_refl _)
  have e4 := Typ.np_eq a
  have h1 := h.hi
  have h2 := h.lo
  exact ⟨h2, by omega, h.cd⟩
theorem shr_at {α : Type} [Inhabited α] {d k : Nat} {H : Hp} {cO c : α → List AV} [h : Shr d cO c] (a : α) (j : Nat) : Wk (shrC (k + d) H ((cO a).getD j .any)) ((c a).getD j .any) := by
  have := (h.h H k a).getD j
  have e3 : ((cO a).map (shrC (k + d) H)).getD j .any = shrC (k + d) H ((cO a).getD j .any) := by
    generalize cO a = cs
    rw [List.getD_eq_getElem?_getD, List.getD_eq_getElem?_getD, List.getElem?_map]
    cases cs[j]? with
    | none => exact shr_any.symm
    | some x => rfl
  rw [e3] at this
  exact this
theorem shr_take {α : Type} [Inhabited α] {d sz k n : Nat} {H : Hp} {cO c : α → List AV} {l : List α} [h : Shr d cO c] (hn : n ≤ l.length) : Wk (.sl sz n fun i j => shrC (k + d) H (elE cO l i j)) (slL sz c (l.take n)) := Wk.sl' rfl (by rw [List.length_take]; omega) fun i j hi hj => by
  have e : (l.take n).getD i default = l.getD i default := by
    rw [List.getD_eq_getElem?_getD, List.getElem?_take, if_pos hi, ← List.getD_eq_getElem?_getD]
  show Wk (shrC (k + d) H ((cO (l.getD i default)).getD j .any)) ((c ((l.take n).getD i default)).getD j .any)
  rw [e]
  exact shr_at _ _
theorem shr_pre {α : Type} [Inhabited α] {d sz k n : Nat} {H : Hp} {cO c : α → List AV} {l : List α} {e : Nat → Nat → AV} {a : α} [h : Shr d cO c] (hn : n = 1 + l.length) (h0 : ∀ j, j < sz → Wk (shrC (k + d) H (e 0 j)) ((c a).getD j .any)) : Wk (.sl sz n fun i j => shrC (k + d) H (catE 1 e (elE cO l) i j)) (slL sz c (a :: l)) := Wk.sl' rfl (by rw [List.length_cons]; omega) fun i j hi hj => by
  rw [catE_at]
  cases i with
  | zero => rw [if_pos (by decide)]; exact h0 j hj
  | succ i =>
    rw [if_neg (by omega), Nat.add_sub_cancel]
    exact shr_at _ _
def newB : ByteArray := ⟨#[110, 101, 119]⟩
theorem lab_pre {n : Nat} {H : Hp} {l : List ByteArray} (hn : n = 1 + l.length) : Wk (.sl 1 n fun i j => shrC 4 H (catE 1 (litE [[.s ⟨#[110, 101, 119]⟩]]) (elE strC l) i j)) (slL 1 strC (newB :: l)) := shr_pre (d := 0) (k := 4) (a := newB) hn fun j hj => by
  obtain rfl : j = 0 := by omega
  exact .refl _
theorem kid_pre {d n : Nat} {H : Hp} {l : List Typ} (hn : n = 1 + l.length) : Wk (.sl 4 n fun i j => shrC 4 H (catE 1 (litE [[.i .i64 1, .s ByteArray.empty, .nils, .nils]]) (elE (Typ.pN (d + 1)) l) i j)) (slL 4 (Typ.pN (d + 1)) (unT :: l)) := shr_pre (d := 0) (k := 4) (a := unT) hn fun j hj => by
  rcases (show j = 0 ∨ j = 1 ∨ j = 2 ∨ j = 3 by omega) with rfl | rfl | rfl | rfl
  · exact .refl _
  · exact .refl _
  · exact Wk.nilS0
  · exact Wk.nilS0
theorem endW {X : Ctx} {H : Hp} {r : AV} {d K : Nat} {s t : Src} (b : Typ) (hv : ViewOk [0] H [some (boxRow t.cs)]) (hw : WkC (shr (outM [0] 0 H) r) (.agg (Typ.pN (d + 3) b))) (hb : Wd (d + 2) K b) (ht : s.at' ≤ t.at' ∧ t.at' ≤ s.at' + 2 * K ∧ t.code.length = s.code.length) : EndM X H r (FrzP [0] fun r H => ∃ (b : Typ) (t : Src), Wd (d + 2) K b ∧ (s.at' ≤ t.at' ∧ t.at' ≤ s.at' + 2 * K ∧ t.code.length = s.code.length) ∧ r = .agg (Typ.pN (d + 3) b) ∧ H = [some (boxRow t.cs)]) := endM_self ⟨[some (boxRow t.cs)], _, hv, hw, b, t, hb, ht, rfl, rfl⟩
theorem rc_lo {n : Nat} (h : (1 : Int) < n) (hb : n ≤ 16) : 0 ≤ IntKind.i64.wrap ((n : Int) - 1) := by rw [wrap_in (by omega) (by omega)]; omega
theorem rc_hi {n m : Nat} (h : (1 : Int) < n) (hb : n ≤ 16) (hm : n ≤ m) : IntKind.i64.wrap ((n : Int) - 1) ≤ (m : Int) := by rw [wrap_in (by omega) (by omega)]; omega
theorem rc_nat {n m : Nat} (h : (1 : Int) < n) (hb : n ≤ 16) (hm : n ≤ m) : (IntKind.i64.wrap ((n : Int) - 1)).toNat ≤ m := by have := rc_hi h hb hm; omega
/-! What the types made are. -/
theorem wd_of {d : Nat} {a : Typ} {s : Src} {y : TpS} (hy : WI (d + 1) a s y) (ho : Typ.oN (d + 2) a) (hl : a.labels.length ≤ 16) (k : Int) : Wd (d + 2) a.np ⟨k, a.name, a.labels, y.l⟩ := by
  have hk : y.l.length ≤ a.kids.length := hy.le
  refine ⟨⟨ho.1, ho.2.1, ⟨Nat.le_trans hk ho.2.2.1, hy.al⟩⟩, ?_, Nat.le_trans hl (by decide)⟩
  rw [Typ.np_eq]
  show 1 + sumK Typ.np y.l y.l.length ≤ _
  have h1 := hy.np
  have h2 := sumK_mono Typ.np (l := a.kids) (k := y.l.length) (m := a.kids.length) hk (Nat.le_refl _)
  have h3 := Typ.np_eq a
  omega
theorem okL_take {α : Type} [Inhabited α] {p : α → Prop} {l : List α} (n : Nat) (h : okL p l) : okL p (l.take n) := by
  refine ⟨by rw [List.length_take]; exact Nat.le_trans (Nat.min_le_right _ _) h.1, fun k hk => ?_⟩
  rw [List.length_take] at hk
  rw [List.getD_eq_getElem?_getD, List.getElem?_take, if_pos (by omega), ← List.getD_eq_getElem?_getD]
  exact h.2 k (by omega)
theorem okL_cons {α : Type} [Inhabited α] {p : α → Prop} {l : List α} {x : α} (h : okL p l) (hl : l.length ≤ 1000) (hx : p x) : okL p (x :: l) := by
  refine ⟨by rw [List.length_cons]; omega, fun k hk => ?_⟩
  cases k with
  | zero => exact hx
  | succ k => exact h.2 k (by rw [List.length_cons] at hk; omega)
theorem sumK_take (f : Typ → Nat) (l : List Typ) (n : Nat) : sumK f (l.take n) (l.take n).length ≤ sumK f l l.length := by
  have e : sumK f (l.take n) (l.take n).length = sumK f l (min n l.length) := by
    unfold sumK
    rw [List.take_length, List.take_eq_take_min]
  rw [e]
  exact sumK_mono f (Nat.min_le_right _ _) (Nat.le_refl _)
theorem wd_cut {d : Nat} {a : Typ} {s : Src} {y : TpS} (hy : WI (d + 1) a s y) (ho : Typ.oN (d + 2) a) (hl : a.labels.length ≤ 16) (n m : Nat) : Wd (d + 2) a.np ⟨a.kind, a.name, a.labels.take n, y.l.take m⟩ := by
  obtain ⟨⟨h1, h2, h3⟩, h4, h5⟩ := wd_of hy ho hl a.kind
  refine ⟨⟨h1, okL_take n h2, okL_take m h3⟩, ?_, ?_⟩
  · rw [Typ.np_eq] at h4 ⊢
    have := sumK_take Typ.np y.l m
    show 1 + sumK Typ.np (y.l.take m) (y.l.take m).length ≤ _
    have h4' : 1 + sumK Typ.np y.l y.l.length ≤ 2 * a.np := h4
    omega
  · show (a.labels.take n).length ≤ 20
    rw [List.length_take]; omega
theorem wd_lab {d : Nat} {a : Typ} {s : Src} {y : TpS} (hy : WI (d + 1) a s y) (ho : Typ.oN (d + 2) a) (hl : a.labels.length ≤ 16) : Wd (d + 2) a.np ⟨a.kind, a.name, newB :: a.labels, y.l⟩ := by
  obtain ⟨⟨h1, h2, h3⟩, h4, h5⟩ := wd_of hy ho hl a.kind
  exact ⟨⟨h1, okL_cons h2 (show a.labels.length ≤ 1000 by omega) (show newB.size ≤ 1048576 by decide), h3⟩, h4, by show (newB :: a.labels).length ≤ 20; rw [List.length_cons]; omega⟩
theorem unit_oN (d : Nat) : Typ.oN (d + 1) unT := ⟨Nat.zero_le _, ⟨Nat.zero_le _, fun k hk => absurd hk (Nat.not_lt_zero _)⟩, ⟨Nat.zero_le _, fun k hk => absurd hk (Nat.not_lt_zero _)⟩⟩
theorem wd_var {d : Nat} {a : Typ} {s : Src} {y : TpS} (hy : WI (d + 1) a s y) (ho : Typ.oN (d + 2) a) (hl : a.labels.length ≤ 16) (hk : y.l.length ≤ 99) : Wd (d + 2) a.np ⟨a.kind, a.name, newB :: a.labels, unT :: y.l⟩ := by
  obtain ⟨⟨h1, h2, h3⟩, h4, h5⟩ := wd_lab hy ho hl
  refine ⟨⟨h1, h2, okL_cons h3 (show y.l.length ≤ 1000 by omega) (unit_oN d)⟩, ?_, h5⟩
  rw [Typ.np_eq]
  show 1 + sumK Typ.np (unT :: y.l) (unT :: y.l).length ≤ _
  have e : sumK Typ.np (unT :: y.l) (unT :: y.l).length = 1 + sumK Typ.np y.l y.l.length := by
    unfold sumK
    rw [List.take_length, List.take_length, List.map_cons, List.sum_cons]
    have : Typ.np unT = 1 := by rw [Typ.np_eq]; rfl
    omega
  rw [e]
  have h1 := hy.np
  have h2 := sumK_mono Typ.np (l := a.kids) (k := y.l.length) (m := a.kids.length) hy.le (Nat.le_refl _)
  have h3 := Typ.np_eq a
  omega
theorem lab_eq {l : List ByteArray} : ∀ i j, i < 0 + l.length → j < 1 → OwEq (catE 0 (litE []) (fun i j => (strC (l.getD i default)).getD j .any) i j) (elE strC l i j) := fun i j hi hj => by
  rw [catE_at, if_neg (by omega), Nat.sub_zero]
  exact .refl _
set_option maxRecDepth 8000 in
set_option maxHeartbeats 16000000 in
theorem wider_step (d : Nat) (ih : WidD d) (s : Src) (a : Typ) (ho1 : Typ.oN (d + 1) a) (hsh : Typ.sh a) (hnp : a.np ≤ 100) (hs : s.rm (2 * a.np)) (hll : a.labels.length ≤ 16) (hk5 : a.kind = 16 → a.kids.length = a.labels.length) : RetM env.P 21 [some (boxRow s.cs)] [.ptr 0 0 0, .agg (Typ.pN (d + 3) a)] (FrzP [0] fun r H => ∃ (b : Typ) (t : Src), Wd (d + 2) a.np b ∧ (s.at' ≤ t.at' ∧ t.at' ≤ s.at' + 2 * a.np ∧ t.code.length = s.code.length) ∧ r = .agg (Typ.pN (d + 3) b) ∧ H = [some (boxRow t.cs)]) := by
  have hs' := hs
  unfold Src.rm at hs'
  have ho := Typ.oN_up _ _ ho1
  have hkl : a.kids.length ≤ 99 := by
    have := sumK_len (l := a.kids) (Nat.le_refl _)
    have := Typ.np_eq a
    omega
  have hK : ∀ y : TpS, WI (d + 1) a s y → y.l.length < a.kids.length → RetM env.P 21 [some (boxRow y.t.cs)] [.ptr 0 0 0, .agg (Typ.pN (d + 2) (a.kids.getD y.l.length default))] (fun r H => ∃ (b : Typ) (t : Src), Wd (d + 1) (a.kids.getD y.l.length default).np b ∧ (y.t.at' ≤ t.at' ∧ t.at' ≤ y.t.at' + 2 * ((a.kids.getD y.l.length default).np : Nat) ∧ t.code.length = y.t.code.length) ∧ r = .agg (Typ.pN (d + 2) b) ∧ H = [some (boxRow t.cs)]) := fun y hy hk =>
    ih y.t _ (Typ.oN_kid ho1 hk) (sh_kid hsh hk) (by have := np_kidY hk; omega) (hy.rm hk hs)
  have hln : ∀ y : TpS, WI (d + 1) a s y → y.l.length ≤ 1000 := fun y hy => by have := hy.le; omega
  refine ret_ofM (nt := 116) (rvs := [.cell 4 26]) Tryz.func21 rfl rfl rfl rfl (fun X hX => ?_)
  repeat' (first | exact aa | ((conv => whnf) <;> (first | exact lab_cap hll | exact lab_max hll | exact srcOk_L (fun _ => ⟨rfl, rfl⟩) | (refine lw_del 17 ?_; refine lw_del 16 ?_; refine lw_del 13 ?_; refine Hold.get ?_) | refine And.intro ?_ ?_ | (intro _h; first | contradiction | (try simp only [dd] at _h)) | (refine dt_go ?_) | exact rfl | exact True.intro | exact dkk | exact dks | (refine wrap_succ ?_; omega))))
  · refine Hold.mk ?_
    refine lw_turn _ (turn_eq (id := 4) (x := rowL 1 strC a.labels) rfl rfl (Nat.zero_add _).symm rfl rfl lab_eq) ?_
    refine lw_turn _ (turn_box (id := 5) (ds := [.i .i64 a.kind, .s a.name, .row 4 (0 + a.labels.length), .ow 4 0 (elE (Typ.pN (d + 2)) [])]) rfl rfl rfl (.cons (.refl _) (.cons (.refl _) (.cons (.refl _) (.cons (.nil _ _) .nil))))) ?_
    refine loopFT (fun y : TpS => [(6, .i .i64 (y.l.length : Int))]) (fun y => [some (.box y.t.cs), none, none, none, none, some (.box [.i .i64 a.kind, .s a.name, .row 4 (0 + a.labels.length), .ow 4 y.l.length (elE (Typ.pN (d + 2)) y.l)])]) (fun y => WI (d + 1) a s y) (fun y => a.kids.length - y.l.length) ⟨0, [], s⟩ ⟨WI.zero _ _ _, ?_⟩
    repeat' (first | exact aa | ((conv => whnf) <;> (first | (refine dt_turn (turn_open (id := 5) (i := 0) (j := 3) rfl (show 0 < 1 by decide) (show 3 < 4 by decide) rfl) ?_; refine dt_goH 2 [0] rfl ?_) | exact lbz_capC (hln _ ‹_›) (show 72 ≤ 1000 by decide) | exact lbz_capM (hln _ ‹_›) | exact srcOk_1 rfl | exact low_cells rfl | exact low_lit rfl | refine And.intro ?_ ?_ | (intro _h; first | contradiction | (try simp only [dd] at _h)) | (refine dt_go ?_) | exact rfl | exact True.intro | exact dkk | exact dks | (refine .inr (.inl (.inl ⟨[0], _, _, _, hK _ ‹_› (by omega), viewA, ⟨rfl, rfl⟩, ?_⟩)); rintro _ _ ⟨b, t1, hb, ht1, rfl, rfl⟩; refine ⟨rfl, _, lokA, ?_⟩) | (refine wrap_succ ?_; omega))))
    all_goals first
      | (rename TpS => y
         rename WI _ _ _ _ => hy
         have hk : y.l.length < a.kids.length := by omega
         have he : IntKind.i64.wrap ((y.l.length : Int) + 1) = ((y.l ++ [b]).length : Int) := by
           rw [wrap_in (by omega) (by omega), List.length_append]
           rfl
         conv => whnf
         refine roundET_turn (turn_close (id := 5) (i := 0) (j := 3) (id' := 8) rfl (show 0 < 1 by decide) (show 3 < 4 by decide) rfl rfl (show 5 ≠ 8 by decide) rfl ⟨Nat.le_refl _, snoc_idf rfl (fun j hj => pN_idfO (d + 1) b j)⟩) ?_
         refine roundET_turn (turn_box (id := 5) (ds := [.i .i64 a.kind, .s a.name, .row 4 (0 + a.labels.length), .ow 4 (y.l ++ [b]).length (elE (Typ.pN (d + 2)) (y.l ++ [b]))]) rfl rfl rfl (.cons (.refl _) (.cons (.refl _) (.cons (.refl _) (.cons (OwEq.lenT lbz_len (fun i j _ _ => HoldC.h _ j) (snoc_eq rfl (fun j hj => .refl _))) .nil))))) ?_
         refine roundET_end ?_
         refine ⟨⟨0, y.l ++ [b], t1⟩, [], hy.next hk hb ht1, (by show a.kids.length - (y.l ++ [b]).length < a.kids.length - y.l.length; rw [List.length_append]; show a.kids.length - (y.l.length + 1) < _; omega), ?_⟩
         repeat' (first | exact aa | ((conv => whnf) <;> (first | exact he | exact low_cells rfl | exact low_lit rfl | refine And.intro ?_ ?_ | (intro _h; first | contradiction | (try simp only [dd] at _h)) | (refine dt_go ?_) | exact rfl | exact True.intro | exact dkk | exact dks | (refine wrap_succ ?_; omega)))))
      | skip
    rename TpS => y
    rename WI _ _ _ _ => hy
    have hy0 : y.l.length = a.kids.length := by have := hy.le; omega
    have hyA := hy.at
    have hyl : y.l.length ≤ 99 := by omega
    repeat' (first | exact aa | ((conv => whnf) <;> (first | exact rc_lo ‹_› hll | exact rc_hi ‹_› hll (Nat.le_refl _) | exact rc_hi ‹_› hll (show a.labels.length ≤ y.l.length by have := hk5 ‹_›; omega) | (refine Src.rm_i ?_ ?_ ?_) | exact srcOk_1 rfl | refine And.intro ?_ ?_ | (intro _h; first | contradiction | (try simp only [dd] at _h)) | (refine dt_go ?_) | exact rfl | exact True.intro | exact dkk | exact dks | ((first | refine .inl ⟨_, numberS_ok _, ?_⟩ | refine ⟨_, numberS_ok _, ?_⟩); (try rintro _ rfl)) | ((first | refine .inl ⟨_, withinS_ok _ _, ?_⟩ | refine ⟨_, withinS_ok _ _, ?_⟩); (try rintro _ rfl)) | (refine .inr (.inl (.inl ⟨[0], _, _, _, pick_ex _ ?_ 7 (by decide), viewA, ⟨rfl, rfl⟩, ?_⟩)); rotate_left 1; rintro _ _ ⟨v2, t2, hv2, ht2, rfl, rfl⟩; refine ⟨rfl, _, lokA, ?_⟩) | (refine .inr (.inl (.inl ⟨[0], _, _, _, one_ex _ ?_ 2 (by decide), viewA, ⟨rfl, rfl⟩, ?_⟩)); rotate_left 1; rintro _ _ ⟨b2, t2, ht2, rfl, rfl⟩; refine ⟨rfl, _, lokA, ?_⟩) | (refine wrap_succ ?_; omega))))
    all_goals (conv => whnf)
    all_goals first
      | exact endW (t := t2) ⟨IntKind.i64.wrap (3 + v2), a.name, a.labels, y.l⟩ (view_of rfl (.cons rfl (.self (rowPl_box rfl)) .nil)) (frz_agg (.cons (.refl _) (.cons (.refl _) (.cons (shr_L (d := 0) (k := 4) (Nat.zero_add _)) (.cons (shr_L (d := 0) (k := 4) rfl) .nil))))) (wd_of hy ho hll _) (by omega)
      | exact endW (t := t2) ⟨a.kind, a.name, a.labels, y.l⟩ (view_of rfl (.cons rfl (.self (rowPl_box rfl)) .nil)) (frz_agg (.cons (.refl _) (.cons (.refl _) (.cons (shr_L (d := 0) (k := 4) (Nat.zero_add _)) (.cons (shr_L (d := 0) (k := 4) rfl) .nil))))) (wd_of hy ho hll _) (by omega)
      | exact endW (t := y.t) ⟨a.kind, a.name, a.labels, y.l⟩ (view_of rfl (.cons rfl (.self (rowPl_box rfl)) .nil)) (frz_agg (.cons (.refl _) (.cons (.refl _) (.cons (shr_L (d := 0) (k := 4) (Nat.zero_add _)) (.cons (shr_L (d := 0) (k := 4) rfl) .nil))))) (wd_of hy ho hll _) (by omega)
      | exact endW (t := t2) ⟨a.kind, a.name, a.labels.take (IntKind.i64.wrap ((a.labels.length : Int) - 1)).toNat, y.l.take (IntKind.i64.wrap ((a.labels.length : Int) - 1)).toNat⟩ (view_of rfl (.cons rfl (.self (rowPl_box rfl)) .nil)) (frz_agg (.cons (.refl _) (.cons (.refl _) (.cons (shr_take (d := 0) (k := 4) (rc_nat ‹_› hll (Nat.le_refl _))) (.cons (shr_take (d := 0) (k := 4) (rc_nat ‹_› hll (by have := hk5 ‹_›; omega))) .nil))))) (wd_cut hy ho hll _ _) (by omega)
      | skip
    · refine endW (t := t2) ⟨a.kind, a.name, newB :: a.labels, unT :: y.l⟩ (view_of rfl (.cons rfl (.self (rowPl_box rfl)) .nil)) (frz_agg ?_) (wd_var hy ho hll hyl) (by omega)
      refine .cons (.refl _) (.cons (.refl _) (.cons ?_ (.cons ?_ .nil)))
      · exact lab_pre (show 1 + (0 + a.labels.length) = 1 + a.labels.length by omega)
      · exact kid_pre rfl
    all_goals
      refine endW (t := t2) ⟨a.kind, a.name, newB :: a.labels, y.l⟩ (view_of rfl (.cons rfl (.self (rowPl_box rfl)) .nil)) (frz_agg ?_) (wd_lab hy ho hll) (by omega)
      refine .cons (.refl _) (.cons (.refl _) (.cons ?_ (.cons ?_ .nil)))
      · exact lab_pre (show 1 + (0 + a.labels.length) = 1 + a.labels.length by omega)
      · exact (shr_L (d := 0) (k := 4) rfl)
  · refine Hold.mk ?_
    refine lw_turn _ (turn_eq (id := 4) (x := rowL 1 strC a.labels) rfl rfl (Nat.zero_add _).symm rfl rfl lab_eq) ?_
    refine lw_turn _ (turn_box (id := 5) (ds := [.i .i64 a.kind, .s a.name, .row 4 (0 + a.labels.length), .ow 4 0 (elE (Typ.pN (d + 2)) [])]) rfl rfl rfl (.cons (.refl _) (.cons (.refl _) (.cons (.refl _) (.cons (.nil _ _) .nil))))) ?_
    refine loopFT (fun y : TpS => [(6, .i .i64 (y.l.length : Int))]) (fun y => [some (.box y.t.cs), none, none, none, none, some (.box [.i .i64 a.kind, .s a.name, .row 4 (0 + a.labels.length), .ow 4 y.l.length (elE (Typ.pN (d + 2)) y.l)])]) (fun y => WI (d + 1) a s y) (fun y => a.kids.length - y.l.length) ⟨0, [], s⟩ ⟨WI.zero _ _ _, ?_⟩
    repeat' (first | exact aa | ((conv => whnf) <;> (first | (refine dt_turn (turn_open (id := 5) (i := 0) (j := 3) rfl (show 0 < 1 by decide) (show 3 < 4 by decide) rfl) ?_; refine dt_goH 2 [0] rfl ?_) | exact lbz_capC (hln _ ‹_›) (show 72 ≤ 1000 by decide) | exact lbz_capM (hln _ ‹_›) | exact srcOk_1 rfl | exact low_cells rfl | exact low_lit rfl | refine And.intro ?_ ?_ | (intro _h; first | contradiction | (try simp only [dd] at _h)) | (refine dt_go ?_) | exact rfl | exact True.intro | exact dkk | exact dks | (refine .inr (.inl (.inl ⟨[0], _, _, _, hK _ ‹_› (by omega), viewA, ⟨rfl, rfl⟩, ?_⟩)); rintro _ _ ⟨b, t1, hb, ht1, rfl, rfl⟩; refine ⟨rfl, _, lokA, ?_⟩) | (refine wrap_succ ?_; omega))))
    all_goals first
      | (rename TpS => y
         rename WI _ _ _ _ => hy
         have hk : y.l.length < a.kids.length := by omega
         have he : IntKind.i64.wrap ((y.l.length : Int) + 1) = ((y.l ++ [b]).length : Int) := by
           rw [wrap_in (by omega) (by omega), List.length_append]
           rfl
         conv => whnf
         refine roundET_turn (turn_close (id := 5) (i := 0) (j := 3) (id' := 8) rfl (show 0 < 1 by decide) (show 3 < 4 by decide) rfl rfl (show 5 ≠ 8 by decide) rfl ⟨Nat.le_refl _, snoc_idf rfl (fun j hj => pN_idfO (d + 1) b j)⟩) ?_
         refine roundET_turn (turn_box (id := 5) (ds := [.i .i64 a.kind, .s a.name, .row 4 (0 + a.labels.length), .ow 4 (y.l ++ [b]).length (elE (Typ.pN (d + 2)) (y.l ++ [b]))]) rfl rfl rfl (.cons (.refl _) (.cons (.refl _) (.cons (.refl _) (.cons (OwEq.lenT lbz_len (fun i j _ _ => HoldC.h _ j) (snoc_eq rfl (fun j hj => .refl _))) .nil))))) ?_
         refine roundET_end ?_
         refine ⟨⟨0, y.l ++ [b], t1⟩, [], hy.next hk hb ht1, (by show a.kids.length - (y.l ++ [b]).length < a.kids.length - y.l.length; rw [List.length_append]; show a.kids.length - (y.l.length + 1) < _; omega), ?_⟩
         repeat' (first | exact aa | ((conv => whnf) <;> (first | exact he | exact low_cells rfl | exact low_lit rfl | refine And.intro ?_ ?_ | (intro _h; first | contradiction | (try simp only [dd] at _h)) | (refine dt_go ?_) | exact rfl | exact True.intro | exact dkk | exact dks | (refine wrap_succ ?_; omega)))))
      | skip
    rename TpS => y
    rename WI _ _ _ _ => hy
    have hy0 : y.l.length = a.kids.length := by have := hy.le; omega
    have hyA := hy.at
    have hyl : y.l.length ≤ 99 := by omega
    repeat' (first | exact aa | ((conv => whnf) <;> (first | exact rc_lo ‹_› hll | exact rc_hi ‹_› hll (Nat.le_refl _) | exact rc_hi ‹_› hll (show a.labels.length ≤ y.l.length by have := hk5 ‹_›; omega) | (refine Src.rm_i ?_ ?_ ?_) | exact srcOk_1 rfl | refine And.intro ?_ ?_ | (intro _h; first | contradiction | (try simp only [dd] at _h)) | (refine dt_go ?_) | exact rfl | exact True.intro | exact dkk | exact dks | ((first | refine .inl ⟨_, numberS_ok _, ?_⟩ | refine ⟨_, numberS_ok _, ?_⟩); (try rintro _ rfl)) | ((first | refine .inl ⟨_, withinS_ok _ _, ?_⟩ | refine ⟨_, withinS_ok _ _, ?_⟩); (try rintro _ rfl)) | (refine .inr (.inl (.inl ⟨[0], _, _, _, pick_ex _ ?_ 7 (by decide), viewA, ⟨rfl, rfl⟩, ?_⟩)); rotate_left 1; rintro _ _ ⟨v2, t2, hv2, ht2, rfl, rfl⟩; refine ⟨rfl, _, lokA, ?_⟩) | (refine .inr (.inl (.inl ⟨[0], _, _, _, one_ex _ ?_ 2 (by decide), viewA, ⟨rfl, rfl⟩, ?_⟩)); rotate_left 1; rintro _ _ ⟨b2, t2, ht2, rfl, rfl⟩; refine ⟨rfl, _, lokA, ?_⟩) | (refine wrap_succ ?_; omega))))
    all_goals (conv => whnf)
    all_goals first
      | exact endW (t := t2) ⟨IntKind.i64.wrap (3 + v2), a.name, a.labels, y.l⟩ (view_of rfl (.cons rfl (.self (rowPl_box rfl)) .nil)) (frz_agg (.cons (.refl _) (.cons (.refl _) (.cons (shr_L (d := 0) (k := 4) (Nat.zero_add _)) (.cons (shr_L (d := 0) (k := 4) rfl) .nil))))) (wd_of hy ho hll _) (by omega)
      | exact endW (t := t2) ⟨a.kind, a.name, a.labels, y.l⟩ (view_of rfl (.cons rfl (.self (rowPl_box rfl)) .nil)) (frz_agg (.cons (.refl _) (.cons (.refl _) (.cons (shr_L (d := 0) (k := 4) (Nat.zero_add _)) (.cons (shr_L (d := 0) (k := 4) rfl) .nil))))) (wd_of hy ho hll _) (by omega)
      | exact endW (t := y.t) ⟨a.kind, a.name, a.labels, y.l⟩ (view_of rfl (.cons rfl (.self (rowPl_box rfl)) .nil)) (frz_agg (.cons (.refl _) (.cons (.refl _) (.cons (shr_L (d := 0) (k := 4) (Nat.zero_add _)) (.cons (shr_L (d := 0) (k := 4) rfl) .nil))))) (wd_of hy ho hll _) (by omega)
      | exact endW (t := t2) ⟨a.kind, a.name, a.labels.take (IntKind.i64.wrap ((a.labels.length : Int) - 1)).toNat, y.l.take (IntKind.i64.wrap ((a.labels.length : Int) - 1)).toNat⟩ (view_of rfl (.cons rfl (.self (rowPl_box rfl)) .nil)) (frz_agg (.cons (.refl _) (.cons (.refl _) (.cons (shr_take (d := 0) (k := 4) (rc_nat ‹_› hll (Nat.le_refl _))) (.cons (shr_take (d := 0) (k := 4) (rc_nat ‹_› hll (by have := hk5 ‹_›; omega))) .nil))))) (wd_cut hy ho hll _ _) (by omega)
      | skip
    · refine endW (t := t2) ⟨a.kind, a.name, newB :: a.labels, unT :: y.l⟩ (view_of rfl (.cons rfl (.self (rowPl_box rfl)) .nil)) (frz_agg ?_) (wd_var hy ho hll hyl) (by omega)
      refine .cons (.refl _) (.cons (.refl _) (.cons ?_ (.cons ?_ .nil)))
      · exact lab_pre (show 1 + (0 + a.labels.length) = 1 + a.labels.length by omega)
      · exact kid_pre rfl
    all_goals
      refine endW (t := t2) ⟨a.kind, a.name, newB :: a.labels, y.l⟩ (view_of rfl (.cons rfl (.self (rowPl_box rfl)) .nil)) (frz_agg ?_) (wd_lab hy ho hll) (by omega)
      refine .cons (.refl _) (.cons (.refl _) (.cons ?_ (.cons ?_ .nil)))
      · exact lab_pre (show 1 + (0 + a.labels.length) = 1 + a.labels.length by omega)
      · exact (shr_L (d := 0) (k := 4) rfl)
  · refine Hold.mk ?_
    refine lw_turn _ (turn_eq (id := 5) (x := rowL 1 strC a.labels) rfl rfl (Nat.zero_add _).symm rfl rfl lab_eq) ?_
    refine lw_turn _ (turn_box (id := 4) (ds := [.i .i64 a.kind, .s a.name, .row 5 (0 + a.labels.length), .ow 4 0 (elE (Typ.pN (d + 2)) [])]) rfl rfl rfl (.cons (.refl _) (.cons (.refl _) (.cons (.refl _) (.cons (.nil _ _) .nil))))) ?_
    refine loopFT (fun y : TpS => [(6, .i .i64 (y.l.length : Int))]) (fun y => [some (.box y.t.cs), none, none, none, some (.box [.i .i64 a.kind, .s a.name, .row 5 (0 + a.labels.length), .ow 4 y.l.length (elE (Typ.pN (d + 2)) y.l)])]) (fun y => WI (d + 1) a s y) (fun y => a.kids.length - y.l.length) ⟨0, [], s⟩ ⟨WI.zero _ _ _, ?_⟩
    repeat' (first | exact aa | ((conv => whnf) <;> (first | (refine dt_turn (turn_open (id := 4) (i := 0) (j := 3) rfl (show 0 < 1 by decide) (show 3 < 4 by decide) rfl) ?_; refine dt_goH 2 [0] rfl ?_) | exact lbz_capC (hln _ ‹_›) (show 72 ≤ 1000 by decide) | exact lbz_capM (hln _ ‹_›) | exact srcOk_1 rfl | exact low_cells rfl | exact low_lit rfl | refine And.intro ?_ ?_ | (intro _h; first | contradiction | (try simp only [dd] at _h)) | (refine dt_go ?_) | exact rfl | exact True.intro | exact dkk | exact dks | (refine .inr (.inl (.inl ⟨[0], _, _, _, hK _ ‹_› (by omega), viewA, ⟨rfl, rfl⟩, ?_⟩)); rintro _ _ ⟨b, t1, hb, ht1, rfl, rfl⟩; refine ⟨rfl, _, lokA, ?_⟩) | (refine wrap_succ ?_; omega))))
    all_goals first
      | (rename TpS => y
         rename WI _ _ _ _ => hy
         have hk : y.l.length < a.kids.length := by omega
         have he : IntKind.i64.wrap ((y.l.length : Int) + 1) = ((y.l ++ [b]).length : Int) := by
           rw [wrap_in (by omega) (by omega), List.length_append]
           rfl
         conv => whnf
         refine roundET_turn (turn_close (id := 4) (i := 0) (j := 3) (id' := 8) rfl (show 0 < 1 by decide) (show 3 < 4 by decide) rfl rfl (show 4 ≠ 8 by decide) rfl ⟨Nat.le_refl _, snoc_idf rfl (fun j hj => pN_idfO (d + 1) b j)⟩) ?_
         refine roundET_turn (turn_box (id := 4) (ds := [.i .i64 a.kind, .s a.name, .row 5 (0 + a.labels.length), .ow 4 (y.l ++ [b]).length (elE (Typ.pN (d + 2)) (y.l ++ [b]))]) rfl rfl rfl (.cons (.refl _) (.cons (.refl _) (.cons (.refl _) (.cons (OwEq.lenT lbz_len (fun i j _ _ => HoldC.h _ j) (snoc_eq rfl (fun j hj => .refl _))) .nil))))) ?_
         refine roundET_end ?_
         refine ⟨⟨0, y.l ++ [b], t1⟩, [], hy.next hk hb ht1, (by show a.kids.length - (y.l ++ [b]).length < a.kids.length - y.l.length; rw [List.length_append]; show a.kids.length - (y.l.length + 1) < _; omega), ?_⟩
         repeat' (first | exact aa | ((conv => whnf) <;> (first | exact he | exact low_cells rfl | exact low_lit rfl | refine And.intro ?_ ?_ | (intro _h; first | contradiction | (try simp only [dd] at _h)) | (refine dt_go ?_) | exact rfl | exact True.intro | exact dkk | exact dks | (refine wrap_succ ?_; omega)))))
      | skip
    rename TpS => y
    rename WI _ _ _ _ => hy
    have hy0 : y.l.length = a.kids.length := by have := hy.le; omega
    have hyA := hy.at
    have hyl : y.l.length ≤ 99 := by omega
    repeat' (first | exact aa | ((conv => whnf) <;> (first | exact rc_lo ‹_› hll | exact rc_hi ‹_› hll (Nat.le_refl _) | exact rc_hi ‹_› hll (show a.labels.length ≤ y.l.length by have := hk5 ‹_›; omega) | (refine Src.rm_i ?_ ?_ ?_) | exact srcOk_1 rfl | refine And.intro ?_ ?_ | (intro _h; first | contradiction | (try simp only [dd] at _h)) | (refine dt_go ?_) | exact rfl | exact True.intro | exact dkk | exact dks | ((first | refine .inl ⟨_, numberS_ok _, ?_⟩ | refine ⟨_, numberS_ok _, ?_⟩); (try rintro _ rfl)) | ((first | refine .inl ⟨_, withinS_ok _ _, ?_⟩ | refine ⟨_, withinS_ok _ _, ?_⟩); (try rintro _ rfl)) | (refine .inr (.inl (.inl ⟨[0], _, _, _, pick_ex _ ?_ 7 (by decide), viewA, ⟨rfl, rfl⟩, ?_⟩)); rotate_left 1; rintro _ _ ⟨v2, t2, hv2, ht2, rfl, rfl⟩; refine ⟨rfl, _, lokA, ?_⟩) | (refine .inr (.inl (.inl ⟨[0], _, _, _, one_ex _ ?_ 2 (by decide), viewA, ⟨rfl, rfl⟩, ?_⟩)); rotate_left 1; rintro _ _ ⟨b2, t2, ht2, rfl, rfl⟩; refine ⟨rfl, _, lokA, ?_⟩) | (refine wrap_succ ?_; omega))))
    all_goals (conv => whnf)
    all_goals first
      | exact endW (t := t2) ⟨IntKind.i64.wrap (3 + v2), a.name, a.labels, y.l⟩ (view_of rfl (.cons rfl (.self (rowPl_box rfl)) .nil)) (frz_agg (.cons (.refl _) (.cons (.refl _) (.cons (shr_L (d := 0) (k := 4) (Nat.zero_add _)) (.cons (shr_L (d := 0) (k := 4) rfl) .nil))))) (wd_of hy ho hll _) (by omega)
      | exact endW (t := t2) ⟨a.kind, a.name, a.labels, y.l⟩ (view_of rfl (.cons rfl (.self (rowPl_box rfl)) .nil)) (frz_agg (.cons (.refl _) (.cons (.refl _) (.cons (shr_L (d := 0) (k := 4) (Nat.zero_add _)) (.cons (shr_L (d := 0) (k := 4) rfl) .nil))))) (wd_of hy ho hll _) (by omega)
      | exact endW (t := y.t) ⟨a.kind, a.name, a.labels, y.l⟩ (view_of rfl (.cons rfl (.self (rowPl_box rfl)) .nil)) (frz_agg (.cons (.refl _) (.cons (.refl _) (.cons (shr_L (d := 0) (k := 4) (Nat.zero_add _)) (.cons (shr_L (d := 0) (k := 4) rfl) .nil))))) (wd_of hy ho hll _) (by omega)
      | exact endW (t := t2) ⟨a.kind, a.name, a.labels.take (IntKind.i64.wrap ((a.labels.length : Int) - 1)).toNat, y.l.take (IntKind.i64.wrap ((a.labels.length : Int) - 1)).toNat⟩ (view_of rfl (.cons rfl (.self (rowPl_box rfl)) .nil)) (frz_agg (.cons (.refl _) (.cons (.refl _) (.cons (shr_take (d := 0) (k := 4) (rc_nat ‹_› hll (Nat.le_refl _))) (.cons (shr_take (d := 0) (k := 4) (rc_nat ‹_› hll (by have := hk5 ‹_›; omega))) .nil))))) (wd_cut hy ho hll _ _) (by omega)
      | skip
    · refine endW (t := t2) ⟨a.kind, a.name, newB :: a.labels, unT :: y.l⟩ (view_of rfl (.cons rfl (.self (rowPl_box rfl)) .nil)) (frz_agg ?_) (wd_var hy ho hll hyl) (by omega)
      refine .cons (.refl _) (.cons (.refl _) (.cons ?_ (.cons ?_ .nil)))
      · exact lab_pre (show 1 + (0 + a.labels.length) = 1 + a.labels.length by omega)
      · exact kid_pre rfl
    all_goals
      refine endW (t := t2) ⟨a.kind, a.name, newB :: a.labels, y.l⟩ (view_of rfl (.cons rfl (.self (rowPl_box rfl)) .nil)) (frz_agg ?_) (wd_lab hy ho hll) (by omega)
      refine .cons (.refl _) (.cons (.refl _) (.cons ?_ (.cons ?_ .nil)))
      · exact lab_pre (show 1 + (0 + a.labels.length) = 1 + a.labels.length by omega)
      · exact (shr_L (d := 0) (k := 4) rfl)
  · refine Hold.mk ?_
    refine lw_turn _ (turn_eq (id := 5) (x := rowL 1 strC a.labels) rfl rfl (Nat.zero_add _).symm rfl rfl lab_eq) ?_
    refine lw_turn _ (turn_box (id := 3) (ds := [.i .i64 a.kind, .s a.name, .row 5 (0 + a.labels.length), .ow 4 0 (elE (Typ.pN (d + 2)) [])]) rfl rfl rfl (.cons (.refl _) (.cons (.refl _) (.cons (.refl _) (.cons (.nil _ _) .nil))))) ?_
    refine loopFT (fun y : TpS => [(6, .i .i64 (y.l.length : Int))]) (fun y => [some (.box y.t.cs), none, none, some (.box [.i .i64 a.kind, .s a.name, .row 5 (0 + a.labels.length), .ow 4 y.l.length (elE (Typ.pN (d + 2)) y.l)])]) (fun y => WI (d + 1) a s y) (fun y => a.kids.length - y.l.length) ⟨0, [], s⟩ ⟨WI.zero _ _ _, ?_⟩
    repeat' (first | exact aa | ((conv => whnf) <;> (first | (refine dt_turn (turn_open (id := 3) (i := 0) (j := 3) rfl (show 0 < 1 by decide) (show 3 < 4 by decide) rfl) ?_; refine dt_goH 2 [0] rfl ?_) | exact lbz_capC (hln _ ‹_›) (show 72 ≤ 1000 by decide) | exact lbz_capM (hln _ ‹_›) | exact srcOk_1 rfl | exact low_cells rfl | exact low_lit rfl | refine And.intro ?_ ?_ | (intro _h; first | contradiction | (try simp only [dd] at _h)) | (refine dt_go ?_) | exact rfl | exact True.intro | exact dkk | exact dks | (refine .inr (.inl (.inl ⟨[0], _, _, _, hK _ ‹_› (by omega), viewA, ⟨rfl, rfl⟩, ?_⟩)); rintro _ _ ⟨b, t1, hb, ht1, rfl, rfl⟩; refine ⟨rfl, _, lokA, ?_⟩) | (refine wrap_succ ?_; omega))))
    all_goals first
      | (rename TpS => y
         rename WI _ _ _ _ => hy
         have hk : y.l.length < a.kids.length := by omega
         have he : IntKind.i64.wrap ((y.l.length : Int) + 1) = ((y.l ++ [b]).length : Int) := by
           rw [wrap_in (by omega) (by omega), List.length_append]
           rfl
         conv => whnf
         refine roundET_turn (turn_close (id := 3) (i := 0) (j := 3) (id' := 8) rfl (show 0 < 1 by decide) (show 3 < 4 by decide) rfl rfl (show 3 ≠ 8 by decide) rfl ⟨Nat.le_refl _, snoc_idf rfl (fun j hj => pN_idfO (d + 1) b j)⟩) ?_
         refine roundET_turn (turn_box (id := 3) (ds := [.i .i64 a.kind, .s a.name, .row 5 (0 + a.labels.length), .ow 4 (y.l ++ [b]).length (elE (Typ.pN (d + 2)) (y.l ++ [b]))]) rfl rfl rfl (.cons (.refl _) (.cons (.refl _) (.cons (.refl _) (.cons (OwEq.lenT lbz_len (fun i j _ _ => HoldC.h _ j) (snoc_eq rfl (fun j hj => .refl _))) .nil))))) ?_
         refine roundET_end ?_
         refine ⟨⟨0, y.l ++ [b], t1⟩, [], hy.next hk hb ht1, (by show a.kids.length - (y.l ++ [b]).length < a.kids.length - y.l.length; rw [List.length_append]; show a.kids.length - (y.l.length + 1) < _; omega), ?_⟩
         repeat' (first | exact aa | ((conv => whnf) <;> (first | exact he | exact low_cells rfl | exact low_lit rfl | refine And.intro ?_ ?_ | (intro _h; first | contradiction | (try simp only [dd] at _h)) | (refine dt_go ?_) | exact rfl | exact True.intro | exact dkk | exact dks | (refine wrap_succ ?_; omega)))))
      | skip
    rename TpS => y
    rename WI _ _ _ _ => hy
    have hy0 : y.l.length = a.kids.length := by have := hy.le; omega
    have hyA := hy.at
    have hyl : y.l.length ≤ 99 := by omega
    repeat' (first | exact aa | ((conv => whnf) <;> (first | exact rc_lo ‹_› hll | exact rc_hi ‹_› hll (Nat.le_refl _) | exact rc_hi ‹_› hll (show a.labels.length ≤ y.l.length by have := hk5 ‹_›; omega) | (refine Src.rm_i ?_ ?_ ?_) | exact srcOk_1 rfl | refine And.intro ?_ ?_ | (intro _h; first | contradiction | (try simp only [dd] at _h)) | (refine dt_go ?_) | exact rfl | exact True.intro | exact dkk | exact dks | ((first | refine .inl ⟨_, numberS_ok _, ?_⟩ | refine ⟨_, numberS_ok _, ?_⟩); (try rintro _ rfl)) | ((first | refine .inl ⟨_, withinS_ok _ _, ?_⟩ | refine ⟨_, withinS_ok _ _, ?_⟩); (try rintro _ rfl)) | (refine .inr (.inl (.inl ⟨[0], _, _, _, pick_ex _ ?_ 7 (by decide), viewA, ⟨rfl, rfl⟩, ?_⟩)); rotate_left 1; rintro _ _ ⟨v2, t2, hv2, ht2, rfl, rfl⟩; refine ⟨rfl, _, lokA, ?_⟩) | (refine .inr (.inl (.inl ⟨[0], _, _, _, one_ex _ ?_ 2 (by decide), viewA, ⟨rfl, rfl⟩, ?_⟩)); rotate_left 1; rintro _ _ ⟨b2, t2, ht2, rfl, rfl⟩; refine ⟨rfl, _, lokA, ?_⟩) | (refine wrap_succ ?_; omega))))
    all_goals (conv => whnf)
    all_goals first
      | exact endW (t := t2) ⟨IntKind.i64.wrap (3 + v2), a.name, a.labels, y.l⟩ (view_of rfl (.cons rfl (.self (rowPl_box rfl)) .nil)) (frz_agg (.cons (.refl _) (.cons (.refl _) (.cons (shr_L (d := 0) (k := 4) (Nat.zero_add _)) (.cons (shr_L (d := 0) (k := 4) rfl) .nil))))) (wd_of hy ho hll _) (by omega)
      | exact endW (t := t2) ⟨a.kind, a.name, a.labels, y.l⟩ (view_of rfl (.cons rfl (.self (rowPl_box rfl)) .nil)) (frz_agg (.cons (.refl _) (.cons (.refl _) (.cons (shr_L (d := 0) (k := 4) (Nat.zero_add _)) (.cons (shr_L (d := 0) (k := 4) rfl) .nil))))) (wd_of hy ho hll _) (by omega)
      | exact endW (t := y.t) ⟨a.kind, a.name, a.labels, y.l⟩ (view_of rfl (.cons rfl (.self (rowPl_box rfl)) .nil)) (frz_agg (.cons (.refl _) (.cons (.refl _) (.cons (shr_L (d := 0) (k := 4) (Nat.zero_add _)) (.cons (shr_L (d := 0) (k := 4) rfl) .nil))))) (wd_of hy ho hll _) (by omega)
      | exact endW (t := t2) ⟨a.kind, a.name, a.labels.take (IntKind.i64.wrap ((a.labels.length : Int) - 1)).toNat, y.l.take (IntKind.i64.wrap ((a.labels.length : Int) - 1)).toNat⟩ (view_of rfl (.cons rfl (.self (rowPl_box rfl)) .nil)) (frz_agg (.cons (.refl _) (.cons (.refl _) (.cons (shr_take (d := 0) (k := 4) (rc_nat ‹_› hll (Nat.le_refl _))) (.cons (shr_take (d := 0) (k := 4) (rc_nat ‹_› hll (by have := hk5 ‹_›; omega))) .nil))))) (wd_cut hy ho hll _ _) (by omega)
      | skip
    · refine endW (t := t2) ⟨a.kind, a.name, newB :: a.labels, unT :: y.l⟩ (view_of rfl (.cons rfl (.self (rowPl_box rfl)) .nil)) (frz_agg ?_) (wd_var hy ho hll hyl) (by omega)
      refine .cons (.refl _) (.cons (.refl _) (.cons ?_ (.cons ?_ .nil)))
      · exact lab_pre (show 1 + (0 + a.labels.length) = 1 + a.labels.length by omega)
      · exact kid_pre rfl
    all_goals
      refine endW (t := t2) ⟨a.kind, a.name, newB :: a.labels, y.l⟩ (view_of rfl (.cons rfl (.self (rowPl_box rfl)) .nil)) (frz_agg ?_) (wd_lab hy ho hll) (by omega)
      refine .cons (.refl _) (.cons (.refl _) (.cons ?_ (.cons ?_ .nil)))
      · exact lab_pre (show 1 + (0 + a.labels.length) = 1 + a.labels.length by omega)
      · exact (shr_L (d := 0) (k := 4) rfl)
theorem widD_all : ∀ d, WidD d
  | 0 => fun s a h => h.elim
  | d + 1 => fun s a ho hsh hnp hs => RetM.frz [0] rfl (plainH_box (by rfl)) (wider_step d (widD_all d) s a ho hsh hnp hs (knd hsh).ll (fun e => (knd hsh).k5 (.inl e)))
end Go.Proofs.YtfddakeigmpjkaaGreatDoor
