/- Texts for VSectionsP. -/
import Derived.Test.YtdeledeopippfaaVx22
import Derived.Test.YtdeledeopippfaaVx23
namespace Go.Proofs.Ytdeledeopippfaa
open Go Go.RowKit
set_option linter.unusedVariables false
set_option linter.unusedSimpArgs false
section
attribute [local irreducible] IntKind.wrap
def Els {α : Type} [Inhabited α] (sz : Nat) (c : α → List AV) (e : Nat → Nat → AV) (l : List α) : Prop := ∀ i j, i < l.length → j < sz → OwEq (e i j) (elE c l i j)
theorem Els.el {α : Type} [Inhabited α] {sz : Nat} {c : α → List AV} {l : List α} : Els sz c (elE c l) l := fun i j _ _ => .refl _
theorem Els.lit {α : Type} [Inhabited α] {sz : Nat} {c : α → List AV} {l : List α} {css : List (List AV)} (h : css = l.map c) : Els sz c (litE css) l := fun i j hi _ => by
  subst h
  have : litE (l.map c) i j = elE c l i j := by
    unfold litE elE
    congr 1
    rw [List.getD_eq_getElem?_getD (l := l.map c), List.getElem?_map, List.getElem?_eq_getElem hi, List.getD_eq_getElem?_getD (l := l), List.getElem?_eq_getElem hi]
    rfl
  rw [this]
  exact .refl _
theorem Els.cat {α : Type} [Inhabited α] {sz : Nat} {c : α → List AV} {e e' : Nat → Nat → AV} {l l' : List α} {n : Nat} (h : Els sz c e l) (h' : Els sz c e' l') (hn : n = l.length) : Els sz c (catE n e e') (l ++ l') := fun i j hi hj => by
  subst hn
  rw [List.length_append] at hi
  by_cases q : i < l.length
  · rw [catE_lt q]
    have e1 : (l ++ l').getD i default = l.getD i default := by rw [List.getD_eq_getElem?_getD, List.getElem?_append_left q, ← List.getD_eq_getElem?_getD]
    have : elE c (l ++ l') i j = elE c l i j := by unfold elE; rw [e1]
    rw [this]
    exact h i j q hj
  · rw [catE_ge (by omega)]
    have e1 : (l ++ l').getD i default = l'.getD (i - l.length) default := by rw [List.getD_eq_getElem?_getD, List.getElem?_append_right (by omega), ← List.getD_eq_getElem?_getD]
    have : elE c (l ++ l') i j = elE c l' (i - l.length) j := by unfold elE; rw [e1]
    rw [this]
    exact h' _ j (by omega) hj
def AllG (l : List Ins) : Prop := ∀ x ∈ l, x.good = true
theorem AllG.app {l l' : List Ins} (h : AllG l) (h' : AllG l') : AllG (l ++ l') := fun x hx => (List.mem_append.1 hx).elim (h x) (h' x)
theorem AllG.one {i : Ins} (h : i.good = true) : AllG [i] := fun x hx => by rw [List.mem_singleton.1 hx]; exact h
theorem good_no {op : Int} (h1 : 1 ≤ op ∧ op ≤ 40) (h : opV op = (0, 0, false)) : Ins.good ⟨op, 0⟩ = true := by
  unfold Ins.good
  rw [h]
  exact decide_eq_true ⟨h1, Int.le_refl _, Int.le_refl _⟩
theorem good_get {op a : Int} (h : op = 2 ∨ op = 3 ∨ op = 4) (h0 : 0 ≤ a ∧ a ≤ 15) : Ins.good ⟨op, a⟩ = true := by
  rcases h with rfl | rfl | rfl <;> exact decide_eq_true ⟨⟨by dsimp only; omega, by dsimp only; omega⟩, h0⟩
theorem good_mem {op a : Int} (h : 34 ≤ op ∧ op ≤ 39) (h0 : 0 ≤ a ∧ a ≤ 4096) : Ins.good ⟨op, a⟩ = true := by
  rcases (show op = 34 ∨ op = 35 ∨ op = 36 ∨ op = 37 ∨ op = 38 ∨ op = 39 by omega) with rfl | rfl | rfl | rfl | rfl | rfl <;> exact decide_eq_true ⟨⟨by dsimp only; omega, by dsimp only; omega⟩, h0⟩
theorem good_const {a : Int} (h : i64R a) : Ins.good ⟨1, a⟩ = true := decide_eq_true ⟨⟨by show (1 : Int) ≤ 1; omega, by show (1 : Int) ≤ 40; omega⟩, h⟩
theorem good_ar {v : Int} (h : 0 ≤ v ∧ (v = 0 ∨ v < 16)) : Ins.good ⟨IntKind.i64.wrap (6 + v), 0⟩ = true := by
  rw [wrap_in (by omega) (by omega)]
  rcases (show v = 0 ∨ v = 1 ∨ v = 2 ∨ v = 3 ∨ v = 4 ∨ v = 5 ∨ v = 6 ∨ v = 7 ∨ v = 8 ∨ v = 9 ∨ v = 10 ∨ v = 11 ∨ v = 12 ∨ v = 13 ∨ v = 14 ∨ v = 15 by omega) with rfl | rfl | rfl | rfl | rfl | rfl | rfl | rfl | rfl | rfl | rfl | rfl | rfl | rfl | rfl | rfl <;> decide
def vN : Nat → Nat
  | 0 => 1
  | d + 1 => 3 * vN d + 3
def cN : Nat → Nat
  | 0 => 8
  | d + 1 => 3 * cN d + 8
theorem vN_s (d : Nat) : vN (d + 1) = 3 * vN d + 3 := rfl
theorem cN_s (d : Nat) : (cN (d + 1) : Int) = 3 * cN d + 8 := by show ((3 * cN d + 8 : Nat) : Int) = _; omega
def CodeP (s : Src) (c n : Nat) (r : AV) (H : Hp) : Prop := ∃ (l : List Ins) (t : Src) (k : Nat), (AllG l ∧ l.length ≤ n) ∧ (s.at' ≤ t.at' ∧ t.at' ≤ s.at' + c ∧ t.code.length = s.code.length) ∧ k = l.length ∧ r = .row 1 k ∧ H = [some (boxRow t.cs), some (rowL 2 Ins.cs l)]
def ValC (d : Nat) : Prop := ∀ (s : Src), s.rm (cN d) → ∀ lc : Int, 0 ≤ lc ∧ lc ≤ 6 → ∀ D : Int, D = d → RetM env.P 75 [some (boxRow s.cs)] [.ptr 0 0 0, .i .i64 lc, .i .i64 D] (CodeP s (cN d) (vN d))
structure EG (e : Nat → Nat → AV) (n : Nat) (l : List Ins) : Prop where
  els : Els 2 Ins.cs e l
  g : AllG l
  len : n = l.length
theorem EG.el {l : List Ins} {k m : Nat} (h : AllG l ∧ l.length ≤ m) (hk : k = l.length) : EG (elE Ins.cs l) k l := ⟨.el, h.1, hk⟩
theorem EG.lit {css : List (List AV)} {n : Nat} (l : List Ins) (h : css = l.map Ins.cs) (hn : n = l.length) (hg : AllG l) : EG (litE css) n l := ⟨.lit h, hg, hn⟩
theorem EG.one {css : List (List AV)} (i : Ins) (h : css = [i.cs]) (hg : i.good = true) : EG (litE css) 1 [i] := ⟨.lit h, .one hg, rfl⟩
theorem EG.cat {e e' : Nat → Nat → AV} {n m : Nat} {l l' : List Ins} (h : EG e n l) (h' : EG e' m l') : EG (catE n e e') (n + m) (l ++ l') := ⟨.cat h.els h'.els h.len, h.g.app h'.g, by rw [List.length_append, h.len, h'.len]⟩
theorem endC {X : Ctx} {H : Hp} {s t : Src} {y : Option Row} {c n k id : Nat} {x : Row} {l : List Ins} (hX : X.H0 = [y]) (hid : nodupB [0, id] = true) (h0 : H[0]? = some (some (boxRow t.cs))) (hr : H[id]? = some (some x)) (h1 : x.sz = 2) (h2 : x.cap = k) (h3 : x.k = .arr) (he : EG x.es k l) (hn : k ≤ n) (ht : s.at' ≤ t.at' ∧ t.at' ≤ s.at' + c ∧ t.code.length = s.code.length) : EndM X H (.row id k) (CodeP s c n) := by
  have hl : id < H.length := (List.getElem?_eq_some_iff.1 hr).1
  have hk := he.len
  have h0' : (H.set id (some (rowL 2 Ins.cs l)))[0]? = some (some (boxRow t.cs)) := by
    by_cases e : id = 0
    · subst e; exact absurd hid (by decide)
    · rw [List.getElem?_set_ne (fun q => e q)]; exact h0
  have h1' : (H.set id (some (rowL 2 Ins.cs l)))[id]? = some (some (rowL 2 Ins.cs l)) := by rw [List.getElem?_set_self hl]
  refine endM_turn (turn_eq hr (x := rowL 2 Ins.cs l) h1.symm (by show l.length = x.cap; omega) (by rw [h3]; rfl) (by rw [h3]; rfl) (fun i j hi hj => he.els i j (by omega) (by omega))) ?_
  exact endM_pick [0, id] [some (boxRow t.cs), some (rowL 2 Ins.cs l)] (.row 1 k) (view_of hid (.cons h0' (.self (rowPl_box rfl)) (.cons h1' (.self (rowPl_L fun _ => rfl)) .nil))) rfl rfl (by rw [hX]; exact keepK (n := 1) rfl rfl) ⟨l, t, k, ⟨he.g, by omega⟩, ht, hk, rfl, rfl⟩
set_option maxRecDepth 8000 in
set_option maxHeartbeats 2000000 in
theorem val_0 : ValC 0 := fun s h lc hl D hD => by
  subst hD
  obtain ⟨q1, q2, q3⟩ := h
  have e0 : (cN 0 : Int) = 8 := rfl
  rw [e0] at q2
  refine ret_ofM (nt := 124) (rvs := [.tmp 6]) Try.func75 rfl rfl rfl rfl (fun X hX => ?_)
  repeat' (first | omega | (with_reducible show (_ : Int) < _; dsimp only; omega) | (with_reducible show (_ : Nat) ≤ _; dsimp only; omega) | ((with_reducible show SrcOk _ _ _) <;> (first | exact srcOk_1 rfl | exact srcOk_L (fun _ => ⟨rfl, rfl⟩) | exact srcOk_E (fun _ => ⟨rfl, rfl⟩))) | ((conv => whnf) <;> (first | (refine Src.rm_i ?_ ?_ ?_) | refine And.intro ?_ ?_ | (intro _h; first | contradiction | (try simp only [dd] at _h)) | (refine dt_go ?_) | exact rfl | exact True.intro | exact dkk | exact dks | (refine .inr (.inl (.inl ⟨[0], _, _, _, one_ex _ ?_ 2 (by decide), viewA, ⟨rfl, rfl⟩, ?_⟩)); rotate_left 1; (rintro _ _ ⟨b1, t1, ht1, rfl, rfl⟩) <;> (refine ⟨rfl, _, lokA, ?_⟩)) | (refine .inr (.inl (.inl ⟨[0], _, _, _, pick_ex _ ?_ _ ?_, viewA, ⟨rfl, rfl⟩, ?_⟩)); rotate_left 2; (rintro _ _ ⟨v2, t2, hv2, ht2, rfl, rfl⟩) <;> (refine ⟨rfl, _, lokA, ?_⟩)) | (refine .inr (.inl (.inl ⟨[0], _, _, _, l15Const_ok _ ?_, viewA, ⟨rfl, rfl⟩, ?_⟩)); rotate_left 1; (rintro _ _ ⟨v2, t2, hv2, ht2, rfl, rfl⟩) <;> (refine ⟨rfl, _, lokA, ?_⟩)) | (refine wrap_succ ?_; omega))))
  all_goals (conv => whnf)
  all_goals first
    | exact endC (t := t2) hX rfl rfl rfl rfl rfl rfl (EG.one ⟨2, v2⟩ rfl (good_get (by omega) (by omega))) (by decide) (by rw [e0]; omega)
    | exact endC (t := t2) hX rfl rfl rfl rfl rfl rfl (EG.one ⟨1, v2⟩ rfl (good_const hv2)) (by decide) (by rw [e0]; omega)
theorem good_ld {v w : Int} (h : v ∈ [34, 35, 36]) (hw : 0 ≤ w ∧ (w = 0 ∨ w < 20)) : Ins.good ⟨v, w⟩ = true := by
  simp only [List.mem_cons, List.not_mem_nil, or_false] at h
  exact good_mem (by omega) (by omega)
theorem lit_cap {n m b : Nat} (h : n ≤ 1000) (hm : m ≤ 1000) (hb : b ≤ 1000) : (n + m) * b ≤ 140737488355328 := Nat.le_trans (Nat.mul_le_mul (show n + m ≤ 2000 by omega) hb) (by decide)
set_option maxRecDepth 8000 in
set_option maxHeartbeats 4000000 in
theorem val_s (d : Nat) (ih : ValC d) (h9 : d ≤ 9) (hd : vN (d + 1) ≤ 300) (hc : cN (d + 1) ≤ 10000) : ValC (d + 1) := fun s h lc hl D hD => by
  have hw : IntKind.i64.wrap (D - 1) = d := by rw [hD, wrap_in (by omega) (by omega)]; omega
  have hD0 : ¬ D = 0 := by omega
  obtain ⟨q1, q2, q3⟩ := h
  have hC := cN_s d
  have hV := vN_s d
  generalize hN : (cN (d + 1) : Int) = N at *
  generalize hM : vN (d + 1) = M at *
  refine ret_ofM (nt := 124) (rvs := [.tmp 6]) Try.func75 rfl rfl rfl rfl (fun X hX => ?_)
  repeat' (first | omega | (with_reducible show (_ : Int) < _; dsimp only; omega) | (with_reducible show (_ : Nat) ≤ _; dsimp only; omega) | ((with_reducible show SrcOk _ _ _) <;> (first | exact srcOk_1 rfl | exact srcOk_L (fun _ => ⟨rfl, rfl⟩) | exact srcOk_E (fun _ => ⟨rfl, rfl⟩))) | ((conv => whnf) <;> (first | (refine dt_goH 0 [] rfl ?_) | (refine Src.rm_i ?_ ?_ ?_) | ((refine .inr (.inl (.inl ⟨[0, 2], _, _, _, among_row _ ?_ ([34, 35, 36]) (Nat.succ_pos _) (show 3 ≤ 200 by decide), (view_of rfl (.cons rfl (.self (rowPl_box rfl)) (.cons rfl (rowBack_lit ([34, 35, 36])) .nil))), ⟨rfl, rfl⟩, ?_⟩))); rotate_left 1; rintro _ _ ⟨v2, t2, hv2, ht2, rfl, rfl⟩; refine ⟨rfl, _, lokA, ?_⟩) | exact lbz_zero rfl rfl | exact low_cells rfl | exact srcOk_1 rfl | exact low_lit rfl | refine And.intro ?_ ?_ | (intro _h; first | contradiction | (try simp only [dd] at _h)) | (refine dt_go ?_) | exact rfl | exact True.intro | exact dkk | exact dks | (refine .inr (.inl (.inl ⟨[0], _, _, _, one_ex _ ?_ 2 (by decide), viewA, ⟨rfl, rfl⟩, ?_⟩)); rotate_left 1; (rintro _ _ ⟨b1, t1, ht1, rfl, rfl⟩) <;> (refine ⟨rfl, _, lokA, ?_⟩)) | (refine .inr (.inl (.inl ⟨[0], _, _, _, one_ex _ ?_ 3 (by decide), viewA, ⟨rfl, rfl⟩, ?_⟩)); rotate_left 1; (rintro _ _ ⟨b1, t1, ht1, rfl, rfl⟩) <;> (refine ⟨rfl, _, lokA, ?_⟩)) | (refine .inr (.inl (.inl ⟨[0], _, _, _, pick_ex _ ?_ _ ?_, viewA, ⟨rfl, rfl⟩, ?_⟩)); rotate_left 2; (rintro _ _ ⟨v2, t2, hv2, ht2, rfl, rfl⟩) <;> (refine ⟨rfl, _, lokA, ?_⟩)) | (refine .inr (.inl (.inl ⟨[0], _, _, _, l15Const_ok _ ?_, viewA, ⟨rfl, rfl⟩, ?_⟩)); rotate_left 1; (rintro _ _ ⟨v2, t2, hv2, ht2, rfl, rfl⟩) <;> (refine ⟨rfl, _, lokA, ?_⟩)) | (refine .inr (.inl (.inl ⟨[0], _, _, _, ih _ ?_ _ hl _ hw, viewA, ⟨rfl, rfl⟩, ?_⟩)); rotate_left 1; (rintro _ _ ⟨l, t3, k3, hl3, ht3, hk3, rfl, rfl⟩) <;> (refine ⟨rfl, _, lokA, ?_⟩)) | (refine wrap_succ ?_; omega))))
  all_goals (conv => whnf)
  all_goals first
    | exact endC (t := t2) hX rfl rfl rfl rfl rfl rfl (EG.one ⟨2, v2⟩ rfl (good_get (by omega) (by omega))) (by omega) (by omega)
    | exact endC (t := t2) hX rfl rfl rfl rfl rfl rfl (EG.one ⟨1, v2⟩ rfl (good_const hv2)) (by omega) (by omega)
    | exact endC (t := t2) hX rfl rfl rfl rfl rfl rfl (EG.cat (EG.el ‹_› ‹_›) (EG.one ⟨22, 0⟩ rfl (good_no (by decide) rfl))) (by omega) (by omega)
    | exact endC (t := t2) hX rfl rfl rfl rfl rfl rfl (EG.cat (EG.el ‹_› ‹_›) (EG.one ⟨_, v2⟩ rfl (good_ld ‹_› ‹_›))) (by omega) (by omega)
    | exact endC (t := t2) hX rfl rfl rfl rfl rfl rfl (EG.cat (EG.el ‹_› ‹_›) (EG.one ⟨4, v2⟩ rfl (good_get (by omega) (by omega)))) (by omega) (by omega)
    | exact endC (t := t2) hX rfl rfl rfl rfl rfl rfl (EG.cat (EG.cat (EG.cat (EG.el ‹_› ‹_›) (EG.el ‹_› ‹_›)) (EG.el ‹_› ‹_›)) (EG.one ⟨23, 0⟩ rfl (good_no (by decide) rfl))) (by omega) (by omega)
    | exact endC (t := t2) hX rfl rfl rfl rfl rfl rfl (EG.cat (EG.cat (EG.cat (EG.cat (EG.cat (EG.el ‹_› ‹_›) (EG.one ⟨26, 1⟩ rfl (by decide))) (EG.el ‹_› ‹_›)) (EG.one ⟨27, 0⟩ rfl (good_no (by decide) rfl))) (EG.el ‹_› ‹_›)) (EG.one ⟨28, 0⟩ rfl (good_no (by decide) rfl))) (by omega) (by omega)
    | exact endC (t := t2) hX rfl rfl rfl rfl rfl rfl (EG.cat (EG.cat (EG.el ‹_› ‹_›) (EG.el ‹_› ‹_›)) (EG.one ⟨_, 0⟩ rfl (good_ar ‹_›))) (by omega) (by omega)
    | exact endC (t := t3) hX rfl rfl rfl rfl rfl rfl (EG.one ⟨2, v2⟩ rfl (good_get (by omega) (by omega))) (by omega) (by omega)
    | exact endC (t := t3) hX rfl rfl rfl rfl rfl rfl (EG.one ⟨1, v2⟩ rfl (good_const hv2)) (by omega) (by omega)
    | exact endC (t := t3) hX rfl rfl rfl rfl rfl rfl (EG.cat (EG.el ‹_› ‹_›) (EG.one ⟨22, 0⟩ rfl (good_no (by decide) rfl))) (by omega) (by omega)
    | exact endC (t := t3) hX rfl rfl rfl rfl rfl rfl (EG.cat (EG.el ‹_› ‹_›) (EG.one ⟨_, v2⟩ rfl (good_ld ‹_› ‹_›))) (by omega) (by omega)
    | exact endC (t := t3) hX rfl rfl rfl rfl rfl rfl (EG.cat (EG.el ‹_› ‹_›) (EG.one ⟨4, v2⟩ rfl (good_get (by omega) (by omega)))) (by omega) (by omega)
    | exact endC (t := t3) hX rfl rfl rfl rfl rfl rfl (EG.cat (EG.cat (EG.cat (EG.el ‹_› ‹_›) (EG.el ‹_› ‹_›)) (EG.el ‹_› ‹_›)) (EG.one ⟨23, 0⟩ rfl (good_no (by decide) rfl))) (by omega) (by omega)
    | exact endC (t := t3) hX rfl rfl rfl rfl rfl rfl (EG.cat (EG.cat (EG.cat (EG.cat (EG.cat (EG.el ‹_› ‹_›) (EG.one ⟨26, 1⟩ rfl (by decide))) (EG.el ‹_› ‹_›)) (EG.one ⟨27, 0⟩ rfl (good_no (by decide) rfl))) (EG.el ‹_› ‹_›)) (EG.one ⟨28, 0⟩ rfl (good_no (by decide) rfl))) (by omega) (by omega)
    | exact endC (t := t3) hX rfl rfl rfl rfl rfl rfl (EG.cat (EG.cat (EG.el ‹_› ‹_›) (EG.el ‹_› ‹_›)) (EG.one ⟨_, 0⟩ rfl (good_ar ‹_›))) (by omega) (by omega)
theorem val_1 : ValC 1 := val_s 0 val_0 (by decide) (by decide) (by decide)
theorem val_2 : ValC 2 := val_s 1 val_1 (by decide) (by decide) (by decide)
end
end Go.Proofs.Ytdeledeopippfaa
