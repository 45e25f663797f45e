/-
  Types that are drawn: any type.
-/
import Derived.Test.YtnppkgmodflkdaaGreatVTpP
namespace Go.Proofs.YtnppkgmodflkdaaGreat
open Go Go.RowKit
set_option linter.unusedVariables false
set_option linter.unusedSimpArgs false
attribute [local irreducible] IntKind.wrap

theorem chN_le {q : Nat} (h : q ≤ 3) : (chN (q + 1) : Int) ≤ 3068 := by
  rcases (show q = 0 ∨ q = 1 ∨ q = 2 ∨ q = 3 by omega) with rfl | rfl | rfl | rfl <;> decide
def AnyP (s : Src) (r : AV) (H : Hp) : Prop := ∃ (n : Nat) (a : Typ) (t : Src), (n ≤ 12 ∧ Typ.oN (n + 1) a ∧ a.np ≤ 2000) ∧ (s.at' ≤ t.at' ∧ t.at' ≤ s.at' + 4000 ∧ t.code.length = s.code.length) ∧ r = .agg (Typ.pN (n + 2) a) ∧ H = [some (boxRow t.cs)]
theorem endF {X : Ctx} {H : Hp} {r : AV} {s t : Src} (n : Nat) (a : Typ) (hv : ViewOk [0] H [some (boxRow t.cs)]) (hw : WkC (shr (outM [0] 0 H) r) (.agg (Typ.pN (n + 2) a))) (hn : n ≤ 12) (ho : Typ.oN (n + 1) a) (hp : a.np ≤ 2000) (ht : s.at' ≤ t.at' ∧ t.at' ≤ s.at' + 4000 ∧ t.code.length = s.code.length) : EndM X H r (FrzP [0] (AnyP s)) := endM_self ⟨[some (boxRow t.cs)], _, hv, hw, n, a, t, ⟨hn, ho, hp⟩, ht, rfl, rfl⟩
theorem pick12 (s : Src) (h : s.rm 1) : RetM env.P 42 [some (boxRow s.cs)] [.ptr 0 0 0, .i .i64 12] (fun r H => ∃ (v : Int) (t : Src), (v = 0 ∨ v = 1 ∨ v = 2 ∨ v = 3 ∨ v = 4 ∨ v = 5 ∨ v = 6 ∨ 7 ≤ v) ∧ (s.at' ≤ t.at' ∧ t.at' ≤ s.at' + 1 ∧ t.code.length = s.code.length) ∧ r = .i .i64 v ∧ H = [some (boxRow t.cs)]) :=
  (pick_ex s h 12 (by decide)).mono fun r H ⟨v, t, hv, ht, hr⟩ => ⟨v, t, by omega, ht, hr⟩
theorem oN_kind {n : Nat} {a : Typ} (k : Int) (h : Typ.oN (n + 1) a) : Typ.oN (n + 1) ⟨k, a.name, a.labels, a.kids⟩ := h
theorem np_of {a b : Typ} (h : b.kids = a.kids) : b.np = a.np := by rw [Typ.np_eq, Typ.np_eq, h]
def oddT : List ByteArray := [⟨#[97]⟩, ⟨#[66]⟩, ⟨#[45]⟩, ⟨#[113]⟩]
def oddN : List ByteArray := [⟨#[114, 101, 115]⟩, ⟨#[97, 45, 45, 98]⟩, ⟨#[97, 45]⟩]
theorem odd_sz {v : ByteArray} (h : v ∈ oddT ∨ v ∈ oddN) : v.size ≤ 8 := by
  unfold oddT oddN at h
  simp only [List.mem_cons, List.not_mem_nil, or_false] at h
  rcases h with (rfl | rfl | rfl | rfl) | (rfl | rfl | rfl) <;> decide
theorem pow4 {q : Nat} (h : q ≤ 3) : 4 ^ (q + 1) ≤ 256 := by
  rcases (show q = 0 ∨ q = 1 ∨ q = 2 ∨ q = 3 by omega) with rfl | rfl | rfl | rfl <;> decide
theorem kids_le {q : Nat} {a : Typ} (hq : q ≤ 3) (h : Dw (q + 1) a) : a.kids.length ≤ 1000 := by
  have h1 := h.np
  have h2 := pow4 hq
  have h3 := Typ.np_eq a
  have h4 := sumK_len (l := a.kids) (Nat.le_refl _)
  omega
theorem np_more {k v : Int} {nm : ByteArray} {ls : List ByteArray} {l : List Typ} : Typ.np ⟨k, nm, ls, l ++ [⟨v, ByteArray.empty, [], []⟩]⟩ = Typ.np ⟨k, nm, ls, l⟩ + 1 := by
  rw [Typ.np_eq, Typ.np_eq]
  show 1 + sumK Typ.np (l ++ [_]) (l ++ [_]).length = 1 + sumK Typ.np l l.length + 1
  unfold sumK
  rw [List.take_length, List.take_length, List.map_append, List.sum_append]
  show 1 + ((l.map Typ.np).sum + (Typ.np ⟨v, ByteArray.empty, [], []⟩ + 0)) = _
  have : Typ.np ⟨v, ByteArray.empty, [], []⟩ = 1 := by rw [Typ.np_eq]; rfl
  omega
theorem np_b {a b : Typ} (h : b.kids = a.kids) (hn : a.np ≤ 256) : b.np ≤ 2000 := by rw [np_of h]; omega
theorem np_m {a : Typ} {v : Int} (hn : a.np ≤ 256) : Typ.np ⟨a.kind, a.name, a.labels, a.kids ++ [⟨v, ByteArray.empty, [], []⟩]⟩ ≤ 2000 := by
  have e : Typ.np ⟨a.kind, a.name, a.labels, a.kids⟩ = a.np := np_of rfl
  rw [np_more, e]
  omega
theorem oN_more {q : Nat} {a : Typ} (v : Int) (h : Typ.oN (q + 1) a) (hl : a.kids.length ≤ 1000) : Typ.oN (q + 2) ⟨a.kind, a.name, a.labels, a.kids ++ [⟨v, ByteArray.empty, [], []⟩]⟩ := by
  refine ⟨h.1, h.2.1, ?_, fun k hk => ?_⟩
  · show (a.kids ++ [_]).length ≤ _
    rw [List.length_append, List.length_singleton]; omega
  · have hk' : k < (a.kids ++ [(⟨v, ByteArray.empty, [], []⟩ : Typ)]).length := hk
    show Typ.oN (q + 1) ((a.kids ++ [_]).getD k default)
    rw [List.length_append, List.length_singleton] at hk'
    rw [List.getD_eq_getElem?_getD]
    by_cases e : k < a.kids.length
    · rw [List.getElem?_append_left e, ← List.getD_eq_getElem?_getD]
      exact Typ.oN_up _ _ (Typ.oN_kid h e)
    · obtain rfl : k = a.kids.length := by omega
      rw [List.getElem?_append_right (Nat.le_refl _), Nat.sub_self]
      exact (dw_k (d := q + 1) v (Nat.succ_pos q)).o
theorem oN_lab {q : Nat} {a : Typ} {w : ByteArray} (hw : w ∈ oddT) (h : Dw (q + 1) a) : Typ.oN (q + 1) ⟨a.kind, a.name, a.labels ++ [w], a.kids⟩ := by
  refine ⟨h.o.1, ⟨?_, fun k hk => ?_⟩, h.o.2.2⟩
  · show (a.labels ++ [_]).length ≤ _
    have := h.lb
    rw [List.length_append, List.length_singleton]; omega
  · have hk' : k < (a.labels ++ [w]).length := hk
    show ((a.labels ++ [w]).getD k default).size ≤ 1048576
    rw [List.length_append, List.length_singleton] at hk'
    rw [List.getD_eq_getElem?_getD]
    by_cases e : k < a.labels.length
    · rw [List.getElem?_append_left e, ← List.getD_eq_getElem?_getD]
      exact (Typ.oN_labels h.o).2 k e
    · obtain rfl : k = a.labels.length := by omega
      rw [List.getElem?_append_right (Nat.le_refl _), Nat.sub_self]
      exact Nat.le_trans (odd_sz (.inl hw)) (by decide)
theorem big_capC {n b : Nat} (h : n ≤ 1048576) (hb : b ≤ 1000) : (n + 1) * b ≤ 140737488355328 := Nat.le_trans (Nat.mul_le_mul (Nat.succ_le_succ h) hb) (by decide)
theorem big_capM {n : Nat} (h : n ≤ 1048576) : n + 1 ≤ 9223372036854775807 := by omega
theorem chN2 : (chN 2 : Int) = 188 := by decide
set_option maxRecDepth 8000 in
set_option maxHeartbeats 8000000 in
theorem any_of (hdr : ∀ q : Nat, q ≤ 3 → ∀ s : Src, s.rm (chN (q + 1)) → ∀ D : Int, D = q + 1 → Draw1 (q + 1) s D) (hsm : SomeC 2) (s : Src) (hs : s.rm 4000) : RetM env.P 76 [some (boxRow s.cs)] [.ptr 0 0 0] (AnyP s) := by
  have hs' := hs
  unfold Src.rm at hs'
  refine RetM.frz [0] rfl (plainH_box (by rfl)) ?_
  have hO : ∀ (v : Int) (t : Src), (0 ≤ v ∧ (v = 0 ∨ v < 4)) → (s.at' ≤ t.at' ∧ t.at' ≤ s.at' + 1 ∧ t.code.length = s.code.length) → RetM env.P 84 [some (boxRow t.cs)] [.ptr 0 0 0, .i .i64 (IntKind.i64.wrap (1 + v)), .b true, .b true] (fun r H => ∃ (q : Nat) (a : Typ) (t2 : Src), (q ≤ 3 ∧ Dw (q + 1) a) ∧ (t.at' ≤ t2.at' ∧ t2.at' ≤ t.at' + 3068 ∧ t2.code.length = t.code.length) ∧ r = ownR a ∧ H = ownH (q + 1) a t2) := fun v t hv ht => by
    have hq : v.toNat ≤ 3 := by omega
    have hN := chN_le hq
    refine RetM.mono (hdr v.toNat hq t (Src.rm_i (by omega) (by omega) (by omega)) _ (by rw [wrap_in (by omega) (by omega)]; omega)) fun r H hr => ?_
    obtain ⟨a, t2, ha, ht2, hr, hH⟩ := hr
    exact ⟨v.toNat, a, t2, ⟨hq, ha⟩, ⟨by omega, by omega, by omega⟩, hr, hH⟩
  have h2 := chN2
  refine ret_ofM (nt := 67) (rvs := [.cell 2 32]) Tryz.func76 rfl rfl rfl rfl (fun X hX => ?_)
  repeat' (first | exact aa | ((conv => whnf) <;> (first | (refine Src.rm_i ?_ ?_ ?_) | ((refine .inr (.inl (.inl ⟨[0], _, _, _, pick12 t1 (Src.rm_i (by omega) (by omega) (by omega)), (view_of rfl (.cons rfl (.self (rowPl_box rfl)) .nil)), ⟨rfl, rfl⟩, ?_⟩))); rintro _ _ ⟨v1, t2, (rfl | rfl | rfl | rfl | rfl | rfl | rfl | hv1), ht2, rfl, rfl⟩ <;> refine ⟨rfl, _, lokA, ?_⟩) | (refine dt_goH 0 [] rfl ?_) | ((refine .inr (.inl (.inl ⟨[0, 5], _, _, _, text_row t2 (Src.rm_i (by omega) (by omega) (by omega)) oddT (by decide) (by decide), (view_of rfl (.cons rfl (.self (rowPl_box rfl)) (.cons rfl (rowBack_litS oddT) .nil))), ⟨rfl, rfl⟩, ?_⟩))); rintro _ _ ⟨w, t3, hw, ht3, rfl, rfl⟩; refine ⟨rfl, _, lokA, ?_⟩) | ((refine .inr (.inl (.inl ⟨[0, 5], _, _, _, text_row t2 (Src.rm_i (by omega) (by omega) (by omega)) oddN (by decide) (by decide), (view_of rfl (.cons rfl (.self (rowPl_box rfl)) (.cons rfl (rowBack_litS oddN) .nil))), ⟨rfl, rfl⟩, ?_⟩))); rintro _ _ ⟨w, t3, hw, ht3, rfl, rfl⟩; refine ⟨rfl, _, lokA, ?_⟩) | exact lbz_capC (kids_le hq ha) (show 72 ≤ 1000 by decide) | exact lbz_capM (kids_le hq ha) | exact big_capC (Typ.oN_labels ha.o).1 (show 16 ≤ 1000 by decide) | exact big_capM (Typ.oN_labels ha.o).1 | exact srcOk_1 rfl | (refine lw_turn _ (turn_close (id := 4) (i := 0) (j := 2) (id' := 2) rfl (show 0 < 1 by decide) (show 2 < 4 by decide) rfl rfl (show 4 ≠ 2 by decide) rfl (rowO_le (Nat.le_refl _))) ?_; refine lw_turn _ (turn_close (id := 4) (i := 0) (j := 3) (id' := 3) rfl (show 0 < 1 by decide) (show 3 < 4 by decide) rfl rfl (show 4 ≠ 3 by decide) rfl (rowO_le (Nat.le_refl _))) ?_; refine lw_turn _ (turn_box (id := 4) (ds := bxN q a 0) rfl rfl rfl (.cons (.refl _) (.cons (.refl _) (.cons (.refl _) (.cons (.refl _) .nil))))) ?_; refine loopFT (fun y : Nat => [(4, .i .i64 (v0 - (y : Int)))]) (fun y => [none, none, none, none, some (.box (bxN q a y))]) (fun y => (y : Int) ≤ v0 + 1 ∧ (y : Int) ≤ 4) (fun y => 4 - y) 0 ⟨⟨by show ((0 : Nat) : Int) ≤ v0 + 1; omega, by decide⟩, ?_⟩) | exact (Int.sub_zero _).symm | exact Int.sub_zero _ | refine And.intro ?_ ?_ | (intro _h; first | contradiction | (try simp only [dd] at _h)) | (refine dt_go ?_) | exact rfl | exact True.intro | exact dkk | exact dks | (refine .inr (.inl (.inl ⟨[0], _, _, _, pick_ex _ ?_ 4 (by decide), viewA, ⟨rfl, rfl⟩, ?_⟩)); rotate_left 1; rintro _ _ ⟨v0, t0, hv0, ht0, rfl, rfl⟩; refine ⟨rfl, _, lokA, ?_⟩) | (refine .inr (.inl (.inl ⟨[0], _, _, _, hO _ _ hv0 ht0, viewA, ⟨rfl, rfl⟩, ?_⟩)); rintro _ _ ⟨q, a, t1, ⟨hq, ha⟩, ht1, rfl, rfl⟩; refine ⟨rfl, _, lokA, ?_⟩) | (refine .inr (.inl (.inl ⟨[0], _, _, _, pick_ex _ ?_ 25 (by decide), viewA, ⟨rfl, rfl⟩, ?_⟩)); rotate_left 1; rintro _ _ ⟨v3, t3, hv3, ht3, rfl, rfl⟩; refine ⟨rfl, _, lokA, ?_⟩) | (refine .inr (.inl (.inl ⟨[0], _, _, _, pick_ex _ ?_ 24 (by decide), viewA, ⟨rfl, rfl⟩, ?_⟩)); rotate_left 1; rintro _ _ ⟨v3, t3, hv3, ht3, rfl, rfl⟩; refine ⟨rfl, _, lokA, ?_⟩) | (refine .inr (.inl (.inl ⟨[0], _, _, _, pick_ex _ ?_ 3 (by decide), viewA, ⟨rfl, rfl⟩, ?_⟩)); rotate_left 1; rintro _ _ ⟨v3, t3, hv3, ht3, rfl, rfl⟩; refine ⟨rfl, _, lokA, ?_⟩) | (refine .inr (.inl (.inl ⟨[0], _, _, _, hsm _ ?_ 2 rfl, viewA, ⟨rfl, rfl⟩, ?_⟩)); rotate_left 1; rintro _ _ ⟨b, t3, hb, ht3, rfl, rfl⟩; refine ⟨rfl, _, lokA, ?_⟩) | (refine wrap_succ ?_; omega))))
  all_goals (conv => whnf)
  all_goals have hnp : a.np ≤ 256 := Nat.le_trans ha.np (pow4 hq)
  all_goals have hkl := kids_le hq ha
  all_goals first
    | exact endF (t := t3) q ⟨v3, a.name, a.labels, a.kids⟩ (view_of rfl (.cons rfl (.self (rowPl_box rfl)) .nil)) (frz_agg (.cons (.refl _) (.cons (.refl _) (.cons (shr_L (d := 0) (k := 4) rfl) (.cons (shr_L (d := 0) (k := 4) rfl) .nil))))) (by omega) (oN_kind v3 ha.o) (np_b (a := a) rfl hnp) (by omega)
    | (refine endM_turn (turn_eq (id := 6) (x := ⟨4, a.kids.length + 1, catE a.kids.length (elE (Typ.pN (q + 1)) a.kids) (litE [[.i .i64 v3, .s ByteArray.empty, .nils, .nils]]), .arr⟩) rfl rfl rfl rfl rfl (fun i j hi hj => .refl _)) ?_
       refine endF (t := t3) (q + 1) ⟨a.kind, a.name, a.labels, a.kids ++ [⟨v3, ByteArray.empty, [], []⟩]⟩ (view_of rfl (.cons rfl (.self (rowPl_box rfl)) .nil)) ?_ (by omega) (oN_more v3 ha.o hkl) (np_m hnp) (by omega)
       refine frz_agg ?_
       refine .cons (.refl _) ?_
       refine .cons (.refl _) ?_
       refine .cons (shr_L (d := 0) (k := 4) rfl) ?_
       refine .cons ?_ .nil
       exact shr_catT (k := 4) (v := v3) (g := litE [[.i .i64 v3, .s ByteArray.empty, .nils, .nils]]) rfl rfl (fun i hi => Typ.fN_up _ _ (Typ.oN_fN _ _ (Typ.oN_kid ha.o hi))) rfl rfl rfl rfl)
    | exact endF (t := t3) q ⟨a.kind, a.name, a.labels ++ [w], a.kids⟩ (view_of rfl (.cons rfl (.self (rowPl_box rfl)) .nil)) (frz_agg (.cons (.refl _) (.cons (.refl _) (.cons (shr_catS rfl rfl rfl) (.cons (shr_L (d := 0) (k := 4) rfl) .nil))))) (by omega) (oN_lab hw ha) (np_b (a := a) rfl hnp) (by omega)
    | exact endF (t := t3) q ⟨a.kind, w, a.labels, a.kids⟩ (view_of rfl (.cons rfl (.self (rowPl_box rfl)) .nil)) (frz_agg (.cons (.refl _) (.cons (.refl _) (.cons (shr_L (d := 0) (k := 4) rfl) (.cons (shr_L (d := 0) (k := 4) rfl) .nil))))) (by omega) ⟨Nat.le_trans (odd_sz (.inr hw)) (by decide), ha.o.2⟩ (np_b (a := a) rfl hnp) (by omega)
    | exact endF (t := t3) 2 ⟨22, ByteArray.empty, [], [b]⟩ (view_of rfl (.cons rfl (.self (rowPl_box rfl)) .nil)) (frz_agg (.cons (.refl _) (.cons (.refl _) (.cons Wk.nilS0 (.cons (shr_litL (d := 0) (k := 4) (cO := Typ.pN 3) (l := [b]) rfl rfl) .nil))))) (by omega) (dw_1 (k := 22) hb).o (Nat.le_trans (dw_1 (k := 22) hb).np (by decide)) (by omega)
    | exact endF (t := t3) 0 ⟨IntKind.i64.wrap (v3 + 1), ByteArray.empty, [], []⟩ (view_of rfl (.cons rfl (.self (rowPl_box rfl)) .nil)) (frz_agg (.cons (.refl _) (.cons (.refl _) (.cons Wk.nilS0 (.cons Wk.nilS0 .nil))))) (by omega) (dw_k _ (Nat.le_refl 1)).o (Nat.le_trans (dw_k (d := 1) _ (Nat.le_refl 1)).np (by decide)) (by omega)
    | exact endF (t := t2) q a (view_of rfl (.cons rfl (.self (rowPl_box rfl)) .nil)) (frz_agg (.cons (.refl _) (.cons (.refl _) (.cons (shr_L (d := 0) (k := 4) rfl) (.cons (shr_L (d := 0) (k := 4) rfl) .nil))))) (by omega) ha.o (by omega) (by omega)
    | skip
  · rename_i y hy
    have he : IntKind.i64.wrap (v0 - (y : Int) - 1) = v0 - ((y + 1 : Nat) : Int) := by rw [wrap_in (by omega) (by omega)]; omega
    rcases y with _ | n
    · conv => whnf
      repeat' (first | exact aa | ((conv => whnf) <;> (first | refine And.intro ?_ ?_ | (intro _h; first | contradiction | (try simp only [dd] at _h)) | (refine dt_go ?_) | exact rfl | exact True.intro | exact dkk | exact dks | (refine wrap_succ ?_; omega))))
      conv => whnf
      refine roundET_turn (turn_close (id := 7) (i := 0) (j := 2) (id' := 5) rfl (show 0 < 1 by decide) (show 2 < 4 by decide) rfl rfl (show 7 ≠ 5 by decide) rfl (rowO_le (Nat.le_refl _))) ?_
      refine roundET_turn (turn_close (id := 7) (i := 0) (j := 3) (id' := 6) rfl (show 0 < 1 by decide) (show 3 < 4 by decide) rfl rfl (show 7 ≠ 6 by decide) rfl (rowO_le (Nat.le_refl _))) ?_
      refine roundET_turn (turn_close (id := 4) (i := 0) (j := 3) (id' := 7) rfl (show 0 < 1 by decide) (show 3 < 4 by decide) rfl rfl (show 4 ≠ 7 by decide) rfl ⟨Nat.le_refl _, fun i j hi hj => by
        obtain rfl : i = 0 := Nat.lt_one_iff.1 hi
        rcases (show j = 0 ∨ j = 1 ∨ j = 2 ∨ j = 3 by (have hj' : j < 4 := hj); omega) with rfl | rfl | rfl | rfl
        · exact bx_idf q a 0 0
        · exact bx_idf q a 0 1
        · exact bx_idf q a 0 2
        · exact bx_idf q a 0 3⟩) ?_
      refine roundET_turn (turn_box (id := 4) (ds := bxN q a 1) rfl rfl rfl (.cons (.refl _) (.cons (.refl _) (.cons (.refl _) (.cons (.ow (fun i j hi hj => by
        obtain rfl : i = 0 := Nat.lt_one_iff.1 hi
        exact bx_idf q a 0 j) (fun i j hi hj => by
        obtain rfl : i = 0 := Nat.lt_one_iff.1 hi
        rcases (show j = 0 ∨ j = 1 ∨ j = 2 ∨ j = 3 by (have hj2 : j < 4 := hj); omega) with rfl | rfl | rfl | rfl <;> exact .refl _)) .nil))))) ?_
      refine roundET_end ?_
      refine ⟨1, [], ⟨by show ((1 : Nat) : Int) ≤ v0 + 1; omega, by decide⟩, (by decide), ?_⟩
      repeat' (first | exact aa | ((conv => whnf) <;> (first | exact he | refine And.intro ?_ ?_ | (intro _h; first | contradiction | (try simp only [dd] at _h)) | (refine dt_go ?_) | exact rfl | exact True.intro | exact dkk | exact dks | (refine wrap_succ ?_; omega))))
    · conv => whnf
      repeat' (first | exact aa | ((conv => whnf) <;> (first | refine And.intro ?_ ?_ | (intro _h; first | contradiction | (try simp only [dd] at _h)) | (refine dt_go ?_) | exact rfl | exact True.intro | exact dkk | exact dks | (refine wrap_succ ?_; omega))))
      conv => whnf
      refine roundET_turn (turn_close (id := 6) (i := 0) (j := 3) (id' := 5) rfl (show 0 < 1 by decide) (show 3 < 4 by decide) rfl rfl (show 6 ≠ 5 by decide) rfl ⟨Nat.le_refl _, fun i j hi hj => by
        obtain rfl : i = 0 := Nat.lt_one_iff.1 hi
        exact bx_idf q a n j⟩) ?_
      refine roundET_turn (turn_close (id := 4) (i := 0) (j := 3) (id' := 6) rfl (show 0 < 1 by decide) (show 3 < 4 by decide) rfl rfl (show 4 ≠ 6 by decide) rfl ⟨Nat.le_refl _, fun i j hi hj => by
        obtain rfl : i = 0 := Nat.lt_one_iff.1 hi
        rcases (show j = 0 ∨ j = 1 ∨ j = 2 ∨ j = 3 by (have hj' : j < 4 := hj); omega) with rfl | rfl | rfl | rfl
        · exact bx_idf q a (n + 1) 0
        · exact bx_idf q a (n + 1) 1
        · exact bx_idf q a (n + 1) 2
        · exact bx_idf q a (n + 1) 3⟩) ?_
      refine roundET_turn (turn_box (id := 4) (ds := bxN q a (n + 2)) rfl rfl rfl (.cons (.refl _) (.cons (.refl _) (.cons (.refl _) (.cons (.ow (fun i j hi hj => by
        obtain rfl : i = 0 := Nat.lt_one_iff.1 hi
        exact bx_idf q a (n + 1) j) (fun i j hi hj => by
        obtain rfl : i = 0 := Nat.lt_one_iff.1 hi
        rcases (show j = 0 ∨ j = 1 ∨ j = 2 ∨ j = 3 by (have hj2 : j < 4 := hj); omega) with rfl | rfl | rfl | rfl <;> exact .refl _)) .nil))))) ?_
      refine roundET_end ?_
      refine ⟨n + 2, [], ⟨by show ((n + 2 : Nat) : Int) ≤ v0 + 1; omega, by show ((n + 2 : Nat) : Int) ≤ 4; omega⟩, (by show 4 - (n + 2) < 4 - (n + 1); omega), ?_⟩
      repeat' (first | exact aa | ((conv => whnf) <;> (first | exact he | refine And.intro ?_ ?_ | (intro _h; first | contradiction | (try simp only [dd] at _h)) | (refine dt_go ?_) | exact rfl | exact True.intro | exact dkk | exact dks | (refine wrap_succ ?_; omega))))
  · rename_i y hy
    rcases y with _ | m
    · exfalso
      have : ¬ (0 : Int) ≤ v0 - ((0 : Nat) : Int) := ‹_›
      omega
    · conv => whnf
      repeat' (first | exact aa | ((conv => whnf) <;> (first | refine And.intro ?_ ?_ | (intro _h; first | contradiction | (try simp only [dd] at _h)) | (refine dt_go ?_) | exact rfl | exact True.intro | exact dkk | exact dks | (refine wrap_succ ?_; omega))))
      conv => whnf
      exact endF (t := t0) (q + (m + 1)) (opN (m + 1) a) (view_of rfl (.cons rfl (.self (rowPl_box rfl)) .nil)) (frz_agg (.cons (.refl _) (.cons (.refl _) (.cons Wk.nilS0 (.cons ((bx_shr q a _ (m + 1) 4 (by omega)).getD 3) .nil))))) (by omega) (opN_oN ha.o (m + 1)) (by rw [opN_np]; omega) (by omega)
end Go.Proofs.YtnppkgmodflkdaaGreat
