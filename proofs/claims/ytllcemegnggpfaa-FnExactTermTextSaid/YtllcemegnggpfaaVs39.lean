/- Texts for VTermOkP. -/
import Derived.Test.YtllcemegnggpfaaVs38
namespace Go.Proofs.Ytllcemegnggpfaa
open Go Go.RowKit
set_option linter.unusedVariables false
set_option linter.unusedSimpArgs false
set_option maxRecDepth 8000
section
attribute [local irreducible] IntKind.wrap
section
variable {E : Env} {P : Program} {nt : Nat} {f : Fr}
theorem endM_nil {X : Ctx} {H : Hp} {cs : List AV} {sz : Nat} {g : Nat → Nat → AV} {post : AV → Hp → Prop} (j : Nat) (hj : cs[j]? = some .nils) (k : EndM X (H ++ [some ⟨sz, 0, g, .arr⟩]) (.agg (cs.set j (.row H.length 0))) post) : EndM X H (.agg cs) post := ⟨fun w blk FP u hR hc he => by
  have hext := HExt.push H blk (some ⟨sz, 0, g, .arr⟩) ⟨0, 0⟩
  have hnew : ∀ id, id < H.length → (fun id => if id = H.length then ([] : List Nat) else FP id) id = FP id := fun id h => if_neg (by omega)
  have hnewb : ∀ id, id < H.length → (fun id => if id = H.length then (⟨0, 0⟩ : BC) else blk id) id = blk id := fun id h => if_neg (by omega)
  have hend : (fun id => if id = H.length then ([] : List Nat) else FP id) H.length = [] := if_pos rfl
  have hendb : (fun id => if id = H.length then (⟨0, 0⟩ : BC) else blk id) H.length = ⟨0, 0⟩ := if_pos rfl
  generalize hFP : (fun id => if id = H.length then ([] : List Nat) else FP id) = FP' at hnew hend
  generalize hBL : (fun id => if id = H.length then (⟨0, 0⟩ : BC) else blk id) = blk' at hnewb hendb hext
  have hS : X.S FP' (H ++ [some ⟨sz, 0, g, .arr⟩]) w.heap.size = X.S FP H w.heap.size := by
    funext b
    apply propext
    constructor
    · rintro ⟨h1, h2, h3⟩
      refine ⟨h1, h2, fun id r hr => ?_⟩
      have hlt := (List.getElem?_eq_some_iff.1 hr).1
      have := h3 id r (by rw [List.getElem?_append_left hlt]; exact hr)
      rwa [hnew id hlt] at this
    · rintro ⟨h1, h2, h3⟩
      refine ⟨h1, h2, fun id r hr => ?_⟩
      rcases old_or_new hr with ⟨hlt, ho⟩ | ⟨rfl, _⟩
      · rw [hnew id hlt]
        exact h3 id r ho
      · rw [hend]
        exact List.not_mem_nil
  obtain ⟨r', H2, b2, F2, q1, q2, q3, q4, q5⟩ := k.h w blk' FP' u (by
    rw [hS]
    refine ⟨fun id r hr => ?_, fun i j r r' hi hj hij b hb => ?_, fun b hb => ⟨(hR.free b hb).1, fun id r hr => ?_⟩⟩
    · rcases old_or_new hr with ⟨hlt, ho⟩ | ⟨rfl, rfl⟩
      · rw [hnew id hlt, hnewb id hlt]
        exact ⟨(hR.rows id r ho).1.mono (fun b hb => ⟨hb, rfl⟩) hext (fun _ _ => rfl), (hR.rows id r ho).2⟩
      · rw [hend, hendb]
        exact ⟨.inl ⟨rfl, rfl, .inl ⟨rfl, rfl⟩⟩, fun b hb => absurd hb List.not_mem_nil⟩
    · rcases old_or_new hi with ⟨hlt, ho⟩ | ⟨rfl, rfl⟩
      · rcases old_or_new hj with ⟨hlt', ho'⟩ | ⟨rfl, rfl⟩
        · rw [hnew i hlt] at hb
          rw [hnew j hlt']
          exact hR.apart i j r r' ho ho' hij b hb
        · rw [hend]
          exact List.not_mem_nil
      · rw [hend] at hb
        exact absurd hb List.not_mem_nil
    · rcases old_or_new hr with ⟨hlt, ho⟩ | ⟨rfl, rfl⟩
      · rw [hnew id hlt]
        exact (hR.free b hb).2 id r ho
      · rw [hend]
        exact List.not_mem_nil) (by
    rw [hS]
    obtain ⟨us, rfl, hl, hu⟩ := inv_agg hc
    refine .agg _ _ (by rw [List.length_set]; exact hl) fun i c v hi hv => ?_
    by_cases e : j = i
    · subst e
      have hlt := (List.getElem?_eq_some_iff.1 hj).1
      rw [List.getElem?_set_self hlt] at hi
      cases hi
      have e2 := inv_nils (hu j _ _ hj hv)
      subst e2
      exact .row0 ⟨sz, 0, g, .arr⟩ (by rw [List.getElem?_append_right (Nat.le_refl _), Nat.sub_self]; rfl) rfl (by rw [hendb]) none
    · rw [List.getElem?_set_ne e] at hi
      exact (hu i c v hi hv).mono (fun b hb => ⟨hb, rfl⟩) hext) (he.trans hext)
  refine ⟨r', H2, b2, F2, q1, q2, q3, q4, fun b hb => ?_⟩
  obtain ⟨id, r, hr, hm⟩ := q5 b hb
  rcases old_or_new hr with ⟨hlt, ho⟩ | ⟨rfl, _⟩
  · rw [hnew id hlt] at hm
    exact ⟨id, r, ho, hm⟩
  · rw [hend] at hm
    exact absurd hm List.not_mem_nil⟩
end
set_option maxHeartbeats 4000000 in
theorem termI_0 (L : List Tok) (b : Bool) (a : Nat) (ha : a < L.length) : RetM env.P 23 [some (boxRow (pB L a b))] [.ptr 0 0 0, .i .i64 5] (fun r H => ∃ x a', a' < L.length ∧ r = resT x ∧ H = some (boxRow (pB L a' true)) :: rowsT 0 x) := by
  refine ret_ofM (nt := 78) (rvs := [.cell 4 25]) Try.func23 rfl rfl rfl rfl (fun X hX => ?_)
  repeat' (first | omega | (with_reducible show (_ : Int) < _; dsimp only; omega) | (with_reducible show (_ : Nat) ≤ _; dsimp only; omega) | ((with_reducible show SrcOk _ _ _) <;> (first | exact srcOk_1 rfl | exact srcOk_L (fun _ => ⟨rfl, rfl⟩) | exact srcOk_E (fun _ => ⟨rfl, rfl⟩))) | ((conv => whnf) <;> (first | refine And.intro ?_ ?_ | (intro _h; first | contradiction | (try simp only [dd] at _h)) | (refine dt_go ?_) | exact rfl | exact True.intro | exact dkk | exact dks | (refine wrap_succ ?_; omega))))
  all_goals (conv => whnf)
  all_goals refine endM_turn (turn_box (id := 0) (ds := pB L a true) rfl rfl rfl (.cons (.refl _) (.cons (.refl _) (.cons (.refl _) .nil)))) ?_
  all_goals exact endM_nil (sz := 1) (g := elE strC []) 2 rfl (endM_nil (sz := 4) (g := elE (Term.pO 0) []) 3 rfl (endM_pick [0, 5, 6] (some (boxRow (pB L a true)) :: rowsT 0 ⟨30, ⟨#[]⟩, [], []⟩) (resT ⟨30, ⟨#[]⟩, [], []⟩) viewT rfl rfl (by rw [hX]; exact keepK (n := 1) rfl rfl) ⟨⟨30, ⟨#[]⟩, [], []⟩, a, ha, rfl, rfl⟩))
set_option maxHeartbeats 4000000 in
theorem termI_b (L : List Tok) (hL : LexOk L) (d : Nat) (a : Nat) (D : Int) (ha : a < L.length) (hD : D ≤ 4) : RetM env.P 23 [some (boxRow (pB L a true))] [.ptr 0 0 0, .i .i64 D] (fun r H => ∃ x a', a' < L.length ∧ r = resT x ∧ H = some (boxRow (pB L a' true)) :: rowsT d x) := by
  refine ret_ofM (nt := 78) (rvs := [.cell 4 25]) Try.func23 rfl rfl rfl rfl (fun X hX => ?_)
  repeat' (first | omega | (with_reducible show (_ : Int) < _; dsimp only; omega) | (with_reducible show (_ : Nat) ≤ _; dsimp only; omega) | ((with_reducible show SrcOk _ _ _) <;> (first | exact srcOk_1 rfl | exact srcOk_L (fun _ => ⟨rfl, rfl⟩) | exact srcOk_E (fun _ => ⟨rfl, rfl⟩))) | ((conv => whnf) <;> (first | refine And.intro ?_ ?_ | (intro _h; first | contradiction | (try simp only [dd] at _h)) | (refine dt_go ?_) | exact rfl | exact True.intro | exact dkk | exact dks | (refine .inr (.inl (.inl ⟨[0], _, _, _, nameI_b L hL a ha, viewA, ⟨rfl, rfl⟩, ?_⟩)); (rintro _ _ ⟨rfl, rfl⟩) <;> (refine ⟨rfl, _, lokA, ?_⟩)) | ((first | refine .inl ⟨_, ReservedI_f _ kd_no, ?_⟩ | refine ⟨_, ReservedI_f _ kd_no, ?_⟩); (try rintro _ rfl)) | (refine wrap_succ ?_; omega))))
  all_goals first | (exfalso; omega) | (conv => whnf)
  all_goals exact endM_nil (sz := 1) (g := elE strC []) 2 rfl (endM_nil (sz := 4) (g := elE (Term.pO d) []) 3 rfl (endM_pick [0, 5, 6] (some (boxRow (pB L a true)) :: rowsT d ⟨30, ⟨#[]⟩, [], []⟩) (resT ⟨30, ⟨#[]⟩, [], []⟩) viewT rfl rfl (by rw [hX]; exact keepK (n := 1) rfl rfl) ⟨⟨30, ⟨#[]⟩, [], []⟩, a, ha, rfl, rfl⟩))
end
section
attribute [local irreducible] IntKind.wrap
theorem dg60 : ¬ isDg (byI ⟨#[60]⟩ 0) := by unfold isDg byI; decide
theorem dg62 : ¬ isDg (byI ⟨#[62]⟩ 0) := by unfold isDg byI; decide
theorem dg95 : ¬ isDg (byI ⟨#[95]⟩ 0) := by unfold isDg byI; decide
structure RsI (L : List Tok) (P : Nat → Option (Term × Nat)) (a : Nat) (y : List Term × Nat × Bool) : Prop where
  at_ : y.2.1 < L.length
  len : y.1.length ≤ 2
  f : y.2.2 = false → pRes L P a = some (y.1 ++ List.replicate (2 - y.1.length) unitM, y.2.1)
  t : y.2.2 = true → pRes L P a = none
theorem RsI.unit {L : List Tok} {P : Nat → Option (Term × Nat)} {a : Nat} {ts : List Term} {i : Nat} {b : Bool} (h : RsI L P a (ts, i, b)) (hl : ts.length < 2) : RsI L P a (ts ++ [unitM], i, b) := ⟨h.at_, by simp only [List.length_append, List.length_singleton]; omega, fun q => by
  rw [h.f q]
  have e : 2 - ts.length = (2 - (ts ++ [unitM]).length) + 1 := by simp only [List.length_append, List.length_singleton]; omega
  dsimp only
  rw [e, List.replicate_succ, List.append_assoc, List.singleton_append], h.t⟩
theorem RsI.fine {L : List Tok} {P : Nat → Option (Term × Nat)} {a : Nat} {ts : List Term} {i : Nat} (h : RsI L P a (ts, i, false)) (hl : ¬ ts.length < 2) : pRes L P a = some (ts, i) := by
  have := h.f rfl
  dsimp only at this
  rwa [show 2 - ts.length = 0 by omega, List.replicate_zero, List.append_nil] at this
set_option maxHeartbeats 8000000 in
theorem rr8g (L : List Tok) (d : Nat) (k lv : Int) (nm : ByteArray) (ls : List ByteArray) (ts : List Term) (i : Nat) (b : Bool) {X : Ctx} (hl2 : ts.length ≤ 17) : DT env 46 X 8 (regP Try.f51 8) [(0, .ptr 0 0 0), (1, .ptr 1 0 0), (2, .fn 47 [.ptr 1 0 0, .ptr 2 0 0, .ptr 3 0 0])] (tR L d k lv nm ls ts i b ++ [none, none, none, none]) (thn (Cut 46 X (fun y : Unit => True) (fun y => [(0, .ptr 0 0 0), (1, .ptr 1 0 0), (2, .fn 47 [.ptr 1 0 0, .ptr 2 0 0, .ptr 3 0 0])]) (fun y => tR L d k lv nm ls (ts ++ [unitM]) i b ++ [none, none, none, none, none, none, none])) fun _ _ _ => False) := by
  cases b
  · exact rr84_f L d k lv nm ls ts i hl2
  · exact rr84_t L d k lv nm ls ts i hl2
set_option maxHeartbeats 8000000 in
theorem resultI_f (L : List Tok) (hL : LexOk L) (d : Nat) (hd : d ≤ 4) (hT : SpI L d) (a : Nat) (ha : a < L.length) (lv : Int) (hlv : lv + 1 = 5 - d) (k : Int) (nm : ByteArray) : RetM env.P 51 (tR L d k lv nm [] [] a false) [.ptr 0 0 0, .ptr 1 0 0, .fn 47 [.ptr 1 0 0, .ptr 2 0 0, .ptr 3 0 0]] (fun r H => r = .tup [] ∧ ((∃ ts a', pRes L (pTerm L d) a = some (ts, a') ∧ a' < L.length ∧ ts.length ≤ 2 ∧ H = tR L d k lv nm [] ts a' false) ∨ (pRes L (pTerm L d) a = none ∧ ∃ ts a', a' < L.length ∧ ts.length ≤ 2 ∧ H = tR L d k lv nm [] ts a' true))) := by
  refine ret_ofPM (nt := 46) (rvs := []) Try.func51 rfl rfl rfl rfl (fun X hX => ?_)
  refine pw_cut 1 (RsI L (pTerm L d) a) (fun _ => [(0, .ptr 0 0 0), (1, .ptr 1 0 0), (2, .fn 47 [.ptr 1 0 0, .ptr 2 0 0, .ptr 3 0 0])]) (fun y => tR L d k lv nm [] y.1 y.2.1 y.2.2 ++ [none, none, none]) ?_ (fun y hy => ?_)
  · repeat' (first | omega | (with_reducible show (_ : Int) < _; dsimp only; omega) | (with_reducible show (_ : Nat) ≤ _; dsimp only; omega) | ((with_reducible show SrcOk _ _ _) <;> (first | exact srcOk_1 rfl | exact srcOk_L (fun _ => ⟨rfl, rfl⟩) | exact srcOk_E (fun _ => ⟨rfl, rfl⟩))) | ((conv => whnf) <;> (first | ((with_reducible show DT _ _ _ 2 _ _ _ _); refine dt_cutR (by (repeat' (first | exact trivial | refine And.intro rfl ?_)); done) (rr2_f L d k lv nm [] [] _ (by simp)) (fun _ _ => ?_)) | (have _g := x; refine .inr (.inl (.inl ⟨[0, 1, 2, 3], _, _, _, kidI_f L hL d hd hT _ ?_ lv hlv k nm [] [x] (by simp), viewK, ⟨rfl, rfl⟩, ?_⟩)); rotate_left 1; (rintro _ _ ⟨rfl, (⟨y, a2, hp2, ha2, rfl⟩ | ⟨hp2, y, a2, ha2, rfl⟩)⟩); refine ⟨rfl, tR L d k lv nm [] ([x] ++ [y]) a2 false, lokK, ?_⟩; rotate_left 1; refine ⟨rfl, tR L d k lv nm [] ([x] ++ [y]) a2 true, lokK, ?_⟩) | (have _g : isT L ⟨#[95]⟩ (a + 1) := _ht1; refine .inr (.inl (.inl ⟨[0, 1, 2, 3], _, _, _, kidI_f L hL d hd hT _ ?_ lv hlv k nm [] [unitM] (by simp), viewK, ⟨rfl, rfl⟩, ?_⟩)); rotate_left 1; (rintro _ _ ⟨rfl, (⟨y, a2, hp2, ha2, rfl⟩ | ⟨hp2, y, a2, ha2, rfl⟩)⟩); refine ⟨rfl, tR L d k lv nm [] ([unitM] ++ [y]) a2 false, lokK, ?_⟩; rotate_left 1; refine ⟨rfl, tR L d k lv nm [] ([unitM] ++ [y]) a2 true, lokK, ?_⟩) | (have _g : ¬ isT L ⟨#[95]⟩ (a + 1) := _ht1; refine .inr (.inl (.inl ⟨[0, 1, 2, 3], _, _, _, kidI_f L hL d hd hT _ ?_ lv hlv k nm [] [] (by simp), viewK, ⟨rfl, rfl⟩, ?_⟩)); rotate_left 1; (rintro _ _ ⟨rfl, (⟨x, a1, hp, ha1, rfl⟩ | ⟨hp, x, a1, ha1, rfl⟩)⟩); refine ⟨rfl, tR L d k lv nm [] ([] ++ [x]) a1 false, lokK, ?_⟩; rotate_left 1; refine ⟨rfl, tR L d k lv nm [] ([] ++ [x]) a1 true, lokK, ?_⟩) | refine And.intro ?_ ?_ | (intro _h; first | contradiction | (try simp only [dd] at _h)) | (refine dt_go ?_) | exact rfl | exact True.intro | exact dkk | exact dks | (refine .inr (.inl (.inl ⟨[0], _, _, _, needI_o L hL _ _ dg62 ?_, viewA, ⟨rfl, rfl⟩, ?_⟩)); rotate_left 1; (rintro _ _ (⟨_hm, _, rfl, rfl⟩ | ⟨_hm, rfl, rfl⟩)) <;> (refine ⟨rfl, _, lokA, ?_⟩)) | (refine .inr (.inl (.inl ⟨[0], _, _, _, needI_b L hL _ ?_ _, viewA, ⟨rfl, rfl⟩, ?_⟩)); rotate_left 1; (rintro _ _ ⟨rfl, rfl⟩) <;> (refine ⟨rfl, _, lokA, ?_⟩)) | (refine .inr (.inl (.inl ⟨[0], _, _, _, takeI_o L hL _ _ dg60 ?_, viewA, ⟨rfl, rfl⟩, ?_⟩)); rotate_left 1; (rintro _ _ (⟨_ht0, _, rfl, rfl⟩ | ⟨_ht0, rfl, rfl⟩)) <;> (refine ⟨rfl, _, lokA, ?_⟩)) | (refine .inr (.inl (.inl ⟨[0], _, _, _, takeI_o L hL _ _ dg95 ?_, viewA, ⟨rfl, rfl⟩, ?_⟩)); rotate_left 1; (rintro _ _ (⟨_ht1, _, rfl, rfl⟩ | ⟨_ht1, rfl, rfl⟩)) <;> (refine ⟨rfl, _, lokA, ?_⟩)) | (refine .inr (.inl (.inl ⟨[0], _, _, _, takeI_o L hL _ _ dg44 ?_, viewA, ⟨rfl, rfl⟩, ?_⟩)); rotate_left 1; (rintro _ _ (⟨_ht2, _, rfl, rfl⟩ | ⟨_ht2, rfl, rfl⟩)) <;> (refine ⟨rfl, _, lokA, ?_⟩)) | (refine .inr (.inl (.inl ⟨[0], _, _, _, takeI_b L hL _ ?_ _, viewA, ⟨rfl, rfl⟩, ?_⟩)); rotate_left 1; (rintro _ _ ⟨rfl, rfl⟩) <;> (refine ⟨rfl, _, lokA, ?_⟩)) | (refine wrap_succ ?_; omega))))
    all_goals (first | (conv => whnf) | skip)
    all_goals first
      | (have _g : ¬ isT L ⟨#[60]⟩ a := _ht0; refine cut_go ([], _, false) ?_ (by (repeat' (first | exact trivial | refine And.intro rfl ?_)); done) (by (repeat' (first | exact trivial | refine And.intro (.inl rfl) ?_ | refine And.intro (.inr rfl) ?_ | refine And.intro rfl ?_)); done))
      | (have _g := y; have _g2 := x; refine cut_go ([x, y], _, false) ?_ (by (repeat' (first | exact trivial | refine And.intro rfl ?_)); done) (by (repeat' (first | exact trivial | refine And.intro (.inl rfl) ?_ | refine And.intro (.inr rfl) ?_ | refine And.intro rfl ?_)); done))
      | (have _g := y; have _g2 := x; refine cut_go ([x, y], _, true) ?_ (by (repeat' (first | exact trivial | refine And.intro rfl ?_)); done) (by (repeat' (first | exact trivial | refine And.intro (.inl rfl) ?_ | refine And.intro (.inr rfl) ?_ | refine And.intro rfl ?_)); done))
      | (have _g := y; refine cut_go ([unitM, y], _, false) ?_ (by (repeat' (first | exact trivial | refine And.intro rfl ?_)); done) (by (repeat' (first | exact trivial | refine And.intro (.inl rfl) ?_ | refine And.intro (.inr rfl) ?_ | refine And.intro rfl ?_)); done))
      | (have _g := y; refine cut_go ([unitM, y], _, true) ?_ (by (repeat' (first | exact trivial | refine And.intro rfl ?_)); done) (by (repeat' (first | exact trivial | refine And.intro (.inl rfl) ?_ | refine And.intro (.inr rfl) ?_ | refine And.intro rfl ?_)); done))
      | (have _g := x; refine cut_go ([x], _, false) ?_ (by (repeat' (first | exact trivial | refine And.intro rfl ?_)); done) (by (repeat' (first | exact trivial | refine And.intro (.inl rfl) ?_ | refine And.intro (.inr rfl) ?_ | refine And.intro rfl ?_)); done))
      | (have _g := x; refine cut_go ([x], _, true) ?_ (by (repeat' (first | exact trivial | refine And.intro rfl ?_)); done) (by (repeat' (first | exact trivial | refine And.intro (.inl rfl) ?_ | refine And.intro (.inr rfl) ?_ | refine And.intro rfl ?_)); done))
      | (refine cut_go ([unitM], _, false) ?_ (by (repeat' (first | exact trivial | refine And.intro rfl ?_)); done) (by (repeat' (first | exact trivial | refine And.intro (.inl rfl) ?_ | refine And.intro (.inr rfl) ?_ | refine And.intro rfl ?_)); done))
      | (refine cut_go ([unitM], _, true) ?_ (by (repeat' (first | exact trivial | refine And.intro rfl ?_)); done) (by (repeat' (first | exact trivial | refine And.intro (.inl rfl) ?_ | refine And.intro (.inr rfl) ?_ | refine And.intro rfl ?_)); done))
    all_goals
      refine ⟨(by assumption), (by simp), (fun q => ?_), (fun q => ?_)⟩
    all_goals first
      | (exact absurd (show true = false from q) (by decide))
      | (exact absurd (show false = true from q) (by decide))
      | (simp [pRes, pRes0, pRes1, *]; done)
      | trace_state
  refine wpc_ok _ _ _ _ ?_
  (try dsimp only)
  conv => whnf
  obtain ⟨ts, a', b⟩ := y
  repeat' (first | omega | (with_reducible show (_ : Int) < _; dsimp only; omega) | (with_reducible show (_ : Nat) ≤ _; dsimp only; omega) | ((with_reducible show SrcOk _ _ _) <;> (first | exact srcOk_1 rfl | exact srcOk_L (fun _ => ⟨rfl, rfl⟩) | exact srcOk_E (fun _ => ⟨rfl, rfl⟩))) | ((conv => whnf) <;> (first | ((with_reducible show LW _ _ _ _ _ _ _); refine loopFT (fun _ : List Term => []) (fun y => tRI L d k lv nm [] y a' b) (fun y => RsI L (pTerm L d) a (y, a', b)) (fun y => 2 - y.length) ts ⟨hy, ?_⟩) | ((with_reducible show ∀ _, RsI _ _ _ _ → _); intro y hy; have hy1 := hy.len; have hy2 := hy.at_) | ((with_reducible show DT _ _ _ 8 _ _ _ _); refine dt_turn (turn_close (id := 1) (i := 0) (j := 3) (id' := 7) (n := y.length) rfl (show 0 < 1 by decide) (show 3 < 4 by decide) rfl rfl (show 1 ≠ 7 by decide) rfl (rowO_le (Nat.le_refl _))) (dt_turn (turn_box (id := 1) (ds := tO d k nm [] y) rfl rfl rfl (.cons (.refl _) (.cons (.refl _) (.cons (.refl _) (.cons (.refl _) .nil))))) (dt_cutR (by (repeat' (first | exact trivial | refine And.intro rfl ?_)); done) (rr8g L d k lv nm [] y _ _ (by omega)) (fun _ _ => ?_)))) | refine And.intro ?_ ?_ | (intro _h; first | contradiction | (try simp only [dd] at _h)) | (refine dt_go ?_) | exact rfl | exact True.intro | exact dkk | exact dks | (refine wrap_succ ?_; omega))))
  all_goals (first | (conv => whnf) | skip)
  all_goals first
    | (refine roundET_end ⟨y ++ [unitM], [], hy.unit (by omega), (by simp only [List.length_append, List.length_singleton]; omega), ?_⟩
       repeat' (first | omega | (with_reducible show (_ : Int) < _; dsimp only; omega) | (with_reducible show (_ : Nat) ≤ _; dsimp only; omega) | ((with_reducible show SrcOk _ _ _) <;> (first | exact srcOk_1 rfl | exact srcOk_L (fun _ => ⟨rfl, rfl⟩) | exact srcOk_E (fun _ => ⟨rfl, rfl⟩))) | ((conv => whnf) <;> (first | exact fx_T (show 2 < 3 by decide) | exact low_cells rfl | exact keeps0_nil _ _ | refine And.intro ?_ ?_ | (intro _h; first | contradiction | (try simp only [dd] at _h)) | (refine dt_go ?_) | exact rfl | exact True.intro | exact dkk | exact dks | (refine wrap_succ ?_; omega)))))
    | (refine endM_turn (turn_close (id := 1) (i := 0) (j := 3) (id' := 7) (n := y.length) rfl (show 0 < 1 by decide) (show 3 < 4 by decide) rfl rfl (show 1 ≠ 7 by decide) rfl (rowO_le (Nat.le_refl _))) ?_
       refine endM_turn (turn_box (id := 1) (ds := tO d k nm [] y) rfl rfl rfl (.cons (.refl _) (.cons (.refl _) (.cons (.refl _) (.cons (.refl _) .nil))))) ?_
       cases b
       · exact endM_pick [0, 1, 2, 3] (tR L d k lv nm [] y a' false) (.tup []) viewK rfl rfl (by rw [hX]; exact keepK (n := 4) rfl rfl) ⟨rfl, .inl ⟨y, a', hy.fine (by omega), hy2, hy1, rfl⟩⟩
       · exact endM_pick [0, 1, 2, 3] (tR L d k lv nm [] y a' true) (.tup []) viewK rfl rfl (by rw [hX]; exact keepK (n := 4) rfl rfl) ⟨rfl, .inr ⟨hy.t rfl, y, a', hy2, hy1, rfl⟩⟩)
    | trace_state
end
section
attribute [local irreducible] IntKind.wrap
noncomputable def tR5 (L : List Tok) (d : Nat) (k lv : Int) (nm : ByteArray) (ls : List ByteArray) (ts : List Term) (a : Nat) (b : Bool) : Hp := [some (boxRow (pB L a b)), some (boxRow (tO d k nm ls ts)), some (boxRow [.ptr 0 0 0]), some (boxRow [.i .i64 lv]), some (boxRow [.fn 47 [.ptr 1 0 0, .ptr 2 0 0, .ptr 3 0 0]])]
noncomputable def tR5I (L : List Tok) (d : Nat) (k lv : Int) (nm : ByteArray) (ls : List ByteArray) (ts : List Term) (a : Nat) (b : Bool) : List (Option RowI) := [some (.box (pB L a b)), some (.box (tO d k nm ls ts)), some (.box [.ptr 0 0 0]), some (.box [.i .i64 lv]), some (.box [.fn 47 [.ptr 1 0 0, .ptr 2 0 0, .ptr 3 0 0]])]
structure LbStep (L : List Tok) (P : Nat → Option (Term × Nat)) (k : Int) (ls : List ByteArray) (ts : List Term) (a : Nat) (ls' : List ByteArray) (ts' : List Term) (a' : Nat) : Prop where
  h : ∃ w i1 T, pName L a = some (w, i1) ∧ pLab L P k i1 = some (T, a') ∧ T.length ≤ 1 ∧ ls' = ls ++ [w] ∧ ts' = ts ++ T
structure LbFell (L : List Tok) (P : Nat → Option (Term × Nat)) (k : Int) (ls : List ByteArray) (ts : List Term) (a : Nat) (ls' : List ByteArray) (ts' : List Term) : Prop where
  h : pName L a = none ∨ ∃ w i1, pName L a = some (w, i1) ∧ pLab L P k i1 = none
  l : ls'.length = ls.length + 1
  t : ts'.length ≤ ts.length + 1
set_option maxHeartbeats 8000000 in
theorem term2_f (L : List Tok) (hL : LexOk L) (d : Nat) (hd : d ≤ 4) (hT : SpI L d) (a : Nat) (ha : a < L.length) (lv : Int) (hlv : lv + 1 = 5 - d) (k : Int) (nm : ByteArray) (ls : List ByteArray) (ts : List Term) (hl1 : ls.length ≤ 16) (hl2 : ts.length ≤ 16) : RetM env.P 52 (tR5 L d k lv nm ls ts a false) [.ptr 2 0 0, .ptr 1 0 0, .ptr 4 0 0] (fun r H => r = .tup [] ∧ ((∃ ls' ts' a', LbStep L (pTerm L d) k ls ts a ls' ts' a' ∧ a' < L.length ∧ H = tR5 L d k lv nm ls' ts' a' false) ∨ (∃ ls' ts' a', LbFell L (pTerm L d) k ls ts a ls' ts' ∧ a' < L.length ∧ H = tR5 L d k lv nm ls' ts' a' true))) := by
  refine ret_ofM (nt := 6) (rvs := []) Try.func52 rfl rfl rfl rfl (fun X hX => ?_)
  repeat' (first | omega | (with_reducible show (_ : Int) < _; dsimp only; omega) | (with_reducible show (_ : Nat) ≤ _; dsimp only; omega) | ((with_reducible show SrcOk _ _ _) <;> (first | exact srcOk_1 rfl | exact srcOk_L (fun _ => ⟨rfl, rfl⟩) | exact srcOk_E (fun _ => ⟨rfl, rfl⟩))) | ((conv => whnf) <;> (first | (refine .inr (.inl (.inl ⟨[0, 1, 2, 3], _, _, _, labelI_f L hL d hd hT a ha lv hlv k nm ls ts hl1 hl2, viewK, ⟨rfl, rfl⟩, ?_⟩)); (rintro _ _ ⟨rfl, (⟨w, i1, T, a', h1, h2, h3, h4, rfl⟩ | ⟨h1, w, T, a', h3, h4, rfl⟩)⟩); refine ⟨rfl, tR L d k lv nm (ls ++ [w]) (ts ++ T) a' false, lokK, ?_⟩; rotate_left 1; refine ⟨rfl, tR L d k lv nm (ls ++ [w]) (ts ++ T) a' true, lokK, ?_⟩) | refine And.intro ?_ ?_ | (intro _h; first | contradiction | (try simp only [dd] at _h)) | (refine dt_go ?_) | exact rfl | exact True.intro | exact dkk | exact dks | (refine wrap_succ ?_; omega))))
  all_goals (first | (conv => whnf) | skip)
  all_goals first
    | exact endM_self ⟨rfl, .inl ⟨ls ++ [w], ts ++ T, a', ⟨w, i1, T, h1, h2, h4, rfl, rfl⟩, h3, rfl⟩⟩
    | exact endM_self ⟨rfl, .inr ⟨ls ++ [w], ts ++ T, a', ⟨h1, by simp, by simp only [List.length_append]; omega⟩, h3, rfl⟩⟩
structure KlI (L : List Tok) (P : Nat → Option (Term × Nat)) (k : Int) (o : Option ((List ByteArray × List Term) × Nat)) (y : (List ByteArray × List Term) × Nat) : Prop where
  len : y.1.1.length ≤ 15
  ts : y.1.2.length ≤ y.1.1.length
  at_ : y.2 < L.length
  go : pComL L P k (15 - y.1.1.length) y.1.1 y.1.2 y.2 = o
theorem pComL_none {L : List Tok} {P : Nat → Option (Term × Nat)} {k : Int} {m i : Nat} {ls ls' : List ByteArray} {ts ts' : List Term} (h : LbFell L P k ls ts i ls' ts') : pComL L P k m ls ts i = none := by
  rcases h.h with h | ⟨w, i1, h, h2⟩
  · cases m <;> simp [pComL, h]
  · cases m <;> simp [pComL, h, h2]
theorem pComL_end {L : List Tok} {P : Nat → Option (Term × Nat)} {k : Int} {m i i2 : Nat} {ls ls' : List ByteArray} {ts ts' : List Term} (h : LbStep L P k ls ts i ls' ts' i2) (hc : m = 0 ∨ ¬ isT L ⟨#[44]⟩ i2) : pComL L P k m ls ts i = some ((ls', ts'), i2) := by
  obtain ⟨w, i1, T, h1, h2, _, rfl, rfl⟩ := h.h
  cases m with
  | zero => simp [pComL, h1, h2]
  | succ m => rcases hc with hc | hc
              · cases hc
              · simp [pComL, h1, h2, hc]
theorem pComL_go {L : List Tok} {P : Nat → Option (Term × Nat)} {k : Int} {m i i2 : Nat} {ls ls' : List ByteArray} {ts ts' : List Term} (h : LbStep L P k ls ts i ls' ts' i2) (hc : isT L ⟨#[44]⟩ i2) : pComL L P k (m + 1) ls ts i = pComL L P k m ls' ts' (i2 + 1) := by
  obtain ⟨w, i1, T, h1, h2, _, rfl, rfl⟩ := h.h
  simp [pComL, h1, h2, hc]
theorem LbStep.len {L : List Tok} {P : Nat → Option (Term × Nat)} {k : Int} {i i2 : Nat} {ls ls' : List ByteArray} {ts ts' : List Term} (h : LbStep L P k ls ts i ls' ts' i2) : ls'.length = ls.length + 1 ∧ ts'.length ≤ ts.length + 1 := by
  obtain ⟨w, i1, T, h1, h2, h3, rfl, rfl⟩ := h.h
  constructor
  · simp
  · rw [List.length_append]; omega
set_option maxHeartbeats 8000000 in
theorem commasL_f (L : List Tok) (hL : LexOk L) (d : Nat) (hd : d ≤ 4) (hT : SpI L d) (a : Nat) (ha : a < L.length) (lv : Int) (hlv : lv + 1 = 5 - d) (k : Int) (nm : ByteArray) : RetM env.P 49 (tR5 L d k lv nm [] [] a false) [.ptr 0 0 0, .i .i64 16, .fn 52 [.ptr 2 0 0, .ptr 1 0 0, .ptr 4 0 0]] (fun r H => r = .tup [] ∧ ((∃ ls ts a', pComL L (pTerm L d) k 15 [] [] a = some ((ls, ts), a') ∧ a' < L.length ∧ H = tR5 L d k lv nm ls ts a' false) ∨ (pComL L (pTerm L d) k 15 [] [] a = none ∧ ∃ ls ts a', a' < L.length ∧ H = tR5 L d k lv nm ls ts a' true))) := by
  refine ret_ofM (nt := 30) (rvs := []) Try.func49 rfl rfl rfl rfl (fun X hX => ?_)
  repeat' (first | omega | (with_reducible show (_ : Int) < _; dsimp only; omega) | (with_reducible show (_ : Nat) ≤ _; dsimp only; omega) | ((with_reducible show SrcOk _ _ _) <;> (first | exact srcOk_1 rfl | exact srcOk_L (fun _ => ⟨rfl, rfl⟩) | exact srcOk_E (fun _ => ⟨rfl, rfl⟩))) | ((conv => whnf) <;> (first | ((with_reducible show LW _ _ _ _ _ _ _); refine loopFT (fun y : (List ByteArray × List Term) × Nat => [(6, .i .i64 ((y.1.1.length : Int) + 1))]) (fun y => tR5I L d k lv nm y.1.1 y.1.2 y.2 false) (KlI L (pTerm L d) k (pComL L (pTerm L d) k 15 [] [] a)) (fun y => 16 - y.1.1.length) (([], []), a) ⟨⟨by simp, by simp, ha, rfl⟩, ?_⟩) | ((with_reducible show ∀ _, KlI _ _ _ _ _ → _); intro y hy; have hy1 := hy.len; have hy2 := hy.at_; have hy3 := hy.ts) | (refine .inr (.inl (.inl ⟨[0, 1, 2, 3, 4], _, _, _, term2_f L hL d hd hT y.2 hy2 lv hlv k nm y.1.1 y.1.2 (by omega) (by omega), viewK, ⟨rfl, rfl⟩, ?_⟩)); (rintro _ _ ⟨rfl, (⟨ls', ts', a', hp, ha', rfl⟩ | ⟨ls', ts', a', hp, ha', rfl⟩)⟩); refine ⟨rfl, tR5 L d k lv nm ls' ts' a' false, lokK, ?_⟩; rotate_left 1; refine ⟨rfl, tR5 L d k lv nm ls' ts' a' true, lokK, ?_⟩) | refine And.intro ?_ ?_ | (intro _h; first | contradiction | (try simp only [dd] at _h)) | (refine dt_go ?_) | exact rfl | exact True.intro | exact dkk | exact dks | (refine .inr (.inl (.inl ⟨[0], _, _, _, takeI_o L hL _ _ dg44 ?_, viewA, ⟨rfl, rfl⟩, ?_⟩)); rotate_left 1; (rintro _ _ (⟨_ht, _, rfl, rfl⟩ | ⟨_ht, rfl, rfl⟩)) <;> (refine ⟨rfl, _, lokA, ?_⟩)) | (refine wrap_succ ?_; omega))))
  all_goals (first | (conv => whnf) | skip)
  all_goals first
    | exact endM_self ⟨rfl, .inr ⟨hy.go.symm.trans (pComL_none hp), ls', ts', a', ha', rfl⟩⟩
    | exact endM_self ⟨rfl, .inl ⟨ls', ts', a', hy.go.symm.trans (pComL_end hp (.inr _ht)), ha', rfl⟩⟩
    | exact endM_self ⟨rfl, .inl ⟨ls', ts', a', hy.go.symm.trans (pComL_end hp (.inl (by omega))), ha', rfl⟩⟩
    | (have h4 : y.1.1.length ≤ 14 := by omega
       have hlen := hp.len
       have hg : pComL L (pTerm L d) k (15 - ls'.length) ls' ts' (a' + 1) = pComL L (pTerm L d) k 15 [] [] a := by
         rw [← hy.go, show 15 - y.1.1.length = (15 - ls'.length) + 1 by omega]
         exact (pComL_go hp _ht).symm
       have hk : IntKind.i64.wrap ((y.1.1.length : Int) + 1 + 1) = (ls'.length : Int) + 1 := by
         rw [wrap_in (by omega) (by omega)]; omega
       refine roundET_end ⟨((ls', ts'), a' + 1), [], ⟨(by dsimp only; omega), (by dsimp only; omega), (by assumption), hg⟩, (by dsimp only; omega), ?_⟩
       repeat' (first | omega | (with_reducible show (_ : Int) < _; dsimp only; omega) | (with_reducible show (_ : Nat) ≤ _; dsimp only; omega) | ((with_reducible show SrcOk _ _ _) <;> (first | exact srcOk_1 rfl | exact srcOk_L (fun _ => ⟨rfl, rfl⟩) | exact srcOk_E (fun _ => ⟨rfl, rfl⟩))) | ((conv => whnf) <;> (first | exact hk | exact fx_T (show 2 < 3 by decide) | exact low_cells rfl | exact keeps0_nil _ _ | refine And.intro ?_ ?_ | (intro _h; first | contradiction | (try simp only [dd] at _h)) | (refine dt_go ?_) | exact rfl | exact True.intro | exact dkk | exact dks | (refine wrap_succ ?_; omega)))))
theorem commasK_b (L : List Tok) (d : Nat) (a : Nat) (lv : Int) (k : Int) (nm : ByteArray) (ls : List ByteArray) (ts : List Term) : RetM env.P 49 (tR L d k lv nm ls ts a true) [.ptr 0 0 0, .i .i64 6, .fn 47 [.ptr 1 0 0, .ptr 2 0 0, .ptr 3 0 0]] (fun r H => r = .tup [] ∧ H = tR L d k lv nm ls ts a true) := by
  refine ret_ofM (nt := 30) (rvs := []) Try.func49 rfl rfl rfl rfl (fun X hX => ?_)
  repeat' (first | omega | (with_reducible show (_ : Int) < _; dsimp only; omega) | (with_reducible show (_ : Nat) ≤ _; dsimp only; omega) | ((with_reducible show SrcOk _ _ _) <;> (first | exact srcOk_1 rfl | exact srcOk_L (fun _ => ⟨rfl, rfl⟩) | exact srcOk_E (fun _ => ⟨rfl, rfl⟩))) | ((conv => whnf) <;> (first | ((with_reducible show LW _ _ _ _ _ _ _); refine loopFT (fun y : Unit => [(6, .i .i64 1)]) (fun y => tRI L d k lv nm ls ts a true) (fun _ => True) (fun y => 0) () ⟨trivial, ?_⟩) | refine And.intro ?_ ?_ | (intro _h; first | contradiction | (try simp only [dd] at _h)) | (refine dt_go ?_) | exact rfl | exact True.intro | exact dkk | exact dks | (refine wrap_succ ?_; omega))))
  all_goals (conv => whnf)
  all_goals exact endM_self ⟨rfl, rfl⟩
theorem commasL_b (L : List Tok) (d : Nat) (a : Nat) (lv : Int) (k : Int) (nm : ByteArray) (ls : List ByteArray) (ts : List Term) : RetM env.P 49 (tR5 L d k lv nm ls ts a true) [.ptr 0 0 0, .i .i64 16, .fn 52 [.ptr 2 0 0, .ptr 1 0 0, .ptr 4 0 0]] (fun r H => r = .tup [] ∧ H = tR5 L d k lv nm ls ts a true) := by
  refine ret_ofM (nt := 30) (rvs := []) Try.func49 rfl rfl rfl rfl (fun X hX => ?_)
  repeat' (first | omega | (with_reducible show (_ : Int) < _; dsimp only; omega) | (with_reducible show (_ : Nat) ≤ _; dsimp only; omega) | ((with_reducible show SrcOk _ _ _) <;> (first | exact srcOk_1 rfl | exact srcOk_L (fun _ => ⟨rfl, rfl⟩) | exact srcOk_E (fun _ => ⟨rfl, rfl⟩))) | ((conv => whnf) <;> (first | ((with_reducible show LW _ _ _ _ _ _ _); refine loopFT (fun y : Unit => [(6, .i .i64 1)]) (fun y => tR5I L d k lv nm ls ts a true) (fun _ => True) (fun y => 0) () ⟨trivial, ?_⟩) | refine And.intro ?_ ?_ | (intro _h; first | contradiction | (try simp only [dd] at _h)) | (refine dt_go ?_) | exact rfl | exact True.intro | exact dkk | exact dks | (refine wrap_succ ?_; omega))))
  all_goals (conv => whnf)
  all_goals exact endM_self ⟨rfl, rfl⟩
end
end Go.Proofs.Ytllcemegnggpfaa
