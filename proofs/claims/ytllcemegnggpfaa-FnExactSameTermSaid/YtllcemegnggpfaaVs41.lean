/- Texts for VTermOkP. -/
import Derived.Test.YtllcemegnggpfaaVs40
import Derived.Test.YtllcemegnggpfaaVs34
namespace Go.Proofs.Ytllcemegnggpfaa
open Go Go.RowKit
set_option linter.unusedVariables false
set_option linter.unusedSimpArgs false
set_option maxRecDepth 8000
section
attribute [local irreducible] IntKind.wrap
section
variable {E : Env} {P : Program} {nt : Nat} {f : Fr}
theorem endM_nilT {X : Ctx} {H : Hp} {cs vs : List AV} {sz : Nat} {g : Nat → Nat → AV} {post : AV → Hp → Prop} (j : Nat) (hj : cs[j]? = some .nils) (k : EndM X (H ++ [some ⟨sz, 0, g, .arr⟩]) (.tup (.agg (cs.set j (.row H.length 0)) :: vs)) post) : EndM X H (.tup (.agg cs :: vs)) post := ⟨fun w blk FP u hR hc he => by
  have hext := HExt.push H blk (some ⟨sz, 0, g, .arr⟩) ⟨0, 0⟩
  have hnew : ∀ id, id < H.length → (fun id => if id = H.length then ([] : List Nat) else FP id) id = FP id := fun id h => if_neg (by omega)
  have hnewb : ∀ id, id < H.length → (fun id => if id = H.length then (⟨0, 0⟩ : BC) else blk id) id = blk id := fun id h => if_neg (by omega)
  have hend : (fun id => if id = H.length then ([] : List Nat) else FP id) H.length = [] := if_pos rfl
  have hendb : (fun id => if id = H.length then (⟨0, 0⟩ : BC) else blk id) H.length = ⟨0, 0⟩ := if_pos rfl
  generalize hFP : (fun id => if id = H.length then ([] : List Nat) else FP id) = FP' at hnew hend
  generalize hBL : (fun id => if id = H.length then (⟨0, 0⟩ : BC) else blk id) = blk' at hnewb hendb hext
  have hS : X.S FP' (H ++ [some ⟨sz, 0, g, .arr⟩]) w.heap.size = X.S FP H w.heap.size := by
    funext b
    apply propext
    constructor
    · rintro ⟨h1, h2, h3⟩
      refine ⟨h1, h2, fun id r hr => ?_⟩
      have hlt := (List.getElem?_eq_some_iff.1 hr).1
      have := h3 id r (by rw [List.getElem?_append_left hlt]; exact hr)
      rwa [hnew id hlt] at this
    · rintro ⟨h1, h2, h3⟩
      refine ⟨h1, h2, fun id r hr => ?_⟩
      rcases old_or_new hr with ⟨hlt, ho⟩ | ⟨rfl, _⟩
      · rw [hnew id hlt]
        exact h3 id r ho
      · rw [hend]
        exact List.not_mem_nil
  obtain ⟨r', H2, b2, F2, q1, q2, q3, q4, q5⟩ := k.h w blk' FP' u (by
    rw [hS]
    refine ⟨fun id r hr => ?_, fun i j r r' hi hj hij b hb => ?_, fun b hb => ⟨(hR.free b hb).1, fun id r hr => ?_⟩⟩
    · rcases old_or_new hr with ⟨hlt, ho⟩ | ⟨rfl, rfl⟩
      · rw [hnew id hlt, hnewb id hlt]
        exact ⟨(hR.rows id r ho).1.mono (fun b hb => ⟨hb, rfl⟩) hext (fun _ _ => rfl), (hR.rows id r ho).2⟩
      · rw [hend, hendb]
        exact ⟨.inl ⟨rfl, rfl, .inl ⟨rfl, rfl⟩⟩, fun b hb => absurd hb List.not_mem_nil⟩
    · rcases old_or_new hi with ⟨hlt, ho⟩ | ⟨rfl, rfl⟩
      · rcases old_or_new hj with ⟨hlt', ho'⟩ | ⟨rfl, rfl⟩
        · rw [hnew i hlt] at hb
          rw [hnew j hlt']
          exact hR.apart i j r r' ho ho' hij b hb
        · rw [hend]
          exact List.not_mem_nil
      · rw [hend] at hb
        exact absurd hb List.not_mem_nil
    · rcases old_or_new hr with ⟨hlt, ho⟩ | ⟨rfl, rfl⟩
      · rw [hnew id hlt]
        exact (hR.free b hb).2 id r ho
      · rw [hend]
        exact List.not_mem_nil) (by
    rw [hS]
    obtain ⟨ts, rfl, hl0, ht⟩ := inv_tup hc
    refine .tup _ _ (by rw [List.length_cons] at hl0 ⊢; exact hl0) fun m c v hm hv => ?_
    cases m with
    | succ m => exact (ht (m + 1) c v hm hv).mono (fun b hb => ⟨hb, rfl⟩) hext
    | zero =>
      simp only [List.getElem?_cons_zero, Option.some.injEq] at hm
      subst hm
      have hc := ht 0 _ v rfl hv
      obtain ⟨us, rfl, hl, hu⟩ := inv_agg hc
      refine .agg _ _ (by rw [List.length_set]; exact hl) fun i c v hi hv => ?_
      by_cases e : j = i
      · subst e
        have hlt := (List.getElem?_eq_some_iff.1 hj).1
        rw [List.getElem?_set_self hlt] at hi
        cases hi
        have e2 := inv_nils (hu j _ _ hj hv)
        subst e2
        exact .row0 ⟨sz, 0, g, .arr⟩ (by rw [List.getElem?_append_right (Nat.le_refl _), Nat.sub_self]; rfl) rfl (by rw [hendb]) none
      · rw [List.getElem?_set_ne e] at hi
        exact (hu i c v hi hv).mono (fun b hb => ⟨hb, rfl⟩) hext) (he.trans hext)
  refine ⟨r', H2, b2, F2, q1, q2, q3, q4, fun b hb => ?_⟩
  obtain ⟨id, r, hr, hm⟩ := q5 b hb
  rcases old_or_new hr with ⟨hlt, ho⟩ | ⟨rfl, _⟩
  · rw [hnew id hlt] at hm
    exact ⟨id, r, ho, hm⟩
  · rw [hend] at hm
    exact absurd hm List.not_mem_nil⟩
end
theorem spI_all {L : List Tok} (hL : LexOk L) : ∀ d : Nat, d ≤ 4 → SpI L d
  | 0, _ => ⟨fun a D ha hD => by
      obtain rfl : D = 5 := hD
      exact (termI_0 L false a ha).mono fun r H ⟨x, a', h1, h2, h3⟩ => .inr ⟨rfl, x, a', h1, h2, h3⟩, fun a D ha hD => by
      obtain rfl : D = 5 := hD
      exact termI_0 L true a ha⟩
  | d + 1, h => ⟨fun a D ha hD => termI_f L hL d (by omega) (spI_all hL d (by omega)) a D ha (by omega), fun a D ha hD => termI_b L hL (d + 1) a D ha (by omega)⟩
theorem rdT_at {s : ByteArray} {L : List Tok} {x : Term} {a : Nat} (hx : lexF s = .ok L) (hp : pTerm L 4 0 = some (x, a)) (h : (tkL L a).kind = 4) : rdT s = (x, 0) := by
  unfold rdT
  rw [hx]
  dsimp only
  rw [hp]
  dsimp only
  rw [decide_eq_true h]
  rfl
theorem rdT_bad {s : ByteArray} {L : List Tok} {x : Term} {a : Nat} (hx : lexF s = .ok L) (hp : pTerm L 4 0 = some (x, a)) (h : ¬ (tkL L a).kind = 4) : rdT s = (noT, 6) := by
  unfold rdT
  rw [hx]
  dsimp only
  rw [hp]
  dsimp only
  rw [decide_eq_false h]
  rfl
noncomputable def tX (x : Term) : List AV := tO 3 x.kind x.name x.labels x.kids
def t0B : List AV := [.i .i64 0, .s ⟨#[]⟩, .nils, .nils]
set_option maxHeartbeats 8000000 in
theorem readTerm1_ok (L : List Tok) (hL : LexOk L) : RetM env.P 22 [some (boxRow (pB L 0 false)), some (boxRow t0B)] [.ptr 0 0 0, .ptr 1 0 0] (fun r H => r = .tup [] ∧ ((∃ x a', pTerm L 4 0 = some (x, a') ∧ a' < L.length ∧ H = [some (boxRow (pB L a' false)), some (boxRow (tX x))]) ∨ (pTerm L 4 0 = none ∧ ∃ x a', a' < L.length ∧ H = [some (boxRow (pB L a' true)), some (boxRow (tX x))]))) := by
  have hT := spI_all hL 4 (by decide)
  refine ret_ofM (nt := 5) (rvs := []) Try.func22 rfl rfl rfl rfl (fun X hX => ?_)
  repeat' (first | omega | (with_reducible show (_ : Int) < _; dsimp only; omega) | (with_reducible show (_ : Nat) ≤ _; dsimp only; omega) | ((with_reducible show SrcOk _ _ _) <;> (first | exact srcOk_1 rfl | exact srcOk_L (fun _ => ⟨rfl, rfl⟩) | exact srcOk_E (fun _ => ⟨rfl, rfl⟩))) | ((conv => whnf) <;> (first | (refine .inr (.inl (.inl ⟨[0], _, _, _, hT.f 0 1 hL.pos rfl, viewA, ⟨rfl, rfl⟩, ?_⟩)); (rintro _ _ (⟨x, a', hp, ha', rfl, rfl⟩ | ⟨hp, x, a', ha', rfl, rfl⟩)) <;> (refine ⟨rfl, _, lokT, ?_⟩)) | refine And.intro ?_ ?_ | (intro _h; first | contradiction | (try simp only [dd] at _h)) | (refine dt_go ?_) | exact rfl | exact True.intro | exact dkk | exact dks | (refine wrap_succ ?_; omega))))
  all_goals (first | (conv => whnf) | skip)
  all_goals refine endM_turn (turn_close (id := 1) (i := 0) (j := 2) (id' := 2) (n := x.labels.length) rfl (show 0 < 1 by decide) (show 2 < 4 by decide) rfl rfl (show 1 ≠ 2 by decide) rfl (rowO_le (Nat.le_refl _))) ?_
  all_goals refine endM_turn (turn_close (id := 1) (i := 0) (j := 3) (id' := 3) (n := x.kids.length) rfl (show 0 < 1 by decide) (show 3 < 4 by decide) rfl rfl (show 1 ≠ 3 by decide) rfl (rowO_le (Nat.le_refl _))) ?_
  all_goals refine endM_turn (turn_box (id := 1) (ds := tX x) rfl rfl rfl (.cons (.refl _) (.cons (.refl _) (.cons (.refl _) (.cons (.refl _) .nil))))) ?_
  · exact endM_pick [0, 1] [some (boxRow (pB L a' false)), some (boxRow (tX x))] (.tup []) viewK rfl rfl (by rw [hX]; exact keepK (n := 2) rfl rfl) ⟨rfl, (.inl ⟨x, a', hp, ha', rfl⟩)⟩
  · exact endM_pick [0, 1] [some (boxRow (pB L a' true)), some (boxRow (tX x))] (.tup []) viewK rfl rfl (by rw [hX]; exact keepK (n := 2) rfl rfl) ⟨rfl, (.inr ⟨hp, x, a', ha', rfl⟩)⟩
set_option maxHeartbeats 8000000 in
theorem whole_ok (s : ByteArray) : RetM env.P 21 [some (boxRow t0B)] [.s s, .fn 22 [.ptr 0 0 0]] (fun r H => (∃ l c, r = .tup [.i .i64 l, .i .i64 c] ∧ ¬ c = 0 ∧ rdT s = (noT, c) ∧ H = [some (boxRow t0B)]) ∨ (∃ l x, r = .tup [.i .i64 l, .i .i64 6] ∧ rdT s = (noT, 6) ∧ H = [some (boxRow (tX x))]) ∨ (∃ x, r = .tup [.i .i64 0, .i .i64 0] ∧ rdT s = (x, 0) ∧ H = [some (boxRow (tX x))])) := by
  have hlx := tokens_ok s
  cases hx : lexF s with
  | err l c =>
    rw [hx] at hlx
    have hc : c = 6 ∨ c = 4 := lexF_err hx
    have hlx : Ret env.P 42 [.s s] (fun r => r = .tup [.nils, .i .i64 l, .i .i64 c]) := hlx
    refine ret_ofM (nt := 49) (rvs := [.tmp 4, .tmp 5]) Try.func21 rfl rfl rfl rfl (fun X hX => ?_)
    repeat' (first | omega | (with_reducible show (_ : Int) < _; dsimp only; omega) | (with_reducible show (_ : Nat) ≤ _; dsimp only; omega) | ((with_reducible show SrcOk _ _ _) <;> (first | exact srcOk_1 rfl | exact srcOk_L (fun _ => ⟨rfl, rfl⟩) | exact srcOk_E (fun _ => ⟨rfl, rfl⟩))) | ((conv => whnf) <;> (first | refine And.intro ?_ ?_ | (intro _h; first | contradiction | (try simp only [dd] at _h)) | (refine dt_go ?_) | exact rfl | exact True.intro | exact dkk | exact dks | ((first | refine .inl ⟨_, hlx, ?_⟩ | refine ⟨_, hlx, ?_⟩); (try rintro _ rfl)) | (refine wrap_succ ?_; omega))))
    all_goals (conv => whnf)
    all_goals first
      | (exfalso; omega)
      | exact endM_self (.inl ⟨l, c, rfl, by omega, by simp [rdT, hx], rfl⟩)
  | ok L =>
    rw [hx] at hlx
    have hL := lexF_ok hx
    have hlx : Ret env.P 42 [.s s] (fun r => r = .tup [slL 3 tokC L, .i .i64 0, .i .i64 0]) := hlx
    refine ret_ofM (nt := 49) (rvs := [.tmp 4, .tmp 5]) Try.func21 rfl rfl rfl rfl (fun X hX => ?_)
    repeat' (first | omega | (with_reducible show (_ : Int) < _; dsimp only; omega) | (with_reducible show (_ : Nat) ≤ _; dsimp only; omega) | ((with_reducible show SrcOk _ _ _) <;> (first | exact srcOk_1 rfl | exact srcOk_L (fun _ => ⟨rfl, rfl⟩) | exact srcOk_E (fun _ => ⟨rfl, rfl⟩))) | ((conv => whnf) <;> (first | (refine .inr (.inr ⟨_, (fun X => turn_box (id := 1) (ds := pB L 0 false) rfl rfl rfl (.cons (.refl _) (.cons (.refl _) (.cons (.refl _) .nil)))), (fun i _ q => (by cases q)), .inl ⟨[1, 0], _, _, _, readTerm1_ok L hL, viewK, ⟨rfl, rfl⟩, ?_⟩⟩); rintro _ _ ⟨rfl, (⟨x, a', hp, ha', rfl⟩ | ⟨hp, x, a', ha', rfl⟩)⟩ <;> refine ⟨rfl, _, lokT, ?_⟩) | refine And.intro ?_ ?_ | (intro _h; first | contradiction | (try simp only [dd] at _h)) | (refine dt_go ?_) | exact rfl | exact True.intro | exact dkk | exact dks | ((first | refine .inl ⟨_, hlx, ?_⟩ | refine ⟨_, hlx, ?_⟩); (try rintro _ rfl)) | (refine wrap_succ ?_; omega))))
    all_goals (first | (conv => whnf) | skip)
    all_goals (try simp only [Int.toNat_natCast] at *)
    · exact endM_pick [0] [some (boxRow (tX x))] (.tup [.i .i64 (L.getD a' default).line, .i .i64 6]) viewK rfl rfl (by rw [hX]; exact keepK (n := 1) rfl rfl) (.inr (.inl ⟨_, x, rfl, rdT_bad hx hp _h, rfl⟩))
    · exact endM_pick [0] [some (boxRow (tX x))] (.tup [.i .i64 0, .i .i64 0]) viewK rfl rfl (by rw [hX]; exact keepK (n := 1) rfl rfl) (.inr (.inr ⟨x, rfl, rdT_at hx hp _h, rfl⟩))
    · exact endM_pick [0] [some (boxRow (tX x))] (.tup [.i .i64 (L.getD a' default).line, .i .i64 6]) viewK rfl rfl (by rw [hX]; exact keepK (n := 1) rfl rfl) (.inr (.inl ⟨_, x, rfl, (by simp [rdT, hx, hp]), rfl⟩))
set_option maxHeartbeats 8000000 in
theorem ReadTermI_ok (s : ByteArray) : RetM env.P 8 [] [.s s] (fun r H => r = .tup [.agg (rdT s).1.resO, .i .i64 (rdT s).2] ∧ H = Term.rowsO 4 (rdT s).1) := by
  refine ret_ofM (nt := 18) (rvs := [.cell 2 25, .tmp 3]) Try.func8 rfl rfl rfl rfl (fun X hX => ?_)
  repeat' (first | omega | (with_reducible show (_ : Int) < _; dsimp only; omega) | (with_reducible show (_ : Nat) ≤ _; dsimp only; omega) | ((with_reducible show SrcOk _ _ _) <;> (first | exact srcOk_1 rfl | exact srcOk_L (fun _ => ⟨rfl, rfl⟩) | exact srcOk_E (fun _ => ⟨rfl, rfl⟩))) | ((conv => whnf) <;> (first | (refine .inr (.inr ⟨_, (fun X => turn_box (id := 1) (ds := t0B) rfl rfl rfl (.cons (.refl _) (.cons (.refl _) (.cons (.refl _) (.cons (.refl _) .nil))))), (fun i _ q => (by cases q)), .inl ⟨[1], _, _, _, whole_ok s, viewK, ⟨rfl, rfl⟩, ?_⟩⟩); rintro _ _ (⟨l, c, rfl, hc, hr, rfl⟩ | ⟨l, x, rfl, hr, rfl⟩ | ⟨x, rfl, hr, rfl⟩) <;> refine ⟨rfl, _, lokT, ?_⟩) | refine And.intro ?_ ?_ | (intro _h; first | contradiction | (try simp only [dd] at _h)) | (refine dt_go ?_) | exact rfl | exact True.intro | exact dkk | exact dks | (refine wrap_succ ?_; omega))))
  all_goals (first | (conv => whnf) | skip)
  · exact endM_nilT (sz := 1) (g := elE strC []) 2 rfl (endM_nilT (sz := 4) (g := elE (Term.pO 4) []) 3 rfl (endM_pick [2, 3] (Term.rowsO 4 noT) (.tup [.agg noT.resO, .i .i64 c]) viewT rfl rfl (fun k hk => by rw [hX] at hk; exact absurd hk (Nat.not_lt_zero _)) ⟨by rw [hr], by rw [hr]⟩))
  · exact endM_nilT (sz := 1) (g := elE strC []) 2 rfl (endM_nilT (sz := 4) (g := elE (Term.pO 4) []) 3 rfl (endM_pick [2, 3] (Term.rowsO 4 noT) (.tup [.agg noT.resO, .i .i64 6]) viewT rfl rfl (fun k hk => by rw [hX] at hk; exact absurd hk (Nat.not_lt_zero _)) ⟨by rw [hr], by rw [hr]⟩))
  · exact endM_pick [2, 3] (Term.rowsO 4 x) (.tup [.agg x.resO, .i .i64 0]) viewT rfl rfl (fun k hk => by rw [hX] at hk; exact absurd hk (Nat.not_lt_zero _)) ⟨by rw [hr], by rw [hr]⟩
end
section
attribute [local irreducible] IntKind.wrap
def okT (a : Term) : Prop := (rdT (txT 5 a)).2 = 0 ∧ (rdT (txT 5 a)).1 = a
theorem okT.o {a : Term} (h : okT a) : Term.oN 5 a := h.2 ▸ (rdT_ok _).1
theorem okT.s {a : Term} (h : okT a) : 1 ≤ shp 4 a := by
  have := (rdT_ok (txT 5 a)).2.2 h.1
  rwa [h.2] at this
theorem conc_kb2 {w : World} {S : Nat → Prop} {blk : Nat → BC} {H : Hp} {s : ByteArray} {x : Bool} {u : Value} (h : Conc w S blk H (.tup [.s s, .kb x]) u) : Conc w S blk H (.tup [.s s, .b x]) u := by
  obtain ⟨us, rfl, hl, hu⟩ := inv_tup h
  refine .tup _ _ hl fun j c u hj hv => ?_
  match j, hj with
  | 0, hj => cases hj; exact hu 0 _ u rfl hv
  | 1, hj =>
    cases hj
    have := hu 1 _ u rfl hv
    rw [inv_kb this]
    exact .b x
theorem RetM.toRetSB {P : Program} {g : FuncId} {av : List AV} {s : ByteArray} {x : Bool} (h : RetM P g [] av (fun r H => (r = .tup [.s s, .b x] ∨ r = .tup [.s s, .kb x]) ∧ H = [])) : Ret P g av (fun r => r = .tup [.s s, .b x]) := .mk fun w S us hS hc => by
  refine (h.h w S (fun _ => ⟨0, 0⟩) (fun _ => []) us ⟨fun id r q => by simp at q, fun i j r r' q => by simp at q, fun b hb => ⟨hS b hb, fun id r q => by simp at q⟩⟩ hS.gl hc).mono ?_
  rintro e w' ⟨r, u, H', blk', FP', he, ⟨hq, rfl⟩, _, hcu, _, _, hk⟩
  refine ⟨_, u, he, rfl, ?_, ⟨hk.os, hk.tape, hk.output, hk.size, fun k hlt => hk.block k hlt (by rintro ⟨id, r, q, _⟩; simp at q)⟩⟩
  have hcu' : Conc w' _ (fun _ => ⟨0, 0⟩) [] r u := hcu.nil
  rcases hq with rfl | rfl
  · exact hcu'.mono (fun b hb => ⟨hb.1.imp_right fun q => ⟨q, hb.2.1⟩, rfl⟩) (HExt.refl _ _)
  · exact (conc_kb2 hcu').mono (fun b hb => ⟨hb.1.imp_right fun q => ⟨q, hb.2.1⟩, rfl⟩) (HExt.refl _ _)
set_option maxHeartbeats 4000000 in
theorem checkedTermText_ok (m : Nat) (a : Term) (h : Term.oN (m + 1) a) (ht : Term.tw 5 a ≤ 100000000) : Ret env.P 35 [.agg (Term.pN (m + 1) a)] (fun r => r = .tup [.s (txT 5 a), .b (pb (okT a))]) := by
  have h1 := termText_n 5 (by decide) 5 rfl m a h ht
  have ho := (rdT_ok (txT 5 a)).1
  have h2 := sameTerm_n 5 (by decide) 5 rfl 4 (rdT (txT 5 a)).1 ho m a (Term.oN_fN _ _ h)
  have he := Term.sam_eq 5 (rdT (txT 5 a)).1 a (Term.oN_fN _ _ ho)
  refine RetM.toRetSB ?_
  refine ret_ofM (nt := 22) (rvs := [.tmp 2, .tmp 3]) Try.func35 rfl rfl rfl rfl (fun X hX => ?_)
  repeat' (first | omega | (with_reducible show (_ : Int) < _; dsimp only; omega) | (with_reducible show (_ : Nat) ≤ _; dsimp only; omega) | ((with_reducible show SrcOk _ _ _) <;> (first | exact srcOk_1 rfl | exact srcOk_L (fun _ => ⟨rfl, rfl⟩) | exact srcOk_E (fun _ => ⟨rfl, rfl⟩))) | ((conv => whnf) <;> (first | (refine .inr (.inl (.inl ⟨[], _, _, _, ReadTermI_ok (txT 5 a), viewT, ⟨rfl, rfl⟩, ?_⟩)); rintro _ _ ⟨rfl, rfl⟩; refine ⟨rfl, _, lokT, ?_⟩) | ((refine .inl ⟨_, Ret.wk (by exact .cons (.agg (.cons (.refl _) (.cons (.refl _) (.cons (shr_L (d := 0) (k := 4) rfl) (.cons (shr_L (d := 0) (k := 4) rfl) .nil))))) (.cons (.agg (.cons (.refl _) (.cons (.refl _) (.cons (.refl _) (.cons (.refl _) .nil))))) (.cons (.refl _) .nil))) h2, ?_⟩); (try rintro _ rfl)) | refine And.intro ?_ ?_ | (intro _h; first | contradiction | (try simp only [dd] at _h)) | (refine dt_go ?_) | exact rfl | exact True.intro | exact dkk | exact dks | ((first | refine .inl ⟨_, h1, ?_⟩ | refine ⟨_, h1, ?_⟩); (try rintro _ rfl)) | (refine wrap_succ ?_; omega))))
  all_goals (conv => whnf)
  · have q : pb (Term.sam 5 (rdT (txT 5 a)).1 a) = pb (okT a) := by
      congr 1
      exact propext ⟨fun q => ⟨_h, he.1 q⟩, fun q => he.2 q.2⟩
    exact endM_pick [] [] (.tup [.s (txT 5 a), .b (pb (Term.sam 5 (rdT (txT 5 a)).1 a))]) view_none rfl rfl (fun k hk => by rw [hX] at hk; exact absurd hk (Nat.not_lt_zero _)) ⟨.inl (by rw [q]), rfl⟩
  · have q : pb (okT a) = false := pb_f.mpr fun q => _h q.1
    exact endM_pick [] [] (.tup [.s (txT 5 a), .kb false]) view_none rfl rfl (fun k hk => by rw [hX] at hk; exact absurd hk (Nat.not_lt_zero _)) ⟨.inr (by rw [q]), rfl⟩
theorem TermOkI_ok (m : Nat) (a : Term) (h : Term.oN (m + 1) a) (ht : Term.tw 5 a ≤ 100000000) : Ret env.P 15 [.agg (Term.pN (m + 1) a)] (fun r => r = .b (pb (okT a))) := by
  refine ret_of (nt := 11) (rvs := [.tmp 2]) Try.func15 rfl rfl rfl rfl (fun X => ?_)
  repeat' (first | omega | (with_reducible show (_ : Int) < _; dsimp only; omega) | (with_reducible show (_ : Nat) ≤ _; dsimp only; omega) | ((with_reducible show SrcOk _ _ _) <;> (first | exact srcOk_1 rfl | exact srcOk_L (fun _ => ⟨rfl, rfl⟩) | exact srcOk_E (fun _ => ⟨rfl, rfl⟩))) | ((conv => whnf) <;> (first | refine And.intro ?_ ?_ | (intro _h; first | contradiction | (try simp only [dd] at _h)) | (refine dt_go ?_) | exact rfl | exact True.intro | exact dkk | exact dks | ((first | refine .inl ⟨_, Ret.wka (checkedTermText_ok m a h ht), ?_⟩ | refine ⟨_, Ret.wka (checkedTermText_ok m a h ht), ?_⟩); (try rintro _ rfl)) | (refine wrap_succ ?_; omega))))
  all_goals exact rfl
set_option maxHeartbeats 1000000 in
theorem SameTermI_ok (m : Nat) (a : Term) (h : Term.oN (m + 1) a) (ht : Term.tw 5 a ≤ 100000000) (m' : Nat) (b : Term) (hb : Term.oN (m' + 1) b) (htb : Term.tw 5 b ≤ 100000000) : Ret env.P 17 [.agg (Term.pN (m + 1) a), .agg (Term.pN (m' + 1) b)] (fun r => r = .b (pb (okT a ∧ okT b ∧ a = b))) := by
  have h1 := TermOkI_ok m a h ht
  have h2 := TermOkI_ok m' b hb htb
  have h3 := sameTerm_n 5 (by decide) 5 rfl m a h m' b (Term.oN_fN _ _ hb)
  refine ret_of (nt := 16) (rvs := [.tmp 4]) Try.func17 rfl rfl rfl rfl (fun X => ?_)
  repeat' (first | omega | (with_reducible show (_ : Int) < _; dsimp only; omega) | (with_reducible show (_ : Nat) ≤ _; dsimp only; omega) | ((with_reducible show SrcOk _ _ _) <;> (first | exact srcOk_1 rfl | exact srcOk_L (fun _ => ⟨rfl, rfl⟩) | exact srcOk_E (fun _ => ⟨rfl, rfl⟩))) | ((conv => whnf) <;> (first | refine And.intro ?_ ?_ | (intro _h; first | contradiction | (try simp only [dd] at _h)) | (refine dt_go ?_) | exact rfl | exact True.intro | exact dkk | exact dks | ((first | refine .inl ⟨_, Ret.wka (h1), ?_⟩ | refine ⟨_, Ret.wka (h1), ?_⟩); (try rintro _ rfl)) | ((first | refine .inl ⟨_, Ret.wka (h2), ?_⟩ | refine ⟨_, Ret.wka (h2), ?_⟩); (try rintro _ rfl)) | ((first | refine .inl ⟨_, Ret.wka (h3), ?_⟩ | refine ⟨_, Ret.wka (h3), ?_⟩); (try rintro _ rfl)) | (refine wrap_succ ?_; omega))))
  all_goals (conv => whnf)
  all_goals first
    | exact leaf_f fun q => ‹¬ okT a› q.1
    | exact leaf_f fun q => ‹¬ okT b› q.2.1
    | (refine congrArg AV.b (congrArg pb ?_)
       have ha : okT a := ‹_›
       have he := Term.sam_eq 5 a b (Term.oN_fN _ _ ha.o)
       exact propext ⟨fun q => ⟨ha, ‹_›, he.1 q⟩, fun q => he.2 q.2.2⟩)
theorem TermTextI_ok (m : Nat) (a : Term) (h : Term.oN (m + 1) a) (ht : Term.tw 5 a ≤ 100000000) : Ret env.P 19 [.agg (Term.pN (m + 1) a)] (fun r => r = .s (bif pb (okT a) then txT 5 a else ⟨#[]⟩)) := by
  refine ret_of (nt := 13) (rvs := [.tmp 2]) Try.func19 rfl rfl rfl rfl (fun X => ?_)
  repeat' (first | omega | (with_reducible show (_ : Int) < _; dsimp only; omega) | (with_reducible show (_ : Nat) ≤ _; dsimp only; omega) | ((with_reducible show SrcOk _ _ _) <;> (first | exact srcOk_1 rfl | exact srcOk_L (fun _ => ⟨rfl, rfl⟩) | exact srcOk_E (fun _ => ⟨rfl, rfl⟩))) | ((conv => whnf) <;> (first | refine And.intro ?_ ?_ | (intro _h; first | contradiction | (try simp only [dd] at _h)) | (refine dt_go ?_) | exact rfl | exact True.intro | exact dkk | exact dks | ((first | refine .inl ⟨_, Ret.wka (checkedTermText_ok m a h ht), ?_⟩ | refine ⟨_, Ret.wka (checkedTermText_ok m a h ht), ?_⟩); (try rintro _ rfl)) | (refine wrap_succ ?_; omega))))
  all_goals (conv => whnf)
  · exact leaf_s (by rw [pb_f.mpr _h]; rfl)
  · exact leaf_s (by rw [pb_t.mpr (Classical.not_not.1 _h)]; rfl)
end
end Go.Proofs.Ytllcemegnggpfaa
