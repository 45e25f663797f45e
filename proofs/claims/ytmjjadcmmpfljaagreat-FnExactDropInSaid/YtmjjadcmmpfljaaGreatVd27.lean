/- Texts for VDropInP. -/
import Derived.Test.YtmjjadcmmpfljaaGreatVd24
import Derived.Test.YtmjjadcmmpfljaaGreatVd26
namespace Go.Proofs.YtmjjadcmmpfljaaGreat
open Go Go.RowKit
set_option linter.unusedVariables false
set_option linter.unusedSimpArgs false
set_option maxRecDepth 8000
def topV (l : List Call) : Int := if l.length = 0 then 0 else (l.getD (l.length - 1) default).callee
theorem topV_zero {l : List Call} (h : (l.length : Int) = 0) : topV l = 0 := if_pos (by omega)
theorem topV_pos {l : List Call} (h : ¬ (l.length : Int) = 0) (hl : l.length ≤ 1048576) : (l.getD (IntKind.i64.wrap ((l.length : Int) - 1)).toNat default).callee = topV l := by
 unfold topV
 rw [if_neg (by omega), wrap_in (by omega) (by omega), show ((l.length : Int) - 1).toNat = l.length - 1 by omega]
theorem top_ok (l : List Call) (hl : l.length ≤ 1048576) (a b c : AV) : Ret env.P 41 [rfL [a, slL 4 Call.cs l, b, c]] (fun r => r = .i .i64 (topV l)) := by
 refine ret_of (nt := 22) (rvs := [.tmp 2]) Tryz.func41 rfl rfl rfl rfl (fun X => ?_)
 repeat' (first | exact aa | ((conv => whnf) <;> (first | refine And.intro ?_ ?_ | (intro _h; first | contradiction | (try simp only [dd] at _h)) | (refine dt_go ?_) | exact rfl | exact True.intro | exact dkk | exact dks | (refine wrap_succ ?_; omega))))
 all_goals (try simp (disch := omega) only [wrap_in])
 all_goals first
  | exact leaf_i (topV_zero ‹_›).symm
  | omega
  | (refine leaf_i ?_; rw [← topV_pos ‹_› hl, wrap_in (by omega) (by omega)])
  | trace_state
theorem l20Runs_ok (y : Yard) (h : y.ok) : Ret env.P 33 [rfL y.cs] (fun r => r = .i .i64 (topV y.stack)) := by
 have hl : y.stack.length ≤ 1048576 := h.2.1.1
 refine ret_of (nt := 22) (rvs := [.tmp 2]) Tryz.func33 rfl rfl rfl rfl (fun X => ?_)
 repeat' (first | exact aa | ((conv => whnf) <;> (first | refine And.intro ?_ ?_ | (intro _h; first | contradiction | (try simp only [dd] at _h)) | (refine dt_go ?_) | exact rfl | exact True.intro | exact dkk | exact dks | (refine wrap_succ ?_; omega))))
 all_goals (try simp (disch := omega) only [wrap_in])
 all_goals first
  | exact leaf_i (topV_zero ‹_›).symm
  | omega
  | (refine leaf_i ?_; rw [← topV_pos ‹_› hl, wrap_in (by omega) (by omega)])
  | trace_state
theorem l00Own_ok (l : List Int) (hl : l.length ≤ 1048576) : RetM env.P 68 [] [slL 1 intC l] (fun r H => r = .row 0 l.length ∧ H = [some (rowL 1 intC l)]) := by
 refine ret_ofM (nt := 6) (rvs := [.tmp 2]) Tryz.func68 rfl rfl rfl rfl (fun X hX => ?_)
 repeat' (first | exact aa | ((conv => whnf) <;> (first | exact capB hl (by decide) | exact capN hl | refine And.intro ?_ ?_ | (intro _h; first | contradiction | (try simp only [dd] at _h)) | (refine dt_go ?_) | exact rfl | exact True.intro | exact dkk | exact dks | (refine wrap_succ ?_; omega))))
 all_goals (conv => whnf)
 all_goals exact endM_pick [1] [some (rowL 1 intC l)] (.row 0 (0 + l.length)) (view_of rfl (.cons rfl (.L (Nat.zero_add _).symm (fun _ => rfl)) .nil)) rfl rfl (fun k hk => by rw [hX] at hk; exact absurd hk (Nat.not_lt_zero _)) ⟨by rw [Nat.zero_add], rfl⟩
theorem cloneInt_ok (l : List Int) (hl : l.length ≤ 1048576) : RetM env.P 83 [] [slL 1 intC l] (fun r H => (l = [] ∧ r = .nils ∧ H = []) ∨ (r = .row 0 l.length ∧ H = [some (rowL 1 intC l)])) := by
 refine ret_ofM (nt := 8) (rvs := [.tmp 2]) Tryz.func83 rfl rfl rfl rfl (fun X hX => ?_)
 repeat' (first | exact aa | ((conv => whnf) <;> (first | exact capB hl (by decide) | exact capN hl | refine And.intro ?_ ?_ | (intro _h; first | contradiction | (try simp only [dd] at _h)) | (refine dt_go ?_) | exact rfl | exact True.intro | exact dkk | exact dks | (refine wrap_succ ?_; omega))))
 all_goals (conv => whnf)
 ·exact endM_self (.inl ⟨List.length_eq_zero_iff.1 ‹_›, rfl, rfl⟩)
 ·exact endM_pick [1] [some (rowL 1 intC l)] (.row 0 (0 + l.length)) (view_of rfl (.cons rfl (.L (Nat.zero_add _).symm (fun _ => rfl)) .nil)) rfl rfl (fun k hk => by rw [hX] at hk; exact absurd hk (Nat.not_lt_zero _)) (.inr ⟨by rw [Nat.zero_add], rfl⟩)
theorem argLe {y : Yard} (h : y.ok) (k : Nat) : (y.stack.getD k default).args.length ≤ 1048576 := by
 by_cases hk : k < y.stack.length
 ·exact (h.2.1.2 k hk).1
 ·rw [List.getD_eq_getElem?_getD, List.getElem?_eq_none (by omega)]
  exact Nat.zero_le _
theorem snoc_call {k m : Nat} {l : List Call} {t : Call} {g e : Nat → Nat → AV} (hk : k = l.length) (h0 : g 0 0 = .i .i64 t.id) (h1 : g 0 1 = .i .i64 t.caller) (h2 : g 0 2 = .i .i64 t.callee) (hn : m = t.args.length) (he : ∀ i j, i < m → j < 1 → OwEq (e i j) (elE intC t.args i j)) : ∀ i j, i < k + 1 → j < 4 → OwEq (upd (catE k (elE Call.csO l) g) k 3 [.ow 1 m e] i j) (elE Call.csO (l ++ [t]) i j) := fun i j hi hj => by
 by_cases e1 : i = k
 ·subst e1
  have hr : elE Call.csO (l ++ [t]) i j = (Call.csO t).getD j .any := by
   unfold elE
   rw [getD_snoc, if_neg (by omega), if_pos hk]
  rw [hr]
  rcases (show j = 0 ∨ j = 1 ∨ j = 2 ∨ j = 3 by omega) with rfl | rfl | rfl | rfl
  ·rw [upd_out (by omega), cat_k, h0]; exact .refl _
  ·rw [upd_out (by omega), cat_k, h1]; exact .refl _
  ·rw [upd_out (by omega), cat_k, h2]; exact .refl _
  ·rw [show (3 : Nat) = 3 + 0 from rfl, upd_in (Nat.lt_succ_self 0)]
   exact OwEq.len hn (fun i j _ _ => HoldC.h _ j) he
 ·rw [upd_miss e1]
  have : i < k := by omega
  rw [catE_at, if_pos this]
  unfold elE
  rw [getD_snoc, if_pos (by omega)]
  exact .refl _
theorem snoc_idf3 {k m : Nat} {l : List Call} {g e : Nat → Nat → AV} (hk : k = l.length) (h0 : (g 0 0).idfO) (h1 : (g 0 1).idfO) (h2 : (g 0 2).idfO) (he : ∀ i j, i < m → j < 1 → (e i j).idfO) : ∀ i j, i < k + 1 → j < 4 → (upd (catE k (elE Call.csO l) g) k 3 [.ow 1 m e] i j).idfO := fun i j hi hj => by
 by_cases e1 : i = k
 ·subst e1
  rcases (show j = 0 ∨ j = 1 ∨ j = 2 ∨ j = 3 by omega) with rfl | rfl | rfl | rfl
  ·rw [upd_out (by omega), cat_k]; exact h0
  ·rw [upd_out (by omega), cat_k]; exact h1
  ·rw [upd_out (by omega), cat_k]; exact h2
  ·rw [show (3 : Nat) = 3 + 0 from rfl, upd_in (Nat.lt_succ_self 0)]
   exact he
 ·rw [upd_miss e1]
  have : i < k := by omega
  rw [catE_at, if_pos this]
  exact HoldC.h _ j
theorem take_call {l : List Call} {k : Nat} (hk : k < l.length) : l.take (k + 1) = l.take k ++ [l.getD k default] := by
 rw [List.take_add_one, List.getElem?_eq_getElem hk, List.getD_eq_getElem?_getD, List.getElem?_eq_getElem hk]
 rfl
def yaZ : List AV := [.i .i64 0, .nils, .nils, .nils, .i .i64 0, .nils]
def Yard.part (y : Yard) (k : Nat) : List AV := [.i .i64 y.shelf.next, owL 2 Table.csO y.shelf.tables, owL 3 Thing.cs y.shelf.things, .ow 4 k (elE Call.csO (y.stack.take k)), .i .i64 y.next, owL 1 intC y.dead]
def atB (b : Nat) (r : Row) : Hp := [none, none, none, none].set (b - 1) (some r)
set_option maxHeartbeats 8000000 in
theorem l20Own_ok (y : Yard) (h : y.ok) (h1 : 1 ≤ y.shelf.tables.length) : RetM env.P 31 [] [rfL y.cs] (fun r H => r = .agg y.resO ∧ H = y.rowsO) := by
 have hd : y.dead.length ≤ 1048576 := h.2.2.1
 have hst : y.stack.length ≤ 1048576 := h.2.1.1
 refine ret_ofPM (nt := 47) (rvs := [.cell 2 37]) Tryz.func31 rfl rfl rfl rfl (fun X hX => ?_)
 refine pw_cut 2 (fun b : Nat => b = 1 ∨ b = 2 ∨ b = 3 ∨ b = 4) (fun b => [(0, rfL y.cs), (2, .ptr 0 0 0), (3, .ptr b 0 0)]) (fun b => some (boxRow yaZ) :: atB b (boxRow (y.part 0))) ?_ (fun b hb => ?_)
 ·repeat' (first | exact aa | ((conv => whnf) <;> (first | ((refine .inr (.inl (.inr (.inl ⟨_, RetM.wk (.cons (Wk.rfcp rfl rfl) .nil) (l19Own_ok y.shelf h.1 h1), ?_⟩))); rintro _ _ ⟨rfl, rfl⟩; refine ⟨⟨rfl, nssA⟩, _, lokA, ?_⟩)) | refine And.intro ?_ ?_ | (intro _h; first | contradiction | (try simp only [dd] at _h)) | (refine dt_go ?_) | exact rfl | exact True.intro | exact dkk | exact dks | (refine .inr (.inl (.inr (.inl ⟨_, RetM.wka (l00Own_ok y.dead hd), ?_⟩))); rintro _ _ ⟨rfl, rfl⟩; refine ⟨⟨rfl, nssA⟩, _, lokA, ?_⟩) | (refine wrap_succ ?_; omega))))
  all_goals (first | contradiction | skip)
  all_goals (try (conv => whnf))
  all_goals first
   | (refine cut_turn (turn_close (id := 1) (i := 0) (j := 1) (id' := 2) rfl (show 0 < 1 by decide) (show 1 < 6 by decide) rfl rfl (show 1 ≠ 2 by decide) rfl (rowO_le (Nat.le_refl _))) ?_; refine cut_turn (turn_close (id := 1) (i := 0) (j := 2) (id' := 3) rfl (show 0 < 1 by decide) (show 2 < 6 by decide) rfl rfl (show 1 ≠ 3 by decide) rfl (rowO_le (Nat.le_refl _))) ?_; refine cut_turn (turn_close (id := 1) (i := 0) (j := 5) (id' := 4) rfl (show 0 < 1 by decide) (show 5 < 6 by decide) rfl rfl (show 1 ≠ 4 by decide) rfl (rowO_le (Nat.le_refl _))) ?_; refine cut_turn (turn_box (id := 1) (ds := y.part 0) rfl rfl rfl (.cons (.refl _) (.cons (.refl _) (.cons (.refl _) (.cons (.nil _ _) (.cons (.refl _) (.cons (.refl _) .nil))))))) ?_; exact cut_go 1 (by omega) (by repeat' (first | exact trivial | refine And.intro rfl ?_)) (by repeat' (first | exact trivial | refine And.intro (.inl rfl) ?_ | refine And.intro (.inr rfl) ?_ | refine And.intro rfl ?_ | (unfold hpK; exact trivial))))
   | (refine cut_turn (turn_close (id := 1) (i := 0) (j := 1) (id' := 3) rfl (show 0 < 1 by decide) (show 1 < 6 by decide) rfl rfl (show 1 ≠ 3 by decide) rfl (rowO_le (Nat.le_refl _))) ?_; refine cut_turn (turn_close (id := 1) (i := 0) (j := 2) (id' := 4) rfl (show 0 < 1 by decide) (show 2 < 6 by decide) rfl rfl (show 1 ≠ 4 by decide) rfl (rowO_le (Nat.le_refl _))) ?_; refine cut_turn (turn_close (id := 1) (i := 0) (j := 5) (id' := 2) rfl (show 0 < 1 by decide) (show 5 < 6 by decide) rfl rfl (show 1 ≠ 2 by decide) rfl (rowO_le (Nat.le_refl _))) ?_; refine cut_turn (turn_box (id := 1) (ds := y.part 0) rfl rfl rfl (.cons (.refl _) (.cons (.refl _) (.cons (.refl _) (.cons (.nil _ _) (.cons (.refl _) (.cons (.refl _) .nil))))))) ?_; exact cut_go 1 (by omega) (by repeat' (first | exact trivial | refine And.intro rfl ?_)) (by repeat' (first | exact trivial | refine And.intro (.inl rfl) ?_ | refine And.intro (.inr rfl) ?_ | refine And.intro rfl ?_ | (unfold hpK; exact trivial))))
   | (refine cut_turn (turn_close (id := 3) (i := 0) (j := 1) (id' := 1) rfl (show 0 < 1 by decide) (show 1 < 6 by decide) rfl rfl (show 3 ≠ 1 by decide) rfl (rowO_le (Nat.le_refl _))) ?_; refine cut_turn (turn_close (id := 3) (i := 0) (j := 2) (id' := 2) rfl (show 0 < 1 by decide) (show 2 < 6 by decide) rfl rfl (show 3 ≠ 2 by decide) rfl (rowO_le (Nat.le_refl _))) ?_; refine cut_turn (turn_close (id := 3) (i := 0) (j := 5) (id' := 4) rfl (show 0 < 1 by decide) (show 5 < 6 by decide) rfl rfl (show 3 ≠ 4 by decide) rfl (rowO_le (Nat.le_refl _))) ?_; refine cut_turn (turn_box (id := 3) (ds := y.part 0) rfl rfl rfl (.cons (.refl _) (.cons (.refl _) (.cons (.refl _) (.cons (.nil _ _) (.cons (.refl _) (.cons (.refl _) .nil))))))) ?_; exact cut_go 3 (by omega) (by repeat' (first | exact trivial | refine And.intro rfl ?_)) (by repeat' (first | exact trivial | refine And.intro (.inl rfl) ?_ | refine And.intro (.inr rfl) ?_ | refine And.intro rfl ?_ | (unfold hpK; exact trivial))))
   | (refine cut_turn (turn_close (id := 2) (i := 0) (j := 1) (id' := 3) rfl (show 0 < 1 by decide) (show 1 < 6 by decide) rfl rfl (show 2 ≠ 3 by decide) rfl (rowO_le (Nat.le_refl _))) ?_; refine cut_turn (turn_close (id := 2) (i := 0) (j := 2) (id' := 4) rfl (show 0 < 1 by decide) (show 2 < 6 by decide) rfl rfl (show 2 ≠ 4 by decide) rfl (rowO_le (Nat.le_refl _))) ?_; refine cut_turn (turn_close (id := 2) (i := 0) (j := 5) (id' := 1) rfl (show 0 < 1 by decide) (show 5 < 6 by decide) rfl rfl (show 2 ≠ 1 by decide) rfl (rowO_le (Nat.le_refl _))) ?_; refine cut_turn (turn_box (id := 2) (ds := y.part 0) rfl rfl rfl (.cons (.refl _) (.cons (.refl _) (.cons (.refl _) (.cons (.nil _ _) (.cons (.refl _) (.cons (.refl _) .nil))))))) ?_; exact cut_go 2 (by omega) (by repeat' (first | exact trivial | refine And.intro rfl ?_)) (by repeat' (first | exact trivial | refine And.intro (.inl rfl) ?_ | refine And.intro (.inr rfl) ?_ | refine And.intro rfl ?_ | (unfold hpK; exact trivial))))
   | (refine cut_turn (turn_close (id := 4) (i := 0) (j := 1) (id' := 1) rfl (show 0 < 1 by decide) (show 1 < 6 by decide) rfl rfl (show 4 ≠ 1 by decide) rfl (rowO_le (Nat.le_refl _))) ?_; refine cut_turn (turn_close (id := 4) (i := 0) (j := 2) (id' := 2) rfl (show 0 < 1 by decide) (show 2 < 6 by decide) rfl rfl (show 4 ≠ 2 by decide) rfl (rowO_le (Nat.le_refl _))) ?_; refine cut_turn (turn_close (id := 4) (i := 0) (j := 5) (id' := 3) rfl (show 0 < 1 by decide) (show 5 < 6 by decide) rfl rfl (show 4 ≠ 3 by decide) rfl (rowO_le (Nat.le_refl _))) ?_; refine cut_turn (turn_box (id := 4) (ds := y.part 0) rfl rfl rfl (.cons (.refl _) (.cons (.refl _) (.cons (.refl _) (.cons (.nil _ _) (.cons (.refl _) (.cons (.refl _) .nil))))))) ?_; exact cut_go 4 (by omega) (by repeat' (first | exact trivial | refine And.intro rfl ?_)) (by repeat' (first | exact trivial | refine And.intro (.inl rfl) ?_ | refine And.intro (.inr rfl) ?_ | refine And.intro rfl ?_ | (unfold hpK; exact trivial))))
   | (refine cut_turn (turn_close (id := 4) (i := 0) (j := 1) (id' := 2) rfl (show 0 < 1 by decide) (show 1 < 6 by decide) rfl rfl (show 4 ≠ 2 by decide) rfl (rowO_le (Nat.le_refl _))) ?_; refine cut_turn (turn_close (id := 4) (i := 0) (j := 2) (id' := 3) rfl (show 0 < 1 by decide) (show 2 < 6 by decide) rfl rfl (show 4 ≠ 3 by decide) rfl (rowO_le (Nat.le_refl _))) ?_; refine cut_turn (turn_close (id := 4) (i := 0) (j := 5) (id' := 1) rfl (show 0 < 1 by decide) (show 5 < 6 by decide) rfl rfl (show 4 ≠ 1 by decide) rfl (rowO_le (Nat.le_refl _))) ?_; refine cut_turn (turn_box (id := 4) (ds := y.part 0) rfl rfl rfl (.cons (.refl _) (.cons (.refl _) (.cons (.refl _) (.cons (.nil _ _) (.cons (.refl _) (.cons (.refl _) .nil))))))) ?_; exact cut_go 4 (by omega) (by repeat' (first | exact trivial | refine And.intro rfl ?_)) (by repeat' (first | exact trivial | refine And.intro (.inl rfl) ?_ | refine And.intro (.inr rfl) ?_ | refine And.intro rfl ?_ | (unfold hpK; exact trivial))))
   | trace_state
 rcases hb with rfl | rfl | rfl | rfl
 ·refine wpc_ok _ _ _ _ ?_
  (try dsimp only)
  conv => whnf
  refine loopNT y.stack.length (fun k => [(4, .i .i64 k)]) (fun k => [none, some (.box (y.part k))]) (fun k => True) ⟨trivial, ?_⟩
  repeat' (first | exact aa | ((conv => whnf) <;> (first | refine And.intro ?_ ?_ | (intro _h; first | contradiction | (try simp only [dd] at _h)) | (refine dt_go ?_) | exact rfl | exact True.intro | exact dkk | exact dks | (refine .inr (.inl (.inl ⟨[], _, _, _, l00Own_ok _ (argLe h _), viewA, ⟨rfl, rfl⟩, ?_⟩)); rintro _ _ ⟨rfl, rfl⟩; refine ⟨rfl, _, lokA, ?_⟩) | (refine wrap_succ ?_; omega))))
  rotate_right
  ·conv => whnf
   rename_i k _ _
   obtain rfl : k = y.stack.length := by omega
   exact endM_pick [5, 6, 7, 8] [some (rowL 2 Table.csO y.shelf.tables), some (rowL 3 Thing.cs y.shelf.things), some (rowL 4 Call.csO (y.stack.take y.stack.length)), some (rowL 1 intC y.dead)] (.agg y.resO) (view_of rfl (.cons rfl (.self (rowPl_L fun _ => rfl)) (.cons rfl (.self (rowPl_L fun _ => rfl)) (.cons rfl (.L (by rw [List.take_length]) (fun _ => rfl)) (.cons rfl (.self (rowPl_L fun _ => rfl)) .nil))))) rfl rfl (fun k hk => by rw [hX] at hk; exact absurd hk (Nat.not_lt_zero _)) ⟨rfl, by rw [List.take_length]; rfl⟩
  all_goals (conv => whnf)
  all_goals rename_i k _ _
  all_goals have hk : k < y.stack.length := by omega
  all_goals refine roundNT_turn (turn_close (id := 9) (i := k) (j := 3) (id' := 6) rfl (Nat.lt_succ_self k) (show 3 < 4 by decide) cat_k rfl (show 9 ≠ 6 by decide) rfl ⟨Nat.le_refl _, fun i j _ _ => HoldC.h (c := intC) _ j⟩) ?_
  all_goals refine roundNT_turn (turn_close (id := 1) (i := 0) (j := 3) (id' := 9) rfl (show 0 < 1 by decide) (show 3 < 6 by decide) rfl rfl (show 1 ≠ 9 by decide) rfl ⟨Nat.le_refl _, snoc_idf3 (by rw [List.length_take]; omega) trivial trivial trivial (fun i j _ _ => HoldC.h (c := intC) _ j)⟩) ?_
  all_goals refine roundNT_turn (turn_box (id := 1) (ds := y.part (k + 1)) rfl rfl rfl (.cons (.refl _) (.cons (.refl _) (.cons (.refl _) (.cons (.ow (fun i j _ _ => HoldC.h _ j) (fun i j hi hj => (by rw [take_call hk]; exact snoc_call (t := y.stack.getD k default) (by rw [List.length_take]; omega) rfl rfl rfl rfl (fun i j _ _ => .refl _) i j hi hj))) (.cons (.refl _) (.cons (.refl _) .nil))))))) ?_
  all_goals refine roundNT_end ?_
  repeat' (first | exact aa | ((conv => whnf) <;> (first | refine And.intro ?_ ?_ | (intro _h; first | contradiction | (try simp only [dd] at _h)) | (refine dt_go ?_) | exact rfl | exact True.intro | exact dkk | exact dks | (refine wrap_succ ?_; omega))))
 ·refine wpc_ok _ _ _ _ ?_
  (try dsimp only)
  conv => whnf
  refine loopNT y.stack.length (fun k => [(4, .i .i64 k)]) (fun k => [none, none, some (.box (y.part k))]) (fun k => True) ⟨trivial, ?_⟩
  repeat' (first | exact aa | ((conv => whnf) <;> (first | refine And.intro ?_ ?_ | (intro _h; first | contradiction | (try simp only [dd] at _h)) | (refine dt_go ?_) | exact rfl | exact True.intro | exact dkk | exact dks | (refine .inr (.inl (.inl ⟨[], _, _, _, l00Own_ok _ (argLe h _), viewA, ⟨rfl, rfl⟩, ?_⟩)); rintro _ _ ⟨rfl, rfl⟩; refine ⟨rfl, _, lokA, ?_⟩) | (refine wrap_succ ?_; omega))))
  rotate_right
  ·conv => whnf
   rename_i k _ _
   obtain rfl : k = y.stack.length := by omega
   exact endM_pick [5, 6, 7, 8] [some (rowL 2 Table.csO y.shelf.tables), some (rowL 3 Thing.cs y.shelf.things), some (rowL 4 Call.csO (y.stack.take y.stack.length)), some (rowL 1 intC y.dead)] (.agg y.resO) (view_of rfl (.cons rfl (.self (rowPl_L fun _ => rfl)) (.cons rfl (.self (rowPl_L fun _ => rfl)) (.cons rfl (.L (by rw [List.take_length]) (fun _ => rfl)) (.cons rfl (.self (rowPl_L fun _ => rfl)) .nil))))) rfl rfl (fun k hk => by rw [hX] at hk; exact absurd hk (Nat.not_lt_zero _)) ⟨rfl, by rw [List.take_length]; rfl⟩
  all_goals (conv => whnf)
  all_goals rename_i k _ _
  all_goals have hk : k < y.stack.length := by omega
  all_goals refine roundNT_turn (turn_close (id := 9) (i := k) (j := 3) (id' := 6) rfl (Nat.lt_succ_self k) (show 3 < 4 by decide) cat_k rfl (show 9 ≠ 6 by decide) rfl ⟨Nat.le_refl _, fun i j _ _ => HoldC.h (c := intC) _ j⟩) ?_
  all_goals refine roundNT_turn (turn_close (id := 2) (i := 0) (j := 3) (id' := 9) rfl (show 0 < 1 by decide) (show 3 < 6 by decide) rfl rfl (show 2 ≠ 9 by decide) rfl ⟨Nat.le_refl _, snoc_idf3 (by rw [List.length_take]; omega) trivial trivial trivial (fun i j _ _ => HoldC.h (c := intC) _ j)⟩) ?_
  all_goals refine roundNT_turn (turn_box (id := 2) (ds := y.part (k + 1)) rfl rfl rfl (.cons (.refl _) (.cons (.refl _) (.cons (.refl _) (.cons (.ow (fun i j _ _ => HoldC.h _ j) (fun i j hi hj => (by rw [take_call hk]; exact snoc_call (t := y.stack.getD k default) (by rw [List.length_take]; omega) rfl rfl rfl rfl (fun i j _ _ => .refl _) i j hi hj))) (.cons (.refl _) (.cons (.refl _) .nil))))))) ?_
  all_goals refine roundNT_end ?_
  repeat' (first | exact aa | ((conv => whnf) <;> (first | refine And.intro ?_ ?_ | (intro _h; first | contradiction | (try simp only [dd] at _h)) | (refine dt_go ?_) | exact rfl | exact True.intro | exact dkk | exact dks | (refine wrap_succ ?_; omega))))
 ·refine wpc_ok _ _ _ _ ?_
  (try dsimp only)
  conv => whnf
  refine loopNT y.stack.length (fun k => [(4, .i .i64 k)]) (fun k => [none, none, none, some (.box (y.part k))]) (fun k => True) ⟨trivial, ?_⟩
  repeat' (first | exact aa | ((conv => whnf) <;> (first | refine And.intro ?_ ?_ | (intro _h; first | contradiction | (try simp only [dd] at _h)) | (refine dt_go ?_) | exact rfl | exact True.intro | exact dkk | exact dks | (refine .inr (.inl (.inl ⟨[], _, _, _, l00Own_ok _ (argLe h _), viewA, ⟨rfl, rfl⟩, ?_⟩)); rintro _ _ ⟨rfl, rfl⟩; refine ⟨rfl, _, lokA, ?_⟩) | (refine wrap_succ ?_; omega))))
  rotate_right
  ·conv => whnf
   rename_i k _ _
   obtain rfl : k = y.stack.length := by omega
   exact endM_pick [5, 6, 7, 8] [some (rowL 2 Table.csO y.shelf.tables), some (rowL 3 Thing.cs y.shelf.things), some (rowL 4 Call.csO (y.stack.take y.stack.length)), some (rowL 1 intC y.dead)] (.agg y.resO) (view_of rfl (.cons rfl (.self (rowPl_L fun _ => rfl)) (.cons rfl (.self (rowPl_L fun _ => rfl)) (.cons rfl (.L (by rw [List.take_length]) (fun _ => rfl)) (.cons rfl (.self (rowPl_L fun _ => rfl)) .nil))))) rfl rfl (fun k hk => by rw [hX] at hk; exact absurd hk (Nat.not_lt_zero _)) ⟨rfl, by rw [List.take_length]; rfl⟩
  all_goals (conv => whnf)
  all_goals rename_i k _ _
  all_goals have hk : k < y.stack.length := by omega
  all_goals refine roundNT_turn (turn_close (id := 9) (i := k) (j := 3) (id' := 6) rfl (Nat.lt_succ_self k) (show 3 < 4 by decide) cat_k rfl (show 9 ≠ 6 by decide) rfl ⟨Nat.le_refl _, fun i j _ _ => HoldC.h (c := intC) _ j⟩) ?_
  all_goals refine roundNT_turn (turn_close (id := 3) (i := 0) (j := 3) (id' := 9) rfl (show 0 < 1 by decide) (show 3 < 6 by decide) rfl rfl (show 3 ≠ 9 by decide) rfl ⟨Nat.le_refl _, snoc_idf3 (by rw [List.length_take]; omega) trivial trivial trivial (fun i j _ _ => HoldC.h (c := intC) _ j)⟩) ?_
  all_goals refine roundNT_turn (turn_box (id := 3) (ds := y.part (k + 1)) rfl rfl rfl (.cons (.refl _) (.cons (.refl _) (.cons (.refl _) (.cons (.ow (fun i j _ _ => HoldC.h _ j) (fun i j hi hj => (by rw [take_call hk]; exact snoc_call (t := y.stack.getD k default) (by rw [List.length_take]; omega) rfl rfl rfl rfl (fun i j _ _ => .refl _) i j hi hj))) (.cons (.refl _) (.cons (.refl _) .nil))))))) ?_
  all_goals refine roundNT_end ?_
  repeat' (first | exact aa | ((conv => whnf) <;> (first | refine And.intro ?_ ?_ | (intro _h; first | contradiction | (try simp only [dd] at _h)) | (refine dt_go ?_) | exact rfl | exact True.intro | exact dkk | exact dks | (refine wrap_succ ?_; omega))))
 ·refine wpc_ok _ _ _ _ ?_
  (try dsimp only)
  conv => whnf
  refine loopNT y.stack.length (fun k => [(4, .i .i64 k)]) (fun k => [none, none, none, none, some (.box (y.part k))]) (fun k => True) ⟨trivial, ?_⟩
  repeat' (first | exact aa | ((conv => whnf) <;> (first | refine And.intro ?_ ?_ | (intro _h; first | contradiction | (try simp only [dd] at _h)) | (refine dt_go ?_) | exact rfl | exact True.intro | exact dkk | exact dks | (refine .inr (.inl (.inl ⟨[], _, _, _, l00Own_ok _ (argLe h _), viewA, ⟨rfl, rfl⟩, ?_⟩)); rintro _ _ ⟨rfl, rfl⟩; refine ⟨rfl, _, lokA, ?_⟩) | (refine wrap_succ ?_; omega))))
  rotate_right
  ·conv => whnf
   rename_i k _ _
   obtain rfl : k = y.stack.length := by omega
   exact endM_pick [5, 6, 7, 8] [some (rowL 2 Table.csO y.shelf.tables), some (rowL 3 Thing.cs y.shelf.things), some (rowL 4 Call.csO (y.stack.take y.stack.length)), some (rowL 1 intC y.dead)] (.agg y.resO) (view_of rfl (.cons rfl (.self (rowPl_L fun _ => rfl)) (.cons rfl (.self (rowPl_L fun _ => rfl)) (.cons rfl (.L (by rw [List.take_length]) (fun _ => rfl)) (.cons rfl (.self (rowPl_L fun _ => rfl)) .nil))))) rfl rfl (fun k hk => by rw [hX] at hk; exact absurd hk (Nat.not_lt_zero _)) ⟨rfl, by rw [List.take_length]; rfl⟩
  all_goals (conv => whnf)
  all_goals rename_i k _ _
  all_goals have hk : k < y.stack.length := by omega
  all_goals refine roundNT_turn (turn_close (id := 9) (i := k) (j := 3) (id' := 6) rfl (Nat.lt_succ_self k) (show 3 < 4 by decide) cat_k rfl (show 9 ≠ 6 by decide) rfl ⟨Nat.le_refl _, fun i j _ _ => HoldC.h (c := intC) _ j⟩) ?_
  all_goals refine roundNT_turn (turn_close (id := 4) (i := 0) (j := 3) (id' := 9) rfl (show 0 < 1 by decide) (show 3 < 6 by decide) rfl rfl (show 4 ≠ 9 by decide) rfl ⟨Nat.le_refl _, snoc_idf3 (by rw [List.length_take]; omega) trivial trivial trivial (fun i j _ _ => HoldC.h (c := intC) _ j)⟩) ?_
  all_goals refine roundNT_turn (turn_box (id := 4) (ds := y.part (k + 1)) rfl rfl rfl (.cons (.refl _) (.cons (.refl _) (.cons (.refl _) (.cons (.ow (fun i j _ _ => HoldC.h _ j) (fun i j hi hj => (by rw [take_call hk]; exact snoc_call (t := y.stack.getD k default) (by rw [List.length_take]; omega) rfl rfl rfl rfl (fun i j _ _ => .refl _) i j hi hj))) (.cons (.refl _) (.cons (.refl _) .nil))))))) ?_
  all_goals refine roundNT_end ?_
  repeat' (first | exact aa | ((conv => whnf) <;> (first | refine And.intro ?_ ?_ | (intro _h; first | contradiction | (try simp only [dd] at _h)) | (refine dt_go ?_) | exact rfl | exact True.intro | exact dkk | exact dks | (refine wrap_succ ?_; omega))))
def Table.put (t : Table) (e : Entry) : Table := ⟨t.next + 1, t.entries ++ [{ e with num := t.next }]⟩
def Shelf.put (s : Shelf) (who : Nat) (e : Entry) : Shelf := ⟨s.next, s.tables.set who ((s.tables.getD who default).put e), s.things⟩
theorem capB2 {n b : Nat} (h : n ≤ 1048576) (hb : b ≤ 1000) : (n + 1) * b ≤ 140737488355328 :=
 Nat.le_trans (Nat.mul_le_mul (show n + 1 ≤ 1048577 by omega) hb) (by decide)
theorem capN2 {n : Nat} (h : n ≤ 1048576) : n + 1 ≤ 9223372036854775807 := by omega
end Go.Proofs.YtmjjadcmmpfljaaGreat
