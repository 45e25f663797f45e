/-
  Shelves that are changed: an entry is cut. Printed by mvd.py.
-/
import Derived.Test.YtaiohiincgpomaaVMvB
namespace Go.Proofs.Ytaiohiincgpomaa
open Go Go.RowKit
set_option linter.unusedVariables false
set_option linter.unusedSimpArgs false

/-- The entries that stay when those of a number are cut. -/
def cutL (num : Int) (l : List Entry) : List Entry := l.filter (fun e => !numP num e)
def Shelf.cut (s : Shelf) (w : Nat) (num : Int) : Shelf := s.setE w (cutL num (s.tables.getD w default).entries)
theorem cutL_le {num : Int} {l : List Entry} : (cutL num l).length ≤ l.length := List.length_filter_le _ _
theorem cutL_hit {num : Int} {l : List Entry} {k : Nat} (hk : k < l.length) (h : (l.getD k default).num = num) : cutL num (l.take (k + 1)) = cutL num (l.take k) := by
  have hp : (!numP num (l.getD k default)) = false := by simp only [numP, h, decide_true, Bool.not_true]
  rw [take_snoc hk]
  unfold cutL
  rw [List.filter_append]
  simp only [List.filter, hp, List.append_nil]
theorem cutL_miss {num : Int} {l : List Entry} {k : Nat} (hk : k < l.length) (h : ¬ (l.getD k default).num = num) : cutL num (l.take (k + 1)) = cutL num (l.take k) ++ [l.getD k default] := by
  have hp : (!numP num (l.getD k default)) = true := by simp only [numP, h, decide_false, Bool.not_false]
  rw [take_snoc hk]
  unfold cutL
  rw [List.filter_append]
  simp only [List.filter, hp]
theorem cutT_le {num : Int} {l : List Entry} {i : Nat} : (cutL num (l.take i)).length ≤ i ∧ (cutL num (l.take i)).length ≤ l.length := by
  have h1 := cutL_le (num := num) (l := l.take i)
  rw [List.length_take] at h1
  omega
theorem arr_zero {r : List Nat} {n sz cap cap' : Nat} {e e' : Nat → Nat → AV} {k : RK} (hc : cap = 0) (hc' : cap' = 0) : ArrP r n ⟨sz, cap, e, k⟩ ⟨sz, cap', e', k⟩ := by
  subst hc hc'
  exact ⟨rfl, rfl, rfl, fun i j hi => absurd hi (Nat.not_lt_zero _), fun i j hi => absurd hi (Nat.not_lt_zero _)⟩
theorem cutL_all {num : Int} {l : List Entry} {k : Nat} (hk : ¬ k < l.length) : cutL num (l.take k) = cutL num l := by rw [List.take_of_length_le (by omega)]
theorem arr_snoc {α : Type} [Inhabited α] {r : List Nat} {n sz k cap cap' : Nat} {c : α → List AV} {l l' : List α} {a : α} {g : Nat → Nat → AV} {bx : RK} (e : l' = l ++ [a]) (hk : k = l.length) (hc : cap' = cap) (hcap : cap = l.length + 1) (hlow : ∀ a j, fx r n ((c a).getD j .any) = true)
    (h1 : ∀ j, j < sz → g 0 j = (c a).getD j .any) : ArrP r n ⟨sz, cap, elE c l', bx⟩ ⟨sz, cap', catE k (elE c l) g, bx⟩ :=
  ⟨rfl, hc, rfl, fun i j hi hj => by
    show catE k (elE c l) g i j = elE c l' i j
    subst e
    rw [catE_at]
    unfold elE
    rw [getD_snoc]
    by_cases h' : i < k
    · rw [if_pos h', if_pos (by omega)]
    · rw [if_neg h', if_neg (by omega)]
      by_cases h2 : i = l.length
      · rw [if_pos h2, show i - k = 0 by omega]; exact h1 j hj
      · exfalso; have : i < cap := hi; have hcl := hcap; omega, fun i j _ _ => hlow _ _⟩

theorem fx_Tr {r : List Nat} {n w id m i j : Nat} {l : List Table} (h : id < n) (hr : rhoF r id = id) : fx r n (upd (elE Table.csO l) w 1 [.row id m] i j) = true := by
  rw [upd_one]
  split
  · simp [fx, hr, h]
  · exact low_cells rfl
theorem rho_keep {X : Ctx} {x : Option Row} {r : List Nat} {id : Nat} (hX : X.H0 = [x]) (h : id < X.H0.length) : rhoF (0 :: r) id = id := by
  rw [hX] at h
  obtain rfl : id = 0 := by simpa using h
  rfl
/-- A slot that is not looked at any more. -/
def delS (t : Nat) : Fr → Fr
  | [] => []
  | (d, v) :: f => bif Nat.beq d t then delS t f else (d, v) :: delS t f
theorem lk_delS {t u : Nat} : ∀ {f : Fr}, lk (delS t f) u = lk f u ∨ lk (delS t f) u = .any
  | [] => .inl rfl
  | (d, v) :: f => by
    unfold delS
    cases hb : Nat.beq d t with
    | true =>
      rw [cond_true]
      by_cases hu : d = u
      · right
        have hd := Nat.eq_of_beq_eq_true hb
        subst hd
        subst hu
        clear hb
        induction f with
        | nil => rfl
        | cons p f ih =>
          obtain ⟨e, z⟩ := p
          unfold delS
          cases hb : Nat.beq e d with
          | true => exact ih
          | false =>
            rw [cond_false, lk_cons, if_neg (fun q => by rw [q, Nat.beq_refl] at hb; cases hb)]
            exact ih
      · rw [lk_cons, if_neg hu]
        exact lk_delS
    | false =>
      rw [cond_false, lk_cons, lk_cons]
      split
      · exact .inl rfl
      · exact lk_delS
theorem lw_del {P : Program} {nt : Nat} {X : Ctx} {f : Fr} {Hh : Hp} {c : Code} {Q : Exit → Fr → Hp → Prop} (t : Nat) (h : LW P nt X c (delS t f) Hh Q) : LW P nt X c f Hh Q :=
  ⟨fun a w s => h.pw a w (by
    obtain ⟨blk, FP, s⟩ := s
    refine ⟨blk, FP, s.defers, s.size, s.keeps, s.rows, s.apart, fun u => ?_, s.ext⟩
    rcases lk_delS (t := t) (u := u) (f := f) with e | e
    · rw [e]; exact s.fr u
    · rw [e]; exact .any _)⟩
/-- The row of tables, one closed with what it holds then. -/
theorem setE_rows3 {s : Shelf} {w n m m0 id m1 id1 : Nat} {l : List Entry} {es : Nat → Nat → AV} (hw : w < s.tables.length) (hm : m = l.length) (he : ∀ i j, i < m → j < 7 → OwEq (es i j) (elE Entry.cs l i j)) : ∀ i j, i < n → j < 2 → OwEq (upd (upd (upd (elE Table.csO s.tables) w 1 [.row id m0]) w 1 [.row id1 m1]) w 1 [.ow 7 m es] i j) (elE Table.csO (s.setE w l).tables i j) := fun i j hi hj => by
  have := setE_rows (n := n) (m0 := m0) (id := id) hw hm he i j hi hj
  rw [upd_one, upd_one] at this
  rw [upd_one, upd_one, upd_one]
  split <;> rename_i e
  · rw [if_pos e] at this
    exact this
  · rw [if_neg e, if_neg e] at this
    exact this

set_option maxRecDepth 8000 in
set_option maxHeartbeats 2000000 in
theorem l19Cut_ok0 (s : Shelf) (h : s.ok) (num : Int) (hw : 0 ≤ (0 : Int) ∧ (0 : Int) < (s.tables.length : Int)) (h7 : s.tables.length ≤ 7) : RetM env.P 124 [some (boxRow s.csO)] [.ptr 0 0 0, .i .i64 (0 : Int), .i .i64 num] (fun r H => r = .tup [] ∧ H = [some (boxRow (s.cut (0 : Int).toNat num).csO)]) := by
  have hl : s.tables.length ≤ 1048576 := h.1.1
  have hw2 : (0 : Int).toNat < s.tables.length := by omega
  have he : (s.tables.getD (0 : Int).toNat default).entries.length ≤ 1048576 := entLe h _
  refine ret_ofM (nt := 46) (rvs := []) Try.func124 rfl rfl rfl rfl (fun X hX => ?_)
  repeat' (first | omega | (with_reducible show (_ : Int) < _; dsimp only; omega) | (with_reducible show (_ : Nat) ≤ _; dsimp only; omega) | exact srcOk_1 rfl | exact srcOk_L (fun _ => ⟨rfl, rfl⟩) | exact srcOk_E (fun _ => ⟨rfl, rfl⟩) | ((conv => whnf) <;> (first | (refine lw_del 9 ?_; refine loopF (fun k : Nat => [(8, .i .i64 k), (6, .row 1 (cutL num ((s.tables.getD (0 : Int).toNat default).entries.take k)).length)]) (fun k => [none, some (.arr ⟨7, (cutL num ((s.tables.getD (0 : Int).toNat default).entries.take k)).length, elE Entry.cs (cutL num ((s.tables.getD (0 : Int).toNat default).entries.take k)), .arr⟩)]) (fun k => k ≤ (s.tables.getD (0 : Int).toNat default).entries.length) (fun k => (s.tables.getD (0 : Int).toNat default).entries.length - k) 0 ⟨Nat.zero_le _, ?_⟩) | exact arr_zero rfl rfl | exact low_cells rfl | exact fx_Tr (n := 4) (show 3 < 4 by decide) rfl | exact rho_keep hX _h | exact capB2 (Nat.le_trans cutT_le.2 he) (by decide) | exact capN2 (Nat.le_trans cutT_le.2 he) | refine And.intro ?_ ?_ | (intro _h; first | contradiction | (try simp only [decide_eq_true_eq, Bool.not_eq_true', Bool.not_eq_false', decide_eq_false_iff_not, Bool.not_eq_true, Decidable.not_not, Bool.true_eq_false, Bool.false_eq_true, pb_t, pb_f] at _h)) | (refine dt_go ?_) | exact rfl | exact True.intro | (refine dok ?_; kernel_rfl) | (refine doks ?_; kernel_rfl) | (refine wrap_succ ?_; omega))))
  · rename_i k _ _
    have hk : k < (s.tables.getD (0 : Int).toNat default).entries.length := by omega
    have hc := cutL_miss (num := num) hk (by simpa using _h)
    have hlen : (cutL num ((s.tables.getD (0 : Int).toNat default).entries.take (k + 1))).length = (cutL num ((s.tables.getD (0 : Int).toNat default).entries.take k)).length + 1 := by rw [hc, List.length_append, List.length_singleton]
    refine ⟨k + 1, [0, 5, 2, 3], hk, (show (s.tables.getD (0 : Int).toNat default).entries.length - (k + 1) < (s.tables.getD (0 : Int).toNat default).entries.length - k by omega), ?_⟩
    repeat' (first | omega | (with_reducible show (_ : Int) < _; dsimp only; omega) | (with_reducible show (_ : Nat) ≤ _; dsimp only; omega) | exact srcOk_1 rfl | exact srcOk_L (fun _ => ⟨rfl, rfl⟩) | exact srcOk_E (fun _ => ⟨rfl, rfl⟩) | ((conv => whnf) <;> (first | exact arr_zero rfl rfl | exact low_cells rfl | exact fx_Tr (n := 4) (show 3 < 4 by decide) rfl | exact rho_keep hX _h | exact capB2 (Nat.le_trans cutT_le.2 he) (by decide) | exact capN2 (Nat.le_trans cutT_le.2 he) | exact hlen | exact hlen.symm | exact arr_snoc hc rfl hlen.symm hlen (fun a j => low_cells rfl) (fun j hj => rfl) | refine And.intro ?_ ?_ | (intro _h; first | contradiction | (try simp only [decide_eq_true_eq, Bool.not_eq_true', Bool.not_eq_false', decide_eq_false_iff_not, Bool.not_eq_true, Decidable.not_not, Bool.true_eq_false, Bool.false_eq_true, pb_t, pb_f] at _h)) | (refine dt_go ?_) | exact rfl | exact True.intro | (refine dok ?_; kernel_rfl) | (refine doks ?_; kernel_rfl) | (refine wrap_succ ?_; omega))))
  · rename_i k _ _
    have hk : k < (s.tables.getD (0 : Int).toNat default).entries.length := by omega
    have hc := cutL_hit (num := num) hk (by simpa using _h)
    have hlen : (cutL num ((s.tables.getD (0 : Int).toNat default).entries.take (k + 1))).length = (cutL num ((s.tables.getD (0 : Int).toNat default).entries.take k)).length := by rw [hc]
    refine ⟨k + 1, [], hk, (show (s.tables.getD (0 : Int).toNat default).entries.length - (k + 1) < (s.tables.getD (0 : Int).toNat default).entries.length - k by omega), ?_⟩
    repeat' (first | omega | (with_reducible show (_ : Int) < _; dsimp only; omega) | (with_reducible show (_ : Nat) ≤ _; dsimp only; omega) | exact srcOk_1 rfl | exact srcOk_L (fun _ => ⟨rfl, rfl⟩) | exact srcOk_E (fun _ => ⟨rfl, rfl⟩) | ((conv => whnf) <;> (first | exact arr_zero rfl rfl | exact low_cells rfl | exact fx_Tr (n := 4) (show 3 < 4 by decide) rfl | exact rho_keep hX _h | exact capB2 (Nat.le_trans cutT_le.2 he) (by decide) | exact capN2 (Nat.le_trans cutT_le.2 he) | exact hlen | exact hlen.symm | exact arr_same hc hlen.symm (fun a j => low_cells rfl) | refine And.intro ?_ ?_ | (intro _h; first | contradiction | (try simp only [decide_eq_true_eq, Bool.not_eq_true', Bool.not_eq_false', decide_eq_false_iff_not, Bool.not_eq_true, Decidable.not_not, Bool.true_eq_false, Bool.false_eq_true, pb_t, pb_f] at _h)) | (refine dt_go ?_) | exact rfl | exact True.intro | (refine dok ?_; kernel_rfl) | (refine doks ?_; kernel_rfl) | (refine wrap_succ ?_; omega))))
  all_goals (conv => whnf)
  rename_i k _
  have hcut : s.cut (0 : Int).toNat num = s.setE (0 : Int).toNat (cutL num ((s.tables.getD (0 : Int).toNat default).entries.take k)) := by
    unfold Shelf.cut
    rw [cutL_all (by omega)]
  refine endM_turn (turn_close (id := 2) (i := (0 : Int).toNat) (j := 1) (id' := 1) rfl hw2 (show 1 < 2 by decide) (by first | (simp only [upd, Nat.beq_refl]; rfl) | (simp only [Shelf.rowT, upd, Nat.beq_refl]; rfl) | exact rowT_at) rfl (show 2 ≠ 1 by decide) rfl (rowO_le (Nat.le_refl _))) ?_
  refine endM_turn (turn_eq (id := 2) (x := rowL 2 Table.csO (s.setE (0 : Int).toNat (cutL num ((s.tables.getD (0 : Int).toNat default).entries.take k))).tables) rfl rfl setE_len rfl rfl (setE_rows3 (l := (cutL num ((s.tables.getD (0 : Int).toNat default).entries.take k))) hw2 rfl (fun i j _ _ => .refl _))) ?_
  refine endM_turn (turn_close (id := 0) (i := 0) (j := 1) (id' := 2) rfl (show 0 < 1 by decide) (show 1 < 3 by decide) rfl rfl (show 0 ≠ 2 by decide) rfl (rowO_le (Nat.le_of_eq setE_len.symm))) ?_
  refine endM_turn (turn_box (id := 0) (ds := (s.setE (0 : Int).toNat (cutL num ((s.tables.getD (0 : Int).toNat default).entries.take k))).csO) rfl rfl rfl (.cons (.refl _) (.cons (OwEq.len setE_len.symm (fun i j _ _ => HoldC.h _ j) (fun i j _ _ => .refl _)) (.cons (.refl _) .nil)))) ?_
  exact endM_pick [0] [some (boxRow (s.setE (0 : Int).toNat (cutL num ((s.tables.getD (0 : Int).toNat default).entries.take k))).csO)] (.tup []) (view_of rfl (.cons rfl (.self (rowPl_box rfl)) .nil)) rfl rfl (by rw [hX]; exact keepK (n := 1) rfl rfl) ⟨rfl, by rw [hcut]⟩

set_option maxRecDepth 8000 in
set_option maxHeartbeats 2000000 in
theorem l19Cut_ok1 (s : Shelf) (h : s.ok) (num : Int) (hw : 0 ≤ (1 : Int) ∧ (1 : Int) < (s.tables.length : Int)) (h7 : s.tables.length ≤ 7) : RetM env.P 124 [some (boxRow s.csO)] [.ptr 0 0 0, .i .i64 (1 : Int), .i .i64 num] (fun r H => r = .tup [] ∧ H = [some (boxRow (s.cut (1 : Int).toNat num).csO)]) := by
  have hl : s.tables.length ≤ 1048576 := h.1.1
  have hw2 : (1 : Int).toNat < s.tables.length := by omega
  have he : (s.tables.getD (1 : Int).toNat default).entries.length ≤ 1048576 := entLe h _
  refine ret_ofM (nt := 46) (rvs := []) Try.func124 rfl rfl rfl rfl (fun X hX => ?_)
  repeat' (first | omega | (with_reducible show (_ : Int) < _; dsimp only; omega) | (with_reducible show (_ : Nat) ≤ _; dsimp only; omega) | exact srcOk_1 rfl | exact srcOk_L (fun _ => ⟨rfl, rfl⟩) | exact srcOk_E (fun _ => ⟨rfl, rfl⟩) | ((conv => whnf) <;> (first | (refine lw_del 9 ?_; refine loopF (fun k : Nat => [(8, .i .i64 k), (6, .row 1 (cutL num ((s.tables.getD (1 : Int).toNat default).entries.take k)).length)]) (fun k => [none, some (.arr ⟨7, (cutL num ((s.tables.getD (1 : Int).toNat default).entries.take k)).length, elE Entry.cs (cutL num ((s.tables.getD (1 : Int).toNat default).entries.take k)), .arr⟩)]) (fun k => k ≤ (s.tables.getD (1 : Int).toNat default).entries.length) (fun k => (s.tables.getD (1 : Int).toNat default).entries.length - k) 0 ⟨Nat.zero_le _, ?_⟩) | exact arr_zero rfl rfl | exact low_cells rfl | exact fx_Tr (n := 4) (show 3 < 4 by decide) rfl | exact rho_keep hX _h | exact capB2 (Nat.le_trans cutT_le.2 he) (by decide) | exact capN2 (Nat.le_trans cutT_le.2 he) | refine And.intro ?_ ?_ | (intro _h; first | contradiction | (try simp only [decide_eq_true_eq, Bool.not_eq_true', Bool.not_eq_false', decide_eq_false_iff_not, Bool.not_eq_true, Decidable.not_not, Bool.true_eq_false, Bool.false_eq_true, pb_t, pb_f] at _h)) | (refine dt_go ?_) | exact rfl | exact True.intro | (refine dok ?_; kernel_rfl) | (refine doks ?_; kernel_rfl) | (refine wrap_succ ?_; omega))))
  · rename_i k _ _
    have hk : k < (s.tables.getD (1 : Int).toNat default).entries.length := by omega
    have hc := cutL_miss (num := num) hk (by simpa using _h)
    have hlen : (cutL num ((s.tables.getD (1 : Int).toNat default).entries.take (k + 1))).length = (cutL num ((s.tables.getD (1 : Int).toNat default).entries.take k)).length + 1 := by rw [hc, List.length_append, List.length_singleton]
    refine ⟨k + 1, [0, 5, 2, 3], hk, (show (s.tables.getD (1 : Int).toNat default).entries.length - (k + 1) < (s.tables.getD (1 : Int).toNat default).entries.length - k by omega), ?_⟩
    repeat' (first | omega | (with_reducible show (_ : Int) < _; dsimp only; omega) | (with_reducible show (_ : Nat) ≤ _; dsimp only; omega) | exact srcOk_1 rfl | exact srcOk_L (fun _ => ⟨rfl, rfl⟩) | exact srcOk_E (fun _ => ⟨rfl, rfl⟩) | ((conv => whnf) <;> (first | exact arr_zero rfl rfl | exact low_cells rfl | exact fx_Tr (n := 4) (show 3 < 4 by decide) rfl | exact rho_keep hX _h | exact capB2 (Nat.le_trans cutT_le.2 he) (by decide) | exact capN2 (Nat.le_trans cutT_le.2 he) | exact hlen | exact hlen.symm | exact arr_snoc hc rfl hlen.symm hlen (fun a j => low_cells rfl) (fun j hj => rfl) | refine And.intro ?_ ?_ | (intro _h; first | contradiction | (try simp only [decide_eq_true_eq, Bool.not_eq_true', Bool.not_eq_false', decide_eq_false_iff_not, Bool.not_eq_true, Decidable.not_not, Bool.true_eq_false, Bool.false_eq_true, pb_t, pb_f] at _h)) | (refine dt_go ?_) | exact rfl | exact True.intro | (refine dok ?_; kernel_rfl) | (refine doks ?_; kernel_rfl) | (refine wrap_succ ?_; omega))))
  · rename_i k _ _
    have hk : k < (s.tables.getD (1 : Int).toNat default).entries.length := by omega
    have hc := cutL_hit (num := num) hk (by simpa using _h)
    have hlen : (cutL num ((s.tables.getD (1 : Int).toNat default).entries.take (k + 1))).length = (cutL num ((s.tables.getD (1 : Int).toNat default).entries.take k)).length := by rw [hc]
    refine ⟨k + 1, [], hk, (show (s.tables.getD (1 : Int).toNat default).entries.length - (k + 1) < (s.tables.getD (1 : Int).toNat default).entries.length - k by omega), ?_⟩
    repeat' (first | omega | (with_reducible show (_ : Int) < _; dsimp only; omega) | (with_reducible show (_ : Nat) ≤ _; dsimp only; omega) | exact srcOk_1 rfl | exact srcOk_L (fun _ => ⟨rfl, rfl⟩) | exact srcOk_E (fun _ => ⟨rfl, rfl⟩) | ((conv => whnf) <;> (first | exact arr_zero rfl rfl | exact low_cells rfl | exact fx_Tr (n := 4) (show 3 < 4 by decide) rfl | exact rho_keep hX _h | exact capB2 (Nat.le_trans cutT_le.2 he) (by decide) | exact capN2 (Nat.le_trans cutT_le.2 he) | exact hlen | exact hlen.symm | exact arr_same hc hlen.symm (fun a j => low_cells rfl) | refine And.intro ?_ ?_ | (intro _h; first | contradiction | (try simp only [decide_eq_true_eq, Bool.not_eq_true', Bool.not_eq_false', decide_eq_false_iff_not, Bool.not_eq_true, Decidable.not_not, Bool.true_eq_false, Bool.false_eq_true, pb_t, pb_f] at _h)) | (refine dt_go ?_) | exact rfl | exact True.intro | (refine dok ?_; kernel_rfl) | (refine doks ?_; kernel_rfl) | (refine wrap_succ ?_; omega))))
  all_goals (conv => whnf)
  rename_i k _
  have hcut : s.cut (1 : Int).toNat num = s.setE (1 : Int).toNat (cutL num ((s.tables.getD (1 : Int).toNat default).entries.take k)) := by
    unfold Shelf.cut
    rw [cutL_all (by omega)]
  refine endM_turn (turn_close (id := 2) (i := (1 : Int).toNat) (j := 1) (id' := 1) rfl hw2 (show 1 < 2 by decide) (by first | (simp only [upd, Nat.beq_refl]; rfl) | (simp only [Shelf.rowT, upd, Nat.beq_refl]; rfl) | exact rowT_at) rfl (show 2 ≠ 1 by decide) rfl (rowO_le (Nat.le_refl _))) ?_
  refine endM_turn (turn_eq (id := 2) (x := rowL 2 Table.csO (s.setE (1 : Int).toNat (cutL num ((s.tables.getD (1 : Int).toNat default).entries.take k))).tables) rfl rfl setE_len rfl rfl (setE_rows3 (l := (cutL num ((s.tables.getD (1 : Int).toNat default).entries.take k))) hw2 rfl (fun i j _ _ => .refl _))) ?_
  refine endM_turn (turn_close (id := 0) (i := 0) (j := 1) (id' := 2) rfl (show 0 < 1 by decide) (show 1 < 3 by decide) rfl rfl (show 0 ≠ 2 by decide) rfl (rowO_le (Nat.le_of_eq setE_len.symm))) ?_
  refine endM_turn (turn_box (id := 0) (ds := (s.setE (1 : Int).toNat (cutL num ((s.tables.getD (1 : Int).toNat default).entries.take k))).csO) rfl rfl rfl (.cons (.refl _) (.cons (OwEq.len setE_len.symm (fun i j _ _ => HoldC.h _ j) (fun i j _ _ => .refl _)) (.cons (.refl _) .nil)))) ?_
  exact endM_pick [0] [some (boxRow (s.setE (1 : Int).toNat (cutL num ((s.tables.getD (1 : Int).toNat default).entries.take k))).csO)] (.tup []) (view_of rfl (.cons rfl (.self (rowPl_box rfl)) .nil)) rfl rfl (by rw [hX]; exact keepK (n := 1) rfl rfl) ⟨rfl, by rw [hcut]⟩

set_option maxRecDepth 8000 in
set_option maxHeartbeats 2000000 in
theorem l19Cut_ok2 (s : Shelf) (h : s.ok) (num : Int) (hw : 0 ≤ (2 : Int) ∧ (2 : Int) < (s.tables.length : Int)) (h7 : s.tables.length ≤ 7) : RetM env.P 124 [some (boxRow s.csO)] [.ptr 0 0 0, .i .i64 (2 : Int), .i .i64 num] (fun r H => r = .tup [] ∧ H = [some (boxRow (s.cut (2 : Int).toNat num).csO)]) := by
  have hl : s.tables.length ≤ 1048576 := h.1.1
  have hw2 : (2 : Int).toNat < s.tables.length := by omega
  have he : (s.tables.getD (2 : Int).toNat default).entries.length ≤ 1048576 := entLe h _
  refine ret_ofM (nt := 46) (rvs := []) Try.func124 rfl rfl rfl rfl (fun X hX => ?_)
  repeat' (first | omega | (with_reducible show (_ : Int) < _; dsimp only; omega) | (with_reducible show (_ : Nat) ≤ _; dsimp only; omega) | exact srcOk_1 rfl | exact srcOk_L (fun _ => ⟨rfl, rfl⟩) | exact srcOk_E (fun _ => ⟨rfl, rfl⟩) | ((conv => whnf) <;> (first | (refine lw_del 9 ?_; refine loopF (fun k : Nat => [(8, .i .i64 k), (6, .row 1 (cutL num ((s.tables.getD (2 : Int).toNat default).entries.take k)).length)]) (fun k => [none, some (.arr ⟨7, (cutL num ((s.tables.getD (2 : Int).toNat default).entries.take k)).length, elE Entry.cs (cutL num ((s.tables.getD (2 : Int).toNat default).entries.take k)), .arr⟩)]) (fun k => k ≤ (s.tables.getD (2 : Int).toNat default).entries.length) (fun k => (s.tables.getD (2 : Int).toNat default).entries.length - k) 0 ⟨Nat.zero_le _, ?_⟩) | exact arr_zero rfl rfl | exact low_cells rfl | exact fx_Tr (n := 4) (show 3 < 4 by decide) rfl | exact rho_keep hX _h | exact capB2 (Nat.le_trans cutT_le.2 he) (by decide) | exact capN2 (Nat.le_trans cutT_le.2 he) | refine And.intro ?_ ?_ | (intro _h; first | contradiction | (try simp only [decide_eq_true_eq, Bool.not_eq_true', Bool.not_eq_false', decide_eq_false_iff_not, Bool.not_eq_true, Decidable.not_not, Bool.true_eq_false, Bool.false_eq_true, pb_t, pb_f] at _h)) | (refine dt_go ?_) | exact rfl | exact True.intro | (refine dok ?_; kernel_rfl) | (refine doks ?_; kernel_rfl) | (refine wrap_succ ?_; omega))))
  · rename_i k _ _
    have hk : k < (s.tables.getD (2 : Int).toNat default).entries.length := by omega
    have hc := cutL_miss (num := num) hk (by simpa using _h)
    have hlen : (cutL num ((s.tables.getD (2 : Int).toNat default).entries.take (k + 1))).length = (cutL num ((s.tables.getD (2 : Int).toNat default).entries.take k)).length + 1 := by rw [hc, List.length_append, List.length_singleton]
    refine ⟨k + 1, [0, 5, 2, 3], hk, (show (s.tables.getD (2 : Int).toNat default).entries.length - (k + 1) < (s.tables.getD (2 : Int).toNat default).entries.length - k by omega), ?_⟩
    repeat' (first | omega | (with_reducible show (_ : Int) < _; dsimp only; omega) | (with_reducible show (_ : Nat) ≤ _; dsimp only; omega) | exact srcOk_1 rfl | exact srcOk_L (fun _ => ⟨rfl, rfl⟩) | exact srcOk_E (fun _ => ⟨rfl, rfl⟩) | ((conv => whnf) <;> (first | exact arr_zero rfl rfl | exact low_cells rfl | exact fx_Tr (n := 4) (show 3 < 4 by decide) rfl | exact rho_keep hX _h | exact capB2 (Nat.le_trans cutT_le.2 he) (by decide) | exact capN2 (Nat.le_trans cutT_le.2 he) | exact hlen | exact hlen.symm | exact arr_snoc hc rfl hlen.symm hlen (fun a j => low_cells rfl) (fun j hj => rfl) | refine And.intro ?_ ?_ | (intro _h; first | contradiction | (try simp only [decide_eq_true_eq, Bool.not_eq_true', Bool.not_eq_false', decide_eq_false_iff_not, Bool.not_eq_true, Decidable.not_not, Bool.true_eq_false, Bool.false_eq_true, pb_t, pb_f] at _h)) | (refine dt_go ?_) | exact rfl | exact True.intro | (refine dok ?_; kernel_rfl) | (refine doks ?_; kernel_rfl) | (refine wrap_succ ?_; omega))))
  · rename_i k _ _
    have hk : k < (s.tables.getD (2 : Int).toNat default).entries.length := by omega
    have hc := cutL_hit (num := num) hk (by simpa using _h)
    have hlen : (cutL num ((s.tables.getD (2 : Int).toNat default).entries.take (k + 1))).length = (cutL num ((s.tables.getD (2 : Int).toNat default).entries.take k)).length := by rw [hc]
    refine ⟨k + 1, [], hk, (show (s.tables.getD (2 : Int).toNat default).entries.length - (k + 1) < (s.tables.getD (2 : Int).toNat default).entries.length - k by omega), ?_⟩
    repeat' (first | omega | (with_reducible show (_ : Int) < _; dsimp only; omega) | (with_reducible show (_ : Nat) ≤ _; dsimp only; omega) | exact srcOk_1 rfl | exact srcOk_L (fun _ => ⟨rfl, rfl⟩) | exact srcOk_E (fun _ => ⟨rfl, rfl⟩) | ((conv => whnf) <;> (first | exact arr_zero rfl rfl | exact low_cells rfl | exact fx_Tr (n := 4) (show 3 < 4 by decide) rfl | exact rho_keep hX _h | exact capB2 (Nat.le_trans cutT_le.2 he) (by decide) | exact capN2 (Nat.le_trans cutT_le.2 he) | exact hlen | exact hlen.symm | exact arr_same hc hlen.symm (fun a j => low_cells rfl) | refine And.intro ?_ ?_ | (intro _h; first | contradiction | (try simp only [decide_eq_true_eq, Bool.not_eq_true', Bool.not_eq_false', decide_eq_false_iff_not, Bool.not_eq_true, Decidable.not_not, Bool.true_eq_false, Bool.false_eq_true, pb_t, pb_f] at _h)) | (refine dt_go ?_) | exact rfl | exact True.intro | (refine dok ?_; kernel_rfl) | (refine doks ?_; kernel_rfl) | (refine wrap_succ ?_; omega))))
  all_goals (conv => whnf)
  rename_i k _
  have hcut : s.cut (2 : Int).toNat num = s.setE (2 : Int).toNat (cutL num ((s.tables.getD (2 : Int).toNat default).entries.take k)) := by
    unfold Shelf.cut
    rw [cutL_all (by omega)]
  refine endM_turn (turn_close (id := 2) (i := (2 : Int).toNat) (j := 1) (id' := 1) rfl hw2 (show 1 < 2 by decide) (by first | (simp only [upd, Nat.beq_refl]; rfl) | (simp only [Shelf.rowT, upd, Nat.beq_refl]; rfl) | exact rowT_at) rfl (show 2 ≠ 1 by decide) rfl (rowO_le (Nat.le_refl _))) ?_
  refine endM_turn (turn_eq (id := 2) (x := rowL 2 Table.csO (s.setE (2 : Int).toNat (cutL num ((s.tables.getD (2 : Int).toNat default).entries.take k))).tables) rfl rfl setE_len rfl rfl (setE_rows3 (l := (cutL num ((s.tables.getD (2 : Int).toNat default).entries.take k))) hw2 rfl (fun i j _ _ => .refl _))) ?_
  refine endM_turn (turn_close (id := 0) (i := 0) (j := 1) (id' := 2) rfl (show 0 < 1 by decide) (show 1 < 3 by decide) rfl rfl (show 0 ≠ 2 by decide) rfl (rowO_le (Nat.le_of_eq setE_len.symm))) ?_
  refine endM_turn (turn_box (id := 0) (ds := (s.setE (2 : Int).toNat (cutL num ((s.tables.getD (2 : Int).toNat default).entries.take k))).csO) rfl rfl rfl (.cons (.refl _) (.cons (OwEq.len setE_len.symm (fun i j _ _ => HoldC.h _ j) (fun i j _ _ => .refl _)) (.cons (.refl _) .nil)))) ?_
  exact endM_pick [0] [some (boxRow (s.setE (2 : Int).toNat (cutL num ((s.tables.getD (2 : Int).toNat default).entries.take k))).csO)] (.tup []) (view_of rfl (.cons rfl (.self (rowPl_box rfl)) .nil)) rfl rfl (by rw [hX]; exact keepK (n := 1) rfl rfl) ⟨rfl, by rw [hcut]⟩

set_option maxRecDepth 8000 in
set_option maxHeartbeats 2000000 in
theorem l19Cut_ok3 (s : Shelf) (h : s.ok) (num : Int) (hw : 0 ≤ (3 : Int) ∧ (3 : Int) < (s.tables.length : Int)) (h7 : s.tables.length ≤ 7) : RetM env.P 124 [some (boxRow s.csO)] [.ptr 0 0 0, .i .i64 (3 : Int), .i .i64 num] (fun r H => r = .tup [] ∧ H = [some (boxRow (s.cut (3 : Int).toNat num).csO)]) := by
  have hl : s.tables.length ≤ 1048576 := h.1.1
  have hw2 : (3 : Int).toNat < s.tables.length := by omega
  have he : (s.tables.getD (3 : Int).toNat default).entries.length ≤ 1048576 := entLe h _
  refine ret_ofM (nt := 46) (rvs := []) Try.func124 rfl rfl rfl rfl (fun X hX => ?_)
  repeat' (first | omega | (with_reducible show (_ : Int) < _; dsimp only; omega) | (with_reducible show (_ : Nat) ≤ _; dsimp only; omega) | exact srcOk_1 rfl | exact srcOk_L (fun _ => ⟨rfl, rfl⟩) | exact srcOk_E (fun _ => ⟨rfl, rfl⟩) | ((conv => whnf) <;> (first | (refine lw_del 9 ?_; refine loopF (fun k : Nat => [(8, .i .i64 k), (6, .row 1 (cutL num ((s.tables.getD (3 : Int).toNat default).entries.take k)).length)]) (fun k => [none, some (.arr ⟨7, (cutL num ((s.tables.getD (3 : Int).toNat default).entries.take k)).length, elE Entry.cs (cutL num ((s.tables.getD (3 : Int).toNat default).entries.take k)), .arr⟩)]) (fun k => k ≤ (s.tables.getD (3 : Int).toNat default).entries.length) (fun k => (s.tables.getD (3 : Int).toNat default).entries.length - k) 0 ⟨Nat.zero_le _, ?_⟩) | exact arr_zero rfl rfl | exact low_cells rfl | exact fx_Tr (n := 4) (show 3 < 4 by decide) rfl | exact rho_keep hX _h | exact capB2 (Nat.le_trans cutT_le.2 he) (by decide) | exact capN2 (Nat.le_trans cutT_le.2 he) | refine And.intro ?_ ?_ | (intro _h; first | contradiction | (try simp only [decide_eq_true_eq, Bool.not_eq_true', Bool.not_eq_false', decide_eq_false_iff_not, Bool.not_eq_true, Decidable.not_not, Bool.true_eq_false, Bool.false_eq_true, pb_t, pb_f] at _h)) | (refine dt_go ?_) | exact rfl | exact True.intro | (refine dok ?_; kernel_rfl) | (refine doks ?_; kernel_rfl) | (refine wrap_succ ?_; omega))))
  · rename_i k _ _
    have hk : k < (s.tables.getD (3 : Int).toNat default).entries.length := by omega
    have hc := cutL_miss (num := num) hk (by simpa using _h)
    have hlen : (cutL num ((s.tables.getD (3 : Int).toNat default).entries.take (k + 1))).length = (cutL num ((s.tables.getD (3 : Int).toNat default).entries.take k)).length + 1 := by rw [hc, List.length_append, List.length_singleton]
    refine ⟨k + 1, [0, 5, 2, 3], hk, (show (s.tables.getD (3 : Int).toNat default).entries.length - (k + 1) < (s.tables.getD (3 : Int).toNat default).entries.length - k by omega), ?_⟩
    repeat' (first | omega | (with_reducible show (_ : Int) < _; dsimp only; omega) | (with_reducible show (_ : Nat) ≤ _; dsimp only; omega) | exact srcOk_1 rfl | exact srcOk_L (fun _ => ⟨rfl, rfl⟩) | exact srcOk_E (fun _ => ⟨rfl, rfl⟩) | ((conv => whnf) <;> (first | exact arr_zero rfl rfl | exact low_cells rfl | exact fx_Tr (n := 4) (show 3 < 4 by decide) rfl | exact rho_keep hX _h | exact capB2 (Nat.le_trans cutT_le.2 he) (by decide) | exact capN2 (Nat.le_trans cutT_le.2 he) | exact hlen | exact hlen.symm | exact arr_snoc hc rfl hlen.symm hlen (fun a j => low_cells rfl) (fun j hj => rfl) | refine And.intro ?_ ?_ | (intro _h; first | contradiction | (try simp only [decide_eq_true_eq, Bool.not_eq_true', Bool.not_eq_false', decide_eq_false_iff_not, Bool.not_eq_true, Decidable.not_not, Bool.true_eq_false, Bool.false_eq_true, pb_t, pb_f] at _h)) | (refine dt_go ?_) | exact rfl | exact True.intro | (refine dok ?_; kernel_rfl) | (refine doks ?_; kernel_rfl) | (refine wrap_succ ?_; omega))))
  · rename_i k _ _
    have hk : k < (s.tables.getD (3 : Int).toNat default).entries.length := by omega
    have hc := cutL_hit (num := num) hk (by simpa using _h)
    have hlen : (cutL num ((s.tables.getD (3 : Int).toNat default).entries.take (k + 1))).length = (cutL num ((s.tables.getD (3 : Int).toNat default).entries.take k)).length := by rw [hc]
    refine ⟨k + 1, [], hk, (show (s.tables.getD (3 : Int).toNat default).entries.length - (k + 1) < (s.tables.getD (3 : Int).toNat default).entries.length - k by omega), ?_⟩
    repeat' (first | omega | (with_reducible show (_ : Int) < _; dsimp only; omega) | (with_reducible show (_ : Nat) ≤ _; dsimp only; omega) | exact srcOk_1 rfl | exact srcOk_L (fun _ => ⟨rfl, rfl⟩) | exact srcOk_E (fun _ => ⟨rfl, rfl⟩) | ((conv => whnf) <;> (first | exact arr_zero rfl rfl | exact low_cells rfl | exact fx_Tr (n := 4) (show 3 < 4 by decide) rfl | exact rho_keep hX _h | exact capB2 (Nat.le_trans cutT_le.2 he) (by decide) | exact capN2 (Nat.le_trans cutT_le.2 he) | exact hlen | exact hlen.symm | exact arr_same hc hlen.symm (fun a j => low_cells rfl) | refine And.intro ?_ ?_ | (intro _h; first | contradiction | (try simp only [decide_eq_true_eq, Bool.not_eq_true', Bool.not_eq_false', decide_eq_false_iff_not, Bool.not_eq_true, Decidable.not_not, Bool.true_eq_false, Bool.false_eq_true, pb_t, pb_f] at _h)) | (refine dt_go ?_) | exact rfl | exact True.intro | (refine dok ?_; kernel_rfl) | (refine doks ?_; kernel_rfl) | (refine wrap_succ ?_; omega))))
  all_goals (conv => whnf)
  rename_i k _
  have hcut : s.cut (3 : Int).toNat num = s.setE (3 : Int).toNat (cutL num ((s.tables.getD (3 : Int).toNat default).entries.take k)) := by
    unfold Shelf.cut
    rw [cutL_all (by omega)]
  refine endM_turn (turn_close (id := 2) (i := (3 : Int).toNat) (j := 1) (id' := 1) rfl hw2 (show 1 < 2 by decide) (by first | (simp only [upd, Nat.beq_refl]; rfl) | (simp only [Shelf.rowT, upd, Nat.beq_refl]; rfl) | exact rowT_at) rfl (show 2 ≠ 1 by decide) rfl (rowO_le (Nat.le_refl _))) ?_
  refine endM_turn (turn_eq (id := 2) (x := rowL 2 Table.csO (s.setE (3 : Int).toNat (cutL num ((s.tables.getD (3 : Int).toNat default).entries.take k))).tables) rfl rfl setE_len rfl rfl (setE_rows3 (l := (cutL num ((s.tables.getD (3 : Int).toNat default).entries.take k))) hw2 rfl (fun i j _ _ => .refl _))) ?_
  refine endM_turn (turn_close (id := 0) (i := 0) (j := 1) (id' := 2) rfl (show 0 < 1 by decide) (show 1 < 3 by decide) rfl rfl (show 0 ≠ 2 by decide) rfl (rowO_le (Nat.le_of_eq setE_len.symm))) ?_
  refine endM_turn (turn_box (id := 0) (ds := (s.setE (3 : Int).toNat (cutL num ((s.tables.getD (3 : Int).toNat default).entries.take k))).csO) rfl rfl rfl (.cons (.refl _) (.cons (OwEq.len setE_len.symm (fun i j _ _ => HoldC.h _ j) (fun i j _ _ => .refl _)) (.cons (.refl _) .nil)))) ?_
  exact endM_pick [0] [some (boxRow (s.setE (3 : Int).toNat (cutL num ((s.tables.getD (3 : Int).toNat default).entries.take k))).csO)] (.tup []) (view_of rfl (.cons rfl (.self (rowPl_box rfl)) .nil)) rfl rfl (by rw [hX]; exact keepK (n := 1) rfl rfl) ⟨rfl, by rw [hcut]⟩

set_option maxRecDepth 8000 in
set_option maxHeartbeats 2000000 in
theorem l19Cut_ok4 (s : Shelf) (h : s.ok) (num : Int) (hw : 0 ≤ (4 : Int) ∧ (4 : Int) < (s.tables.length : Int)) (h7 : s.tables.length ≤ 7) : RetM env.P 124 [some (boxRow s.csO)] [.ptr 0 0 0, .i .i64 (4 : Int), .i .i64 num] (fun r H => r = .tup [] ∧ H = [some (boxRow (s.cut (4 : Int).toNat num).csO)]) := by
  have hl : s.tables.length ≤ 1048576 := h.1.1
  have hw2 : (4 : Int).toNat < s.tables.length := by omega
  have he : (s.tables.getD (4 : Int).toNat default).entries.length ≤ 1048576 := entLe h _
  refine ret_ofM (nt := 46) (rvs := []) Try.func124 rfl rfl rfl rfl (fun X hX => ?_)
  repeat' (first | omega | (with_reducible show (_ : Int) < _; dsimp only; omega) | (with_reducible show (_ : Nat) ≤ _; dsimp only; omega) | exact srcOk_1 rfl | exact srcOk_L (fun _ => ⟨rfl, rfl⟩) | exact srcOk_E (fun _ => ⟨rfl, rfl⟩) | ((conv => whnf) <;> (first | (refine lw_del 9 ?_; refine loopF (fun k : Nat => [(8, .i .i64 k), (6, .row 1 (cutL num ((s.tables.getD (4 : Int).toNat default).entries.take k)).length)]) (fun k => [none, some (.arr ⟨7, (cutL num ((s.tables.getD (4 : Int).toNat default).entries.take k)).length, elE Entry.cs (cutL num ((s.tables.getD (4 : Int).toNat default).entries.take k)), .arr⟩)]) (fun k => k ≤ (s.tables.getD (4 : Int).toNat default).entries.length) (fun k => (s.tables.getD (4 : Int).toNat default).entries.length - k) 0 ⟨Nat.zero_le _, ?_⟩) | exact arr_zero rfl rfl | exact low_cells rfl | exact fx_Tr (n := 4) (show 3 < 4 by decide) rfl | exact rho_keep hX _h | exact capB2 (Nat.le_trans cutT_le.2 he) (by decide) | exact capN2 (Nat.le_trans cutT_le.2 he) | refine And.intro ?_ ?_ | (intro _h; first | contradiction | (try simp only [decide_eq_true_eq, Bool.not_eq_true', Bool.not_eq_false', decide_eq_false_iff_not, Bool.not_eq_true, Decidable.not_not, Bool.true_eq_false, Bool.false_eq_true, pb_t, pb_f] at _h)) | (refine dt_go ?_) | exact rfl | exact True.intro | (refine dok ?_; kernel_rfl) | (refine doks ?_; kernel_rfl) | (refine wrap_succ ?_; omega))))
  · rename_i k _ _
    have hk : k < (s.tables.getD (4 : Int).toNat default).entries.length := by omega
    have hc := cutL_miss (num := num) hk (by simpa using _h)
    have hlen : (cutL num ((s.tables.getD (4 : Int).toNat default).entries.take (k + 1))).length = (cutL num ((s.tables.getD (4 : Int).toNat default).entries.take k)).length + 1 := by rw [hc, List.length_append, List.length_singleton]
    refine ⟨k + 1, [0, 5, 2, 3], hk, (show (s.tables.getD (4 : Int).toNat default).entries.length - (k + 1) < (s.tables.getD (4 : Int).toNat default).entries.length - k by omega), ?_⟩
    repeat' (first | omega | (with_reducible show (_ : Int) < _; dsimp only; omega) | (with_reducible show (_ : Nat) ≤ _; dsimp only; omega) | exact srcOk_1 rfl | exact srcOk_L (fun _ => ⟨rfl, rfl⟩) | exact srcOk_E (fun _ => ⟨rfl, rfl⟩) | ((conv => whnf) <;> (first | exact arr_zero rfl rfl | exact low_cells rfl | exact fx_Tr (n := 4) (show 3 < 4 by decide) rfl | exact rho_keep hX _h | exact capB2 (Nat.le_trans cutT_le.2 he) (by decide) | exact capN2 (Nat.le_trans cutT_le.2 he) | exact hlen | exact hlen.symm | exact arr_snoc hc rfl hlen.symm hlen (fun a j => low_cells rfl) (fun j hj => rfl) | refine And.intro ?_ ?_ | (intro _h; first | contradiction | (try simp only [decide_eq_true_eq, Bool.not_eq_true', Bool.not_eq_false', decide_eq_false_iff_not, Bool.not_eq_true, Decidable.not_not, Bool.true_eq_false, Bool.false_eq_true, pb_t, pb_f] at _h)) | (refine dt_go ?_) | exact rfl | exact True.intro | (refine dok ?_; kernel_rfl) | (refine doks ?_; kernel_rfl) | (refine wrap_succ ?_; omega))))
  · rename_i k _ _
    have hk : k < (s.tables.getD (4 : Int).toNat default).entries.length := by omega
    have hc := cutL_hit (num := num) hk (by simpa using _h)
    have hlen : (cutL num ((s.tables.getD (4 : Int).toNat default).entries.take (k + 1))).length = (cutL num ((s.tables.getD (4 : Int).toNat default).entries.take k)).length := by rw [hc]
    refine ⟨k + 1, [], hk, (show (s.tables.getD (4 : Int).toNat default).entries.length - (k + 1) < (s.tables.getD (4 : Int).toNat default).entries.length - k by omega), ?_⟩
    repeat' (first | omega | (with_reducible show (_ : Int) < _; dsimp only; omega) | (with_reducible show (_ : Nat) ≤ _; dsimp only; omega) | exact srcOk_1 rfl | exact srcOk_L (fun _ => ⟨rfl, rfl⟩) | exact srcOk_E (fun _ => ⟨rfl, rfl⟩) | ((conv => whnf) <;> (first | exact arr_zero rfl rfl | exact low_cells rfl | exact fx_Tr (n := 4) (show 3 < 4 by decide) rfl | exact rho_keep hX _h | exact capB2 (Nat.le_trans cutT_le.2 he) (by decide) | exact capN2 (Nat.le_trans cutT_le.2 he) | exact hlen | exact hlen.symm | exact arr_same hc hlen.symm (fun a j => low_cells rfl) | refine And.intro ?_ ?_ | (intro _h; first | contradiction | (try simp only [decide_eq_true_eq, Bool.not_eq_true', Bool.not_eq_false', decide_eq_false_iff_not, Bool.not_eq_true, Decidable.not_not, Bool.true_eq_false, Bool.false_eq_true, pb_t, pb_f] at _h)) | (refine dt_go ?_) | exact rfl | exact True.intro | (refine dok ?_; kernel_rfl) | (refine doks ?_; kernel_rfl) | (refine wrap_succ ?_; omega))))
  all_goals (conv => whnf)
  rename_i k _
  have hcut : s.cut (4 : Int).toNat num = s.setE (4 : Int).toNat (cutL num ((s.tables.getD (4 : Int).toNat default).entries.take k)) := by
    unfold Shelf.cut
    rw [cutL_all (by omega)]
  refine endM_turn (turn_close (id := 2) (i := (4 : Int).toNat) (j := 1) (id' := 1) rfl hw2 (show 1 < 2 by decide) (by first | (simp only [upd, Nat.beq_refl]; rfl) | (simp only [Shelf.rowT, upd, Nat.beq_refl]; rfl) | exact rowT_at) rfl (show 2 ≠ 1 by decide) rfl (rowO_le (Nat.le_refl _))) ?_
  refine endM_turn (turn_eq (id := 2) (x := rowL 2 Table.csO (s.setE (4 : Int).toNat (cutL num ((s.tables.getD (4 : Int).toNat default).entries.take k))).tables) rfl rfl setE_len rfl rfl (setE_rows3 (l := (cutL num ((s.tables.getD (4 : Int).toNat default).entries.take k))) hw2 rfl (fun i j _ _ => .refl _))) ?_
  refine endM_turn (turn_close (id := 0) (i := 0) (j := 1) (id' := 2) rfl (show 0 < 1 by decide) (show 1 < 3 by decide) rfl rfl (show 0 ≠ 2 by decide) rfl (rowO_le (Nat.le_of_eq setE_len.symm))) ?_
  refine endM_turn (turn_box (id := 0) (ds := (s.setE (4 : Int).toNat (cutL num ((s.tables.getD (4 : Int).toNat default).entries.take k))).csO) rfl rfl rfl (.cons (.refl _) (.cons (OwEq.len setE_len.symm (fun i j _ _ => HoldC.h _ j) (fun i j _ _ => .refl _)) (.cons (.refl _) .nil)))) ?_
  exact endM_pick [0] [some (boxRow (s.setE (4 : Int).toNat (cutL num ((s.tables.getD (4 : Int).toNat default).entries.take k))).csO)] (.tup []) (view_of rfl (.cons rfl (.self (rowPl_box rfl)) .nil)) rfl rfl (by rw [hX]; exact keepK (n := 1) rfl rfl) ⟨rfl, by rw [hcut]⟩

set_option maxRecDepth 8000 in
set_option maxHeartbeats 2000000 in
theorem l19Cut_ok5 (s : Shelf) (h : s.ok) (num : Int) (hw : 0 ≤ (5 : Int) ∧ (5 : Int) < (s.tables.length : Int)) (h7 : s.tables.length ≤ 7) : RetM env.P 124 [some (boxRow s.csO)] [.ptr 0 0 0, .i .i64 (5 : Int), .i .i64 num] (fun r H => r = .tup [] ∧ H = [some (boxRow (s.cut (5 : Int).toNat num).csO)]) := by
  have hl : s.tables.length ≤ 1048576 := h.1.1
  have hw2 : (5 : Int).toNat < s.tables.length := by omega
  have he : (s.tables.getD (5 : Int).toNat default).entries.length ≤ 1048576 := entLe h _
  refine ret_ofM (nt := 46) (rvs := []) Try.func124 rfl rfl rfl rfl (fun X hX => ?_)
  repeat' (first | omega | (with_reducible show (_ : Int) < _; dsimp only; omega) | (with_reducible show (_ : Nat) ≤ _; dsimp only; omega) | exact srcOk_1 rfl | exact srcOk_L (fun _ => ⟨rfl, rfl⟩) | exact srcOk_E (fun _ => ⟨rfl, rfl⟩) | ((conv => whnf) <;> (first | (refine lw_del 9 ?_; refine loopF (fun k : Nat => [(8, .i .i64 k), (6, .row 1 (cutL num ((s.tables.getD (5 : Int).toNat default).entries.take k)).length)]) (fun k => [none, some (.arr ⟨7, (cutL num ((s.tables.getD (5 : Int).toNat default).entries.take k)).length, elE Entry.cs (cutL num ((s.tables.getD (5 : Int).toNat default).entries.take k)), .arr⟩)]) (fun k => k ≤ (s.tables.getD (5 : Int).toNat default).entries.length) (fun k => (s.tables.getD (5 : Int).toNat default).entries.length - k) 0 ⟨Nat.zero_le _, ?_⟩) | exact arr_zero rfl rfl | exact low_cells rfl | exact fx_Tr (n := 4) (show 3 < 4 by decide) rfl | exact rho_keep hX _h | exact capB2 (Nat.le_trans cutT_le.2 he) (by decide) | exact capN2 (Nat.le_trans cutT_le.2 he) | refine And.intro ?_ ?_ | (intro _h; first | contradiction | (try simp only [decide_eq_true_eq, Bool.not_eq_true', Bool.not_eq_false', decide_eq_false_iff_not, Bool.not_eq_true, Decidable.not_not, Bool.true_eq_false, Bool.false_eq_true, pb_t, pb_f] at _h)) | (refine dt_go ?_) | exact rfl | exact True.intro | (refine dok ?_; kernel_rfl) | (refine doks ?_; kernel_rfl) | (refine wrap_succ ?_; omega))))
  · rename_i k _ _
    have hk : k < (s.tables.getD (5 : Int).toNat default).entries.length := by omega
    have hc := cutL_miss (num := num) hk (by simpa using _h)
    have hlen : (cutL num ((s.tables.getD (5 : Int).toNat default).entries.take (k + 1))).length = (cutL num ((s.tables.getD (5 : Int).toNat default).entries.take k)).length + 1 := by rw [hc, List.length_append, List.length_singleton]
    refine ⟨k + 1, [0, 5, 2, 3], hk, (show (s.tables.getD (5 : Int).toNat default).entries.length - (k + 1) < (s.tables.getD (5 : Int).toNat default).entries.length - k by omega), ?_⟩
    repeat' (first | omega | (with_reducible show (_ : Int) < _; dsimp only; omega) | (with_reducible show (_ : Nat) ≤ _; dsimp only; omega) | exact srcOk_1 rfl | exact srcOk_L (fun _ => ⟨rfl, rfl⟩) | exact srcOk_E (fun _ => ⟨rfl, rfl⟩) | ((conv => whnf) <;> (first | exact arr_zero rfl rfl | exact low_cells rfl | exact fx_Tr (n := 4) (show 3 < 4 by decide) rfl | exact rho_keep hX _h | exact capB2 (Nat.le_trans cutT_le.2 he) (by decide) | exact capN2 (Nat.le_trans cutT_le.2 he) | exact hlen | exact hlen.symm | exact arr_snoc hc rfl hlen.symm hlen (fun a j => low_cells rfl) (fun j hj => rfl) | refine And.intro ?_ ?_ | (intro _h; first | contradiction | (try simp only [decide_eq_true_eq, Bool.not_eq_true', Bool.not_eq_false', decide_eq_false_iff_not, Bool.not_eq_true, Decidable.not_not, Bool.true_eq_false, Bool.false_eq_true, pb_t, pb_f] at _h)) | (refine dt_go ?_) | exact rfl | exact True.intro | (refine dok ?_; kernel_rfl) | (refine doks ?_; kernel_rfl) | (refine wrap_succ ?_; omega))))
  · rename_i k _ _
    have hk : k < (s.tables.getD (5 : Int).toNat default).entries.length := by omega
    have hc := cutL_hit (num := num) hk (by simpa using _h)
    have hlen : (cutL num ((s.tables.getD (5 : Int).toNat default).entries.take (k + 1))).length = (cutL num ((s.tables.getD (5 : Int).toNat default).entries.take k)).length := by rw [hc]
    refine ⟨k + 1, [], hk, (show (s.tables.getD (5 : Int).toNat default).entries.length - (k + 1) < (s.tables.getD (5 : Int).toNat default).entries.length - k by omega), ?_⟩
    repeat' (first | omega | (with_reducible show (_ : Int) < _; dsimp only; omega) | (with_reducible show (_ : Nat) ≤ _; dsimp only; omega) | exact srcOk_1 rfl | exact srcOk_L (fun _ => ⟨rfl, rfl⟩) | exact srcOk_E (fun _ => ⟨rfl, rfl⟩) | ((conv => whnf) <;> (first | exact arr_zero rfl rfl | exact low_cells rfl | exact fx_Tr (n := 4) (show 3 < 4 by decide) rfl | exact rho_keep hX _h | exact capB2 (Nat.le_trans cutT_le.2 he) (by decide) | exact capN2 (Nat.le_trans cutT_le.2 he) | exact hlen | exact hlen.symm | exact arr_same hc hlen.symm (fun a j => low_cells rfl) | refine And.intro ?_ ?_ | (intro _h; first | contradiction | (try simp only [decide_eq_true_eq, Bool.not_eq_true', Bool.not_eq_false', decide_eq_false_iff_not, Bool.not_eq_true, Decidable.not_not, Bool.true_eq_false, Bool.false_eq_true, pb_t, pb_f] at _h)) | (refine dt_go ?_) | exact rfl | exact True.intro | (refine dok ?_; kernel_rfl) | (refine doks ?_; kernel_rfl) | (refine wrap_succ ?_; omega))))
  all_goals (conv => whnf)
  rename_i k _
  have hcut : s.cut (5 : Int).toNat num = s.setE (5 : Int).toNat (cutL num ((s.tables.getD (5 : Int).toNat default).entries.take k)) := by
    unfold Shelf.cut
    rw [cutL_all (by omega)]
  refine endM_turn (turn_close (id := 2) (i := (5 : Int).toNat) (j := 1) (id' := 1) rfl hw2 (show 1 < 2 by decide) (by first | (simp only [upd, Nat.beq_refl]; rfl) | (simp only [Shelf.rowT, upd, Nat.beq_refl]; rfl) | exact rowT_at) rfl (show 2 ≠ 1 by decide) rfl (rowO_le (Nat.le_refl _))) ?_
  refine endM_turn (turn_eq (id := 2) (x := rowL 2 Table.csO (s.setE (5 : Int).toNat (cutL num ((s.tables.getD (5 : Int).toNat default).entries.take k))).tables) rfl rfl setE_len rfl rfl (setE_rows3 (l := (cutL num ((s.tables.getD (5 : Int).toNat default).entries.take k))) hw2 rfl (fun i j _ _ => .refl _))) ?_
  refine endM_turn (turn_close (id := 0) (i := 0) (j := 1) (id' := 2) rfl (show 0 < 1 by decide) (show 1 < 3 by decide) rfl rfl (show 0 ≠ 2 by decide) rfl (rowO_le (Nat.le_of_eq setE_len.symm))) ?_
  refine endM_turn (turn_box (id := 0) (ds := (s.setE (5 : Int).toNat (cutL num ((s.tables.getD (5 : Int).toNat default).entries.take k))).csO) rfl rfl rfl (.cons (.refl _) (.cons (OwEq.len setE_len.symm (fun i j _ _ => HoldC.h _ j) (fun i j _ _ => .refl _)) (.cons (.refl _) .nil)))) ?_
  exact endM_pick [0] [some (boxRow (s.setE (5 : Int).toNat (cutL num ((s.tables.getD (5 : Int).toNat default).entries.take k))).csO)] (.tup []) (view_of rfl (.cons rfl (.self (rowPl_box rfl)) .nil)) rfl rfl (by rw [hX]; exact keepK (n := 1) rfl rfl) ⟨rfl, by rw [hcut]⟩

set_option maxRecDepth 8000 in
set_option maxHeartbeats 2000000 in
theorem l19Cut_ok6 (s : Shelf) (h : s.ok) (num : Int) (hw : 0 ≤ (6 : Int) ∧ (6 : Int) < (s.tables.length : Int)) (h7 : s.tables.length ≤ 7) : RetM env.P 124 [some (boxRow s.csO)] [.ptr 0 0 0, .i .i64 (6 : Int), .i .i64 num] (fun r H => r = .tup [] ∧ H = [some (boxRow (s.cut (6 : Int).toNat num).csO)]) := by
  have hl : s.tables.length ≤ 1048576 := h.1.1
  have hw2 : (6 : Int).toNat < s.tables.length := by omega
  have he : (s.tables.getD (6 : Int).toNat default).entries.length ≤ 1048576 := entLe h _
  refine ret_ofM (nt := 46) (rvs := []) Try.func124 rfl rfl rfl rfl (fun X hX => ?_)
  repeat' (first | omega | (with_reducible show (_ : Int) < _; dsimp only; omega) | (with_reducible show (_ : Nat) ≤ _; dsimp only; omega) | exact srcOk_1 rfl | exact srcOk_L (fun _ => ⟨rfl, rfl⟩) | exact srcOk_E (fun _ => ⟨rfl, rfl⟩) | ((conv => whnf) <;> (first | (refine lw_del 9 ?_; refine loopF (fun k : Nat => [(8, .i .i64 k), (6, .row 1 (cutL num ((s.tables.getD (6 : Int).toNat default).entries.take k)).length)]) (fun k => [none, some (.arr ⟨7, (cutL num ((s.tables.getD (6 : Int).toNat default).entries.take k)).length, elE Entry.cs (cutL num ((s.tables.getD (6 : Int).toNat default).entries.take k)), .arr⟩)]) (fun k => k ≤ (s.tables.getD (6 : Int).toNat default).entries.length) (fun k => (s.tables.getD (6 : Int).toNat default).entries.length - k) 0 ⟨Nat.zero_le _, ?_⟩) | exact arr_zero rfl rfl | exact low_cells rfl | exact fx_Tr (n := 4) (show 3 < 4 by decide) rfl | exact rho_keep hX _h | exact capB2 (Nat.le_trans cutT_le.2 he) (by decide) | exact capN2 (Nat.le_trans cutT_le.2 he) | refine And.intro ?_ ?_ | (intro _h; first | contradiction | (try simp only [decide_eq_true_eq, Bool.not_eq_true', Bool.not_eq_false', decide_eq_false_iff_not, Bool.not_eq_true, Decidable.not_not, Bool.true_eq_false, Bool.false_eq_true, pb_t, pb_f] at _h)) | (refine dt_go ?_) | exact rfl | exact True.intro | (refine dok ?_; kernel_rfl) | (refine doks ?_; kernel_rfl) | (refine wrap_succ ?_; omega))))
  · rename_i k _ _
    have hk : k < (s.tables.getD (6 : Int).toNat default).entries.length := by omega
    have hc := cutL_miss (num := num) hk (by simpa using _h)
    have hlen : (cutL num ((s.tables.getD (6 : Int).toNat default).entries.take (k + 1))).length = (cutL num ((s.tables.getD (6 : Int).toNat default).entries.take k)).length + 1 := by rw [hc, List.length_append, List.length_singleton]
    refine ⟨k + 1, [0, 5, 2, 3], hk, (show (s.tables.getD (6 : Int).toNat default).entries.length - (k + 1) < (s.tables.getD (6 : Int).toNat default).entries.length - k by omega), ?_⟩
    repeat' (first | omega | (with_reducible show (_ : Int) < _; dsimp only; omega) | (with_reducible show (_ : Nat) ≤ _; dsimp only; omega) | exact srcOk_1 rfl | exact srcOk_L (fun _ => ⟨rfl, rfl⟩) | exact srcOk_E (fun _ => ⟨rfl, rfl⟩) | ((conv => whnf) <;> (first | exact arr_zero rfl rfl | exact low_cells rfl | exact fx_Tr (n := 4) (show 3 < 4 by decide) rfl | exact rho_keep hX _h | exact capB2 (Nat.le_trans cutT_le.2 he) (by decide) | exact capN2 (Nat.le_trans cutT_le.2 he) | exact hlen | exact hlen.symm | exact arr_snoc hc rfl hlen.symm hlen (fun a j => low_cells rfl) (fun j hj => rfl) | refine And.intro ?_ ?_ | (intro _h; first | contradiction | (try simp only [decide_eq_true_eq, Bool.not_eq_true', Bool.not_eq_false', decide_eq_false_iff_not, Bool.not_eq_true, Decidable.not_not, Bool.true_eq_false, Bool.false_eq_true, pb_t, pb_f] at _h)) | (refine dt_go ?_) | exact rfl | exact True.intro | (refine dok ?_; kernel_rfl) | (refine doks ?_; kernel_rfl) | (refine wrap_succ ?_; omega))))
  · rename_i k _ _
    have hk : k < (s.tables.getD (6 : Int).toNat default).entries.length := by omega
    have hc := cutL_hit (num := num) hk (by simpa using _h)
    have hlen : (cutL num ((s.tables.getD (6 : Int).toNat default).entries.take (k + 1))).length = (cutL num ((s.tables.getD (6 : Int).toNat default).entries.take k)).length := by rw [hc]
    refine ⟨k + 1, [], hk, (show (s.tables.getD (6 : Int).toNat default).entries.length - (k + 1) < (s.tables.getD (6 : Int).toNat default).entries.length - k by omega), ?_⟩
    repeat' (first | omega | (with_reducible show (_ : Int) < _; dsimp only; omega) | (with_reducible show (_ : Nat) ≤ _; dsimp only; omega) | exact srcOk_1 rfl | exact srcOk_L (fun _ => ⟨rfl, rfl⟩) | exact srcOk_E (fun _ => ⟨rfl, rfl⟩) | ((conv => whnf) <;> (first | exact arr_zero rfl rfl | exact low_cells rfl | exact fx_Tr (n := 4) (show 3 < 4 by decide) rfl | exact rho_keep hX _h | exact capB2 (Nat.le_trans cutT_le.2 he) (by decide) | exact capN2 (Nat.le_trans cutT_le.2 he) | exact hlen | exact hlen.symm | exact arr_same hc hlen.symm (fun a j => low_cells rfl) | refine And.intro ?_ ?_ | (intro _h; first | contradiction | (try simp only [decide_eq_true_eq, Bool.not_eq_true', Bool.not_eq_false', decide_eq_false_iff_not, Bool.not_eq_true, Decidable.not_not, Bool.true_eq_false, Bool.false_eq_true, pb_t, pb_f] at _h)) | (refine dt_go ?_) | exact rfl | exact True.intro | (refine dok ?_; kernel_rfl) | (refine doks ?_; kernel_rfl) | (refine wrap_succ ?_; omega))))
  all_goals (conv => whnf)
  rename_i k _
  have hcut : s.cut (6 : Int).toNat num = s.setE (6 : Int).toNat (cutL num ((s.tables.getD (6 : Int).toNat default).entries.take k)) := by
    unfold Shelf.cut
    rw [cutL_all (by omega)]
  refine endM_turn (turn_close (id := 2) (i := (6 : Int).toNat) (j := 1) (id' := 1) rfl hw2 (show 1 < 2 by decide) (by first | (simp only [upd, Nat.beq_refl]; rfl) | (simp only [Shelf.rowT, upd, Nat.beq_refl]; rfl) | exact rowT_at) rfl (show 2 ≠ 1 by decide) rfl (rowO_le (Nat.le_refl _))) ?_
  refine endM_turn (turn_eq (id := 2) (x := rowL 2 Table.csO (s.setE (6 : Int).toNat (cutL num ((s.tables.getD (6 : Int).toNat default).entries.take k))).tables) rfl rfl setE_len rfl rfl (setE_rows3 (l := (cutL num ((s.tables.getD (6 : Int).toNat default).entries.take k))) hw2 rfl (fun i j _ _ => .refl _))) ?_
  refine endM_turn (turn_close (id := 0) (i := 0) (j := 1) (id' := 2) rfl (show 0 < 1 by decide) (show 1 < 3 by decide) rfl rfl (show 0 ≠ 2 by decide) rfl (rowO_le (Nat.le_of_eq setE_len.symm))) ?_
  refine endM_turn (turn_box (id := 0) (ds := (s.setE (6 : Int).toNat (cutL num ((s.tables.getD (6 : Int).toNat default).entries.take k))).csO) rfl rfl rfl (.cons (.refl _) (.cons (OwEq.len setE_len.symm (fun i j _ _ => HoldC.h _ j) (fun i j _ _ => .refl _)) (.cons (.refl _) .nil)))) ?_
  exact endM_pick [0] [some (boxRow (s.setE (6 : Int).toNat (cutL num ((s.tables.getD (6 : Int).toNat default).entries.take k))).csO)] (.tup []) (view_of rfl (.cons rfl (.self (rowPl_box rfl)) .nil)) rfl rfl (by rw [hX]; exact keepK (n := 1) rfl rfl) ⟨rfl, by rw [hcut]⟩

set_option maxRecDepth 8000 in
set_option maxHeartbeats 2000000 in
theorem l19Cut_ok (s : Shelf) (h : s.ok) (who num : Int) (hw : 0 ≤ who ∧ who < (s.tables.length : Int)) (h7 : s.tables.length ≤ 7) : RetM env.P 124 [some (boxRow s.csO)] [.ptr 0 0 0, .i .i64 who, .i .i64 num] (fun r H => r = .tup [] ∧ H = [some (boxRow (s.cut who.toNat num).csO)]) := by
  rcases (show who = 0 ∨ who = 1 ∨ who = 2 ∨ who = 3 ∨ who = 4 ∨ who = 5 ∨ who = 6 by omega) with rfl | rfl | rfl | rfl | rfl | rfl | rfl
  · exact l19Cut_ok0 s h num hw h7
  · exact l19Cut_ok1 s h num hw h7
  · exact l19Cut_ok2 s h num hw h7
  · exact l19Cut_ok3 s h num hw h7
  · exact l19Cut_ok4 s h num hw h7
  · exact l19Cut_ok5 s h num hw h7
  · exact l19Cut_ok6 s h num hw h7

set_option maxRecDepth 8000 in
theorem indexFuncEntry1_ok (l : List Entry) (g : Nat) {fv} (hg : env.F.get g = some fv) (c0 : List AV) (p : Entry → Bool) (hl : l.length ≤ 1048576) (hp : ∀ k, k < l.length → Ret env.P g (.agg (Entry.cs (l.getD k default)) :: [rfL c0]) (fun r => r = .b (p (l.getD k default)))) :
    Ret env.P 172 [slL 7 Entry.cs l, .fn g [rfL c0]] (fun r => r = .i .i64 (idxI (l.findIdx? p))) := by
  refine ret_of (nt := 19) (rvs := [.tmp 4]) Try.func172 rfl rfl rfl rfl (fun X => ?_)
  repeat' (first | omega | (with_reducible show (_ : Int) < _; dsimp only; omega) | (with_reducible show (_ : Nat) ≤ _; dsimp only; omega) | exact srcOk_1 rfl | exact srcOk_L (fun _ => ⟨rfl, rfl⟩) | exact srcOk_E (fun _ => ⟨rfl, rfl⟩) | ((conv => whnf) <;> (first | rw [hg] | exact upto_succ (by assumption) (by assumption) | refine loopN l.length (fun k => [(8, .i .i64 k)]) (fun k => []) (fun k => ∀ j, j < k → p (l.getD j default) = false) ⟨fun _ h => by omega, ?_⟩ | refine And.intro ?_ ?_ | (intro _h; first | contradiction | (try simp only [decide_eq_true_eq, Bool.not_eq_true', Bool.not_eq_false', decide_eq_false_iff_not, Bool.not_eq_true, Decidable.not_not, Bool.true_eq_false, Bool.false_eq_true, pb_t, pb_f] at _h)) | (refine dt_go ?_) | exact rfl | exact True.intro | (refine dok ?_; kernel_rfl) | (refine doks ?_; kernel_rfl) | ((first | refine .inl ⟨_, hp _ (by omega), ?_⟩ | refine ⟨_, hp _ (by omega), ?_⟩); (try rintro _ rfl)) | (refine wrap_succ ?_; omega))))
  · exact leaf_i (idx_some (by omega) (by assumption) (by assumption))
  · exact leaf_i (idx_none fun j hj => by have := ‹∀ j, j < _ → p (l.getD j default) = false›; exact this j (by omega))

set_option maxRecDepth 8000 in
theorem del1_ok (e : Entry) (num : Int) : Ret env.P 159 [.agg e.cs, rfL [.i .i64 num]] (fun r => r = .b (numP num e)) := by
  refine ret_of (nt := 8) (rvs := [.tmp 3]) Try.func159 rfl rfl rfl rfl (fun X => ?_)
  repeat' (first | omega | (with_reducible show (_ : Int) < _; dsimp only; omega) | (with_reducible show (_ : Nat) ≤ _; dsimp only; omega) | exact srcOk_1 rfl | exact srcOk_L (fun _ => ⟨rfl, rfl⟩) | exact srcOk_E (fun _ => ⟨rfl, rfl⟩) | ((conv => whnf) <;> (first | refine And.intro ?_ ?_ | (intro _h; first | contradiction | (try simp only [decide_eq_true_eq, Bool.not_eq_true', Bool.not_eq_false', decide_eq_false_iff_not, Bool.not_eq_true, Decidable.not_not, Bool.true_eq_false, Bool.false_eq_true, pb_t, pb_f] at _h)) | (refine dt_go ?_) | exact rfl | exact True.intro | (refine dok ?_; kernel_rfl) | (refine doks ?_; kernel_rfl) | (refine wrap_succ ?_; omega))))
  all_goals exact rfl
/-- The row while entries are cut, i of them looked at. -/
def cutM (num : Int) (l : List Entry) (i : Nat) : List Entry := cutL num (l.take i) ++ l.drop (cutL num (l.take i)).length
theorem cutM_len {num : Int} {l : List Entry} {i : Nat} : (cutM num l i).length = l.length := by
  have := (cutT_le (num := num) (l := l) (i := i)).2
  unfold cutM
  rw [List.length_append, List.length_drop]
  omega
theorem cutM_at {num : Int} {l : List Entry} {i k : Nat} (hk : (cutL num (l.take i)).length ≤ k) : (cutM num l i).getD k default = l.getD k default := by
  unfold cutM
  rw [List.getD_eq_getElem?_getD, List.getElem?_append_right hk, List.getElem?_drop, List.getD_eq_getElem?_getD, show (cutL num (l.take i)).length + (k - (cutL num (l.take i)).length) = k by omega]
theorem cutM_hit {num : Int} {l : List Entry} {k : Nat} (hk : k < l.length) (h : (l.getD k default).num = num) : cutM num l (k + 1) = cutM num l k := by
  unfold cutM
  rw [cutL_hit hk h]
theorem cutM_miss {num : Int} {l : List Entry} {k : Nat} (hk : k < l.length) (h : ¬ (l.getD k default).num = num) : cutM num l (k + 1) = (cutM num l k).set (cutL num (l.take k)).length (l.getD k default) := by
  have hle := cutT_le (num := num) (l := l) (i := k)
  unfold cutM
  rw [cutL_miss hk h, List.set_append_right _ _ (Nat.le_refl _), Nat.sub_self, List.length_append, List.length_singleton]
  have : l.drop (cutL num (l.take k)).length = l[(cutL num (l.take k)).length]'(by omega) :: l.drop ((cutL num (l.take k)).length + 1) := List.drop_eq_getElem_cons _
  rw [this, List.set_cons_zero, List.append_assoc, List.singleton_append]
theorem cut_before {num : Int} {l : List Entry} : ∀ {q : Nat}, q ≤ l.length → (∀ j, j < q → ¬ (l.getD j default).num = num) → cutL num (l.take q) = l.take q
  | 0, _, _ => rfl
  | q + 1, hq, h => by
    rw [cutL_miss (by omega) (h q (by omega)), cut_before (by omega) fun j hj => h j (by omega), take_snoc (by omega)]
theorem cutM_start {num : Int} {l : List Entry} {q : Nat} (hq : q < l.length) (h : ∀ j, j < q → ¬ (l.getD j default).num = num) (he : (l.getD q default).num = num) : cutM num l (q + 1) = l ∧ (cutL num (l.take (q + 1))).length = q := by
  have h1 : cutL num (l.take (q + 1)) = l.take q := by rw [cutL_hit hq he, cut_before (by omega) h]
  unfold cutM
  rw [h1, List.length_take, show min q l.length = q by omega]
  exact ⟨List.take_append_drop q l, rfl⟩

end Go.Proofs.Ytaiohiincgpomaa
