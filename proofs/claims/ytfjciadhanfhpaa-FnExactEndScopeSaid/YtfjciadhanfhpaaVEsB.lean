/-
  Shelves that are changed: an entry is cut.
  Shelves that are changed: slices.DeleteFunc over entries, and remove.
  Shelves that are changed: an entry is lent.
  Shelves of which entries are removed: what stays, in plain terms.
  Shelves of which entries are removed: table by table; how often each entry was lent, counted anew.
-/
import Derived.Test.YtfjciadhanfhpaaVEsA
import Derived.Test.YtfjciadhanfhpaaVPsB
namespace Go.Proofs.Ytfjciadhanfhpaa
open Go Go.RowKit
set_option linter.unusedVariables false
set_option linter.unusedSimpArgs false

/-- The entries that stay when those of a number are cut. -/
def cutL (num : Int) (l : List Entry) : List Entry := l.filter (fun e => !numP num e)
def Shelf.cut (s : Shelf) (w : Nat) (num : Int) : Shelf := s.setE w (cutL num (s.tables.getD w default).entries)
theorem cutL_le {num : Int} {l : List Entry} : (cutL num l).length ≤ l.length := List.length_filter_le _ _
theorem cutL_hit {num : Int} {l : List Entry} {k : Nat} (hk : k < l.length) (h : (l.getD k default).num = num) : cutL num (l.take (k + 1)) = cutL num (l.take k) := by
  have hp : (!numP num (l.getD k default)) = false := by simp only [numP, h, decide_true, Bool.not_true]
  rw [take_snoc hk]
  unfold cutL
  rw [List.filter_append]
  simp only [List.filter, hp, List.append_nil]
theorem cutL_miss {num : Int} {l : List Entry} {k : Nat} (hk : k < l.length) (h : ¬ (l.getD k default).num = num) : cutL num (l.take (k + 1)) = cutL num (l.take k) ++ [l.getD k default] := by
  have hp : (!numP num (l.getD k default)) = true := by simp only [numP, h, decide_false, Bool.not_false]
  rw [take_snoc hk]
  unfold cutL
  rw [List.filter_append]
  simp only [List.filter, hp]
theorem cutT_le {num : Int} {l : List Entry} {i : Nat} : (cutL num (l.take i)).length ≤ i ∧ (cutL num (l.take i)).length ≤ l.length := by
  have h1 := cutL_le (num := num) (l := l.take i)
  rw [List.length_take] at h1
  omega
theorem arr_zero {r : List Nat} {n sz cap cap' : Nat} {e e' : Nat → Nat → AV} {k : RK} (hc : cap = 0) (hc' : cap' = 0) : ArrP r n ⟨sz, cap, e, k⟩ ⟨sz, cap', e', k⟩ := by
  subst hc hc'
  exact ⟨rfl, rfl, rfl, fun i j hi => absurd hi (Nat.not_lt_zero _), fun i j hi => absurd hi (Nat.not_lt_zero _)⟩
theorem cutL_all {num : Int} {l : List Entry} {k : Nat} (hk : ¬ k < l.length) : cutL num (l.take k) = cutL num l := by rw [List.take_of_length_le (by omega)]
theorem arr_snoc {α : Type} [Inhabited α] {r : List Nat} {n sz k cap cap' : Nat} {c : α → List AV} {l l' : List α} {a : α} {g : Nat → Nat → AV} {bx : RK} (e : l' = l ++ [a]) (hk : k = l.length) (hc : cap' = cap) (hcap : cap = l.length + 1) (hlow : ∀ a j, fx r n ((c a).getD j .any) = true)
    (h1 : ∀ j, j < sz → g 0 j = (c a).getD j .any) : ArrP r n ⟨sz, cap, elE c l', bx⟩ ⟨sz, cap', catE k (elE c l) g, bx⟩ :=
  ⟨rfl, hc, rfl, fun i j hi hj => by
    show catE k (elE c l) g i j = elE c l' i j
    subst e
    rw [catE_at]
    unfold elE
    rw [getD_snoc]
    by_cases h' : i < k
    · rw [if_pos h', if_pos (by omega)]
    · rw [if_neg h', if_neg (by omega)]
      by_cases h2 : i = l.length
      · rw [if_pos h2, show i - k = 0 by omega]; exact h1 j hj
      · exfalso; have : i < cap := hi; have hcl := hcap; omega, fun i j _ _ => hlow _ _⟩

theorem fx_Tr {r : List Nat} {n w id m i j : Nat} {l : List Table} (h : id < n) (hr : rhoF r id = id) : fx r n (upd (elE Table.csO l) w 1 [.row id m] i j) = true := by
  rw [upd_one]
  split
  · simp [fx, hr, h]
  · exact low_cells rfl
theorem rho_keep {X : Ctx} {x : Option Row} {r : List Nat} {id : Nat} (hX : X.H0 = [x]) (h : id < X.H0.length) : rhoF (0 :: r) id = id := by
  rw [hX] at h
  obtain rfl : id = 0 := by simpa using h
  rfl
/-- A slot that is not looked at any more. -/
def delS (t : Nat) : Fr → Fr
  | [] => []
  | (d, v) :: f => bif Nat.beq d t then delS t f else (d, v) :: delS t f
theorem lk_delS {t u : Nat} : ∀ {f : Fr}, lk (delS t f) u = lk f u ∨ lk (delS t f) u = .any
  | [] => .inl rfl
  | (d, v) :: f => by
    unfold delS
    cases hb : Nat.beq d t with
    | true =>
      rw [cond_true]
      by_cases hu : d = u
      · right
        have hd := Nat.eq_of_beq_eq_true hb
        subst hd
        subst hu
        clear hb
        induction f with
        | nil => rfl
        | cons p f ih =>
          obtain ⟨e, z⟩ := p
          unfold delS
          cases hb : Nat.beq e d with
          | true => exact ih
          | false =>
            rw [cond_false, lk_cons, if_neg (fun q => by rw [q, Nat.beq_refl] at hb; cases hb)]
            exact ih
      · rw [lk_cons, if_neg hu]
        exact lk_delS
    | false =>
      rw [cond_false, lk_cons, lk_cons]
      split
      · exact .inl rfl
      · exact lk_delS
theorem lw_del {P : Program} {nt : Nat} {X : Ctx} {f : Fr} {Hh : Hp} {c : Code} {Q : Exit → Fr → Hp → Prop} (t : Nat) (h : LW P nt X c (delS t f) Hh Q) : LW P nt X c f Hh Q :=
  ⟨fun a w s => h.pw a w (by
    obtain ⟨blk, FP, s⟩ := s
    refine ⟨blk, FP, s.defers, s.size, s.keeps, s.rows, s.apart, fun u => ?_, s.ext⟩
    rcases lk_delS (t := t) (u := u) (f := f) with e | e
    · rw [e]; exact s.fr u
    · rw [e]; exact .any _)⟩
/-- The row of tables, one closed with what it holds then. -/
theorem setE_rows3 {s : Shelf} {w n m m0 id m1 id1 : Nat} {l : List Entry} {es : Nat → Nat → AV} (hw : w < s.tables.length) (hm : m = l.length) (he : ∀ i j, i < m → j < 7 → OwEq (es i j) (elE Entry.cs l i j)) : ∀ i j, i < n → j < 2 → OwEq (upd (upd (upd (elE Table.csO s.tables) w 1 [.row id m0]) w 1 [.row id1 m1]) w 1 [.ow 7 m es] i j) (elE Table.csO (s.setE w l).tables i j) := fun i j hi hj => by
  have := setE_rows (n := n) (m0 := m0) (id := id) hw hm he i j hi hj
  rw [upd_one, upd_one] at this
  rw [upd_one, upd_one, upd_one]
  split <;> rename_i e
  · rw [if_pos e] at this
    exact this
  · rw [if_neg e, if_neg e] at this
    exact this

set_option maxRecDepth 8000 in
set_option maxHeartbeats 2000000 in
theorem l19Cut_ok0 (s : Shelf) (h : s.ok) (num : Int) (hw : 0 ≤ (0 : Int) ∧ (0 : Int) < (s.tables.length : Int)) (h7 : s.tables.length ≤ 7) : RetM env.P 78 [some (boxRow s.csO)] [.ptr 0 0 0, .i .i64 (0 : Int), .i .i64 num] (fun r H => r = .tup [] ∧ H = [some (boxRow (s.cut (0 : Int).toNat num).csO)]) := by
  have hl : s.tables.length ≤ 1048576 := h.1.1
  have hw2 : (0 : Int).toNat < s.tables.length := by omega
  have he : (s.tables.getD (0 : Int).toNat default).entries.length ≤ 1048576 := entLe h _
  refine ret_ofM (nt := 46) (rvs := []) Try.func78 rfl rfl rfl rfl (fun X hX => ?_)
  repeat' (first | exact aa | ((conv => whnf) <;> (first | (refine lw_del 9 ?_; refine loopF (fun k : Nat => [(8, .i .i64 k), (6, .row 1 (cutL num ((s.tables.getD (0 : Int).toNat default).entries.take k)).length)]) (fun k => [none, some (.arr ⟨7, (cutL num ((s.tables.getD (0 : Int).toNat default).entries.take k)).length, elE Entry.cs (cutL num ((s.tables.getD (0 : Int).toNat default).entries.take k)), .arr⟩)]) (fun k => k ≤ (s.tables.getD (0 : Int).toNat default).entries.length) (fun k => (s.tables.getD (0 : Int).toNat default).entries.length - k) 0 ⟨Nat.zero_le _, ?_⟩) | exact arr_zero rfl rfl | exact low_cells rfl | exact fx_Tr (n := 4) (show 3 < 4 by decide) rfl | exact rho_keep hX _h | exact capB2 (Nat.le_trans cutT_le.2 he) (by decide) | exact capN2 (Nat.le_trans cutT_le.2 he) | refine And.intro ?_ ?_ | (intro _h; first | contradiction | (try simp only [dd] at _h)) | (refine dt_go ?_) | exact rfl | exact True.intro | exact dkk | exact dks | (refine wrap_succ ?_; omega))))
  · rename_i k _ _
    have hk : k < (s.tables.getD (0 : Int).toNat default).entries.length := by omega
    have hc := cutL_miss (num := num) hk (by simpa using _h)
    have hlen : (cutL num ((s.tables.getD (0 : Int).toNat default).entries.take (k + 1))).length = (cutL num ((s.tables.getD (0 : Int).toNat default).entries.take k)).length + 1 := by rw [hc, List.length_append, List.length_singleton]
    refine ⟨k + 1, [0, 5, 2, 3], hk, (show (s.tables.getD (0 : Int).toNat default).entries.length - (k + 1) < (s.tables.getD (0 : Int).toNat default).entries.length - k by omega), ?_⟩
    repeat' (first | exact aa | ((conv => whnf) <;> (first | exact arr_zero rfl rfl | exact low_cells rfl | exact fx_Tr (n := 4) (show 3 < 4 by decide) rfl | exact rho_keep hX _h | exact capB2 (Nat.le_trans cutT_le.2 he) (by decide) | exact capN2 (Nat.le_trans cutT_le.2 he) | exact hlen | exact hlen.symm | exact arr_snoc hc rfl hlen.symm hlen (fun a j => low_cells rfl) (fun j hj => rfl) | refine And.intro ?_ ?_ | (intro _h; first | contradiction | (try simp only [dd] at _h)) | (refine dt_go ?_) | exact rfl | exact True.intro | exact dkk | exact dks | (refine wrap_succ ?_; omega))))
  · rename_i k _ _
    have hk : k < (s.tables.getD (0 : Int).toNat default).entries.length := by omega
    have hc := cutL_hit (num := num) hk (by simpa using _h)
    have hlen : (cutL num ((s.tables.getD (0 : Int).toNat default).entries.take (k + 1))).length = (cutL num ((s.tables.getD (0 : Int).toNat default).entries.take k)).length := by rw [hc]
    refine ⟨k + 1, [], hk, (show (s.tables.getD (0 : Int).toNat default).entries.length - (k + 1) < (s.tables.getD (0 : Int).toNat default).entries.length - k by omega), ?_⟩
    repeat' (first | exact aa | ((conv => whnf) <;> (first | exact arr_zero rfl rfl | exact low_cells rfl | exact fx_Tr (n := 4) (show 3 < 4 by decide) rfl | exact rho_keep hX _h | exact capB2 (Nat.le_trans cutT_le.2 he) (by decide) | exact capN2 (Nat.le_trans cutT_le.2 he) | exact hlen | exact hlen.symm | exact arr_same hc hlen.symm (fun a j => low_cells rfl) | refine And.intro ?_ ?_ | (intro _h; first | contradiction | (try simp only [dd] at _h)) | (refine dt_go ?_) | exact rfl | exact True.intro | exact dkk | exact dks | (refine wrap_succ ?_; omega))))
  all_goals (conv => whnf)
  rename_i k _
  have hcut : s.cut (0 : Int).toNat num = s.setE (0 : Int).toNat (cutL num ((s.tables.getD (0 : Int).toNat default).entries.take k)) := by
    unfold Shelf.cut
    rw [cutL_all (by omega)]
  refine endM_turn (turn_close (id := 2) (i := (0 : Int).toNat) (j := 1) (id' := 1) rfl hw2 (show 1 < 2 by decide) (by first | (simp only [upd, Nat.beq_refl]; rfl) | (simp only [Shelf.rowT, upd, Nat.beq_refl]; rfl) | exact rowT_at) rfl (show 2 ≠ 1 by decide) rfl (rowO_le (Nat.le_refl _))) ?_
  refine endM_turn (turn_eq (id := 2) (x := rowL 2 Table.csO (s.setE (0 : Int).toNat (cutL num ((s.tables.getD (0 : Int).toNat default).entries.take k))).tables) rfl rfl setE_len rfl rfl (setE_rows3 (l := (cutL num ((s.tables.getD (0 : Int).toNat default).entries.take k))) hw2 rfl (fun i j _ _ => .refl _))) ?_
  refine endM_turn (turn_close (id := 0) (i := 0) (j := 1) (id' := 2) rfl (show 0 < 1 by decide) (show 1 < 3 by decide) rfl rfl (show 0 ≠ 2 by decide) rfl (rowO_le (Nat.le_of_eq setE_len.symm))) ?_
  refine endM_turn (turn_box (id := 0) (ds := (s.setE (0 : Int).toNat (cutL num ((s.tables.getD (0 : Int).toNat default).entries.take k))).csO) rfl rfl rfl (.cons (.refl _) (.cons (OwEq.len setE_len.symm (fun i j _ _ => HoldC.h _ j) (fun i j _ _ => .refl _)) (.cons (.refl _) .nil)))) ?_
  exact endM_pick [0] [some (boxRow (s.setE (0 : Int).toNat (cutL num ((s.tables.getD (0 : Int).toNat default).entries.take k))).csO)] (.tup []) (view_of rfl (.cons rfl (.self (rowPl_box rfl)) .nil)) rfl rfl (by rw [hX]; exact keepK (n := 1) rfl rfl) ⟨rfl, by rw [hcut]⟩

set_option maxRecDepth 8000 in
set_option maxHeartbeats 2000000 in
theorem l19Cut_ok1 (s : Shelf) (h : s.ok) (num : Int) (hw : 0 ≤ (1 : Int) ∧ (1 : Int) < (s.tables.length : Int)) (h7 : s.tables.length ≤ 7) : RetM env.P 78 [some (boxRow s.csO)] [.ptr 0 0 0, .i .i64 (1 : Int), .i .i64 num] (fun r H => r = .tup [] ∧ H = [some (boxRow (s.cut (1 : Int).toNat num).csO)]) := by
  have hl : s.tables.length ≤ 1048576 := h.1.1
  have hw2 : (1 : Int).toNat < s.tables.length := by omega
  have he : (s.tables.getD (1 : Int).toNat default).entries.length ≤ 1048576 := entLe h _
  refine ret_ofM (nt := 46) (rvs := []) Try.func78 rfl rfl rfl rfl (fun X hX => ?_)
  repeat' (first | exact aa | ((conv => whnf) <;> (first | (refine lw_del 9 ?_; refine loopF (fun k : Nat => [(8, .i .i64 k), (6, .row 1 (cutL num ((s.tables.getD (1 : Int).toNat default).entries.take k)).length)]) (fun k => [none, some (.arr ⟨7, (cutL num ((s.tables.getD (1 : Int).toNat default).entries.take k)).length, elE Entry.cs (cutL num ((s.tables.getD (1 : Int).toNat default).entries.take k)), .arr⟩)]) (fun k => k ≤ (s.tables.getD (1 : Int).toNat default).entries.length) (fun k => (s.tables.getD (1 : Int).toNat default).entries.length - k) 0 ⟨Nat.zero_le _, ?_⟩) | exact arr_zero rfl rfl | exact low_cells rfl | exact fx_Tr (n := 4) (show 3 < 4 by decide) rfl | exact rho_keep hX _h | exact capB2 (Nat.le_trans cutT_le.2 he) (by decide) | exact capN2 (Nat.le_trans cutT_le.2 he) | refine And.intro ?_ ?_ | (intro _h; first | contradiction | (try simp only [dd] at _h)) | (refine dt_go ?_) | exact rfl | exact True.intro | exact dkk | exact dks | (refine wrap_succ ?_; omega))))
  · rename_i k _ _
    have hk : k < (s.tables.getD (1 : Int).toNat default).entries.length := by omega
    have hc := cutL_miss (num := num) hk (by simpa using _h)
    have hlen : (cutL num ((s.tables.getD (1 : Int).toNat default).entries.take (k + 1))).length = (cutL num ((s.tables.getD (1 : Int).toNat default).entries.take k)).length + 1 := by rw [hc, List.length_append, List.length_singleton]
    refine ⟨k + 1, [0, 5, 2, 3], hk, (show (s.tables.getD (1 : Int).toNat default).entries.length - (k + 1) < (s.tables.getD (1 : Int).toNat default).entries.length - k by omega), ?_⟩
    repeat' (first | exact aa | ((conv => whnf) <;> (first | exact arr_zero rfl rfl | exact low_cells rfl | exact fx_Tr (n := 4) (show 3 < 4 by decide) rfl | exact rho_keep hX _h | exact capB2 (Nat.le_trans cutT_le.2 he) (by decide) | exact capN2 (Nat.le_trans cutT_le.2 he) | exact hlen | exact hlen.symm | exact arr_snoc hc rfl hlen.symm hlen (fun a j => low_cells rfl) (fun j hj => rfl) | refine And.intro ?_ ?_ | (intro _h; first | contradiction | (try simp only [dd] at _h)) | (refine dt_go ?_) | exact rfl | exact True.intro | exact dkk | exact dks | (refine wrap_succ ?_; omega))))
  · rename_i k _ _
    have hk : k < (s.tables.getD (1 : Int).toNat default).entries.length := by omega
    have hc := cutL_hit (num := num) hk (by simpa using _h)
    have hlen : (cutL num ((s.tables.getD (1 : Int).toNat default).entries.take (k + 1))).length = (cutL num ((s.tables.getD (1 : Int).toNat default).entries.take k)).length := by rw [hc]
    refine ⟨k + 1, [], hk, (show (s.tables.getD (1 : Int).toNat default).entries.length - (k + 1) < (s.tables.getD (1 : Int).toNat default).entries.length - k by omega), ?_⟩
    repeat' (first | exact aa | ((conv => whnf) <;> (first | exact arr_zero rfl rfl | exact low_cells rfl | exact fx_Tr (n := 4) (show 3 < 4 by decide) rfl | exact rho_keep hX _h | exact capB2 (Nat.le_trans cutT_le.2 he) (by decide) | exact capN2 (Nat.le_trans cutT_le.2 he) | exact hlen | exact hlen.symm | exact arr_same hc hlen.symm (fun a j => low_cells rfl) | refine And.intro ?_ ?_ | (intro _h; first | contradiction | (try simp only [dd] at _h)) | (refine dt_go ?_) | exact rfl | exact True.intro | exact dkk | exact dks | (refine wrap_succ ?_; omega))))
  all_goals (conv => whnf)
  rename_i k _
  have hcut : s.cut (1 : Int).toNat num = s.setE (1 : Int).toNat (cutL num ((s.tables.getD (1 : Int).toNat default).entries.take k)) := by
    unfold Shelf.cut
    rw [cutL_all (by omega)]
  refine endM_turn (turn_close (id := 2) (i := (1 : Int).toNat) (j := 1) (id' := 1) rfl hw2 (show 1 < 2 by decide) (by first | (simp only [upd, Nat.beq_refl]; rfl) | (simp only [Shelf.rowT, upd, Nat.beq_refl]; rfl) | exact rowT_at) rfl (show 2 ≠ 1 by decide) rfl (rowO_le (Nat.le_refl _))) ?_
  refine endM_turn (turn_eq (id := 2) (x := rowL 2 Table.csO (s.setE (1 : Int).toNat (cutL num ((s.tables.getD (1 : Int).toNat default).entries.take k))).tables) rfl rfl setE_len rfl rfl (setE_rows3 (l := (cutL num ((s.tables.getD (1 : Int).toNat default).entries.take k))) hw2 rfl (fun i j _ _ => .refl _))) ?_
  refine endM_turn (turn_close (id := 0) (i := 0) (j := 1) (id' := 2) rfl (show 0 < 1 by decide) (show 1 < 3 by decide) rfl rfl (show 0 ≠ 2 by decide) rfl (rowO_le (Nat.le_of_eq setE_len.symm))) ?_
  refine endM_turn (turn_box (id := 0) (ds := (s.setE (1 : Int).toNat (cutL num ((s.tables.getD (1 : Int).toNat default).entries.take k))).csO) rfl rfl rfl (.cons (.refl _) (.cons (OwEq.len setE_len.symm (fun i j _ _ => HoldC.h _ j) (fun i j _ _ => .refl _)) (.cons (.refl _) .nil)))) ?_
  exact endM_pick [0] [some (boxRow (s.setE (1 : Int).toNat (cutL num ((s.tables.getD (1 : Int).toNat default).entries.take k))).csO)] (.tup []) (view_of rfl (.cons rfl (.self (rowPl_box rfl)) .nil)) rfl rfl (by rw [hX]; exact keepK (n := 1) rfl rfl) ⟨rfl, by rw [hcut]⟩

set_option maxRecDepth 8000 in
set_option maxHeartbeats 2000000 in
theorem l19Cut_ok2 (s : Shelf) (h : s.ok) (num : Int) (hw : 0 ≤ (2 : Int) ∧ (2 : Int) < (s.tables.length : Int)) (h7 : s.tables.length ≤ 7) : RetM env.P 78 [some (boxRow s.csO)] [.ptr 0 0 0, .i .i64 (2 : Int), .i .i64 num] (fun r H => r = .tup [] ∧ H = [some (boxRow (s.cut (2 : Int).toNat num).csO)]) := by
  have hl : s.tables.length ≤ 1048576 := h.1.1
  have hw2 : (2 : Int).toNat < s.tables.length := by omega
  have he : (s.tables.getD (2 : Int).toNat default).entries.length ≤ 1048576 := entLe h _
  refine ret_ofM (nt := 46) (rvs := []) Try.func78 rfl rfl rfl rfl (fun X hX => ?_)
  repeat' (first | exact aa | ((conv => whnf) <;> (first | (refine lw_del 9 ?_; refine loopF (fun k : Nat => [(8, .i .i64 k), (6, .row 1 (cutL num ((s.tables.getD (2 : Int).toNat default).entries.take k)).length)]) (fun k => [none, some (.arr ⟨7, (cutL num ((s.tables.getD (2 : Int).toNat default).entries.take k)).length, elE Entry.cs (cutL num ((s.tables.getD (2 : Int).toNat default).entries.take k)), .arr⟩)]) (fun k => k ≤ (s.tables.getD (2 : Int).toNat default).entries.length) (fun k => (s.tables.getD (2 : Int).toNat default).entries.length - k) 0 ⟨Nat.zero_le _, ?_⟩) | exact arr_zero rfl rfl | exact low_cells rfl | exact fx_Tr (n := 4) (show 3 < 4 by decide) rfl | exact rho_keep hX _h | exact capB2 (Nat.le_trans cutT_le.2 he) (by decide) | exact capN2 (Nat.le_trans cutT_le.2 he) | refine And.intro ?_ ?_ | (intro _h; first | contradiction | (try simp only [dd] at _h)) | (refine dt_go ?_) | exact rfl | exact True.intro | exact dkk | exact dks | (refine wrap_succ ?_; omega))))
  · rename_i k _ _
    have hk : k < (s.tables.getD (2 : Int).toNat default).entries.length := by omega
    have hc := cutL_miss (num := num) hk (by simpa using _h)
    have hlen : (cutL num ((s.tables.getD (2 : Int).toNat default).entries.take (k + 1))).length = (cutL num ((s.tables.getD (2 : Int).toNat default).entries.take k)).length + 1 := by rw [hc, List.length_append, List.length_singleton]
    refine ⟨k + 1, [0, 5, 2, 3], hk, (show (s.tables.getD (2 : Int).toNat default).entries.length - (k + 1) < (s.tables.getD (2 : Int).toNat default).entries.length - k by omega), ?_⟩
    repeat' (first | exact aa | ((conv => whnf) <;> (first | exact arr_zero rfl rfl | exact low_cells rfl | exact fx_Tr (n := 4) (show 3 < 4 by decide) rfl | exact rho_keep hX _h | exact capB2 (Nat.le_trans cutT_le.2 he) (by decide) | exact capN2 (Nat.le_trans cutT_le.2 he) | exact hlen | exact hlen.symm | exact arr_snoc hc rfl hlen.symm hlen (fun a j => low_cells rfl) (fun j hj => rfl) | refine And.intro ?_ ?_ | (intro _h; first | contradiction | (try simp only [dd] at _h)) | (refine dt_go ?_) | exact rfl | exact True.intro | exact dkk | exact dks | (refine wrap_succ ?_; omega))))
  · rename_i k _ _
    have hk : k < (s.tables.getD (2 : Int).toNat default).entries.length := by omega
    have hc := cutL_hit (num := num) hk (by simpa using _h)
    have hlen : (cutL num ((s.tables.getD (2 : Int).toNat default).entries.take (k + 1))).length = (cutL num ((s.tables.getD (2 : Int).toNat default).entries.take k)).length := by rw [hc]
    refine ⟨k + 1, [], hk, (show (s.tables.getD (2 : Int).toNat default).entries.length - (k + 1) < (s.tables.getD (2 : Int).toNat default).entries.length - k by omega), ?_⟩
    repeat' (first | exact aa | ((conv => whnf) <;> (first | exact arr_zero rfl rfl | exact low_cells rfl | exact fx_Tr (n := 4) (show 3 < 4 by decide) rfl | exact rho_keep hX _h | exact capB2 (Nat.le_trans cutT_le.2 he) (by decide) | exact capN2 (Nat.le_trans cutT_le.2 he) | exact hlen | exact hlen.symm | exact arr_same hc hlen.symm (fun a j => low_cells rfl) | refine And.intro ?_ ?_ | (intro _h; first | contradiction | (try simp only [dd] at _h)) | (refine dt_go ?_) | exact rfl | exact True.intro | exact dkk | exact dks | (refine wrap_succ ?_; omega))))
  all_goals (conv => whnf)
  rename_i k _
  have hcut : s.cut (2 : Int).toNat num = s.setE (2 : Int).toNat (cutL num ((s.tables.getD (2 : Int).toNat default).entries.take k)) := by
    unfold Shelf.cut
    rw [cutL_all (by omega)]
  refine endM_turn (turn_close (id := 2) (i := (2 : Int).toNat) (j := 1) (id' := 1) rfl hw2 (show 1 < 2 by decide) (by first | (simp only [upd, Nat.beq_refl]; rfl) | (simp only [Shelf.rowT, upd, Nat.beq_refl]; rfl) | exact rowT_at) rfl (show 2 ≠ 1 by decide) rfl (rowO_le (Nat.le_refl _))) ?_
  refine endM_turn (turn_eq (id := 2) (x := rowL 2 Table.csO (s.setE (2 : Int).toNat (cutL num ((s.tables.getD (2 : Int).toNat default).entries.take k))).tables) rfl rfl setE_len rfl rfl (setE_rows3 (l := (cutL num ((s.tables.getD (2 : Int).toNat default).entries.take k))) hw2 rfl (fun i j _ _ => .refl _))) ?_
  refine endM_turn (turn_close (id := 0) (i := 0) (j := 1) (id' := 2) rfl (show 0 < 1 by decide) (show 1 < 3 by decide) rfl rfl (show 0 ≠ 2 by decide) rfl (rowO_le (Nat.le_of_eq setE_len.symm))) ?_
  refine endM_turn (turn_box (id := 0) (ds := (s.setE (2 : Int).toNat (cutL num ((s.tables.getD (2 : Int).toNat default).entries.take k))).csO) rfl rfl rfl (.cons (.refl _) (.cons (OwEq.len setE_len.symm (fun i j _ _ => HoldC.h _ j) (fun i j _ _ => .refl _)) (.cons (.refl _) .nil)))) ?_
  exact endM_pick [0] [some (boxRow (s.setE (2 : Int).toNat (cutL num ((s.tables.getD (2 : Int).toNat default).entries.take k))).csO)] (.tup []) (view_of rfl (.cons rfl (.self (rowPl_box rfl)) .nil)) rfl rfl (by rw [hX]; exact keepK (n := 1) rfl rfl) ⟨rfl, by rw [hcut]⟩

set_option maxRecDepth 8000 in
set_option maxHeartbeats 2000000 in
theorem l19Cut_ok3 (s : Shelf) (h : s.ok) (num : Int) (hw : 0 ≤ (3 : Int) ∧ (3 : Int) < (s.tables.length : Int)) (h7 : s.tables.length ≤ 7) : RetM env.P 78 [some (boxRow s.csO)] [.ptr 0 0 0, .i .i64 (3 : Int), .i .i64 num] (fun r H => r = .tup [] ∧ H = [some (boxRow (s.cut (3 : Int).toNat num).csO)]) := by
  have hl : s.tables.length ≤ 1048576 := h.1.1
  have hw2 : (3 : Int).toNat < s.tables.length := by omega
  have he : (s.tables.getD (3 : Int).toNat default).entries.length ≤ 1048576 := entLe h _
  refine ret_ofM (nt := 46) (rvs := []) Try.func78 rfl rfl rfl rfl (fun X hX => ?_)
  repeat' (first | exact aa | ((conv => whnf) <;> (first | (refine lw_del 9 ?_; refine loopF (fun k : Nat => [(8, .i .i64 k), (6, .row 1 (cutL num ((s.tables.getD (3 : Int).toNat default).entries.take k)).length)]) (fun k => [none, some (.arr ⟨7, (cutL num ((s.tables.getD (3 : Int).toNat default).entries.take k)).length, elE Entry.cs (cutL num ((s.tables.getD (3 : Int).toNat default).entries.take k)), .arr⟩)]) (fun k => k ≤ (s.tables.getD (3 : Int).toNat default).entries.length) (fun k => (s.tables.getD (3 : Int).toNat default).entries.length - k) 0 ⟨Nat.zero_le _, ?_⟩) | exact arr_zero rfl rfl | exact low_cells rfl | exact fx_Tr (n := 4) (show 3 < 4 by decide) rfl | exact rho_keep hX _h | exact capB2 (Nat.le_trans cutT_le.2 he) (by decide) | exact capN2 (Nat.le_trans cutT_le.2 he) | refine And.intro ?_ ?_ | (intro _h; first | contradiction | (try simp only [dd] at _h)) | (refine dt_go ?_) | exact rfl | exact True.intro | exact dkk | exact dks | (refine wrap_succ ?_; omega))))
  · rename_i k _ _
    have hk : k < (s.tables.getD (3 : Int).toNat default).entries.length := by omega
    have hc := cutL_miss (num := num) hk (by simpa using _h)
    have hlen : (cutL num ((s.tables.getD (3 : Int).toNat default).entries.take (k + 1))).length = (cutL num ((s.tables.getD (3 : Int).toNat default).entries.take k)).length + 1 := by rw [hc, List.length_append, List.length_singleton]
    refine ⟨k + 1, [0, 5, 2, 3], hk, (show (s.tables.getD (3 : Int).toNat default).entries.length - (k + 1) < (s.tables.getD (3 : Int).toNat default).entries.length - k by omega), ?_⟩
    repeat' (first | exact aa | ((conv => whnf) <;> (first | exact arr_zero rfl rfl | exact low_cells rfl | exact fx_Tr (n := 4) (show 3 < 4 by decide) rfl | exact rho_keep hX _h | exact capB2 (Nat.le_trans cutT_le.2 he) (by decide) | exact capN2 (Nat.le_trans cutT_le.2 he) | exact hlen | exact hlen.symm | exact arr_snoc hc rfl hlen.symm hlen (fun a j => low_cells rfl) (fun j hj => rfl) | refine And.intro ?_ ?_ | (intro _h; first | contradiction | (try simp only [dd] at _h)) | (refine dt_go ?_) | exact rfl | exact True.intro | exact dkk | exact dks | (refine wrap_succ ?_; omega))))
  · rename_i k _ _
    have hk : k < (s.tables.getD (3 : Int).toNat default).entries.length := by omega
    have hc := cutL_hit (num := num) hk (by simpa using _h)
    have hlen : (cutL num ((s.tables.getD (3 : Int).toNat default).entries.take (k + 1))).length = (cutL num ((s.tables.getD (3 : Int).toNat default).entries.take k)).length := by rw [hc]
    refine ⟨k + 1, [], hk, (show (s.tables.getD (3 : Int).toNat default).entries.length - (k + 1) < (s.tables.getD (3 : Int).toNat default).entries.length - k by omega), ?_⟩
    repeat' (first | exact aa | ((conv => whnf) <;> (first | exact arr_zero rfl rfl | exact low_cells rfl | exact fx_Tr (n := 4) (show 3 < 4 by decide) rfl | exact rho_keep hX _h | exact capB2 (Nat.le_trans cutT_le.2 he) (by decide) | exact capN2 (Nat.le_trans cutT_le.2 he) | exact hlen | exact hlen.symm | exact arr_same hc hlen.symm (fun a j => low_cells rfl) | refine And.intro ?_ ?_ | (intro _h; first | contradiction | (try simp only [dd] at _h)) | (refine dt_go ?_) | exact rfl | exact True.intro | exact dkk | exact dks | (refine wrap_succ ?_; omega))))
  all_goals (conv => whnf)
  rename_i k _
  have hcut : s.cut (3 : Int).toNat num = s.setE (3 : Int).toNat (cutL num ((s.tables.getD (3 : Int).toNat default).entries.take k)) := by
    unfold Shelf.cut
    rw [cutL_all (by omega)]
  refine endM_turn (turn_close (id := 2) (i := (3 : Int).toNat) (j := 1) (id' := 1) rfl hw2 (show 1 < 2 by decide) (by first | (simp only [upd, Nat.beq_refl]; rfl) | (simp only [Shelf.rowT, upd, Nat.beq_refl]; rfl) | exact rowT_at) rfl (show 2 ≠ 1 by decide) rfl (rowO_le (Nat.le_refl _))) ?_
  refine endM_turn (turn_eq (id := 2) (x := rowL 2 Table.csO (s.setE (3 : Int).toNat (cutL num ((s.tables.getD (3 : Int).toNat default).entries.take k))).tables) rfl rfl setE_len rfl rfl (setE_rows3 (l := (cutL num ((s.tables.getD (3 : Int).toNat default).entries.take k))) hw2 rfl (fun i j _ _ => .refl _))) ?_
  refine endM_turn (turn_close (id := 0) (i := 0) (j := 1) (id' := 2) rfl (show 0 < 1 by decide) (show 1 < 3 by decide) rfl rfl (show 0 ≠ 2 by decide) rfl (rowO_le (Nat.le_of_eq setE_len.symm))) ?_
  refine endM_turn (turn_box (id := 0) (ds := (s.setE (3 : Int).toNat (cutL num ((s.tables.getD (3 : Int).toNat default).entries.take k))).csO) rfl rfl rfl (.cons (.refl _) (.cons (OwEq.len setE_len.symm (fun i j _ _ => HoldC.h _ j) (fun i j _ _ => .refl _)) (.cons (.refl _) .nil)))) ?_
  exact endM_pick [0] [some (boxRow (s.setE (3 : Int).toNat (cutL num ((s.tables.getD (3 : Int).toNat default).entries.take k))).csO)] (.tup []) (view_of rfl (.cons rfl (.self (rowPl_box rfl)) .nil)) rfl rfl (by rw [hX]; exact keepK (n := 1) rfl rfl) ⟨rfl, by rw [hcut]⟩

set_option maxRecDepth 8000 in
set_option maxHeartbeats 2000000 in
theorem l19Cut_ok4 (s : Shelf) (h : s.ok) (num : Int) (hw : 0 ≤ (4 : Int) ∧ (4 : Int) < (s.tables.length : Int)) (h7 : s.tables.length ≤ 7) : RetM env.P 78 [some (boxRow s.csO)] [.ptr 0 0 0, .i .i64 (4 : Int), .i .i64 num] (fun r H => r = .tup [] ∧ H = [some (boxRow (s.cut (4 : Int).toNat num).csO)]) := by
  have hl : s.tables.length ≤ 1048576 := h.1.1
  have hw2 : (4 : Int).toNat < s.tables.length := by omega
  have he : (s.tables.getD (4 : Int).toNat default).entries.length ≤ 1048576 := entLe h _
  refine ret_ofM (nt := 46) (rvs := []) Try.func78 rfl rfl rfl rfl (fun X hX => ?_)
  repeat' (first | exact aa | ((conv => whnf) <;> (first | (refine lw_del 9 ?_; refine loopF (fun k : Nat => [(8, .i .i64 k), (6, .row 1 (cutL num ((s.tables.getD (4 : Int).toNat default).entries.take k)).length)]) (fun k => [none, some (.arr ⟨7, (cutL num ((s.tables.getD (4 : Int).toNat default).entries.take k)).length, elE Entry.cs (cutL num ((s.tables.getD (4 : Int).toNat default).entries.take k)), .arr⟩)]) (fun k => k ≤ (s.tables.getD (4 : Int).toNat default).entries.length) (fun k => (s.tables.getD (4 : Int).toNat default).entries.length - k) 0 ⟨Nat.zero_le _, ?_⟩) | exact arr_zero rfl rfl | exact low_cells rfl | exact fx_Tr (n := 4) (show 3 < 4 by decide) rfl | exact rho_keep hX _h | exact capB2 (Nat.le_trans cutT_le.2 he) (by decide) | exact capN2 (Nat.le_trans cutT_le.2 he) | refine And.intro ?_ ?_ | (intro _h; first | contradiction | (try simp only [dd] at _h)) | (refine dt_go ?_) | exact rfl | exact True.intro | exact dkk | exact dks | (refine wrap_succ ?_; omega))))
  · rename_i k _ _
    have hk : k < (s.tables.getD (4 : Int).toNat default).entries.length := by omega
    have hc := cutL_miss (num := num) hk (by simpa using _h)
    have hlen : (cutL num ((s.tables.getD (4 : Int).toNat default).entries.take (k + 1))).length = (cutL num ((s.tables.getD (4 : Int).toNat default).entries.take k)).length + 1 := by rw [hc, List.length_append, List.length_singleton]
    refine ⟨k + 1, [0, 5, 2, 3], hk, (show (s.tables.getD (4 : Int).toNat default).entries.length - (k + 1) < (s.tables.getD (4 : Int).toNat default).entries.length - k by omega), ?_⟩
    repeat' (first | exact aa | ((conv => whnf) <;> (first | exact arr_zero rfl rfl | exact low_cells rfl | exact fx_Tr (n := 4) (show 3 < 4 by decide) rfl | exact rho_keep hX _h | exact capB2 (Nat.le_trans cutT_le.2 he) (by decide) | exact capN2 (Nat.le_trans cutT_le.2 he) | exact hlen | exact hlen.symm | exact arr_snoc hc rfl hlen.symm hlen (fun a j => low_cells rfl) (fun j hj => rfl) | refine And.intro ?_ ?_ | (intro _h; first | contradiction | (try simp only [dd] at _h)) | (refine dt_go ?_) | exact rfl | exact True.intro | exact dkk | exact dks | (refine wrap_succ ?_; omega))))
  · rename_i k _ _
    have hk : k < (s.tables.getD (4 : Int).toNat default).entries.length := by omega
    have hc := cutL_hit (num := num) hk (by simpa using _h)
    have hlen : (cutL num ((s.tables.getD (4 : Int).toNat default).entries.take (k + 1))).length = (cutL num ((s.tables.getD (4 : Int).toNat default).entries.take k)).length := by rw [hc]
    refine ⟨k + 1, [], hk, (show (s.tables.getD (4 : Int).toNat default).entries.length - (k + 1) < (s.tables.getD (4 : Int).toNat default).entries.length - k by omega), ?_⟩
    repeat' (first | exact aa | ((conv => whnf) <;> (first | exact arr_zero rfl rfl | exact low_cells rfl | exact fx_Tr (n := 4) (show 3 < 4 by decide) rfl | exact rho_keep hX _h | exact capB2 (Nat.le_trans cutT_le.2 he) (by decide) | exact capN2 (Nat.le_trans cutT_le.2 he) | exact hlen | exact hlen.symm | exact arr_same hc hlen.symm (fun a j => low_cells rfl) | refine And.intro ?_ ?_ | (intro _h; first | contradiction | (try simp only [dd] at _h)) | (refine dt_go ?_) | exact rfl | exact True.intro | exact dkk | exact dks | (refine wrap_succ ?_; omega))))
  all_goals (conv => whnf)
  rename_i k _
  have hcut : s.cut (4 : Int).toNat num = s.setE (4 : Int).toNat (cutL num ((s.tables.getD (4 : Int).toNat default).entries.take k)) := by
    unfold Shelf.cut
    rw [cutL_all (by omega)]
  refine endM_turn (turn_close (id := 2) (i := (4 : Int).toNat) (j := 1) (id' := 1) rfl hw2 (show 1 < 2 by decide) (by first | (simp only [upd, Nat.beq_refl]; rfl) | (simp only [Shelf.rowT, upd, Nat.beq_refl]; rfl) | exact rowT_at) rfl (show 2 ≠ 1 by decide) rfl (rowO_le (Nat.le_refl _))) ?_
  refine endM_turn (turn_eq (id := 2) (x := rowL 2 Table.csO (s.setE (4 : Int).toNat (cutL num ((s.tables.getD (4 : Int).toNat default).entries.take k))).tables) rfl rfl setE_len rfl rfl (setE_rows3 (l := (cutL num ((s.tables.getD (4 : Int).toNat default).entries.take k))) hw2 rfl (fun i j _ _ => .refl _))) ?_
  refine endM_turn (turn_close (id := 0) (i := 0) (j := 1) (id' := 2) rfl (show 0 < 1 by decide) (show 1 < 3 by decide) rfl rfl (show 0 ≠ 2 by decide) rfl (rowO_le (Nat.le_of_eq setE_len.symm))) ?_
  refine endM_turn (turn_box (id := 0) (ds := (s.setE (4 : Int).toNat (cutL num ((s.tables.getD (4 : Int).toNat default).entries.take k))).csO) rfl rfl rfl (.cons (.refl _) (.cons (OwEq.len setE_len.symm (fun i j _ _ => HoldC.h _ j) (fun i j _ _ => .refl _)) (.cons (.refl _) .nil)))) ?_
  exact endM_pick [0] [some (boxRow (s.setE (4 : Int).toNat (cutL num ((s.tables.getD (4 : Int).toNat default).entries.take k))).csO)] (.tup []) (view_of rfl (.cons rfl (.self (rowPl_box rfl)) .nil)) rfl rfl (by rw [hX]; exact keepK (n := 1) rfl rfl) ⟨rfl, by rw [hcut]⟩

set_option maxRecDepth 8000 in
set_option maxHeartbeats 2000000 in
theorem l19Cut_ok5 (s : Shelf) (h : s.ok) (num : Int) (hw : 0 ≤ (5 : Int) ∧ (5 : Int) < (s.tables.length : Int)) (h7 : s.tables.length ≤ 7) : RetM env.P 78 [some (boxRow s.csO)] [.ptr 0 0 0, .i .i64 (5 : Int), .i .i64 num] (fun r H => r = .tup [] ∧ H = [some (boxRow (s.cut (5 : Int).toNat num).csO)]) := by
  have hl : s.tables.length ≤ 1048576 := h.1.1
  have hw2 : (5 : Int).toNat < s.tables.length := by omega
  have he : (s.tables.getD (5 : Int).toNat default).entries.length ≤ 1048576 := entLe h _
  refine ret_ofM (nt := 46) (rvs := []) Try.func78 rfl rfl rfl rfl (fun X hX => ?_)
  repeat' (first | exact aa | ((conv => whnf) <;> (first | (refine lw_del 9 ?_; refine loopF (fun k : Nat => [(8, .i .i64 k), (6, .row 1 (cutL num ((s.tables.getD (5 : Int).toNat default).entries.take k)).length)]) (fun k => [none, some (.arr ⟨7, (cutL num ((s.tables.getD (5 : Int).toNat default).entries.take k)).length, elE Entry.cs (cutL num ((s.tables.getD (5 : Int).toNat default).entries.take k)), .arr⟩)]) (fun k => k ≤ (s.tables.getD (5 : Int).toNat default).entries.length) (fun k => (s.tables.getD (5 : Int).toNat default).entries.length - k) 0 ⟨Nat.zero_le _, ?_⟩) | exact arr_zero rfl rfl | exact low_cells rfl | exact fx_Tr (n := 4) (show 3 < 4 by decide) rfl | exact rho_keep hX _h | exact capB2 (Nat.le_trans cutT_le.2 he) (by decide) | exact capN2 (Nat.le_trans cutT_le.2 he) | refine And.intro ?_ ?_ | (intro _h; first | contradiction | (try simp only [dd] at _h)) | (refine dt_go ?_) | exact rfl | exact True.intro | exact dkk | exact dks | (refine wrap_succ ?_; omega))))
  · rename_i k _ _
    have hk : k < (s.tables.getD (5 : Int).toNat default).entries.length := by omega
    have hc := cutL_miss (num := num) hk (by simpa using _h)
    have hlen : (cutL num ((s.tables.getD (5 : Int).toNat default).entries.take (k + 1))).length = (cutL num ((s.tables.getD (5 : Int).toNat default).entries.take k)).length + 1 := by rw [hc, List.length_append, List.length_singleton]
    refine ⟨k + 1, [0, 5, 2, 3], hk, (show (s.tables.getD (5 : Int).toNat default).entries.length - (k + 1) < (s.tables.getD (5 : Int).toNat default).entries.length - k by omega), ?_⟩
    repeat' (first | exact aa | ((conv => whnf) <;> (first | exact arr_zero rfl rfl | exact low_cells rfl | exact fx_Tr (n := 4) (show 3 < 4 by decide) rfl | exact rho_keep hX _h | exact capB2 (Nat.le_trans cutT_le.2 he) (by decide) | exact capN2 (Nat.le_trans cutT_le.2 he) | exact hlen | exact hlen.symm | exact arr_snoc hc rfl hlen.symm hlen (fun a j => low_cells rfl) (fun j hj => rfl) | refine And.intro ?_ ?_ | (intro _h; first | contradiction | (try simp only [dd] at _h)) | (refine dt_go ?_) | exact rfl | exact True.intro | exact dkk | exact dks | (refine wrap_succ ?_; omega))))
  · rename_i k _ _
    have hk : k < (s.tables.getD (5 : Int).toNat default).entries.length := by omega
    have hc := cutL_hit (num := num) hk (by simpa using _h)
    have hlen : (cutL num ((s.tables.getD (5 : Int).toNat default).entries.take (k + 1))).length = (cutL num ((s.tables.getD (5 : Int).toNat default).entries.take k)).length := by rw [hc]
    refine ⟨k + 1, [], hk, (show (s.tables.getD (5 : Int).toNat default).entries.length - (k + 1) < (s.tables.getD (5 : Int).toNat default).entries.length - k by omega), ?_⟩
    repeat' (first | exact aa | ((conv => whnf) <;> (first | exact arr_zero rfl rfl | exact low_cells rfl | exact fx_Tr (n := 4) (show 3 < 4 by decide) rfl | exact rho_keep hX _h | exact capB2 (Nat.le_trans cutT_le.2 he) (by decide) | exact capN2 (Nat.le_trans cutT_le.2 he) | exact hlen | exact hlen.symm | exact arr_same hc hlen.symm (fun a j => low_cells rfl) | refine And.intro ?_ ?_ | (intro _h; first | contradiction | (try simp only [dd] at _h)) | (refine dt_go ?_) | exact rfl | exact True.intro | exact dkk | exact dks | (refine wrap_succ ?_; omega))))
  all_goals (conv => whnf)
  rename_i k _
  have hcut : s.cut (5 : Int).toNat num = s.setE (5 : Int).toNat (cutL num ((s.tables.getD (5 : Int).toNat default).entries.take k)) := by
    unfold Shelf.cut
    rw [cutL_all (by omega)]
  refine endM_turn (turn_close (id := 2) (i := (5 : Int).toNat) (j := 1) (id' := 1) rfl hw2 (show 1 < 2 by decide) (by first | (simp only [upd, Nat.beq_refl]; rfl) | (simp only [Shelf.rowT, upd, Nat.beq_refl]; rfl) | exact rowT_at) rfl (show 2 ≠ 1 by decide) rfl (rowO_le (Nat.le_refl _))) ?_
  refine endM_turn (turn_eq (id := 2) (x := rowL 2 Table.csO (s.setE (5 : Int).toNat (cutL num ((s.tables.getD (5 : Int).toNat default).entries.take k))).tables) rfl rfl setE_len rfl rfl (setE_rows3 (l := (cutL num ((s.tables.getD (5 : Int).toNat default).entries.take k))) hw2 rfl (fun i j _ _ => .refl _))) ?_
  refine endM_turn (turn_close (id := 0) (i := 0) (j := 1) (id' := 2) rfl (show 0 < 1 by decide) (show 1 < 3 by decide) rfl rfl (show 0 ≠ 2 by decide) rfl (rowO_le (Nat.le_of_eq setE_len.symm))) ?_
  refine endM_turn (turn_box (id := 0) (ds := (s.setE (5 : Int).toNat (cutL num ((s.tables.getD (5 : Int).toNat default).entries.take k))).csO) rfl rfl rfl (.cons (.refl _) (.cons (OwEq.len setE_len.symm (fun i j _ _ => HoldC.h _ j) (fun i j _ _ => .refl _)) (.cons (.refl _) .nil)))) ?_
  exact endM_pick [0] [some (boxRow (s.setE (5 : Int).toNat (cutL num ((s.tables.getD (5 : Int).toNat default).entries.take k))).csO)] (.tup []) (view_of rfl (.cons rfl (.self (rowPl_box rfl)) .nil)) rfl rfl (by rw [hX]; exact keepK (n := 1) rfl rfl) ⟨rfl, by rw [hcut]⟩

set_option maxRecDepth 8000 in
set_option maxHeartbeats 2000000 in
theorem l19Cut_ok6 (s : Shelf) (h : s.ok) (num : Int) (hw : 0 ≤ (6 : Int) ∧ (6 : Int) < (s.tables.length : Int)) (h7 : s.tables.length ≤ 7) : RetM env.P 78 [some (boxRow s.csO)] [.ptr 0 0 0, .i .i64 (6 : Int), .i .i64 num] (fun r H => r = .tup [] ∧ H = [some (boxRow (s.cut (6 : Int).toNat num).csO)]) := by
  have hl : s.tables.length ≤ 1048576 := h.1.1
  have hw2 : (6 : Int).toNat < s.tables.length := by omega
  have he : (s.tables.getD (6 : Int).toNat default).entries.length ≤ 1048576 := entLe h _
  refine ret_ofM (nt := 46) (rvs := []) Try.func78 rfl rfl rfl rfl (fun X hX => ?_)
  repeat' (first | exact aa | ((conv => whnf) <;> (first | (refine lw_del 9 ?_; refine loopF (fun k : Nat => [(8, .i .i64 k), (6, .row 1 (cutL num ((s.tables.getD (6 : Int).toNat default).entries.take k)).length)]) (fun k => [none, some (.arr ⟨7, (cutL num ((s.tables.getD (6 : Int).toNat default).entries.take k)).length, elE Entry.cs (cutL num ((s.tables.getD (6 : Int).toNat default).entries.take k)), .arr⟩)]) (fun k => k ≤ (s.tables.getD (6 : Int).toNat default).entries.length) (fun k => (s.tables.getD (6 : Int).toNat default).entries.length - k) 0 ⟨Nat.zero_le _, ?_⟩) | exact arr_zero rfl rfl | exact low_cells rfl | exact fx_Tr (n := 4) (show 3 < 4 by decide) rfl | exact rho_keep hX _h | exact capB2 (Nat.le_trans cutT_le.2 he) (by decide) | exact capN2 (Nat.le_trans cutT_le.2 he) | refine And.intro ?_ ?_ | (intro _h; first | contradiction | (try simp only [dd] at _h)) | (refine dt_go ?_) | exact rfl | exact True.intro | exact dkk | exact dks | (refine wrap_succ ?_; omega))))
  · rename_i k _ _
    have hk : k < (s.tables.getD (6 : Int).toNat default).entries.length := by omega
    have hc := cutL_miss (num := num) hk (by simpa using _h)
    have hlen : (cutL num ((s.tables.getD (6 : Int).toNat default).entries.take (k + 1))).length = (cutL num ((s.tables.getD (6 : Int).toNat default).entries.take k)).length + 1 := by rw [hc, List.length_append, List.length_singleton]
    refine ⟨k + 1, [0, 5, 2, 3], hk, (show (s.tables.getD (6 : Int).toNat default).entries.length - (k + 1) < (s.tables.getD (6 : Int).toNat default).entries.length - k by omega), ?_⟩
    repeat' (first | exact aa | ((conv => whnf) <;> (first | exact arr_zero rfl rfl | exact low_cells rfl | exact fx_Tr (n := 4) (show 3 < 4 by decide) rfl | exact rho_keep hX _h | exact capB2 (Nat.le_trans cutT_le.2 he) (by decide) | exact capN2 (Nat.le_trans cutT_le.2 he) | exact hlen | exact hlen.symm | exact arr_snoc hc rfl hlen.symm hlen (fun a j => low_cells rfl) (fun j hj => rfl) | refine And.intro ?_ ?_ | (intro _h; first | contradiction | (try simp only [dd] at _h)) | (refine dt_go ?_) | exact rfl | exact True.intro | exact dkk | exact dks | (refine wrap_succ ?_; omega))))
  · rename_i k _ _
    have hk : k < (s.tables.getD (6 : Int).toNat default).entries.length := by omega
    have hc := cutL_hit (num := num) hk (by simpa using _h)
    have hlen : (cutL num ((s.tables.getD (6 : Int).toNat default).entries.take (k + 1))).length = (cutL num ((s.tables.getD (6 : Int).toNat default).entries.take k)).length := by rw [hc]
    refine ⟨k + 1, [], hk, (show (s.tables.getD (6 : Int).toNat default).entries.length - (k + 1) < (s.tables.getD (6 : Int).toNat default).entries.length - k by omega), ?_⟩
    repeat' (first | exact aa | ((conv => whnf) <;> (first | exact arr_zero rfl rfl | exact low_cells rfl | exact fx_Tr (n := 4) (show 3 < 4 by decide) rfl | exact rho_keep hX _h | exact capB2 (Nat.le_trans cutT_le.2 he) (by decide) | exact capN2 (Nat.le_trans cutT_le.2 he) | exact hlen | exact hlen.symm | exact arr_same hc hlen.symm (fun a j => low_cells rfl) | refine And.intro ?_ ?_ | (intro _h; first | contradiction | (try simp only [dd] at _h)) | (refine dt_go ?_) | exact rfl | exact True.intro | exact dkk | exact dks | (refine wrap_succ ?_; omega))))
  all_goals (conv => whnf)
  rename_i k _
  have hcut : s.cut (6 : Int).toNat num = s.setE (6 : Int).toNat (cutL num ((s.tables.getD (6 : Int).toNat default).entries.take k)) := by
    unfold Shelf.cut
    rw [cutL_all (by omega)]
  refine endM_turn (turn_close (id := 2) (i := (6 : Int).toNat) (j := 1) (id' := 1) rfl hw2 (show 1 < 2 by decide) (by first | (simp only [upd, Nat.beq_refl]; rfl) | (simp only [Shelf.rowT, upd, Nat.beq_refl]; rfl) | exact rowT_at) rfl (show 2 ≠ 1 by decide) rfl (rowO_le (Nat.le_refl _))) ?_
  refine endM_turn (turn_eq (id := 2) (x := rowL 2 Table.csO (s.setE (6 : Int).toNat (cutL num ((s.tables.getD (6 : Int).toNat default).entries.take k))).tables) rfl rfl setE_len rfl rfl (setE_rows3 (l := (cutL num ((s.tables.getD (6 : Int).toNat default).entries.take k))) hw2 rfl (fun i j _ _ => .refl _))) ?_
  refine endM_turn (turn_close (id := 0) (i := 0) (j := 1) (id' := 2) rfl (show 0 < 1 by decide) (show 1 < 3 by decide) rfl rfl (show 0 ≠ 2 by decide) rfl (rowO_le (Nat.le_of_eq setE_len.symm))) ?_
  refine endM_turn (turn_box (id := 0) (ds := (s.setE (6 : Int).toNat (cutL num ((s.tables.getD (6 : Int).toNat default).entries.take k))).csO) rfl rfl rfl (.cons (.refl _) (.cons (OwEq.len setE_len.symm (fun i j _ _ => HoldC.h _ j) (fun i j _ _ => .refl _)) (.cons (.refl _) .nil)))) ?_
  exact endM_pick [0] [some (boxRow (s.setE (6 : Int).toNat (cutL num ((s.tables.getD (6 : Int).toNat default).entries.take k))).csO)] (.tup []) (view_of rfl (.cons rfl (.self (rowPl_box rfl)) .nil)) rfl rfl (by rw [hX]; exact keepK (n := 1) rfl rfl) ⟨rfl, by rw [hcut]⟩

set_option maxRecDepth 8000 in
set_option maxHeartbeats 2000000 in
theorem l19Cut_ok (s : Shelf) (h : s.ok) (who num : Int) (hw : 0 ≤ who ∧ who < (s.tables.length : Int)) (h7 : s.tables.length ≤ 7) : RetM env.P 78 [some (boxRow s.csO)] [.ptr 0 0 0, .i .i64 who, .i .i64 num] (fun r H => r = .tup [] ∧ H = [some (boxRow (s.cut who.toNat num).csO)]) := by
  rcases (show who = 0 ∨ who = 1 ∨ who = 2 ∨ who = 3 ∨ who = 4 ∨ who = 5 ∨ who = 6 by omega) with rfl | rfl | rfl | rfl | rfl | rfl | rfl
  · exact l19Cut_ok0 s h num hw h7
  · exact l19Cut_ok1 s h num hw h7
  · exact l19Cut_ok2 s h num hw h7
  · exact l19Cut_ok3 s h num hw h7
  · exact l19Cut_ok4 s h num hw h7
  · exact l19Cut_ok5 s h num hw h7
  · exact l19Cut_ok6 s h num hw h7

set_option maxRecDepth 8000 in
theorem indexFuncEntry1_ok (l : List Entry) (g : Nat) {fv} (hg : env.F.get g = some fv) (c0 : List AV) (p : Entry → Bool) (hl : l.length ≤ 1048576) (hp : ∀ k, k < l.length → Ret env.P g (.agg (Entry.cs (l.getD k default)) :: [rfL c0]) (fun r => r = .b (p (l.getD k default)))) :
    Ret env.P 97 [slL 7 Entry.cs l, .fn g [rfL c0]] (fun r => r = .i .i64 (idxI (l.findIdx? p))) := by
  refine ret_of (nt := 19) (rvs := [.tmp 4]) Try.func97 rfl rfl rfl rfl (fun X => ?_)
  repeat' (first | exact aa | ((conv => whnf) <;> (first | rw [hg] | exact upto_succ (by assumption) (by assumption) | refine loopN l.length (fun k => [(8, .i .i64 k)]) (fun k => []) (fun k => ∀ j, j < k → p (l.getD j default) = false) ⟨fun _ h => by omega, ?_⟩ | refine And.intro ?_ ?_ | (intro _h; first | contradiction | (try simp only [dd] at _h)) | (refine dt_go ?_) | exact rfl | exact True.intro | exact dkk | exact dks | ((first | refine .inl ⟨_, hp _ (by omega), ?_⟩ | refine ⟨_, hp _ (by omega), ?_⟩); (try rintro _ rfl)) | (refine wrap_succ ?_; omega))))
  · exact leaf_i (idx_some (by omega) (by assumption) (by assumption))
  · exact leaf_i (idx_none fun j hj => by have := ‹∀ j, j < _ → p (l.getD j default) = false›; exact this j (by omega))

end Go.Proofs.Ytfjciadhanfhpaa

namespace Go.Proofs.Ytfjciadhanfhpaa
open Go Go.RowKit
set_option linter.unusedVariables false
set_option linter.unusedSimpArgs false

theorem getD_app {α : Type} [Inhabited α] {l m : List α} {i : Nat} (h : i < l.length) : (l ++ m).getD i default = l.getD i default := by
  rw [List.getD_eq_getElem?_getD, List.getD_eq_getElem?_getD, List.getElem?_append_left h]
end Go.Proofs.Ytfjciadhanfhpaa

namespace Go.Proofs.Ytfjciadhanfhpaa
open Go Go.RowKit
set_option linter.unusedVariables false
set_option linter.unusedSimpArgs false

/-- A table's entries, one of them with other lendings; a shelf with these. -/
def setLd (l : List Entry) (k : Nat) (v : Int) : List Entry := l.set k { l.getD k default with lends := v }
def Shelf.setL (s : Shelf) (w k : Nat) (v : Int) : Shelf := s.setE w (setLd (s.tables.getD w default).entries k v)
theorem setLd_len {l : List Entry} {k : Nat} {v : Int} : (setLd l k v).length = l.length := List.length_set
theorem setLd_rows {l : List Entry} {k n : Nat} {v : Int} (hk : k < l.length) : ∀ i j, i < n → j < 7 → OwEq (upd (elE Entry.cs l) k 3 [.i .i64 v] i j) (elE Entry.cs (setLd l k v) i j) := fun i j hi hj => by
  have hr : elE Entry.cs (setLd l k v) i j = (Entry.cs (if i = k then { l.getD k default with lends := v } else l.getD i default)).getD j .any := by
    unfold elE setLd
    rw [getD_set hk]
  rw [hr, upd_one]
  by_cases e1 : i = k
  · subst e1
    rw [if_pos rfl]
    rcases (show j = 0 ∨ j = 1 ∨ j = 2 ∨ j = 3 ∨ j = 4 ∨ j = 5 ∨ j = 6 by omega) with rfl | rfl | rfl | rfl | rfl | rfl | rfl <;> first | exact .refl _ | (rw [if_neg (by omega)]; exact .refl _) | (rw [if_pos ⟨rfl, rfl⟩]; exact .refl _)
  · rw [if_neg (fun q => e1 q.1), if_neg e1]
    exact .refl _
theorem setLd_rowO {l : List Entry} {k n : Nat} {v : Int} (hn : n ≤ l.length) : RowO n ⟨7, l.length, upd (elE Entry.cs l) k 3 [.i .i64 v], .arr⟩ := ⟨hn, fun i j hi hj => by
  show (upd _ k 3 [.i .i64 v] i j).idfO
  rw [upd_one]
  split
  · exact trivial
  · exact HoldC.h _ j⟩
end Go.Proofs.Ytfjciadhanfhpaa

namespace Go.Proofs.Ytfjciadhanfhpaa
open Go Go.RowKit
set_option linter.unusedVariables false
set_option linter.unusedSimpArgs false

theorem list_ext {α : Type} [Inhabited α] {l m : List α} (h : l.length = m.length) (he : ∀ i, i < l.length → l.getD i default = m.getD i default) : l = m := by
  refine List.ext_getElem h fun i hi hj => ?_
  have := he i hi
  rw [List.getD_eq_getElem?_getD, List.getElem?_eq_getElem hi, List.getD_eq_getElem?_getD, List.getElem?_eq_getElem hj] at this
  exact this
theorem shelf_ext {a b : Shelf} (h1 : a.next = b.next) (h2 : a.things = b.things) (h3 : a.tables.length = b.tables.length) (h4 : ∀ i, i < a.tables.length → a.tables.getD i default = b.tables.getD i default) : a = b := by
  obtain ⟨n, t, x⟩ := a
  obtain ⟨n', t', x'⟩ := b
  dsimp only at h1 h2 h3 h4
  subst h1 h2
  rw [list_ext h3 h4]

/-- The shelf of which the entries that K keeps are left. -/
def Shelf.keep (s : Shelf) (K : Nat → Entry → Bool) : Shelf := ⟨s.next, s.tables.mapIdx fun i t => ⟨t.next, t.entries.filter (K i)⟩, s.things⟩
theorem keep_len {s : Shelf} {K : Nat → Entry → Bool} : (s.keep K).tables.length = s.tables.length := List.length_mapIdx
theorem keep_tab {s : Shelf} {K : Nat → Entry → Bool} {i : Nat} : (s.keep K).tables.getD i default = ⟨(s.tables.getD i default).next, (s.tables.getD i default).entries.filter (K i)⟩ := by
  unfold Shelf.keep
  dsimp only
  rw [List.getD_eq_getElem?_getD, List.getElem?_mapIdx, List.getD_eq_getElem?_getD]
  cases s.tables[i]? with
  | none => rfl
  | some t => rfl

theorem find_idx {p : Entry → Bool} : ∀ l : List Entry, (l.findIdx? p).map (fun k => l.getD k default) = l.find? p
  | [] => rfl
  | a :: l => by
    rw [List.findIdx?_cons, List.find?_cons, ← find_idx l]
    cases p a with
    | true => rfl
    | false =>
      simp only [Bool.false_eq_true, if_false, Option.map_map]
      rfl
theorem at_eq {s : Shelf} {who num : Int} : s.at_ who num = if s.isT who = true then (s.tables.getD who.toNat default).entries.find? (numP num) else none := by
  unfold Shelf.at_ Shelf.tab Table.find
  rw [find_idx]
/-- No two entries of a table have one number. -/
def uniq (l : List Entry) : Prop := ∀ i j, i < l.length → j < l.length → (l.getD i default).num = (l.getD j default).num → i = j
theorem uniq_tail {a : Entry} {l : List Entry} (h : uniq (a :: l)) : uniq l ∧ ∀ b ∈ l, ¬ b.num = a.num := by
  refine ⟨fun i j hi hj e => ?_, fun b hb e => ?_⟩
  · have := h (i + 1) (j + 1) (by simpa using hi) (by simpa using hj) (by simpa using e)
    omega
  · obtain ⟨k, hk⟩ := List.getElem?_of_mem hb
    have := h (k + 1) 0 (by simpa using (List.getElem?_eq_some_iff.1 hk).1) (by simp) (by
      rw [List.getD_eq_getElem?_getD]
      simp only [List.getElem?_cons_succ, hk, Option.getD_some]
      exact e)
    omega
theorem find_none_of {num : Int} {l : List Entry} (h : ∀ b ∈ l, ¬ b.num = num) : l.find? (numP num) = none :=
  List.find?_eq_none.2 fun b hb => by simpa [numP] using h b hb
theorem find_filter {K : Entry → Bool} {num : Int} : ∀ {l : List Entry}, uniq l → (l.filter K).find? (numP num) = (l.find? (numP num)).filter K
  | [], _ => rfl
  | a :: l, h => by
    have h2 := uniq_tail h
    rw [List.filter_cons, List.find?_cons]
    by_cases e : a.num = num
    · have ea : numP num a = true := by simpa [numP] using e
      rw [ea]
      cases hK : K a with
      | true => simp only [if_true, List.find?_cons, ea, Option.filter, hK]
      | false =>
        simp only [Bool.false_eq_true, if_false, Option.filter, hK]
        exact find_none_of fun b hb => by
          have := h2.2 b ((List.mem_filter.1 hb).1)
          rwa [e] at this
    · have ea : numP num a = false := by simpa [numP] using e
      rw [ea]
      dsimp only
      rw [← find_filter h2.1]
      split
      · rw [List.find?_cons, ea]
      · rfl
theorem keep_at {s : Shelf} {K : Nat → Entry → Bool} (hu : ∀ i, uniq (s.tables.getD i default).entries) {who num : Int} : (s.keep K).at_ who num = (s.at_ who num).filter (K who.toNat) := by
  rw [at_eq, at_eq, keep_tab]
  have : (s.keep K).isT who = s.isT who := by unfold Shelf.isT; rw [keep_len]
  rw [this]
  split
  · exact find_filter (hu _)
  · rfl
theorem at_in {s : Shelf} {who num : Int} {x : Entry} (h : s.at_ who num = some x) : who.toNat < s.tables.length ∧ x.num = num ∧ ∃ k, k < (s.tables.getD who.toNat default).entries.length ∧ (s.tables.getD who.toNat default).entries.getD k default = x := by
  rw [at_eq] at h
  split at h
  · rename_i ht
    have ht' : 0 ≤ who ∧ who < (s.tables.length : Int) := by simpa [Shelf.isT] using ht
    refine ⟨by omega, by simpa [numP] using List.find?_some h, ?_⟩
    obtain ⟨k, hk⟩ := List.getElem?_of_mem (List.mem_of_find?_eq_some h)
    exact ⟨k, (List.getElem?_eq_some_iff.1 hk).1, by rw [List.getD_eq_getElem?_getD, hk]; rfl⟩
  · cases h

/-- Its chain of lendings is kept, up to an owner. -/
inductive Shelf.Live (s : Shelf) (K : Nat → Entry → Bool) : Entry → Prop
  | own {e : Entry} (h : e.own = true) : Shelf.Live s K e
  | lent {e x : Entry} (h : s.at_ e.from_ e.fromNum = some x) (hk : K e.from_.toNat x = true) (hx : Shelf.Live s K x) : Shelf.Live s K e
/-- Of what K0 keeps, K keeps at least what is live. -/
structure Shelf.Cut (s : Shelf) (K0 K : Nat → Entry → Bool) : Prop where
  sub : ∀ i e, K i e = true → K0 i e = true
  live : ∀ i k, i < s.tables.length → k < (s.tables.getD i default).entries.length → K0 i ((s.tables.getD i default).entries.getD k default) = true → s.Live K0 ((s.tables.getD i default).entries.getD k default) → K i ((s.tables.getD i default).entries.getD k default) = true
/-- .. and nothing else. -/
structure Shelf.Fix (s : Shelf) (K0 K : Nat → Entry → Bool) : Prop where
  cut : s.Cut K0 K
  fix : ∀ i k, i < s.tables.length → k < (s.tables.getD i default).entries.length → K i ((s.tables.getD i default).entries.getD k default) = true → s.Live K0 ((s.tables.getD i default).entries.getD k default)
theorem Shelf.Cut.start (s : Shelf) (K0 : Nat → Entry → Bool) : s.Cut K0 K0 := ⟨fun _ _ h => h, fun _ _ _ _ h _ => h⟩
theorem keep_congr {s : Shelf} {K K' : Nat → Entry → Bool} (h : ∀ i k, i < s.tables.length → k < (s.tables.getD i default).entries.length → K i ((s.tables.getD i default).entries.getD k default) = K' i ((s.tables.getD i default).entries.getD k default)) : s.keep K = s.keep K' := by
  refine shelf_ext rfl rfl (keep_len.trans keep_len.symm) fun i hi => ?_
  rw [keep_len] at hi
  rw [keep_tab, keep_tab]
  congr 1
  refine List.filter_congr fun e he => ?_
  obtain ⟨k, hk⟩ := List.getElem?_of_mem he
  have := h i k hi (List.getElem?_eq_some_iff.1 hk).1
  rw [List.getD_eq_getElem?_getD, hk] at this
  exact this
theorem Shelf.Fix.one {s : Shelf} {K0 K K' : Nat → Entry → Bool} (h : s.Fix K0 K) (h' : s.Fix K0 K') : s.keep K = s.keep K' := keep_congr fun i k hi hk => by
  rw [Bool.eq_iff_iff]
  exact ⟨fun q => h'.cut.live i k hi hk (h.cut.sub _ _ q) (h.fix i k hi hk q), fun q => h.cut.live i k hi hk (h'.cut.sub _ _ q) (h'.fix i k hi hk q)⟩

/-- One entry less. -/
def delE (K : Nat → Entry → Bool) (w : Nat) (num : Int) : Nat → Entry → Bool := fun i e => K i e && !(Nat.beq i w && numP num e)
theorem keep_cut {s : Shelf} {K : Nat → Entry → Bool} {w : Nat} {num : Int} (hw : w < s.tables.length) : (s.keep K).cut w num = s.keep (delE K w num) := by
  refine shelf_ext rfl rfl (by unfold Shelf.cut; rw [setE_len, keep_len, keep_len]) fun i hi => ?_
  unfold Shelf.cut
  rw [setE_at (by rw [keep_len]; exact hw), keep_tab, keep_tab]
  split
  · rename_i e
    subst e
    rw [keep_tab]
    dsimp only
    congr 1
    unfold cutL
    rw [List.filter_filter]
    refine List.filter_congr fun e _ => ?_
    unfold delE
    rw [Nat.beq_refl, Bool.true_and, Bool.and_comm]
  · rename_i e
    rw [keep_tab]
    congr 1
    refine List.filter_congr fun x _ => ?_
    unfold delE
    rw [beq_ff e, Bool.false_and, Bool.not_false, Bool.and_true]
/-- An entry that was not lent from one that is there is not live. -/
theorem Shelf.Cut.dead {s : Shelf} {K0 K : Nat → Entry → Bool} (h : s.Cut K0 K) (hu : ∀ i, uniq (s.tables.getD i default).entries) {e : Entry} (ho : e.own = false) (hn : (s.keep K).orig e = none) : ¬ s.Live K0 e := by
  intro hl
  cases hl with
  | own q => rw [ho] at q; cases q
  | @lent e x ha hk hx =>
    unfold Shelf.orig at hn
    rw [keep_at hu, ha] at hn
    obtain ⟨h1, h2, k, h3, h4⟩ := at_in ha
    have := h.live _ k h1 h3 (by rw [h4]; exact hk) (by rw [h4]; exact hx)
    rw [h4] at this
    simp [Option.filter, this] at hn
theorem Shelf.Cut.del {s : Shelf} {K0 K : Nat → Entry → Bool} (h : s.Cut K0 K) (hu : ∀ i, uniq (s.tables.getD i default).entries) {w : Nat} {e : Entry} (he : e ∈ (s.tables.getD w default).entries) (hd : ¬ s.Live K0 e) : s.Cut K0 (delE K w e.num) := by
  refine ⟨fun i x q => h.sub i x (by unfold delE at q; rw [Bool.and_eq_true] at q; exact q.1), fun i k hi hk h0 hl => ?_⟩
  unfold delE
  rw [h.live i k hi hk h0 hl, Bool.true_and, Bool.not_eq_true']
  cases hb : (Nat.beq i w && numP e.num ((s.tables.getD i default).entries.getD k default)) with
  | false => rfl
  | true =>
    rw [Bool.and_eq_true] at hb
    have e1 := Nat.eq_of_beq_eq_true hb.1
    subst e1
    have e2 : ((s.tables.getD i default).entries.getD k default).num = e.num := by simpa [numP] using hb.2
    obtain ⟨q, hq⟩ := List.getElem?_of_mem he
    have hql := (List.getElem?_eq_some_iff.1 hq).1
    have hqe : (s.tables.getD i default).entries.getD q default = e := by rw [List.getD_eq_getElem?_getD, hq]; rfl
    have := hu i k q hk hql (by rw [e2, hqe])
    subst this
    rw [hqe] at hl
    exact absurd hl hd
/-- Where each entry that is left has what it was lent from, nothing but what is live is left. -/
theorem Shelf.Cut.done {s : Shelf} {K0 K : Nat → Entry → Bool} (h : s.Cut K0 K) (hu : ∀ i, uniq (s.tables.getD i default).entries) (hs : ∀ i k, i < s.tables.length → k < (s.tables.getD i default).entries.length → ∃ n, s.sEnds n ((s.tables.getD i default).entries.getD k default) = true)
    (he : ∀ i k, i < s.tables.length → k < (s.tables.getD i default).entries.length → K i ((s.tables.getD i default).entries.getD k default) = true → ((s.tables.getD i default).entries.getD k default).own = true ∨ ¬ (s.keep K).orig ((s.tables.getD i default).entries.getD k default) = none) : s.Fix K0 K := by
  have key : ∀ (n : Nat) (i k : Nat), i < s.tables.length → k < (s.tables.getD i default).entries.length → K i ((s.tables.getD i default).entries.getD k default) = true → s.sEnds n ((s.tables.getD i default).entries.getD k default) = true → s.Live K0 ((s.tables.getD i default).entries.getD k default) := by
    intro n
    induction n with
    | zero => intro i k _ _ _ q; cases q
    | succ n ih =>
      intro i k hi hk hK q
      rcases he i k hi hk hK with q1 | q1
      · exact .own q1
      · by_cases ho : ((s.tables.getD i default).entries.getD k default).own = true
        · exact .own ho
        · generalize (s.tables.getD i default).entries.getD k default = e at *
          unfold Shelf.orig at q1
          rw [keep_at hu] at q1
          rw [Shelf.sEnds, if_neg ho] at q
          unfold Shelf.orig at q
          cases ha : s.at_ e.from_ e.fromNum with
          | none => rw [ha] at q; cases q
          | some x =>
            rw [ha] at q q1
            dsimp only at q
            have hKx : K e.from_.toNat x = true := by
              cases hc : K e.from_.toNat x with
              | true => rfl
              | false => simp [Option.filter, hc] at q1
            split at q
            · cases q
            · obtain ⟨h1, h2, j, h3, h4⟩ := at_in ha
              have := ih _ j h1 h3 (by rw [h4]; exact hKx) (by rw [h4]; exact q)
              rw [h4] at this
              exact .lent ha (h.sub _ _ hKx) this
  refine ⟨h, fun i k hi hk hK => ?_⟩
  obtain ⟨n, hn⟩ := hs i k hi hk
  exact key n i k hi hk hK hn

/-- In a valid table no two entries have one number. -/
theorem good_lt {t : Table} (h : t.good) : ∀ {i j : Nat}, i < j → j < t.entries.length → (t.entries.getD i default).num < (t.entries.getD j default).num := by
  intro i j hij hj
  induction j with
  | zero => omega
  | succ j ih =>
    have h1 := (h.1 (j + 1) hj).1
    unfold prevNum at h1
    rw [if_neg (by omega), Nat.add_sub_cancel] at h1
    rcases Nat.lt_or_eq_of_le (Nat.le_of_lt_succ hij) with q | rfl
    · have := ih q (by omega); omega
    · exact h1
theorem good_uniq {t : Table} (h : t.good) : uniq t.entries := fun i j hi hj e => by
  rcases Nat.lt_trichotomy i j with q | q | q
  · have := good_lt h q hj; omega
  · exact q
  · have := good_lt h q hi; omega
theorem shelf_uniq {s : Shelf} (h : s.good) (i : Nat) : uniq (s.tables.getD i default).entries := by
  by_cases hi : i < s.tables.length
  · exact good_uniq (h.2.2.2.1 i hi)
  · rw [List.getD_eq_getElem?_getD, List.getElem?_eq_none (by omega)]
    intro i j hi; cases hi
theorem shelf_ends {s : Shelf} (h : s.good) (i k : Nat) (hi : i < s.tables.length) (hk : k < (s.tables.getD i default).entries.length) : ∃ n, s.sEnds n ((s.tables.getD i default).entries.getD k default) = true :=
  ⟨85, (((good_iff s).1 h).2.2.1 i k hi hk).1⟩
end Go.Proofs.Ytfjciadhanfhpaa

namespace Go.Proofs.Ytfjciadhanfhpaa
open Go Go.RowKit
set_option linter.unusedVariables false
set_option linter.unusedSimpArgs false

/-- A loop that is told by a slot that it writes. -/
theorem loopTF {E : Env} {nt : Nat} {X : Ctx} {f : Fr} {H : Hp} {c : Code} {Q : Exit → Fr → Hp → Prop} {α : Type} (t : Nat) (vs : α → Fr) (hp : α → List (Option RowI)) (I : α → Prop) (μ : α → Nat) (x0 : α) (ht : inL (asg c) t = true)
    (h : I x0 ∧ agK (mkH H (hp x0)) H [] f (vs x0) ∧ hpP (mkH H (hp x0)) H [] 0 (hp x0) H ∧
      delK H.length (asg c) f fun f0 => ∀ x, I x → wpc E nt X c (vs x ++ f0) (mkH H (hp x)) (thn (RoundEndT X f0 H vs hp I μ x) Q)) :
    LW E.P nt X (.loop c) f H Q := loopFT vs hp I μ x0 h
/-- The first i tables have been gone through. -/
def untilK (K : Nat → Entry → Bool) (i : Nat) : Nat → Entry → Bool := fun j e => if j < i then K j e else true
theorem until_zero {s : Shelf} {K : Nat → Entry → Bool} : s.keep (untilK K 0) = s := by
  refine shelf_ext rfl rfl keep_len fun i hi => ?_
  rw [keep_tab]
  have : (s.tables.getD i default).entries.filter (untilK K 0 i) = (s.tables.getD i default).entries := List.filter_eq_self.2 fun e _ => by simp [untilK]
  rw [this]
theorem until_at {s : Shelf} {K : Nat → Entry → Bool} {i j : Nat} (h : i ≤ j) : (s.keep (untilK K i)).tables.getD j default = s.tables.getD j default := by
  rw [keep_tab]
  have : (s.tables.getD j default).entries.filter (untilK K i j) = (s.tables.getD j default).entries := List.filter_eq_self.2 fun e _ => by
    unfold untilK
    rw [if_neg (by omega)]
  rw [this]
theorem until_succ {s : Shelf} {K : Nat → Entry → Bool} {i : Nat} (h : i < s.tables.length) : (s.keep (untilK K i)).setE i ((s.tables.getD i default).entries.filter (K i)) = s.keep (untilK K (i + 1)) := by
  refine shelf_ext rfl rfl (by rw [setE_len, keep_len, keep_len]) fun j hj => ?_
  rw [setE_at (by rw [keep_len]; exact h), keep_tab, keep_tab]
  split
  · rename_i e
    subst e
    rw [keep_tab]
    congr 1
    refine List.filter_congr fun e _ => ?_
    unfold untilK
    rw [if_pos (by omega)]
  · rename_i e
    rw [keep_tab]
    congr 1
    refine List.filter_congr fun x _ => ?_
    unfold untilK
    by_cases h2 : j < i
    · rw [if_pos h2, if_pos (by omega)]
    · rw [if_neg h2, if_neg (by omega)]
theorem until_end {s : Shelf} {K : Nat → Entry → Bool} {i : Nat} (h : ¬ i < s.tables.length) : s.keep (untilK K i) = s.keep K := keep_congr fun j k hj _ => by
  unfold untilK
  rw [if_pos (by omega)]

/-- What is left at the end. -/
noncomputable def Shelf.fixK (s : Shelf) (K0 : Nat → Entry → Bool) : Nat → Entry → Bool := fun i e => K0 i e && pb (s.Live K0 e)
theorem fixK_fix (s : Shelf) (K0 : Nat → Entry → Bool) : s.Fix K0 (s.fixK K0) :=
  ⟨⟨fun i e h => by unfold Shelf.fixK at h; rw [Bool.and_eq_true] at h; exact h.1, fun i k hi hk h0 hl => by unfold Shelf.fixK; rw [h0, Bool.true_and]; exact pb_t.mpr hl⟩,
   fun i k hi hk h => by unfold Shelf.fixK at h; rw [Bool.and_eq_true] at h; exact pb_t.mp h.2⟩

theorem keep_ok {s : Shelf} (h : s.ok) {K : Nat → Entry → Bool} : (s.keep K).ok := ⟨⟨by rw [keep_len]; exact h.1.1, fun i hi => by
  rw [keep_tab]
  exact ⟨Nat.le_trans (List.length_filter_le _ _) (entLe h i), fun _ _ => trivial⟩⟩, h.2⟩

/-- How many entries there are. -/
def Shelf.cnt (s : Shelf) : Nat := (s.tables.map fun t => t.entries.length).sum
theorem sum_set {l : List Nat} : ∀ {w : Nat} {v : Nat}, w < l.length → v < l.getD w 0 → (l.set w v).sum < l.sum := by
  induction l with
  | nil => intro w v h; simp at h
  | cons a l ih =>
    intro w v h hv
    cases w with
    | zero =>
      have : v < a := by simpa using hv
      simp only [List.set_cons_zero, List.sum_cons]
      omega
    | succ w =>
      have := ih (w := w) (v := v) (by simpa using h) (by simpa using hv)
      simp only [List.set_cons_succ, List.sum_cons]
      omega
theorem cnt_setE {s : Shelf} {w : Nat} {l : List Entry} (hw : w < s.tables.length) (hl : l.length < (s.tables.getD w default).entries.length) : (s.setE w l).cnt < s.cnt := by
  unfold Shelf.cnt Shelf.setE
  dsimp only
  rw [List.map_set]
  refine sum_set (by simpa using hw) ?_
  have e : (s.tables.map fun t => t.entries.length).getD w 0 = (s.tables.getD w default).entries.length := by
    rw [List.getD_eq_getElem?_getD (l := s.tables.map _), List.getElem?_map, List.getElem?_eq_getElem hw, List.getD_eq_getElem?_getD, List.getElem?_eq_getElem hw]; rfl
  rw [e]
  exact hl
theorem cutL_lt {num : Int} {l : List Entry} {k : Nat} (hk : k < l.length) (h : (l.getD k default).num = num) : (cutL num l).length < l.length := by
  have h1 : l = l.take k ++ l.drop k := (List.take_append_drop k l).symm
  have h2 : l.drop k = l.getD k default :: l.drop (k + 1) := by
    rw [List.drop_eq_getElem_cons hk, List.getD_eq_getElem?_getD, List.getElem?_eq_getElem hk]; rfl
  have h3 : cutL num l = cutL num (l.take k) ++ cutL num (l.drop (k + 1)) := by
    conv => lhs; rw [h1, h2]
    unfold cutL
    rw [List.filter_append, List.filter_cons]
    have : (!numP num (l.getD k default)) = false := by simp only [numP, h, decide_true, Bool.not_true]
    rw [this]
    rfl
  have h4 := cutL_le (num := num) (l := l.take k)
  have h5 := cutL_le (num := num) (l := l.drop (k + 1))
  rw [h3, List.length_append]
  rw [List.length_take] at h4
  rw [List.length_drop] at h5
  omega

theorem filt_no {α : Type} [Inhabited α] {p : α → Bool} {l : List α} {k : Nat} (hk : k < l.length) (h : p (l.getD k default) = false) : (l.take (k + 1)).filter p = (l.take k).filter p := by
  rw [take_snoc hk, List.filter_append]
  simp only [List.filter, h, List.append_nil]
theorem filt_yes {α : Type} [Inhabited α] {p : α → Bool} {l : List α} {k : Nat} (hk : k < l.length) (h : p (l.getD k default) = true) : (l.take (k + 1)).filter p = (l.take k).filter p ++ [l.getD k default] := by
  rw [take_snoc hk, List.filter_append]
  simp only [List.filter, h]
theorem filt_le {α : Type} {p : α → Bool} {l : List α} {k : Nat} : ((l.take k).filter p).length ≤ l.length := by
  have h1 := List.length_filter_le p (l.take k)
  rw [List.length_take] at h1
  omega

/-! ### Counted anew -/
def lendE (f : List Int → Int) (j : Nat) (e : Entry) : Entry := { e with lends := f [(j : Int), e.num] }
/-- The first i tables' entries, and then k of the next's, have been counted. -/
def lendU (f : List Int → Int) (s : Shelf) (i k : Nat) : Shelf := ⟨s.next, s.tables.mapIdx fun j t => ⟨t.next, t.entries.mapIdx fun l e => if j < i ∨ (j = i ∧ l < k) then lendE f j e else e⟩, s.things⟩
def Shelf.relend (s : Shelf) : Shelf := lendU (leF s.all) s s.tables.length 0
theorem lendU_len {f : List Int → Int} {s : Shelf} {i k : Nat} : (lendU f s i k).tables.length = s.tables.length := List.length_mapIdx
theorem lendU_tab {f : List Int → Int} {s : Shelf} {i k j : Nat} : (lendU f s i k).tables.getD j default = ⟨(s.tables.getD j default).next, (s.tables.getD j default).entries.mapIdx fun l e => if j < i ∨ (j = i ∧ l < k) then lendE f j e else e⟩ := by
  unfold lendU
  dsimp only
  rw [List.getD_eq_getElem?_getD, List.getElem?_mapIdx, List.getD_eq_getElem?_getD]
  cases s.tables[j]? with
  | none => rfl
  | some t => rfl
theorem lendU_elen {f : List Int → Int} {s : Shelf} {i k j : Nat} : ((lendU f s i k).tables.getD j default).entries.length = (s.tables.getD j default).entries.length := by
  rw [lendU_tab]
  exact List.length_mapIdx
theorem lendU_ent {f : List Int → Int} {s : Shelf} {i k j l : Nat} (hl : l < (s.tables.getD j default).entries.length) : ((lendU f s i k).tables.getD j default).entries.getD l default = if j < i ∨ (j = i ∧ l < k) then lendE f j ((s.tables.getD j default).entries.getD l default) else (s.tables.getD j default).entries.getD l default := by
  rw [lendU_tab]
  dsimp only
  generalize (s.tables.getD j default).entries = es at hl ⊢
  rw [List.getD_eq_getElem?_getD, List.getElem?_mapIdx, List.getD_eq_getElem?_getD, List.getElem?_eq_getElem hl]
  rfl
theorem table_ext {a b : Table} (h1 : a.next = b.next) (h2 : a.entries.length = b.entries.length) (h3 : ∀ k, k < a.entries.length → a.entries.getD k default = b.entries.getD k default) : a = b := by
  obtain ⟨n, l⟩ := a
  obtain ⟨m, l'⟩ := b
  dsimp only at h1 h2 h3
  subst h1
  rw [list_ext h2 h3]
theorem lendU_next0 {f : List Int → Int} {s : Shelf} {i k j : Nat} : ((lendU f s i k).tables.getD j default).next = (s.tables.getD j default).next := by rw [lendU_tab]
theorem lendU_congr {f : List Int → Int} {s : Shelf} {i k i' k' : Nat} (h : ∀ j l, j < s.tables.length → l < (s.tables.getD j default).entries.length → ((j < i ∨ (j = i ∧ l < k)) ↔ (j < i' ∨ (j = i' ∧ l < k')))) : lendU f s i k = lendU f s i' k' := by
  refine shelf_ext rfl rfl (lendU_len.trans lendU_len.symm) fun j hj => ?_
  rw [lendU_len] at hj
  refine table_ext (lendU_next0.trans lendU_next0.symm) (lendU_elen.trans lendU_elen.symm) fun l hl => ?_
  rw [lendU_elen] at hl
  rw [lendU_ent hl, lendU_ent hl]
  by_cases c : j < i ∨ (j = i ∧ l < k)
  · rw [if_pos c, if_pos ((h j l hj hl).1 c)]
  · rw [if_neg c, if_neg (fun q => c ((h j l hj hl).2 q))]
theorem lendU_zero {f : List Int → Int} {s : Shelf} : lendU f s 0 0 = s := by
  refine shelf_ext rfl rfl lendU_len fun j hj => ?_
  refine table_ext lendU_next0 lendU_elen fun l hl => ?_
  rw [lendU_elen] at hl
  rw [lendU_ent hl, if_neg (by omega)]
theorem lendU_next {f : List Int → Int} {s : Shelf} {i k : Nat} (h : ¬ k < (s.tables.getD i default).entries.length) : lendU f s i k = lendU f s (i + 1) 0 := lendU_congr fun j l _ hl => by
  by_cases e : j = i
  · subst e; omega
  · omega
theorem lendU_end {f : List Int → Int} {s : Shelf} {i : Nat} (h : ¬ i < s.tables.length) : lendU f s i 0 = lendU f s s.tables.length 0 := lendU_congr fun j l hj _ => by omega
theorem lendU_step {f : List Int → Int} {s : Shelf} {i k : Nat} (hi : i < s.tables.length) (hk : k < (s.tables.getD i default).entries.length) {v : Int} (hv : v = f [(i : Int), ((s.tables.getD i default).entries.getD k default).num]) : (lendU f s i k).setL i k v = lendU f s i (k + 1) := by
  subst hv
  have hi' : i < (lendU f s i k).tables.length := by rw [lendU_len]; exact hi
  have hk' : k < ((lendU f s i k).tables.getD i default).entries.length := by rw [lendU_elen]; exact hk
  unfold Shelf.setL
  refine shelf_ext rfl rfl (by rw [setE_len, lendU_len, lendU_len]) fun j hj => ?_
  rw [setE_len, lendU_len] at hj
  rw [setE_at hi']
  split
  · rename_i e
    subst e
    refine table_ext (lendU_next0.trans lendU_next0.symm) (by rw [setLd_len, lendU_elen, lendU_elen]) fun l hl => ?_
    rw [setLd_len, lendU_elen] at hl
    unfold setLd
    rw [getD_set hk', lendU_ent hl, lendU_ent hk]
    by_cases e : l = k
    · subst e
      rw [if_pos rfl, if_neg (by omega), lendU_ent hl, if_pos (by omega)]
      rfl
    · rw [if_neg e, lendU_ent hl]
      by_cases c : j < j ∨ (j = j ∧ l < k)
      · rw [if_pos c, if_pos (by omega)]
      · rw [if_neg c, if_neg (by omega)]
  · rename_i e
    refine table_ext (lendU_next0.trans lendU_next0.symm) (lendU_elen.trans lendU_elen.symm) fun l hl => ?_
    rw [lendU_elen] at hl
    rw [lendU_ent hl, lendU_ent hl]
    by_cases c : j < i ∨ (j = i ∧ l < k)
    · rw [if_pos c, if_pos (by omega)]
    · rw [if_neg c, if_neg (by omega)]
theorem lendU_ok {f : List Int → Int} {s : Shelf} (h : s.ok) {i k : Nat} : (lendU f s i k).ok := ⟨⟨by rw [lendU_len]; exact h.1.1, fun j hj => ⟨by rw [lendU_elen]; exact entLe h j, fun _ _ => trivial⟩⟩, h.2⟩
theorem fold_idx {g : (List Int → Int) → Entry → (List Int → Int)} (F : Nat → Entry → Entry) (hF : ∀ f l e, g f (F l e) = g f e) : ∀ (l : List Entry) (n : Nat) (f : List Int → Int), (l.mapIdx fun i e => F (n + i) e).foldl g f = l.foldl g f
  | [], _, _ => rfl
  | a :: l, n, f => by
    rw [List.mapIdx_cons, List.foldl_cons, List.foldl_cons, hF]
    have := fold_idx F hF l (n + 1) (g f a)
    rw [← this]
    congr 1
    refine congrArg (fun q => List.mapIdx q l) ?_
    funext i e
    rw [show n + 1 + i = n + (i + 1) by omega]
theorem fold_flat {g : (List Int → Int) → Entry → (List Int → Int)} (F : Nat → Nat → Entry → Entry) (hF : ∀ f j l e, g f (F j l e) = g f e) : ∀ (ts : List Table) (n : Nat) (f : List Int → Int), ((ts.mapIdx fun j t => (⟨t.next, t.entries.mapIdx fun l e => F (n + j) l e⟩ : Table)).flatMap Table.entries).foldl g f = (ts.flatMap Table.entries).foldl g f
  | [], _, _ => rfl
  | t :: ts, n, f => by
    rw [List.mapIdx_cons, List.flatMap_cons, List.flatMap_cons, List.foldl_append, List.foldl_append]
    have h1 := fold_idx (g := g) (fun l e => F (n + 0) l e) (fun f l e => hF f _ l e) t.entries 0 f
    simp only [Nat.zero_add] at h1
    dsimp only
    rw [h1]
    have := fold_flat F hF ts (n + 1) (t.entries.foldl g f)
    rw [← this]
    congr 2
    refine congrArg (fun q => List.mapIdx q ts) ?_
    funext j t
    rw [show n + 1 + j = n + (j + 1) by omega]
theorem lendU_le {f : List Int → Int} {s : Shelf} {i k : Nat} : leF (lendU f s i k).all = leF s.all := by
  unfold leF Shelf.all lendU
  have := fold_flat (g := leStep) (fun j l e => if j < i ∨ (j = i ∧ l < k) then lendE f j e else e) (fun f' j l e => by split <;> rfl) s.tables 0 (fun _ => 0)
  simp only [Nat.zero_add] at this
  exact this
end Go.Proofs.Ytfjciadhanfhpaa

