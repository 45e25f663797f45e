/- Texts for VHandlesMovedP. -/
import Derived.Test.YtmglpojnoadgeaaVh29
namespace Go.Proofs.Ytmglpojnoadgeaa
open Go Go.RowKit
set_option linter.unusedVariables false
set_option linter.unusedSimpArgs false
set_option maxRecDepth 8000
def cutL (num : Int) (l : List Entry) : List Entry := l.filter (fun e => !numP num e)
def Shelf.cut (s : Shelf) (w : Nat) (num : Int) : Shelf := s.setE w (cutL num (s.tables.getD w default).entries)
theorem cutL_le {num : Int} {l : List Entry} : (cutL num l).length ≤ l.length := List.length_filter_le _ _
theorem cutL_hit {num : Int} {l : List Entry} {k : Nat} (hk : k < l.length) (h : (l.getD k default).num = num) : cutL num (l.take (k + 1)) = cutL num (l.take k) := by
  have hp : (!numP num (l.getD k default)) = false := by simp only [numP, h, decide_true, Bool.not_true]
  rw [take_snoc hk]
  unfold cutL
  rw [List.filter_append]
  simp only [List.filter, hp, List.append_nil]
theorem cutL_miss {num : Int} {l : List Entry} {k : Nat} (hk : k < l.length) (h : ¬ (l.getD k default).num = num) : cutL num (l.take (k + 1)) = cutL num (l.take k) ++ [l.getD k default] := by
  have hp : (!numP num (l.getD k default)) = true := by simp only [numP, h, decide_false, Bool.not_false]
  rw [take_snoc hk]
  unfold cutL
  rw [List.filter_append]
  simp only [List.filter, hp]
theorem cutT_le {num : Int} {l : List Entry} {i : Nat} : (cutL num (l.take i)).length ≤ i ∧ (cutL num (l.take i)).length ≤ l.length := by
  have h1 := cutL_le (num := num) (l := l.take i)
  rw [List.length_take] at h1
  omega
theorem arr_zero {r : List Nat} {n sz cap cap' : Nat} {e e' : Nat → Nat → AV} {k : RK} (hc : cap = 0) (hc' : cap' = 0) : ArrP r n ⟨sz, cap, e, k⟩ ⟨sz, cap', e', k⟩ := by
  subst hc hc'
  exact ⟨rfl, rfl, rfl, fun i j hi => absurd hi (Nat.not_lt_zero _), fun i j hi => absurd hi (Nat.not_lt_zero _)⟩
theorem cutL_all {num : Int} {l : List Entry} {k : Nat} (hk : ¬ k < l.length) : cutL num (l.take k) = cutL num l := by rw [List.take_of_length_le (by omega)]
theorem arr_snoc {α : Type} [Inhabited α] {r : List Nat} {n sz k cap cap' : Nat} {c : α → List AV} {l l' : List α} {a : α} {g : Nat → Nat → AV} {bx : RK} (e : l' = l ++ [a]) (hk : k = l.length) (hc : cap' = cap) (hcap : cap = l.length + 1) (hlow : ∀ a j, fx r n ((c a).getD j .any) = true)
    (h1 : ∀ j, j < sz → g 0 j = (c a).getD j .any) : ArrP r n ⟨sz, cap, elE c l', bx⟩ ⟨sz, cap', catE k (elE c l) g, bx⟩ :=
  ⟨rfl, hc, rfl, fun i j hi hj => by
    show catE k (elE c l) g i j = elE c l' i j
    subst e
    rw [catE_at]
    unfold elE
    rw [getD_snoc]
    by_cases h' : i < k
    · rw [if_pos h', if_pos (by omega)]
    · rw [if_neg h', if_neg (by omega)]
      by_cases h2 : i = l.length
      · rw [if_pos h2, show i - k = 0 by omega]; exact h1 j hj
      · exfalso; have : i < cap := hi; have hcl := hcap; omega, fun i j _ _ => hlow _ _⟩
theorem fx_Tr {r : List Nat} {n w id m i j : Nat} {l : List Table} (h : id < n) (hr : rhoF r id = id) : fx r n (upd (elE Table.csO l) w 1 [.row id m] i j) = true := by
  rw [upd_one]
  split
  · simp [fx, hr, h]
  · exact low_cells rfl
theorem rho_keep {X : Ctx} {x : Option Row} {r : List Nat} {id : Nat} (hX : X.H0 = [x]) (h : id < X.H0.length) : rhoF (0 :: r) id = id := by
  rw [hX] at h
  obtain rfl : id = 0 := by simpa using h
  rfl
def delS (t : Nat) : Fr → Fr
  | [] => []
  | (d, v) :: f => bif Nat.beq d t then delS t f else (d, v) :: delS t f
theorem lk_delS {t u : Nat} : ∀ {f : Fr}, lk (delS t f) u = lk f u ∨ lk (delS t f) u = .any
  | [] => .inl rfl
  | (d, v) :: f => by
    unfold delS
    cases hb : Nat.beq d t with
    | true =>
      rw [cond_true]
      by_cases hu : d = u
      · right
        have hd := Nat.eq_of_beq_eq_true hb
        subst hd
        subst hu
        clear hb
        induction f with
        | nil => rfl
        | cons p f ih =>
          obtain ⟨e, z⟩ := p
          unfold delS
          cases hb : Nat.beq e d with
          | true => exact ih
          | false =>
            rw [cond_false, lk_cons, if_neg (fun q => by rw [q, Nat.beq_refl] at hb; cases hb)]
            exact ih
      · rw [lk_cons, if_neg hu]
        exact lk_delS
    | false =>
      rw [cond_false, lk_cons, lk_cons]
      split
      · exact .inl rfl
      · exact lk_delS
theorem lw_del {P : Program} {nt : Nat} {X : Ctx} {f : Fr} {Hh : Hp} {c : Code} {Q : Exit → Fr → Hp → Prop} (t : Nat) (h : LW P nt X c (delS t f) Hh Q) : LW P nt X c f Hh Q :=
  ⟨fun a w s => h.pw a w (by
    obtain ⟨blk, FP, s⟩ := s
    refine ⟨blk, FP, s.defers, s.size, s.keeps, s.rows, s.apart, fun u => ?_, s.ext⟩
    rcases lk_delS (t := t) (u := u) (f := f) with e | e
    · rw [e]; exact s.fr u
    · rw [e]; exact .any _)⟩
theorem setE_rows3 {s : Shelf} {w n m m0 id m1 id1 : Nat} {l : List Entry} {es : Nat → Nat → AV} (hw : w < s.tables.length) (hm : m = l.length) (he : ∀ i j, i < m → j < 7 → OwEq (es i j) (elE Entry.cs l i j)) : ∀ i j, i < n → j < 2 → OwEq (upd (upd (upd (elE Table.csO s.tables) w 1 [.row id m0]) w 1 [.row id1 m1]) w 1 [.ow 7 m es] i j) (elE Table.csO (s.setE w l).tables i j) := fun i j hi hj => by
  have := setE_rows (n := n) (m0 := m0) (id := id) hw hm he i j hi hj
  rw [upd_one, upd_one] at this
  rw [upd_one, upd_one, upd_one]
  split <;> rename_i e
  · rw [if_pos e] at this
    exact this
  · rw [if_neg e, if_neg e] at this
    exact this
set_option maxHeartbeats 2000000 in
theorem l19Cut_ok (s : Shelf) (h : s.ok) (who num : Int) (hw : 0 ≤ who ∧ who < (s.tables.length : Int)) (h7 : s.tables.length ≤ 7) : RetM env.P 70 [some (boxRow s.csO)] [.ptr 0 0 0, .i .i64 who, .i .i64 num] (fun r H => r = .tup [] ∧ H = [some (boxRow (s.cut who.toNat num).csO)]) := by
  have hl : s.tables.length ≤ 1048576 := h.1.1
  have hw2 : who.toNat < s.tables.length := by omega
  have he : (s.tables.getD who.toNat default).entries.length ≤ 1048576 := entLe h _
  refine ret_ofM (nt := 46) (rvs := []) Try.func70 rfl rfl rfl rfl (fun X hX => ?_)
  repeat' (first | exact aa | ((conv => whnf) <;> (first | (refine lw_del 9 ?_; refine loopF (fun k : Nat => [(8, .i .i64 k), (6, .row 1 (cutL num ((s.tables.getD who.toNat default).entries.take k)).length)]) (fun k => [none, some (.arr ⟨7, (cutL num ((s.tables.getD who.toNat default).entries.take k)).length, elE Entry.cs (cutL num ((s.tables.getD who.toNat default).entries.take k)), .arr⟩)]) (fun k => k ≤ (s.tables.getD who.toNat default).entries.length) (fun k => (s.tables.getD who.toNat default).entries.length - k) 0 ⟨Nat.zero_le _, ?_⟩) | exact arr_zero rfl rfl | exact low_cells rfl | exact fx_Tr (n := 4) (show 3 < 4 by decide) rfl | exact rho_keep hX _h | exact capB2 (Nat.le_trans cutT_le.2 he) (by decide) | exact capN2 (Nat.le_trans cutT_le.2 he) | refine And.intro ?_ ?_ | (intro _h; first | contradiction | (try simp only [dd] at _h)) | (refine dt_go ?_) | exact rfl | exact True.intro | exact dkk | exact dks | (refine wrap_succ ?_; omega))))
  · rename_i k _ _
    have hk : k < (s.tables.getD who.toNat default).entries.length := by omega
    have hc := cutL_miss (num := num) hk (by simpa using _h)
    have hlen : (cutL num ((s.tables.getD who.toNat default).entries.take (k + 1))).length = (cutL num ((s.tables.getD who.toNat default).entries.take k)).length + 1 := by rw [hc, List.length_append, List.length_singleton]
    refine ⟨k + 1, [0, 5, 2, 3], hk, (show (s.tables.getD who.toNat default).entries.length - (k + 1) < (s.tables.getD who.toNat default).entries.length - k by omega), ?_⟩
    repeat' (first | exact aa | ((conv => whnf) <;> (first | exact arr_zero rfl rfl | exact low_cells rfl | exact fx_Tr (n := 4) (show 3 < 4 by decide) rfl | exact rho_keep hX _h | exact capB2 (Nat.le_trans cutT_le.2 he) (by decide) | exact capN2 (Nat.le_trans cutT_le.2 he) | exact hlen | exact hlen.symm | exact arr_snoc hc rfl hlen.symm hlen (fun a j => low_cells rfl) (fun j hj => rfl) | refine And.intro ?_ ?_ | (intro _h; first | contradiction | (try simp only [dd] at _h)) | (refine dt_go ?_) | exact rfl | exact True.intro | exact dkk | exact dks | (refine wrap_succ ?_; omega))))
  · rename_i k _ _
    have hk : k < (s.tables.getD who.toNat default).entries.length := by omega
    have hc := cutL_hit (num := num) hk (by simpa using _h)
    have hlen : (cutL num ((s.tables.getD who.toNat default).entries.take (k + 1))).length = (cutL num ((s.tables.getD who.toNat default).entries.take k)).length := by rw [hc]
    refine ⟨k + 1, [], hk, (show (s.tables.getD who.toNat default).entries.length - (k + 1) < (s.tables.getD who.toNat default).entries.length - k by omega), ?_⟩
    repeat' (first | exact aa | ((conv => whnf) <;> (first | exact arr_zero rfl rfl | exact low_cells rfl | exact fx_Tr (n := 4) (show 3 < 4 by decide) rfl | exact rho_keep hX _h | exact capB2 (Nat.le_trans cutT_le.2 he) (by decide) | exact capN2 (Nat.le_trans cutT_le.2 he) | exact hlen | exact hlen.symm | exact arr_same hc hlen.symm (fun a j => low_cells rfl) | refine And.intro ?_ ?_ | (intro _h; first | contradiction | (try simp only [dd] at _h)) | (refine dt_go ?_) | exact rfl | exact True.intro | exact dkk | exact dks | (refine wrap_succ ?_; omega))))
  all_goals (conv => whnf)
  rename_i k _
  have hcut : s.cut who.toNat num = s.setE who.toNat (cutL num ((s.tables.getD who.toNat default).entries.take k)) := by
    unfold Shelf.cut
    rw [cutL_all (by omega)]
  refine endM_turn (turn_close (id := 2) (i := who.toNat) (j := 1) (id' := 1) rfl hw2 (show 1 < 2 by decide) (by exact upd_self) rfl (show 2 ≠ 1 by decide) rfl (rowO_le (Nat.le_refl _))) ?_
  refine endM_turn (turn_eq (id := 2) (x := rowL 2 Table.csO (s.setE who.toNat (cutL num ((s.tables.getD who.toNat default).entries.take k))).tables) rfl rfl setE_len rfl rfl (setE_rows3 (l := (cutL num ((s.tables.getD who.toNat default).entries.take k))) hw2 rfl (fun i j _ _ => .refl _))) ?_
  refine endM_turn (turn_close (id := 0) (i := 0) (j := 1) (id' := 2) rfl (show 0 < 1 by decide) (show 1 < 3 by decide) rfl rfl (show 0 ≠ 2 by decide) rfl (rowO_le (Nat.le_of_eq setE_len.symm))) ?_
  refine endM_turn (turn_box (id := 0) (ds := (s.setE who.toNat (cutL num ((s.tables.getD who.toNat default).entries.take k))).csO) rfl rfl rfl (.cons (.refl _) (.cons (OwEq.len setE_len.symm (fun i j _ _ => HoldC.h _ j) (fun i j _ _ => .refl _)) (.cons (.refl _) .nil)))) ?_
  exact endM_pick [0] [some (boxRow (s.setE who.toNat (cutL num ((s.tables.getD who.toNat default).entries.take k))).csO)] (.tup []) (view_of rfl (.cons rfl (.self (rowPl_box rfl)) .nil)) rfl rfl (by rw [hX]; exact keepK (n := 1) rfl rfl) ⟨rfl, by rw [hcut]⟩
theorem indexFuncEntry1_ok (l : List Entry) (g : Nat) {fv} (hg : env.F.get g = some fv) (c0 : List AV) (p : Entry → Bool) (hl : l.length ≤ 1048576) (hp : ∀ k, k < l.length → Ret env.P g (.agg (Entry.cs (l.getD k default)) :: [rfL c0]) (fun r => r = .b (p (l.getD k default)))) :
    Ret env.P 97 [slL 7 Entry.cs l, .fn g [rfL c0]] (fun r => r = .i .i64 (idxI (l.findIdx? p))) := by
  refine ret_of (nt := 19) (rvs := [.tmp 4]) Try.func97 rfl rfl rfl rfl (fun X => ?_)
  repeat' (first | exact aa | ((conv => whnf) <;> (first | rw [hg] | exact upto_succ (by assumption) (by assumption) | refine loopN l.length (fun k => [(8, .i .i64 k)]) (fun k => []) (fun k => ∀ j, j < k → p (l.getD j default) = false) ⟨fun _ h => by omega, ?_⟩ | refine And.intro ?_ ?_ | (intro _h; first | contradiction | (try simp only [dd] at _h)) | (refine dt_go ?_) | exact rfl | exact True.intro | exact dkk | exact dks | ((first | refine .inl ⟨_, hp _ (by omega), ?_⟩ | refine ⟨_, hp _ (by omega), ?_⟩); (try rintro _ rfl)) | (refine wrap_succ ?_; omega))))
  · exact leaf_i (idx_some (by omega) (by assumption) (by assumption))
  · exact leaf_i (idx_none fun j hj => by have := ‹∀ j, j < _ → p (l.getD j default) = false›; exact this j (by omega))
theorem del1_ok (e : Entry) (num : Int) : Ret env.P 90 [.agg e.cs, rfL [.i .i64 num]] (fun r => r = .b (numP num e)) := by
  refine ret_of (nt := 8) (rvs := [.tmp 3]) Try.func90 rfl rfl rfl rfl (fun X => ?_)
  repeat' (first | exact aa | ((conv => whnf) <;> (first | refine And.intro ?_ ?_ | (intro _h; first | contradiction | (try simp only [dd] at _h)) | (refine dt_go ?_) | exact rfl | exact True.intro | exact dkk | exact dks | (refine wrap_succ ?_; omega))))
  all_goals exact rfl
def cutM (num : Int) (l : List Entry) (i : Nat) : List Entry := cutL num (l.take i) ++ l.drop (cutL num (l.take i)).length
theorem cutM_len {num : Int} {l : List Entry} {i : Nat} : (cutM num l i).length = l.length := by
  have := (cutT_le (num := num) (l := l) (i := i)).2
  unfold cutM
  rw [List.length_append, List.length_drop]
  omega
theorem cutM_at {num : Int} {l : List Entry} {i k : Nat} (hk : (cutL num (l.take i)).length ≤ k) : (cutM num l i).getD k default = l.getD k default := by
  unfold cutM
  rw [List.getD_eq_getElem?_getD, List.getElem?_append_right hk, List.getElem?_drop, List.getD_eq_getElem?_getD, show (cutL num (l.take i)).length + (k - (cutL num (l.take i)).length) = k by omega]
theorem cutM_hit {num : Int} {l : List Entry} {k : Nat} (hk : k < l.length) (h : (l.getD k default).num = num) : cutM num l (k + 1) = cutM num l k := by
  unfold cutM
  rw [cutL_hit hk h]
theorem cutM_miss {num : Int} {l : List Entry} {k : Nat} (hk : k < l.length) (h : ¬ (l.getD k default).num = num) : cutM num l (k + 1) = (cutM num l k).set (cutL num (l.take k)).length (l.getD k default) := by
  have hle := cutT_le (num := num) (l := l) (i := k)
  unfold cutM
  rw [cutL_miss hk h, List.set_append_right _ _ (Nat.le_refl _), Nat.sub_self, List.length_append, List.length_singleton]
  have : l.drop (cutL num (l.take k)).length = l[(cutL num (l.take k)).length]'(by omega) :: l.drop ((cutL num (l.take k)).length + 1) := List.drop_eq_getElem_cons _
  rw [this, List.set_cons_zero, List.append_assoc, List.singleton_append]
theorem cut_before {num : Int} {l : List Entry} : ∀ {q : Nat}, q ≤ l.length → (∀ j, j < q → ¬ (l.getD j default).num = num) → cutL num (l.take q) = l.take q
  | 0, _, _ => rfl
  | q + 1, hq, h => by
    rw [cutL_miss (by omega) (h q (by omega)), cut_before (by omega) fun j hj => h j (by omega), take_snoc (by omega)]
theorem cutM_start {num : Int} {l : List Entry} {q : Nat} (hq : q < l.length) (h : ∀ j, j < q → ¬ (l.getD j default).num = num) (he : (l.getD q default).num = num) : cutM num l (q + 1) = l ∧ (cutL num (l.take (q + 1))).length = q := by
  have h1 : cutL num (l.take (q + 1)) = l.take q := by rw [cutL_hit hq he, cut_before (by omega) h]
  unfold cutM
  rw [h1, List.length_take, show min q l.length = q by omega]
  exact ⟨List.take_append_drop q l, rfl⟩
theorem list_ext {α : Type} [Inhabited α] {l m : List α} (h : l.length = m.length) (he : ∀ i, i < l.length → l.getD i default = m.getD i default) : l = m := by
  refine List.ext_getElem h fun i hi hj => ?_
  have := he i hi
  rw [List.getD_eq_getElem?_getD, List.getElem?_eq_getElem hi, List.getD_eq_getElem?_getD, List.getElem?_eq_getElem hj] at this
  exact this
theorem shelf_ext {a b : Shelf} (h1 : a.next = b.next) (h2 : a.things = b.things) (h3 : a.tables.length = b.tables.length) (h4 : ∀ i, i < a.tables.length → a.tables.getD i default = b.tables.getD i default) : a = b := by
  obtain ⟨n, t, x⟩ := a
  obtain ⟨n', t', x'⟩ := b
  dsimp only at h1 h2 h3 h4
  subst h1 h2
  rw [list_ext h3 h4]
def Shelf.keep (s : Shelf) (K : Nat → Entry → Bool) : Shelf := ⟨s.next, s.tables.mapIdx fun i t => ⟨t.next, t.entries.filter (K i)⟩, s.things⟩
theorem keep_len {s : Shelf} {K : Nat → Entry → Bool} : (s.keep K).tables.length = s.tables.length := List.length_mapIdx
theorem keep_tab {s : Shelf} {K : Nat → Entry → Bool} {i : Nat} : (s.keep K).tables.getD i default = ⟨(s.tables.getD i default).next, (s.tables.getD i default).entries.filter (K i)⟩ := by
  unfold Shelf.keep
  dsimp only
  rw [List.getD_eq_getElem?_getD, List.getElem?_mapIdx, List.getD_eq_getElem?_getD]
  cases s.tables[i]? with
  | none => rfl
  | some t => rfl
theorem find_idx {p : Entry → Bool} : ∀ l : List Entry, (l.findIdx? p).map (fun k => l.getD k default) = l.find? p
  | [] => rfl
  | a :: l => by
    rw [List.findIdx?_cons, List.find?_cons, ← find_idx l]
    cases p a with
    | true => rfl
    | false =>
      simp only [Bool.false_eq_true, if_false, Option.map_map]
      rfl
theorem at_eq {s : Shelf} {who num : Int} : s.at_ who num = if s.isT who = true then (s.tables.getD who.toNat default).entries.find? (numP num) else none := by
  unfold Shelf.at_ Shelf.tab Table.find
  rw [find_idx]
def uniq (l : List Entry) : Prop := ∀ i j, i < l.length → j < l.length → (l.getD i default).num = (l.getD j default).num → i = j
theorem uniq_tail {a : Entry} {l : List Entry} (h : uniq (a :: l)) : uniq l ∧ ∀ b ∈ l, ¬ b.num = a.num := by
  refine ⟨fun i j hi hj e => ?_, fun b hb e => ?_⟩
  · have := h (i + 1) (j + 1) (by simpa using hi) (by simpa using hj) (by simpa using e)
    omega
  · obtain ⟨k, hk⟩ := List.getElem?_of_mem hb
    have := h (k + 1) 0 (by simpa using (List.getElem?_eq_some_iff.1 hk).1) (by simp) (by
      rw [List.getD_eq_getElem?_getD]
      simp only [List.getElem?_cons_succ, hk, Option.getD_some]
      exact e)
    omega
theorem find_none_of {num : Int} {l : List Entry} (h : ∀ b ∈ l, ¬ b.num = num) : l.find? (numP num) = none :=
  List.find?_eq_none.2 fun b hb => by simpa [numP] using h b hb
theorem find_filter {K : Entry → Bool} {num : Int} : ∀ {l : List Entry}, uniq l → (l.filter K).find? (numP num) = (l.find? (numP num)).filter K
  | [], _ => rfl
  | a :: l, h => by
    have h2 := uniq_tail h
    rw [List.filter_cons, List.find?_cons]
    by_cases e : a.num = num
    · have ea : numP num a = true := by simpa [numP] using e
      rw [ea]
      cases hK : K a with
      | true => simp only [if_true, List.find?_cons, ea, Option.filter, hK]
      | false =>
        simp only [Bool.false_eq_true, if_false, Option.filter, hK]
        exact find_none_of fun b hb => by
          have := h2.2 b ((List.mem_filter.1 hb).1)
          rwa [e] at this
    · have ea : numP num a = false := by simpa [numP] using e
      rw [ea]
      dsimp only
      rw [← find_filter h2.1]
      split
      · rw [List.find?_cons, ea]
      · rfl
theorem keep_at {s : Shelf} {K : Nat → Entry → Bool} (hu : ∀ i, uniq (s.tables.getD i default).entries) {who num : Int} : (s.keep K).at_ who num = (s.at_ who num).filter (K who.toNat) := by
  rw [at_eq, at_eq, keep_tab]
  have : (s.keep K).isT who = s.isT who := by unfold Shelf.isT; rw [keep_len]
  rw [this]
  split
  · exact find_filter (hu _)
  · rfl
theorem at_in {s : Shelf} {who num : Int} {x : Entry} (h : s.at_ who num = some x) : who.toNat < s.tables.length ∧ x.num = num ∧ ∃ k, k < (s.tables.getD who.toNat default).entries.length ∧ (s.tables.getD who.toNat default).entries.getD k default = x := by
  rw [at_eq] at h
  split at h
  · rename_i ht
    have ht' : 0 ≤ who ∧ who < (s.tables.length : Int) := by simpa [Shelf.isT] using ht
    refine ⟨by omega, by simpa [numP] using List.find?_some h, ?_⟩
    obtain ⟨k, hk⟩ := List.getElem?_of_mem (List.mem_of_find?_eq_some h)
    exact ⟨k, (List.getElem?_eq_some_iff.1 hk).1, by rw [List.getD_eq_getElem?_getD, hk]; rfl⟩
  · cases h
inductive Shelf.Live (s : Shelf) (K : Nat → Entry → Bool) : Entry → Prop
  | own {e : Entry} (h : e.own = true) : Shelf.Live s K e
  | lent {e x : Entry} (h : s.at_ e.from_ e.fromNum = some x) (hk : K e.from_.toNat x = true) (hx : Shelf.Live s K x) : Shelf.Live s K e
structure Shelf.Cut (s : Shelf) (K0 K : Nat → Entry → Bool) : Prop where
  sub : ∀ i e, K i e = true → K0 i e = true
  live : ∀ i k, i < s.tables.length → k < (s.tables.getD i default).entries.length → K0 i ((s.tables.getD i default).entries.getD k default) = true → s.Live K0 ((s.tables.getD i default).entries.getD k default) → K i ((s.tables.getD i default).entries.getD k default) = true
structure Shelf.Fix (s : Shelf) (K0 K : Nat → Entry → Bool) : Prop where
  cut : s.Cut K0 K
  fix : ∀ i k, i < s.tables.length → k < (s.tables.getD i default).entries.length → K i ((s.tables.getD i default).entries.getD k default) = true → s.Live K0 ((s.tables.getD i default).entries.getD k default)
theorem Shelf.Cut.start (s : Shelf) (K0 : Nat → Entry → Bool) : s.Cut K0 K0 := ⟨fun _ _ h => h, fun _ _ _ _ h _ => h⟩
theorem keep_congr {s : Shelf} {K K' : Nat → Entry → Bool} (h : ∀ i k, i < s.tables.length → k < (s.tables.getD i default).entries.length → K i ((s.tables.getD i default).entries.getD k default) = K' i ((s.tables.getD i default).entries.getD k default)) : s.keep K = s.keep K' := by
  refine shelf_ext rfl rfl (keep_len.trans keep_len.symm) fun i hi => ?_
  rw [keep_len] at hi
  rw [keep_tab, keep_tab]
  congr 1
  refine List.filter_congr fun e he => ?_
  obtain ⟨k, hk⟩ := List.getElem?_of_mem he
  have := h i k hi (List.getElem?_eq_some_iff.1 hk).1
  rw [List.getD_eq_getElem?_getD, hk] at this
  exact this
theorem Shelf.Fix.one {s : Shelf} {K0 K K' : Nat → Entry → Bool} (h : s.Fix K0 K) (h' : s.Fix K0 K') : s.keep K = s.keep K' := keep_congr fun i k hi hk => by
  rw [Bool.eq_iff_iff]
  exact ⟨fun q => h'.cut.live i k hi hk (h.cut.sub _ _ q) (h.fix i k hi hk q), fun q => h.cut.live i k hi hk (h'.cut.sub _ _ q) (h'.fix i k hi hk q)⟩
def delE (K : Nat → Entry → Bool) (w : Nat) (num : Int) : Nat → Entry → Bool := fun i e => K i e && !(Nat.beq i w && numP num e)
theorem keep_cut {s : Shelf} {K : Nat → Entry → Bool} {w : Nat} {num : Int} (hw : w < s.tables.length) : (s.keep K).cut w num = s.keep (delE K w num) := by
  refine shelf_ext rfl rfl (by unfold Shelf.cut; rw [setE_len, keep_len, keep_len]) fun i hi => ?_
  unfold Shelf.cut
  rw [setE_at (by rw [keep_len]; exact hw), keep_tab, keep_tab]
  split
  · rename_i e
    subst e
    rw [keep_tab]
    dsimp only
    congr 1
    unfold cutL
    rw [List.filter_filter]
    refine List.filter_congr fun e _ => ?_
    unfold delE
    rw [Nat.beq_refl, Bool.true_and, Bool.and_comm]
  · rename_i e
    rw [keep_tab]
    congr 1
    refine List.filter_congr fun x _ => ?_
    unfold delE
    rw [beq_ff e, Bool.false_and, Bool.not_false, Bool.and_true]
theorem Shelf.Cut.dead {s : Shelf} {K0 K : Nat → Entry → Bool} (h : s.Cut K0 K) (hu : ∀ i, uniq (s.tables.getD i default).entries) {e : Entry} (ho : e.own = false) (hn : (s.keep K).orig e = none) : ¬ s.Live K0 e := by
  intro hl
  cases hl with
  | own q => rw [ho] at q; cases q
  | @lent e x ha hk hx =>
    unfold Shelf.orig at hn
    rw [keep_at hu, ha] at hn
    obtain ⟨h1, h2, k, h3, h4⟩ := at_in ha
    have := h.live _ k h1 h3 (by rw [h4]; exact hk) (by rw [h4]; exact hx)
    rw [h4] at this
    simp [Option.filter, this] at hn
theorem Shelf.Cut.del {s : Shelf} {K0 K : Nat → Entry → Bool} (h : s.Cut K0 K) (hu : ∀ i, uniq (s.tables.getD i default).entries) {w : Nat} {e : Entry} (he : e ∈ (s.tables.getD w default).entries) (hd : ¬ s.Live K0 e) : s.Cut K0 (delE K w e.num) := by
  refine ⟨fun i x q => h.sub i x (by unfold delE at q; rw [Bool.and_eq_true] at q; exact q.1), fun i k hi hk h0 hl => ?_⟩
  unfold delE
  rw [h.live i k hi hk h0 hl, Bool.true_and, Bool.not_eq_true']
  cases hb : (Nat.beq i w && numP e.num ((s.tables.getD i default).entries.getD k default)) with
  | false => rfl
  | true =>
    rw [Bool.and_eq_true] at hb
    have e1 := Nat.eq_of_beq_eq_true hb.1
    subst e1
    have e2 : ((s.tables.getD i default).entries.getD k default).num = e.num := by simpa [numP] using hb.2
    obtain ⟨q, hq⟩ := List.getElem?_of_mem he
    have hql := (List.getElem?_eq_some_iff.1 hq).1
    have hqe : (s.tables.getD i default).entries.getD q default = e := by rw [List.getD_eq_getElem?_getD, hq]; rfl
    have := hu i k q hk hql (by rw [e2, hqe])
    subst this
    rw [hqe] at hl
    exact absurd hl hd
theorem Shelf.Cut.done {s : Shelf} {K0 K : Nat → Entry → Bool} (h : s.Cut K0 K) (hu : ∀ i, uniq (s.tables.getD i default).entries) (hs : ∀ i k, i < s.tables.length → k < (s.tables.getD i default).entries.length → ∃ n, s.sEnds n ((s.tables.getD i default).entries.getD k default) = true)
    (he : ∀ i k, i < s.tables.length → k < (s.tables.getD i default).entries.length → K i ((s.tables.getD i default).entries.getD k default) = true → ((s.tables.getD i default).entries.getD k default).own = true ∨ ¬ (s.keep K).orig ((s.tables.getD i default).entries.getD k default) = none) : s.Fix K0 K := by
  have key : ∀ (n : Nat) (i k : Nat), i < s.tables.length → k < (s.tables.getD i default).entries.length → K i ((s.tables.getD i default).entries.getD k default) = true → s.sEnds n ((s.tables.getD i default).entries.getD k default) = true → s.Live K0 ((s.tables.getD i default).entries.getD k default) := by
    intro n
    induction n with
    | zero => intro i k _ _ _ q; cases q
    | succ n ih =>
      intro i k hi hk hK q
      rcases he i k hi hk hK with q1 | q1
      · exact .own q1
      · by_cases ho : ((s.tables.getD i default).entries.getD k default).own = true
        · exact .own ho
        · generalize (s.tables.getD i default).entries.getD k default = e at *
          unfold Shelf.orig at q1
          rw [keep_at hu] at q1
          rw [Shelf.sEnds, if_neg ho] at q
          unfold Shelf.orig at q
          cases ha : s.at_ e.from_ e.fromNum with
          | none => rw [ha] at q; cases q
          | some x =>
            rw [ha] at q q1
            dsimp only at q
            have hKx : K e.from_.toNat x = true := by
              cases hc : K e.from_.toNat x with
              | true => rfl
              | false => simp [Option.filter, hc] at q1
            split at q
            · cases q
            · obtain ⟨h1, h2, j, h3, h4⟩ := at_in ha
              have := ih _ j h1 h3 (by rw [h4]; exact hKx) (by rw [h4]; exact q)
              rw [h4] at this
              exact .lent ha (h.sub _ _ hKx) this
  refine ⟨h, fun i k hi hk hK => ?_⟩
  obtain ⟨n, hn⟩ := hs i k hi hk
  exact key n i k hi hk hK hn
theorem good_lt {t : Table} (h : t.good) : ∀ {i j : Nat}, i < j → j < t.entries.length → (t.entries.getD i default).num < (t.entries.getD j default).num := by
  intro i j hij hj
  induction j with
  | zero => omega
  | succ j ih =>
    have h1 := (h.1 (j + 1) hj).1
    unfold prevNum at h1
    rw [if_neg (by omega), Nat.add_sub_cancel] at h1
    rcases Nat.lt_or_eq_of_le (Nat.le_of_lt_succ hij) with q | rfl
    · have := ih q (by omega); omega
    · exact h1
theorem good_uniq {t : Table} (h : t.good) : uniq t.entries := fun i j hi hj e => by
  rcases Nat.lt_trichotomy i j with q | q | q
  · have := good_lt h q hj; omega
  · exact q
  · have := good_lt h q hi; omega
theorem good_uniqs {s : Shelf} (h : s.good) (i : Nat) : uniq (s.tables.getD i default).entries := by
  by_cases hi : i < s.tables.length
  · exact good_uniq (h.2.2.2.1 i hi)
  · rw [List.getD_eq_getElem?_getD, List.getElem?_eq_none (by omega)]
    intro i j hi; cases hi
structure Shelf.Tidy (s : Shelf) : Prop where
  seven : s.tables.length ≤ 7
  uniq : ∀ i, uniq (s.tables.getD i default).entries
  ends : ∀ i k, i < s.tables.length → k < (s.tables.getD i default).entries.length → ∃ n, s.sEnds n ((s.tables.getD i default).entries.getD k default) = true
theorem Shelf.good.tidy {s : Shelf} (h : s.good) : s.Tidy := ⟨h.2.1.2, good_uniqs h, fun i k hi hk => ⟨85, (((good_iff s).1 h).2.2.1 i k hi hk).1⟩⟩
theorem shelf_uniq {s : Shelf} (h : s.Tidy) (i : Nat) : uniq (s.tables.getD i default).entries := h.uniq i
theorem shelf_ends {s : Shelf} (h : s.Tidy) (i k : Nat) (hi : i < s.tables.length) (hk : k < (s.tables.getD i default).entries.length) : ∃ n, s.sEnds n ((s.tables.getD i default).entries.getD k default) = true := h.ends i k hi hk
theorem sEnds_things {s : Shelf} {T : List Thing} : ∀ (n : Nat) (e : Entry), (⟨s.next, s.tables, T⟩ : Shelf).sEnds n e = s.sEnds n e
  | 0, _ => rfl
  | n + 1, e => by
    cases ho : e.own with
    | true => rw [Shelf.sEnds_own ho, Shelf.sEnds_own ho]
    | false =>
      cases hx : s.orig e with
      | none => rw [Shelf.sEnds_none ho hx, Shelf.sEnds_none ho (show (⟨s.next, s.tables, T⟩ : Shelf).orig e = none from hx)]
      | some x =>
        have hx' : (⟨s.next, s.tables, T⟩ : Shelf).orig e = some x := hx
        by_cases hi : x.id = e.id
        · rw [Shelf.sEnds_on ho hx hi, Shelf.sEnds_on ho hx' hi, sEnds_things n x]
        · rw [Shelf.sEnds_id ho hx hi, Shelf.sEnds_id ho hx' hi]
theorem Shelf.Tidy.things {s : Shelf} (h : s.Tidy) (T : List Thing) : (⟨s.next, s.tables, T⟩ : Shelf).Tidy :=
  ⟨h.seven, h.uniq, fun i k hi hk => by
    obtain ⟨n, hn⟩ := h.ends i k hi hk
    exact ⟨n, (sEnds_things n _).trans hn⟩⟩
def Shelf.noMake (s : Shelf) (who : Nat) : Prop := 24 ≤ s.things.length ∨ 1000000 ≤ s.next ∨ s.fullB who
def Shelf.made (s : Shelf) (who : Nat) (res rep : Int) : Shelf := (s.plus res rep).put who ⟨0, s.next, true, 0, 0, 0, 0⟩
theorem plus_ok {s : Shelf} (h : s.ok) (hn : s.things.length < 24) (res rep : Int) : (s.plus res rep).ok := ⟨h.1, by simp only [Shelf.plus, List.length_append, List.length_singleton]; omega, fun _ _ => trivial⟩
theorem rowNs_box {α : Type} {c : α → List AV} {a : α} [h : FreeC c] : RowNs (boxRow (c a)) := ⟨fun i j _ _ => h.h a j⟩
theorem Ret.toM {P : Program} {g : FuncId} {av : List AV} {post : AV → Prop} (h : Ret P g av post) : RetM P g [] av (fun r H => post r ∧ H = []) := .mk fun w S blk FP us hR hc => by
  refine (h.h w S us (fun b hb => (hR.free b hb).1) ⟨hc.1, fun j c u hj hu => (hc.2 j c u hj hu).nil⟩).mono fun e w' ⟨r, u, he, hq, hcu, hb⟩ => ⟨r, u, [], blk, FP, he, ⟨hq, rfl⟩, ⟨fun id r hr => by simp at hr, fun i j r r' hr => by simp at hr, fun b hb => ⟨hb.2.1, fun id r hr => by simp at hr⟩⟩, ?_, HExt.refl _ _, ?_, ⟨hb.os, hb.tape, hb.output, hb.size, fun k hk _ => hb.block k hk⟩⟩
  · have hcu' : Conc w' (fun b => S b ∨ (w.heap.size ≤ b ∧ b < w'.heap.size)) blk [] r u := hcu.nil
    refine hcu'.mono (fun b hb' => ⟨⟨?_, ?_, fun id r hr => by simp at hr⟩, rfl⟩) (HExt.refl _ _)
    · rcases hb' with h | h
      · exact .inl h
      · exact .inr h.1
    · rcases hb' with h | h
      · have := (hR.free b h).1
        have := hb.size
        omega
      · exact h.2
  · rintro b ⟨id, r, hr, _⟩
    simp at hr
theorem plus_len (s : Shelf) (res rep : Int) : s.things.length + 1 = (s.plus res rep).things.length := by simp [Shelf.plus]
set_option maxRecDepth 8000 in
set_option maxHeartbeats 2000000 in
theorem l19Make_err (s : Shelf) (h : s.ok) (who res rep : Int) (hw : 0 ≤ who ∧ who < (s.tables.length : Int)) (hf : s.noMake who.toNat) : RetM env.P 93 [some (boxRow s.csO)] [.ptr 0 0 0, .i .i64 who, .i .i64 res, .i .i64 rep] (fun r H => r = .tup [.i .i64 0, .i .i64 4] ∧ H = [some (boxRow s.csO)]) := by
  have hl2 : s.things.length ≤ 1048576 := h.2.1
  have hfF : ¬ s.fullB who.toNat → 24 ≤ s.things.length ∨ 1000000 ≤ s.next := fun q => hf.elim .inl fun r => r.elim .inr fun r => absurd r q
  refine ret_ofM (nt := 60) (rvs := [.tmp 8, .tmp 9]) Try.func93 rfl rfl rfl rfl (fun X hX => ?_)
  repeat' (first | exact aa | ((conv => whnf) <;> (first | (exfalso; have hq := hfF ‹_›; omega) | refine And.intro ?_ ?_ | (intro _h; first | contradiction | (try simp only [dd] at _h)) | (refine dt_go ?_) | exact rfl | exact True.intro | exact dkk | exact dks | ((first | refine .inl ⟨_, Ret.wka (l19Full_ok s h who hw), ?_⟩ | refine ⟨_, Ret.wka (l19Full_ok s h who hw), ?_⟩); (try rintro _ rfl)) | (refine wrap_succ ?_; omega))))
  all_goals (conv => whnf)
  all_goals refine endM_turn (turn_close (id := 0) (i := 0) (j := 2) (id' := 1) rfl (show 0 < 1 by decide) (show 2 < 3 by decide) rfl rfl (show 0 ≠ 1 by decide) rfl (rowO_le (Nat.le_refl _))) ?_
  all_goals refine endM_turn (turn_box (id := 0) (ds := s.csO) rfl rfl rfl (.cons (.refl _) (.cons (.refl _) (.cons (.refl _) .nil)))) ?_
  all_goals exact endM_pick [0] [some (boxRow s.csO)] (.tup [.i .i64 0, .i .i64 4]) (view_of rfl (.cons rfl (.self (rowPl_box rfl)) .nil)) rfl rfl (by rw [hX]; exact keepK (n := 1) rfl rfl) ⟨rfl, rfl⟩
set_option maxRecDepth 8000 in
set_option maxHeartbeats 2000000 in
theorem l19Make_fine (s : Shelf) (h : s.ok) (who res rep : Int) (hw : 0 ≤ who ∧ who < (s.tables.length : Int)) (hn : 0 ≤ s.next) (ht : 1 ≤ (s.tables.getD who.toNat default).next) (hf : ¬ s.noMake who.toNat) : RetM env.P 93 [some (boxRow s.csO)] [.ptr 0 0 0, .i .i64 who, .i .i64 res, .i .i64 rep] (fun r H => r = .tup [.i .i64 (s.tables.getD who.toNat default).next, .i .i64 0] ∧ H = [some (boxRow (s.made who.toNat res rep).csO)]) := by
  have hl2 : s.things.length ≤ 1048576 := h.2.1
  have hf1 : s.things.length < 24 := Nat.lt_of_not_le fun q => hf (.inl q)
  have hf2 : s.next < 1000000 := Int.lt_of_not_ge fun q => hf (.inr (.inl q))
  have hf3 : ¬ s.fullB who.toNat := fun q => hf (.inr (.inr q))
  have hf4 : (s.tables.getD who.toNat default).entries.length < 12 := Nat.lt_of_not_le fun q => hf3 (.inl q)
  have hf5 : (s.tables.getD who.toNat default).next < 1000000 := Int.lt_of_not_ge fun q => hf3 (.inr q)
  have hi1 : IntKind.i64.wrap (s.next + 1) = s.next + 1 := wrap_in (by omega) (by omega)
  have hid : IntKind.i64.wrap (IntKind.i64.wrap (s.next + 1) - 1) = s.next := by rw [hi1, wrap_in (by omega) (by omega)]; omega
  refine ret_ofM (nt := 60) (rvs := [.tmp 8, .tmp 9]) Try.func93 rfl rfl rfl rfl (fun X hX => ?_)
  repeat' (first | exact aa | ((conv => whnf) <;> (first | (refine .inr (.inr ⟨[some (boxRow s.csO), none], (by intro X; refine Turn.trans (turn_close (id := 0) (i := 0) (j := 2) (id' := 1) rfl (show 0 < 1 by decide) (show 2 < 3 by decide) rfl rfl (show 0 ≠ 1 by decide) rfl (rowO_le (Nat.le_refl _))) ?_; exact turn_box (id := 0) (ds := s.csO) rfl rfl rfl (.cons (.refl _) (.cons (.refl _) (.cons (.refl _) .nil)))), (fun i _ q => (by cases q)), .inr (.inl ⟨_, RetM.wk (by repeat (first | exact WkL.nil | refine WkL.cons ?_ ?_ | exact Wk.refl _ | exact Wk.rfc rfl | refine Wk.fn ?_ | exact Wk.nilS0 | exact shr_L (d := 0) (k := 4) rfl | exact shr_L (d := 1) (k := 3) rfl | exact shr_L (d := 2) (k := 2) rfl | exact shr_L (d := 0) (k := 4) (by simp only [markL_len]) | exact shr_L (d := 1) (k := 3) (by simp only [markL_len]) | refine Wk.agg ?_ | exact shr_L (d := 0) (k := 3) rfl | exact shr_L (d := 1) (k := 2) rfl | exact shr_ow (d := 1) (k := 2) | exact shr_ow (d := 0) (k := 3) | refine Wk.rfLo ?_)) (Ret.toM (l19Full_ok s h who hw)), ?_⟩)⟩); rintro _ _ ⟨rfl, rfl⟩; refine ⟨⟨rfl, nssA⟩, _, lokA, ?_⟩) | exact capB2 hl2 (by decide) | exact capN2 hl2 | (refine .inr (.inr ⟨[some (boxRow (s.plus res rep).csO), none, none, none, none], (by intro X; refine Turn.trans (turn_kill 1) ?_; refine Turn.trans (turn_kill 2) ?_; refine Turn.trans (turn_kill 3) ?_; refine Turn.trans (turn_close (id := 0) (i := 0) (j := 2) (id' := 4) rfl (show 0 < 1 by decide) (show 2 < 3 by decide) rfl rfl (show 0 ≠ 4 by decide) rfl ⟨Nat.le_refl _, snoc_idf (l := s.things) rfl (fun j hj => HoldC.h (c := Thing.cs) ⟨s.next, res, rep⟩ j)⟩) ?_; exact turn_box (id := 0) (ds := (s.plus res rep).csO) rfl rfl rfl (.cons (show OwEq (.i .i64 (IntKind.i64.wrap (s.next + 1))) (.i .i64 (s.next + 1)) from (by rw [wrap_in (by omega) (by omega)]; exact .refl _)) (.cons (.refl _) (.cons (OwEq.len (plus_len s res rep) (fun i j _ _ => HoldC.h _ j) (snoc_eq (l := s.things) (sz := 3) (a := ⟨s.next, res, rep⟩) (c := Thing.cs) rfl (fun j hj => .refl _))) .nil)))), (fun i _ q => (by cases q)), .inl ⟨[0], _, _, _, l19Put_ok (s.plus res rep) (plus_ok h hf1 res rep) who hw ⟨0, _, true, 0, 0, 0, 0⟩ hf4 ⟨ht, hf5⟩, (view_of rfl (.cons rfl (.self (rowPl_box rfl)) .nil)), ⟨rfl, rfl⟩, ?_⟩⟩); rintro _ _ ⟨rfl, rfl⟩; refine ⟨rfl, _, (lok_pl (.cons (rowPl_box rfl) .nil)), ?_⟩) | refine And.intro ?_ ?_ | (intro _h; first | contradiction | (try simp only [dd] at _h)) | (refine dt_go ?_) | exact rfl | exact True.intro | exact dkk | exact dks | (refine wrap_succ ?_; omega))))
  all_goals (first | contradiction | skip)
  all_goals (conv => whnf)
  all_goals refine endM_pick [0] [some (boxRow (s.made who.toNat res rep).csO)] (.tup [.i .i64 (s.tables.getD who.toNat default).next, .i .i64 0]) (view_of rfl (.cons ?_ (.self (rowPl_box rfl)) .nil)) rfl rfl (by rw [hX]; exact keepK (n := 1) rfl rfl) ⟨rfl, rfl⟩
  all_goals first
    | exact rfl
    | (refine congrArg (fun z => some (some (boxRow ((s.plus res rep).put who.toNat ⟨0, z, true, 0, 0, 0, 0⟩).csO))) ?_; exact hid)
end Go.Proofs.Ytmglpojnoadgeaa
