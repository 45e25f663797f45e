/- Texts for VHandlesOneP. -/
import Derived.Test.YtmglpojnoadgeaaGreatVo30
namespace Go.Proofs.YtmglpojnoadgeaaGreat
open Go Go.RowKit
set_option linter.unusedVariables false
set_option linter.unusedSimpArgs false
theorem cutThing_next (s : Shelf) (h : s.ok) (L : List Thing) (j : Nat) (hj : j < L.length) : RetM env.P 87 [some (boxRow (s.cutTs (L.take j)).csO)] [.ptr 0 0 0, .i .i64 (L.getD j default).id] (fun r H => r = .agg (lastX (L.getD j default).id (s.cutTs (L.take j)).things).cs ∧ H = [some (boxRow (s.cutTs (L.take (j + 1))).csO)]) := by
 rw [cutTs_succ hj]
 exact l19CutThing_ok _ (cutTs_ok h _) _
set_option maxRecDepth 8000 in
set_option maxHeartbeats 4000000 in
theorem l19Kill_ok (s S : Shelf) (who : Int) (h : s.ok) (hw : 0 ≤ who ∧ who < (s.tables.length : Int)) (h7 : s.tables.length ≤ 7) (h12 : (s.tables.getD who.toNat default).entries.length ≤ 1000) (ht : s.things.length ≤ 1000)
  (hL : RetM env.P 96 [some (boxRow ((s.setE who.toNat []).cutTs (killT (s.tables.getD who.toNat default).entries s.things)).csO)] [.ptr 0 0 0] (fun r H => r = .tup [] ∧ H = [some (boxRow S.csO)])) : RetM env.P 51 [some (boxRow s.csO)] [.ptr 0 0 0, .i .i64 who] (fun r H => r = .row 1 (killT (s.tables.getD who.toNat default).entries s.things).length ∧ H = [some (boxRow S.csO), some (rowL 3 Thing.cs (killT (s.tables.getD who.toNat default).entries s.things))]) := by
 have hl : s.tables.length ≤ 1048576 := h.1.1
 have hl2 : s.things.length ≤ 1048576 := h.2.1
 have hw2 : who.toNat < s.tables.length := by omega
 have he : (s.tables.getD who.toNat default).entries.length ≤ 1048576 := entLe h _
 have hS0 : (s.setE who.toNat []).ok := setE_ok h (Nat.zero_le _)
 have hOl : (killT (s.tables.getD who.toNat default).entries s.things).length ≤ 1048576 := by rw [← show killK (s.tables.getD who.toNat default).entries s.things s.things.length 0 = (killT (s.tables.getD who.toNat default).entries s.things) by rw [killK_zero, List.take_length]]; exact killK_le h12 ht
 refine ret_ofM (nt := 89) (rvs := [.tmp 4]) Tryz.func51 rfl rfl rfl rfl (fun X hX => ?_)
 repeat' (first | exact aa | ((conv => whnf) <;> (first | exact arr_zero rfl rfl | exact low_cells rfl | exact rho_keep hX _h | (refine lw_turn _ (turn_close (id := 1) (i := who.toNat) (j := 1) (id' := 3) rfl hw2 (show 1 < 2 by decide) (by exact upd_self) rfl (show 1 ≠ 3 by decide) rfl ⟨Nat.le_refl _, fun i j hi _ => absurd hi (Nat.not_lt_zero _)⟩) ?_; refine lw_turn _ (turn_eq (id := 1) (x := rowL 2 Table.csO (s.setE who.toNat []).tables) rfl rfl setE_len rfl rfl (setE_rows3 (l := []) hw2 rfl (fun i j hi _ => absurd hi (Nat.not_lt_zero _)))) ?_; refine lw_turn _ (turn_close (id := 0) (i := 0) (j := 1) (id' := 1) rfl (show 0 < 1 by decide) (show 1 < 3 by decide) rfl rfl (show 0 ≠ 1 by decide) rfl (rowO_le (Nat.le_of_eq setE_len.symm))) ?_; refine lw_turn _ (turn_box (id := 0) (ds := (s.setE who.toNat []).csO) rfl rfl rfl (.cons (.refl _) (.cons (OwEq.len setE_len.symm (fun i j _ _ => HoldC.h _ j) (fun i j _ _ => .refl _)) (.cons (.refl _) .nil)))) ?_; refine lw_del 26 ?_; refine loopFT (fun i : Nat => [(7, .i .i64 i), (6, .row 4 (killK (s.tables.getD who.toNat default).entries s.things i 0).length)]) (fun i => [none, none, none, none, some (.arr ⟨3, (killK (s.tables.getD who.toNat default).entries s.things i 0).length, elE Thing.cs (killK (s.tables.getD who.toNat default).entries s.things i 0), .arr⟩)]) (fun i => i ≤ s.things.length) (fun i => s.things.length - i) 0 ⟨Nat.zero_le _, ?_⟩) | refine And.intro ?_ ?_ | (intro _h; first | contradiction | (try simp only [dd] at _h)) | (refine dt_go ?_) | exact rfl | exact True.intro | exact dkk | exact dks | (refine wrap_succ ?_; omega))))
 ·rename_i i _
  have hi : i < s.things.length := Int.ofNat_lt.1 _h
  repeat' (first | exact aa | ((conv => whnf) <;> (first | exact arr_zero rfl rfl | exact arr_same rfl rfl (fun a j => low_cells rfl) | exact low_cells rfl | exact rho_keep hX _h | exact capB2 (killK_le h12 ht) (by decide) | exact capN2 (killK_le h12 ht) | (refine lw_turn _ (turn_close (id := 0) (i := 0) (j := 2) (id' := 5) rfl (show 0 < 1 by decide) (show 2 < 3 by decide) rfl rfl (show 0 ≠ 5 by decide) rfl (rowO_le (Nat.le_refl _))) ?_; refine lw_turn _ (turn_box (id := 0) (ds := (s.setE who.toNat []).csO) rfl rfl rfl (.cons (.refl _) (.cons (.refl _) (.cons (.refl _) .nil)))) ?_; refine loopFT (fun k : Nat => [(8, .i .i64 k), (6, .row 4 (killK (s.tables.getD who.toNat default).entries s.things i k).length)]) (fun k => [none, none, none, none, some (.arr ⟨3, (killK (s.tables.getD who.toNat default).entries s.things i k).length, elE Thing.cs (killK (s.tables.getD who.toNat default).entries s.things i k), .arr⟩)]) (fun k => k ≤ (s.tables.getD who.toNat default).entries.length) (fun k => (s.tables.getD who.toNat default).entries.length - k) 0 ⟨Nat.zero_le _, ?_⟩) | (refine roundET_turn (turn_close (id := 0) (i := 0) (j := 2) (id' := 6) rfl (show 0 < 1 by decide) (show 2 < 3 by decide) rfl rfl (show 0 ≠ 6 by decide) rfl (rowO_le (Nat.le_refl _))) ?_; refine roundET_turn (turn_box (id := 0) (ds := (s.setE who.toNat []).csO) rfl rfl rfl (.cons (.refl _) (.cons (.refl _) (.cons (.refl _) .nil)))) ?_; refine roundET_end ?_) | (refine dt_turn (turn_open (id := 0) (i := 0) (j := 2) rfl (show 0 < 1 by decide) (show 2 < 3 by decide) rfl) ?_; refine dt_go ?_) | refine And.intro ?_ ?_ | (intro _h; first | contradiction | (try simp only [dd] at _h)) | (refine dt_go ?_) | exact rfl | exact True.intro | exact dkk | exact dks | (refine wrap_succ ?_; omega))))
  ·rename_i k _ hlt ho
   have hk : k < (s.tables.getD who.toNat default).entries.length := Int.ofNat_lt.1 hlt
   have hc := killK_hit (l := (s.tables.getD who.toNat default).entries) (t := s.things) (i := i) hk ho _h
   have hlen : (killK (s.tables.getD who.toNat default).entries s.things i (k + 1)).length = (killK (s.tables.getD who.toNat default).entries s.things i k).length + 1 := by rw [hc, List.length_append]; rfl
   refine ⟨k + 1, [0, 1, 2, 3, 8, 5], hk, (show (s.tables.getD who.toNat default).entries.length - (k + 1) < (s.tables.getD who.toNat default).entries.length - k by omega), ?_⟩
   repeat' (first | exact aa | ((conv => whnf) <;> (first | exact low_cells rfl | exact rho_keep hX _h | exact hlen | exact hlen.symm | exact arr_snoc hc rfl hlen.symm hlen (fun a j => low_cells rfl) (fun j hj => rfl) | refine And.intro ?_ ?_ | (intro _h; first | contradiction | (try simp only [dd] at _h)) | (refine dt_go ?_) | exact rfl | exact True.intro | exact dkk | exact dks | (refine wrap_succ ?_; omega))))
  ·rename_i k _ hlt ho
   have hk : k < (s.tables.getD who.toNat default).entries.length := Int.ofNat_lt.1 hlt
   have hc := killK_miss (l := (s.tables.getD who.toNat default).entries) (t := s.things) (i := i) hk (fun q => _h q.2)
   have hlen : (killK (s.tables.getD who.toNat default).entries s.things i (k + 1)).length = (killK (s.tables.getD who.toNat default).entries s.things i k).length := by rw [hc]
   refine ⟨k + 1, [], hk, (show (s.tables.getD who.toNat default).entries.length - (k + 1) < (s.tables.getD who.toNat default).entries.length - k by omega), ?_⟩
   repeat' (first | exact aa | ((conv => whnf) <;> (first | exact low_cells rfl | exact rho_keep hX _h | exact hlen | exact hlen.symm | exact arr_same hc hlen.symm (fun a j => low_cells rfl) | refine And.intro ?_ ?_ | (intro _h; first | contradiction | (try simp only [dd] at _h)) | (refine dt_go ?_) | exact rfl | exact True.intro | exact dkk | exact dks | (refine wrap_succ ?_; omega))))
  ·rename_i k _ hlt
   have hk : k < (s.tables.getD who.toNat default).entries.length := Int.ofNat_lt.1 hlt
   have hc := killK_miss (l := (s.tables.getD who.toNat default).entries) (t := s.things) (i := i) hk (fun q => Bool.noConfusion (q.1.symm.trans _h))
   have hlen : (killK (s.tables.getD who.toNat default).entries s.things i (k + 1)).length = (killK (s.tables.getD who.toNat default).entries s.things i k).length := by rw [hc]
   refine ⟨k + 1, [], hk, (show (s.tables.getD who.toNat default).entries.length - (k + 1) < (s.tables.getD who.toNat default).entries.length - k by omega), ?_⟩
   repeat' (first | exact aa | ((conv => whnf) <;> (first | exact low_cells rfl | exact rho_keep hX _h | exact hlen | exact hlen.symm | exact arr_same hc hlen.symm (fun a j => low_cells rfl) | refine And.intro ?_ ?_ | (intro _h; first | contradiction | (try simp only [dd] at _h)) | (refine dt_go ?_) | exact rfl | exact True.intro | exact dkk | exact dks | (refine wrap_succ ?_; omega))))
  ·conv => whnf
   rename_i k _
   have hk : ¬ k < (s.tables.getD who.toNat default).entries.length := fun q => _h (Int.ofNat_lt.2 q)
   have hU : killK (s.tables.getD who.toNat default).entries s.things (i + 1) 0 = (killK (s.tables.getD who.toNat default).entries s.things i k) := by rw [killK_zero, killK_end hi hk]
   have hlen := congrArg List.length hU
   refine roundET_end ?_
   refine ⟨i + 1, [], hi, (show s.things.length - (i + 1) < s.things.length - i by omega), ?_⟩
   repeat' (first | exact aa | ((conv => whnf) <;> (first | exact low_cells rfl | exact rho_keep hX _h | exact hlen | exact hlen.symm | exact arr_same hU hlen.symm (fun a j => low_cells rfl) | refine And.intro ?_ ?_ | (intro _h; first | contradiction | (try simp only [dd] at _h)) | (refine dt_go ?_) | exact rfl | exact True.intro | exact dkk | exact dks | (refine wrap_succ ?_; omega))))
 ·rename_i i _
  have hi : ¬ i < s.things.length := fun q => _h (Int.ofNat_lt.2 q)
  rw [show (killK (s.tables.getD who.toNat default).entries s.things i 0) = (killT (s.tables.getD who.toNat default).entries s.things) by rw [killK_zero, List.take_of_length_le (by omega)]]
  repeat' (first | exact aa | ((conv => whnf) <;> (first | exact low_cells rfl | exact rho_keep hX _h | (refine lw_turn _ (turn_close (id := 0) (i := 0) (j := 2) (id' := 5) rfl (show 0 < 1 by decide) (show 2 < 3 by decide) rfl rfl (show 0 ≠ 5 by decide) rfl (rowO_le (Nat.le_refl _))) ?_; refine lw_turn _ (turn_box (id := 0) (ds := (s.setE who.toNat []).csO) rfl rfl rfl (.cons (.refl _) (.cons (.refl _) (.cons (.refl _) .nil)))) ?_; refine loopFT (fun j : Nat => [(9, .i .i64 j)]) (fun j => [some (.box ((s.setE who.toNat []).cutTs ((killT (s.tables.getD who.toNat default).entries s.things).take j)).csO)]) (fun j => j ≤ (killT (s.tables.getD who.toNat default).entries s.things).length) (fun j => (killT (s.tables.getD who.toNat default).entries s.things).length - j) 0 ⟨Nat.zero_le _, ?_⟩) | (refine roundET_end ?_) | refine And.intro ?_ ?_ | (intro _h; first | contradiction | (try simp only [dd] at _h)) | (refine dt_go ?_) | exact rfl | exact True.intro | exact dkk | exact dks | (refine .inr (.inl (.inl ⟨[0], _, _, _, cutThing_next _ hS0 _ _ (Int.ofNat_lt.1 _h), viewA, ⟨rfl, rfl⟩, ?_⟩)); rintro _ _ ⟨rfl, rfl⟩; refine ⟨rfl, _, lokA, ?_⟩) | (refine wrap_succ ?_; omega))))
  ·rename_i j _
   have hj : j < (killT (s.tables.getD who.toNat default).entries s.things).length := Int.ofNat_lt.1 _h
   refine ⟨j + 1, [], hj, (show (killT (s.tables.getD who.toNat default).entries s.things).length - (j + 1) < (killT (s.tables.getD who.toNat default).entries s.things).length - j by omega), ?_⟩
   repeat' (first | exact aa | ((conv => whnf) <;> (first | exact low_cells rfl | exact rho_keep hX _h | refine And.intro ?_ ?_ | (intro _h; first | contradiction | (try simp only [dd] at _h)) | (refine dt_go ?_) | exact rfl | exact True.intro | exact dkk | exact dks | (refine wrap_succ ?_; omega))))
  ·conv => whnf
   rename_i j _
   have hj : ¬ j < (killT (s.tables.getD who.toNat default).entries s.things).length := fun q => _h (Int.ofNat_lt.2 q)
   rw [show (killT (s.tables.getD who.toNat default).entries s.things).take j = (killT (s.tables.getD who.toNat default).entries s.things) from List.take_of_length_le (by omega)]
   repeat' (first | exact aa | ((conv => whnf) <;> (first | exact low_cells rfl | exact rho_keep hX _h | refine And.intro ?_ ?_ | (intro _h; first | contradiction | (try simp only [dd] at _h)) | (refine dt_go ?_) | exact rfl | exact True.intro | exact dkk | exact dks | (refine .inr (.inl (.inl ⟨[0], _, _, _, hL, viewA, ⟨rfl, rfl⟩, ?_⟩)); rintro _ _ ⟨rfl, rfl⟩; refine ⟨rfl, _, lokA, ?_⟩) | (refine wrap_succ ?_; omega))))
   all_goals (conv => whnf)
   all_goals exact endM_pick [0, 4] [some (boxRow S.csO), some (rowL 3 Thing.cs (killT (s.tables.getD who.toNat default).entries s.things))] (.row 1 (killT (s.tables.getD who.toNat default).entries s.things).length) (view_of rfl (.cons rfl (.self (rowPl_box rfl)) (.cons rfl (.self (rowPl_L fun _ => rfl)) .nil))) rfl rfl (by rw [hX]; exact keepK (n := 1) rfl rfl) ⟨rfl, rfl⟩
end Go.Proofs.YtmglpojnoadgeaaGreat
