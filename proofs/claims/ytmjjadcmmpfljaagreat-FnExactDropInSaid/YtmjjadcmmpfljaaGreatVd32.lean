/- Texts for VDropInP. -/
import Derived.Test.YtmjjadcmmpfljaaGreatVd29
namespace Go.Proofs.YtmjjadcmmpfljaaGreat
open Go Go.RowKit
set_option linter.unusedVariables false
set_option linter.unusedSimpArgs false
set_option maxRecDepth 8000
def Shelf.setE (s : Shelf) (w : Nat) (l : List Entry) : Shelf := ⟨s.next, s.tables.set w ⟨(s.tables.getD w default).next, l⟩, s.things⟩
theorem set_self {α : Type} [Inhabited α] {l : List α} {w : Nat} : l.set w (l.getD w default) = l := by
 apply List.ext_getElem?
 intro k
 rw [List.getElem?_set]
 split
 ·rename_i h
  subst h
  split
  ·rename_i h
   rw [List.getD_eq_getElem?_getD, List.getElem?_eq_getElem h]; rfl
  ·rename_i h
   rw [List.getElem?_eq_none (by omega)]
 ·rfl
theorem setE_self {s : Shelf} {w : Nat} : s.setE w (s.tables.getD w default).entries = s := by
 unfold Shelf.setE
 rw [show (⟨(s.tables.getD w default).next, (s.tables.getD w default).entries⟩ : Table) = s.tables.getD w default from rfl, set_self]
theorem setE_len {s : Shelf} {w : Nat} {l : List Entry} : (s.setE w l).tables.length = s.tables.length := List.length_set
theorem setE_at {s : Shelf} {w k : Nat} {l : List Entry} (hw : w < s.tables.length) : (s.setE w l).tables.getD k default = if k = w then ⟨(s.tables.getD w default).next, l⟩ else s.tables.getD k default := getD_set hw
theorem setE_ok {s : Shelf} (h : s.ok) {w : Nat} {l : List Entry} (hl : l.length ≤ 1048576) : (s.setE w l).ok := by
 refine ⟨⟨by rw [setE_len]; exact h.1.1, fun k hk => ?_⟩, h.2⟩
 rw [setE_len] at hk
 by_cases hw : w < s.tables.length
 ·rw [setE_at hw]
  split
  ·exact ⟨hl, fun _ _ => trivial⟩
  ·exact h.1.2 k hk
 ·have : (s.setE w l).tables = s.tables := by
   unfold Shelf.setE
   rw [List.set_eq_of_length_le (by omega)]
  rw [this]; exact h.1.2 k hk
def Shelf.rowT (s : Shelf) (w id : Nat) : Row := ⟨2, s.tables.length, upd (elE Table.csO s.tables) w 1 [.row id (s.tables.getD w default).entries.length], .arr⟩
def Shelf.csU (s : Shelf) (id id3 : Nat) : List AV := [.i .i64 s.next, .row id s.tables.length, .row id3 s.things.length]
def Shelf.rowE (s : Shelf) (w : Nat) : Row := rowL 7 Entry.cs (s.tables.getD w default).entries
def Shelf.opened (s : Shelf) (w : Nat) : Hp := [some (boxRow (s.csU 1 3)), some (s.rowT w 2), some (s.rowE w), some (rowL 3 Thing.cs s.things)]
theorem csO_pl (s : Shelf) (i j : Nat) : pl1 (elE Table.csO s.tables i j) = true := pl1_getD rfl j
theorem ren_box {σ : Nat → Nat} {cs ds : List AV} (h : cs.map (ren1 σ) = ds) (hf : cs.all flat1 = true) : RowRen σ (boxRow cs) (boxRow ds) := by
 subst h
 refine ⟨by simp [boxRow], rfl, .refl _, fun i j hi hj => ?_⟩
 have hj' : j < cs.length := hj
 have e1 : (boxRow cs).es i j = cs[j] := by
  show cs.getD j .any = _
  rw [List.getD_eq_getElem?_getD, List.getElem?_eq_getElem hj']; rfl
 have e2 : (boxRow (cs.map (ren1 σ))).es i j = ren1 σ cs[j] := by
  show (cs.map (ren1 σ)).getD j .any = _
  rw [List.getD_eq_getElem?_getD, List.getElem?_map, List.getElem?_eq_getElem hj']; rfl
 rw [e1, e2]
 exact ⟨rfl, List.all_eq_true.1 hf _ (List.getElem_mem _)⟩
theorem upd_one {es : Nat → Nat → AV} {w j : Nat} {c : AV} {i k : Nat} : upd es w j [c] i k = if i = w ∧ k = j then c else es i k := by
 by_cases e : i = w ∧ k = j
 ·obtain ⟨rfl, rfl⟩ := e
  rw [if_pos ⟨rfl, rfl⟩]
  have := upd_in (es := es) (j := i) (off := k) (cs := [c]) (k := 0) (by simp)
  simpa using this
 ·rw [if_neg e, upd_out (by rintro ⟨h1, h2, h3⟩; exact e ⟨h1, by simp at h3; omega⟩)]
theorem ren_T {σ : Nat → Nat} {s : Shelf} {w id : Nat} : RowRen σ (s.rowT w id) (s.rowT w (σ id)) := by
 refine ⟨rfl, rfl, .refl _, fun i j hi hj => ?_⟩
 show upd _ w 1 [.row (σ id) _] i j = ren1 σ (upd _ w 1 [.row id _] i j) ∧ _
 rw [upd_one]
 show _ ∧ flat1 (upd _ w 1 [.row id _] i j) = true
 rw [upd_one]
 split
 ·exact ⟨rfl, rfl⟩
 ·have := pl1_ren (σ := σ) (csO_pl s i j)
  exact ⟨this.1.symm, this.2⟩
theorem ren_pl {σ : Nat → Nat} {x : Row} (h : RowPl x) : RowRen σ x x := ⟨rfl, rfl, .refl _, fun i j hi hj => ⟨(pl1_ren (h.h i j hi hj)).1.symm, (pl1_ren (σ := σ) (h.h i j hi hj)).2⟩⟩
theorem lok_open {σ : Nat → Nat} {s : Shelf} {w : Nat} : LOk σ (s.opened w) [some (boxRow (s.csU (σ 1) (σ 3))), some (s.rowT w (σ 2)), some (s.rowE w), some (rowL 3 Thing.cs s.things)] := ⟨rfl, fun k hk => by
 match k, hk with
 | 0, _ => exact .inr ⟨_, _, rfl, rfl, ren_box rfl rfl⟩
 | 1, _ => exact .inr ⟨_, _, rfl, rfl, ren_T⟩
 | 2, _ => exact .inr ⟨_, _, rfl, rfl, ren_pl (rowPl_L fun _ => rfl)⟩
 | 3, _ => exact .inr ⟨_, _, rfl, rfl, ren_pl (rowPl_L fun _ => rfl)⟩
 | k + 4, hk => exact absurd hk (by simp [Shelf.opened])⟩
theorem back_ren {σ : Nat → Nat} {m : Nat} {x y : Row} (h : RowRen σ x y) (hk : RKle y.k x.k) (hl : ∀ i j, i < x.cap → j < x.sz → low2 m (x.es i j) = true) : RowBack σ m x y := ⟨h.sz.symm, h.cap.symm, hk, fun i j hi hj => ⟨(h.es i j hi hj).1, hl i j hi hj⟩⟩
theorem low_T {s : Shelf} {w id m : Nat} (h : id < m) : ∀ i j, i < (s.rowT w id).cap → j < (s.rowT w id).sz → low2 m ((s.rowT w id).es i j) = true := fun i j hi hj => by
 show low2 m (upd _ w 1 [.row id _] i j) = true
 rw [upd_one]
 split
 ·exact Nat.ble_eq_true_of_le h
 ·exact pl1_low2 (csO_pl s i j)
theorem low_U {s : Shelf} {id id3 m : Nat} (h : id < m) (h3 : id3 < m) : ∀ i j, i < (boxRow (s.csU id id3)).cap → j < (boxRow (s.csU id id3)).sz → low2 m ((boxRow (s.csU id id3)).es i j) = true := fun i j hi hj => by
 have hj' : j < 3 := hj
 rcases (show j = 0 ∨ j = 1 ∨ j = 2 by omega) with rfl | rfl | rfl
 ·rfl
 ·exact Nat.ble_eq_true_of_le h
 ·exact Nat.ble_eq_true_of_le h3
theorem view_open {H : Hp} {s : Shelf} {w a b c d : Nat} (hn : nodupB [a, b, c, d] = true) (h0 : H[a]? = some (some (boxRow (s.csU b d)))) (h1 : H[b]? = some (some (s.rowT w c))) (h2 : H[c]? = some (some (s.rowE w))) (h3 : H[d]? = some (some (rowL 3 Thing.cs s.things))) : ViewOk [a, b, c, d] H (s.opened w) :=
 view_of hn (.cons h0 (back_ren (ren_box rfl rfl) (.refl _) (low_U (show 1 < 4 from by decide) (show 3 < 4 from by decide))) (.cons h1 (back_ren ren_T (.refl _) (low_T (show 2 < 4 from by decide))) (.cons h2 (.self (rowPl_L fun _ => rfl)) (.cons h3 (.self (rowPl_L fun _ => rfl)) .nil))))
theorem rowT_at {s : Shelf} {w id : Nat} : (s.rowT w id).es w 1 = .row id (s.tables.getD w default).entries.length := by
 show upd _ w 1 [.row id _] w 1 = _
 rw [upd_one, if_pos ⟨rfl, rfl⟩]
theorem setE_rows {s : Shelf} {w n m m0 id : Nat} {l : List Entry} {es : Nat → Nat → AV} (hw : w < s.tables.length) (hm : m = l.length) (he : ∀ i j, i < m → j < 7 → OwEq (es i j) (elE Entry.cs l i j)) : ∀ i j, i < n → j < 2 → OwEq (upd (upd (elE Table.csO s.tables) w 1 [.row id m0]) w 1 [.ow 7 m es] i j) (elE Table.csO (s.setE w l).tables i j) := fun i j hi hj => by
 have hr : elE Table.csO (s.setE w l).tables i j = (Table.csO (if i = w then ⟨(s.tables.getD w default).next, l⟩ else s.tables.getD i default)).getD j .any := by
  unfold elE
  rw [setE_at hw]
 rw [hr, upd_one]
 by_cases e1 : i = w
 ·subst e1
  rw [if_pos rfl]
  rcases (show j = 0 ∨ j = 1 by omega) with rfl | rfl
  ·rw [if_neg (by omega), upd_one, if_neg (by omega)]
   exact .refl _
  ·rw [if_pos ⟨rfl, rfl⟩]
   exact OwEq.len hm (fun i j _ _ => HoldC.h _ j) he
 ·rw [if_neg (fun q => e1 q.1), upd_one, if_neg (fun q => e1 q.1), if_neg e1]
  exact .refl _
theorem find_at {s : Shelf} {who num : Int} (hw : 0 ≤ who ∧ who < (s.tables.length : Int)) {q : Nat} (hq : (s.tables.getD who.toNat default).find num = some q) : s.at_ who num = some ((s.tables.getD who.toNat default).entries.getD q default) := by
 rw [at_find hw, hq]; rfl
theorem at_find_none {s : Shelf} {who num : Int} (hw : 0 ≤ who ∧ who < (s.tables.length : Int)) (hE : s.at_ who num = none) : (s.tables.getD who.toNat default).find num = none := by
 rw [at_find hw] at hE
 simpa using hE
theorem at_cases (s : Shelf) {who num : Int} (hw : 0 ≤ who ∧ who < (s.tables.length : Int)) : (∃ q, (s.tables.getD who.toNat default).find num = some q ∧ q < (s.tables.getD who.toNat default).entries.length ∧ s.at_ who num = some ((s.tables.getD who.toNat default).entries.getD q default)) ∨ s.at_ who num = none := by
 rcases find_cases (s.tables.getD who.toNat default) num with ⟨q, h1, h2⟩ | h
 ·exact .inl ⟨q, h1, h2, find_at hw h1⟩
 ·exact .inr (by rw [at_find hw, h]; rfl)
set_option maxHeartbeats 2000000 in
theorem entryO_some (s : Shelf) (h : s.ok) (who num : Int) (hw : 0 ≤ who ∧ who < (s.tables.length : Int)) (q : Nat) (hq : (s.tables.getD who.toNat default).find num = some q) : RetM env.P 84 [some (boxRow s.csO)] [.ptr 0 0 0, .i .i64 who, .i .i64 num] (fun r H => r = .ptr 2 q 0 ∧ H = s.opened who.toNat) := by
 have hl : s.tables.length ≤ 1048576 := h.1.1
 have hw2 : who.toNat < s.tables.length := by omega
 have he : (s.tables.getD who.toNat default).entries.length ≤ 1048576 := entLe h _
 refine ret_ofM (nt := 45) (rvs := [.tmp 6]) Tryz.func84 rfl rfl rfl rfl (fun X hX => ?_)
 repeat' (first | exact aa | ((conv => whnf) <;> (first | (refine lw_turn _ (turn_close (id := 1) (i := who.toNat) (j := 1) (id' := 2) rfl hw2 (show 1 < 2 by decide) (by first | exact upd_self | (simp only [upd, Nat.beq_refl]; rfl) | (simp only [Shelf.rowT, upd, Nat.beq_refl]; rfl) | exact rowT_at) rfl (show 1 ≠ 2 by decide) rfl (rowO_le (Nat.le_refl _))) ?_; refine lw_turn _ (turn_eq (id := 1) (x := rowL 2 Table.csO (s.setE who.toNat (s.tables.getD who.toNat default).entries).tables) rfl rfl setE_len rfl rfl (setE_rows (l := (s.tables.getD who.toNat default).entries) hw2 rfl (fun i j _ _ => .refl _))) ?_; refine lw_turn _ (turn_close (id := 0) (i := 0) (j := 1) (id' := 1) rfl (show 0 < 1 by decide) (show 1 < 3 by decide) rfl rfl (show 0 ≠ 1 by decide) rfl (rowO_le (Nat.le_of_eq setE_len.symm))) ?_; refine lw_turn _ (turn_box (id := 0) (ds := (s).csO) rfl rfl rfl (.cons (.refl _) (.cons (OwEq.len rfl (fun i j _ _ => HoldC.h _ j) (fun i j _ _ => by rw [setE_self]; exact .refl _)) (.cons (.refl _) .nil)))) ?_; refine loopNT (s.tables.getD who.toNat default).entries.length (fun k => [(23, .i .i64 k)]) (fun k => []) (fun k => ∀ j, j < k → ¬ ((s.tables.getD who.toNat default).entries.getD j default).num = num) ⟨fun _ h => by omega, ?_⟩) | exact upto_succ (by assumption) (by assumption) | exact low_cells rfl | (refine roundNT_turn (turn_close (id := 3) (i := who.toNat) (j := 1) (id' := 4) rfl hw2 (show 1 < 2 by decide) (by first | exact upd_self | (simp only [upd, Nat.beq_refl]; rfl) | (simp only [Shelf.rowT, upd, Nat.beq_refl]; rfl) | exact rowT_at) rfl (show 3 ≠ 4 by decide) rfl (rowO_le (Nat.le_refl _))) ?_; refine roundNT_turn (turn_eq (id := 3) (x := rowL 2 Table.csO (s.setE who.toNat (s.tables.getD who.toNat default).entries).tables) rfl rfl setE_len rfl rfl (setE_rows (l := (s.tables.getD who.toNat default).entries) hw2 rfl (fun i j _ _ => .refl _))) ?_; refine roundNT_turn (turn_close (id := 0) (i := 0) (j := 1) (id' := 3) rfl (show 0 < 1 by decide) (show 1 < 3 by decide) rfl rfl (show 0 ≠ 3 by decide) rfl (rowO_le (Nat.le_of_eq setE_len.symm))) ?_; refine roundNT_turn (turn_box (id := 0) (ds := (s).csO) rfl rfl rfl (.cons (.refl _) (.cons (OwEq.len rfl (fun i j _ _ => HoldC.h _ j) (fun i j _ _ => by rw [setE_self]; exact .refl _)) (.cons (.refl _) .nil)))) ?_; refine roundNT_end ?_) | refine And.intro ?_ ?_ | (intro _h; first | contradiction | (try simp only [dd] at _h)) | (refine dt_go ?_) | exact rfl | exact True.intro | exact dkk | exact dks | ((first | refine .inl ⟨_, Ret.wka (isTable_ok s h _), ?_⟩ | refine ⟨_, Ret.wka (isTable_ok s h _), ?_⟩); (try rintro _ rfl)) | (refine wrap_succ ?_; omega))))
 all_goals (conv => whnf)
 ·rename_i k _ hI hk
  have hn := _h
  obtain rfl : k = q := by
   have := find_some (t := (s.tables.getD who.toNat default)) (k := k) (by omega) hn hI
   rw [hq] at this
   exact (Option.some.inj this).symm
  refine endM_turn (turn_open (id := 0) (i := 0) (j := 2) rfl (show 0 < 1 by decide) (show 2 < 3 by decide) rfl) ?_
  refine endM_turn (turn_box (id := 0) (ds := s.csU 3 5) rfl rfl rfl (.cons (.refl _) (.cons (.refl _) (.cons (.refl _) .nil)))) ?_
  exact endM_pick [0, 3, 4, 5] (s.opened who.toNat) (.ptr 2 k 0) (view_open rfl rfl rfl rfl rfl) rfl rfl (by rw [hX]; exact keepK (n := 1) rfl rfl) ⟨rfl, rfl⟩
 ·rename_i k hk hI
  have hn := _h
  exfalso
  have := find_none (t := (s.tables.getD who.toNat default)) (num := num) fun j hj => hI j (by omega)
  rw [hq] at this
  cases this
set_option maxHeartbeats 2000000 in
theorem entryO_none (s : Shelf) (h : s.ok) (who num : Int) (hw : 0 ≤ who ∧ who < (s.tables.length : Int)) (hE : s.at_ who num = none) : RetM env.P 84 [some (boxRow s.csO)] [.ptr 0 0 0, .i .i64 who, .i .i64 num] (fun r H => r = .nilp ∧ H = [some (boxRow s.csO)]) := by
 have hl : s.tables.length ≤ 1048576 := h.1.1
 have hw2 : who.toNat < s.tables.length := by omega
 have he : (s.tables.getD who.toNat default).entries.length ≤ 1048576 := entLe h _
 refine ret_ofM (nt := 45) (rvs := [.tmp 6]) Tryz.func84 rfl rfl rfl rfl (fun X hX => ?_)
 repeat' (first | exact aa | ((conv => whnf) <;> (first | (refine lw_turn _ (turn_close (id := 1) (i := who.toNat) (j := 1) (id' := 2) rfl hw2 (show 1 < 2 by decide) (by first | exact upd_self | (simp only [upd, Nat.beq_refl]; rfl) | (simp only [Shelf.rowT, upd, Nat.beq_refl]; rfl) | exact rowT_at) rfl (show 1 ≠ 2 by decide) rfl (rowO_le (Nat.le_refl _))) ?_; refine lw_turn _ (turn_eq (id := 1) (x := rowL 2 Table.csO (s.setE who.toNat (s.tables.getD who.toNat default).entries).tables) rfl rfl setE_len rfl rfl (setE_rows (l := (s.tables.getD who.toNat default).entries) hw2 rfl (fun i j _ _ => .refl _))) ?_; refine lw_turn _ (turn_close (id := 0) (i := 0) (j := 1) (id' := 1) rfl (show 0 < 1 by decide) (show 1 < 3 by decide) rfl rfl (show 0 ≠ 1 by decide) rfl (rowO_le (Nat.le_of_eq setE_len.symm))) ?_; refine lw_turn _ (turn_box (id := 0) (ds := (s).csO) rfl rfl rfl (.cons (.refl _) (.cons (OwEq.len rfl (fun i j _ _ => HoldC.h _ j) (fun i j _ _ => by rw [setE_self]; exact .refl _)) (.cons (.refl _) .nil)))) ?_; refine loopNT (s.tables.getD who.toNat default).entries.length (fun k => [(23, .i .i64 k)]) (fun k => []) (fun k => ∀ j, j < k → ¬ ((s.tables.getD who.toNat default).entries.getD j default).num = num) ⟨fun _ h => by omega, ?_⟩) | exact upto_succ (by assumption) (by assumption) | exact low_cells rfl | (refine roundNT_turn (turn_close (id := 3) (i := who.toNat) (j := 1) (id' := 4) rfl hw2 (show 1 < 2 by decide) (by first | exact upd_self | (simp only [upd, Nat.beq_refl]; rfl) | (simp only [Shelf.rowT, upd, Nat.beq_refl]; rfl) | exact rowT_at) rfl (show 3 ≠ 4 by decide) rfl (rowO_le (Nat.le_refl _))) ?_; refine roundNT_turn (turn_eq (id := 3) (x := rowL 2 Table.csO (s.setE who.toNat (s.tables.getD who.toNat default).entries).tables) rfl rfl setE_len rfl rfl (setE_rows (l := (s.tables.getD who.toNat default).entries) hw2 rfl (fun i j _ _ => .refl _))) ?_; refine roundNT_turn (turn_close (id := 0) (i := 0) (j := 1) (id' := 3) rfl (show 0 < 1 by decide) (show 1 < 3 by decide) rfl rfl (show 0 ≠ 3 by decide) rfl (rowO_le (Nat.le_of_eq setE_len.symm))) ?_; refine roundNT_turn (turn_box (id := 0) (ds := (s).csO) rfl rfl rfl (.cons (.refl _) (.cons (OwEq.len rfl (fun i j _ _ => HoldC.h _ j) (fun i j _ _ => by rw [setE_self]; exact .refl _)) (.cons (.refl _) .nil)))) ?_; refine roundNT_end ?_) | refine And.intro ?_ ?_ | (intro _h; first | contradiction | (try simp only [dd] at _h)) | (refine dt_go ?_) | exact rfl | exact True.intro | exact dkk | exact dks | ((first | refine .inl ⟨_, Ret.wka (isTable_ok s h _), ?_⟩ | refine ⟨_, Ret.wka (isTable_ok s h _), ?_⟩); (try rintro _ rfl)) | (refine wrap_succ ?_; omega))))
 all_goals (conv => whnf)
 ·rename_i k _ hI hk
  have hn := _h
  exfalso
  have := find_some (t := (s.tables.getD who.toNat default)) (k := k) (by omega) hn hI
  rw [at_find_none hw hE] at this
  cases this
 ·exact endM_pick [0] [some (boxRow s.csO)] .nilp (view_of rfl (.cons rfl (.self (rowPl_box rfl)) .nil)) rfl rfl (by rw [hX]; exact keepK (n := 1) rfl rfl) ⟨rfl, rfl⟩
set_option maxRecDepth 8000
def cutL (num : Int) (l : List Entry) : List Entry := l.filter (fun e => !numP num e)
def Shelf.cut (s : Shelf) (w : Nat) (num : Int) : Shelf := s.setE w (cutL num (s.tables.getD w default).entries)
theorem cutL_le {num : Int} {l : List Entry} : (cutL num l).length ≤ l.length := List.length_filter_le _ _
theorem cutL_hit {num : Int} {l : List Entry} {k : Nat} (hk : k < l.length) (h : (l.getD k default).num = num) : cutL num (l.take (k + 1)) = cutL num (l.take k) := by
 have hp : (!numP num (l.getD k default)) = false := by simp only [numP, h, decide_true, Bool.not_true]
 rw [take_snoc hk]
 unfold cutL
 rw [List.filter_append]
 simp only [List.filter, hp, List.append_nil]
theorem cutL_miss {num : Int} {l : List Entry} {k : Nat} (hk : k < l.length) (h : ¬ (l.getD k default).num = num) : cutL num (l.take (k + 1)) = cutL num (l.take k) ++ [l.getD k default] := by
 have hp : (!numP num (l.getD k default)) = true := by simp only [numP, h, decide_false, Bool.not_false]
 rw [take_snoc hk]
 unfold cutL
 rw [List.filter_append]
 simp only [List.filter, hp]
theorem cutT_le {num : Int} {l : List Entry} {i : Nat} : (cutL num (l.take i)).length ≤ i ∧ (cutL num (l.take i)).length ≤ l.length := by
 have h1 := cutL_le (num := num) (l := l.take i)
 rw [List.length_take] at h1
 omega
theorem arr_zero {r : List Nat} {n sz cap cap' : Nat} {e e' : Nat → Nat → AV} {k : RK} (hc : cap = 0) (hc' : cap' = 0) : ArrP r n ⟨sz, cap, e, k⟩ ⟨sz, cap', e', k⟩ := by
 subst hc hc'
 exact ⟨rfl, rfl, rfl, fun i j hi => absurd hi (Nat.not_lt_zero _), fun i j hi => absurd hi (Nat.not_lt_zero _)⟩
theorem cutL_all {num : Int} {l : List Entry} {k : Nat} (hk : ¬ k < l.length) : cutL num (l.take k) = cutL num l := by rw [List.take_of_length_le (by omega)]
theorem arr_snoc {α : Type} [Inhabited α] {r : List Nat} {n sz k cap cap' : Nat} {c : α → List AV} {l l' : List α} {a : α} {g : Nat → Nat → AV} {bx : RK} (e : l' = l ++ [a]) (hk : k = l.length) (hc : cap' = cap) (hcap : cap = l.length + 1) (hlow : ∀ a j, fx r n ((c a).getD j .any) = true)
  (h1 : ∀ j, j < sz → g 0 j = (c a).getD j .any) : ArrP r n ⟨sz, cap, elE c l', bx⟩ ⟨sz, cap', catE k (elE c l) g, bx⟩ :=
 ⟨rfl, hc, rfl, fun i j hi hj => by
  show catE k (elE c l) g i j = elE c l' i j
  subst e
  rw [catE_at]
  unfold elE
  rw [getD_snoc]
  by_cases h' : i < k
  ·rw [if_pos h', if_pos (by omega)]
  ·rw [if_neg h', if_neg (by omega)]
   by_cases h2 : i = l.length
   ·rw [if_pos h2, show i - k = 0 by omega]; exact h1 j hj
   ·exfalso; have : i < cap := hi; have hcl := hcap; omega, fun i j _ _ => hlow _ _⟩
theorem fx_Tr {r : List Nat} {n w id m i j : Nat} {l : List Table} (h : id < n) (hr : rhoF r id = id) : fx r n (upd (elE Table.csO l) w 1 [.row id m] i j) = true := by
 rw [upd_one]
 split
 ·simp [fx, hr, h]
 ·exact low_cells rfl
theorem rho_keep {X : Ctx} {x : Option Row} {r : List Nat} {id : Nat} (hX : X.H0 = [x]) (h : id < X.H0.length) : rhoF (0 :: r) id = id := by
 rw [hX] at h
 obtain rfl : id = 0 := by simpa using h
 rfl
def delS (t : Nat) : Fr → Fr
 | [] => []
 | (d, v) :: f => bif Nat.beq d t then delS t f else (d, v) :: delS t f
theorem lk_delS {t u : Nat} : ∀ {f : Fr}, lk (delS t f) u = lk f u ∨ lk (delS t f) u = .any
 | [] => .inl rfl
 | (d, v) :: f => by
  unfold delS
  cases hb : Nat.beq d t with
  | true =>
   rw [cond_true]
   by_cases hu : d = u
   ·right
    have hd := Nat.eq_of_beq_eq_true hb
    subst hd
    subst hu
    clear hb
    induction f with
    | nil => rfl
    | cons p f ih =>
     obtain ⟨e, z⟩ := p
     unfold delS
     cases hb : Nat.beq e d with
     | true => exact ih
     | false =>
      rw [cond_false, lk_cons, if_neg (fun q => by rw [q, Nat.beq_refl] at hb; cases hb)]
      exact ih
   ·rw [lk_cons, if_neg hu]
    exact lk_delS
  | false =>
   rw [cond_false, lk_cons, lk_cons]
   split
   ·exact .inl rfl
   ·exact lk_delS
theorem lw_del {P : Program} {nt : Nat} {X : Ctx} {f : Fr} {Hh : Hp} {c : Code} {Q : Exit → Fr → Hp → Prop} (t : Nat) (h : LW P nt X c (delS t f) Hh Q) : LW P nt X c f Hh Q :=
 ⟨fun a w s => h.pw a w (by
  obtain ⟨blk, FP, s⟩ := s
  refine ⟨blk, FP, s.defers, s.size, s.keeps, s.rows, s.apart, fun u => ?_, s.ext⟩
  rcases lk_delS (t := t) (u := u) (f := f) with e | e
  ·rw [e]; exact s.fr u
  ·rw [e]; exact .any _)⟩
theorem setE_rows3 {s : Shelf} {w n m m0 id m1 id1 : Nat} {l : List Entry} {es : Nat → Nat → AV} (hw : w < s.tables.length) (hm : m = l.length) (he : ∀ i j, i < m → j < 7 → OwEq (es i j) (elE Entry.cs l i j)) : ∀ i j, i < n → j < 2 → OwEq (upd (upd (upd (elE Table.csO s.tables) w 1 [.row id m0]) w 1 [.row id1 m1]) w 1 [.ow 7 m es] i j) (elE Table.csO (s.setE w l).tables i j) := fun i j hi hj => by
 have := setE_rows (n := n) (m0 := m0) (id := id) hw hm he i j hi hj
 rw [upd_one, upd_one] at this
 rw [upd_one, upd_one, upd_one]
 split <;> rename_i e
 ·rw [if_pos e] at this
  exact this
 ·rw [if_neg e, if_neg e] at this
  exact this
theorem indexFuncEntry1_ok (l : List Entry) (g : Nat) {fv} (hg : env.F.get g = some fv) (c0 : List AV) (p : Entry → Bool) (hl : l.length ≤ 1048576) (hp : ∀ k, k < l.length → Ret env.P g (.agg (Entry.cs (l.getD k default)) :: [rfL c0]) (fun r => r = .b (p (l.getD k default)))) :
  Ret env.P 163 [slL 7 Entry.cs l, .fn g [rfL c0]] (fun r => r = .i .i64 (idxI (l.findIdx? p))) := by
 refine ret_of (nt := 19) (rvs := [.tmp 4]) Tryz.func163 rfl rfl rfl rfl (fun X => ?_)
 repeat' (first | exact aa | ((conv => whnf) <;> (first | rw [hg] | exact upto_succ (by assumption) (by assumption) | refine loopN l.length (fun k => [(8, .i .i64 k)]) (fun k => []) (fun k => ∀ j, j < k → p (l.getD j default) = false) ⟨fun _ h => by omega, ?_⟩ | refine And.intro ?_ ?_ | (intro _h; first | contradiction | (try simp only [dd] at _h)) | (refine dt_go ?_) | exact rfl | exact True.intro | exact dkk | exact dks | ((first | refine .inl ⟨_, hp _ (by omega), ?_⟩ | refine ⟨_, hp _ (by omega), ?_⟩); (try rintro _ rfl)) | (refine wrap_succ ?_; omega))))
 ·exact leaf_i (idx_some (by omega) (by assumption) (by assumption))
 ·exact leaf_i (idx_none fun j hj => by have := ‹∀ j, j < _ → p (l.getD j default) = false›; exact this j (by omega))
theorem del1_ok (e : Entry) (num : Int) : Ret env.P 126 [.agg e.cs, rfL [.i .i64 num]] (fun r => r = .b (numP num e)) := by
 refine ret_of (nt := 8) (rvs := [.tmp 3]) Tryz.func126 rfl rfl rfl rfl (fun X => ?_)
 repeat' (first | exact aa | ((conv => whnf) <;> (first | refine And.intro ?_ ?_ | (intro _h; first | contradiction | (try simp only [dd] at _h)) | (refine dt_go ?_) | exact rfl | exact True.intro | exact dkk | exact dks | (refine wrap_succ ?_; omega))))
 all_goals exact rfl
def cutM (num : Int) (l : List Entry) (i : Nat) : List Entry := cutL num (l.take i) ++ l.drop (cutL num (l.take i)).length
theorem cutM_len {num : Int} {l : List Entry} {i : Nat} : (cutM num l i).length = l.length := by
 have := (cutT_le (num := num) (l := l) (i := i)).2
 unfold cutM
 rw [List.length_append, List.length_drop]
 omega
theorem cutM_at {num : Int} {l : List Entry} {i k : Nat} (hk : (cutL num (l.take i)).length ≤ k) : (cutM num l i).getD k default = l.getD k default := by
 unfold cutM
 rw [List.getD_eq_getElem?_getD, List.getElem?_append_right hk, List.getElem?_drop, List.getD_eq_getElem?_getD, show (cutL num (l.take i)).length + (k - (cutL num (l.take i)).length) = k by omega]
theorem cutM_hit {num : Int} {l : List Entry} {k : Nat} (hk : k < l.length) (h : (l.getD k default).num = num) : cutM num l (k + 1) = cutM num l k := by
 unfold cutM
 rw [cutL_hit hk h]
theorem cutM_miss {num : Int} {l : List Entry} {k : Nat} (hk : k < l.length) (h : ¬ (l.getD k default).num = num) : cutM num l (k + 1) = (cutM num l k).set (cutL num (l.take k)).length (l.getD k default) := by
 have hle := cutT_le (num := num) (l := l) (i := k)
 unfold cutM
 rw [cutL_miss hk h, List.set_append_right _ _ (Nat.le_refl _), Nat.sub_self, List.length_append, List.length_singleton]
 have : l.drop (cutL num (l.take k)).length = l[(cutL num (l.take k)).length]'(by omega) :: l.drop ((cutL num (l.take k)).length + 1) := List.drop_eq_getElem_cons _
 rw [this, List.set_cons_zero, List.append_assoc, List.singleton_append]
theorem cut_before {num : Int} {l : List Entry} : ∀ {q : Nat}, q ≤ l.length → (∀ j, j < q → ¬ (l.getD j default).num = num) → cutL num (l.take q) = l.take q
 | 0, _, _ => rfl
 | q + 1, hq, h => by
  rw [cutL_miss (by omega) (h q (by omega)), cut_before (by omega) fun j hj => h j (by omega), take_snoc (by omega)]
theorem cutM_start {num : Int} {l : List Entry} {q : Nat} (hq : q < l.length) (h : ∀ j, j < q → ¬ (l.getD j default).num = num) (he : (l.getD q default).num = num) : cutM num l (q + 1) = l ∧ (cutL num (l.take (q + 1))).length = q := by
 have h1 : cutL num (l.take (q + 1)) = l.take q := by rw [cutL_hit hq he, cut_before (by omega) h]
 unfold cutM
 rw [h1, List.length_take, show min q l.length = q by omega]
 exact ⟨List.take_append_drop q l, rfl⟩
def cutE (num : Int) (l : List Entry) : Nat → Nat → AV := fun i j => if i < (cutL num l).length then elE Entry.cs (cutL num l) i j else [AV.i .i64 0, AV.i .i64 0, AV.kb false, AV.i .i64 0, AV.i .i64 0, AV.i .i64 0, AV.i .i64 0].getD j .any
theorem cutE_pl {num : Int} {l : List Entry} {i j : Nat} : pl1 (cutE num l i j) = true := by
 unfold cutE
 split
 ·exact pl1_getD rfl j
 ·exact pl1_getD rfl j
theorem keepH {num : Int} {l : List Entry} {j : Nat} (hj : j < l.length) (h : numP num ((cutM num l j).getD ((j : Nat) : Int).toNat default) = false) : ¬ (l.getD j default).num = num := by
 rw [Int.toNat_natCast, cutM_at (cutT_le (num := num) (l := l) (i := j)).1] at h
 simpa only [numP, decide_eq_false_iff_not] using h
theorem hitH {num : Int} {l : List Entry} {j : Nat} (hj : j < l.length) (h : ¬ numP num ((cutM num l j).getD ((j : Nat) : Int).toNat default) = false) : (l.getD j default).num = num := by
 rw [Int.toNat_natCast, cutM_at (cutT_le (num := num) (l := l) (i := j)).1] at h
 simpa only [numP, decide_eq_false_iff_not, Classical.not_not] using h
theorem cutE_idf {num : Int} {l : List Entry} {i j : Nat} : (cutE num l i j).idfO := by
 unfold cutE
 split
 ·exact HoldC.h _ j
 ·exact (holdC_plain (c := fun _ : Unit => [AV.i .i64 0, AV.i .i64 0, AV.kb false, AV.i .i64 0, AV.i .i64 0, AV.i .i64 0, AV.i .i64 0]) fun _ => rfl).h () j
theorem cutE_in {num : Int} {l : List Entry} {i j : Nat} (h : i < (cutL num l).length) : cutE num l i j = elE Entry.cs (cutL num l) i j := if_pos h
theorem getD_app {α : Type} [Inhabited α] {l m : List α} {i : Nat} (h : i < l.length) : (l ++ m).getD i default = l.getD i default := by
 rw [List.getD_eq_getElem?_getD, List.getD_eq_getElem?_getD, List.getElem?_append_left h]
theorem cutE_row {num : Int} {l : List Entry} {n : Nat} : RowPl ⟨7, n, cutE num l, .arr⟩ := ⟨fun i j _ _ => cutE_pl⟩
set_option maxHeartbeats 2000000 in
theorem deleteFunc_ok (l : List Entry) (num : Int) (hl : l.length ≤ 1048576) (q : Nat) (hq : l.findIdx? (numP num) = some q) (hlt : q < l.length) (h1 : ∀ j, j < q → ¬ (l.getD j default).num = num) (h2 : (l.getD q default).num = num) : RetM env.P 125 [some (rowL 7 Entry.cs l), some (boxRow [.i .i64 num])] [.row 0 l.length, .fn 126 [.ptr 1 0 0]] (fun r H => r = .row 0 (cutL num l).length ∧ H = [some ⟨7, l.length, cutE num l, .arr⟩, some (boxRow [.i .i64 num])]) := by
 have hS := cutM_start hlt h1 h2
 refine ret_ofM (nt := 42) (rvs := [.tmp 4]) Tryz.func125 rfl rfl rfl rfl (fun X hX => ?_)
 repeat' (first | exact aa | ((conv => whnf) <;> (first | (refine .inl ⟨_, Ret.wka (indexFuncEntry1_ok l 126 rfl [.i .i64 num] (numP num) hl (fun k hk => del1_ok _ _)), ?_⟩; rintro _ rfl; rw [hq]; simp only [idxI]) | refine loopN (l.length - (q + 1)) (fun k => [(6, .i .i64 ((q + 1 + k : Nat) : Int)), (5, .i .i64 ((cutL num (l.take (q + 1 + k))).length : Nat))]) (fun k => [some (.arr ⟨7, l.length, elE Entry.cs (cutM num l (q + 1 + k)), .arr⟩)]) (fun k => True) ⟨trivial, ?_⟩ | refine And.intro ?_ ?_ | (intro _h; first | contradiction | (try simp only [dd] at _h)) | (refine dt_go ?_) | exact rfl | exact True.intro | exact dkk | exact dks | ((first | refine .inl ⟨_, Ret.wka (del1_ok _ _), ?_⟩ | refine ⟨_, Ret.wka (del1_ok _ _), ?_⟩); (try rintro _ rfl)) | (refine wrap_succ ?_; omega))))
 ·exact congrArg _ hS.2.symm
 ·exact arr_same hS.1 rfl (fun a j => low_cells rfl)
 ·rename_i k _ _ _
  have := (cutT_le (num := num) (l := l) (i := q + 1 + k)).1
  omega
 ·rename_i k _ _ hj
  have hj' : q + 1 + k < l.length := by omega
  have hn := keepH hj' _h
  have hle := (cutT_le (num := num) (l := l) (i := q + 1 + k)).2
  rw [show q + 1 + (k + 1) = q + 1 + k + 1 from rfl, cutL_miss hj' hn, List.length_append, List.length_singleton, wrap_in (by omega) (by omega)]
  rfl
 ·rename_i k _ _ hj
  have hj' : q + 1 + k < l.length := by omega
  have hn := keepH hj' _h
  have hle := (cutT_le (num := num) (l := l) (i := q + 1 + k)).1
  conv => whnf
  refine arr_set (k := (cutL num (l.take (q + 1 + k))).length) (show cutM num l (q + 1 + (k + 1)) = _ from cutM_miss (k := q + 1 + k) hj' hn) (by rw [cutM_len]; omega) rfl (fun a j => low_cells rfl) ?_ ?_
  ·intro j hj
   have e0 : (cutM num l (q + 1 + k)).getD (((q + 1 + k : Nat) : Int)).toNat default = l.getD (q + 1 + k) default := by rw [Int.toNat_natCast, cutM_at hle]
   have hj7 : j < 7 := hj
   rw [← e0]
   rcases (show j = 0 ∨ j = 1 ∨ j = 2 ∨ j = 3 ∨ j = 4 ∨ j = 5 ∨ j = 6 by omega) with rfl | rfl | rfl | rfl | rfl | rfl | rfl
   all_goals (simp only [upd, Nat.beq_refl, Int.toNat_natCast]; rfl)
  ·intro a j hne
   simp only [upd, beq_ff hne, Bool.and_false, cond_false, Int.toNat_natCast]
 ·rename_i k _ _ hj
  have hj' : q + 1 + k < l.length := by omega
  exact congrArg _ (congrArg List.length (cutL_hit hj' (hitH hj' _h)).symm)
 ·rename_i k _ _ hj
  have hj' : q + 1 + k < l.length := by omega
  exact arr_same (cutM_hit hj' (hitH hj' _h)) rfl (fun a j => low_cells rfl)
 all_goals first | (exact Int.ofNat_le.2 cutT_le.2) | exact Int.le_refl _ | skip
 all_goals (conv => whnf)
 rename_i k _ _
 have hk : cutL num (l.take (q + 1 + k)) = cutL num l := cutL_all (by omega)
 have hM : cutM num l (q + 1 + k) = cutL num l ++ l.drop (cutL num l).length := by unfold cutM; rw [hk]
 refine endM_turn (turn_same (id := 0) (x := ⟨7, l.length, cutE num l, .arr⟩) rfl rfl rfl rfl rfl (fun i j hi hj => ?_)) ?_
 ·have hi' : i < l.length := hi
  dsimp only
  rw [hk, hM]
  have hle := cutL_le (num := num) (l := l)
  unfold cutE
  by_cases h : i < (cutL num l).length
  ·rw [if_pos h, segE_out (by omega)]
   unfold elE
   rw [getD_app h]
  ·rw [if_neg h, segE_in (by omega) (by omega)]
   rfl
 exact endM_pick [0, 1] [some ⟨7, l.length, cutE num l, .arr⟩, some (boxRow [.i .i64 num])] (.row 0 (cutL num l).length) (view_of rfl (.cons rfl (.self cutE_row) (.cons rfl (.self (rowPl_box rfl)) .nil))) (by rw [hk]; rfl) rfl (by rw [hX]; exact keepK (n := 2) rfl rfl) ⟨rfl, rfl⟩
theorem find_first {t : Table} {num : Int} {q : Nat} (h : t.find num = some q) : q < t.entries.length ∧ (t.entries.getD q default).num = num ∧ ∀ j, j < q → ¬ (t.entries.getD j default).num = num := by
 refine ⟨(find_lt h).1, (find_lt h).2, fun j hj hn => ?_⟩
 unfold Table.find at h
 rw [List.findIdx?_eq_some_iff_getElem] at h
 obtain ⟨hk, _, hb⟩ := h
 have := hb j hj
 rw [List.getD_eq_getElem?_getD, List.getElem?_eq_getElem (by omega)] at hn
 simp only [numP, Bool.not_eq_true, decide_eq_false_iff_not] at this
 exact this hn
set_option maxHeartbeats 2000000 in
theorem remove_ok (s : Shelf) (h : s.ok) (who num : Int) (hw : 0 ≤ who ∧ who < (s.tables.length : Int)) (h7 : s.tables.length ≤ 7) (q : Nat) (hq : (s.tables.getD who.toNat default).find num = some q) : RetM env.P 85 [some (boxRow s.csO)] [.ptr 0 0 0, .i .i64 who, .i .i64 num] (fun r H => r = .tup [] ∧ H = [some (boxRow (s.cut who.toNat num).csO)]) := by
 have hl : s.tables.length ≤ 1048576 := h.1.1
 have hw2 : who.toNat < s.tables.length := by omega
 have he : (s.tables.getD who.toNat default).entries.length ≤ 1048576 := entLe h _
 have hf := find_first hq
 refine ret_ofM (nt := 23) (rvs := []) Tryz.func85 rfl rfl rfl rfl (fun X hX => ?_)
 repeat' (first | exact aa | ((conv => whnf) <;> (first | (refine .inr (.inl (.inl ⟨[3, 1], _, _, _, deleteFunc_ok (s.tables.getD who.toNat default).entries num he q hq hf.1 hf.2.2 hf.2.1, (view_of rfl (.cons rfl (.self (rowPl_L fun _ => rfl)) (.cons rfl (.self (rowPl_box rfl)) .nil))), ⟨rfl, rfl⟩, ?_⟩)); rintro _ _ ⟨rfl, rfl⟩; refine ⟨rfl, _, lok_pl (.cons cutE_row (.cons (rowPl_box rfl) .nil)), ?_⟩) | refine And.intro ?_ ?_ | (intro _h; first | contradiction | (try simp only [dd] at _h)) | (refine dt_go ?_) | exact rfl | exact True.intro | exact dkk | exact dks | (refine wrap_succ ?_; omega))))
 all_goals (conv => whnf)
 all_goals refine endM_turn (turn_close (id := 2) (i := who.toNat) (j := 1) (id' := 3) rfl hw2 (show 1 < 2 by decide) (by exact upd_self) rfl (show 2 ≠ 3 by decide) rfl ⟨cutL_le, fun i j _ _ => cutE_idf⟩) ?_
 all_goals refine endM_turn (turn_eq (id := 2) (x := rowL 2 Table.csO (s.setE who.toNat (cutL num (s.tables.getD who.toNat default).entries)).tables) rfl rfl setE_len rfl rfl (setE_rows3 (l := (cutL num (s.tables.getD who.toNat default).entries)) hw2 rfl (fun i j hi _ => by dsimp only; rw [cutE_in hi]; exact .refl _))) ?_
 all_goals refine endM_turn (turn_close (id := 0) (i := 0) (j := 1) (id' := 2) rfl (show 0 < 1 by decide) (show 1 < 3 by decide) rfl rfl (show 0 ≠ 2 by decide) rfl (rowO_le (Nat.le_of_eq setE_len.symm))) ?_
 all_goals refine endM_turn (turn_box (id := 0) (ds := (s.setE who.toNat (cutL num (s.tables.getD who.toNat default).entries)).csO) rfl rfl rfl (.cons (.refl _) (.cons (OwEq.len setE_len.symm (fun i j _ _ => HoldC.h _ j) (fun i j _ _ => .refl _)) (.cons (.refl _) .nil)))) ?_
 all_goals exact endM_pick [0] [some (boxRow (s.cut who.toNat num).csO)] (.tup []) (view_of rfl (.cons rfl (.self (rowPl_box rfl)) .nil)) rfl rfl (by rw [hX]; exact keepK (n := 1) rfl rfl) ⟨rfl, rfl⟩
theorem cut_ok {s : Shelf} (h : s.ok) {w : Nat} {num : Int} : (s.cut w num).ok := setE_ok h (Nat.le_trans cutL_le (entLe h w))
end Go.Proofs.YtmjjadcmmpfljaaGreat
