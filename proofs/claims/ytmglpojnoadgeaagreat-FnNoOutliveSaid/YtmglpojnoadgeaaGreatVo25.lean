/- Texts for VHandlesOneP. -/
import Derived.Test.YtmglpojnoadgeaaGreatVo23
import Derived.Test.YtmglpojnoadgeaaGreatVo24
namespace Go.Proofs.YtmglpojnoadgeaaGreat
open Go Go.RowKit
set_option linter.unusedVariables false
set_option linter.unusedSimpArgs false
set_option maxRecDepth 8000 in
theorem shelfOf_ok (s : Shelf) (h : s.ok) (h1 : 1 ≤ s.tables.length) : RetM env.P 28 [] [.agg s.cs] (fun r H => r = .ptr 0 0 0 ∧ H = [some (boxRow s.csO)]) := by
 refine ret_ofM (nt := 7) (rvs := [.tmp 2]) Tryz.func28 rfl rfl rfl rfl (fun X hX => ?_)
 repeat' (first | exact aa | ((conv => whnf) <;> (first | refine And.intro ?_ ?_ | (intro _h; first | contradiction | (try simp only [dd] at _h)) | (refine dt_go ?_) | exact rfl | exact True.intro | exact dkk | exact dks | (refine .inr (.inl (.inl ⟨[], _, _, _, copyShelf_ok s h h1, viewA, ⟨rfl, rfl⟩, ?_⟩)); rintro _ _ ⟨rfl, rfl⟩; refine ⟨rfl, _, lokA, ?_⟩) | (refine wrap_succ ?_; omega))))
 refine endM_turn (turn_close (id := 3) (i := 0) (j := 1) (id' := 1) rfl (show 0 < 1 by decide) (show 1 < 3 by decide) rfl rfl (show 3 ≠ 1 by decide) rfl (rowO_le (Nat.le_refl _))) ?_
 refine endM_turn (turn_close (id := 3) (i := 0) (j := 2) (id' := 2) rfl (show 0 < 1 by decide) (show 2 < 3 by decide) rfl rfl (show 3 ≠ 2 by decide) rfl (rowO_le (Nat.le_refl _))) ?_
 refine endM_turn (turn_box (id := 3) (ds := s.csO) rfl rfl rfl (.cons (.refl _) (.cons (.refl _) (.cons (.refl _) .nil)))) ?_
 exact endM_pick [3] [some (boxRow s.csO)] (.ptr 0 0 0) (view_of rfl (.cons rfl (.self (rowPl_box rfl)) .nil)) rfl rfl (fun k hk => by rw [hX] at hk; exact absurd hk (Nat.not_lt_zero _)) ⟨rfl, rfl⟩
def Shelf.setE (s : Shelf) (w : Nat) (l : List Entry) : Shelf := ⟨s.next, s.tables.set w ⟨(s.tables.getD w default).next, l⟩, s.things⟩
theorem set_self {α : Type} [Inhabited α] {l : List α} {w : Nat} : l.set w (l.getD w default) = l := by
 apply List.ext_getElem?
 intro k
 rw [List.getElem?_set]
 split
 ·rename_i h
  subst h
  split
  ·rename_i h
   rw [List.getD_eq_getElem?_getD, List.getElem?_eq_getElem h]; rfl
  ·rename_i h
   rw [List.getElem?_eq_none (by omega)]
 ·rfl
theorem setE_self {s : Shelf} {w : Nat} : s.setE w (s.tables.getD w default).entries = s := by
 unfold Shelf.setE
 rw [show (⟨(s.tables.getD w default).next, (s.tables.getD w default).entries⟩ : Table) = s.tables.getD w default from rfl, set_self]
theorem setE_len {s : Shelf} {w : Nat} {l : List Entry} : (s.setE w l).tables.length = s.tables.length := List.length_set
theorem setE_at {s : Shelf} {w k : Nat} {l : List Entry} (hw : w < s.tables.length) : (s.setE w l).tables.getD k default = if k = w then ⟨(s.tables.getD w default).next, l⟩ else s.tables.getD k default := getD_set hw
theorem setE_ok {s : Shelf} (h : s.ok) {w : Nat} {l : List Entry} (hl : l.length ≤ 1048576) : (s.setE w l).ok := by
 refine ⟨⟨by rw [setE_len]; exact h.1.1, fun k hk => ?_⟩, h.2⟩
 rw [setE_len] at hk
 by_cases hw : w < s.tables.length
 ·rw [setE_at hw]
  split
  ·exact ⟨hl, fun _ _ => trivial⟩
  ·exact h.1.2 k hk
 ·have : (s.setE w l).tables = s.tables := by
   unfold Shelf.setE
   rw [List.set_eq_of_length_le (by omega)]
  rw [this]; exact h.1.2 k hk
def Shelf.rowT (s : Shelf) (w id : Nat) : Row := ⟨2, s.tables.length, upd (elE Table.csO s.tables) w 1 [.row id (s.tables.getD w default).entries.length], .arr⟩
def Shelf.csU (s : Shelf) (id id3 : Nat) : List AV := [.i .i64 s.next, .row id s.tables.length, .row id3 s.things.length]
def Shelf.rowE (s : Shelf) (w : Nat) : Row := rowL 7 Entry.cs (s.tables.getD w default).entries
def Shelf.opened (s : Shelf) (w : Nat) : Hp := [some (boxRow (s.csU 1 3)), some (s.rowT w 2), some (s.rowE w), some (rowL 3 Thing.cs s.things)]
theorem stay_at {cs : List AV} (h : cs.all stay = true) (j : Nat) : stay (cs.getD j .any) = true := by
 rw [List.getD_eq_getElem?_getD]
 cases hj : cs[j]? with
 | none => rfl
 | some c => exact List.all_eq_true.1 h c (List.mem_of_getElem? hj)
theorem csO_pl (s : Shelf) (i j : Nat) : pl1 (elE Table.csO s.tables i j) = true := pl1_getD rfl j
theorem ren_box {σ : Nat → Nat} {cs ds : List AV} (h : cs.map (ren1 σ) = ds) (hf : cs.all flat1 = true) : RowRen σ (boxRow cs) (boxRow ds) := by
 subst h
 refine ⟨by simp [boxRow], rfl, .refl _, fun i j hi hj => ?_⟩
 have hj' : j < cs.length := hj
 have e1 : (boxRow cs).es i j = cs[j] := by
  show cs.getD j .any = _
  rw [List.getD_eq_getElem?_getD, List.getElem?_eq_getElem hj']; rfl
 have e2 : (boxRow (cs.map (ren1 σ))).es i j = ren1 σ cs[j] := by
  show (cs.map (ren1 σ)).getD j .any = _
  rw [List.getD_eq_getElem?_getD, List.getElem?_map, List.getElem?_eq_getElem hj']; rfl
 rw [e1, e2]
 exact ⟨rfl, List.all_eq_true.1 hf _ (List.getElem_mem _)⟩
theorem upd_one {es : Nat → Nat → AV} {w j : Nat} {c : AV} {i k : Nat} : upd es w j [c] i k = if i = w ∧ k = j then c else es i k := by
 by_cases e : i = w ∧ k = j
 ·obtain ⟨rfl, rfl⟩ := e
  rw [if_pos ⟨rfl, rfl⟩]
  have := upd_in (es := es) (j := i) (off := k) (cs := [c]) (k := 0) (by simp)
  simpa using this
 ·rw [if_neg e, upd_out (by rintro ⟨h1, h2, h3⟩; exact e ⟨h1, by simp at h3; omega⟩)]
theorem ren_T {σ : Nat → Nat} {s : Shelf} {w id : Nat} : RowRen σ (s.rowT w id) (s.rowT w (σ id)) := by
 refine ⟨rfl, rfl, .refl _, fun i j hi hj => ?_⟩
 show upd _ w 1 [.row (σ id) _] i j = ren1 σ (upd _ w 1 [.row id _] i j) ∧ _
 rw [upd_one]
 show _ ∧ flat1 (upd _ w 1 [.row id _] i j) = true
 rw [upd_one]
 split
 ·exact ⟨rfl, rfl⟩
 ·have := pl1_ren (σ := σ) (csO_pl s i j)
  exact ⟨this.1.symm, this.2⟩
theorem ren_pl {σ : Nat → Nat} {x : Row} (h : RowPl x) : RowRen σ x x := ⟨rfl, rfl, .refl _, fun i j hi hj => ⟨(pl1_ren (h.h i j hi hj)).1.symm, (pl1_ren (σ := σ) (h.h i j hi hj)).2⟩⟩
theorem lok_open {σ : Nat → Nat} {s : Shelf} {w : Nat} : LOk σ (s.opened w) [some (boxRow (s.csU (σ 1) (σ 3))), some (s.rowT w (σ 2)), some (s.rowE w), some (rowL 3 Thing.cs s.things)] := ⟨rfl, fun k hk => by
 match k, hk with
 | 0, _ => exact .inr ⟨_, _, rfl, rfl, ren_box rfl rfl⟩
 | 1, _ => exact .inr ⟨_, _, rfl, rfl, ren_T⟩
 | 2, _ => exact .inr ⟨_, _, rfl, rfl, ren_pl (rowPl_L fun _ => rfl)⟩
 | 3, _ => exact .inr ⟨_, _, rfl, rfl, ren_pl (rowPl_L fun _ => rfl)⟩
 | k + 4, hk => exact absurd hk (by simp [Shelf.opened])⟩
theorem back_ren {σ : Nat → Nat} {m : Nat} {x y : Row} (h : RowRen σ x y) (hk : RKle y.k x.k) (hl : ∀ i j, i < x.cap → j < x.sz → low2 m (x.es i j) = true) : RowBack σ m x y := ⟨h.sz.symm, h.cap.symm, hk, fun i j hi hj => ⟨(h.es i j hi hj).1, hl i j hi hj⟩⟩
theorem low_T {s : Shelf} {w id m : Nat} (h : id < m) : ∀ i j, i < (s.rowT w id).cap → j < (s.rowT w id).sz → low2 m ((s.rowT w id).es i j) = true := fun i j hi hj => by
 show low2 m (upd _ w 1 [.row id _] i j) = true
 rw [upd_one]
 split
 ·exact Nat.ble_eq_true_of_le h
 ·exact pl1_low2 (csO_pl s i j)
theorem low_U {s : Shelf} {id id3 m : Nat} (h : id < m) (h3 : id3 < m) : ∀ i j, i < (boxRow (s.csU id id3)).cap → j < (boxRow (s.csU id id3)).sz → low2 m ((boxRow (s.csU id id3)).es i j) = true := fun i j hi hj => by
 have hj' : j < 3 := hj
 rcases (show j = 0 ∨ j = 1 ∨ j = 2 by omega) with rfl | rfl | rfl
 ·rfl
 ·exact Nat.ble_eq_true_of_le h
 ·exact Nat.ble_eq_true_of_le h3
theorem view_open {H : Hp} {s : Shelf} {w a b c d : Nat} (hn : nodupB [a, b, c, d] = true) (h0 : H[a]? = some (some (boxRow (s.csU b d)))) (h1 : H[b]? = some (some (s.rowT w c))) (h2 : H[c]? = some (some (s.rowE w))) (h3 : H[d]? = some (some (rowL 3 Thing.cs s.things))) : ViewOk [a, b, c, d] H (s.opened w) :=
 view_of hn (.cons h0 (back_ren (ren_box rfl rfl) (.refl _) (low_U (show 1 < 4 from by decide) (show 3 < 4 from by decide))) (.cons h1 (back_ren ren_T (.refl _) (low_T (show 2 < 4 from by decide))) (.cons h2 (.self (rowPl_L fun _ => rfl)) (.cons h3 (.self (rowPl_L fun _ => rfl)) .nil))))
theorem shr_tblU {k n w m id cap : Nat} {kd : RK} {H : Hp} {l : List Table} {es : Nat → Nat → AV} (hn : n = l.length) (hr : H[id]? = some (some ⟨7, cap, es, kd⟩)) (hm : m = (l.getD w default).entries.length) (he : ∀ i j, i < m → j < 7 → es i j = elE Entry.cs (l.getD w default).entries i j) :
  Wk (.sl 2 n fun i j => shrC (k + 2) H (upd (elE Table.csO l) w 1 [.row id m] i j)) (slL 2 Table.cs l) := by
 have h0 := shr_L (d := 1) (k := k + 1) (H := H) (sz := 2) (cO := Table.csO) (l := l) hn
 subst hn
 refine Wk.sl fun i j hi hj => ?_
 rw [upd_one]
 split
 ·rename_i e
  obtain ⟨rfl, rfl⟩ := e
  show Wk (shrC (k + 2) H (.row id m)) ((Table.cs (l.getD i default)).getD 1 .any)
  have e1 : shrC (k + 2) H (.row id m) = .sl 7 m (fun i j => shrC (k + 1) H (es i j)) := by
   show (match H[id]? with | some (some r) => AV.sl r.sz m (fun i j => shrC (k + 1) H (r.es i j)) | _ => .any) = _
   rw [hr]
  rw [e1]
  subst hm
  refine Wk.sl fun i' j' hi' hj' => ?_
  rw [he i' j' hi' hj']
  have hp : stay (elE Entry.cs (l.getD i default).entries i' j') = true := stay_at rfl j'
  rw [stay_eq hp]
  exact .refl _
 ·have := (Shr.h (d := 1) (cO := Table.csO) (c := Table.cs) H (k + 1) (l.getD i default)).getD j
  have e : ((Table.csO (l.getD i default)).map (shrC (k + 1 + 1) H)).getD j .any = shrC (k + 2) H (elE Table.csO l i j) := by
   unfold elE
   generalize Table.csO (l.getD i default) = cs
   rw [List.getD_eq_getElem?_getD, List.getD_eq_getElem?_getD, List.getElem?_map]
   cases cs[j]? with
   | none => exact shr_any.symm
   | some x => rfl
  rw [e] at this
  exact this
theorem Ret.wku {P : Program} {g : FuncId} {av bs : List AV} {post : AV → Prop} (r : Ret P g bs post) (h : WkL av bs := by ((repeat (first | exact WkL.nil | refine WkL.cons ?_ ?_ | exact Wk.refl _ | exact Wk.rfc rfl | refine Wk.fn ?_ | exact Wk.nilS0 | exact shr_L (d := 0) (k := 4) rfl | exact shr_L (d := 1) (k := 3) rfl | exact shr_L (d := 2) (k := 2) rfl | exact shr_L (d := 0) (k := 4) (by simp only [markL_len]) | exact shr_L (d := 1) (k := 3) (by simp only [markL_len]) | refine Wk.agg ?_ | exact shr_L (d := 0) (k := 3) rfl | exact shr_L (d := 1) (k := 2) rfl | exact shr_tblU (k := 1) rfl rfl rfl (fun _ _ _ _ => rfl) | exact shr_ow (d := 1) (k := 2) | exact shr_ow (d := 0) (k := 3) | refine Wk.rfLo ?_)); first | done | fail)) : Ret P g av post := Ret.wk h r
set_option maxRecDepth 8000
theorem rowT_at {s : Shelf} {w id : Nat} : (s.rowT w id).es w 1 = .row id (s.tables.getD w default).entries.length := by
 show upd _ w 1 [.row id _] w 1 = _
 rw [upd_one, if_pos ⟨rfl, rfl⟩]
theorem setE_rows {s : Shelf} {w n m m0 id : Nat} {l : List Entry} {es : Nat → Nat → AV} (hw : w < s.tables.length) (hm : m = l.length) (he : ∀ i j, i < m → j < 7 → OwEq (es i j) (elE Entry.cs l i j)) : ∀ i j, i < n → j < 2 → OwEq (upd (upd (elE Table.csO s.tables) w 1 [.row id m0]) w 1 [.ow 7 m es] i j) (elE Table.csO (s.setE w l).tables i j) := fun i j hi hj => by
 have hr : elE Table.csO (s.setE w l).tables i j = (Table.csO (if i = w then ⟨(s.tables.getD w default).next, l⟩ else s.tables.getD i default)).getD j .any := by
  unfold elE
  rw [setE_at hw]
 rw [hr, upd_one]
 by_cases e1 : i = w
 ·subst e1
  rw [if_pos rfl]
  rcases (show j = 0 ∨ j = 1 by omega) with rfl | rfl
  ·rw [if_neg (by omega), upd_one, if_neg (by omega)]
   exact .refl _
  ·rw [if_pos ⟨rfl, rfl⟩]
   exact OwEq.len hm (fun i j _ _ => HoldC.h _ j) he
 ·rw [if_neg (fun q => e1 q.1), upd_one, if_neg (fun q => e1 q.1), if_neg e1]
  exact .refl _
theorem fx_T {n w id m i j : Nat} {l : List Table} (h : id < n) : fx [] n (upd (elE Table.csO l) w 1 [.row id m] i j) = true := by
 rw [upd_one]
 split
 ·simp [fx, rhoF, h]
 ·exact low_cells rfl
theorem find_at {s : Shelf} {who num : Int} (hw : 0 ≤ who ∧ who < (s.tables.length : Int)) {q : Nat} (hq : (s.tables.getD who.toNat default).find num = some q) : s.at_ who num = some ((s.tables.getD who.toNat default).entries.getD q default) := by
 rw [at_find hw, hq]; rfl
theorem at_find_none {s : Shelf} {who num : Int} (hw : 0 ≤ who ∧ who < (s.tables.length : Int)) (hE : s.at_ who num = none) : (s.tables.getD who.toNat default).find num = none := by
 rw [at_find hw] at hE
 simpa using hE
theorem at_cases (s : Shelf) {who num : Int} (hw : 0 ≤ who ∧ who < (s.tables.length : Int)) : (∃ q, (s.tables.getD who.toNat default).find num = some q ∧ q < (s.tables.getD who.toNat default).entries.length ∧ s.at_ who num = some ((s.tables.getD who.toNat default).entries.getD q default)) ∨ s.at_ who num = none := by
 rcases find_cases (s.tables.getD who.toNat default) num with ⟨q, h1, h2⟩ | h
 ·exact .inl ⟨q, h1, h2, find_at hw h1⟩
 ·exact .inr (by rw [at_find hw, h]; rfl)
set_option maxHeartbeats 2000000 in
theorem entryO_some (s : Shelf) (h : s.ok) (who num : Int) (hw : 0 ≤ who ∧ who < (s.tables.length : Int)) (q : Nat) (hq : (s.tables.getD who.toNat default).find num = some q) : RetM env.P 36 [some (boxRow s.csO)] [.ptr 0 0 0, .i .i64 who, .i .i64 num] (fun r H => r = .ptr 2 q 0 ∧ H = s.opened who.toNat) := by
 have hl : s.tables.length ≤ 1048576 := h.1.1
 have hw2 : who.toNat < s.tables.length := by omega
 have he : (s.tables.getD who.toNat default).entries.length ≤ 1048576 := entLe h _
 refine ret_ofM (nt := 45) (rvs := [.tmp 6]) Tryz.func36 rfl rfl rfl rfl (fun X hX => ?_)
 repeat' (first | exact aa | ((conv => whnf) <;> (first | (refine lw_turn _ (turn_close (id := 1) (i := who.toNat) (j := 1) (id' := 2) rfl hw2 (show 1 < 2 by decide) (by first | exact upd_self | (simp only [upd, Nat.beq_refl]; rfl) | (simp only [Shelf.rowT, upd, Nat.beq_refl]; rfl) | exact rowT_at) rfl (show 1 ≠ 2 by decide) rfl (rowO_le (Nat.le_refl _))) ?_; refine lw_turn _ (turn_eq (id := 1) (x := rowL 2 Table.csO (s.setE who.toNat (s.tables.getD who.toNat default).entries).tables) rfl rfl setE_len rfl rfl (setE_rows (l := (s.tables.getD who.toNat default).entries) hw2 rfl (fun i j _ _ => .refl _))) ?_; refine lw_turn _ (turn_close (id := 0) (i := 0) (j := 1) (id' := 1) rfl (show 0 < 1 by decide) (show 1 < 3 by decide) rfl rfl (show 0 ≠ 1 by decide) rfl (rowO_le (Nat.le_of_eq setE_len.symm))) ?_; refine lw_turn _ (turn_box (id := 0) (ds := (s).csO) rfl rfl rfl (.cons (.refl _) (.cons (OwEq.len rfl (fun i j _ _ => HoldC.h _ j) (fun i j _ _ => by rw [setE_self]; exact .refl _)) (.cons (.refl _) .nil)))) ?_; refine loopNT (s.tables.getD who.toNat default).entries.length (fun k => [(23, .i .i64 k)]) (fun k => []) (fun k => ∀ j, j < k → ¬ ((s.tables.getD who.toNat default).entries.getD j default).num = num) ⟨fun _ h => by omega, ?_⟩) | exact upto_succ (by assumption) (by assumption) | exact low_cells rfl | (refine roundNT_turn (turn_close (id := 3) (i := who.toNat) (j := 1) (id' := 4) rfl hw2 (show 1 < 2 by decide) (by first | exact upd_self | (simp only [upd, Nat.beq_refl]; rfl) | (simp only [Shelf.rowT, upd, Nat.beq_refl]; rfl) | exact rowT_at) rfl (show 3 ≠ 4 by decide) rfl (rowO_le (Nat.le_refl _))) ?_; refine roundNT_turn (turn_eq (id := 3) (x := rowL 2 Table.csO (s.setE who.toNat (s.tables.getD who.toNat default).entries).tables) rfl rfl setE_len rfl rfl (setE_rows (l := (s.tables.getD who.toNat default).entries) hw2 rfl (fun i j _ _ => .refl _))) ?_; refine roundNT_turn (turn_close (id := 0) (i := 0) (j := 1) (id' := 3) rfl (show 0 < 1 by decide) (show 1 < 3 by decide) rfl rfl (show 0 ≠ 3 by decide) rfl (rowO_le (Nat.le_of_eq setE_len.symm))) ?_; refine roundNT_turn (turn_box (id := 0) (ds := (s).csO) rfl rfl rfl (.cons (.refl _) (.cons (OwEq.len rfl (fun i j _ _ => HoldC.h _ j) (fun i j _ _ => by rw [setE_self]; exact .refl _)) (.cons (.refl _) .nil)))) ?_; refine roundNT_end ?_) | refine And.intro ?_ ?_ | (intro _h; first | contradiction | (try simp only [dd] at _h)) | (refine dt_go ?_) | exact rfl | exact True.intro | exact dkk | exact dks | ((first | refine .inl ⟨_, Ret.wka (isTable_ok s h _), ?_⟩ | refine ⟨_, Ret.wka (isTable_ok s h _), ?_⟩); (try rintro _ rfl)) | (refine wrap_succ ?_; omega))))
 all_goals (conv => whnf)
 ·rename_i k _ hI hk
  have hn := _h
  obtain rfl : k = q := by
   have := find_some (t := (s.tables.getD who.toNat default)) (k := k) (by omega) hn hI
   rw [hq] at this
   exact (Option.some.inj this).symm
  refine endM_turn (turn_open (id := 0) (i := 0) (j := 2) rfl (show 0 < 1 by decide) (show 2 < 3 by decide) rfl) ?_
  refine endM_turn (turn_box (id := 0) (ds := s.csU 3 5) rfl rfl rfl (.cons (.refl _) (.cons (.refl _) (.cons (.refl _) .nil)))) ?_
  exact endM_pick [0, 3, 4, 5] (s.opened who.toNat) (.ptr 2 k 0) (view_open rfl rfl rfl rfl rfl) rfl rfl (by rw [hX]; exact keepK (n := 1) rfl rfl) ⟨rfl, rfl⟩
 ·rename_i k hk hI
  have hn := _h
  exfalso
  have := find_none (t := (s.tables.getD who.toNat default)) (num := num) fun j hj => hI j (by omega)
  rw [hq] at this
  cases this
set_option maxHeartbeats 2000000 in
theorem entryO_none (s : Shelf) (h : s.ok) (who num : Int) (hw : 0 ≤ who ∧ who < (s.tables.length : Int)) (hE : s.at_ who num = none) : RetM env.P 36 [some (boxRow s.csO)] [.ptr 0 0 0, .i .i64 who, .i .i64 num] (fun r H => r = .nilp ∧ H = [some (boxRow s.csO)]) := by
 have hl : s.tables.length ≤ 1048576 := h.1.1
 have hw2 : who.toNat < s.tables.length := by omega
 have he : (s.tables.getD who.toNat default).entries.length ≤ 1048576 := entLe h _
 refine ret_ofM (nt := 45) (rvs := [.tmp 6]) Tryz.func36 rfl rfl rfl rfl (fun X hX => ?_)
 repeat' (first | exact aa | ((conv => whnf) <;> (first | (refine lw_turn _ (turn_close (id := 1) (i := who.toNat) (j := 1) (id' := 2) rfl hw2 (show 1 < 2 by decide) (by first | exact upd_self | (simp only [upd, Nat.beq_refl]; rfl) | (simp only [Shelf.rowT, upd, Nat.beq_refl]; rfl) | exact rowT_at) rfl (show 1 ≠ 2 by decide) rfl (rowO_le (Nat.le_refl _))) ?_; refine lw_turn _ (turn_eq (id := 1) (x := rowL 2 Table.csO (s.setE who.toNat (s.tables.getD who.toNat default).entries).tables) rfl rfl setE_len rfl rfl (setE_rows (l := (s.tables.getD who.toNat default).entries) hw2 rfl (fun i j _ _ => .refl _))) ?_; refine lw_turn _ (turn_close (id := 0) (i := 0) (j := 1) (id' := 1) rfl (show 0 < 1 by decide) (show 1 < 3 by decide) rfl rfl (show 0 ≠ 1 by decide) rfl (rowO_le (Nat.le_of_eq setE_len.symm))) ?_; refine lw_turn _ (turn_box (id := 0) (ds := (s).csO) rfl rfl rfl (.cons (.refl _) (.cons (OwEq.len rfl (fun i j _ _ => HoldC.h _ j) (fun i j _ _ => by rw [setE_self]; exact .refl _)) (.cons (.refl _) .nil)))) ?_; refine loopNT (s.tables.getD who.toNat default).entries.length (fun k => [(23, .i .i64 k)]) (fun k => []) (fun k => ∀ j, j < k → ¬ ((s.tables.getD who.toNat default).entries.getD j default).num = num) ⟨fun _ h => by omega, ?_⟩) | exact upto_succ (by assumption) (by assumption) | exact low_cells rfl | (refine roundNT_turn (turn_close (id := 3) (i := who.toNat) (j := 1) (id' := 4) rfl hw2 (show 1 < 2 by decide) (by first | exact upd_self | (simp only [upd, Nat.beq_refl]; rfl) | (simp only [Shelf.rowT, upd, Nat.beq_refl]; rfl) | exact rowT_at) rfl (show 3 ≠ 4 by decide) rfl (rowO_le (Nat.le_refl _))) ?_; refine roundNT_turn (turn_eq (id := 3) (x := rowL 2 Table.csO (s.setE who.toNat (s.tables.getD who.toNat default).entries).tables) rfl rfl setE_len rfl rfl (setE_rows (l := (s.tables.getD who.toNat default).entries) hw2 rfl (fun i j _ _ => .refl _))) ?_; refine roundNT_turn (turn_close (id := 0) (i := 0) (j := 1) (id' := 3) rfl (show 0 < 1 by decide) (show 1 < 3 by decide) rfl rfl (show 0 ≠ 3 by decide) rfl (rowO_le (Nat.le_of_eq setE_len.symm))) ?_; refine roundNT_turn (turn_box (id := 0) (ds := (s).csO) rfl rfl rfl (.cons (.refl _) (.cons (OwEq.len rfl (fun i j _ _ => HoldC.h _ j) (fun i j _ _ => by rw [setE_self]; exact .refl _)) (.cons (.refl _) .nil)))) ?_; refine roundNT_end ?_) | refine And.intro ?_ ?_ | (intro _h; first | contradiction | (try simp only [dd] at _h)) | (refine dt_go ?_) | exact rfl | exact True.intro | exact dkk | exact dks | ((first | refine .inl ⟨_, Ret.wka (isTable_ok s h _), ?_⟩ | refine ⟨_, Ret.wka (isTable_ok s h _), ?_⟩); (try rintro _ rfl)) | (refine wrap_succ ?_; omega))))
 all_goals (conv => whnf)
 ·rename_i k _ hI hk
  have hn := _h
  exfalso
  have := find_some (t := (s.tables.getD who.toNat default)) (k := k) (by omega) hn hI
  rw [at_find_none hw hE] at this
  cases this
 ·exact endM_pick [0] [some (boxRow s.csO)] .nilp (view_of rfl (.cons rfl (.self (rowPl_box rfl)) .nil)) rfl rfl (by rw [hX]; exact keepK (n := 1) rfl rfl) ⟨rfl, rfl⟩
set_option maxHeartbeats 2000000 in
theorem typedO_some (s : Shelf) (h : s.ok) (hg : s.good) (who num res : Int) (hw : 0 ≤ who ∧ who < (s.tables.length : Int)) (q : Nat) (hq : (s.tables.getD who.toNat default).find num = some q) (hr : (s.thingOf ((s.tables.getD who.toNat default).entries.getD q default)).res = res) : RetM env.P 103 [some (boxRow s.csO)] [.ptr 0 0 0, .i .i64 who, .i .i64 num, .i .i64 res] (fun r H => r = .ptr 2 q 0 ∧ H = s.opened who.toNat) := by
 have hl : s.tables.length ≤ 1048576 := h.1.1
 have hw2 : who.toNat < s.tables.length := by omega
 have he : (s.tables.getD who.toNat default).entries.length ≤ 1048576 := entLe h _
 refine ret_ofM (nt := 35) (rvs := [.tmp 8]) Tryz.func103 rfl rfl rfl rfl (fun X hX => ?_)
 repeat' (first | exact aa | ((conv => whnf) <;> (first | (refine .inr (.inl (.inl ⟨[0], _, _, _, entryO_some s h who num hw q hq, (view_of rfl (.cons rfl (.self (rowPl_box rfl)) .nil)), ⟨rfl, rfl⟩, ?_⟩)); rintro _ _ ⟨rfl, rfl⟩; refine ⟨rfl, _, lok_open, ?_⟩) | ((first | refine .inl ⟨_, Ret.wku (thing_ok s h _), ?_⟩ | refine ⟨_, Ret.wku (thing_ok s h _), ?_⟩); (try rintro _ rfl); obtain ⟨qt, hqt, hlt⟩ := thing_some hg (find_at hw hq); rw [hqt]; simp only [idxI]) | refine And.intro ?_ ?_ | (intro _h; first | contradiction | (try simp only [dd] at _h)) | (refine dt_go ?_) | exact rfl | exact True.intro | exact dkk | exact dks | (refine wrap_succ ?_; omega))))
 all_goals (rw [thingOf_eq hqt] at hr)
 all_goals (first | contradiction | skip)
 all_goals (conv => whnf)
 all_goals exact endM_pick [0, 1, 2, 3] (s.opened who.toNat) (.ptr 2 q 0) (view_open rfl rfl rfl rfl rfl) rfl rfl (by rw [hX]; exact keepK (n := 1) rfl rfl) ⟨rfl, rfl⟩
set_option maxHeartbeats 2000000 in
theorem typedO_not (s : Shelf) (h : s.ok) (hg : s.good) (who num res : Int) (hw : 0 ≤ who ∧ who < (s.tables.length : Int)) (q : Nat) (hq : (s.tables.getD who.toNat default).find num = some q) (hr : ¬ (s.thingOf ((s.tables.getD who.toNat default).entries.getD q default)).res = res) : RetM env.P 103 [some (boxRow s.csO)] [.ptr 0 0 0, .i .i64 who, .i .i64 num, .i .i64 res] (fun r H => r = .nilp ∧ H = [some (boxRow s.csO)]) := by
 have hl : s.tables.length ≤ 1048576 := h.1.1
 have hw2 : who.toNat < s.tables.length := by omega
 have he : (s.tables.getD who.toNat default).entries.length ≤ 1048576 := entLe h _
 refine ret_ofM (nt := 35) (rvs := [.tmp 8]) Tryz.func103 rfl rfl rfl rfl (fun X hX => ?_)
 repeat' (first | exact aa | ((conv => whnf) <;> (first | (refine .inr (.inl (.inl ⟨[0], _, _, _, entryO_some s h who num hw q hq, (view_of rfl (.cons rfl (.self (rowPl_box rfl)) .nil)), ⟨rfl, rfl⟩, ?_⟩)); rintro _ _ ⟨rfl, rfl⟩; refine ⟨rfl, _, lok_open, ?_⟩) | ((first | refine .inl ⟨_, Ret.wku (thing_ok s h _), ?_⟩ | refine ⟨_, Ret.wku (thing_ok s h _), ?_⟩); (try rintro _ rfl); obtain ⟨qt, hqt, hlt⟩ := thing_some hg (find_at hw hq); rw [hqt]; simp only [idxI]) | refine And.intro ?_ ?_ | (intro _h; first | contradiction | (try simp only [dd] at _h)) | (refine dt_go ?_) | exact rfl | exact True.intro | exact dkk | exact dks | (refine wrap_succ ?_; omega))))
 all_goals (rw [thingOf_eq hqt] at hr)
 all_goals (first | contradiction | skip)
 all_goals (conv => whnf)
 all_goals refine endM_turn (turn_close (id := 1) (i := who.toNat) (j := 1) (id' := 2) rfl hw2 (show 1 < 2 by decide) (by first | exact upd_self | (simp only [upd, Nat.beq_refl]; rfl) | (simp only [Shelf.rowT, upd, Nat.beq_refl]; rfl) | exact rowT_at) rfl (show 1 ≠ 2 by decide) rfl (rowO_le (Nat.le_refl _))) ?_
 all_goals refine endM_turn (turn_eq (id := 1) (x := rowL 2 Table.csO (s.setE who.toNat (s.tables.getD who.toNat default).entries).tables) rfl rfl setE_len rfl rfl (setE_rows (l := (s.tables.getD who.toNat default).entries) hw2 rfl (fun i j _ _ => .refl _))) ?_
 all_goals refine endM_turn (turn_close (id := 0) (i := 0) (j := 1) (id' := 1) rfl (show 0 < 1 by decide) (show 1 < 3 by decide) rfl rfl (show 0 ≠ 1 by decide) rfl (rowO_le (Nat.le_of_eq setE_len.symm))) ?_
 all_goals refine endM_turn (turn_close (id := 0) (i := 0) (j := 2) (id' := 3) rfl (show 0 < 1 by decide) (show 2 < 3 by decide) rfl rfl (show 0 ≠ 3 by decide) rfl (rowO_le (Nat.le_refl _))) ?_
 all_goals refine endM_turn (turn_box (id := 0) (ds := (s).csO) rfl rfl rfl (.cons (.refl _) (.cons (OwEq.len rfl (fun i j _ _ => HoldC.h _ j) (fun i j _ _ => by rw [setE_self]; exact .refl _)) (.cons (.refl _) .nil)))) ?_
 all_goals exact endM_pick [0] [some (boxRow s.csO)] .nilp (view_of rfl (.cons rfl (.self (rowPl_box rfl)) .nil)) rfl rfl (by rw [hX]; exact keepK (n := 1) rfl rfl) ⟨rfl, rfl⟩
set_option maxHeartbeats 2000000 in
theorem typedO_none (s : Shelf) (h : s.ok) (hg : s.good) (who num res : Int) (hw : 0 ≤ who ∧ who < (s.tables.length : Int)) (hE : s.typ who num res = none) : RetM env.P 103 [some (boxRow s.csO)] [.ptr 0 0 0, .i .i64 who, .i .i64 num, .i .i64 res] (fun r H => r = .nilp ∧ H = [some (boxRow s.csO)]) := by
 have hl : s.tables.length ≤ 1048576 := h.1.1
 have hw2 : who.toNat < s.tables.length := by omega
 have he : (s.tables.getD who.toNat default).entries.length ≤ 1048576 := entLe h _
 rcases at_cases s hw (num := num) with ⟨q, hq, hlt, hA⟩ | hA
 ·by_cases hr : (s.thingOf ((s.tables.getD who.toNat default).entries.getD q default)).res = res
  ·rw [typ_some hA hr] at hE
   cases hE
  ·exact typedO_not s h hg who num res hw q hq hr
 ·refine ret_ofM (nt := 35) (rvs := [.tmp 8]) Tryz.func103 rfl rfl rfl rfl (fun X hX => ?_)
  repeat' (first | exact aa | ((conv => whnf) <;> (first | refine And.intro ?_ ?_ | (intro _h; first | contradiction | (try simp only [dd] at _h)) | (refine dt_go ?_) | exact rfl | exact True.intro | exact dkk | exact dks | (refine .inr (.inl (.inl ⟨[0], _, _, _, entryO_none s h who num hw hA, viewA, ⟨rfl, rfl⟩, ?_⟩)); rintro _ _ ⟨rfl, rfl⟩; refine ⟨rfl, _, lokA, ?_⟩) | (refine wrap_succ ?_; omega))))
  all_goals (conv => whnf)
  all_goals exact endM_pick [0] [some (boxRow s.csO)] .nilp (view_of rfl (.cons rfl (.self (rowPl_box rfl)) .nil)) rfl rfl (by rw [hX]; exact keepK (n := 1) rfl rfl) ⟨rfl, rfl⟩
theorem soft_setE {s : Shelf} (h : s.Soft) {w : Nat} (hw : w < s.tables.length) {l : List Entry} (hl : l.length = (s.tables.getD w default).entries.length)
  (hi : ∀ k, k < l.length → (l.getD k default).id = ((s.tables.getD w default).entries.getD k default).id ∧ (l.getD k default).num = ((s.tables.getD w default).entries.getD k default).num) : (s.setE w l).Soft :=
 soft_like h setE_len (fun i => by
  rw [setE_at hw]
  split
  ·rename_i e; rw [e]; exact hl
  ·rfl) (fun i k h1 h2 => by
  rw [setE_at hw]
  split
  ·rename_i e
   subst e
   exact hi k (by rw [hl]; exact h2)
  ·exact ⟨rfl, rfl⟩) h.n25 h.rs fun _ h => h
theorem soft_entry {s : Shelf} (h : s.Soft) {w : Nat} (hw : w < s.tables.length) {k : Nat} (hk : k < (s.tables.getD w default).entries.length) {e : Entry} (he : e.id = ((s.tables.getD w default).entries.getD k default).id ∧ e.num = ((s.tables.getD w default).entries.getD k default).num) :
  (s.setE w ((s.tables.getD w default).entries.set k e)).Soft := soft_setE h hw List.length_set fun j hj => by
 rw [getD_set hk]
 split
 ·rename_i q; rw [q]; exact he
 ·exact ⟨rfl, rfl⟩
def Shelf.setN (s : Shelf) (w : Nat) (v : Int) : Shelf := ⟨s.next, s.tables.set w ⟨v, (s.tables.getD w default).entries⟩, s.things⟩
theorem setN_at {s : Shelf} {w k : Nat} {v : Int} (hw : w < s.tables.length) : (s.setN w v).tables.getD k default = if k = w then ⟨v, (s.tables.getD w default).entries⟩ else s.tables.getD k default := getD_set hw
theorem soft_setN {s : Shelf} (h : s.Soft) {w : Nat} (hw : w < s.tables.length) (v : Int) : (s.setN w v).Soft :=
 soft_like h List.length_set (fun i => by
  rw [setN_at hw]
  split
  ·rename_i e; rw [e]
  ·rfl) (fun i k h1 h2 => by
  rw [setN_at hw]
  split
  ·rename_i e; rw [e]; exact ⟨rfl, rfl⟩
  ·exact ⟨rfl, rfl⟩) h.n25 h.rs fun _ h => h
end Go.Proofs.YtmglpojnoadgeaaGreat
