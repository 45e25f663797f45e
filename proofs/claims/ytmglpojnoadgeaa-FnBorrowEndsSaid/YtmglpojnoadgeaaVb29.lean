/- Texts for VBorrowEndsP. -/
import Derived.Test.YtmglpojnoadgeaaVb27
import Derived.Test.YtmglpojnoadgeaaVb28
import Derived.Test.YtmglpojnoadgeaaVb25
namespace Go.Proofs.Ytmglpojnoadgeaa
open Go Go.RowKit
set_option linter.unusedVariables false
set_option linter.unusedSimpArgs false
set_option maxRecDepth 8000
theorem shelfOf_ok (s : Shelf) (h : s.ok) (h1 : 1 ≤ s.tables.length) : RetM env.P 23 [] [.agg s.cs] (fun r H => r = .ptr 0 0 0 ∧ H = [some (boxRow s.csO)]) := by
  refine ret_ofM (nt := 7) (rvs := [.tmp 2]) Try.func23 rfl rfl rfl rfl (fun X hX => ?_)
  repeat' (first | exact aa | ((conv => whnf) <;> (first | refine And.intro ?_ ?_ | (intro _h; first | contradiction | (try simp only [dd] at _h)) | (refine dt_go ?_) | exact rfl | exact True.intro | exact dkk | exact dks | (refine .inr (.inl (.inl ⟨[], _, _, _, copyShelf_ok s h h1, viewA, ⟨rfl, rfl⟩, ?_⟩)); rintro _ _ ⟨rfl, rfl⟩; refine ⟨rfl, _, lokA, ?_⟩) | (refine wrap_succ ?_; omega))))
  refine endM_turn (turn_close (id := 3) (i := 0) (j := 1) (id' := 1) rfl (show 0 < 1 by decide) (show 1 < 3 by decide) rfl rfl (show 3 ≠ 1 by decide) rfl (rowO_le (Nat.le_refl _))) ?_
  refine endM_turn (turn_close (id := 3) (i := 0) (j := 2) (id' := 2) rfl (show 0 < 1 by decide) (show 2 < 3 by decide) rfl rfl (show 3 ≠ 2 by decide) rfl (rowO_le (Nat.le_refl _))) ?_
  refine endM_turn (turn_box (id := 3) (ds := s.csO) rfl rfl rfl (.cons (.refl _) (.cons (.refl _) (.cons (.refl _) .nil)))) ?_
  exact endM_pick [3] [some (boxRow s.csO)] (.ptr 0 0 0) (view_of rfl (.cons rfl (.self (rowPl_box rfl)) .nil)) rfl rfl (fun k hk => by rw [hX] at hk; exact absurd hk (Nat.not_lt_zero _)) ⟨rfl, rfl⟩
def Shelf.setE (s : Shelf) (w : Nat) (l : List Entry) : Shelf := ⟨s.next, s.tables.set w ⟨(s.tables.getD w default).next, l⟩, s.things⟩
theorem set_self {α : Type} [Inhabited α] {l : List α} {w : Nat} : l.set w (l.getD w default) = l := by
  apply List.ext_getElem?
  intro k
  rw [List.getElem?_set]
  split
  · rename_i h
    subst h
    split
    · rename_i h
      rw [List.getD_eq_getElem?_getD, List.getElem?_eq_getElem h]; rfl
    · rename_i h
      rw [List.getElem?_eq_none (by omega)]
  · rfl
theorem setE_self {s : Shelf} {w : Nat} : s.setE w (s.tables.getD w default).entries = s := by
  unfold Shelf.setE
  rw [show (⟨(s.tables.getD w default).next, (s.tables.getD w default).entries⟩ : Table) = s.tables.getD w default from rfl, set_self]
theorem setE_len {s : Shelf} {w : Nat} {l : List Entry} : (s.setE w l).tables.length = s.tables.length := List.length_set
theorem setE_at {s : Shelf} {w k : Nat} {l : List Entry} (hw : w < s.tables.length) : (s.setE w l).tables.getD k default = if k = w then ⟨(s.tables.getD w default).next, l⟩ else s.tables.getD k default := getD_set hw
theorem setE_ok {s : Shelf} (h : s.ok) {w : Nat} {l : List Entry} (hl : l.length ≤ 1048576) : (s.setE w l).ok := by
  refine ⟨⟨by rw [setE_len]; exact h.1.1, fun k hk => ?_⟩, h.2⟩
  rw [setE_len] at hk
  by_cases hw : w < s.tables.length
  · rw [setE_at hw]
    split
    · exact ⟨hl, fun _ _ => trivial⟩
    · exact h.1.2 k hk
  · have : (s.setE w l).tables = s.tables := by
      unfold Shelf.setE
      rw [List.set_eq_of_length_le (by omega)]
    rw [this]; exact h.1.2 k hk
def Shelf.rowT (s : Shelf) (w id : Nat) : Row := ⟨2, s.tables.length, upd (elE Table.csO s.tables) w 1 [.row id (s.tables.getD w default).entries.length], .arr⟩
theorem stay_at {cs : List AV} (h : cs.all stay = true) (j : Nat) : stay (cs.getD j .any) = true := by
  rw [List.getD_eq_getElem?_getD]
  cases hj : cs[j]? with
  | none => rfl
  | some c => exact List.all_eq_true.1 h c (List.mem_of_getElem? hj)
theorem csO_pl (s : Shelf) (i j : Nat) : pl1 (elE Table.csO s.tables i j) = true := pl1_getD rfl j
theorem ren_box {σ : Nat → Nat} {cs ds : List AV} (h : cs.map (ren1 σ) = ds) (hf : cs.all flat1 = true) : RowRen σ (boxRow cs) (boxRow ds) := by
  subst h
  refine ⟨by simp [boxRow], rfl, .refl _, fun i j hi hj => ?_⟩
  have hj' : j < cs.length := hj
  have e1 : (boxRow cs).es i j = cs[j] := by
    show cs.getD j .any = _
    rw [List.getD_eq_getElem?_getD, List.getElem?_eq_getElem hj']; rfl
  have e2 : (boxRow (cs.map (ren1 σ))).es i j = ren1 σ cs[j] := by
    show (cs.map (ren1 σ)).getD j .any = _
    rw [List.getD_eq_getElem?_getD, List.getElem?_map, List.getElem?_eq_getElem hj']; rfl
  rw [e1, e2]
  exact ⟨rfl, List.all_eq_true.1 hf _ (List.getElem_mem _)⟩
theorem upd_one {es : Nat → Nat → AV} {w j : Nat} {c : AV} {i k : Nat} : upd es w j [c] i k = if i = w ∧ k = j then c else es i k := by
  by_cases e : i = w ∧ k = j
  · obtain ⟨rfl, rfl⟩ := e
    rw [if_pos ⟨rfl, rfl⟩]
    have := upd_in (es := es) (j := i) (off := k) (cs := [c]) (k := 0) (by simp)
    simpa using this
  · rw [if_neg e, upd_out (by rintro ⟨h1, h2, h3⟩; exact e ⟨h1, by simp at h3; omega⟩)]
theorem ren_pl {σ : Nat → Nat} {x : Row} (h : RowPl x) : RowRen σ x x := ⟨rfl, rfl, .refl _, fun i j hi hj => ⟨(pl1_ren (h.h i j hi hj)).1.symm, (pl1_ren (σ := σ) (h.h i j hi hj)).2⟩⟩
theorem back_ren {σ : Nat → Nat} {m : Nat} {x y : Row} (h : RowRen σ x y) (hk : RKle y.k x.k) (hl : ∀ i j, i < x.cap → j < x.sz → low2 m (x.es i j) = true) : RowBack σ m x y := ⟨h.sz.symm, h.cap.symm, hk, fun i j hi hj => ⟨(h.es i j hi hj).1, hl i j hi hj⟩⟩
theorem shr_tblU {k n w m id cap : Nat} {kd : RK} {H : Hp} {l : List Table} {es : Nat → Nat → AV} (hn : n = l.length) (hr : H[id]? = some (some ⟨7, cap, es, kd⟩)) (hm : m = (l.getD w default).entries.length) (he : ∀ i j, i < m → j < 7 → es i j = elE Entry.cs (l.getD w default).entries i j) :
    Wk (.sl 2 n fun i j => shrC (k + 2) H (upd (elE Table.csO l) w 1 [.row id m] i j)) (slL 2 Table.cs l) := by
  have h0 := shr_L (d := 1) (k := k + 1) (H := H) (sz := 2) (cO := Table.csO) (l := l) hn
  subst hn
  refine Wk.sl fun i j hi hj => ?_
  rw [upd_one]
  split
  · rename_i e
    obtain ⟨rfl, rfl⟩ := e
    show Wk (shrC (k + 2) H (.row id m)) ((Table.cs (l.getD i default)).getD 1 .any)
    have e1 : shrC (k + 2) H (.row id m) = .sl 7 m (fun i j => shrC (k + 1) H (es i j)) := by
      show (match H[id]? with | some (some r) => AV.sl r.sz m (fun i j => shrC (k + 1) H (r.es i j)) | _ => .any) = _
      rw [hr]
    rw [e1]
    subst hm
    refine Wk.sl fun i' j' hi' hj' => ?_
    rw [he i' j' hi' hj']
    have hp : stay (elE Entry.cs (l.getD i default).entries i' j') = true := stay_at rfl j'
    rw [stay_eq hp]
    exact .refl _
  · have := (Shr.h (d := 1) (cO := Table.csO) (c := Table.cs) H (k + 1) (l.getD i default)).getD j
    have e : ((Table.csO (l.getD i default)).map (shrC (k + 1 + 1) H)).getD j .any = shrC (k + 2) H (elE Table.csO l i j) := by
      unfold elE
      generalize Table.csO (l.getD i default) = cs
      rw [List.getD_eq_getElem?_getD, List.getD_eq_getElem?_getD, List.getElem?_map]
      cases cs[j]? with
      | none => exact shr_any.symm
      | some x => rfl
    rw [e] at this
    exact this
theorem Ret.wku {P : Program} {g : FuncId} {av bs : List AV} {post : AV → Prop} (r : Ret P g bs post) (h : WkL av bs := by ((repeat (first | exact WkL.nil | refine WkL.cons ?_ ?_ | exact Wk.refl _ | exact Wk.rfc rfl | refine Wk.fn ?_ | exact Wk.nilS0 | exact shr_L (d := 0) (k := 4) rfl | exact shr_L (d := 1) (k := 3) rfl | exact shr_L (d := 2) (k := 2) rfl | exact shr_L (d := 0) (k := 4) (by simp only [markL_len]) | exact shr_L (d := 1) (k := 3) (by simp only [markL_len]) | refine Wk.agg ?_ | exact shr_L (d := 0) (k := 3) rfl | exact shr_L (d := 1) (k := 2) rfl | exact shr_tblU (k := 1) rfl rfl rfl (fun _ _ _ _ => rfl) | exact shr_ow (d := 1) (k := 2) | exact shr_ow (d := 0) (k := 3) | refine Wk.rfLo ?_)); first | done | fail)) : Ret P g av post := Ret.wk h r
set_option maxRecDepth 8000
theorem rowT_at {s : Shelf} {w id : Nat} : (s.rowT w id).es w 1 = .row id (s.tables.getD w default).entries.length := by
  show upd _ w 1 [.row id _] w 1 = _
  rw [upd_one, if_pos ⟨rfl, rfl⟩]
theorem setE_rows {s : Shelf} {w n m m0 id : Nat} {l : List Entry} {es : Nat → Nat → AV} (hw : w < s.tables.length) (hm : m = l.length) (he : ∀ i j, i < m → j < 7 → OwEq (es i j) (elE Entry.cs l i j)) : ∀ i j, i < n → j < 2 → OwEq (upd (upd (elE Table.csO s.tables) w 1 [.row id m0]) w 1 [.ow 7 m es] i j) (elE Table.csO (s.setE w l).tables i j) := fun i j hi hj => by
  have hr : elE Table.csO (s.setE w l).tables i j = (Table.csO (if i = w then ⟨(s.tables.getD w default).next, l⟩ else s.tables.getD i default)).getD j .any := by
    unfold elE
    rw [setE_at hw]
  rw [hr, upd_one]
  by_cases e1 : i = w
  · subst e1
    rw [if_pos rfl]
    rcases (show j = 0 ∨ j = 1 by omega) with rfl | rfl
    · rw [if_neg (by omega), upd_one, if_neg (by omega)]
      exact .refl _
    · rw [if_pos ⟨rfl, rfl⟩]
      exact OwEq.len hm (fun i j _ _ => HoldC.h _ j) he
  · rw [if_neg (fun q => e1 q.1), upd_one, if_neg (fun q => e1 q.1), if_neg e1]
    exact .refl _
theorem fx_T {n w id m i j : Nat} {l : List Table} (h : id < n) : fx [] n (upd (elE Table.csO l) w 1 [.row id m] i j) = true := by
  rw [upd_one]
  split
  · simp [fx, rhoF, h]
  · exact low_cells rfl
theorem find_at {s : Shelf} {who num : Int} (hw : 0 ≤ who ∧ who < (s.tables.length : Int)) {q : Nat} (hq : (s.tables.getD who.toNat default).find num = some q) : s.at_ who num = some ((s.tables.getD who.toNat default).entries.getD q default) := by
  rw [at_find hw, hq]; rfl
theorem at_cases (s : Shelf) {who num : Int} (hw : 0 ≤ who ∧ who < (s.tables.length : Int)) : (∃ q, (s.tables.getD who.toNat default).find num = some q ∧ q < (s.tables.getD who.toNat default).entries.length ∧ s.at_ who num = some ((s.tables.getD who.toNat default).entries.getD q default)) ∨ s.at_ who num = none := by
  rcases find_cases (s.tables.getD who.toNat default) num with ⟨q, h1, h2⟩ | h
  · exact .inl ⟨q, h1, h2, find_at hw h1⟩
  · exact .inr (by rw [at_find hw, h]; rfl)
theorem soft_setE {s : Shelf} (h : s.Soft) {w : Nat} (hw : w < s.tables.length) {l : List Entry} (hl : l.length = (s.tables.getD w default).entries.length)
    (hi : ∀ k, k < l.length → (l.getD k default).id = ((s.tables.getD w default).entries.getD k default).id ∧ (l.getD k default).num = ((s.tables.getD w default).entries.getD k default).num) : (s.setE w l).Soft :=
  soft_like h setE_len (fun i => by
    rw [setE_at hw]
    split
    · rename_i e; rw [e]; exact hl
    · rfl) (fun i k h1 h2 => by
    rw [setE_at hw]
    split
    · rename_i e
      subst e
      exact hi k (by rw [hl]; exact h2)
    · exact ⟨rfl, rfl⟩) h.n25 h.rs fun _ h => h
theorem soft_entry {s : Shelf} (h : s.Soft) {w : Nat} (hw : w < s.tables.length) {k : Nat} (hk : k < (s.tables.getD w default).entries.length) {e : Entry} (he : e.id = ((s.tables.getD w default).entries.getD k default).id ∧ e.num = ((s.tables.getD w default).entries.getD k default).num) :
    (s.setE w ((s.tables.getD w default).entries.set k e)).Soft := soft_setE h hw List.length_set fun j hj => by
  rw [getD_set hk]
  split
  · rename_i q; rw [q]; exact he
  · exact ⟨rfl, rfl⟩
def Shelf.setN (s : Shelf) (w : Nat) (v : Int) : Shelf := ⟨s.next, s.tables.set w ⟨v, (s.tables.getD w default).entries⟩, s.things⟩
theorem setN_at {s : Shelf} {w k : Nat} {v : Int} (hw : w < s.tables.length) : (s.setN w v).tables.getD k default = if k = w then ⟨v, (s.tables.getD w default).entries⟩ else s.tables.getD k default := getD_set hw
theorem soft_setN {s : Shelf} (h : s.Soft) {w : Nat} (hw : w < s.tables.length) (v : Int) : (s.setN w v).Soft :=
  soft_like h List.length_set (fun i => by
    rw [setN_at hw]
    split
    · rename_i e; rw [e]
    · rfl) (fun i k h1 h2 => by
    rw [setN_at hw]
    split
    · rename_i e; rw [e]; exact ⟨rfl, rfl⟩
    · exact ⟨rfl, rfl⟩) h.n25 h.rs fun _ h => h
section
attribute [local irreducible] IntKind.wrap
theorem bent7 {x : Shelf} (h : x.ok ∧ x.good) : 1 ≤ x.tables.length ∧ x.tables.length ≤ 7 := h.2.2.1
theorem bent200 {x : Shelf} (h : x.ok ∧ x.good) : (x.tables.length : Int) ≤ 200 := by have := bent7 h; omega
theorem wr_n {n : Nat} (h : 0 < (n : Int)) (h12 : n ≤ 12) : IntKind.i64.wrap ((n : Int) - 1) = (n : Int) - 1 := wrap_in (by omega) (by omega)
theorem wr_0 {n : Nat} (h : 0 < (n : Int)) (h12 : n ≤ 12) : 0 ≤ IntKind.i64.wrap ((n : Int) - 1) := by rw [wr_n h h12]; omega
theorem wr_1 {n : Nat} (h : 0 < (n : Int)) (h12 : n ≤ 12) : IntKind.i64.wrap ((n : Int) - 1) < (n : Int) := by rw [wr_n h h12]; omega
theorem wr_k {n : Nat} (h : 0 < (n : Int)) (h12 : n ≤ 12) : (IntKind.i64.wrap ((n : Int) - 1)).toNat < n := by rw [wr_n h h12]; omega
theorem set_rows {l : List Entry} {k n : Nat} {e : Entry} {es : Nat → Nat → AV} (hk : k < l.length) (h1 : ∀ j, j < 7 → es k j = (Entry.cs e).getD j .any) (h2 : ∀ i j, i ≠ k → es i j = elE Entry.cs l i j) : ∀ i j, i < n → j < 7 → OwEq (es i j) (elE Entry.cs (l.set k e) i j) := fun i j hi hj => by
  have hr : elE Entry.cs (l.set k e) i j = (Entry.cs (if i = k then e else l.getD i default)).getD j .any := by
    unfold elE
    rw [getD_set hk]
  rw [hr]
  by_cases q : i = k
  · subst q
    rw [if_pos rfl, h1 j hj]
    exact .refl _
  · rw [if_neg q, h2 i j q]
    exact .refl _
theorem setN_rows {s : Shelf} {w n : Nat} {v : Int} (hw : w < s.tables.length) : ∀ i j, i < n → j < 2 → OwEq (upd (elE Table.csO s.tables) w 0 [.i .i64 v] i j) (elE Table.csO (s.setN w v).tables i j) := fun i j hi hj => by
  have hr : elE Table.csO (s.setN w v).tables i j = (Table.csO (if i = w then ⟨v, (s.tables.getD w default).entries⟩ else s.tables.getD i default)).getD j .any := by
    unfold elE
    rw [setN_at hw]
  rw [hr, upd_one]
  by_cases e1 : i = w
  · subst e1
    rw [if_pos rfl]
    rcases (show j = 0 ∨ j = 1 by omega) with rfl | rfl
    · rw [if_pos ⟨rfl, rfl⟩]
      exact .refl _
    · rw [if_neg (by omega)]
      exact .refl _
  · rw [if_neg (fun q => e1 q.1), if_neg e1]
    exact .refl _
set_option maxRecDepth 8000 in
set_option maxHeartbeats 16000000 in
theorem l19Bent_ok (D : Draws) (s : Src) (h : s.rm 400) : RetM env.P 19 [some (boxRow s.cs)] [.ptr 0 0 0] (fun r H => ∃ (x : Shelf) (t : Src), x.Soft ∧ (s.at' ≤ t.at' ∧ t.at' ≤ s.at' + 300 ∧ t.code.length = s.code.length) ∧ r = .agg [.i .i64 x.next, .row 1 x.tables.length, .row 2 x.things.length] ∧ H = [some (boxRow t.cs), some (rowL 2 Table.csO x.tables), some (rowL 3 Thing.cs x.things)]) := by
  obtain ⟨h1, h2, h3⟩ := h
  refine ret_ofPM (nt := 133) (rvs := [.cell 2 27]) Try.func19 rfl rfl rfl rfl (fun X hX => ?_)
  refine pw_cut 3 (fun y : Shelf × Src × Int => (y.1.ok ∧ y.1.good) ∧ (s.at' ≤ y.2.1.at' ∧ y.2.1.at' ≤ s.at' + 261 ∧ y.2.1.code.length = s.code.length) ∧ (0 ≤ y.2.2 ∧ y.2.2 < y.1.tables.length))
    (fun y => [(0, .ptr 0 0 0), (2, .ptr 1 0 0), (3, .ptr 4 0 0), (4, .i .i64 y.2.2)])
    (fun y => [some (boxRow y.2.1.cs), some (boxRow [.i .i64 0, .nils, .nils]), some (rowL 2 Table.csO y.1.tables), some (rowL 3 Thing.cs y.1.things), some (boxRow (y.1.bx 2))]) ?_ (fun y hy => ?_)
  · repeat' (first | exact aa | ((conv => whnf) <;> (first | exact bent200 ‹_› | (refine Src.rm_i ?_ ?_ ?_) | refine And.intro ?_ ?_ | (intro _h; first | contradiction | (try simp only [dd] at _h)) | (refine dt_go ?_) | exact rfl | exact True.intro | exact dkk | exact dks | (refine .inr (.inl (.inl ⟨[0], _, _, _, l19Draw_ok D _ ?_, viewA, ⟨rfl, rfl⟩, ?_⟩)); rotate_left 1; rintro _ _ ⟨_, _, _, _, rfl, rfl⟩; refine ⟨rfl, _, lokA, ?_⟩) | (refine .inr (.inl (.inl ⟨[0], _, _, _, pick_ex _ ?_ _ ?_, viewA, ⟨rfl, rfl⟩, ?_⟩)); rotate_left 2; rintro _ _ ⟨_, _, _, _, rfl, rfl⟩; refine ⟨rfl, _, lokA, ?_⟩) | (refine wrap_succ ?_; omega))))
    all_goals (conv => whnf)
    all_goals (have hq7 := bent7 ‹Shelf.ok _ ∧ Shelf.good _›; refine cut_turn (turn_box (id := 4) (ds := Shelf.bx _ 2) rfl rfl rfl (.cons (.refl _) (.cons (.refl _) (.cons (.refl _) .nil)))) ?_; refine cut_go (_, _, _) ?_ (by repeat' (first | exact trivial | refine And.intro rfl ?_)) (by repeat' (first | exact trivial | refine And.intro (.inl rfl) ?_ | refine And.intro (.inr rfl) ?_ | refine And.intro rfl ?_)); dsimp only; refine ⟨‹_›, ⟨?_, ?_, ?_⟩, ⟨?_, ?_⟩⟩ <;> omega)
  · obtain ⟨x, t, who⟩ := y
    obtain ⟨hx, ht, hw⟩ := hy
    dsimp only at hx ht hw
    dsimp only
    have hs := soft_good hx.2
    have hl7 := hs.t7
    have hw2 : who.toNat < x.tables.length := by omega
    have hl12 := hs.e12 who.toNat
    have hl2 : x.things.length ≤ 1048576 := by have := hs.n25; omega
    refine wpc_ok _ _ _ _ ?_
    repeat' (first | exact aa | ((conv => whnf) <;> (first | (refine ld_skip rfl rfl rfl rfl upd_self ?_) | (refine bool_skip any_self ?_) | (first | rw [ld_self rfl] | rw [ld_selfA rfl]) | exact capB2 hl2 (by decide) | exact capN2 hl2 | (refine Src.rm_i ?_ ?_ ?_) | ((refine .inr (.inl (.inl ⟨[0, 5], _, _, _, among_row _ ?_ [0, 1, 1000000, 1000001] (by decide) (by decide), (view_of rfl (.cons rfl (.self (rowPl_box rfl)) (.cons rfl (rowBack_lit [0, 1, 1000000, 1000001]) .nil))), ⟨rfl, rfl⟩, ?_⟩))); rotate_left 1; rintro _ _ ⟨_, _, _, _, rfl, rfl⟩; refine ⟨rfl, _, lokA, ?_⟩) | (refine dt_goC (id := 17) [0, 5, 2] ?_) | (refine dt_goM (id := 15) [5] ?_) | exact wr_0 ‹_› hl12 | exact wr_1 ‹_› hl12 | ((refine .inr (.inl (.inl ⟨[0, 5], _, _, _, among_row _ ?_ [1, 1000000, 0] (by decide) (by decide), (view_of rfl (.cons rfl (.self (rowPl_box rfl)) (.cons rfl (rowBack_lit [1, 1000000, 0]) .nil))), ⟨rfl, rfl⟩, ?_⟩))); rotate_left 1; rintro _ _ ⟨_, _, _, _, rfl, rfl⟩; refine ⟨rfl, _, lokA, ?_⟩) | refine And.intro ?_ ?_ | (intro _h; first | contradiction | (try simp only [dd] at _h)) | (refine dt_go ?_) | exact rfl | exact True.intro | exact dkk | exact dks | (refine .inr (.inl (.inl ⟨[0], _, _, _, pick_ex _ ?_ _ ?_, viewA, ⟨rfl, rfl⟩, ?_⟩)); rotate_left 2; rintro _ _ ⟨_, _, _, _, rfl, rfl⟩; refine ⟨rfl, _, lokA, ?_⟩) | (refine wrap_succ ?_; omega))))
    all_goals (conv => whnf)
    ·
      exact endM_pick [0, 2, 3] [some (boxRow (Src.cs _)), some (rowL 2 Table.csO (x.setX _).tables), some (rowL 3 Thing.cs (x.setX _).things)] (.agg [.i .i64 _, .row 1 _, .row 2 _]) (view_of rfl (.cons rfl (.self (rowPl_box rfl)) (.cons rfl (.self (rowPl_L fun _ => rfl)) (.cons rfl (.self (rowPl_L fun _ => rfl)) .nil)))) rfl rfl (by rw [hX]; exact keepK (n := 1) rfl rfl) ⟨x.setX _, _, soft_next hs _, ⟨by omega, by omega, by omega⟩, rfl, rfl⟩
    ·
      refine endM_turn (turn_eq (id := 6) (x := rowL 3 Thing.cs (x.addT ⟨IntKind.i64.wrap (x.next - 1), 1, 0⟩).things) rfl rfl (by show (_ ++ [_]).length = _; rw [List.length_append]; rfl) rfl rfl (snoc_eq (l := x.things) (sz := 3) (a := ⟨IntKind.i64.wrap (x.next - 1), 1, 0⟩) (c := Thing.cs) rfl (fun j hj => .refl _))) ?_
      exact endM_pick [0, 2, 6] [some (boxRow (Src.cs _)), some (rowL 2 Table.csO (x.addT ⟨IntKind.i64.wrap (x.next - 1), 1, 0⟩).tables), some (rowL 3 Thing.cs (x.addT ⟨IntKind.i64.wrap (x.next - 1), 1, 0⟩).things)] (.agg [.i .i64 _, .row 1 _, .row 2 _]) (view_of rfl (.cons rfl (.self (rowPl_box rfl)) (.cons rfl (.self (rowPl_L fun _ => rfl)) (.cons rfl (.self (rowPl_L fun _ => rfl)) .nil)))) rfl rfl (by rw [hX]; exact keepK (n := 1) rfl rfl) ⟨x.addT ⟨IntKind.i64.wrap (x.next - 1), 1, 0⟩, _, soft_addT hs hx.2.2.2.1.2 _ ⟨by show (1 : Int) ≤ 1; omega, by show (1 : Int) ≤ 8; omega⟩, ⟨by omega, by omega, by omega⟩, (by show AV.agg [.i .i64 x.next, .row 1 _, .row 2 _] = AV.agg [.i .i64 x.next, .row 1 _, .row 2 (x.things ++ [_]).length]; rw [List.length_append]; rfl), rfl⟩
    ·
      have hk : 0 < (x.tables.getD who.toNat default).entries.length := by omega
      refine endM_turn (turn_eq (id := 5) (x := rowL 7 Entry.cs ((x.tables.getD who.toNat default).entries.set 0 { (x.tables.getD who.toNat default).entries.getD 0 default with lends := IntKind.i64.wrap (((x.tables.getD who.toNat default).entries.getD 0 default).lends + 1) })) rfl rfl List.length_set rfl rfl (set_rows hk (fun j hj => ?_) (fun i j hne => ?_))) ?_
      · rcases (show j = 0 ∨ j = 1 ∨ j = 2 ∨ j = 3 ∨ j = 4 ∨ j = 5 ∨ j = 6 by omega) with rfl | rfl | rfl | rfl | rfl | rfl | rfl <;> (dsimp only [upd, avc]; first | rfl | (simp only [Nat.beq_refl]; rfl))
      · dsimp only [upd, avc]
        first | (simp only [beq_ff hne, Bool.and_false, Bool.false_and, cond_false]; done) | (obtain ⟨i, rfl⟩ : ∃ q, i = q + 1 := ⟨i - 1, by omega⟩; rw [show (i + 1).beq (Int.toNat 0) = false from rfl, Bool.and_false, cond_false])
      refine endM_turn (turn_close (id := 2) (i := who.toNat) (j := 1) (id' := 5) rfl hw2 (show 1 < 2 by decide) (by exact upd_self) rfl (show 2 ≠ 5 by decide) rfl (rowO_le (Nat.le_of_eq List.length_set.symm))) ?_
      refine endM_turn (turn_eq (id := 2) (x := rowL 2 Table.csO (x.setE who.toNat ((x.tables.getD who.toNat default).entries.set 0 { (x.tables.getD who.toNat default).entries.getD 0 default with lends := IntKind.i64.wrap (((x.tables.getD who.toNat default).entries.getD 0 default).lends + 1) })).tables) rfl rfl setE_len rfl rfl (setE_rows (l := ((x.tables.getD who.toNat default).entries.set 0 { (x.tables.getD who.toNat default).entries.getD 0 default with lends := IntKind.i64.wrap (((x.tables.getD who.toNat default).entries.getD 0 default).lends + 1) })) hw2 List.length_set.symm (fun i j _ _ => .refl _))) ?_
      exact endM_pick [0, 2, 3] [some (boxRow (Src.cs _)), some (rowL 2 Table.csO (x.setE who.toNat ((x.tables.getD who.toNat default).entries.set 0 { (x.tables.getD who.toNat default).entries.getD 0 default with lends := IntKind.i64.wrap (((x.tables.getD who.toNat default).entries.getD 0 default).lends + 1) })).tables), some (rowL 3 Thing.cs (x.setE who.toNat ((x.tables.getD who.toNat default).entries.set 0 { (x.tables.getD who.toNat default).entries.getD 0 default with lends := IntKind.i64.wrap (((x.tables.getD who.toNat default).entries.getD 0 default).lends + 1) })).things)] (.agg [.i .i64 _, .row 1 _, .row 2 _]) (view_of rfl (.cons rfl (.self (rowPl_box rfl)) (.cons rfl (.self (rowPl_L fun _ => rfl)) (.cons rfl (.self (rowPl_L fun _ => rfl)) .nil)))) rfl rfl (by rw [hX]; exact keepK (n := 1) rfl rfl) ⟨x.setE who.toNat ((x.tables.getD who.toNat default).entries.set 0 { (x.tables.getD who.toNat default).entries.getD 0 default with lends := IntKind.i64.wrap (((x.tables.getD who.toNat default).entries.getD 0 default).lends + 1) }), _, soft_entry hs hw2 hk ⟨rfl, rfl⟩, ⟨by omega, by omega, by omega⟩, (by rw [setE_len]; rfl), rfl⟩
    ·
      refine endM_turn (turn_close (id := 2) (i := who.toNat) (j := 1) (id' := 5) rfl hw2 (show 1 < 2 by decide) (by exact upd_self) rfl (show 2 ≠ 5 by decide) rfl (rowO_le (Nat.le_refl _))) ?_
      refine endM_turn (turn_eq (id := 2) (x := rowL 2 Table.csO x.tables) rfl rfl rfl rfl rfl tab_back) ?_
      exact endM_pick [0, 2, 3] [some (boxRow (Src.cs _)), some (rowL 2 Table.csO (x).tables), some (rowL 3 Thing.cs (x).things)] (.agg [.i .i64 _, .row 1 _, .row 2 _]) (view_of rfl (.cons rfl (.self (rowPl_box rfl)) (.cons rfl (.self (rowPl_L fun _ => rfl)) (.cons rfl (.self (rowPl_L fun _ => rfl)) .nil)))) rfl rfl (by rw [hX]; exact keepK (n := 1) rfl rfl) ⟨x, _, hs, ⟨by omega, by omega, by omega⟩, rfl, rfl⟩
    ·
      have hk : (IntKind.i64.wrap (((x.tables.getD who.toNat default).entries.length : Int) - 1)).toNat < (x.tables.getD who.toNat default).entries.length := wr_k ‹_› hl12
      refine endM_turn (turn_eq (id := 5) (x := rowL 7 Entry.cs ((x.tables.getD who.toNat default).entries.set (IntKind.i64.wrap (((x.tables.getD who.toNat default).entries.length : Int) - 1)).toNat { (x.tables.getD who.toNat default).entries.getD (IntKind.i64.wrap (((x.tables.getD who.toNat default).entries.length : Int) - 1)).toNat default with own := !((x.tables.getD who.toNat default).entries.getD (IntKind.i64.wrap (((x.tables.getD who.toNat default).entries.length : Int) - 1)).toNat default).own })) rfl rfl List.length_set rfl rfl (set_rows hk (fun j hj => ?_) (fun i j hne => ?_))) ?_
      · rcases (show j = 0 ∨ j = 1 ∨ j = 2 ∨ j = 3 ∨ j = 4 ∨ j = 5 ∨ j = 6 by omega) with rfl | rfl | rfl | rfl | rfl | rfl | rfl <;> (dsimp only [upd, avc]; first | rfl | (simp only [Nat.beq_refl]; rfl))
      · dsimp only [upd, avc]
        first | (simp only [beq_ff hne, Bool.and_false, Bool.false_and, cond_false]; done) | (obtain ⟨i, rfl⟩ : ∃ q, i = q + 1 := ⟨i - 1, by omega⟩; rw [show (i + 1).beq (Int.toNat 0) = false from rfl, Bool.and_false, cond_false])
      refine endM_turn (turn_close (id := 2) (i := who.toNat) (j := 1) (id' := 5) rfl hw2 (show 1 < 2 by decide) (by exact upd_self) rfl (show 2 ≠ 5 by decide) rfl (rowO_le (Nat.le_of_eq List.length_set.symm))) ?_
      refine endM_turn (turn_eq (id := 2) (x := rowL 2 Table.csO (x.setE who.toNat ((x.tables.getD who.toNat default).entries.set (IntKind.i64.wrap (((x.tables.getD who.toNat default).entries.length : Int) - 1)).toNat { (x.tables.getD who.toNat default).entries.getD (IntKind.i64.wrap (((x.tables.getD who.toNat default).entries.length : Int) - 1)).toNat default with own := !((x.tables.getD who.toNat default).entries.getD (IntKind.i64.wrap (((x.tables.getD who.toNat default).entries.length : Int) - 1)).toNat default).own })).tables) rfl rfl setE_len rfl rfl (setE_rows (l := ((x.tables.getD who.toNat default).entries.set (IntKind.i64.wrap (((x.tables.getD who.toNat default).entries.length : Int) - 1)).toNat { (x.tables.getD who.toNat default).entries.getD (IntKind.i64.wrap (((x.tables.getD who.toNat default).entries.length : Int) - 1)).toNat default with own := !((x.tables.getD who.toNat default).entries.getD (IntKind.i64.wrap (((x.tables.getD who.toNat default).entries.length : Int) - 1)).toNat default).own })) hw2 List.length_set.symm (fun i j _ _ => .refl _))) ?_
      exact endM_pick [0, 2, 3] [some (boxRow (Src.cs _)), some (rowL 2 Table.csO (x.setE who.toNat ((x.tables.getD who.toNat default).entries.set (IntKind.i64.wrap (((x.tables.getD who.toNat default).entries.length : Int) - 1)).toNat { (x.tables.getD who.toNat default).entries.getD (IntKind.i64.wrap (((x.tables.getD who.toNat default).entries.length : Int) - 1)).toNat default with own := !((x.tables.getD who.toNat default).entries.getD (IntKind.i64.wrap (((x.tables.getD who.toNat default).entries.length : Int) - 1)).toNat default).own })).tables), some (rowL 3 Thing.cs (x.setE who.toNat ((x.tables.getD who.toNat default).entries.set (IntKind.i64.wrap (((x.tables.getD who.toNat default).entries.length : Int) - 1)).toNat { (x.tables.getD who.toNat default).entries.getD (IntKind.i64.wrap (((x.tables.getD who.toNat default).entries.length : Int) - 1)).toNat default with own := !((x.tables.getD who.toNat default).entries.getD (IntKind.i64.wrap (((x.tables.getD who.toNat default).entries.length : Int) - 1)).toNat default).own })).things)] (.agg [.i .i64 _, .row 1 _, .row 2 _]) (view_of rfl (.cons rfl (.self (rowPl_box rfl)) (.cons rfl (.self (rowPl_L fun _ => rfl)) (.cons rfl (.self (rowPl_L fun _ => rfl)) .nil)))) rfl rfl (by rw [hX]; exact keepK (n := 1) rfl rfl) ⟨x.setE who.toNat ((x.tables.getD who.toNat default).entries.set (IntKind.i64.wrap (((x.tables.getD who.toNat default).entries.length : Int) - 1)).toNat { (x.tables.getD who.toNat default).entries.getD (IntKind.i64.wrap (((x.tables.getD who.toNat default).entries.length : Int) - 1)).toNat default with own := !((x.tables.getD who.toNat default).entries.getD (IntKind.i64.wrap (((x.tables.getD who.toNat default).entries.length : Int) - 1)).toNat default).own }), _, soft_entry hs hw2 hk ⟨rfl, rfl⟩, ⟨by omega, by omega, by omega⟩, (by rw [setE_len]; rfl), rfl⟩
    ·
      refine endM_turn (turn_close (id := 2) (i := who.toNat) (j := 1) (id' := 5) rfl hw2 (show 1 < 2 by decide) (by exact upd_self) rfl (show 2 ≠ 5 by decide) rfl (rowO_le (Nat.le_refl _))) ?_
      refine endM_turn (turn_eq (id := 2) (x := rowL 2 Table.csO x.tables) rfl rfl rfl rfl rfl tab_back) ?_
      exact endM_pick [0, 2, 3] [some (boxRow (Src.cs _)), some (rowL 2 Table.csO (x).tables), some (rowL 3 Thing.cs (x).things)] (.agg [.i .i64 _, .row 1 _, .row 2 _]) (view_of rfl (.cons rfl (.self (rowPl_box rfl)) (.cons rfl (.self (rowPl_L fun _ => rfl)) (.cons rfl (.self (rowPl_L fun _ => rfl)) .nil)))) rfl rfl (by rw [hX]; exact keepK (n := 1) rfl rfl) ⟨x, _, hs, ⟨by omega, by omega, by omega⟩, rfl, rfl⟩
    ·
      refine endM_turn (turn_eq (id := 2) (x := rowL 2 Table.csO (x.setN who.toNat _).tables) rfl rfl List.length_set rfl rfl (setN_rows hw2)) ?_
      exact endM_pick [0, 2, 3] [some (boxRow (Src.cs _)), some (rowL 2 Table.csO (x.setN who.toNat _).tables), some (rowL 3 Thing.cs (x.setN who.toNat _).things)] (.agg [.i .i64 _, .row 1 _, .row 2 _]) (view_of rfl (.cons rfl (.self (rowPl_box rfl)) (.cons rfl (.self (rowPl_L fun _ => rfl)) (.cons rfl (.self (rowPl_L fun _ => rfl)) .nil)))) rfl rfl (by rw [hX]; exact keepK (n := 1) rfl rfl) ⟨x.setN who.toNat _, _, soft_setN hs hw2 _, ⟨by omega, by omega, by omega⟩, (by rw [show (x.setN who.toNat _).tables.length = x.tables.length from List.length_set]; rfl), rfl⟩
    ·
      have hk : (IntKind.i64.wrap (((x.tables.getD who.toNat default).entries.length : Int) - 1)).toNat < (x.tables.getD who.toNat default).entries.length := wr_k ‹_› hl12
      refine endM_turn (turn_eq (id := 5) (x := rowL 7 Entry.cs ((x.tables.getD who.toNat default).entries.set (IntKind.i64.wrap (((x.tables.getD who.toNat default).entries.length : Int) - 1)).toNat { (x.tables.getD who.toNat default).entries.getD (IntKind.i64.wrap (((x.tables.getD who.toNat default).entries.length : Int) - 1)).toNat default with from_ := who, fromNum := ((x.tables.getD who.toNat default).entries.getD (IntKind.i64.wrap (((x.tables.getD who.toNat default).entries.length : Int) - 1)).toNat default).num })) rfl rfl List.length_set rfl rfl (set_rows hk (fun j hj => ?_) (fun i j hne => ?_))) ?_
      · rcases (show j = 0 ∨ j = 1 ∨ j = 2 ∨ j = 3 ∨ j = 4 ∨ j = 5 ∨ j = 6 by omega) with rfl | rfl | rfl | rfl | rfl | rfl | rfl <;> (dsimp only [upd, avc]; first | rfl | (simp only [Nat.beq_refl]; rfl))
      · dsimp only [upd, avc]
        first | (simp only [beq_ff hne, Bool.and_false, Bool.false_and, cond_false]; done) | (obtain ⟨i, rfl⟩ : ∃ q, i = q + 1 := ⟨i - 1, by omega⟩; rw [show (i + 1).beq (Int.toNat 0) = false from rfl, Bool.and_false, cond_false])
      refine endM_turn (turn_close (id := 2) (i := who.toNat) (j := 1) (id' := 5) rfl hw2 (show 1 < 2 by decide) (by exact upd_self) rfl (show 2 ≠ 5 by decide) rfl (rowO_le (Nat.le_of_eq List.length_set.symm))) ?_
      refine endM_turn (turn_eq (id := 2) (x := rowL 2 Table.csO (x.setE who.toNat ((x.tables.getD who.toNat default).entries.set (IntKind.i64.wrap (((x.tables.getD who.toNat default).entries.length : Int) - 1)).toNat { (x.tables.getD who.toNat default).entries.getD (IntKind.i64.wrap (((x.tables.getD who.toNat default).entries.length : Int) - 1)).toNat default with from_ := who, fromNum := ((x.tables.getD who.toNat default).entries.getD (IntKind.i64.wrap (((x.tables.getD who.toNat default).entries.length : Int) - 1)).toNat default).num })).tables) rfl rfl setE_len rfl rfl (setE_rows (l := ((x.tables.getD who.toNat default).entries.set (IntKind.i64.wrap (((x.tables.getD who.toNat default).entries.length : Int) - 1)).toNat { (x.tables.getD who.toNat default).entries.getD (IntKind.i64.wrap (((x.tables.getD who.toNat default).entries.length : Int) - 1)).toNat default with from_ := who, fromNum := ((x.tables.getD who.toNat default).entries.getD (IntKind.i64.wrap (((x.tables.getD who.toNat default).entries.length : Int) - 1)).toNat default).num })) hw2 List.length_set.symm (fun i j _ _ => .refl _))) ?_
      exact endM_pick [0, 2, 3] [some (boxRow (Src.cs _)), some (rowL 2 Table.csO (x.setE who.toNat ((x.tables.getD who.toNat default).entries.set (IntKind.i64.wrap (((x.tables.getD who.toNat default).entries.length : Int) - 1)).toNat { (x.tables.getD who.toNat default).entries.getD (IntKind.i64.wrap (((x.tables.getD who.toNat default).entries.length : Int) - 1)).toNat default with from_ := who, fromNum := ((x.tables.getD who.toNat default).entries.getD (IntKind.i64.wrap (((x.tables.getD who.toNat default).entries.length : Int) - 1)).toNat default).num })).tables), some (rowL 3 Thing.cs (x.setE who.toNat ((x.tables.getD who.toNat default).entries.set (IntKind.i64.wrap (((x.tables.getD who.toNat default).entries.length : Int) - 1)).toNat { (x.tables.getD who.toNat default).entries.getD (IntKind.i64.wrap (((x.tables.getD who.toNat default).entries.length : Int) - 1)).toNat default with from_ := who, fromNum := ((x.tables.getD who.toNat default).entries.getD (IntKind.i64.wrap (((x.tables.getD who.toNat default).entries.length : Int) - 1)).toNat default).num })).things)] (.agg [.i .i64 _, .row 1 _, .row 2 _]) (view_of rfl (.cons rfl (.self (rowPl_box rfl)) (.cons rfl (.self (rowPl_L fun _ => rfl)) (.cons rfl (.self (rowPl_L fun _ => rfl)) .nil)))) rfl rfl (by rw [hX]; exact keepK (n := 1) rfl rfl) ⟨x.setE who.toNat ((x.tables.getD who.toNat default).entries.set (IntKind.i64.wrap (((x.tables.getD who.toNat default).entries.length : Int) - 1)).toNat { (x.tables.getD who.toNat default).entries.getD (IntKind.i64.wrap (((x.tables.getD who.toNat default).entries.length : Int) - 1)).toNat default with from_ := who, fromNum := ((x.tables.getD who.toNat default).entries.getD (IntKind.i64.wrap (((x.tables.getD who.toNat default).entries.length : Int) - 1)).toNat default).num }), _, soft_entry hs hw2 hk ⟨rfl, rfl⟩, ⟨by omega, by omega, by omega⟩, (by rw [setE_len]; rfl), rfl⟩
    ·
      refine endM_turn (turn_close (id := 2) (i := who.toNat) (j := 1) (id' := 5) rfl hw2 (show 1 < 2 by decide) (by exact upd_self) rfl (show 2 ≠ 5 by decide) rfl (rowO_le (Nat.le_refl _))) ?_
      refine endM_turn (turn_eq (id := 2) (x := rowL 2 Table.csO x.tables) rfl rfl rfl rfl rfl tab_back) ?_
      exact endM_pick [0, 2, 3] [some (boxRow (Src.cs _)), some (rowL 2 Table.csO (x).tables), some (rowL 3 Thing.cs (x).things)] (.agg [.i .i64 _, .row 1 _, .row 2 _]) (view_of rfl (.cons rfl (.self (rowPl_box rfl)) (.cons rfl (.self (rowPl_L fun _ => rfl)) (.cons rfl (.self (rowPl_L fun _ => rfl)) .nil)))) rfl rfl (by rw [hX]; exact keepK (n := 1) rfl rfl) ⟨x, _, hs, ⟨by omega, by omega, by omega⟩, rfl, rfl⟩
    ·
      exact endM_pick [0, 2, 3] [some (boxRow (Src.cs _)), some (rowL 2 Table.csO (x).tables), some (rowL 3 Thing.cs (x).things)] (.agg [.i .i64 _, .row 1 _, .row 2 _]) (view_of rfl (.cons rfl (.self (rowPl_box rfl)) (.cons rfl (.self (rowPl_L fun _ => rfl)) (.cons rfl (.self (rowPl_L fun _ => rfl)) .nil)))) rfl rfl (by rw [hX]; exact keepK (n := 1) rfl rfl) ⟨x, _, hs, ⟨by omega, by omega, by omega⟩, rfl, rfl⟩
end
end Go.Proofs.Ytmglpojnoadgeaa
