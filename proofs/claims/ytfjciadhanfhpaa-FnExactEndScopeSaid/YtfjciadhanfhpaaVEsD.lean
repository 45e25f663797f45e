/-
  Entries are deleted while what decides on them looks at the same row: in plain terms; rows handed over that hold pointers.
  Shelves that are changed: slices.DeleteFunc over entries, where what decides looks at the shelf.
  Shelves that are changed: what decides on the entries that are removed.
  The program removes entries: why what it leaves is what the reference leaves.
-/
import Derived.Test.YtfjciadhanfhpaaVEsB
import Derived.Test.YtfjciadhanfhpaaVEsC
namespace Go.Proofs.Ytfjciadhanfhpaa
open Go Go.RowKit
set_option linter.unusedVariables false
set_option linter.unusedSimpArgs false

def notIn (R : List Int) (e : Entry) : Bool := !(R.contains e.num)
/-- The row midway: what is kept of the first j, and then what stood there. -/
def inM (M : Entry → Bool) (l : List Entry) (j : Nat) : List Entry := (l.take j).filter M ++ l.drop ((l.take j).filter M).length
/-- The numbers that have been deleted when j entries have been looked at; q decides, looking at the row as it is. -/
def delRun (q : List Entry → Entry → Bool) (l : List Entry) : Nat → List Int
  | 0 => []
  | j + 1 => if q (inM (notIn (delRun q l j)) l j) (l.getD j default) = true then (l.getD j default).num :: delRun q l j else delRun q l j
/-- What is kept of the first j; the row then. -/
def dK (q : List Entry → Entry → Bool) (l : List Entry) (j : Nat) : List Entry := (l.take j).filter (notIn (delRun q l j))
def dM (q : List Entry → Entry → Bool) (l : List Entry) (j : Nat) : List Entry := inM (notIn (delRun q l j)) l j

theorem filt_len {M : Entry → Bool} {l : List Entry} {j : Nat} : ((l.take j).filter M).length ≤ j ∧ ((l.take j).filter M).length ≤ l.length := by
  have h1 := List.length_filter_le M (l.take j)
  rw [List.length_take] at h1
  omega
theorem inM_len {M : Entry → Bool} {l : List Entry} {j : Nat} : (inM M l j).length = l.length := by
  have := (filt_len (M := M) (l := l) (j := j)).2
  unfold inM
  rw [List.length_append, List.length_drop]
  omega
theorem inM_at {M : Entry → Bool} {l : List Entry} {j k : Nat} (hk : ((l.take j).filter M).length ≤ k) : (inM M l j).getD k default = l.getD k default := by
  unfold inM
  rw [List.getD_eq_getElem?_getD, List.getElem?_append_right hk, List.getElem?_drop, List.getD_eq_getElem?_getD, show ((l.take j).filter M).length + (k - ((l.take j).filter M).length) = k by omega]
theorem run_sub {q : List Entry → Entry → Bool} {l : List Entry} : ∀ {j : Nat} {n : Int}, n ∈ delRun q l j → ∃ k, k < j ∧ n = (l.getD k default).num
  | 0, n, h => by cases h
  | j + 1, n, h => by
    unfold delRun at h
    split at h
    · rcases List.mem_cons.1 h with rfl | h
      · exact ⟨j, by omega, rfl⟩
      · obtain ⟨k, hk, e⟩ := run_sub h
        exact ⟨k, by omega, e⟩
    · obtain ⟨k, hk, e⟩ := run_sub h
      exact ⟨k, by omega, e⟩
theorem mem_take' {l : List Entry} {j : Nat} {e : Entry} (h : e ∈ l.take j) : ∃ k, k < j ∧ k < l.length ∧ l.getD k default = e := by
  obtain ⟨k, hk⟩ := List.getElem?_of_mem h
  rw [List.getElem?_take] at hk
  split at hk
  · exact ⟨k, by assumption, (List.getElem?_eq_some_iff.1 hk).1, by rw [List.getD_eq_getElem?_getD, hk]; rfl⟩
  · cases hk
theorem notIn_self {l : List Entry} (hu : uniq l) {q : List Entry → Entry → Bool} {j : Nat} (hj : j < l.length) : notIn (delRun q l j) (l.getD j default) = true := by
  unfold notIn
  rw [Bool.not_eq_true', ← Bool.not_eq_true, List.contains_iff_mem]
  intro h
  obtain ⟨k, hk, e⟩ := run_sub h
  have := hu j k hj (by omega) e
  omega
theorem dK_hit {q : List Entry → Entry → Bool} {l : List Entry} (hu : uniq l) {j : Nat} (hj : j < l.length) (h : q (dM q l j) (l.getD j default) = true) : dK q l (j + 1) = dK q l j := by
  have hr : delRun q l (j + 1) = (l.getD j default).num :: delRun q l j := by
    rw [delRun]
    exact if_pos h
  unfold dK
  rw [hr, take_snoc hj, List.filter_append]
  have h1 : ([l.getD j default] : List Entry).filter (notIn ((l.getD j default).num :: delRun q l j)) = [] := by
    refine List.filter_eq_nil_iff.2 fun e he => ?_
    obtain rfl := List.mem_singleton.1 he
    unfold notIn
    simp only [List.contains_cons, beq_self_eq_true, Bool.true_or, Bool.not_true, Bool.false_eq_true, not_false_eq_true]
  rw [h1, List.append_nil]
  refine List.filter_congr fun e he => ?_
  obtain ⟨k, hk, hkl, rfl⟩ := mem_take' he
  unfold notIn
  rw [List.contains_cons]
  have : ((l.getD k default).num == (l.getD j default).num) = false := by
    rw [beq_eq_false_iff_ne]
    intro e
    have := hu k j hkl hj e
    omega
  rw [this, Bool.false_or]
theorem dK_miss {q : List Entry → Entry → Bool} {l : List Entry} (hu : uniq l) {j : Nat} (hj : j < l.length) (h : q (dM q l j) (l.getD j default) = false) : dK q l (j + 1) = dK q l j ++ [l.getD j default] := by
  have hr : delRun q l (j + 1) = delRun q l j := by
    rw [delRun, if_neg (by unfold dM at h; rw [h]; decide)]
  unfold dK
  rw [hr, take_snoc hj, List.filter_append]
  congr 1
  refine List.filter_eq_self.2 fun e he => ?_
  obtain rfl := List.mem_singleton.1 he
  exact notIn_self hu hj
theorem dM_eq {q : List Entry → Entry → Bool} {l : List Entry} {j : Nat} : dM q l j = dK q l j ++ l.drop (dK q l j).length := rfl
theorem dM_len {q : List Entry → Entry → Bool} {l : List Entry} {j : Nat} : (dM q l j).length = l.length := inM_len
theorem dK_le {q : List Entry → Entry → Bool} {l : List Entry} {j : Nat} : (dK q l j).length ≤ j ∧ (dK q l j).length ≤ l.length := filt_len
theorem dM_at {q : List Entry → Entry → Bool} {l : List Entry} {j k : Nat} (hk : (dK q l j).length ≤ k) : (dM q l j).getD k default = l.getD k default := inM_at hk
theorem dM_hit {q : List Entry → Entry → Bool} {l : List Entry} (hu : uniq l) {j : Nat} (hj : j < l.length) (h : q (dM q l j) (l.getD j default) = true) : dM q l (j + 1) = dM q l j := by
  rw [dM_eq, dM_eq, dK_hit hu hj h]
theorem dM_miss {q : List Entry → Entry → Bool} {l : List Entry} (hu : uniq l) {j : Nat} (hj : j < l.length) (h : q (dM q l j) (l.getD j default) = false) : dM q l (j + 1) = (dM q l j).set (dK q l j).length (l.getD j default) := by
  have hle := dK_le (q := q) (l := l) (j := j)
  rw [dM_eq, dM_eq, dK_miss hu hj h, List.set_append_right _ _ (Nat.le_refl _), Nat.sub_self, List.length_append, List.length_singleton]
  have : l.drop (dK q l j).length = l[(dK q l j).length]'(by omega) :: l.drop ((dK q l j).length + 1) := List.drop_eq_getElem_cons _
  rw [this, List.set_cons_zero, List.append_assoc, List.singleton_append]
/-- Up to the first that is deleted. -/
theorem run_nil {q : List Entry → Entry → Bool} {l : List Entry} : ∀ {j : Nat}, j ≤ l.length → (∀ k, k < j → q l (l.getD k default) = false) → delRun q l j = [] ∧ dK q l j = l.take j ∧ dM q l j = l
  | 0, _, _ => ⟨rfl, rfl, by rw [dM_eq]; rfl⟩
  | j + 1, hj, h => by
    obtain ⟨h1, h2, h3⟩ := run_nil (j := j) (by omega) fun k hk => h k (by omega)
    have hr : delRun q l (j + 1) = [] := by
      rw [delRun, if_neg, h1]
      have : inM (notIn (delRun q l j)) l j = l := h3
      rw [this, h j (by omega)]
      decide
    have hk : dK q l (j + 1) = l.take (j + 1) := by
      unfold dK
      rw [hr]
      exact List.filter_eq_self.2 fun e _ => rfl
    refine ⟨hr, hk, ?_⟩
    rw [dM_eq, hk, List.length_take, show min (j + 1) l.length = j + 1 by omega]
    exact List.take_append_drop _ _
theorem run_start {q : List Entry → Entry → Bool} {l : List Entry} (hu : uniq l) {j : Nat} (hj : j < l.length) (h : ∀ k, k < j → q l (l.getD k default) = false) (h1 : q l (l.getD j default) = true) : dM q l (j + 1) = l ∧ (dK q l (j + 1)).length = j := by
  obtain ⟨_, h2, h3⟩ := run_nil (q := q) (Nat.le_of_lt hj) h
  have hh : q (dM q l j) (l.getD j default) = true := by rw [h3]; exact h1
  refine ⟨by rw [dM_hit hu hj hh]; exact h3, ?_⟩
  rw [dK_hit hu hj hh, h2, List.length_take]
  omega

/-- The row's cells behind the deletions. -/
def cutC (L : List Entry) : Nat → Nat → AV := fun i j => if i < L.length then elE Entry.cs L i j else [AV.i .i64 0, AV.i .i64 0, AV.kb false, AV.i .i64 0, AV.i .i64 0, AV.i .i64 0, AV.i .i64 0].getD j .any
theorem cutC_pl {L : List Entry} {i j : Nat} : pl1 (cutC L i j) = true := by
  unfold cutC
  split
  · exact pl1_getD rfl j
  · exact pl1_getD rfl j
theorem cutC_idf {L : List Entry} {i j : Nat} : (cutC L i j).idfO := by
  unfold cutC
  split
  · exact HoldC.h _ j
  · exact (holdC_plain (c := fun _ : Unit => [AV.i .i64 0, AV.i .i64 0, AV.kb false, AV.i .i64 0, AV.i .i64 0, AV.i .i64 0, AV.i .i64 0]) fun _ => rfl).h () j
theorem cutC_in {L : List Entry} {i j : Nat} (h : i < L.length) : cutC L i j = elE Entry.cs L i j := if_pos h
theorem cutC_row {L : List Entry} {n : Nat} : RowPl ⟨7, n, cutC L, .arr⟩ := ⟨fun i j _ _ => cutC_pl⟩

/-! ### Rows that hold pointers -/
theorem low_box {m : Nat} {cs : List AV} (h : cs.all (low2 m) = true) : ∀ i j, i < (boxRow cs).cap → j < (boxRow cs).sz → low2 m ((boxRow cs).es i j) = true := fun i j hi hj => by
  have hj' : j < cs.length := hj
  show low2 m (cs.getD j .any) = true
  rw [List.getD_eq_getElem?_getD, List.getElem?_eq_getElem hj']
  exact List.all_eq_true.1 h _ (List.getElem_mem hj')
theorem back_box {σ : Nat → Nat} {m : Nat} {cs ds : List AV} (h : cs.map (ren1 σ) = ds) (hf : cs.all flat1 = true) (hl : cs.all (low2 m) = true) : RowBack σ m (boxRow cs) (boxRow ds) := back_ren (ren_box h hf) (.refl _) (low_box hl)
theorem lok_c {σ : Nat → Nat} {x y : Row} {H' L : Hp} (h : RowRen σ x y) (t : LOk σ H' L) : LOk σ (some x :: H') (some y :: L) := ⟨by simp [t.len], fun k hk => by
  cases k with
  | zero => exact .inr ⟨_, _, rfl, rfl, h⟩
  | succ k => exact t.row k (by simpa using hk)⟩
/-- The tables, one of them opened: its entries are the row id. -/
def Shelf.rowW (s : Shelf) (w id n : Nat) : Row := ⟨2, s.tables.length, upd (elE Table.csO s.tables) w 1 [.row id n], .arr⟩
def Shelf.csT (s : Shelf) (id : Nat) : List AV := [.i .i64 s.next, .row id s.tables.length, owL 3 Thing.cs s.things]
theorem ren_W {σ : Nat → Nat} {s : Shelf} {w id n : Nat} : RowRen σ (s.rowW w id n) (s.rowW w (σ id) n) := by
  refine ⟨rfl, rfl, .refl _, fun i j hi hj => ?_⟩
  show upd _ w 1 [.row (σ id) _] i j = ren1 σ (upd _ w 1 [.row id _] i j) ∧ _
  rw [upd_one]
  show _ ∧ flat1 (upd _ w 1 [.row id _] i j) = true
  rw [upd_one]
  split
  · exact ⟨rfl, rfl⟩
  · have := pl1_ren (σ := σ) (csO_pl s i j)
    exact ⟨this.1.symm, this.2⟩
theorem low_W {s : Shelf} {w id n m : Nat} (h : id < m) : ∀ i j, i < (s.rowW w id n).cap → j < (s.rowW w id n).sz → low2 m ((s.rowW w id n).es i j) = true := fun i j hi hj => by
  show low2 m (upd _ w 1 [.row id _] i j) = true
  rw [upd_one]
  split
  · exact Nat.ble_eq_true_of_le h
  · exact pl1_low2 (csO_pl s i j)
theorem back_W {σ : Nat → Nat} {m : Nat} {s : Shelf} {w id id' n : Nat} (e : σ id = id') (h : id < m) : RowBack σ m (s.rowW w id n) (s.rowW w id' n) := by
  subst e
  exact back_ren ren_W (.refl _) (low_W h)
theorem ren_W' {σ : Nat → Nat} {s : Shelf} {w id id' n : Nat} (e : σ id = id') : RowRen σ (s.rowW w id n) (s.rowW w id' n) := by
  subst e
  exact ren_W
theorem wk_tr {x y z : AV} (h : Wk x y) (k : Wk y z) : Wk x z := ⟨fun q => k.idf (h.idf q), fun w S u hc => k.c w S u (h.c w S u hc)⟩
/-- The frozen tables, one of them with the entries of the row id. -/
theorem shr_tblV {k n w m id cap : Nat} {kd : RK} {H : Hp} {s : Shelf} {l : List Entry} {es : Nat → Nat → AV} (hw : w < s.tables.length) (hn : n = s.tables.length) (hr : H[id]? = some (some ⟨7, cap, es, kd⟩)) (hm : m = l.length) (he : ∀ i j, i < m → j < 7 → es i j = elE Entry.cs l i j) :
    Wk (.sl 2 n fun i j => shrC (k + 2) H (upd (elE Table.csO s.tables) w 1 [.row id m] i j)) (slL 2 Table.cs (s.setE w l).tables) := by
  have h0 := shr_tblU (k := k) (n := n) (w := w) (m := m) (id := id) (cap := cap) (kd := kd) (H := H) (l := (s.setE w l).tables) (es := es) (by rw [hn, setE_len]) hr (by rw [setE_at hw, if_pos rfl]; exact hm) (fun i j hi hj => by rw [setE_at hw, if_pos rfl]; exact he i j hi hj)
  have e : (fun i j => shrC (k + 2) H (upd (elE Table.csO (s.setE w l).tables) w 1 [.row id m] i j)) = fun i j => shrC (k + 2) H (if j < 2 then upd (elE Table.csO s.tables) w 1 [.row id m] i j else upd (elE Table.csO (s.setE w l).tables) w 1 [.row id m] i j) := by
    funext i j
    congr 1
    split
    · rename_i hj
      rw [upd_one, upd_one]
      split
      · rfl
      · rename_i hne
        unfold elE
        rw [setE_at hw]
        split
        · rename_i e
          subst e
          rcases (show j = 0 ∨ j = 1 by omega) with rfl | rfl
          · rfl
          · exact absurd ⟨rfl, rfl⟩ hne
        · rfl
    · rfl
  rw [e] at h0
  have h1 : Wk (.sl 2 n fun i j => shrC (k + 2) H (upd (elE Table.csO s.tables) w 1 [.row id m] i j)) (.sl 2 n fun i j => shrC (k + 2) H (if j < 2 then upd (elE Table.csO s.tables) w 1 [.row id m] i j else upd (elE Table.csO (s.setE w l).tables) w 1 [.row id m] i j)) := Wk.sl fun i j hi hj => by
    rw [if_pos hj]
    exact .refl _
  exact wk_tr h1 h0
end Go.Proofs.Ytfjciadhanfhpaa

namespace Go.Proofs.Ytfjciadhanfhpaa
open Go Go.RowKit
set_option linter.unusedVariables false
set_option linter.unusedSimpArgs false

theorem upto_q {q : Entry → Bool} {l : List Entry} {k : Nat} (h : ∀ j, j < k → q (l.getD j default) = false) (h2 : q (l.getD k default) = false) : ∀ j, j < k + 1 → q (l.getD j default) = false := fun j hj => by
  rcases Nat.lt_or_eq_of_le (Nat.le_of_lt_succ hj) with r | rfl
  · exact h j r
  · exact h2
theorem keepQ {q : List Entry → Entry → Bool} {l : List Entry} {j : Nat} {b : Bool} (h : q (dM q l j) ((dM q l j).getD ((j : Nat) : Int).toNat default) = b) : q (dM q l j) (l.getD j default) = b := by
  rw [Int.toNat_natCast, dM_at dK_le.1] at h
  exact h
theorem ren_L {σ : Nat → Nat} {n : Nat} {l : List Entry} (hn : l.length = n) : RowRen σ (rowL 7 Entry.cs l) ⟨7, n, elE Entry.cs l, .arr⟩ := by
  subst hn
  exact ren_pl (rowPl_L fun _ => rfl)
theorem back_L {σ : Nat → Nat} {m n : Nat} {l : List Entry} (hn : l.length = n) : RowBack σ m (rowL 7 Entry.cs l) ⟨7, n, elE Entry.cs l, .arr⟩ := by
  subst hn
  exact .self (rowPl_L fun _ => rfl)
theorem dK_all {q : List Entry → Entry → Bool} {l : List Entry} {k : Nat} (hk : k = l.length) : dK q l k = dK q l l.length := by rw [hk]

set_option maxRecDepth 8000 in
set_option maxHeartbeats 8000000 in
theorem indexR1_ok (l : List Entry) (hl : l.length ≤ 1048576) (g : Nat) (w c : Int) (q : List Entry → Entry → Bool) (hC : ∀ l' : List Entry, l'.length = l.length → ∀ e : Entry, RetM env.P 89 [some (rowL 7 Entry.cs l'), some (boxRow [.fn g [.ptr 3 0 0]]), some (boxRow [.i .i64 w]), some (boxRow [.i .i64 c])] [.agg e.cs, .ptr 1 0 0, .ptr 2 0 0] (fun r H => r = .b (q l' e) ∧ H = [some (rowL 7 Entry.cs l'), some (boxRow [.fn g [.ptr 3 0 0]]), some (boxRow [.i .i64 w]), some (boxRow [.i .i64 c])])) : RetM env.P 97 [some (rowL 7 Entry.cs l), some (boxRow [.fn g [.ptr 3 0 0]]), some (boxRow [.i .i64 w]), some (boxRow [.i .i64 c])] [.row 0 l.length, .fn 89 [.ptr 1 0 0, .ptr 2 0 0]] (fun r H => r = .i .i64 (idxI (l.findIdx? (q l))) ∧ H = [some (rowL 7 Entry.cs l), some (boxRow [.fn g [.ptr 3 0 0]]), some (boxRow [.i .i64 w]), some (boxRow [.i .i64 c])]) := by
  refine ret_ofM (nt := 19) (rvs := [.tmp 4]) Try.func97 rfl rfl rfl rfl (fun X hX => ?_)
  repeat' (first | exact aa | ((conv => whnf) <;> (first | refine loopN l.length (fun k => [(8, .i .i64 k)]) (fun k => []) (fun k => ∀ j, j < k → q l (l.getD j default) = false) ⟨fun _ h => by omega, ?_⟩ | (refine .inr (.inl (.inl ⟨[0, 1, 2, 3], _, _, _, hC l rfl _, (view_of rfl (.cons rfl (.self (rowPl_L fun _ => rfl)) (.cons rfl (back_box rfl rfl rfl) (.cons rfl (.self (rowPl_box rfl)) (.cons rfl (.self (rowPl_box rfl)) .nil))))), ⟨rfl, rfl⟩, ?_⟩)); rintro _ _ ⟨rfl, rfl⟩; refine ⟨rfl, _, (lok_c (ren_pl (rowPl_L fun _ => rfl)) (lok_c (ren_box rfl rfl) (lok_c (ren_pl (rowPl_box rfl)) (lok_c (ren_pl (rowPl_box rfl)) lok_nil)))), ?_⟩) | exact low_cells rfl | (show fx [] 4 (upd (elE Table.csO S.tables) i 1 [.row 0 _] _ _) = true; exact fx_T (show 0 < 4 by decide)) | exact upto_q (by assumption) (by assumption) | refine And.intro ?_ ?_ | (intro _h; first | contradiction | (try simp only [dd] at _h)) | (refine dt_go ?_) | exact rfl | exact True.intro | exact dkk | exact dks | (refine wrap_succ ?_; omega))))
  all_goals (conv => whnf)
  · exact endM_pick [0, 1, 2, 3] [some (rowL 7 Entry.cs l), some (boxRow [.fn g [.ptr 3 0 0]]), some (boxRow [.i .i64 w]), some (boxRow [.i .i64 c])] (.i .i64 (idxI (l.findIdx? (q l)))) (view_of rfl (.cons rfl (.self (rowPl_L fun _ => rfl)) (.cons rfl (back_box rfl rfl rfl) (.cons rfl (.self (rowPl_box rfl)) (.cons rfl (.self (rowPl_box rfl)) .nil))))) (leaf_i (idx_some (by omega) (by assumption) (by assumption))) rfl (by rw [hX]; exact keepK (n := 4) rfl rfl) ⟨rfl, rfl⟩
  · exact endM_pick [0, 1, 2, 3] [some (rowL 7 Entry.cs l), some (boxRow [.fn g [.ptr 3 0 0]]), some (boxRow [.i .i64 w]), some (boxRow [.i .i64 c])] (.i .i64 (idxI (l.findIdx? (q l)))) (view_of rfl (.cons rfl (.self (rowPl_L fun _ => rfl)) (.cons rfl (back_box rfl rfl rfl) (.cons rfl (.self (rowPl_box rfl)) (.cons rfl (.self (rowPl_box rfl)) .nil))))) (leaf_i (idx_none fun j hj => by have := ‹∀ j, j < _ → q l (l.getD j default) = false›; exact this j (by omega))) rfl (by rw [hX]; exact keepK (n := 4) rfl rfl) ⟨rfl, rfl⟩

set_option maxRecDepth 8000 in
set_option maxHeartbeats 8000000 in
theorem delR1_none (l : List Entry) (hl : l.length ≤ 1048576) (g : Nat) (w c : Int) (q : List Entry → Entry → Bool) (hC : ∀ l' : List Entry, l'.length = l.length → ∀ e : Entry, RetM env.P 89 [some (rowL 7 Entry.cs l'), some (boxRow [.fn g [.ptr 3 0 0]]), some (boxRow [.i .i64 w]), some (boxRow [.i .i64 c])] [.agg e.cs, .ptr 1 0 0, .ptr 2 0 0] (fun r H => r = .b (q l' e) ∧ H = [some (rowL 7 Entry.cs l'), some (boxRow [.fn g [.ptr 3 0 0]]), some (boxRow [.i .i64 w]), some (boxRow [.i .i64 c])])) (hu : uniq l) (hq : l.findIdx? (q l) = none) (h1 : ∀ j, j < l.length → q l (l.getD j default) = false) : RetM env.P 88 [some (rowL 7 Entry.cs l), some (boxRow [.fn g [.ptr 3 0 0]]), some (boxRow [.i .i64 w]), some (boxRow [.i .i64 c])] [.row 0 l.length, .fn 89 [.ptr 1 0 0, .ptr 2 0 0]] (fun r H => r = .row 0 (dK q l l.length).length ∧ H = [some ⟨7, l.length, cutC (dK q l l.length), .arr⟩, some (boxRow [.fn g [.ptr 3 0 0]]), some (boxRow [.i .i64 w]), some (boxRow [.i .i64 c])]) := by
  have hD := (run_nil (q := q) (Nat.le_refl l.length) h1).2.1
  rw [List.take_length] at hD
  refine ret_ofM (nt := 42) (rvs := [.tmp 4]) Try.func88 rfl rfl rfl rfl (fun X hX => ?_)
  repeat' (first | exact aa | ((conv => whnf) <;> (first | (refine .inr (.inl (.inl ⟨[0, 1, 2, 3], _, _, _, indexR1_ok l hl g w c q hC, (view_of rfl (.cons rfl (.self (rowPl_L fun _ => rfl)) (.cons rfl (back_box rfl rfl rfl) (.cons rfl (.self (rowPl_box rfl)) (.cons rfl (.self (rowPl_box rfl)) .nil))))), ⟨rfl, rfl⟩, ?_⟩)); rintro _ _ ⟨rfl, rfl⟩; refine ⟨rfl, _, (lok_c (ren_pl (rowPl_L fun _ => rfl)) (lok_c (ren_box rfl rfl) (lok_c (ren_pl (rowPl_box rfl)) (lok_c (ren_pl (rowPl_box rfl)) lok_nil)))), ?_⟩; rw [hq]; simp only [idxI]) | exact low_cells rfl | (show fx [] 4 (upd (elE Table.csO S.tables) i 1 [.row 0 _] _ _) = true; exact fx_T (show 0 < 4 by decide)) | refine And.intro ?_ ?_ | (intro _h; first | contradiction | (try simp only [dd] at _h)) | (refine dt_go ?_) | exact rfl | exact True.intro | exact dkk | exact dks | (refine wrap_succ ?_; omega))))
  all_goals (conv => whnf)
  refine endM_turn (turn_same (id := 0) (x := ⟨7, l.length, cutC (dK q l l.length), .arr⟩) rfl rfl rfl rfl rfl (fun i j hi hj => ?_)) ?_
  · rw [hD]
    exact cutC_in hi
  exact endM_pick [0, 1, 2, 3] [some ⟨7, l.length, cutC (dK q l l.length), .arr⟩, some (boxRow [.fn g [.ptr 3 0 0]]), some (boxRow [.i .i64 w]), some (boxRow [.i .i64 c])] (.row 0 (dK q l l.length).length) (view_of rfl (.cons rfl (.self cutC_row) (.cons rfl (back_box rfl rfl rfl) (.cons rfl (.self (rowPl_box rfl)) (.cons rfl (.self (rowPl_box rfl)) .nil))))) (by rw [hD]; rfl) rfl (by rw [hX]; exact keepK (n := 4) rfl rfl) ⟨rfl, rfl⟩

set_option maxRecDepth 8000 in
set_option maxHeartbeats 8000000 in
theorem delR1_some (l : List Entry) (hl : l.length ≤ 1048576) (g : Nat) (w c : Int) (q : List Entry → Entry → Bool) (hC : ∀ l' : List Entry, l'.length = l.length → ∀ e : Entry, RetM env.P 89 [some (rowL 7 Entry.cs l'), some (boxRow [.fn g [.ptr 3 0 0]]), some (boxRow [.i .i64 w]), some (boxRow [.i .i64 c])] [.agg e.cs, .ptr 1 0 0, .ptr 2 0 0] (fun r H => r = .b (q l' e) ∧ H = [some (rowL 7 Entry.cs l'), some (boxRow [.fn g [.ptr 3 0 0]]), some (boxRow [.i .i64 w]), some (boxRow [.i .i64 c])])) (hu : uniq l) (q0 : Nat) (hq : l.findIdx? (q l) = some q0) (hlt : q0 < l.length) (h1 : ∀ j, j < q0 → q l (l.getD j default) = false) (h2 : q l (l.getD q0 default) = true) : RetM env.P 88 [some (rowL 7 Entry.cs l), some (boxRow [.fn g [.ptr 3 0 0]]), some (boxRow [.i .i64 w]), some (boxRow [.i .i64 c])] [.row 0 l.length, .fn 89 [.ptr 1 0 0, .ptr 2 0 0]] (fun r H => r = .row 0 (dK q l l.length).length ∧ H = [some ⟨7, l.length, cutC (dK q l l.length), .arr⟩, some (boxRow [.fn g [.ptr 3 0 0]]), some (boxRow [.i .i64 w]), some (boxRow [.i .i64 c])]) := by
  have hS := run_start hu hlt h1 h2
  refine ret_ofM (nt := 42) (rvs := [.tmp 4]) Try.func88 rfl rfl rfl rfl (fun X hX => ?_)
  repeat' (first | exact aa | ((conv => whnf) <;> (first | (refine .inr (.inl (.inl ⟨[0, 1, 2, 3], _, _, _, indexR1_ok l hl g w c q hC, (view_of rfl (.cons rfl (.self (rowPl_L fun _ => rfl)) (.cons rfl (back_box rfl rfl rfl) (.cons rfl (.self (rowPl_box rfl)) (.cons rfl (.self (rowPl_box rfl)) .nil))))), ⟨rfl, rfl⟩, ?_⟩)); rintro _ _ ⟨rfl, rfl⟩; refine ⟨rfl, _, (lok_c (ren_pl (rowPl_L fun _ => rfl)) (lok_c (ren_box rfl rfl) (lok_c (ren_pl (rowPl_box rfl)) (lok_c (ren_pl (rowPl_box rfl)) lok_nil)))), ?_⟩; rw [hq]; simp only [idxI]) | (refine .inr (.inl (.inl ⟨[0, 1, 2, 3], _, _, _, hC (dM q l _) dM_len _, (view_of rfl (.cons rfl (back_L dM_len) (.cons rfl (back_box rfl rfl rfl) (.cons rfl (.self (rowPl_box rfl)) (.cons rfl (.self (rowPl_box rfl)) .nil))))), ⟨rfl, rfl⟩, ?_⟩)); rintro _ _ ⟨rfl, rfl⟩; refine ⟨rfl, _, (lok_c (ren_L dM_len) (lok_c (ren_box rfl rfl) (lok_c (ren_pl (rowPl_box rfl)) (lok_c (ren_pl (rowPl_box rfl)) lok_nil)))), ?_⟩) | refine loopN (l.length - (q0 + 1)) (fun k => [(6, .i .i64 ((q0 + 1 + k : Nat) : Int)), (5, .i .i64 ((dK q l (q0 + 1 + k)).length : Nat))]) (fun k => [some (.arr ⟨7, l.length, elE Entry.cs (dM q l (q0 + 1 + k)), .arr⟩)]) (fun k => True) ⟨trivial, ?_⟩ | exact low_cells rfl | (show fx [] 4 (upd (elE Table.csO S.tables) i 1 [.row 0 _] _ _) = true; exact fx_T (show 0 < 4 by decide)) | refine And.intro ?_ ?_ | (intro _h; first | contradiction | (try simp only [dd] at _h)) | (refine dt_go ?_) | exact rfl | exact True.intro | exact dkk | exact dks | (refine wrap_succ ?_; omega))))
  · exact congrArg _ hS.2.symm
  · exact arr_same hS.1 rfl (fun a j => low_cells rfl)
  · rename_i k _ _ _
    have := (dK_le (q := q) (l := l) (j := q0 + 1 + k)).1
    omega
  · rename_i k _ _ hj
    have hj' : q0 + 1 + k < l.length := by omega
    have hn := keepQ _h
    have hle := (dK_le (q := q) (l := l) (j := q0 + 1 + k)).2
    rw [show q0 + 1 + (k + 1) = q0 + 1 + k + 1 from rfl, dK_miss hu hj' hn, List.length_append, List.length_singleton, wrap_in (by omega) (by omega)]
    rfl
  · rename_i k _ _ hj
    have hj' : q0 + 1 + k < l.length := by omega
    have hn := keepQ _h
    have hle := (dK_le (q := q) (l := l) (j := q0 + 1 + k)).1
    conv => whnf
    refine arr_set (k := (dK q l (q0 + 1 + k)).length) (show dM q l (q0 + 1 + (k + 1)) = _ from dM_miss hu (j := q0 + 1 + k) hj' hn) (by rw [dM_len]; omega) rfl (fun a j => low_cells rfl) ?_ ?_
    · intro j hj
      have e0 : (dM q l (q0 + 1 + k)).getD (((q0 + 1 + k : Nat) : Int)).toNat default = l.getD (q0 + 1 + k) default := by rw [Int.toNat_natCast, dM_at hle]
      have hj7 : j < 7 := hj
      rw [← e0]
      rcases (show j = 0 ∨ j = 1 ∨ j = 2 ∨ j = 3 ∨ j = 4 ∨ j = 5 ∨ j = 6 by omega) with rfl | rfl | rfl | rfl | rfl | rfl | rfl
      all_goals (simp only [upd, Nat.beq_refl, Int.toNat_natCast]; rfl)
    · intro a j hne
      simp only [upd, beq_ff hne, Bool.and_false, cond_false, Int.toNat_natCast]
  · rename_i k _ _ hj
    have hj' : q0 + 1 + k < l.length := by omega
    have hh := keepQ (b := true) (eq_true_of_ne_false _h)
    exact congrArg _ (congrArg List.length (dK_hit hu hj' hh).symm)
  · rename_i k _ _ hj
    have hj' : q0 + 1 + k < l.length := by omega
    have hh := keepQ (b := true) (eq_true_of_ne_false _h)
    exact arr_same (dM_hit hu hj' hh) rfl (fun a j => low_cells rfl)
  all_goals first | (exact Int.ofNat_le.2 dK_le.2) | exact Int.le_refl _ | skip
  all_goals (conv => whnf)
  rename_i k _ _
  have hk : dK q l (q0 + 1 + k) = dK q l l.length := dK_all (by omega)
  have hM : dM q l (q0 + 1 + k) = dK q l l.length ++ l.drop (dK q l l.length).length := by rw [dM_eq, hk]
  refine endM_turn (turn_same (id := 0) (x := ⟨7, l.length, cutC (dK q l l.length), .arr⟩) rfl rfl rfl rfl rfl (fun i j hi hj => ?_)) ?_
  · have hi' : i < l.length := hi
    dsimp only
    rw [hk, hM]
    have hle := (dK_le (q := q) (l := l) (j := l.length)).2
    unfold cutC
    by_cases h : i < (dK q l l.length).length
    · rw [if_pos h, segE_out (by omega)]
      unfold elE
      rw [getD_app h]
    · rw [if_neg h, segE_in (by omega) (by omega)]
      rfl
  exact endM_pick [0, 1, 2, 3] [some ⟨7, l.length, cutC (dK q l l.length), .arr⟩, some (boxRow [.fn g [.ptr 3 0 0]]), some (boxRow [.i .i64 w]), some (boxRow [.i .i64 c])] (.row 0 (dK q l l.length).length) (view_of rfl (.cons rfl (.self cutC_row) (.cons rfl (back_box rfl rfl rfl) (.cons rfl (.self (rowPl_box rfl)) (.cons rfl (.self (rowPl_box rfl)) .nil))))) (by rw [hk]; rfl) rfl (by rw [hX]; exact keepK (n := 4) rfl rfl) ⟨rfl, rfl⟩

theorem delR1_ok (l : List Entry) (hl : l.length ≤ 1048576) (g : Nat) (w c : Int) (q : List Entry → Entry → Bool) (hC : ∀ l' : List Entry, l'.length = l.length → ∀ e : Entry, RetM env.P 89 [some (rowL 7 Entry.cs l'), some (boxRow [.fn g [.ptr 3 0 0]]), some (boxRow [.i .i64 w]), some (boxRow [.i .i64 c])] [.agg e.cs, .ptr 1 0 0, .ptr 2 0 0] (fun r H => r = .b (q l' e) ∧ H = [some (rowL 7 Entry.cs l'), some (boxRow [.fn g [.ptr 3 0 0]]), some (boxRow [.i .i64 w]), some (boxRow [.i .i64 c])])) (hu : uniq l) : RetM env.P 88 [some (rowL 7 Entry.cs l), some (boxRow [.fn g [.ptr 3 0 0]]), some (boxRow [.i .i64 w]), some (boxRow [.i .i64 c])] [.row 0 l.length, .fn 89 [.ptr 1 0 0, .ptr 2 0 0]] (fun r H => r = .row 0 (dK q l l.length).length ∧ H = [some ⟨7, l.length, cutC (dK q l l.length), .arr⟩, some (boxRow [.fn g [.ptr 3 0 0]]), some (boxRow [.i .i64 w]), some (boxRow [.i .i64 c])]) := by
  cases hq : l.findIdx? (q l) with
  | none =>
    rw [List.findIdx?_eq_none_iff] at hq
    exact delR1_none l hl g w c q hC hu (by rw [List.findIdx?_eq_none_iff]; exact hq) fun j hj => hq _ (getD_mem hj)
  | some q0 =>
    have hq' := hq
    rw [List.findIdx?_eq_some_iff_getElem] at hq'
    obtain ⟨hlt, h1, h2⟩ := hq'
    refine delR1_some l hl g w c q hC hu q0 hq hlt (fun j hj => ?_) ?_
    · rw [List.getD_eq_getElem?_getD, List.getElem?_eq_getElem (by omega)]
      have := h2 j hj
      simpa using this
    · rw [List.getD_eq_getElem?_getD, List.getElem?_eq_getElem hlt]
      exact h1

set_option maxRecDepth 8000 in
set_option maxHeartbeats 8000000 in
theorem indexR2_ok (l : List Entry) (hl : l.length ≤ 1048576) (S : Shelf) (i : Nat) (w : Int) (q : List Entry → Entry → Bool) (hC : ∀ l' : List Entry, l'.length = l.length → ∀ e : Entry, RetM env.P 89 [some (rowL 7 Entry.cs l'), some (boxRow [.fn 90 [.ptr 3 0 0]]), some (boxRow [.i .i64 w]), some (boxRow [.ptr 4 0 0]), some (boxRow (S.csT 5)), some (S.rowW i 0 l.length)] [.agg e.cs, .ptr 1 0 0, .ptr 2 0 0] (fun r H => r = .b (q l' e) ∧ H = [some (rowL 7 Entry.cs l'), some (boxRow [.fn 90 [.ptr 3 0 0]]), some (boxRow [.i .i64 w]), some (boxRow [.ptr 4 0 0]), some (boxRow (S.csT 5)), some (S.rowW i 0 l.length)])) : RetM env.P 97 [some (rowL 7 Entry.cs l), some (boxRow [.fn 90 [.ptr 3 0 0]]), some (boxRow [.i .i64 w]), some (boxRow [.ptr 4 0 0]), some (boxRow (S.csT 5)), some (S.rowW i 0 l.length)] [.row 0 l.length, .fn 89 [.ptr 1 0 0, .ptr 2 0 0]] (fun r H => r = .i .i64 (idxI (l.findIdx? (q l))) ∧ H = [some (rowL 7 Entry.cs l), some (boxRow [.fn 90 [.ptr 3 0 0]]), some (boxRow [.i .i64 w]), some (boxRow [.ptr 4 0 0]), some (boxRow (S.csT 5)), some (S.rowW i 0 l.length)]) := by
  refine ret_ofM (nt := 19) (rvs := [.tmp 4]) Try.func97 rfl rfl rfl rfl (fun X hX => ?_)
  repeat' (first | exact aa | ((conv => whnf) <;> (first | refine loopN l.length (fun k => [(8, .i .i64 k)]) (fun k => []) (fun k => ∀ j, j < k → q l (l.getD j default) = false) ⟨fun _ h => by omega, ?_⟩ | (refine .inr (.inl (.inl ⟨[0, 1, 2, 3, 4, 5], _, _, _, hC l rfl _, (view_of rfl (.cons rfl (.self (rowPl_L fun _ => rfl)) (.cons rfl (back_box rfl rfl rfl) (.cons rfl (.self (rowPl_box rfl)) (.cons rfl (back_box rfl rfl rfl) (.cons rfl (back_box rfl rfl rfl) (.cons rfl (back_W rfl (by show 0 < 6; decide)) .nil))))))), ⟨rfl, rfl⟩, ?_⟩)); rintro _ _ ⟨rfl, rfl⟩; refine ⟨rfl, _, (lok_c (ren_pl (rowPl_L fun _ => rfl)) (lok_c (ren_box rfl rfl) (lok_c (ren_pl (rowPl_box rfl)) (lok_c (ren_box rfl rfl) (lok_c (ren_box rfl rfl) (lok_c (ren_W' rfl) lok_nil)))))), ?_⟩) | exact low_cells rfl | (show fx [] 6 (upd (elE Table.csO S.tables) i 1 [.row 0 _] _ _) = true; exact fx_T (show 0 < 6 by decide)) | exact upto_q (by assumption) (by assumption) | refine And.intro ?_ ?_ | (intro _h; first | contradiction | (try simp only [dd] at _h)) | (refine dt_go ?_) | exact rfl | exact True.intro | exact dkk | exact dks | (refine wrap_succ ?_; omega))))
  all_goals (conv => whnf)
  · exact endM_pick [0, 1, 2, 3, 4, 5] [some (rowL 7 Entry.cs l), some (boxRow [.fn 90 [.ptr 3 0 0]]), some (boxRow [.i .i64 w]), some (boxRow [.ptr 4 0 0]), some (boxRow (S.csT 5)), some (S.rowW i 0 l.length)] (.i .i64 (idxI (l.findIdx? (q l)))) (view_of rfl (.cons rfl (.self (rowPl_L fun _ => rfl)) (.cons rfl (back_box rfl rfl rfl) (.cons rfl (.self (rowPl_box rfl)) (.cons rfl (back_box rfl rfl rfl) (.cons rfl (back_box rfl rfl rfl) (.cons rfl (back_W rfl (by show 0 < 6; decide)) .nil))))))) (leaf_i (idx_some (by omega) (by assumption) (by assumption))) rfl (by rw [hX]; exact keepK (n := 6) rfl rfl) ⟨rfl, rfl⟩
  · exact endM_pick [0, 1, 2, 3, 4, 5] [some (rowL 7 Entry.cs l), some (boxRow [.fn 90 [.ptr 3 0 0]]), some (boxRow [.i .i64 w]), some (boxRow [.ptr 4 0 0]), some (boxRow (S.csT 5)), some (S.rowW i 0 l.length)] (.i .i64 (idxI (l.findIdx? (q l)))) (view_of rfl (.cons rfl (.self (rowPl_L fun _ => rfl)) (.cons rfl (back_box rfl rfl rfl) (.cons rfl (.self (rowPl_box rfl)) (.cons rfl (back_box rfl rfl rfl) (.cons rfl (back_box rfl rfl rfl) (.cons rfl (back_W rfl (by show 0 < 6; decide)) .nil))))))) (leaf_i (idx_none fun j hj => by have := ‹∀ j, j < _ → q l (l.getD j default) = false›; exact this j (by omega))) rfl (by rw [hX]; exact keepK (n := 6) rfl rfl) ⟨rfl, rfl⟩

set_option maxRecDepth 8000 in
set_option maxHeartbeats 8000000 in
theorem delR2_none (l : List Entry) (hl : l.length ≤ 1048576) (S : Shelf) (i : Nat) (w : Int) (q : List Entry → Entry → Bool) (hC : ∀ l' : List Entry, l'.length = l.length → ∀ e : Entry, RetM env.P 89 [some (rowL 7 Entry.cs l'), some (boxRow [.fn 90 [.ptr 3 0 0]]), some (boxRow [.i .i64 w]), some (boxRow [.ptr 4 0 0]), some (boxRow (S.csT 5)), some (S.rowW i 0 l.length)] [.agg e.cs, .ptr 1 0 0, .ptr 2 0 0] (fun r H => r = .b (q l' e) ∧ H = [some (rowL 7 Entry.cs l'), some (boxRow [.fn 90 [.ptr 3 0 0]]), some (boxRow [.i .i64 w]), some (boxRow [.ptr 4 0 0]), some (boxRow (S.csT 5)), some (S.rowW i 0 l.length)])) (hu : uniq l) (hq : l.findIdx? (q l) = none) (h1 : ∀ j, j < l.length → q l (l.getD j default) = false) : RetM env.P 88 [some (rowL 7 Entry.cs l), some (boxRow [.fn 90 [.ptr 3 0 0]]), some (boxRow [.i .i64 w]), some (boxRow [.ptr 4 0 0]), some (boxRow (S.csT 5)), some (S.rowW i 0 l.length)] [.row 0 l.length, .fn 89 [.ptr 1 0 0, .ptr 2 0 0]] (fun r H => r = .row 0 (dK q l l.length).length ∧ H = [some ⟨7, l.length, cutC (dK q l l.length), .arr⟩, some (boxRow [.fn 90 [.ptr 3 0 0]]), some (boxRow [.i .i64 w]), some (boxRow [.ptr 4 0 0]), some (boxRow (S.csT 5)), some (S.rowW i 0 l.length)]) := by
  have hD := (run_nil (q := q) (Nat.le_refl l.length) h1).2.1
  rw [List.take_length] at hD
  refine ret_ofM (nt := 42) (rvs := [.tmp 4]) Try.func88 rfl rfl rfl rfl (fun X hX => ?_)
  repeat' (first | exact aa | ((conv => whnf) <;> (first | (refine .inr (.inl (.inl ⟨[0, 1, 2, 3, 4, 5], _, _, _, indexR2_ok l hl S i w q hC, (view_of rfl (.cons rfl (.self (rowPl_L fun _ => rfl)) (.cons rfl (back_box rfl rfl rfl) (.cons rfl (.self (rowPl_box rfl)) (.cons rfl (back_box rfl rfl rfl) (.cons rfl (back_box rfl rfl rfl) (.cons rfl (back_W rfl (by show 0 < 6; decide)) .nil))))))), ⟨rfl, rfl⟩, ?_⟩)); rintro _ _ ⟨rfl, rfl⟩; refine ⟨rfl, _, (lok_c (ren_pl (rowPl_L fun _ => rfl)) (lok_c (ren_box rfl rfl) (lok_c (ren_pl (rowPl_box rfl)) (lok_c (ren_box rfl rfl) (lok_c (ren_box rfl rfl) (lok_c (ren_W' rfl) lok_nil)))))), ?_⟩; rw [hq]; simp only [idxI]) | exact low_cells rfl | (show fx [] 6 (upd (elE Table.csO S.tables) i 1 [.row 0 _] _ _) = true; exact fx_T (show 0 < 6 by decide)) | refine And.intro ?_ ?_ | (intro _h; first | contradiction | (try simp only [dd] at _h)) | (refine dt_go ?_) | exact rfl | exact True.intro | exact dkk | exact dks | (refine wrap_succ ?_; omega))))
  all_goals (conv => whnf)
  refine endM_turn (turn_same (id := 0) (x := ⟨7, l.length, cutC (dK q l l.length), .arr⟩) rfl rfl rfl rfl rfl (fun i j hi hj => ?_)) ?_
  · rw [hD]
    exact cutC_in hi
  exact endM_pick [0, 1, 2, 3, 4, 5] [some ⟨7, l.length, cutC (dK q l l.length), .arr⟩, some (boxRow [.fn 90 [.ptr 3 0 0]]), some (boxRow [.i .i64 w]), some (boxRow [.ptr 4 0 0]), some (boxRow (S.csT 5)), some (S.rowW i 0 l.length)] (.row 0 (dK q l l.length).length) (view_of rfl (.cons rfl (.self cutC_row) (.cons rfl (back_box rfl rfl rfl) (.cons rfl (.self (rowPl_box rfl)) (.cons rfl (back_box rfl rfl rfl) (.cons rfl (back_box rfl rfl rfl) (.cons rfl (back_W rfl (by show 0 < 6; decide)) .nil))))))) (by rw [hD]; rfl) rfl (by rw [hX]; exact keepK (n := 6) rfl rfl) ⟨rfl, rfl⟩

set_option maxRecDepth 8000 in
set_option maxHeartbeats 8000000 in
theorem delR2_some (l : List Entry) (hl : l.length ≤ 1048576) (S : Shelf) (i : Nat) (w : Int) (q : List Entry → Entry → Bool) (hC : ∀ l' : List Entry, l'.length = l.length → ∀ e : Entry, RetM env.P 89 [some (rowL 7 Entry.cs l'), some (boxRow [.fn 90 [.ptr 3 0 0]]), some (boxRow [.i .i64 w]), some (boxRow [.ptr 4 0 0]), some (boxRow (S.csT 5)), some (S.rowW i 0 l.length)] [.agg e.cs, .ptr 1 0 0, .ptr 2 0 0] (fun r H => r = .b (q l' e) ∧ H = [some (rowL 7 Entry.cs l'), some (boxRow [.fn 90 [.ptr 3 0 0]]), some (boxRow [.i .i64 w]), some (boxRow [.ptr 4 0 0]), some (boxRow (S.csT 5)), some (S.rowW i 0 l.length)])) (hu : uniq l) (q0 : Nat) (hq : l.findIdx? (q l) = some q0) (hlt : q0 < l.length) (h1 : ∀ j, j < q0 → q l (l.getD j default) = false) (h2 : q l (l.getD q0 default) = true) : RetM env.P 88 [some (rowL 7 Entry.cs l), some (boxRow [.fn 90 [.ptr 3 0 0]]), some (boxRow [.i .i64 w]), some (boxRow [.ptr 4 0 0]), some (boxRow (S.csT 5)), some (S.rowW i 0 l.length)] [.row 0 l.length, .fn 89 [.ptr 1 0 0, .ptr 2 0 0]] (fun r H => r = .row 0 (dK q l l.length).length ∧ H = [some ⟨7, l.length, cutC (dK q l l.length), .arr⟩, some (boxRow [.fn 90 [.ptr 3 0 0]]), some (boxRow [.i .i64 w]), some (boxRow [.ptr 4 0 0]), some (boxRow (S.csT 5)), some (S.rowW i 0 l.length)]) := by
  have hS := run_start hu hlt h1 h2
  refine ret_ofM (nt := 42) (rvs := [.tmp 4]) Try.func88 rfl rfl rfl rfl (fun X hX => ?_)
  repeat' (first | exact aa | ((conv => whnf) <;> (first | (refine .inr (.inl (.inl ⟨[0, 1, 2, 3, 4, 5], _, _, _, indexR2_ok l hl S i w q hC, (view_of rfl (.cons rfl (.self (rowPl_L fun _ => rfl)) (.cons rfl (back_box rfl rfl rfl) (.cons rfl (.self (rowPl_box rfl)) (.cons rfl (back_box rfl rfl rfl) (.cons rfl (back_box rfl rfl rfl) (.cons rfl (back_W rfl (by show 0 < 6; decide)) .nil))))))), ⟨rfl, rfl⟩, ?_⟩)); rintro _ _ ⟨rfl, rfl⟩; refine ⟨rfl, _, (lok_c (ren_pl (rowPl_L fun _ => rfl)) (lok_c (ren_box rfl rfl) (lok_c (ren_pl (rowPl_box rfl)) (lok_c (ren_box rfl rfl) (lok_c (ren_box rfl rfl) (lok_c (ren_W' rfl) lok_nil)))))), ?_⟩; rw [hq]; simp only [idxI]) | (refine .inr (.inl (.inl ⟨[0, 1, 2, 3, 4, 5], _, _, _, hC (dM q l _) dM_len _, (view_of rfl (.cons rfl (back_L dM_len) (.cons rfl (back_box rfl rfl rfl) (.cons rfl (.self (rowPl_box rfl)) (.cons rfl (back_box rfl rfl rfl) (.cons rfl (back_box rfl rfl rfl) (.cons rfl (back_W rfl (by show 0 < 6; decide)) .nil))))))), ⟨rfl, rfl⟩, ?_⟩)); rintro _ _ ⟨rfl, rfl⟩; refine ⟨rfl, _, (lok_c (ren_L dM_len) (lok_c (ren_box rfl rfl) (lok_c (ren_pl (rowPl_box rfl)) (lok_c (ren_box rfl rfl) (lok_c (ren_box rfl rfl) (lok_c (ren_W' rfl) lok_nil)))))), ?_⟩) | refine loopN (l.length - (q0 + 1)) (fun k => [(6, .i .i64 ((q0 + 1 + k : Nat) : Int)), (5, .i .i64 ((dK q l (q0 + 1 + k)).length : Nat))]) (fun k => [some (.arr ⟨7, l.length, elE Entry.cs (dM q l (q0 + 1 + k)), .arr⟩)]) (fun k => True) ⟨trivial, ?_⟩ | exact low_cells rfl | (show fx [] 6 (upd (elE Table.csO S.tables) i 1 [.row 0 _] _ _) = true; exact fx_T (show 0 < 6 by decide)) | refine And.intro ?_ ?_ | (intro _h; first | contradiction | (try simp only [dd] at _h)) | (refine dt_go ?_) | exact rfl | exact True.intro | exact dkk | exact dks | (refine wrap_succ ?_; omega))))
  · exact congrArg _ hS.2.symm
  · exact arr_same hS.1 rfl (fun a j => low_cells rfl)
  · rename_i k _ _ _
    have := (dK_le (q := q) (l := l) (j := q0 + 1 + k)).1
    omega
  · rename_i k _ _ hj
    have hj' : q0 + 1 + k < l.length := by omega
    have hn := keepQ _h
    have hle := (dK_le (q := q) (l := l) (j := q0 + 1 + k)).2
    rw [show q0 + 1 + (k + 1) = q0 + 1 + k + 1 from rfl, dK_miss hu hj' hn, List.length_append, List.length_singleton, wrap_in (by omega) (by omega)]
    rfl
  · rename_i k _ _ hj
    have hj' : q0 + 1 + k < l.length := by omega
    have hn := keepQ _h
    have hle := (dK_le (q := q) (l := l) (j := q0 + 1 + k)).1
    conv => whnf
    refine arr_set (k := (dK q l (q0 + 1 + k)).length) (show dM q l (q0 + 1 + (k + 1)) = _ from dM_miss hu (j := q0 + 1 + k) hj' hn) (by rw [dM_len]; omega) rfl (fun a j => low_cells rfl) ?_ ?_
    · intro j hj
      have e0 : (dM q l (q0 + 1 + k)).getD (((q0 + 1 + k : Nat) : Int)).toNat default = l.getD (q0 + 1 + k) default := by rw [Int.toNat_natCast, dM_at hle]
      have hj7 : j < 7 := hj
      rw [← e0]
      rcases (show j = 0 ∨ j = 1 ∨ j = 2 ∨ j = 3 ∨ j = 4 ∨ j = 5 ∨ j = 6 by omega) with rfl | rfl | rfl | rfl | rfl | rfl | rfl
      all_goals (simp only [upd, Nat.beq_refl, Int.toNat_natCast]; rfl)
    · intro a j hne
      simp only [upd, beq_ff hne, Bool.and_false, cond_false, Int.toNat_natCast]
  · rename_i k _ _ hj
    have hj' : q0 + 1 + k < l.length := by omega
    have hh := keepQ (b := true) (eq_true_of_ne_false _h)
    exact congrArg _ (congrArg List.length (dK_hit hu hj' hh).symm)
  · rename_i k _ _ hj
    have hj' : q0 + 1 + k < l.length := by omega
    have hh := keepQ (b := true) (eq_true_of_ne_false _h)
    exact arr_same (dM_hit hu hj' hh) rfl (fun a j => low_cells rfl)
  all_goals first | (exact Int.ofNat_le.2 dK_le.2) | exact Int.le_refl _ | skip
  all_goals (conv => whnf)
  rename_i k _ _
  have hk : dK q l (q0 + 1 + k) = dK q l l.length := dK_all (by omega)
  have hM : dM q l (q0 + 1 + k) = dK q l l.length ++ l.drop (dK q l l.length).length := by rw [dM_eq, hk]
  refine endM_turn (turn_same (id := 0) (x := ⟨7, l.length, cutC (dK q l l.length), .arr⟩) rfl rfl rfl rfl rfl (fun i j hi hj => ?_)) ?_
  · have hi' : i < l.length := hi
    dsimp only
    rw [hk, hM]
    have hle := (dK_le (q := q) (l := l) (j := l.length)).2
    unfold cutC
    by_cases h : i < (dK q l l.length).length
    · rw [if_pos h, segE_out (by omega)]
      unfold elE
      rw [getD_app h]
    · rw [if_neg h, segE_in (by omega) (by omega)]
      rfl
  exact endM_pick [0, 1, 2, 3, 4, 5] [some ⟨7, l.length, cutC (dK q l l.length), .arr⟩, some (boxRow [.fn 90 [.ptr 3 0 0]]), some (boxRow [.i .i64 w]), some (boxRow [.ptr 4 0 0]), some (boxRow (S.csT 5)), some (S.rowW i 0 l.length)] (.row 0 (dK q l l.length).length) (view_of rfl (.cons rfl (.self cutC_row) (.cons rfl (back_box rfl rfl rfl) (.cons rfl (.self (rowPl_box rfl)) (.cons rfl (back_box rfl rfl rfl) (.cons rfl (back_box rfl rfl rfl) (.cons rfl (back_W rfl (by show 0 < 6; decide)) .nil))))))) (by rw [hk]; rfl) rfl (by rw [hX]; exact keepK (n := 6) rfl rfl) ⟨rfl, rfl⟩

theorem delR2_ok (l : List Entry) (hl : l.length ≤ 1048576) (S : Shelf) (i : Nat) (w : Int) (q : List Entry → Entry → Bool) (hC : ∀ l' : List Entry, l'.length = l.length → ∀ e : Entry, RetM env.P 89 [some (rowL 7 Entry.cs l'), some (boxRow [.fn 90 [.ptr 3 0 0]]), some (boxRow [.i .i64 w]), some (boxRow [.ptr 4 0 0]), some (boxRow (S.csT 5)), some (S.rowW i 0 l.length)] [.agg e.cs, .ptr 1 0 0, .ptr 2 0 0] (fun r H => r = .b (q l' e) ∧ H = [some (rowL 7 Entry.cs l'), some (boxRow [.fn 90 [.ptr 3 0 0]]), some (boxRow [.i .i64 w]), some (boxRow [.ptr 4 0 0]), some (boxRow (S.csT 5)), some (S.rowW i 0 l.length)])) (hu : uniq l) : RetM env.P 88 [some (rowL 7 Entry.cs l), some (boxRow [.fn 90 [.ptr 3 0 0]]), some (boxRow [.i .i64 w]), some (boxRow [.ptr 4 0 0]), some (boxRow (S.csT 5)), some (S.rowW i 0 l.length)] [.row 0 l.length, .fn 89 [.ptr 1 0 0, .ptr 2 0 0]] (fun r H => r = .row 0 (dK q l l.length).length ∧ H = [some ⟨7, l.length, cutC (dK q l l.length), .arr⟩, some (boxRow [.fn 90 [.ptr 3 0 0]]), some (boxRow [.i .i64 w]), some (boxRow [.ptr 4 0 0]), some (boxRow (S.csT 5)), some (S.rowW i 0 l.length)]) := by
  cases hq : l.findIdx? (q l) with
  | none =>
    rw [List.findIdx?_eq_none_iff] at hq
    exact delR2_none l hl S i w q hC hu (by rw [List.findIdx?_eq_none_iff]; exact hq) fun j hj => hq _ (getD_mem hj)
  | some q0 =>
    have hq' := hq
    rw [List.findIdx?_eq_some_iff_getElem] at hq'
    obtain ⟨hlt, h1, h2⟩ := hq'
    refine delR2_some l hl S i w q hC hu q0 hq hlt (fun j hj => ?_) ?_
    · rw [List.getD_eq_getElem?_getD, List.getElem?_eq_getElem (by omega)]
      have := h2 j hj
      simpa using this
    · rw [List.getD_eq_getElem?_getD, List.getElem?_eq_getElem hlt]
      exact h1

end Go.Proofs.Ytfjciadhanfhpaa

namespace Go.Proofs.Ytfjciadhanfhpaa
open Go Go.RowKit
set_option linter.unusedVariables false
set_option linter.unusedSimpArgs false

set_option maxRecDepth 8000 in
theorem removeAll2_ok (s : Shelf) (h : s.ok) (w : Int) (e : Entry) : Ret env.P 90 [.i .i64 w, .agg e.cs, rfL [rfL s.cs]] (fun r => r = .b (!e.own && (s.orig e).isNone)) := by
  refine ret_of (nt := 15) (rvs := [.tmp 5]) Try.func90 rfl rfl rfl rfl (fun X => ?_)
  repeat' (first | exact aa | ((conv => whnf) <;> (first | (refine .inl ⟨_, origin_ok s h e, ?_⟩; rintro _ rfl; cases hE : s.orig e <;> simp only [entP]) | refine And.intro ?_ ?_ | (intro _h; first | contradiction | (try simp only [dd] at _h)) | (refine dt_go ?_) | exact rfl | exact True.intro | exact dkk | exact dks | (refine wrap_succ ?_; omega))))
  all_goals (conv => whnf)
  all_goals first | (refine leaf_t ?_; simp_all) | (refine leaf_f ?_; simp_all) | (refine leaf_b ?_; simp_all)

set_option maxRecDepth 8000 in
theorem endScope1_ok (w : Int) (e : Entry) (sc : Int) : Ret env.P 71 [.i .i64 w, .agg e.cs, rfL [.i .i64 sc]] (fun r => r = .b (!scK sc 0 e)) := by
  refine ret_of (nt := 15) (rvs := [.tmp 5]) Try.func71 rfl rfl rfl rfl (fun X => ?_)
  repeat' (first | exact aa | ((conv => whnf) <;> (first | refine And.intro ?_ ?_ | (intro _h; first | contradiction | (try simp only [dd] at _h)) | (refine dt_go ?_) | exact rfl | exact True.intro | exact dkk | exact dks | (refine wrap_succ ?_; omega))))
  all_goals (conv => whnf)
  all_goals first | (refine leaf_t ?_; simp_all [scK]) | (refine leaf_f ?_; simp_all [scK]) | (refine leaf_b ?_; simp_all [scK])

set_option maxRecDepth 8000 in
set_option maxHeartbeats 8000000 in
theorem removeAll1_1 (l : List Entry) (g : Nat) (w c : Int) {fv} (hg : env.F.get g = some fv) (p : Int → Entry → Bool) (hp : ∀ w e, Ret env.P g [.i .i64 w, .agg e.cs, rfL [.i .i64 c]] (fun r => r = .b (p w e))) (e : Entry) : RetM env.P 89 [some (rowL 7 Entry.cs l), some (boxRow [.fn g [.ptr 3 0 0]]), some (boxRow [.i .i64 w]), some (boxRow [.i .i64 c])] [.agg e.cs, .ptr 1 0 0, .ptr 2 0 0] (fun r H => r = .b (p w e) ∧ H = [some (rowL 7 Entry.cs l), some (boxRow [.fn g [.ptr 3 0 0]]), some (boxRow [.i .i64 w]), some (boxRow [.i .i64 c])]) := by
  refine ret_ofM (nt := 9) (rvs := [.tmp 4]) Try.func89 rfl rfl rfl rfl (fun X hX => ?_)
  repeat' (first | exact aa | ((conv => whnf) <;> (first | rw [hg] | ((first | refine .inl ⟨_, Ret.wke (hp w e), ?_⟩ | refine ⟨_, Ret.wke (hp w e), ?_⟩); (try rintro _ rfl)) | refine And.intro ?_ ?_ | (intro _h; first | contradiction | (try simp only [dd] at _h)) | (refine dt_go ?_) | exact rfl | exact True.intro | exact dkk | exact dks | (refine wrap_succ ?_; omega))))
  all_goals (conv => whnf)
  all_goals exact endM_pick [0, 1, 2, 3] [some (rowL 7 Entry.cs l), some (boxRow [.fn g [.ptr 3 0 0]]), some (boxRow [.i .i64 w]), some (boxRow [.i .i64 c])] (.b (p w e)) (view_of rfl (.cons rfl (.self (rowPl_L fun _ => rfl)) (.cons rfl (back_box rfl rfl rfl) (.cons rfl (.self (rowPl_box rfl)) (.cons rfl (.self (rowPl_box rfl)) .nil))))) rfl rfl (by rw [hX]; exact keepK (n := 4) rfl rfl) ⟨rfl, rfl⟩

set_option maxRecDepth 8000 in
set_option maxHeartbeats 8000000 in
theorem removeAll1_2 (l : List Entry) (S : Shelf) (i : Nat) (w : Int) (h : S.ok) (hl : l.length ≤ 1048576) (hw : i < S.tables.length) (e : Entry) : RetM env.P 89 [some (rowL 7 Entry.cs l), some (boxRow [.fn 90 [.ptr 3 0 0]]), some (boxRow [.i .i64 w]), some (boxRow [.ptr 4 0 0]), some (boxRow (S.csT 5)), some (S.rowW i 0 l.length)] [.agg e.cs, .ptr 1 0 0, .ptr 2 0 0] (fun r H => r = .b (!e.own && ((S.setE i l).orig e).isNone) ∧ H = [some (rowL 7 Entry.cs l), some (boxRow [.fn 90 [.ptr 3 0 0]]), some (boxRow [.i .i64 w]), some (boxRow [.ptr 4 0 0]), some (boxRow (S.csT 5)), some (S.rowW i 0 l.length)]) := by
  refine ret_ofM (nt := 9) (rvs := [.tmp 4]) Try.func89 rfl rfl rfl rfl (fun X hX => ?_)
  repeat' (first | exact aa | ((conv => whnf) <;> (first | ((first | refine .inl ⟨_, Ret.wk (by ((repeat (first | exact WkL.nil | refine WkL.cons ?_ ?_ | exact Wk.refl _ | exact Wk.rfc rfl | refine Wk.fn ?_ | exact Wk.nilS0 | exact shr_L (d := 0) (k := 4) rfl | exact shr_L (d := 1) (k := 3) rfl | exact shr_L (d := 2) (k := 2) rfl | exact shr_L (d := 0) (k := 4) (by simp only [markL_len]) | exact shr_L (d := 1) (k := 3) (by simp only [markL_len]) | refine Wk.agg ?_ | exact shr_L (d := 0) (k := 3) rfl | exact shr_L (d := 1) (k := 2) rfl | exact shr_tblV (k := 0) hw rfl rfl rfl (fun _ _ _ _ => rfl) | exact shr_tblV (k := 1) hw rfl rfl rfl (fun _ _ _ _ => rfl) | exact shr_ow (d := 0) (k := 2) | exact shr_ow (d := 1) (k := 2) | exact shr_ow (d := 0) (k := 3) | refine Wk.rfLo ?_)); first | done | fail)) (removeAll2_ok (S.setE i l) (setE_ok h hl) w e), ?_⟩ | refine ⟨_, Ret.wk (by ((repeat (first | exact WkL.nil | refine WkL.cons ?_ ?_ | exact Wk.refl _ | exact Wk.rfc rfl | refine Wk.fn ?_ | exact Wk.nilS0 | exact shr_L (d := 0) (k := 4) rfl | exact shr_L (d := 1) (k := 3) rfl | exact shr_L (d := 2) (k := 2) rfl | exact shr_L (d := 0) (k := 4) (by simp only [markL_len]) | exact shr_L (d := 1) (k := 3) (by simp only [markL_len]) | refine Wk.agg ?_ | exact shr_L (d := 0) (k := 3) rfl | exact shr_L (d := 1) (k := 2) rfl | exact shr_tblV (k := 0) hw rfl rfl rfl (fun _ _ _ _ => rfl) | exact shr_tblV (k := 1) hw rfl rfl rfl (fun _ _ _ _ => rfl) | exact shr_ow (d := 0) (k := 2) | exact shr_ow (d := 1) (k := 2) | exact shr_ow (d := 0) (k := 3) | refine Wk.rfLo ?_)); first | done | fail)) (removeAll2_ok (S.setE i l) (setE_ok h hl) w e), ?_⟩); (try rintro _ rfl)) | refine And.intro ?_ ?_ | (intro _h; first | contradiction | (try simp only [dd] at _h)) | (refine dt_go ?_) | exact rfl | exact True.intro | exact dkk | exact dks | (refine wrap_succ ?_; omega))))
  all_goals (conv => whnf)
  all_goals exact endM_pick [0, 1, 2, 3, 4, 5] [some (rowL 7 Entry.cs l), some (boxRow [.fn 90 [.ptr 3 0 0]]), some (boxRow [.i .i64 w]), some (boxRow [.ptr 4 0 0]), some (boxRow (S.csT 5)), some (S.rowW i 0 l.length)] (.b (!e.own && ((S.setE i l).orig e).isNone)) (view_of rfl (.cons rfl (.self (rowPl_L fun _ => rfl)) (.cons rfl (back_box rfl rfl rfl) (.cons rfl (.self (rowPl_box rfl)) (.cons rfl (back_box rfl rfl rfl) (.cons rfl (back_box rfl rfl rfl) (.cons rfl (back_W rfl (by show 0 < 6; decide)) .nil))))))) rfl rfl (by rw [hX]; exact keepK (n := 6) rfl rfl) ⟨rfl, rfl⟩

end Go.Proofs.Ytfjciadhanfhpaa

namespace Go.Proofs.Ytfjciadhanfhpaa
open Go Go.RowKit
set_option linter.unusedVariables false
set_option linter.unusedSimpArgs false

theorem getD_of {l : List Entry} {k : Nat} {e : Entry} (h : l[k]? = some e) : l.getD k default = e := by rw [List.getD_eq_getElem?_getD, h]; rfl
theorem run_back {q : List Entry → Entry → Bool} {l : List Entry} : ∀ {n j : Nat}, j ≤ n → delRun q l n = [] → delRun q l j = []
  | 0, j, hj, h => by
    obtain rfl : j = 0 := by omega
    exact h
  | n + 1, j, hj, h => by
    rcases Nat.lt_or_eq_of_le hj with q1 | rfl
    · refine run_back (n := n) (by omega) ?_
      rw [delRun] at h
      split at h
      · cases h
      · exact h
    · exact h
theorem dK_end {q : List Entry → Entry → Bool} {l : List Entry} : dK q l l.length = l.filter (notIn (delRun q l l.length)) := by
  unfold dK
  rw [List.take_length]
theorem run_none {q : List Entry → Entry → Bool} {l : List Entry} (h : (dK q l l.length).length = l.length) : delRun q l l.length = [] := by
  rw [dK_end, List.length_filter_eq_length_iff] at h
  cases hR : delRun q l l.length with
  | nil => rfl
  | cons n R =>
    exfalso
    obtain ⟨k, hk, e⟩ := run_sub (q := q) (l := l) (j := l.length) (n := n) (by rw [hR]; simp)
    have := h _ (getD_mem hk)
    unfold notIn at this
    rw [hR, ← e] at this
    simp at this
theorem dK_full {q : List Entry → Entry → Bool} {l : List Entry} (h : (dK q l l.length).length = l.length) : ∀ j, j < l.length → q l (l.getD j default) = false := fun j hj => by
  have hR := run_none h
  have h1 := run_back (j := j + 1) (by omega) hR
  have h0 := run_back (j := j) (by omega) hR
  rw [delRun] at h1
  split at h1
  · cases h1
  · rename_i hn
    rw [h0] at hn
    have hm : inM (notIn []) l j = l := by
      unfold inM
      have e : (l.take j).filter (notIn []) = l.take j := List.filter_eq_self.2 fun _ _ => rfl
      rw [e, List.length_take, show min j l.length = j by omega]
      exact List.take_append_drop _ _
    rw [hm] at hn
    simpa using hn
theorem mem_dM {q : List Entry → Entry → Bool} {l : List Entry} {j k : Nat} (hk : k < l.length) (h : (l.getD k default).num ∉ delRun q l j) : l.getD k default ∈ dM q l j := by
  rw [dM_eq]
  by_cases hj : k < j
  · refine List.mem_append_left _ (List.mem_filter.2 ⟨?_, ?_⟩)
    · have : (l.take j)[k]? = some (l.getD k default) := by
        rw [List.getElem?_take, if_pos hj, List.getD_eq_getElem?_getD, List.getElem?_eq_getElem hk]; rfl
      exact List.mem_of_getElem? this
    · unfold notIn
      rw [Bool.not_eq_true', ← Bool.not_eq_true, List.contains_iff_mem]
      exact h
  · refine List.mem_append_right _ ?_
    have hle := (dK_le (q := q) (l := l) (j := j)).1
    have : (l.drop (dK q l j).length)[k - (dK q l j).length]? = some (l.getD k default) := by
      rw [List.getElem?_drop, show (dK q l j).length + (k - (dK q l j).length) = k by omega, List.getD_eq_getElem?_getD, List.getElem?_eq_getElem hk]; rfl
    exact List.mem_of_getElem? this
/-- What must stay is never deleted. -/
theorem run_stay {q : List Entry → Entry → Bool} {l : List Entry} {P : Entry → Prop} (hu : uniq l) (hq : ∀ j, j < l.length → (∀ k, k < l.length → P (l.getD k default) → l.getD k default ∈ dM q l j) → q (dM q l j) (l.getD j default) = true → ¬ P (l.getD j default)) :
    ∀ {j : Nat}, j ≤ l.length → ∀ k, k < l.length → P (l.getD k default) → (l.getD k default).num ∉ delRun q l j
  | 0, _, k, _, _ => by simp [delRun]
  | j + 1, hj, k, hk, hP => by
    have ih := run_stay hu hq (j := j) (by omega)
    rw [delRun]
    split
    · rename_i hh
      rw [List.mem_cons, not_or]
      refine ⟨fun e => ?_, ih k hk hP⟩
      have := hu k j hk (by omega) e
      subst this
      exact hq k hk (fun k' hk' hP' => mem_dM hk' (ih k' hk' hP')) hh hP
    · exact ih k hk hP

/-- The program's word on an entry that is left: is it to go. -/
def goQ (S : Shelf) (i : Nat) : List Entry → Entry → Bool := fun l e => !e.own && ((S.setE i l).orig e).isNone
/-- The numbers R gone from a table. -/
def cutR (K : Nat → Entry → Bool) (i : Nat) (R : List Int) : Nat → Entry → Bool := fun j e => K j e && (!Nat.beq j i || notIn R e)
theorem keep_cutR {s : Shelf} {K : Nat → Entry → Bool} {i : Nat} {R : List Int} (hi : i < s.tables.length) : (s.keep K).setE i (((s.keep K).tables.getD i default).entries.filter (notIn R)) = s.keep (cutR K i R) := by
  refine shelf_ext rfl rfl (by rw [setE_len, keep_len, keep_len]) fun j hj => ?_
  rw [setE_at (by rw [keep_len]; exact hi), keep_tab, keep_tab]
  split
  · rename_i e
    subst e
    rw [keep_tab]
    dsimp only
    congr 1
    rw [List.filter_filter]
    refine List.filter_congr fun e _ => ?_
    unfold cutR
    rw [Nat.beq_refl, Bool.not_true, Bool.false_or, Bool.and_comm]
  · rename_i e
    rw [keep_tab]
    congr 1
    refine List.filter_congr fun x _ => ?_
    unfold cutR
    rw [beq_ff e, Bool.not_false, Bool.true_or, Bool.and_true]
theorem keep_uniq {s : Shelf} {K : Nat → Entry → Bool} (hu : ∀ i, uniq (s.tables.getD i default).entries) (i : Nat) : uniq ((s.keep K).tables.getD i default).entries := by
  rw [keep_tab]
  have h := hu i
  generalize (s.tables.getD i default).entries = l at h
  induction l with
  | nil => intro a b ha; cases ha
  | cons a l ih =>
    obtain ⟨h1, h2⟩ := uniq_tail h
    have ih := ih h1
    rw [List.filter_cons]
    split
    · intro x y hx hy e
      cases x with
      | zero =>
        cases y with
        | zero => rfl
        | succ y =>
          exfalso
          have hy' : y < (l.filter (K i)).length := by simpa using hy
          have hm : (l.filter (K i)).getD y default ∈ l := (List.mem_filter.1 (getD_mem hy')).1
          exact h2 _ hm (by simpa using e.symm)
      | succ x =>
        cases y with
        | zero =>
          exfalso
          have hx' : x < (l.filter (K i)).length := by simpa using hx
          have hm : (l.filter (K i)).getD x default ∈ l := (List.mem_filter.1 (getD_mem hx')).1
          exact h2 _ hm (by simpa using e)
        | succ y =>
          have := ih x y (by simpa using hx) (by simpa using hy) (by simpa using e)
          omega
    · exact ih
theorem find_some_of {num : Int} {l : List Entry} {x : Entry} (h : x ∈ l) (hx : x.num = num) : ¬ l.find? (numP num) = none := by
  intro q
  rw [List.find?_eq_none] at q
  exact q x h (by simp [numP, hx])
/-- What is live stays. -/
theorem cutR_cut {s : Shelf} {K0 K : Nat → Entry → Bool} (h : s.Cut K0 K) (hu : ∀ i, uniq (s.tables.getD i default).entries) {i : Nat} (hi : i < s.tables.length) : s.Cut K0 (cutR K i (delRun (goQ (s.keep K) i) ((s.keep K).tables.getD i default).entries ((s.keep K).tables.getD i default).entries.length)) := by
  have hul := keep_uniq (K := K) hu i
  have hmem : ∀ x, x ∈ ((s.keep K).tables.getD i default).entries ↔ x ∈ (s.tables.getD i default).entries ∧ K i x = true := fun x => by
    rw [keep_tab]
    exact List.mem_filter
  generalize hl : ((s.keep K).tables.getD i default).entries = l at hul hmem
  have stay := run_stay (q := goQ (s.keep K) i) (l := l) (P := s.Live K0) hul (fun j hj hin hq hP => by
    have hq' : (!(l.getD j default).own && (((s.keep K).setE i (dM (goQ (s.keep K) i) l j)).orig (l.getD j default)).isNone) = true := hq
    rw [Bool.and_eq_true, Bool.not_eq_true', Option.isNone_iff_eq_none] at hq'
    obtain ⟨ho, hn⟩ := hq'
    cases hP with
    | own q => rw [ho] at q; cases q
    | @lent e x ha hk hx =>
      obtain ⟨h1, h2, k, h3, h4⟩ := at_in ha
      have hKx : K (l.getD j default).from_.toNat x = true := by
        have := h.live _ k h1 h3 (by rw [h4]; exact hk) (by rw [h4]; exact hx)
        rwa [h4] at this
      unfold Shelf.orig at hn
      have hT : s.isT (l.getD j default).from_ = true := by
        rw [at_eq] at ha
        split at ha
        · assumption
        · cases ha
      rw [at_eq] at hn
      have hT' : ((s.keep K).setE i (dM (goQ (s.keep K) i) l j)).isT (l.getD j default).from_ = true := by
        unfold Shelf.isT at hT ⊢
        rw [setE_len, keep_len]
        exact hT
      rw [if_pos hT', setE_at (by rw [keep_len]; exact hi)] at hn
      by_cases hf : (l.getD j default).from_.toNat = i
      · rw [if_pos hf] at hn
        have hxm : x ∈ l := (hmem x).2 ⟨by rw [← hf, ← h4]; exact getD_mem h3, by rw [← hf]; exact hKx⟩
        obtain ⟨k', hk'⟩ := List.getElem?_of_mem hxm
        have hkl := (List.getElem?_eq_some_iff.1 hk').1
        have he : l.getD k' default = x := by rw [List.getD_eq_getElem?_getD, hk']; rfl
        have := hin k' hkl (by rw [he]; exact hx)
        rw [he] at this
        exact find_some_of this h2 hn
      · rw [if_neg hf, keep_tab] at hn
        exact find_some_of (List.mem_filter.2 ⟨by rw [← h4]; exact getD_mem h3, hKx⟩) h2 hn) (Nat.le_refl _)
  refine ⟨fun j e q => h.sub j e (by unfold cutR at q; rw [Bool.and_eq_true] at q; exact q.1), fun j k hj hk h0 hL => ?_⟩
  have hK := h.live j k hj hk h0 hL
  unfold cutR
  rw [hK, Bool.true_and]
  cases hb : Nat.beq j i with
  | false => rfl
  | true =>
    have := Nat.eq_of_beq_eq_true hb
    subst this
    rw [Bool.not_true, Bool.false_or]
    generalize he : (s.tables.getD j default).entries.getD k default = e at hL hK h0
    have hm : e ∈ l := (hmem e).2 ⟨by rw [← he]; exact getD_mem hk, hK⟩
    obtain ⟨k', hk'⟩ := List.getElem?_of_mem hm
    have hkl := (List.getElem?_eq_some_iff.1 hk').1
    have he' : l.getD k' default = e := by rw [List.getD_eq_getElem?_getD, hk']; rfl
    have := stay k' hkl (by rw [he']; exact hL)
    rw [he'] at this
    unfold notIn
    rw [Bool.not_eq_true', ← Bool.not_eq_true, List.contains_iff_mem]
    exact this

/-! ### The program's rounds -/
structure LoG (s : Shelf) (K0 : Nat → Entry → Bool) (x : Bool × Bool × (Nat → Entry → Bool)) : Prop where
  fst : x.1 = true → x.2.1 = true ∧ s.keep x.2.2 = s
  rest : x.1 = false → LoA s K0 x.2
def muG (s : Shelf) (x : Bool × Bool × (Nat → Entry → Bool)) : Nat := if x.1 = true then 2 * s.cnt + 3 else muA s x.2
theorem loG_start {s : Shelf} {K0 : Nat → Entry → Bool} : LoG s K0 (true, true, fun _ _ => true) := ⟨fun _ => ⟨rfl, by
  refine shelf_ext rfl rfl keep_len fun i _ => ?_
  rw [keep_tab]
  have : (s.tables.getD i default).entries.filter (fun _ => true) = (s.tables.getD i default).entries := List.filter_eq_self.2 fun _ _ => rfl
  rw [this]⟩, fun h => by cases h⟩
/-- The first round. -/
structure LoF (s : Shelf) (K0 : Nat → Entry → Bool) (y : Nat × Bool) : Prop where
  le : y.1 ≤ s.tables.length
  same : y.2 = false → ∀ j, j < y.1 → (s.tables.getD j default).entries.filter (K0 j) = (s.tables.getD j default).entries
theorem loF_start {s : Shelf} {K0 : Nat → Entry → Bool} : LoF s K0 (0, false) := ⟨Nat.zero_le _, fun _ j hj => absurd hj (Nat.not_lt_zero _)⟩
theorem LoF.next {s : Shelf} {K0 : Nat → Entry → Bool} {y : Nat × Bool} (h : LoF s K0 y) (hi : y.1 < s.tables.length) {b : Bool} (hb : b = false → y.2 = false ∧ ¬ ((s.tables.getD y.1 default).entries.filter (K0 y.1)).length < (s.tables.getD y.1 default).entries.length) : LoF s K0 (y.1 + 1, b) := ⟨hi, fun q j hj => by
  obtain ⟨h1, h2⟩ := hb q
  rcases Nat.lt_or_eq_of_le (Nat.le_of_lt_succ hj) with r | rfl
  · exact h.same h1 j r
  · have hle := List.length_filter_le (K0 y.1) (s.tables.getD y.1 default).entries
    refine List.filter_eq_self.2 ?_
    exact (List.length_filter_eq_length_iff.1 (by omega))⟩
theorem cnt_keep {s : Shelf} {K : Nat → Entry → Bool} : (s.keep K).cnt ≤ s.cnt := by
  unfold Shelf.cnt Shelf.keep
  dsimp only
  have key : ∀ (ts : List Table) (n : Nat), ((ts.mapIdx fun i t => (⟨t.next, t.entries.filter (K (n + i))⟩ : Table)).map fun t => t.entries.length).sum ≤ (ts.map fun t => t.entries.length).sum := by
    intro ts
    induction ts with
    | nil => intro n; exact Nat.le_refl _
    | cons t ts ih =>
      intro n
      rw [List.mapIdx_cons, List.map_cons, List.map_cons, List.sum_cons, List.sum_cons]
      have h1 := List.length_filter_le (K (n + 0)) t.entries
      have h2 := ih (n + 1)
      have e : (fun i (t : Table) => (⟨t.next, t.entries.filter (K (n + 1 + i))⟩ : Table)) = fun i t => ⟨t.next, t.entries.filter (K (n + (i + 1)))⟩ := by
        funext i t
        rw [show n + 1 + i = n + (i + 1) by omega]
      rw [e] at h2
      dsimp only
      omega
  have := key s.tables 0
  simp only [Nat.zero_add] at this
  exact this
theorem LoF.done {s : Shelf} {K0 : Nat → Entry → Bool} {y : Nat × Bool} (hg : s.good) (h : LoF s K0 y) (hn : ¬ y.1 < s.tables.length) {x : Bool × Bool × (Nat → Entry → Bool)} (hx : x.1 = true) : LoG s K0 (false, y.2, K0) ∧ muG s (false, y.2, K0) < muG s x := by
  refine ⟨⟨fun q => (by cases q), fun _ => ⟨.start s K0, fun q i hi => ?_⟩⟩, ?_⟩
  · have hs : s.keep K0 = s := by
      refine shelf_ext rfl rfl keep_len fun j hj => ?_
      rw [keep_len] at hj
      rw [keep_tab, h.same q j (by omega)]
    intro k hk _
    rw [show (y.2, K0).2 = K0 from rfl, hs]
    by_cases ho : ((s.tables.getD i default).entries.getD k default).own = true
    · exact .inl ho
    · right
      obtain ⟨n, hn⟩ := shelf_ends hg i k hi hk
      intro e
      cases n with
      | zero => cases hn
      | succ n => rw [Shelf.sEnds_none (by simpa using ho) e] at hn; cases hn
  · unfold muG muA
    rw [if_pos hx, if_neg (show ¬ (false, y.2, K0).1 = true from fun q => Bool.noConfusion q)]
    have := cnt_keep (s := s) (K := K0)
    dsimp only
    split <;> omega
/-- A further round: one table. -/
def stepK (s : Shelf) (y : Nat × Bool × (Nat → Entry → Bool)) : Nat → Entry → Bool :=
  if (dK (goQ (s.keep y.2.2) y.1) ((s.keep y.2.2).tables.getD y.1 default).entries ((s.keep y.2.2).tables.getD y.1 default).entries.length).length < ((s.keep y.2.2).tables.getD y.1 default).entries.length
  then cutR y.2.2 y.1 (delRun (goQ (s.keep y.2.2) y.1) ((s.keep y.2.2).tables.getD y.1 default).entries ((s.keep y.2.2).tables.getD y.1 default).entries.length) else y.2.2
theorem step_keep {s : Shelf} {y : Nat × Bool × (Nat → Entry → Bool)} (hi : y.1 < s.tables.length) : (s.keep y.2.2).setE y.1 (dK (goQ (s.keep y.2.2) y.1) ((s.keep y.2.2).tables.getD y.1 default).entries ((s.keep y.2.2).tables.getD y.1 default).entries.length) = s.keep (stepK s y) := by
  unfold stepK
  split
  · rw [dK_end]
    exact keep_cutR hi
  · rename_i hn
    have hle := (dK_le (q := goQ (s.keep y.2.2) y.1) (l := ((s.keep y.2.2).tables.getD y.1 default).entries) (j := ((s.keep y.2.2).tables.getD y.1 default).entries.length)).2
    have hR := run_none (q := goQ (s.keep y.2.2) y.1) (l := ((s.keep y.2.2).tables.getD y.1 default).entries) (by omega)
    rw [dK_end, hR]
    have : (((s.keep y.2.2).tables.getD y.1 default).entries).filter (notIn []) = ((s.keep y.2.2).tables.getD y.1 default).entries := List.filter_eq_self.2 fun _ _ => rfl
    rw [this, setE_self]
theorem LoB.step {s : Shelf} {K0 K : Nat → Entry → Bool} {y : Nat × Bool × (Nat → Entry → Bool)} (hu : ∀ i, uniq (s.tables.getD i default).entries) (h : LoB s K0 K y) (hi : y.1 < s.tables.length) {b : Bool}
    (hb : b = false ↔ y.2.1 = false ∧ ¬ (dK (goQ (s.keep y.2.2) y.1) ((s.keep y.2.2).tables.getD y.1 default).entries ((s.keep y.2.2).tables.getD y.1 default).entries.length).length < ((s.keep y.2.2).tables.getD y.1 default).entries.length) : LoB s K0 K (y.1 + 1, b, stepK s y) := by
  have hk := step_keep hi
  by_cases hlt : (dK (goQ (s.keep y.2.2) y.1) ((s.keep y.2.2).tables.getD y.1 default).entries ((s.keep y.2.2).tables.getD y.1 default).entries.length).length < ((s.keep y.2.2).tables.getD y.1 default).entries.length
  · have hcnt : (s.keep (stepK s y)).cnt < (s.keep y.2.2).cnt := by
      rw [← hk]
      exact cnt_setE (by rw [keep_len]; exact hi) hlt
    refine ⟨hi, ?_, fun q => absurd hlt (hb.1 q).2, fun _ => ?_⟩
    · show s.Cut K0 (stepK s y)
      unfold stepK
      rw [if_pos hlt]
      exact cutR_cut h.cut hu hi
    · refine Nat.lt_of_lt_of_le hcnt ?_
      cases hb : y.2.1 with
      | true => exact Nat.le_of_lt (h.less hb)
      | false => rw [← (h.same hb).1]; exact Nat.le_refl _
  · have hst : stepK s y = y.2.2 := by unfold stepK; rw [if_neg hlt]
    rw [hst]
    have hle := (dK_le (q := goQ (s.keep y.2.2) y.1) (l := ((s.keep y.2.2).tables.getD y.1 default).entries) (j := ((s.keep y.2.2).tables.getD y.1 default).entries.length)).2
    have hf := dK_full (q := goQ (s.keep y.2.2) y.1) (l := ((s.keep y.2.2).tables.getD y.1 default).entries) (by omega)
    have hcl : s.closedT y.2.2 y.1 := fun k hk hK => by
      have hm : (s.tables.getD y.1 default).entries.getD k default ∈ ((s.keep y.2.2).tables.getD y.1 default).entries := by
        rw [keep_tab]
        exact List.mem_filter.2 ⟨getD_mem hk, hK⟩
      obtain ⟨k', hk'⟩ := List.getElem?_of_mem hm
      have := hf k' (List.getElem?_eq_some_iff.1 hk').1
      rw [getD_of hk'] at this
      unfold goQ at this
      rw [setE_self] at this
      have h2 : (!((s.tables.getD y.1 default).entries.getD k default).own && ((s.keep y.2.2).orig ((s.tables.getD y.1 default).entries.getD k default)).isNone) = false := this
      cases ho : ((s.tables.getD y.1 default).entries.getD k default).own with
      | true => exact .inl rfl
      | false =>
        right
        intro e
        rw [ho, e] at h2
        cases h2
    have hn := h.next hi hcl
    exact ⟨hn.le, hn.cut, fun q => hn.same (hb.1 q).1, fun q => hn.less (by
      cases hc : y.2.1 with
      | true => rfl
      | false => rw [hb.2 ⟨hc, hlt⟩] at q; cases q)⟩
end Go.Proofs.Ytfjciadhanfhpaa

