/-
  Shelves that are changed: an entry of a table, its table opened; an entry that is asked for.
-/
import Derived.Test.YtaiohiincgpomaaVMkD
namespace Go.Proofs.Ytaiohiincgpomaa
open Go Go.RowKit
set_option linter.unusedVariables false
set_option linter.unusedSimpArgs false

/-- A shelf whose one table has other entries. -/
def Shelf.setE (s : Shelf) (w : Nat) (l : List Entry) : Shelf := ⟨s.next, s.tables.set w ⟨(s.tables.getD w default).next, l⟩, s.things⟩
theorem set_self {α : Type} [Inhabited α] {l : List α} {w : Nat} : l.set w (l.getD w default) = l := by
  apply List.ext_getElem?
  intro k
  rw [List.getElem?_set]
  split
  · rename_i h
    subst h
    split
    · rename_i h
      rw [List.getD_eq_getElem?_getD, List.getElem?_eq_getElem h]; rfl
    · rename_i h
      rw [List.getElem?_eq_none (by omega)]
  · rfl
theorem setE_self {s : Shelf} {w : Nat} : s.setE w (s.tables.getD w default).entries = s := by
  unfold Shelf.setE
  rw [show (⟨(s.tables.getD w default).next, (s.tables.getD w default).entries⟩ : Table) = s.tables.getD w default from rfl, set_self]
theorem setE_len {s : Shelf} {w : Nat} {l : List Entry} : (s.setE w l).tables.length = s.tables.length := List.length_set
theorem setE_at {s : Shelf} {w k : Nat} {l : List Entry} (hw : w < s.tables.length) : (s.setE w l).tables.getD k default = if k = w then ⟨(s.tables.getD w default).next, l⟩ else s.tables.getD k default := getD_set hw
theorem setE_ok {s : Shelf} (h : s.ok) {w : Nat} {l : List Entry} (hl : l.length ≤ 1048576) : (s.setE w l).ok := by
  refine ⟨⟨by rw [setE_len]; exact h.1.1, fun k hk => ?_⟩, h.2⟩
  rw [setE_len] at hk
  by_cases hw : w < s.tables.length
  · rw [setE_at hw]
    split
    · exact ⟨hl, fun _ _ => trivial⟩
    · exact h.1.2 k hk
  · have : (s.setE w l).tables = s.tables := by
      unfold Shelf.setE
      rw [List.set_eq_of_length_le (by omega)]
    rw [this]; exact h.1.2 k hk

/-- The row of tables, one of them opened; a shelf's cells, its tables opened; a shelf with a table opened. -/
def Shelf.rowT (s : Shelf) (w id : Nat) : Row := ⟨2, s.tables.length, upd (elE Table.csO s.tables) w 1 [.row id (s.tables.getD w default).entries.length], .arr⟩
def Shelf.csU (s : Shelf) (id id3 : Nat) : List AV := [.i .i64 s.next, .row id s.tables.length, .row id3 s.things.length]
def Shelf.rowE (s : Shelf) (w : Nat) : Row := rowL 7 Entry.cs (s.tables.getD w default).entries
def Shelf.opened (s : Shelf) (w : Nat) : Hp := [some (boxRow (s.csU 1 3)), some (s.rowT w 2), some (s.rowE w), some (rowL 3 Thing.cs s.things)]

theorem stay_at {cs : List AV} (h : cs.all stay = true) (j : Nat) : stay (cs.getD j .any) = true := by
  rw [List.getD_eq_getElem?_getD]
  cases hj : cs[j]? with
  | none => rfl
  | some c => exact List.all_eq_true.1 h c (List.mem_of_getElem? hj)
theorem csO_pl (s : Shelf) (i j : Nat) : pl1 (elE Table.csO s.tables i j) = true := pl1_getD rfl j
theorem ren_box {σ : Nat → Nat} {cs ds : List AV} (h : cs.map (ren1 σ) = ds) (hf : cs.all flat1 = true) : RowRen σ (boxRow cs) (boxRow ds) := by
  subst h
  refine ⟨by simp [boxRow], rfl, .refl _, fun i j hi hj => ?_⟩
  have hj' : j < cs.length := hj
  have e1 : (boxRow cs).es i j = cs[j] := by
    show cs.getD j .any = _
    rw [List.getD_eq_getElem?_getD, List.getElem?_eq_getElem hj']; rfl
  have e2 : (boxRow (cs.map (ren1 σ))).es i j = ren1 σ cs[j] := by
    show (cs.map (ren1 σ)).getD j .any = _
    rw [List.getD_eq_getElem?_getD, List.getElem?_map, List.getElem?_eq_getElem hj']; rfl
  rw [e1, e2]
  exact ⟨rfl, List.all_eq_true.1 hf _ (List.getElem_mem _)⟩
theorem upd_one {es : Nat → Nat → AV} {w j : Nat} {c : AV} {i k : Nat} : upd es w j [c] i k = if i = w ∧ k = j then c else es i k := by
  by_cases e : i = w ∧ k = j
  · obtain ⟨rfl, rfl⟩ := e
    rw [if_pos ⟨rfl, rfl⟩]
    have := upd_in (es := es) (j := i) (off := k) (cs := [c]) (k := 0) (by simp)
    simpa using this
  · rw [if_neg e, upd_out (by rintro ⟨h1, h2, h3⟩; exact e ⟨h1, by simp at h3; omega⟩)]
theorem ren_T {σ : Nat → Nat} {s : Shelf} {w id : Nat} : RowRen σ (s.rowT w id) (s.rowT w (σ id)) := by
  refine ⟨rfl, rfl, .refl _, fun i j hi hj => ?_⟩
  show upd _ w 1 [.row (σ id) _] i j = ren1 σ (upd _ w 1 [.row id _] i j) ∧ _
  rw [upd_one]
  show _ ∧ flat1 (upd _ w 1 [.row id _] i j) = true
  rw [upd_one]
  split
  · exact ⟨rfl, rfl⟩
  · have := pl1_ren (σ := σ) (csO_pl s i j)
    exact ⟨this.1.symm, this.2⟩
theorem ren_pl {σ : Nat → Nat} {x : Row} (h : RowPl x) : RowRen σ x x := ⟨rfl, rfl, .refl _, fun i j hi hj => ⟨(pl1_ren (h.h i j hi hj)).1.symm, (pl1_ren (σ := σ) (h.h i j hi hj)).2⟩⟩
theorem lok_open {σ : Nat → Nat} {s : Shelf} {w : Nat} : LOk σ (s.opened w) [some (boxRow (s.csU (σ 1) (σ 3))), some (s.rowT w (σ 2)), some (s.rowE w), some (rowL 3 Thing.cs s.things)] := ⟨rfl, fun k hk => by
  match k, hk with
  | 0, _ => exact .inr ⟨_, _, rfl, rfl, ren_box rfl rfl⟩
  | 1, _ => exact .inr ⟨_, _, rfl, rfl, ren_T⟩
  | 2, _ => exact .inr ⟨_, _, rfl, rfl, ren_pl (rowPl_L fun _ => rfl)⟩
  | 3, _ => exact .inr ⟨_, _, rfl, rfl, ren_pl (rowPl_L fun _ => rfl)⟩
  | k + 4, hk => exact absurd hk (by simp [Shelf.opened])⟩
/-- The same rows, looked at from behind. -/
theorem back_ren {σ : Nat → Nat} {m : Nat} {x y : Row} (h : RowRen σ x y) (hk : RKle y.k x.k) (hl : ∀ i j, i < x.cap → j < x.sz → low2 m (x.es i j) = true) : RowBack σ m x y := ⟨h.sz.symm, h.cap.symm, hk, fun i j hi hj => ⟨(h.es i j hi hj).1, hl i j hi hj⟩⟩
theorem low_T {s : Shelf} {w id m : Nat} (h : id < m) : ∀ i j, i < (s.rowT w id).cap → j < (s.rowT w id).sz → low2 m ((s.rowT w id).es i j) = true := fun i j hi hj => by
  show low2 m (upd _ w 1 [.row id _] i j) = true
  rw [upd_one]
  split
  · exact Nat.ble_eq_true_of_le h
  · exact pl1_low2 (csO_pl s i j)
theorem low_U {s : Shelf} {id id3 m : Nat} (h : id < m) (h3 : id3 < m) : ∀ i j, i < (boxRow (s.csU id id3)).cap → j < (boxRow (s.csU id id3)).sz → low2 m ((boxRow (s.csU id id3)).es i j) = true := fun i j hi hj => by
  have hj' : j < 3 := hj
  rcases (show j = 0 ∨ j = 1 ∨ j = 2 by omega) with rfl | rfl | rfl
  · rfl
  · exact Nat.ble_eq_true_of_le h
  · exact Nat.ble_eq_true_of_le h3
theorem view_open {H : Hp} {s : Shelf} {w a b c d : Nat} (hn : nodupB [a, b, c, d] = true) (h0 : H[a]? = some (some (boxRow (s.csU b d)))) (h1 : H[b]? = some (some (s.rowT w c))) (h2 : H[c]? = some (some (s.rowE w))) (h3 : H[d]? = some (some (rowL 3 Thing.cs s.things))) : ViewOk [a, b, c, d] H (s.opened w) :=
  view_of hn (.cons h0 (back_ren (ren_box rfl rfl) (.refl _) (low_U (show 1 < 4 from by decide) (show 3 < 4 from by decide))) (.cons h1 (back_ren ren_T (.refl _) (low_T (show 2 < 4 from by decide))) (.cons h2 (.self (rowPl_L fun _ => rfl)) (.cons h3 (.self (rowPl_L fun _ => rfl)) .nil))))

/-- A frozen shelf, a table opened. -/
theorem shr_tblU {k n w m id cap : Nat} {kd : RK} {H : Hp} {l : List Table} {es : Nat → Nat → AV} (hn : n = l.length) (hr : H[id]? = some (some ⟨7, cap, es, kd⟩)) (hm : m = (l.getD w default).entries.length) (he : ∀ i j, i < m → j < 7 → es i j = elE Entry.cs (l.getD w default).entries i j) :
    Wk (.sl 2 n fun i j => shrC (k + 2) H (upd (elE Table.csO l) w 1 [.row id m] i j)) (slL 2 Table.cs l) := by
  have h0 := shr_L (d := 1) (k := k + 1) (H := H) (sz := 2) (cO := Table.csO) (l := l) hn
  subst hn
  refine Wk.sl fun i j hi hj => ?_
  rw [upd_one]
  split
  · rename_i e
    obtain ⟨rfl, rfl⟩ := e
    show Wk (shrC (k + 2) H (.row id m)) ((Table.cs (l.getD i default)).getD 1 .any)
    have e1 : shrC (k + 2) H (.row id m) = .sl 7 m (fun i j => shrC (k + 1) H (es i j)) := by
      show (match H[id]? with | some (some r) => AV.sl r.sz m (fun i j => shrC (k + 1) H (r.es i j)) | _ => .any) = _
      rw [hr]
    rw [e1]
    subst hm
    refine Wk.sl fun i' j' hi' hj' => ?_
    rw [he i' j' hi' hj']
    have hp : stay (elE Entry.cs (l.getD i default).entries i' j') = true := stay_at rfl j'
    rw [stay_eq hp]
    exact .refl _
  · have := (Shr.h (d := 1) (cO := Table.csO) (c := Table.cs) H (k + 1) (l.getD i default)).getD j
    have e : ((Table.csO (l.getD i default)).map (shrC (k + 1 + 1) H)).getD j .any = shrC (k + 2) H (elE Table.csO l i j) := by
      unfold elE
      generalize Table.csO (l.getD i default) = cs
      rw [List.getD_eq_getElem?_getD, List.getD_eq_getElem?_getD, List.getElem?_map]
      cases cs[j]? with
      | none => exact shr_any.symm
      | some x => rfl
    rw [e] at this
    exact this
end Go.Proofs.Ytaiohiincgpomaa
