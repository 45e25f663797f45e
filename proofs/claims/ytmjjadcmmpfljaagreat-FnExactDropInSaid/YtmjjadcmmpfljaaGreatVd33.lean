/- Texts for VDropInP. -/
import Derived.Test.YtmjjadcmmpfljaaGreatVd32
import Derived.Test.YtmjjadcmmpfljaaGreatVd31
namespace Go.Proofs.YtmjjadcmmpfljaaGreat
open Go Go.RowKit
set_option linter.unusedVariables false
set_option linter.unusedSimpArgs false
def cutX (id : Int) (l : List Thing) : List Thing := l.filter (fun x => !idP id x)
def lastX (id : Int) (l : List Thing) : Thing := l.foldl (fun o x => if x.id = id then x else o) ⟨0, 0, 0⟩
def Shelf.cutT (s : Shelf) (id : Int) : Shelf := ⟨s.next, s.tables, cutX id s.things⟩
theorem cutX_le {id : Int} {l : List Thing} : (cutX id l).length ≤ l.length := List.length_filter_le _ _
theorem cutX_hit {id : Int} {l : List Thing} {k : Nat} (hk : k < l.length) (h : (l.getD k default).id = id) : cutX id (l.take (k + 1)) = cutX id (l.take k) := by
 have hp : (!idP id (l.getD k default)) = false := by simp only [idP, h, decide_true, Bool.not_true]
 rw [take_snoc hk]
 unfold cutX
 rw [List.filter_append]
 simp only [List.filter, hp, List.append_nil]
theorem cutX_miss {id : Int} {l : List Thing} {k : Nat} (hk : k < l.length) (h : ¬ (l.getD k default).id = id) : cutX id (l.take (k + 1)) = cutX id (l.take k) ++ [l.getD k default] := by
 have hp : (!idP id (l.getD k default)) = true := by simp only [idP, h, decide_false, Bool.not_false]
 rw [take_snoc hk]
 unfold cutX
 rw [List.filter_append]
 simp only [List.filter, hp]
theorem cutXT_le {id : Int} {l : List Thing} {i : Nat} : (cutX id (l.take i)).length ≤ l.length := by
 have h1 := cutX_le (id := id) (l := l.take i)
 rw [List.length_take] at h1
 omega
theorem lastX_hit {id : Int} {l : List Thing} {k : Nat} (hk : k < l.length) (h : (l.getD k default).id = id) : lastX id (l.take (k + 1)) = l.getD k default := by
 rw [take_snoc hk]
 unfold lastX
 rw [List.foldl_append]
 simp only [List.foldl_cons, List.foldl_nil, h, if_true]
theorem lastX_miss {id : Int} {l : List Thing} {k : Nat} (hk : k < l.length) (h : ¬ (l.getD k default).id = id) : lastX id (l.take (k + 1)) = lastX id (l.take k) := by
 rw [take_snoc hk]
 unfold lastX
 rw [List.foldl_append]
 simp only [List.foldl_cons, List.foldl_nil, h, if_false]
theorem srcOk_from {α : Type} [Inhabited α] {m sz o : Nat} {c : α → List AV} {l : List α} (h : ∀ a, (c a).all cp1 = true ∧ (c a).length = sz) : SrcOk m sz (fun i j => elE c l (o + i) j) := ⟨fun i j hi hj => (srcOk_E (m := o + m) h).h (o + i) j (by omega) hj⟩
theorem erase_at {l : List Thing} {q i : Nat} : (l.eraseIdx q).getD i default = if i < q then l.getD i default else l.getD (i + 1) default := by
 rw [List.getD_eq_getElem?_getD, List.getElem?_eraseIdx]
 split <;> rw [List.getD_eq_getElem?_getD]
def delX (q : Nat) (l : List Thing) : Nat → Nat → AV := fun i j => if i < l.length - 1 then elE Thing.cs (l.eraseIdx q) i j else [AV.i .i64 0, AV.i .i64 0, AV.i .i64 0].getD j .any
theorem delX_pl {q : Nat} {l : List Thing} {i j : Nat} : pl1 (delX q l i j) = true := by
 unfold delX
 split
 ·exact pl1_getD rfl j
 ·exact pl1_getD rfl j
theorem delX_idf {q : Nat} {l : List Thing} {i j : Nat} : (delX q l i j).idfO := by
 unfold delX
 split
 ·exact HoldC.h _ j
 ·exact (holdC_plain (c := fun _ : Unit => [AV.i .i64 0, AV.i .i64 0, AV.i .i64 0]) fun _ => rfl).h () j
theorem delX_row {q : Nat} {l : List Thing} {n : Nat} : RowPl ⟨3, n, delX q l, .arr⟩ := ⟨fun i j _ _ => delX_pl⟩
set_option maxRecDepth 8000 in
set_option maxHeartbeats 2000000 in
theorem deleteThing_ok (l : List Thing) (hl : l.length ≤ 1048576) (q : Nat) (hq : q < l.length) (j : Int) (hj : j = (q : Int) + 1) : RetM env.P 88 [some (rowL 3 Thing.cs l)] [.row 0 l.length, .i .i64 (q : Int), .i .i64 j] (fun r H => r = .row 0 (l.length - 1) ∧ H = [some ⟨3, l.length, delX q l, .arr⟩]) := by
 refine ret_ofM (nt := 33) (rvs := [.tmp 6]) Tryz.func88 rfl rfl rfl rfl (fun X hX => ?_)
 repeat' (first | exact aa | ((conv => whnf) <;> (first | refine And.intro ?_ ?_ | (intro _h; first | contradiction | (try simp only [dd] at _h)) | (refine dt_go ?_) | exact rfl | exact True.intro | exact dkk | exact dks | (refine wrap_succ ?_; omega))))
 all_goals (first | exact Int.le_refl _ | exact Int.ofNat_le.2 (Nat.le_of_lt hq) | exact srcOk_from (c := Thing.cs) (fun _ => ⟨rfl, rfl⟩) | (show _ ≤ l.length; omega) | skip)
 all_goals (conv => whnf)
 have e1 : ((q : Int)).toNat = q := rfl
 have e2 : ((l.length : Int) - j).toNat = l.length - (q + 1) := by omega
 have e3 : j.toNat = q + 1 := by omega
 refine endM_turn (turn_same (id := 0) (x := ⟨3, l.length, delX q l, .arr⟩) rfl rfl rfl rfl rfl (fun i j hi hj => ?_)) ?_
 ·have hi' : i < l.length := hi
  dsimp only
  unfold delX
  by_cases h : i < l.length - 1
  ·rw [if_pos h, segE_out (by omega)]
   unfold elE
   rw [erase_at]
   by_cases h2 : i < q
   ·rw [if_pos h2, segE_out (by omega)]; rfl
   ·rw [if_neg h2, segE_in (by omega) (by omega)]
    show _ = (Thing.cs (l.getD _ default)).getD j .any
    congr 3
    omega
  ·rw [if_neg h, segE_in (by omega) (by omega)]
   rfl
 exact endM_pick [0] [some ⟨3, l.length, delX q l, .arr⟩] (.row 0 (l.length - 1)) (view_of rfl (.cons rfl (.self delX_row) .nil)) (by rw [show l.length - 1 = q + (l.length - (q + 1)) by omega, ← e2]; rfl) rfl (by rw [hX]; exact keepK (n := 1) rfl rfl) ⟨rfl, rfl⟩
set_option maxRecDepth 8000
def setLd (l : List Entry) (k : Nat) (v : Int) : List Entry := l.set k { l.getD k default with lends := v }
def Shelf.setL (s : Shelf) (w k : Nat) (v : Int) : Shelf := s.setE w (setLd (s.tables.getD w default).entries k v)
theorem setLd_len {l : List Entry} {k : Nat} {v : Int} : (setLd l k v).length = l.length := List.length_set
theorem setLd_rows {l : List Entry} {k n : Nat} {v : Int} (hk : k < l.length) : ∀ i j, i < n → j < 7 → OwEq (upd (elE Entry.cs l) k 3 [.i .i64 v] i j) (elE Entry.cs (setLd l k v) i j) := fun i j hi hj => by
 have hr : elE Entry.cs (setLd l k v) i j = (Entry.cs (if i = k then { l.getD k default with lends := v } else l.getD i default)).getD j .any := by
  unfold elE setLd
  rw [getD_set hk]
 rw [hr, upd_one]
 by_cases e1 : i = k
 ·subst e1
  rw [if_pos rfl]
  rcases (show j = 0 ∨ j = 1 ∨ j = 2 ∨ j = 3 ∨ j = 4 ∨ j = 5 ∨ j = 6 by omega) with rfl | rfl | rfl | rfl | rfl | rfl | rfl <;> first | exact .refl _ | (rw [if_neg (by omega)]; exact .refl _) | (rw [if_pos ⟨rfl, rfl⟩]; exact .refl _)
 ·rw [if_neg (fun q => e1 q.1), if_neg e1]
  exact .refl _
theorem setLd_rowO {l : List Entry} {k n : Nat} {v : Int} (hn : n ≤ l.length) : RowO n ⟨7, l.length, upd (elE Entry.cs l) k 3 [.i .i64 v], .arr⟩ := ⟨hn, fun i j hi hj => by
 show (upd _ k 3 [.i .i64 v] i j).idfO
 rw [upd_one]
 split
 ·exact trivial
 ·exact HoldC.h _ j⟩
theorem setL_ok {s : Shelf} (h : s.ok) {w k : Nat} {v : Int} : (s.setL w k v).ok := setE_ok h (by rw [setLd_len]; exact entLe h w)
end Go.Proofs.YtmjjadcmmpfljaaGreat
