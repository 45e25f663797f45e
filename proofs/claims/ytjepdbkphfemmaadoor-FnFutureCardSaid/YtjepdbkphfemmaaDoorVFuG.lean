/-
  Streams of numbers: written.
-/
import Derived.Test.YtjepdbkphfemmaaDoorVFuF
namespace Go.Proofs.YtjepdbkphfemmaaDoor
open Go Go.RowKit
set_option linter.unusedVariables false
set_option linter.unusedSimpArgs false

/-- A box's rows, closed. -/
theorem fu_close0 {X : Ctx} (l : List Int) (put got : Int) (shut : Bool) {es : Nat → Nat → AV} (he : cellsAt (es 0) 0 11 = [.i .i64 9, .s ByteArray.empty, .nils, .row 1 0, .i .i64 1, .b true, .row 2 l.length, .i .i64 put, .i .i64 got, .b shut, .b false]) :
    Turn X [some ⟨11, 1, es, .box⟩, some tZ, some (rowL 4 vCO l)] [some (boxRow (fuO l put got shut)), none, none] := by
  have t1 : Turn X [some ⟨11, 1, es, .box⟩, some tZ, some (rowL 4 vCO l)] [some (boxRow [.i .i64 9, .s ByteArray.empty, .nils, .row 1 0, .i .i64 1, .b true, .row 2 l.length, .i .i64 put, .i .i64 got, .b shut, .b false]), some tZ, some (rowL 4 vCO l)] :=
    turn_box (id := 0) (ds := [.i .i64 9, .s ByteArray.empty, .nils, .row 1 0, .i .i64 1, .b true, .row 2 l.length, .i .i64 put, .i .i64 got, .b shut, .b false]) rfl rfl rfl (by
      show OwEqL (cellsAt (es 0) 0 11) _
      rw [he]
      exact .cons (.refl _) (.cons (.refl _) (.cons (.refl _) (.cons (.refl _) (.cons (.refl _) (.cons (.refl _) (.cons (.refl _) (.cons (.refl _) (.cons (.refl _) (.cons (.refl _) (.cons (.refl _) .nil)))))))))))
  have t2 : Turn X [some (boxRow [.i .i64 9, .s ByteArray.empty, .nils, .row 1 0, .i .i64 1, .b true, .row 2 l.length, .i .i64 put, .i .i64 got, .b shut, .b false]), some tZ, some (rowL 4 vCO l)] [some (boxRow [.i .i64 9, .s ByteArray.empty, .nils, owL 4 nonC [], .i .i64 1, .b true, .row 2 l.length, .i .i64 put, .i .i64 got, .b shut, .b false]), none, some (rowL 4 vCO l)] :=
    turn_closeB (H := [some (boxRow [.i .i64 9, .s ByteArray.empty, .nils, .row 1 0, .i .i64 1, .b true, .row 2 l.length, .i .i64 put, .i .i64 got, .b shut, .b false]), some tZ, some (rowL 4 vCO l)]) (n := 0) (cs := [.i .i64 9, .s ByteArray.empty, .nils, .row 1 0, .i .i64 1, .b true, .row 2 l.length, .i .i64 put, .i .i64 got, .b shut, .b false]) (id := 0) (j := 3) (id' := 1) (r' := tZ) rfl rfl rfl (show 0 ≠ 1 by decide) rfl (show RowO 0 tZ from rowO_L (sz := 4) (c := nonC) (l := []))
  have t3 : Turn X [some (boxRow [.i .i64 9, .s ByteArray.empty, .nils, owL 4 nonC [], .i .i64 1, .b true, .row 2 l.length, .i .i64 put, .i .i64 got, .b shut, .b false]), none, some (rowL 4 vCO l)] [some (boxRow (fuO l put got shut)), none, none] :=
    turn_closeB (H := [some (boxRow [.i .i64 9, .s ByteArray.empty, .nils, owL 4 nonC [], .i .i64 1, .b true, .row 2 l.length, .i .i64 put, .i .i64 got, .b shut, .b false]), none, some (rowL 4 vCO l)]) (n := l.length) (cs := [.i .i64 9, .s ByteArray.empty, .nils, owL 4 nonC [], .i .i64 1, .b true, .row 2 l.length, .i .i64 put, .i .i64 got, .b shut, .b false]) (id := 0) (j := 6) (id' := 2) (r' := rowL 4 vCO l) rfl rfl rfl (show 0 ≠ 2 by decide) rfl (rowO_le (Nat.le_refl _))
  exact t1.trans (t2.trans t3)
set_option maxRecDepth 8000 in
set_option maxHeartbeats 4000000 in
theorem writeE_t (m n : Int) (h : n64 n) : RetM env.P 20 [some (boxRow (fuO [m] 1 0 false))] [.ptr 0 0 0, slL 4 vC [n]] (fun r H => r = .tup [.i .i64 0, .i .i64 4] ∧ H = [some (boxRow (fuO [m] 1 0 false))]) := by
  have h1 : IntKind.i64.wrap (1 + ([n].length : Nat)) = 2 := by
    show IntKind.i64.wrap (1 + ((1 : Nat) : Int)) = 2
    decide
  refine ret_ofM (nt := 69) (rvs := [.tmp 4, .tmp 5]) Tryd.func20 rfl rfl rfl rfl (fun X hX => ?_)
  repeat' (first | exact aa | ((conv => whnf) <;> (first | (exfalso; exact ‹¬ _ > _› (by decide)) | (refine dt_turn (turn_open (id := 0) (i := 0) (j := 3) rfl (show 0 < 1 by decide) (show 3 < 11 by decide) rfl) ?_; refine dt_turn (turn_open (id := 0) (i := 0) (j := 6) rfl (show 0 < 1 by decide) (show 6 < 11 by decide) rfl) ?_; refine dt_go ?_) | refine And.intro ?_ ?_ | (intro _h; first | contradiction | (try simp only [dd] at _h)) | (refine dt_go ?_) | exact rfl | exact True.intro | exact dkk | exact dks | ((first | refine .inl ⟨_, sizeV_t [n] (Nat.succ_le_succ (Nat.zero_le _)), ?_⟩ | refine ⟨_, sizeV_t [n] (Nat.succ_le_succ (Nat.zero_le _)), ?_⟩); (try rintro _ rfl)) | ((first | refine .inl ⟨_, Ret.wka (mostOf_t [m] 1 0 false), ?_⟩ | refine ⟨_, Ret.wka (mostOf_t [m] 1 0 false), ?_⟩); (try rintro _ rfl)) | (refine wrap_succ ?_; omega))))
  all_goals (try (conv => whnf))
  all_goals refine endM_turn (fu_close0 [m] 1 0 false rfl) ?_
  all_goals exact endM_pick [0] [some (boxRow (fuO [m] 1 0 false))] (.tup [.i .i64 0, .i .i64 4]) (view_of rfl (.cons rfl (.self (rowPl_box rfl)) .nil)) rfl rfl (by rw [hX]; exact keepK (n := 1) rfl rfl) ⟨rfl, rfl⟩
/-- A row of one number, its parts a row of their own. -/
def row1 (n : Int) (id : Nat) : Row := ⟨4, 1, upd (elE vCO [n]) 0 3 [.row id 0], .arr⟩
theorem upd_one {es : Nat → Nat → AV} {w j : Nat} {c : AV} {i k : Nat} : upd es w j [c] i k = if i = w ∧ k = j then c else es i k := by
  by_cases h : i = w ∧ k = j
  · obtain ⟨rfl, rfl⟩ := h
    have := upd_in (es := es) (j := i) (off := k) (cs := [c]) (k := 0) (by simp)
    rw [Nat.add_zero] at this
    rw [this, if_pos ⟨rfl, rfl⟩]
    rfl
  · rw [if_neg h, upd_out]
    rintro ⟨h1, h2, h3⟩
    exact h ⟨h1, by simp at h3; omega⟩
theorem vCO_pl (l : List Int) (i j : Nat) : pl1 (elE vCO l i j) = true := pl1_getD (cs := vCO (l.getD i default)) rfl j
theorem ren_1 {σ : Nat → Nat} {n : Int} {id : Nat} : RowRen σ (row1 n id) (row1 n (σ id)) := by
  refine ⟨rfl, rfl, .refl _, fun i j hi hj => ?_⟩
  show upd _ 0 3 [.row (σ id) _] i j = ren1 σ (upd _ 0 3 [.row id _] i j) ∧ _
  rw [upd_one]
  show _ ∧ flat1 (upd _ 0 3 [.row id _] i j) = true
  rw [upd_one]
  split
  · exact ⟨rfl, rfl⟩
  · have := pl1_ren (σ := σ) (vCO_pl [n] i j)
    exact ⟨this.1.symm, this.2⟩
theorem ns_1 {n : Int} {id : Nat} : RowNs (row1 n id) := ⟨fun i j hi hj => by
  show noS (upd _ 0 3 [.row id _] i j)
  rw [upd_one]
  split
  · trivial
  · exact FreeC.h (c := vCO) _ j⟩
theorem ren_pl {σ : Nat → Nat} {x : Row} (h : RowPl x) : RowRen σ x x := ⟨rfl, rfl, .refl _, fun i j hi hj => ⟨(pl1_ren (h.h i j hi hj)).1.symm, (pl1_ren (σ := σ) (h.h i j hi hj)).2⟩⟩
theorem lok_c {σ : Nat → Nat} {x y : Row} {H' L : Hp} (h : RowRen σ x y) (t : LOk σ H' L) : LOk σ (some x :: H') (some y :: L) := ⟨by simp [t.len], fun k hk => by
  cases k with
  | zero => exact .inr ⟨_, _, rfl, rfl, h⟩
  | succ k => exact t.row k (by simpa using hk)⟩
theorem lok_1z {σ : Nat → Nat} {n : Int} : LOk σ [some (row1 n 1), some tZ] [some (row1 n (σ 1)), some tZ] := lok_c ren_1 (lok_c (ren_pl (rowPl_L fun _ => rfl)) lok_nil)
theorem nss_1z {n : Int} : RowsNs [some (row1 n 1), some tZ] := rowsNs_cons ns_1 (rowsNs_cons (rowNs_L (c := nonC) (l := [])) rowsNs_nil)
set_option maxRecDepth 8000 in
theorem copyValues_1 (n : Int) : RetM env.P 35 [] [slL 4 vC [n]] (fun r H => r = .row 0 1 ∧ H = [some (row1 n 1), some tZ]) := by
  obtain ⟨l, hle⟩ : ∃ l : List Int, l = [n] := ⟨_, rfl⟩
  rw [← hle]
  have hl : l.length = 1 := by rw [hle]; rfl
  refine ret_ofPM (nt := 20) (rvs := [.tmp 2]) Tryd.func35 rfl rfl rfl rfl (fun X hX => ?_)
  refine pw_cut 2 (fun _ : Unit => True) (fun _ => [(0, slL 4 vC l), (3, .row 0 0)]) (fun _ => [some (rowL 4 vCO [])]) ?_ (fun _ _ => ?_)
  · repeat' (first | exact aa | ((conv => whnf) <;> (first | refine And.intro ?_ ?_ | (intro _h; first | contradiction | (try simp only [dd] at _h)) | (refine dt_go ?_) | exact rfl | exact True.intro | exact dkk | exact dks | (refine wrap_succ ?_; omega))))
    conv => whnf
    refine cut_turn (turn_eq (id := 0) (x := rowL 4 vCO []) rfl rfl rfl rfl rfl (fun i j hi _ => absurd hi (Nat.not_lt_zero _))) ?_
    exact cut_go () trivial (by repeat' (first | exact trivial | refine And.intro rfl ?_)) (by repeat' (first | exact trivial | refine And.intro (.inl rfl) ?_ | refine And.intro (.inr rfl) ?_ | refine And.intro rfl ?_))
  refine wpc_ok _ _ _ _ ?_
  (try dsimp only)
  conv => whnf
  repeat' (first | exact aa | ((conv => whnf) <;> (first | exact arr_zero rfl rfl | exact low_cells rfl | refine loopFT (fun k : Nat => [(9, .i .i64 k), (3, .row 0 k)]) (fun k => [some (.arr ⟨4, k, elE vCO (l.take k), .arr⟩)]) (fun k => k ≤ l.length) (fun k => l.length - k) 0 ⟨Nat.zero_le _, ?_⟩ | refine And.intro ?_ ?_ | (intro _h; first | contradiction | (try simp only [dd] at _h)) | (refine dt_go ?_) | exact rfl | exact True.intro | exact dkk | exact dks | (refine .inr (.inl (.inl ⟨[], _, _, _, copyValue_t _, viewA, ⟨rfl, rfl⟩, ?_⟩)); rintro _ _ ⟨rfl, rfl⟩; refine ⟨rfl, _, lokA, ?_⟩) | (refine wrap_succ ?_; omega))))
  · rename_i k hk
    conv => whnf
    have hkl : k < l.length := by omega
    refine roundET_turn (turn_close (id := 4) (i := k) (j := 3) (id' := 2) rfl (Nat.lt_succ_self k) (show 3 < 4 by decide) cat_k rfl (show 4 ≠ 2 by decide) rfl (show RowO 0 tZ from rowO_L (sz := 4) (c := nonC) (l := []))) ?_
    refine roundET_turn (turn_eq (id := 4) (x := rowL 4 vCO (l.take (k + 1))) rfl rfl (show (l.take (k + 1)).length = k + 1 by rw [List.length_take]; omega) rfl rfl (snoc_num hkl rfl rfl rfl (.refl _))) ?_
    refine roundET_end ?_
    refine ⟨k + 1, [4], by omega, (show l.length - (k + 1) < l.length - k by omega), ?_⟩
    have hcap : (l.take (k + 1)).length = k + 1 := by rw [List.length_take]; omega
    repeat' (first | exact aa | ((conv => whnf) <;> (first | exact arr_same rfl hcap (fun a j => low_cells rfl) | exact hcap | exact low_cells rfl | exact lbz_rho hX ‹_› | refine And.intro ?_ ?_ | (intro _h; first | contradiction | (try simp only [dd] at _h)) | (refine dt_go ?_) | exact rfl | exact True.intro | exact dkk | exact dks | (refine wrap_succ ?_; omega))))
  · rename_i k hk
    conv => whnf
    obtain rfl : k = l.length := by omega
    rw [List.take_length]
    subst hle
    refine endM_turn (turn_open (id := 0) (i := 0) (j := 3) rfl (show 0 < 1 by decide) (show 3 < 4 by decide) rfl) ?_
    exact endM_self ⟨rfl, rfl⟩
theorem owEq_i {a b : Int} (h : a = b) : OwEq (.i .i64 a) (.i .i64 b) := by subst h; exact .refl _
theorem cells_1 {n : Int} {es : Nat → Nat → AV} (h0 : es 0 0 = .i .i64 9) (h1 : es 0 1 = .i .i64 n) (h2 : es 0 2 = .s ByteArray.empty) (h3 : OwEq (es 0 3) (owL 4 nonC [])) : ∀ i j, i < 1 → j < 4 → OwEq (es i j) (elE vCO [n] i j) := fun i j hi hj => by
  obtain rfl : i = 0 := Nat.lt_one_iff.1 hi
  rcases (show j = 0 ∨ j = 1 ∨ j = 2 ∨ j = 3 by omega) with rfl | rfl | rfl | rfl
  · rw [h0]; exact .refl _
  · rw [h1]; exact .refl _
  · rw [h2]; exact .refl _
  · exact h3
theorem sl_to {n m : Int} (hm : m = 1) : Wk (.sl 4 (m - 0).toNat fun i j => (fun i j => (vC ([n].getD i default)).getD j .any) (Int.toNat 0 + i) j) (slL 4 vC [n]) := by
  subst hm
  refine Wk.sl' rfl rfl fun i j hi hj => ?_
  dsimp only
  rw [show Int.toNat 0 + i = i from Nat.zero_add i]
  exact .refl _
theorem min_1 {n : Int} : (if IntKind.i64.wrap (1 - (([] : List Int).length : Nat)) < (([n] : List Int).length : Nat) then IntKind.i64.wrap (1 - (([] : List Int).length : Nat)) else (([n] : List Int).length : Nat)) = 1 := by
  show (if IntKind.i64.wrap (1 - ((0 : Nat) : Int)) < ((1 : Nat) : Int) then IntKind.i64.wrap (1 - ((0 : Nat) : Int)) else ((1 : Nat) : Int)) = 1
  decide
set_option maxRecDepth 8000 in
set_option maxHeartbeats 4000000 in
theorem writeF_t (n : Int) (h : n64 n) : RetM env.P 20 [some (boxRow (fuO [] 0 0 false))] [.ptr 0 0 0, slL 4 vC [n]] (fun r H => r = .tup [.i .i64 1, .i .i64 0] ∧ H = [some (boxRow (fuO [n] 1 0 false))]) := by
  have h1 : IntKind.i64.wrap (0 + ([n].length : Nat)) = 1 := by
    show IntKind.i64.wrap (0 + ((1 : Nat) : Int)) = 1
    decide
  have hput : IntKind.i64.wrap (0 + (if IntKind.i64.wrap (1 - (([] : List Int).length : Nat)) < (([n] : List Int).length : Nat) then IntKind.i64.wrap (1 - (([] : List Int).length : Nat)) else (([n] : List Int).length : Nat))) = 1 := by rw [min_1]; decide
  have hnn : (0 : Int) ≤ (if IntKind.i64.wrap (1 - (([] : List Int).length : Nat)) < (([n] : List Int).length : Nat) then IntKind.i64.wrap (1 - (([] : List Int).length : Nat)) else (([n] : List Int).length : Nat)) := by rw [min_1]; omega
  refine ret_ofM (nt := 69) (rvs := [.tmp 4, .tmp 5]) Tryd.func20 rfl rfl rfl rfl (fun X hX => ?_)
  repeat' (first | exact aa | ((conv => whnf) <;> (first | (exfalso; rw [h1] at *; omega) | ((refine .inr (.inl (.inr (.inl ⟨_, RetM.wk (.cons (sl_to min_1) .nil) (copyValues_1 n), ?_⟩))); rintro _ _ ⟨rfl, rfl⟩; refine ⟨⟨rfl, nss_1z⟩, _, lok_1z, ?_⟩)) | exact hnn | exact (show (0 + 1) * 56 ≤ 140737488355328 by decide) | exact (show 0 + 1 ≤ 9223372036854775807 by decide) | (refine dt_turn (turn_open (id := 0) (i := 0) (j := 3) rfl (show 0 < 1 by decide) (show 3 < 11 by decide) rfl) ?_; refine dt_turn (turn_open (id := 0) (i := 0) (j := 6) rfl (show 0 < 1 by decide) (show 6 < 11 by decide) rfl) ?_; refine dt_go ?_) | (refine dt_turn (turn_close (id := 0) (i := 0) (j := 6) (id' := 2) rfl (show 0 < 1 by decide) (show 6 < 11 by decide) rfl rfl (show 0 ≠ 2 by decide) rfl (rowO_L (sz := 4) (c := vCO) (l := []))) ?_; refine dt_go (id := 8) ?_) | refine And.intro ?_ ?_ | (intro _h; first | contradiction | (try simp only [dd] at _h)) | (refine dt_go ?_) | exact rfl | exact True.intro | exact dkk | exact dks | ((first | refine .inl ⟨_, sizeV_t [n] (Nat.succ_le_succ (Nat.zero_le _)), ?_⟩ | refine ⟨_, sizeV_t [n] (Nat.succ_le_succ (Nat.zero_le _)), ?_⟩); (try rintro _ rfl)) | ((first | refine .inl ⟨_, Ret.wka (sizeV_t [] (Nat.zero_le _)), ?_⟩ | refine ⟨_, Ret.wka (sizeV_t [] (Nat.zero_le _)), ?_⟩); (try rintro _ rfl)) | ((first | refine .inl ⟨_, Ret.wka (mostOf_t [] 0 0 false), ?_⟩ | refine ⟨_, Ret.wka (mostOf_t [] 0 0 false), ?_⟩); (try rintro _ rfl)) | (refine wrap_succ ?_; omega))))
  all_goals (try (conv => whnf))
  all_goals first
    | (refine endM_turn (turn_close (id := 6) (i := 0) (j := 3) (id' := 5) rfl (show 0 < 1 by decide) (show 3 < 4 by decide) rfl rfl (show 6 ≠ 5 by decide) rfl (show RowO 0 tZ from rowO_L (sz := 4) (c := nonC) (l := []))) ?_
       refine endM_turn (turn_eq (id := 6) (x := rowL 4 vCO [n]) rfl rfl rfl rfl rfl (cells_1 rfl rfl rfl (.refl _))) ?_
       refine endM_turn (turn_box (id := 0) (ds := [.i .i64 9, .s ByteArray.empty, .nils, .row 1 0, .i .i64 1, .b true, .row 6 1, .i .i64 1, .i .i64 0, .b false, .b false]) rfl rfl rfl (.cons (.refl _) (.cons (.refl _) (.cons (.refl _) (.cons (.refl _) (.cons (.refl _) (.cons (.refl _) (.cons (.refl _) (.cons (owEq_i hput) (.cons (.refl _) (.cons (.refl _) (.cons (.refl _) .nil)))))))))))) ?_
       refine endM_turn (turn_closeB (id := 0) (j := 3) (id' := 1) (n := 0) (r' := tZ) rfl rfl rfl (show 0 ≠ 1 by decide) rfl (show RowO 0 tZ from rowO_L (sz := 4) (c := nonC) (l := []))) ?_
       refine endM_turn (turn_closeB (id := 0) (j := 6) (id' := 6) (n := 1) (r' := rowL 4 vCO [n]) rfl rfl rfl (show 0 ≠ 6 by decide) rfl (rowO_le (Nat.le_refl _))) ?_
       exact endM_pick [0] [some (boxRow (fuO [n] 1 0 false))] (.tup [.i .i64 1, .i .i64 0]) (view_of rfl (.cons rfl (.self (rowPl_box rfl)) .nil)) (congrArg (fun z => AV.tup [.i .i64 z, .i .i64 0]) min_1) rfl (by rw [hX]; exact keepK (n := 1) rfl rfl) ⟨rfl, rfl⟩)
    | (refine endM_turn (turn_close (id := 6) (i := 0) (j := 3) (id' := 4) rfl (show 0 < 1 by decide) (show 3 < 4 by decide) rfl rfl (show 6 ≠ 4 by decide) rfl (show RowO 0 tZ from rowO_L (sz := 4) (c := nonC) (l := []))) ?_
       refine endM_turn (turn_eq (id := 6) (x := rowL 4 vCO [n]) rfl rfl rfl rfl rfl (cells_1 rfl rfl rfl (.refl _))) ?_
       refine endM_turn (turn_box (id := 0) (ds := [.i .i64 9, .s ByteArray.empty, .nils, .row 1 0, .i .i64 1, .b true, .row 6 1, .i .i64 1, .i .i64 0, .b false, .b false]) rfl rfl rfl (.cons (.refl _) (.cons (.refl _) (.cons (.refl _) (.cons (.refl _) (.cons (.refl _) (.cons (.refl _) (.cons (.refl _) (.cons (owEq_i hput) (.cons (.refl _) (.cons (.refl _) (.cons (.refl _) .nil)))))))))))) ?_
       refine endM_turn (turn_closeB (id := 0) (j := 3) (id' := 1) (n := 0) (r' := tZ) rfl rfl rfl (show 0 ≠ 1 by decide) rfl (show RowO 0 tZ from rowO_L (sz := 4) (c := nonC) (l := []))) ?_
       refine endM_turn (turn_closeB (id := 0) (j := 6) (id' := 6) (n := 1) (r' := rowL 4 vCO [n]) rfl rfl rfl (show 0 ≠ 6 by decide) rfl (rowO_le (Nat.le_refl _))) ?_
       exact endM_pick [0] [some (boxRow (fuO [n] 1 0 false))] (.tup [.i .i64 1, .i .i64 0]) (view_of rfl (.cons rfl (.self (rowPl_box rfl)) .nil)) (congrArg (fun z => AV.tup [.i .i64 z, .i .i64 0]) min_1) rfl (by rw [hX]; exact keepK (n := 1) rfl rfl) ⟨rfl, rfl⟩)
    | trace_state
end Go.Proofs.YtjepdbkphfemmaaDoor
