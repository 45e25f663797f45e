/-
  Lists of strings: slices.Clone, slices.DeleteFunc and slices.MaxFunc; BestIn of the program.
-/
import Derived.Test.YtcmnohbbjkdpdaaDoorVVrJ
import Derived.Test.YtcmnohbbjkdpdaaDoorVVrQ
namespace Go.Proofs.YtcmnohbbjkdpdaaDoor
open Go Go.RowKit
set_option linter.unusedVariables false
set_option linter.unusedSimpArgs false
attribute [local irreducible] IntKind.wrap numS

def kS (p : ByteArray → Bool) (l : List ByteArray) (j : Nat) : List ByteArray := (l.take j).filter (fun v => !p v)
def mS (p : ByteArray → Bool) (l : List ByteArray) (j : Nat) : List ByteArray := kS p l j ++ l.drop (kS p l j).length
variable {p : ByteArray → Bool} {l : List ByteArray}
theorem kS_le {j : Nat} : (kS p l j).length ≤ j ∧ (kS p l j).length ≤ l.length := by
  have h1 : (kS p l j).length ≤ (l.take j).length := List.length_filter_le _ _
  rw [List.length_take] at h1
  omega
theorem mS_len {j : Nat} : (mS p l j).length = l.length := by
  have := (kS_le (p := p) (l := l) (j := j)).2
  unfold mS
  rw [List.length_append, List.length_drop]
  omega
theorem mS_at {j k : Nat} (hk : (kS p l j).length ≤ k) : (mS p l j).getD k default = l.getD k default := by
  unfold mS
  rw [List.getD_eq_getElem?_getD, List.getD_eq_getElem?_getD, List.getElem?_append_right hk, List.getElem?_drop]
  congr 2
  omega
theorem take_succ {j : Nat} (hj : j < l.length) : l.take (j + 1) = l.take j ++ [l.getD j default] := by
  rw [List.take_add_one, List.getElem?_eq_getElem hj, List.getD_eq_getElem?_getD, List.getElem?_eq_getElem hj]
  rfl
theorem kS_hit {j : Nat} (hj : j < l.length) (h : p (l.getD j default) = true) : kS p l (j + 1) = kS p l j := by
  unfold kS
  rw [take_succ hj, List.filter_append, List.filter_cons_of_neg (by rw [h]; decide), List.filter_nil, List.append_nil]
theorem kS_miss {j : Nat} (hj : j < l.length) (h : p (l.getD j default) = false) : kS p l (j + 1) = kS p l j ++ [l.getD j default] := by
  unfold kS
  rw [take_succ hj, List.filter_append, List.filter_cons_of_pos (by rw [h]; decide), List.filter_nil]
theorem mS_hit {j : Nat} (hj : j < l.length) (h : p (l.getD j default) = true) : mS p l (j + 1) = mS p l j := by
  unfold mS
  rw [kS_hit hj h]
theorem mS_miss {j : Nat} (hj : j < l.length) (h : p (l.getD j default) = false) : mS p l (j + 1) = (mS p l j).set (kS p l j).length (l.getD j default) := by
  have hk := (kS_le (p := p) (l := l) (j := j)).1
  unfold mS
  rw [kS_miss hj h, List.length_append, List.length_singleton, List.append_assoc, List.set_append_right _ _ (Nat.le_refl _), Nat.sub_self]
  rw [List.drop_eq_getElem_cons (show (kS p l j).length < l.length by omega)]
  rfl
theorem kS_none {j : Nat} (hj : j ≤ l.length) (h : ∀ k, k < j → p (l.getD k default) = false) : kS p l j = l.take j := by
  unfold kS
  rw [List.filter_eq_self]
  intro v hv
  obtain ⟨k, hk, rfl⟩ := List.getElem_of_mem hv
  rw [List.length_take] at hk
  have := h k (by omega)
  rw [List.getD_eq_getElem?_getD, List.getElem?_eq_getElem (by omega)] at this
  rw [List.getElem_take]
  simpa using this
theorem mS_none {j : Nat} (hj : j ≤ l.length) (h : ∀ k, k < j → p (l.getD k default) = false) : mS p l j = l := by
  unfold mS
  rw [kS_none hj h, List.length_take, Nat.min_eq_left hj, List.take_append_drop]
theorem kS_start {j : Nat} (hj : j < l.length) (h : ∀ k, k < j → p (l.getD k default) = false) (h1 : p (l.getD j default) = true) : mS p l (j + 1) = l ∧ (kS p l (j + 1)).length = j := by
  rw [mS_hit hj h1, kS_hit hj h1]
  exact ⟨mS_none (by omega) h, by rw [kS_none (by omega) h, List.length_take]; omega⟩
/-- The row that is left: what stays, then empty strings. -/
def cutS (L : List ByteArray) : Nat → Nat → AV := fun i j => if i < L.length then elE strC L i j else [AV.s ByteArray.empty].getD j .any
theorem cutS_in {L : List ByteArray} {i j : Nat} (h : i < L.length) : cutS L i j = elE strC L i j := if_pos h
theorem cutS_pl {L : List ByteArray} {i j : Nat} : pl1 (cutS L i j) = true := by
  unfold cutS
  split
  · exact pl1_getD rfl j
  · exact pl1_getD rfl j
theorem cutS_row {L : List ByteArray} {n : Nat} : RowPl ⟨1, n, cutS L, .arr⟩ := ⟨fun i j _ _ => cutS_pl⟩
theorem shr_cut {k n : Nat} {H : Hp} {L : List ByteArray} (hn : n = L.length) : Wk (.sl 1 n fun i j => shrC k H (cutS L i j)) (slL 1 strC L) := by
  subst hn
  refine Wk.sl fun i j hi hj => ?_
  obtain rfl : j = 0 := Nat.lt_one_iff.1 hj
  rw [cutS_in hi]
  have e : shrC k H (elE strC L i 0) = elE strC L i 0 := by
    show shrC k H (.s _) = .s _
    cases k <;> rfl
  rw [e]
  exact .refl _
theorem upto_s {l : List ByteArray} {p : ByteArray → Bool} {k : Nat} (h : ∀ j, j < k → p (l.getD j default) = false) (h2 : p (l.getD k default) = false) : ∀ j, j < k + 1 → p (l.getD j default) = false := fun j hj => by
  rcases Nat.lt_or_eq_of_le (Nat.le_of_lt_succ hj) with r | rfl
  · exact h j r
  · exact h2
theorem size_getD {l : List ByteArray} (h : ∀ v ∈ l, v.size ≤ 1000000000) (k : Nat) : (l.getD k default).size ≤ 1000000000 := by
  rw [List.getD_eq_getElem?_getD]
  cases e : l[k]? with
  | none => exact Nat.zero_le _
  | some v => exact h v (List.mem_of_getElem? e)
theorem kS_mem {p : ByteArray → Bool} {l : List ByteArray} {j : Nat} {v : ByteArray} (h : v ∈ kS p l j) : v ∈ l ∧ p v = false := by
  unfold kS at h
  rw [List.mem_filter] at h
  exact ⟨List.mem_of_mem_take h.1, by simpa using h.2⟩
theorem mS_mem {p : ByteArray → Bool} {l : List ByteArray} {j : Nat} {v : ByteArray} (h : v ∈ mS p l j) : v ∈ l := by
  unfold mS at h
  rcases List.mem_append.1 h with h | h
  · exact (kS_mem h).1
  · exact List.mem_of_mem_drop h
/-- The closure that asks whether a version is outside. -/
def outP (r : Rng) (v : ByteArray) : Bool := !inR v r
theorem best1_ok (r : Rng) (v : ByteArray) (hv : v.size ≤ 1000000000) : RetM env.P 30 [some (boxRow r.cs)] [.s v, .ptr 0 0 0] (fun x H => x = .b (outP r v) ∧ H = [some (boxRow r.cs)]) := by
  have h := inR_ok v hv r
  refine ret_ofM (nt := 8) (rvs := [.tmp 3]) Tryd.func30 rfl rfl rfl rfl (fun X hX => ?_)
  repeat' (first | exact aa | ((conv => whnf) <;> (first | refine And.intro ?_ ?_ | (intro _h; first | contradiction | (try simp only [dd] at _h)) | (refine dt_go ?_) | exact rfl | exact True.intro | exact dkk | exact dks | ((first | refine .inl ⟨_, h, ?_⟩ | refine ⟨_, h, ?_⟩); (try rintro _ rfl)) | (refine wrap_succ ?_; omega))))
  all_goals (conv => whnf)
  all_goals exact endM_pick [0] [some (boxRow r.cs)] (.b (outP r v)) (view_of rfl (.cons rfl (.self (rowPl_box rfl)) .nil)) rfl rfl (by rw [hX]; exact keepK (n := 1) rfl rfl) ⟨rfl, rfl⟩
set_option maxRecDepth 8000 in
set_option maxHeartbeats 2000000 in
theorem indexS_ok (l : List ByteArray) (hl : l.length ≤ 1048576) (r : Rng) (hs : ∀ v ∈ l, v.size ≤ 1000000000) : RetM env.P 43 [some (rowL 1 strC l), some (boxRow r.cs)] [.row 0 l.length, .fn 30 [.ptr 1 0 0]] (fun x H => x = .i .i64 (idxI (l.findIdx? (outP r))) ∧ H = [some (rowL 1 strC l), some (boxRow r.cs)]) := by
  refine ret_ofM (nt := 19) (rvs := [.tmp 4]) Tryd.func43 rfl rfl rfl rfl (fun X hX => ?_)
  repeat' (first | exact aa | ((conv => whnf) <;> (first | refine loopN l.length (fun k => [(8, .i .i64 k)]) (fun k => []) (fun k => ∀ j, j < k → outP r (l.getD j default) = false) ⟨fun _ h => by omega, ?_⟩ | exact low_cells rfl | exact upto_s (by assumption) (by assumption) | refine And.intro ?_ ?_ | (intro _h; first | contradiction | (try simp only [dd] at _h)) | (refine dt_go ?_) | exact rfl | exact True.intro | exact dkk | exact dks | (refine .inr (.inl (.inl ⟨[1], _, _, _, best1_ok r _ (size_getD hs _), viewA, ⟨rfl, rfl⟩, ?_⟩)); rintro _ _ ⟨rfl, rfl⟩; refine ⟨rfl, _, lokA, ?_⟩) | (refine wrap_succ ?_; omega))))
  all_goals (conv => whnf)
  · exact endM_pick [0, 1] [some (rowL 1 strC l), some (boxRow r.cs)] (.i .i64 (idxI (l.findIdx? (outP r)))) (view_of rfl (.cons rfl (.self (rowPl_L fun _ => rfl)) (.cons rfl (.self (rowPl_box rfl)) .nil))) (leaf_i (idx_some (by omega) (by assumption) (by assumption))) rfl (by rw [hX]; exact keepK (n := 2) rfl rfl) ⟨rfl, rfl⟩
  · exact endM_pick [0, 1] [some (rowL 1 strC l), some (boxRow r.cs)] (.i .i64 (idxI (l.findIdx? (outP r)))) (view_of rfl (.cons rfl (.self (rowPl_L fun _ => rfl)) (.cons rfl (.self (rowPl_box rfl)) .nil))) (leaf_i (idx_none fun j hj => by have := ‹∀ j, j < _ → outP r (l.getD j default) = false›; exact this j (by omega))) rfl (by rw [hX]; exact keepK (n := 2) rfl rfl) ⟨rfl, rfl⟩
theorem gapp {l m : List ByteArray} {i : Nat} (h : i < l.length) : (l ++ m).getD i default = l.getD i default := by
  rw [List.getD_eq_getElem?_getD, List.getD_eq_getElem?_getD, List.getElem?_append_left h]
theorem gmem {l : List ByteArray} {i : Nat} (h : i < l.length) : l.getD i default ∈ l := by
  rw [List.getD_eq_getElem?_getD, List.getElem?_eq_getElem h]
  exact List.getElem_mem h
structure MxI (l : List ByteArray) (y : Nat × ByteArray) : Prop where
  h1 : y.1 < l.length
  h2 : y.2 ∈ l
theorem keepS {p : ByteArray → Bool} {l : List ByteArray} {j : Nat} {b : Bool} (h : p ((mS p l j).getD ((j : Nat) : Int).toNat default) = b) : p (l.getD j default) = b := by
  rw [Int.toNat_natCast, mS_at kS_le.1] at h
  exact h
set_option maxRecDepth 8000 in
set_option maxHeartbeats 2000000 in
theorem delS_none (l : List ByteArray) (hl : l.length ≤ 1048576) (r : Rng) (hs : ∀ v ∈ l, v.size ≤ 1000000000) (hq : l.findIdx? (outP r) = none) (h1 : ∀ j, j < l.length → outP r (l.getD j default) = false) : RetM env.P 28 [some (rowL 1 strC l), some (boxRow r.cs)] [.row 0 l.length, .fn 30 [.ptr 1 0 0]] (fun x H => x = .row 0 (kS (outP r) l l.length).length ∧ H = [some ⟨1, l.length, cutS (kS (outP r) l l.length), .arr⟩, some (boxRow r.cs)]) := by
  have hD := kS_none (Nat.le_refl l.length) h1
  rw [List.take_length] at hD
  have hI := indexS_ok l hl r hs
  rw [hq] at hI
  refine ret_ofM (nt := 42) (rvs := [.tmp 4]) Tryd.func28 rfl rfl rfl rfl (fun X hX => ?_)
  repeat' (first | exact aa | ((conv => whnf) <;> (first | exact low_cells rfl | refine And.intro ?_ ?_ | (intro _h; first | contradiction | (try simp only [dd] at _h)) | (refine dt_go ?_) | exact rfl | exact True.intro | exact dkk | exact dks | (refine .inr (.inl (.inl ⟨[0, 1], _, _, _, hI, viewA, ⟨rfl, rfl⟩, ?_⟩)); rintro _ _ ⟨rfl, rfl⟩; refine ⟨rfl, _, lokA, ?_⟩) | (refine wrap_succ ?_; omega))))
  all_goals (conv => whnf)
  refine endM_turn (turn_same (id := 0) (x := ⟨1, l.length, cutS (kS (outP r) l l.length), .arr⟩) rfl rfl rfl rfl rfl (fun i j hi hj => ?_)) ?_
  · rw [hD]
    exact cutS_in hi
  exact endM_pick [0, 1] [some ⟨1, l.length, cutS (kS (outP r) l l.length), .arr⟩, some (boxRow r.cs)] (.row 0 (kS (outP r) l l.length).length) (view_of rfl (.cons rfl (.self cutS_row) (.cons rfl (.self (rowPl_box rfl)) .nil))) (by rw [hD]; rfl) rfl (by rw [hX]; exact keepK (n := 2) rfl rfl) ⟨rfl, rfl⟩
set_option maxRecDepth 8000 in
set_option maxHeartbeats 2000000 in
theorem delS_some (l : List ByteArray) (hl : l.length ≤ 1048576) (r : Rng) (hs : ∀ v ∈ l, v.size ≤ 1000000000) (q0 : Nat) (hq : l.findIdx? (outP r) = some q0) (hlt : q0 < l.length) (h1 : ∀ j, j < q0 → outP r (l.getD j default) = false) (h2 : outP r (l.getD q0 default) = true) : RetM env.P 28 [some (rowL 1 strC l), some (boxRow r.cs)] [.row 0 l.length, .fn 30 [.ptr 1 0 0]] (fun x H => x = .row 0 (kS (outP r) l l.length).length ∧ H = [some ⟨1, l.length, cutS (kS (outP r) l l.length), .arr⟩, some (boxRow r.cs)]) := by
  have hS := kS_start hlt h1 h2
  have hI := indexS_ok l hl r hs
  rw [hq] at hI
  have hz : ∀ j k, ((mS (outP r) l j).getD k default).size ≤ 1000000000 := fun j k => size_getD (fun v hv => hs v (mS_mem hv)) k
  refine ret_ofM (nt := 42) (rvs := [.tmp 4]) Tryd.func28 rfl rfl rfl rfl (fun X hX => ?_)
  repeat' (first | exact aa | ((conv => whnf) <;> (first | refine loopN (l.length - (q0 + 1)) (fun k => [(6, .i .i64 ((q0 + 1 + k : Nat) : Int)), (5, .i .i64 ((kS (outP r) l (q0 + 1 + k)).length : Nat))]) (fun k => [some (.arr ⟨1, l.length, elE strC (mS (outP r) l (q0 + 1 + k)), .arr⟩)]) (fun k => True) ⟨trivial, ?_⟩ | exact low_cells rfl | refine And.intro ?_ ?_ | (intro _h; first | contradiction | (try simp only [dd] at _h)) | (refine dt_go ?_) | exact rfl | exact True.intro | exact dkk | exact dks | (refine .inr (.inl (.inl ⟨[0, 1], _, _, _, hI, viewA, ⟨rfl, rfl⟩, ?_⟩)); rintro _ _ ⟨rfl, rfl⟩; refine ⟨rfl, _, lokA, ?_⟩) | (refine .inr (.inl (.inl ⟨[1], _, _, _, best1_ok r _ (hz _ _), viewA, ⟨rfl, rfl⟩, ?_⟩)); rintro _ _ ⟨rfl, rfl⟩; refine ⟨rfl, _, lokA, ?_⟩) | (refine wrap_succ ?_; omega))))
  · exact congrArg _ hS.2.symm
  · exact arr_same hS.1 rfl (fun a j => low_cells rfl)
  · rename_i k _ _ _
    have := (kS_le (p := outP r) (l := l) (j := q0 + 1 + k)).1
    omega
  · rename_i k _ _ hj
    have hj' : q0 + 1 + k < l.length := by omega
    have hn := keepS _h
    have hle := (kS_le (p := outP r) (l := l) (j := q0 + 1 + k)).2
    rw [show q0 + 1 + (k + 1) = q0 + 1 + k + 1 from rfl, kS_miss hj' hn, List.length_append, List.length_singleton, wrap_in (by omega) (by omega)]
    rfl
  · rename_i k _ _ hj
    have hj' : q0 + 1 + k < l.length := by omega
    have hn := keepS _h
    have hle := (kS_le (p := outP r) (l := l) (j := q0 + 1 + k)).1
    conv => whnf
    refine arr_set (k := (kS (outP r) l (q0 + 1 + k)).length) (show mS (outP r) l (q0 + 1 + (k + 1)) = _ from mS_miss (j := q0 + 1 + k) hj' hn) (by rw [mS_len]; omega) rfl (fun a j => low_cells rfl) ?_ ?_
    · intro j hj
      have e0 : (mS (outP r) l (q0 + 1 + k)).getD (((q0 + 1 + k : Nat) : Int)).toNat default = l.getD (q0 + 1 + k) default := by rw [Int.toNat_natCast, mS_at hle]
      obtain rfl : j = 0 := Nat.lt_one_iff.1 hj
      rw [← e0]
      simp only [upd, Nat.beq_refl, Int.toNat_natCast]
      rfl
    · intro a j hne
      simp only [upd, beq_ff hne, Bool.and_false, cond_false, Int.toNat_natCast]
  · rename_i k _ _ hj
    have hj' : q0 + 1 + k < l.length := by omega
    have hh := keepS (b := true) (eq_true_of_ne_false _h)
    exact congrArg _ (congrArg List.length (kS_hit hj' hh).symm)
  · rename_i k _ _ hj
    have hj' : q0 + 1 + k < l.length := by omega
    have hh := keepS (b := true) (eq_true_of_ne_false _h)
    exact arr_same (mS_hit hj' hh) rfl (fun a j => low_cells rfl)
  all_goals first | (exact Int.ofNat_le.2 kS_le.2) | exact Int.le_refl _ | skip
  all_goals (conv => whnf)
  rename_i k _ _
  have hk : kS (outP r) l (q0 + 1 + k) = kS (outP r) l l.length := by rw [show q0 + 1 + k = l.length by omega]
  have hM : mS (outP r) l (q0 + 1 + k) = kS (outP r) l l.length ++ l.drop (kS (outP r) l l.length).length := by unfold mS; rw [hk]
  refine endM_turn (turn_same (id := 0) (x := ⟨1, l.length, cutS (kS (outP r) l l.length), .arr⟩) rfl rfl rfl rfl rfl (fun i j hi hj => ?_)) ?_
  · have hi' : i < l.length := hi
    dsimp only
    rw [hk, hM]
    have hle := (kS_le (p := outP r) (l := l) (j := l.length)).2
    unfold cutS
    by_cases h : i < (kS (outP r) l l.length).length
    · rw [if_pos h, segE_out (by omega)]
      unfold elE
      rw [gapp h]
    · rw [if_neg h, segE_in (by omega) (by omega)]
      rfl
  exact endM_pick [0, 1] [some ⟨1, l.length, cutS (kS (outP r) l l.length), .arr⟩, some (boxRow r.cs)] (.row 0 (kS (outP r) l l.length).length) (view_of rfl (.cons rfl (.self cutS_row) (.cons rfl (.self (rowPl_box rfl)) .nil))) (by rw [hk]; rfl) rfl (by rw [hX]; exact keepK (n := 2) rfl rfl) ⟨rfl, rfl⟩
theorem delS_ok (l : List ByteArray) (hl : l.length ≤ 1048576) (r : Rng) (hs : ∀ v ∈ l, v.size ≤ 1000000000) : RetM env.P 28 [some (rowL 1 strC l), some (boxRow r.cs)] [.row 0 l.length, .fn 30 [.ptr 1 0 0]] (fun x H => x = .row 0 (kS (outP r) l l.length).length ∧ H = [some ⟨1, l.length, cutS (kS (outP r) l l.length), .arr⟩, some (boxRow r.cs)]) := by
  cases hq : l.findIdx? (outP r) with
  | none =>
    have hq' := hq
    rw [List.findIdx?_eq_none_iff] at hq'
    exact delS_none l hl r hs hq fun j hj => hq' _ (gmem hj)
  | some q0 =>
    have hq' := hq
    rw [List.findIdx?_eq_some_iff_getElem] at hq'
    obtain ⟨hlt, h1, h2⟩ := hq'
    refine delS_some l hl r hs q0 hq hlt (fun j hj => ?_) ?_
    · rw [List.getD_eq_getElem?_getD, List.getElem?_eq_getElem (by omega)]
      have := h2 j hj
      simpa using this
    · rw [List.getD_eq_getElem?_getD, List.getElem?_eq_getElem hlt]
      exact h1
/-- The order that BestIn asks for. -/
theorem best2_ok (a b : ByteArray) (ha : a.size ≤ 1000000000) (hb : b.size ≤ 1000000000) : Ret env.P 32 [.s a, .s b] (fun x => ∃ n, x = .i .i64 n) := by
  have h := compareV_ok a b ha hb
  refine ret_of (nt := 14) (rvs := [.tmp 4]) Tryd.func32 rfl rfl rfl rfl (fun X => ?_)
  repeat' (first | exact aa | ((conv => whnf) <;> (first | refine And.intro ?_ ?_ | (intro _h; first | contradiction | (try simp only [dd] at _h)) | (refine dt_go ?_) | exact rfl | exact True.intro | exact dkk | exact dks | ((first | refine .inl ⟨_, h, ?_⟩ | refine ⟨_, h, ?_⟩); (try rintro _ rfl)) | (refine wrap_succ ?_; omega))))
  all_goals (conv => whnf)
  all_goals exact ⟨_, rfl⟩
set_option maxRecDepth 8000 in
theorem maxS_ok (l : List ByteArray) (h0 : 0 < l.length) (hl : l.length ≤ 1048576) (hs : ∀ v ∈ l, v.size ≤ 1000000000) : Ret env.P 31 [slL 1 strC l, .fn 32 []] (fun x => ∃ v, v ∈ l ∧ x = .s v) := by
  refine ret_of (nt := 33) (rvs := [.tmp 4]) Tryd.func31 rfl rfl rfl rfl (fun X => ?_)
  repeat' (first | exact aa | ((conv => whnf) <;> (first | (refine loopF (fun y : Nat × ByteArray => [(6, .i .i64 ((1 + y.1 : Nat) : Int)), (5, .s y.2)]) (fun y => []) (MxI l) (fun y => l.length - y.1) (0, l.getD 0 default) ⟨⟨h0, gmem h0⟩, ?_⟩) | refine And.intro ?_ ?_ | (intro _h; first | contradiction | (try simp only [dd] at _h)) | (refine dt_go ?_) | exact rfl | exact True.intro | exact dkk | exact dks | (refine wrap_succ ?_; omega))))
  · rename_i y hy
    have hb := best2_ok (l.getD ((1 + y.1 : Nat) : Int).toNat default) y.2 (size_getD hs _) (hs _ hy.h2)
    repeat' (first | exact aa | ((conv => whnf) <;> (first | (refine .inl ⟨_, hb, ?_⟩; rintro _ ⟨n, rfl⟩) | refine And.intro ?_ ?_ | (intro _h; first | contradiction | (try simp only [dd] at _h)) | (refine dt_go ?_) | exact rfl | exact True.intro | exact dkk | exact dks | (refine wrap_succ ?_; omega))))
    all_goals (conv => whnf)
    · have h1 : y.1 + 1 < l.length := by omega
      refine ⟨(y.1 + 1, l.getD ((1 + y.1 : Nat) : Int).toNat default), [], ⟨h1, gmem (by omega)⟩, (show l.length - (y.1 + 1) < l.length - y.1 by omega), ?_⟩
      repeat' (first | exact aa | ((conv => whnf) <;> (first | refine And.intro ?_ ?_ | (intro _h; first | contradiction | (try simp only [dd] at _h)) | (refine dt_go ?_) | exact rfl | exact True.intro | exact dkk | exact dks | (refine wrap_succ ?_; omega))))
    · have h1 : y.1 + 1 < l.length := by omega
      refine ⟨(y.1 + 1, y.2), [], ⟨h1, hy.h2⟩, (show l.length - (y.1 + 1) < l.length - y.1 by omega), ?_⟩
      repeat' (first | exact aa | ((conv => whnf) <;> (first | refine And.intro ?_ ?_ | (intro _h; first | contradiction | (try simp only [dd] at _h)) | (refine dt_go ?_) | exact rfl | exact True.intro | exact dkk | exact dks | (refine wrap_succ ?_; omega))))
  · rename_i y hy
    conv => whnf
    exact ⟨y.2, hy.h2, rfl⟩
set_option maxRecDepth 8000 in
theorem cloneS_ok (l : List ByteArray) (hl : l.length ≤ 1048576) : RetM env.P 29 [] [slL 1 strC l] (fun r H => (l = [] ∧ r = .nils ∧ H = []) ∨ (r = .row 0 l.length ∧ H = [some (rowL 1 strC l)])) := by
  refine ret_ofM (nt := 8) (rvs := [.tmp 2]) Tryd.func29 rfl rfl rfl rfl (fun X hX => ?_)
  repeat' (first | exact aa | ((conv => whnf) <;> (first | exact capB hl (by decide) | exact capN hl | refine And.intro ?_ ?_ | (intro _h; first | contradiction | (try simp only [dd] at _h)) | (refine dt_go ?_) | exact rfl | exact True.intro | exact dkk | exact dks | (refine wrap_succ ?_; omega))))
  all_goals (conv => whnf)
  · exact endM_self (.inl ⟨List.length_eq_zero_iff.1 ‹_›, rfl, rfl⟩)
  · exact endM_pick [1] [some (rowL 1 strC l)] (.row 0 (0 + l.length)) (view_of rfl (.cons rfl (.L (Nat.zero_add _).symm (fun _ => rfl)) .nil)) rfl rfl (fun k hk => by rw [hX] at hk; exact absurd hk (Nat.not_lt_zero _)) (.inr ⟨by rw [Nat.zero_add], rfl⟩)
theorem cloneS1 (l : List ByteArray) (h0 : 0 < l.length) (hl : l.length ≤ 1048576) : RetM env.P 29 [] [slL 1 strC l] (fun r H => r = .row 0 l.length ∧ H = [some (rowL 1 strC l)]) := (cloneS_ok l hl).mono fun r H h => by
  rcases h with ⟨rfl, _⟩ | h
  · exact absurd h0 (Nat.lt_irrefl 0)
  · exact h
/-- What BestIn returns: a version of the range, if there is one. -/
def BestP (l : List ByteArray) (r : Rng) (v : ByteArray) (m : Bool) : Prop := (m = true → v ∈ l ∧ inR v r = true) ∧ (m = false → ∀ u ∈ l, inR u r = false)
theorem best_no {l : List ByteArray} {r : Rng} {v : ByteArray} (h : (kS (outP r) l l.length).length = 0) : BestP l r v false := by
  refine ⟨fun q => (by cases q), fun _ u hu => ?_⟩
  have hk : kS (outP r) l l.length = [] := List.length_eq_zero_iff.1 h
  unfold kS at hk
  rw [List.take_length, List.filter_eq_nil_iff] at hk
  have := hk u hu
  unfold outP at this
  simpa using this
theorem best_yes {l : List ByteArray} {r : Rng} {v : ByteArray} (h : v ∈ kS (outP r) l l.length) : BestP l r v true := by
  refine ⟨fun _ => ⟨(kS_mem h).1, ?_⟩, fun q => (by cases q)⟩
  have := (kS_mem h).2
  unfold outP at this
  simpa using this
set_option maxRecDepth 8000 in
set_option maxHeartbeats 1000000 in
theorem bestIn_ok (l : List ByteArray) (h0 : 0 < l.length) (hl : l.length ≤ 1048576) (r : Rng) (hs : ∀ v ∈ l, v.size ≤ 1000000000) : RetM env.P 13 [] [slL 1 strC l, .agg r.cs] (fun x H => ∃ (v : ByteArray) (m : Bool), x = .tup [.s v, .kb m] ∧ BestP l r v m ∧ H = []) := by
  have hk : (kS (outP r) l l.length).length ≤ l.length := kS_le.2
  have hks : ∀ v ∈ kS (outP r) l l.length, v.size ≤ 1000000000 := fun v hv => hs v (kS_mem hv).1
  refine ret_ofM (nt := 16) (rvs := [.tmp 4, .tmp 5]) Tryd.func13 rfl rfl rfl rfl (fun X hX => ?_)
  repeat' (first | exact aa | ((conv => whnf) <;> (first | (refine .inr (.inl (.inl ⟨[1, 0], _, _, _, delS_ok l hl r hs, viewA, ⟨rfl, rfl⟩, ?_⟩)); rintro _ _ ⟨rfl, rfl⟩; refine ⟨rfl, _, (lok_pl (by repeat' (first | exact RowsPl.nil | refine RowsPl.cons ?_ ?_ | refine RowsPl.none ?_ | exact cutS_row | exact rowPl_L (fun _ => rfl) | exact rowPl_box rfl))), ?_⟩) | (refine .inr (.inl (.inr (.inl ⟨_, RetM.wk (.cons (shr_cut rfl) (.cons (.refl _) .nil)) (maxS_ok (kS (outP r) l l.length) (by omega) (by omega) hks).toMB, ?_⟩))); rintro _ _ ⟨⟨v, hv, rfl⟩, rfl⟩; refine ⟨⟨rfl, nssA⟩, _, (lok_pl (by repeat' (first | exact RowsPl.nil | refine RowsPl.cons ?_ ?_ | refine RowsPl.none ?_ | exact cutS_row | exact rowPl_L (fun _ => rfl) | exact rowPl_box rfl))), ?_⟩) | refine And.intro ?_ ?_ | (intro _h; first | contradiction | (try simp only [dd] at _h)) | (refine dt_go ?_) | exact rfl | exact True.intro | exact dkk | exact dks | (refine .inr (.inl (.inl ⟨[], _, _, _, cloneS1 l h0 hl, viewA, ⟨rfl, rfl⟩, ?_⟩)); rintro _ _ ⟨rfl, rfl⟩; refine ⟨rfl, _, lokA, ?_⟩) | (refine wrap_succ ?_; omega))))
  all_goals (conv => whnf)
  · exact endM_pick [] [] (.tup [.s ⟨#[]⟩, .kb false]) (view_of rfl .nil) rfl rfl (fun k hk => by rw [hX] at hk; exact absurd hk (Nat.not_lt_zero _)) ⟨_, false, rfl, best_no (by omega), rfl⟩
  · exact endM_pick [] [] (.tup [.s v, .kb true]) (view_of rfl .nil) rfl rfl (fun k hk => by rw [hX] at hk; exact absurd hk (Nat.not_lt_zero _)) ⟨_, true, rfl, best_yes hv, rfl⟩
end Go.Proofs.YtcmnohbbjkdpdaaDoor
