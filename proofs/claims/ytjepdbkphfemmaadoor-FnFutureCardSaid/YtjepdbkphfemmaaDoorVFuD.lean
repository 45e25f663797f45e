/-
  Streams of numbers: copies.
-/
import Derived.Test.YtjepdbkphfemmaaDoorVFuC
namespace Go.Proofs.YtjepdbkphfemmaaDoor
open Go Go.RowKit
set_option linter.unusedVariables false
set_option linter.unusedSimpArgs false

/-! ### Copies -/
set_option maxRecDepth 8000 in
theorem cloneS_t : Ret env.P 25 [.nils] (fun r => r = .nils) := by
  refine ret_of (nt := 8) (rvs := [.tmp 2]) Tryd.func25 rfl rfl rfl rfl (fun X => ?_)
  repeat' (first | exact aa | ((conv => whnf) <;> (first | refine And.intro ?_ ?_ | (intro _h; first | contradiction | (try simp only [dd] at _h)) | (refine dt_go ?_) | exact rfl | exact True.intro | exact dkk | exact dks | (refine wrap_succ ?_; omega))))
  all_goals trace_state
def tZ : Row := rowL 4 nonC []
theorem arr_zero {r : List Nat} {n sz cap cap' : Nat} {e e' : Nat → Nat → AV} {k : RK} (hc : cap = 0) (hc' : cap' = 0) : ArrP r n ⟨sz, cap, e, k⟩ ⟨sz, cap', e', k⟩ := by
  subst hc hc'
  exact ⟨rfl, rfl, rfl, fun i j hi => absurd hi (Nat.not_lt_zero _), fun i j hi => absurd hi (Nat.not_lt_zero _)⟩
set_option maxRecDepth 8000 in
theorem copyTypes_t : RetM env.P 26 [] [kidC] (fun r H => r = .row 0 0 ∧ H = [some tZ]) := by
  refine ret_ofM (nt := 20) (rvs := [.tmp 2]) Tryd.func26 rfl rfl rfl rfl (fun X hX => ?_)
  repeat' (first | exact aa | ((conv => whnf) <;> (first | exact arr_zero rfl rfl | refine loopFT (fun y : Unit => [(9, .i .i64 0), (3, .row 0 0)]) (fun y => [some (.arr ⟨4, 0, elE nonC [], .arr⟩)]) (fun y => True) (fun y => 0) () ⟨trivial, ?_⟩ | refine And.intro ?_ ?_ | (intro _h; first | contradiction | (try simp only [dd] at _h)) | (refine dt_go ?_) | exact rfl | exact True.intro | exact dkk | exact dks | (refine wrap_succ ?_; omega))))
  all_goals (conv => whnf)
  all_goals exact endM_pick [0] [some tZ] (.row 0 0) (view_of rfl (.cons rfl (.self (rowPl_L fun _ => rfl)) .nil)) rfl rfl (fun k hk => by rw [hX] at hk; exact absurd hk (Nat.not_lt_zero _)) ⟨rfl, rfl⟩
set_option maxRecDepth 8000 in
theorem copyType_t : RetM env.P 12 [] [.agg tC] (fun r H => r = .agg [.i .i64 9, .s ByteArray.empty, .nils, .row 0 0] ∧ H = [some tZ]) := by
  refine ret_ofM (nt := 14) (rvs := [.cell 2 27]) Tryd.func12 rfl rfl rfl rfl (fun X hX => ?_)
  repeat' (first | exact aa | ((conv => whnf) <;> (first | refine And.intro ?_ ?_ | (intro _h; first | contradiction | (try simp only [dd] at _h)) | (refine dt_go ?_) | exact rfl | exact True.intro | exact dkk | exact dks | ((first | refine .inl ⟨_, cloneS_t, ?_⟩ | refine ⟨_, cloneS_t, ?_⟩); (try rintro _ rfl)) | (refine .inr (.inl (.inl ⟨[], _, _, _, copyTypes_t, viewA, ⟨rfl, rfl⟩, ?_⟩)); rintro _ _ ⟨rfl, rfl⟩; refine ⟨rfl, _, lokA, ?_⟩) | (refine wrap_succ ?_; omega))))
  all_goals (conv => whnf)
  all_goals exact endM_pick [2] [some tZ] (.agg [.i .i64 9, .s ByteArray.empty, .nils, .row 0 0]) (view_of rfl (.cons rfl (.self (rowPl_L fun _ => rfl)) .nil)) rfl rfl (fun k hk => by rw [hX] at hk; exact absurd hk (Nat.not_lt_zero _)) ⟨rfl, rfl⟩
theorem cat_k {n : Nat} {es g : Nat → Nat → AV} {j : Nat} : catE n es g n j = g 0 j := by rw [catE_at, if_neg (Nat.lt_irrefl n), Nat.sub_self]
theorem lbz_rho {X : Ctx} {r : List Nat} {id : Nat} (hX : X.H0 = []) (h : id < X.H0.length) : rhoF r id = id := by rw [hX] at h; exact absurd h (Nat.not_lt_zero _)
theorem getD_take {l : List Int} {k i : Nat} (h : i < k) : (l.take k).getD i default = l.getD i default := by
  rw [List.getD_eq_getElem?_getD, List.getD_eq_getElem?_getD, List.getElem?_take, if_pos h]
/-- A number that is held. -/
def vCO (n : Int) : List AV := [.i .i64 9, .i .i64 n, .s ByteArray.empty, owL 4 nonC []]
instance : HoldC nonC := holdC_plain fun _ => rfl
instance : FreeC nonC := freeC_plain fun _ => rfl
instance : Shr 0 nonC nonC := shr_plain fun _ => rfl
instance : HoldC vCO := ⟨fun a => (idf_cons trivial (idf_cons trivial (idf_cons trivial (idf_cons owL_idf idf_nil))))⟩
instance : FreeC vCO := ⟨fun a => (free_cons trivial (free_cons trivial (free_cons trivial (free_cons owL_free free_nil))))⟩
instance : Shr 1 vCO vC := ⟨fun H k a => (.cons (.refl _) (.cons (.refl _) (.cons (.refl _) (.cons (shr_ow (d := 0) (k := k + 0)) .nil))))⟩
theorem snoc_num {k : Nat} {l : List Int} {g : Nat → Nat → AV} {v : AV} (hk : k < l.length) (h0 : g 0 0 = .i .i64 9) (h1 : g 0 1 = .i .i64 (l.getD k default)) (h2 : g 0 2 = .s ByteArray.empty) (hv : OwEq v (owL 4 nonC [])) : ∀ i j, i < k + 1 → j < 4 → OwEq (upd (catE k (elE vCO (l.take k)) g) k 3 [v] i j) (elE vCO (l.take (k + 1)) i j) := fun i j hi hj => by
  by_cases e1 : i = k
  · subst e1
    have hr : elE vCO (l.take (i + 1)) i j = (vCO (l.getD i default)).getD j .any := by
      unfold elE
      rw [getD_take (Nat.lt_succ_self i)]
    rw [hr]
    rcases (show j = 0 ∨ j = 1 ∨ j = 2 ∨ j = 3 by omega) with rfl | rfl | rfl | rfl
    · rw [upd_out (by omega), cat_k, h0]; exact .refl _
    · rw [upd_out (by omega), cat_k, h1]; exact .refl _
    · rw [upd_out (by omega), cat_k, h2]; exact .refl _
    · rw [show (3 : Nat) = 3 + 0 from rfl, upd_in (Nat.lt_succ_self 0)]
      exact hv
  · rw [upd_miss e1]
    have : i < k := by omega
    rw [catE_at, if_pos this]
    unfold elE
    rw [getD_take this, getD_take hi]
    exact .refl _
set_option maxRecDepth 8000 in
theorem copyValues_e : RetM env.P 35 [] [kidC] (fun r H => r = .row 0 0 ∧ H = [some tZ]) := by
  refine ret_ofM (nt := 20) (rvs := [.tmp 2]) Tryd.func35 rfl rfl rfl rfl (fun X hX => ?_)
  repeat' (first | exact aa | ((conv => whnf) <;> (first | exact arr_zero rfl rfl | refine loopFT (fun y : Unit => [(9, .i .i64 0), (3, .row 0 0)]) (fun y => [some (.arr ⟨4, 0, elE nonC [], .arr⟩)]) (fun y => True) (fun y => 0) () ⟨trivial, ?_⟩ | refine And.intro ?_ ?_ | (intro _h; first | contradiction | (try simp only [dd] at _h)) | (refine dt_go ?_) | exact rfl | exact True.intro | exact dkk | exact dks | (refine wrap_succ ?_; omega))))
  all_goals (conv => whnf)
  all_goals exact endM_pick [0] [some tZ] (.row 0 0) (view_of rfl (.cons rfl (.self (rowPl_L fun _ => rfl)) .nil)) rfl rfl (fun k hk => by rw [hX] at hk; exact absurd hk (Nat.not_lt_zero _)) ⟨rfl, rfl⟩
set_option maxRecDepth 8000 in
theorem copyValue_t (n : Int) : RetM env.P 48 [] [.agg (vC n)] (fun r H => r = .agg [.i .i64 9, .i .i64 n, .s ByteArray.empty, .row 0 0] ∧ H = [some tZ]) := by
  refine ret_ofM (nt := 13) (rvs := [.cell 2 35]) Tryd.func48 rfl rfl rfl rfl (fun X hX => ?_)
  repeat' (first | exact aa | ((conv => whnf) <;> (first | refine And.intro ?_ ?_ | (intro _h; first | contradiction | (try simp only [dd] at _h)) | (refine dt_go ?_) | exact rfl | exact True.intro | exact dkk | exact dks | (refine .inr (.inl (.inl ⟨[], _, _, _, copyValues_e, viewA, ⟨rfl, rfl⟩, ?_⟩)); rintro _ _ ⟨rfl, rfl⟩; refine ⟨rfl, _, lokA, ?_⟩) | (refine wrap_succ ?_; omega))))
  all_goals (conv => whnf)
  all_goals exact endM_pick [2] [some tZ] (.agg [.i .i64 9, .i .i64 n, .s ByteArray.empty, .row 0 0]) (view_of rfl (.cons rfl (.self (rowPl_L fun _ => rfl)) .nil)) rfl rfl (fun k hk => by rw [hX] at hk; exact absurd hk (Nat.not_lt_zero _)) ⟨rfl, rfl⟩
set_option maxRecDepth 8000 in
theorem copyValues_t (l : List Int) (hl : l.length ≤ 8) : RetM env.P 35 [] [slL 4 vC l] (fun r H => r = .row 0 l.length ∧ H = [some (rowL 4 vCO l)]) := by
  refine ret_ofPM (nt := 20) (rvs := [.tmp 2]) Tryd.func35 rfl rfl rfl rfl (fun X hX => ?_)
  refine pw_cut 2 (fun _ : Unit => True) (fun _ => [(0, slL 4 vC l), (3, .row 0 0)]) (fun _ => [some (rowL 4 vCO [])]) ?_ (fun _ _ => ?_)
  · repeat' (first | exact aa | ((conv => whnf) <;> (first | refine And.intro ?_ ?_ | (intro _h; first | contradiction | (try simp only [dd] at _h)) | (refine dt_go ?_) | exact rfl | exact True.intro | exact dkk | exact dks | (refine wrap_succ ?_; omega))))
    conv => whnf
    refine cut_turn (turn_eq (id := 0) (x := rowL 4 vCO []) rfl rfl rfl rfl rfl (fun i j hi _ => absurd hi (Nat.not_lt_zero _))) ?_
    exact cut_go () trivial (by repeat' (first | exact trivial | refine And.intro rfl ?_)) (by repeat' (first | exact trivial | refine And.intro (.inl rfl) ?_ | refine And.intro (.inr rfl) ?_ | refine And.intro rfl ?_))
  refine wpc_ok _ _ _ _ ?_
  (try dsimp only)
  conv => whnf
  repeat' (first | exact aa | ((conv => whnf) <;> (first | exact arr_zero rfl rfl | exact low_cells rfl | refine loopFT (fun k : Nat => [(9, .i .i64 k), (3, .row 0 k)]) (fun k => [some (.arr ⟨4, k, elE vCO (l.take k), .arr⟩)]) (fun k => k ≤ l.length) (fun k => l.length - k) 0 ⟨Nat.zero_le _, ?_⟩ | refine And.intro ?_ ?_ | (intro _h; first | contradiction | (try simp only [dd] at _h)) | (refine dt_go ?_) | exact rfl | exact True.intro | exact dkk | exact dks | (refine .inr (.inl (.inl ⟨[], _, _, _, copyValue_t _, viewA, ⟨rfl, rfl⟩, ?_⟩)); rintro _ _ ⟨rfl, rfl⟩; refine ⟨rfl, _, lokA, ?_⟩) | (refine wrap_succ ?_; omega))))
  · rename_i k hk
    conv => whnf
    have hkl : k < l.length := by omega
    refine roundET_turn (turn_close (id := 4) (i := k) (j := 3) (id' := 2) rfl (Nat.lt_succ_self k) (show 3 < 4 by decide) cat_k rfl (show 4 ≠ 2 by decide) rfl (show RowO 0 tZ from rowO_L (sz := 4) (c := nonC) (l := []))) ?_
    refine roundET_turn (turn_eq (id := 4) (x := rowL 4 vCO (l.take (k + 1))) rfl rfl (show (l.take (k + 1)).length = k + 1 by rw [List.length_take]; omega) rfl rfl (snoc_num hkl rfl rfl rfl (.refl _))) ?_
    refine roundET_end ?_
    refine ⟨k + 1, [4], by omega, (show l.length - (k + 1) < l.length - k by omega), ?_⟩
    have hcap : (l.take (k + 1)).length = k + 1 := by rw [List.length_take]; omega
    repeat' (first | exact aa | ((conv => whnf) <;> (first | exact arr_same rfl hcap (fun a j => low_cells rfl) | exact hcap | exact low_cells rfl | exact lbz_rho hX ‹_› | refine And.intro ?_ ?_ | (intro _h; first | contradiction | (try simp only [dd] at _h)) | (refine dt_go ?_) | exact rfl | exact True.intro | exact dkk | exact dks | (refine wrap_succ ?_; omega))))
  · rename_i k hk
    conv => whnf
    obtain rfl : k = l.length := by omega
    rw [List.take_length]
    exact endM_pick [0] [some (rowL 4 vCO l)] (.row 0 l.length) (view_of rfl (.cons rfl (.self (rowPl_L fun _ => rfl)) .nil)) rfl rfl (fun k hk => by rw [hX] at hk; exact absurd hk (Nat.not_lt_zero _)) ⟨rfl, rfl⟩
end Go.Proofs.YtjepdbkphfemmaaDoor
