/-
  Types that are drawn: labels.
-/
import Derived.Test.YtnppkgmodflkdaaGreatVTpF
import Derived.Test.YtnppkgmodflkdaaGreatVSrS
import Derived.Test.YtnppkgmodflkdaaGreatVFz
import Derived.Test.YtnppkgmodflkdaaGreatVLz
import Derived.Test.YtnppkgmodflkdaaGreatVDt
namespace Go.Proofs.YtnppkgmodflkdaaGreat
open Go Go.RowKit
set_option linter.unusedVariables false
set_option linter.unusedSimpArgs false
attribute [local irreducible] IntKind.wrap

def nm6 : List ByteArray := [⟨#[97]⟩, ⟨#[98]⟩, ⟨#[105, 100]⟩, ⟨#[109, 97, 120, 45, 115, 105, 122, 101]⟩, ⟨#[120, 49]⟩, ⟨#[110, 97, 109, 101]⟩]
/-- The first k labels from a place. -/
def unL (p : Nat) : Nat → List ByteArray
  | 0 => []
  | k + 1 => unL p k ++ [nm6.getD ((p + k) % 6) default]
theorem unL_len (p : Nat) : ∀ k, (unL p k).length = k
  | 0 => rfl
  | k + 1 => by show (unL p k ++ [_]).length = _; rw [List.length_append, unL_len p k]; rfl
theorem rem6 {v k : Int} (h0 : 0 ≤ v) (h1 : v < 6) (h2 : 0 ≤ k) (h3 : k ≤ 10) : (IntKind.i64.wrap (v + k)).tmod 6 = ((v.toNat + k.toNat) % 6 : Nat) := by
  rw [wrap_in (by omega) (by omega), Int.tmod_eq_emod_of_nonneg (by omega)]
  omega
theorem rem6_lo {v : Int} {k : Nat} (h : 0 ≤ v ∧ (v = 0 ∨ v < 6)) (hk : (k : Int) ≤ 10) : 0 ≤ (IntKind.i64.wrap (v + k)).tmod 6 := by
  rw [rem6 h.1 (by omega) (by omega) hk]; omega
theorem rem6_hi {v : Int} {k : Nat} (h : 0 ≤ v ∧ (v = 0 ∨ v < 6)) (hk : (k : Int) ≤ 10) : (IntKind.i64.wrap (v + k)).tmod 6 < ((6 : Nat) : Int) := by
  rw [rem6 h.1 (by omega) (by omega) hk]; omega
theorem low_lit {r : List Nat} {n i j : Nat} {css : List (List AV)} (h : css.all (fun cs => cs.all (low1 0)) = true) : fx r n (litE css i j) = true := by
  unfold litE
  refine low_cells ?_
  by_cases hi : i < css.length
  · rw [List.getD_eq_getElem?_getD, List.getElem?_eq_getElem hi]
    exact List.all_eq_true.1 h _ (List.getElem_mem hi)
  · rw [List.getD_eq_getElem?_getD, List.getElem?_eq_none (by omega)]
    rfl
theorem lit6 (i j : Nat) (hi : i < 6) (hj : j < 1) : OwEq (litE (nm6.map fun n => [AV.s n]) i j) (elE strC nm6 i j) := by
  obtain rfl : j = 0 := by omega
  rw [litS_at nm6 hi]
  exact .refl _
theorem un_at {v : Int} {k : Nat} (h : 0 ≤ v ∧ (v = 0 ∨ v < 6)) (hk : (k : Int) ≤ 10) : OwEq (.s (nm6.getD ((IntKind.i64.wrap (v + k)).tmod 6).toNat default)) (.s (nm6.getD ((v.toNat + k) % 6) default)) := by
  rw [rem6 h.1 (by omega) (by omega) hk, Int.toNat_natCast, Int.toNat_natCast]
  exact .refl _
theorem rho_1 {X : Ctx} {x : Option Row} {r : List Nat} {q : Nat} (hX : X.H0 = [x]) (h : q < X.H0.length) (h0 : rhoF r 0 = 0) : rhoF r q = q := by
  rw [hX] at h
  obtain rfl : q = 0 := Nat.lt_one_iff.1 h
  exact h0
set_option maxRecDepth 8000 in
set_option maxHeartbeats 2000000 in
theorem l03Unlike_ok (s : Src) (h : s.rm 1) (many : Int) (h0 : 0 ≤ many) (h1 : many ≤ 10) : RetM env.P 101 [some (boxRow s.cs)] [.ptr 0 0 0, .i .i64 many] (fun r H => ∃ (p : Nat) (t : Src), p < 6 ∧ (s.at' ≤ t.at' ∧ t.at' ≤ s.at' + 1 ∧ t.code.length = s.code.length) ∧ r = .row 1 (unL p many.toNat).length ∧ H = [some (boxRow t.cs), some (rowL 1 strC (unL p many.toNat))]) := by
  have hof : ∀ p k : Nat, k ≤ 10 → (unL p k).length ≤ 1000 := fun p k hk => by rw [unL_len]; omega
  refine ret_ofM (nt := 29) (rvs := [.tmp 4]) Tryz.func101 rfl rfl rfl rfl (fun X hX => ?_)
  repeat' (first | exact aa | ((conv => whnf) <;> (first | (refine dt_goH 0 [] rfl ?_) | (refine lw_del 12 ?_; refine lw_turn _ (turn_eq (id := 1) (x := rowL 1 strC nm6) rfl rfl rfl rfl rfl lit6) ?_; refine loopFT (fun k : Nat => [(8, .i .i64 k), (7, .row 2 (unL v.toNat k).length)]) (fun k => [none, none, some (.arr ⟨1, (unL v.toNat k).length, elE strC (unL v.toNat k), .arr⟩)]) (fun k => k ≤ many.toNat) (fun k => many.toNat - k) 0 ⟨Nat.zero_le _, ?_⟩) | exact lbz_zero rfl rfl | exact low_cells rfl | exact lbz_capC (hof _ _ (by omega)) (show 16 ≤ 1000 by decide) | exact lbz_capM (hof _ _ (by omega)) | exact srcOk_1 rfl | exact low_lit rfl | exact rem6_lo hv (by omega) | exact rem6_hi hv (by omega) | refine And.intro ?_ ?_ | (intro _h; first | contradiction | (try simp only [dd] at _h)) | (refine dt_go ?_) | exact rfl | exact True.intro | exact dkk | exact dks | (refine .inr (.inl (.inl ⟨[0], _, _, _, pick_ex s h 6 (by decide), viewA, ⟨rfl, rfl⟩, ?_⟩)); rintro _ _ ⟨v, t, hv, ht, rfl, rfl⟩; refine ⟨rfl, _, lokA, ?_⟩) | (refine wrap_succ ?_; omega))))
  all_goals (try simp only [Int.toNat_natCast] at *)
  all_goals first
    | (fail_if_success (have hk : ¬ (_ : Int) < many := ‹_›)
       rename_i k _
       have hk : k < many.toNat := by omega
       conv => whnf
       refine roundET_turn (turn_eq (id := 4) (x := rowL 1 strC (unL v.toNat (k + 1))) rfl rfl lbz_len.symm rfl rfl (snoc_eq (l := unL v.toNat k) (sz := 1) (a := nm6.getD ((v.toNat + k) % 6) default) (c := strC) rfl (fun j hj => by
         obtain rfl : j = 0 := by omega
         exact un_at hv (by omega)))) ?_
       refine roundET_end ?_
       refine ⟨k + 1, [0, 1, 4], hk, (by show many.toNat - (k + 1) < many.toNat - k; omega), ?_⟩
       repeat' (first | exact aa | ((conv => whnf) <;> (first | exact arr_same rfl rfl (fun a j => low_cells rfl) | exact low_cells rfl | exact lbz_len | exact rho_1 hX ‹_› rfl | exact rfl | refine And.intro ?_ ?_ | (intro _h; first | contradiction | (try simp only [dd] at _h)) | (refine dt_go ?_) | exact rfl | exact True.intro | exact dkk | exact dks | (refine wrap_succ ?_; omega)))))
    | skip
  · rename_i k _
    conv => whnf
    have hk : k = many.toNat := by omega
    subst hk
    exact endM_pick [0, 2] [some (boxRow t.cs), some (rowL 1 strC (unL v.toNat many.toNat))] (.row 1 (unL v.toNat many.toNat).length) (view_of rfl (.cons rfl (.self (rowPl_box rfl)) (.cons rfl (.self (rowPl_L fun _ => rfl)) .nil))) rfl rfl (by rw [hX]; exact keepK (n := 1) rfl rfl) ⟨v.toNat, t, by omega, ht, rfl, rfl⟩
end Go.Proofs.YtnppkgmodflkdaaGreat
