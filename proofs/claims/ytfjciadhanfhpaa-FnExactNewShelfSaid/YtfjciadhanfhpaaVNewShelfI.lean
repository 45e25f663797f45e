/-
  NewShelf: the program.
-/
import Derived.Test.YtfjciadhanfhpaaVNewShelfS
namespace Go.Proofs.Ytfjciadhanfhpaa
open Go Go.RowKit
set_option linter.unusedVariables false
set_option linter.unusedSimpArgs false

theorem wrap_u {n : Int} (h1 : 0 ≤ n) (h2 : n ≤ 9223372036854775807) : IntKind.u64.wrap n = n := by
  rw [IntKind.wrap_u64]; omega

def repE (q : Nat) : Nat → Nat → AV := fillE q (fun _ j => [AV.i .i64 1, AV.nils].getD j .any) (fun _ j => [AV.i .i64 0, AV.nils].getD j .any)

theorem repE_at {q i j : Nat} : repE q i j = if i < q then [AV.i .i64 1, AV.nils].getD j .any else [AV.i .i64 0, AV.nils].getD j .any := by
  unfold repE fillE
  by_cases h : i < q
  · rw [if_pos h, show Nat.blt i q = true from Nat.ble_eq_true_of_le h]; rfl
  · rw [if_neg h]
    have : Nat.blt i q = false := by
      cases hb : Nat.blt i q with
      | true => exact absurd (Nat.le_of_ble_eq_true hb) h
      | false => rfl
    rw [this]; rfl
theorem segE_at {o k i j : Nat} {g es : Nat → Nat → AV} : segE o k g es i j = if o ≤ i ∧ i < o + k then g (i - o) j else es i j := by
  by_cases h : o ≤ i ∧ i < o + k
  · rw [if_pos h, segE_in h.1 h.2]
  · rw [if_neg h, segE_out h]
theorem low_rep {r : List Nat} {n q i j : Nat} : fx r n (repE q i j) = true := low_fill (low_cells rfl) (low_cells rfl)

theorem srcOk_rep {n q : Nat} : SrcOk n 2 (repE q) := ⟨fun i j hi hj => by
  rw [repE_at]
  rcases (show j = 0 ∨ j = 1 by omega) with rfl | rfl <;> split <;> rfl⟩
/-- The slice of one new table, to be read. -/
def oneT : AV := .sl 2 1 fun _ j => [AV.i .i64 1, AV.nils].getD j .any

theorem consEq {α : Type} {a b : α} {l m : List α} (h : a = b) (r : l = m) : a :: l = b :: m := by rw [h, r]

set_option maxRecDepth 8000 in
theorem repeat_ok (m : Nat) (h : 1 ≤ m ∧ m ≤ 7) : RetM env.P 23 [] [oneT, .i .i64 m] (fun r H => r = .row 0 m ∧ H = [some (rowL 2 Table.csO (newT m))]) := by
  have hw : IntKind.u64.wrap (m : Int) = m := wrap_u (by omega) (by omega)
  have hw2 : IntKind.i64.wrap (IntKind.u64.wrap (m : Int)) = m := by rw [hw]; exact wrap_in (by omega) (by omega)
  have hw3 : (IntKind.i64.wrap (IntKind.u64.wrap (m : Int))).toNat = m := by rw [hw2]; rfl
  refine ret_ofM (nt := 48) (rvs := [.tmp 4]) Try.func23 rfl rfl rfl rfl (fun X hX => ?_)
  repeat' (first | exact aa | ((conv => whnf) <;> (first | (show (140737488355328 : Int) ≤ _; skip) | (show (32 : Int) * _ ≤ 281474976710656; omega) | exact srcOk_rep | (show (_ : Int) ≤ (m : Int); omega) | refine loopF (fun q : Nat => [(7, .row 0 m), (8, .i .i64 q)]) (fun q => [some (.arr ⟨2, m, repE q, .arr⟩)]) (fun q => 1 ≤ q ∧ q ≤ m) (fun q => m - q) 1 ⟨⟨Nat.le_refl _, by omega⟩, ?_⟩ | refine And.intro ?_ ?_ | (intro _h; first | contradiction | (try simp only [dd] at _h)) | (refine dt_go ?_) | exact rfl | exact True.intro | exact dkk | exact dks | ((first | refine .inl ⟨_, mul_ok (IntKind.u64.wrap (m : Int)) (by rw [hw]; omega), ?_⟩ | refine ⟨_, mul_ok (IntKind.u64.wrap (m : Int)) (by rw [hw]; omega), ?_⟩); (try rintro _ rfl)) | (refine wrap_succ ?_; omega))))
  · conv => whnf
    refine ⟨rfl, hw3, rfl, fun i j hi hj => ?_, fun i j _ _ => low_rep⟩
    dsimp only
    rw [segE_at, repE_at, hw3]
    by_cases hi1 : i < 1
    · rw [if_pos (by omega), if_pos hi1]
    · rw [if_neg (by omega), if_neg hi1]
  · rename_i q hI
    refine ⟨q + min q (m - q), [], ⟨by omega, by omega⟩, (by show m - _ < m - q; omega), ?_⟩
    repeat' (first | exact aa | ((conv => whnf) <;> (first | refine And.intro ?_ ?_ | (intro _h; first | contradiction | (try simp only [dd] at _h)) | (refine dt_go ?_) | exact rfl | exact True.intro | exact dkk | exact dks | (refine wrap_succ ?_; omega))))
    · rw [wrap_in (by omega) (by omega)]; omega
    · repeat' (first | rfl | refine consEq ?_ ?_ | (show AV.row _ m = AV.row _ _; rw [hw3]))
    · conv => whnf
      refine ⟨rfl, rfl, rfl, fun i j hi hj => ?_, fun i j _ _ => low_rep⟩
      dsimp only
      rw [segE_at, repE_at, repE_at, repE_at]
      have hj' : j < 2 := hj
      have hi' : i < m := hi
      by_cases h1 : i < q
      · rw [if_neg (by omega), if_pos h1, if_pos (by omega)]
      · by_cases h2 : i < q + min q (m - q)
        · rw [if_pos (by omega), if_pos (by omega), if_pos h2]
        · rw [if_neg (by omega), if_neg h1, if_neg h2]
  · rename_i q hI
    obtain rfl : q = m := by omega
    refine endM_turn (turn_eq (id := 0) (x := rowL 2 Table.csO (newT q)) rfl rfl (newT_len q) rfl rfl (fun i j hi hj => ?_)) (endM_self ⟨rfl, rfl⟩)
    have hj' : j < 2 := hj
    have hi' : i < q := hi
    show OwEq (repE q i j) (elE Table.csO (newT q) i j)
    rw [repE_at, if_pos hi']
    unfold elE
    rw [newT_at hi']
    rcases (show j = 0 ∨ j = 1 by omega) with rfl | rfl
    · exact .refl _
    · exact .nil _ _

set_option maxRecDepth 8000 in
theorem newShelf_impl (n : Int) : RetM env.P 7 [] [.i .i64 n] (newR n) := by
  by_cases h : 1 ≤ n ∧ n ≤ 7
  · obtain ⟨m, rfl⟩ : ∃ m : Nat, n = m := ⟨n.toNat, by omega⟩
    refine ret_ofM (nt := 13) (rvs := [.cell 2 25, .tmp 3]) Try.func7 rfl rfl rfl rfl (fun X hX => ?_)
    repeat' (first | exact aa | ((conv => whnf) <;> (first | (refine .inr (.inl (.inr ⟨_, RetM.wk (.cons (Wk.sl fun i j hi hj => by obtain rfl : i = 0 := (by omega); rcases (show j = 0 ∨ j = 1 by have hj' : j < 2 := hj; omega) with rfl | rfl <;> exact .refl _) (.cons (.refl _) .nil)) (repeat_ok m (by omega)), ?_⟩)); rintro _ _ ⟨rfl, rfl⟩; refine ⟨⟨rfl, (by repeat' (first | exact rowsNs_nil | refine rowsNs_cons ?_ ?_ | refine rowsNs_none ?_ | exact rowNs_L))⟩, _, lokA, ?_⟩) | refine And.intro ?_ ?_ | (intro _h; first | contradiction | (try simp only [dd] at _h)) | (refine dt_go ?_) | exact rfl | exact True.intro | exact dkk | exact dks | ((first | refine .inl ⟨_, within_ok _ _ _, ?_⟩ | refine ⟨_, within_ok _ _ _, ?_⟩); (try rintro _ rfl)) | (refine wrap_succ ?_; omega))))
    exact endM_pick [2] [some (rowL 2 Table.csO (newT m))] (.tup [.agg [.i .i64 1, .row 0 m, .nils], .i .i64 0]) (view_of rfl (.cons rfl (.self (rowPl_L fun _ => rfl)) .nil)) rfl rfl (fun k hk => by rw [hX] at hk; exact absurd hk (Nat.not_lt_zero _)) (.inr ⟨m, rfl, by omega, rfl, rfl⟩)
  · refine ret_ofM (nt := 13) (rvs := [.cell 2 25, .tmp 3]) Try.func7 rfl rfl rfl rfl (fun X hX => ?_)
    repeat' (first | exact aa | ((conv => whnf) <;> (first | refine And.intro ?_ ?_ | (intro _h; first | contradiction | (try simp only [dd] at _h)) | (refine dt_go ?_) | exact rfl | exact True.intro | exact dkk | exact dks | ((first | refine .inl ⟨_, within_ok _ _ _, ?_⟩ | refine ⟨_, within_ok _ _ _, ?_⟩); (try rintro _ rfl)) | (refine wrap_succ ?_; omega))))
    exact endM_pick [] [] (.tup [.agg [.i .i64 0, .nils, .nils], .i .i64 2]) (view_of rfl .nil) rfl rfl (fun k hk => by rw [hX] at hk; exact absurd hk (Nat.not_lt_zero _)) (.inl ⟨h, rfl, rfl⟩)
end Go.Proofs.Ytfjciadhanfhpaa
