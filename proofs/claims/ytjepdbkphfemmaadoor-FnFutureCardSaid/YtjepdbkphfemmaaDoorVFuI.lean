/-
  Streams of numbers: read.
-/
import Derived.Test.YtjepdbkphfemmaaDoorVFuH
namespace Go.Proofs.YtjepdbkphfemmaaDoor
open Go Go.RowKit
set_option linter.unusedVariables false
set_option linter.unusedSimpArgs false

theorem OwTo.rs0m {H : Hp} {q o m sz : Nat} {g : Nat → Nat → AV} {r : Row} (hm : m = 0) (h : H[q]? = some (some r)) : OwTo H (.rs q o m) (.sl sz 0 g) := by subst hm; exact .rs0 h
/-- What is held when all is read. -/
def fuY : List AV := [.i .i64 9, .s ByteArray.empty, .nils, owL 4 nonC [], .i .i64 1, .b true, slL 4 vC [], .i .i64 1, .i .i64 1, .b true, .b false]
set_option maxRecDepth 8000 in
set_option maxHeartbeats 4000000 in
theorem readF_t (n k : Int) (h : n64 n) (hk : 1 ≤ k ∧ k ≤ 8) : RetM env.P 21 [some (boxRow (fuO [n] 1 0 true))] [.ptr 0 0 0, .i .i64 k] (fun r H => r = .tup [.row 1 1, .i .i64 0] ∧ H = [some (boxRow fuY), some (rowL 4 vCO [n])]) := by
  have hw := within_t hk
  have hm : (if (([n] : List Int).length : Nat) < k then ((([n] : List Int).length : Nat) : Int) else k) = 1 := by
    show (if ((1 : Nat) : Int) < k then ((1 : Nat) : Int) else k) = 1
    split <;> omega
  have hm2 : (if (([n] : List Int).length : Nat) < k then ((([n] : List Int).length : Nat) : Int) else k).toNat = ([n] : List Int).length := by rw [hm]; rfl
  have hm3 : (if (([n] : List Int).length : Nat) < k then ((([n] : List Int).length : Nat) : Int) else k) ≤ ((([n] : List Int).length : Nat) : Int) := by rw [hm]; exact Int.le_refl 1
  have hm5 : (((([n] : List Int).length : Nat) : Int) - (if (([n] : List Int).length : Nat) < k then ((([n] : List Int).length : Nat) : Int) else k)).toNat = 0 := by rw [hm]; rfl
  have hm6 : IntKind.i64.wrap (0 + (if (([n] : List Int).length : Nat) < k then ((([n] : List Int).length : Nat) : Int) else k)) = 1 := by rw [hm]; decide
  have hm4 : (0 : Int) ≤ (if (([n] : List Int).length : Nat) < k then ((([n] : List Int).length : Nat) : Int) else k) := by rw [hm]; omega
  refine ret_ofM (nt := 62) (rvs := [.tmp 4, .tmp 5]) Tryd.func21 rfl rfl rfl rfl (fun X hX => ?_)
  repeat' (first | exact aa | ((conv => whnf) <;> (first | exact hm3 | exact hm4 | exact Int.le_refl _ | ((refine .inr (.inl (.inr (.inl ⟨_, RetM.wk (.cons (shr_L (d := 1) (k := 3) hm2) .nil) (copyValues_t [n] (Nat.succ_le_succ (Nat.zero_le _))), ?_⟩))); rintro _ _ ⟨rfl, rfl⟩; refine ⟨⟨rfl, nssA⟩, _, lokA, ?_⟩)) | (refine dt_turn (turn_open (id := 0) (i := 0) (j := 3) rfl (show 0 < 1 by decide) (show 3 < 11 by decide) rfl) ?_; refine dt_turn (turn_open (id := 0) (i := 0) (j := 6) rfl (show 0 < 1 by decide) (show 6 < 11 by decide) rfl) ?_; refine dt_go ?_) | refine And.intro ?_ ?_ | (intro _h; first | contradiction | (try simp only [dd] at _h)) | (refine dt_go ?_) | exact rfl | exact True.intro | exact dkk | exact dks | ((first | refine .inl ⟨_, hw, ?_⟩ | refine ⟨_, hw, ?_⟩); (try rintro _ rfl)) | ((first | refine .inl ⟨_, Ret.wka (sizeV_t [n] (Nat.succ_le_succ (Nat.zero_le _))), ?_⟩ | refine ⟨_, Ret.wka (sizeV_t [n] (Nat.succ_le_succ (Nat.zero_le _))), ?_⟩); (try rintro _ rfl)) | (refine wrap_succ ?_; omega))))
  all_goals (try (conv => whnf))
  refine endM_turn (turn_boxG (id := 0) (ds := fuY) rfl rfl rfl (.cons (.eq (.refl _)) (.cons (.eq (.refl _)) (.cons (.eq (.refl _)) (.cons (.eq (.refl _)) (.cons (.eq (.refl _)) (.cons (.eq (.refl _)) (.cons (OwTo.rs0m hm5 rfl) (.cons (.eq (.refl _)) (.cons (.eq (owEq_i hm6)) (.cons (.eq (.refl _)) (.cons (.eq (.refl _)) (.nil))))))))))))) ?_
  exact endM_pick [0, 2] [some (boxRow fuY), some (rowL 4 vCO [n])] (.tup [.row 1 1, .i .i64 0]) (view_of rfl (.cons rfl (.self (rowPl_box rfl)) (.cons rfl (.self (rowPl_L fun _ => rfl)) .nil))) rfl rfl (by rw [hX]; exact keepK (n := 1) rfl rfl) ⟨rfl, rfl⟩
/-- A stream of which all is read, as it is handed back. -/
def fuYR : List AV := [.i .i64 9, .s ByteArray.empty, .nils, .row 0 0, .i .i64 1, .b true, slL 4 vC [], .i .i64 1, .i .i64 1, .b true, .b false]
set_option maxRecDepth 8000 in
set_option maxHeartbeats 4000000 in
theorem readStreamF_t (n k : Int) (h : n64 n) (hk : 1 ≤ k ∧ k ≤ 8) : RetM env.P 9 [] [.agg (fuC [n] 1 0 true), .i .i64 k] (fun r H => r = .tup [.agg fuYR, .row 1 1, .i .i64 0] ∧ H = [some tZ, some (rowL 4 vCO [n])]) := by
  refine ret_ofM (nt := 27) (rvs := [.cell 4 30, .tmp 5, .tmp 6]) Tryd.func9 rfl rfl rfl rfl (fun X hX => ?_)
  repeat' (first | exact aa | ((conv => whnf) <;> (first | (refine .inr (.inr ⟨[some (boxRow (fuC [n] 1 0 true)), some (boxRow fuZ), none, none, some (boxRow (fuO [n] 1 0 true))], (by intro X; exact fu_close [n] 1 0 true rfl), (fun i _ q => (by cases q)), .inl ⟨[4], _, _, _, readF_t n k h hk, (view_of rfl (.cons rfl (.self (rowPl_box rfl)) .nil)), ⟨rfl, rfl⟩, ?_⟩⟩); rintro _ _ ⟨rfl, rfl⟩; refine ⟨rfl, _, (lok_pl (.cons (rowPl_box rfl) (.cons (rowPl_L fun _ => rfl) .nil))), ?_⟩) | refine And.intro ?_ ?_ | (intro _h; first | contradiction | (try simp only [dd] at _h)) | (refine dt_go ?_) | exact rfl | exact True.intro | exact dkk | exact dks | ((first | refine .inl ⟨_, streamOk_t _ _ _ _ (fuOk_1 h true), ?_⟩ | refine ⟨_, streamOk_t _ _ _ _ (fuOk_1 h true), ?_⟩); (try rintro _ rfl)) | (refine .inr (.inl (.inl ⟨[], _, _, _, copyStream_t [n] (Nat.succ_le_succ (Nat.zero_le _)) 1 0 true, viewA, ⟨rfl, rfl⟩, ?_⟩)); rintro _ _ ⟨rfl, rfl⟩; refine ⟨rfl, _, lokA, ?_⟩) | (refine wrap_succ ?_; omega))))
  all_goals (first | contradiction | skip)
  all_goals (conv => whnf)
  all_goals exact endM_pick [6, 5] [some tZ, some (rowL 4 vCO [n])] (.tup [.agg fuYR, .row 1 1, .i .i64 0]) (view_of rfl (.cons rfl (.self (rowPl_L fun _ => rfl)) (.cons rfl (.self (rowPl_L fun _ => rfl)) .nil))) rfl rfl (fun k hk => by rw [hX] at hk; exact absurd hk (Nat.not_lt_zero _)) ⟨rfl, rfl⟩
end Go.Proofs.YtjepdbkphfemmaaDoor
