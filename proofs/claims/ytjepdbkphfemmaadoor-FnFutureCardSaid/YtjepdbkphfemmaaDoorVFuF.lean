/-
  Streams of numbers: shut.
-/
import Derived.Test.YtjepdbkphfemmaaDoorVFuE
namespace Go.Proofs.YtjepdbkphfemmaaDoor
open Go Go.RowKit
set_option linter.unusedVariables false
set_option linter.unusedSimpArgs false

theorem fuOk_e : FuOk [] 0 0 false := ⟨⟨Nat.zero_le _, fun k hk => absurd hk (Nat.not_lt_zero _)⟩, Nat.zero_le _, ⟨by omega, by omega, by omega⟩, rfl, fun h => by cases h⟩
theorem numL_1 {n : Int} (h : n64 n) : NumL [n] := ⟨Nat.succ_le_succ (Nat.zero_le _), fun k hk => by
  obtain rfl : k = 0 := Nat.lt_one_iff.1 hk
  exact h⟩
theorem fuOk_1 {n : Int} (h : n64 n) (b : Bool) : FuOk [n] 1 0 b := ⟨numL_1 h, Nat.le_refl _, ⟨by omega, by omega, by omega⟩, rfl, fun _ => rfl⟩
theorem fuOk_z : FuOk [] 1 1 true := ⟨⟨Nat.zero_le _, fun k hk => absurd hk (Nat.not_lt_zero _)⟩, Nat.zero_le _, ⟨by omega, by omega, by omega⟩, rfl, fun _ => rfl⟩
/-- The rows of a copy, closed. -/
theorem fu_close {X : Ctx} {A B : Option Row} (l : List Int) (put got : Int) (shut : Bool) {es : Nat → Nat → AV} (he : cellsAt (es 0) 0 11 = [.i .i64 9, .s ByteArray.empty, .nils, .row 2 0, .i .i64 1, .b true, .row 3 l.length, .i .i64 put, .i .i64 got, .b shut, .b false]) :
    Turn X [A, B, some tZ, some (rowL 4 vCO l), some ⟨11, 1, es, .box⟩] [A, B, none, none, some (boxRow (fuO l put got shut))] := by
  have t1 : Turn X [A, B, some tZ, some (rowL 4 vCO l), some ⟨11, 1, es, .box⟩] [A, B, some tZ, some (rowL 4 vCO l), some (boxRow [.i .i64 9, .s ByteArray.empty, .nils, .row 2 0, .i .i64 1, .b true, .row 3 l.length, .i .i64 put, .i .i64 got, .b shut, .b false])] :=
    turn_box (id := 4) (ds := [.i .i64 9, .s ByteArray.empty, .nils, .row 2 0, .i .i64 1, .b true, .row 3 l.length, .i .i64 put, .i .i64 got, .b shut, .b false]) rfl rfl rfl (by
      show OwEqL (cellsAt (es 0) 0 11) _
      rw [he]
      exact .cons (.refl _) (.cons (.refl _) (.cons (.refl _) (.cons (.refl _) (.cons (.refl _) (.cons (.refl _) (.cons (.refl _) (.cons (.refl _) (.cons (.refl _) (.cons (.refl _) (.cons (.refl _) .nil)))))))))))
  have t2 : Turn X [A, B, some tZ, some (rowL 4 vCO l), some (boxRow [.i .i64 9, .s ByteArray.empty, .nils, .row 2 0, .i .i64 1, .b true, .row 3 l.length, .i .i64 put, .i .i64 got, .b shut, .b false])] [A, B, none, some (rowL 4 vCO l), some (boxRow [.i .i64 9, .s ByteArray.empty, .nils, owL 4 nonC [], .i .i64 1, .b true, .row 3 l.length, .i .i64 put, .i .i64 got, .b shut, .b false])] :=
    turn_closeB (H := [A, B, some tZ, some (rowL 4 vCO l), some (boxRow [.i .i64 9, .s ByteArray.empty, .nils, .row 2 0, .i .i64 1, .b true, .row 3 l.length, .i .i64 put, .i .i64 got, .b shut, .b false])]) (n := 0) (cs := [.i .i64 9, .s ByteArray.empty, .nils, .row 2 0, .i .i64 1, .b true, .row 3 l.length, .i .i64 put, .i .i64 got, .b shut, .b false]) (id := 4) (j := 3) (id' := 2) (r' := tZ) rfl rfl rfl (show 4 ≠ 2 by decide) rfl (show RowO 0 tZ from rowO_L (sz := 4) (c := nonC) (l := []))
  have t3 : Turn X [A, B, none, some (rowL 4 vCO l), some (boxRow [.i .i64 9, .s ByteArray.empty, .nils, owL 4 nonC [], .i .i64 1, .b true, .row 3 l.length, .i .i64 put, .i .i64 got, .b shut, .b false])] [A, B, none, none, some (boxRow (fuO l put got shut))] :=
    turn_closeB (H := [A, B, none, some (rowL 4 vCO l), some (boxRow [.i .i64 9, .s ByteArray.empty, .nils, owL 4 nonC [], .i .i64 1, .b true, .row 3 l.length, .i .i64 put, .i .i64 got, .b shut, .b false])]) (n := l.length) (cs := [.i .i64 9, .s ByteArray.empty, .nils, owL 4 nonC [], .i .i64 1, .b true, .row 3 l.length, .i .i64 put, .i .i64 got, .b shut, .b false]) (id := 4) (j := 6) (id' := 3) (r' := rowL 4 vCO l) rfl rfl rfl (show 4 ≠ 3 by decide) rfl (rowO_le (Nat.le_refl _))
  exact t1.trans (t2.trans t3)
set_option maxRecDepth 8000 in
set_option maxHeartbeats 4000000 in
theorem changedE_t : RetM env.P 13 [] [.agg (fuC [] 0 0 false), .fn 14 []] (fun r H => r = .tup [.agg fuZ, .i .i64 3] ∧ H = []) := by
  refine ret_ofM (nt := 21) (rvs := [.cell 4 30, .tmp 5]) Tryd.func13 rfl rfl rfl rfl (fun X hX => ?_)
  repeat' (first | exact aa | ((conv => whnf) <;> (first | (refine .inr (.inr ⟨[some (boxRow (fuC [] 0 0 false)), some (boxRow fuZ), none, none, some (boxRow (fuO [] 0 0 false))], (by intro X; exact fu_close [] 0 0 false rfl), (fun i _ q => (by cases q)), .inl ⟨[4], _, _, _, shutE_t, (view_of rfl (.cons rfl (.self (rowPl_box rfl)) .nil)), ⟨rfl, rfl⟩, ?_⟩⟩); rintro _ _ ⟨rfl, rfl⟩; refine ⟨rfl, _, (lok_pl (.cons (rowPl_box rfl) .nil)), ?_⟩) | refine And.intro ?_ ?_ | (intro _h; first | contradiction | (try simp only [dd] at _h)) | (refine dt_go ?_) | exact rfl | exact True.intro | exact dkk | exact dks | ((first | refine .inl ⟨_, streamOk_t _ _ _ _ fuOk_e, ?_⟩ | refine ⟨_, streamOk_t _ _ _ _ fuOk_e, ?_⟩); (try rintro _ rfl)) | (refine .inr (.inl (.inl ⟨[], _, _, _, copyStream_t [] (Nat.zero_le _) 0 0 false, viewA, ⟨rfl, rfl⟩, ?_⟩)); rintro _ _ ⟨rfl, rfl⟩; refine ⟨rfl, _, lokA, ?_⟩) | (refine wrap_succ ?_; omega))))
  all_goals (first | contradiction | skip)
  all_goals (conv => whnf)
  all_goals exact endM_pick [] [] (.tup [.agg fuZ, .i .i64 3]) (view_of rfl .nil) rfl rfl (fun k hk => by rw [hX] at hk; exact absurd hk (Nat.not_lt_zero _)) ⟨rfl, rfl⟩
set_option maxRecDepth 8000 in
set_option maxHeartbeats 4000000 in
theorem changedF_t (n : Int) (h : n64 n) : RetM env.P 13 [] [.agg (fuC [n] 1 0 false), .fn 14 []] (fun r H => r = .tup [.agg (fuR [n] 1 0 true), .i .i64 0] ∧ H = [some tZ, some (rowL 4 vCO [n])]) := by
  refine ret_ofM (nt := 21) (rvs := [.cell 4 30, .tmp 5]) Tryd.func13 rfl rfl rfl rfl (fun X hX => ?_)
  repeat' (first | exact aa | ((conv => whnf) <;> (first | (refine .inr (.inr ⟨[some (boxRow (fuC [n] 1 0 false)), some (boxRow fuZ), none, none, some (boxRow (fuO [n] 1 0 false))], (by intro X; exact fu_close [n] 1 0 false rfl), (fun i _ q => (by cases q)), .inl ⟨[4], _, _, _, shutF_t n, (view_of rfl (.cons rfl (.self (rowPl_box rfl)) .nil)), ⟨rfl, rfl⟩, ?_⟩⟩); rintro _ _ ⟨rfl, rfl⟩; refine ⟨rfl, _, (lok_pl (.cons (rowPl_box rfl) .nil)), ?_⟩) | refine And.intro ?_ ?_ | (intro _h; first | contradiction | (try simp only [dd] at _h)) | (refine dt_go ?_) | exact rfl | exact True.intro | exact dkk | exact dks | ((first | refine .inl ⟨_, streamOk_t _ _ _ _ (fuOk_1 h false), ?_⟩ | refine ⟨_, streamOk_t _ _ _ _ (fuOk_1 h false), ?_⟩); (try rintro _ rfl)) | (refine .inr (.inl (.inl ⟨[], _, _, _, copyStream_t [n] (Nat.succ_le_succ (Nat.zero_le _)) 1 0 false, viewA, ⟨rfl, rfl⟩, ?_⟩)); rintro _ _ ⟨rfl, rfl⟩; refine ⟨rfl, _, lokA, ?_⟩) | (refine wrap_succ ?_; omega))))
  all_goals (first | contradiction | skip)
  all_goals (conv => whnf)
  all_goals exact endM_pick [5, 6] [some tZ, some (rowL 4 vCO [n])] (.tup [.agg (fuR [n] 1 0 true), .i .i64 0]) (view_of rfl (.cons rfl (.self (rowPl_L fun _ => rfl)) (.cons rfl (.self (rowPl_L fun _ => rfl)) .nil))) rfl rfl (fun k hk => by rw [hX] at hk; exact absurd hk (Nat.not_lt_zero _)) ⟨rfl, rfl⟩
set_option maxRecDepth 8000 in
theorem shutStreamE_t : RetM env.P 7 [] [.agg (fuC [] 0 0 false)] (fun r H => r = .tup [.agg fuZ, .i .i64 3] ∧ H = []) := by
  refine ret_ofM (nt := 8) (rvs := [.cell 2 30, .tmp 3]) Tryd.func7 rfl rfl rfl rfl (fun X hX => ?_)
  repeat' (first | exact aa | ((conv => whnf) <;> (first | refine And.intro ?_ ?_ | (intro _h; first | contradiction | (try simp only [dd] at _h)) | (refine dt_go ?_) | exact rfl | exact True.intro | exact dkk | exact dks | (refine .inr (.inl (.inl ⟨[], _, _, _, changedE_t, viewA, ⟨rfl, rfl⟩, ?_⟩)); rintro _ _ ⟨rfl, rfl⟩; refine ⟨rfl, _, lokA, ?_⟩) | (refine wrap_succ ?_; omega))))
  all_goals (conv => whnf)
  all_goals exact endM_pick [] [] (.tup [.agg fuZ, .i .i64 3]) (view_of rfl .nil) rfl rfl (fun k hk => by rw [hX] at hk; exact absurd hk (Nat.not_lt_zero _)) ⟨rfl, rfl⟩
set_option maxRecDepth 8000 in
theorem shutStreamF_t (n : Int) (h : n64 n) : RetM env.P 7 [] [.agg (fuC [n] 1 0 false)] (fun r H => r = .tup [.agg (fuR [n] 1 0 true), .i .i64 0] ∧ H = [some tZ, some (rowL 4 vCO [n])]) := by
  refine ret_ofM (nt := 8) (rvs := [.cell 2 30, .tmp 3]) Tryd.func7 rfl rfl rfl rfl (fun X hX => ?_)
  repeat' (first | exact aa | ((conv => whnf) <;> (first | refine And.intro ?_ ?_ | (intro _h; first | contradiction | (try simp only [dd] at _h)) | (refine dt_go ?_) | exact rfl | exact True.intro | exact dkk | exact dks | (refine .inr (.inl (.inl ⟨[], _, _, _, changedF_t n h, viewA, ⟨rfl, rfl⟩, ?_⟩)); rintro _ _ ⟨rfl, rfl⟩; refine ⟨rfl, _, lokA, ?_⟩) | (refine wrap_succ ?_; omega))))
  all_goals (conv => whnf)
  all_goals exact endM_pick [2, 3] [some tZ, some (rowL 4 vCO [n])] (.tup [.agg (fuR [n] 1 0 true), .i .i64 0]) (view_of rfl (.cons rfl (.self (rowPl_L fun _ => rfl)) (.cons rfl (.self (rowPl_L fun _ => rfl)) .nil))) rfl rfl (fun k hk => by rw [hX] at hk; exact absurd hk (Nat.not_lt_zero _)) ⟨rfl, rfl⟩
set_option maxRecDepth 8000 in
theorem isOver_t : Ret env.P 10 [.agg (fuC [] 1 1 true)] (fun r => r = .b true) := by
  refine ret_of (nt := 15) (rvs := [.tmp 2]) Tryd.func10 rfl rfl rfl rfl (fun X => ?_)
  repeat' (first | exact aa | ((conv => whnf) <;> (first | refine And.intro ?_ ?_ | (intro _h; first | contradiction | (try simp only [dd] at _h)) | (refine dt_go ?_) | exact rfl | exact True.intro | exact dkk | exact dks | ((first | refine .inl ⟨_, streamOk_t _ _ _ _ fuOk_z, ?_⟩ | refine ⟨_, streamOk_t _ _ _ _ fuOk_z, ?_⟩); (try rintro _ rfl)) | (refine wrap_succ ?_; omega))))
end Go.Proofs.YtjepdbkphfemmaaDoor
