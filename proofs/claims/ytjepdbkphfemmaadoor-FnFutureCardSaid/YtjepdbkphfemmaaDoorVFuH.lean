/-
  Streams of numbers: WriteStream.
-/
import Derived.Test.YtjepdbkphfemmaaDoorVFuG
namespace Go.Proofs.YtjepdbkphfemmaaDoor
open Go Go.RowKit
set_option linter.unusedVariables false
set_option linter.unusedSimpArgs false

set_option maxRecDepth 8000 in
set_option maxHeartbeats 4000000 in
theorem writeStreamE_t (m n : Int) (hm : n64 m) (h : n64 n) : RetM env.P 8 [] [.agg (fuC [m] 1 0 false), slL 4 vC [n]] (fun r H => r = .tup [.agg fuZ, .i .i64 0, .i .i64 4] ∧ H = []) := by
  have hc := containsV_t 17 rfl (fuC [m] 1 0 false) [n] (numL_1 h).len (fun k hk => writeStream1_t _ ((numL_1 h).h k hk) [m] 1 0 false)
  refine ret_ofM (nt := 33) (rvs := [.cell 4 30, .tmp 5, .tmp 6]) Tryd.func8 rfl rfl rfl rfl (fun X hX => ?_)
  repeat' (first | exact aa | ((conv => whnf) <;> (first | (refine .inr (.inr ⟨[some (boxRow (fuC [m] 1 0 false)), some (boxRow fuZ), none, none, some (boxRow (fuO [m] 1 0 false))], (by intro X; exact fu_close [m] 1 0 false rfl), (fun i _ q => (by cases q)), .inl ⟨[4], _, _, _, writeE_t m n h, (view_of rfl (.cons rfl (.self (rowPl_box rfl)) .nil)), ⟨rfl, rfl⟩, ?_⟩⟩); rintro _ _ ⟨rfl, rfl⟩; refine ⟨rfl, _, (lok_pl (.cons (rowPl_box rfl) .nil)), ?_⟩) | refine And.intro ?_ ?_ | (intro _h; first | contradiction | (try simp only [dd] at _h)) | (refine dt_go ?_) | exact rfl | exact True.intro | exact dkk | exact dks | ((first | refine .inl ⟨_, streamOk_t _ _ _ _ (fuOk_1 hm false), ?_⟩ | refine ⟨_, streamOk_t _ _ _ _ (fuOk_1 hm false), ?_⟩); (try rintro _ rfl)) | ((first | refine .inl ⟨_, Ret.wka (hc), ?_⟩ | refine ⟨_, Ret.wka (hc), ?_⟩); (try rintro _ rfl)) | (refine .inr (.inl (.inl ⟨[], _, _, _, copyStream_t [m] (Nat.succ_le_succ (Nat.zero_le _)) 1 0 false, viewA, ⟨rfl, rfl⟩, ?_⟩)); rintro _ _ ⟨rfl, rfl⟩; refine ⟨rfl, _, lokA, ?_⟩) | (refine wrap_succ ?_; omega))))
  all_goals (first | contradiction | skip)
  all_goals (conv => whnf)
  all_goals exact endM_pick [] [] (.tup [.agg fuZ, .i .i64 0, .i .i64 4]) (view_of rfl .nil) rfl rfl (fun k hk => by rw [hX] at hk; exact absurd hk (Nat.not_lt_zero _)) ⟨rfl, rfl⟩
set_option maxRecDepth 8000 in
set_option maxHeartbeats 4000000 in
theorem writeStreamF_t (n : Int) (h : n64 n) : RetM env.P 8 [] [.agg (fuC [] 0 0 false), slL 4 vC [n]] (fun r H => r = .tup [.agg (fuR [n] 1 0 false), .i .i64 1, .i .i64 0] ∧ H = [some tZ, some (rowL 4 vCO [n])]) := by
  have hc := containsV_t 17 rfl (fuC [] 0 0 false) [n] (numL_1 h).len (fun k hk => writeStream1_t _ ((numL_1 h).h k hk) [] 0 0 false)
  refine ret_ofM (nt := 33) (rvs := [.cell 4 30, .tmp 5, .tmp 6]) Tryd.func8 rfl rfl rfl rfl (fun X hX => ?_)
  repeat' (first | exact aa | ((conv => whnf) <;> (first | (refine .inr (.inr ⟨[some (boxRow (fuC [] 0 0 false)), some (boxRow fuZ), none, none, some (boxRow (fuO [] 0 0 false))], (by intro X; exact fu_close [] 0 0 false rfl), (fun i _ q => (by cases q)), .inl ⟨[4], _, _, _, writeF_t n h, (view_of rfl (.cons rfl (.self (rowPl_box rfl)) .nil)), ⟨rfl, rfl⟩, ?_⟩⟩); rintro _ _ ⟨rfl, rfl⟩; refine ⟨rfl, _, (lok_pl (.cons (rowPl_box rfl) .nil)), ?_⟩) | refine And.intro ?_ ?_ | (intro _h; first | contradiction | (try simp only [dd] at _h)) | (refine dt_go ?_) | exact rfl | exact True.intro | exact dkk | exact dks | ((first | refine .inl ⟨_, streamOk_t _ _ _ _ fuOk_e, ?_⟩ | refine ⟨_, streamOk_t _ _ _ _ fuOk_e, ?_⟩); (try rintro _ rfl)) | ((first | refine .inl ⟨_, Ret.wka (hc), ?_⟩ | refine ⟨_, Ret.wka (hc), ?_⟩); (try rintro _ rfl)) | (refine .inr (.inl (.inl ⟨[], _, _, _, copyStream_t [] (Nat.zero_le _) 0 0 false, viewA, ⟨rfl, rfl⟩, ?_⟩)); rintro _ _ ⟨rfl, rfl⟩; refine ⟨rfl, _, lokA, ?_⟩) | (refine wrap_succ ?_; omega))))
  all_goals (first | contradiction | skip)
  all_goals (conv => whnf)
  all_goals exact endM_pick [5, 6] [some tZ, some (rowL 4 vCO [n])] (.tup [.agg (fuR [n] 1 0 false), .i .i64 1, .i .i64 0]) (view_of rfl (.cons rfl (.self (rowPl_L fun _ => rfl)) (.cons rfl (.self (rowPl_L fun _ => rfl)) .nil))) rfl rfl (fun k hk => by rw [hX] at hk; exact absurd hk (Nat.not_lt_zero _)) ⟨rfl, rfl⟩
end Go.Proofs.YtjepdbkphfemmaaDoor
