/-
  The law FnExactNewStream returns true at every argument.
-/
import Derived.Test.YtgjihfinbaopcaaVToH
import Derived.Test.YtgjihfinbaopcaaVTRec
import Derived.Test.YtgjihfinbaopcaaVNewStreamF
import Derived.Test.YtgjihfinbaopcaaVNewStreamG
namespace Go.Proofs.Ytgjihfinbaopcaa
open Go Go.RowKit
set_option linter.unusedVariables false
set_option linter.unusedSimpArgs false

theorem okZ : Stream.ok (stV ⟨0, ByteArray.empty, [], []⟩ 0 false) := ⟨⟨Nat.zero_le _, ⟨Nat.zero_le _, fun k hk => absurd hk (Nat.not_lt_zero _)⟩, ⟨Nat.zero_le _, fun k hk => absurd hk (Nat.not_lt_zero _)⟩⟩, Nat.zero_le _, fun k hk => absurd hk (Nat.not_lt_zero _)⟩
set_option maxRecDepth 8000 in
set_option maxHeartbeats 4000000 in
theorem newStreamM_ok (a : Typ) (room : Int) (hn : ¬ a.sz 1048576 < 0) (hs : a.strm) (hr : 1 ≤ room ∧ room ≤ 6) : RetM env.P 4 [] [.agg a.cs, .i .i64 room] (fun r H => (r = .b true ∨ r = .kb true) ∧ H = []) := by
  have h : Typ.ok a := Typ.sz_ok a 1048576 (by omega) (by omega) hn
  have hp := Typ.np_sz (a := a) (v := 1048576) (by omega) hn
  have hp' : a.np ≤ 1000000000000000 := by omega
  have hk : (Typ.mk_ a.kd a 1).2 ≤ 4611686018427387904 := by
    have := Typ.mk_sz (a := a) (v := 1048576) (by omega) (by omega) hn 1
    omega
  have hm0 := Typ.mk_mono a.kd a 1
  have hv : Stream.ok (stV a room false) := ⟨h, Nat.zero_le _, fun k hk => absurd hk (Nat.not_lt_zero _)⟩
  refine ret_ofPM (nt := 101) (rvs := [.tmp 4]) Try.func4 rfl rfl rfl rfl (fun X hX => ?_)
  refine pw_cut 5 (fun _ : Unit => True) (fun _ => [(1, .i .i64 room), (2, .ptr 0 0 0), (6, .ptr 1 0 0), (7, .i .i64 0)]) (fun _ => [some (boxRow a.cs), some (boxRow (stF a.kd a room false))]) ?_ (fun _ _ => ?_)
  · repeat' (first | exact aa | ((conv => whnf) <;> (first | refine And.intro ?_ ?_ | (intro _h; first | contradiction | (try simp only [dd] at _h)) | (refine dt_go ?_) | exact rfl | exact True.intro | exact dkk | exact dks | ((first | refine .inl ⟨_, szType_ok _ _ (by omega) (by omega), ?_⟩ | refine ⟨_, szType_ok _ _ (by omega) (by omega), ?_⟩); (try rintro _ rfl)) | ((first | refine .inl ⟨_, toType_ok a h, ?_⟩ | refine ⟨_, toType_ok a h, ?_⟩); (try rintro _ rfl)) | ((first | refine .inl ⟨_, nsS_ok a h room hs hr, ?_⟩ | refine ⟨_, nsS_ok a h room hs hr, ?_⟩); (try rintro _ rfl)) | (refine wrap_succ ?_; omega))))
    all_goals first | exact absurd ‹_› hn | skip
    conv => whnf
    refine cut_turn (turn_box (id := 1) (ds := stF a.kd a room false) rfl rfl rfl (by repeat' (first | exact OwEqL.nil | refine OwEqL.cons (OwEq.refl _) ?_))) ?_
    exact cut_go () trivial (by repeat' (first | exact trivial | refine And.intro rfl ?_)) (by repeat' (first | exact trivial | refine And.intro (.inl rfl) ?_ | refine And.intro (.inr rfl) ?_ | refine And.intro rfl ?_))
  refine wpc_ok _ _ _ _ ?_
  (try dsimp only)
  conv => whnf
  repeat' (first | exact aa | ((conv => whnf) <;> (first | (refine .inr (.inl (.inl ⟨[], _, _, _, toTypeO_ok a h, viewT, ⟨rfl, rfl⟩, ?_⟩)); rintro _ _ ⟨rfl, rfl⟩; refine ⟨rfl, _, lokT, ?_⟩) | (refine .inr (.inl (.inr (.inl ⟨_, RetM.wk (by exact .cons (.agg (.cons (.refl _) (.cons (.refl _) (.cons (shr_L (d := 0) (k := 4) rfl) (.cons (shr_L (d := 0) (k := 4) rfl) .nil))))) (.cons (.refl _) .nil)) (nsI_ok a h room hs hr), ?_⟩))); rintro _ _ ⟨rfl, rfl⟩; refine ⟨⟨rfl, rowsNs_cons rowNs_L (rowsNs_cons rowNs_L rowsNs_nil)⟩, _, lokT, ?_⟩) | ((first | refine .inl ⟨_, Ret.wk (by exact .cons (.agg (.cons (.refl _) (.cons (.refl _) (.cons (shr_L (d := 0) (k := 4) (by first | rfl | simp only [Typ.mk_, markL_len])) (.cons (shr_L (d := 0) (k := 4) (by first | rfl | simp only [Typ.mk_, markL_len])) (.cons (.refl _) (.cons (.refl _) (.cons Wk.nilS0 (.cons (.refl _) (.cons (.refl _) (.cons (.refl _) (.cons (.refl _) .nil)))))))))))) (.cons (.agg (.cons (.refl _) (.cons (.refl _) (.cons (.refl _) (.cons (.refl _) (.cons (.refl _) (.cons (.refl _) (.cons Wk.nilS0 (.cons (.refl _) (.cons (.refl _) (.cons (.refl _) (.cons (.refl _) .nil)))))))))))) .nil)) (eqStream_ok (stV a room false) (stV a room false) hv), ?_⟩ | refine ⟨_, Ret.wk (by exact .cons (.agg (.cons (.refl _) (.cons (.refl _) (.cons (shr_L (d := 0) (k := 4) (by first | rfl | simp only [Typ.mk_, markL_len])) (.cons (shr_L (d := 0) (k := 4) (by first | rfl | simp only [Typ.mk_, markL_len])) (.cons (.refl _) (.cons (.refl _) (.cons Wk.nilS0 (.cons (.refl _) (.cons (.refl _) (.cons (.refl _) (.cons (.refl _) .nil)))))))))))) (.cons (.agg (.cons (.refl _) (.cons (.refl _) (.cons (.refl _) (.cons (.refl _) (.cons (.refl _) (.cons (.refl _) (.cons Wk.nilS0 (.cons (.refl _) (.cons (.refl _) (.cons (.refl _) (.cons (.refl _) .nil)))))))))))) .nil)) (eqStream_ok (stV a room false) (stV a room false) hv), ?_⟩); (try rintro _ rfl)) | (refine .inr (.inl (.inl ⟨[2, 3], _, _, _, markType_m a.kd a 1 (by omega) hk h, viewT, ⟨rfl, rfl⟩, ?_⟩)); rintro _ _ ⟨rfl, rfl⟩; refine ⟨rfl, _, lokT, ?_⟩) | (refine .inr (.inl (.inl ⟨[5, 6], _, _, _, markStreamO a.kd a room false 1 (by omega) hk h, viewT, ⟨rfl, rfl⟩, ?_⟩)); rintro _ _ ⟨rfl, rfl⟩; refine ⟨rfl, _, lokT, ?_⟩) | ((first | refine .inl ⟨_, Ret.wk (by exact .cons (.agg (.cons (.refl _) (.cons (.refl _) (.cons (shr_L (d := 0) (k := 4) (by first | rfl | simp only [Typ.mk_, markL_len])) (.cons (shr_L (d := 0) (k := 4) (by first | rfl | simp only [Typ.mk_, markL_len])) (.cons (.refl _) (.cons (.refl _) (.cons (.refl _) (.cons (.refl _) (.cons (.refl _) (.cons (.refl _) (.cons (.refl _) .nil)))))))))))) (.cons (.refl _) .nil)) (heldStreamO a.kd a room false 1 (by omega) hk h), ?_⟩ | refine ⟨_, Ret.wk (by exact .cons (.agg (.cons (.refl _) (.cons (.refl _) (.cons (shr_L (d := 0) (k := 4) (by first | rfl | simp only [Typ.mk_, markL_len])) (.cons (shr_L (d := 0) (k := 4) (by first | rfl | simp only [Typ.mk_, markL_len])) (.cons (.refl _) (.cons (.refl _) (.cons (.refl _) (.cons (.refl _) (.cons (.refl _) (.cons (.refl _) (.cons (.refl _) .nil)))))))))))) (.cons (.refl _) .nil)) (heldStreamO a.kd a room false 1 (by omega) hk h), ?_⟩); (try rintro _ rfl)) | refine And.intro ?_ ?_ | (intro _h; first | contradiction | (try simp only [dd] at _h)) | (refine dt_go ?_) | exact rfl | exact True.intro | exact dkk | exact dks | ((first | refine .inl ⟨_, toType_ok a h, ?_⟩ | refine ⟨_, toType_ok a h, ?_⟩); (try rintro _ rfl)) | ((first | refine .inl ⟨_, Ret.wka (eqType_ok a a h), ?_⟩ | refine ⟨_, Ret.wka (eqType_ok a a h), ?_⟩); (try rintro _ rfl)) | (refine wrap_succ ?_; omega))))
  all_goals (first | exact absurd trivial _h | (conv => whnf); first | exact endM_pick [] [] (.kb true) view_none rfl rfl (fun k hk => by rw [hX] at hk; exact absurd hk (Nat.not_lt_zero _)) ⟨.inr rfl, rfl⟩ | exact endM_pick [] [] (.b true) view_none rfl rfl (fun k hk => by rw [hX] at hk; exact absurd hk (Nat.not_lt_zero _)) ⟨.inl rfl, rfl⟩ | (exfalso; omega) | trace_state)
set_option maxRecDepth 8000 in
set_option maxHeartbeats 4000000 in
theorem newStreamM_rng (a : Typ) (room : Int) (hn : ¬ a.sz 1048576 < 0) (hs : a.strm) (hr : ¬ (1 ≤ room ∧ room ≤ 6)) : RetM env.P 4 [] [.agg a.cs, .i .i64 room] (fun r H => (r = .b true ∨ r = .kb true) ∧ H = []) := by
  have h : Typ.ok a := Typ.sz_ok a 1048576 (by omega) (by omega) hn
  have hp := Typ.np_sz (a := a) (v := 1048576) (by omega) hn
  have hp' : a.np ≤ 1000000000000000 := by omega
  have hk : (Typ.mk_ a.kd a 1).2 ≤ 4611686018427387904 := by
    have := Typ.mk_sz (a := a) (v := 1048576) (by omega) (by omega) hn 1
    omega
  have hm0 := Typ.mk_mono a.kd a 1
  have hv : Stream.ok (stV a room false) := ⟨h, Nat.zero_le _, fun k hk => absurd hk (Nat.not_lt_zero _)⟩
  refine ret_ofPM (nt := 101) (rvs := [.tmp 4]) Try.func4 rfl rfl rfl rfl (fun X hX => ?_)
  refine pw_cut 5 (fun _ : Unit => True) (fun _ => [(1, .i .i64 room), (2, .ptr 0 0 0), (6, .ptr 1 0 0), (7, .i .i64 2)]) (fun _ => [some (boxRow a.cs), some (boxRow (stZ))]) ?_ (fun _ _ => ?_)
  · repeat' (first | exact aa | ((conv => whnf) <;> (first | refine And.intro ?_ ?_ | (intro _h; first | contradiction | (try simp only [dd] at _h)) | (refine dt_go ?_) | exact rfl | exact True.intro | exact dkk | exact dks | ((first | refine .inl ⟨_, szType_ok _ _ (by omega) (by omega), ?_⟩ | refine ⟨_, szType_ok _ _ (by omega) (by omega), ?_⟩); (try rintro _ rfl)) | ((first | refine .inl ⟨_, toType_ok a h, ?_⟩ | refine ⟨_, toType_ok a h, ?_⟩); (try rintro _ rfl)) | ((first | refine .inl ⟨_, nsS_rng a h room hs hr, ?_⟩ | refine ⟨_, nsS_rng a h room hs hr, ?_⟩); (try rintro _ rfl)) | (refine wrap_succ ?_; omega))))
    all_goals first | exact absurd ‹_› hn | skip
    conv => whnf
    refine cut_turn (turn_box (id := 1) (ds := stZ) rfl rfl rfl (by repeat' (first | exact OwEqL.nil | refine OwEqL.cons (OwEq.refl _) ?_))) ?_
    exact cut_go () trivial (by repeat' (first | exact trivial | refine And.intro rfl ?_)) (by repeat' (first | exact trivial | refine And.intro (.inl rfl) ?_ | refine And.intro (.inr rfl) ?_ | refine And.intro rfl ?_))
  refine wpc_ok _ _ _ _ ?_
  (try dsimp only)
  conv => whnf
  repeat' (first | exact aa | ((conv => whnf) <;> (first | (refine .inr (.inl (.inl ⟨[], _, _, _, toTypeO_ok a h, viewT, ⟨rfl, rfl⟩, ?_⟩)); rintro _ _ ⟨rfl, rfl⟩; refine ⟨rfl, _, lokT, ?_⟩) | ((first | refine .inl ⟨_, Ret.wk (by exact .cons (.agg (.cons (.refl _) (.cons (.refl _) (.cons Wk.nilS0 (.cons Wk.nilS0 (.cons (.refl _) (.cons (.refl _) (.cons Wk.nilS0 (.cons (.refl _) (.cons (.refl _) (.cons (.refl _) (.cons (.refl _) .nil)))))))))))) (.cons (.agg (.cons (.refl _) (.cons (.refl _) (.cons Wk.nilS0 (.cons Wk.nilS0 (.cons (.refl _) (.cons (.refl _) (.cons Wk.nilS0 (.cons (.refl _) (.cons (.refl _) (.cons (.refl _) (.cons (.refl _) .nil)))))))))))) .nil)) (eqStream_ok (stV ⟨0, ByteArray.empty, [], []⟩ 0 false) (stV ⟨0, ByteArray.empty, [], []⟩ 0 false) okZ), ?_⟩ | refine ⟨_, Ret.wk (by exact .cons (.agg (.cons (.refl _) (.cons (.refl _) (.cons Wk.nilS0 (.cons Wk.nilS0 (.cons (.refl _) (.cons (.refl _) (.cons Wk.nilS0 (.cons (.refl _) (.cons (.refl _) (.cons (.refl _) (.cons (.refl _) .nil)))))))))))) (.cons (.agg (.cons (.refl _) (.cons (.refl _) (.cons Wk.nilS0 (.cons Wk.nilS0 (.cons (.refl _) (.cons (.refl _) (.cons Wk.nilS0 (.cons (.refl _) (.cons (.refl _) (.cons (.refl _) (.cons (.refl _) .nil)))))))))))) .nil)) (eqStream_ok (stV ⟨0, ByteArray.empty, [], []⟩ 0 false) (stV ⟨0, ByteArray.empty, [], []⟩ 0 false) okZ), ?_⟩); (try rintro _ rfl)) | (refine .inr (.inl (.inl ⟨[2, 3], _, _, _, markType_m a.kd a 1 (by omega) hk h, viewT, ⟨rfl, rfl⟩, ?_⟩)); rintro _ _ ⟨rfl, rfl⟩; refine ⟨rfl, _, lokT, ?_⟩) | refine And.intro ?_ ?_ | (intro _h; first | contradiction | (try simp only [dd] at _h)) | (refine dt_go ?_) | exact rfl | exact True.intro | exact dkk | exact dks | ((first | refine .inl ⟨_, toType_ok a h, ?_⟩ | refine ⟨_, toType_ok a h, ?_⟩); (try rintro _ rfl)) | ((first | refine .inl ⟨_, Ret.wka (nsI_rng a h room hs hr), ?_⟩ | refine ⟨_, Ret.wka (nsI_rng a h room hs hr), ?_⟩); (try rintro _ rfl)) | ((first | refine .inl ⟨_, Ret.wka (eqType_ok a a h), ?_⟩ | refine ⟨_, Ret.wka (eqType_ok a a h), ?_⟩); (try rintro _ rfl)) | ((first | refine .inl ⟨_, markStreamZ 1, ?_⟩ | refine ⟨_, markStreamZ 1, ?_⟩); (try rintro _ rfl)) | ((first | refine .inl ⟨_, heldStreamZ 1 (by omega), ?_⟩ | refine ⟨_, heldStreamZ 1 (by omega), ?_⟩); (try rintro _ rfl)) | (refine wrap_succ ?_; omega))))
  all_goals (first | exact absurd trivial _h | (conv => whnf); first | exact endM_pick [] [] (.kb true) view_none rfl rfl (fun k hk => by rw [hX] at hk; exact absurd hk (Nat.not_lt_zero _)) ⟨.inr rfl, rfl⟩ | exact endM_pick [] [] (.b true) view_none rfl rfl (fun k hk => by rw [hX] at hk; exact absurd hk (Nat.not_lt_zero _)) ⟨.inl rfl, rfl⟩ | (exfalso; omega) | trace_state)
set_option maxRecDepth 8000 in
set_option maxHeartbeats 4000000 in
theorem newStreamM_bad (a : Typ) (room : Int) (hn : ¬ a.sz 1048576 < 0) (hs : ¬ a.strm) : RetM env.P 4 [] [.agg a.cs, .i .i64 room] (fun r H => (r = .b true ∨ r = .kb true) ∧ H = []) := by
  have h : Typ.ok a := Typ.sz_ok a 1048576 (by omega) (by omega) hn
  have hp := Typ.np_sz (a := a) (v := 1048576) (by omega) hn
  have hp' : a.np ≤ 1000000000000000 := by omega
  have hk : (Typ.mk_ a.kd a 1).2 ≤ 4611686018427387904 := by
    have := Typ.mk_sz (a := a) (v := 1048576) (by omega) (by omega) hn 1
    omega
  have hm0 := Typ.mk_mono a.kd a 1
  have hv : Stream.ok (stV a room false) := ⟨h, Nat.zero_le _, fun k hk => absurd hk (Nat.not_lt_zero _)⟩
  refine ret_ofPM (nt := 101) (rvs := [.tmp 4]) Try.func4 rfl rfl rfl rfl (fun X hX => ?_)
  refine pw_cut 5 (fun _ : Unit => True) (fun _ => [(1, .i .i64 room), (2, .ptr 0 0 0), (6, .ptr 1 0 0), (7, .i .i64 7)]) (fun _ => [some (boxRow a.cs), some (boxRow (stZ))]) ?_ (fun _ _ => ?_)
  · repeat' (first | exact aa | ((conv => whnf) <;> (first | refine And.intro ?_ ?_ | (intro _h; first | contradiction | (try simp only [dd] at _h)) | (refine dt_go ?_) | exact rfl | exact True.intro | exact dkk | exact dks | ((first | refine .inl ⟨_, szType_ok _ _ (by omega) (by omega), ?_⟩ | refine ⟨_, szType_ok _ _ (by omega) (by omega), ?_⟩); (try rintro _ rfl)) | ((first | refine .inl ⟨_, toType_ok a h, ?_⟩ | refine ⟨_, toType_ok a h, ?_⟩); (try rintro _ rfl)) | ((first | refine .inl ⟨_, nsS_bad a h room hs, ?_⟩ | refine ⟨_, nsS_bad a h room hs, ?_⟩); (try rintro _ rfl)) | (refine wrap_succ ?_; omega))))
    all_goals first | exact absurd ‹_› hn | skip
    conv => whnf
    refine cut_turn (turn_box (id := 1) (ds := stZ) rfl rfl rfl (by repeat' (first | exact OwEqL.nil | refine OwEqL.cons (OwEq.refl _) ?_))) ?_
    exact cut_go () trivial (by repeat' (first | exact trivial | refine And.intro rfl ?_)) (by repeat' (first | exact trivial | refine And.intro (.inl rfl) ?_ | refine And.intro (.inr rfl) ?_ | refine And.intro rfl ?_))
  refine wpc_ok _ _ _ _ ?_
  (try dsimp only)
  conv => whnf
  repeat' (first | exact aa | ((conv => whnf) <;> (first | (refine .inr (.inl (.inl ⟨[], _, _, _, toTypeO_ok a h, viewT, ⟨rfl, rfl⟩, ?_⟩)); rintro _ _ ⟨rfl, rfl⟩; refine ⟨rfl, _, lokT, ?_⟩) | ((first | refine .inl ⟨_, Ret.wk (by exact .cons (.agg (.cons (.refl _) (.cons (.refl _) (.cons Wk.nilS0 (.cons Wk.nilS0 (.cons (.refl _) (.cons (.refl _) (.cons Wk.nilS0 (.cons (.refl _) (.cons (.refl _) (.cons (.refl _) (.cons (.refl _) .nil)))))))))))) (.cons (.agg (.cons (.refl _) (.cons (.refl _) (.cons Wk.nilS0 (.cons Wk.nilS0 (.cons (.refl _) (.cons (.refl _) (.cons Wk.nilS0 (.cons (.refl _) (.cons (.refl _) (.cons (.refl _) (.cons (.refl _) .nil)))))))))))) .nil)) (eqStream_ok (stV ⟨0, ByteArray.empty, [], []⟩ 0 false) (stV ⟨0, ByteArray.empty, [], []⟩ 0 false) okZ), ?_⟩ | refine ⟨_, Ret.wk (by exact .cons (.agg (.cons (.refl _) (.cons (.refl _) (.cons Wk.nilS0 (.cons Wk.nilS0 (.cons (.refl _) (.cons (.refl _) (.cons Wk.nilS0 (.cons (.refl _) (.cons (.refl _) (.cons (.refl _) (.cons (.refl _) .nil)))))))))))) (.cons (.agg (.cons (.refl _) (.cons (.refl _) (.cons Wk.nilS0 (.cons Wk.nilS0 (.cons (.refl _) (.cons (.refl _) (.cons Wk.nilS0 (.cons (.refl _) (.cons (.refl _) (.cons (.refl _) (.cons (.refl _) .nil)))))))))))) .nil)) (eqStream_ok (stV ⟨0, ByteArray.empty, [], []⟩ 0 false) (stV ⟨0, ByteArray.empty, [], []⟩ 0 false) okZ), ?_⟩); (try rintro _ rfl)) | (refine .inr (.inl (.inl ⟨[2, 3], _, _, _, markType_m a.kd a 1 (by omega) hk h, viewT, ⟨rfl, rfl⟩, ?_⟩)); rintro _ _ ⟨rfl, rfl⟩; refine ⟨rfl, _, lokT, ?_⟩) | refine And.intro ?_ ?_ | (intro _h; first | contradiction | (try simp only [dd] at _h)) | (refine dt_go ?_) | exact rfl | exact True.intro | exact dkk | exact dks | ((first | refine .inl ⟨_, toType_ok a h, ?_⟩ | refine ⟨_, toType_ok a h, ?_⟩); (try rintro _ rfl)) | ((first | refine .inl ⟨_, Ret.wka (nsI_bad a h room hp' hs), ?_⟩ | refine ⟨_, Ret.wka (nsI_bad a h room hp' hs), ?_⟩); (try rintro _ rfl)) | ((first | refine .inl ⟨_, Ret.wka (eqType_ok a a h), ?_⟩ | refine ⟨_, Ret.wka (eqType_ok a a h), ?_⟩); (try rintro _ rfl)) | ((first | refine .inl ⟨_, markStreamZ 1, ?_⟩ | refine ⟨_, markStreamZ 1, ?_⟩); (try rintro _ rfl)) | ((first | refine .inl ⟨_, heldStreamZ 1 (by omega), ?_⟩ | refine ⟨_, heldStreamZ 1 (by omega), ?_⟩); (try rintro _ rfl)) | (refine wrap_succ ?_; omega))))
  all_goals (first | exact absurd trivial _h | (conv => whnf); first | exact endM_pick [] [] (.kb true) view_none rfl rfl (fun k hk => by rw [hX] at hk; exact absurd hk (Nat.not_lt_zero _)) ⟨.inr rfl, rfl⟩ | exact endM_pick [] [] (.b true) view_none rfl rfl (fun k hk => by rw [hX] at hk; exact absurd hk (Nat.not_lt_zero _)) ⟨.inl rfl, rfl⟩ | (exfalso; omega) | trace_state)
set_option maxRecDepth 8000 in
theorem newStreamLaw (a : Typ) (room : Int) : Ret env.P 4 [.agg a.cs, .i .i64 room] (fun r => r = .b true) := by
  by_cases hn : a.sz 1048576 < 0
  · refine ret_of (nt := 101) (rvs := [.tmp 4]) Try.func4 rfl rfl rfl rfl (fun X => ?_)
    repeat' (first | exact aa | ((conv => whnf) <;> (first | refine And.intro ?_ ?_ | (intro _h; first | contradiction | (try simp only [dd] at _h)) | (refine dt_go ?_) | exact rfl | exact True.intro | exact dkk | exact dks | ((first | refine .inl ⟨_, szType_ok _ _ (by omega) (by omega), ?_⟩ | refine ⟨_, szType_ok _ _ (by omega) (by omega), ?_⟩); (try rintro _ rfl)) | (refine wrap_succ ?_; omega))))
    all_goals first | exact rfl | exact absurd hn ‹_›
  · by_cases hs : a.strm
    · by_cases hr : 1 ≤ room ∧ room ≤ 6
      · exact (newStreamM_ok a room hn hs hr).toRetP
      · exact (newStreamM_rng a room hn hs hr).toRetP
    · exact (newStreamM_bad a room hn hs).toRetP

theorem rdF_Type : ∀ ds, HF (fun t cs => TyC Try.prog t cs ∧ (t = 23 → ∃ (l : List Typ) (N : Nat), (∀ x ∈ l, Typ.fN N x) ∧ WkL cs [slL 4 (Typ.pN N) l])) [2, 9, 22, 23] ds → ∃ a : Typ, WkL ds a.cs := fun ds h => by
  obtain ⟨a0, b0, rfl, ⟨h0, _⟩, h⟩ := h.cons_inv
  obtain ⟨a1, b1, rfl, ⟨h1, _⟩, h⟩ := h.cons_inv
  obtain ⟨a2, b2, rfl, ⟨h2, _⟩, h⟩ := h.cons_inv
  obtain ⟨ak, bk, rfl, ⟨_, hk⟩, h⟩ := h.cons_inv
  obtain rfl := h.nil_inv
  obtain ⟨l, N, hN, hl⟩ := hk rfl
  obtain ⟨x0, w0⟩ := (rd_int Try.underlying2) _ h0
  obtain ⟨x1, w1⟩ := (rd_str Try.underlying9) _ h1
  obtain ⟨x2, w2⟩ := (rd_sl Try.underlying22 (by kernel_rfl) (rd_str Try.underlying9)) _ h2
  exact ⟨⟨x0, x1, x2, l⟩, w0.append (w1.append (w2.append ((Typ.readK (a := ⟨x0, x1, x2, l⟩) hN hl).append .nil)))⟩
theorem rd_Type : Rd Try.prog 25 Typ Typ.cs := fun cs h =>
  (rd_rec (qs := 23) Try.underlying25 Try.underlying23 (by kernel_rfl) (by kernel_rfl) rfl (fun ds => ∃ a : Typ, WkL ds a.cs) _ (fun n g h => Typ.readS n g h) rdF_Type h).1 rfl

namespace fnExactNewStream
theorem law_ret (dss : List (List AV)) (h : TyCs Try.prog Try.f4.params.toList dss) : Ret Try.prog 4 (mkArgs Try.prog Try.f4.params.toList dss) fun r => r = .b true := by
  obtain ⟨d0, r0, rfl, h0, h⟩ := h.cons_inv
  obtain ⟨d1, r1, rfl, h1, h⟩ := h.cons_inv
  obtain rfl := h.nil_inv
  obtain ⟨a, ha⟩ := arg_agg rd_Type (by kernel_rfl) h0
  obtain ⟨x, hx⟩ := arg_one (c := fun n => .i .i64 n) (rd_int Try.underlying2) (by kernel_rfl) h1
  exact Ret.wk (.cons ha (.cons hx .nil)) (newStreamLaw a x)
end fnExactNewStream
end Go.Proofs.Ytgjihfinbaopcaa
namespace Go.Proofs.Ytgjihfinbaopcaa.fnExactNewStream
open Go.ChangeShapes Go.WideShapes Go.ChangeAt Go.RowKit
set_option linter.unusedVariables false

theorem own : ownKnob Try.prog.godebug = none := by kernel_rfl

set_option maxRecDepth 100000 in
theorem lifted (os : Os) (started : os.Started) (H : Type) (enc : TypeId × Go.Value → H) :
    ReturnsInHanded {} Try.checked os 4 .any (Rows.fnExactNewStreamSpec.pre6 enc Try.prog Try.f4 Rows.fnExactNewStreamRow.domain false) (Rows.fnExactNewStreamSpec.post enc Try.prog Try.f4 false true false false) := by
  refine returnsInHanded_of_change (C := Try.checked) own started (by kernel_rfl) Try.func4
    (ChangeSpec.witness6 (enc := enc) (C := Try.checked) false ⟨#[], #[.agg #[.int .i64 0, .string ByteArray.empty, .slice none 0 0, .slice none 0 0], .int .i64 0], []⟩ 8 (by kernel_rfl) (by kernel_rfl) (by kernel_rfl) (by kernel_rfl)) ?_
  intro W base args ds gs before hval0 hW hcnd _
  refine law_end (k := closeT Try.prog 9 Try.f4.params.toList) rfl (by kernel_rfl) (by kernel_rfl) rfl Try.underlying4 ?_ (fun dss h => law_ret dss h) hval0 hW ⟨fun _ _ => trivial⟩
  · rintro ds hl
    match ds, hl with
    | [_, _], _ => rfl

theorem over : Rows.fnExactNewStreamRow.holds Try.pinned (OpenSpec.ofChange Rows.fnExactNewStreamSpec) :=
  OpenClaim.holds_of_wide 4 Try.f4 rfl rfl rfl rfl rfl rfl rfl ⟨rfl, rfl, rfl, rfl, rfl⟩ rfl rfl rfl rfl rfl fact_named Try.func4 fact_joined fact_inst fact_wrap
    (fun os started H enc _ => lifted os started H enc)

theorem proved : Rows.FnExactNewStreamSaid :=
  over
end Go.Proofs.Ytgjihfinbaopcaa.fnExactNewStream
