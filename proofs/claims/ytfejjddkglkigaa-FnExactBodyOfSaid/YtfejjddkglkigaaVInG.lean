/-
  Bodies from bytes: the program's; the law.
-/
import Derived.Test.YtfejjddkglkigaaVInF
namespace Go.Proofs.Ytfejjddkglkigaa
open Go Go.RowKit
set_option linter.unusedVariables false
set_option linter.unusedSimpArgs false
attribute [local irreducible] IntKind.wrap insV getL bodyW
theorem length_ok (b : ByteArray) : Ret env.P 13 [.s b] (fun r => r = .i .i64 b.size) := by
  refine ret_of (nt := 5) (rvs := [.tmp 2]) Try.func13 rfl rfl rfl rfl (fun X => ?_)
  repeat' (first | exact aa | ((conv => whnf) <;> (first | refine And.intro ?_ ?_ | (intro _h; first | contradiction | (try simp only [dd] at _h)) | (refine dt_go ?_) | exact rfl | exact True.intro | exact dkk | exact dks | (refine wrap_succ ?_; omega))))
set_option maxRecDepth 8000 in
set_option maxHeartbeats 4000000 in
theorem bodyOf_impl (b : ByteArray) (hs : b.size ≤ 1048576) : RetM env.P 5 [] [.s b] (fun r H => bodyP (bodyV b) r H) := by
  have hG : Ret env.P 11 [.s b] (fun r => r = .tup [.i .i64 (getL b).1, .i .i64 (getL b).2.1, .b (getL b).2.2]) := getLeb_impl b hs
  have hO : ∀ p : Int, Ret env.P 12 [.s (b.extract p.toNat b.size)] (fun r => r = .tup [.agg (insV (b.extract p.toNat b.size)).1.cs, .i .i64 (insV (b.extract p.toNat b.size)).2.1, .b (insV (b.extract p.toNat b.size)).2.2]) := fun p => insOf_impl _ (by rw [ByteArray.size_extract]; omega)
  have hn := getL_nn b
  refine ret_ofPM (nt := 50) (rvs := [.tmp 2, .tmp 3]) Try.func5 rfl rfl rfl rfl (fun X hX => ?_)
  refine pw_cut 4 (fun _ : Unit => (getL b).2.2 = true ∧ (getL b).1 ≤ 120) (fun _ => [(0, .s b), (4, .i .i64 (getL b).1), (5, .i .i64 (getL b).2.1), (7, .row 0 0)]) (fun _ => [some (rowL 2 Ins.cs [])]) ?_ (fun _ hc => ?_)
  · repeat' (first | exact aa | ((conv => whnf) <;> (first | refine And.intro ?_ ?_ | (intro _h; first | contradiction | (try simp only [dd] at _h)) | (refine dt_go ?_) | exact rfl | exact True.intro | exact dkk | exact dks | ((first | refine .inl ⟨_, hG, ?_⟩ | refine ⟨_, hG, ?_⟩); (try rintro _ rfl)) | (refine wrap_succ ?_; omega))))
    · conv => whnf
      refine endM_pick [] [] (.tup [.nils, .kb false]) (view_of rfl .nil) rfl rfl (fun k hk => by rw [hX] at hk; exact absurd hk (Nat.not_lt_zero _)) ?_
      rw [body_no2 ‹_›]
      exact ⟨rfl, rfl⟩
    · conv => whnf
      refine cut_turn (turn_eq (id := 0) (x := rowL 2 Ins.cs []) rfl rfl rfl rfl rfl (fun i j hi _ => absurd hi (Nat.not_lt_zero _))) ?_
      exact cut_go () ⟨by simp_all, by omega⟩ (by repeat' (first | exact trivial | refine And.intro rfl ?_)) (by repeat' (first | exact trivial | refine And.intro (.inl rfl) ?_ | refine And.intro (.inr rfl) ?_ | refine And.intro rfl ?_))
    · conv => whnf
      refine endM_pick [] [] (.tup [.nils, .kb false]) (view_of rfl .nil) rfl rfl (fun k hk => by rw [hX] at hk; exact absurd hk (Nat.not_lt_zero _)) ?_
      rw [body_no1 (by simp_all)]
      exact ⟨rfl, rfl⟩
  obtain ⟨hc1, hc2⟩ := hc
  refine wpc_ok _ _ _ _ ?_
  (try dsimp only)
  conv => whnf
  refine loopFT (fun y : BdS => [(25, .i .i64 (y.k : Int)), (5, .i .i64 y.p), (7, .row 0 y.l.length)]) (fun y => [some (.arr ⟨2, y.l.length, elE Ins.cs y.l, .arr⟩)]) (fun y => BdI b (getL b).1.toNat y) (fun y => (getL b).1.toNat - y.k) ⟨0, (getL b).2.1, []⟩ ⟨.zero b _, ?_⟩
  repeat' (first | exact aa | ((conv => whnf) <;> (first | exact lbz_zero rfl rfl | exact low_cells rfl | exact lbz_capB ((‹BdI b _ _›).len (by omega)) (show 16 ≤ 1000 by decide) | exact Nat.le_trans (Nat.succ_le_succ ((‹BdI b _ _›).len (by omega))) (by decide) | (have := (‹BdI b _ _›).hp; refine ⟨?_, ?_⟩ <;> omega) | refine And.intro ?_ ?_ | (intro _h; first | contradiction | (try simp only [dd] at _h)) | (refine dt_go ?_) | exact rfl | exact True.intro | exact dkk | exact dks | ((first | refine .inl ⟨_, hO _, ?_⟩ | refine ⟨_, hO _, ?_⟩); (try rintro _ rfl)) | ((first | refine .inl ⟨_, length_ok b, ?_⟩ | refine ⟨_, length_ok b, ?_⟩); (try rintro _ rfl)) | (refine wrap_succ ?_; omega))))
  · rename_i y hy _
    conv => whnf
    refine endM_pick [] [] (.tup [.nils, .kb false]) (view_of rfl .nil) rfl rfl (fun k hk => by rw [hX] at hk; exact absurd hk (Nat.not_lt_zero _)) ?_
    rw [body_no3 (hy.none (by omega) (by simp_all))]
    exact ⟨rfl, rfl⟩
  · rename_i y hy _
    conv => whnf
    refine roundET_turn (turn_eq (id := 3) (x := rowL 2 Ins.cs (y.l ++ [(insV (b.extract y.p.toNat b.size)).1])) rfl rfl lbz_len.symm rfl rfl (snoc_eq (l := y.l) (sz := 2) (a := (insV (b.extract y.p.toNat b.size)).1) (c := Ins.cs) rfl (fun j hj => ?_))) ?_
    · have hj2 : j = 0 ∨ j = 1 := by omega
      rcases hj2 with rfl | rfl <;> exact .refl _
    refine roundET_end ?_
    refine ⟨⟨y.k + 1, y.p + (insV (b.extract y.p.toNat b.size)).2.1, y.l ++ [(insV (b.extract y.p.toNat b.size)).1]⟩, [3], hy.next (by omega) (by simp_all), ?_, ?_⟩
    · dsimp only; omega
    repeat' (first | exact aa | ((conv => whnf) <;> (first | exact arr_same rfl rfl (fun a j => low_cells rfl) | exact low_cells rfl | exact lbz_len | (have := hy.many; have := hy.hp; exact wrap_in (by omega) (by omega)) | (have := hy.hk; exact wrap_in (by omega) (by omega)) | exact lbz_rho hX ‹_› | refine And.intro ?_ ?_ | (intro _h; first | contradiction | (try simp only [dd] at _h)) | (refine dt_go ?_) | exact rfl | exact True.intro | exact dkk | exact dks | (refine wrap_succ ?_; omega))))
  · rename_i y hy _
    conv => whnf
    refine endM_pick [] [] (.tup [.nils, .kb false]) (view_of rfl .nil) rfl rfl (fun k hk => by rw [hX] at hk; exact absurd hk (Nat.not_lt_zero _)) ?_
    rw [body_no4 (hy.last (by omega)) ‹_›]
    exact ⟨rfl, rfl⟩
  · rename_i y hy _
    conv => whnf
    refine endM_pick [0] [some (rowL 2 Ins.cs y.l)] (.tup [.row 0 y.l.length, .kb true]) (view_of rfl (.cons rfl (.self (rowPl_L fun _ => rfl)) .nil)) rfl rfl (fun k hk => by rw [hX] at hk; exact absurd hk (Nat.not_lt_zero _)) ?_
    rw [body_yes hc1 hc2 (hy.last (by omega)) ‹_›]
    exact ⟨rfl, rfl⟩
end Go.Proofs.Ytfejjddkglkigaa
