/-
  Versions: VersionOk, Serves, CompareVersions of the program; VersionOk of the reference; the drawn versions.
-/
import Derived.Test.YtcmnohbbjkdpdaaDoorVVrI
namespace Go.Proofs.YtcmnohbbjkdpdaaDoor
open Go Go.RowKit
set_option linter.unusedVariables false
set_option linter.unusedSimpArgs false
attribute [local irreducible] IntKind.wrap numS

theorem versionOk_ok (s : ByteArray) (hs : s.size ≤ 1000000000) : Ret env.P 8 [.s s] (fun x => x = .b (vnum s).isSome) := by
  have hn := versionNumber_ok s hs
  refine ret_of (nt := 11) (rvs := [.tmp 2]) Tryd.func8 rfl rfl rfl rfl (fun X => ?_)
  repeat' (first | exact aa | ((conv => whnf) <;> (first | refine And.intro ?_ ?_ | (intro _h; first | contradiction | (try simp only [dd] at _h)) | (refine dt_go ?_) | exact rfl | exact True.intro | exact dkk | exact dks | ((first | refine .inl ⟨_, hn, ?_⟩ | refine ⟨_, hn, ?_⟩); (try rintro _ rfl)) | (refine wrap_succ ?_; omega))))
theorem versionOk_spec (s : ByteArray) (hs : s.size ≤ 1000000) : Ret env.P 7 [.s s] (fun x => x = .b (decide (0 ≤ numS s))) := by
  have hn := l02Num_ok s hs
  refine ret_of (nt := 6) (rvs := [.tmp 2]) Tryd.func7 rfl rfl rfl rfl (fun X => ?_)
  repeat' (first | exact aa | ((conv => whnf) <;> (first | refine And.intro ?_ ?_ | (intro _h; first | contradiction | (try simp only [dd] at _h)) | (refine dt_go ?_) | exact rfl | exact True.intro | exact dkk | exact dks | ((first | refine .inl ⟨_, hn, ?_⟩ | refine ⟨_, hn, ?_⟩); (try rintro _ rfl)) | (refine wrap_succ ?_; omega))))
/-- A version that may stand for another one, by their numbers. -/
def srv (x y : Nat) : Bool := decide (y ≤ x ∧ x / 1000000 = y / 1000000 ∧ (1000000 ≤ x ∨ x / 1000 = y / 1000))
def srvN (a b : ByteArray) : Bool := (vnum a).isSome && ((vnum b).isSome && srv ((vnum a).getD 0) ((vnum b).getD 0))
theorem srv_no {a b : ByteArray} {x y : Nat} (ha : (vnum a).getD 0 = x) (hb : (vnum b).getD 0 = y) (h : ¬ (y ≤ x ∧ x / 1000000 = y / 1000000 ∧ (1000000 ≤ x ∨ x / 1000 = y / 1000))) : false = srvN a b := by
  unfold srvN srv
  rw [ha, hb, decide_eq_false h, Bool.and_false, Bool.and_false]
theorem srv_a {a b : ByteArray} (h : (vnum a).isSome = false) : false = srvN a b := by unfold srvN; rw [h]; rfl
theorem srv_b {a b : ByteArray} (h : (vnum b).isSome = false) : false = srvN a b := by unfold srvN; rw [h]; cases (vnum a).isSome <;> rfl
theorem srv_yes {a b : ByteArray} {x y : Nat} {c : Bool} (h1 : (vnum a).isSome = true) (h2 : (vnum b).isSome = true) (ha : (vnum a).getD 0 = x) (hb : (vnum b).getD 0 = y) (h : (y ≤ x ∧ x / 1000000 = y / 1000000 ∧ (1000000 ≤ x ∨ x / 1000 = y / 1000)) ↔ c = true) : c = srvN a b := by
  unfold srvN srv
  rw [ha, hb, h1, h2, Bool.true_and, Bool.true_and]
  cases c with
  | true => rw [decide_eq_true (h.2 rfl)]
  | false => rw [decide_eq_false (fun q => by cases h.1 q)]
theorem serves_ok (a b : ByteArray) (ha : a.size ≤ 1000000000) (hb : b.size ≤ 1000000000) : Ret env.P 9 [.s a, .s b] (fun x => x = .b (srvN a b)) := by
  have h1 := versionNumber_ok a ha
  have h2 := versionNumber_ok b hb
  have l1 := vget_lt a
  have l2 := vget_lt b
  generalize hx : (vnum a).getD 0 = x at l1
  generalize hy : (vnum b).getD 0 = y at l2
  unfold vnR at h1 h2
  rw [hx] at h1
  rw [hy] at h2
  have t1 : IntKind.i64.wrap ((x : Int).tdiv 1000000) = ((x / 1000000 : Nat) : Int) := by rw [Int.tdiv_eq_ediv_of_nonneg (by omega), wrap_in (by omega) (by omega)]; rfl
  have t2 : IntKind.i64.wrap ((y : Int).tdiv 1000000) = ((y / 1000000 : Nat) : Int) := by rw [Int.tdiv_eq_ediv_of_nonneg (by omega), wrap_in (by omega) (by omega)]; rfl
  have t3 : IntKind.i64.wrap ((x : Int).tdiv 1000) = ((x / 1000 : Nat) : Int) := by rw [Int.tdiv_eq_ediv_of_nonneg (by omega), wrap_in (by omega) (by omega)]; rfl
  have t4 : IntKind.i64.wrap ((y : Int).tdiv 1000) = ((y / 1000 : Nat) : Int) := by rw [Int.tdiv_eq_ediv_of_nonneg (by omega), wrap_in (by omega) (by omega)]; rfl
  refine ret_of (nt := 46) (rvs := [.tmp 4]) Tryd.func9 rfl rfl rfl rfl (fun X => ?_)
  repeat' (first | exact aa | ((conv => whnf) <;> (first | refine And.intro ?_ ?_ | (intro _h; first | contradiction | (try simp only [dd] at _h)) | (refine dt_go ?_) | exact rfl | exact True.intro | exact dkk | exact dks | ((first | refine .inl ⟨_, h1, ?_⟩ | refine ⟨_, h1, ?_⟩); (try rintro _ rfl)) | ((first | refine .inl ⟨_, h2, ?_⟩ | refine ⟨_, h2, ?_⟩); (try rintro _ rfl)) | (refine wrap_succ ?_; omega))))
  all_goals (conv => whnf)
  all_goals first
    | exact leaf_b (srv_a ‹_›)
    | exact leaf_b (srv_b ‹_›)
    | exact leaf_b (srv_no hx hy (by simp only [t1, t2, t3, t4] at *; omega))
    | exact leaf_b (srv_yes (eq_true_of_ne_false ‹_›) (eq_true_of_ne_false ‹_›) hx hy (by rw [decide_eq_true_eq, t3, t4]; rw [t1, t2] at *; omega))
    | exact leaf_b (srv_yes (c := true) (eq_true_of_ne_false ‹_›) (eq_true_of_ne_false ‹_›) hx hy (by rw [t1, t2] at *; simp; omega))
    | trace_state
set_option maxRecDepth 8000 in
theorem drawCompare_ok (l : List UInt8) (hl : l.length ≤ 1048576) : RetM env.P 21 [] [slL 1 byteC l] (fun r H => ∃ (v w : ByteArray), v ∈ oddL ++ someL ∧ w ∈ oddL ++ someL ∧ r = .tup [.s v, .s w] ∧ H = []) := by
  refine ret_ofM (nt := 13) (rvs := [.tmp 2, .tmp 3]) Tryd.func21 rfl rfl rfl rfl (fun X hX => ?_)
  repeat' (first | exact aa | ((conv => whnf) <;> (first | (refine dt_goC [0, 1] ?_) | (refine Src.rm_i ?_ ?_ ?_) | refine And.intro ?_ ?_ | (intro _h; first | contradiction | (try simp only [dd] at _h)) | (refine dt_go ?_) | exact rfl | exact True.intro | exact dkk | exact dks | (refine .inr (.inl (.inl ⟨[], _, _, _, from_gen l hl, viewA, ⟨rfl, rfl⟩, ?_⟩)); rintro _ _ ⟨s, ⟨hs1, hs2⟩, rfl, rfl⟩; refine ⟨rfl, _, lokA, ?_⟩) | (refine .inr (.inl (.inl ⟨[1], _, _, _, l02Any_ok _ ?_, viewA, ⟨rfl, rfl⟩, ?_⟩)); rotate_left 1; rintro _ _ ⟨v, t, hv, ht, rfl, rfl⟩; refine ⟨rfl, _, lokA, ?_⟩) | (refine .inr (.inl (.inl ⟨[0], _, _, _, l02Any_ok _ ?_, viewA, ⟨rfl, rfl⟩, ?_⟩)); rotate_left 1; rintro _ _ ⟨w, t, hw, ht, rfl, rfl⟩; refine ⟨rfl, _, lokA, ?_⟩) | (refine wrap_succ ?_; omega))))
  all_goals (conv => whnf)
  rename_i v1 t1 hv1 ht1
  exact endM_pick [] [] (.tup [.s _, .s w]) (view_of rfl .nil) rfl rfl (fun k hk => by rw [hX] at hk; exact absurd hk (Nat.not_lt_zero _)) ⟨_, w, by assumption, hw, rfl, rfl⟩
theorem drawServes_ok (l : List UInt8) (hl : l.length ≤ 1048576) : RetM env.P 6 [] [slL 1 byteC l] (fun r H => ∃ (v w : ByteArray), v ∈ oddL ++ someL ∧ w ∈ oddL ++ someL ∧ r = .tup [.s v, .s w] ∧ H = []) := by
  refine ret_ofM (nt := 8) (rvs := [.tmp 2, .tmp 3]) Tryd.func6 rfl rfl rfl rfl (fun X hX => ?_)
  repeat' (first | exact aa | ((conv => whnf) <;> (first | refine And.intro ?_ ?_ | (intro _h; first | contradiction | (try simp only [dd] at _h)) | (refine dt_go ?_) | exact rfl | exact True.intro | exact dkk | exact dks | (refine .inr (.inl (.inl ⟨[], _, _, _, drawCompare_ok l hl, viewA, ⟨rfl, rfl⟩, ?_⟩)); rintro _ _ ⟨v, w, hv, hw, rfl, rfl⟩; refine ⟨rfl, _, lokA, ?_⟩) | (refine wrap_succ ?_; omega))))
  all_goals (conv => whnf)
  all_goals exact endM_pick [] [] (.tup [.s v, .s w]) (view_of rfl .nil) rfl rfl (fun k hk => by rw [hX] at hk; exact absurd hk (Nat.not_lt_zero _)) ⟨v, w, hv, hw, rfl, rfl⟩
def cmpI (x y : Int) : Int := if x < y then -1 else if y < x then 1 else 0
theorem isNaN_ok (x : Int) : Ret env.P 42 [.i .i64 x] (fun r => r = .b false) := by
  refine ret_of (nt := 6) (rvs := [.tmp 2]) Tryd.func42 rfl rfl rfl rfl (fun X => ?_)
  conv => whnf
  exact leaf_b (by simp)
theorem compare_ok (x y : Int) : Ret env.P 27 [.i .i64 x, .i .i64 y] (fun r => r = .i .i64 (cmpI x y)) := by
  refine ret_of (nt := 20) (rvs := [.tmp 4]) Tryd.func27 rfl rfl rfl rfl (fun X => ?_)
  repeat' (first | exact aa | ((conv => whnf) <;> (first | refine And.intro ?_ ?_ | (intro _h; first | contradiction | (try simp only [dd] at _h)) | (refine dt_go ?_) | exact rfl | exact True.intro | exact dkk | exact dks | ((first | refine .inl ⟨_, isNaN_ok _, ?_⟩ | refine ⟨_, isNaN_ok _, ?_⟩); (try rintro _ rfl)) | (refine wrap_succ ?_; omega))))
  all_goals (conv => whnf)
  all_goals first
    | exact leaf_i (by unfold cmpI; rw [if_pos ‹_›])
    | exact leaf_i (by unfold cmpI; rw [if_neg ‹_›, if_pos ‹_›])
    | exact leaf_i (by unfold cmpI; rw [if_neg ‹¬ x < y›, if_neg ‹¬ y < x›])
    | trace_state
theorem compareV_ok (a b : ByteArray) (ha : a.size ≤ 1000000000) (hb : b.size ≤ 1000000000) : Ret env.P 12 [.s a, .s b] (fun x => x = .tup [.i .i64 (bif (vnum a).isSome && (vnum b).isSome then cmpI ((vnum a).getD 0 : Nat) ((vnum b).getD 0 : Nat) else 0), .i .i64 (bif (vnum a).isSome && (vnum b).isSome then 0 else 14)]) := by
  have h1 := versionNumber_ok a ha
  have h2 := versionNumber_ok b hb
  unfold vnR at h1 h2
  cases e1 : (vnum a).isSome with
  | false =>
    rw [e1] at h1
    refine ret_of (nt := 29) (rvs := [.tmp 4, .tmp 5]) Tryd.func12 rfl rfl rfl rfl (fun X => ?_)
    repeat' (first | exact aa | ((conv => whnf) <;> (first | refine And.intro ?_ ?_ | (intro _h; first | contradiction | (try simp only [dd] at _h)) | (refine dt_go ?_) | exact rfl | exact True.intro | exact dkk | exact dks | ((first | refine .inl ⟨_, h1, ?_⟩ | refine ⟨_, h1, ?_⟩); (try rintro _ rfl)) | ((first | refine .inl ⟨_, h2, ?_⟩ | refine ⟨_, h2, ?_⟩); (try rintro _ rfl)) | ((first | refine .inl ⟨_, compare_ok _ _, ?_⟩ | refine ⟨_, compare_ok _ _, ?_⟩); (try rintro _ rfl)) | (refine wrap_succ ?_; omega))))
  | true =>
    rw [e1] at h1
    cases e2 : (vnum b).isSome with
    | false =>
      rw [e2] at h2
      refine ret_of (nt := 29) (rvs := [.tmp 4, .tmp 5]) Tryd.func12 rfl rfl rfl rfl (fun X => ?_)
      repeat' (first | exact aa | ((conv => whnf) <;> (first | refine And.intro ?_ ?_ | (intro _h; first | contradiction | (try simp only [dd] at _h)) | (refine dt_go ?_) | exact rfl | exact True.intro | exact dkk | exact dks | ((first | refine .inl ⟨_, h1, ?_⟩ | refine ⟨_, h1, ?_⟩); (try rintro _ rfl)) | ((first | refine .inl ⟨_, h2, ?_⟩ | refine ⟨_, h2, ?_⟩); (try rintro _ rfl)) | ((first | refine .inl ⟨_, compare_ok _ _, ?_⟩ | refine ⟨_, compare_ok _ _, ?_⟩); (try rintro _ rfl)) | (refine wrap_succ ?_; omega))))
    | true =>
      rw [e2] at h2
      refine ret_of (nt := 29) (rvs := [.tmp 4, .tmp 5]) Tryd.func12 rfl rfl rfl rfl (fun X => ?_)
      repeat' (first | exact aa | ((conv => whnf) <;> (first | refine And.intro ?_ ?_ | (intro _h; first | contradiction | (try simp only [dd] at _h)) | (refine dt_go ?_) | exact rfl | exact True.intro | exact dkk | exact dks | ((first | refine .inl ⟨_, h1, ?_⟩ | refine ⟨_, h1, ?_⟩); (try rintro _ rfl)) | ((first | refine .inl ⟨_, h2, ?_⟩ | refine ⟨_, h2, ?_⟩); (try rintro _ rfl)) | ((first | refine .inl ⟨_, compare_ok _ _, ?_⟩ | refine ⟨_, compare_ok _ _, ?_⟩); (try rintro _ rfl)) | (refine wrap_succ ?_; omega))))
end Go.Proofs.YtcmnohbbjkdpdaaDoor
