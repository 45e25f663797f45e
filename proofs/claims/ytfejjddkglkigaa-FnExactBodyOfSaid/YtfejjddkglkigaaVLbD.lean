/-
  Numbers of seven bits a byte: putting signed ones.
-/
import Derived.Test.YtfejjddkglkigaaVLbC
namespace Go.Proofs.Ytfejjddkglkigaa
open Go Go.RowKit
set_option linter.unusedVariables false
set_option linter.unusedSimpArgs false
attribute [local irreducible] IntKind.wrap

theorem slebL_len : ∀ (k : Nat) (n : Int), -(64 * 128 ^ k) ≤ n ∧ n < 64 * 128 ^ k → (slebL n).length ≤ k + 1 := fun k => by
  induction k with
  | zero => intro n h; rw [slebL_small (by omega)]; exact Nat.le_refl _
  | succ k ih =>
    intro n h
    by_cases q : -64 ≤ n ∧ n ≤ 63
    · rw [slebL_small q]; exact Nat.succ_le_succ (Nat.zero_le _)
    · rw [slebL_big q, List.length_cons]
      have := ih (n / 128) (by rw [Int.pow_succ] at h; omega)
      omega
def i64R (n : Int) : Prop := -9223372036854775808 ≤ n ∧ n ≤ 9223372036854775807
/-- The state of the loop. -/
structure SlS where
  n : Int
  l : List Nat
theorem sleb_le {l : List Nat} {m n : Int} {k : Nat} (hb : (slebL n).length ≤ k) (h : l ++ slebL m = slebL n ∧ i64R m) : l.length ≤ k := by
  rw [← h.1, List.length_append] at hb
  omega
theorem sl_put {n : Int} (h : i64R n) : IntKind.u8.wrap (IntKind.i64.wrap (bits .and .i64 n 127 + 128)) = (((n % 128).toNat + 128 : Nat) : Int) := by
  rw [and_i64 h, wrap_in (by omega) (by omega), IntKind.wrap_u8]
  omega
theorem sl_last {n : Int} (h : i64R n) : IntKind.u8.wrap (bits .and .i64 n 127) = ((n % 128).toNat : Int) := by
  rw [and_i64 h, IntKind.wrap_u8]
  omega
theorem sl_putQ {n : Int} (h : i64R n) : bits .or .u8 (IntKind.u8.wrap (bits .and .i64 n 127)) 128 = (((n % 128).toNat + 128 : Nat) : Int) := by
  rw [sl_last h, or_u8 ⟨by omega, by omega⟩]
  omega
theorem shr7i (n : Int) : Int.fdiv n (2 ^ min (Int.toNat 7) 64) = n / 128 := by
  have : (2 : Int) ^ min (Int.toNat 7) 64 = 128 := by decide
  rw [this, Int.fdiv_eq_ediv_of_nonneg _ (by omega)]
theorem div_i64 {n : Int} (h : i64R n) : i64R (n / 128) := by
  obtain ⟨h1, h2⟩ := h
  exact ⟨by omega, by omega⟩
set_option maxRecDepth 8000 in
set_option maxHeartbeats 4000000 in
theorem putSleb_spec (n : Int) (h : i64R n) : RetM env.P 23 [] [.i .i64 (n : Int)] (fun r H => r = .s (baN (slebL n)) ∧ H = []) := by
  have hb := slebL_len 9 n (by have : (128 : Int) ^ 9 = 9223372036854775808 := by decide
                               obtain ⟨h1, h2⟩ := h
                               omega)
  refine ret_ofPM (nt := 27) (rvs := [.tmp 2]) Try.func23 rfl rfl rfl rfl (fun X hX => ?_)
  refine pw_cut 2 (fun _ : Unit => True) (fun _ => [(0, .i .i64 n), (3, .row 0 0)]) (fun _ => [some (rowL 1 u8C [])]) ?_ (fun _ _ => ?_)
  · repeat' (first | exact aa | ((conv => whnf) <;> (first | refine And.intro ?_ ?_ | (intro _h; first | contradiction | (try simp only [dd] at _h)) | (refine dt_go ?_) | exact rfl | exact True.intro | exact dkk | exact dks | (refine wrap_succ ?_; omega))))
    conv => whnf
    refine cut_turn (turn_eq (id := 0) (x := rowL 1 u8C []) rfl rfl rfl rfl rfl (fun i j hi _ => absurd hi (Nat.not_lt_zero _))) ?_
    exact cut_go () trivial (by repeat' (first | exact trivial | refine And.intro rfl ?_)) (by repeat' (first | exact trivial | refine And.intro (.inl rfl) ?_ | refine And.intro (.inr rfl) ?_ | refine And.intro rfl ?_))
  refine wpc_ok _ _ _ _ ?_
  (try dsimp only)
  conv => whnf
  refine loopFT (fun y : SlS => [(0, .i .i64 y.n), (3, .row 0 y.l.length)]) (fun y => [some (.arr ⟨1, y.l.length, elE u8C y.l, .arr⟩)]) (fun y => y.l ++ slebL y.n = slebL n ∧ i64R y.n) (fun y => y.n.natAbs) ⟨n, []⟩ ⟨⟨rfl, h⟩, ?_⟩
  repeat' (first | exact aa | ((conv => whnf) <;> (first | exact lbz_zero rfl rfl | exact low_cells rfl | exact lbz_cap (sleb_le hb ‹_ ∧ _›) (by decide) | exact lbz_capN (sleb_le hb ‹_ ∧ _›) | exact lbz_bytes rfl | refine And.intro ?_ ?_ | (intro _h; first | contradiction | (try simp only [dd] at _h)) | (refine dt_go ?_) | exact rfl | exact True.intro | exact dkk | exact dks | (refine wrap_succ ?_; omega))))
  all_goals first
  | (rename_i y hy
     conv => whnf
     refine roundET_turn (turn_eq (id := 2) (x := rowL 1 u8C (y.l ++ [(y.n % 128).toNat + 128])) rfl rfl lbz_len.symm rfl rfl (snoc_eq (l := y.l) (sz := 1) (a := (y.n % 128).toNat + 128) (c := u8C) rfl (fun j hj => ?_))) ?_
     · obtain rfl : j = 0 := Nat.lt_one_iff.1 hj
       show OwEq (.i .u8 (IntKind.u8.wrap (IntKind.i64.wrap (bits .and .i64 y.n 127 + 128)))) (.i .u8 (((y.n % 128).toNat + 128 : Nat) : Int))
       rw [sl_put hy.2]
       exact .refl _
     refine roundET_end ?_
     refine ⟨⟨y.n / 128, y.l ++ [(y.n % 128).toNat + 128]⟩, [2], ?_, ?_, ?_⟩
     · refine ⟨?_, div_i64 hy.2⟩
       dsimp only
       rw [List.append_assoc, List.singleton_append, ← slebL_big (by omega)]
       exact hy.1
     · show (y.n / 128).natAbs < y.n.natAbs
       omega
     repeat' (first | exact aa | ((conv => whnf) <;> (first | exact arr_same rfl rfl (fun a j => low_cells rfl) | exact low_cells rfl | exact lbz_len | exact shr7i _ | exact lbz_rho hX _h | refine And.intro ?_ ?_ | (intro _h; first | contradiction | (try simp only [dd] at _h)) | (refine dt_go ?_) | exact rfl | exact True.intro | exact dkk | exact dks | (refine wrap_succ ?_; omega))))
     done)
  | (rename_i y hy _
     conv => whnf
     refine roundET_turn (turn_eq (id := 2) (x := rowL 1 u8C (y.l ++ [(y.n % 128).toNat + 128])) rfl rfl lbz_len.symm rfl rfl (snoc_eq (l := y.l) (sz := 1) (a := (y.n % 128).toNat + 128) (c := u8C) rfl (fun j hj => ?_))) ?_
     · obtain rfl : j = 0 := Nat.lt_one_iff.1 hj
       show OwEq (.i .u8 (IntKind.u8.wrap (IntKind.i64.wrap (bits .and .i64 y.n 127 + 128)))) (.i .u8 (((y.n % 128).toNat + 128 : Nat) : Int))
       rw [sl_put hy.2]
       exact .refl _
     refine roundET_end ?_
     refine ⟨⟨y.n / 128, y.l ++ [(y.n % 128).toNat + 128]⟩, [2], ?_, ?_, ?_⟩
     · refine ⟨?_, div_i64 hy.2⟩
       dsimp only
       rw [List.append_assoc, List.singleton_append, ← slebL_big (by omega)]
       exact hy.1
     · show (y.n / 128).natAbs < y.n.natAbs
       omega
     repeat' (first | exact aa | ((conv => whnf) <;> (first | exact arr_same rfl rfl (fun a j => low_cells rfl) | exact low_cells rfl | exact lbz_len | exact shr7i _ | exact lbz_rho hX _h | refine And.intro ?_ ?_ | (intro _h; first | contradiction | (try simp only [dd] at _h)) | (refine dt_go ?_) | exact rfl | exact True.intro | exact dkk | exact dks | (refine wrap_succ ?_; omega))))
     done)
  | (rename_i y hy _
     conv => whnf
     refine endM_pick [] [] (.s _) (view_of rfl .nil) rfl rfl (fun k hk => by rw [hX] at hk; exact absurd hk (Nat.not_lt_zero _)) ⟨?_, rfl⟩
     exact congrArg AV.s ((bytes_snoc (z := (y.n % 128).toNat) (congrArg (AV.i .u8) (sl_last hy.2))).trans (by rw [← hy.1, slebL_small (by omega)])))

theorem within_ok (x lo hi : Int) : Ret env.P 32 [.i .i64 x, .i .i64 lo, .i .i64 hi] (fun r => r = .b (decide (lo ≤ x ∧ x ≤ hi))) := by
  refine ret_of (nt := 15) (rvs := [.tmp 6]) Try.func32 rfl rfl rfl rfl (fun X => ?_)
  repeat' (first | exact aa | ((conv => whnf) <;> (first | refine And.intro ?_ ?_ | (intro _h; first | contradiction | (try simp only [dd] at _h)) | (refine dt_go ?_) | exact rfl | exact True.intro | exact dkk | exact dks | (refine wrap_succ ?_; omega))))
  all_goals (refine leaf_b ?_; rw [Bool.eq_iff_iff]; simp at *; omega)

theorem l00In_ok (x lo hi : Int) : Ret env.P 31 [.i .i64 x, .i .i64 lo, .i .i64 hi] (fun r => r = .b (decide (lo ≤ x ∧ x ≤ hi))) := by
  refine ret_of (nt := 15) (rvs := [.tmp 6]) Try.func31 rfl rfl rfl rfl (fun X => ?_)
  repeat' (first | exact aa | ((conv => whnf) <;> (first | refine And.intro ?_ ?_ | (intro _h; first | contradiction | (try simp only [dd] at _h)) | (refine dt_go ?_) | exact rfl | exact True.intro | exact dkk | exact dks | (refine wrap_succ ?_; omega))))
  all_goals (refine leaf_b ?_; rw [Bool.eq_iff_iff]; simp at *; omega)

set_option maxRecDepth 8000 in
set_option maxHeartbeats 4000000 in
theorem putSleb_impl (n : Int) (h : i64R n) : RetM env.P 27 [] [.i .i64 (n : Int)] (fun r H => r = .s (baN (slebL n)) ∧ H = []) := by
  have hb := slebL_len 9 n (by have : (128 : Int) ^ 9 = 9223372036854775808 := by decide
                               obtain ⟨h1, h2⟩ := h
                               omega)
  refine ret_ofPM (nt := 24) (rvs := [.tmp 2]) Try.func27 rfl rfl rfl rfl (fun X hX => ?_)
  refine pw_cut 2 (fun _ : Unit => True) (fun _ => [(0, .i .i64 n), (3, .row 0 0)]) (fun _ => [some (rowL 1 u8C [])]) ?_ (fun _ _ => ?_)
  · repeat' (first | exact aa | ((conv => whnf) <;> (first | refine And.intro ?_ ?_ | (intro _h; first | contradiction | (try simp only [dd] at _h)) | (refine dt_go ?_) | exact rfl | exact True.intro | exact dkk | exact dks | (refine wrap_succ ?_; omega))))
    conv => whnf
    refine cut_turn (turn_eq (id := 0) (x := rowL 1 u8C []) rfl rfl rfl rfl rfl (fun i j hi _ => absurd hi (Nat.not_lt_zero _))) ?_
    exact cut_go () trivial (by repeat' (first | exact trivial | refine And.intro rfl ?_)) (by repeat' (first | exact trivial | refine And.intro (.inl rfl) ?_ | refine And.intro (.inr rfl) ?_ | refine And.intro rfl ?_))
  refine wpc_ok _ _ _ _ ?_
  (try dsimp only)
  conv => whnf
  refine loopFT (fun y : SlS => [(0, .i .i64 y.n), (3, .row 0 y.l.length)]) (fun y => [some (.arr ⟨1, y.l.length, elE u8C y.l, .arr⟩)]) (fun y => y.l ++ slebL y.n = slebL n ∧ i64R y.n) (fun y => y.n.natAbs) ⟨n, []⟩ ⟨⟨rfl, h⟩, ?_⟩
  repeat' (first | exact aa | ((conv => whnf) <;> (first | exact lbz_zero rfl rfl | exact low_cells rfl | exact lbz_cap (sleb_le hb ‹_ ∧ _›) (by decide) | exact lbz_capN (sleb_le hb ‹_ ∧ _›) | exact lbz_bytes rfl | refine And.intro ?_ ?_ | (intro _h; first | contradiction | (try simp only [dd] at _h)) | (refine dt_go ?_) | exact rfl | exact True.intro | exact dkk | exact dks | ((first | refine .inl ⟨_, within_ok _ _ _, ?_⟩ | refine ⟨_, within_ok _ _ _, ?_⟩); (try rintro _ rfl)) | (refine wrap_succ ?_; omega))))
  all_goals first
  | (rename_i y hy
     conv => whnf
     refine roundET_turn (turn_eq (id := 2) (x := rowL 1 u8C (y.l ++ [(y.n % 128).toNat + 128])) rfl rfl lbz_len.symm rfl rfl (snoc_eq (l := y.l) (sz := 1) (a := (y.n % 128).toNat + 128) (c := u8C) rfl (fun j hj => ?_))) ?_
     · obtain rfl : j = 0 := Nat.lt_one_iff.1 hj
       show OwEq (.i .u8 (bits .or .u8 (IntKind.u8.wrap (bits .and .i64 y.n 127)) 128)) (.i .u8 (((y.n % 128).toNat + 128 : Nat) : Int))
       rw [sl_putQ hy.2]
       exact .refl _
     refine roundET_end ?_
     refine ⟨⟨y.n / 128, y.l ++ [(y.n % 128).toNat + 128]⟩, [2], ?_, ?_, ?_⟩
     · refine ⟨?_, div_i64 hy.2⟩
       dsimp only
       rw [List.append_assoc, List.singleton_append, ← slebL_big (by omega)]
       exact hy.1
     · show (y.n / 128).natAbs < y.n.natAbs
       omega
     repeat' (first | exact aa | ((conv => whnf) <;> (first | exact arr_same rfl rfl (fun a j => low_cells rfl) | exact low_cells rfl | exact lbz_len | exact shr7i _ | exact lbz_rho hX _h | refine And.intro ?_ ?_ | (intro _h; first | contradiction | (try simp only [dd] at _h)) | (refine dt_go ?_) | exact rfl | exact True.intro | exact dkk | exact dks | (refine wrap_succ ?_; omega))))
     done)
  | (rename_i y hy
     conv => whnf
     refine endM_pick [] [] (.s _) (view_of rfl .nil) rfl rfl (fun k hk => by rw [hX] at hk; exact absurd hk (Nat.not_lt_zero _)) ⟨?_, rfl⟩
     exact congrArg AV.s ((bytes_snoc (z := (y.n % 128).toNat) (congrArg (AV.i .u8) (sl_last hy.2))).trans (by rw [← hy.1, slebL_small (by omega)])))
end Go.Proofs.Ytfejjddkglkigaa
