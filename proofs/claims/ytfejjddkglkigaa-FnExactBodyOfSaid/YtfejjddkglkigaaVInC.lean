/-
  Numbers of a fixed length.
-/
import Derived.Test.YtfejjddkglkigaaVInB
namespace Go.Proofs.Ytfejjddkglkigaa
open Go Go.RowKit
set_option linter.unusedVariables false
set_option linter.unusedSimpArgs false
attribute [local irreducible] IntKind.wrap

/-- The lowest bytes of a number. -/
def fixL (n : Int) (k : Nat) : List Nat := (List.range k).map fun i => (n / 256 ^ i % 256).toNat
theorem fixL_len (n : Int) (k : Nat) : (fixL n k).length = k := by unfold fixL; rw [List.length_map, List.length_range]
theorem fixL_succ (n : Int) (k : Nat) : fixL n (k + 1) = fixL n k ++ [(n / 256 ^ k % 256).toNat] := by
  unfold fixL
  rw [List.range_succ, List.map_append]
  rfl
theorem and255 {n : Int} (h : i64R n) : bits .and .i64 n 255 = n % 256 := by
  have e : bits .and .i64 n 255 = IntKind.i64.wrap ((BitVec.ofInt 64 n &&& BitVec.ofInt 64 255).toNat : Int) := rfl
  have h1 : (BitVec.ofInt 64 n).toNat = (n % 18446744073709551616).toNat := by rw [BitVec.toNat_ofInt]; rfl
  have h2 : (BitVec.ofInt 64 255).toNat = 2 ^ 8 - 1 := by decide
  obtain ⟨_, _⟩ := h
  rw [e, BitVec.toNat_and, h1, h2, Nat.and_two_pow_sub_one_eq_mod, wrap_in (by omega) (by omega)]
  omega
structure FxS where
  k : Nat
  n : Int
  l : List Nat
structure FxI (n : Int) (m : Nat) (y : FxS) : Prop where
  hk : y.k ≤ m
  hn : y.n = n / 256 ^ y.k
  hl : y.l = fixL n y.k
  hR : i64R y.n
theorem FxI.len {n : Int} {m : Nat} {y : FxS} (h : FxI n m y) : y.l.length = y.k := by rw [h.hl, fixL_len]
theorem div8 {n : Int} (h : i64R n) : i64R (n / 256) := by
  obtain ⟨h1, h2⟩ := h
  exact ⟨by omega, by omega⟩
theorem FxI.next {n : Int} {m : Nat} {y : FxS} (h : FxI n m y) (hk : y.k < m) : FxI n m ⟨y.k + 1, y.n / 256, y.l ++ [(y.n % 256).toNat]⟩ := by
  refine ⟨hk, ?_, ?_, div8 h.hR⟩
  · dsimp only
    rw [h.hn, Int.pow_succ, Int.ediv_ediv_of_nonneg (Int.le_of_lt (Int.pow_pos (by decide)))]
  · dsimp only
    rw [fixL_succ, h.hl, h.hn]
theorem shr8i (n : Int) : Int.fdiv n (2 ^ min (Int.toNat 8) 64) = n / 256 := by
  have : (2 : Int) ^ min (Int.toNat 8) 64 = 256 := by decide
  rw [this, Int.fdiv_eq_ediv_of_nonneg _ (by omega)]
theorem fx_put {n : Int} (h : i64R n) : IntKind.u8.wrap (bits .and .i64 n 255) = ((n % 256).toNat : Int) := by
  rw [and255 h, IntKind.wrap_u8]
  omega
theorem fx_putI {n : Int} : IntKind.u8.wrap n = ((n % 256).toNat : Int) := by
  rw [IntKind.wrap_u8]
  omega
theorem owEq_of {v v' : AV} (h : v = v') : OwEq v v' := by subst h; exact .refl _
theorem bytes_row (l : List Nat) : Bytes l.length (elE u8C l) := ⟨fun i hi => ⟨_, rfl⟩⟩
set_option maxRecDepth 8000 in
set_option maxHeartbeats 4000000 in
theorem putFix_spec (n : Int) (m : Nat) (h : i64R n) (hm : m ≤ 8) : RetM env.P 25 [] [.i .i64 n, .i .i64 (m : Int)] (fun r H => r = .s (baN (fixL n m)) ∧ H = []) := by
  refine ret_ofPM (nt := 27) (rvs := [.tmp 4]) Try.func25 rfl rfl rfl rfl (fun X hX => ?_)
  refine pw_cut 2 (fun _ : Unit => True) (fun _ => [(0, .i .i64 n), (1, .i .i64 (m : Int)), (5, .row 0 0)]) (fun _ => [some (rowL 1 u8C [])]) ?_ (fun _ _ => ?_)
  · repeat' (first | exact aa | ((conv => whnf) <;> (first | refine And.intro ?_ ?_ | (intro _h; first | contradiction | (try simp only [dd] at _h)) | (refine dt_go ?_) | exact rfl | exact True.intro | exact dkk | exact dks | (refine wrap_succ ?_; omega))))
    conv => whnf
    refine cut_turn (turn_eq (id := 0) (x := rowL 1 u8C []) rfl rfl rfl rfl rfl (fun i j hi _ => absurd hi (Nat.not_lt_zero _))) ?_
    exact cut_go () trivial (by repeat' (first | exact trivial | refine And.intro rfl ?_)) (by repeat' (first | exact trivial | refine And.intro (.inl rfl) ?_ | refine And.intro (.inr rfl) ?_ | refine And.intro rfl ?_))
  refine wpc_ok _ _ _ _ ?_
  (try dsimp only)
  conv => whnf
  refine loopFT (fun y : FxS => [(6, .i .i64 (y.k : Int)), (0, .i .i64 y.n), (5, .row 0 y.l.length)]) (fun y => [some (.arr ⟨1, y.l.length, elE u8C y.l, .arr⟩)]) (fun y => FxI n m y) (fun y => m - y.k) ⟨0, n, []⟩ ⟨⟨Nat.zero_le _, by show n = n / 1; omega, rfl, h⟩, ?_⟩
  repeat' (first | exact aa | ((conv => whnf) <;> (first | exact lbz_zero rfl rfl | exact low_cells rfl | exact lbz_cap (by have := (‹FxI n m _›).len; have := (‹FxI n m _›).hk; omega) (by decide) | exact lbz_capN (by have := (‹FxI n m _›).len; have := (‹FxI n m _›).hk; omega) | exact bytes_row _ | refine And.intro ?_ ?_ | (intro _h; first | contradiction | (try simp only [dd] at _h)) | (refine dt_go ?_) | exact rfl | exact True.intro | exact dkk | exact dks | ((first | refine .inl ⟨_, l00In_ok _ _ _, ?_⟩ | refine ⟨_, l00In_ok _ _ _, ?_⟩); (try rintro _ rfl)) | (refine wrap_succ ?_; omega))))
  · rename_i y hy _
    conv => whnf
    refine roundET_turn (turn_eq (id := 2) (x := rowL 1 u8C (y.l ++ [(y.n % 256).toNat])) rfl rfl lbz_len.symm rfl rfl (snoc_eq (l := y.l) (sz := 1) (a := (y.n % 256).toNat) (c := u8C) rfl (fun j hj => ?_))) ?_
    · obtain rfl : j = 0 := Nat.lt_one_iff.1 hj
      exact owEq_of (congrArg (AV.i .u8) (fx_put hy.hR))
    refine roundET_end ?_
    refine ⟨⟨y.k + 1, y.n / 256, y.l ++ [(y.n % 256).toNat]⟩, [2], hy.next (by omega), ?_, ?_⟩
    · dsimp only; omega
    repeat' (first | exact aa | ((conv => whnf) <;> (first | exact arr_same rfl rfl (fun a j => low_cells rfl) | exact low_cells rfl | exact lbz_len | exact shr8i _ | exact wrap_in (by omega) (by omega) | exact lbz_rho hX ‹_› | refine And.intro ?_ ?_ | (intro _h; first | contradiction | (try simp only [dd] at _h)) | (refine dt_go ?_) | exact rfl | exact True.intro | exact dkk | exact dks | (refine wrap_succ ?_; omega))))
  · rename_i y hy
    conv => whnf
    refine endM_pick [] [] (.s _) (view_of rfl .nil) rfl rfl (fun k hk => by rw [hX] at hk; exact absurd hk (Nat.not_lt_zero _)) ⟨?_, rfl⟩
    refine congrArg AV.s ((bytesOf_u8 _).trans ?_)
    rw [hy.hl]
    have : (fixL n m) = fixL n y.k := congrArg (fixL n) (by have := hy.hk; omega)
    rw [this]
set_option maxRecDepth 8000 in
set_option maxHeartbeats 4000000 in
theorem putFix_impl (n : Int) (m : Nat) (h : i64R n) (hm : m ≤ 8) : RetM env.P 33 [] [.i .i64 n, .i .i64 (m : Int)] (fun r H => r = .s (baN (fixL n m)) ∧ H = []) := by
  refine ret_ofPM (nt := 20) (rvs := [.tmp 4]) Try.func33 rfl rfl rfl rfl (fun X hX => ?_)
  refine pw_cut 2 (fun _ : Unit => True) (fun _ => [(0, .i .i64 n), (1, .i .i64 (m : Int)), (5, .row 0 0)]) (fun _ => [some (rowL 1 u8C [])]) ?_ (fun _ _ => ?_)
  · repeat' (first | exact aa | ((conv => whnf) <;> (first | refine And.intro ?_ ?_ | (intro _h; first | contradiction | (try simp only [dd] at _h)) | (refine dt_go ?_) | exact rfl | exact True.intro | exact dkk | exact dks | (refine wrap_succ ?_; omega))))
    conv => whnf
    refine cut_turn (turn_eq (id := 0) (x := rowL 1 u8C []) rfl rfl rfl rfl rfl (fun i j hi _ => absurd hi (Nat.not_lt_zero _))) ?_
    exact cut_go () trivial (by repeat' (first | exact trivial | refine And.intro rfl ?_)) (by repeat' (first | exact trivial | refine And.intro (.inl rfl) ?_ | refine And.intro (.inr rfl) ?_ | refine And.intro rfl ?_))
  refine wpc_ok _ _ _ _ ?_
  (try dsimp only)
  conv => whnf
  refine loopFT (fun y : FxS => [(7, .i .i64 (m : Int)), (8, .i .i64 (y.k : Int)), (0, .i .i64 y.n), (5, .row 0 y.l.length)]) (fun y => [some (.arr ⟨1, y.l.length, elE u8C y.l, .arr⟩)]) (fun y => FxI n m y) (fun y => m - y.k) ⟨0, n, []⟩ ⟨⟨Nat.zero_le _, by show n = n / 1; omega, rfl, h⟩, ?_⟩
  repeat' (first | exact aa | ((conv => whnf) <;> (first | exact lbz_zero rfl rfl | exact low_cells rfl | exact lbz_cap (by have := (‹FxI n m _›).len; have := (‹FxI n m _›).hk; omega) (by decide) | exact lbz_capN (by have := (‹FxI n m _›).len; have := (‹FxI n m _›).hk; omega) | exact bytes_row _ | refine And.intro ?_ ?_ | (intro _h; first | contradiction | (try simp only [dd] at _h)) | (refine dt_go ?_) | exact rfl | exact True.intro | exact dkk | exact dks | (refine wrap_succ ?_; omega))))
  · rename_i y hy
    conv => whnf
    refine roundET_turn (turn_eq (id := 2) (x := rowL 1 u8C (y.l ++ [(y.n % 256).toNat])) rfl rfl lbz_len.symm rfl rfl (snoc_eq (l := y.l) (sz := 1) (a := (y.n % 256).toNat) (c := u8C) rfl (fun j hj => ?_))) ?_
    · obtain rfl : j = 0 := Nat.lt_one_iff.1 hj
      exact owEq_of (congrArg (AV.i .u8) fx_putI)
    refine roundET_end ?_
    refine ⟨⟨y.k + 1, y.n / 256, y.l ++ [(y.n % 256).toNat]⟩, [2], hy.next (by omega), ?_, ?_⟩
    · dsimp only; omega
    repeat' (first | exact aa | ((conv => whnf) <;> (first | exact arr_same rfl rfl (fun a j => low_cells rfl) | exact low_cells rfl | exact lbz_len | exact shr8i _ | exact wrap_in (by omega) (by omega) | exact lbz_rho hX ‹_› | refine And.intro ?_ ?_ | (intro _h; first | contradiction | (try simp only [dd] at _h)) | (refine dt_go ?_) | exact rfl | exact True.intro | exact dkk | exact dks | (refine wrap_succ ?_; omega))))
  · rename_i y hy
    conv => whnf
    refine endM_pick [] [] (.s _) (view_of rfl .nil) rfl rfl (fun k hk => by rw [hX] at hk; exact absurd hk (Nat.not_lt_zero _)) ⟨?_, rfl⟩
    refine congrArg AV.s ((bytesOf_u8 _).trans ?_)
    rw [hy.hl]
    have : (fixL n m) = fixL n y.k := congrArg (fixL n) (by have := hy.hk; omega)
    rw [this]
end Go.Proofs.Ytfejjddkglkigaa
