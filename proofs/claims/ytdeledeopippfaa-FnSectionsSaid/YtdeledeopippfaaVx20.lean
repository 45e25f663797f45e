/- Texts for VSectionsP. -/
import Derived.Test.YtdeledeopippfaaVx19
namespace Go.Proofs.Ytdeledeopippfaa
open Go Go.RowKit
set_option linter.unusedVariables false
set_option linter.unusedSimpArgs false
set_option maxRecDepth 8000
section
attribute [local irreducible] IntKind.wrap
def fixL (n : Int) (k : Nat) : List Nat := (List.range k).map fun i => (n / 256 ^ i % 256).toNat
theorem fixL_len (n : Int) (k : Nat) : (fixL n k).length = k := by unfold fixL; rw [List.length_map, List.length_range]
theorem fixL_succ (n : Int) (k : Nat) : fixL n (k + 1) = fixL n k ++ [(n / 256 ^ k % 256).toNat] := by
  unfold fixL
  rw [List.range_succ, List.map_append]
  rfl
theorem and255 {n : Int} (h : i64R n) : bits .and .i64 n 255 = n % 256 := by
  have e : bits .and .i64 n 255 = IntKind.i64.wrap ((BitVec.ofInt 64 n &&& BitVec.ofInt 64 255).toNat : Int) := rfl
  have h1 : (BitVec.ofInt 64 n).toNat = (n % 18446744073709551616).toNat := by rw [BitVec.toNat_ofInt]; rfl
  have h2 : (BitVec.ofInt 64 255).toNat = 2 ^ 8 - 1 := by decide
  obtain ⟨_, _⟩ := h
  rw [e, BitVec.toNat_and, h1, h2, Nat.and_two_pow_sub_one_eq_mod, wrap_in (by omega) (by omega)]
  omega
structure FxS where
  k : Nat
  n : Int
  l : List Nat
structure FxI (n : Int) (m : Nat) (y : FxS) : Prop where
  hk : y.k ≤ m
  hn : y.n = n / 256 ^ y.k
  hl : y.l = fixL n y.k
  hR : i64R y.n
theorem FxI.len {n : Int} {m : Nat} {y : FxS} (h : FxI n m y) : y.l.length = y.k := by rw [h.hl, fixL_len]
theorem div8 {n : Int} (h : i64R n) : i64R (n / 256) := by
  obtain ⟨h1, h2⟩ := h
  exact ⟨by omega, by omega⟩
theorem FxI.next {n : Int} {m : Nat} {y : FxS} (h : FxI n m y) (hk : y.k < m) : FxI n m ⟨y.k + 1, y.n / 256, y.l ++ [(y.n % 256).toNat]⟩ := by
  refine ⟨hk, ?_, ?_, div8 h.hR⟩
  · dsimp only
    rw [h.hn, Int.pow_succ, Int.ediv_ediv_of_nonneg (Int.le_of_lt (Int.pow_pos (by decide)))]
  · dsimp only
    rw [fixL_succ, h.hl, h.hn]
theorem shr8i (n : Int) : Int.fdiv n (2 ^ min (Int.toNat 8) 64) = n / 256 := by
  have : (2 : Int) ^ min (Int.toNat 8) 64 = 256 := by decide
  rw [this, Int.fdiv_eq_ediv_of_nonneg _ (by omega)]
theorem fx_put {n : Int} (h : i64R n) : IntKind.u8.wrap (bits .and .i64 n 255) = ((n % 256).toNat : Int) := by
  rw [and255 h, IntKind.wrap_u8]
  omega
theorem fx_putI {n : Int} : IntKind.u8.wrap n = ((n % 256).toNat : Int) := by
  rw [IntKind.wrap_u8]
  omega
theorem owEq_of {v v' : AV} (h : v = v') : OwEq v v' := by subst h; exact .refl _
theorem bytes_row (l : List Nat) : Bytes l.length (elE u8C l) := ⟨fun i hi => ⟨_, rfl⟩⟩
set_option maxHeartbeats 4000000 in
theorem putFix_spec (n : Int) (m : Nat) (h : i64R n) (hm : m ≤ 8) : RetM env.P 70 [] [.i .i64 n, .i .i64 (m : Int)] (fun r H => r = .s (baN (fixL n m)) ∧ H = []) := by
  refine ret_ofPM (nt := 27) (rvs := [.tmp 4]) Try.func70 rfl rfl rfl rfl (fun X hX => ?_)
  refine pw_cut 2 (fun _ : Unit => True) (fun _ => [(0, .i .i64 n), (1, .i .i64 (m : Int)), (5, .row 0 0)]) (fun _ => [some (rowL 1 u8C [])]) ?_ (fun _ _ => ?_)
  · repeat' (first | omega | (with_reducible show (_ : Int) < _; dsimp only; omega) | (with_reducible show (_ : Nat) ≤ _; dsimp only; omega) | ((with_reducible show SrcOk _ _ _) <;> (first | exact srcOk_1 rfl | exact srcOk_L (fun _ => ⟨rfl, rfl⟩) | exact srcOk_E (fun _ => ⟨rfl, rfl⟩))) | ((conv => whnf) <;> (first | refine And.intro ?_ ?_ | (intro _h; first | contradiction | (try simp only [dd] at _h)) | (refine dt_go ?_) | exact rfl | exact True.intro | exact dkk | exact dks | (refine wrap_succ ?_; omega))))
    conv => whnf
    refine cut_turn (turn_eq (id := 0) (x := rowL 1 u8C []) rfl rfl rfl rfl rfl (fun i j hi _ => absurd hi (Nat.not_lt_zero _))) ?_
    exact cut_go () trivial (by repeat' (first | exact trivial | refine And.intro rfl ?_)) (by repeat' (first | exact trivial | refine And.intro (.inl rfl) ?_ | refine And.intro (.inr rfl) ?_ | refine And.intro rfl ?_))
  refine wpc_ok _ _ _ _ ?_
  (try dsimp only)
  conv => whnf
  refine loopFT (fun y : FxS => [(6, .i .i64 (y.k : Int)), (0, .i .i64 y.n), (5, .row 0 y.l.length)]) (fun y => [some (.arr ⟨1, y.l.length, elE u8C y.l, .arr⟩)]) (fun y => FxI n m y) (fun y => m - y.k) ⟨0, n, []⟩ ⟨⟨Nat.zero_le _, by show n = n / 1; omega, rfl, h⟩, ?_⟩
  repeat' (first | omega | (with_reducible show (_ : Int) < _; dsimp only; omega) | (with_reducible show (_ : Nat) ≤ _; dsimp only; omega) | ((with_reducible show SrcOk _ _ _) <;> (first | exact srcOk_1 rfl | exact srcOk_L (fun _ => ⟨rfl, rfl⟩) | exact srcOk_E (fun _ => ⟨rfl, rfl⟩))) | ((conv => whnf) <;> (first | exact lbz_zero rfl rfl | exact low_cells rfl | exact lbz_cap (by have := (‹FxI n m _›).len; have := (‹FxI n m _›).hk; omega) (by decide) | exact lbz_capN (by have := (‹FxI n m _›).len; have := (‹FxI n m _›).hk; omega) | exact bytes_row _ | refine And.intro ?_ ?_ | (intro _h; first | contradiction | (try simp only [dd] at _h)) | (refine dt_go ?_) | exact rfl | exact True.intro | exact dkk | exact dks | ((first | refine .inl ⟨_, l00In_ok _ _ _, ?_⟩ | refine ⟨_, l00In_ok _ _ _, ?_⟩); (try rintro _ rfl)) | (refine wrap_succ ?_; omega))))
  · rename_i y hy _
    conv => whnf
    refine roundET_turn (turn_eq (id := 2) (x := rowL 1 u8C (y.l ++ [(y.n % 256).toNat])) rfl rfl lbz_len.symm rfl rfl (snoc_eq (l := y.l) (sz := 1) (a := (y.n % 256).toNat) (c := u8C) rfl (fun j hj => ?_))) ?_
    · obtain rfl : j = 0 := Nat.lt_one_iff.1 hj
      exact owEq_of (congrArg (AV.i .u8) (fx_put hy.hR))
    refine roundET_end ?_
    refine ⟨⟨y.k + 1, y.n / 256, y.l ++ [(y.n % 256).toNat]⟩, [2], hy.next (by omega), ?_, ?_⟩
    · dsimp only; omega
    repeat' (first | omega | (with_reducible show (_ : Int) < _; dsimp only; omega) | (with_reducible show (_ : Nat) ≤ _; dsimp only; omega) | ((with_reducible show SrcOk _ _ _) <;> (first | exact srcOk_1 rfl | exact srcOk_L (fun _ => ⟨rfl, rfl⟩) | exact srcOk_E (fun _ => ⟨rfl, rfl⟩))) | ((conv => whnf) <;> (first | exact arr_same rfl rfl (fun a j => low_cells rfl) | exact low_cells rfl | exact lbz_len | exact shr8i _ | exact wrap_in (by omega) (by omega) | exact lbz_rho hX ‹_› | refine And.intro ?_ ?_ | (intro _h; first | contradiction | (try simp only [dd] at _h)) | (refine dt_go ?_) | exact rfl | exact True.intro | exact dkk | exact dks | (refine wrap_succ ?_; omega))))
  · rename_i y hy
    conv => whnf
    refine endM_pick [] [] (.s _) (view_of rfl .nil) rfl rfl (fun k hk => by rw [hX] at hk; exact absurd hk (Nat.not_lt_zero _)) ⟨?_, rfl⟩
    refine congrArg AV.s ((bytesOf_u8 _).trans ?_)
    rw [hy.hl]
    have : (fixL n m) = fixL n y.k := congrArg (fixL n) (by have := hy.hk; omega)
    rw [this]
set_option maxHeartbeats 4000000 in
theorem putFix_impl (n : Int) (m : Nat) (h : i64R n) (hm : m ≤ 8) : RetM env.P 20 [] [.i .i64 n, .i .i64 (m : Int)] (fun r H => r = .s (baN (fixL n m)) ∧ H = []) := by
  refine ret_ofPM (nt := 20) (rvs := [.tmp 4]) Try.func20 rfl rfl rfl rfl (fun X hX => ?_)
  refine pw_cut 2 (fun _ : Unit => True) (fun _ => [(0, .i .i64 n), (1, .i .i64 (m : Int)), (5, .row 0 0)]) (fun _ => [some (rowL 1 u8C [])]) ?_ (fun _ _ => ?_)
  · repeat' (first | omega | (with_reducible show (_ : Int) < _; dsimp only; omega) | (with_reducible show (_ : Nat) ≤ _; dsimp only; omega) | ((with_reducible show SrcOk _ _ _) <;> (first | exact srcOk_1 rfl | exact srcOk_L (fun _ => ⟨rfl, rfl⟩) | exact srcOk_E (fun _ => ⟨rfl, rfl⟩))) | ((conv => whnf) <;> (first | refine And.intro ?_ ?_ | (intro _h; first | contradiction | (try simp only [dd] at _h)) | (refine dt_go ?_) | exact rfl | exact True.intro | exact dkk | exact dks | (refine wrap_succ ?_; omega))))
    conv => whnf
    refine cut_turn (turn_eq (id := 0) (x := rowL 1 u8C []) rfl rfl rfl rfl rfl (fun i j hi _ => absurd hi (Nat.not_lt_zero _))) ?_
    exact cut_go () trivial (by repeat' (first | exact trivial | refine And.intro rfl ?_)) (by repeat' (first | exact trivial | refine And.intro (.inl rfl) ?_ | refine And.intro (.inr rfl) ?_ | refine And.intro rfl ?_))
  refine wpc_ok _ _ _ _ ?_
  (try dsimp only)
  conv => whnf
  refine loopFT (fun y : FxS => [(7, .i .i64 (m : Int)), (8, .i .i64 (y.k : Int)), (0, .i .i64 y.n), (5, .row 0 y.l.length)]) (fun y => [some (.arr ⟨1, y.l.length, elE u8C y.l, .arr⟩)]) (fun y => FxI n m y) (fun y => m - y.k) ⟨0, n, []⟩ ⟨⟨Nat.zero_le _, by show n = n / 1; omega, rfl, h⟩, ?_⟩
  repeat' (first | omega | (with_reducible show (_ : Int) < _; dsimp only; omega) | (with_reducible show (_ : Nat) ≤ _; dsimp only; omega) | ((with_reducible show SrcOk _ _ _) <;> (first | exact srcOk_1 rfl | exact srcOk_L (fun _ => ⟨rfl, rfl⟩) | exact srcOk_E (fun _ => ⟨rfl, rfl⟩))) | ((conv => whnf) <;> (first | exact lbz_zero rfl rfl | exact low_cells rfl | exact lbz_cap (by have := (‹FxI n m _›).len; have := (‹FxI n m _›).hk; omega) (by decide) | exact lbz_capN (by have := (‹FxI n m _›).len; have := (‹FxI n m _›).hk; omega) | exact bytes_row _ | refine And.intro ?_ ?_ | (intro _h; first | contradiction | (try simp only [dd] at _h)) | (refine dt_go ?_) | exact rfl | exact True.intro | exact dkk | exact dks | (refine wrap_succ ?_; omega))))
  · rename_i y hy
    conv => whnf
    refine roundET_turn (turn_eq (id := 2) (x := rowL 1 u8C (y.l ++ [(y.n % 256).toNat])) rfl rfl lbz_len.symm rfl rfl (snoc_eq (l := y.l) (sz := 1) (a := (y.n % 256).toNat) (c := u8C) rfl (fun j hj => ?_))) ?_
    · obtain rfl : j = 0 := Nat.lt_one_iff.1 hj
      exact owEq_of (congrArg (AV.i .u8) fx_putI)
    refine roundET_end ?_
    refine ⟨⟨y.k + 1, y.n / 256, y.l ++ [(y.n % 256).toNat]⟩, [2], hy.next (by omega), ?_, ?_⟩
    · dsimp only; omega
    repeat' (first | omega | (with_reducible show (_ : Int) < _; dsimp only; omega) | (with_reducible show (_ : Nat) ≤ _; dsimp only; omega) | ((with_reducible show SrcOk _ _ _) <;> (first | exact srcOk_1 rfl | exact srcOk_L (fun _ => ⟨rfl, rfl⟩) | exact srcOk_E (fun _ => ⟨rfl, rfl⟩))) | ((conv => whnf) <;> (first | exact arr_same rfl rfl (fun a j => low_cells rfl) | exact low_cells rfl | exact lbz_len | exact shr8i _ | exact wrap_in (by omega) (by omega) | exact lbz_rho hX ‹_› | refine And.intro ?_ ?_ | (intro _h; first | contradiction | (try simp only [dd] at _h)) | (refine dt_go ?_) | exact rfl | exact True.intro | exact dkk | exact dks | (refine wrap_succ ?_; omega))))
  · rename_i y hy
    conv => whnf
    refine endM_pick [] [] (.s _) (view_of rfl .nil) rfl rfl (fun k hk => by rw [hX] at hk; exact absurd hk (Nat.not_lt_zero _)) ⟨?_, rfl⟩
    refine congrArg AV.s ((bytesOf_u8 _).trans ?_)
    rw [hy.hl]
    have : (fixL n m) = fixL n y.k := congrArg (fixL n) (by have := hy.hk; omega)
    rw [this]
end
section
attribute [local irreducible] IntKind.wrap
theorem baN_app (l m : List Nat) : baN l ++ baN m = baN (l ++ m) := by
  unfold baN
  rw [List.map_append]
  apply ByteArray.ext
  rw [ByteArray.data_append]
  simp
theorem putLeb_specI {n : Int} (h : 0 ≤ n ∧ n < 9223372036854775808) : RetM env.P 53 [] [.i .i64 n] (fun r H => r = .s (baN (lebL n.toNat)) ∧ H = []) := by
  have := putLeb_spec n.toNat (by omega)
  rwa [show ((n.toNat : Nat) : Int) = n by omega] at this
theorem putLeb_implI {n : Int} (h : 0 ≤ n ∧ n < 9223372036854775808) : RetM env.P 36 [] [.i .i64 n] (fun r H => r = .s (baN (lebL n.toNat)) ∧ H = []) := by
  have := putLeb_impl n.toNat (by omega)
  rwa [show ((n.toNat : Nat) : Int) = n by omega] at this
theorem opV_rng {op : Int} (h1 : ¬ op = 1) (h : (opV op).2.2 = true) : (opV op).1 = 0 ∧ (opV op).2.1 ≤ 4096 := by
  unfold opV at *
  rw [if_neg h1] at *
  repeat' split at *
  all_goals first
    | (exact ⟨rfl, by dsimp only; omega⟩)
    | simp at h
theorem opV_one : opV 1 = (-9223372036854775808, 9223372036854775807, true) := rfl
theorem baN_size (l : List Nat) : (baN l).size = l.length := by
  unfold baN
  show (List.toArray _).size = _
  rw [List.size_toArray, List.length_map]
theorem maxLen_ge : 140737488355328 ≤ maxLen := by decide
theorem sum_le {l m : List Nat} (h : l.length + m.length ≤ 140737488355328) : (baN l).size + (baN m).size ≤ maxLen := by
  rw [baN_size, baN_size]
  exact Nat.le_trans h maxLen_ge
theorem sl10 {n : Int} (h : i64R n) : (slebL n).length ≤ 10 := slebL_len 9 n (by
  have : (128 : Int) ^ 9 = 9223372036854775808 := by decide
  obtain ⟨h1, h2⟩ := h
  omega)
theorem lb9 {n : Nat} (h : n < 9223372036854775808) : (lebL n).length ≤ 9 := lebL_len 8 n (by
  have : (128 : Nat) ^ (8 + 1) = 9223372036854775808 := by decide
  omega)
def Ins.by (i : Ins) : List Nat := if i.good = true then i.op.toNat :: (if i.op = 1 then slebL i.a else if (opV i.op).2.2 = true then lebL i.a.toNat else []) else []
theorem Ins.good_op {i : Ins} (h : i.good = true) : 1 ≤ i.op ∧ i.op ≤ 40 := (of_decide_eq_true h).1
theorem Ins.good_a {i : Ins} (h : i.good = true) : (opV i.op).1 ≤ i.a ∧ i.a ≤ (opV i.op).2.1 := (of_decide_eq_true h).2
theorem Ins.good_1 {i : Ins} (h : i.good = true) (h1 : i.op = 1) : i64R i.a := by
  have := i.good_a h
  rw [h1, opV_one] at this
  exact this
theorem Ins.good_n {i : Ins} (h : i.good = true) (h1 : ¬ i.op = 1) (h2 : (opV i.op).2.2 = true) : 0 ≤ i.a ∧ i.a < 9223372036854775808 := by
  have := i.good_a h
  have := opV_rng h1 h2
  omega
theorem fix1 {n : Int} (h : 1 ≤ n ∧ n ≤ 40) : fixL n 1 = [n.toNat] := by
  show [(n / 1 % 256).toNat] = [n.toNat]
  congr 1
  omega
theorem fix1_spec {n : Int} (h : 1 ≤ n ∧ n ≤ 40) : Ret env.P 70 [.i .i64 n, .i .i64 1] (fun r => r = .s (baN [n.toNat])) := by
  have := putFix_spec n 1 ⟨by omega, by omega⟩ (by omega)
  rw [fix1 h] at this
  exact this.toRet
theorem fix1_impl {n : Int} (h : 1 ≤ n ∧ n ≤ 40) : Ret env.P 20 [.i .i64 n, .i .i64 1] (fun r => r = .s (baN [n.toNat])) := by
  have := putFix_impl n 1 ⟨by omega, by omega⟩ (by omega)
  rw [fix1 h] at this
  exact this.toRet
theorem Ins.by_bad {i : Ins} (h : i.good = false) : baN i.by = ByteArray.empty := by
  unfold Ins.by
  rw [h]
  rfl
theorem Ins.by_1 {i : Ins} (h : i.good = true) (h1 : i.op = 1) : baN [i.op.toNat] ++ baN (slebL i.a) = baN i.by := by
  rw [baN_app]
  unfold Ins.by
  rw [if_pos h, if_pos h1]
  rfl
theorem Ins.by_n {i : Ins} (h : i.good = true) (h1 : ¬ i.op = 1) (h2 : (opV i.op).2.2 = true) : baN [i.op.toNat] ++ baN (lebL i.a.toNat) = baN i.by := by
  rw [baN_app]
  unfold Ins.by
  rw [if_pos h, if_neg h1, if_pos h2]
  rfl
theorem Ins.by_0 {i : Ins} (h : i.good = true) (h1 : ¬ i.op = 1) (h2 : (opV i.op).2.2 = false) : baN [i.op.toNat] = baN i.by := by
  unfold Ins.by
  rw [if_pos h, if_neg h1, if_neg (by rw [h2]; decide)]
set_option maxHeartbeats 4000000 in
theorem insBytes_spec (i : Ins) : Ret env.P 55 [.agg i.cs] (fun r => r = .s (baN i.by)) := by
  cases hg : i.good with
  | false =>
    have hk := insOk_spec i
    rw [hg] at hk
    rw [Ins.by_bad hg]
    refine ret_of (nt := 38) (rvs := [.tmp 2]) Try.func55 rfl rfl rfl rfl (fun X => ?_)
    repeat' (first | omega | (with_reducible show (_ : Int) < _; dsimp only; omega) | (with_reducible show (_ : Nat) ≤ _; dsimp only; omega) | ((with_reducible show SrcOk _ _ _) <;> (first | exact srcOk_1 rfl | exact srcOk_L (fun _ => ⟨rfl, rfl⟩) | exact srcOk_E (fun _ => ⟨rfl, rfl⟩))) | ((conv => whnf) <;> (first | (exfalso; exact ‹¬True› trivial) | refine And.intro ?_ ?_ | (intro _h; first | contradiction | (try simp only [dd] at _h)) | (refine dt_go ?_) | exact rfl | exact True.intro | exact dkk | exact dks | ((first | refine .inl ⟨_, hk, ?_⟩ | refine ⟨_, hk, ?_⟩); (try rintro _ rfl)) | (refine wrap_succ ?_; omega))))
  | true =>
    have hk := insOk_spec i
    rw [hg] at hk
    have hf := fix1_spec (i.good_op hg)
    by_cases h1 : i.op = 1
    · have hp := (putSleb_spec _ (i.good_1 hg h1)).toRet
      rw [← Ins.by_1 hg h1]
      have ho : (opV i.op).2.2 = true := by rw [h1]; rfl
      have hh := has_ok i.op
      rw [ho] at hh
      refine ret_of (nt := 38) (rvs := [.tmp 2]) Try.func55 rfl rfl rfl rfl (fun X => ?_)
      repeat' (first | omega | (with_reducible show (_ : Int) < _; dsimp only; omega) | (with_reducible show (_ : Nat) ≤ _; dsimp only; omega) | ((with_reducible show SrcOk _ _ _) <;> (first | exact srcOk_1 rfl | exact srcOk_L (fun _ => ⟨rfl, rfl⟩) | exact srcOk_E (fun _ => ⟨rfl, rfl⟩))) | ((conv => whnf) <;> (first | exact sum_le (by have := sl10 (i.good_1 hg h1); simp only [List.length_singleton]; omega) | (exfalso; exact ‹¬ i.op = 1› h1) | (exfalso; exact ‹¬True› trivial) | refine And.intro ?_ ?_ | (intro _h; first | contradiction | (try simp only [dd] at _h)) | (refine dt_go ?_) | exact rfl | exact True.intro | exact dkk | exact dks | ((first | refine .inl ⟨_, hk, ?_⟩ | refine ⟨_, hk, ?_⟩); (try rintro _ rfl)) | ((first | refine .inl ⟨_, hf, ?_⟩ | refine ⟨_, hf, ?_⟩); (try rintro _ rfl)) | ((first | refine .inl ⟨_, hh, ?_⟩ | refine ⟨_, hh, ?_⟩); (try rintro _ rfl)) | ((first | refine .inl ⟨_, hp, ?_⟩ | refine ⟨_, hp, ?_⟩); (try rintro _ rfl)) | (refine wrap_succ ?_; omega))))
    · cases ho : (opV i.op).2.2 with
      | true =>
        have hp := (putLeb_specI (i.good_n hg h1 ho)).toRet
        rw [← Ins.by_n hg h1 ho]
        have hh := has_ok i.op
        rw [ho] at hh
        refine ret_of (nt := 38) (rvs := [.tmp 2]) Try.func55 rfl rfl rfl rfl (fun X => ?_)
        repeat' (first | omega | (with_reducible show (_ : Int) < _; dsimp only; omega) | (with_reducible show (_ : Nat) ≤ _; dsimp only; omega) | ((with_reducible show SrcOk _ _ _) <;> (first | exact srcOk_1 rfl | exact srcOk_L (fun _ => ⟨rfl, rfl⟩) | exact srcOk_E (fun _ => ⟨rfl, rfl⟩))) | ((conv => whnf) <;> (first | exact sum_le (by have := lb9 (n := i.a.toNat) (by have := i.good_n hg h1 ho; omega); simp only [List.length_singleton]; omega) | (exfalso; exact h1 ‹i.op = 1›) | (exfalso; exact ‹¬True› trivial) | refine And.intro ?_ ?_ | (intro _h; first | contradiction | (try simp only [dd] at _h)) | (refine dt_go ?_) | exact rfl | exact True.intro | exact dkk | exact dks | ((first | refine .inl ⟨_, hk, ?_⟩ | refine ⟨_, hk, ?_⟩); (try rintro _ rfl)) | ((first | refine .inl ⟨_, hf, ?_⟩ | refine ⟨_, hf, ?_⟩); (try rintro _ rfl)) | ((first | refine .inl ⟨_, hh, ?_⟩ | refine ⟨_, hh, ?_⟩); (try rintro _ rfl)) | ((first | refine .inl ⟨_, hp, ?_⟩ | refine ⟨_, hp, ?_⟩); (try rintro _ rfl)) | (refine wrap_succ ?_; omega))))
      | false =>
        rw [← Ins.by_0 hg h1 ho]
        have hh := has_ok i.op
        rw [ho] at hh
        refine ret_of (nt := 38) (rvs := [.tmp 2]) Try.func55 rfl rfl rfl rfl (fun X => ?_)
        repeat' (first | omega | (with_reducible show (_ : Int) < _; dsimp only; omega) | (with_reducible show (_ : Nat) ≤ _; dsimp only; omega) | ((with_reducible show SrcOk _ _ _) <;> (first | exact srcOk_1 rfl | exact srcOk_L (fun _ => ⟨rfl, rfl⟩) | exact srcOk_E (fun _ => ⟨rfl, rfl⟩))) | ((conv => whnf) <;> (first | (exfalso; exact h1 ‹i.op = 1›) | (exfalso; exact ‹¬True› trivial) | refine And.intro ?_ ?_ | (intro _h; first | contradiction | (try simp only [dd] at _h)) | (refine dt_go ?_) | exact rfl | exact True.intro | exact dkk | exact dks | ((first | refine .inl ⟨_, hk, ?_⟩ | refine ⟨_, hk, ?_⟩); (try rintro _ rfl)) | ((first | refine .inl ⟨_, hf, ?_⟩ | refine ⟨_, hf, ?_⟩); (try rintro _ rfl)) | ((first | refine .inl ⟨_, hh, ?_⟩ | refine ⟨_, hh, ?_⟩); (try rintro _ rfl)) | (refine wrap_succ ?_; omega))))
set_option maxHeartbeats 4000000 in
theorem insBytesG_impl (i : Ins) (hg : i.good = true) : Ret env.P 25 [.agg i.cs] (fun r => r = .s (baN i.by)) := by
  have hf := fix1_impl (i.good_op hg)
  by_cases h1 : i.op = 1
  · have hp := (putSleb_impl _ (i.good_1 hg h1)).toRet
    rw [← Ins.by_1 hg h1]
    have ho : (opV i.op).2.2 = true := by rw [h1]; rfl
    have hh := hasI_ok i.op
    rw [ho] at hh
    refine ret_of (nt := 34) (rvs := [.tmp 2]) Try.func25 rfl rfl rfl rfl (fun X => ?_)
    repeat' (first | omega | (with_reducible show (_ : Int) < _; dsimp only; omega) | (with_reducible show (_ : Nat) ≤ _; dsimp only; omega) | ((with_reducible show SrcOk _ _ _) <;> (first | exact srcOk_1 rfl | exact srcOk_L (fun _ => ⟨rfl, rfl⟩) | exact srcOk_E (fun _ => ⟨rfl, rfl⟩))) | ((conv => whnf) <;> (first | exact sum_le (by have := sl10 (i.good_1 hg h1); simp only [List.length_singleton]; omega) | (exfalso; exact ‹¬ i.op = 1› h1) | (exfalso; exact ‹¬True› trivial) | refine And.intro ?_ ?_ | (intro _h; first | contradiction | (try simp only [dd] at _h)) | (refine dt_go ?_) | exact rfl | exact True.intro | exact dkk | exact dks | ((first | refine .inl ⟨_, hf, ?_⟩ | refine ⟨_, hf, ?_⟩); (try rintro _ rfl)) | ((first | refine .inl ⟨_, hh, ?_⟩ | refine ⟨_, hh, ?_⟩); (try rintro _ rfl)) | ((first | refine .inl ⟨_, hp, ?_⟩ | refine ⟨_, hp, ?_⟩); (try rintro _ rfl)) | (refine wrap_succ ?_; omega))))
  · cases ho : (opV i.op).2.2 with
    | true =>
      have hp := (putLeb_implI (i.good_n hg h1 ho)).toRet
      rw [← Ins.by_n hg h1 ho]
      have hh := hasI_ok i.op
      rw [ho] at hh
      refine ret_of (nt := 34) (rvs := [.tmp 2]) Try.func25 rfl rfl rfl rfl (fun X => ?_)
      repeat' (first | omega | (with_reducible show (_ : Int) < _; dsimp only; omega) | (with_reducible show (_ : Nat) ≤ _; dsimp only; omega) | ((with_reducible show SrcOk _ _ _) <;> (first | exact srcOk_1 rfl | exact srcOk_L (fun _ => ⟨rfl, rfl⟩) | exact srcOk_E (fun _ => ⟨rfl, rfl⟩))) | ((conv => whnf) <;> (first | exact sum_le (by have := lb9 (n := i.a.toNat) (by have := i.good_n hg h1 ho; omega); simp only [List.length_singleton]; omega) | (exfalso; exact h1 ‹i.op = 1›) | (exfalso; exact ‹¬True› trivial) | refine And.intro ?_ ?_ | (intro _h; first | contradiction | (try simp only [dd] at _h)) | (refine dt_go ?_) | exact rfl | exact True.intro | exact dkk | exact dks | ((first | refine .inl ⟨_, hf, ?_⟩ | refine ⟨_, hf, ?_⟩); (try rintro _ rfl)) | ((first | refine .inl ⟨_, hh, ?_⟩ | refine ⟨_, hh, ?_⟩); (try rintro _ rfl)) | ((first | refine .inl ⟨_, hp, ?_⟩ | refine ⟨_, hp, ?_⟩); (try rintro _ rfl)) | (refine wrap_succ ?_; omega))))
    | false =>
      rw [← Ins.by_0 hg h1 ho]
      have hh := hasI_ok i.op
      rw [ho] at hh
      refine ret_of (nt := 34) (rvs := [.tmp 2]) Try.func25 rfl rfl rfl rfl (fun X => ?_)
      repeat' (first | omega | (with_reducible show (_ : Int) < _; dsimp only; omega) | (with_reducible show (_ : Nat) ≤ _; dsimp only; omega) | ((with_reducible show SrcOk _ _ _) <;> (first | exact srcOk_1 rfl | exact srcOk_L (fun _ => ⟨rfl, rfl⟩) | exact srcOk_E (fun _ => ⟨rfl, rfl⟩))) | ((conv => whnf) <;> (first | (exfalso; exact h1 ‹i.op = 1›) | (exfalso; exact ‹¬True› trivial) | refine And.intro ?_ ?_ | (intro _h; first | contradiction | (try simp only [dd] at _h)) | (refine dt_go ?_) | exact rfl | exact True.intro | exact dkk | exact dks | ((first | refine .inl ⟨_, hf, ?_⟩ | refine ⟨_, hf, ?_⟩); (try rintro _ rfl)) | ((first | refine .inl ⟨_, hh, ?_⟩ | refine ⟨_, hh, ?_⟩); (try rintro _ rfl)) | (refine wrap_succ ?_; omega))))
theorem insBytes_impl (i : Ins) : Ret env.P 9 [.agg i.cs] (fun r => r = .s (baN i.by)) := by
  have hk := insOk_impl i
  cases hg : i.good with
  | false =>
    rw [hg] at hk
    rw [Ins.by_bad hg]
    refine ret_of (nt := 8) (rvs := [.tmp 2]) Try.func9 rfl rfl rfl rfl (fun X => ?_)
    repeat' (first | omega | (with_reducible show (_ : Int) < _; dsimp only; omega) | (with_reducible show (_ : Nat) ≤ _; dsimp only; omega) | ((with_reducible show SrcOk _ _ _) <;> (first | exact srcOk_1 rfl | exact srcOk_L (fun _ => ⟨rfl, rfl⟩) | exact srcOk_E (fun _ => ⟨rfl, rfl⟩))) | ((conv => whnf) <;> (first | (exfalso; exact ‹¬True› trivial) | refine And.intro ?_ ?_ | (intro _h; first | contradiction | (try simp only [dd] at _h)) | (refine dt_go ?_) | exact rfl | exact True.intro | exact dkk | exact dks | ((first | refine .inl ⟨_, hk, ?_⟩ | refine ⟨_, hk, ?_⟩); (try rintro _ rfl)) | (refine wrap_succ ?_; omega))))
  | true =>
    rw [hg] at hk
    have hb := insBytesG_impl i hg
    refine ret_of (nt := 8) (rvs := [.tmp 2]) Try.func9 rfl rfl rfl rfl (fun X => ?_)
    repeat' (first | omega | (with_reducible show (_ : Int) < _; dsimp only; omega) | (with_reducible show (_ : Nat) ≤ _; dsimp only; omega) | ((with_reducible show SrcOk _ _ _) <;> (first | exact srcOk_1 rfl | exact srcOk_L (fun _ => ⟨rfl, rfl⟩) | exact srcOk_E (fun _ => ⟨rfl, rfl⟩))) | ((conv => whnf) <;> (first | (exfalso; exact ‹¬True› trivial) | refine And.intro ?_ ?_ | (intro _h; first | contradiction | (try simp only [dd] at _h)) | (refine dt_go ?_) | exact rfl | exact True.intro | exact dkk | exact dks | ((first | refine .inl ⟨_, hk, ?_⟩ | refine ⟨_, hk, ?_⟩); (try rintro _ rfl)) | ((first | refine .inl ⟨_, hb, ?_⟩ | refine ⟨_, hb, ?_⟩); (try rintro _ rfl)) | (refine wrap_succ ?_; omega))))
end
section
attribute [local irreducible] IntKind.wrap
def lebV (b : ByteArray) : Int × Int := match fstI b 9 with
  | none => (0, 0)
  | some i => ((decL ((bsN b).take (i + 1)) : Nat), (i : Int) + 1)
theorem u7 {k : Nat} (hk : k < 9) : IntKind.u64.wrap (7 * IntKind.u64.wrap (k : Int)) = ((7 * k : Nat) : Int) := by
  rw [IntKind.wrap_u64, IntKind.wrap_u64]
  omega
theorem u7_nn {k : Nat} (hk : k < 9) : 0 ≤ IntKind.u64.wrap (7 * IntKind.u64.wrap (k : Int)) := by rw [u7 hk]; omega
theorem take_snocN {l : List Nat} {k : Nat} (hk : k < l.length) : l.take (k + 1) = l.take k ++ [l.getD k 0] := by
  rw [List.take_add_one, List.getElem?_eq_getElem hk, List.getD_eq_getElem?_getD, List.getElem?_eq_getElem hk]
  rfl
theorem byte_lt (b : ByteArray) (k : Nat) : (0 : Int) ≤ ((b.data.getD k 0).toNat : Int) ∧ ((b.data.getD k 0).toNat : Int) < 256 := by
  have := (b.data.getD k 0).toNat_lt
  omega
theorem step_or {b : ByteArray} {k : Nat} (hk : k < b.size) (h9 : k < 9) : bits .or .i64 (decL ((bsN b).take k) : Int) (IntKind.i64.wrap (IntKind.i64.wrap (bits .and .u8 ((b.data.getD k 0).toNat : Int) 127) * 2 ^ min (7 * k) 64)) = (decL ((bsN b).take (k + 1)) : Int) := by
  have hl : k < (bsN b).length := by rw [bsN_len]; exact hk
  have hx := byte_lt b k
  have hn : ((bsN b).take k).length = k := by rw [List.length_take]; omega
  have e : (((b.data.getD k 0).toNat : Int) % 128) = (((bsN b).getD k 0 % 128 : Nat) : Int) := by rw [bsN_at]; omega
  have hw : IntKind.i64.wrap (((b.data.getD k 0).toNat : Int) % 128) = ((b.data.getD k 0).toNat : Int) % 128 := wrap_in (by omega) (by omega)
  rw [and_u8 hx, hw, show min (7 * k) 64 = 7 * k by omega, e, take_snocN hl]
  have := leb_step (l := (bsN b).take k) (x := (bsN b).getD k 0) (by omega)
  rw [hn] at this
  exact this
theorem leaf_ii {a a' b b' : Int} (h : a = a') (h' : b = b') : AV.tup [.i .i64 a, .i .i64 b] = .tup [.i .i64 a', .i .i64 b'] := by rw [h, h']
theorem lebV_some {b : ByteArray} {k : Nat} (h : FstTo b k) (hk : k < b.size) (h9 : k < 9) (hb : (b.data.getD k 0).toNat < 128) : lebV b = (((decL ((bsN b).take (k + 1)) : Nat) : Int), (k : Int) + 1) := by
  unfold lebV
  rw [fstI_some hk h9 (by rw [bsN_at]; exact hb) h]
theorem lebV_none {b : ByteArray} {k : Nat} (h : FstTo b k) (hk : b.size ≤ k ∨ 9 ≤ k) : lebV b = (0, 0) := by
  unfold lebV
  rw [fstI_none h hk]
theorem fst_next {b : ByteArray} {k : Nat} (h : FstTo b k) (hb : ¬ (b.data.getD k 0).toNat < 128) : FstTo b (k + 1) := h.succ (by rw [bsN_at]; exact hb)
set_option maxHeartbeats 4000000 in
theorem l01Leb_ok (b : ByteArray) (hs : b.size ≤ 1048576) : Ret env.P 94 [.s b] (fun r => r = .tup [.i .i64 (lebV b).1, .i .i64 (lebV b).2]) := by
  refine ret_of (nt := 34) (rvs := [.tmp 2, .tmp 3]) Try.func94 rfl rfl rfl rfl (fun X => ?_)
  repeat' (first | omega | (with_reducible show (_ : Int) < _; dsimp only; omega) | (with_reducible show (_ : Nat) ≤ _; dsimp only; omega) | ((with_reducible show SrcOk _ _ _) <;> (first | exact srcOk_1 rfl | exact srcOk_L (fun _ => ⟨rfl, rfl⟩) | exact srcOk_E (fun _ => ⟨rfl, rfl⟩))) | ((conv => whnf) <;> (first | exact u7_nn (by omega) | refine loopN (min b.size 9) (fun k => [(5, .i .i64 k), (4, .i .i64 (decL ((bsN b).take k) : Nat))]) (fun k => []) (fun k => FstTo b k) ⟨.zero b, ?_⟩ | refine And.intro ?_ ?_ | (intro _h; first | contradiction | (try simp only [dd] at _h)) | (refine dt_go ?_) | exact rfl | exact True.intro | exact dkk | exact dks | (refine wrap_succ ?_; omega))))
  all_goals (try simp only [Int.toNat_natCast] at *)
  all_goals first
    | exact fst_next ‹_› (by omega)
    | (rw [u7 (by omega), Int.toNat_natCast]; exact step_or (by omega) (by omega))
    | (conv => whnf
       have e := lebV_none ‹FstTo b _› (by omega)
       rw [e]
       rfl)
    | (conv => whnf
       have e := lebV_some ‹FstTo b _› (by omega) (by omega) (by omega)
       rw [e]
       refine leaf_ii ?_ ?_
       · rw [u7 (by omega), Int.toNat_natCast]; exact step_or (by omega) (by omega)
       · exact wrap_in (by omega) (by omega))
    | trace_state
end
end Go.Proofs.Ytdeledeopippfaa
