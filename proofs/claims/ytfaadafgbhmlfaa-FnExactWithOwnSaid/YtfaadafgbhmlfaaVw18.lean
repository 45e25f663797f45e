/- Texts for VWithOwnP. -/
import Derived.Shelf.Strings.FuncGrows
import Derived.Shelf.Small.Wraps
import Derived.Test.YtfaadafgbhmlfaaProg
import Derived.Shelf.Small.Strs
import Derived.Test.YtfaadafgbhmlfaaVw17
namespace Go.Proofs.Ytfaadafgbhmlfaa
open Go Go.RowKit
set_option linter.unusedVariables false
set_option linter.unusedSimpArgs false
section
attribute [local irreducible] IntKind.wrap
theorem slebL_len : ∀ (k : Nat) (n : Int), -(64 * 128 ^ k) ≤ n ∧ n < 64 * 128 ^ k → (slebL n).length ≤ k + 1 := fun k => by
  induction k with
  | zero => intro n h; rw [slebL_small (by omega)]; exact Nat.le_refl _
  | succ k ih =>
    intro n h
    by_cases q : -64 ≤ n ∧ n ≤ 63
    · rw [slebL_small q]; exact Nat.succ_le_succ (Nat.zero_le _)
    · rw [slebL_big q, List.length_cons]
      have := ih (n / 128) (by rw [Int.pow_succ] at h; omega)
      omega
def i64R (n : Int) : Prop := -9223372036854775808 ≤ n ∧ n ≤ 9223372036854775807
theorem within_ok (x lo hi : Int) : Ret env.P 11 [.i .i64 x, .i .i64 lo, .i .i64 hi] (fun r => r = .b (decide (lo ≤ x ∧ x ≤ hi))) := by
  refine ret_of (nt := 15) (rvs := [.tmp 6]) Try.func11 rfl rfl rfl rfl (fun X => ?_)
  repeat' (first | omega | (with_reducible show (_ : Int) < _; dsimp only; omega) | (with_reducible show (_ : Nat) ≤ _; dsimp only; omega) | ((with_reducible show SrcOk _ _ _) <;> (first | exact srcOk_1 rfl | exact srcOk_L (fun _ => ⟨rfl, rfl⟩) | exact srcOk_E (fun _ => ⟨rfl, rfl⟩))) | ((conv => whnf) <;> (first | refine And.intro ?_ ?_ | (intro _h; first | contradiction | (try simp only [dd] at _h)) | (refine dt_go ?_) | exact rfl | exact True.intro | exact dkk | exact dks | (refine wrap_succ ?_; omega))))
  all_goals (refine leaf_b ?_; rw [Bool.eq_iff_iff]; simp at *; omega)
theorem l00In_ok (x lo hi : Int) : Ret env.P 7 [.i .i64 x, .i .i64 lo, .i .i64 hi] (fun r => r = .b (decide (lo ≤ x ∧ x ≤ hi))) := by
  refine ret_of (nt := 15) (rvs := [.tmp 6]) Try.func7 rfl rfl rfl rfl (fun X => ?_)
  repeat' (first | omega | (with_reducible show (_ : Int) < _; dsimp only; omega) | (with_reducible show (_ : Nat) ≤ _; dsimp only; omega) | ((with_reducible show SrcOk _ _ _) <;> (first | exact srcOk_1 rfl | exact srcOk_L (fun _ => ⟨rfl, rfl⟩) | exact srcOk_E (fun _ => ⟨rfl, rfl⟩))) | ((conv => whnf) <;> (first | refine And.intro ?_ ?_ | (intro _h; first | contradiction | (try simp only [dd] at _h)) | (refine dt_go ?_) | exact rfl | exact True.intro | exact dkk | exact dks | (refine wrap_succ ?_; omega))))
  all_goals (refine leaf_b ?_; rw [Bool.eq_iff_iff]; simp at *; omega)
end
theorem RetM.toRet {P : Program} {g : FuncId} {av : List AV} {v : AV} (h : RetM P g [] av (fun r H => r = v ∧ H = [])) : Ret P g av (fun r => r = v) := .mk fun w S us hS hc => by
  refine (h.h w S (fun _ => ⟨0, 0⟩) (fun _ => []) us ⟨fun id r q => by simp at q, fun i j r r' q => by simp at q, fun b hb => ⟨hS b hb, fun id r q => by simp at q⟩⟩ hS.gl hc).mono ?_
  rintro e w' ⟨r, u, H', blk', FP', he, ⟨hq, rfl⟩, _, hcu, _, _, hk⟩
  refine ⟨r, u, he, hq, ?_, ⟨hk.os, hk.tape, hk.output, hk.size, fun k hlt => hk.block k hlt (by rintro ⟨id, r, q, _⟩; simp at q)⟩⟩
  have hcu' : Conc w' _ (fun _ => ⟨0, 0⟩) [] r u := hcu.nil
  exact hcu'.mono (fun b hb => ⟨hb.1.imp_right fun q => ⟨q, hb.2.1⟩, rfl⟩) (HExt.refl _ _)
def getR (v : Int × Int × Bool) : AV := .tup [.i .i64 v.1, .i .i64 v.2.1, .b v.2.2]
def opV (op : Int) : Int × Int × Bool :=
  if op = 1 then (-9223372036854775808, 9223372036854775807, true)
  else if op = 2 ∨ op = 3 ∨ op = 4 then (0, 15, true)
  else if op = 24 ∨ op = 25 ∨ op = 26 then (0, 1, true)
  else if op = 29 ∨ op = 30 then (0, 6, true)
  else if op = 32 then (0, 7, true)
  else if op = 33 then (0, 11, true)
  else if 34 ≤ op ∧ op ≤ 39 then (0, 4096, true)
  else (0, 0, false)
def Ins.good (i : Ins) : Bool := decide ((1 ≤ i.op ∧ i.op ≤ 40) ∧ ((opV i.op).1 ≤ i.a ∧ i.a ≤ (opV i.op).2.1))
section
attribute [local irreducible] IntKind.wrap
def fixL (n : Int) (k : Nat) : List Nat := (List.range k).map fun i => (n / 256 ^ i % 256).toNat
theorem fixL_len (n : Int) (k : Nat) : (fixL n k).length = k := by unfold fixL; rw [List.length_map, List.length_range]
theorem fixL_succ (n : Int) (k : Nat) : fixL n (k + 1) = fixL n k ++ [(n / 256 ^ k % 256).toNat] := by
  unfold fixL
  rw [List.range_succ, List.map_append]
  rfl
theorem and255 {n : Int} (h : i64R n) : bits .and .i64 n 255 = n % 256 := by
  have e : bits .and .i64 n 255 = IntKind.i64.wrap ((BitVec.ofInt 64 n &&& BitVec.ofInt 64 255).toNat : Int) := rfl
  have h1 : (BitVec.ofInt 64 n).toNat = (n % 18446744073709551616).toNat := by rw [BitVec.toNat_ofInt]; rfl
  have h2 : (BitVec.ofInt 64 255).toNat = 2 ^ 8 - 1 := by decide
  obtain ⟨_, _⟩ := h
  rw [e, BitVec.toNat_and, h1, h2, Nat.and_two_pow_sub_one_eq_mod, wrap_in (by omega) (by omega)]
  omega
structure FxS where
  k : Nat
  n : Int
  l : List Nat
structure FxI (n : Int) (m : Nat) (y : FxS) : Prop where
  hk : y.k ≤ m
  hn : y.n = n / 256 ^ y.k
  hl : y.l = fixL n y.k
  hR : i64R y.n
theorem FxI.len {n : Int} {m : Nat} {y : FxS} (h : FxI n m y) : y.l.length = y.k := by rw [h.hl, fixL_len]
theorem div8 {n : Int} (h : i64R n) : i64R (n / 256) := by
  obtain ⟨h1, h2⟩ := h
  exact ⟨by omega, by omega⟩
theorem FxI.next {n : Int} {m : Nat} {y : FxS} (h : FxI n m y) (hk : y.k < m) : FxI n m ⟨y.k + 1, y.n / 256, y.l ++ [(y.n % 256).toNat]⟩ := by
  refine ⟨hk, ?_, ?_, div8 h.hR⟩
  · dsimp only
    rw [h.hn, Int.pow_succ, Int.ediv_ediv_of_nonneg (Int.le_of_lt (Int.pow_pos (by decide)))]
  · dsimp only
    rw [fixL_succ, h.hl, h.hn]
theorem shr8i (n : Int) : Int.fdiv n (2 ^ min (Int.toNat 8) 64) = n / 256 := by
  have : (2 : Int) ^ min (Int.toNat 8) 64 = 256 := by decide
  rw [this, Int.fdiv_eq_ediv_of_nonneg _ (by omega)]
theorem fx_put {n : Int} (h : i64R n) : IntKind.u8.wrap (bits .and .i64 n 255) = ((n % 256).toNat : Int) := by
  rw [and255 h, IntKind.wrap_u8]
  omega
theorem fx_putI {n : Int} : IntKind.u8.wrap n = ((n % 256).toNat : Int) := by
  rw [IntKind.wrap_u8]
  omega
theorem owEq_of {v v' : AV} (h : v = v') : OwEq v v' := by subst h; exact .refl _
theorem bytes_row (l : List Nat) : Bytes l.length (elE u8C l) := ⟨fun i hi => ⟨_, rfl⟩⟩
set_option maxRecDepth 8000 in
set_option maxHeartbeats 4000000 in
theorem putFix_spec (n : Int) (m : Nat) (h : i64R n) (hm : m ≤ 8) : RetM env.P 32 [] [.i .i64 n, .i .i64 (m : Int)] (fun r H => r = .s (baN (fixL n m)) ∧ H = []) := by
  refine ret_ofPM (nt := 27) (rvs := [.tmp 4]) Try.func32 rfl rfl rfl rfl (fun X hX => ?_)
  refine pw_cut 2 (fun _ : Unit => True) (fun _ => [(0, .i .i64 n), (1, .i .i64 (m : Int)), (5, .row 0 0)]) (fun _ => [some (rowL 1 u8C [])]) ?_ (fun _ _ => ?_)
  · repeat' (first | omega | (with_reducible show (_ : Int) < _; dsimp only; omega) | (with_reducible show (_ : Nat) ≤ _; dsimp only; omega) | ((with_reducible show SrcOk _ _ _) <;> (first | exact srcOk_1 rfl | exact srcOk_L (fun _ => ⟨rfl, rfl⟩) | exact srcOk_E (fun _ => ⟨rfl, rfl⟩))) | ((conv => whnf) <;> (first | refine And.intro ?_ ?_ | (intro _h; first | contradiction | (try simp only [dd] at _h)) | (refine dt_go ?_) | exact rfl | exact True.intro | exact dkk | exact dks | (refine wrap_succ ?_; omega))))
    conv => whnf
    refine cut_turn (turn_eq (id := 0) (x := rowL 1 u8C []) rfl rfl rfl rfl rfl (fun i j hi _ => absurd hi (Nat.not_lt_zero _))) ?_
    exact cut_go () trivial (by repeat' (first | exact trivial | refine And.intro rfl ?_)) (by repeat' (first | exact trivial | refine And.intro (.inl rfl) ?_ | refine And.intro (.inr rfl) ?_ | refine And.intro rfl ?_))
  refine wpc_ok _ _ _ _ ?_
  (try dsimp only)
  conv => whnf
  refine loopFT (fun y : FxS => [(6, .i .i64 (y.k : Int)), (0, .i .i64 y.n), (5, .row 0 y.l.length)]) (fun y => [some (.arr ⟨1, y.l.length, elE u8C y.l, .arr⟩)]) (fun y => FxI n m y) (fun y => m - y.k) ⟨0, n, []⟩ ⟨⟨Nat.zero_le _, by show n = n / 1; omega, rfl, h⟩, ?_⟩
  repeat' (first | omega | (with_reducible show (_ : Int) < _; dsimp only; omega) | (with_reducible show (_ : Nat) ≤ _; dsimp only; omega) | ((with_reducible show SrcOk _ _ _) <;> (first | exact srcOk_1 rfl | exact srcOk_L (fun _ => ⟨rfl, rfl⟩) | exact srcOk_E (fun _ => ⟨rfl, rfl⟩))) | ((conv => whnf) <;> (first | exact lbz_zero rfl rfl | exact low_cells rfl | exact lbz_cap (by have := (‹FxI n m _›).len; have := (‹FxI n m _›).hk; omega) (by decide) | exact lbz_capN (by have := (‹FxI n m _›).len; have := (‹FxI n m _›).hk; omega) | exact bytes_row _ | refine And.intro ?_ ?_ | (intro _h; first | contradiction | (try simp only [dd] at _h)) | (refine dt_go ?_) | exact rfl | exact True.intro | exact dkk | exact dks | ((first | refine .inl ⟨_, l00In_ok _ _ _, ?_⟩ | refine ⟨_, l00In_ok _ _ _, ?_⟩); (try rintro _ rfl)) | (refine wrap_succ ?_; omega))))
  · rename_i y hy _
    conv => whnf
    refine roundET_turn (turn_eq (id := 2) (x := rowL 1 u8C (y.l ++ [(y.n % 256).toNat])) rfl rfl lbz_len.symm rfl rfl (snoc_eq (l := y.l) (sz := 1) (a := (y.n % 256).toNat) (c := u8C) rfl (fun j hj => ?_))) ?_
    · obtain rfl : j = 0 := Nat.lt_one_iff.1 hj
      exact owEq_of (congrArg (AV.i .u8) (fx_put hy.hR))
    refine roundET_end ?_
    refine ⟨⟨y.k + 1, y.n / 256, y.l ++ [(y.n % 256).toNat]⟩, [2], hy.next (by omega), ?_, ?_⟩
    · dsimp only; omega
    repeat' (first | omega | (with_reducible show (_ : Int) < _; dsimp only; omega) | (with_reducible show (_ : Nat) ≤ _; dsimp only; omega) | ((with_reducible show SrcOk _ _ _) <;> (first | exact srcOk_1 rfl | exact srcOk_L (fun _ => ⟨rfl, rfl⟩) | exact srcOk_E (fun _ => ⟨rfl, rfl⟩))) | ((conv => whnf) <;> (first | exact arr_same rfl rfl (fun a j => low_cells rfl) | exact low_cells rfl | exact lbz_len | exact shr8i _ | exact wrap_in (by omega) (by omega) | exact lbz_rho hX ‹_› | refine And.intro ?_ ?_ | (intro _h; first | contradiction | (try simp only [dd] at _h)) | (refine dt_go ?_) | exact rfl | exact True.intro | exact dkk | exact dks | (refine wrap_succ ?_; omega))))
  · rename_i y hy
    conv => whnf
    refine endM_pick [] [] (.s _) (view_of rfl .nil) rfl rfl (fun k hk => by rw [hX] at hk; exact absurd hk (Nat.not_lt_zero _)) ⟨?_, rfl⟩
    refine congrArg AV.s ((bytesOf_u8 _).trans ?_)
    rw [hy.hl]
    have : (fixL n m) = fixL n y.k := congrArg (fixL n) (by have := hy.hk; omega)
    rw [this]
set_option maxRecDepth 8000 in
set_option maxHeartbeats 4000000 in
theorem putFix_impl (n : Int) (m : Nat) (h : i64R n) (hm : m ≤ 8) : RetM env.P 25 [] [.i .i64 n, .i .i64 (m : Int)] (fun r H => r = .s (baN (fixL n m)) ∧ H = []) := by
  refine ret_ofPM (nt := 20) (rvs := [.tmp 4]) Try.func25 rfl rfl rfl rfl (fun X hX => ?_)
  refine pw_cut 2 (fun _ : Unit => True) (fun _ => [(0, .i .i64 n), (1, .i .i64 (m : Int)), (5, .row 0 0)]) (fun _ => [some (rowL 1 u8C [])]) ?_ (fun _ _ => ?_)
  · repeat' (first | omega | (with_reducible show (_ : Int) < _; dsimp only; omega) | (with_reducible show (_ : Nat) ≤ _; dsimp only; omega) | ((with_reducible show SrcOk _ _ _) <;> (first | exact srcOk_1 rfl | exact srcOk_L (fun _ => ⟨rfl, rfl⟩) | exact srcOk_E (fun _ => ⟨rfl, rfl⟩))) | ((conv => whnf) <;> (first | refine And.intro ?_ ?_ | (intro _h; first | contradiction | (try simp only [dd] at _h)) | (refine dt_go ?_) | exact rfl | exact True.intro | exact dkk | exact dks | (refine wrap_succ ?_; omega))))
    conv => whnf
    refine cut_turn (turn_eq (id := 0) (x := rowL 1 u8C []) rfl rfl rfl rfl rfl (fun i j hi _ => absurd hi (Nat.not_lt_zero _))) ?_
    exact cut_go () trivial (by repeat' (first | exact trivial | refine And.intro rfl ?_)) (by repeat' (first | exact trivial | refine And.intro (.inl rfl) ?_ | refine And.intro (.inr rfl) ?_ | refine And.intro rfl ?_))
  refine wpc_ok _ _ _ _ ?_
  (try dsimp only)
  conv => whnf
  refine loopFT (fun y : FxS => [(7, .i .i64 (m : Int)), (8, .i .i64 (y.k : Int)), (0, .i .i64 y.n), (5, .row 0 y.l.length)]) (fun y => [some (.arr ⟨1, y.l.length, elE u8C y.l, .arr⟩)]) (fun y => FxI n m y) (fun y => m - y.k) ⟨0, n, []⟩ ⟨⟨Nat.zero_le _, by show n = n / 1; omega, rfl, h⟩, ?_⟩
  repeat' (first | omega | (with_reducible show (_ : Int) < _; dsimp only; omega) | (with_reducible show (_ : Nat) ≤ _; dsimp only; omega) | ((with_reducible show SrcOk _ _ _) <;> (first | exact srcOk_1 rfl | exact srcOk_L (fun _ => ⟨rfl, rfl⟩) | exact srcOk_E (fun _ => ⟨rfl, rfl⟩))) | ((conv => whnf) <;> (first | exact lbz_zero rfl rfl | exact low_cells rfl | exact lbz_cap (by have := (‹FxI n m _›).len; have := (‹FxI n m _›).hk; omega) (by decide) | exact lbz_capN (by have := (‹FxI n m _›).len; have := (‹FxI n m _›).hk; omega) | exact bytes_row _ | refine And.intro ?_ ?_ | (intro _h; first | contradiction | (try simp only [dd] at _h)) | (refine dt_go ?_) | exact rfl | exact True.intro | exact dkk | exact dks | (refine wrap_succ ?_; omega))))
  · rename_i y hy
    conv => whnf
    refine roundET_turn (turn_eq (id := 2) (x := rowL 1 u8C (y.l ++ [(y.n % 256).toNat])) rfl rfl lbz_len.symm rfl rfl (snoc_eq (l := y.l) (sz := 1) (a := (y.n % 256).toNat) (c := u8C) rfl (fun j hj => ?_))) ?_
    · obtain rfl : j = 0 := Nat.lt_one_iff.1 hj
      exact owEq_of (congrArg (AV.i .u8) fx_putI)
    refine roundET_end ?_
    refine ⟨⟨y.k + 1, y.n / 256, y.l ++ [(y.n % 256).toNat]⟩, [2], hy.next (by omega), ?_, ?_⟩
    · dsimp only; omega
    repeat' (first | omega | (with_reducible show (_ : Int) < _; dsimp only; omega) | (with_reducible show (_ : Nat) ≤ _; dsimp only; omega) | ((with_reducible show SrcOk _ _ _) <;> (first | exact srcOk_1 rfl | exact srcOk_L (fun _ => ⟨rfl, rfl⟩) | exact srcOk_E (fun _ => ⟨rfl, rfl⟩))) | ((conv => whnf) <;> (first | exact arr_same rfl rfl (fun a j => low_cells rfl) | exact low_cells rfl | exact lbz_len | exact shr8i _ | exact wrap_in (by omega) (by omega) | exact lbz_rho hX ‹_› | refine And.intro ?_ ?_ | (intro _h; first | contradiction | (try simp only [dd] at _h)) | (refine dt_go ?_) | exact rfl | exact True.intro | exact dkk | exact dks | (refine wrap_succ ?_; omega))))
  · rename_i y hy
    conv => whnf
    refine endM_pick [] [] (.s _) (view_of rfl .nil) rfl rfl (fun k hk => by rw [hX] at hk; exact absurd hk (Nat.not_lt_zero _)) ⟨?_, rfl⟩
    refine congrArg AV.s ((bytesOf_u8 _).trans ?_)
    rw [hy.hl]
    have : (fixL n m) = fixL n y.k := congrArg (fixL n) (by have := hy.hk; omega)
    rw [this]
end
section
attribute [local irreducible] IntKind.wrap
theorem baN_app (l m : List Nat) : baN l ++ baN m = baN (l ++ m) := by
  unfold baN
  rw [List.map_append]
  apply ByteArray.ext
  rw [ByteArray.data_append]
  simp
theorem opV_rng {op : Int} (h1 : ¬ op = 1) (h : (opV op).2.2 = true) : (opV op).1 = 0 ∧ (opV op).2.1 ≤ 4096 := by
  unfold opV at *
  rw [if_neg h1] at *
  repeat' split at *
  all_goals first
    | (exact ⟨rfl, by dsimp only; omega⟩)
    | simp at h
theorem opV_one : opV 1 = (-9223372036854775808, 9223372036854775807, true) := rfl
theorem baN_size (l : List Nat) : (baN l).size = l.length := by
  unfold baN
  show (List.toArray _).size = _
  rw [List.size_toArray, List.length_map]
theorem sl10 {n : Int} (h : i64R n) : (slebL n).length ≤ 10 := slebL_len 9 n (by
  have : (128 : Int) ^ 9 = 9223372036854775808 := by decide
  obtain ⟨h1, h2⟩ := h
  omega)
theorem lb9 {n : Nat} (h : n < 9223372036854775808) : (lebL n).length ≤ 9 := lebL_len 8 n (by
  have : (128 : Nat) ^ (8 + 1) = 9223372036854775808 := by decide
  omega)
def Ins.by (i : Ins) : List Nat := if i.good = true then i.op.toNat :: (if i.op = 1 then slebL i.a else if (opV i.op).2.2 = true then lebL i.a.toNat else []) else []
theorem Ins.good_a {i : Ins} (h : i.good = true) : (opV i.op).1 ≤ i.a ∧ i.a ≤ (opV i.op).2.1 := (of_decide_eq_true h).2
theorem Ins.good_1 {i : Ins} (h : i.good = true) (h1 : i.op = 1) : i64R i.a := by
  have := i.good_a h
  rw [h1, opV_one] at this
  exact this
theorem Ins.good_n {i : Ins} (h : i.good = true) (h1 : ¬ i.op = 1) (h2 : (opV i.op).2.2 = true) : 0 ≤ i.a ∧ i.a < 9223372036854775808 := by
  have := i.good_a h
  have := opV_rng h1 h2
  omega
end
def wdC (c : Nat) : Prop := 45 ≤ c ∧ c ≤ 57 ∨ 97 ≤ c ∧ c ≤ 122
structure WdTo (b : ByteArray) (k : Nat) : Prop where
  h : ∀ j, j < k → wdC (b.data.getD j 0).toNat
theorem WdTo.zero (b : ByteArray) : WdTo b 0 := ⟨fun j hj => absurd hj (Nat.not_lt_zero _)⟩
theorem WdTo.succ {b : ByteArray} {k : Nat} (h : WdTo b k) (hc : wdC (b.data.getD k 0).toNat) : WdTo b (k + 1) := ⟨fun j hj => by
  rcases Nat.lt_or_ge j k with q | q
  · exact h.h j q
  · obtain rfl : j = k := by omega
    exact hc⟩
structure wdB (b : ByteArray) : Prop where
  h : WdTo b b.size
  lo : 1 ≤ b.size
  hi : b.size ≤ 40
def Import.good (x : Import) : Prop := wdB x.name ∧ 0 ≤ x.params ∧ x.params ≤ 8
structure CodeTo (l : List Ins) (k : Nat) : Prop where
  h : ∀ j, j < k → (l.getD j default).good = true
theorem CodeTo.zero (l : List Ins) : CodeTo l 0 := ⟨fun j hj => absurd hj (Nat.not_lt_zero _)⟩
theorem CodeTo.succ {l : List Ins} {k : Nat} (h : CodeTo l k) (hc : (l.getD k default).good = true) : CodeTo l (k + 1) := ⟨fun j hj => by
  rcases Nat.lt_or_ge j k with q | q
  · exact h.h j q
  · obtain rfl : j = k := by omega
    exact hc⟩
structure Core.fine (c : Core) : Prop where
  hp : 0 ≤ c.params ∧ c.params ≤ 8
  hl : 0 ≤ c.locals ∧ c.locals ≤ 8
  hc : c.code.length ≤ 120
  hi : CodeTo c.code c.code.length
def Core.good (c : Core) : Prop := wdB c.name ∧ c.fine
structure ImTo (l : List Import) (k : Nat) : Prop where
  h : ∀ j, j < k → (l.getD j default).good ∧ (l.getD j default).name ∉ (l.take j).map (·.name)
structure CoTo (l : List Core) (k : Nat) : Prop where
  h : ∀ j, j < k → (l.getD j default).good ∧ (l.getD j default).name ∉ (l.take j).map (·.name)
theorem ImTo.zero (l : List Import) : ImTo l 0 := ⟨fun j hj => absurd hj (Nat.not_lt_zero _)⟩
theorem CoTo.zero (l : List Core) : CoTo l 0 := ⟨fun j hj => absurd hj (Nat.not_lt_zero _)⟩
theorem ImTo.succ {l : List Import} {k : Nat} (h : ImTo l k) (h1 : (l.getD k default).good) (h2 : (l.getD k default).name ∉ (l.take k).map (·.name)) : ImTo l (k + 1) := ⟨fun j hj => by
  rcases Nat.lt_or_ge j k with q | q
  · exact h.h j q
  · obtain rfl : j = k := by omega
    exact ⟨h1, h2⟩⟩
theorem CoTo.succ {l : List Core} {k : Nat} (h : CoTo l k) (h1 : (l.getD k default).good) (h2 : (l.getD k default).name ∉ (l.take k).map (·.name)) : CoTo l (k + 1) := ⟨fun j hj => by
  rcases Nat.lt_or_ge j k with q | q
  · exact h.h j q
  · obtain rfl : j = k := by omega
    exact ⟨h1, h2⟩⟩
structure Module.good (m : Module) : Prop where
  pages : 1 ≤ m.pages ∧ m.pages ≤ 16
  li : m.imports.length ≤ 12
  lc : m.cores.length ≤ 8
  im : ImTo m.imports m.imports.length
  co : CoTo m.cores m.cores.length
def bitN (b : Bool) : Nat := cond b 1 0
def putB (s : ByteArray) : List Nat := lebL s.size ++ bsN s
def putN (l : List Nat) : List Nat := lebL l.length ++ l
def Import.by (x : Import) : List Nat := putB x.name ++ lebL x.params.toNat ++ [bitN x.result]
def Core.by (c : Core) : List Nat := putB c.name ++ lebL c.params.toNat ++ lebL c.locals.toNat ++ [bitN c.result]
def bodyN (l : List Ins) : List Nat := lebL l.length ++ l.flatMap Ins.by
def Core.cby (c : Core) : List Nat := putN (bodyN c.code)
def secN (id : Nat) (l : List Nat) : List Nat := id :: putN l
def headN : List Nat := [0, 99, 111, 114, 1]
def Module.s1 (m : Module) : List Nat := lebL m.pages.toNat
def Module.s2 (m : Module) : List Nat := lebL m.imports.length ++ m.imports.flatMap Import.by
def Module.s3 (m : Module) : List Nat := lebL m.cores.length ++ m.cores.flatMap Core.by
def Module.s4 (m : Module) : List Nat := lebL m.cores.length ++ m.cores.flatMap Core.cby
def Module.by (m : Module) : List Nat := headN ++ secN 1 m.s1 ++ secN 2 m.s2 ++ secN 3 m.s3 ++ secN 4 m.s4
theorem lb_small {n : Nat} (h : n ≤ 16383) : (lebL n).length ≤ 2 := lebL_len 1 n (by omega)
theorem lb_tiny {n : Nat} (h : n ≤ 127) : (lebL n).length ≤ 1 := by rw [lebL_small h]; exact Nat.le_refl _
theorem fm_len {α : Type} {f : α → List Nat} {k : Nat} : ∀ {l : List α}, (∀ x ∈ l, (f x).length ≤ k) → (l.flatMap f).length ≤ l.length * k
  | [], _ => by simp
  | a :: l, h => by
    have h1 := h a (List.mem_cons_self ..)
    have h2 := fm_len (l := l) fun x hx => h x (List.mem_cons_of_mem _ hx)
    rw [List.flatMap_cons, List.length_append, List.length_cons, Nat.add_mul]
    omega
theorem Ins.by_len (i : Ins) : i.by.length ≤ 11 := by
  unfold Ins.by
  split
  · rename_i hg
    rw [List.length_cons]
    split
    · rename_i h1
      have := sl10 (i.good_1 hg h1)
      omega
    · split
      · rename_i h1 h2
        have := i.good_n hg h1 h2
        have := lb9 (n := i.a.toNat) (by omega)
        omega
      · simp
  · simp
theorem bodyN_len {l : List Ins} (h : l.length ≤ 120) : (bodyN l).length ≤ 1322 := by
  have h1 := fm_len (f := Ins.by) (k := 11) (l := l) fun x _ => x.by_len
  have h2 := lb_small (n := l.length) (by omega)
  unfold bodyN
  rw [List.length_append]
  omega
theorem putN_len {l : List Nat} (h : l.length ≤ 16383) : (putN l).length ≤ l.length + 2 := by
  have := lb_small h
  unfold putN
  rw [List.length_append]
  omega
theorem putB_len {s : ByteArray} (h : s.size ≤ 127) : (putB s).length ≤ s.size + 1 := by
  have := lb_tiny h
  unfold putB
  rw [List.length_append, bsN_len]
  omega
theorem Import.by_len {x : Import} (h : x.good) : x.by.length ≤ 43 := by
  have := putB_len (s := x.name) (by have := h.1.hi; omega)
  have := h.1.hi
  have := lb_tiny (n := x.params.toNat) (by have := h.2; omega)
  unfold Import.by
  simp only [List.length_append, List.length_singleton]
  omega
theorem Core.by_len {x : Core} (h : x.good) : x.by.length ≤ 44 := by
  have := putB_len (s := x.name) (by have := h.1.hi; omega)
  have := h.1.hi
  have := lb_tiny (n := x.params.toNat) (by have := h.2.hp; omega)
  have := lb_tiny (n := x.locals.toNat) (by have := h.2.hl; omega)
  unfold Core.by
  simp only [List.length_append, List.length_singleton]
  omega
theorem Core.cby_len {x : Core} (h : x.fine) : x.cby.length ≤ 1324 := by
  have h1 := bodyN_len h.hc
  have := putN_len (l := bodyN x.code) (by omega)
  unfold Core.cby
  omega
theorem mem_getD {α : Type} [Inhabited α] {l : List α} {x : α} (h : x ∈ l) : ∃ j, j < l.length ∧ l.getD j default = x := by
  obtain ⟨j, hj, rfl⟩ := List.getElem_of_mem h
  exact ⟨j, hj, by rw [List.getD_eq_getElem?_getD, List.getElem?_eq_getElem hj]; rfl⟩
theorem Module.im_good {m : Module} (h : m.good) : ∀ x ∈ m.imports, x.good := fun x hx => by
  obtain ⟨j, hj, rfl⟩ := mem_getD hx
  exact (h.im.h j hj).1
theorem Module.co_good {m : Module} (h : m.good) : ∀ x ∈ m.cores, x.good := fun x hx => by
  obtain ⟨j, hj, rfl⟩ := mem_getD hx
  exact (h.co.h j hj).1
theorem secN_len {k : Nat} {l : List Nat} (h : l.length ≤ 16383) : (secN k l).length ≤ l.length + 3 := by
  have := putN_len h
  unfold secN
  rw [List.length_cons]
  omega
theorem Module.s1_len {m : Module} (h : m.good) : m.s1.length ≤ 1 := lb_tiny (by have := h.pages; omega)
theorem Module.s2_len {m : Module} (h : m.good) : m.s2.length ≤ 517 := by
  have h1 := fm_len (f := Import.by) (k := 43) (l := m.imports) fun x hx => Import.by_len (m.im_good h x hx)
  have := h.li
  have := lb_tiny (n := m.imports.length) (by omega)
  unfold Module.s2
  rw [List.length_append]
  omega
theorem Module.s3_len {m : Module} (h : m.good) : m.s3.length ≤ 353 := by
  have h1 := fm_len (f := Core.by) (k := 44) (l := m.cores) fun x hx => Core.by_len (m.co_good h x hx)
  have := h.lc
  have := lb_tiny (n := m.cores.length) (by omega)
  unfold Module.s3
  rw [List.length_append]
  omega
theorem Module.s4_len {m : Module} (h : m.good) : m.s4.length ≤ 10593 := by
  have h1 := fm_len (f := Core.cby) (k := 1324) (l := m.cores) fun x hx => Core.cby_len (m.co_good h x hx).2
  have := h.lc
  have := lb_tiny (n := m.cores.length) (by omega)
  unfold Module.s4
  rw [List.length_append]
  omega
theorem Module.by_len {m : Module} (h : m.good) : m.by.length ≤ 30000 := by
  have h1 := m.s1_len h
  have h2 := m.s2_len h
  have h3 := m.s3_len h
  have h4 := m.s4_len h
  have := secN_len (k := 1) (l := m.s1) (by omega)
  have := secN_len (k := 2) (l := m.s2) (by omega)
  have := secN_len (k := 3) (l := m.s3) (by omega)
  have := secN_len (k := 4) (l := m.s4) (by omega)
  unfold Module.by
  simp only [List.length_append]
  have : headN.length = 5 := rfl
  omega
section
open Go Go.Shelf
def lays103_ren : Go.Shelf.Ren := ⟨fun | 103 => 34 | 210 => 42 | 206 => 48 | n => n, fun | 9 => 9 | 4 => 4 | 24 => 60 | 3 => 3 | n => n, fun | n => n⟩
theorem lays103 : Lays.n103 Try.prog lays103_ren := {
  mixed := by kernel_rfl,
  f103 := Try.func34.trans (congrArg some (by kernel_rfl)),
  f206 := Try.func48.trans (congrArg some (by kernel_rfl)),
  f210 := Try.func42.trans (congrArg some (by kernel_rfl)),
  t3 := Try.underlying3,
  a3 := Try.isAgg3,
  z3 := Try.sizeOf3,
  v3 := Try.zeroValue3,
  t4 := Try.underlying4,
  a4 := Try.isAgg4,
  z4 := Try.sizeOf4,
  v4 := Try.zeroValue4,
  t9 := Try.underlying9,
  a9 := Try.isAgg9,
  z9 := Try.sizeOf9,
  v9 := Try.zeroValue9,
  t24 := Try.underlying60,
  a24 := Try.isAgg60,
  z24 := Try.sizeOf60,
  v24 := Try.zeroValue60 }
def laysGw17_ren : Go.Shelf.Ren := ⟨fun | 17 => 20 | 15 => 36 | 20 => 44 | n => n, fun | 9 => 9 | 23 => 43 | 4 => 4 | 3 => 3 | 0 => 0 | 21 => 21 | n => n, fun | n => n⟩
theorem laysGw17 : LaysGw.n17 Try.prog laysGw17_ren := {
  mixed := by kernel_rfl,
  f15 := Try.func36.trans (congrArg some (by kernel_rfl)),
  f17 := Try.func20.trans (congrArg some (by kernel_rfl)),
  f20 := Try.func44.trans (congrArg some (by kernel_rfl)),
  t0 := Try.underlying0,
  a0 := Try.isAgg0,
  z0 := Try.sizeOf0,
  v0 := Try.zeroValue0,
  i0 := by kernel_rfl,
  t3 := Try.underlying3,
  a3 := Try.isAgg3,
  z3 := Try.sizeOf3,
  v3 := Try.zeroValue3,
  i3 := by kernel_rfl,
  t4 := Try.underlying4,
  a4 := Try.isAgg4,
  z4 := Try.sizeOf4,
  v4 := Try.zeroValue4,
  i4 := by kernel_rfl,
  t9 := Try.underlying9,
  a9 := Try.isAgg9,
  z9 := Try.sizeOf9,
  v9 := Try.zeroValue9,
  i9 := by kernel_rfl,
  t21 := Try.underlying21,
  a21 := Try.isAgg21,
  z21 := Try.sizeOf21,
  v21 := Try.zeroValue21,
  i21 := by kernel_rfl,
  t23 := Try.underlying43,
  a23 := Try.isAgg43,
  z23 := Try.sizeOf43,
  v23 := Try.zeroValue43,
  i23 := by kernel_rfl }
end
theorem concL_1 {w : World} {S : Nat → Prop} {blk : Nat → BC} {H : Hp} {x : AV} {us : List Value} (h : ConcL w S blk H [x] us) : ∃ u, us = [u] ∧ Conc w S blk H x u := by
  obtain ⟨hl, h⟩ := h
  match us, hl with
  | [u], _ => exact ⟨u, rfl, h 0 x u rfl rfl⟩
theorem concL_2 {w : World} {S : Nat → Prop} {blk : Nat → BC} {H : Hp} {x y : AV} {us : List Value} (h : ConcL w S blk H [x, y] us) : ∃ u v, us = [u, v] ∧ Conc w S blk H x u ∧ Conc w S blk H y v := by
  obtain ⟨hl, h⟩ := h
  match us, hl with
  | [u, v], _ => exact ⟨u, v, rfl, h 0 x u rfl rfl, h 1 y v rfl rfl⟩
theorem conc_i {w : World} {S : Nat → Prop} {blk : Nat → BC} {H : Hp} {z : Int} (h1 : -9223372036854775808 ≤ z) (h2 : z < 9223372036854775808) : Conc w S blk H (.i .i64 z) (.int .i64 z) := .i (by
  simp only [Lit.wf, IntKind.min, IntKind.max, IntKind.signed, IntKind.bits, Bool.and_eq_true, decide_eq_true_eq, if_true, Bool.false_eq_true, if_false]
  omega)
section
open Go Go.RowKit Go.Shelf
theorem cutPrefix_ok (s p : ByteArray) : Ret env.P 34 [.s s, .s p] (fun r => r = .tup [.s ⟨(Lib.trimPrefix s.data.toList p.data.toList).toArray⟩, .b (Lib.hasPrefix s.data.toList p.data.toList)]) := .mk fun w S us hS hc => by
  obtain ⟨u, v, rfl, h1, h2⟩ := concL_2 hc
  obtain ⟨rfl, hs⟩ := inv_s h1
  obtain ⟨rfl, _⟩ := inv_s h2
  have hle : (Lib.trimPrefix s.data.toList p.data.toList).length ≤ s.data.toList.length := by
    unfold Lib.trimPrefix
    split
    · rw [List.length_drop]; omega
    · exact Nat.le_refl _
  refine (Any.strings_CutPrefix lays103 s p w).mono fun e w' ⟨he, hw⟩ => ⟨_, _, he, rfl, .tup _ [_, _] rfl fun j c u hj hu => ?_, hw ▸ Below.refl _ _⟩
  match j with
  | 0 => cases hj; cases hu; exact .s (Nat.le_trans hle hs)
  | 1 => cases hj; cases hu; exact .b _
  | j + 2 => cases hj
theorem containsFunc_ok {g : FuncId} (eg : ∀ args w, (callFunc g args).run env.P w = .ok (.enter g args) w) (p : Nat → Bool) (hg : ∀ x : Nat, x ≤ 1114111 → Ret env.P g [.i .i32 (x : Int)] (fun r => r = .b (p x))) (s : ByteArray) :
    Ret env.P 20 [.s s, .fn g []] (fun r => r = .b (decide (0 ≤ Lib.idxFunc p true s))) := .mk fun w S us hS hc => by
  obtain ⟨u, v, rfl, h1, h2⟩ := concL_2 hc
  obtain ⟨rfl, hs⟩ := inv_s h1
  obtain ⟨cs, rfl, hl, _⟩ := inv_fn h2
  obtain rfl : cs = [] := List.eq_nil_of_length_eq_zero hl
  have hp : PredGrows env.P g #[] p w := fun W x hx hb => by
    refine ((hg x hx).h W S [.int .i32 (x : Int)] (hS.below hb (Nat.le_refl _)) ⟨rfl, fun j c u hj hu => ?_⟩).mono fun e w' ⟨r, u, he, hr, hu, hb⟩ => ?_
    · match j with
      | 0 =>
        cases hj; cases hu
        refine .i ?_
        simp only [Lit.wf, IntKind.min, IntKind.max, IntKind.signed, IntKind.bits, Bool.and_eq_true, decide_eq_true_eq, if_true, Bool.false_eq_true, if_false]
        omega
      | j + 1 => cases hj
    · subst hr
      cases hu
      exact ⟨he, hb⟩
  exact (Any.strings_ContainsFunc_grows laysGw17 g #[] eg p s w hp).mono fun e w' ⟨he, hb⟩ => ⟨_, _, he, rfl, .b _, hb⟩
end
section
attribute [local irreducible] IntKind.wrap
theorem lengthI_ok (b : ByteArray) : Ret env.P 19 [.s b] (fun r => r = .i .i64 b.size) := by
  refine ret_of (nt := 5) (rvs := [.tmp 2]) Try.func19 rfl rfl rfl rfl (fun X => ?_)
  repeat' (first | omega | (with_reducible show (_ : Int) < _; dsimp only; omega) | (with_reducible show (_ : Nat) ≤ _; dsimp only; omega) | ((with_reducible show SrcOk _ _ _) <;> (first | exact srcOk_1 rfl | exact srcOk_L (fun _ => ⟨rfl, rfl⟩) | exact srcOk_E (fun _ => ⟨rfl, rfl⟩))) | ((conv => whnf) <;> (first | refine And.intro ?_ ?_ | (intro _h; first | contradiction | (try simp only [dd] at _h)) | (refine dt_go ?_) | exact rfl | exact True.intro | exact dkk | exact dks | (refine wrap_succ ?_; omega))))
end
section
attribute [local irreducible] IntKind.wrap
def imP (nm : ByteArray) (x : Import) : Bool := decide (x.name = nm)
def coP (nm : ByteArray) (x : Core) : Bool := decide (x.name = nm)
structure ImNo (l : List Import) (nm : ByteArray) (k : Nat) : Prop where
  h : ∀ j, j < k → imP nm (l.getD j default) = false
structure CoNo (l : List Core) (nm : ByteArray) (k : Nat) : Prop where
  h : ∀ j, j < k → coP nm (l.getD j default) = false
theorem ImNo.zero (l : List Import) (nm : ByteArray) : ImNo l nm 0 := ⟨fun j hj => absurd hj (Nat.not_lt_zero _)⟩
theorem CoNo.zero (l : List Core) (nm : ByteArray) : CoNo l nm 0 := ⟨fun j hj => absurd hj (Nat.not_lt_zero _)⟩
theorem ImNo.succ {l : List Import} {nm : ByteArray} {k : Nat} (h : ImNo l nm k) (hn : ¬ (l.getD k default).name = nm) : ImNo l nm (k + 1) := ⟨fun j hj => by
  rcases Nat.lt_or_ge j k with q | q
  · exact h.h j q
  · obtain rfl : j = k := by omega
    exact decide_eq_false hn⟩
theorem CoNo.succ {l : List Core} {nm : ByteArray} {k : Nat} (h : CoNo l nm k) (hn : ¬ (l.getD k default).name = nm) : CoNo l nm (k + 1) := ⟨fun j hj => by
  rcases Nat.lt_or_ge j k with q | q
  · exact h.h j q
  · obtain rfl : j = k := by omega
    exact decide_eq_false hn⟩
end
structure Section where
  id : Int
  name : ByteArray
  bytes : ByteArray
  deriving DecidableEq, Inhabited
def Section.cs (a : Section) : List AV := [.i .i64 a.id, .s a.name, .s a.bytes]
theorem Section.low (a : Section) : a.cs.all (low1 0) = true := rfl
def Section.ok (a : Section) : Prop := okS a.name ∧ okS a.bytes
def Section.sz (a : Section) (left : Int) : Int :=
  if (szSt a.name left) < 0 then -1 else if (szSt a.bytes (szSt a.name left)) < 0 then -1 else (szSt a.bytes (szSt a.name left))
instance : HoldC Ins.cs := holdC_plain fun _ => rfl
instance : FreeC Ins.cs := freeC_plain fun _ => rfl
instance : Shr 0 Ins.cs Ins.cs := shr_plain fun _ => rfl
end Go.Proofs.Ytfaadafgbhmlfaa
