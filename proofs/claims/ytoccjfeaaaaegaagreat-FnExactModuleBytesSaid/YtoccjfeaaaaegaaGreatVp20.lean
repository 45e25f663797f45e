/- Texts for VModuleBytesP. -/
import Derived.Test.YtoccjfeaaaaegaaGreatVp19
namespace Go.Proofs.YtoccjfeaaaaegaaGreat
open Go Go.RowKit
set_option linter.unusedVariables false
set_option linter.unusedSimpArgs false
set_option maxRecDepth 8000
section
attribute [local irreducible] IntKind.wrap
theorem slebL_len : ∀ (k : Nat) (n : Int), -(64 * 128 ^ k) ≤ n ∧ n < 64 * 128 ^ k → (slebL n).length ≤ k + 1 := fun k => by
  induction k with
  | zero => intro n h; rw [slebL_small (by omega)]; exact Nat.le_refl _
  | succ k ih =>
    intro n h
    by_cases q : -64 ≤ n ∧ n ≤ 63
    · rw [slebL_small q]; exact Nat.succ_le_succ (Nat.zero_le _)
    · rw [slebL_big q, List.length_cons]
      have := ih (n / 128) (by rw [Int.pow_succ] at h; omega)
      omega
def i64R (n : Int) : Prop := -9223372036854775808 ≤ n ∧ n ≤ 9223372036854775807
structure SlS where
  n : Int
  l : List Nat
theorem sleb_le {l : List Nat} {m n : Int} {k : Nat} (hb : (slebL n).length ≤ k) (h : l ++ slebL m = slebL n ∧ i64R m) : l.length ≤ k := by
  rw [← h.1, List.length_append] at hb
  omega
theorem sl_put {n : Int} (h : i64R n) : IntKind.u8.wrap (IntKind.i64.wrap (bits .and .i64 n 127 + 128)) = (((n % 128).toNat + 128 : Nat) : Int) := by
  rw [and_i64 h, wrap_in (by omega) (by omega), IntKind.wrap_u8]
  omega
theorem sl_last {n : Int} (h : i64R n) : IntKind.u8.wrap (bits .and .i64 n 127) = ((n % 128).toNat : Int) := by
  rw [and_i64 h, IntKind.wrap_u8]
  omega
theorem sl_putQ {n : Int} (h : i64R n) : bits .or .u8 (IntKind.u8.wrap (bits .and .i64 n 127)) 128 = (((n % 128).toNat + 128 : Nat) : Int) := by
  rw [sl_last h, or_u8 ⟨by omega, by omega⟩]
  omega
theorem shr7i (n : Int) : Int.fdiv n (2 ^ min (Int.toNat 7) 64) = n / 128 := by
  have : (2 : Int) ^ min (Int.toNat 7) 64 = 128 := by decide
  rw [this, Int.fdiv_eq_ediv_of_nonneg _ (by omega)]
theorem div_i64 {n : Int} (h : i64R n) : i64R (n / 128) := by
  obtain ⟨h1, h2⟩ := h
  exact ⟨by omega, by omega⟩
set_option maxHeartbeats 4000000 in
theorem putSleb_spec (n : Int) (h : i64R n) : RetM env.P 73 [] [.i .i64 (n : Int)] (fun r H => r = .s (baN (slebL n)) ∧ H = []) := by
  have hb := slebL_len 9 n (by
    have : (128 : Int) ^ 9 = 9223372036854775808 := by decide
    obtain ⟨h1, h2⟩ := h
    omega)
  refine ret_ofPM (nt := 27) (rvs := [.tmp 2]) Tryz.func73 rfl rfl rfl rfl (fun X hX => ?_)
  refine pw_cut 2 (fun _ : Unit => True) (fun _ => [(0, .i .i64 n), (3, .row 0 0)]) (fun _ => [some (rowL 1 u8C [])]) ?_ (fun _ _ => ?_)
  · repeat' (first | exact aa | ((conv => whnf) <;> (first | refine And.intro ?_ ?_ | (intro _h; first | contradiction | (try simp only [dd] at _h)) | (refine dt_go ?_) | exact rfl | exact True.intro | exact dkk | exact dks | (refine wrap_succ ?_; omega))))
    conv => whnf
    refine cut_turn (turn_eq (id := 0) (x := rowL 1 u8C []) rfl rfl rfl rfl rfl (fun i j hi _ => absurd hi (Nat.not_lt_zero _))) ?_
    exact cut_go () trivial (by repeat' (first | exact trivial | refine And.intro rfl ?_)) (by repeat' (first | exact trivial | refine And.intro (.inl rfl) ?_ | refine And.intro (.inr rfl) ?_ | refine And.intro rfl ?_))
  refine wpc_ok _ _ _ _ ?_
  (try dsimp only)
  conv => whnf
  refine loopFT (fun y : SlS => [(0, .i .i64 y.n), (3, .row 0 y.l.length)]) (fun y => [some (.arr ⟨1, y.l.length, elE u8C y.l, .arr⟩)]) (fun y => y.l ++ slebL y.n = slebL n ∧ i64R y.n) (fun y => y.n.natAbs) ⟨n, []⟩ ⟨⟨rfl, h⟩, ?_⟩
  repeat' (first | exact aa | ((conv => whnf) <;> (first | exact lbz_zero rfl rfl | exact low_cells rfl | exact lbz_cap (sleb_le hb ‹_ ∧ _›) (by decide) | exact lbz_capN (sleb_le hb ‹_ ∧ _›) | exact lbz_bytes rfl | refine And.intro ?_ ?_ | (intro _h; first | contradiction | (try simp only [dd] at _h)) | (refine dt_go ?_) | exact rfl | exact True.intro | exact dkk | exact dks | (refine wrap_succ ?_; omega))))
  all_goals first
  | (rename_i y hy
     conv => whnf
     refine roundET_turn (turn_eq (id := 2) (x := rowL 1 u8C (y.l ++ [(y.n % 128).toNat + 128])) rfl rfl lbz_len.symm rfl rfl (snoc_eq (l := y.l) (sz := 1) (a := (y.n % 128).toNat + 128) (c := u8C) rfl (fun j hj => ?_))) ?_
     · obtain rfl : j = 0 := Nat.lt_one_iff.1 hj
       show OwEq (.i .u8 (IntKind.u8.wrap (IntKind.i64.wrap (bits .and .i64 y.n 127 + 128)))) (.i .u8 (((y.n % 128).toNat + 128 : Nat) : Int))
       rw [sl_put hy.2]
       exact .refl _
     refine roundET_end ?_
     refine ⟨⟨y.n / 128, y.l ++ [(y.n % 128).toNat + 128]⟩, [2], ?_, ?_, ?_⟩
     · refine ⟨?_, div_i64 hy.2⟩
       dsimp only
       rw [List.append_assoc, List.singleton_append, ← slebL_big (by omega)]
       exact hy.1
     · show (y.n / 128).natAbs < y.n.natAbs
       omega
     repeat' (first | exact aa | ((conv => whnf) <;> (first | exact arr_same rfl rfl (fun a j => low_cells rfl) | exact low_cells rfl | exact lbz_len | exact shr7i _ | exact lbz_rho hX _h | refine And.intro ?_ ?_ | (intro _h; first | contradiction | (try simp only [dd] at _h)) | (refine dt_go ?_) | exact rfl | exact True.intro | exact dkk | exact dks | (refine wrap_succ ?_; omega))))
     done)
  | (rename_i y hy _
     conv => whnf
     refine roundET_turn (turn_eq (id := 2) (x := rowL 1 u8C (y.l ++ [(y.n % 128).toNat + 128])) rfl rfl lbz_len.symm rfl rfl (snoc_eq (l := y.l) (sz := 1) (a := (y.n % 128).toNat + 128) (c := u8C) rfl (fun j hj => ?_))) ?_
     · obtain rfl : j = 0 := Nat.lt_one_iff.1 hj
       show OwEq (.i .u8 (IntKind.u8.wrap (IntKind.i64.wrap (bits .and .i64 y.n 127 + 128)))) (.i .u8 (((y.n % 128).toNat + 128 : Nat) : Int))
       rw [sl_put hy.2]
       exact .refl _
     refine roundET_end ?_
     refine ⟨⟨y.n / 128, y.l ++ [(y.n % 128).toNat + 128]⟩, [2], ?_, ?_, ?_⟩
     · refine ⟨?_, div_i64 hy.2⟩
       dsimp only
       rw [List.append_assoc, List.singleton_append, ← slebL_big (by omega)]
       exact hy.1
     · show (y.n / 128).natAbs < y.n.natAbs
       omega
     repeat' (first | exact aa | ((conv => whnf) <;> (first | exact arr_same rfl rfl (fun a j => low_cells rfl) | exact low_cells rfl | exact lbz_len | exact shr7i _ | exact lbz_rho hX _h | refine And.intro ?_ ?_ | (intro _h; first | contradiction | (try simp only [dd] at _h)) | (refine dt_go ?_) | exact rfl | exact True.intro | exact dkk | exact dks | (refine wrap_succ ?_; omega))))
     done)
  | (rename_i y hy _
     conv => whnf
     refine endM_pick [] [] (.s _) (view_of rfl .nil) rfl rfl (fun k hk => by rw [hX] at hk; exact absurd hk (Nat.not_lt_zero _)) ⟨?_, rfl⟩
     exact congrArg AV.s ((bytes_snoc (z := (y.n % 128).toNat) (congrArg (AV.i .u8) (sl_last hy.2))).trans (by rw [← hy.1, slebL_small (by omega)])))
theorem within_ok (x lo hi : Int) : Ret env.P 31 [.i .i64 x, .i .i64 lo, .i .i64 hi] (fun r => r = .b (decide (lo ≤ x ∧ x ≤ hi))) := by
  refine ret_of (nt := 15) (rvs := [.tmp 6]) Tryz.func31 rfl rfl rfl rfl (fun X => ?_)
  repeat' (first | exact aa | ((conv => whnf) <;> (first | refine And.intro ?_ ?_ | (intro _h; first | contradiction | (try simp only [dd] at _h)) | (refine dt_go ?_) | exact rfl | exact True.intro | exact dkk | exact dks | (refine wrap_succ ?_; omega))))
  all_goals (refine leaf_b ?_; rw [Bool.eq_iff_iff]; simp at *; omega)
theorem l00In_ok (x lo hi : Int) : Ret env.P 48 [.i .i64 x, .i .i64 lo, .i .i64 hi] (fun r => r = .b (decide (lo ≤ x ∧ x ≤ hi))) := by
  refine ret_of (nt := 15) (rvs := [.tmp 6]) Tryz.func48 rfl rfl rfl rfl (fun X => ?_)
  repeat' (first | exact aa | ((conv => whnf) <;> (first | refine And.intro ?_ ?_ | (intro _h; first | contradiction | (try simp only [dd] at _h)) | (refine dt_go ?_) | exact rfl | exact True.intro | exact dkk | exact dks | (refine wrap_succ ?_; omega))))
  all_goals (refine leaf_b ?_; rw [Bool.eq_iff_iff]; simp at *; omega)
set_option maxHeartbeats 4000000 in
theorem putSleb_impl (n : Int) (h : i64R n) : RetM env.P 87 [] [.i .i64 (n : Int)] (fun r H => r = .s (baN (slebL n)) ∧ H = []) := by
  have hb := slebL_len 9 n (by
    have : (128 : Int) ^ 9 = 9223372036854775808 := by decide
    obtain ⟨h1, h2⟩ := h
    omega)
  refine ret_ofPM (nt := 24) (rvs := [.tmp 2]) Tryz.func87 rfl rfl rfl rfl (fun X hX => ?_)
  refine pw_cut 2 (fun _ : Unit => True) (fun _ => [(0, .i .i64 n), (3, .row 0 0)]) (fun _ => [some (rowL 1 u8C [])]) ?_ (fun _ _ => ?_)
  · repeat' (first | exact aa | ((conv => whnf) <;> (first | refine And.intro ?_ ?_ | (intro _h; first | contradiction | (try simp only [dd] at _h)) | (refine dt_go ?_) | exact rfl | exact True.intro | exact dkk | exact dks | (refine wrap_succ ?_; omega))))
    conv => whnf
    refine cut_turn (turn_eq (id := 0) (x := rowL 1 u8C []) rfl rfl rfl rfl rfl (fun i j hi _ => absurd hi (Nat.not_lt_zero _))) ?_
    exact cut_go () trivial (by repeat' (first | exact trivial | refine And.intro rfl ?_)) (by repeat' (first | exact trivial | refine And.intro (.inl rfl) ?_ | refine And.intro (.inr rfl) ?_ | refine And.intro rfl ?_))
  refine wpc_ok _ _ _ _ ?_
  (try dsimp only)
  conv => whnf
  refine loopFT (fun y : SlS => [(0, .i .i64 y.n), (3, .row 0 y.l.length)]) (fun y => [some (.arr ⟨1, y.l.length, elE u8C y.l, .arr⟩)]) (fun y => y.l ++ slebL y.n = slebL n ∧ i64R y.n) (fun y => y.n.natAbs) ⟨n, []⟩ ⟨⟨rfl, h⟩, ?_⟩
  repeat' (first | exact aa | ((conv => whnf) <;> (first | exact lbz_zero rfl rfl | exact low_cells rfl | exact lbz_cap (sleb_le hb ‹_ ∧ _›) (by decide) | exact lbz_capN (sleb_le hb ‹_ ∧ _›) | exact lbz_bytes rfl | refine And.intro ?_ ?_ | (intro _h; first | contradiction | (try simp only [dd] at _h)) | (refine dt_go ?_) | exact rfl | exact True.intro | exact dkk | exact dks | ((first | refine .inl ⟨_, within_ok _ _ _, ?_⟩ | refine ⟨_, within_ok _ _ _, ?_⟩); (try rintro _ rfl)) | (refine wrap_succ ?_; omega))))
  all_goals first
  | (rename_i y hy
     conv => whnf
     refine roundET_turn (turn_eq (id := 2) (x := rowL 1 u8C (y.l ++ [(y.n % 128).toNat + 128])) rfl rfl lbz_len.symm rfl rfl (snoc_eq (l := y.l) (sz := 1) (a := (y.n % 128).toNat + 128) (c := u8C) rfl (fun j hj => ?_))) ?_
     · obtain rfl : j = 0 := Nat.lt_one_iff.1 hj
       show OwEq (.i .u8 (bits .or .u8 (IntKind.u8.wrap (bits .and .i64 y.n 127)) 128)) (.i .u8 (((y.n % 128).toNat + 128 : Nat) : Int))
       rw [sl_putQ hy.2]
       exact .refl _
     refine roundET_end ?_
     refine ⟨⟨y.n / 128, y.l ++ [(y.n % 128).toNat + 128]⟩, [2], ?_, ?_, ?_⟩
     · refine ⟨?_, div_i64 hy.2⟩
       dsimp only
       rw [List.append_assoc, List.singleton_append, ← slebL_big (by omega)]
       exact hy.1
     · show (y.n / 128).natAbs < y.n.natAbs
       omega
     repeat' (first | exact aa | ((conv => whnf) <;> (first | exact arr_same rfl rfl (fun a j => low_cells rfl) | exact low_cells rfl | exact lbz_len | exact shr7i _ | exact lbz_rho hX _h | refine And.intro ?_ ?_ | (intro _h; first | contradiction | (try simp only [dd] at _h)) | (refine dt_go ?_) | exact rfl | exact True.intro | exact dkk | exact dks | (refine wrap_succ ?_; omega))))
     done)
  | (rename_i y hy
     conv => whnf
     refine endM_pick [] [] (.s _) (view_of rfl .nil) rfl rfl (fun k hk => by rw [hX] at hk; exact absurd hk (Nat.not_lt_zero _)) ⟨?_, rfl⟩
     exact congrArg AV.s ((bytes_snoc (z := (y.n % 128).toNat) (congrArg (AV.i .u8) (sl_last hy.2))).trans (by rw [← hy.1, slebL_small (by omega)])))
end
theorem RetM.toRet {P : Program} {g : FuncId} {av : List AV} {v : AV} (h : RetM P g [] av (fun r H => r = v ∧ H = [])) : Ret P g av (fun r => r = v) := .mk fun w S us hS hc => by
  refine (h.h w S (fun _ => ⟨0, 0⟩) (fun _ => []) us ⟨fun id r q => by simp at q, fun i j r r' q => by simp at q, fun b hb => ⟨hS b hb, fun id r q => by simp at q⟩⟩ hc).mono ?_
  rintro e w' ⟨r, u, H', blk', FP', he, ⟨hq, rfl⟩, _, hcu, _, _, hk⟩
  refine ⟨r, u, he, hq, ?_, ⟨hk.os, hk.tape, hk.output, hk.size, fun k hlt => hk.block k hlt (by rintro ⟨id, r, q, _⟩; simp at q)⟩⟩
  have hcu' : Conc w' _ (fun _ => ⟨0, 0⟩) [] r u := hcu.nil
  exact hcu'.mono (fun b hb => ⟨hb.1.imp_right fun q => ⟨q, hb.2.1⟩, rfl⟩) (HExt.refl _ _)
def getR (v : Int × Int × Bool) : AV := .tup [.i .i64 v.1, .i .i64 v.2.1, .b v.2.2]
set_option maxRecDepth 8000
def opV (op : Int) : Int × Int × Bool :=
  if op = 1 then (-9223372036854775808, 9223372036854775807, true)
  else if op = 2 ∨ op = 3 ∨ op = 4 then (0, 15, true)
  else if op = 24 ∨ op = 25 ∨ op = 26 then (0, 1, true)
  else if op = 29 ∨ op = 30 then (0, 6, true)
  else if op = 32 then (0, 7, true)
  else if op = 33 then (0, 11, true)
  else if 34 ≤ op ∧ op ≤ 39 then (0, 4096, true)
  else (0, 0, false)
set_option maxHeartbeats 4000000 in
theorem l15Has_ok (op : Int) : Ret env.P 72 [.i .i64 op] (fun r => r = getR (opV op)) := by
  refine ret_of (nt := 30) (rvs := [.tmp 2, .tmp 3, .tmp 4]) Tryz.func72 rfl rfl rfl rfl (fun X => ?_)
  repeat' (first | exact aa | ((conv => whnf) <;> (first | refine And.intro ?_ ?_ | (intro _h; first | contradiction | (try simp only [dd] at _h)) | (refine dt_go ?_) | exact rfl | exact True.intro | exact dkk | exact dks | (refine wrap_succ ?_; omega))))
  all_goals (conv => whnf)
  all_goals first
    | (subst_vars; rfl)
    | (have e : opV op = (0, 0, false) := by
         unfold opV
         rw [if_neg (by omega), if_neg (by omega), if_neg (by omega), if_neg (by omega), if_neg (by omega), if_neg (by omega), if_neg (by omega)]
       rw [e]; rfl)
    | trace_state
theorem numRange64 : Ret env.P 89 [.i .i64 9] (fun r => r = .tup [.i .i64 (-9223372036854775808), .i .i64 9223372036854775807, .b true]) := by
  refine ret_of (nt := 20) (rvs := [.tmp 2, .tmp 3, .tmp 4]) Tryz.func89 rfl rfl rfl rfl (fun X => ?_)
  repeat' (first | exact aa | ((conv => whnf) <;> (first | refine And.intro ?_ ?_ | (intro _h; first | contradiction | (try simp only [dd] at _h)) | (refine dt_go ?_) | exact rfl | exact True.intro | exact dkk | exact dks | (refine wrap_succ ?_; omega))))
set_option maxHeartbeats 4000000 in
theorem operandOf_ok (op : Int) : Ret env.P 76 [.i .i64 op] (fun r => r = getR (opV op)) := by
  refine ret_of (nt := 40) (rvs := [.tmp 2, .tmp 3, .tmp 4]) Tryz.func76 rfl rfl rfl rfl (fun X => ?_)
  repeat' (first | exact aa | ((conv => whnf) <;> (first | refine And.intro ?_ ?_ | (intro _h; first | contradiction | (try simp only [dd] at _h)) | (refine dt_go ?_) | exact rfl | exact True.intro | exact dkk | exact dks | ((first | refine .inl ⟨_, numRange64, ?_⟩ | refine ⟨_, numRange64, ?_⟩); (try rintro _ rfl)) | (refine wrap_succ ?_; omega))))
  all_goals (conv => whnf)
  all_goals first
    | (subst_vars; rfl)
    | (have e : opV op = (0, 0, false) := by
         unfold opV
         rw [if_neg (by omega), if_neg (by omega), if_neg (by omega), if_neg (by omega), if_neg (by omega), if_neg (by omega), if_neg (by omega)]
       rw [e]; rfl)
    | trace_state
set_option maxRecDepth 8000
def Ins.good (i : Ins) : Bool := decide ((1 ≤ i.op ∧ i.op ≤ 40) ∧ ((opV i.op).1 ≤ i.a ∧ i.a ≤ (opV i.op).2.1))
theorem has_ok (op : Int) : Ret env.P 72 [.i .i64 op] (fun r => r = .tup [.i .i64 (opV op).1, .i .i64 (opV op).2.1, .b (opV op).2.2]) := l15Has_ok op
theorem hasI_ok (op : Int) : Ret env.P 76 [.i .i64 op] (fun r => r = .tup [.i .i64 (opV op).1, .i .i64 (opV op).2.1, .b (opV op).2.2]) := operandOf_ok op
theorem l15Ins_ok (i : Ins) : Ret env.P 71 [.agg i.cs] (fun r => r = .b i.good) := by
  refine ret_of (nt := 23) (rvs := [.tmp 2]) Tryz.func71 rfl rfl rfl rfl (fun X => ?_)
  repeat' (first | exact aa | ((conv => whnf) <;> (first | refine And.intro ?_ ?_ | (intro _h; first | contradiction | (try simp only [dd] at _h)) | (refine dt_go ?_) | exact rfl | exact True.intro | exact dkk | exact dks | ((first | refine .inl ⟨_, has_ok _, ?_⟩ | refine ⟨_, has_ok _, ?_⟩); (try rintro _ rfl)) | ((first | refine .inl ⟨_, l00In_ok _ _ _, ?_⟩ | refine ⟨_, l00In_ok _ _ _, ?_⟩); (try rintro _ rfl)) | (refine wrap_succ ?_; omega))))
  all_goals (refine leaf_b ?_; unfold Ins.good; first | (simp_all; done) | (simp_all; omega))
theorem insOk_spec (i : Ins) : Ret env.P 54 [.agg i.cs] (fun r => r = .b i.good) := by
  refine ret_of (nt := 5) (rvs := [.tmp 2]) Tryz.func54 rfl rfl rfl rfl (fun X => ?_)
  repeat' (first | exact aa | ((conv => whnf) <;> (first | refine And.intro ?_ ?_ | (intro _h; first | contradiction | (try simp only [dd] at _h)) | (refine dt_go ?_) | exact rfl | exact True.intro | exact dkk | exact dks | ((first | refine .inl ⟨_, l15Ins_ok i, ?_⟩ | refine ⟨_, l15Ins_ok i, ?_⟩); (try rintro _ rfl)) | (refine wrap_succ ?_; omega))))
theorem insOk_impl (i : Ins) : Ret env.P 59 [.agg i.cs] (fun r => r = .b i.good) := by
  refine ret_of (nt := 23) (rvs := [.tmp 2]) Tryz.func59 rfl rfl rfl rfl (fun X => ?_)
  repeat' (first | exact aa | ((conv => whnf) <;> (first | refine And.intro ?_ ?_ | (intro _h; first | contradiction | (try simp only [dd] at _h)) | (refine dt_go ?_) | exact rfl | exact True.intro | exact dkk | exact dks | ((first | refine .inl ⟨_, hasI_ok _, ?_⟩ | refine ⟨_, hasI_ok _, ?_⟩); (try rintro _ rfl)) | ((first | refine .inl ⟨_, within_ok _ _ _, ?_⟩ | refine ⟨_, within_ok _ _ _, ?_⟩); (try rintro _ rfl)) | (refine wrap_succ ?_; omega))))
  all_goals (refine leaf_b ?_; unfold Ins.good; first | (simp_all; done) | (simp_all; omega))
section
attribute [local irreducible] IntKind.wrap
def fixL (n : Int) (k : Nat) : List Nat := (List.range k).map fun i => (n / 256 ^ i % 256).toNat
theorem fixL_len (n : Int) (k : Nat) : (fixL n k).length = k := by unfold fixL; rw [List.length_map, List.length_range]
theorem fixL_succ (n : Int) (k : Nat) : fixL n (k + 1) = fixL n k ++ [(n / 256 ^ k % 256).toNat] := by
  unfold fixL
  rw [List.range_succ, List.map_append]
  rfl
theorem and255 {n : Int} (h : i64R n) : bits .and .i64 n 255 = n % 256 := by
  have e : bits .and .i64 n 255 = IntKind.i64.wrap ((BitVec.ofInt 64 n &&& BitVec.ofInt 64 255).toNat : Int) := rfl
  have h1 : (BitVec.ofInt 64 n).toNat = (n % 18446744073709551616).toNat := by rw [BitVec.toNat_ofInt]; rfl
  have h2 : (BitVec.ofInt 64 255).toNat = 2 ^ 8 - 1 := by decide
  obtain ⟨_, _⟩ := h
  rw [e, BitVec.toNat_and, h1, h2, Nat.and_two_pow_sub_one_eq_mod, wrap_in (by omega) (by omega)]
  omega
structure FxS where
  k : Nat
  n : Int
  l : List Nat
structure FxI (n : Int) (m : Nat) (y : FxS) : Prop where
  hk : y.k ≤ m
  hn : y.n = n / 256 ^ y.k
  hl : y.l = fixL n y.k
  hR : i64R y.n
theorem FxI.len {n : Int} {m : Nat} {y : FxS} (h : FxI n m y) : y.l.length = y.k := by rw [h.hl, fixL_len]
theorem div8 {n : Int} (h : i64R n) : i64R (n / 256) := by
  obtain ⟨h1, h2⟩ := h
  exact ⟨by omega, by omega⟩
theorem FxI.next {n : Int} {m : Nat} {y : FxS} (h : FxI n m y) (hk : y.k < m) : FxI n m ⟨y.k + 1, y.n / 256, y.l ++ [(y.n % 256).toNat]⟩ := by
  refine ⟨hk, ?_, ?_, div8 h.hR⟩
  · dsimp only
    rw [h.hn, Int.pow_succ, Int.ediv_ediv_of_nonneg (Int.le_of_lt (Int.pow_pos (by decide)))]
  · dsimp only
    rw [fixL_succ, h.hl, h.hn]
theorem shr8i (n : Int) : Int.fdiv n (2 ^ min (Int.toNat 8) 64) = n / 256 := by
  have : (2 : Int) ^ min (Int.toNat 8) 64 = 256 := by decide
  rw [this, Int.fdiv_eq_ediv_of_nonneg _ (by omega)]
theorem fx_put {n : Int} (h : i64R n) : IntKind.u8.wrap (bits .and .i64 n 255) = ((n % 256).toNat : Int) := by
  rw [and255 h, IntKind.wrap_u8]
  omega
theorem fx_putI {n : Int} : IntKind.u8.wrap n = ((n % 256).toNat : Int) := by
  rw [IntKind.wrap_u8]
  omega
theorem owEq_of {v v' : AV} (h : v = v') : OwEq v v' := by subst h; exact .refl _
theorem bytes_row (l : List Nat) : Bytes l.length (elE u8C l) := ⟨fun i hi => ⟨_, rfl⟩⟩
set_option maxHeartbeats 4000000 in
theorem putFix_spec (n : Int) (m : Nat) (h : i64R n) (hm : m ≤ 8) : RetM env.P 53 [] [.i .i64 n, .i .i64 (m : Int)] (fun r H => r = .s (baN (fixL n m)) ∧ H = []) := by
  refine ret_ofPM (nt := 27) (rvs := [.tmp 4]) Tryz.func53 rfl rfl rfl rfl (fun X hX => ?_)
  refine pw_cut 2 (fun _ : Unit => True) (fun _ => [(0, .i .i64 n), (1, .i .i64 (m : Int)), (5, .row 0 0)]) (fun _ => [some (rowL 1 u8C [])]) ?_ (fun _ _ => ?_)
  · repeat' (first | exact aa | ((conv => whnf) <;> (first | refine And.intro ?_ ?_ | (intro _h; first | contradiction | (try simp only [dd] at _h)) | (refine dt_go ?_) | exact rfl | exact True.intro | exact dkk | exact dks | (refine wrap_succ ?_; omega))))
    conv => whnf
    refine cut_turn (turn_eq (id := 0) (x := rowL 1 u8C []) rfl rfl rfl rfl rfl (fun i j hi _ => absurd hi (Nat.not_lt_zero _))) ?_
    exact cut_go () trivial (by repeat' (first | exact trivial | refine And.intro rfl ?_)) (by repeat' (first | exact trivial | refine And.intro (.inl rfl) ?_ | refine And.intro (.inr rfl) ?_ | refine And.intro rfl ?_))
  refine wpc_ok _ _ _ _ ?_
  (try dsimp only)
  conv => whnf
  refine loopFT (fun y : FxS => [(6, .i .i64 (y.k : Int)), (0, .i .i64 y.n), (5, .row 0 y.l.length)]) (fun y => [some (.arr ⟨1, y.l.length, elE u8C y.l, .arr⟩)]) (fun y => FxI n m y) (fun y => m - y.k) ⟨0, n, []⟩ ⟨⟨Nat.zero_le _, by show n = n / 1; omega, rfl, h⟩, ?_⟩
  repeat' (first | exact aa | ((conv => whnf) <;> (first | exact lbz_zero rfl rfl | exact low_cells rfl | exact lbz_cap (by have := (‹FxI n m _›).len; have := (‹FxI n m _›).hk; omega) (by decide) | exact lbz_capN (by have := (‹FxI n m _›).len; have := (‹FxI n m _›).hk; omega) | exact bytes_row _ | refine And.intro ?_ ?_ | (intro _h; first | contradiction | (try simp only [dd] at _h)) | (refine dt_go ?_) | exact rfl | exact True.intro | exact dkk | exact dks | ((first | refine .inl ⟨_, l00In_ok _ _ _, ?_⟩ | refine ⟨_, l00In_ok _ _ _, ?_⟩); (try rintro _ rfl)) | (refine wrap_succ ?_; omega))))
  · rename_i y hy _
    conv => whnf
    refine roundET_turn (turn_eq (id := 2) (x := rowL 1 u8C (y.l ++ [(y.n % 256).toNat])) rfl rfl lbz_len.symm rfl rfl (snoc_eq (l := y.l) (sz := 1) (a := (y.n % 256).toNat) (c := u8C) rfl (fun j hj => ?_))) ?_
    · obtain rfl : j = 0 := Nat.lt_one_iff.1 hj
      exact owEq_of (congrArg (AV.i .u8) (fx_put hy.hR))
    refine roundET_end ?_
    refine ⟨⟨y.k + 1, y.n / 256, y.l ++ [(y.n % 256).toNat]⟩, [2], hy.next (by omega), ?_, ?_⟩
    · dsimp only; omega
    repeat' (first | exact aa | ((conv => whnf) <;> (first | exact arr_same rfl rfl (fun a j => low_cells rfl) | exact low_cells rfl | exact lbz_len | exact shr8i _ | exact wrap_in (by omega) (by omega) | exact lbz_rho hX ‹_› | refine And.intro ?_ ?_ | (intro _h; first | contradiction | (try simp only [dd] at _h)) | (refine dt_go ?_) | exact rfl | exact True.intro | exact dkk | exact dks | (refine wrap_succ ?_; omega))))
  · rename_i y hy
    conv => whnf
    refine endM_pick [] [] (.s _) (view_of rfl .nil) rfl rfl (fun k hk => by rw [hX] at hk; exact absurd hk (Nat.not_lt_zero _)) ⟨?_, rfl⟩
    refine congrArg AV.s ((bytesOf_u8 _).trans ?_)
    rw [hy.hl]
    have : (fixL n m) = fixL n y.k := congrArg (fixL n) (by have := hy.hk; omega)
    rw [this]
set_option maxHeartbeats 4000000 in
theorem putFix_impl (n : Int) (m : Nat) (h : i64R n) (hm : m ≤ 8) : RetM env.P 37 [] [.i .i64 n, .i .i64 (m : Int)] (fun r H => r = .s (baN (fixL n m)) ∧ H = []) := by
  refine ret_ofPM (nt := 20) (rvs := [.tmp 4]) Tryz.func37 rfl rfl rfl rfl (fun X hX => ?_)
  refine pw_cut 2 (fun _ : Unit => True) (fun _ => [(0, .i .i64 n), (1, .i .i64 (m : Int)), (5, .row 0 0)]) (fun _ => [some (rowL 1 u8C [])]) ?_ (fun _ _ => ?_)
  · repeat' (first | exact aa | ((conv => whnf) <;> (first | refine And.intro ?_ ?_ | (intro _h; first | contradiction | (try simp only [dd] at _h)) | (refine dt_go ?_) | exact rfl | exact True.intro | exact dkk | exact dks | (refine wrap_succ ?_; omega))))
    conv => whnf
    refine cut_turn (turn_eq (id := 0) (x := rowL 1 u8C []) rfl rfl rfl rfl rfl (fun i j hi _ => absurd hi (Nat.not_lt_zero _))) ?_
    exact cut_go () trivial (by repeat' (first | exact trivial | refine And.intro rfl ?_)) (by repeat' (first | exact trivial | refine And.intro (.inl rfl) ?_ | refine And.intro (.inr rfl) ?_ | refine And.intro rfl ?_))
  refine wpc_ok _ _ _ _ ?_
  (try dsimp only)
  conv => whnf
  refine loopFT (fun y : FxS => [(7, .i .i64 (m : Int)), (8, .i .i64 (y.k : Int)), (0, .i .i64 y.n), (5, .row 0 y.l.length)]) (fun y => [some (.arr ⟨1, y.l.length, elE u8C y.l, .arr⟩)]) (fun y => FxI n m y) (fun y => m - y.k) ⟨0, n, []⟩ ⟨⟨Nat.zero_le _, by show n = n / 1; omega, rfl, h⟩, ?_⟩
  repeat' (first | exact aa | ((conv => whnf) <;> (first | exact lbz_zero rfl rfl | exact low_cells rfl | exact lbz_cap (by have := (‹FxI n m _›).len; have := (‹FxI n m _›).hk; omega) (by decide) | exact lbz_capN (by have := (‹FxI n m _›).len; have := (‹FxI n m _›).hk; omega) | exact bytes_row _ | refine And.intro ?_ ?_ | (intro _h; first | contradiction | (try simp only [dd] at _h)) | (refine dt_go ?_) | exact rfl | exact True.intro | exact dkk | exact dks | (refine wrap_succ ?_; omega))))
  · rename_i y hy
    conv => whnf
    refine roundET_turn (turn_eq (id := 2) (x := rowL 1 u8C (y.l ++ [(y.n % 256).toNat])) rfl rfl lbz_len.symm rfl rfl (snoc_eq (l := y.l) (sz := 1) (a := (y.n % 256).toNat) (c := u8C) rfl (fun j hj => ?_))) ?_
    · obtain rfl : j = 0 := Nat.lt_one_iff.1 hj
      exact owEq_of (congrArg (AV.i .u8) fx_putI)
    refine roundET_end ?_
    refine ⟨⟨y.k + 1, y.n / 256, y.l ++ [(y.n % 256).toNat]⟩, [2], hy.next (by omega), ?_, ?_⟩
    · dsimp only; omega
    repeat' (first | exact aa | ((conv => whnf) <;> (first | exact arr_same rfl rfl (fun a j => low_cells rfl) | exact low_cells rfl | exact lbz_len | exact shr8i _ | exact wrap_in (by omega) (by omega) | exact lbz_rho hX ‹_› | refine And.intro ?_ ?_ | (intro _h; first | contradiction | (try simp only [dd] at _h)) | (refine dt_go ?_) | exact rfl | exact True.intro | exact dkk | exact dks | (refine wrap_succ ?_; omega))))
  · rename_i y hy
    conv => whnf
    refine endM_pick [] [] (.s _) (view_of rfl .nil) rfl rfl (fun k hk => by rw [hX] at hk; exact absurd hk (Nat.not_lt_zero _)) ⟨?_, rfl⟩
    refine congrArg AV.s ((bytesOf_u8 _).trans ?_)
    rw [hy.hl]
    have : (fixL n m) = fixL n y.k := congrArg (fixL n) (by have := hy.hk; omega)
    rw [this]
end
section
attribute [local irreducible] IntKind.wrap
theorem baN_app (l m : List Nat) : baN l ++ baN m = baN (l ++ m) := by
  unfold baN
  rw [List.map_append]
  apply ByteArray.ext
  rw [ByteArray.data_append]
  simp
theorem putLeb_specI {n : Int} (h : 0 ≤ n ∧ n < 9223372036854775808) : RetM env.P 25 [] [.i .i64 n] (fun r H => r = .s (baN (lebL n.toNat)) ∧ H = []) := by
  have := putLeb_spec n.toNat (by omega)
  rwa [show ((n.toNat : Nat) : Int) = n by omega] at this
theorem putLeb_implI {n : Int} (h : 0 ≤ n ∧ n < 9223372036854775808) : RetM env.P 40 [] [.i .i64 n] (fun r H => r = .s (baN (lebL n.toNat)) ∧ H = []) := by
  have := putLeb_impl n.toNat (by omega)
  rwa [show ((n.toNat : Nat) : Int) = n by omega] at this
theorem opV_rng {op : Int} (h1 : ¬ op = 1) (h : (opV op).2.2 = true) : (opV op).1 = 0 ∧ (opV op).2.1 ≤ 4096 := by
  unfold opV at *
  rw [if_neg h1] at *
  repeat' split at *
  all_goals first
    | (exact ⟨rfl, by dsimp only; omega⟩)
    | simp at h
theorem opV_one : opV 1 = (-9223372036854775808, 9223372036854775807, true) := rfl
theorem baN_size (l : List Nat) : (baN l).size = l.length := by
  unfold baN
  show (List.toArray _).size = _
  rw [List.size_toArray, List.length_map]
theorem maxLen_ge : 140737488355328 ≤ maxLen := by decide
theorem sum_le {l m : List Nat} (h : l.length + m.length ≤ 140737488355328) : (baN l).size + (baN m).size ≤ maxLen := by
  rw [baN_size, baN_size]
  exact Nat.le_trans h maxLen_ge
theorem sl10 {n : Int} (h : i64R n) : (slebL n).length ≤ 10 := slebL_len 9 n (by
  have : (128 : Int) ^ 9 = 9223372036854775808 := by decide
  obtain ⟨h1, h2⟩ := h
  omega)
theorem lb9 {n : Nat} (h : n < 9223372036854775808) : (lebL n).length ≤ 9 := lebL_len 8 n (by
  have : (128 : Nat) ^ (8 + 1) = 9223372036854775808 := by decide
  omega)
def Ins.by (i : Ins) : List Nat := if i.good = true then i.op.toNat :: (if i.op = 1 then slebL i.a else if (opV i.op).2.2 = true then lebL i.a.toNat else []) else []
theorem Ins.good_op {i : Ins} (h : i.good = true) : 1 ≤ i.op ∧ i.op ≤ 40 := (of_decide_eq_true h).1
theorem Ins.good_a {i : Ins} (h : i.good = true) : (opV i.op).1 ≤ i.a ∧ i.a ≤ (opV i.op).2.1 := (of_decide_eq_true h).2
theorem Ins.good_1 {i : Ins} (h : i.good = true) (h1 : i.op = 1) : i64R i.a := by
  have := i.good_a h
  rw [h1, opV_one] at this
  exact this
theorem Ins.good_n {i : Ins} (h : i.good = true) (h1 : ¬ i.op = 1) (h2 : (opV i.op).2.2 = true) : 0 ≤ i.a ∧ i.a < 9223372036854775808 := by
  have := i.good_a h
  have := opV_rng h1 h2
  omega
theorem fix1 {n : Int} (h : 1 ≤ n ∧ n ≤ 40) : fixL n 1 = [n.toNat] := by
  show [(n / 1 % 256).toNat] = [n.toNat]
  congr 1
  omega
theorem fix1_spec {n : Int} (h : 1 ≤ n ∧ n ≤ 40) : Ret env.P 53 [.i .i64 n, .i .i64 1] (fun r => r = .s (baN [n.toNat])) := by
  have := putFix_spec n 1 ⟨by omega, by omega⟩ (by omega)
  rw [fix1 h] at this
  exact this.toRet
theorem fix1_impl {n : Int} (h : 1 ≤ n ∧ n ≤ 40) : Ret env.P 37 [.i .i64 n, .i .i64 1] (fun r => r = .s (baN [n.toNat])) := by
  have := putFix_impl n 1 ⟨by omega, by omega⟩ (by omega)
  rw [fix1 h] at this
  exact this.toRet
theorem Ins.by_bad {i : Ins} (h : i.good = false) : baN i.by = ByteArray.empty := by
  unfold Ins.by
  rw [h]
  rfl
theorem Ins.by_1 {i : Ins} (h : i.good = true) (h1 : i.op = 1) : baN [i.op.toNat] ++ baN (slebL i.a) = baN i.by := by
  rw [baN_app]
  unfold Ins.by
  rw [if_pos h, if_pos h1]
  rfl
theorem Ins.by_n {i : Ins} (h : i.good = true) (h1 : ¬ i.op = 1) (h2 : (opV i.op).2.2 = true) : baN [i.op.toNat] ++ baN (lebL i.a.toNat) = baN i.by := by
  rw [baN_app]
  unfold Ins.by
  rw [if_pos h, if_neg h1, if_pos h2]
  rfl
theorem Ins.by_0 {i : Ins} (h : i.good = true) (h1 : ¬ i.op = 1) (h2 : (opV i.op).2.2 = false) : baN [i.op.toNat] = baN i.by := by
  unfold Ins.by
  rw [if_pos h, if_neg h1, if_neg (by rw [h2]; decide)]
set_option maxHeartbeats 4000000 in
theorem insBytes_spec (i : Ins) : Ret env.P 55 [.agg i.cs] (fun r => r = .s (baN i.by)) := by
  cases hg : i.good with
  | false =>
    have hk := insOk_spec i
    rw [hg] at hk
    rw [Ins.by_bad hg]
    refine ret_of (nt := 38) (rvs := [.tmp 2]) Tryz.func55 rfl rfl rfl rfl (fun X => ?_)
    repeat' (first | exact aa | ((conv => whnf) <;> (first | (exfalso; exact ‹¬True› trivial) | refine And.intro ?_ ?_ | (intro _h; first | contradiction | (try simp only [dd] at _h)) | (refine dt_go ?_) | exact rfl | exact True.intro | exact dkk | exact dks | ((first | refine .inl ⟨_, hk, ?_⟩ | refine ⟨_, hk, ?_⟩); (try rintro _ rfl)) | (refine wrap_succ ?_; omega))))
  | true =>
    have hk := insOk_spec i
    rw [hg] at hk
    have hf := fix1_spec (i.good_op hg)
    by_cases h1 : i.op = 1
    · have hp := (putSleb_spec _ (i.good_1 hg h1)).toRet
      rw [← Ins.by_1 hg h1]
      have ho : (opV i.op).2.2 = true := by rw [h1]; rfl
      have hh := has_ok i.op
      rw [ho] at hh
      refine ret_of (nt := 38) (rvs := [.tmp 2]) Tryz.func55 rfl rfl rfl rfl (fun X => ?_)
      repeat' (first | exact aa | ((conv => whnf) <;> (first | exact sum_le (by have := sl10 (i.good_1 hg h1); simp only [List.length_singleton]; omega) | (exfalso; exact ‹¬ i.op = 1› h1) | (exfalso; exact ‹¬True› trivial) | refine And.intro ?_ ?_ | (intro _h; first | contradiction | (try simp only [dd] at _h)) | (refine dt_go ?_) | exact rfl | exact True.intro | exact dkk | exact dks | ((first | refine .inl ⟨_, hk, ?_⟩ | refine ⟨_, hk, ?_⟩); (try rintro _ rfl)) | ((first | refine .inl ⟨_, hf, ?_⟩ | refine ⟨_, hf, ?_⟩); (try rintro _ rfl)) | ((first | refine .inl ⟨_, hh, ?_⟩ | refine ⟨_, hh, ?_⟩); (try rintro _ rfl)) | ((first | refine .inl ⟨_, hp, ?_⟩ | refine ⟨_, hp, ?_⟩); (try rintro _ rfl)) | (refine wrap_succ ?_; omega))))
    · cases ho : (opV i.op).2.2 with
      | true =>
        have hp := (putLeb_specI (i.good_n hg h1 ho)).toRet
        rw [← Ins.by_n hg h1 ho]
        have hh := has_ok i.op
        rw [ho] at hh
        refine ret_of (nt := 38) (rvs := [.tmp 2]) Tryz.func55 rfl rfl rfl rfl (fun X => ?_)
        repeat' (first | exact aa | ((conv => whnf) <;> (first | exact sum_le (by have := lb9 (n := i.a.toNat) (by have := i.good_n hg h1 ho; omega); simp only [List.length_singleton]; omega) | (exfalso; exact h1 ‹i.op = 1›) | (exfalso; exact ‹¬True› trivial) | refine And.intro ?_ ?_ | (intro _h; first | contradiction | (try simp only [dd] at _h)) | (refine dt_go ?_) | exact rfl | exact True.intro | exact dkk | exact dks | ((first | refine .inl ⟨_, hk, ?_⟩ | refine ⟨_, hk, ?_⟩); (try rintro _ rfl)) | ((first | refine .inl ⟨_, hf, ?_⟩ | refine ⟨_, hf, ?_⟩); (try rintro _ rfl)) | ((first | refine .inl ⟨_, hh, ?_⟩ | refine ⟨_, hh, ?_⟩); (try rintro _ rfl)) | ((first | refine .inl ⟨_, hp, ?_⟩ | refine ⟨_, hp, ?_⟩); (try rintro _ rfl)) | (refine wrap_succ ?_; omega))))
      | false =>
        rw [← Ins.by_0 hg h1 ho]
        have hh := has_ok i.op
        rw [ho] at hh
        refine ret_of (nt := 38) (rvs := [.tmp 2]) Tryz.func55 rfl rfl rfl rfl (fun X => ?_)
        repeat' (first | exact aa | ((conv => whnf) <;> (first | (exfalso; exact h1 ‹i.op = 1›) | (exfalso; exact ‹¬True› trivial) | refine And.intro ?_ ?_ | (intro _h; first | contradiction | (try simp only [dd] at _h)) | (refine dt_go ?_) | exact rfl | exact True.intro | exact dkk | exact dks | ((first | refine .inl ⟨_, hk, ?_⟩ | refine ⟨_, hk, ?_⟩); (try rintro _ rfl)) | ((first | refine .inl ⟨_, hf, ?_⟩ | refine ⟨_, hf, ?_⟩); (try rintro _ rfl)) | ((first | refine .inl ⟨_, hh, ?_⟩ | refine ⟨_, hh, ?_⟩); (try rintro _ rfl)) | (refine wrap_succ ?_; omega))))
set_option maxHeartbeats 4000000 in
theorem insBytesG_impl (i : Ins) (hg : i.good = true) : Ret env.P 69 [.agg i.cs] (fun r => r = .s (baN i.by)) := by
  have hf := fix1_impl (i.good_op hg)
  by_cases h1 : i.op = 1
  · have hp := (putSleb_impl _ (i.good_1 hg h1)).toRet
    rw [← Ins.by_1 hg h1]
    have ho : (opV i.op).2.2 = true := by rw [h1]; rfl
    have hh := hasI_ok i.op
    rw [ho] at hh
    refine ret_of (nt := 34) (rvs := [.tmp 2]) Tryz.func69 rfl rfl rfl rfl (fun X => ?_)
    repeat' (first | exact aa | ((conv => whnf) <;> (first | exact sum_le (by have := sl10 (i.good_1 hg h1); simp only [List.length_singleton]; omega) | (exfalso; exact ‹¬ i.op = 1› h1) | (exfalso; exact ‹¬True› trivial) | refine And.intro ?_ ?_ | (intro _h; first | contradiction | (try simp only [dd] at _h)) | (refine dt_go ?_) | exact rfl | exact True.intro | exact dkk | exact dks | ((first | refine .inl ⟨_, hf, ?_⟩ | refine ⟨_, hf, ?_⟩); (try rintro _ rfl)) | ((first | refine .inl ⟨_, hh, ?_⟩ | refine ⟨_, hh, ?_⟩); (try rintro _ rfl)) | ((first | refine .inl ⟨_, hp, ?_⟩ | refine ⟨_, hp, ?_⟩); (try rintro _ rfl)) | (refine wrap_succ ?_; omega))))
  · cases ho : (opV i.op).2.2 with
    | true =>
      have hp := (putLeb_implI (i.good_n hg h1 ho)).toRet
      rw [← Ins.by_n hg h1 ho]
      have hh := hasI_ok i.op
      rw [ho] at hh
      refine ret_of (nt := 34) (rvs := [.tmp 2]) Tryz.func69 rfl rfl rfl rfl (fun X => ?_)
      repeat' (first | exact aa | ((conv => whnf) <;> (first | exact sum_le (by have := lb9 (n := i.a.toNat) (by have := i.good_n hg h1 ho; omega); simp only [List.length_singleton]; omega) | (exfalso; exact h1 ‹i.op = 1›) | (exfalso; exact ‹¬True› trivial) | refine And.intro ?_ ?_ | (intro _h; first | contradiction | (try simp only [dd] at _h)) | (refine dt_go ?_) | exact rfl | exact True.intro | exact dkk | exact dks | ((first | refine .inl ⟨_, hf, ?_⟩ | refine ⟨_, hf, ?_⟩); (try rintro _ rfl)) | ((first | refine .inl ⟨_, hh, ?_⟩ | refine ⟨_, hh, ?_⟩); (try rintro _ rfl)) | ((first | refine .inl ⟨_, hp, ?_⟩ | refine ⟨_, hp, ?_⟩); (try rintro _ rfl)) | (refine wrap_succ ?_; omega))))
    | false =>
      rw [← Ins.by_0 hg h1 ho]
      have hh := hasI_ok i.op
      rw [ho] at hh
      refine ret_of (nt := 34) (rvs := [.tmp 2]) Tryz.func69 rfl rfl rfl rfl (fun X => ?_)
      repeat' (first | exact aa | ((conv => whnf) <;> (first | (exfalso; exact h1 ‹i.op = 1›) | (exfalso; exact ‹¬True› trivial) | refine And.intro ?_ ?_ | (intro _h; first | contradiction | (try simp only [dd] at _h)) | (refine dt_go ?_) | exact rfl | exact True.intro | exact dkk | exact dks | ((first | refine .inl ⟨_, hf, ?_⟩ | refine ⟨_, hf, ?_⟩); (try rintro _ rfl)) | ((first | refine .inl ⟨_, hh, ?_⟩ | refine ⟨_, hh, ?_⟩); (try rintro _ rfl)) | (refine wrap_succ ?_; omega))))
end
end Go.Proofs.YtoccjfeaaaaegaaGreat
