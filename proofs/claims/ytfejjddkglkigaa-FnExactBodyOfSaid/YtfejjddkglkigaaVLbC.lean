/-
  Numbers of seven bits a byte: putting them.
-/
import Derived.Test.YtfejjddkglkigaaVLbB
import Derived.Test.YtfejjddkglkigaaVTOwn
import Derived.Test.YtfejjddkglkigaaVX
import Derived.Test.YtfejjddkglkigaaVZ
namespace Go.Proofs.Ytfejjddkglkigaa
open Go Go.RowKit
set_option linter.unusedVariables false
set_option linter.unusedSimpArgs false
attribute [local irreducible] IntKind.wrap

theorem lbz_zero {r : List Nat} {n sz cap cap' : Nat} {e e' : Nat → Nat → AV} {k : RK} (hc : cap = 0) (hc' : cap' = 0) : ArrP r n ⟨sz, cap, e, k⟩ ⟨sz, cap', e', k⟩ := by
  subst hc hc'
  exact ⟨rfl, rfl, rfl, fun i j hi => absurd hi (Nat.not_lt_zero _), fun i j hi => absurd hi (Nat.not_lt_zero _)⟩
theorem lbz_cap {n b : Nat} (h : n ≤ 10) (hb : b ≤ 1000) : (n + 1) * b ≤ 140737488355328 := Nat.le_trans (Nat.mul_le_mul (Nat.succ_le_succ h) hb) (by decide)
theorem lbz_capN {n : Nat} (h : n ≤ 10) : n + 1 ≤ 9223372036854775807 := by omega
theorem lbz_bytes {l : List Nat} {g : Nat → Nat → AV} {z : Int} (hg : g 0 0 = .i .u8 z) : Bytes (l.length + 1) (catE l.length (elE u8C l) g) := ⟨fun i hi => by
  rw [catE_at]
  split
  · exact ⟨_, rfl⟩
  · rw [show i - l.length = 0 by omega]; exact ⟨z, hg⟩⟩
theorem bytesOf_eq {n : Nat} {g g' : Nat → Nat → AV} (h : ∀ i, i < n → g i 0 = g' i 0) : bytesOf n g = bytesOf n g' := by
  unfold bytesOf
  congr 2
  exact List.map_congr_left fun i hi => by rw [h i (List.mem_range.1 hi)]
theorem bytes_snoc {l : List Nat} {g : Nat → Nat → AV} {z : Nat} (hg : g 0 0 = .i .u8 (z : Int)) : bytesOf (l.length + 1) (catE l.length (elE u8C l) g) = baN (l ++ [z]) := by
  rw [← bytesOf_u8, List.length_append, List.length_singleton]
  refine bytesOf_eq fun i hi => ?_
  rw [catE_at]
  split
  · rename_i q
    show AV.i .u8 _ = AV.i .u8 _
    rw [List.getD_eq_getElem?_getD (l := l ++ [z]), List.getElem?_append_left q, ← List.getD_eq_getElem?_getD]
  · rw [show i - l.length = 0 by omega, hg]
    obtain rfl : i = l.length := by omega
    show _ = AV.i .u8 _
    rw [List.getD_eq_getElem?_getD, List.getElem?_append_right (Nat.le_refl _), Nat.sub_self]
    first | done | rfl
theorem leb_le {l : List Nat} {m n k : Nat} (hb : (lebL n).length ≤ k) (h : l ++ lebL m = lebL n ∧ m < 9223372036854775808) : l.length ≤ k := by
  rw [← h.1, List.length_append] at hb
  omega
theorem lbz_rho {X : Ctx} {r : List Nat} {id : Nat} (hX : X.H0 = []) (h : id < X.H0.length) : rhoF r id = id := by rw [hX] at h; exact absurd h (Nat.not_lt_zero _)
theorem lbz_len {α : Type} {l : List α} {a : α} : l.length + 1 = (l ++ [a]).length := by rw [List.length_append]; rfl
theorem shr7 (n : Nat) : Int.fdiv (n : Int) (2 ^ min (Int.toNat 7) 64) = ((n / 128 : Nat) : Int) := by
  have : (2 : Int) ^ min (Int.toNat 7) 64 = 128 := by decide
  rw [this, Int.fdiv_eq_ediv_of_nonneg _ (by omega)]
  rfl
theorem quo7 {n : Nat} (h : n < 9223372036854775808) : IntKind.i64.wrap (Int.tdiv (n : Int) 128) = ((n / 128 : Nat) : Int) := by
  have : Int.tdiv (n : Int) 128 = ((n / 128 : Nat) : Int) := by rw [Int.tdiv_eq_ediv_of_nonneg (by omega)]; rfl
  rw [this, wrap_in (by omega) (by omega)]
theorem byte_put {n : Nat} (h : n < 9223372036854775808) : IntKind.u8.wrap (IntKind.i64.wrap (bits .and .i64 (n : Int) 127 + 128)) = ((n % 128 + 128 : Nat) : Int) := by
  rw [and_i64 ⟨by omega, by omega⟩, wrap_in (by omega) (by omega), IntKind.wrap_u8]
  omega
theorem byte_last {n : Nat} (h : n ≤ 127) : IntKind.u8.wrap (n : Int) = (n : Int) := by rw [IntKind.wrap_u8]; omega
theorem byte_putQ {n : Nat} (h : n < 9223372036854775808) : IntKind.u8.wrap (IntKind.i64.wrap (Int.tmod (n : Int) 128 + 128)) = ((n % 128 + 128 : Nat) : Int) := by
  rw [Int.tmod_eq_emod_of_nonneg (by omega), wrap_in (by omega) (by omega), IntKind.wrap_u8]
  omega
instance hold_u8 : HoldC u8C := holdC_plain fun _ => rfl
instance free_u8 : FreeC u8C := freeC_plain fun _ => rfl
theorem lebL_len : ∀ (k n : Nat), n < 128 ^ (k + 1) → (lebL n).length ≤ k + 1 := fun k => by
  induction k with
  | zero => intro n h; rw [lebL_small (by omega)]; exact Nat.le_refl _
  | succ k ih =>
    intro n h
    by_cases q : n ≤ 127
    · rw [lebL_small q]; exact Nat.succ_le_succ (Nat.zero_le _)
    · rw [lebL_big q, List.length_cons]
      have := ih (n / 128) (by rw [Nat.pow_succ] at h; omega)
      omega
theorem lebL_ne (n : Nat) : 1 ≤ (lebL n).length := by
  by_cases q : n ≤ 127
  · rw [lebL_small q]; exact Nat.le_refl _
  · rw [lebL_big q]; exact Nat.succ_le_succ (Nat.zero_le _)
/-- The state of the loop that puts a number. -/
structure LbS where
  n : Nat
  l : List Nat
set_option maxRecDepth 8000 in
set_option maxHeartbeats 4000000 in
theorem putLeb_specN (n0 : Int) (h0 : n0 < 0) : RetM env.P 16 [] [.i .i64 n0] (fun r H => r = .s ByteArray.empty ∧ H = []) := by
  refine ret_ofM (nt := 24) (rvs := [.tmp 2]) Try.func16 rfl rfl rfl rfl (fun X hX => ?_)
  repeat' (first | exact aa | ((conv => whnf) <;> (first | refine And.intro ?_ ?_ | (intro _h; first | contradiction | (try simp only [dd] at _h)) | (refine dt_go ?_) | exact rfl | exact True.intro | exact dkk | exact dks | (refine wrap_succ ?_; omega))))
  all_goals (conv => whnf)
  all_goals exact endM_pick [] [] (.s ByteArray.empty) (view_of rfl .nil) rfl rfl (fun k hk => by rw [hX] at hk; exact absurd hk (Nat.not_lt_zero _)) ⟨rfl, rfl⟩
set_option maxRecDepth 8000 in
set_option maxHeartbeats 4000000 in
theorem putLeb_spec (n : Nat) (h : n < 9223372036854775808) : RetM env.P 16 [] [.i .i64 (n : Int)] (fun r H => r = .s (baN (lebL n)) ∧ H = []) := by
  have hb := lebL_len 8 n (by have : (128 : Nat) ^ (8 + 1) = 9223372036854775808 := by decide
                              omega)
  refine ret_ofPM (nt := 24) (rvs := [.tmp 2]) Try.func16 rfl rfl rfl rfl (fun X hX => ?_)
  refine pw_cut 3 (fun _ : Unit => True) (fun _ => [(0, .i .i64 (n : Int)), (3, .row 0 0)]) (fun _ => [some (rowL 1 u8C [])]) ?_ (fun _ _ => ?_)
  · repeat' (first | exact aa | ((conv => whnf) <;> (first | refine And.intro ?_ ?_ | (intro _h; first | contradiction | (try simp only [dd] at _h)) | (refine dt_go ?_) | exact rfl | exact True.intro | exact dkk | exact dks | (refine wrap_succ ?_; omega))))
    all_goals (first | (exfalso; omega) | skip)
    conv => whnf
    refine cut_turn (turn_eq (id := 0) (x := rowL 1 u8C []) rfl rfl rfl rfl rfl (fun i j hi _ => absurd hi (Nat.not_lt_zero _))) ?_
    exact cut_go () trivial (by repeat' (first | exact trivial | refine And.intro rfl ?_)) (by repeat' (first | exact trivial | refine And.intro (.inl rfl) ?_ | refine And.intro (.inr rfl) ?_ | refine And.intro rfl ?_))
  refine wpc_ok _ _ _ _ ?_
  (try dsimp only)
  conv => whnf
  refine loopFT (fun y : LbS => [(0, .i .i64 (y.n : Int)), (3, .row 0 y.l.length)]) (fun y => [some (.arr ⟨1, y.l.length, elE u8C y.l, .arr⟩)]) (fun y => y.l ++ lebL y.n = lebL n ∧ y.n < 9223372036854775808) (fun y => y.n) ⟨n, []⟩ ⟨⟨rfl, h⟩, ?_⟩
  repeat' (first | exact aa | ((conv => whnf) <;> (first | exact lbz_zero rfl rfl | exact low_cells rfl | exact lbz_cap (Nat.le_succ_of_le (leb_le hb ‹_ ∧ _›)) (by decide) | exact lbz_capN (Nat.le_succ_of_le (leb_le hb ‹_ ∧ _›)) | exact lbz_bytes rfl | refine And.intro ?_ ?_ | (intro _h; first | contradiction | (try simp only [dd] at _h)) | (refine dt_go ?_) | exact rfl | exact True.intro | exact dkk | exact dks | (refine wrap_succ ?_; omega))))
  · rename_i y hy
    conv => whnf
    refine roundET_turn (turn_eq (id := 2) (x := rowL 1 u8C (y.l ++ [y.n % 128 + 128])) rfl rfl lbz_len.symm rfl rfl (snoc_eq (l := y.l) (sz := 1) (a := y.n % 128 + 128) (c := u8C) rfl (fun j hj => ?_))) ?_
    · obtain rfl : j = 0 := Nat.lt_one_iff.1 hj
      show OwEq (.i .u8 (IntKind.u8.wrap (IntKind.i64.wrap (bits .and .i64 (y.n : Int) 127 + 128)))) (.i .u8 ((y.n % 128 + 128 : Nat) : Int))
      rw [byte_put hy.2]
      exact .refl _
    refine roundET_end ?_
    refine ⟨⟨y.n / 128, y.l ++ [y.n % 128 + 128]⟩, [2], ?_, ?_, ?_⟩
    · refine ⟨?_, Nat.lt_of_le_of_lt (Nat.div_le_self _ _) hy.2⟩
      dsimp only
      rw [List.append_assoc, List.singleton_append, ← lebL_big (by omega)]
      exact hy.1
    · show y.n / 128 < y.n
      omega
    repeat' (first | exact aa | ((conv => whnf) <;> (first | exact arr_same rfl rfl (fun a j => low_cells rfl) | exact low_cells rfl | exact lbz_len | exact shr7 _ | exact lbz_rho hX _h | refine And.intro ?_ ?_ | (intro _h; first | contradiction | (try simp only [dd] at _h)) | (refine dt_go ?_) | exact rfl | exact True.intro | exact dkk | exact dks | (refine wrap_succ ?_; omega))))
  · rename_i y hy
    conv => whnf
    refine endM_pick [] [] (.s _) (view_of rfl .nil) rfl rfl (fun k hk => by rw [hX] at hk; exact absurd hk (Nat.not_lt_zero _)) ⟨?_, rfl⟩
    exact congrArg AV.s ((bytes_snoc (z := y.n) (congrArg (AV.i .u8) (byte_last (by omega)))).trans (by rw [← hy.1, lebL_small (by omega)]))
set_option maxRecDepth 8000 in
set_option maxHeartbeats 4000000 in
theorem putLeb_implN (n0 : Int) (h0 : n0 < 0) : RetM env.P 34 [] [.i .i64 n0] (fun r H => r = .s ByteArray.empty ∧ H = []) := by
  refine ret_ofM (nt := 24) (rvs := [.tmp 2]) Try.func34 rfl rfl rfl rfl (fun X hX => ?_)
  repeat' (first | exact aa | ((conv => whnf) <;> (first | refine And.intro ?_ ?_ | (intro _h; first | contradiction | (try simp only [dd] at _h)) | (refine dt_go ?_) | exact rfl | exact True.intro | exact dkk | exact dks | (refine wrap_succ ?_; omega))))
  all_goals (conv => whnf)
  all_goals exact endM_pick [] [] (.s ByteArray.empty) (view_of rfl .nil) rfl rfl (fun k hk => by rw [hX] at hk; exact absurd hk (Nat.not_lt_zero _)) ⟨rfl, rfl⟩
set_option maxRecDepth 8000 in
set_option maxHeartbeats 4000000 in
theorem putLeb_impl (n : Nat) (h : n < 9223372036854775808) : RetM env.P 34 [] [.i .i64 (n : Int)] (fun r H => r = .s (baN (lebL n)) ∧ H = []) := by
  have hb := lebL_len 8 n (by have : (128 : Nat) ^ (8 + 1) = 9223372036854775808 := by decide
                              omega)
  refine ret_ofPM (nt := 24) (rvs := [.tmp 2]) Try.func34 rfl rfl rfl rfl (fun X hX => ?_)
  refine pw_cut 3 (fun _ : Unit => True) (fun _ => [(0, .i .i64 (n : Int)), (3, .row 0 0)]) (fun _ => [some (rowL 1 u8C [])]) ?_ (fun _ _ => ?_)
  · repeat' (first | exact aa | ((conv => whnf) <;> (first | refine And.intro ?_ ?_ | (intro _h; first | contradiction | (try simp only [dd] at _h)) | (refine dt_go ?_) | exact rfl | exact True.intro | exact dkk | exact dks | (refine wrap_succ ?_; omega))))
    all_goals (first | (exfalso; omega) | skip)
    conv => whnf
    refine cut_turn (turn_eq (id := 0) (x := rowL 1 u8C []) rfl rfl rfl rfl rfl (fun i j hi _ => absurd hi (Nat.not_lt_zero _))) ?_
    exact cut_go () trivial (by repeat' (first | exact trivial | refine And.intro rfl ?_)) (by repeat' (first | exact trivial | refine And.intro (.inl rfl) ?_ | refine And.intro (.inr rfl) ?_ | refine And.intro rfl ?_))
  refine wpc_ok _ _ _ _ ?_
  (try dsimp only)
  conv => whnf
  refine loopFT (fun y : LbS => [(0, .i .i64 (y.n : Int)), (3, .row 0 y.l.length)]) (fun y => [some (.arr ⟨1, y.l.length, elE u8C y.l, .arr⟩)]) (fun y => y.l ++ lebL y.n = lebL n ∧ y.n < 9223372036854775808) (fun y => y.n) ⟨n, []⟩ ⟨⟨rfl, h⟩, ?_⟩
  repeat' (first | exact aa | ((conv => whnf) <;> (first | exact lbz_zero rfl rfl | exact low_cells rfl | exact lbz_cap (Nat.le_succ_of_le (leb_le hb ‹_ ∧ _›)) (by decide) | exact lbz_capN (Nat.le_succ_of_le (leb_le hb ‹_ ∧ _›)) | exact lbz_bytes rfl | refine And.intro ?_ ?_ | (intro _h; first | contradiction | (try simp only [dd] at _h)) | (refine dt_go ?_) | exact rfl | exact True.intro | exact dkk | exact dks | (refine wrap_succ ?_; omega))))
  · rename_i y hy
    conv => whnf
    refine roundET_turn (turn_eq (id := 2) (x := rowL 1 u8C (y.l ++ [y.n % 128 + 128])) rfl rfl lbz_len.symm rfl rfl (snoc_eq (l := y.l) (sz := 1) (a := y.n % 128 + 128) (c := u8C) rfl (fun j hj => ?_))) ?_
    · obtain rfl : j = 0 := Nat.lt_one_iff.1 hj
      show OwEq (.i .u8 (IntKind.u8.wrap (IntKind.i64.wrap (Int.tmod (y.n : Int) 128 + 128)))) (.i .u8 ((y.n % 128 + 128 : Nat) : Int))
      rw [byte_putQ hy.2]
      exact .refl _
    refine roundET_end ?_
    refine ⟨⟨y.n / 128, y.l ++ [y.n % 128 + 128]⟩, [2], ?_, ?_, ?_⟩
    · refine ⟨?_, Nat.lt_of_le_of_lt (Nat.div_le_self _ _) hy.2⟩
      dsimp only
      rw [List.append_assoc, List.singleton_append, ← lebL_big (by omega)]
      exact hy.1
    · show y.n / 128 < y.n
      omega
    repeat' (first | exact aa | ((conv => whnf) <;> (first | exact arr_same rfl rfl (fun a j => low_cells rfl) | exact low_cells rfl | exact lbz_len | exact quo7 hy.2 | exact lbz_rho hX _h | refine And.intro ?_ ?_ | (intro _h; first | contradiction | (try simp only [dd] at _h)) | (refine dt_go ?_) | exact rfl | exact True.intro | exact dkk | exact dks | (refine wrap_succ ?_; omega))))
  · rename_i y hy
    conv => whnf
    refine endM_pick [] [] (.s _) (view_of rfl .nil) rfl rfl (fun k hk => by rw [hX] at hk; exact absurd hk (Nat.not_lt_zero _)) ⟨?_, rfl⟩
    exact congrArg AV.s ((bytes_snoc (z := y.n) (congrArg (AV.i .u8) (byte_last (by omega)))).trans (by rw [← hy.1, lebL_small (by omega)]))
end Go.Proofs.Ytfejjddkglkigaa
