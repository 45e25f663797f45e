/- Texts for VSectionsP. -/
import Derived.Test.YtdeledeopippfaaVx18
namespace Go.Proofs.Ytdeledeopippfaa
open Go Go.RowKit
set_option linter.unusedVariables false
set_option linter.unusedSimpArgs false
set_option maxRecDepth 8000
section
attribute [local irreducible] IntKind.wrap
theorem lbz_zero {r : List Nat} {n sz cap cap' : Nat} {e e' : Nat → Nat → AV} {k : RK} (hc : cap = 0) (hc' : cap' = 0) : ArrP r n ⟨sz, cap, e, k⟩ ⟨sz, cap', e', k⟩ := by
  subst hc hc'
  exact ⟨rfl, rfl, rfl, fun i j hi => absurd hi (Nat.not_lt_zero _), fun i j hi => absurd hi (Nat.not_lt_zero _)⟩
theorem lbz_cap {n b : Nat} (h : n ≤ 10) (hb : b ≤ 1000) : (n + 1) * b ≤ 140737488355328 := Nat.le_trans (Nat.mul_le_mul (Nat.succ_le_succ h) hb) (by decide)
theorem lbz_capN {n : Nat} (h : n ≤ 10) : n + 1 ≤ 9223372036854775807 := by omega
theorem lbz_bytes {l : List Nat} {g : Nat → Nat → AV} {z : Int} (hg : g 0 0 = .i .u8 z) : Bytes (l.length + 1) (catE l.length (elE u8C l) g) := ⟨fun i hi => by
  rw [catE_at]
  split
  · exact ⟨_, rfl⟩
  · rw [show i - l.length = 0 by omega]; exact ⟨z, hg⟩⟩
theorem bytesOf_eq {n : Nat} {g g' : Nat → Nat → AV} (h : ∀ i, i < n → g i 0 = g' i 0) : bytesOf n g = bytesOf n g' := by
  unfold bytesOf
  congr 2
  exact List.map_congr_left fun i hi => by rw [h i (List.mem_range.1 hi)]
theorem bytes_snoc {l : List Nat} {g : Nat → Nat → AV} {z : Nat} (hg : g 0 0 = .i .u8 (z : Int)) : bytesOf (l.length + 1) (catE l.length (elE u8C l) g) = baN (l ++ [z]) := by
  rw [← bytesOf_u8, List.length_append, List.length_singleton]
  refine bytesOf_eq fun i hi => ?_
  rw [catE_at]
  split
  · rename_i q
    show AV.i .u8 _ = AV.i .u8 _
    rw [List.getD_eq_getElem?_getD (l := l ++ [z]), List.getElem?_append_left q, ← List.getD_eq_getElem?_getD]
  · rw [show i - l.length = 0 by omega, hg]
    obtain rfl : i = l.length := by omega
    show _ = AV.i .u8 _
    rw [List.getD_eq_getElem?_getD, List.getElem?_append_right (Nat.le_refl _), Nat.sub_self]
    first | done | rfl
theorem leb_le {l : List Nat} {m n k : Nat} (hb : (lebL n).length ≤ k) (h : l ++ lebL m = lebL n ∧ m < 9223372036854775808) : l.length ≤ k := by
  rw [← h.1, List.length_append] at hb
  omega
theorem lbz_rho {X : Ctx} {r : List Nat} {id : Nat} (hX : X.H0 = []) (h : id < X.H0.length) : rhoF r id = id := by rw [hX] at h; exact absurd h (Nat.not_lt_zero _)
theorem lbz_len {α : Type} {l : List α} {a : α} : l.length + 1 = (l ++ [a]).length := by rw [List.length_append]; rfl
theorem shr7 (n : Nat) : Int.fdiv (n : Int) (2 ^ min (Int.toNat 7) 64) = ((n / 128 : Nat) : Int) := by
  have : (2 : Int) ^ min (Int.toNat 7) 64 = 128 := by decide
  rw [this, Int.fdiv_eq_ediv_of_nonneg _ (by omega)]
  rfl
theorem quo7 {n : Nat} (h : n < 9223372036854775808) : IntKind.i64.wrap (Int.tdiv (n : Int) 128) = ((n / 128 : Nat) : Int) := by
  have : Int.tdiv (n : Int) 128 = ((n / 128 : Nat) : Int) := by rw [Int.tdiv_eq_ediv_of_nonneg (by omega)]; rfl
  rw [this, wrap_in (by omega) (by omega)]
theorem byte_put {n : Nat} (h : n < 9223372036854775808) : IntKind.u8.wrap (IntKind.i64.wrap (bits .and .i64 (n : Int) 127 + 128)) = ((n % 128 + 128 : Nat) : Int) := by
  rw [and_i64 ⟨by omega, by omega⟩, wrap_in (by omega) (by omega), IntKind.wrap_u8]
  omega
theorem byte_last {n : Nat} (h : n ≤ 127) : IntKind.u8.wrap (n : Int) = (n : Int) := by rw [IntKind.wrap_u8]; omega
theorem byte_putQ {n : Nat} (h : n < 9223372036854775808) : IntKind.u8.wrap (IntKind.i64.wrap (Int.tmod (n : Int) 128 + 128)) = ((n % 128 + 128 : Nat) : Int) := by
  rw [Int.tmod_eq_emod_of_nonneg (by omega), wrap_in (by omega) (by omega), IntKind.wrap_u8]
  omega
instance hold_u8 : HoldC u8C := holdC_plain fun _ => rfl
instance free_u8 : FreeC u8C := freeC_plain fun _ => rfl
theorem lebL_len : ∀ (k n : Nat), n < 128 ^ (k + 1) → (lebL n).length ≤ k + 1 := fun k => by
  induction k with
  | zero => intro n h; rw [lebL_small (by omega)]; exact Nat.le_refl _
  | succ k ih =>
    intro n h
    by_cases q : n ≤ 127
    · rw [lebL_small q]; exact Nat.succ_le_succ (Nat.zero_le _)
    · rw [lebL_big q, List.length_cons]
      have := ih (n / 128) (by rw [Nat.pow_succ] at h; omega)
      omega
structure LbS where
  n : Nat
  l : List Nat
set_option maxHeartbeats 4000000 in
theorem putLeb_spec (n : Nat) (h : n < 9223372036854775808) : RetM env.P 53 [] [.i .i64 (n : Int)] (fun r H => r = .s (baN (lebL n)) ∧ H = []) := by
  have hb := lebL_len 8 n (by
    have : (128 : Nat) ^ (8 + 1) = 9223372036854775808 := by decide
    omega)
  refine ret_ofPM (nt := 24) (rvs := [.tmp 2]) Try.func53 rfl rfl rfl rfl (fun X hX => ?_)
  refine pw_cut 3 (fun _ : Unit => True) (fun _ => [(0, .i .i64 (n : Int)), (3, .row 0 0)]) (fun _ => [some (rowL 1 u8C [])]) ?_ (fun _ _ => ?_)
  · repeat' (first | omega | (with_reducible show (_ : Int) < _; dsimp only; omega) | (with_reducible show (_ : Nat) ≤ _; dsimp only; omega) | ((with_reducible show SrcOk _ _ _) <;> (first | exact srcOk_1 rfl | exact srcOk_L (fun _ => ⟨rfl, rfl⟩) | exact srcOk_E (fun _ => ⟨rfl, rfl⟩))) | ((conv => whnf) <;> (first | refine And.intro ?_ ?_ | (intro _h; first | contradiction | (try simp only [dd] at _h)) | (refine dt_go ?_) | exact rfl | exact True.intro | exact dkk | exact dks | (refine wrap_succ ?_; omega))))
    all_goals (first | (exfalso; omega) | skip)
    conv => whnf
    refine cut_turn (turn_eq (id := 0) (x := rowL 1 u8C []) rfl rfl rfl rfl rfl (fun i j hi _ => absurd hi (Nat.not_lt_zero _))) ?_
    exact cut_go () trivial (by repeat' (first | exact trivial | refine And.intro rfl ?_)) (by repeat' (first | exact trivial | refine And.intro (.inl rfl) ?_ | refine And.intro (.inr rfl) ?_ | refine And.intro rfl ?_))
  refine wpc_ok _ _ _ _ ?_
  (try dsimp only)
  conv => whnf
  refine loopFT (fun y : LbS => [(0, .i .i64 (y.n : Int)), (3, .row 0 y.l.length)]) (fun y => [some (.arr ⟨1, y.l.length, elE u8C y.l, .arr⟩)]) (fun y => y.l ++ lebL y.n = lebL n ∧ y.n < 9223372036854775808) (fun y => y.n) ⟨n, []⟩ ⟨⟨rfl, h⟩, ?_⟩
  repeat' (first | omega | (with_reducible show (_ : Int) < _; dsimp only; omega) | (with_reducible show (_ : Nat) ≤ _; dsimp only; omega) | ((with_reducible show SrcOk _ _ _) <;> (first | exact srcOk_1 rfl | exact srcOk_L (fun _ => ⟨rfl, rfl⟩) | exact srcOk_E (fun _ => ⟨rfl, rfl⟩))) | ((conv => whnf) <;> (first | exact lbz_zero rfl rfl | exact low_cells rfl | exact lbz_cap (Nat.le_succ_of_le (leb_le hb ‹_ ∧ _›)) (by decide) | exact lbz_capN (Nat.le_succ_of_le (leb_le hb ‹_ ∧ _›)) | exact lbz_bytes rfl | refine And.intro ?_ ?_ | (intro _h; first | contradiction | (try simp only [dd] at _h)) | (refine dt_go ?_) | exact rfl | exact True.intro | exact dkk | exact dks | (refine wrap_succ ?_; omega))))
  · rename_i y hy
    conv => whnf
    refine roundET_turn (turn_eq (id := 2) (x := rowL 1 u8C (y.l ++ [y.n % 128 + 128])) rfl rfl lbz_len.symm rfl rfl (snoc_eq (l := y.l) (sz := 1) (a := y.n % 128 + 128) (c := u8C) rfl (fun j hj => ?_))) ?_
    · obtain rfl : j = 0 := Nat.lt_one_iff.1 hj
      show OwEq (.i .u8 (IntKind.u8.wrap (IntKind.i64.wrap (bits .and .i64 (y.n : Int) 127 + 128)))) (.i .u8 ((y.n % 128 + 128 : Nat) : Int))
      rw [byte_put hy.2]
      exact .refl _
    refine roundET_end ?_
    refine ⟨⟨y.n / 128, y.l ++ [y.n % 128 + 128]⟩, [2], ?_, ?_, ?_⟩
    · refine ⟨?_, Nat.lt_of_le_of_lt (Nat.div_le_self _ _) hy.2⟩
      dsimp only
      rw [List.append_assoc, List.singleton_append, ← lebL_big (by omega)]
      exact hy.1
    · show y.n / 128 < y.n
      omega
    repeat' (first | omega | (with_reducible show (_ : Int) < _; dsimp only; omega) | (with_reducible show (_ : Nat) ≤ _; dsimp only; omega) | ((with_reducible show SrcOk _ _ _) <;> (first | exact srcOk_1 rfl | exact srcOk_L (fun _ => ⟨rfl, rfl⟩) | exact srcOk_E (fun _ => ⟨rfl, rfl⟩))) | ((conv => whnf) <;> (first | exact arr_same rfl rfl (fun a j => low_cells rfl) | exact low_cells rfl | exact lbz_len | exact shr7 _ | exact lbz_rho hX _h | refine And.intro ?_ ?_ | (intro _h; first | contradiction | (try simp only [dd] at _h)) | (refine dt_go ?_) | exact rfl | exact True.intro | exact dkk | exact dks | (refine wrap_succ ?_; omega))))
  · rename_i y hy
    conv => whnf
    refine endM_pick [] [] (.s _) (view_of rfl .nil) rfl rfl (fun k hk => by rw [hX] at hk; exact absurd hk (Nat.not_lt_zero _)) ⟨?_, rfl⟩
    exact congrArg AV.s ((bytes_snoc (z := y.n) (congrArg (AV.i .u8) (byte_last (by omega)))).trans (by rw [← hy.1, lebL_small (by omega)]))
set_option maxHeartbeats 4000000 in
theorem putLeb_impl (n : Nat) (h : n < 9223372036854775808) : RetM env.P 36 [] [.i .i64 (n : Int)] (fun r H => r = .s (baN (lebL n)) ∧ H = []) := by
  have hb := lebL_len 8 n (by
    have : (128 : Nat) ^ (8 + 1) = 9223372036854775808 := by decide
    omega)
  refine ret_ofPM (nt := 24) (rvs := [.tmp 2]) Try.func36 rfl rfl rfl rfl (fun X hX => ?_)
  refine pw_cut 3 (fun _ : Unit => True) (fun _ => [(0, .i .i64 (n : Int)), (3, .row 0 0)]) (fun _ => [some (rowL 1 u8C [])]) ?_ (fun _ _ => ?_)
  · repeat' (first | omega | (with_reducible show (_ : Int) < _; dsimp only; omega) | (with_reducible show (_ : Nat) ≤ _; dsimp only; omega) | ((with_reducible show SrcOk _ _ _) <;> (first | exact srcOk_1 rfl | exact srcOk_L (fun _ => ⟨rfl, rfl⟩) | exact srcOk_E (fun _ => ⟨rfl, rfl⟩))) | ((conv => whnf) <;> (first | refine And.intro ?_ ?_ | (intro _h; first | contradiction | (try simp only [dd] at _h)) | (refine dt_go ?_) | exact rfl | exact True.intro | exact dkk | exact dks | (refine wrap_succ ?_; omega))))
    all_goals (first | (exfalso; omega) | skip)
    conv => whnf
    refine cut_turn (turn_eq (id := 0) (x := rowL 1 u8C []) rfl rfl rfl rfl rfl (fun i j hi _ => absurd hi (Nat.not_lt_zero _))) ?_
    exact cut_go () trivial (by repeat' (first | exact trivial | refine And.intro rfl ?_)) (by repeat' (first | exact trivial | refine And.intro (.inl rfl) ?_ | refine And.intro (.inr rfl) ?_ | refine And.intro rfl ?_))
  refine wpc_ok _ _ _ _ ?_
  (try dsimp only)
  conv => whnf
  refine loopFT (fun y : LbS => [(0, .i .i64 (y.n : Int)), (3, .row 0 y.l.length)]) (fun y => [some (.arr ⟨1, y.l.length, elE u8C y.l, .arr⟩)]) (fun y => y.l ++ lebL y.n = lebL n ∧ y.n < 9223372036854775808) (fun y => y.n) ⟨n, []⟩ ⟨⟨rfl, h⟩, ?_⟩
  repeat' (first | omega | (with_reducible show (_ : Int) < _; dsimp only; omega) | (with_reducible show (_ : Nat) ≤ _; dsimp only; omega) | ((with_reducible show SrcOk _ _ _) <;> (first | exact srcOk_1 rfl | exact srcOk_L (fun _ => ⟨rfl, rfl⟩) | exact srcOk_E (fun _ => ⟨rfl, rfl⟩))) | ((conv => whnf) <;> (first | exact lbz_zero rfl rfl | exact low_cells rfl | exact lbz_cap (Nat.le_succ_of_le (leb_le hb ‹_ ∧ _›)) (by decide) | exact lbz_capN (Nat.le_succ_of_le (leb_le hb ‹_ ∧ _›)) | exact lbz_bytes rfl | refine And.intro ?_ ?_ | (intro _h; first | contradiction | (try simp only [dd] at _h)) | (refine dt_go ?_) | exact rfl | exact True.intro | exact dkk | exact dks | (refine wrap_succ ?_; omega))))
  · rename_i y hy
    conv => whnf
    refine roundET_turn (turn_eq (id := 2) (x := rowL 1 u8C (y.l ++ [y.n % 128 + 128])) rfl rfl lbz_len.symm rfl rfl (snoc_eq (l := y.l) (sz := 1) (a := y.n % 128 + 128) (c := u8C) rfl (fun j hj => ?_))) ?_
    · obtain rfl : j = 0 := Nat.lt_one_iff.1 hj
      show OwEq (.i .u8 (IntKind.u8.wrap (IntKind.i64.wrap (Int.tmod (y.n : Int) 128 + 128)))) (.i .u8 ((y.n % 128 + 128 : Nat) : Int))
      rw [byte_putQ hy.2]
      exact .refl _
    refine roundET_end ?_
    refine ⟨⟨y.n / 128, y.l ++ [y.n % 128 + 128]⟩, [2], ?_, ?_, ?_⟩
    · refine ⟨?_, Nat.lt_of_le_of_lt (Nat.div_le_self _ _) hy.2⟩
      dsimp only
      rw [List.append_assoc, List.singleton_append, ← lebL_big (by omega)]
      exact hy.1
    · show y.n / 128 < y.n
      omega
    repeat' (first | omega | (with_reducible show (_ : Int) < _; dsimp only; omega) | (with_reducible show (_ : Nat) ≤ _; dsimp only; omega) | ((with_reducible show SrcOk _ _ _) <;> (first | exact srcOk_1 rfl | exact srcOk_L (fun _ => ⟨rfl, rfl⟩) | exact srcOk_E (fun _ => ⟨rfl, rfl⟩))) | ((conv => whnf) <;> (first | exact arr_same rfl rfl (fun a j => low_cells rfl) | exact low_cells rfl | exact lbz_len | exact quo7 hy.2 | exact lbz_rho hX _h | refine And.intro ?_ ?_ | (intro _h; first | contradiction | (try simp only [dd] at _h)) | (refine dt_go ?_) | exact rfl | exact True.intro | exact dkk | exact dks | (refine wrap_succ ?_; omega))))
  · rename_i y hy
    conv => whnf
    refine endM_pick [] [] (.s _) (view_of rfl .nil) rfl rfl (fun k hk => by rw [hX] at hk; exact absurd hk (Nat.not_lt_zero _)) ⟨?_, rfl⟩
    exact congrArg AV.s ((bytes_snoc (z := y.n) (congrArg (AV.i .u8) (byte_last (by omega)))).trans (by rw [← hy.1, lebL_small (by omega)]))
end
section
attribute [local irreducible] IntKind.wrap
theorem slebL_len : ∀ (k : Nat) (n : Int), -(64 * 128 ^ k) ≤ n ∧ n < 64 * 128 ^ k → (slebL n).length ≤ k + 1 := fun k => by
  induction k with
  | zero => intro n h; rw [slebL_small (by omega)]; exact Nat.le_refl _
  | succ k ih =>
    intro n h
    by_cases q : -64 ≤ n ∧ n ≤ 63
    · rw [slebL_small q]; exact Nat.succ_le_succ (Nat.zero_le _)
    · rw [slebL_big q, List.length_cons]
      have := ih (n / 128) (by rw [Int.pow_succ] at h; omega)
      omega
def i64R (n : Int) : Prop := -9223372036854775808 ≤ n ∧ n ≤ 9223372036854775807
structure SlS where
  n : Int
  l : List Nat
theorem sleb_le {l : List Nat} {m n : Int} {k : Nat} (hb : (slebL n).length ≤ k) (h : l ++ slebL m = slebL n ∧ i64R m) : l.length ≤ k := by
  rw [← h.1, List.length_append] at hb
  omega
theorem sl_put {n : Int} (h : i64R n) : IntKind.u8.wrap (IntKind.i64.wrap (bits .and .i64 n 127 + 128)) = (((n % 128).toNat + 128 : Nat) : Int) := by
  rw [and_i64 h, wrap_in (by omega) (by omega), IntKind.wrap_u8]
  omega
theorem sl_last {n : Int} (h : i64R n) : IntKind.u8.wrap (bits .and .i64 n 127) = ((n % 128).toNat : Int) := by
  rw [and_i64 h, IntKind.wrap_u8]
  omega
theorem sl_putQ {n : Int} (h : i64R n) : bits .or .u8 (IntKind.u8.wrap (bits .and .i64 n 127)) 128 = (((n % 128).toNat + 128 : Nat) : Int) := by
  rw [sl_last h, or_u8 ⟨by omega, by omega⟩]
  omega
theorem shr7i (n : Int) : Int.fdiv n (2 ^ min (Int.toNat 7) 64) = n / 128 := by
  have : (2 : Int) ^ min (Int.toNat 7) 64 = 128 := by decide
  rw [this, Int.fdiv_eq_ediv_of_nonneg _ (by omega)]
theorem div_i64 {n : Int} (h : i64R n) : i64R (n / 128) := by
  obtain ⟨h1, h2⟩ := h
  exact ⟨by omega, by omega⟩
set_option maxHeartbeats 4000000 in
theorem putSleb_spec (n : Int) (h : i64R n) : RetM env.P 72 [] [.i .i64 (n : Int)] (fun r H => r = .s (baN (slebL n)) ∧ H = []) := by
  have hb := slebL_len 9 n (by
    have : (128 : Int) ^ 9 = 9223372036854775808 := by decide
    obtain ⟨h1, h2⟩ := h
    omega)
  refine ret_ofPM (nt := 27) (rvs := [.tmp 2]) Try.func72 rfl rfl rfl rfl (fun X hX => ?_)
  refine pw_cut 2 (fun _ : Unit => True) (fun _ => [(0, .i .i64 n), (3, .row 0 0)]) (fun _ => [some (rowL 1 u8C [])]) ?_ (fun _ _ => ?_)
  · repeat' (first | omega | (with_reducible show (_ : Int) < _; dsimp only; omega) | (with_reducible show (_ : Nat) ≤ _; dsimp only; omega) | ((with_reducible show SrcOk _ _ _) <;> (first | exact srcOk_1 rfl | exact srcOk_L (fun _ => ⟨rfl, rfl⟩) | exact srcOk_E (fun _ => ⟨rfl, rfl⟩))) | ((conv => whnf) <;> (first | refine And.intro ?_ ?_ | (intro _h; first | contradiction | (try simp only [dd] at _h)) | (refine dt_go ?_) | exact rfl | exact True.intro | exact dkk | exact dks | (refine wrap_succ ?_; omega))))
    conv => whnf
    refine cut_turn (turn_eq (id := 0) (x := rowL 1 u8C []) rfl rfl rfl rfl rfl (fun i j hi _ => absurd hi (Nat.not_lt_zero _))) ?_
    exact cut_go () trivial (by repeat' (first | exact trivial | refine And.intro rfl ?_)) (by repeat' (first | exact trivial | refine And.intro (.inl rfl) ?_ | refine And.intro (.inr rfl) ?_ | refine And.intro rfl ?_))
  refine wpc_ok _ _ _ _ ?_
  (try dsimp only)
  conv => whnf
  refine loopFT (fun y : SlS => [(0, .i .i64 y.n), (3, .row 0 y.l.length)]) (fun y => [some (.arr ⟨1, y.l.length, elE u8C y.l, .arr⟩)]) (fun y => y.l ++ slebL y.n = slebL n ∧ i64R y.n) (fun y => y.n.natAbs) ⟨n, []⟩ ⟨⟨rfl, h⟩, ?_⟩
  repeat' (first | omega | (with_reducible show (_ : Int) < _; dsimp only; omega) | (with_reducible show (_ : Nat) ≤ _; dsimp only; omega) | ((with_reducible show SrcOk _ _ _) <;> (first | exact srcOk_1 rfl | exact srcOk_L (fun _ => ⟨rfl, rfl⟩) | exact srcOk_E (fun _ => ⟨rfl, rfl⟩))) | ((conv => whnf) <;> (first | exact lbz_zero rfl rfl | exact low_cells rfl | exact lbz_cap (sleb_le hb ‹_ ∧ _›) (by decide) | exact lbz_capN (sleb_le hb ‹_ ∧ _›) | exact lbz_bytes rfl | refine And.intro ?_ ?_ | (intro _h; first | contradiction | (try simp only [dd] at _h)) | (refine dt_go ?_) | exact rfl | exact True.intro | exact dkk | exact dks | (refine wrap_succ ?_; omega))))
  all_goals first
  | (rename_i y hy
     conv => whnf
     refine roundET_turn (turn_eq (id := 2) (x := rowL 1 u8C (y.l ++ [(y.n % 128).toNat + 128])) rfl rfl lbz_len.symm rfl rfl (snoc_eq (l := y.l) (sz := 1) (a := (y.n % 128).toNat + 128) (c := u8C) rfl (fun j hj => ?_))) ?_
     · obtain rfl : j = 0 := Nat.lt_one_iff.1 hj
       show OwEq (.i .u8 (IntKind.u8.wrap (IntKind.i64.wrap (bits .and .i64 y.n 127 + 128)))) (.i .u8 (((y.n % 128).toNat + 128 : Nat) : Int))
       rw [sl_put hy.2]
       exact .refl _
     refine roundET_end ?_
     refine ⟨⟨y.n / 128, y.l ++ [(y.n % 128).toNat + 128]⟩, [2], ?_, ?_, ?_⟩
     · refine ⟨?_, div_i64 hy.2⟩
       dsimp only
       rw [List.append_assoc, List.singleton_append, ← slebL_big (by omega)]
       exact hy.1
     · show (y.n / 128).natAbs < y.n.natAbs
       omega
     repeat' (first | omega | (with_reducible show (_ : Int) < _; dsimp only; omega) | (with_reducible show (_ : Nat) ≤ _; dsimp only; omega) | ((with_reducible show SrcOk _ _ _) <;> (first | exact srcOk_1 rfl | exact srcOk_L (fun _ => ⟨rfl, rfl⟩) | exact srcOk_E (fun _ => ⟨rfl, rfl⟩))) | ((conv => whnf) <;> (first | exact arr_same rfl rfl (fun a j => low_cells rfl) | exact low_cells rfl | exact lbz_len | exact shr7i _ | exact lbz_rho hX _h | refine And.intro ?_ ?_ | (intro _h; first | contradiction | (try simp only [dd] at _h)) | (refine dt_go ?_) | exact rfl | exact True.intro | exact dkk | exact dks | (refine wrap_succ ?_; omega))))
     done)
  | (rename_i y hy _
     conv => whnf
     refine roundET_turn (turn_eq (id := 2) (x := rowL 1 u8C (y.l ++ [(y.n % 128).toNat + 128])) rfl rfl lbz_len.symm rfl rfl (snoc_eq (l := y.l) (sz := 1) (a := (y.n % 128).toNat + 128) (c := u8C) rfl (fun j hj => ?_))) ?_
     · obtain rfl : j = 0 := Nat.lt_one_iff.1 hj
       show OwEq (.i .u8 (IntKind.u8.wrap (IntKind.i64.wrap (bits .and .i64 y.n 127 + 128)))) (.i .u8 (((y.n % 128).toNat + 128 : Nat) : Int))
       rw [sl_put hy.2]
       exact .refl _
     refine roundET_end ?_
     refine ⟨⟨y.n / 128, y.l ++ [(y.n % 128).toNat + 128]⟩, [2], ?_, ?_, ?_⟩
     · refine ⟨?_, div_i64 hy.2⟩
       dsimp only
       rw [List.append_assoc, List.singleton_append, ← slebL_big (by omega)]
       exact hy.1
     · show (y.n / 128).natAbs < y.n.natAbs
       omega
     repeat' (first | omega | (with_reducible show (_ : Int) < _; dsimp only; omega) | (with_reducible show (_ : Nat) ≤ _; dsimp only; omega) | ((with_reducible show SrcOk _ _ _) <;> (first | exact srcOk_1 rfl | exact srcOk_L (fun _ => ⟨rfl, rfl⟩) | exact srcOk_E (fun _ => ⟨rfl, rfl⟩))) | ((conv => whnf) <;> (first | exact arr_same rfl rfl (fun a j => low_cells rfl) | exact low_cells rfl | exact lbz_len | exact shr7i _ | exact lbz_rho hX _h | refine And.intro ?_ ?_ | (intro _h; first | contradiction | (try simp only [dd] at _h)) | (refine dt_go ?_) | exact rfl | exact True.intro | exact dkk | exact dks | (refine wrap_succ ?_; omega))))
     done)
  | (rename_i y hy _
     conv => whnf
     refine endM_pick [] [] (.s _) (view_of rfl .nil) rfl rfl (fun k hk => by rw [hX] at hk; exact absurd hk (Nat.not_lt_zero _)) ⟨?_, rfl⟩
     exact congrArg AV.s ((bytes_snoc (z := (y.n % 128).toNat) (congrArg (AV.i .u8) (sl_last hy.2))).trans (by rw [← hy.1, slebL_small (by omega)])))
theorem within_ok (x lo hi : Int) : Ret env.P 47 [.i .i64 x, .i .i64 lo, .i .i64 hi] (fun r => r = .b (decide (lo ≤ x ∧ x ≤ hi))) := by
  refine ret_of (nt := 15) (rvs := [.tmp 6]) Try.func47 rfl rfl rfl rfl (fun X => ?_)
  repeat' (first | omega | (with_reducible show (_ : Int) < _; dsimp only; omega) | (with_reducible show (_ : Nat) ≤ _; dsimp only; omega) | ((with_reducible show SrcOk _ _ _) <;> (first | exact srcOk_1 rfl | exact srcOk_L (fun _ => ⟨rfl, rfl⟩) | exact srcOk_E (fun _ => ⟨rfl, rfl⟩))) | ((conv => whnf) <;> (first | refine And.intro ?_ ?_ | (intro _h; first | contradiction | (try simp only [dd] at _h)) | (refine dt_go ?_) | exact rfl | exact True.intro | exact dkk | exact dks | (refine wrap_succ ?_; omega))))
  all_goals (refine leaf_b ?_; rw [Bool.eq_iff_iff]; simp at *; omega)
theorem l00In_ok (x lo hi : Int) : Ret env.P 78 [.i .i64 x, .i .i64 lo, .i .i64 hi] (fun r => r = .b (decide (lo ≤ x ∧ x ≤ hi))) := by
  refine ret_of (nt := 15) (rvs := [.tmp 6]) Try.func78 rfl rfl rfl rfl (fun X => ?_)
  repeat' (first | omega | (with_reducible show (_ : Int) < _; dsimp only; omega) | (with_reducible show (_ : Nat) ≤ _; dsimp only; omega) | ((with_reducible show SrcOk _ _ _) <;> (first | exact srcOk_1 rfl | exact srcOk_L (fun _ => ⟨rfl, rfl⟩) | exact srcOk_E (fun _ => ⟨rfl, rfl⟩))) | ((conv => whnf) <;> (first | refine And.intro ?_ ?_ | (intro _h; first | contradiction | (try simp only [dd] at _h)) | (refine dt_go ?_) | exact rfl | exact True.intro | exact dkk | exact dks | (refine wrap_succ ?_; omega))))
  all_goals (refine leaf_b ?_; rw [Bool.eq_iff_iff]; simp at *; omega)
set_option maxHeartbeats 4000000 in
theorem putSleb_impl (n : Int) (h : i64R n) : RetM env.P 51 [] [.i .i64 (n : Int)] (fun r H => r = .s (baN (slebL n)) ∧ H = []) := by
  have hb := slebL_len 9 n (by
    have : (128 : Int) ^ 9 = 9223372036854775808 := by decide
    obtain ⟨h1, h2⟩ := h
    omega)
  refine ret_ofPM (nt := 24) (rvs := [.tmp 2]) Try.func51 rfl rfl rfl rfl (fun X hX => ?_)
  refine pw_cut 2 (fun _ : Unit => True) (fun _ => [(0, .i .i64 n), (3, .row 0 0)]) (fun _ => [some (rowL 1 u8C [])]) ?_ (fun _ _ => ?_)
  · repeat' (first | omega | (with_reducible show (_ : Int) < _; dsimp only; omega) | (with_reducible show (_ : Nat) ≤ _; dsimp only; omega) | ((with_reducible show SrcOk _ _ _) <;> (first | exact srcOk_1 rfl | exact srcOk_L (fun _ => ⟨rfl, rfl⟩) | exact srcOk_E (fun _ => ⟨rfl, rfl⟩))) | ((conv => whnf) <;> (first | refine And.intro ?_ ?_ | (intro _h; first | contradiction | (try simp only [dd] at _h)) | (refine dt_go ?_) | exact rfl | exact True.intro | exact dkk | exact dks | (refine wrap_succ ?_; omega))))
    conv => whnf
    refine cut_turn (turn_eq (id := 0) (x := rowL 1 u8C []) rfl rfl rfl rfl rfl (fun i j hi _ => absurd hi (Nat.not_lt_zero _))) ?_
    exact cut_go () trivial (by repeat' (first | exact trivial | refine And.intro rfl ?_)) (by repeat' (first | exact trivial | refine And.intro (.inl rfl) ?_ | refine And.intro (.inr rfl) ?_ | refine And.intro rfl ?_))
  refine wpc_ok _ _ _ _ ?_
  (try dsimp only)
  conv => whnf
  refine loopFT (fun y : SlS => [(0, .i .i64 y.n), (3, .row 0 y.l.length)]) (fun y => [some (.arr ⟨1, y.l.length, elE u8C y.l, .arr⟩)]) (fun y => y.l ++ slebL y.n = slebL n ∧ i64R y.n) (fun y => y.n.natAbs) ⟨n, []⟩ ⟨⟨rfl, h⟩, ?_⟩
  repeat' (first | omega | (with_reducible show (_ : Int) < _; dsimp only; omega) | (with_reducible show (_ : Nat) ≤ _; dsimp only; omega) | ((with_reducible show SrcOk _ _ _) <;> (first | exact srcOk_1 rfl | exact srcOk_L (fun _ => ⟨rfl, rfl⟩) | exact srcOk_E (fun _ => ⟨rfl, rfl⟩))) | ((conv => whnf) <;> (first | exact lbz_zero rfl rfl | exact low_cells rfl | exact lbz_cap (sleb_le hb ‹_ ∧ _›) (by decide) | exact lbz_capN (sleb_le hb ‹_ ∧ _›) | exact lbz_bytes rfl | refine And.intro ?_ ?_ | (intro _h; first | contradiction | (try simp only [dd] at _h)) | (refine dt_go ?_) | exact rfl | exact True.intro | exact dkk | exact dks | ((first | refine .inl ⟨_, within_ok _ _ _, ?_⟩ | refine ⟨_, within_ok _ _ _, ?_⟩); (try rintro _ rfl)) | (refine wrap_succ ?_; omega))))
  all_goals first
  | (rename_i y hy
     conv => whnf
     refine roundET_turn (turn_eq (id := 2) (x := rowL 1 u8C (y.l ++ [(y.n % 128).toNat + 128])) rfl rfl lbz_len.symm rfl rfl (snoc_eq (l := y.l) (sz := 1) (a := (y.n % 128).toNat + 128) (c := u8C) rfl (fun j hj => ?_))) ?_
     · obtain rfl : j = 0 := Nat.lt_one_iff.1 hj
       show OwEq (.i .u8 (bits .or .u8 (IntKind.u8.wrap (bits .and .i64 y.n 127)) 128)) (.i .u8 (((y.n % 128).toNat + 128 : Nat) : Int))
       rw [sl_putQ hy.2]
       exact .refl _
     refine roundET_end ?_
     refine ⟨⟨y.n / 128, y.l ++ [(y.n % 128).toNat + 128]⟩, [2], ?_, ?_, ?_⟩
     · refine ⟨?_, div_i64 hy.2⟩
       dsimp only
       rw [List.append_assoc, List.singleton_append, ← slebL_big (by omega)]
       exact hy.1
     · show (y.n / 128).natAbs < y.n.natAbs
       omega
     repeat' (first | omega | (with_reducible show (_ : Int) < _; dsimp only; omega) | (with_reducible show (_ : Nat) ≤ _; dsimp only; omega) | ((with_reducible show SrcOk _ _ _) <;> (first | exact srcOk_1 rfl | exact srcOk_L (fun _ => ⟨rfl, rfl⟩) | exact srcOk_E (fun _ => ⟨rfl, rfl⟩))) | ((conv => whnf) <;> (first | exact arr_same rfl rfl (fun a j => low_cells rfl) | exact low_cells rfl | exact lbz_len | exact shr7i _ | exact lbz_rho hX _h | refine And.intro ?_ ?_ | (intro _h; first | contradiction | (try simp only [dd] at _h)) | (refine dt_go ?_) | exact rfl | exact True.intro | exact dkk | exact dks | (refine wrap_succ ?_; omega))))
     done)
  | (rename_i y hy
     conv => whnf
     refine endM_pick [] [] (.s _) (view_of rfl .nil) rfl rfl (fun k hk => by rw [hX] at hk; exact absurd hk (Nat.not_lt_zero _)) ⟨?_, rfl⟩
     exact congrArg AV.s ((bytes_snoc (z := (y.n % 128).toNat) (congrArg (AV.i .u8) (sl_last hy.2))).trans (by rw [← hy.1, slebL_small (by omega)])))
end
theorem RetM.toRet {P : Program} {g : FuncId} {av : List AV} {v : AV} (h : RetM P g [] av (fun r H => r = v ∧ H = [])) : Ret P g av (fun r => r = v) := .mk fun w S us hS hc => by
  refine (h.h w S (fun _ => ⟨0, 0⟩) (fun _ => []) us ⟨fun id r q => by simp at q, fun i j r r' q => by simp at q, fun b hb => ⟨hS b hb, fun id r q => by simp at q⟩⟩ hS.gl hc).mono ?_
  rintro e w' ⟨r, u, H', blk', FP', he, ⟨hq, rfl⟩, _, hcu, _, _, hk⟩
  refine ⟨r, u, he, hq, ?_, ⟨hk.os, hk.tape, hk.output, hk.size, fun k hlt => hk.block k hlt (by rintro ⟨id, r, q, _⟩; simp at q)⟩⟩
  have hcu' : Conc w' _ (fun _ => ⟨0, 0⟩) [] r u := hcu.nil
  exact hcu'.mono (fun b hb => ⟨hb.1.imp_right fun q => ⟨q, hb.2.1⟩, rfl⟩) (HExt.refl _ _)
def getR (v : Int × Int × Bool) : AV := .tup [.i .i64 v.1, .i .i64 v.2.1, .b v.2.2]
set_option maxRecDepth 8000
def opV (op : Int) : Int × Int × Bool :=
  if op = 1 then (-9223372036854775808, 9223372036854775807, true)
  else if op = 2 ∨ op = 3 ∨ op = 4 then (0, 15, true)
  else if op = 24 ∨ op = 25 ∨ op = 26 then (0, 1, true)
  else if op = 29 ∨ op = 30 then (0, 6, true)
  else if op = 32 then (0, 7, true)
  else if op = 33 then (0, 11, true)
  else if 34 ≤ op ∧ op ≤ 39 then (0, 4096, true)
  else (0, 0, false)
set_option maxHeartbeats 4000000 in
theorem l15Has_ok (op : Int) : Ret env.P 71 [.i .i64 op] (fun r => r = getR (opV op)) := by
  refine ret_of (nt := 30) (rvs := [.tmp 2, .tmp 3, .tmp 4]) Try.func71 rfl rfl rfl rfl (fun X => ?_)
  repeat' (first | omega | (with_reducible show (_ : Int) < _; dsimp only; omega) | (with_reducible show (_ : Nat) ≤ _; dsimp only; omega) | ((with_reducible show SrcOk _ _ _) <;> (first | exact srcOk_1 rfl | exact srcOk_L (fun _ => ⟨rfl, rfl⟩) | exact srcOk_E (fun _ => ⟨rfl, rfl⟩))) | ((conv => whnf) <;> (first | refine And.intro ?_ ?_ | (intro _h; first | contradiction | (try simp only [dd] at _h)) | (refine dt_go ?_) | exact rfl | exact True.intro | exact dkk | exact dks | (refine wrap_succ ?_; omega))))
  all_goals (conv => whnf)
  all_goals first
    | (subst_vars; rfl)
    | (have e : opV op = (0, 0, false) := by
         unfold opV
         rw [if_neg (by omega), if_neg (by omega), if_neg (by omega), if_neg (by omega), if_neg (by omega), if_neg (by omega), if_neg (by omega)]
       rw [e]; rfl)
    | trace_state
theorem numRange64 : Ret env.P 52 [.i .i64 9] (fun r => r = .tup [.i .i64 (-9223372036854775808), .i .i64 9223372036854775807, .b true]) := by
  refine ret_of (nt := 20) (rvs := [.tmp 2, .tmp 3, .tmp 4]) Try.func52 rfl rfl rfl rfl (fun X => ?_)
  repeat' (first | omega | (with_reducible show (_ : Int) < _; dsimp only; omega) | (with_reducible show (_ : Nat) ≤ _; dsimp only; omega) | ((with_reducible show SrcOk _ _ _) <;> (first | exact srcOk_1 rfl | exact srcOk_L (fun _ => ⟨rfl, rfl⟩) | exact srcOk_E (fun _ => ⟨rfl, rfl⟩))) | ((conv => whnf) <;> (first | refine And.intro ?_ ?_ | (intro _h; first | contradiction | (try simp only [dd] at _h)) | (refine dt_go ?_) | exact rfl | exact True.intro | exact dkk | exact dks | (refine wrap_succ ?_; omega))))
set_option maxHeartbeats 4000000 in
theorem operandOf_ok (op : Int) : Ret env.P 26 [.i .i64 op] (fun r => r = getR (opV op)) := by
  refine ret_of (nt := 40) (rvs := [.tmp 2, .tmp 3, .tmp 4]) Try.func26 rfl rfl rfl rfl (fun X => ?_)
  repeat' (first | omega | (with_reducible show (_ : Int) < _; dsimp only; omega) | (with_reducible show (_ : Nat) ≤ _; dsimp only; omega) | ((with_reducible show SrcOk _ _ _) <;> (first | exact srcOk_1 rfl | exact srcOk_L (fun _ => ⟨rfl, rfl⟩) | exact srcOk_E (fun _ => ⟨rfl, rfl⟩))) | ((conv => whnf) <;> (first | refine And.intro ?_ ?_ | (intro _h; first | contradiction | (try simp only [dd] at _h)) | (refine dt_go ?_) | exact rfl | exact True.intro | exact dkk | exact dks | ((first | refine .inl ⟨_, numRange64, ?_⟩ | refine ⟨_, numRange64, ?_⟩); (try rintro _ rfl)) | (refine wrap_succ ?_; omega))))
  all_goals (conv => whnf)
  all_goals first
    | (subst_vars; rfl)
    | (have e : opV op = (0, 0, false) := by
         unfold opV
         rw [if_neg (by omega), if_neg (by omega), if_neg (by omega), if_neg (by omega), if_neg (by omega), if_neg (by omega), if_neg (by omega)]
       rw [e]; rfl)
    | trace_state
structure Ins where
  op : Int
  a : Int
  deriving DecidableEq, Inhabited
def Ins.cs (a : Ins) : List AV := [.i .i64 a.op, .i .i64 a.a]
theorem Ins.low (a : Ins) : a.cs.all (low1 0) = true := rfl
def Ins.ok (a : Ins) : Prop := True
set_option maxRecDepth 8000
def Ins.good (i : Ins) : Bool := decide ((1 ≤ i.op ∧ i.op ≤ 40) ∧ ((opV i.op).1 ≤ i.a ∧ i.a ≤ (opV i.op).2.1))
theorem has_ok (op : Int) : Ret env.P 71 [.i .i64 op] (fun r => r = .tup [.i .i64 (opV op).1, .i .i64 (opV op).2.1, .b (opV op).2.2]) := l15Has_ok op
theorem hasI_ok (op : Int) : Ret env.P 26 [.i .i64 op] (fun r => r = .tup [.i .i64 (opV op).1, .i .i64 (opV op).2.1, .b (opV op).2.2]) := operandOf_ok op
theorem l15Ins_ok (i : Ins) : Ret env.P 69 [.agg i.cs] (fun r => r = .b i.good) := by
  refine ret_of (nt := 23) (rvs := [.tmp 2]) Try.func69 rfl rfl rfl rfl (fun X => ?_)
  repeat' (first | omega | (with_reducible show (_ : Int) < _; dsimp only; omega) | (with_reducible show (_ : Nat) ≤ _; dsimp only; omega) | ((with_reducible show SrcOk _ _ _) <;> (first | exact srcOk_1 rfl | exact srcOk_L (fun _ => ⟨rfl, rfl⟩) | exact srcOk_E (fun _ => ⟨rfl, rfl⟩))) | ((conv => whnf) <;> (first | refine And.intro ?_ ?_ | (intro _h; first | contradiction | (try simp only [dd] at _h)) | (refine dt_go ?_) | exact rfl | exact True.intro | exact dkk | exact dks | ((first | refine .inl ⟨_, has_ok _, ?_⟩ | refine ⟨_, has_ok _, ?_⟩); (try rintro _ rfl)) | ((first | refine .inl ⟨_, l00In_ok _ _ _, ?_⟩ | refine ⟨_, l00In_ok _ _ _, ?_⟩); (try rintro _ rfl)) | (refine wrap_succ ?_; omega))))
  all_goals (refine leaf_b ?_; unfold Ins.good; first | (simp_all; done) | (simp_all; omega))
theorem insOk_spec (i : Ins) : Ret env.P 54 [.agg i.cs] (fun r => r = .b i.good) := by
  refine ret_of (nt := 5) (rvs := [.tmp 2]) Try.func54 rfl rfl rfl rfl (fun X => ?_)
  repeat' (first | omega | (with_reducible show (_ : Int) < _; dsimp only; omega) | (with_reducible show (_ : Nat) ≤ _; dsimp only; omega) | ((with_reducible show SrcOk _ _ _) <;> (first | exact srcOk_1 rfl | exact srcOk_L (fun _ => ⟨rfl, rfl⟩) | exact srcOk_E (fun _ => ⟨rfl, rfl⟩))) | ((conv => whnf) <;> (first | refine And.intro ?_ ?_ | (intro _h; first | contradiction | (try simp only [dd] at _h)) | (refine dt_go ?_) | exact rfl | exact True.intro | exact dkk | exact dks | ((first | refine .inl ⟨_, l15Ins_ok i, ?_⟩ | refine ⟨_, l15Ins_ok i, ?_⟩); (try rintro _ rfl)) | (refine wrap_succ ?_; omega))))
theorem insOk_impl (i : Ins) : Ret env.P 24 [.agg i.cs] (fun r => r = .b i.good) := by
  refine ret_of (nt := 23) (rvs := [.tmp 2]) Try.func24 rfl rfl rfl rfl (fun X => ?_)
  repeat' (first | omega | (with_reducible show (_ : Int) < _; dsimp only; omega) | (with_reducible show (_ : Nat) ≤ _; dsimp only; omega) | ((with_reducible show SrcOk _ _ _) <;> (first | exact srcOk_1 rfl | exact srcOk_L (fun _ => ⟨rfl, rfl⟩) | exact srcOk_E (fun _ => ⟨rfl, rfl⟩))) | ((conv => whnf) <;> (first | refine And.intro ?_ ?_ | (intro _h; first | contradiction | (try simp only [dd] at _h)) | (refine dt_go ?_) | exact rfl | exact True.intro | exact dkk | exact dks | ((first | refine .inl ⟨_, hasI_ok _, ?_⟩ | refine ⟨_, hasI_ok _, ?_⟩); (try rintro _ rfl)) | ((first | refine .inl ⟨_, within_ok _ _ _, ?_⟩ | refine ⟨_, within_ok _ _ _, ?_⟩); (try rintro _ rfl)) | (refine wrap_succ ?_; omega))))
  all_goals (refine leaf_b ?_; unfold Ins.good; first | (simp_all; done) | (simp_all; omega))
end Go.Proofs.Ytdeledeopippfaa
