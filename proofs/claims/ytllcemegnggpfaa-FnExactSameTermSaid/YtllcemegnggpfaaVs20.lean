/- Texts for VTermOkP. -/
import Derived.Test.YtllcemegnggpfaaVs19
namespace Go.Proofs.Ytllcemegnggpfaa
open Go Go.RowKit
set_option linter.unusedVariables false
set_option linter.unusedSimpArgs false
set_option maxRecDepth 8000
section
attribute [local irreducible] IntKind.wrap
structure EndI (P : Nat → Prop) (n k j : Nat) : Prop where
  lt : k ≤ j
  le : j ≤ n
  eq : endF P (n - j) j = endF P (n - k) k
theorem EndI.self {P : Nat → Prop} {n k : Nat} (hk : k ≤ n) : EndI P n k k := ⟨Nat.le_refl _, hk, rfl⟩
theorem EndI.zero {P : Nat → Prop} {n k : Nat} (hk : k < n) (h : P k) : EndI P n k (k + 1) := ⟨Nat.le_succ k, hk, (endF_step hk h).symm⟩
theorem EndI.next {P : Nat → Prop} {n k j : Nat} (h : EndI P n k j) (hj : j < n) (hp : P j) : EndI P n k (j + 1) := ⟨Nat.le_succ_of_le h.lt, hj, (endF_step hj hp).symm.trans h.eq⟩
theorem EndI.done {P : Nat → Prop} {n k j : Nat} (h : EndI P n k j) (hs : j < n → ¬ P j) : endF P (n - k) k = j := h.eq.symm.trans (endF_stop hs)
theorem isLetter_ok (c : Int) : Ret env.P 97 [.i .u8 c] (fun r => r = .b (decide (97 ≤ c ∧ c ≤ 122))) := by
  refine ret_of (nt := 9) (rvs := [.tmp 2]) Try.func97 rfl rfl rfl rfl (fun X => ?_)
  repeat' (first | omega | (with_reducible show (_ : Int) < _; dsimp only; omega) | (with_reducible show (_ : Nat) ≤ _; dsimp only; omega) | ((with_reducible show SrcOk _ _ _) <;> (first | exact srcOk_1 rfl | exact srcOk_L (fun _ => ⟨rfl, rfl⟩) | exact srcOk_E (fun _ => ⟨rfl, rfl⟩))) | ((conv => whnf) <;> (first | refine And.intro ?_ ?_ | (intro _h; first | contradiction | (try simp only [dd] at _h)) | (refine dt_go ?_) | exact rfl | exact True.intro | exact dkk | exact dks | (refine wrap_succ ?_; omega))))
  all_goals (conv => whnf)
  all_goals first
    | exact leaf_b (by rw [decide_eq_decide]; omega)
    | exact leaf_b (by symm; rw [decide_eq_false_iff_not]; omega)
    | trace_state
theorem isDigit_ok (c : Int) : Ret env.P 99 [.i .u8 c] (fun r => r = .b (decide (48 ≤ c ∧ c ≤ 57))) := by
  refine ret_of (nt := 9) (rvs := [.tmp 2]) Try.func99 rfl rfl rfl rfl (fun X => ?_)
  repeat' (first | omega | (with_reducible show (_ : Int) < _; dsimp only; omega) | (with_reducible show (_ : Nat) ≤ _; dsimp only; omega) | ((with_reducible show SrcOk _ _ _) <;> (first | exact srcOk_1 rfl | exact srcOk_L (fun _ => ⟨rfl, rfl⟩) | exact srcOk_E (fun _ => ⟨rfl, rfl⟩))) | ((conv => whnf) <;> (first | refine And.intro ?_ ?_ | (intro _h; first | contradiction | (try simp only [dd] at _h)) | (refine dt_go ?_) | exact rfl | exact True.intro | exact dkk | exact dks | (refine wrap_succ ?_; omega))))
  all_goals (conv => whnf)
  all_goals first
    | exact leaf_b (by rw [decide_eq_decide]; omega)
    | exact leaf_b (by symm; rw [decide_eq_false_iff_not]; omega)
    | trace_state
def lxC (s : ByteArray) (k line : Int) : List AV := [.s s, .i .i64 k, .i .i64 line]
theorem byteAt_ok (s : ByteArray) (k line j : Int) (hs : s.size ≤ 30000) (h0 : 0 ≤ j) : Ret env.P 107 [rfL (lxC s k line), .i .i64 j] (fun r => r = .i .u8 (byI s j.toNat)) := by
  refine ret_of (nt := 18) (rvs := [.tmp 4]) Try.func107 rfl rfl rfl rfl (fun X => ?_)
  repeat' (first | omega | (with_reducible show (_ : Int) < _; dsimp only; omega) | (with_reducible show (_ : Nat) ≤ _; dsimp only; omega) | ((with_reducible show SrcOk _ _ _) <;> (first | exact srcOk_1 rfl | exact srcOk_L (fun _ => ⟨rfl, rfl⟩) | exact srcOk_E (fun _ => ⟨rfl, rfl⟩))) | ((conv => whnf) <;> (first | refine And.intro ?_ ?_ | (intro _h; first | contradiction | (try simp only [dd] at _h)) | (refine dt_go ?_) | exact rfl | exact True.intro | exact dkk | exact dks | (refine wrap_succ ?_; omega))))
  all_goals (conv => whnf)
  all_goals first
    | exact rfl
    | exact congrArg (AV.i .u8) (byI_out (by omega)).symm
    | trace_state
theorem hasPrefixL_ok (a b : ByteArray) (ha : a.size ≤ 1000000) (hb : b.size ≤ 1000000) : Ret env.P 106 [.s a, .s b] (fun r => r = .b (pb (b.size ≤ a.size ∧ a.extract 0 b.size = b))) := by
  refine ret_of (nt := 18) (rvs := [.tmp 4]) Try.func106 rfl rfl rfl rfl (fun X => ?_)
  repeat' (first | omega | (with_reducible show (_ : Int) < _; dsimp only; omega) | (with_reducible show (_ : Nat) ≤ _; dsimp only; omega) | ((with_reducible show SrcOk _ _ _) <;> (first | exact srcOk_1 rfl | exact srcOk_L (fun _ => ⟨rfl, rfl⟩) | exact srcOk_E (fun _ => ⟨rfl, rfl⟩))) | ((conv => whnf) <;> (first | refine And.intro ?_ ?_ | (intro _h; first | contradiction | (try simp only [dd] at _h)) | (refine dt_go ?_) | exact rfl | exact True.intro | exact dkk | exact dks | (refine wrap_succ ?_; omega))))
  all_goals (conv => whnf)
  all_goals (try simp only [Int.toNat_natCast] at *)
  all_goals first
    | exact leaf_f fun q => by omega
    | exact leaf_p (by simp_all; done)
    | trace_state
theorem hasPrefix_ok (a b : ByteArray) (ha : a.size ≤ 1000000) (hb : b.size ≤ 1000000) : Ret env.P 96 [.s a, .s b] (fun r => r = .b (pb (b.size ≤ a.size ∧ a.extract 0 b.size = b))) := by
  refine ret_of (nt := 8) (rvs := [.tmp 4]) Try.func96 rfl rfl rfl rfl (fun X => ?_)
  repeat' (first | omega | (with_reducible show (_ : Int) < _; dsimp only; omega) | (with_reducible show (_ : Nat) ≤ _; dsimp only; omega) | ((with_reducible show SrcOk _ _ _) <;> (first | exact srcOk_1 rfl | exact srcOk_L (fun _ => ⟨rfl, rfl⟩) | exact srcOk_E (fun _ => ⟨rfl, rfl⟩))) | ((conv => whnf) <;> (first | refine And.intro ?_ ?_ | (intro _h; first | contradiction | (try simp only [dd] at _h)) | (refine dt_go ?_) | exact rfl | exact True.intro | exact dkk | exact dks | ((first | refine .inl ⟨_, hasPrefixL_ok a b ha hb, ?_⟩ | refine ⟨_, hasPrefixL_ok a b ha hb, ?_⟩); (try rintro _ rfl)) | (refine wrap_succ ?_; omega))))
  all_goals exact rfl
theorem pre2 {s : ByteArray} {k : Nat} {x y : UInt8} (hy : ¬ y = 0) : ((⟨#[x, y]⟩ : ByteArray).size ≤ (s.extract k s.size).size ∧ (s.extract k s.size).extract 0 (⟨#[x, y]⟩ : ByteArray).size = ⟨#[x, y]⟩) ↔ (byI s k = x.toNat ∧ byI s (k + 1) = y.toNat) := by
  have e2 : (⟨#[x, y]⟩ : ByteArray).size = 2 := rfl
  rw [e2]
  constructor
  · rintro ⟨h1, h2⟩
    rw [ByteArray.size_extract] at h1
    have hk : k + 2 ≤ s.size := by omega
    have g : ∀ i, i < 2 → (s.data.getD (k + i) 0) = ((⟨#[x, y]⟩ : ByteArray).data.getD i 0) := fun i hi => by
      rw [← h2]
      have hs : k + i < s.data.size := by
        have : s.data.size = s.size := rfl
        omega
      rw [Array.getD_eq_getD_getElem?, Array.getD_eq_getD_getElem?, Array.getElem?_eq_getElem hs]
      have hj : i < ((s.extract k s.size).extract 0 2).data.size := by
        have : ((s.extract k s.size).extract 0 2).data.size = ((s.extract k s.size).extract 0 2).size := rfl
        rw [this, ByteArray.size_extract, ByteArray.size_extract]
        omega
      rw [Array.getElem?_eq_getElem hj]
      simp [ByteArray.data_extract, Array.getElem_extract]
    have g0 := g 0 (by decide)
    have g1 := g 1 (by decide)
    unfold byI
    rw [Nat.add_zero] at g0
    rw [g0, g1]
    exact ⟨rfl, rfl⟩
  · rintro ⟨h1, h2⟩
    have hk : k + 2 ≤ s.size := by
      apply Nat.le_of_not_lt
      intro hc
      have h3 := byI_out (s := s) (k := k + 1) (by omega)
      rw [h3] at h2
      have : y.toNat = 0 := by omega
      exact hy (UInt8.toNat_inj.1 this)
    refine ⟨by rw [ByteArray.size_extract]; omega, ?_⟩
    apply ByteArray.ext
    rw [ByteArray.data_extract, ByteArray.data_extract]
    apply Array.ext
    · simp
      have : s.data.size = s.size := rfl
      omega
    · intro i hi1 hi2
      have hi : i < 2 := hi2
      have hs : k + i < s.data.size := by
        have : s.data.size = s.size := rfl
        omega
      have e : byI s (k + i) = (s.data[k + i]'hs).toNat := by
        unfold byI
        rw [Array.getD_eq_getD_getElem?, Array.getElem?_eq_getElem hs]
        rfl
      rw [Array.getElem_extract, Array.getElem_extract]
      apply UInt8.toNat_inj.1
      rcases (show i = 0 ∨ i = 1 by omega) with rfl | rfl
      · have e3 : byI s (k + 0) = x.toNat := h1
        rw [e3] at e
        have e4 : (x.toNat : Int) = ((s.data[k + (0 + 0)]'hs).toNat : Int) := e
        show (s.data[k + (0 + 0)]'hs).toNat = x.toNat
        omega
      · rw [h2] at e
        have e4 : (y.toNat : Int) = ((s.data[k + (0 + 1)]'hs).toNat : Int) := e
        show (s.data[k + (0 + 1)]'hs).toNat = y.toNat
        omega
theorem wd_at {s : ByteArray} {k i : Nat} (h : ¬ ((97 ≤ byI s (k + 1 + i) ∧ byI s (k + 1 + i) ≤ 122) ∨ (48 ≤ byI s (k + 1 + i) ∧ byI s (k + 1 + i) ≤ 57) ∨ (byI s (k + 1 + i) = 45 ∧ ((97 ≤ byI s (k + 1 + i + 1) ∧ byI s (k + 1 + i + 1) ≤ 122) ∨ (48 ≤ byI s (k + 1 + i + 1) ∧ byI s (k + 1 + i + 1) ≤ 57))))) : ¬ wdP s (k + 1 + i) := h
theorem nb_at {s : ByteArray} {k i : Nat} (h : ¬ ((48 ≤ byI s (k + 1 + i) ∧ byI s (k + 1 + i) ≤ 57) ∨ (byI s (k + 1 + i) = 46 ∧ (48 ≤ byI s (k + 1 + i + 1) ∧ byI s (k + 1 + i + 1) ≤ 57)))) : ¬ nbP s (k + 1 + i) := h
theorem wd_in {s : ByteArray} {j : Nat} (h : (97 ≤ byI s j ∧ byI s j ≤ 122) ∨ (48 ≤ byI s j ∧ byI s j ≤ 57) ∨ (byI s j = 45 ∧ ((97 ≤ byI s (j + 1) ∧ byI s (j + 1) ≤ 122) ∨ (48 ≤ byI s (j + 1) ∧ byI s (j + 1) ≤ 57)))) : wdP s j := h
theorem nb_in {s : ByteArray} {j : Nat} (h : (48 ≤ byI s j ∧ byI s j ≤ 57) ∨ (byI s j = 46 ∧ (48 ≤ byI s (j + 1) ∧ byI s (j + 1) ≤ 57))) : nbP s j := h
theorem tn1 {j : Nat} (h : j ≤ 1000000) : (IntKind.i64.wrap ((j : Int) + 1)).toNat = j + 1 := by
  rw [wrap_in (by omega) (by omega)]
  omega
set_option maxHeartbeats 1000000 in
theorem wordEnd_w (s : ByteArray) (k : Nat) (line at' : Int) (hs : s.size ≤ 30000) (hk : k < s.size) (h : 97 ≤ byI s k ∧ byI s k ≤ 122) : Ret env.P 98 [rfL (lxC s at' line), .i .i64 k] (fun r => r = .i .i64 (endF (wdP s) (s.size - k) k : Nat)) := by
  refine ret_of (nt := 79) (rvs := [.tmp 4]) Try.func98 rfl rfl rfl rfl (fun X => ?_)
  repeat' (first | omega | (with_reducible show (_ : Int) < _; dsimp only; omega) | (with_reducible show (_ : Nat) ≤ _; dsimp only; omega) | ((with_reducible show SrcOk _ _ _) <;> (first | exact srcOk_1 rfl | exact srcOk_L (fun _ => ⟨rfl, rfl⟩) | exact srcOk_E (fun _ => ⟨rfl, rfl⟩))) | ((conv => whnf) <;> (first | refine loopN s.size (fun i : Nat => [(1, .i .i64 ((k + 1 + i : Nat) : Int))]) (fun _ => []) (fun i => EndI (wdP s) s.size k (k + 1 + i)) ⟨EndI.zero hk (.inl h), ?_⟩ | refine And.intro ?_ ?_ | (intro _h; first | contradiction | (try simp only [dd] at _h)) | (refine dt_go ?_) | exact rfl | exact True.intro | exact dkk | exact dks | ((first | refine .inl ⟨_, isLetter_ok _, ?_⟩ | refine ⟨_, isLetter_ok _, ?_⟩); (try rintro _ rfl)) | ((first | refine .inl ⟨_, isDigit_ok _, ?_⟩ | refine ⟨_, isDigit_ok _, ?_⟩); (try rintro _ rfl)) | ((first | refine .inl ⟨_, byteAt_ok s _ _ _ hs (by rw [wrap_in (by omega) (by omega)]; omega), ?_⟩ | refine ⟨_, byteAt_ok s _ _ _ hs (by rw [wrap_in (by omega) (by omega)]; omega), ?_⟩); (try rintro _ rfl)) | (refine wrap_succ ?_; omega))))
  all_goals (try simp only [Int.toNat_natCast] at *)
  all_goals (first | (conv => whnf) | skip)
  all_goals first
    | (exfalso; omega)
    | (exact absurd h ‹_›)
    | (rw [wrap_in (by omega) (by omega)]; omega)
    | (rename_i i hI _; have := hI.le; omega)
    | (have hI := ‹EndI _ _ _ _›
       have hle := hI.le
       simp (disch := omega) only [tn1] at *
       first
         | exact congrArg (AV.i .i64) (congrArg _ (hI.done (fun _ => wd_at (by (try simp only [byI] at *); omega))).symm)
         | exact hI.next (by omega) (wd_in (by (try simp only [byI] at *); omega)))
    | (have hI := ‹EndI _ _ _ _›
       have hle := hI.le
       first
         | exact congrArg (AV.i .i64) (congrArg _ (hI.done (fun _ => wd_at (by (try simp only [byI] at *); omega))).symm)
         | exact hI.next (by omega) (wd_in (by (try simp only [byI] at *); omega)))
    | trace_state
theorem nl_97 {c : Int} (h : 48 ≤ c ∧ c ≤ 57) : ¬ (97 ≤ c ∧ c ≤ 122) := by omega
set_option maxHeartbeats 1000000 in
theorem wordEnd_n (s : ByteArray) (k : Nat) (line at' : Int) (hs : s.size ≤ 30000) (hk : k < s.size) (h : 48 ≤ byI s k ∧ byI s k ≤ 57) : Ret env.P 98 [rfL (lxC s at' line), .i .i64 k] (fun r => r = .i .i64 (endF (nbP s) (s.size - k) k : Nat)) := by
  have h0 := nl_97 h
  refine ret_of (nt := 79) (rvs := [.tmp 4]) Try.func98 rfl rfl rfl rfl (fun X => ?_)
  repeat' (first | omega | (with_reducible show (_ : Int) < _; dsimp only; omega) | (with_reducible show (_ : Nat) ≤ _; dsimp only; omega) | ((with_reducible show SrcOk _ _ _) <;> (first | exact srcOk_1 rfl | exact srcOk_L (fun _ => ⟨rfl, rfl⟩) | exact srcOk_E (fun _ => ⟨rfl, rfl⟩))) | ((conv => whnf) <;> (first | refine loopN s.size (fun i : Nat => [(1, .i .i64 ((k + 1 + i : Nat) : Int))]) (fun _ => []) (fun i => EndI (nbP s) s.size k (k + 1 + i)) ⟨EndI.zero hk (.inl h), ?_⟩ | refine And.intro ?_ ?_ | (intro _h; first | contradiction | (try simp only [dd] at _h)) | (refine dt_go ?_) | exact rfl | exact True.intro | exact dkk | exact dks | ((first | refine .inl ⟨_, isLetter_ok _, ?_⟩ | refine ⟨_, isLetter_ok _, ?_⟩); (try rintro _ rfl)) | ((first | refine .inl ⟨_, isDigit_ok _, ?_⟩ | refine ⟨_, isDigit_ok _, ?_⟩); (try rintro _ rfl)) | ((first | refine .inl ⟨_, byteAt_ok s _ _ _ hs (by rw [wrap_in (by omega) (by omega)]; omega), ?_⟩ | refine ⟨_, byteAt_ok s _ _ _ hs (by rw [wrap_in (by omega) (by omega)]; omega), ?_⟩); (try rintro _ rfl)) | (refine wrap_succ ?_; omega))))
  all_goals (try simp only [Int.toNat_natCast] at *)
  all_goals (first | (conv => whnf) | skip)
  all_goals first
    | (exfalso; omega)
    | (exfalso; (try simp only [byI] at *); omega)
    | (exact absurd ‹_› h0)
    | (rw [wrap_in (by omega) (by omega)]; omega)
    | (rename_i i hI _; have := hI.le; omega)
    | (have hI := ‹EndI _ _ _ _›
       have hle := hI.le
       simp (disch := omega) only [tn1] at *
       first
         | exact congrArg (AV.i .i64) (congrArg _ (hI.done (fun _ => nb_at (by (try simp only [byI] at *); omega))).symm)
         | exact hI.next (by omega) (nb_in (by (try simp only [byI] at *); omega)))
    | (have hI := ‹EndI _ _ _ _›
       have hle := hI.le
       first
         | exact congrArg (AV.i .i64) (congrArg _ (hI.done (fun _ => nb_at (by (try simp only [byI] at *); omega))).symm)
         | exact hI.next (by omega) (nb_in (by (try simp only [byI] at *); omega)))
    | trace_state
end
section
attribute [local irreducible] IntKind.wrap
theorem pre47 (s : ByteArray) (k : Nat) (hs : s.size ≤ 30000) : Ret env.P 96 [.s (s.extract k s.size), .s ⟨#[47, 47]⟩] (fun r => r = .b (decide (byI s k = 47 ∧ byI s (k + 1) = 47))) := (hasPrefix_ok (s.extract k s.size) ⟨#[47, 47]⟩ (by rw [ByteArray.size_extract]; omega) (by decide)).mono fun r e => by
  rw [e, pb_congr (pre2 (s := s) (k := k) (x := 47) (y := 47) (by decide))]
  unfold pb
  exact congrArg AV.b (decide_eq_decide.2 Iff.rfl)
theorem pre4562 (s : ByteArray) (k : Nat) (hs : s.size ≤ 30000) : Ret env.P 96 [.s (s.extract k s.size), .s ⟨#[45, 62]⟩] (fun r => r = .b (decide (byI s k = 45 ∧ byI s (k + 1) = 62))) := (hasPrefix_ok (s.extract k s.size) ⟨#[45, 62]⟩ (by rw [ByteArray.size_extract]; omega) (by decide)).mono fun r e => by
  rw [e, pb_congr (pre2 (s := s) (k := k) (x := 45) (y := 62) (by decide))]
  unfold pb
  exact congrArg AV.b (decide_eq_decide.2 Iff.rfl)
structure SkI (s : ByteArray) (k0 : Nat) (l0 : Int) (y : Nat × Int) : Prop where
  eq : skW s y.1 y.2 = skW s k0 l0
  ge : k0 ≤ y.1
  le : y.1 ≤ s.size
  lo : l0 ≤ y.2
  hi : y.2 + k0 ≤ l0 + y.1
theorem SkI.zero {s : ByteArray} {k0 : Nat} {l0 : Int} (h : k0 ≤ s.size) : SkI s k0 l0 (k0, l0) := ⟨rfl, Nat.le_refl _, h, Int.le_refl _, by show l0 + k0 ≤ l0 + (k0 : Int); omega⟩
theorem SkI.nl {s : ByteArray} {k0 : Nat} {l0 : Int} {y : Nat × Int} (h : SkI s k0 l0 y) (hk : y.1 < s.size) (hb : byI s y.1 = 10) : SkI s k0 l0 (y.1 + 1, y.2 + 1) := by
  obtain ⟨a, b, c, d, e⟩ := h
  refine ⟨(skW_nl hk hb).symm.trans a, ?_, hk, ?_, ?_⟩
  · show k0 ≤ y.1 + 1; omega
  · show l0 ≤ y.2 + 1; omega
  · show y.2 + 1 + k0 ≤ l0 + ((y.1 + 1 : Nat) : Int); omega
theorem SkI.sp {s : ByteArray} {k0 : Nat} {l0 : Int} {y : Nat × Int} (h : SkI s k0 l0 y) (hk : y.1 < s.size) (hb : byI s y.1 = 32) : SkI s k0 l0 (y.1 + 1, y.2) := by
  obtain ⟨a, b, c, d, e⟩ := h
  refine ⟨(skW_sp hk hb).symm.trans a, ?_, hk, d, ?_⟩
  · show k0 ≤ y.1 + 1; omega
  · show y.2 + k0 ≤ l0 + ((y.1 + 1 : Nat) : Int); omega
theorem SkI.co {s : ByteArray} {k0 : Nat} {l0 : Int} {y : Nat × Int} (h : SkI s k0 l0 y) (hk : y.1 < s.size) (hb : byI s y.1 = 47 ∧ byI s (y.1 + 1) = 47) {j : Nat} (hj : endF (fun i => ¬ byI s i = 10) (s.size - y.1) y.1 = j) : SkI s k0 l0 (j, y.2) := by
  obtain ⟨a, b, c, d, e⟩ := h
  have g := endF_gt (P := fun i => ¬ byI s i = 10) hk (by rw [hb.1]; decide)
  have g2 := endF_len (P := fun i => ¬ byI s i = 10) c
  rw [hj] at g g2
  refine ⟨?_, ?_, g2, d, ?_⟩
  · rw [← a, skW_co hk hb.1 hb.2, hj]
  · show k0 ≤ j; omega
  · show y.2 + k0 ≤ l0 + (j : Int); omega
theorem SkI.done {s : ByteArray} {k0 : Nat} {l0 : Int} {y : Nat × Int} (h : SkI s k0 l0 y) (hn : y.1 < s.size → ¬ byI s y.1 = 10 ∧ ¬ byI s y.1 = 32 ∧ ¬ (byI s y.1 = 47 ∧ byI s (y.1 + 1) = 47)) : skW s k0 l0 = y := by
  rw [← h.eq, skW_no hn]
def lxB (s : ByteArray) (k line : Int) (l : List Tok) : List AV := [.s s, .i .i64 k, .i .i64 line, owL 3 tokC l]
instance tokC_hold : HoldC tokC := holdC_plain fun _ => rfl
instance tokC_free : FreeC tokC := freeC_plain fun _ => rfl
instance tokC_shr : Shr 0 tokC tokC := shr_plain fun _ => rfl
set_option maxHeartbeats 2000000 in
theorem skip_ok (s : ByteArray) (k : Nat) (line : Int) (l : List Tok) (hs : s.size ≤ 30000) (hk : k ≤ s.size) (h0 : 0 ≤ line) (h1 : line ≤ 1000000) : RetM env.P 75 [some (boxRow (lxB s k line l))] [.ptr 0 0 0] (fun r H => r = .tup [] ∧ H = [some (boxRow (lxB s (skW s k line).1 (skW s k line).2 l))]) := by
  refine ret_ofM (nt := 89) (rvs := []) Try.func75 rfl rfl rfl rfl (fun X hX => ?_)
  repeat' (first | omega | (with_reducible show (_ : Int) < _; dsimp only; omega) | (with_reducible show (_ : Nat) ≤ _; dsimp only; omega) | ((with_reducible show SrcOk _ _ _) <;> (first | exact srcOk_1 rfl | exact srcOk_L (fun _ => ⟨rfl, rfl⟩) | exact srcOk_E (fun _ => ⟨rfl, rfl⟩))) | ((conv => whnf) <;> (first | (have _g := ‹byI s _ = 47 ∧ byI s _ = 47›; rename_i y _ _ _ _; refine loopFT (fun j : Nat => []) (fun j => [some (.box [.s s, .i .i64 j, .i .i64 y.2, owL 3 tokC l])]) (fun j => EndI (fun i => ¬ byI s i = 10) s.size y.1 j) (fun j => s.size - j) y.1 ⟨EndI.self (by omega), ?_⟩) | refine loopFT (fun y : Nat × Int => []) (fun y => [some (.box [.s s, .i .i64 y.1, .i .i64 y.2, owL 3 tokC l])]) (fun y => SkI s k line y) (fun y => s.size - y.1) (k, line) ⟨SkI.zero hk, ?_⟩ | refine And.intro ?_ ?_ | (intro _h; first | contradiction | (try simp only [dd] at _h)) | (refine dt_go ?_) | exact rfl | exact True.intro | exact dkk | exact dks | ((first | refine .inl ⟨_, pre47 s _ hs, ?_⟩ | refine ⟨_, pre47 s _ hs, ?_⟩); (try rintro _ rfl)) | (refine wrap_succ ?_; omega))))
  all_goals (conv => whnf)
  · rename_i y hy _
    have hk : y.1 < s.size := by omega
    have hh := hy.hi
    have hl := hy.lo
    simp (disch := omega) only [wrap_in]
    refine roundET_turn (turn_box (id := 0) (ds := [.s s, .i .i64 ((y.1 + 1 : Nat) : Int), .i .i64 (y.2 + 1), owL 3 tokC l]) rfl rfl rfl (.cons (.refl _) (.cons (.refl _) (.cons (.refl _) (.cons (.refl _) .nil))))) ?_
    refine roundET_end ?_
    refine ⟨(y.1 + 1, y.2 + 1), [], hy.nl hk ‹_›, (show s.size - (y.1 + 1) < s.size - y.1 by omega), ?_⟩
    repeat' (first | omega | (with_reducible show (_ : Int) < _; dsimp only; omega) | (with_reducible show (_ : Nat) ≤ _; dsimp only; omega) | ((with_reducible show SrcOk _ _ _) <;> (first | exact srcOk_1 rfl | exact srcOk_L (fun _ => ⟨rfl, rfl⟩) | exact srcOk_E (fun _ => ⟨rfl, rfl⟩))) | ((conv => whnf) <;> (first | refine And.intro ?_ ?_ | (intro _h; first | contradiction | (try simp only [dd] at _h)) | (refine dt_go ?_) | exact rfl | exact True.intro | exact dkk | exact dks | (refine wrap_succ ?_; omega))))
  · rename_i y hy _ _
    have hk : y.1 < s.size := by omega
    simp (disch := omega) only [wrap_in]
    refine roundET_turn (turn_box (id := 0) (ds := [.s s, .i .i64 ((y.1 + 1 : Nat) : Int), .i .i64 y.2, owL 3 tokC l]) rfl rfl rfl (.cons (.refl _) (.cons (.refl _) (.cons (.refl _) (.cons (.refl _) .nil))))) ?_
    refine roundET_end ?_
    refine ⟨(y.1 + 1, y.2), [], hy.sp hk ‹_›, (show s.size - (y.1 + 1) < s.size - y.1 by omega), ?_⟩
    repeat' (first | omega | (with_reducible show (_ : Int) < _; dsimp only; omega) | (with_reducible show (_ : Nat) ≤ _; dsimp only; omega) | ((with_reducible show SrcOk _ _ _) <;> (first | exact srcOk_1 rfl | exact srcOk_L (fun _ => ⟨rfl, rfl⟩) | exact srcOk_E (fun _ => ⟨rfl, rfl⟩))) | ((conv => whnf) <;> (first | refine And.intro ?_ ?_ | (intro _h; first | contradiction | (try simp only [dd] at _h)) | (refine dt_go ?_) | exact rfl | exact True.intro | exact dkk | exact dks | (refine wrap_succ ?_; omega))))
  · rename_i j hj _
    have hk : j < s.size := by omega
    simp (disch := omega) only [wrap_in]
    refine roundET_turn (turn_box (id := 0) (ds := [.s s, .i .i64 ((j + 1 : Nat) : Int), .i .i64 y.2, owL 3 tokC l]) rfl rfl rfl (.cons (.refl _) (.cons (.refl _) (.cons (.refl _) (.cons (.refl _) .nil))))) ?_
    refine roundET_end ?_
    refine ⟨j + 1, [], hj.next hk ‹_›, (show s.size - (j + 1) < s.size - j by omega), ?_⟩
    repeat' (first | omega | (with_reducible show (_ : Int) < _; dsimp only; omega) | (with_reducible show (_ : Nat) ≤ _; dsimp only; omega) | ((with_reducible show SrcOk _ _ _) <;> (first | exact srcOk_1 rfl | exact srcOk_L (fun _ => ⟨rfl, rfl⟩) | exact srcOk_E (fun _ => ⟨rfl, rfl⟩))) | ((conv => whnf) <;> (first | refine And.intro ?_ ?_ | (intro _h; first | contradiction | (try simp only [dd] at _h)) | (refine dt_go ?_) | exact rfl | exact True.intro | exact dkk | exact dks | (refine wrap_succ ?_; omega))))
  all_goals (try simp only [Int.toNat_natCast] at *)
  all_goals first
    | (have hy := ‹SkI s k line y›
       have hj := ‹EndI _ _ _ _›
       have hk : y.1 < s.size := by omega
       have hd := hj.done (fun q => by first | (exact absurd q (by omega)) | exact fun r => r ‹_›)
       have hg := endF_gt (P := fun i => ¬ byI s i = 10) hk (by rw [_g.1]; decide)
       rw [hd] at hg
       refine roundET_end ?_
       refine ⟨(_, y.2), [], hy.co hk _g hd, (show s.size - _ < s.size - y.1 by omega), ?_⟩
       repeat' (first | omega | (with_reducible show (_ : Int) < _; dsimp only; omega) | (with_reducible show (_ : Nat) ≤ _; dsimp only; omega) | ((with_reducible show SrcOk _ _ _) <;> (first | exact srcOk_1 rfl | exact srcOk_L (fun _ => ⟨rfl, rfl⟩) | exact srcOk_E (fun _ => ⟨rfl, rfl⟩))) | ((conv => whnf) <;> (first | refine And.intro ?_ ?_ | (intro _h; first | contradiction | (try simp only [dd] at _h)) | (refine dt_go ?_) | exact rfl | exact True.intro | exact dkk | exact dks | (refine wrap_succ ?_; omega)))))
    | (rename_i y hy _ _ _
       have hd := hy.done (fun q => ⟨by assumption, by assumption, by assumption⟩)
       exact endM_self ⟨rfl, by rw [hd]; rfl⟩)
    | (rename_i y hy
       have hd := hy.done (fun q => absurd q (by omega))
       exact endM_self ⟨rfl, by rw [hd]; rfl⟩)
    | trace_state
end
section
variable {E : Env} {P : Program} {nt : Nat} {X : Ctx} {f : Fr} {H H' : Hp} {a : Act} {w : World} {blk : Nat → BC} {FP : Nat → List Nat}
theorem StB.thin (hk : ∀ k : Nat, H'[k]? = H[k]? ∨ H'[k]? = some none) (s : StB nt X f H blk FP a w) : StB nt X f H' blk FP a w := by
  have hget : ∀ (k : Nat) (r : Row), H'[k]? = some (some r) → H[k]? = some (some r) := fun k r h => by
    rcases hk k with q | q
    · rw [← q]; exact h
    · rw [q] at h; cases h
  have hkeep : ∀ b, X.S FP H w.heap.size b → X.S FP H' w.heap.size b ∧ w.heap[b]? = w.heap[b]? := fun b hb => ⟨⟨hb.1, hb.2.1, fun k r h => hb.2.2 k r (hget k r h)⟩, rfl⟩
  have hext : HExt H blk H' blk := fun k x hx => by
    rcases hk k with q | q
    · cases x with
      | none => exact .inl (q.trans hx)
      | some r => exact .inr ⟨r, r, rfl, q.trans hx, rfl, rfl, rfl⟩
    · exact .inl q
  exact ⟨s.defers, s.size, s.keeps, fun k r h => ⟨(s.rows k r (hget k r h)).1.mono hkeep hext fun _ _ => rfl, (s.rows k r (hget k r h)).2⟩, fun i j r r' hi hj => s.apart i j r r' (hget i r hi) (hget j r' hj), fun t => (s.fr t).mono hkeep hext, s.ext.trans hext⟩
def frP (f : Fr) : Fr → Prop
  | [] => True
  | (t, v) :: g => lk f t = v ∧ frP f g
theorem frP_lk : ∀ {g : Fr}, frP f g → ∀ t, lk g t = .any ∨ lk g t = lk f t
  | [], _, t => .inl rfl
  | (d, v) :: g, h, t => by
    rw [lk_cons]
    split
    · rename_i e; subst e; exact .inr h.1.symm
    · exact frP_lk h.2 t
def hpK : Hp → Hp → Prop
  | [], [] => True
  | x :: H, y :: H' => (y = x ∨ y = none) ∧ hpK H H'
  | [], y :: H' => y = none ∧ hpK [] H'
  | _ :: _, [] => False
theorem hpK_at : ∀ {H H' : Hp}, hpK H H' → ∀ k : Nat, H'[k]? = H[k]? ∨ H'[k]? = some none
  | [], [], _, k => .inl rfl
  | x :: H, y :: H', h, 0 => by
    rcases h.1 with rfl | rfl
    · exact .inl rfl
    · exact .inr rfl
  | x :: H, y :: H', h, k + 1 => by simpa using hpK_at h.2 k
  | [], y :: H', h, 0 => by obtain ⟨rfl, _⟩ := h; exact .inr rfl
  | [], y :: H', h, k + 1 => by simpa using hpK_at h.2 k
  | _ :: _, [], h, _ => h.elim
structure Cut (nt : Nat) (X : Ctx) {α : Type} (I : α → Prop) (g : α → Fr) (hp : α → Hp) (f : Fr) (H : Hp) : Prop where
  h : ∃ y, I y ∧ ∀ a w, St nt X f H a w → St nt X (g y) (hp y) a w
theorem cut_go {α : Type} {I : α → Prop} {g : α → Fr} {hp : α → Hp} (y : α) (hI : I y) (hg : frP f (g y)) (hH : hpK H (hp y)) : Cut nt X I g hp f H :=
  ⟨y, hI, fun a w ⟨blk, FP, s⟩ => ⟨blk, FP, (s.refr (g := g y) fun t hc => by
    rcases frP_lk hg t with q | q
    · rw [q]; exact .any _
    · rw [q]; exact hc).thin (hpK_at hH)⟩⟩
theorem cut_turn {α : Type} {I : α → Prop} {g : α → Fr} {hp : α → Hp} (t : Turn X H H') (h : Cut nt X I g hp f H') : Cut nt X I g hp f H := by
  obtain ⟨y, hI, hs⟩ := h
  exact ⟨y, hI, fun a w s => hs a w (s.turn t)⟩
def wpcN (E : Env) (nt : Nat) (X : Ctx) : Nat → Code → Fr → Hp → (Fr → Hp → Prop) → (Exit → Fr → Hp → Prop) → Prop
  | 0, _, f, H, J, _ => J f H
  | k + 1, .seq a b, f, H, J, Q => wpc E nt X a f H (thn (fun f H => wpcN E nt X k b f H J Q) Q)
  | _ + 1, _, _, _, _, _ => False
def restC : Nat → Code → Code
  | 0, c => c
  | k + 1, .seq _ b => restC k b
  | _ + 1, c => c
theorem wpcN_ok {J : Fr → Hp → Prop} {Q : Exit → Fr → Hp → Prop} : ∀ (k : Nat) (c : Code) (f : Fr) (H : Hp), wpcN E nt X k c f H J Q → (∀ f H, J f H → PW E.P nt X (restC k c) f H Q) → PW E.P nt X c f H Q
  | 0, c, f, H, h, hJ => hJ f H h
  | k + 1, c, f, H, h, hJ => by
    cases c with
    | seq a b =>
      refine pw_seq fun x w s => wp_mono (wpc_ok a f H _ h x w s) fun e x w ⟨f, H, q, s⟩ => ?_
      refine ⟨f, H, ?_, s⟩
      cases e with
      | normal => exact wpcN_ok k b f H q hJ
      | _ => exact q
    | _ => exact h.elim
theorem pw_cut {c : Code} {Q : Exit → Fr → Hp → Prop} {α : Type} (k : Nat) (I : α → Prop) (gf : α → Fr) (hp : α → Hp)
    (h : wpcN E nt X k c f H (Cut nt X I gf hp) Q) (h2 : ∀ y, I y → PW E.P nt X (restC k c) (gf y) (hp y) Q) : PW E.P nt X c f H Q :=
  wpcN_ok k c _ _ h fun f H ⟨⟨y, hI, hs⟩⟩ a w s => h2 y hI a w (hs a w s)
theorem ret_ofPM {g : FuncId} {fn : Func} {c : Code} {H0 : Hp} {al : List AV} {post : AV → Hp → Prop} {rvs : List ResultVar} (hf : E.P.funcs[g]? = some fn) (hb : fn.body = some c) (hnt : fn.ntmps = nt) (hrv : fn.results.toList = rvs) (hle : Nat.ble al.length nt = true)
    (h : ∀ X : Ctx, X.H0 = H0 → PW E.P nt X c (frm 0 al) H0 (FinM E X rvs post)) : RetM E.P g H0 al post :=
  ret_ofPT hf hb hnt hrv hle (fun _ => Turn.refl) h
end
end Go.Proofs.Ytllcemegnggpfaa
