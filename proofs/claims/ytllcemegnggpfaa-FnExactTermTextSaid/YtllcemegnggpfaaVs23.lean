/- Texts for VTermOkP. -/
import Derived.Test.YtllcemegnggpfaaVs22
namespace Go.Proofs.Ytllcemegnggpfaa
open Go Go.RowKit
set_option linter.unusedVariables false
set_option linter.unusedSimpArgs false
set_option maxRecDepth 8000
section
attribute [local irreducible] IntKind.wrap
theorem l05Letter_ok (c : Int) : Ret env.P 87 [.i .u8 c] (fun r => r = .b (decide (97 ≤ c ∧ c ≤ 122))) := by
  refine ret_of (nt := 9) (rvs := [.tmp 2]) Try.func87 rfl rfl rfl rfl (fun X => ?_)
  repeat' (first | omega | (with_reducible show (_ : Int) < _; dsimp only; omega) | (with_reducible show (_ : Nat) ≤ _; dsimp only; omega) | ((with_reducible show SrcOk _ _ _) <;> (first | exact srcOk_1 rfl | exact srcOk_L (fun _ => ⟨rfl, rfl⟩) | exact srcOk_E (fun _ => ⟨rfl, rfl⟩))) | ((conv => whnf) <;> (first | refine And.intro ?_ ?_ | (intro _h; first | contradiction | (try simp only [dd] at _h)) | (refine dt_go ?_) | exact rfl | exact True.intro | exact dkk | exact dks | (refine wrap_succ ?_; omega))))
  all_goals (conv => whnf)
  all_goals first
    | exact leaf_b (by rw [decide_eq_decide]; omega)
    | exact leaf_b (by symm; rw [decide_eq_false_iff_not]; omega)
theorem l05Digit_ok (c : Int) : Ret env.P 89 [.i .u8 c] (fun r => r = .b (decide (48 ≤ c ∧ c ≤ 57))) := by
  refine ret_of (nt := 9) (rvs := [.tmp 2]) Try.func89 rfl rfl rfl rfl (fun X => ?_)
  repeat' (first | omega | (with_reducible show (_ : Int) < _; dsimp only; omega) | (with_reducible show (_ : Nat) ≤ _; dsimp only; omega) | ((with_reducible show SrcOk _ _ _) <;> (first | exact srcOk_1 rfl | exact srcOk_L (fun _ => ⟨rfl, rfl⟩) | exact srcOk_E (fun _ => ⟨rfl, rfl⟩))) | ((conv => whnf) <;> (first | refine And.intro ?_ ?_ | (intro _h; first | contradiction | (try simp only [dd] at _h)) | (refine dt_go ?_) | exact rfl | exact True.intro | exact dkk | exact dks | (refine wrap_succ ?_; omega))))
  all_goals (conv => whnf)
  all_goals first
    | exact leaf_b (by rw [decide_eq_decide]; omega)
    | exact leaf_b (by symm; rw [decide_eq_false_iff_not]; omega)
def sgB : ByteArray := ⟨#[123, 125, 40, 41, 60, 62, 44, 59, 58, 61, 46, 47, 64, 95]⟩
structure SgTo (c : Int) (k : Nat) : Prop where
  h : ∀ j, j < k → ¬ byI sgB j = c
theorem SgTo.zero (c : Int) : SgTo c 0 := ⟨fun j hj => absurd hj (Nat.not_lt_zero _)⟩
theorem SgTo.next {c : Int} {k : Nat} (h : SgTo c k) (hk : ¬ byI sgB k = c) : SgTo c (k + 1) := ⟨fun j hj => by
  by_cases e : j = k
  · subst e; exact hk
  · exact h.h j (by omega)⟩
theorem sg_in {k : Nat} (h : k < 14) : byI sgB k ∈ sgL := by
  rcases (show k = 0 ∨ k = 1 ∨ k = 2 ∨ k = 3 ∨ k = 4 ∨ k = 5 ∨ k = 6 ∨ k = 7 ∨ k = 8 ∨ k = 9 ∨ k = 10 ∨ k = 11 ∨ k = 12 ∨ k = 13 by omega) with rfl | rfl | rfl | rfl | rfl | rfl | rfl | rfl | rfl | rfl | rfl | rfl | rfl | rfl <;> decide
theorem sg_at {c : Int} (h : c ∈ sgL) : ∃ k, k < 14 ∧ byI sgB k = c := by
  have : ∀ z ∈ sgL, ∃ k, k < 14 ∧ byI sgB k = z := by decide
  exact this c h
theorem SgTo.all {c : Int} {k : Nat} (h : SgTo c k) (hk : 14 ≤ k) : ¬ c ∈ sgL := fun q => by
  obtain ⟨j, hj, e⟩ := sg_at q
  exact h.h j (by omega) e
theorem l05Sign_ok (c : Int) : Ret env.P 91 [.i .u8 c] (fun r => r = .b (pb (c ∈ sgL))) := by
  have h14 : ({ data := #[123, 125, 40, 41, 60, 62, 44, 59, 58, 61, 46, 47, 64, 95] } : ByteArray).size = 14 := rfl
  refine ret_of (nt := 16) (rvs := [.tmp 2]) Try.func91 rfl rfl rfl rfl (fun X => ?_)
  repeat' (first | omega | (with_reducible show (_ : Int) < _; dsimp only; omega) | (with_reducible show (_ : Nat) ≤ _; dsimp only; omega) | ((with_reducible show SrcOk _ _ _) <;> (first | exact srcOk_1 rfl | exact srcOk_L (fun _ => ⟨rfl, rfl⟩) | exact srcOk_E (fun _ => ⟨rfl, rfl⟩))) | ((conv => whnf) <;> (first | refine loopN 14 (fun i => [(4, .i .i64 i)]) (fun i => []) (fun i => SgTo c i) ⟨.zero c, ?_⟩ | refine And.intro ?_ ?_ | (intro _h; first | contradiction | (try simp only [dd] at _h)) | (refine dt_go ?_) | exact rfl | exact True.intro | exact dkk | exact dks | (refine wrap_succ ?_; omega))))
  all_goals (try simp only [Int.toNat_natCast] at *)
  all_goals first | omega | (conv => whnf) | skip
  all_goals first
    | (exfalso; omega)
    | exact SgTo.next ‹_› ‹_›
    | (rw [← ‹_ = c›]; exact leaf_t (sg_in (by omega)))
    | exact leaf_f (SgTo.all ‹_› (by omega))
    | trace_state
theorem byI_z {s : ByteArray} {j : Nat} : s.size ≤ j → byI s j = 0 := byI_out
theorem EndI.z {s : ByteArray} {P : Nat → Prop} {k j : Nat} (h : EndI P s.size k j) : s.size ≤ j + 1 → byI s (j + 1) = 0 := byI_out
theorem wd_no {s : ByteArray} {j : Nat} (h : ¬ ((97 ≤ byI s j ∧ byI s j ≤ 122) ∨ (48 ≤ byI s j ∧ byI s j ≤ 57) ∨ (byI s j = 45 ∧ ((97 ≤ byI s (j + 1) ∧ byI s (j + 1) ≤ 122) ∨ (48 ≤ byI s (j + 1) ∧ byI s (j + 1) ≤ 57))))) : ¬ wdP s j := h
theorem nb_no {s : ByteArray} {j : Nat} (h : ¬ ((48 ≤ byI s j ∧ byI s j ≤ 57) ∨ (byI s j = 46 ∧ (48 ≤ byI s (j + 1) ∧ byI s (j + 1) ≤ 57)))) : ¬ nbP s j := h
set_option maxHeartbeats 1000000 in
theorem l05Word_ok (s : ByteArray) (k : Nat) (hs : s.size ≤ 30000) (hk : k < s.size) : Ret env.P 88 [.s s, .i .i64 k] (fun r => r = .i .i64 (endF (wdP s) (s.size - k) k : Nat)) := by
  refine ret_of (nt := 53) (rvs := [.tmp 4]) Try.func88 rfl rfl rfl rfl (fun X => ?_)
  repeat' (first | omega | (with_reducible show (_ : Int) < _; dsimp only; omega) | (with_reducible show (_ : Nat) ≤ _; dsimp only; omega) | ((with_reducible show SrcOk _ _ _) <;> (first | exact srcOk_1 rfl | exact srcOk_L (fun _ => ⟨rfl, rfl⟩) | exact srcOk_E (fun _ => ⟨rfl, rfl⟩))) | ((conv => whnf) <;> (first | refine loopN s.size (fun i : Nat => [(1, .i .i64 ((k + i : Nat) : Int))]) (fun _ => []) (fun i => EndI (wdP s) s.size k (k + i)) ⟨EndI.self (Nat.le_of_lt hk), ?_⟩ | refine And.intro ?_ ?_ | (intro _h; first | contradiction | (try simp only [dd] at _h)) | (refine dt_go ?_) | exact rfl | exact True.intro | exact dkk | exact dks | ((first | refine .inl ⟨_, l05Letter_ok _, ?_⟩ | refine ⟨_, l05Letter_ok _, ?_⟩); (try rintro _ rfl)) | ((first | refine .inl ⟨_, l05Digit_ok _, ?_⟩ | refine ⟨_, l05Digit_ok _, ?_⟩); (try rintro _ rfl)) | (refine wrap_succ ?_; omega))))
  all_goals (try simp only [Int.toNat_natCast] at *)
  all_goals first | omega | (simp (disch := omega) only [wrap_in]; omega) | (conv => whnf) | skip
  all_goals first
    | (exfalso; omega)
    | (rename_i i hI _; have := hI.le; omega)
    | (have hI := ‹EndI _ _ _ _›
       have hle := hI.le
       have hz := EndI.z hI
       (try simp (disch := omega) only [tn1] at *)
       (try simp (disch := omega) only [wrap_in] at *)
       (try simp only [byI] at *)
       first
         | exact congrArg (AV.i .i64) (congrArg _ (hI.done (fun _ => wd_no (by (try simp only [byI] at *); omega))).symm)
         | exact hI.next (by omega) (wd_in (by (try simp only [byI] at *); omega)))
    | trace_state
set_option maxHeartbeats 1000000 in
theorem l05Number_ok (s : ByteArray) (k : Nat) (hs : s.size ≤ 30000) (hk : k < s.size) : Ret env.P 90 [.s s, .i .i64 k] (fun r => r = .i .i64 (endF (nbP s) (s.size - k) k : Nat)) := by
  refine ret_of (nt := 39) (rvs := [.tmp 4]) Try.func90 rfl rfl rfl rfl (fun X => ?_)
  repeat' (first | omega | (with_reducible show (_ : Int) < _; dsimp only; omega) | (with_reducible show (_ : Nat) ≤ _; dsimp only; omega) | ((with_reducible show SrcOk _ _ _) <;> (first | exact srcOk_1 rfl | exact srcOk_L (fun _ => ⟨rfl, rfl⟩) | exact srcOk_E (fun _ => ⟨rfl, rfl⟩))) | ((conv => whnf) <;> (first | refine loopN s.size (fun i : Nat => [(1, .i .i64 ((k + i : Nat) : Int))]) (fun _ => []) (fun i => EndI (nbP s) s.size k (k + i)) ⟨EndI.self (Nat.le_of_lt hk), ?_⟩ | refine And.intro ?_ ?_ | (intro _h; first | contradiction | (try simp only [dd] at _h)) | (refine dt_go ?_) | exact rfl | exact True.intro | exact dkk | exact dks | ((first | refine .inl ⟨_, l05Digit_ok _, ?_⟩ | refine ⟨_, l05Digit_ok _, ?_⟩); (try rintro _ rfl)) | (refine wrap_succ ?_; omega))))
  all_goals (try simp only [Int.toNat_natCast] at *)
  all_goals first | omega | (simp (disch := omega) only [wrap_in]; omega) | (conv => whnf) | skip
  all_goals first
    | (exfalso; omega)
    | (rename_i i hI _; have := hI.le; omega)
    | (have hI := ‹EndI _ _ _ _›
       have hle := hI.le
       have hz := EndI.z hI
       (try simp (disch := omega) only [tn1] at *)
       (try simp (disch := omega) only [wrap_in] at *)
       (try simp only [byI] at *)
       first
         | exact congrArg (AV.i .i64) (congrArg _ (hI.done (fun _ => nb_no (by (try simp only [byI] at *); omega))).symm)
         | exact hI.next (by omega) (nb_in (by (try simp only [byI] at *); omega)))
    | trace_state
end
section
attribute [local irreducible] IntKind.wrap
theorem SkI.g {s : ByteArray} {k : Nat} {l : Int} {y : Nat × Int} (h : SkI s k l y) (hs : s.size ≤ 30000) (a : byI s (y.1 : Int).toNat = 47) (b : byI s (IntKind.i64.wrap ((y.1 : Int) + 1)).toNat = 47) : byI s y.1 = 47 ∧ byI s (y.1 + 1) = 47 := by
  have := h.le
  rw [Int.toNat_natCast] at a
  rw [tn1 (by omega)] at b
  exact ⟨a, b⟩
theorem SkI.n {s : ByteArray} {k : Nat} {l : Int} {y : Nat × Int} (h : SkI s k l y) (hs : s.size ≤ 30000) (b : ¬ byI s (IntKind.i64.wrap ((y.1 : Int) + 1)).toNat = 47) : ¬ (byI s y.1 = 47 ∧ byI s (y.1 + 1) = 47) := by
  have := h.le
  rw [tn1 (by omega)] at b
  exact fun q => b q.2
theorem SkI.o {s : ByteArray} {k : Nat} {l : Int} {y : Nat × Int} (h : SkI s k l y) (hs : s.size ≤ 30000) (b : ¬ IntKind.i64.wrap ((y.1 : Int) + 1) < s.size) : ¬ (byI s y.1 = 47 ∧ byI s (y.1 + 1) = 47) := by
  have := h.le
  rw [wrap_in (by omega) (by omega)] at b
  exact fun q => by
    have := byI_out (s := s) (k := y.1 + 1) (by omega)
    omega
set_option maxHeartbeats 2000000 in
theorem l05Skip_ok (s : ByteArray) (k : Nat) (line : Int) (hs : s.size ≤ 30000) (hk : k ≤ s.size) (h0 : 0 ≤ line) (h1 : line ≤ 1000000) : Ret env.P 65 [.s s, .i .i64 k, .i .i64 line] (fun r => r = .tup [.i .i64 ((skW s k line).1 : Nat), .i .i64 (skW s k line).2]) := by
  refine ret_of (nt := 63) (rvs := [.tmp 6, .tmp 7]) Try.func65 rfl rfl rfl rfl (fun X => ?_)
  repeat' (first | omega | (with_reducible show (_ : Int) < _; dsimp only; omega) | (with_reducible show (_ : Nat) ≤ _; dsimp only; omega) | ((with_reducible show SrcOk _ _ _) <;> (first | exact srcOk_1 rfl | exact srcOk_L (fun _ => ⟨rfl, rfl⟩) | exact srcOk_E (fun _ => ⟨rfl, rfl⟩))) | ((conv => whnf) <;> (first | (rename_i y hy _ _ _ _ _; have _g := hy.g hs ‹_› ‹_›; refine loopFT (fun j : Nat => [(1, .i .i64 j)]) (fun j => []) (fun j => EndI (fun i => ¬ byI s i = 10) s.size y.1 j) (fun j => s.size - j) y.1 ⟨EndI.self hy.le, ?_⟩) | refine loopFT (fun y : Nat × Int => [(1, .i .i64 y.1), (2, .i .i64 y.2)]) (fun y => []) (fun y => SkI s k line y) (fun y => s.size - y.1) (k, line) ⟨SkI.zero hk, ?_⟩ | refine And.intro ?_ ?_ | (intro _h; first | contradiction | (try simp only [dd] at _h)) | (refine dt_go ?_) | exact rfl | exact True.intro | exact dkk | exact dks | (refine wrap_succ ?_; omega))))
  all_goals first
    | (have hy := ‹SkI s k line _›; have := hy.le; simp (disch := omega) only [wrap_in]; omega)
    | (conv => whnf)
  all_goals (try simp only [Int.toNat_natCast] at *)
  · rename_i y hy _
    have hk : y.1 < s.size := by omega
    have hh := hy.hi
    have hl := hy.lo
    simp (disch := omega) only [wrap_in]
    refine roundET_end ?_
    refine ⟨(y.1 + 1, y.2 + 1), [], hy.nl hk ‹_›, (show s.size - (y.1 + 1) < s.size - y.1 by omega), ?_⟩
    repeat' (first | omega | (with_reducible show (_ : Int) < _; dsimp only; omega) | (with_reducible show (_ : Nat) ≤ _; dsimp only; omega) | ((with_reducible show SrcOk _ _ _) <;> (first | exact srcOk_1 rfl | exact srcOk_L (fun _ => ⟨rfl, rfl⟩) | exact srcOk_E (fun _ => ⟨rfl, rfl⟩))) | ((conv => whnf) <;> (first | refine And.intro ?_ ?_ | (intro _h; first | contradiction | (try simp only [dd] at _h)) | (refine dt_go ?_) | exact rfl | exact True.intro | exact dkk | exact dks | (refine wrap_succ ?_; omega))))
  · rename_i y hy _ _
    have hk : y.1 < s.size := by omega
    simp (disch := omega) only [wrap_in]
    refine roundET_end ?_
    refine ⟨(y.1 + 1, y.2), [], hy.sp hk ‹_›, (show s.size - (y.1 + 1) < s.size - y.1 by omega), ?_⟩
    repeat' (first | omega | (with_reducible show (_ : Int) < _; dsimp only; omega) | (with_reducible show (_ : Nat) ≤ _; dsimp only; omega) | ((with_reducible show SrcOk _ _ _) <;> (first | exact srcOk_1 rfl | exact srcOk_L (fun _ => ⟨rfl, rfl⟩) | exact srcOk_E (fun _ => ⟨rfl, rfl⟩))) | ((conv => whnf) <;> (first | refine And.intro ?_ ?_ | (intro _h; first | contradiction | (try simp only [dd] at _h)) | (refine dt_go ?_) | exact rfl | exact True.intro | exact dkk | exact dks | (refine wrap_succ ?_; omega))))
  · rename_i j hj _
    have hk : j < s.size := by omega
    simp (disch := omega) only [wrap_in]
    refine roundET_end ?_
    refine ⟨j + 1, [], hj.next hk ‹_›, (show s.size - (j + 1) < s.size - j by omega), ?_⟩
    repeat' (first | omega | (with_reducible show (_ : Int) < _; dsimp only; omega) | (with_reducible show (_ : Nat) ≤ _; dsimp only; omega) | ((with_reducible show SrcOk _ _ _) <;> (first | exact srcOk_1 rfl | exact srcOk_L (fun _ => ⟨rfl, rfl⟩) | exact srcOk_E (fun _ => ⟨rfl, rfl⟩))) | ((conv => whnf) <;> (first | refine And.intro ?_ ?_ | (intro _h; first | contradiction | (try simp only [dd] at _h)) | (refine dt_go ?_) | exact rfl | exact True.intro | exact dkk | exact dks | (refine wrap_succ ?_; omega))))
  all_goals first
    | (have hj := ‹EndI _ _ _ _›
       have hk : y.1 < s.size := by omega
       have hd := hj.done (fun q => by first | (exact absurd q (by omega)) | exact fun r => r ‹_›)
       have hg := endF_gt (P := fun i => ¬ byI s i = 10) hk (by rw [_g.1]; decide)
       rw [hd] at hg
       refine roundET_end ?_
       refine ⟨(_, y.2), [], hy.co hk _g hd, (show s.size - _ < s.size - y.1 by omega), ?_⟩
       repeat' (first | omega | (with_reducible show (_ : Int) < _; dsimp only; omega) | (with_reducible show (_ : Nat) ≤ _; dsimp only; omega) | ((with_reducible show SrcOk _ _ _) <;> (first | exact srcOk_1 rfl | exact srcOk_L (fun _ => ⟨rfl, rfl⟩) | exact srcOk_E (fun _ => ⟨rfl, rfl⟩))) | ((conv => whnf) <;> (first | refine And.intro ?_ ?_ | (intro _h; first | contradiction | (try simp only [dd] at _h)) | (refine dt_go ?_) | exact rfl | exact True.intro | exact dkk | exact dks | (refine wrap_succ ?_; omega)))))
    | (have hy := ‹SkI s k line _›
       have hd := hy.done (fun q => by first | exact absurd q (by omega) | exact ⟨by assumption, by assumption, by first | exact hy.n hs ‹_› | exact hy.o hs ‹_› | exact fun r => absurd r.1 ‹_›⟩)
       rw [hd]
       rfl)
    | trace_state
theorem ext2 {s : ByteArray} {k : Nat} (h : byI s k = 45 ∧ byI s (k + 1) = 62) : s.extract k (k + 2) = ⟨#[45, 62]⟩ := by
  have h2 := ((pre2 (s := s) (k := k) (x := 45) (y := 62) (by decide)).2 h)
  have e2 : (⟨#[45, 62]⟩ : ByteArray).size = 2 := rfl
  rw [e2] at h2
  obtain ⟨h1, h2⟩ := h2
  rw [ByteArray.size_extract] at h1
  have e : (s.extract k s.size).extract 0 2 = s.extract k (k + 2) := by
    apply ByteArray.ext
    rw [ByteArray.data_extract, ByteArray.data_extract, ByteArray.data_extract, Array.extract_extract]
    congr 1
    omega
  rw [← e]
  exact h2
open Classical in
noncomputable def lxT (s : ByteArray) (k : Nat) : ByteArray := if (nxt s k).1 = 0 then ByteArray.empty else s.extract k (nxt s k).2
theorem lxT_at {s : ByteArray} {k : Nat} (h : ¬ (nxt s k).1 = 0) : lxT s k = s.extract k (nxt s k).2 := if_neg h
theorem lxT_no {s : ByteArray} {k : Nat} (h : (nxt s k).1 = 0) : lxT s k = ByteArray.empty := if_pos h
noncomputable def lxV (s : ByteArray) (k : Nat) : AV := .tup [.agg [.i .i64 (nxt s k).1, .s (lxT s k), .i .i64 0], .i .i64 ((nxt s k).2 : Nat)]
theorem lxV_at {s : ByteArray} {k e : Nat} {c : Int} (h : nxt s k = (c, e)) (hc : ¬ c = 0) : lxV s k = .tup [.agg [.i .i64 c, .s (s.extract k e), .i .i64 0], .i .i64 (e : Nat)] := by
  unfold lxV
  rw [lxT_at (by rw [h]; exact hc), h]
theorem lxV_no {s : ByteArray} {k : Nat} (h : nxt s k = (0, 0)) : lxV s k = .tup [.agg [.i .i64 0, .s ByteArray.empty, .i .i64 0], .i .i64 0] := by
  unfold lxV
  rw [lxT_no (by rw [h]), h]
  rfl
theorem lxV_a {s : ByteArray} {k : Nat} (h : byI s k = 45 ∧ byI s (k + 1) = 62) : lxV s k = .tup [.agg [.i .i64 3, .s ⟨#[45, 62]⟩, .i .i64 0], .i .i64 ((k : Int) + 2)] := by
  rw [lxV_at (nxt_a h) (by decide), ext2 h]
  rfl
theorem l05Lex_ok (s : ByteArray) (k : Nat) (hs : s.size ≤ 30000) (hk : k < s.size) : Ret env.P 66 [.s s, .i .i64 k] (fun r => r = lxV s k) := by
  have g2 := endF_len (P := wdP s) (Nat.le_of_lt hk)
  have g4 := endF_len (P := nbP s) (Nat.le_of_lt hk)
  have g5 := endF_ge (wdP s) (s.size - k) k
  have g6 := endF_ge (nbP s) (s.size - k) k
  have hz := byI_z (s := s) (j := k + 1)
  refine ret_of (nt := 68) (rvs := [.cell 4 63, .tmp 5]) Try.func66 rfl rfl rfl rfl (fun X => ?_)
  repeat' (first | omega | (with_reducible show (_ : Int) < _; dsimp only; omega) | (with_reducible show (_ : Nat) ≤ _; dsimp only; omega) | ((with_reducible show SrcOk _ _ _) <;> (first | exact srcOk_1 rfl | exact srcOk_L (fun _ => ⟨rfl, rfl⟩) | exact srcOk_E (fun _ => ⟨rfl, rfl⟩))) | ((conv => whnf) <;> (first | refine And.intro ?_ ?_ | (intro _h; first | contradiction | (try simp only [dd] at _h)) | (refine dt_go ?_) | exact rfl | exact True.intro | exact dkk | exact dks | ((first | refine .inl ⟨_, l05Letter_ok _, ?_⟩ | refine ⟨_, l05Letter_ok _, ?_⟩); (try rintro _ rfl)) | ((first | refine .inl ⟨_, l05Digit_ok _, ?_⟩ | refine ⟨_, l05Digit_ok _, ?_⟩); (try rintro _ rfl)) | ((first | refine .inl ⟨_, l05Word_ok s k hs hk, ?_⟩ | refine ⟨_, l05Word_ok s k hs hk, ?_⟩); (try rintro _ rfl)) | ((first | refine .inl ⟨_, l05Number_ok s k hs hk, ?_⟩ | refine ⟨_, l05Number_ok s k hs hk, ?_⟩); (try rintro _ rfl)) | ((first | refine .inl ⟨_, l05Sign_ok _, ?_⟩ | refine ⟨_, l05Sign_ok _, ?_⟩); (try rintro _ rfl)) | (refine wrap_succ ?_; omega))))
  all_goals first | omega | (simp (disch := omega) only [wrap_in]; omega) | (conv => whnf) | skip
  all_goals (try simp only [Int.toNat_natCast] at *)
  all_goals (try simp (disch := omega) only [tn1] at *)
  all_goals (try simp (disch := omega) only [wrap_in] at *)
  all_goals first
    | (rw [lxV_at (nxt_w (by assumption)) (by decide)]; rfl)
    | (rw [lxV_at (nxt_n (by assumption)) (by decide)]; rfl)
    | (rw [lxV_a ⟨by assumption, by assumption⟩]; rfl)
    | (rw [lxV_at (nxt_s (by assumption) (by assumption) (by (try simp only [byI] at *); omega) (by assumption)) (by decide)]; rfl)
    | (rw [lxV_no (nxt_0 (by assumption) (by assumption) (by (try simp only [byI] at *); omega) (by assumption))]; rfl)
    | trace_state
end
section
attribute [local irreducible] IntKind.wrap
theorem tarr_zero {r : List Nat} {n sz cap cap' : Nat} {e e' : Nat → Nat → AV} {k : RK} (hc : cap = 0) (hc' : cap' = 0) : ArrP r n ⟨sz, cap, e, k⟩ ⟨sz, cap', e', k⟩ := by
  subst hc hc'
  exact ⟨rfl, rfl, rfl, fun i j hi => absurd hi (Nat.not_lt_zero _), fun i j hi => absurd hi (Nat.not_lt_zero _)⟩
theorem nxt_z {s : ByteArray} {k : Nat} (hk : k < s.size) : (nxt s k).1 = 0 ↔ (nxt s k).2 = 0 := by
  constructor
  · intro h
    unfold nxt at h ⊢
    by_cases h1 : isLt (byI s k)
    · rw [if_pos h1] at h; exact absurd h (by show ¬ (1 : Int) = 0; decide)
    rw [if_neg h1] at h ⊢
    by_cases h2 : isDg (byI s k)
    · rw [if_pos h2] at h; exact absurd h (by show ¬ (2 : Int) = 0; decide)
    rw [if_neg h2] at h ⊢
    by_cases h3 : byI s k = 45 ∧ byI s (k + 1) = 62
    · rw [if_pos h3] at h; exact absurd h (by show ¬ (3 : Int) = 0; decide)
    rw [if_neg h3] at h ⊢
    by_cases h4 : byI s k ∈ sgL
    · rw [if_pos h4] at h; exact absurd h (by show ¬ (3 : Int) = 0; decide)
    · rw [if_neg h4]
  · intro h
    apply Classical.byContradiction
    intro hn
    have := nxt_rng hk hn
    omega
theorem lex_or (s : ByteArray) (k : Nat) (hs : s.size ≤ 30000) (hk : (k : Int) < s.size) : Ret env.P 66 [.s s, .i .i64 k] (fun r => r = .tup [.agg [.i .i64 (nxt s k).1, .s (lxT s k), .i .i64 0], .i .i64 ((nxt s k).2 : Nat)] ∧ ((nxt s k).1 = 0 ↔ (nxt s k).2 = 0) ∧ ((nxt s k).2 = 0 ∨ (k < (nxt s k).2 ∧ (nxt s k).2 ≤ s.size))) := (l05Lex_ok s k hs (by omega)).mono fun r e => ⟨e, nxt_z (by omega), by
  have h1 := nxt_or (s := s) (k := k) (by omega)
  have h2 := nxt_z (s := s) (k := k) (by omega)
  rcases h1 with h1 | h1
  · exact .inl (h2.1 h1)
  · exact .inr h1⟩
set_option maxHeartbeats 4000000 in
theorem l05Tokens_ok (s : ByteArray) : Ret env.P 39 [.s s] (fun r => r = lxR (lexF s)) := by
  by_cases hs : s.size ≤ 30000
  · refine Ret.ofFrz ?_
    obtain ⟨a0, b0, c0, d0⟩ := skW_ge s _ 0 1 (Nat.le_refl _)
    have b0 := b0 (Nat.zero_le _)
    refine ret_ofPM (nt := 54) (rvs := [.tmp 2, .tmp 3, .tmp 4]) Try.func39 rfl rfl rfl rfl (fun X hX => ?_)
    refine pw_cut 4 (fun _ : Unit => True) (fun _ => [(0, .s s), (5, .row 0 0), (6, .i .i64 ((skW s 0 1).1 : Nat)), (7, .i .i64 (skW s 0 1).2)]) (fun _ => [some (rowL 3 tokC [])]) ?_ (fun _ _ => ?_)
    · repeat' (first | omega | (with_reducible show (_ : Int) < _; dsimp only; omega) | (with_reducible show (_ : Nat) ≤ _; dsimp only; omega) | ((with_reducible show SrcOk _ _ _) <;> (first | exact srcOk_1 rfl | exact srcOk_L (fun _ => ⟨rfl, rfl⟩) | exact srcOk_E (fun _ => ⟨rfl, rfl⟩))) | ((conv => whnf) <;> (first | refine And.intro ?_ ?_ | (intro _h; first | contradiction | (try simp only [dd] at _h)) | (refine dt_go ?_) | exact rfl | exact True.intro | exact dkk | exact dks | ((first | refine .inl ⟨_, l05Skip_ok s 0 1 hs (Nat.zero_le _) (by decide) (by decide), ?_⟩ | refine ⟨_, l05Skip_ok s 0 1 hs (Nat.zero_le _) (by decide) (by decide), ?_⟩); (try rintro _ rfl)) | (refine wrap_succ ?_; omega))))
      all_goals first | (exfalso; omega) | skip
      conv => whnf
      refine cut_turn (turn_eq (id := 0) (x := rowL 3 tokC []) rfl rfl rfl rfl rfl (fun i j hi _ => absurd hi (Nat.not_lt_zero _))) ?_
      exact cut_go () trivial (by repeat' (first | exact trivial | refine And.intro rfl ?_)) (by repeat' (first | exact trivial | refine And.intro (.inl rfl) ?_ | refine And.intro (.inr rfl) ?_ | refine And.intro rfl ?_))
    refine wpc_ok _ _ _ _ ?_
    (try dsimp only)
    conv => whnf
    repeat' (first | omega | (with_reducible show (_ : Int) < _; dsimp only; omega) | (with_reducible show (_ : Nat) ≤ _; dsimp only; omega) | ((with_reducible show SrcOk _ _ _) <;> (first | exact srcOk_1 rfl | exact srcOk_L (fun _ => ⟨rfl, rfl⟩) | exact srcOk_E (fun _ => ⟨rfl, rfl⟩))) | ((conv => whnf) <;> (first | ((first | refine .inl ⟨_, lex_or s _ hs ‹((_ : Nat) : Int) < s.size›, ?_⟩ | refine ⟨_, lex_or s _ hs ‹((_ : Nat) : Int) < s.size›, ?_⟩); rintro _ ⟨rfl, _he, _hr⟩) | exact cap4C ‹LxI s _›.len (by decide) | exact cap4M ‹LxI s _›.len | exact srcOk_1 rfl | exact tarr_zero rfl rfl | (rename_i y hy _ _; (first | refine .inl ⟨_, l05Skip_ok s ((nxt s y.2.1).2) y.2.2 hs (by omega) (by have := hy.lo; omega) (by have := hy.hi; omega), ?_⟩ | refine ⟨_, l05Skip_ok s ((nxt s y.2.1).2) y.2.2 hs (by omega) (by have := hy.lo; omega) (by have := hy.hi; omega), ?_⟩); rintro _ rfl) | refine loopFT (fun y : List Tok × Nat × Int => [(5, .row 0 y.1.length), (6, .i .i64 y.2.1), (7, .i .i64 y.2.2)]) (fun y => [some (.arr ⟨3, y.1.length, elE tokC y.1, .arr⟩)]) (fun y => LxI s y) (fun y => s.size - y.2.1) ([], (skW s 0 1).1, (skW s 0 1).2) ⟨LxI.zero s, ?_⟩ | refine And.intro ?_ ?_ | (intro _h; first | contradiction | (try simp only [dd] at _h)) | (refine dt_go ?_) | exact rfl | exact True.intro | exact dkk | exact dks | (refine wrap_succ ?_; omega))))
    all_goals (conv => whnf)
    · rename_i y hy _
      exact endM_self (frz0 (frz_tup (.cons (.refl _) (.cons (.refl _) (.cons (.refl _) .nil)))) (by rw [hy.bad (by omega) hs (_he.2 (by omega))]; rfl))
    · rename_i y hy _ _
      exact endM_self (frz0 (frz_tup (.cons (.refl _) (.cons (.refl _) (.cons (.refl _) .nil)))) (by rw [hy.many (by omega) hs (fun q => absurd (_he.1 q) (by omega)) (by omega)]; rfl))
    · rename_i y hy _ _
      have hk : y.2.1 < s.size := by omega
      have hn : ¬ (nxt s y.2.1).1 = 0 := fun q => absurd (_he.1 q) (by omega)
      have hcap : (y.1 ++ [tkAt s y]).length = y.1.length + 1 := lbz_len.symm
      refine roundET_turn (turn_eq (id := 3) (x := rowL 3 tokC (y.1 ++ [tkAt s y])) rfl rfl hcap rfl rfl (snoc_eq rfl (tk_eq (t := tkAt s y) rfl (by exact congrArg AV.s (lxT_at hn)) rfl))) ?_
      refine roundET_end ?_
      refine ⟨(y.1 ++ [tkAt s y], (skW s (nxt s y.2.1).2 y.2.2).1, (skW s (nxt s y.2.1).2 y.2.2).2), [3], hy.next hk hn (by omega), LxI_lt hk hn, ?_⟩
      repeat' (first | omega | (with_reducible show (_ : Int) < _; dsimp only; omega) | (with_reducible show (_ : Nat) ≤ _; dsimp only; omega) | ((with_reducible show SrcOk _ _ _) <;> (first | exact srcOk_1 rfl | exact srcOk_L (fun _ => ⟨rfl, rfl⟩) | exact srcOk_E (fun _ => ⟨rfl, rfl⟩))) | ((conv => whnf) <;> (first | exact arr_same rfl hcap (fun a j => low_cells rfl) | exact arr_same rfl rfl (fun a j => low_cells rfl) | exact hcap | exact hcap.symm | exact low_cells rfl | exact lbz_rho hX ‹_› | refine And.intro ?_ ?_ | (intro _h; first | contradiction | (try simp only [dd] at _h)) | (refine dt_go ?_) | exact rfl | exact True.intro | exact dkk | exact dks | (refine wrap_succ ?_; omega))))
    · rename_i y hy
      refine endM_turn (turn_eq (id := 2) (x := rowL 3 tokC (y.1 ++ [⟨4, ⟨#[]⟩, y.2.2⟩])) rfl rfl lbz_len.symm rfl rfl (snoc_eq rfl (tk_eq (t := ⟨4, ⟨#[]⟩, y.2.2⟩) rfl rfl rfl))) ?_
      exact endM_self (frz0 (frz_tup (.cons (shr_L (d := 0) (k := 4) lbz_len) (.cons (.refl _) (.cons (.refl _) .nil)))) (by rw [hy.end (by omega) hs]; rfl))
  · have e : lexF s = .err 0 4 := if_pos (by omega)
    rw [e]
    refine ret_of (nt := 54) (rvs := [.tmp 2, .tmp 3, .tmp 4]) Try.func39 rfl rfl rfl rfl (fun X => ?_)
    repeat' (first | omega | (with_reducible show (_ : Int) < _; dsimp only; omega) | (with_reducible show (_ : Nat) ≤ _; dsimp only; omega) | ((with_reducible show SrcOk _ _ _) <;> (first | exact srcOk_1 rfl | exact srcOk_L (fun _ => ⟨rfl, rfl⟩) | exact srcOk_E (fun _ => ⟨rfl, rfl⟩))) | ((conv => whnf) <;> (first | refine And.intro ?_ ?_ | (intro _h; first | contradiction | (try simp only [dd] at _h)) | (refine dt_go ?_) | exact rfl | exact True.intro | exact dkk | exact dks | (refine wrap_succ ?_; omega))))
    all_goals first | (exfalso; omega) | exact rfl
end
end Go.Proofs.Ytllcemegnggpfaa
