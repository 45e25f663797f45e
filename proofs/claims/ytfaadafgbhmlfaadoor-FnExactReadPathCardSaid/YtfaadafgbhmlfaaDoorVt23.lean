/- Texts for VReadPathP. -/
import Derived.Test.YtfaadafgbhmlfaaDoorVt22
namespace Go.Proofs.YtfaadafgbhmlfaaDoor
open Go Go.RowKit
set_option linter.unusedVariables false
set_option linter.unusedSimpArgs false
section
attribute [local irreducible] IntKind.wrap
theorem SkI.g {s : ByteArray} {k : Nat} {l : Int} {y : Nat × Int} (h : SkI s k l y) (hs : s.size ≤ 30000) (a : byI s (y.1 : Int).toNat = 47) (b : byI s (IntKind.i64.wrap ((y.1 : Int) + 1)).toNat = 47) : byI s y.1 = 47 ∧ byI s (y.1 + 1) = 47 := by
  have := h.le
  rw [Int.toNat_natCast] at a
  rw [tn1 (by omega)] at b
  exact ⟨a, b⟩
theorem SkI.n {s : ByteArray} {k : Nat} {l : Int} {y : Nat × Int} (h : SkI s k l y) (hs : s.size ≤ 30000) (b : ¬ byI s (IntKind.i64.wrap ((y.1 : Int) + 1)).toNat = 47) : ¬ (byI s y.1 = 47 ∧ byI s (y.1 + 1) = 47) := by
  have := h.le
  rw [tn1 (by omega)] at b
  exact fun q => b q.2
theorem SkI.o {s : ByteArray} {k : Nat} {l : Int} {y : Nat × Int} (h : SkI s k l y) (hs : s.size ≤ 30000) (b : ¬ IntKind.i64.wrap ((y.1 : Int) + 1) < s.size) : ¬ (byI s y.1 = 47 ∧ byI s (y.1 + 1) = 47) := by
  have := h.le
  rw [wrap_in (by omega) (by omega)] at b
  exact fun q => by
    have := byI_out (s := s) (k := y.1 + 1) (by omega)
    omega
set_option maxRecDepth 8000 in
set_option maxHeartbeats 2000000 in
theorem l05Skip_ok (s : ByteArray) (k : Nat) (line : Int) (hs : s.size ≤ 30000) (hk : k ≤ s.size) (h0 : 0 ≤ line) (h1 : line ≤ 1000000) : Ret env.P 13 [.s s, .i .i64 k, .i .i64 line] (fun r => r = .tup [.i .i64 ((skW s k line).1 : Nat), .i .i64 (skW s k line).2]) := by
  refine ret_of (nt := 63) (rvs := [.tmp 6, .tmp 7]) Tryd.func13 rfl rfl rfl rfl (fun X => ?_)
  repeat' (first | omega | (with_reducible show (_ : Int) < _; dsimp only; omega) | (with_reducible show (_ : Nat) ≤ _; dsimp only; omega) | ((with_reducible show SrcOk _ _ _) <;> (first | exact srcOk_1 rfl | exact srcOk_L (fun _ => ⟨rfl, rfl⟩) | exact srcOk_E (fun _ => ⟨rfl, rfl⟩))) | ((conv => whnf) <;> (first | (rename_i y hy _ _ _ _ _; have _g := hy.g hs ‹_› ‹_›; refine loopFT (fun j : Nat => [(1, .i .i64 j)]) (fun j => []) (fun j => EndI (fun i => ¬ byI s i = 10) s.size y.1 j) (fun j => s.size - j) y.1 ⟨EndI.self hy.le, ?_⟩) | refine loopFT (fun y : Nat × Int => [(1, .i .i64 y.1), (2, .i .i64 y.2)]) (fun y => []) (fun y => SkI s k line y) (fun y => s.size - y.1) (k, line) ⟨SkI.zero hk, ?_⟩ | refine And.intro ?_ ?_ | (intro _h; first | contradiction | (try simp only [dd] at _h)) | (refine dt_go ?_) | exact rfl | exact True.intro | exact dkk | exact dks | (refine wrap_succ ?_; omega))))
  all_goals first
    | (have hy := ‹SkI s k line _›; have := hy.le; simp (disch := omega) only [wrap_in]; omega)
    | (conv => whnf)
  all_goals (try simp only [Int.toNat_natCast] at *)
  · rename_i y hy _
    have hk : y.1 < s.size := by omega
    have hh := hy.hi
    have hl := hy.lo
    simp (disch := omega) only [wrap_in]
    refine roundET_end ?_
    refine ⟨(y.1 + 1, y.2 + 1), [], hy.nl hk ‹_›, (show s.size - (y.1 + 1) < s.size - y.1 by omega), ?_⟩
    repeat' (first | omega | (with_reducible show (_ : Int) < _; dsimp only; omega) | (with_reducible show (_ : Nat) ≤ _; dsimp only; omega) | ((with_reducible show SrcOk _ _ _) <;> (first | exact srcOk_1 rfl | exact srcOk_L (fun _ => ⟨rfl, rfl⟩) | exact srcOk_E (fun _ => ⟨rfl, rfl⟩))) | ((conv => whnf) <;> (first | refine And.intro ?_ ?_ | (intro _h; first | contradiction | (try simp only [dd] at _h)) | (refine dt_go ?_) | exact rfl | exact True.intro | exact dkk | exact dks | (refine wrap_succ ?_; omega))))
  · rename_i y hy _ _
    have hk : y.1 < s.size := by omega
    simp (disch := omega) only [wrap_in]
    refine roundET_end ?_
    refine ⟨(y.1 + 1, y.2), [], hy.sp hk ‹_›, (show s.size - (y.1 + 1) < s.size - y.1 by omega), ?_⟩
    repeat' (first | omega | (with_reducible show (_ : Int) < _; dsimp only; omega) | (with_reducible show (_ : Nat) ≤ _; dsimp only; omega) | ((with_reducible show SrcOk _ _ _) <;> (first | exact srcOk_1 rfl | exact srcOk_L (fun _ => ⟨rfl, rfl⟩) | exact srcOk_E (fun _ => ⟨rfl, rfl⟩))) | ((conv => whnf) <;> (first | refine And.intro ?_ ?_ | (intro _h; first | contradiction | (try simp only [dd] at _h)) | (refine dt_go ?_) | exact rfl | exact True.intro | exact dkk | exact dks | (refine wrap_succ ?_; omega))))
  · rename_i j hj _
    have hk : j < s.size := by omega
    simp (disch := omega) only [wrap_in]
    refine roundET_end ?_
    refine ⟨j + 1, [], hj.next hk ‹_›, (show s.size - (j + 1) < s.size - j by omega), ?_⟩
    repeat' (first | omega | (with_reducible show (_ : Int) < _; dsimp only; omega) | (with_reducible show (_ : Nat) ≤ _; dsimp only; omega) | ((with_reducible show SrcOk _ _ _) <;> (first | exact srcOk_1 rfl | exact srcOk_L (fun _ => ⟨rfl, rfl⟩) | exact srcOk_E (fun _ => ⟨rfl, rfl⟩))) | ((conv => whnf) <;> (first | refine And.intro ?_ ?_ | (intro _h; first | contradiction | (try simp only [dd] at _h)) | (refine dt_go ?_) | exact rfl | exact True.intro | exact dkk | exact dks | (refine wrap_succ ?_; omega))))
  all_goals first
    | (have hj := ‹EndI _ _ _ _›
       have hk : y.1 < s.size := by omega
       have hd := hj.done (fun q => by first | (exact absurd q (by omega)) | exact fun r => r ‹_›)
       have hg := endF_gt (P := fun i => ¬ byI s i = 10) hk (by rw [_g.1]; decide)
       rw [hd] at hg
       refine roundET_end ?_
       refine ⟨(_, y.2), [], hy.co hk _g hd, (show s.size - _ < s.size - y.1 by omega), ?_⟩
       repeat' (first | omega | (with_reducible show (_ : Int) < _; dsimp only; omega) | (with_reducible show (_ : Nat) ≤ _; dsimp only; omega) | ((with_reducible show SrcOk _ _ _) <;> (first | exact srcOk_1 rfl | exact srcOk_L (fun _ => ⟨rfl, rfl⟩) | exact srcOk_E (fun _ => ⟨rfl, rfl⟩))) | ((conv => whnf) <;> (first | refine And.intro ?_ ?_ | (intro _h; first | contradiction | (try simp only [dd] at _h)) | (refine dt_go ?_) | exact rfl | exact True.intro | exact dkk | exact dks | (refine wrap_succ ?_; omega)))))
    | (have hy := ‹SkI s k line _›
       have hd := hy.done (fun q => by first | exact absurd q (by omega) | exact ⟨by assumption, by assumption, by first | exact hy.n hs ‹_› | exact hy.o hs ‹_› | exact fun r => absurd r.1 ‹_›⟩)
       rw [hd]
       rfl)
    | trace_state
theorem ext2 {s : ByteArray} {k : Nat} (h : byI s k = 45 ∧ byI s (k + 1) = 62) : s.extract k (k + 2) = ⟨#[45, 62]⟩ := by
  have h2 := ((pre2 (s := s) (k := k) (x := 45) (y := 62) (by decide)).2 h)
  have e2 : (⟨#[45, 62]⟩ : ByteArray).size = 2 := rfl
  rw [e2] at h2
  obtain ⟨h1, h2⟩ := h2
  rw [ByteArray.size_extract] at h1
  have e : (s.extract k s.size).extract 0 2 = s.extract k (k + 2) := by
    apply ByteArray.ext
    rw [ByteArray.data_extract, ByteArray.data_extract, ByteArray.data_extract, Array.extract_extract]
    congr 1
    omega
  rw [← e]
  exact h2
open Classical in
noncomputable def lxT (s : ByteArray) (k : Nat) : ByteArray := if (nxt s k).1 = 0 then ByteArray.empty else s.extract k (nxt s k).2
theorem lxT_at {s : ByteArray} {k : Nat} (h : ¬ (nxt s k).1 = 0) : lxT s k = s.extract k (nxt s k).2 := if_neg h
theorem lxT_no {s : ByteArray} {k : Nat} (h : (nxt s k).1 = 0) : lxT s k = ByteArray.empty := if_pos h
noncomputable def lxV (s : ByteArray) (k : Nat) : AV := .tup [.agg [.i .i64 (nxt s k).1, .s (lxT s k), .i .i64 0], .i .i64 ((nxt s k).2 : Nat)]
theorem lxV_at {s : ByteArray} {k e : Nat} {c : Int} (h : nxt s k = (c, e)) (hc : ¬ c = 0) : lxV s k = .tup [.agg [.i .i64 c, .s (s.extract k e), .i .i64 0], .i .i64 (e : Nat)] := by
  unfold lxV
  rw [lxT_at (by rw [h]; exact hc), h]
theorem lxV_no {s : ByteArray} {k : Nat} (h : nxt s k = (0, 0)) : lxV s k = .tup [.agg [.i .i64 0, .s ByteArray.empty, .i .i64 0], .i .i64 0] := by
  unfold lxV
  rw [lxT_no (by rw [h]), h]
  rfl
theorem lxV_a {s : ByteArray} {k : Nat} (h : byI s k = 45 ∧ byI s (k + 1) = 62) : lxV s k = .tup [.agg [.i .i64 3, .s ⟨#[45, 62]⟩, .i .i64 0], .i .i64 ((k : Int) + 2)] := by
  rw [lxV_at (nxt_a h) (by decide), ext2 h]
  rfl
theorem l05Lex_ok (s : ByteArray) (k : Nat) (hs : s.size ≤ 30000) (hk : k < s.size) : Ret env.P 14 [.s s, .i .i64 k] (fun r => r = lxV s k) := by
  have g2 := endF_len (P := wdP s) (Nat.le_of_lt hk)
  have g4 := endF_len (P := nbP s) (Nat.le_of_lt hk)
  have g5 := endF_ge (wdP s) (s.size - k) k
  have g6 := endF_ge (nbP s) (s.size - k) k
  have hz := byI_z (s := s) (j := k + 1)
  refine ret_of (nt := 68) (rvs := [.cell 4 36, .tmp 5]) Tryd.func14 rfl rfl rfl rfl (fun X => ?_)
  repeat' (first | omega | (with_reducible show (_ : Int) < _; dsimp only; omega) | (with_reducible show (_ : Nat) ≤ _; dsimp only; omega) | ((with_reducible show SrcOk _ _ _) <;> (first | exact srcOk_1 rfl | exact srcOk_L (fun _ => ⟨rfl, rfl⟩) | exact srcOk_E (fun _ => ⟨rfl, rfl⟩))) | ((conv => whnf) <;> (first | refine And.intro ?_ ?_ | (intro _h; first | contradiction | (try simp only [dd] at _h)) | (refine dt_go ?_) | exact rfl | exact True.intro | exact dkk | exact dks | ((first | refine .inl ⟨_, l05Letter_ok _, ?_⟩ | refine ⟨_, l05Letter_ok _, ?_⟩); (try rintro _ rfl)) | ((first | refine .inl ⟨_, l05Digit_ok _, ?_⟩ | refine ⟨_, l05Digit_ok _, ?_⟩); (try rintro _ rfl)) | ((first | refine .inl ⟨_, l05Word_ok s k hs hk, ?_⟩ | refine ⟨_, l05Word_ok s k hs hk, ?_⟩); (try rintro _ rfl)) | ((first | refine .inl ⟨_, l05Number_ok s k hs hk, ?_⟩ | refine ⟨_, l05Number_ok s k hs hk, ?_⟩); (try rintro _ rfl)) | ((first | refine .inl ⟨_, l05Sign_ok _, ?_⟩ | refine ⟨_, l05Sign_ok _, ?_⟩); (try rintro _ rfl)) | (refine wrap_succ ?_; omega))))
  all_goals first | omega | (simp (disch := omega) only [wrap_in]; omega) | (conv => whnf) | skip
  all_goals (try simp only [Int.toNat_natCast] at *)
  all_goals (try simp (disch := omega) only [tn1] at *)
  all_goals (try simp (disch := omega) only [wrap_in] at *)
  all_goals first
    | (rw [lxV_at (nxt_w (by assumption)) (by decide)]; rfl)
    | (rw [lxV_at (nxt_n (by assumption)) (by decide)]; rfl)
    | (rw [lxV_a ⟨by assumption, by assumption⟩]; rfl)
    | (rw [lxV_at (nxt_s (by assumption) (by assumption) (by (try simp only [byI] at *); omega) (by assumption)) (by decide)]; rfl)
    | (rw [lxV_no (nxt_0 (by assumption) (by assumption) (by (try simp only [byI] at *); omega) (by assumption))]; rfl)
    | trace_state
end
end Go.Proofs.YtfaadafgbhmlfaaDoor
