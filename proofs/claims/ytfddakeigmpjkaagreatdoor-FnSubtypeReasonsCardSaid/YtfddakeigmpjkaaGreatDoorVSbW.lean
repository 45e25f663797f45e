/-
  Subtypes: the program's functions (all but the recursive one).
-/
import Derived.Test.YtfddakeigmpjkaaGreatDoorVSbD
namespace Go.Proofs.YtfddakeigmpjkaaGreatDoor
open Go Go.RowKit
set_option linter.unusedVariables false
set_option linter.unusedSimpArgs false
set_option maxRecDepth 8000 in
theorem small_ok (n : Nat) (h : n < 10) : Ret env.P 123 [.i .i64 (n : Int)] (fun r => r = .s (digB n)) := by
  rcases dig10 h with rfl | rfl | rfl | rfl | rfl | rfl | rfl | rfl | rfl | rfl
  all_goals
    refine ret_of (nt := 15) (rvs := [.tmp 2]) Tryz.func123 rfl rfl rfl rfl (fun X => ?_)
    repeat' (first | exact aa | ((conv => whnf) <;> (first | decide | refine And.intro ?_ ?_ | (intro _h; first | contradiction | (try simp only [dd] at _h)) | (refine dt_go ?_) | exact rfl | exact True.intro | exact dkk | exact dks | (refine wrap_succ ?_; omega))))
    all_goals (conv => whnf)
    all_goals rfl
attribute [local irreducible] IntKind.wrap

theorem numRange_ok (k : Int) : Ret env.P 43 [.i .i64 k] (fun r => r = .tup [.i .i64 (lowK k), .i .i64 (highK k), .b (decide (numK k))]) := by
  refine ret_of (nt := 20) (rvs := [.tmp 2, .tmp 3, .tmp 4]) Tryz.func43 rfl rfl rfl rfl (fun X => ?_)
  repeat' (first | exact aa | ((conv => whnf) <;> (first | refine And.intro ?_ ?_ | (intro _h; first | contradiction | (try simp only [dd] at _h)) | (refine dt_go ?_) | exact rfl | exact True.intro | exact dkk | exact dks | (refine wrap_succ ?_; omega))))
  all_goals (conv => whnf)
  all_goals first
    | exact numR_no (by unfold numK; omega)
    | (obtain rfl := ‹k = _›; rfl)
    | trace_state
theorem reason_ok (k : Int) (s : ByteArray) : Ret env.P 44 [.i .i64 k, .s s] (fun r => r = rsV (some (k, s))) := by
  refine ret_of (nt := 9) (rvs := [.cell 4 34, .tmp 5]) Tryz.func44 rfl rfl rfl rfl (fun X => ?_)
  repeat' (first | exact aa | ((conv => whnf) <;> (first | refine And.intro ?_ ?_ | (intro _h; first | contradiction | (try simp only [dd] at _h)) | (refine dt_go ?_) | exact rfl | exact True.intro | exact dkk | exact dks | (refine wrap_succ ?_; omega))))
theorem none_ok : Ret env.P 26 [] (fun r => r = rsV none) := by
  refine ret_of (nt := 3) (rvs := [.cell 0 34, .tmp 1]) Tryz.func26 rfl rfl rfl rfl (fun X => ?_)
  repeat' (first | exact aa | ((conv => whnf) <;> (first | refine And.intro ?_ ?_ | (intro _h; first | contradiction | (try simp only [dd] at _h)) | (refine dt_go ?_) | exact rfl | exact True.intro | exact dkk | exact dks | (refine wrap_succ ?_; omega))))
theorem index_ok (l : List ByteArray) (s : ByteArray) (hl : l.length ≤ 1048576) : Ret env.P 63 [slL 1 strC l, .s s] (fun r => r = .i .i64 (plI l s)) := by
  refine ret_of (nt := 19) (rvs := [.tmp 4]) Tryz.func63 rfl rfl rfl rfl (fun X => ?_)
  repeat' (first | exact aa | ((conv => whnf) <;> (first | refine loopN l.length (fun k => [(8, .i .i64 k)]) (fun k => []) (fun k => NoTo l s k) ⟨.zero l s, ?_⟩ | exact NoTo.next ‹_› (fun q => ‹¬ _ = _› q.symm) | refine And.intro ?_ ?_ | (intro _h; first | contradiction | (try simp only [dd] at _h)) | (refine dt_go ?_) | exact rfl | exact True.intro | exact dkk | exact dks | (refine wrap_succ ?_; omega))))
  all_goals (try simp only [Int.toNat_natCast] at *)
  all_goals (conv => whnf)
  all_goals first
    | exact NoTo.next ‹_› (fun q => ‹¬ _ = _› q.symm)
    | exact leaf_i (NoTo.found ‹_› (by omega) (Eq.symm ‹_›))
    | exact leaf_i (NoTo.no ‹_› (by omega))
    | trace_state
theorem decimal_ok (n : Nat) (h : n < 10) : Ret env.P 81 [.i .i64 (n : Int)] (fun r => r = .s (digB n)) := by
  have h1 := small_ok n h
  have h2 : Ret env.P 116 [.i .i64 (n : Int), .i .i64 10] (fun r => r = .s (digB n)) := by
    refine ret_of (nt := 54) (rvs := [.tmp 4]) Tryz.func116 rfl rfl rfl rfl (fun X => ?_)
    repeat' (first | exact aa | ((conv => whnf) <;> (first | (exfalso; omega) | refine And.intro ?_ ?_ | (intro _h; first | contradiction | (try simp only [dd] at _h)) | (refine dt_go ?_) | exact rfl | exact True.intro | exact dkk | exact dks | ((first | refine .inl ⟨_, h1, ?_⟩ | refine ⟨_, h1, ?_⟩); (try rintro _ rfl)) | (refine wrap_succ ?_; omega))))
  have h3 : Ret env.P 99 [.i .i64 (n : Int), .i .i64 10] (fun r => r = .s (digB n)) := by
    refine ret_of (nt := 8) (rvs := [.tmp 4]) Tryz.func99 rfl rfl rfl rfl (fun X => ?_)
    repeat' (first | exact aa | ((conv => whnf) <;> (first | refine And.intro ?_ ?_ | (intro _h; first | contradiction | (try simp only [dd] at _h)) | (refine dt_go ?_) | exact rfl | exact True.intro | exact dkk | exact dks | ((first | refine .inl ⟨_, h2, ?_⟩ | refine ⟨_, h2, ?_⟩); (try rintro _ rfl)) | (refine wrap_succ ?_; omega))))
  refine ret_of (nt := 5) (rvs := [.tmp 2]) Tryz.func81 rfl rfl rfl rfl (fun X => ?_)
  repeat' (first | exact aa | ((conv => whnf) <;> (first | refine And.intro ?_ ?_ | (intro _h; first | contradiction | (try simp only [dd] at _h)) | (refine dt_go ?_) | exact rfl | exact True.intro | exact dkk | exact dks | ((first | refine .inl ⟨_, h3, ?_⟩ | refine ⟨_, h3, ?_⟩); (try rintro _ rfl)) | (refine wrap_succ ?_; omega))))
set_option maxRecDepth 8000 in
set_option maxHeartbeats 1600000 in
theorem tupI_ok {n : Nat} {w : Why} {a b : Typ} (s : ByteArray) (hs : s.size ≤ 1000) (h : KidW 24 w (n + 1) a b s) (hl : a.kids.length ≤ 6) : Ret env.P 45 [.agg (Typ.pN (n + 2) a), .agg (Typ.pN (n + 2) b), .s s] (fun r => r = rsV (tupW w a b s)) := by
  have hd : ∀ k : Nat, k < a.kids.length → Ret env.P 81 [.i .i64 (k : Int)] (fun r => r = .s (digB k)) := fun k hk => decimal_ok k (by omega)
  have hN := fun q : ¬ a.kids.length = b.kids.length => show tupW w a b s = some (3, s) from if_neg q
  have hE := fun q : a.kids.length = b.kids.length => show tupW w a b s = fstK (fun k => w (kidA a k) (kidA b k) (dotL s (digB k))) a.kids.length from if_pos q
  refine ret_of (nt := 54) (rvs := [.cell 6 34, .tmp 7]) Tryz.func45 rfl rfl rfl rfl (fun X => ?_)
  repeat' (first | exact aa | ((conv => whnf) <;> (first | exact str1 hs (by decide) | exact str2 hs (by decide) (Nat.le_trans (dig_sz _) (by decide)) | refine loopN a.kids.length (fun k => [(25, .i .i64 k)]) (fun k => []) (fun k => FstN (fun k => w (kidA a k) (kidA b k) (dotL s (digB k))) k) ⟨.zero _, ?_⟩ | refine And.intro ?_ ?_ | (intro _h; first | contradiction | (try simp only [dd] at _h)) | (refine dt_go ?_) | exact rfl | exact True.intro | exact dkk | exact dks | ((first | refine .inl ⟨_, reason_ok _ _, ?_⟩ | refine ⟨_, reason_ok _ _, ?_⟩); (try rintro _ rfl)) | ((first | refine .inl ⟨_, none_ok, ?_⟩ | refine ⟨_, none_ok, ?_⟩); (try rintro _ rfl)) | ((first | refine .inl ⟨_, hd _ (by omega), ?_⟩ | refine ⟨_, hd _ (by omega), ?_⟩); (try rintro _ rfl)) | ((first | refine .inl ⟨_, h _ _ _ (dl_lab (dig_sz _)) (by omega) (by omega), ?_⟩ | refine ⟨_, h _ _ _ (dl_lab (dig_sz _)) (by omega) (by omega), ?_⟩); (try rintro _ rfl)) | (refine wrap_succ ?_; omega))))
  all_goals (try simp only [Int.toNat_natCast] at *)
  all_goals (conv => whnf)
  all_goals first
    | exact congrArg rsV (hN (by omega)).symm
    | exact FstN.next ‹_› (rs_nof _h)
    | (rename_i k _ hI _
       refine rs_some _h ?_
       rw [hE (by omega)]
       exact FstN.found hI (by omega) rfl _h)
    | (rename_i k _ hI _
       refine congrArg rsV (Eq.symm ?_ : w (kidA a k) (kidA b k) (dotL s (digB k)) = _)
       rw [hE (by omega)]
       exact FstN.found hI (by omega) rfl _h)
    | (rename_i k _ hI
       refine (congrArg rsV ?_ : rsV none = _)
       rw [hE (by omega)]
       exact (FstN.end hI (by omega) (by omega)).symm)
    | trace_state
set_option maxRecDepth 8000 in
set_option maxHeartbeats 1600000 in
theorem labsI_ok {n : Nat} {g : Nat} {fv} (hg : env.F.get g = some fv) {w : Why} {a b : Typ} (s : ByteArray) (kind : Int) (hs : s.size ≤ 1000) (h : ¬ a.kids.length = 0 → KidW g w (n + 1) a b s) (ha : ¬ a.kids.length = 0 → a.kids.length = a.labels.length ∧ b.kids.length = b.labels.length) (hla : a.labels.length ≤ 16) (hlb : b.labels.length ≤ 16) (hza : ∀ k, k < a.labels.length → (a.labels.getD k default).size ≤ 12) : Ret env.P 46 [.agg (Typ.pN (n + 2) a), .agg (Typ.pN (n + 2) b), .s s, .i .i64 kind, .fn g []] (fun r => r = rsV (labsW w a b s kind)) := by
  have hL : ∀ t, Ret env.P 63 [slL 1 strC b.labels, .s t] (fun r => r = .i .i64 (plI b.labels t)) := fun t => index_ok _ t (by omega)
  by_cases h0 : a.kids.length = 0
  · refine ret_of (nt := 69) (rvs := [.cell 10 34, .tmp 11]) Tryz.func46 rfl rfl rfl rfl (fun X => ?_)
    repeat' (first | exact aa | ((conv => whnf) <;> (first | (exfalso; omega) | exact str1 hs (by decide) | exact str2 hs (by decide) (Nat.le_trans (hza _ (by omega)) (by decide)) | refine loopN a.labels.length (fun k => [(20, .i .i64 k)]) (fun k => []) (fun k => FstN (labW w a b s kind) k) ⟨.zero _, ?_⟩ | refine And.intro ?_ ?_ | (intro _h; first | contradiction | (try simp only [dd] at _h)) | (refine dt_go ?_) | exact rfl | exact True.intro | exact dkk | exact dks | ((first | refine .inl ⟨_, reason_ok _ _, ?_⟩ | refine ⟨_, reason_ok _ _, ?_⟩); (try rintro _ rfl)) | ((first | refine .inl ⟨_, none_ok, ?_⟩ | refine ⟨_, none_ok, ?_⟩); (try rintro _ rfl)) | ((first | refine .inl ⟨_, hL _, ?_⟩ | refine ⟨_, hL _, ?_⟩); (try rintro _ rfl)) | (refine wrap_succ ?_; omega))))
    all_goals (try simp only [Int.toNat_natCast] at *)
    all_goals (conv => whnf)
    all_goals first
      | (rename_i k _ hI _
         exact FstN.next hI (lbW_nil _h h0))
      | (rename_i k _ hI _ hp
         exact FstN.next hI (lbW_nil hp h0))
      | (rename_i k _ hI _
         refine (congrArg rsV ?_ : rsV (some (kind, dotL s (labA a k))) = _)
         exact (FstN.found hI (by omega) (lbW_neg _h) rfl).symm)
      | (rename_i k _ hI
         refine (congrArg rsV ?_ : rsV none = _)
         exact (FstN.end hI (by omega) (by omega)).symm)
      | trace_state
  · obtain ⟨ha1, hb1⟩ := ha h0
    have hK := h h0
    refine ret_of (nt := 69) (rvs := [.cell 10 34, .tmp 11]) Tryz.func46 rfl rfl rfl rfl (fun X => ?_)
    repeat' (first | exact aa | ((conv => whnf) <;> (first | rw [hg] | (exfalso; omega) | exact pl_lo ‹_› | exact pl_hi ‹_› hb1 | exact str1 hs (by decide) | exact str2 hs (by decide) (Nat.le_trans (hza _ (by omega)) (by decide)) | refine loopN a.labels.length (fun k => [(20, .i .i64 k)]) (fun k => []) (fun k => FstN (labW w a b s kind) k) ⟨.zero _, ?_⟩ | refine And.intro ?_ ?_ | (intro _h; first | contradiction | (try simp only [dd] at _h)) | (refine dt_go ?_) | exact rfl | exact True.intro | exact dkk | exact dks | ((first | refine .inl ⟨_, reason_ok _ _, ?_⟩ | refine ⟨_, reason_ok _ _, ?_⟩); (try rintro _ rfl)) | ((first | refine .inl ⟨_, none_ok, ?_⟩ | refine ⟨_, none_ok, ?_⟩); (try rintro _ rfl)) | ((first | refine .inl ⟨_, hL _, ?_⟩ | refine ⟨_, hL _, ?_⟩); (try rintro _ rfl)) | ((first | refine .inl ⟨_, hK _ _ _ (dl_lab (hza _ (by omega))) (by omega) (pl_nat ‹_› hb1), ?_⟩ | refine ⟨_, hK _ _ _ (dl_lab (hza _ (by omega))) (by omega) (pl_nat ‹_› hb1), ?_⟩); (try rintro _ rfl)) | (refine wrap_succ ?_; omega))))
    all_goals (try simp only [Int.toNat_natCast] at *)
    all_goals (conv => whnf)
    all_goals first
      | (rename_i k _ hI _
         refine (congrArg rsV ?_ : rsV (some (kind, dotL s (labA a k))) = _)
         exact (FstN.found hI (by omega) (lbW_neg _h) rfl).symm)
      | (rename_i k _ hI _ hp
         exact FstN.next hI ((lbW_pos hp h0).trans (rs_nof _h)))
      | (rename_i k _ hI _ hp _
         exact FstN.next hI ((lbW_pos hp h0).trans (rs_nof _h)))
      | (rename_i k _ hI _ hp
         refine rs_some _h ?_
         exact FstN.found hI (by omega) (lbW_pos hp h0) _h)
      | (rename_i k _ hI _ hp _
         refine rs_some _h ?_
         exact FstN.found hI (by omega) (lbW_pos hp h0) _h)
      | (rename_i k _ hI _ hp _
         refine congrArg rsV (Eq.symm ?_ : w (kidA a k) (kidA b (plI b.labels (labA a k)).toNat) (dotL s (labA a k)) = _)
         exact FstN.found hI (by omega) (lbW_pos hp h0) _h)
      | (rename_i k _ hI
         refine (congrArg rsV ?_ : rsV none = _)
         exact (FstN.end hI (by omega) (by omega)).symm)
      | trace_state
end Go.Proofs.YtfddakeigmpjkaaGreatDoor
