/-
  Subtypes: the reference's search for a reason.
-/
import Derived.Test.YtfddakeigmpjkaaGreatDoorVSbB
namespace Go.Proofs.YtfddakeigmpjkaaGreatDoor
open Go Go.RowKit
set_option linter.unusedVariables false
set_option linter.unusedSimpArgs false
attribute [local irreducible] IntKind.wrap

structure FstN (f : Nat → Option Rsn) (k : Nat) : Prop where
  h : fstK f k = none
theorem FstN.zero (f : Nat → Option Rsn) : FstN f 0 := ⟨rfl⟩
theorem FstN.next {f : Nat → Option Rsn} {k : Nat} (h : FstN f k) (h1 : f k = none) : FstN f (k + 1) := ⟨(fstK_next h.h).trans h1⟩
theorem FstN.found {f : Nat → Option Rsn} {k n : Nat} (h : FstN f k) (hk : k < n) {o : Option Rsn} (h1 : f k = o) (h2 : rsB o = true) : fstK f n = o := by
  obtain ⟨r, rfl⟩ := rs_is h2
  exact fstK_some ((fstK_next h.h).trans h1) n hk
theorem FstN.end {f : Nat → Option Rsn} {k n : Nat} (h : FstN f k) (hk : k ≤ n) (hn : n ≤ k) : fstK f n = none := by
  obtain rfl : k = n := by omega
  exact h.h
theorem pl_lo {l : List ByteArray} {s : ByteArray} (h : ¬ plI l s < 0) : 0 ≤ plI l s := by omega
theorem pl_hi {l : List ByteArray} {s : ByteArray} {n : Nat} (h : ¬ plI l s < 0) (hn : n = l.length) : plI l s < (n : Int) := by
  obtain ⟨j, e, hj⟩ := pl_is h
  have := hj.1
  omega
theorem pl_nat {l : List ByteArray} {s : ByteArray} {n : Nat} (h : ¬ plI l s < 0) (hn : n = l.length) : (plI l s).toNat < n := by
  have := pl_lo h
  have := pl_hi h hn
  omega
theorem lbW_neg {w : Why} {a b : Typ} {s : ByteArray} {kind : Int} {k : Nat} (h : plI b.labels (labA a k) < 0) : labW w a b s kind k = some (kind, dotL s (labA a k)) := if_pos h
theorem lbW_pos {w : Why} {a b : Typ} {s : ByteArray} {kind : Int} {k : Nat} (h : ¬ plI b.labels (labA a k) < 0) (h0 : ¬ a.kids.length = 0) : labW w a b s kind k = w (kidA a k) (kidA b (plI b.labels (labA a k)).toNat) (dotL s (labA a k)) := (if_neg h).trans (if_neg h0)
theorem lbW_nil {w : Why} {a b : Typ} {s : ByteArray} {kind : Int} {k : Nat} (h : ¬ plI b.labels (labA a k) < 0) (h0 : a.kids.length = 0) : labW w a b s kind k = none := (if_neg h).trans (if_pos h0)
/-! Paths. -/
theorem str1 {s c : ByteArray} (hs : s.size ≤ 1000) (hc : c.size ≤ 16) : (s.size + c.size).le maxLen := Nat.le_trans (show s.size + c.size ≤ 1016 by omega) (by decide)
theorem str2 {s c t : ByteArray} (hs : s.size ≤ 1000) (hc : c.size ≤ 16) (ht : t.size ≤ 16) : ((s ++ c).size + t.size).le maxLen := Nat.le_trans (show (s ++ c).size + t.size ≤ 1032 by rw [ByteArray.size_append]; omega) (by decide)
theorem dl_lab {s t : ByteArray} (ht : t.size ≤ 12) : (dotL s t).size ≤ s.size + 14 := by
  unfold dotL
  rw [ByteArray.size_append, ByteArray.size_append]
  show s.size + 1 + t.size ≤ _
  omega
theorem dig_sz (k : Nat) : (digB k).size ≤ 12 := (show 1 ≤ 12 by decide)
theorem dl_cat {s t : ByteArray} (ht : t.size ≤ 12) : (s ++ t).size ≤ s.size + 14 := by
  rw [ByteArray.size_append]
  omega
/-- What the search is, of parts. -/
def KidW (g : FuncId) (w : Why) (n : Nat) (a b : Typ) (s : ByteArray) : Prop := ∀ (i j : Nat) (s' : ByteArray), s'.size ≤ s.size + 14 → i < a.kids.length → j < b.kids.length → Ret env.P g [.agg (Typ.pN n (kidA a i)), .agg (Typ.pN n (kidA b j)), .s s'] (fun r => r = rsV (w (kidA a i) (kidA b j) s'))
set_option maxRecDepth 8000 in
set_option maxHeartbeats 1600000 in
theorem tupS_ok {n : Nat} {w : Why} {a b : Typ} (s : ByteArray) (hs : s.size ≤ 1000) (h : KidW 27 w (n + 1) a b s) (hl : a.kids.length ≤ 6) : Ret env.P 50 [.agg (Typ.pN (n + 2) a), .agg (Typ.pN (n + 2) b), .s s] (fun r => r = rsV (tupW w a b s)) := by
  have hd : ∀ k : Nat, k < a.kids.length → Ret env.P 83 [.i .i64 (k : Int)] (fun r => r = .s (digB k)) := fun k hk => digitsS_ok k (by omega)
  have hN := fun q : ¬ a.kids.length = b.kids.length => show tupW w a b s = some (3, s) from if_neg q
  have hE := fun q : a.kids.length = b.kids.length => show tupW w a b s = fstK (fun k => w (kidA a k) (kidA b k) (dotL s (digB k))) a.kids.length from if_pos q
  refine ret_of (nt := 51) (rvs := [.cell 6 34, .tmp 7]) Tryz.func50 rfl rfl rfl rfl (fun X => ?_)
  repeat' (first | exact aa | ((conv => whnf) <;> (first | exact str1 hs (by decide) | exact str2 hs (by decide) (Nat.le_trans (dig_sz _) (by decide)) | refine loopN a.kids.length (fun k => [(8, .i .i64 k)]) (fun k => []) (fun k => FstN (fun k => w (kidA a k) (kidA b k) (dotL s (digB k))) k) ⟨.zero _, ?_⟩ | refine And.intro ?_ ?_ | (intro _h; first | contradiction | (try simp only [dd] at _h)) | (refine dt_go ?_) | exact rfl | exact True.intro | exact dkk | exact dks | ((first | refine .inl ⟨_, noS_ok _ _, ?_⟩ | refine ⟨_, noS_ok _ _, ?_⟩); (try rintro _ rfl)) | ((first | refine .inl ⟨_, hd _ (by omega), ?_⟩ | refine ⟨_, hd _ (by omega), ?_⟩); (try rintro _ rfl)) | ((first | refine .inl ⟨_, h _ _ _ (dl_lab (dig_sz _)) (by omega) (by omega), ?_⟩ | refine ⟨_, h _ _ _ (dl_lab (dig_sz _)) (by omega) (by omega), ?_⟩); (try rintro _ rfl)) | (refine wrap_succ ?_; omega))))
  all_goals (try simp only [Int.toNat_natCast] at *)
  all_goals first
    | exact congrArg rsV (hN (by omega)).symm
    | (rename_i k _ hI _
       refine rs_some ‹_› ?_
       rw [hE (by omega)]
       exact FstN.found hI (by omega) rfl ‹_›)
    | exact FstN.next ‹_› (rs_nof ‹_›)
    | (rename_i k _ hI
       refine (congrArg rsV ?_ : rsV none = _)
       rw [hE (by omega)]
       exact (FstN.end hI (by omega) (by omega)).symm)
    | trace_state
set_option maxRecDepth 8000 in
set_option maxHeartbeats 1600000 in
theorem recS_ok {n : Nat} {w : Why} {a b : Typ} (s : ByteArray) (hs : s.size ≤ 1000) (h : KidW 27 w (n + 1) a b s) (ha : a.kids.length = a.labels.length) (hb : b.kids.length = b.labels.length) (hla : a.labels.length ≤ 16) (hlb : b.labels.length ≤ 16) (hza : ∀ k, k < a.labels.length → (a.labels.getD k default).size ≤ 12) (hzb : ∀ k, k < b.labels.length → (b.labels.getD k default).size ≤ 12) : Ret env.P 51 [.agg (Typ.pN (n + 2) a), .agg (Typ.pN (n + 2) b), .s s] (fun r => r = rsV (labsW (fun x y s => w y x s) b a s 4)) := by
  have hL : ∀ t, Ret env.P 53 [slL 1 strC a.labels, .s t] (fun r => r = .i .i64 (plI a.labels t)) := fun t => labelS_ok _ t (by omega)
  refine ret_of (nt := 65) (rvs := [.cell 6 34, .tmp 7]) Tryz.func51 rfl rfl rfl rfl (fun X => ?_)
  repeat' (first | exact aa | ((conv => whnf) <;> (first | exact str1 hs (by decide) | exact str2 hs (by decide) (Nat.le_trans (hzb _ (by omega)) (by decide)) | exact pl_lo ‹_› | exact pl_hi ‹_› ha | refine loopN b.labels.length (fun k => [(8, .i .i64 k)]) (fun k => []) (fun k => FstN (labW (fun x y s => w y x s) b a s 4) k) ⟨.zero _, ?_⟩ | refine And.intro ?_ ?_ | (intro _h; first | contradiction | (try simp only [dd] at _h)) | (refine dt_go ?_) | exact rfl | exact True.intro | exact dkk | exact dks | ((first | refine .inl ⟨_, noS_ok _ _, ?_⟩ | refine ⟨_, noS_ok _ _, ?_⟩); (try rintro _ rfl)) | ((first | refine .inl ⟨_, hL _, ?_⟩ | refine ⟨_, hL _, ?_⟩); (try rintro _ rfl)) | ((first | refine .inl ⟨_, h _ _ _ (dl_lab (hzb _ (by omega))) (pl_nat ‹_› ha) (by omega), ?_⟩ | refine ⟨_, h _ _ _ (dl_lab (hzb _ (by omega))) (pl_nat ‹_› ha) (by omega), ?_⟩); (try rintro _ rfl)) | (refine wrap_succ ?_; omega))))
  all_goals (try simp only [Int.toNat_natCast] at *)
  all_goals first
    | (rename_i k _ hI _
       refine (congrArg rsV ?_ : rsV (some (4, dotL s (labA b k))) = _)
       exact (FstN.found hI (by omega) (lbW_neg ‹_›) rfl).symm)
    | (rename_i k _ hI _ _
       refine rs_some ‹_› ?_
       exact FstN.found hI (by omega) (lbW_pos ‹_› (by omega)) ‹_›)
    | (rename_i k _ hI _ _
       exact FstN.next hI ((lbW_pos ‹_› (by omega)).trans (rs_nof ‹_›)))
    | (rename_i k _ hI
       refine (congrArg rsV ?_ : rsV none = _)
       exact (FstN.end hI (by omega) (by omega)).symm)
    | trace_state
set_option maxRecDepth 8000 in
set_option maxHeartbeats 1600000 in
theorem varS_ok {n : Nat} {w : Why} {a b : Typ} (s : ByteArray) (hs : s.size ≤ 1000) (h : KidW 27 w (n + 1) a b s) (ha : a.kids.length = a.labels.length) (hb : b.kids.length = b.labels.length) (hla : a.labels.length ≤ 16) (hlb : b.labels.length ≤ 16) (hza : ∀ k, k < a.labels.length → (a.labels.getD k default).size ≤ 12) (hzb : ∀ k, k < b.labels.length → (b.labels.getD k default).size ≤ 12) : Ret env.P 52 [.agg (Typ.pN (n + 2) a), .agg (Typ.pN (n + 2) b), .s s] (fun r => r = rsV (labsW w a b s 5)) := by
  have hL : ∀ t, Ret env.P 53 [slL 1 strC b.labels, .s t] (fun r => r = .i .i64 (plI b.labels t)) := fun t => labelS_ok _ t (by omega)
  refine ret_of (nt := 65) (rvs := [.cell 6 34, .tmp 7]) Tryz.func52 rfl rfl rfl rfl (fun X => ?_)
  repeat' (first | exact aa | ((conv => whnf) <;> (first | exact str1 hs (by decide) | exact str2 hs (by decide) (Nat.le_trans (hza _ (by omega)) (by decide)) | exact pl_lo ‹_› | exact pl_hi ‹_› hb | refine loopN a.labels.length (fun k => [(8, .i .i64 k)]) (fun k => []) (fun k => FstN (labW w a b s 5) k) ⟨.zero _, ?_⟩ | refine And.intro ?_ ?_ | (intro _h; first | contradiction | (try simp only [dd] at _h)) | (refine dt_go ?_) | exact rfl | exact True.intro | exact dkk | exact dks | ((first | refine .inl ⟨_, noS_ok _ _, ?_⟩ | refine ⟨_, noS_ok _ _, ?_⟩); (try rintro _ rfl)) | ((first | refine .inl ⟨_, hL _, ?_⟩ | refine ⟨_, hL _, ?_⟩); (try rintro _ rfl)) | ((first | refine .inl ⟨_, h _ _ _ (dl_lab (hza _ (by omega))) (by omega) (pl_nat ‹_› hb), ?_⟩ | refine ⟨_, h _ _ _ (dl_lab (hza _ (by omega))) (by omega) (pl_nat ‹_› hb), ?_⟩); (try rintro _ rfl)) | (refine wrap_succ ?_; omega))))
  all_goals (try simp only [Int.toNat_natCast] at *)
  all_goals first
    | (rename_i k _ hI _
       refine (congrArg rsV ?_ : rsV (some (5, dotL s (labA a k))) = _)
       exact (FstN.found hI (by omega) (lbW_neg ‹_›) rfl).symm)
    | (rename_i k _ hI _ _
       refine rs_some ‹_› ?_
       exact FstN.found hI (by omega) (lbW_pos ‹_› (by omega)) ‹_›)
    | (rename_i k _ hI _ _
       exact FstN.next hI ((lbW_pos ‹_› (by omega)).trans (rs_nof ‹_›)))
    | (rename_i k _ hI
       refine (congrArg rsV ?_ : rsV none = _)
       exact (FstN.end hI (by omega) (by omega)).symm)
    | trace_state
end Go.Proofs.YtfddakeigmpjkaaGreatDoor
