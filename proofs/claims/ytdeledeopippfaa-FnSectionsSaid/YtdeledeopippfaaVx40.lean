/- Texts for VSectionsP. -/
import Derived.Test.YtdeledeopippfaaVx33
namespace Go.Proofs.Ytdeledeopippfaa
open Go Go.RowKit
set_option linter.unusedVariables false
set_option linter.unusedSimpArgs false
section
attribute [local irreducible] IntKind.wrap gbB secG okSec
theorem ba_list {a : ByteArray} {l : List UInt8} (h : a.data.toList = l) : a = ⟨l.toArray⟩ := by
  apply ByteArray.ext
  show a.data = l.toArray
  rw [← h]
theorem ex_toL (s : ByteArray) (a b : Nat) : (s.extract a b).data.toList = (s.data.toList.take b).drop a := by
  rw [ByteArray.data_extract, Array.toList_extract]
  simp [List.extract_eq_take_drop, List.drop_take]
theorem hdr_iff (s : ByteArray) : Lib.hasPrefix s.data.toList hdrB.data.toList = true ↔ 5 ≤ s.size ∧ s.extract 0 5 = hdrB := by
  have hl : s.data.toList.length = s.size := rfl
  unfold Lib.hasPrefix
  rw [List.isPrefixOf_iff_prefix, List.prefix_iff_eq_take]
  have e : hdrB.data.toList.length = 5 := rfl
  rw [e]
  constructor
  · intro h
    have h5 : 5 ≤ s.size := by
      have := congrArg List.length h
      rw [List.length_take, hl, e] at this
      omega
    refine ⟨h5, ?_⟩
    refine ba_list ?_
    rw [ex_toL, List.drop_zero, ← h]
    rfl
  · rintro ⟨h5, h⟩
    rw [← h, ex_toL, List.drop_zero]
theorem hdr_trim {s : ByteArray} (h : Lib.hasPrefix s.data.toList hdrB.data.toList = true) : (⟨(Lib.trimPrefix s.data.toList hdrB.data.toList).toArray⟩ : ByteArray) = s.extract 5 s.size := by
  unfold Lib.trimPrefix
  rw [if_pos h]
  refine (ba_list ?_).symm
  rw [ex_toL, List.take_of_length_le (show s.data.toList.length ≤ s.size from Nat.le_of_eq rfl)]
  rfl
theorem sectionOk_3 (i : Int) (n b : ByteArray) : Ret env.P 18 [.agg [.i .i64 i, .s n, .s b]] (fun r => r = .b (pb (okSec ⟨i, n, b⟩))) := sectionOk_ok ⟨i, n, b⟩
structure SiI (s : ByteArray) (x : List Section × ByteArray × Bool) : Prop where
  sz : x.2.1.size ≤ 1048576
  n : x.1.length ≤ 21
  t : x.2.2 = true → x.1.length ≤ 20 ∧ secs (20 - x.1.length) x.2.1 x.1 = secAll s
  f : x.2.2 = false → secAll s = none
theorem si0 {s : ByteArray} (hs : s.size ≤ 1048576) : SiI s ([], ⟨(Lib.trimPrefix s.data.toList hdrB.data.toList).toArray⟩, Lib.hasPrefix s.data.toList hdrB.data.toList) := by
  have hc := hdr_iff s
  refine ⟨?_, Nat.zero_le _, fun h => ?_, fun h => ?_⟩
  · show (Lib.trimPrefix s.data.toList hdrB.data.toList).length ≤ _
    have hl : s.data.toList.length = s.size := rfl
    unfold Lib.trimPrefix
    split
    · rw [List.length_drop]; omega
    · omega
  · refine ⟨Nat.zero_le _, ?_⟩
    rw [hdr_trim h]
    exact (if_pos (hc.1 h)).symm
  · refine if_neg fun q => ?_
    rw [hc.2 q] at h
    cases h
theorem sz_ne {s : ByteArray} (h : ¬ s = ⟨#[]⟩) : 1 ≤ s.size := by
  rcases Nat.eq_zero_or_pos s.size with q | q
  · exact absurd (ByteArray.ext (Array.eq_empty_of_size_eq_zero q)) h
  · exact q
theorem SiI.fin {s : ByteArray} {x : List Section × ByteArray × Bool} (h : SiI s x) (h1 : x.2.2 = true) (h2 : x.2.1 = ⟨#[]⟩) : secAll s = some x.1 := by
  rw [← (h.t h1).2]
  exact secs_end (by rw [h2]; rfl)
theorem SiI.bad {s : ByteArray} {x : List Section × ByteArray × Bool} (h : SiI s x) (h1 : x.2.2 = true) (h2 : ¬ x.2.1 = ⟨#[]⟩) (q : ¬ secF x.2.1) : secAll s = none := by
  have := sz_ne h2
  rw [← (h.t h1).2]
  exact secs_no (by omega) (.inl q)
theorem SiI.rng {s : ByteArray} {x : List Section × ByteArray × Bool} (h : SiI s x) (h2 : ¬ x.2.1 = ⟨#[]⟩) : 0 ≤ (secG x.2.1).2.1 ∧ (secG x.2.1).2.1 + 1 ≤ x.2.1.size ∧ (secG x.2.1).1.size + 1 ≤ x.2.1.size := secG_rng (sz_ne h2)
theorem SiI.wr {s : ByteArray} {x : List Section × ByteArray × Bool} (h : SiI s x) (h2 : ¬ x.2.1 = ⟨#[]⟩) : IntKind.i64.wrap (1 + (secG x.2.1).2.1) = 1 + (secG x.2.1).2.1 := by
  obtain ⟨h3, h4, h5⟩ := h.rng h2
  have := h.sz
  exact wr64 (by omega) (by omega)
theorem secT_size {s : ByteArray} (h : 1 ≤ s.size) : (secT s).size < s.size := by
  obtain ⟨h3, h4, h5⟩ := secG_rng h
  unfold secT
  rw [ByteArray.size_extract]
  omega
theorem SiI.next {s : ByteArray} {x : List Section × ByteArray × Bool} (h : SiI s x) (h1 : x.2.2 = true) (h2 : ¬ x.2.1 = ⟨#[]⟩) {y : Section} {b : Bool} (hy : secF x.2.1 → y = secX x.2.1) (hb : b = true ↔ secF x.2.1 ∧ x.1.length < 20) : SiI s (x.1 ++ [y], secT x.2.1, b) := by
  have h0 := sz_ne h2
  obtain ⟨q1, q2⟩ := h.t h1
  have hlt := secT_size h0
  have := h.sz
  refine ⟨by show (secT x.2.1).size ≤ _; omega, by rw [List.length_append]; show x.1.length + 1 ≤ 21; omega, fun q => ?_, fun q => ?_⟩
  · obtain ⟨hF, hn⟩ := hb.1 q
    have hy := hy hF
    subst hy
    refine ⟨by rw [List.length_append]; show x.1.length + 1 ≤ 20; omega, ?_⟩
    rw [← q2]
    obtain ⟨k, hk⟩ : ∃ k, 20 - x.1.length = k + 1 := ⟨19 - x.1.length, by omega⟩
    rw [hk, secs_step (by omega) hF]
    have e1 : 20 - (x.1 ++ [secX x.2.1]).length = k := by rw [List.length_append]; show 20 - (x.1.length + 1) = k; omega
    show secs (20 - (x.1 ++ [secX x.2.1]).length) _ _ = _
    rw [e1]
  · rw [← q2]
    refine secs_no (by omega) ?_
    by_cases hF : secF x.2.1
    · right
      have : ¬ x.1.length < 20 := fun q' => by have := hb.2 ⟨hF, q'⟩; subst q; cases this
      omega
    · exact .inl hF
theorem byte_B (r : ByteArray) : IntKind.i64.wrap ((r.data.getD (Int.toNat 0) 0).toNat : Int) = secB r := by
  have hlt := UInt8.toNat_lt (r.data.getD 0 0)
  exact wr64 (by show _ ≤ ((r.data.getD 0 0).toNat : Int); omega) (by show ((r.data.getD 0 0).toNat : Int) < _; omega)
theorem si1k {s : ByteArray} {x : List Section × ByteArray × Bool} (h : SiI s x) : x.1.length ≤ 1000 := Nat.le_trans h.n (by decide)
theorem no_ok {s : ByteArray} {y : Section} {n : Nat} (h : ¬ okSec y) (e : secX s = y) : false = true ↔ secF s ∧ n < 20 := ⟨fun q => (nomatch q), fun q => absurd (e ▸ q.1.ok) h⟩
theorem no_fine {s : ByteArray} {n : Nat} (h0 : secB s = 0) (hf : (gbB (secG s).1).2.2 = false) : false = true ↔ secF s ∧ n < 20 := ⟨fun q => (nomatch q), fun q => absurd (hf.symm.trans (q.1.h h0)) (by decide)⟩
theorem si_a {s : ByteArray} (h : ¬ s = ⟨#[]⟩) : 0 < (s.size : Int) := by have := sz_ne h; omega
theorem si_b {s : ByteArray} (h : ¬ s = ⟨#[]⟩) : 1 ≤ (s.size : Int) := by have := sz_ne h; omega
theorem si_c {s : ByteArray} (h : ¬ s = ⟨#[]⟩) : 0 ≤ 1 + (secG s).2.1 := by have := secG_rng (sz_ne h); omega
theorem si_d {s : ByteArray} (h : ¬ s = ⟨#[]⟩) : 1 + (secG s).2.1 ≤ (s.size : Int) := by have := secG_rng (sz_ne h); omega
set_option maxRecDepth 8000 in
set_option maxHeartbeats 4000000 in
theorem sectionsOf_in (s : ByteArray) (hs : s.size ≤ 1048576) : RetM env.P 16 [] [.s s] (fun r H => ∃ (l : List Section) (b : Bool), r = .tup [.row 0 l.length, .b b] ∧ H = [some (rowL 3 Section.cs l)] ∧ (b = true → secAll s = some l) ∧ (b = false → secAll s = none)) := by
  have hC := cutPrefix_ok s hdrB
  have hG : ∀ x : List Section × ByteArray × Bool, SiI s x → Ret env.P 45 [.s (x.2.1.extract 1 x.2.1.size)] (fun r => r = gbR (secG x.2.1)) := fun x h => by
    have := getBytes_impl (x.2.1.extract 1 x.2.1.size) (by rw [ByteArray.size_extract]; have := h.sz; omega)
    unfold secG
    exact this
  have hH : ∀ x : List Section × ByteArray × Bool, SiI s x → ¬ x.2.1 = ⟨#[]⟩ → Ret env.P 45 [.s (secG x.2.1).1] (fun r => r = gbR (gbB (secG x.2.1).1)) := fun x h h2 => getBytes_impl _ (by have := h.sz; have := (h.rng h2).2.2; omega)
  refine ret_ofM (nt := 69) (rvs := [.tmp 2, .tmp 3]) Try.func16 rfl rfl rfl rfl (fun X hX => ?_)
  repeat' (first | omega | (with_reducible show (_ : Int) < _; dsimp only; omega) | (with_reducible show (_ : Nat) ≤ _; dsimp only; omega) | ((with_reducible show SrcOk _ _ _) <;> (first | exact srcOk_1 rfl | exact srcOk_L (fun _ => ⟨rfl, rfl⟩) | exact srcOk_E (fun _ => ⟨rfl, rfl⟩))) | ((conv => whnf) <;> (first | (refine lw_del 15 ?_; refine loopFT (fun x : List Section × ByteArray × Bool => [(4, .s x.2.1), (5, .b x.2.2), (6, .row 0 x.1.length)]) (fun x => [some (.arr ⟨3, x.1.length, elE Section.cs x.1, .arr⟩)]) (SiI s) (fun x => x.2.1.size) ([], ⟨(Lib.trimPrefix s.data.toList hdrB.data.toList).toArray⟩, Lib.hasPrefix s.data.toList hdrB.data.toList) ⟨si0 hs, ?_⟩) | exact lbz_zero rfl rfl | rw [byte_B] | rw [SiI.wr ‹_› ‹_›] | exact low_cells rfl | exact lbz_capC (si1k ‹SiI s _›) (show 40 ≤ 1000 by decide) | exact lbz_capM (si1k ‹SiI s _›) | exact srcOk_1 rfl | exact si_a ‹_› | exact si_b ‹_› | exact si_c ‹_› | exact si_d ‹_› | exact (gbB_rng _).1 | exact (gbB_rng _).2.1 | refine And.intro ?_ ?_ | (intro _h; first | contradiction | (try simp only [dd] at _h)) | (refine dt_go ?_) | exact rfl | exact True.intro | exact dkk | exact dks | ((first | refine .inl ⟨_, hC, ?_⟩ | refine ⟨_, hC, ?_⟩); (try rintro _ rfl)) | ((first | refine .inl ⟨_, hG _ ‹_›, ?_⟩ | refine ⟨_, hG _ ‹_›, ?_⟩); (try rintro _ rfl)) | ((first | refine .inl ⟨_, hH _ ‹_› ‹_›, ?_⟩ | refine ⟨_, hH _ ‹_› ‹_›, ?_⟩); (try rintro _ rfl)) | ((first | refine .inl ⟨_, sectionOk_3 _ _ _, ?_⟩ | refine ⟨_, sectionOk_3 _ _ _, ?_⟩); (try rintro _ rfl)) | (refine wrap_succ ?_; omega))))
  all_goals first
    | (rename List Section × ByteArray × Bool => x
       have hI := ‹SiI s x›
       have ht : x.2.2 = true := ‹_›
       have hne : ¬ x.2.1 = ⟨#[]⟩ := ‹_›
       have hg : (secG x.2.1).2.2 = true := by have := ‹¬ (secG x.2.1).2.2 = false›; revert this; cases (secG x.2.1).2.2 <;> simp
       have h0 : secB x.2.1 = 0 := ‹_›
       have hf : (gbB (secG x.2.1).1).2.2 = true := ‹_›
       have hk : okSec (⟨secB x.2.1, (gbB (secG x.2.1).1).1, (secG x.2.1).1.extract (gbB (secG x.2.1).1).2.1.toNat (secG x.2.1).1.size⟩ : Section) := ‹_›
       conv => whnf
       refine roundET_turn (turn_eq (id := 3) (x := rowL 3 Section.cs (x.1 ++ [(⟨secB x.2.1, (gbB (secG x.2.1).1).1, (secG x.2.1).1.extract (gbB (secG x.2.1).1).2.1.toNat (secG x.2.1).1.size⟩ : Section)])) rfl rfl lbz_len.symm rfl rfl (snoc_eq (l := x.1) (sz := 3) (a := (⟨secB x.2.1, (gbB (secG x.2.1).1).1, (secG x.2.1).1.extract (gbB (secG x.2.1).1).2.1.toNat (secG x.2.1).1.size⟩ : Section)) (c := Section.cs) rfl (fun j hj => by
         rcases j with _ | _ | _ | j
         · exact .refl _
         · exact .refl _
         · exact .refl _
         · omega))) ?_
       refine roundET_end ?_
       refine ⟨(x.1 ++ [(⟨secB x.2.1, (gbB (secG x.2.1).1).1, (secG x.2.1).1.extract (gbB (secG x.2.1).1).2.1.toNat (secG x.2.1).1.size⟩ : Section)], secT x.2.1, decide ((x.1.length : Int) < 20)), [3], hI.next ht hne (fun hF => (secX_0 h0).symm) (by rw [decide_eq_true_iff]; exact ⟨fun q => ⟨⟨hg, fun _ => hf, by rw [secX_0 h0]; exact hk⟩, by omega⟩, fun q => by have := q.2; omega⟩), secT_size (sz_ne hne), ?_⟩
       repeat' (first | omega | (with_reducible show (_ : Int) < _; dsimp only; omega) | (with_reducible show (_ : Nat) ≤ _; dsimp only; omega) | ((with_reducible show SrcOk _ _ _) <;> (first | exact srcOk_1 rfl | exact srcOk_L (fun _ => ⟨rfl, rfl⟩) | exact srcOk_E (fun _ => ⟨rfl, rfl⟩))) | ((conv => whnf) <;> (first | exact arr_same rfl rfl (fun a j => low_cells rfl) | exact low_cells rfl | exact lbz_len | exact lbz_rho hX ‹_› | exact rfl | refine And.intro ?_ ?_ | (intro _h; first | contradiction | (try simp only [dd] at _h)) | (refine dt_go ?_) | exact rfl | exact True.intro | exact dkk | exact dks | (refine wrap_succ ?_; omega)))))
    | (rename List Section × ByteArray × Bool => x
       have hI := ‹SiI s x›
       have ht : x.2.2 = true := ‹_›
       have hne : ¬ x.2.1 = ⟨#[]⟩ := ‹_›
       have hg : (secG x.2.1).2.2 = true := by have := ‹¬ (secG x.2.1).2.2 = false›; revert this; cases (secG x.2.1).2.2 <;> simp
       have h0 : secB x.2.1 = 0 := ‹_›
       have hk : ¬ okSec (⟨secB x.2.1, (gbB (secG x.2.1).1).1, (secG x.2.1).1.extract (gbB (secG x.2.1).1).2.1.toNat (secG x.2.1).1.size⟩ : Section) := ‹_›
       conv => whnf
       refine roundET_turn (turn_eq (id := 3) (x := rowL 3 Section.cs (x.1 ++ [(⟨secB x.2.1, (gbB (secG x.2.1).1).1, (secG x.2.1).1.extract (gbB (secG x.2.1).1).2.1.toNat (secG x.2.1).1.size⟩ : Section)])) rfl rfl lbz_len.symm rfl rfl (snoc_eq (l := x.1) (sz := 3) (a := (⟨secB x.2.1, (gbB (secG x.2.1).1).1, (secG x.2.1).1.extract (gbB (secG x.2.1).1).2.1.toNat (secG x.2.1).1.size⟩ : Section)) (c := Section.cs) rfl (fun j hj => by
         rcases j with _ | _ | _ | j
         · exact .refl _
         · exact .refl _
         · exact .refl _
         · omega))) ?_
       refine roundET_end ?_
       refine ⟨(x.1 ++ [(⟨secB x.2.1, (gbB (secG x.2.1).1).1, (secG x.2.1).1.extract (gbB (secG x.2.1).1).2.1.toNat (secG x.2.1).1.size⟩ : Section)], secT x.2.1, false), [3], hI.next ht hne (fun hF => (secX_0 h0).symm) (no_ok hk (secX_0 h0)), secT_size (sz_ne hne), ?_⟩
       repeat' (first | omega | (with_reducible show (_ : Int) < _; dsimp only; omega) | (with_reducible show (_ : Nat) ≤ _; dsimp only; omega) | ((with_reducible show SrcOk _ _ _) <;> (first | exact srcOk_1 rfl | exact srcOk_L (fun _ => ⟨rfl, rfl⟩) | exact srcOk_E (fun _ => ⟨rfl, rfl⟩))) | ((conv => whnf) <;> (first | exact arr_same rfl rfl (fun a j => low_cells rfl) | exact low_cells rfl | exact lbz_len | exact lbz_rho hX ‹_› | exact rfl | refine And.intro ?_ ?_ | (intro _h; first | contradiction | (try simp only [dd] at _h)) | (refine dt_go ?_) | exact rfl | exact True.intro | exact dkk | exact dks | (refine wrap_succ ?_; omega)))))
    | (rename List Section × ByteArray × Bool => x
       have hI := ‹SiI s x›
       have ht : x.2.2 = true := ‹_›
       have hne : ¬ x.2.1 = ⟨#[]⟩ := ‹_›
       have hg : (secG x.2.1).2.2 = true := by have := ‹¬ (secG x.2.1).2.2 = false›; revert this; cases (secG x.2.1).2.2 <;> simp
       have h0 : secB x.2.1 = 0 := ‹_›
       have hf : (gbB (secG x.2.1).1).2.2 = false := ‹_›
       conv => whnf
       refine roundET_turn (turn_eq (id := 3) (x := rowL 3 Section.cs (x.1 ++ [(⟨secB x.2.1, (gbB (secG x.2.1).1).1, (secG x.2.1).1.extract (gbB (secG x.2.1).1).2.1.toNat (secG x.2.1).1.size⟩ : Section)])) rfl rfl lbz_len.symm rfl rfl (snoc_eq (l := x.1) (sz := 3) (a := (⟨secB x.2.1, (gbB (secG x.2.1).1).1, (secG x.2.1).1.extract (gbB (secG x.2.1).1).2.1.toNat (secG x.2.1).1.size⟩ : Section)) (c := Section.cs) rfl (fun j hj => by
         rcases j with _ | _ | _ | j
         · exact .refl _
         · exact .refl _
         · exact .refl _
         · omega))) ?_
       refine roundET_end ?_
       refine ⟨(x.1 ++ [(⟨secB x.2.1, (gbB (secG x.2.1).1).1, (secG x.2.1).1.extract (gbB (secG x.2.1).1).2.1.toNat (secG x.2.1).1.size⟩ : Section)], secT x.2.1, false), [3], hI.next ht hne (fun hF => (secX_0 h0).symm) (no_fine h0 hf), secT_size (sz_ne hne), ?_⟩
       repeat' (first | omega | (with_reducible show (_ : Int) < _; dsimp only; omega) | (with_reducible show (_ : Nat) ≤ _; dsimp only; omega) | ((with_reducible show SrcOk _ _ _) <;> (first | exact srcOk_1 rfl | exact srcOk_L (fun _ => ⟨rfl, rfl⟩) | exact srcOk_E (fun _ => ⟨rfl, rfl⟩))) | ((conv => whnf) <;> (first | exact arr_same rfl rfl (fun a j => low_cells rfl) | exact low_cells rfl | exact lbz_len | exact lbz_rho hX ‹_› | exact rfl | refine And.intro ?_ ?_ | (intro _h; first | contradiction | (try simp only [dd] at _h)) | (refine dt_go ?_) | exact rfl | exact True.intro | exact dkk | exact dks | (refine wrap_succ ?_; omega)))))
    | (rename List Section × ByteArray × Bool => x
       have hI := ‹SiI s x›
       have ht : x.2.2 = true := ‹_›
       have hne : ¬ x.2.1 = ⟨#[]⟩ := ‹_›
       have hg : (secG x.2.1).2.2 = true := by have := ‹¬ (secG x.2.1).2.2 = false›; revert this; cases (secG x.2.1).2.2 <;> simp
       have h0 : ¬ secB x.2.1 = 0 := ‹_›
       have hk : okSec (⟨secB x.2.1, ⟨#[]⟩, (secG x.2.1).1⟩ : Section) := ‹_›
       conv => whnf
       refine roundET_turn (turn_eq (id := 3) (x := rowL 3 Section.cs (x.1 ++ [(⟨secB x.2.1, ⟨#[]⟩, (secG x.2.1).1⟩ : Section)])) rfl rfl lbz_len.symm rfl rfl (snoc_eq (l := x.1) (sz := 3) (a := (⟨secB x.2.1, ⟨#[]⟩, (secG x.2.1).1⟩ : Section)) (c := Section.cs) rfl (fun j hj => by
         rcases j with _ | _ | _ | j
         · exact .refl _
         · exact .refl _
         · exact .refl _
         · omega))) ?_
       refine roundET_end ?_
       refine ⟨(x.1 ++ [(⟨secB x.2.1, ⟨#[]⟩, (secG x.2.1).1⟩ : Section)], secT x.2.1, decide ((x.1.length : Int) < 20)), [3], hI.next ht hne (fun hF => (secX_1 h0).symm) (by rw [decide_eq_true_iff]; exact ⟨fun q => ⟨⟨hg, fun q => absurd q h0, by rw [secX_1 h0]; exact hk⟩, by omega⟩, fun q => by have := q.2; omega⟩), secT_size (sz_ne hne), ?_⟩
       repeat' (first | omega | (with_reducible show (_ : Int) < _; dsimp only; omega) | (with_reducible show (_ : Nat) ≤ _; dsimp only; omega) | ((with_reducible show SrcOk _ _ _) <;> (first | exact srcOk_1 rfl | exact srcOk_L (fun _ => ⟨rfl, rfl⟩) | exact srcOk_E (fun _ => ⟨rfl, rfl⟩))) | ((conv => whnf) <;> (first | exact arr_same rfl rfl (fun a j => low_cells rfl) | exact low_cells rfl | exact lbz_len | exact lbz_rho hX ‹_› | exact rfl | refine And.intro ?_ ?_ | (intro _h; first | contradiction | (try simp only [dd] at _h)) | (refine dt_go ?_) | exact rfl | exact True.intro | exact dkk | exact dks | (refine wrap_succ ?_; omega)))))
    | (rename List Section × ByteArray × Bool => x
       have hI := ‹SiI s x›
       have ht : x.2.2 = true := ‹_›
       have hne : ¬ x.2.1 = ⟨#[]⟩ := ‹_›
       have hg : (secG x.2.1).2.2 = true := by have := ‹¬ (secG x.2.1).2.2 = false›; revert this; cases (secG x.2.1).2.2 <;> simp
       have h0 : ¬ secB x.2.1 = 0 := ‹_›
       have hk : ¬ okSec (⟨secB x.2.1, ⟨#[]⟩, (secG x.2.1).1⟩ : Section) := ‹_›
       conv => whnf
       refine roundET_turn (turn_eq (id := 3) (x := rowL 3 Section.cs (x.1 ++ [(⟨secB x.2.1, ⟨#[]⟩, (secG x.2.1).1⟩ : Section)])) rfl rfl lbz_len.symm rfl rfl (snoc_eq (l := x.1) (sz := 3) (a := (⟨secB x.2.1, ⟨#[]⟩, (secG x.2.1).1⟩ : Section)) (c := Section.cs) rfl (fun j hj => by
         rcases j with _ | _ | _ | j
         · exact .refl _
         · exact .refl _
         · exact .refl _
         · omega))) ?_
       refine roundET_end ?_
       refine ⟨(x.1 ++ [(⟨secB x.2.1, ⟨#[]⟩, (secG x.2.1).1⟩ : Section)], secT x.2.1, false), [3], hI.next ht hne (fun hF => (secX_1 h0).symm) (no_ok hk (secX_1 h0)), secT_size (sz_ne hne), ?_⟩
       repeat' (first | omega | (with_reducible show (_ : Int) < _; dsimp only; omega) | (with_reducible show (_ : Nat) ≤ _; dsimp only; omega) | ((with_reducible show SrcOk _ _ _) <;> (first | exact srcOk_1 rfl | exact srcOk_L (fun _ => ⟨rfl, rfl⟩) | exact srcOk_E (fun _ => ⟨rfl, rfl⟩))) | ((conv => whnf) <;> (first | exact arr_same rfl rfl (fun a j => low_cells rfl) | exact low_cells rfl | exact lbz_len | exact lbz_rho hX ‹_› | exact rfl | refine And.intro ?_ ?_ | (intro _h; first | contradiction | (try simp only [dd] at _h)) | (refine dt_go ?_) | exact rfl | exact True.intro | exact dkk | exact dks | (refine wrap_succ ?_; omega)))))
    | (exfalso
       exact absurd ‹(secG _).2.2 = false› ‹_›)
    | (rename List Section × ByteArray × Bool => x
       have hI := ‹SiI s x›
       have hg : (secG x.2.1).2.2 = false := ‹_›
       conv => whnf
       exact endM_pick [0] [some (rowL 3 Section.cs x.1)] (.tup [.row 0 x.1.length, .b (secG x.2.1).2.2]) (view_of rfl (.cons rfl (.self (rowPl_L fun _ => rfl)) .nil)) rfl rfl (fun k hk => by rw [hX] at hk; exact absurd hk (Nat.not_lt_zero _)) ⟨x.1, (secG x.2.1).2.2, rfl, rfl, fun q => absurd (hg.symm.trans q) (by decide), fun _ => hI.bad ‹_› ‹_› (fun q => absurd (hg.symm.trans q.g) (by decide))⟩)
    | (rename List Section × ByteArray × Bool => x
       have hI := ‹SiI s x›
       have ht : x.2.2 = true := ‹_›
       have he : x.2.1 = ⟨#[]⟩ := ‹_›
       conv => whnf
       exact endM_pick [0] [some (rowL 3 Section.cs x.1)] (.tup [.row 0 x.1.length, .b x.2.2]) (view_of rfl (.cons rfl (.self (rowPl_L fun _ => rfl)) .nil)) rfl rfl (fun k hk => by rw [hX] at hk; exact absurd hk (Nat.not_lt_zero _)) ⟨x.1, x.2.2, rfl, rfl, fun q => hI.fin ht he, hI.f⟩)
    | (rename List Section × ByteArray × Bool => x
       have hI := ‹SiI s x›
       have hf : x.2.2 = false := ‹_›
       conv => whnf
       exact endM_pick [0] [some (rowL 3 Section.cs x.1)] (.tup [.row 0 x.1.length, .b x.2.2]) (view_of rfl (.cons rfl (.self (rowPl_L fun _ => rfl)) .nil)) rfl rfl (fun k hk => by rw [hX] at hk; exact absurd hk (Nat.not_lt_zero _)) ⟨x.1, x.2.2, rfl, rfl, fun q => absurd (hf.symm.trans q) (by decide), hI.f⟩)
    | trace_state
end
section
attribute [local irreducible] IntKind.wrap
theorem bsN_ext (s : ByteArray) (a b : Nat) : bsN (s.extract a b) = ((bsN s).take b).drop a := by
  unfold bsN
  rw [ex_toL, List.map_drop, List.map_take]
theorem bsN_tail {s : ByteArray} {a : Nat} : bsN (s.extract a s.size) = (bsN s).drop a := by
  rw [bsN_ext, List.take_of_length_le (by rw [bsN_len]; exact Nat.le_refl _)]
theorem getL_canon {b : ByteArray} (h : (getL b).2.2 = true) : lebL (getL b).1.toNat = (bsN b).take (getL b).2.1.toNat ∧ (getL b).2.1.toNat ≤ b.size := by
  unfold getL at h ⊢
  cases e : fstI b 9 with
  | none => rw [e] at h; cases h
  | some i =>
    obtain ⟨h1, h2, h3, h4⟩ := fstI_get e
    rw [e] at h
    dsimp only at h ⊢
    split at h
    · rename_i hc
      rw [if_pos hc]
      have hq := (canon h1 h3 h4).2 hc
      rw [baN_eq (lebL_lt _), bsN_take (by omega)] at hq
      show lebL (Int.toNat ((decL ((bsN b).take (i + 1)) : Nat) : Int)) = (bsN b).take ((i : Int) + 1).toNat ∧ ((i : Int) + 1).toNat ≤ b.size
      rw [Int.toNat_natCast, hq, show ((i : Int) + 1).toNat = i + 1 by omega]
      exact ⟨rfl, by omega⟩
    · exact absurd h (by decide)
theorem gbB_canon {s : ByteArray} (h : (gbB s).2.2 = true) : bsN s = putB (gbB s).1 ++ (bsN s).drop (gbB s).2.1.toNat := by
  have hr := getL_rng s
  by_cases hc : (getL s).2.2 = true ∧ (getL s).1 ≤ (s.size : Int) - (getL s).2.1
  · obtain ⟨q1, q2⟩ := getL_canon hc.1
    rw [gb_ok hc.1 hc.2]
    show bsN s = putB (s.extract (getL s).2.1.toNat ((getL s).2.1 + (getL s).1).toNat) ++ (bsN s).drop ((getL s).2.1 + (getL s).1).toNat
    have e : ((getL s).2.1 + (getL s).1).toNat = (getL s).2.1.toNat + (getL s).1.toNat := by omega
    unfold putB
    rw [bsN_ext, ByteArray.size_extract, e, show min ((getL s).2.1.toNat + (getL s).1.toNat) s.size - (getL s).2.1.toNat = (getL s).1.toNat by omega, q1, List.append_assoc]
    rw [← List.drop_append_of_le_length (by rw [List.length_take, bsN_len]; omega), List.take_append_drop, List.take_append_drop]
  · rw [gb_no hc] at h
    exact absurd h (by decide)
theorem bsN_head {s : ByteArray} (h : 1 ≤ s.size) : bsN s = (s.data.getD 0 0).toNat :: bsN (s.extract 1 s.size) := by
  rw [bsN_tail, ← bsN_at]
  have hl : 0 < (bsN s).length := by rw [bsN_len]; exact h
  cases hb : bsN s with
  | nil => rw [hb] at hl; exact absurd hl (by decide)
  | cons a l => rfl
theorem bsN_hdr : bsN hdrB = headN := rfl
theorem by_zero {n b : ByteArray} : Section.by ⟨0, n, b⟩ = 0 :: putN (putB n ++ bsN b) := rfl
theorem by_else {i : Int} {n b : ByteArray} (h : ¬ i = 0) : Section.by ⟨i, n, b⟩ = i.toNat :: putB b := if_neg h
attribute [local irreducible] gbB secG okSec Section.by bsN putB putN
theorem sec_bytes {s : ByteArray} (h : 1 ≤ s.size) (hf : secF s) : bsN s = (secX s).by ++ bsN (secT s) := by
  obtain ⟨r1, r2, r3⟩ := secG_rng h
  have hg := hf.g
  have e1 : bsN (s.extract 1 s.size) = putB (secG s).1 ++ (bsN (s.extract 1 s.size)).drop (secG s).2.1.toNat := by
    unfold secG at hg ⊢
    exact gbB_canon hg
  have e2 : bsN (secT s) = (bsN (s.extract 1 s.size)).drop (secG s).2.1.toNat := by
    unfold secT
    rw [bsN_tail, bsN_tail, List.drop_drop, show (1 + (secG s).2.1).toNat = 1 + (secG s).2.1.toNat by omega]
  have e0 : (s.data.getD 0 0).toNat = (secB s).toNat := (Int.toNat_natCast _).symm
  have e3 : bsN s = (secB s).toNat :: (putB (secG s).1 ++ bsN (secT s)) := by
    rw [e2, ← e1, ← e0]
    exact bsN_head h
  by_cases h0 : secB s = 0
  · have e4 : (secX s).by = 0 :: putB (secG s).1 := by
      rw [secX_0 h0, h0, by_zero, bsN_tail, ← gbB_canon (hf.h h0), putN_bs]
    rw [e3, e4, h0]
    rfl
  · have e4 : (secX s).by = (secB s).toNat :: putB (secG s).1 := by rw [secX_1 h0, by_else h0]
    rw [e3, e4]
    rfl
theorem secs_bytes : ∀ (n : Nat) (s : ByteArray) (acc l : List Section), secs n s acc = some l → ∃ l', l = acc ++ l' ∧ bsN s = l'.flatMap Section.by
  | 0, s, acc, l, h => by
    unfold secs at h
    split at h
    · rename_i e
      refine ⟨[], by rw [List.append_nil]; exact (Option.some.inj h).symm, ?_⟩
      exact List.length_eq_zero_iff.1 (by rw [bsN_len]; exact e)
    · exact absurd h (by simp)
  | n + 1, s, acc, l, h => by
    unfold secs at h
    split at h
    · rename_i e
      refine ⟨[], by rw [List.append_nil]; exact (Option.some.inj h).symm, ?_⟩
      exact List.length_eq_zero_iff.1 (by rw [bsN_len]; exact e)
    · rename_i e
      split at h
      · rename_i hf
        obtain ⟨l', e1, e2⟩ := secs_bytes n _ _ _ h
        refine ⟨secX s :: l', by rw [e1, List.append_assoc]; rfl, ?_⟩
        rw [sec_bytes (by omega) hf, e2, List.flatMap_cons]
      · exact absurd h (by simp)
theorem secAll_bytes {s : ByteArray} {l : List Section} (h : secAll s = some l) : baN (allN l l.length) = s := by
  unfold secAll at h
  split at h
  · rename_i hc
    obtain ⟨l', e1, e2⟩ := secs_bytes _ _ _ _ h
    rw [List.nil_append] at e1
    subst e1
    have e3 : bsN s = headN ++ l.flatMap Section.by := by
      rw [← e2, bsN_tail]
      have : bsN (s.extract 0 5) = headN := by rw [hc.2, bsN_hdr]
      rw [bsN_ext, List.drop_zero] at this
      rw [← this, List.take_append_drop]
    unfold allN
    rw [List.take_length, ← e3, baN_bs]
  · exact absurd h (by simp)
end
end Go.Proofs.Ytdeledeopippfaa
