/- Texts for VWithOwnP. -/
import Derived.Test.YtfaadafgbhmlfaaVw33
import Derived.Test.YtfaadafgbhmlfaaVw34
namespace Go.Proofs.Ytfaadafgbhmlfaa
open Go Go.RowKit
set_option linter.unusedVariables false
set_option linter.unusedSimpArgs false
section
attribute [local irreducible] gbB secG okSec
def SecsOk (B : Nat) (l : List Section) : Prop := ∀ x ∈ l, okSec x ∧ x.bytes.size ≤ B
theorem secX_small {s : ByteArray} (h : 1 ≤ s.size) : (secX s).bytes.size ≤ s.size := by
  obtain ⟨q1, q2, q3⟩ := secG_rng h
  by_cases h0 : secB s = 0
  · rw [secX_0 h0]
    show ((secG s).1.extract _ _).size ≤ _
    rw [ByteArray.size_extract]
    omega
  · rw [secX_1 h0]
    show (secG s).1.size ≤ _
    omega
theorem secs_ok {B : Nat} : ∀ (n : Nat) (s : ByteArray) (acc l : List Section), s.size ≤ B → acc.length + n ≤ 20 → SecsOk B acc → secs n s acc = some l → l.length ≤ 20 ∧ SecsOk B l
  | n, s, acc, l, hs, hn, ha, h => by
    by_cases hz : s.size = 0
    · rw [secs_end hz] at h
      cases h
      exact ⟨by omega, ha⟩
    by_cases hf : secF s ∧ n ≠ 0
    · obtain ⟨k, rfl⟩ : ∃ k, n = k + 1 := ⟨n - 1, by omega⟩
      rw [secs_step hz hf.1] at h
      have hlt : (secT s).size ≤ s.size := by unfold secT; rw [ByteArray.size_extract]; omega
      refine secs_ok k (secT s) _ l (by omega) (by rw [List.length_append]; show acc.length + 1 + k ≤ 20; omega) (fun x hx => ?_) h
      rcases List.mem_append.1 hx with q | q
      · exact ha x q
      · rw [List.mem_singleton.1 q]
        exact ⟨hf.1.ok, Nat.le_trans (secX_small (by omega)) hs⟩
    · rw [secs_no hz (by by_cases q : secF s; · right; exact Classical.not_not.1 fun q' => hf ⟨q, q'⟩
                         · exact .inl q)] at h
      cases h
theorem secAll_ok {s : ByteArray} {l : List Section} (h : secAll s = some l) : l.length ≤ 20 ∧ SecsOk s.size l := by
  unfold secAll at h
  split at h
  · exact secs_ok 20 _ [] l (by rw [ByteArray.size_extract]; omega) (by decide) (fun x hx => by simp at hx) h
  · cases h
theorem soL_ok (s : ByteArray) : (soL s).length ≤ 20 ∧ SecsOk s.size (soL s) := by
  have e : (([] : List Section).length ≤ 20 ∧ SecsOk s.size []) := ⟨by decide, fun x hx => by simp at hx⟩
  by_cases h : 30000 < s.size
  · rw [(so_4 h).1]; exact e
  · cases q : secAll s with
    | none => rw [(so_18 h q).1]; exact e
    | some l => rw [(so_0 h q).1]; exact secAll_ok q
theorem okSec_fit {x : Section} (h : okSec x) (hb : x.bytes.size ≤ 10000000) : x.fit := by
  unfold okSec at h
  rcases h with ⟨h1, h2⟩ | ⟨h1, h2⟩
  · exact ⟨by omega, by have := h2.hi; omega, hb⟩
  · exact ⟨by omega, by rw [h2]; exact Nat.zero_le _, hb⟩
def woL (l : List Section) (at' : Int) (x : Section) : List Section := l.take at'.toNat ++ [x] ++ l.drop at'.toNat
theorem woL_fit {l : List Section} {at' : Int} {x : Section} {B : Nat} (hl : l.length ≤ 20) (h : SecsOk B l) (hB : B ≤ 10000000) (hx : x.fit) : Fit (woL l at' x) := by
  have hlen : (woL l at' x).length = l.length + 1 := by unfold woL; simp; omega
  refine ⟨by rw [hlen]; omega, fun k hk => ?_⟩
  have hm : (woL l at' x).getD k default ∈ woL l at' x := by
    rw [List.getD_eq_getElem?_getD, List.getElem?_eq_getElem hk]
    exact List.getElem_mem hk
  have : ∀ y ∈ woL l at' x, y = x ∨ y ∈ l := fun y hy => by
    unfold woL at hy
    rcases List.mem_append.1 hy with hy | hy
    · rcases List.mem_append.1 hy with hy | hy
      · exact .inr (List.mem_of_mem_take hy)
      · exact .inl (List.mem_singleton.1 hy)
    · exact .inr (List.mem_of_mem_drop hy)
  rcases this _ hm with q | q
  · rw [q]; exact hx
  · exact okSec_fit (h _ q).1 (Nat.le_trans (h _ q).2 hB)
noncomputable def woR (s : ByteArray) (at' : Int) (nm bs : ByteArray) : ByteArray × Int :=
  bif pb (soC s ≠ 0) then (⟨#[]⟩, soC s)
  else bif pb (¬ (0 ≤ at' ∧ at' ≤ (soL s).length) ∨ ¬ owB nm) then (⟨#[]⟩, 2)
  else bif pb (20 ≤ (soL s).length ∨ 30000 < bs.size ∨ 30000 < (allN (woL (soL s) at' ⟨0, nm, bs⟩) (woL (soL s) at' ⟨0, nm, bs⟩).length).length) then (⟨#[]⟩, 4)
  else (baN (allN (woL (soL s) at' ⟨0, nm, bs⟩) (woL (soL s) at' ⟨0, nm, bs⟩).length), 0)
def woV (v : ByteArray × Int) : AV := .tup [.s v.1, .i .i64 v.2]
theorem wo_1 {s nm bs : ByteArray} {at' : Int} (h : ¬ soC s = 0) : woR s at' nm bs = (⟨#[]⟩, soC s) := by unfold woR; rw [pb_t.mpr h]; rfl
theorem wo_2 {s nm bs : ByteArray} {at' : Int} (h : soC s = 0) (h2 : ¬ (0 ≤ at' ∧ at' ≤ (soL s).length) ∨ ¬ owB nm) : woR s at' nm bs = (⟨#[]⟩, 2) := by unfold woR; rw [pb_f.mpr (fun q => q h), pb_t.mpr h2]; rfl
theorem wo_4 {s nm bs : ByteArray} {at' : Int} (h : soC s = 0) (h1 : 0 ≤ at' ∧ at' ≤ (soL s).length) (h2 : owB nm) (h3 : 20 ≤ (soL s).length ∨ 30000 < bs.size ∨ 30000 < (allN (woL (soL s) at' ⟨0, nm, bs⟩) (woL (soL s) at' ⟨0, nm, bs⟩).length).length) : woR s at' nm bs = (⟨#[]⟩, 4) := by unfold woR; rw [pb_f.mpr (fun q => q h), pb_f.mpr (fun q => q.elim (fun q => q h1) (fun q => q h2)), pb_t.mpr h3]; rfl
theorem wo_0 {s nm bs : ByteArray} {at' : Int} (h : soC s = 0) (h1 : 0 ≤ at' ∧ at' ≤ (soL s).length) (h2 : owB nm) (h3 : ¬ (20 ≤ (soL s).length ∨ 30000 < bs.size ∨ 30000 < (allN (woL (soL s) at' ⟨0, nm, bs⟩) (woL (soL s) at' ⟨0, nm, bs⟩).length).length)) : woR s at' nm bs = (baN (allN (woL (soL s) at' ⟨0, nm, bs⟩) (woL (soL s) at' ⟨0, nm, bs⟩).length), 0) := by unfold woR; rw [pb_f.mpr (fun q => q h), pb_f.mpr (fun q => q.elim (fun q => q h1) (fun q => q h2)), pb_f.mpr h3]; rfl
theorem baN_gt {l : List Nat} (h : 30000 < ((baN l).size : Int)) : 30000 < l.length := by rw [← baN_size l]; omega
theorem baN_ngt {l : List Nat} (h : ¬ 30000 < ((baN l).size : Int)) : ¬ 30000 < l.length := by rw [← baN_size l]; omega
theorem wo_g {l : List Section} {at' : Int} {x : Section} (h : 0 ≤ at' ∧ at' ≤ l.length) {e0 g1 : Nat → Nat → AV} (h1 : ∀ j, j < 3 → g1 0 j = x.cs.getD j .any) : ∀ i j, i < 0 + (at' - 0).toNat + 1 + ((l.length : Int) - at').toNat → j < 3 →
    catE (0 + (at' - 0).toNat + 1) (catE (0 + (at' - 0).toNat) (catE 0 e0 (fun i j => (l.getD (Int.toNat 0 + i) default).cs.getD j .any)) g1) (fun i j => (l.getD (at'.toNat + i) default).cs.getD j .any) i j = elE Section.cs (woL l at' x) i j := fun i j hi hj => by
  have hw : ∀ y, (woL l at' x).getD i default = y → elE Section.cs (woL l at' x) i j = y.cs.getD j .any := fun y e => by rw [← e]; rfl
  have hlen : (l.take at'.toNat).length = at'.toNat := by rw [List.length_take]; omega
  have hA : (l.take at'.toNat ++ [x]).length = at'.toNat + 1 := by rw [List.length_append, hlen]; rfl
  by_cases c1 : i < at'.toNat
  · rw [catE_lt (by omega), catE_lt (by omega), catE_ge (by omega)]
    refine (hw (l.getD (Int.toNat 0 + (i - 0)) default) ?_).symm
    unfold woL
    rw [List.getD_eq_getElem?_getD, List.getElem?_append_left (by omega), List.getElem?_append_left (by omega), List.getElem?_take, if_pos c1, List.getD_eq_getElem?_getD, show Int.toNat 0 + (i - 0) = i from by simp]
  · by_cases c2 : i = at'.toNat
    · rw [catE_lt (by omega), catE_ge (by omega)]
      rw [show i - (0 + (at' - 0).toNat) = 0 by omega, h1 j hj]
      refine (hw x ?_).symm
      unfold woL
      rw [List.getD_eq_getElem?_getD, List.getElem?_append_left (by omega), List.getElem?_append_right (by omega), hlen, c2, Nat.sub_self]
      rfl
    · rw [catE_ge (by omega)]
      refine (hw (l.getD (at'.toNat + (i - (0 + (at' - 0).toNat + 1))) default) ?_).symm
      unfold woL
      rw [List.getD_eq_getElem?_getD, List.getElem?_append_right (by omega), hA, List.getElem?_drop, List.getD_eq_getElem?_getD]
      congr 2
      omega
theorem wo_sl {l : List Section} {n : Nat} {H : Hp} {g : Nat → Nat → AV} (hn : n = l.length) (h : ∀ i j, i < n → j < 3 → g i j = elE Section.cs l i j) : Wk (.sl 3 n fun i j => shrC 4 H (g i j)) (slL 3 Section.cs l) := by
  subst hn
  refine Wk.sl fun i j hi hj => ?_
  rw [h i j hi hj]
  rcases (show j = 0 ∨ j = 1 ∨ j = 2 by omega) with rfl | rfl | rfl <;> exact .refl _
theorem wo_n {l : List Section} {at' : Int} {x : Section} (h : 0 ≤ at' ∧ at' ≤ l.length) : 0 + (at' - 0).toNat + 1 + ((l.length : Int) - at').toNat = (woL l at' x).length := by
  unfold woL
  rw [List.length_append, List.length_append, List.length_take, List.length_drop]
  show _ = _ + 1 + _
  omega
theorem srcOk_sec {m o : Nat} {l : List Section} : SrcOk m 3 (fun i j => (l.getD (o + i) default).cs.getD j .any) := ⟨fun i j hi hj => by
  rcases (show j = 0 ∨ j = 1 ∨ j = 2 by omega) with rfl | rfl | rfl <;> rfl⟩
theorem wo_cap1 {n b : Nat} (h : n ≤ 1000) (hb : b ≤ 1000 := by decide) : n * b ≤ 140737488355328 := Nat.le_trans (Nat.mul_le_mul h hb) (by decide)
theorem wo_cap2 {n : Nat} (h : n ≤ 1000) : n ≤ 9223372036854775807 := by omega
set_option maxRecDepth 8000 in
set_option maxHeartbeats 4000000 in
theorem withOwn_spec (s : ByteArray) (at' : Int) (nm bs : ByteArray) (hs : s.size ≤ 1048576) (hb : bs.size ≤ 1048576) : RetM env.P 4 [] [.s s, .i .i64 at', .s nm, .s bs] (fun r H => r = woV (woR s at' nm bs) ∧ H = []) := by
  obtain ⟨hl, ho⟩ := soL_ok s
  have hS := sectionsOf_spec s hs
  have hT : owB nm → RetM env.P 9 [] [slL 3 Section.cs (woL (soL s) at' ⟨0, nm, bs⟩)] (fun r H => r = .s (baN (allN (woL (soL s) at' ⟨0, nm, bs⟩) (woL (soL s) at' ⟨0, nm, bs⟩).length)) ∧ H = []) := fun h => allM_spec _ (woL_fit hl ho (by omega) (okSec_fit ((ok_own (x := ⟨0, nm, bs⟩) rfl).1 h) (by show bs.size ≤ _; omega)))
  refine ret_ofM (nt := 61) (rvs := [.tmp 8, .tmp 9]) Try.func4 rfl rfl rfl rfl (fun X hX => ?_)
  repeat' (first | omega | (with_reducible show (_ : Int) < _; dsimp only; omega) | (with_reducible show (_ : Nat) ≤ _; dsimp only; omega) | ((with_reducible show SrcOk _ _ _) <;> (first | exact srcOk_1 rfl | exact srcOk_L (fun _ => ⟨rfl, rfl⟩) | exact srcOk_E (fun _ => ⟨rfl, rfl⟩))) | ((conv => whnf) <;> (first | exact srcOk_sec | exact wo_cap1 (by omega) | exact wo_cap2 (by omega) | ((refine .inr (.inl (.inr (.inl ⟨_, RetM.wk (.cons (wo_sl (wo_n ‹_›) (wo_g (e0 := fun _ _ => .any) ‹_› (fun j hj => by rcases (show j = 0 ∨ j = 1 ∨ j = 2 by omega) with rfl | rfl | rfl <;> rfl))) .nil) (hT (Classical.not_not.1 ‹_›)), ?_⟩))); rintro _ _ ⟨rfl, rfl⟩; refine ⟨⟨rfl, rowsNs_nil⟩, _, lok_pl RowsPl.nil, ?_⟩)) | refine And.intro ?_ ?_ | (intro _h; first | contradiction | (try simp only [dd] at _h)) | (refine dt_go ?_) | exact rfl | exact True.intro | exact dkk | exact dks | ((first | refine .inl ⟨_, hS, ?_⟩ | refine ⟨_, hS, ?_⟩); (try rintro _ rfl)) | ((first | refine .inl ⟨_, l00In_ok _ _ _, ?_⟩ | refine ⟨_, l00In_ok _ _ _, ?_⟩); (try rintro _ rfl)) | ((first | refine .inl ⟨_, l17Name_ok _, ?_⟩ | refine ⟨_, l17Name_ok _, ?_⟩); (try rintro _ rfl)) | (refine wrap_succ ?_; omega))))
  all_goals first
    | (conv => whnf
       exact endM_self ⟨by rw [wo_1 ‹_›]; rfl, rfl⟩)
    | (conv => whnf
       exact endM_self ⟨by rw [wo_2 ‹soC s = 0› (.inl ‹_›)]; rfl, rfl⟩)
    | (conv => whnf
       exact endM_self ⟨by rw [wo_2 ‹soC s = 0› (.inr ‹_›)]; rfl, rfl⟩)
    | (conv => whnf
       exact endM_self ⟨by rw [wo_4 ‹soC s = 0› ‹_› (Classical.not_not.1 ‹_›) (.inl (by omega))]; rfl, rfl⟩)
    | (conv => whnf
       exact endM_self ⟨by rw [wo_4 ‹soC s = 0› ‹_› (Classical.not_not.1 ‹_›) (.inr (.inl (by omega)))]; rfl, rfl⟩)
    | (conv => whnf
       have e := wo_4 ‹soC s = 0› ‹0 ≤ at' ∧ at' ≤ _› (Classical.not_not.1 ‹¬ ¬ owB nm›) (.inr (.inr (baN_gt ‹_›)))
       exact endM_pick [] [] (woV (⟨#[]⟩, 4)) (view_of rfl .nil) rfl rfl (fun k hk => by rw [hX] at hk; exact absurd hk (Nat.not_lt_zero _)) ⟨by rw [e], rfl⟩)
    | (conv => whnf
       have q1 : ¬ 20 ≤ ((soL s).length : Int) := ‹_›
       have q2 : ¬ 30000 < (bs.size : Int) := ‹_›
       have q3 := baN_ngt (l := allN (woL (soL s) at' ⟨0, nm, bs⟩) (woL (soL s) at' ⟨0, nm, bs⟩).length) ‹_›
       have e := wo_0 ‹soC s = 0› ‹0 ≤ at' ∧ at' ≤ _› (Classical.not_not.1 ‹¬ ¬ owB nm›) (fun q => q.elim (fun q => q1 (by omega)) (fun q => q.elim (fun q => q2 (by omega)) q3))
       exact endM_pick [] [] (woV (baN (allN (woL (soL s) at' ⟨0, nm, bs⟩) (woL (soL s) at' ⟨0, nm, bs⟩).length), 0)) (view_of rfl .nil) rfl rfl (fun k hk => by rw [hX] at hk; exact absurd hk (Nat.not_lt_zero _)) ⟨by rw [e], rfl⟩)
    | trace_state
end
end Go.Proofs.Ytfaadafgbhmlfaa
