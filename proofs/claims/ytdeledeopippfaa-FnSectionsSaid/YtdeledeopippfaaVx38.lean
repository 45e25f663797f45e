/- Texts for VSectionsP. -/
import Derived.Test.YtdeledeopippfaaVx37
import Derived.Test.YtdeledeopippfaaVx24
namespace Go.Proofs.Ytdeledeopippfaa
open Go Go.RowKit
set_option linter.unusedVariables false
set_option linter.unusedSimpArgs false
set_option maxRecDepth 8000
section
attribute [local irreducible] gbB secG okSec
def SecsOk (B : Nat) (l : List Section) : Prop := ∀ x ∈ l, okSec x ∧ x.bytes.size ≤ B
theorem secX_small {s : ByteArray} (h : 1 ≤ s.size) : (secX s).bytes.size ≤ s.size := by
  obtain ⟨q1, q2, q3⟩ := secG_rng h
  by_cases h0 : secB s = 0
  · rw [secX_0 h0]
    show ((secG s).1.extract _ _).size ≤ _
    rw [ByteArray.size_extract]
    omega
  · rw [secX_1 h0]
    show (secG s).1.size ≤ _
    omega
theorem secs_ok {B : Nat} : ∀ (n : Nat) (s : ByteArray) (acc l : List Section), s.size ≤ B → acc.length + n ≤ 20 → SecsOk B acc → secs n s acc = some l → l.length ≤ 20 ∧ SecsOk B l
  | n, s, acc, l, hs, hn, ha, h => by
    by_cases hz : s.size = 0
    · rw [secs_end hz] at h
      cases h
      exact ⟨by omega, ha⟩
    by_cases hf : secF s ∧ n ≠ 0
    · obtain ⟨k, rfl⟩ : ∃ k, n = k + 1 := ⟨n - 1, by omega⟩
      rw [secs_step hz hf.1] at h
      have hlt : (secT s).size ≤ s.size := by unfold secT; rw [ByteArray.size_extract]; omega
      refine secs_ok k (secT s) _ l (by omega) (by rw [List.length_append]; show acc.length + 1 + k ≤ 20; omega) (fun x hx => ?_) h
      rcases List.mem_append.1 hx with q | q
      · exact ha x q
      · rw [List.mem_singleton.1 q]
        exact ⟨hf.1.ok, Nat.le_trans (secX_small (by omega)) hs⟩
    · rw [secs_no hz (by by_cases q : secF s; · right; exact Classical.not_not.1 fun q' => hf ⟨q, q'⟩
                         · exact .inl q)] at h
      cases h
theorem secAll_ok {s : ByteArray} {l : List Section} (h : secAll s = some l) : l.length ≤ 20 ∧ SecsOk s.size l := by
  unfold secAll at h
  split at h
  · exact secs_ok 20 _ [] l (by rw [ByteArray.size_extract]; omega) (by decide) (fun x hx => by simp at hx) h
  · cases h
theorem soL_ok (s : ByteArray) : (soL s).length ≤ 20 ∧ SecsOk s.size (soL s) := by
  have e : (([] : List Section).length ≤ 20 ∧ SecsOk s.size []) := ⟨by decide, fun x hx => by simp at hx⟩
  by_cases h : 30000 < s.size
  · rw [(so_4 h).1]; exact e
  · cases q : secAll s with
    | none => rw [(so_18 h q).1]; exact e
    | some l => rw [(so_0 h q).1]; exact secAll_ok q
theorem okSec_fit {x : Section} (h : okSec x) (hb : x.bytes.size ≤ 10000000) : x.fit := by
  unfold okSec at h
  rcases h with ⟨h1, h2⟩ | ⟨h1, h2⟩
  · exact ⟨by omega, by have := h2.hi; omega, hb⟩
  · exact ⟨by omega, by rw [h2]; exact Nat.zero_le _, hb⟩
def woL (l : List Section) (at' : Int) (x : Section) : List Section := l.take at'.toNat ++ [x] ++ l.drop at'.toNat
theorem woL_fit {l : List Section} {at' : Int} {x : Section} {B : Nat} (hl : l.length ≤ 20) (h : SecsOk B l) (hB : B ≤ 10000000) (hx : x.fit) : Fit (woL l at' x) := by
  have hlen : (woL l at' x).length = l.length + 1 := by unfold woL; simp; omega
  refine ⟨by rw [hlen]; omega, fun k hk => ?_⟩
  have hm : (woL l at' x).getD k default ∈ woL l at' x := by
    rw [List.getD_eq_getElem?_getD, List.getElem?_eq_getElem hk]
    exact List.getElem_mem hk
  have : ∀ y ∈ woL l at' x, y = x ∨ y ∈ l := fun y hy => by
    unfold woL at hy
    rcases List.mem_append.1 hy with hy | hy
    · rcases List.mem_append.1 hy with hy | hy
      · exact .inr (List.mem_of_mem_take hy)
      · exact .inl (List.mem_singleton.1 hy)
    · exact .inr (List.mem_of_mem_drop hy)
  rcases this _ hm with q | q
  · rw [q]; exact hx
  · exact okSec_fit (h _ q).1 (Nat.le_trans (h _ q).2 hB)
noncomputable def woR (s : ByteArray) (at' : Int) (nm bs : ByteArray) : ByteArray × Int :=
  bif pb (soC s ≠ 0) then (⟨#[]⟩, soC s)
  else bif pb (¬ (0 ≤ at' ∧ at' ≤ (soL s).length) ∨ ¬ owB nm) then (⟨#[]⟩, 2)
  else bif pb (20 ≤ (soL s).length ∨ 30000 < bs.size ∨ 30000 < (allN (woL (soL s) at' ⟨0, nm, bs⟩) (woL (soL s) at' ⟨0, nm, bs⟩).length).length) then (⟨#[]⟩, 4)
  else (baN (allN (woL (soL s) at' ⟨0, nm, bs⟩) (woL (soL s) at' ⟨0, nm, bs⟩).length), 0)
def woV (v : ByteArray × Int) : AV := .tup [.s v.1, .i .i64 v.2]
theorem wo_1 {s nm bs : ByteArray} {at' : Int} (h : ¬ soC s = 0) : woR s at' nm bs = (⟨#[]⟩, soC s) := by unfold woR; rw [pb_t.mpr h]; rfl
theorem wo_2 {s nm bs : ByteArray} {at' : Int} (h : soC s = 0) (h2 : ¬ (0 ≤ at' ∧ at' ≤ (soL s).length) ∨ ¬ owB nm) : woR s at' nm bs = (⟨#[]⟩, 2) := by unfold woR; rw [pb_f.mpr (fun q => q h), pb_t.mpr h2]; rfl
theorem wo_4 {s nm bs : ByteArray} {at' : Int} (h : soC s = 0) (h1 : 0 ≤ at' ∧ at' ≤ (soL s).length) (h2 : owB nm) (h3 : 20 ≤ (soL s).length ∨ 30000 < bs.size ∨ 30000 < (allN (woL (soL s) at' ⟨0, nm, bs⟩) (woL (soL s) at' ⟨0, nm, bs⟩).length).length) : woR s at' nm bs = (⟨#[]⟩, 4) := by unfold woR; rw [pb_f.mpr (fun q => q h), pb_f.mpr (fun q => q.elim (fun q => q h1) (fun q => q h2)), pb_t.mpr h3]; rfl
theorem wo_0 {s nm bs : ByteArray} {at' : Int} (h : soC s = 0) (h1 : 0 ≤ at' ∧ at' ≤ (soL s).length) (h2 : owB nm) (h3 : ¬ (20 ≤ (soL s).length ∨ 30000 < bs.size ∨ 30000 < (allN (woL (soL s) at' ⟨0, nm, bs⟩) (woL (soL s) at' ⟨0, nm, bs⟩).length).length)) : woR s at' nm bs = (baN (allN (woL (soL s) at' ⟨0, nm, bs⟩) (woL (soL s) at' ⟨0, nm, bs⟩).length), 0) := by unfold woR; rw [pb_f.mpr (fun q => q h), pb_f.mpr (fun q => q.elim (fun q => q h1) (fun q => q h2)), pb_f.mpr h3]; rfl
theorem baN_gt {l : List Nat} (h : 30000 < ((baN l).size : Int)) : 30000 < l.length := by rw [← baN_size l]; omega
theorem baN_ngt {l : List Nat} (h : ¬ 30000 < ((baN l).size : Int)) : ¬ 30000 < l.length := by rw [← baN_size l]; omega
theorem wo_g {l : List Section} {at' : Int} {x : Section} (h : 0 ≤ at' ∧ at' ≤ l.length) {e0 g1 : Nat → Nat → AV} (h1 : ∀ j, j < 3 → g1 0 j = x.cs.getD j .any) : ∀ i j, i < 0 + (at' - 0).toNat + 1 + ((l.length : Int) - at').toNat → j < 3 →
    catE (0 + (at' - 0).toNat + 1) (catE (0 + (at' - 0).toNat) (catE 0 e0 (fun i j => (l.getD (Int.toNat 0 + i) default).cs.getD j .any)) g1) (fun i j => (l.getD (at'.toNat + i) default).cs.getD j .any) i j = elE Section.cs (woL l at' x) i j := fun i j hi hj => by
  have hw : ∀ y, (woL l at' x).getD i default = y → elE Section.cs (woL l at' x) i j = y.cs.getD j .any := fun y e => by rw [← e]; rfl
  have hlen : (l.take at'.toNat).length = at'.toNat := by rw [List.length_take]; omega
  have hA : (l.take at'.toNat ++ [x]).length = at'.toNat + 1 := by rw [List.length_append, hlen]; rfl
  by_cases c1 : i < at'.toNat
  · rw [catE_lt (by omega), catE_lt (by omega), catE_ge (by omega)]
    refine (hw (l.getD (Int.toNat 0 + (i - 0)) default) ?_).symm
    unfold woL
    rw [List.getD_eq_getElem?_getD, List.getElem?_append_left (by omega), List.getElem?_append_left (by omega), List.getElem?_take, if_pos c1, List.getD_eq_getElem?_getD, show Int.toNat 0 + (i - 0) = i from by simp]
  · by_cases c2 : i = at'.toNat
    · rw [catE_lt (by omega), catE_ge (by omega)]
      rw [show i - (0 + (at' - 0).toNat) = 0 by omega, h1 j hj]
      refine (hw x ?_).symm
      unfold woL
      rw [List.getD_eq_getElem?_getD, List.getElem?_append_left (by omega), List.getElem?_append_right (by omega), hlen, c2, Nat.sub_self]
      rfl
    · rw [catE_ge (by omega)]
      refine (hw (l.getD (at'.toNat + (i - (0 + (at' - 0).toNat + 1))) default) ?_).symm
      unfold woL
      rw [List.getD_eq_getElem?_getD, List.getElem?_append_right (by omega), hA, List.getElem?_drop, List.getD_eq_getElem?_getD]
      congr 2
      omega
theorem wo_sl {l : List Section} {n : Nat} {H : Hp} {g : Nat → Nat → AV} (hn : n = l.length) (h : ∀ i j, i < n → j < 3 → g i j = elE Section.cs l i j) : Wk (.sl 3 n fun i j => shrC 4 H (g i j)) (slL 3 Section.cs l) := by
  subst hn
  refine Wk.sl fun i j hi hj => ?_
  rw [h i j hi hj]
  rcases (show j = 0 ∨ j = 1 ∨ j = 2 by omega) with rfl | rfl | rfl <;> exact .refl _
theorem wo_n {l : List Section} {at' : Int} {x : Section} (h : 0 ≤ at' ∧ at' ≤ l.length) : 0 + (at' - 0).toNat + 1 + ((l.length : Int) - at').toNat = (woL l at' x).length := by
  unfold woL
  rw [List.length_append, List.length_append, List.length_take, List.length_drop]
  show _ = _ + 1 + _
  omega
theorem srcOk_sec {m o : Nat} {l : List Section} : SrcOk m 3 (fun i j => (l.getD (o + i) default).cs.getD j .any) := ⟨fun i j hi hj => by
  rcases (show j = 0 ∨ j = 1 ∨ j = 2 by omega) with rfl | rfl | rfl <;> rfl⟩
theorem wo_cap1 {n b : Nat} (h : n ≤ 1000) (hb : b ≤ 1000 := by decide) : n * b ≤ 140737488355328 := Nat.le_trans (Nat.mul_le_mul h hb) (by decide)
theorem wo_cap2 {n : Nat} (h : n ≤ 1000) : n ≤ 9223372036854775807 := by omega
set_option maxHeartbeats 4000000 in
theorem withOwn_spec (s : ByteArray) (at' : Int) (nm bs : ByteArray) (hs : s.size ≤ 1048576) (hb : bs.size ≤ 1048576) : RetM env.P 61 [] [.s s, .i .i64 at', .s nm, .s bs] (fun r H => r = woV (woR s at' nm bs) ∧ H = []) := by
  obtain ⟨hl, ho⟩ := soL_ok s
  have hS := sectionsOf_spec s hs
  have hT : owB nm → RetM env.P 64 [] [slL 3 Section.cs (woL (soL s) at' ⟨0, nm, bs⟩)] (fun r H => r = .s (baN (allN (woL (soL s) at' ⟨0, nm, bs⟩) (woL (soL s) at' ⟨0, nm, bs⟩).length)) ∧ H = []) := fun h => allM_spec _ (woL_fit hl ho (by omega) (okSec_fit ((ok_own (x := ⟨0, nm, bs⟩) rfl).1 h) (by show bs.size ≤ _; omega)))
  refine ret_ofM (nt := 61) (rvs := [.tmp 8, .tmp 9]) Try.func61 rfl rfl rfl rfl (fun X hX => ?_)
  repeat' (first | omega | (with_reducible show (_ : Int) < _; dsimp only; omega) | (with_reducible show (_ : Nat) ≤ _; dsimp only; omega) | ((with_reducible show SrcOk _ _ _) <;> (first | exact srcOk_1 rfl | exact srcOk_L (fun _ => ⟨rfl, rfl⟩) | exact srcOk_E (fun _ => ⟨rfl, rfl⟩))) | ((conv => whnf) <;> (first | exact srcOk_sec | exact wo_cap1 (by omega) | exact wo_cap2 (by omega) | ((refine .inr (.inl (.inr (.inl ⟨_, RetM.wk (.cons (wo_sl (wo_n ‹_›) (wo_g (e0 := fun _ _ => .any) ‹_› (fun j hj => by rcases (show j = 0 ∨ j = 1 ∨ j = 2 by omega) with rfl | rfl | rfl <;> rfl))) .nil) (hT (Classical.not_not.1 ‹_›)), ?_⟩))); rintro _ _ ⟨rfl, rfl⟩; refine ⟨⟨rfl, rowsNs_nil⟩, _, lok_pl RowsPl.nil, ?_⟩)) | refine And.intro ?_ ?_ | (intro _h; first | contradiction | (try simp only [dd] at _h)) | (refine dt_go ?_) | exact rfl | exact True.intro | exact dkk | exact dks | ((first | refine .inl ⟨_, hS, ?_⟩ | refine ⟨_, hS, ?_⟩); (try rintro _ rfl)) | ((first | refine .inl ⟨_, l00In_ok _ _ _, ?_⟩ | refine ⟨_, l00In_ok _ _ _, ?_⟩); (try rintro _ rfl)) | ((first | refine .inl ⟨_, l17Name_ok _, ?_⟩ | refine ⟨_, l17Name_ok _, ?_⟩); (try rintro _ rfl)) | (refine wrap_succ ?_; omega))))
  all_goals first
    | (conv => whnf
       exact endM_self ⟨by rw [wo_1 ‹_›]; rfl, rfl⟩)
    | (conv => whnf
       exact endM_self ⟨by rw [wo_2 ‹soC s = 0› (.inl ‹_›)]; rfl, rfl⟩)
    | (conv => whnf
       exact endM_self ⟨by rw [wo_2 ‹soC s = 0› (.inr ‹_›)]; rfl, rfl⟩)
    | (conv => whnf
       exact endM_self ⟨by rw [wo_4 ‹soC s = 0› ‹_› (Classical.not_not.1 ‹_›) (.inl (by omega))]; rfl, rfl⟩)
    | (conv => whnf
       exact endM_self ⟨by rw [wo_4 ‹soC s = 0› ‹_› (Classical.not_not.1 ‹_›) (.inr (.inl (by omega)))]; rfl, rfl⟩)
    | (conv => whnf
       have e := wo_4 ‹soC s = 0› ‹0 ≤ at' ∧ at' ≤ _› (Classical.not_not.1 ‹¬ ¬ owB nm›) (.inr (.inr (baN_gt ‹_›)))
       exact endM_pick [] [] (woV (⟨#[]⟩, 4)) (view_of rfl .nil) rfl rfl (fun k hk => by rw [hX] at hk; exact absurd hk (Nat.not_lt_zero _)) ⟨by rw [e], rfl⟩)
    | (conv => whnf
       have q1 : ¬ 20 ≤ ((soL s).length : Int) := ‹_›
       have q2 : ¬ 30000 < (bs.size : Int) := ‹_›
       have q3 := baN_ngt (l := allN (woL (soL s) at' ⟨0, nm, bs⟩) (woL (soL s) at' ⟨0, nm, bs⟩).length) ‹_›
       have e := wo_0 ‹soC s = 0› ‹0 ≤ at' ∧ at' ≤ _› (Classical.not_not.1 ‹¬ ¬ owB nm›) (fun q => q.elim (fun q => q1 (by omega)) (fun q => q.elim (fun q => q2 (by omega)) q3))
       exact endM_pick [] [] (woV (baN (allN (woL (soL s) at' ⟨0, nm, bs⟩) (woL (soL s) at' ⟨0, nm, bs⟩).length), 0)) (view_of rfl .nil) rfl rfl (fun k hk => by rw [hX] at hk; exact absurd hk (Nat.not_lt_zero _)) ⟨by rw [e], rfl⟩)
    | trace_state
end
section
attribute [local irreducible] IntKind.wrap
theorem pickC_ex (s : Src) (h : s.rm 2) (n : Int) (hn : 200 < n) : RetM env.P 39 [some (boxRow s.cs)] [.ptr 0 0 0, .i .i64 n] (fun r H => ∃ (v : Int) (t : Src), (0 ≤ v ∧ (v = 0 ∨ v < n)) ∧ (s.at' ≤ t.at' ∧ t.at' ≤ s.at' + 2 ∧ t.code.length = s.code.length) ∧ r = .i .i64 v ∧ H = [some (boxRow t.cs)]) := by
  obtain ⟨q1, q2, q3⟩ := h
  refine ret_ofM (nt := 20) (rvs := [.tmp 4]) Try.func39 rfl rfl rfl rfl (fun X hX => ?_)
  repeat' (first | omega | (with_reducible show (_ : Int) < _; dsimp only; omega) | (with_reducible show (_ : Nat) ≤ _; dsimp only; omega) | ((with_reducible show SrcOk _ _ _) <;> (first | exact srcOk_1 rfl | exact srcOk_L (fun _ => ⟨rfl, rfl⟩) | exact srcOk_E (fun _ => ⟨rfl, rfl⟩))) | ((conv => whnf) <;> (first | (refine Src.rm_i ?_ ?_ ?_) | refine And.intro ?_ ?_ | (intro _h; first | contradiction | (try simp only [dd] at _h)) | (refine dt_go ?_) | exact rfl | exact True.intro | exact dkk | exact dks | (refine .inr (.inl (.inl ⟨[0], _, _, _, next_ex _ ?_, viewA, ⟨rfl, rfl⟩, ?_⟩)); rotate_left 1; (rintro _ _ ⟨v2, t2, hv2, ht2, rfl, rfl⟩) <;> (refine ⟨rfl, _, lokA, ?_⟩)) | (refine wrap_succ ?_; omega))))
  all_goals (conv => whnf)
  all_goals exact endM_pick [0] [some (boxRow (Src.cs _))] (.i .i64 _) (view_of rfl (.cons rfl (.self (rowPl_box rfl)) .nil)) rfl rfl (by rw [hX]; exact keepK (n := 1) rfl rfl) ⟨_, t2, tmod_rng (by rw [wrap_in (n := _ * 256) (by omega) (by omega), wrap_in (by omega) (by omega)]; omega) (by omega), ⟨by omega, by omega, by omega⟩, rfl, rfl⟩
theorem pickA_ex (s : Src) (h : s.rm 2) (n : Int) : RetM env.P 39 [some (boxRow s.cs)] [.ptr 0 0 0, .i .i64 n] (fun r H => ∃ (v : Int) (t : Src), (0 ≤ v ∧ (v = 0 ∨ v < n)) ∧ (s.at' ≤ t.at' ∧ t.at' ≤ s.at' + 2 ∧ t.code.length = s.code.length) ∧ r = .i .i64 v ∧ H = [some (boxRow t.cs)]) := by
  by_cases hn : n ≤ 200
  · exact (pick_ex s ⟨h.1, by have := h.2.1; omega, h.2.2⟩ n hn).mono fun r H ⟨v, t, h1, h2, h3⟩ => ⟨v, t, h1, ⟨h2.1, by omega, h2.2.2⟩, h3⟩
  · exact pickC_ex s h n (by omega)
theorem l00Min_ok (a b : Int) : Ret env.P 40 [.i .i64 a, .i .i64 b] (fun r => r = .i .i64 (if a < b then a else b)) := by
  refine ret_of (nt := 10) (rvs := [.tmp 4]) Try.func40 rfl rfl rfl rfl (fun X => ?_)
  repeat' (first | omega | (with_reducible show (_ : Int) < _; dsimp only; omega) | (with_reducible show (_ : Nat) ≤ _; dsimp only; omega) | ((with_reducible show SrcOk _ _ _) <;> (first | exact srcOk_1 rfl | exact srcOk_L (fun _ => ⟨rfl, rfl⟩) | exact srcOk_E (fun _ => ⟨rfl, rfl⟩))) | ((conv => whnf) <;> (first | refine And.intro ?_ ?_ | (intro _h; first | contradiction | (try simp only [dd] at _h)) | (refine dt_go ?_) | exact rfl | exact True.intro | exact dkk | exact dks | (refine wrap_succ ?_; omega))))
  all_goals (refine leaf_i ?_; first | rw [if_pos (by omega)] | rw [if_neg (by omega)])
theorem rho_1' {X : Ctx} {x : Option Row} {r : List Nat} {q : Nat} (hX : X.H0 = [x]) (h : q < X.H0.length) (h0 : rhoF r 0 = 0) : rhoF r q = q := by
  rw [hX] at h
  obtain rfl : q = 0 := Nat.lt_one_iff.1 h
  exact h0
structure ByS where
  i : Int
  l : List Nat
  t : Src
theorem bytesOf_size {n : Nat} {g : Nat → Nat → AV} : (bytesOf n g).size = n := by
  unfold bytesOf
  show (List.toArray _).size = n
  simp
set_option maxHeartbeats 2000000 in
theorem word_ok (s : Src) (n : Int) (hn : 0 ≤ n ∧ n ≤ 50) (h : s.rm (n + 1)) : RetM env.P 57 [some (boxRow s.cs)] [.ptr 0 0 0, .i .i64 n] (fun r H => ∃ (v : ByteArray) (t : Src), v.size ≤ 50 ∧ (s.at' ≤ t.at' ∧ t.at' ≤ s.at' + (n + 1) ∧ t.code.length = s.code.length) ∧ r = .s v ∧ H = [some (boxRow t.cs)]) := by
  obtain ⟨q1, q2, q3⟩ := h
  refine ret_ofM (nt := 23) (rvs := [.tmp 4]) Try.func57 rfl rfl rfl rfl (fun X hX => ?_)
  repeat' (first | omega | (with_reducible show (_ : Int) < _; dsimp only; omega) | (with_reducible show (_ : Nat) ≤ _; dsimp only; omega) | ((with_reducible show SrcOk _ _ _) <;> (first | exact srcOk_1 rfl | exact srcOk_L (fun _ => ⟨rfl, rfl⟩) | exact srcOk_E (fun _ => ⟨rfl, rfl⟩))) | ((conv => whnf) <;> (first | (refine Src.rm_i ?_ ?_ ?_) | refine And.intro ?_ ?_ | (intro _h; first | contradiction | (try simp only [dd] at _h)) | (refine dt_go ?_) | exact rfl | exact True.intro | exact dkk | exact dks | (refine .inr (.inl (.inl ⟨[0], _, _, _, pick_ex _ ?_ _ ?_, viewA, ⟨rfl, rfl⟩, ?_⟩)); rotate_left 2; (rintro _ _ ⟨v1, t1, hv1, ht1, rfl, rfl⟩) <;> (refine ⟨rfl, _, lokA, ?_⟩)) | (refine wrap_succ ?_; omega))))
  conv => whnf
  refine lw_del 7 ?_
  refine loopFT (fun y : ByS => [(6, .i .i64 y.i), (5, .row 1 y.l.length)]) (fun y => [some (.box y.t.cs), some (.arr ⟨1, y.l.length, elE u8C y.l, .arr⟩)]) (fun y => (0 ≤ y.i ∧ y.i + y.l.length = v1) ∧ (t1.at' ≤ y.t.at' ∧ y.t.at' ≤ t1.at' + y.l.length ∧ y.t.code.length = t1.code.length)) (fun y => y.i.toNat) ⟨v1, [], t1⟩ ⟨⟨⟨hv1.1, Int.add_zero _⟩, Int.le_refl _, (by show t1.at' ≤ t1.at' + ((0 : Nat) : Int); omega), rfl⟩, ?_⟩
  repeat' (first | omega | (with_reducible show (_ : Int) < _; dsimp only; omega) | (with_reducible show (_ : Nat) ≤ _; dsimp only; omega) | ((with_reducible show SrcOk _ _ _) <;> (first | exact srcOk_1 rfl | exact srcOk_L (fun _ => ⟨rfl, rfl⟩) | exact srcOk_E (fun _ => ⟨rfl, rfl⟩))) | ((conv => whnf) <;> (first | (refine dt_goH 0 [] rfl ?_) | (refine Src.rm_i ?_ ?_ ?_) | exact lbz_zero rfl rfl | exact low_cells rfl | exact lbz_capC (by omega) (show 1 ≤ 1000 by decide) | exact lbz_capM (by omega) | exact srcOk_1 rfl | exact bytes_row _ | refine And.intro ?_ ?_ | (intro _h; first | contradiction | (try simp only [dd] at _h)) | (refine dt_go ?_) | exact rfl | exact True.intro | exact dkk | exact dks | (refine .inr (.inl (.inl ⟨[0], _, _, _, next_ex _ ?_, viewA, ⟨rfl, rfl⟩, ?_⟩)); rotate_left 1; (rintro _ _ ⟨v2, t2, hv2, ht2, rfl, rfl⟩) <;> (refine ⟨rfl, _, lokA, ?_⟩)) | (refine wrap_succ ?_; omega))))
  all_goals (rename ByS => y; rename (0 ≤ y.i ∧ _) ∧ _ => hy)
  all_goals first
    | (have hi : 0 < y.i := ‹0 < y.i›
       conv => whnf
       refine roundET_turn (turn_eq (id := 3) (x := rowL 1 u8C (y.l ++ [(v2 % 256).toNat])) rfl rfl lbz_len.symm rfl rfl (snoc_eq (c := u8C) rfl (fun j hj => by
         obtain rfl : j = 0 := Nat.lt_one_iff.1 hj
         exact owEq_of (congrArg (AV.i .u8) fx_putI)))) ?_
       refine roundET_end ?_
       refine ⟨⟨y.i - 1, y.l ++ [(v2 % 256).toNat], t2⟩, [0, 3], ⟨⟨by dsimp only; omega, by dsimp only; rw [List.length_append, List.length_singleton]; omega⟩, by dsimp only; omega, by dsimp only; rw [List.length_append, List.length_singleton]; omega, by dsimp only; omega⟩, (by show (y.i - 1).toNat < y.i.toNat; omega), ?_⟩
       repeat' (first | omega | (with_reducible show (_ : Int) < _; dsimp only; omega) | (with_reducible show (_ : Nat) ≤ _; dsimp only; omega) | ((with_reducible show SrcOk _ _ _) <;> (first | exact srcOk_1 rfl | exact srcOk_L (fun _ => ⟨rfl, rfl⟩) | exact srcOk_E (fun _ => ⟨rfl, rfl⟩))) | ((conv => whnf) <;> (first | exact (wrap_in (by omega) (by omega) : IntKind.i64.wrap (y.i - 1) = y.i - 1) | exact arr_same rfl rfl (fun a j => low_cells rfl) | exact low_cells rfl | exact lbz_len | exact rho_1' hX ‹_› rfl | exact rfl | refine And.intro ?_ ?_ | (intro _h; first | contradiction | (try simp only [dd] at _h)) | (refine dt_go ?_) | exact rfl | exact True.intro | exact dkk | exact dks | (refine wrap_succ ?_; omega)))))
    | (conv => whnf
       exact endM_pick [0] [some (boxRow y.t.cs)] (.s _) (view_of rfl (.cons rfl (.self (rowPl_box rfl)) .nil)) rfl rfl (by rw [hX]; exact keepK (n := 1) rfl rfl) ⟨_, y.t, by rw [bytesOf_size]; omega, ⟨by omega, by omega, by omega⟩, rfl, rfl⟩)
    | trace_state
theorem sz_30 {b : ByteArray} (h : ¬ (30000 : Int) < (b.size : Int)) : b.size ≤ 30000 := by omega
theorem cat_le {a b : ByteArray} (h : a.size ≤ 1000000) (h' : b.size ≤ 50) : a.size + b.size ≤ maxLen := Nat.le_trans (show a.size + b.size ≤ 2000000 by omega) (by decide)
theorem bend_size {n m : Nat} {g : Nat → Nat → AV} (h : n ≤ m) : (bytesOf n g).size ≤ m + 50 := by rw [bytesOf_size]; omega
theorem bend_ext {b : ByteArray} {x y : Nat} (h : 0 ≤ b.size) : (b.extract x y).size ≤ b.size + 50 := by rw [ByteArray.size_extract]; omega
theorem bend_app {a b : ByteArray} (h : b.size ≤ 50) : (a ++ b).size ≤ a.size + 50 := by rw [ByteArray.size_append]; omega
theorem bytes_updI {n i : Nat} {b : ByteArray} {v : Int} : Bytes n (upd (strE b) i 0 [.i .u8 v]) := ⟨fun k hk => by
  by_cases e : k = i
  · subst e; exact ⟨v, upd_self⟩
  · exact ⟨_, (upd_out (by rintro ⟨h1, _⟩; exact e h1)).trans rfl⟩⟩
set_option maxHeartbeats 2000000 in
theorem l01Bend_ok (s : Src) (h : s.rm 20) (b : ByteArray) (hb : b.size ≤ 1000000) : RetM env.P 32 [some (boxRow s.cs)] [.ptr 0 0 0, .s b] (fun r H => ∃ (v : ByteArray) (t : Src), v.size ≤ b.size + 50 ∧ (s.at' ≤ t.at' ∧ t.at' ≤ s.at' + 20 ∧ t.code.length = s.code.length) ∧ r = .s v ∧ H = [some (boxRow t.cs)]) := by
  obtain ⟨q1, q2, q3⟩ := h
  have hw : IntKind.i64.wrap ((b.size : Int) + 1) = b.size + 1 := wrap_in (by omega) (by omega)
  refine ret_ofM (nt := 41) (rvs := [.tmp 4]) Try.func32 rfl rfl rfl rfl (fun X hX => ?_)
  repeat' (first | omega | (with_reducible show (_ : Int) < _; dsimp only; omega) | (with_reducible show (_ : Nat) ≤ _; dsimp only; omega) | ((with_reducible show SrcOk _ _ _) <;> (first | exact srcOk_1 rfl | exact srcOk_L (fun _ => ⟨rfl, rfl⟩) | exact srcOk_E (fun _ => ⟨rfl, rfl⟩))) | ((conv => whnf) <;> (first | (refine Src.rm_i ?_ ?_ ?_) | exact bytes_updI | exact bytes_strE _ | exact cat_le hb hv2 | refine And.intro ?_ ?_ | (intro _h; first | contradiction | (try simp only [dd] at _h)) | (refine dt_go ?_) | exact rfl | exact True.intro | exact dkk | exact dks | (refine .inr (.inl (.inl ⟨[0], _, _, _, pick_ex _ ?_ 4 (by decide), viewA, ⟨rfl, rfl⟩, ?_⟩)); rotate_left 1; (rintro _ _ ⟨v1, t1, hv1, ht1, rfl, rfl⟩) <;> (refine ⟨rfl, _, lokA, ?_⟩)) | (refine .inr (.inl (.inl ⟨[0], _, _, _, word_ok _ 3 (by decide) ?_, viewA, ⟨rfl, rfl⟩, ?_⟩)); rotate_left 1; (rintro _ _ ⟨v2, t2, hv2, ht2, rfl, rfl⟩) <;> (refine ⟨rfl, _, lokA, ?_⟩)) | (refine .inr (.inl (.inl ⟨[0], _, _, _, pickA_ex _ ?_ _, viewA, ⟨rfl, rfl⟩, ?_⟩)); rotate_left 1; (rintro _ _ ⟨v3, t3, hv3, ht3, rfl, rfl⟩) <;> (refine ⟨rfl, _, lokA, ?_⟩)) | (refine .inr (.inl (.inl ⟨[0], _, _, _, next_ex _ ?_, viewA, ⟨rfl, rfl⟩, ?_⟩)); rotate_left 1; (rintro _ _ ⟨v4, t4, hv4, ht4, rfl, rfl⟩) <;> (refine ⟨rfl, _, lokA, ?_⟩)) | (refine wrap_succ ?_; omega))))
  all_goals (conv => whnf)
  all_goals first
    | exact endM_pick [0] [some (boxRow t4.cs)] (.s _) (view_of rfl (.cons rfl (.self (rowPl_box rfl)) .nil)) rfl rfl (by rw [hX]; exact keepK (n := 1) rfl rfl) ⟨_, t4, bend_size (by omega), ⟨by omega, by omega, by omega⟩, rfl, rfl⟩
    | exact endM_pick [0] [some (boxRow t3.cs)] (.s _) (view_of rfl (.cons rfl (.self (rowPl_box rfl)) .nil)) rfl rfl (by rw [hX]; exact keepK (n := 1) rfl rfl) ⟨_, t3, bend_ext (by omega), ⟨by omega, by omega, by omega⟩, rfl, rfl⟩
    | exact endM_pick [0] [some (boxRow t2.cs)] (.s _) (view_of rfl (.cons rfl (.self (rowPl_box rfl)) .nil)) rfl rfl (by rw [hX]; exact keepK (n := 1) rfl rfl) ⟨_, t2, bend_app (by omega), ⟨by omega, by omega, by omega⟩, rfl, rfl⟩
    | exact endM_pick [0] [some (boxRow t1.cs)] (.s _) (view_of rfl (.cons rfl (.self (rowPl_box rfl)) .nil)) rfl rfl (by rw [hX]; exact keepK (n := 1) rfl rfl) ⟨_, t1, bend_size (by omega), ⟨by omega, by omega, by omega⟩, rfl, rfl⟩
    | trace_state
set_option maxHeartbeats 2000000 in
theorem secBytes_any (l : List Section) (hf : Fit l) : RetM env.P 42 [] [slL 3 Section.cs l] (fun r H => ∃ v : ByteArray, v.size ≤ 30000 ∧ r = .s v ∧ H = []) := by
  have hl := hf.len
  refine ret_ofM (nt := 35) (rvs := [.tmp 2]) Try.func42 rfl rfl rfl rfl (fun X hX => ?_)
  repeat' (first | omega | (with_reducible show (_ : Int) < _; dsimp only; omega) | (with_reducible show (_ : Nat) ≤ _; dsimp only; omega) | ((with_reducible show SrcOk _ _ _) <;> (first | exact srcOk_1 rfl | exact srcOk_L (fun _ => ⟨rfl, rfl⟩) | exact srcOk_E (fun _ => ⟨rfl, rfl⟩))) | ((conv => whnf) <;> (first | refine loopN l.length (fun k => [(3, .i .i64 (k : Int))]) (fun k => []) (fun k => True) ⟨trivial, ?_⟩ | refine And.intro ?_ ?_ | (intro _h; first | contradiction | (try simp only [dd] at _h)) | (refine dt_go ?_) | exact rfl | exact True.intro | exact dkk | exact dks | ((first | refine .inl ⟨_, l17Section_ok _, ?_⟩ | refine ⟨_, l17Section_ok _, ?_⟩); (try rintro _ rfl)) | (refine .inr (.inl (.inr (.inl ⟨_, RetM.wka (allM_spec l hf), ?_⟩))); rintro _ _ ⟨rfl, rfl⟩; refine ⟨⟨rfl, nssA⟩, _, lokA, ?_⟩) | (refine wrap_succ ?_; omega))))
  all_goals (conv => whnf)
  all_goals first
    | exact endM_pick [] [] (.s _) (view_of rfl .nil) rfl rfl (fun k hk => by rw [hX] at hk; exact absurd hk (Nat.not_lt_zero _)) ⟨_, show (ByteArray.mk #[]).size ≤ 30000 from Nat.zero_le _, rfl, rfl⟩
    | exact endM_pick [] [] (.s _) (view_of rfl .nil) rfl rfl (fun k hk => by rw [hX] at hk; exact absurd hk (Nat.not_lt_zero _)) ⟨_, sz_30 ‹_›, rfl, rfl⟩
theorem seb_cap {a b : Nat} (h : a ≤ 3000) (h' : b ≤ 2000) : (a + b) * 1 ≤ 140737488355328 := by omega
theorem seb_len {a b : Nat} (h : a ≤ 3000) (h' : b ≤ 2000) : a + b ≤ 9223372036854775807 := by omega
set_option maxHeartbeats 4000000 in
theorem bodyS_any (l : List Ins) (hl : l.length ≤ 1000) : RetM env.P 29 [] [slL 2 Ins.cs l] (fun r H => ∃ v : ByteArray, v.size ≤ 5000 ∧ r = .s v ∧ H = []) := by
  have hP : Ret env.P 53 [.i .i64 (l.length : Int)] (fun r => r = .s (baN (lebL l.length))) := (putLeb_spec l.length (by omega)).toRet
  have hB : (baN (lebL l.length)).size ≤ 9 := by rw [baN_size]; exact lb9 (by omega)
  refine ret_ofPM (nt := 33) (rvs := [.tmp 2]) Try.func29 rfl rfl rfl rfl (fun X hX => ?_)
  refine pw_cut 3 (fun _ : Unit => l.length ≤ 120) (fun _ => [(0, slL 2 Ins.cs l), (3, .row 0 (baN (lebL l.length)).size)]) (fun _ => [some ⟨1, (baN (lebL l.length)).size, strE (baN (lebL l.length)), .arr⟩]) ?_ (fun _ h1 => ?_)
  · repeat' (first | omega | (with_reducible show (_ : Int) < _; dsimp only; omega) | (with_reducible show (_ : Nat) ≤ _; dsimp only; omega) | ((with_reducible show SrcOk _ _ _) <;> (first | exact srcOk_1 rfl | exact srcOk_L (fun _ => ⟨rfl, rfl⟩) | exact srcOk_E (fun _ => ⟨rfl, rfl⟩))) | ((conv => whnf) <;> (first | refine And.intro ?_ ?_ | (intro _h; first | contradiction | (try simp only [dd] at _h)) | (refine dt_go ?_) | exact rfl | exact True.intro | exact dkk | exact dks | ((first | refine .inl ⟨_, hP, ?_⟩ | refine ⟨_, hP, ?_⟩); (try rintro _ rfl)) | (refine wrap_succ ?_; omega))))
    all_goals (conv => whnf)
    all_goals first
      | exact endM_pick [] [] (.s _) (view_of rfl .nil) rfl rfl (fun k hk => by rw [hX] at hk; exact absurd hk (Nat.not_lt_zero _)) ⟨_, show (ByteArray.mk #[]).size ≤ 5000 from Nat.zero_le _, rfl, rfl⟩
      | (refine cut_turn (turn_eq (id := 0) (x := ⟨1, (baN (lebL l.length)).size, strE (baN (lebL l.length)), .arr⟩) rfl rfl rfl rfl rfl (fun i j _ _ => .refl _)) ?_
         exact cut_go () (show l.length ≤ 120 by omega) (by repeat' (first | exact trivial | refine And.intro rfl ?_)) (by repeat' (first | exact trivial | refine And.intro (.inl rfl) ?_ | refine And.intro (.inr rfl) ?_ | refine And.intro rfl ?_)))
  have h2 : l.length ≤ 120 := h1
  refine wpc_ok _ _ _ _ ?_
  (try dsimp only)
  conv => whnf
  refine loopFT (fun y : StS => [(4, .i .i64 (y.k : Int)), (3, .row 0 y.b.size)]) (fun y => [some (.arr ⟨1, y.b.size, strE y.b, .arr⟩)]) (fun y => y.k ≤ l.length ∧ y.b.size ≤ 9 + y.k * 11) (fun y => l.length - y.k) ⟨0, baN (lebL l.length)⟩ ⟨⟨Nat.zero_le _, hB⟩, ?_⟩
  repeat' (first | omega | (with_reducible show (_ : Int) < _; dsimp only; omega) | (with_reducible show (_ : Nat) ≤ _; dsimp only; omega) | ((with_reducible show SrcOk _ _ _) <;> (first | exact srcOk_1 rfl | exact srcOk_L (fun _ => ⟨rfl, rfl⟩) | exact srcOk_E (fun _ => ⟨rfl, rfl⟩))) | ((conv => whnf) <;> (first | exact arr_str rfl | exact seb_cap (by omega) (by_size _) | exact seb_len (by omega) (by_size _) | exact bytes_strE _ | refine And.intro ?_ ?_ | (intro _h; first | contradiction | (try simp only [dd] at _h)) | (refine dt_go ?_) | exact rfl | exact True.intro | exact dkk | exact dks | ((first | refine .inl ⟨_, insOk_spec _, ?_⟩ | refine ⟨_, insOk_spec _, ?_⟩); (try rintro _ rfl)) | ((first | refine .inl ⟨_, insBytes_spec _, ?_⟩ | refine ⟨_, insBytes_spec _, ?_⟩); (try rintro _ rfl)) | (refine wrap_succ ?_; omega))))
  all_goals (rename StS => y; rename y.k ≤ l.length ∧ _ => hy)
  all_goals first
    | (have _g : (l.getD (y.k : Int).toNat default).good = false := ‹_›
       conv => whnf
       exact endM_pick [] [] (.s _) (view_of rfl .nil) rfl rfl (fun k hk => by rw [hX] at hk; exact absurd hk (Nat.not_lt_zero _)) ⟨_, show (ByteArray.mk #[]).size ≤ 5000 from Nat.zero_le _, rfl, rfl⟩)
    | (have _g : (y.k : Int) < (l.length : Int) := ‹_›
       have hbs := by_size (l.getD y.k default)
       have hb11 : (baN (l.getD y.k default).by).size ≤ 11 := by rw [baN_size]; exact Ins.by_len _
       conv => whnf
       refine roundET_turn (turn_eq (id := 1) (x := ⟨1, (y.b ++ baN (l.getD y.k default).by).size, strE (y.b ++ baN (l.getD y.k default).by), .arr⟩) rfl rfl (size_app _ _) rfl rfl (strE_appO _ _)) ?_
       refine roundET_end ?_
       refine ⟨⟨y.k + 1, y.b ++ baN (l.getD y.k default).by⟩, [1], ⟨by dsimp only; omega, by dsimp only; rw [size_app]; omega⟩, ?_, ?_⟩
       · dsimp only; omega
       repeat' (first | omega | (with_reducible show (_ : Int) < _; dsimp only; omega) | (with_reducible show (_ : Nat) ≤ _; dsimp only; omega) | ((with_reducible show SrcOk _ _ _) <;> (first | exact srcOk_1 rfl | exact srcOk_L (fun _ => ⟨rfl, rfl⟩) | exact srcOk_E (fun _ => ⟨rfl, rfl⟩))) | ((conv => whnf) <;> (first | exact arr_str rfl | exact (size_app _ _).symm | (exact wrap_in (by omega) (by omega)) | exact lbz_rho hX ‹_› | refine And.intro ?_ ?_ | (intro _h; first | contradiction | (try simp only [dd] at _h)) | (refine dt_go ?_) | exact rfl | exact True.intro | exact dkk | exact dks | (refine wrap_succ ?_; omega)))))
    | (conv => whnf
       exact endM_pick [] [] (.s _) (view_of rfl .nil) rfl rfl (fun k hk => by rw [hX] at hk; exact absurd hk (Nat.not_lt_zero _)) ⟨_, by rw [bytesOf_size]; omega, rfl, rfl⟩)
    | trace_state
end
end Go.Proofs.Ytdeledeopippfaa
