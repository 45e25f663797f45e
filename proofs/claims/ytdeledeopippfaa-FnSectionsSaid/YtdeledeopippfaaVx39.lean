/- Texts for VSectionsP. -/
import Derived.Test.YtdeledeopippfaaVx29
import Derived.Test.YtdeledeopippfaaVx38
namespace Go.Proofs.Ytdeledeopippfaa
open Go Go.RowKit
set_option linter.unusedVariables false
set_option linter.unusedSimpArgs false
set_option maxRecDepth 8000
section
theorem wd_host {k : Nat} (h : k ≤ 1) : wdB (hostN k) := by
  rcases (show k = 0 ∨ k = 1 by omega) with rfl | rfl
  · refine ⟨⟨?_⟩, by decide, by decide⟩
    show ∀ j, j < 6 → (45 ≤ ((hostN 0).data.getD j 0).toNat ∧ ((hostN 0).data.getD j 0).toNat ≤ 57 ∨ 97 ≤ ((hostN 0).data.getD j 0).toNat ∧ ((hostN 0).data.getD j 0).toNat ≤ 122)
    decide +kernel
  · refine ⟨⟨?_⟩, by decide, by decide⟩
    show ∀ j, j < 6 → (45 ≤ ((hostN 1).data.getD j 0).toNat ∧ ((hostN 1).data.getD j 0).toNat ≤ 57 ∨ 97 ≤ ((hostN 1).data.getD j 0).toNat ∧ ((hostN 1).data.getD j 0).toNat ≤ 122)
    decide +kernel
theorem wd_co {k : Nat} (h : k ≤ 2) : wdB (coN k) := by
  rcases (show k = 0 ∨ k = 1 ∨ k = 2 by omega) with rfl | rfl | rfl
  · refine ⟨⟨?_⟩, by decide, by decide⟩
    show ∀ j, j < 3 → (45 ≤ ((coN 0).data.getD j 0).toNat ∧ ((coN 0).data.getD j 0).toNat ≤ 57 ∨ 97 ≤ ((coN 0).data.getD j 0).toNat ∧ ((coN 0).data.getD j 0).toNat ≤ 122)
    decide +kernel
  · refine ⟨⟨?_⟩, by decide, by decide⟩
    show ∀ j, j < 3 → (45 ≤ ((coN 1).data.getD j 0).toNat ∧ ((coN 1).data.getD j 0).toNat ≤ 57 ∨ 97 ≤ ((coN 1).data.getD j 0).toNat ∧ ((coN 1).data.getD j 0).toNat ≤ 122)
    decide +kernel
  · refine ⟨⟨?_⟩, by decide, by decide⟩
    show ∀ j, j < 5 → (45 ≤ ((coN 2).data.getD j 0).toNat ∧ ((coN 2).data.getD j 0).toNat ≤ 57 ∨ 97 ≤ ((coN 2).data.getD j 0).toNat ∧ ((coN 2).data.getD j 0).toNat ≤ 122)
    decide +kernel
theorem host_ne : hostN 0 ≠ hostN 1 := fun h => absurd (congrArg ByteArray.data h) (by decide +kernel)
theorem co_ne01 : coN 0 ≠ coN 1 := fun h => absurd (congrArg ByteArray.data h) (by decide +kernel)
theorem co_ne02 : coN 0 ≠ coN 2 := fun h => absurd (congrArg ByteArray.data h) (by decide +kernel)
theorem co_ne12 : coN 1 ≠ coN 2 := fun h => absurd (congrArg ByteArray.data h) (by decide +kernel)
theorem name_take {α : Type} [Inhabited α] {f : α → ByteArray} {l : List α} {j : Nat} {x : ByteArray} (hx : x ∈ (l.take j).map f) : ∃ i, i < j ∧ i < l.length ∧ x = f (l.getD i default) := by
  obtain ⟨a, ha, rfl⟩ := List.mem_map.1 hx
  obtain ⟨i, hi, rfl⟩ := List.getElem_of_mem ha
  rw [List.length_take] at hi
  refine ⟨i, by omega, by omega, ?_⟩
  rw [List.getElem_take, List.getD_eq_getElem?_getD, List.getElem?_eq_getElem (by omega)]
  rfl
theorem drawn_good {pg : Int} {im : List Import} {co : List Core} (hpg : 1 ≤ pg ∧ pg ≤ 2) (hI : ImI im ∧ im.length ≤ 2) (hC : CoI co ∧ 1 ≤ co.length ∧ co.length ≤ 3) : Module.good ⟨pg, im, co⟩ := by
  obtain ⟨hI, i2⟩ := hI
  obtain ⟨hC, c1, c3⟩ := hC
  refine ⟨⟨hpg.1, by show pg ≤ 16; omega⟩, by show im.length ≤ 12; omega, by show co.length ≤ 8; omega, ⟨fun j hj => ?_⟩, ⟨fun j hj => ?_⟩⟩
  · have hj' : j < im.length := hj
    show (im.getD j default).good ∧ (im.getD j default).name ∉ (im.take j).map (·.name)
    refine ⟨⟨by rw [hI.nm j hj']; exact wd_host (by omega), (hI.p j hj').1, by have := (hI.p j hj').2; omega⟩, fun hm => ?_⟩
    obtain ⟨i, h1, h2, h3⟩ := name_take hm
    rw [hI.nm j hj', hI.nm i h2] at h3
    obtain rfl : i = 0 := by omega
    obtain rfl : j = 1 := by omega
    exact host_ne h3.symm
  · have hj' : j < co.length := hj
    show (co.getD j default).good ∧ (co.getD j default).name ∉ (co.take j).map (·.name)
    have hc := hC.c j hj'
    refine ⟨⟨by rw [hC.nm j hj']; exact wd_co (by omega), ⟨(hC.p j hj').1, by have := (hC.p j hj').2; omega⟩, ⟨(hC.lc j hj').1, by have := (hC.lc j hj').2; omega⟩, by omega, ⟨fun k hk => hc.1 _ (getD_memS hk)⟩⟩, fun hm => ?_⟩
    obtain ⟨i, h1, h2, h3⟩ := name_take hm
    rw [hC.nm j hj', hC.nm i h2] at h3
    rcases (show (i = 0 ∧ j = 1) ∨ (i = 0 ∧ j = 2) ∨ (i = 1 ∧ j = 2) by omega) with ⟨rfl, rfl⟩ | ⟨rfl, rfl⟩ | ⟨rfl, rfl⟩
    · exact co_ne01 h3.symm
    · exact co_ne02 h3.symm
    · exact co_ne12 h3.symm
theorem drawn_ok {pg : Int} {im : List Import} {co : List Core} (hI : ImI im ∧ im.length ≤ 2) (hC : CoI co ∧ 1 ≤ co.length ∧ co.length ≤ 3) : Module.ok ⟨pg, im, co⟩ := by
  obtain ⟨hI, i2⟩ := hI
  obtain ⟨hC, c1, c3⟩ := hC
  refine ⟨⟨by show im.length ≤ _; omega, fun k hk => ?_⟩, ⟨by show co.length ≤ _; omega, fun k hk => ?_⟩⟩
  · show (im.getD k default).name.size ≤ _
    have hk' : k < im.length := hk
    rw [hI.nm k hk']
    have := (wd_host (k := k) (by omega)).hi
    omega
  · have hk' : k < co.length := hk
    refine ⟨?_, ⟨?_, fun _ _ => trivial⟩⟩
    · show (co.getD k default).name.size ≤ _
      rw [hC.nm k hk']
      have := (wd_co (k := k) (by omega)).hi
      omega
    · show (co.getD k default).code.length ≤ _
      have := (hC.c k hk').2
      omega
theorem by_five (m : Module) : 5 ≤ m.by.length := by
  unfold Module.by
  simp only [List.length_append]
  show 5 ≤ 5 + _ + _ + _ + _
  omega
theorem modD_spec (pg : Int) (im : List Import) (co : List Core) (hpg : 1 ≤ pg ∧ pg ≤ 2) (hI : ImI im ∧ im.length ≤ 2) (hC : CoI co ∧ 1 ≤ co.length ∧ co.length ≤ 3) : RetM env.P 60 [] [.agg [.i .i64 pg, slL 3 Import.cs im, slL 5 Core.cs co]] (fun r H => ∃ v : ByteArray, (5 ≤ v.size ∧ v.size ≤ 30000) ∧ r = .s v ∧ H = []) :=
  (moduleM_spec ⟨pg, im, co⟩ (drawn_ok hI hC) (drawn_good hpg hI hC)).mono fun r H hr => ⟨_, by
    rw [baN_size]
    exact ⟨by_five _, Module.by_len (drawn_good hpg hI hC)⟩, hr.1, hr.2⟩
theorem wo_size {s nm bs : ByteArray} {a : Int} (h : (woR s a nm bs).2 = 0) : 5 ≤ (woR s a nm bs).1.size ∧ (woR s a nm bs).1.size ≤ 30000 := by
  by_cases h1 : soC s = 0
  · by_cases h2 : (0 ≤ a ∧ a ≤ (soL s).length) ∧ owB nm
    · by_cases h3 : 20 ≤ (soL s).length ∨ 30000 < bs.size ∨ 30000 < (allN (woL (soL s) a ⟨0, nm, bs⟩) (woL (soL s) a ⟨0, nm, bs⟩).length).length
      · rw [wo_4 h1 h2.1 h2.2 h3] at h
        exact absurd h (by decide)
      · rw [wo_0 h1 h2.1 h2.2 h3]
        show 5 ≤ (baN _).size ∧ (baN _).size ≤ 30000
        rw [baN_size]
        refine ⟨?_, Nat.le_of_not_lt fun q => h3 (.inr (.inr q))⟩
        unfold allN
        rw [List.length_append]
        show 5 ≤ 5 + _
        omega
    · rw [wo_2 h1 (by
        by_cases q : 0 ≤ a ∧ a ≤ (soL s).length
        · exact .inr fun q2 => h2 ⟨q, q2⟩
        · exact .inl q)] at h
      exact absurd h (by decide)
  · rw [wo_1 h1] at h
    exact absurd h h1
attribute [local irreducible] IntKind.wrap
instance : Shr 0 Import.cs Import.cs := shr_plain fun _ => rfl
def nm3 : List ByteArray := [⟨#[110, 97, 109, 101]⟩, ⟨#[120]⟩, ⟨#[100, 101, 98, 117, 103, 33]⟩]
structure BnS where
  k : Int
  b : ByteArray
  t : Src
set_option maxHeartbeats 4000000 in
theorem l17Binary_ok (s : Src) (h : s.rm 27000) : RetM env.P 38 [some (boxRow s.cs)] [.ptr 0 0 0] (fun r H => ∃ (v : ByteArray) (t : Src), (5 ≤ v.size ∧ v.size ≤ 30000) ∧ (s.at' ≤ t.at' ∧ t.at' ≤ s.at' + 6200 ∧ t.code.length = s.code.length) ∧ r = .s v ∧ H = [some (boxRow t.cs)]) := by
  obtain ⟨q1, q2, q3⟩ := h
  have hD := l15Draw_ok s (Src.rm_i q1 (by omega) q3)
  refine ret_ofM (nt := 32) (rvs := [.tmp 2]) Try.func38 rfl rfl rfl rfl (fun X hX => ?_)
  repeat' (first | omega | (with_reducible show (_ : Int) < _; dsimp only; omega) | (with_reducible show (_ : Nat) ≤ _; dsimp only; omega) | ((with_reducible show SrcOk _ _ _) <;> (first | exact srcOk_1 rfl | exact srcOk_L (fun _ => ⟨rfl, rfl⟩) | exact srcOk_E (fun _ => ⟨rfl, rfl⟩))) | ((conv => whnf) <;> (first | (refine Src.rm_i ?_ ?_ ?_) | ((refine .inr (.inl (.inr (.inl ⟨_, RetM.wka (modD_spec pg im co hpg him hco), ?_⟩)))); rintro _ _ ⟨v0, hv0, rfl, rfl⟩; refine ⟨⟨rfl, rowsNs_nil⟩, _, lok_pl RowsPl.nil, ?_⟩) | refine And.intro ?_ ?_ | (intro _h; first | contradiction | (try simp only [dd] at _h)) | (refine dt_go ?_) | exact rfl | exact True.intro | exact dkk | exact dks | (refine .inr (.inl (.inl ⟨[0], _, _, _, hD, viewA, ⟨rfl, rfl⟩, ?_⟩)); (rintro _ _ ⟨pg, im, co, t0, n0, hpg, him, hco, ht0, rfl, rfl, rfl⟩) <;> (refine ⟨rfl, _, lokA, ?_⟩)) | (refine .inr (.inl (.inl ⟨[0], _, _, _, pick_ex _ ?_ 3 (by decide), viewA, ⟨rfl, rfl⟩, ?_⟩)); rotate_left 1; (rintro _ _ ⟨v1, t1, hv1, ht1, rfl, rfl⟩) <;> (refine ⟨rfl, _, lokA, ?_⟩)) | (refine wrap_succ ?_; omega))))
  conv => whnf
  refine loopFT (fun y : BnS => [(4, .i .i64 y.k), (3, .s y.b)]) (fun y => [some (.box y.t.cs)]) (fun y => (5 ≤ y.b.size ∧ y.b.size ≤ 30000) ∧ (0 ≤ y.k ∧ y.k ≤ v1) ∧ (t1.at' ≤ y.t.at' ∧ y.t.at' ≤ t1.at' + 20 * (v1 - y.k) ∧ y.t.code.length = t1.code.length)) (fun y => y.k.toNat) ⟨v1, v0, t1⟩ ⟨⟨hv0, ⟨hv1.1, Int.le_refl _⟩, Int.le_refl _, (by show t1.at' ≤ t1.at' + 20 * (v1 - v1); omega), rfl⟩, ?_⟩
  repeat' (first | omega | (with_reducible show (_ : Int) < _; dsimp only; omega) | (with_reducible show (_ : Nat) ≤ _; dsimp only; omega) | ((with_reducible show SrcOk _ _ _) <;> (first | exact srcOk_1 rfl | exact srcOk_L (fun _ => ⟨rfl, rfl⟩) | exact srcOk_E (fun _ => ⟨rfl, rfl⟩))) | ((conv => whnf) <;> (first | (refine dt_goH 1 [0] rfl ?_) | (refine Src.rm_i ?_ ?_ ?_) | ((refine .inr (.inl (.inl ⟨[0, 3], _, _, _, text_row _ ?_ nm3 (Nat.succ_pos _) (show 3 ≤ 200 by decide), (view_of rfl (.cons rfl (.self (rowPl_box rfl)) (.cons rfl (rowBack_litS nm3) .nil))), ⟨rfl, rfl⟩, ?_⟩))); rotate_left 1; rintro _ _ ⟨v2, t2, hv2, ht2, rfl, rfl⟩; refine ⟨rfl, _, lokA, ?_⟩) | exact low_cells rfl | refine And.intro ?_ ?_ | (intro _h; first | contradiction | (try simp only [dd] at _h)) | (refine dt_go ?_) | exact rfl | exact True.intro | exact dkk | exact dks | (refine .inr (.inl (.inl ⟨[0], _, _, _, pick_ex _ ?_ 5 (by decide), viewA, ⟨rfl, rfl⟩, ?_⟩)); rotate_left 1; (rintro _ _ ⟨v3, t3, hv3, ht3, rfl, rfl⟩) <;> (refine ⟨rfl, _, lokA, ?_⟩)) | (refine .inr (.inl (.inl ⟨[0], _, _, _, word_ok _ 6 (by decide) ?_, viewA, ⟨rfl, rfl⟩, ?_⟩)); rotate_left 1; (rintro _ _ ⟨v4, t4, hv4, ht4, rfl, rfl⟩) <;> (refine ⟨rfl, _, lokA, ?_⟩)) | (refine .inr (.inl (.inl ⟨[], _, _, _, withOwn_spec _ _ _ _ ?_ ?_, viewA, ⟨rfl, rfl⟩, ?_⟩)); rotate_left 2; (rintro _ _ ⟨rfl, rfl⟩) <;> (refine ⟨rfl, _, lokA, ?_⟩)) | (refine wrap_succ ?_; omega))))
  all_goals (rename BnS => y; rename (5 ≤ y.b.size ∧ _) ∧ _ => hy)
  all_goals first
    | (have hz := wo_size (s := y.b) (nm := v2) (bs := v4) (a := v3) ‹_›
       conv => whnf
       refine roundET_end ?_
       refine ⟨⟨y.k - 1, (woR y.b v3 v2 v4).1, t4⟩, [], ⟨hz, ⟨by dsimp only; omega, by dsimp only; omega⟩, by dsimp only; omega, by dsimp only; omega, by dsimp only; omega⟩, (by show (y.k - 1).toNat < y.k.toNat; omega), ?_⟩
       repeat' (first | omega | (with_reducible show (_ : Int) < _; dsimp only; omega) | (with_reducible show (_ : Nat) ≤ _; dsimp only; omega) | ((with_reducible show SrcOk _ _ _) <;> (first | exact srcOk_1 rfl | exact srcOk_L (fun _ => ⟨rfl, rfl⟩) | exact srcOk_E (fun _ => ⟨rfl, rfl⟩))) | ((conv => whnf) <;> (first | exact (wrap_in (by omega) (by omega) : IntKind.i64.wrap (y.k - 1) = y.k - 1) | exact low_cells rfl | exact rfl | refine And.intro ?_ ?_ | (intro _h; first | contradiction | (try simp only [dd] at _h)) | (refine dt_go ?_) | exact rfl | exact True.intro | exact dkk | exact dks | (refine wrap_succ ?_; omega)))))
    | (have hi : 0 < y.k := ‹0 < y.k›
       conv => whnf
       refine roundET_end ?_
       refine ⟨⟨y.k - 1, y.b, t4⟩, [], ⟨hy.1, ⟨by dsimp only; omega, by dsimp only; omega⟩, by dsimp only; omega, by dsimp only; omega, by dsimp only; omega⟩, (by show (y.k - 1).toNat < y.k.toNat; omega), ?_⟩
       repeat' (first | omega | (with_reducible show (_ : Int) < _; dsimp only; omega) | (with_reducible show (_ : Nat) ≤ _; dsimp only; omega) | ((with_reducible show SrcOk _ _ _) <;> (first | exact srcOk_1 rfl | exact srcOk_L (fun _ => ⟨rfl, rfl⟩) | exact srcOk_E (fun _ => ⟨rfl, rfl⟩))) | ((conv => whnf) <;> (first | exact (wrap_in (by omega) (by omega) : IntKind.i64.wrap (y.k - 1) = y.k - 1) | exact low_cells rfl | exact rfl | refine And.intro ?_ ?_ | (intro _h; first | contradiction | (try simp only [dd] at _h)) | (refine dt_go ?_) | exact rfl | exact True.intro | exact dkk | exact dks | (refine wrap_succ ?_; omega)))))
    | (conv => whnf
       exact endM_pick [0] [some (boxRow y.t.cs)] (.s y.b) (view_of rfl (.cons rfl (.self (rowPl_box rfl)) .nil)) rfl rfl (by rw [hX]; exact keepK (n := 1) rfl rfl) ⟨y.b, y.t, hy.1, ⟨by omega, by omega, by omega⟩, rfl, rfl⟩)
    | trace_state
end
section
attribute [local irreducible] IntKind.wrap
theorem min_ex (a b : Int) (ha : 1 ≤ a) (hb : 1 ≤ b) : RetM env.P 40 [] [.i .i64 a, .i .i64 b] (fun r H => ∃ m : Int, (1 ≤ m ∧ m ≤ a ∧ m ≤ b) ∧ r = .i .i64 m ∧ H = []) :=
  (l00Min_ok a b).toMB.mono fun r H hr => ⟨_, by split <;> omega, hr.1, hr.2⟩
def hd6 : List ByteArray := [⟨#[]⟩, ⟨#[0, 99, 111, 114, 1]⟩, ⟨#[0, 99, 111, 114, 1, 0, 1, 0]⟩, ⟨#[0, 99, 111, 114, 1, 5, 0]⟩, ⟨#[0, 99, 111, 114, 1, 1, 0]⟩, ⟨#[0, 99, 111, 114, 2]⟩]
theorem hd6_size {v : ByteArray} (h : v ∈ hd6) : v.size ≤ 40000 := by
  simp only [hd6, List.mem_cons, List.not_mem_nil, or_false] at h
  rcases h with rfl | rfl | rfl | rfl | rfl | rfl <;> exact Nat.le_of_ble_eq_true rfl
theorem rot_n (v : ByteArray) : 0 + (((soL v).length : Int) - 1).toNat ≤ 1000 := by have := (soL_ok v).1; omega
theorem rot_n1 (v : ByteArray) : 0 + (((soL v).length : Int) - 1).toNat + 1 ≤ 1000 := by have := (soL_ok v).1; omega
def rotL (l : List Section) : List Section := l.drop 1 ++ [l.getD 0 default]
theorem rot_len {l : List Section} (h : (1 : Int) < (l.length : Int)) : 0 + ((l.length : Int) - 1).toNat + 1 = (rotL l).length := by
  unfold rotL
  rw [List.length_append, List.length_drop, List.length_singleton]
  omega
theorem rot_g {l : List Section} (h : (1 : Int) < (l.length : Int)) {e0 g1 : Nat → Nat → AV} (h1 : ∀ j, j < 3 → g1 0 j = (l.getD 0 default).cs.getD j .any) : ∀ i j, i < 0 + ((l.length : Int) - 1).toNat + 1 → j < 3 →
    catE (0 + ((l.length : Int) - 1).toNat) (catE 0 e0 (fun i j => (l.getD (Int.toNat 1 + i) default).cs.getD j .any)) g1 i j = elE Section.cs (rotL l) i j := fun i j hi hj => by
  have hw : ∀ y, (rotL l).getD i default = y → elE Section.cs (rotL l) i j = y.cs.getD j .any := fun y e => by rw [← e]; rfl
  have hd : (l.drop 1).length = l.length - 1 := List.length_drop
  by_cases c1 : i < l.length - 1
  · rw [catE_lt (by omega), catE_ge (by omega)]
    refine (hw (l.getD (Int.toNat 1 + (i - 0)) default) ?_).symm
    unfold rotL
    rw [List.getD_eq_getElem?_getD, List.getElem?_append_left (by omega), List.getElem?_drop, List.getD_eq_getElem?_getD, show Int.toNat 1 + (i - 0) = 1 + i from by simp]
  · rw [catE_ge (by omega)]
    refine (Eq.trans ?_ (hw (l.getD 0 default) ?_).symm)
    · rw [show i - (0 + ((l.length : Int) - 1).toNat) = 0 by omega]
      exact h1 j hj
    · unfold rotL
      rw [List.getD_eq_getElem?_getD, List.getElem?_append_right (by omega), show i - (l.drop 1).length = 0 by omega]
      rfl
theorem rot_fit {v : ByteArray} (hv : v.size ≤ 30000) : Fit (rotL (soL v)) := by
  obtain ⟨hl, ho⟩ := soL_ok v
  refine ⟨by unfold rotL; rw [List.length_append, List.length_drop, List.length_singleton]; omega, fun k hk => ?_⟩
  by_cases h0 : (soL v).length = 0
  · have e : soL v = [] := List.length_eq_zero_iff.1 h0
    rw [e] at hk ⊢
    have : k < 1 := hk
    obtain rfl : k = 0 := by omega
    exact default_fit
  · have key : ∀ x ∈ rotL (soL v), x ∈ soL v := fun x hx => by
      unfold rotL at hx
      rcases List.mem_append.1 hx with h1 | h1
      · exact List.mem_of_mem_drop h1
      · rw [List.mem_singleton.1 h1]
        exact getD_memS (by omega)
    have hm := key _ (getD_memS hk)
    exact okSec_fit (ho _ hm).1 (Nat.le_trans (ho _ hm).2 (by omega))
theorem sec_j {x : Section} {g : Nat → AV} (h0 : g 0 = .i .i64 x.id) (h1 : g 1 = .s x.name) (h2 : g 2 = .s x.bytes) : ∀ j, j < 3 → g j = x.cs.getD j .any
  | 0, _ => h0
  | 1, _ => h1
  | 2, _ => h2
  | j + 3, h => absurd h (by omega)
set_option maxHeartbeats 4000000 in
theorem l17Bent_ok (s : Src) (h : s.rm 30000) : RetM env.P 14 [some (boxRow s.cs)] [.ptr 0 0 0] (fun r H => ∃ (v : ByteArray) (t : Src), v.size ≤ 40000 ∧ (s.at' ≤ t.at' ∧ t.at' ≤ s.at' + 6300 ∧ t.code.length = s.code.length) ∧ r = .s v ∧ H = [some (boxRow t.cs)]) := by
  obtain ⟨q1, q2, q3⟩ := h
  refine ret_ofM (nt := 58) (rvs := [.tmp 2]) Try.func14 rfl rfl rfl rfl (fun X hX => ?_)
  repeat' (first | omega | (with_reducible show (_ : Int) < _; dsimp only; omega) | (with_reducible show (_ : Nat) ≤ _; dsimp only; omega) | ((with_reducible show SrcOk _ _ _) <;> (first | exact srcOk_1 rfl | exact srcOk_L (fun _ => ⟨rfl, rfl⟩) | exact srcOk_E (fun _ => ⟨rfl, rfl⟩))) | ((conv => whnf) <;> (first | (refine dt_goH 1 [0] rfl ?_) | (refine Src.rm_i ?_ ?_ ?_) | ((refine .inr (.inl (.inl ⟨[0, 1], _, _, _, text_row _ ?_ hd6 (Nat.succ_pos _) (show 6 ≤ 200 by decide), (view_of rfl (.cons rfl (.self (rowPl_box rfl)) (.cons rfl (rowBack_litS hd6) .nil))), ⟨rfl, rfl⟩, ?_⟩))); rotate_left 1; rintro _ _ ⟨v2, t2, hv2, ht2, rfl, rfl⟩; refine ⟨rfl, _, lokA, ?_⟩) | exact bytes_updI | exact bytes_strE _ | exact srcOk_sec | exact wo_cap1 (rot_n v0) | exact wo_cap1 (rot_n1 v0) | exact wo_cap2 (rot_n v0) | exact wo_cap2 (rot_n1 v0) | ((refine .inr (.inl (.inr (.inl ⟨_, RetM.wk (.cons (wo_sl (rot_len ‹_›) (rot_g (e0 := fun _ _ => .any) ‹_› (sec_j rfl rfl rfl))) .nil) (secBytes_any (rotL (soL v0)) (rot_fit hv0.2)), ?_⟩)))); rintro _ _ ⟨v6, hv6, rfl, rfl⟩; refine ⟨⟨rfl, rowsNs_nil⟩, _, lok_pl RowsPl.nil, ?_⟩) | refine And.intro ?_ ?_ | (intro _h; first | contradiction | (try simp only [dd] at _h)) | (refine dt_go ?_) | exact rfl | exact True.intro | exact dkk | exact dks | (refine .inr (.inl (.inl ⟨[0], _, _, _, l17Binary_ok _ ?_, viewA, ⟨rfl, rfl⟩, ?_⟩)); rotate_left 1; (rintro _ _ ⟨v0, t0, hv0, ht0, rfl, rfl⟩) <;> (refine ⟨rfl, _, lokA, ?_⟩)) | (refine .inr (.inl (.inl ⟨[0], _, _, _, pick_ex _ ?_ _ ?_, viewA, ⟨rfl, rfl⟩, ?_⟩)); rotate_left 2; (rintro _ _ ⟨v1, t1, hv1, ht1, rfl, rfl⟩) <;> (refine ⟨rfl, _, lokA, ?_⟩)) | (refine .inr (.inl (.inl ⟨[0], _, _, _, l01Bend_ok _ ?_ _ ?_, viewA, ⟨rfl, rfl⟩, ?_⟩)); rotate_left 2; (rintro _ _ ⟨v2, t2, hv2, ht2, rfl, rfl⟩) <;> (refine ⟨rfl, _, lokA, ?_⟩)) | (refine .inr (.inl (.inl ⟨[], _, _, _, min_ex _ _ ?_ ?_, viewA, ⟨rfl, rfl⟩, ?_⟩)); rotate_left 2; (rintro _ _ ⟨m, hm, rfl, rfl⟩) <;> (refine ⟨rfl, _, lokA, ?_⟩)) | ((first | refine .inl ⟨_, sectionsOf_spec v0 (by omega), ?_⟩ | refine ⟨_, sectionsOf_spec v0 (by omega), ?_⟩); (try rintro _ rfl)) | (refine wrap_succ ?_; omega))))
  all_goals (conv => whnf)
  all_goals first
    | exact endM_pick [0] [some (boxRow (Src.cs t2))] (.s _) (view_of rfl (.cons rfl (.self (rowPl_box rfl)) .nil)) rfl rfl (by rw [hX]; exact keepK (n := 1) rfl rfl) ⟨_, t2, by omega, ⟨by omega, by omega, by omega⟩, rfl, rfl⟩
    | exact endM_pick [0] [some (boxRow (Src.cs t2))] (.s _) (view_of rfl (.cons rfl (.self (rowPl_box rfl)) .nil)) rfl rfl (by rw [hX]; exact keepK (n := 1) rfl rfl) ⟨_, t2, hd6_size hv2, ⟨by omega, by omega, by omega⟩, rfl, rfl⟩
    | exact endM_pick [0] [some (boxRow (Src.cs t1))] (.s _) (view_of rfl (.cons rfl (.self (rowPl_box rfl)) .nil)) rfl rfl (by rw [hX]; exact keepK (n := 1) rfl rfl) ⟨_, t1, by omega, ⟨by omega, by omega, by omega⟩, rfl, rfl⟩
    | exact endM_pick [0] [some (boxRow (Src.cs t1))] (.s _) (view_of rfl (.cons rfl (.self (rowPl_box rfl)) .nil)) rfl rfl (by rw [hX]; exact keepK (n := 1) rfl rfl) ⟨_, t1, by rw [bytesOf_size]; omega, ⟨by omega, by omega, by omega⟩, rfl, rfl⟩
    | trace_state
end
section
attribute [local irreducible] IntKind.wrap
theorem from_gen2 (l : List UInt8) (hl : l.length ≤ 1048576) : RetM env.P 15 [] [slL 1 byteC l] (fun r H => ∃ s : Src, (s.at' = 0 ∧ s.code.length ≤ 1048576) ∧ r = .ptr 0 0 0 ∧ H = [some (boxRow s.cs)]) :=
  (from_ok l).mono fun r H h => ⟨_, ⟨rfl, hl⟩, h⟩
theorem drawSections_ok (l : List UInt8) (hl : l.length ≤ 1048576) : RetM env.P 5 [] [slL 1 byteC l] (fun r H => ∃ v : ByteArray, v.size ≤ 40000 ∧ r = .s v ∧ H = []) := by
  refine ret_ofM (nt := 6) (rvs := [.tmp 2]) Try.func5 rfl rfl rfl rfl (fun X hX => ?_)
  repeat' (first | omega | (with_reducible show (_ : Int) < _; dsimp only; omega) | (with_reducible show (_ : Nat) ≤ _; dsimp only; omega) | ((with_reducible show SrcOk _ _ _) <;> (first | exact srcOk_1 rfl | exact srcOk_L (fun _ => ⟨rfl, rfl⟩) | exact srcOk_E (fun _ => ⟨rfl, rfl⟩))) | ((conv => whnf) <;> (first | (refine Src.rm_i ?_ ?_ ?_) | refine And.intro ?_ ?_ | (intro _h; first | contradiction | (try simp only [dd] at _h)) | (refine dt_go ?_) | exact rfl | exact True.intro | exact dkk | exact dks | (refine .inr (.inl (.inl ⟨[], _, _, _, from_gen2 l hl, viewA, ⟨rfl, rfl⟩, ?_⟩)); (rintro _ _ ⟨s0, ⟨hs1, hs2⟩, rfl, rfl⟩) <;> (refine ⟨rfl, _, lokA, ?_⟩)) | (refine .inr (.inl (.inl ⟨[0], _, _, _, l17Bent_ok _ ?_, viewA, ⟨rfl, rfl⟩, ?_⟩)); rotate_left 1; (rintro _ _ ⟨v1, t1, hv1, ht1, rfl, rfl⟩) <;> (refine ⟨rfl, _, lokA, ?_⟩)) | (refine wrap_succ ?_; omega))))
  all_goals (conv => whnf)
  all_goals exact endM_pick [] [] (.s _) (view_of rfl .nil) rfl rfl (fun k hk => by rw [hX] at hk; exact absurd hk (Nat.not_lt_zero _)) ⟨_, hv1, rfl, rfl⟩
theorem drawIns_ok (l : List UInt8) (hl : l.length ≤ 1048576) : RetM env.P 8 [] [slL 1 byteC l] (fun r H => ∃ i : Ins, r = .agg i.cs ∧ H = []) := by
  refine ret_ofM (nt := 6) (rvs := [.cell 2 30]) Try.func8 rfl rfl rfl rfl (fun X hX => ?_)
  repeat' (first | omega | (with_reducible show (_ : Int) < _; dsimp only; omega) | (with_reducible show (_ : Nat) ≤ _; dsimp only; omega) | ((with_reducible show SrcOk _ _ _) <;> (first | exact srcOk_1 rfl | exact srcOk_L (fun _ => ⟨rfl, rfl⟩) | exact srcOk_E (fun _ => ⟨rfl, rfl⟩))) | ((conv => whnf) <;> (first | (refine Src.rm_i ?_ ?_ ?_) | refine And.intro ?_ ?_ | (intro _h; first | contradiction | (try simp only [dd] at _h)) | (refine dt_go ?_) | exact rfl | exact True.intro | exact dkk | exact dks | (refine .inr (.inl (.inl ⟨[], _, _, _, from_gen2 l hl, viewA, ⟨rfl, rfl⟩, ?_⟩)); (rintro _ _ ⟨s0, ⟨hs1, hs2⟩, rfl, rfl⟩) <;> (refine ⟨rfl, _, lokA, ?_⟩)) | (refine .inr (.inl (.inl ⟨[1], _, _, _, l15AnyIns_ok _ ?_, viewA, ⟨rfl, rfl⟩, ?_⟩)); rotate_left 1; (rintro _ _ ⟨i, t1, ht1, rfl, rfl⟩) <;> (refine ⟨rfl, _, lokA, ?_⟩)) | (refine wrap_succ ?_; omega))))
  all_goals (conv => whnf)
  all_goals exact endM_pick [] [] (.agg i.cs) (view_of rfl .nil) rfl rfl (fun k hk => by rw [hX] at hk; exact absurd hk (Nat.not_lt_zero _)) ⟨i, rfl, rfl⟩
def CodQ (r : AV) (H : Hp) : Prop := ∃ (c : List Ins) (k : Nat), c.length ≤ 1000 ∧ k = c.length ∧ r = .row 0 k ∧ H = [some (rowL 2 Ins.cs c)]
theorem endN {X : Ctx} {H : Hp} {k id : Nat} {x : Row} {l : List Ins} (hX : X.H0 = []) (hr : H[id]? = some (some x)) (h1 : x.sz = 2) (h2 : x.cap = k) (h3 : x.k = .arr) (he : Els 2 Ins.cs x.es l) (hk : k = l.length) (hl : l.length ≤ 1000) : EndM X H (.row id k) CodQ := by
  have hi : id < H.length := (List.getElem?_eq_some_iff.1 hr).1
  have h1' : (H.set id (some (rowL 2 Ins.cs l)))[id]? = some (some (rowL 2 Ins.cs l)) := by rw [List.getElem?_set_self hi]
  refine endM_turn (turn_eq hr (x := rowL 2 Ins.cs l) h1.symm (by show l.length = x.cap; omega) (by rw [h3]; rfl) (by rw [h3]; rfl) (fun i j hi hj => he i j (by omega) (by omega))) ?_
  exact endM_pick [id] [some (rowL 2 Ins.cs l)] (.row 0 k) (view_of rfl (.cons h1' (.self (rowPl_L fun _ => rfl)) .nil)) rfl rfl (fun k hk => by rw [hX] at hk; exact absurd hk (Nat.not_lt_zero _)) ⟨l, k, hl, hk, rfl, rfl⟩
structure DrS where
  l : List Ins
  n : Nat
  t : Src
set_option maxHeartbeats 4000000 in
theorem drawCode_ok (l : List UInt8) (hl : l.length ≤ 1048576) : RetM env.P 30 [] [slL 1 byteC l] CodQ := by
  refine ret_ofPM (nt := 44) (rvs := [.tmp 2]) Try.func30 rfl rfl rfl rfl (fun X hX => ?_)
  refine pw_cut 5 (fun y : List Ins × Nat × Src => (y.2.1 = y.1.length ∧ y.1.length ≤ 111) ∧ (0 ≤ y.2.2.at' ∧ y.2.2.at' ≤ 7000 ∧ y.2.2.code.length ≤ 1048576)) (fun y => [(3, .ptr 0 0 0), (5, .row 5 y.2.1)])
    (fun y => [some (boxRow y.2.2.cs), none, none, none, none, some (rowL 2 Ins.cs y.1)]) ?_ (fun y hy => ?_)
  · repeat' (first | omega | (with_reducible show (_ : Int) < _; dsimp only; omega) | (with_reducible show (_ : Nat) ≤ _; dsimp only; omega) | ((with_reducible show SrcOk _ _ _) <;> (first | exact srcOk_1 rfl | exact srcOk_L (fun _ => ⟨rfl, rfl⟩) | exact srcOk_E (fun _ => ⟨rfl, rfl⟩))) | ((conv => whnf) <;> (first | (refine Src.rm_i ?_ ?_ ?_) | refine And.intro ?_ ?_ | (intro _h; first | contradiction | (try simp only [dd] at _h)) | (refine dt_go ?_) | exact rfl | exact True.intro | exact dkk | exact dks | (refine .inr (.inl (.inl ⟨[], _, _, _, from_gen2 l hl, viewA, ⟨rfl, rfl⟩, ?_⟩)); (rintro _ _ ⟨s0, ⟨hs1, hs2⟩, rfl, rfl⟩) <;> (refine ⟨rfl, _, lokA, ?_⟩)) | (refine .inr (.inl (.inl ⟨[0], _, _, _, l15Draw_ok _ ?_, viewA, ⟨rfl, rfl⟩, ?_⟩)); rotate_left 1; (rintro _ _ ⟨pg, im, co, t0, n0, hpg, him, hco, ht0, rfl, rfl, rfl⟩) <;> (refine ⟨rfl, _, lokA, ?_⟩)) | (refine wrap_succ ?_; omega))))
    all_goals (conv => whnf)
    refine cut_go ((co.getD 0 default).code, (co.getD 0 default).code.length, t0) ?_ (by repeat' (first | exact trivial | refine And.intro rfl ?_)) (by repeat' (first | exact trivial | refine And.intro (.inl rfl) ?_ | refine And.intro (.inr rfl) ?_ | refine And.intro rfl ?_))
    exact ⟨⟨rfl, (hco.1.c 0 (by omega)).2⟩, by dsimp only; omega, by dsimp only; omega, by dsimp only; omega⟩
  · obtain ⟨c0, n0, t0⟩ := y
    obtain ⟨⟨hn, hc0⟩, ht1, ht2, ht3⟩ := hy
    dsimp only at hn hc0 ht1 ht2 ht3
    dsimp only
    refine wpc_ok _ _ _ _ ?_
    repeat' (first | omega | (with_reducible show (_ : Int) < _; dsimp only; omega) | (with_reducible show (_ : Nat) ≤ _; dsimp only; omega) | ((with_reducible show SrcOk _ _ _) <;> (first | exact srcOk_1 rfl | exact srcOk_L (fun _ => ⟨rfl, rfl⟩) | exact srcOk_E (fun _ => ⟨rfl, rfl⟩))) | ((conv => whnf) <;> (first | (refine dt_goH 6 [0] rfl ?_) | (refine lw_del 21 ?_; refine HoldG.get ?_) | (refine Src.rm_i ?_ ?_ ?_) | exact srcOk_1 rfl | refine And.intro ?_ ?_ | (intro _h; first | contradiction | (try simp only [dd] at _h)) | (refine dt_go ?_) | exact rfl | exact True.intro | exact dkk | exact dks | (refine .inr (.inl (.inl ⟨[0], _, _, _, pick_ex _ ?_ _ ?_, viewA, ⟨rfl, rfl⟩, ?_⟩)); rotate_left 2; (rintro _ _ ⟨v1, t1, hv1, ht1, rfl, rfl⟩) <;> (refine ⟨rfl, _, lokA, ?_⟩)) | (refine .inr (.inl (.inl ⟨[0], _, _, _, l15AnyIns_ok _ ?_, viewA, ⟨rfl, rfl⟩, ?_⟩)); rotate_left 1; (rintro _ _ ⟨i, t2, ht2, rfl, rfl⟩) <;> (refine ⟨rfl, _, lokA, ?_⟩)) | (refine wrap_succ ?_; omega))))
    all_goals first
      | (refine HoldG.mk ?_
         refine loopFT (fun y : DrS => [(5, .row 5 y.n)]) (fun y => [some (.box y.t.cs), none, none, none, none, some (.arr ⟨2, y.n, elE Ins.cs y.l, .arr⟩)]) (fun y => (y.n = y.l.length ∧ n0 ≤ y.n ∧ y.n ≤ 121) ∧ (t1.at' ≤ y.t.at' ∧ y.t.at' + n0 ≤ t1.at' + y.n ∧ y.t.code.length = t1.code.length)) (fun y => 200 - y.n) ⟨c0, n0, t1⟩ ⟨⟨⟨hn, Nat.le_refl _, by dsimp only; omega⟩, Int.le_refl _, Int.le_refl _, rfl⟩, ?_⟩
         repeat' (first | omega | (with_reducible show (_ : Int) < _; dsimp only; omega) | (with_reducible show (_ : Nat) ≤ _; dsimp only; omega) | ((with_reducible show SrcOk _ _ _) <;> (first | exact srcOk_1 rfl | exact srcOk_L (fun _ => ⟨rfl, rfl⟩) | exact srcOk_E (fun _ => ⟨rfl, rfl⟩))) | ((conv => whnf) <;> (first | exact hn.symm | exact arr_same rfl hn (fun a j => low_cells rfl) | exact arr_same rfl hn.symm (fun a j => low_cells rfl) | exact low_cells rfl | (refine Src.rm_i ?_ ?_ ?_) | (refine dt_goH 6 [] rfl ?_) | exact srcOk_1 rfl | exact lit_cap (by omega) (by decide) (show 16 ≤ 1000 by decide) | exact lit_len (by omega) (by decide) | refine And.intro ?_ ?_ | (intro _h; first | contradiction | (try simp only [dd] at _h)) | (refine dt_go ?_) | exact rfl | exact True.intro | exact dkk | exact dks | (refine .inr (.inl (.inl ⟨[0], _, _, _, pick_ex _ ?_ 2 (by decide), viewA, ⟨rfl, rfl⟩, ?_⟩)); rotate_left 1; (rintro _ _ ⟨v3, t3, hv3, ht3, rfl, rfl⟩) <;> (refine ⟨rfl, _, lokA, ?_⟩)) | (refine wrap_succ ?_; omega))))
         all_goals (rename DrS => y; rename (y.n = y.l.length ∧ _) ∧ _ => hy)
         all_goals first
           | (have hb : (y.n : Int) < IntKind.i64.wrap (120 + v3) := ‹_›
              rw [wrap_in (by omega) (by omega)] at hb
              conv => whnf
              refine roundET_turn (turn_eq (id := 7) (x := ⟨2, y.n + 1, elE Ins.cs (y.l ++ [⟨5, 0⟩]), .arr⟩) rfl rfl rfl rfl rfl (fun i j hi hj => Els.cat (l := y.l) (l' := [⟨5, 0⟩]) Els.el (Els.lit rfl) hy.1.1 i j (by rw [List.length_append, ← hy.1.1]; exact hi) hj)) ?_
              refine roundET_end ?_
              refine ⟨⟨y.l ++ [⟨5, 0⟩], y.n + 1, t3⟩, [0, 1, 2, 3, 4, 7], ⟨⟨by dsimp only; rw [List.length_append, ← hy.1.1]; rfl, by dsimp only; omega, by dsimp only; omega⟩, by dsimp only; omega, by dsimp only; omega, by dsimp only; omega⟩, (by show 200 - (y.n + 1) < 200 - y.n; omega), ?_⟩
              repeat' (first | omega | (with_reducible show (_ : Int) < _; dsimp only; omega) | (with_reducible show (_ : Nat) ≤ _; dsimp only; omega) | ((with_reducible show SrcOk _ _ _) <;> (first | exact srcOk_1 rfl | exact srcOk_L (fun _ => ⟨rfl, rfl⟩) | exact srcOk_E (fun _ => ⟨rfl, rfl⟩))) | ((conv => whnf) <;> (first | exact arr_same rfl rfl (fun a j => low_cells rfl) | exact low_cells rfl | exact lbz_rho hX ‹_› | exact rfl | refine And.intro ?_ ?_ | (intro _h; first | contradiction | (try simp only [dd] at _h)) | (refine dt_go ?_) | exact rfl | exact True.intro | exact dkk | exact dks | (refine wrap_succ ?_; omega)))))
           | (conv => whnf
              exact endN hX rfl rfl rfl rfl Els.el hy.1.1 (by omega))
           | trace_state)
      | (conv => whnf
         exact endN hX rfl rfl rfl rfl (Els.cat (l := [] ++ c0) (l' := [i]) (Els.cat (l := []) (l' := c0) (Els.lit rfl) Els.el rfl) (Els.lit rfl) (by show 0 + n0 = c0.length; omega)) (by show 0 + n0 + 1 = (c0 ++ [i]).length; rw [List.length_append, List.length_singleton]; omega) (by show (c0 ++ [i]).length ≤ 1000; rw [List.length_append, List.length_singleton]; omega))
      | (conv => whnf
         exact endN hX rfl rfl hn.symm rfl Els.el hn (by omega))
      | trace_state
set_option maxHeartbeats 4000000 in
theorem drawBody_ok (l : List UInt8) (hl : l.length ≤ 1048576) : RetM env.P 11 [] [slL 1 byteC l] (fun r H => ∃ v : ByteArray, v.size ≤ 40000 ∧ r = .s v ∧ H = []) := by
  refine ret_ofM (nt := 16) (rvs := [.tmp 2]) Try.func11 rfl rfl rfl rfl (fun X hX => ?_)
  repeat' (first | omega | (with_reducible show (_ : Int) < _; dsimp only; omega) | (with_reducible show (_ : Nat) ≤ _; dsimp only; omega) | ((with_reducible show SrcOk _ _ _) <;> (first | exact srcOk_1 rfl | exact srcOk_L (fun _ => ⟨rfl, rfl⟩) | exact srcOk_E (fun _ => ⟨rfl, rfl⟩))) | ((conv => whnf) <;> (first | (refine Src.rm_i ?_ ?_ ?_) | ((refine .inr (.inl (.inr (.inl ⟨_, RetM.wka (bodyS_any c hc), ?_⟩)))); rintro _ _ ⟨v0, hv0, rfl, rfl⟩; refine ⟨⟨rfl, rowsNs_nil⟩, _, lok_pl RowsPl.nil, ?_⟩) | refine And.intro ?_ ?_ | (intro _h; first | contradiction | (try simp only [dd] at _h)) | (refine dt_go ?_) | exact rfl | exact True.intro | exact dkk | exact dks | (refine .inr (.inl (.inl ⟨[], _, _, _, from_gen2 l hl, viewA, ⟨rfl, rfl⟩, ?_⟩)); (rintro _ _ ⟨s0, ⟨hs1, hs2⟩, rfl, rfl⟩) <;> (refine ⟨rfl, _, lokA, ?_⟩)) | (refine .inr (.inl (.inl ⟨[], _, _, _, drawCode_ok l hl, viewA, ⟨rfl, rfl⟩, ?_⟩)); (rintro _ _ ⟨c, k, hc, rfl, rfl, rfl⟩) <;> (refine ⟨rfl, _, lokA, ?_⟩)) | (refine .inr (.inl (.inl ⟨[1], _, _, _, one_ex _ ?_ 3 (by decide), viewA, ⟨rfl, rfl⟩, ?_⟩)); rotate_left 1; (rintro _ _ ⟨b1, t1, ht1, rfl, rfl⟩) <;> (refine ⟨rfl, _, lokA, ?_⟩)) | (refine .inr (.inl (.inl ⟨[1], _, _, _, l01Bend_ok _ ?_ _ ?_, viewA, ⟨rfl, rfl⟩, ?_⟩)); rotate_left 2; (rintro _ _ ⟨v2, t2, hv2, ht2, rfl, rfl⟩) <;> (refine ⟨rfl, _, lokA, ?_⟩)) | (refine wrap_succ ?_; omega))))
  all_goals (conv => whnf)
  all_goals first
    | exact endM_pick [] [] (.s _) (view_of rfl .nil) rfl rfl (fun k hk => by rw [hX] at hk; exact absurd hk (Nat.not_lt_zero _)) ⟨_, by omega, rfl, rfl⟩
    | trace_state
end
end Go.Proofs.Ytdeledeopippfaa
