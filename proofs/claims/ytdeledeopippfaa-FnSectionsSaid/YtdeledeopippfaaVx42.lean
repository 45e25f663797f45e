/- Texts for VSectionsP. -/
import Derived.Test.YtdeledeopippfaaVx39
import Derived.Test.YtdeledeopippfaaVx41
namespace Go.Proofs.Ytdeledeopippfaa
open Go Go.RowKit
set_option linter.unusedVariables false
set_option linter.unusedSimpArgs false
section
attribute [local irreducible] IntKind.wrap
theorem soC_0 {v : ByteArray} (h : soC v = 0) : ∃ l, secAll v = some l ∧ ¬ 30000 < v.size := by
  by_cases hz : 30000 < v.size
  · rw [(so_4 hz).2] at h
    exact absurd h (by decide)
  · cases e : secAll v with
    | none => rw [(so_18 hz e).2] at h; exact absurd h (by decide)
    | some l => exact ⟨l, rfl, hz⟩
theorem secBack {v : ByteArray} {l : List Section} (h : secAll v = some l) (hz : ¬ 30000 < v.size) : Ret env.P 7 [slL 3 Section.cs l] (fun r => r = .s v) := by
  obtain ⟨h1, h2⟩ := secAll_ok h
  have hf : Fit l := ⟨by omega, fun k hk => okSec_fit (h2 _ (getD_memS hk)).1 (Nat.le_trans (h2 _ (getD_memS hk)).2 (by omega))⟩
  refine (sectionBytes_impl l h1 hf (fun k hk => ?_)).mono fun r hr => hr.trans ?_
  · have := sectionOk_ok (l.getD k default)
    rwa [pb_t.mpr (h2 _ (getD_memS hk)).1] at this
  · have e := secAll_bytes h
    unfold allB
    rw [pb_t.mpr (by rw [← baN_size, e]; omega), e]
    rfl
theorem ins_back {i : Ins} (h : i.good = true) : Ret env.P 10 [.s (baN i.by ++ ⟨#[128]⟩)] (fun r => r = .tup [.agg i.cs, .i .i64 ((baN i.by).size : Int), .b true]) := by
  have hl := i.by_len
  have hz : (baN i.by ++ ⟨#[128]⟩).size = i.by.length + 1 := by rw [ByteArray.size_append, baN_size]; rfl
  refine (insOf_impl (baN i.by ++ ⟨#[128]⟩) (by omega)).mono fun r hr => hr.trans ?_
  have e : bsN (baN i.by ++ ⟨#[128]⟩) = i.by ++ [128] := by
    have e1 : baN i.by ++ (⟨#[128]⟩ : ByteArray) = baN (i.by ++ [128]) := by rw [← baN_app]; rfl
    rw [e1, bsN_ba]
    intro x hx
    rcases List.mem_append.1 hx with hx | hx
    · exact Ins.by_lt h x hx
    · rw [List.mem_singleton.1 hx]; decide
  rw [insV_of h e, baN_size]
  rfl
theorem by_ne {i : Ins} (h : i.good = true) : ¬ baN i.by = ⟨#[]⟩ := fun q => by
  have := congrArg ByteArray.size q
  rw [baN_size, Ins.by_arg h] at this
  exact absurd (show (i.op.toNat :: i.arg).length = 0 from this) (by simp)
set_option maxRecDepth 8000 in
set_option maxHeartbeats 8000000 in
theorem sectionsLaw_of (l m : List UInt8) : RetM env.P 3 [] [slL 1 byteC l, slL 1 byteC m] (fun r H => (r = .b true ∨ r = .kb true) ∧ H = []) := by
  by_cases hl : 1048576 < (l.length : Int) ∨ 1048576 < (m.length : Int)
  · have hb := b10Long_ok l m
    rw [pb_t.mpr hl] at hb
    refine ret_ofM (nt := 75) (rvs := [.tmp 4]) Try.func3 rfl rfl rfl rfl (fun X hX => ?_)
    repeat' (first | omega | (with_reducible show (_ : Int) < _; dsimp only; omega) | (with_reducible show (_ : Nat) ≤ _; dsimp only; omega) | ((with_reducible show SrcOk _ _ _) <;> (first | exact srcOk_1 rfl | exact srcOk_L (fun _ => ⟨rfl, rfl⟩) | exact srcOk_E (fun _ => ⟨rfl, rfl⟩))) | ((conv => whnf) <;> (first | refine And.intro ?_ ?_ | (intro _h; first | contradiction | (try simp only [dd] at _h)) | (refine dt_go ?_) | exact rfl | exact True.intro | exact dkk | exact dks | ((first | refine .inl ⟨_, hb, ?_⟩ | refine ⟨_, hb, ?_⟩); (try rintro _ rfl)) | (refine wrap_succ ?_; omega))))
    all_goals (conv => whnf)
    all_goals exact endM_pick [] [] (.kb true) (view_of rfl .nil) rfl rfl (fun k hk => by rw [hX] at hk; exact absurd hk (Nat.not_lt_zero _)) ⟨.inr rfl, rfl⟩
  · have hb := b10Long_ok l m
    rw [pb_f.mpr hl] at hb
    refine ret_ofPM (nt := 75) (rvs := [.tmp 4]) Try.func3 rfl rfl rfl rfl (fun X hX => ?_)
    refine pw_cut 5 (fun _ : Unit => True) (fun _ => [(1, slL 1 byteC m)]) (fun _ => [none, none, none]) ?_ (fun _ _ => ?_)
    · repeat' (first | omega | (with_reducible show (_ : Int) < _; dsimp only; omega) | (with_reducible show (_ : Nat) ≤ _; dsimp only; omega) | ((with_reducible show SrcOk _ _ _) <;> (first | exact srcOk_1 rfl | exact srcOk_L (fun _ => ⟨rfl, rfl⟩) | exact srcOk_E (fun _ => ⟨rfl, rfl⟩))) | ((conv => whnf) <;> (first | refine And.intro ?_ ?_ | (intro _h; first | contradiction | (try simp only [dd] at _h)) | (refine dt_go ?_) | exact rfl | exact True.intro | exact dkk | exact dks | ((first | refine .inl ⟨_, hb, ?_⟩ | refine ⟨_, hb, ?_⟩); (try rintro _ rfl)) | (refine .inr (.inl (.inl ⟨[], _, _, _, drawSections_ok l (by omega), viewA, ⟨rfl, rfl⟩, ?_⟩)); (rintro _ _ ⟨v, hv, rfl, rfl⟩) <;> (refine ⟨rfl, _, lokA, ?_⟩)) | (refine wrap_succ ?_; omega))))
      by_cases hs : soC v = 0
      · obtain ⟨ls, he, hz⟩ := soC_0 hs
        have hO := sectionsOf_impl_ok v (by omega) he hz
        have hB := secBack he hz
        repeat' (first | omega | (with_reducible show (_ : Int) < _; dsimp only; omega) | (with_reducible show (_ : Nat) ≤ _; dsimp only; omega) | ((with_reducible show SrcOk _ _ _) <;> (first | exact srcOk_1 rfl | exact srcOk_L (fun _ => ⟨rfl, rfl⟩) | exact srcOk_E (fun _ => ⟨rfl, rfl⟩))) | ((conv => whnf) <;> (first | (exfalso; exact ‹¬True› trivial) | refine And.intro ?_ ?_ | (intro _h; first | contradiction | (try simp only [dd] at _h)) | (refine dt_go ?_) | exact rfl | exact True.intro | exact dkk | exact dks | (refine .inr (.inl (.inl ⟨[], _, _, _, hO, viewA, ⟨rfl, rfl⟩, ?_⟩)); (rintro _ _ ⟨rfl, rfl⟩) <;> (refine ⟨rfl, _, lokA, ?_⟩)) | (refine .inr (.inl (.inr (.inl ⟨_, RetM.wka (hB.toMB), ?_⟩))); rintro _ _ ⟨rfl, rfl⟩; refine ⟨⟨rfl, nssA⟩, _, lokA, ?_⟩) | (refine wrap_succ ?_; omega))))
        all_goals (conv => whnf)
        all_goals exact cut_go () trivial (by repeat' (first | exact trivial | refine And.intro rfl ?_)) (by repeat' (first | exact trivial | refine And.intro (.inl rfl) ?_ | refine And.intro (.inr rfl) ?_ | refine And.intro rfl ?_))
      · have hO := sectionsOf_impl_no v (by omega) hs
        repeat' (first | omega | (with_reducible show (_ : Int) < _; dsimp only; omega) | (with_reducible show (_ : Nat) ≤ _; dsimp only; omega) | ((with_reducible show SrcOk _ _ _) <;> (first | exact srcOk_1 rfl | exact srcOk_L (fun _ => ⟨rfl, rfl⟩) | exact srcOk_E (fun _ => ⟨rfl, rfl⟩))) | ((conv => whnf) <;> (first | refine And.intro ?_ ?_ | (intro _h; first | contradiction | (try simp only [dd] at _h)) | (refine dt_go ?_) | exact rfl | exact True.intro | exact dkk | exact dks | ((first | refine .inl ⟨_, hO, ?_⟩ | refine ⟨_, hO, ?_⟩); (try rintro _ rfl)) | (refine wrap_succ ?_; omega))))
        all_goals (conv => whnf)
        all_goals exact cut_go () trivial (by repeat' (first | exact trivial | refine And.intro rfl ?_)) (by repeat' (first | exact trivial | refine And.intro (.inl rfl) ?_ | refine And.intro (.inr rfl) ?_ | refine And.intro rfl ?_))
    (try dsimp only)
    refine pw_cut 2 (fun _ : Unit => True) (fun _ => [(1, slL 1 byteC m)]) (fun _ => [none, none, none, none, none]) ?_ (fun _ _ => ?_)
    · repeat' (first | omega | (with_reducible show (_ : Int) < _; dsimp only; omega) | (with_reducible show (_ : Nat) ≤ _; dsimp only; omega) | ((with_reducible show SrcOk _ _ _) <;> (first | exact srcOk_1 rfl | exact srcOk_L (fun _ => ⟨rfl, rfl⟩) | exact srcOk_E (fun _ => ⟨rfl, rfl⟩))) | ((conv => whnf) <;> (first | refine And.intro ?_ ?_ | (intro _h; first | contradiction | (try simp only [dd] at _h)) | (refine dt_go ?_) | exact rfl | exact True.intro | exact dkk | exact dks | (refine .inr (.inl (.inl ⟨[], _, _, _, drawIns_ok m (by omega), viewA, ⟨rfl, rfl⟩, ?_⟩)); (rintro _ _ ⟨i, rfl, rfl⟩) <;> (refine ⟨rfl, _, lokA, ?_⟩)) | (refine wrap_succ ?_; omega))))
      all_goals (conv => whnf)
      by_cases hg : i.good = true
      · have hB := insBytes_impl i
        have hI := ins_back hg
        have hne := by_ne hg
        have hz : (baN i.by).size ≤ 11 := by rw [baN_size]; exact Ins.by_len i
        generalize baN i.by = b at *
        repeat' (first | omega | (with_reducible show (_ : Int) < _; dsimp only; omega) | (with_reducible show (_ : Nat) ≤ _; dsimp only; omega) | ((with_reducible show SrcOk _ _ _) <;> (first | exact srcOk_1 rfl | exact srcOk_L (fun _ => ⟨rfl, rfl⟩) | exact srcOk_E (fun _ => ⟨rfl, rfl⟩))) | ((conv => whnf) <;> (first | exact cat_le (show b.size ≤ 1000000 by omega) (show (ByteArray.mk #[128]).size ≤ 50 from Nat.le_of_ble_eq_true rfl) | refine And.intro ?_ ?_ | (intro _h; first | contradiction | (try simp only [dd] at _h)) | (refine dt_go ?_) | exact rfl | exact True.intro | exact dkk | exact dks | ((first | refine .inl ⟨_, hB, ?_⟩ | refine ⟨_, hB, ?_⟩); (try rintro _ rfl)) | ((first | refine .inl ⟨_, hI, ?_⟩ | refine ⟨_, hI, ?_⟩); (try rintro _ rfl)) | (refine wrap_succ ?_; omega))))
        all_goals (conv => whnf)
        all_goals first
          | exact cut_go () trivial (by repeat' (first | exact trivial | refine And.intro rfl ?_)) (by repeat' (first | exact trivial | refine And.intro (.inl rfl) ?_ | refine And.intro (.inr rfl) ?_ | refine And.intro rfl ?_))
          | (exfalso; exact ‹¬True› trivial)
          | (exfalso; exact absurd ‹(decide True && (decide True && true)) = false› (by decide))
          | trace_state
      · have hB := insBytes_impl i
        have hn : baN i.by = ⟨#[]⟩ := Ins.by_bad (Bool.eq_false_iff.2 hg)
        rw [hn] at hB
        repeat' (first | omega | (with_reducible show (_ : Int) < _; dsimp only; omega) | (with_reducible show (_ : Nat) ≤ _; dsimp only; omega) | ((with_reducible show SrcOk _ _ _) <;> (first | exact srcOk_1 rfl | exact srcOk_L (fun _ => ⟨rfl, rfl⟩) | exact srcOk_E (fun _ => ⟨rfl, rfl⟩))) | ((conv => whnf) <;> (first | refine And.intro ?_ ?_ | (intro _h; first | contradiction | (try simp only [dd] at _h)) | (refine dt_go ?_) | exact rfl | exact True.intro | exact dkk | exact dks | ((first | refine .inl ⟨_, hB, ?_⟩ | refine ⟨_, hB, ?_⟩); (try rintro _ rfl)) | (refine wrap_succ ?_; omega))))
        all_goals (conv => whnf)
        all_goals exact cut_go () trivial (by repeat' (first | exact trivial | refine And.intro rfl ?_)) (by repeat' (first | exact trivial | refine And.intro (.inl rfl) ?_ | refine And.intro (.inr rfl) ?_ | refine And.intro rfl ?_))
    (try dsimp only)
    refine wpc_ok _ _ _ _ ?_
    repeat' (first | omega | (with_reducible show (_ : Int) < _; dsimp only; omega) | (with_reducible show (_ : Nat) ≤ _; dsimp only; omega) | ((with_reducible show SrcOk _ _ _) <;> (first | exact srcOk_1 rfl | exact srcOk_L (fun _ => ⟨rfl, rfl⟩) | exact srcOk_E (fun _ => ⟨rfl, rfl⟩))) | ((conv => whnf) <;> (first | refine And.intro ?_ ?_ | (intro _h; first | contradiction | (try simp only [dd] at _h)) | (refine dt_go ?_) | exact rfl | exact True.intro | exact dkk | exact dks | (refine .inr (.inl (.inl ⟨[], _, _, _, drawBody_ok m (by omega), viewA, ⟨rfl, rfl⟩, ?_⟩)); (rintro _ _ ⟨v, hv, rfl, rfl⟩) <;> (refine ⟨rfl, _, lokA, ?_⟩)) | (refine wrap_succ ?_; omega))))
    all_goals (conv => whnf)
    have hO := bodyOf_impl v (by omega)
    cases e : bodyV v with
    | none =>
      rw [e] at hO
      have hO' : RetM env.P 12 [] [.s v] (fun r H => r = .tup [.nils, .kb false] ∧ H = []) := hO
      repeat' (first | omega | (with_reducible show (_ : Int) < _; dsimp only; omega) | (with_reducible show (_ : Nat) ≤ _; dsimp only; omega) | ((with_reducible show SrcOk _ _ _) <;> (first | exact srcOk_1 rfl | exact srcOk_L (fun _ => ⟨rfl, rfl⟩) | exact srcOk_E (fun _ => ⟨rfl, rfl⟩))) | ((conv => whnf) <;> (first | refine And.intro ?_ ?_ | (intro _h; first | contradiction | (try simp only [dd] at _h)) | (refine dt_go ?_) | exact rfl | exact True.intro | exact dkk | exact dks | (refine .inr (.inl (.inl ⟨[], _, _, _, hO', viewA, ⟨rfl, rfl⟩, ?_⟩)); (rintro _ _ ⟨rfl, rfl⟩) <;> (refine ⟨rfl, _, lokA, ?_⟩)) | (refine wrap_succ ?_; omega))))
      all_goals (conv => whnf)
      all_goals exact endM_pick [] [] (.kb true) (view_of rfl .nil) rfl rfl (fun k hk => by rw [hX] at hk; exact absurd hk (Nat.not_lt_zero _)) ⟨.inr rfl, rfl⟩
    | some c =>
      rw [e] at hO
      have hO' : RetM env.P 12 [] [.s v] (fun r H => r = .tup [.row 0 c.length, .kb true] ∧ H = [some (rowL 2 Ins.cs c)]) := hO
      obtain ⟨h1, h2, h3⟩ := body_back e
      have hB := bodyBytes_impl c h1 h2
      rw [h3] at hB
      repeat' (first | omega | (with_reducible show (_ : Int) < _; dsimp only; omega) | (with_reducible show (_ : Nat) ≤ _; dsimp only; omega) | ((with_reducible show SrcOk _ _ _) <;> (first | exact srcOk_1 rfl | exact srcOk_L (fun _ => ⟨rfl, rfl⟩) | exact srcOk_E (fun _ => ⟨rfl, rfl⟩))) | ((conv => whnf) <;> (first | refine And.intro ?_ ?_ | (intro _h; first | contradiction | (try simp only [dd] at _h)) | (refine dt_go ?_) | exact rfl | exact True.intro | exact dkk | exact dks | (refine .inr (.inl (.inl ⟨[], _, _, _, hO', viewA, ⟨rfl, rfl⟩, ?_⟩)); (rintro _ _ ⟨rfl, rfl⟩) <;> (refine ⟨rfl, _, lokA, ?_⟩)) | (refine .inr (.inl (.inr (.inl ⟨_, RetM.wka (hB.toMB), ?_⟩))); rintro _ _ ⟨rfl, rfl⟩; refine ⟨⟨rfl, nssA⟩, _, lokA, ?_⟩) | (refine wrap_succ ?_; omega))))
      all_goals (conv => whnf)
      all_goals exact endM_pick [] [] (.b (decide (v = v))) (view_of rfl .nil) rfl rfl (fun k hk => by rw [hX] at hk; exact absurd hk (Nat.not_lt_zero _)) ⟨.inl (congrArg AV.b (decide_eq_true rfl)), rfl⟩
end
end Go.Proofs.Ytdeledeopippfaa
