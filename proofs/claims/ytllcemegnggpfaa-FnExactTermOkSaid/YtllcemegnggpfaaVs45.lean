/- Texts for VTermOkP. -/
import Derived.Test.YtllcemegnggpfaaVs44
namespace Go.Proofs.Ytllcemegnggpfaa
open Go Go.RowKit
set_option linter.unusedVariables false
set_option linter.unusedSimpArgs false
set_option maxRecDepth 8000
section
attribute [local irreducible] IntKind.wrap
set_option maxHeartbeats 4000000 in
theorem l06Right_ok (m : Nat) (a : Term) (h : Term.oN (m + 1) a) (ht : Term.tw 5 a ≤ 100000000) : Ret env.P 32 [.agg (Term.pN (m + 1) a)] (fun r => r = .b (pb (okT a))) := by
  have h0 := l06Shape_n 4 (by decide) 4 rfl m a h
  have h1 := fun q => l06Text_n 4 m a h q ht
  have ho := (rdT_ok (txT 5 a)).1
  have hR : Ret env.P 20 [.s (txT 5 a)] (fun r => r = .tup [.agg (Term.pN 5 (rdT (txT 5 a)).1), .i .i64 (rdT (txT 5 a)).2]) := l06ReadTerm_ok (txT 5 a)
  have h2 := l06Same_n 5 (rdT (txT 5 a)).1 ho 4 ho m a (Term.oN_fN _ _ h)
  refine ret_of (nt := 21) (rvs := [.tmp 2]) Try.func32 rfl rfl rfl rfl (fun X => ?_)
  repeat' (first | omega | (with_reducible show (_ : Int) < _; dsimp only; omega) | (with_reducible show (_ : Nat) ≤ _; dsimp only; omega) | ((with_reducible show SrcOk _ _ _) <;> (first | exact srcOk_1 rfl | exact srcOk_L (fun _ => ⟨rfl, rfl⟩) | exact srcOk_E (fun _ => ⟨rfl, rfl⟩))) | ((conv => whnf) <;> (first | refine And.intro ?_ ?_ | (intro _h; first | contradiction | (try simp only [dd] at _h)) | (refine dt_go ?_) | exact rfl | exact True.intro | exact dkk | exact dks | ((first | refine .inl ⟨_, h0, ?_⟩ | refine ⟨_, h0, ?_⟩); (try rintro _ rfl)) | ((first | refine .inl ⟨_, h1 (by omega), ?_⟩ | refine ⟨_, h1 (by omega), ?_⟩); (try rintro _ rfl)) | ((first | refine .inl ⟨_, hR, ?_⟩ | refine ⟨_, hR, ?_⟩); (try rintro _ rfl)) | ((first | refine .inl ⟨_, Ret.wka (h2), ?_⟩ | refine ⟨_, Ret.wka (h2), ?_⟩); (try rintro _ rfl)) | (refine wrap_succ ?_; omega))))
  all_goals (conv => whnf)
  all_goals first
    | (refine leaf_f fun q => ?_
       have := q.s
       omega)
    | exact leaf_f fun q => ‹¬ (rdT (txT 5 a)).2 = 0› q.1
    | exact congrArg AV.b (congrArg pb (propext ⟨fun q => ⟨‹_›, q⟩, fun q => q.2⟩))
    | trace_state
theorem TermOkS_ok (m : Nat) (a : Term) (h : Term.oN (m + 1) a) (ht : Term.tw 5 a ≤ 100000000) : Ret env.P 13 [.agg (Term.pN (m + 1) a)] (fun r => r = .b (pb (okT a))) := by
  refine ret_of (nt := 5) (rvs := [.tmp 2]) Try.func13 rfl rfl rfl rfl (fun X => ?_)
  repeat' (first | omega | (with_reducible show (_ : Int) < _; dsimp only; omega) | (with_reducible show (_ : Nat) ≤ _; dsimp only; omega) | ((with_reducible show SrcOk _ _ _) <;> (first | exact srcOk_1 rfl | exact srcOk_L (fun _ => ⟨rfl, rfl⟩) | exact srcOk_E (fun _ => ⟨rfl, rfl⟩))) | ((conv => whnf) <;> (first | refine And.intro ?_ ?_ | (intro _h; first | contradiction | (try simp only [dd] at _h)) | (refine dt_go ?_) | exact rfl | exact True.intro | exact dkk | exact dks | ((first | refine .inl ⟨_, Ret.wka (l06Right_ok m a h ht), ?_⟩ | refine ⟨_, Ret.wka (l06Right_ok m a h ht), ?_⟩); (try rintro _ rfl)) | (refine wrap_succ ?_; omega))))
  all_goals exact rfl
set_option maxHeartbeats 1000000 in
theorem SameTermS_ok (m : Nat) (a : Term) (h : Term.oN (m + 1) a) (ht : Term.tw 5 a ≤ 100000000) (m' : Nat) (b : Term) (hb : Term.oN (m' + 1) b) (htb : Term.tw 5 b ≤ 100000000) : Ret env.P 16 [.agg (Term.pN (m + 1) a), .agg (Term.pN (m' + 1) b)] (fun r => r = .b (pb (okT a ∧ okT b ∧ a = b))) := by
  have h1 := l06Right_ok m a h ht
  have h2 := l06Right_ok m' b hb htb
  have h3 := l06Same_n (m + 1) a h m h m' b (Term.oN_fN _ _ hb)
  refine ret_of (nt := 16) (rvs := [.tmp 4]) Try.func16 rfl rfl rfl rfl (fun X => ?_)
  repeat' (first | omega | (with_reducible show (_ : Int) < _; dsimp only; omega) | (with_reducible show (_ : Nat) ≤ _; dsimp only; omega) | ((with_reducible show SrcOk _ _ _) <;> (first | exact srcOk_1 rfl | exact srcOk_L (fun _ => ⟨rfl, rfl⟩) | exact srcOk_E (fun _ => ⟨rfl, rfl⟩))) | ((conv => whnf) <;> (first | refine And.intro ?_ ?_ | (intro _h; first | contradiction | (try simp only [dd] at _h)) | (refine dt_go ?_) | exact rfl | exact True.intro | exact dkk | exact dks | ((first | refine .inl ⟨_, Ret.wka (h1), ?_⟩ | refine ⟨_, Ret.wka (h1), ?_⟩); (try rintro _ rfl)) | ((first | refine .inl ⟨_, Ret.wka (h2), ?_⟩ | refine ⟨_, Ret.wka (h2), ?_⟩); (try rintro _ rfl)) | ((first | refine .inl ⟨_, Ret.wka (h3), ?_⟩ | refine ⟨_, Ret.wka (h3), ?_⟩); (try rintro _ rfl)) | (refine wrap_succ ?_; omega))))
  all_goals (conv => whnf)
  all_goals first
    | exact leaf_f fun q => ‹¬ okT a› q.1
    | exact leaf_f fun q => ‹¬ okT b› q.2.1
    | exact congrArg AV.b (congrArg pb (propext ⟨fun q => ⟨‹_›, ‹_›, q⟩, fun q => q.2.2⟩))
    | trace_state
theorem TermTextS_ok (m : Nat) (a : Term) (h : Term.oN (m + 1) a) (ht : Term.tw 5 a ≤ 100000000) : Ret env.P 18 [.agg (Term.pN (m + 1) a)] (fun r => r = .s (bif pb (okT a) then txT 5 a else ⟨#[]⟩)) := by
  have h1 := fun q : okT a => l06Text_n 4 m a h (by have := q.s; omega) ht
  refine ret_of (nt := 8) (rvs := [.tmp 2]) Try.func18 rfl rfl rfl rfl (fun X => ?_)
  repeat' (first | omega | (with_reducible show (_ : Int) < _; dsimp only; omega) | (with_reducible show (_ : Nat) ≤ _; dsimp only; omega) | ((with_reducible show SrcOk _ _ _) <;> (first | exact srcOk_1 rfl | exact srcOk_L (fun _ => ⟨rfl, rfl⟩) | exact srcOk_E (fun _ => ⟨rfl, rfl⟩))) | ((conv => whnf) <;> (first | refine And.intro ?_ ?_ | (intro _h; first | contradiction | (try simp only [dd] at _h)) | (refine dt_go ?_) | exact rfl | exact True.intro | exact dkk | exact dks | ((first | refine .inl ⟨_, Ret.wka (l06Right_ok m a h ht), ?_⟩ | refine ⟨_, Ret.wka (l06Right_ok m a h ht), ?_⟩); (try rintro _ rfl)) | ((first | refine .inl ⟨_, Ret.wka (h1 (Classical.not_not.1 ‹_›)), ?_⟩ | refine ⟨_, Ret.wka (h1 (Classical.not_not.1 ‹_›)), ?_⟩); (try rintro _ rfl)) | (refine wrap_succ ?_; omega))))
  all_goals (conv => whnf)
  all_goals first
    | exact leaf_s (by rw [pb_f.mpr ‹¬ okT a›]; rfl)
    | exact leaf_s (by rw [pb_t.mpr (Classical.not_not.1 ‹_›)]; rfl)
    | trace_state
end
inductive HF (Q : TypeId → List AV → Prop) : List TypeId → List AV → Prop
  | nil : HF Q [] []
  | cons {t : TypeId} {ts : List TypeId} {a b : List AV} (h : Q t a) (r : HF Q ts b) : HF Q (t :: ts) (a ++ b)
theorem HF.nil_inv {Q : TypeId → List AV → Prop} {ds : List AV} (h : HF Q [] ds) : ds = [] := by cases h; rfl
theorem HF.cons_inv {Q : TypeId → List AV → Prop} {t : TypeId} {ts : List TypeId} {ds : List AV} (h : HF Q (t :: ts) ds) : ∃ a b, ds = a ++ b ∧ Q t a ∧ HF Q ts b := by
  cases h with | cons h r => exact ⟨_, _, rfl, h, r⟩
theorem hf_of {P : Program} {Q : TypeId → List AV → Prop} {n : Nat} {ds : List AV} (hl : ds.length = n) : ∀ (o : Nat) (fs : List Field), inLine P o fs n = true → (∀ f ∈ fs, Q f.type ((ds.drop f.offset).take (P.cellsOf f.type))) → HF Q (fs.map (·.type)) (ds.drop o)
  | o, [], hi, _ => by
    have : o = n := Nat.eq_of_beq_eq_true hi
    rw [List.drop_of_length_le (by omega)]
    exact .nil
  | o, f :: fs, hi, h => by
    unfold inLine at hi
    rw [Bool.and_eq_true] at hi
    have ho : f.offset = o := Nat.eq_of_beq_eq_true hi.1
    have := hf_of hl (o + P.cellsOf f.type) fs hi.2 (fun g hg => h g (by simp [hg]))
    have h1 := h f (by simp)
    rw [ho] at h1
    rw [show ds.drop o = (ds.drop o).take (P.cellsOf f.type) ++ ds.drop (o + P.cellsOf f.type) by rw [← List.drop_drop, List.take_append_drop]]
    exact .cons h1 this
theorem rd_rec {P : Program} {q qs : TypeId} {fs : Array Field} {ts : List TypeId} {sz : Nat} (hq : P.underlying q = some (.struct fs)) (hqs : P.underlying qs = some (.slice q)) (hsz : P.cellsOf q = sz) (hi : inLine P 0 fs.toList (P.cellsOf q) = true) (hts : fs.toList.map (·.type) = ts)
    (good goodS : List AV → Prop) (h1 : ∀ n g, (∀ i, i < n → good (cellsAt (g i) 0 sz)) → goodS [.sl sz n g])
    (h2 : ∀ ds, HF (fun t cs => TyC P t cs ∧ (t = qs → goodS cs)) ts ds → good ds) {t : TypeId} {cs : List AV} (h : TyC P t cs) : (t = q → good cs) ∧ (t = qs → goodS cs) := by
  subst hsz hts
  induction h with
  | bool b h => exact ⟨fun e => (by subst e; rw [hq] at h; cases h), fun e => (by subst e; rw [hqs] at h; cases h)⟩
  | int n h hw => exact ⟨fun e => (by subst e; rw [hq] at h; cases h), fun e => (by subst e; rw [hqs] at h; cases h)⟩
  | string s h hs => exact ⟨fun e => (by subst e; rw [hq] at h; cases h), fun e => (by subst e; rw [hqs] at h; cases h)⟩
  | sl n g h hm he ih =>
    refine ⟨fun e => (by subst e; rw [hq] at h; cases h), fun e => ?_⟩
    subst e
    rw [hqs] at h
    cases h
    exact h1 n g fun i hi => (ih i hi).1 rfl
  | st ds h hl hf ih =>
    refine ⟨fun e => ?_, fun e => (by subst e; rw [hqs] at h; cases h)⟩
    subst e
    rw [hq] at h
    cases h
    refine h2 _ ?_
    have := hf_of (Q := fun t cs => TyC P t cs ∧ (t = qs → goodS cs)) hl 0 fs.toList hi (fun f hm => by
      obtain ⟨i, hi⟩ := List.getElem?_of_mem hm
      have hi' : fs[i]? = some f := by simpa using hi
      exact ⟨hf i f hi', (ih i f hi').2⟩)
    rwa [List.drop_zero] at this
end Go.Proofs.Ytllcemegnggpfaa
