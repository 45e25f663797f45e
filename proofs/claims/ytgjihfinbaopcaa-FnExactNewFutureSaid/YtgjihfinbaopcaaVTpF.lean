/-
  Valid types: the program's functions, the rest.
-/
import Derived.Test.YtgjihfinbaopcaaVTpE
import Derived.Test.YtgjihfinbaopcaaVDsD
import Derived.Test.YtgjihfinbaopcaaVFz
namespace Go.Proofs.Ytgjihfinbaopcaa
open Go Go.RowKit
set_option linter.unusedVariables false
set_option linter.unusedSimpArgs false
attribute [local irreducible] IntKind.wrap

instance : Shr 0 intC intC := shr_plain fun _ => rfl
instance : Shr 0 strC strC := shr_plain fun _ => rfl
instance (n : Nat) : Shr 0 (Typ.pN (n + 1)) (Typ.pN (n + 1)) := shr_plain fun _ => rfl

set_option maxRecDepth 8000 in
theorem indexFuncString_ok (l : List ByteArray) (g : Nat) {fv} (hg : env.F.get g = some fv) (p : ByteArray → Bool) (hl : l.length ≤ 1048576) (hp : ∀ k, k < l.length → Ret env.P g (.s (l.getD k default) :: []) (fun r => r = .b (p (l.getD k default)))) :
    Ret env.P 72 [slL 1 strC l, .fn g []] (fun r => r = .i .i64 (idxI (l.findIdx? p))) := by
  refine ret_of (nt := 19) (rvs := [.tmp 4]) Try.func72 rfl rfl rfl rfl (fun X => ?_)
  repeat' (first | exact aa | ((conv => whnf) <;> (first | rw [hg] | exact upto_succ (by assumption) (by assumption) | refine loopN l.length (fun k => [(8, .i .i64 k)]) (fun k => []) (fun k => ∀ j, j < k → p (l.getD j default) = false) ⟨fun _ h => by omega, ?_⟩ | refine And.intro ?_ ?_ | (intro _h; first | contradiction | (try simp only [dd] at _h)) | (refine dt_go ?_) | exact rfl | exact True.intro | exact dkk | exact dks | ((first | refine .inl ⟨_, hp _ (by omega), ?_⟩ | refine ⟨_, hp _ (by omega), ?_⟩); (try rintro _ rfl)) | (refine wrap_succ ?_; omega))))
  · exact leaf_i (idx_some (by omega) (by assumption) (by assumption))
  · exact leaf_i (idx_none fun j hj => by have := ‹∀ j, j < _ → p (l.getD j default) = false›; exact this j (by omega))
set_option maxRecDepth 8000 in
theorem containsFuncString_ok (l : List ByteArray) (g : Nat) {fv} (hg : env.F.get g = some fv) (p : ByteArray → Bool) (hl : l.length ≤ 1048576) (hp : ∀ k, k < l.length → Ret env.P g (.s (l.getD k default) :: []) (fun r => r = .b (p (l.getD k default)))) :
    Ret env.P 67 [slL 1 strC l, .fn g []] (fun r => r = .b (l.any p)) := by
  refine ret_of (nt := 9) (rvs := [.tmp 4]) Try.func67 rfl rfl rfl rfl (fun X => ?_)
  repeat' (first | exact aa | ((conv => whnf) <;> (first | refine And.intro ?_ ?_ | (intro _h; first | contradiction | (try simp only [dd] at _h)) | (refine dt_go ?_) | exact rfl | exact True.intro | exact dkk | exact dks | ((first | refine .inl ⟨_, indexFuncString_ok l g hg p hl hp, ?_⟩ | refine ⟨_, indexFuncString_ok l g hg p hl hp, ?_⟩); (try rintro _ rfl)) | (refine wrap_succ ?_; omega))))
  all_goals exact leaf_b (idx_any _ _)
theorem sizeStr_ok (l : List ByteArray) : Ret env.P 60 [slL 1 strC l] (fun r => r = .i .i64 (l.length : Int)) := by
  refine ret_of (nt := 5) (rvs := [.tmp 2]) Try.func60 rfl rfl rfl rfl (fun X => ?_)
  repeat' (first | exact aa | ((conv => whnf) <;> (first | refine And.intro ?_ ?_ | (intro _h; first | contradiction | (try simp only [dd] at _h)) | (refine dt_go ?_) | exact rfl | exact True.intro | exact dkk | exact dks | (refine wrap_succ ?_; omega))))
theorem sizeTyp_ok (c : Typ → List AV) (l : List Typ) : Ret env.P 59 [slL 4 c l] (fun r => r = .i .i64 (l.length : Int)) := by
  refine ret_of (nt := 5) (rvs := [.tmp 2]) Try.func59 rfl rfl rfl rfl (fun X => ?_)
  repeat' (first | exact aa | ((conv => whnf) <;> (first | refine And.intro ?_ ?_ | (intro _h; first | contradiction | (try simp only [dd] at _h)) | (refine dt_go ?_) | exact rfl | exact True.intro | exact dkk | exact dks | (refine wrap_succ ?_; omega))))
theorem labelsOk1_ok (s : ByteArray) (hs : s.size ≤ 1048576) : Ret env.P 68 [.s s] (fun r => r = .b (!pb (nmB s))) := by
  have h := nameOk_ok s hs
  refine ret_of (nt := 6) (rvs := [.tmp 2]) Try.func68 rfl rfl rfl rfl (fun X => ?_)
  repeat' (first | exact aa | ((conv => whnf) <;> (first | refine And.intro ?_ ?_ | (intro _h; first | contradiction | (try simp only [dd] at _h)) | (refine dt_go ?_) | exact rfl | exact True.intro | exact dkk | exact dks | ((first | refine .inl ⟨_, h, ?_⟩ | refine ⟨_, h, ?_⟩); (try rintro _ rfl)) | (refine wrap_succ ?_; omega))))
theorem any_nm {l : List ByteArray} : (l.any fun s => !pb (nmB s)) = false ↔ ∀ k, k < l.length → nmB (l.getD k default) := by
  rw [List.any_eq_false]
  constructor
  · intro h k hk
    have := h _ (List.getElem_mem hk)
    rw [List.getD_eq_getElem?_getD, List.getElem?_eq_getElem hk]
    have h2 : pb (nmB l[k]) = true := by simpa using this
    exact pb_t.mp h2
  · intro h x hx
    obtain ⟨k, hk, rfl⟩ := List.getElem_of_mem hx
    have := h k hk
    rw [List.getD_eq_getElem?_getD, List.getElem?_eq_getElem hk] at this
    have h2 : pb (nmB l[k]) = true := pb_t.mpr this
    simpa using h2
theorem lb_any {l : List ByteArray} (h : 1 ≤ l.length ∧ l.length ≤ 16) (hn : l.Nodup) : (!l.any fun s => !pb (nmB s)) = pb (lbB l) := by
  by_cases q : ∀ k, k < l.length → nmB (l.getD k default)
  · rw [any_nm.2 q, pb_t.mpr ⟨h.1, h.2, hn, q⟩]; rfl
  · rw [pb_f.mpr (fun r => q r.nm), eq_true_of_ne_false (fun e => q (any_nm.1 e))]; rfl
theorem labelsOk_ok (l : List ByteArray) (hl : l.length ≤ 1048576) (hs : ∀ k, k < l.length → (l.getD k default).size ≤ 1048576) : Ret env.P 56 [slL 1 strC l] (fun r => r = .b (pb (lbB l))) := by
  refine ret_of (nt := 15) (rvs := [.tmp 2]) Try.func56 rfl rfl rfl rfl (fun X => ?_)
  repeat' (first | exact aa | ((conv => whnf) <;> (first | refine And.intro ?_ ?_ | (intro _h; first | contradiction | (try simp only [dd] at _h)) | (refine dt_go ?_) | exact rfl | exact True.intro | exact dkk | exact dks | ((first | refine .inl ⟨_, sizeStr_ok _, ?_⟩ | refine ⟨_, sizeStr_ok _, ?_⟩); (try rintro _ rfl)) | ((first | refine .inl ⟨_, within_ok _ _ _, ?_⟩ | refine ⟨_, within_ok _ _ _, ?_⟩); (try rintro _ rfl)) | ((first | refine .inl ⟨_, distinct_impl l hl, ?_⟩ | refine ⟨_, distinct_impl l hl, ?_⟩); (try rintro _ rfl)) | ((first | refine .inl ⟨_, containsFuncString_ok l 68 rfl (fun s => !pb (nmB s)) hl (fun k hk => labelsOk1_ok _ (hs k hk)), ?_⟩ | refine ⟨_, containsFuncString_ok l 68 rfl (fun s => !pb (nmB s)) hl (fun k hk => labelsOk1_ok _ (hs k hk)), ?_⟩); (try rintro _ rfl)) | (refine wrap_succ ?_; omega))))
  all_goals (conv => whnf)
  all_goals first
    | exact leaf_b (lb_any (by omega) ‹_›)
    | exact leaf_f (fun q => ‹¬ l.Nodup› q.nd)
    | exact leaf_f (fun q => by have := q.lo; have := q.hi; omega)
    | trace_state
theorem isUnit_ok {n : Nat} {a : Typ} : Ret env.P 37 [.agg (Typ.pN (n + 1) a)] (fun r => r = .b (decide (a.kind = 1))) := by
  refine ret_of (nt := 6) (rvs := [.tmp 2]) Try.func37 rfl rfl rfl rfl (fun X => ?_)
  repeat' (first | exact aa | ((conv => whnf) <;> (first | refine And.intro ?_ ?_ | (intro _h; first | contradiction | (try simp only [dd] at _h)) | (refine dt_go ?_) | exact rfl | exact True.intro | exact dkk | exact dks | (refine wrap_succ ?_; omega))))
set_option maxRecDepth 8000 in
theorem indexFuncTy_ok (n : Nat) (l : List Typ) (g : Nat) {fv} (hg : env.F.get g = some fv) (p : Typ → Bool) (hl : l.length ≤ 1048576) (hp : ∀ k, k < l.length → Ret env.P g (.agg (Typ.pN (n + 1) (l.getD k default)) :: []) (fun r => r = .b (p (l.getD k default)))) :
    Ret env.P 62 [slL 4 (Typ.pN (n + 1)) l, .fn g []] (fun r => r = .i .i64 (idxI (l.findIdx? p))) := by
  refine ret_of (nt := 19) (rvs := [.tmp 4]) Try.func62 rfl rfl rfl rfl (fun X => ?_)
  repeat' (first | exact aa | ((conv => whnf) <;> (first | rw [hg] | exact upto_succ (by assumption) (by assumption) | refine loopN l.length (fun k => [(8, .i .i64 k)]) (fun k => []) (fun k => ∀ j, j < k → p (l.getD j default) = false) ⟨fun _ h => by omega, ?_⟩ | refine And.intro ?_ ?_ | (intro _h; first | contradiction | (try simp only [dd] at _h)) | (refine dt_go ?_) | exact rfl | exact True.intro | exact dkk | exact dks | ((first | refine .inl ⟨_, hp _ (by omega), ?_⟩ | refine ⟨_, hp _ (by omega), ?_⟩); (try rintro _ rfl)) | (refine wrap_succ ?_; omega))))
  · exact leaf_i (idx_some (by omega) (by assumption) (by assumption))
  · exact leaf_i (idx_none fun j hj => by have := ‹∀ j, j < _ → p (l.getD j default) = false›; exact this j (by omega))
set_option maxRecDepth 8000 in
theorem containsFuncTy_ok (n : Nat) (l : List Typ) (g : Nat) {fv} (hg : env.F.get g = some fv) (p : Typ → Bool) (hl : l.length ≤ 1048576) (hp : ∀ k, k < l.length → Ret env.P g (.agg (Typ.pN (n + 1) (l.getD k default)) :: []) (fun r => r = .b (p (l.getD k default)))) :
    Ret env.P 51 [slL 4 (Typ.pN (n + 1)) l, .fn g []] (fun r => r = .b (l.any p)) := by
  refine ret_of (nt := 9) (rvs := [.tmp 4]) Try.func51 rfl rfl rfl rfl (fun X => ?_)
  repeat' (first | exact aa | ((conv => whnf) <;> (first | refine And.intro ?_ ?_ | (intro _h; first | contradiction | (try simp only [dd] at _h)) | (refine dt_go ?_) | exact rfl | exact True.intro | exact dkk | exact dks | ((first | refine .inl ⟨_, indexFuncTy_ok n l g hg p hl hp, ?_⟩ | refine ⟨_, indexFuncTy_ok n l g hg p hl hp, ?_⟩); (try rintro _ rfl)) | (refine wrap_succ ?_; omega))))
  all_goals exact leaf_b (idx_any _ _)
set_option maxRecDepth 8000 in
theorem indexFuncTy1_ok (n : Nat) (l : List Typ) (g : Nat) {fv} (hg : env.F.get g = some fv) (c0 : List AV) (p : Typ → Bool) (hl : l.length ≤ 1048576) (hp : ∀ k, k < l.length → Ret env.P g (.agg (Typ.pN (n + 1) (l.getD k default)) :: [rfL c0]) (fun r => r = .b (p (l.getD k default)))) :
    Ret env.P 62 [slL 4 (Typ.pN (n + 1)) l, .fn g [rfL c0]] (fun r => r = .i .i64 (idxI (l.findIdx? p))) := by
  refine ret_of (nt := 19) (rvs := [.tmp 4]) Try.func62 rfl rfl rfl rfl (fun X => ?_)
  repeat' (first | exact aa | ((conv => whnf) <;> (first | rw [hg] | exact upto_succ (by assumption) (by assumption) | refine loopN l.length (fun k => [(8, .i .i64 k)]) (fun k => []) (fun k => ∀ j, j < k → p (l.getD j default) = false) ⟨fun _ h => by omega, ?_⟩ | refine And.intro ?_ ?_ | (intro _h; first | contradiction | (try simp only [dd] at _h)) | (refine dt_go ?_) | exact rfl | exact True.intro | exact dkk | exact dks | ((first | refine .inl ⟨_, hp _ (by omega), ?_⟩ | refine ⟨_, hp _ (by omega), ?_⟩); (try rintro _ rfl)) | (refine wrap_succ ?_; omega))))
  · exact leaf_i (idx_some (by omega) (by assumption) (by assumption))
  · exact leaf_i (idx_none fun j hj => by have := ‹∀ j, j < _ → p (l.getD j default) = false›; exact this j (by omega))
set_option maxRecDepth 8000 in
theorem containsFuncTy1_ok (n : Nat) (l : List Typ) (g : Nat) {fv} (hg : env.F.get g = some fv) (c0 : List AV) (p : Typ → Bool) (hl : l.length ≤ 1048576) (hp : ∀ k, k < l.length → Ret env.P g (.agg (Typ.pN (n + 1) (l.getD k default)) :: [rfL c0]) (fun r => r = .b (p (l.getD k default)))) :
    Ret env.P 51 [slL 4 (Typ.pN (n + 1)) l, .fn g [rfL c0]] (fun r => r = .b (l.any p)) := by
  refine ret_of (nt := 9) (rvs := [.tmp 4]) Try.func51 rfl rfl rfl rfl (fun X => ?_)
  repeat' (first | exact aa | ((conv => whnf) <;> (first | refine And.intro ?_ ?_ | (intro _h; first | contradiction | (try simp only [dd] at _h)) | (refine dt_go ?_) | exact rfl | exact True.intro | exact dkk | exact dks | ((first | refine .inl ⟨_, indexFuncTy1_ok n l g hg c0 p hl hp, ?_⟩ | refine ⟨_, indexFuncTy1_ok n l g hg c0 p hl hp, ?_⟩); (try rintro _ rfl)) | (refine wrap_succ ?_; omega))))
  all_goals exact leaf_b (idx_any _ _)
theorem any_pb {l : List Typ} {p : Typ → Prop} : (l.any fun a => pb (p a)) = pb (∃ k, k < l.length ∧ p (l.getD k default)) := by
  by_cases h : ∃ k, k < l.length ∧ p (l.getD k default)
  · rw [pb_t.mpr h, List.any_eq_true]
    obtain ⟨k, hk, q⟩ := h
    exact ⟨_, Typ.getD_mem0 hk, pb_t.mpr q⟩
  · rw [pb_f.mpr h, List.any_eq_false]
    intro x hx
    obtain ⟨k, hk, rfl⟩ := List.getElem_of_mem hx
    have : ¬ p l[k] := fun q => h ⟨k, hk, by rw [List.getD_eq_getElem?_getD, List.getElem?_eq_getElem hk]; exact q⟩
    rw [pb_f.mpr this]
    decide
theorem dec_pb {p : Prop} [Decidable p] : decide p = pb p := by
  by_cases h : p
  · rw [decide_eq_true h, pb_t.mpr h]
  · rw [decide_eq_false h, pb_f.mpr h]
theorem any_units {a : Typ} : (a.kids.any fun x => decide (x.kind = 1)) = pb a.units := by
  have e : (fun x : Typ => decide (x.kind = 1)) = fun x => pb (x.kind = 1) := funext fun x => dec_pb
  rw [e, any_pb]
  rfl
theorem kidsOk_ok {n : Nat} {a : Typ} (h : Typ.oN (n + 1) a) (m : Int) : Ret env.P 58 [.agg (Typ.pN (n + 1) a), .i .i64 m] (fun r => r = .b (decide ((a.kids.length : Int) = m) && !pb a.units)) := by
  have hl := Typ.oN_len h
  have hc := containsFuncTy_ok n a.kids 37 rfl (fun x => decide (x.kind = 1)) hl (fun k hk => isUnit_ok)
  rw [any_units] at hc
  refine Ret.wk (.cons (Typ.lift h) (.cons (.refl _) .nil)) ?_
  refine ret_of (nt := 16) (rvs := [.tmp 4]) Try.func58 rfl rfl rfl rfl (fun X => ?_)
  repeat' (first | exact aa | ((conv => whnf) <;> (first | refine And.intro ?_ ?_ | (intro _h; first | contradiction | (try simp only [dd] at _h)) | (refine dt_go ?_) | exact rfl | exact True.intro | exact dkk | exact dks | ((first | refine .inl ⟨_, sizeTyp_ok _ _, ?_⟩ | refine ⟨_, sizeTyp_ok _ _, ?_⟩); (try rintro _ rfl)) | ((first | refine .inl ⟨_, hc, ?_⟩ | refine ⟨_, hc, ?_⟩); (try rintro _ rfl)) | (refine wrap_succ ?_; omega))))
  all_goals (conv => whnf)
  · exact leaf_b (by rw [decide_eq_true ‹_›, Bool.true_and])
  · exact leaf_b (by rw [decide_eq_false ‹_›, Bool.false_and])
/-! A part has one of some kinds. -/
def eqK (v : Int) (x : Int) : Bool := decide (v = x)
set_option maxRecDepth 8000 in
theorem indexK_ok (l : List Int) (hl : l.length ≤ 1048576) (v : Int) : Ret env.P 61 [slL 1 intC l, .i .i64 v] (fun r => r = .i .i64 (idxI (l.findIdx? (eqK v)))) := by
  refine ret_of (nt := 19) (rvs := [.tmp 4]) Try.func61 rfl rfl rfl rfl (fun X => ?_)
  repeat' (first | exact aa | ((conv => whnf) <;> (first | exact upto_succ (by assumption) (by simpa [eqK] using _h) | refine loopN l.length (fun k => [(8, .i .i64 k)]) (fun k => []) (fun k => ∀ j, j < k → eqK v (l.getD j default) = false) ⟨fun _ h => by omega, ?_⟩ | refine And.intro ?_ ?_ | (intro _h; first | contradiction | (try simp only [dd] at _h)) | (refine dt_go ?_) | exact rfl | exact True.intro | exact dkk | exact dks | (refine wrap_succ ?_; omega))))
  · exact leaf_i (idx_some (by omega) (by simpa [eqK] using _h) (by assumption))
  · exact leaf_i (idx_none fun j hj => by have := ‹∀ j, j < _ → eqK v (l.getD j default) = false›; exact this j (by omega))
set_option maxRecDepth 8000 in
theorem containsK_ok (l : List Int) (hl : l.length ≤ 1048576) (v : Int) : Ret env.P 50 [slL 1 intC l, .i .i64 v] (fun r => r = .b (l.any (eqK v))) := by
  refine ret_of (nt := 9) (rvs := [.tmp 4]) Try.func50 rfl rfl rfl rfl (fun X => ?_)
  repeat' (first | exact aa | ((conv => whnf) <;> (first | refine And.intro ?_ ?_ | (intro _h; first | contradiction | (try simp only [dd] at _h)) | (refine dt_go ?_) | exact rfl | exact True.intro | exact dkk | exact dks | ((first | refine .inl ⟨_, indexK_ok l hl v, ?_⟩ | refine ⟨_, indexK_ok l hl v, ?_⟩); (try rintro _ rfl)) | (refine wrap_succ ?_; omega))))
  all_goals exact leaf_b (idx_any _ _)
theorem any_eqK {l : List Int} {v : Int} : l.any (eqK v) = true ↔ v ∈ l := by
  unfold eqK
  rw [List.any_eq_true]
  constructor
  · rintro ⟨x, hx, e⟩
    rw [of_decide_eq_true e]
    exact hx
  · exact fun h => ⟨v, h, decide_eq_true rfl⟩
set_option maxRecDepth 8000 in
theorem hasKind_n (ks : List Int) (hks : ks.length ≤ 1048576) : ∀ (n : Nat) (a : Typ), Typ.oN n a → Ret env.P 38 [.agg (Typ.pN n a), slL 1 intC ks] (fun r => r = .b (pb (Typ.has (fun k => k ∈ ks) a)))
  | 0, a, h => h.elim
  | n + 1, a, h => by
    have hl := Typ.oN_len h
    have hq : ∀ k, k < a.kids.length → Ret env.P 52 [.agg (Typ.pN (n + 1) (a.kids.getD k default)), rfL [slL 1 intC ks]] (fun r => r = .b (pb (Typ.has (fun k => k ∈ ks) (a.kids.getD k default)))) := fun k hk => by
      have h1 : Ret env.P 38 [.agg (Typ.pN (n + 1) (a.kids.getD k default)), slL 1 intC ks] (fun r => r = .b (pb (Typ.has (fun k => k ∈ ks) (a.kids.getD k default)))) := Ret.wk (.cons (Typ.down (Typ.oN_kid h hk)) (.cons (.refl _) .nil)) (hasKind_n ks hks n _ (Typ.oN_kid h hk))
      refine ret_of (nt := 7) (rvs := [.tmp 3]) Try.func52 rfl rfl rfl rfl (fun X => ?_)
      repeat' (first | exact aa | ((conv => whnf) <;> (first | refine And.intro ?_ ?_ | (intro _h; first | contradiction | (try simp only [dd] at _h)) | (refine dt_go ?_) | exact rfl | exact True.intro | exact dkk | exact dks | ((first | refine .inl ⟨_, h1, ?_⟩ | refine ⟨_, h1, ?_⟩); (try rintro _ rfl)) | (refine wrap_succ ?_; omega))))
    have hc := containsFuncTy1_ok n a.kids 52 rfl [slL 1 intC ks] (fun x => pb (Typ.has (fun k => k ∈ ks) x)) hl hq
    rw [any_pb] at hc
    refine Ret.wk (.cons (Typ.lift h) (.cons (.refl _) .nil)) ?_
    refine ret_of (nt := 15) (rvs := [.tmp 4]) Try.func38 rfl rfl rfl rfl (fun X => ?_)
    repeat' (first | exact aa | ((conv => whnf) <;> (first | refine And.intro ?_ ?_ | (intro _h; first | contradiction | (try simp only [dd] at _h)) | (refine dt_go ?_) | exact rfl | exact True.intro | exact dkk | exact dks | ((first | refine .inl ⟨_, containsK_ok ks hks _, ?_⟩ | refine ⟨_, containsK_ok ks hks _, ?_⟩); (try rintro _ rfl)) | ((first | refine .inl ⟨_, Ret.wka (hc), ?_⟩ | refine ⟨_, Ret.wka (hc), ?_⟩); (try rintro _ rfl)) | (refine wrap_succ ?_; omega))))
    all_goals (conv => whnf)
    all_goals first
      | exact leaf_t (ha_self (p := fun k => k ∈ ks) (any_eqK.1 ‹_›))
      | exact leaf_b (pb_congr ⟨fun q => Typ.has_eq.2 (.inr q), fun q => (Typ.has_eq.1 q).resolve_left (fun r => by have := any_eqK.2 r; simp_all)⟩)
      | trace_state
theorem anpb {p q u : Prop} [Decidable q] (h : p ↔ (q ∧ ¬ u)) : (decide q && !pb u) = pb p := by
  by_cases hq : q
  · rw [decide_eq_true hq, Bool.true_and]
    exact npb (h.trans ⟨fun r => r.2, fun r => ⟨hq, r⟩⟩)
  · rw [decide_eq_false hq, Bool.false_and, pb_f.mpr (fun r => hq (h.1 r).1)]
/-! The shape of all parts. -/
theorem any_sh {l : List Typ} : (l.any fun x => !pb x.sh) = pb (¬ ∀ k, k < l.length → Typ.sh (l.getD k default)) := by
  have e : (fun x : Typ => !pb x.sh) = fun x => pb (¬ x.sh) := funext fun x => by
    by_cases q : x.sh
    · rw [pb_t.mpr q, pb_f.mpr (fun r => r q)]; rfl
    · rw [pb_f.mpr q, pb_t.mpr q]; rfl
  rw [e, any_pb]
  refine pb_congr ⟨fun ⟨k, hk, q⟩ r => q (r k hk), fun q => ?_⟩
  exact Classical.byContradiction fun r => q fun k hk => Classical.byContradiction fun s => r ⟨k, hk, s⟩
theorem has_1 {a : Typ} : Typ.has (fun k => k ∈ [(21 : Int)]) a ↔ Typ.has (fun k => 21 ≤ k ∧ k ≤ 21) a := by
  have e : (fun k : Int => k ∈ [(21 : Int)]) = fun k => 21 ≤ k ∧ k ≤ 21 := funext fun k => propext (by simp; omega)
  rw [e]
set_option maxRecDepth 8000 in
set_option maxHeartbeats 4000000 in
theorem shapeOk_n : ∀ (n : Nat) (a : Typ), Typ.oN n a → Ret env.P 49 [.agg (Typ.pN n a)] (fun r => r = .b (pb a.sh))
  | 0, a, h => h.elim
  | n + 1, a, h => by
    have hl := Typ.oN_len h
    have hn := nameOk_ok a.name (Typ.oN_name h)
    have hL := labelsOk_ok a.labels (Typ.oN_labels h).1 (Typ.oN_labels h).2
    have hq : ∀ k, k < a.kids.length → Ret env.P 55 [.agg (Typ.pN (n + 1) (a.kids.getD k default))] (fun r => r = .b (!pb (Typ.sh (a.kids.getD k default)))) := fun k hk => by
      have h1 : Ret env.P 49 [.agg (Typ.pN (n + 1) (a.kids.getD k default))] (fun r => r = .b (pb (Typ.sh (a.kids.getD k default)))) := Ret.wk (.cons (Typ.down (Typ.oN_kid h hk)) .nil) (shapeOk_n n _ (Typ.oN_kid h hk))
      refine ret_of (nt := 6) (rvs := [.tmp 2]) Try.func55 rfl rfl rfl rfl (fun X => ?_)
      repeat' (first | exact aa | ((conv => whnf) <;> (first | refine And.intro ?_ ?_ | (intro _h; first | contradiction | (try simp only [dd] at _h)) | (refine dt_go ?_) | exact rfl | exact True.intro | exact dkk | exact dks | ((first | refine .inl ⟨_, h1, ?_⟩ | refine ⟨_, h1, ?_⟩); (try rintro _ rfl)) | (refine wrap_succ ?_; omega))))
    have hc := containsFuncTy_ok n a.kids 55 rfl (fun x => !pb x.sh) hl hq
    rw [any_sh] at hc
    have hK : ∀ m : Int, Ret env.P 58 [.agg (Typ.pN (n + 2) a), .i .i64 m] (fun r => r = .b (decide ((a.kids.length : Int) = m) && !pb a.units)) := fun m => kidsOk_ok (Typ.oN_up _ _ h) m
    have hH : 0 < a.kids.length → Ret env.P 38 [.agg (Typ.pN (n + 1) (a.kids.getD 0 default)), slL 1 intC [21]] (fun r => r = .b (pb (Typ.has (fun k => 21 ≤ k ∧ k ≤ 21) (a.kids.getD 0 default)))) := fun hk => by
      have h1 := hasKind_n [21] (by decide) n _ (Typ.oN_kid h hk)
      rw [pb_congr has_1] at h1
      exact Ret.wk (.cons (Typ.down (Typ.oN_kid h hk)) (.cons (.refl _) .nil)) h1
    refine Ret.wk (.cons (Typ.lift h) .nil) ?_
    refine ret_of (nt := 121) (rvs := [.tmp 2]) Try.func49 rfl rfl rfl rfl (fun X => ?_)
    repeat' (first | exact aa | ((conv => whnf) <;> (first | (refine .inr (.inl (.inr (.inl ⟨_, RetM.wk (.cons (.refl _) (.cons (shr_litL (d := 0) (k := 4) (cO := intC) (l := [(21 : Int)]) rfl rfl) .nil)) (hH (by omega)).toMB, ?_⟩))); rintro _ _ ⟨rfl, rfl⟩; refine ⟨⟨rfl, rowsNs_nil⟩, _, lok_nil, ?_⟩) | refine And.intro ?_ ?_ | (intro _h; first | contradiction | (try simp only [dd] at _h)) | (refine dt_go ?_) | exact rfl | exact True.intro | exact dkk | exact dks | ((first | refine .inl ⟨_, hc, ?_⟩ | refine ⟨_, hc, ?_⟩); (try rintro _ rfl)) | ((first | refine .inl ⟨_, within_ok _ _ _, ?_⟩ | refine ⟨_, within_ok _ _ _, ?_⟩); (try rintro _ rfl)) | ((first | refine .inl ⟨_, hn, ?_⟩ | refine ⟨_, hn, ?_⟩); (try rintro _ rfl)) | ((first | refine .inl ⟨_, hL, ?_⟩ | refine ⟨_, hL, ?_⟩); (try rintro _ rfl)) | ((first | refine .inl ⟨_, hK _, ?_⟩ | refine ⟨_, hK _, ?_⟩); (try rintro _ rfl)) | ((first | refine .inl ⟨_, sizeTyp_ok _ _, ?_⟩ | refine ⟨_, sizeTyp_ok _ _, ?_⟩); (try rintro _ rfl)) | ((first | refine .inl ⟨_, sizeStr_ok _, ?_⟩ | refine ⟨_, sizeStr_ok _, ?_⟩); (try rintro _ rfl)) | (refine wrap_succ ?_; omega))))
    all_goals clear hn hL hc hK hH hq
    all_goals (try simp only [nm_eq0] at *)
    all_goals (conv => whnf)
    all_goals first
      | exact leaf_f (fun q => ‹¬ ∀ k, k < a.kids.length → _› (Typ.sh_eq.1 q).2)
      | (have hs : a.sh ↔ a.shp := ⟨fun q => (Typ.sh_eq.1 q).1, fun q => Typ.sh_eq.2 ⟨q, Classical.not_not.1 ‹¬¬ ∀ k, k < a.kids.length → _›⟩⟩
         first
           | (refine leaf_f fun q' => ?_
              have q := hs.1 q'
              have e1 : isNamed a.kind → 1 ≤ a.name.size := fun h => (q.n1 h).lo
              have e2 := q.n2
              have e3 : isLab a.kind → 1 ≤ a.labels.length := fun h => (q.l1 h).lo
              have e4 := q.l2
              unfold isNamed at e1 e2
              unfold isLab at e3 e4
              first
                | omega
                | exact ‹¬ nmB _› (q.n1 (by unfold isNamed; omega))
                | exact ‹¬ lbB _› (q.l1 (by unfold isLab; omega)))
           | (have hd : a.Hd := ⟨(by unfold isNamed; intro h; first | exact Classical.not_not.1 ‹¬ ¬ nmB _› | (exfalso; omega)), (by unfold isNamed; omega), (by unfold isLab; intro h; first | exact Classical.not_not.1 ‹¬ ¬ lbB _› | (exfalso; omega)), (by unfold isLab; omega)⟩
              first
                | (have hk := hs.trans (shp_k hd (kids_1 (by omega)))
                   exact leaf_b (anpb (hk.trans (⟨fun q => ⟨by omega, q.2⟩, fun q => ⟨by omega, q.2⟩⟩))))
                | (have hk := hs.trans (shp_k hd (kids_2 (by omega)))
                   first
                     | exact leaf_f (fun q => by have := hk.1 q; omega)
                     | exact leaf_b (npb (hk.trans ⟨fun q => q.2, fun q => ⟨by omega, q⟩⟩)))
                | (have hk := hs.trans (shp_k hd (kids_3 (by omega)))
                   exact leaf_b (dpb (hk.trans (by omega))))
                | (have hk := hs.trans (shp_k hd (kids_4 (by omega)))
                   first
                     | exact leaf_f (fun q => by have := hk.1 q; omega)
                     | exact leaf_b (anpb (q := True) (hk.trans ⟨fun q => ⟨trivial, q.2.2⟩, fun q => ⟨by omega, by omega, q.2⟩⟩)))
                | (have hk := hs.trans (shp_k hd (kids_5 (by omega)))
                   exact leaf_b (anpb (hk.trans ⟨fun q => ⟨by omega, q.2⟩, fun q => ⟨by omega, q.2⟩⟩)))
                | (have hk := hs.trans (shp_k hd (kids_6 (by omega)))
                   exact leaf_b (dpb (hk.trans (by omega))))
                | (have hk := hs.trans (shp_k hd (kids_7 (by omega)))
                   first
                     | exact leaf_f (fun q => by have := hk.1 q; omega)
                     | exact leaf_b (dpb (hk.trans (by omega))))
                | trace_state))
      | trace_state
/-- The program's TypeOk. -/
theorem typeOk_impl {n : Nat} {a : Typ} (h : Typ.oN (n + 1) a) (hp : a.np ≤ 1000000000000000) : Ret env.P 36 [.agg (Typ.pN (n + 1) a)] (fun r => r = .b (pb a.good)) := by
  have hd := deep_n 4 (by decide) 4 rfl n a h
  have hs := shapeOk_n (n + 1) a h
  have hq := parts_n (n + 1) a h hp
  refine ret_of (nt := 15) (rvs := [.tmp 2]) Try.func36 rfl rfl rfl rfl (fun X => ?_)
  repeat' (first | exact aa | ((conv => whnf) <;> (first | (refine .inl ⟨_, hd, ?_⟩; rintro _ ⟨x, rfl, h1, h2, h3⟩) | refine And.intro ?_ ?_ | (intro _h; first | contradiction | (try simp only [dd] at _h)) | (refine dt_go ?_) | exact rfl | exact True.intro | exact dkk | exact dks | ((first | refine .inl ⟨_, hs, ?_⟩ | refine ⟨_, hs, ?_⟩); (try rintro _ rfl)) | ((first | refine .inl ⟨_, hq, ?_⟩ | refine ⟨_, hq, ?_⟩); (try rintro _ rfl)) | (refine wrap_succ ?_; omega))))
  all_goals (conv => whnf)
  all_goals first
    | exact leaf_f (fun q => by first | omega | exact absurd (h3.2 q.1) (by omega) | (have := q.2.1; omega))
    | exact leaf_b (pb_congr ⟨fun q => ⟨h3.1 (by omega), by omega, q⟩, fun q => q.2.2⟩)
    | trace_state
end Go.Proofs.Ytgjihfinbaopcaa
