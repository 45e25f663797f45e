/- Texts for VModuleBytesP. -/
import Derived.Test.YtoccjfeaaaaegaaGreatVp17
namespace Go.Proofs.YtoccjfeaaaaegaaGreat
open Go Go.RowKit
set_option linter.unusedVariables false
set_option linter.unusedSimpArgs false
def strC (s : ByteArray) : List AV := [.s s]
def okS (s : ByteArray) : Prop := s.size ≤ 1048576
def okL {α : Type} [Inhabited α] (p : α → Prop) (l : List α) : Prop := l.length ≤ 1048576 ∧ ∀ k, k < l.length → p (l.getD k default)
def szFl {α : Type} (l : List α) (left : Int) : Int := szN l.length left
def szSt (s : ByteArray) (left : Int) : Int := szN s.size left
def szF {α : Type} (g : α → Int → Int) : List α → Int → Int
  | [], v => v
  | x :: r, v => if g x v < 0 then -1 else szF g r (g x v)
def szLs {α : Type} (g : α → Int → Int) (l : List α) (left : Int) : Int := if left - l.length < 0 then -1 else szF g l (left - l.length)
def szAt {α : Type} [Inhabited α] (g : α → Int → Int) (l : List α) (v0 : Int) : Nat → Int
  | 0 => v0
  | k + 1 => g (l.getD k default) (szAt g l v0 k)
theorem szN_le {n : Nat} {v : Int} (h : v ≤ 1048576) : szN n v ≤ 1048576 := by unfold szN; split <;> omega
theorem szN_ok {n : Nat} {v : Int} (h : v ≤ 1048576) (hn : ¬ szN n v < 0) : n ≤ 1048576 := by unfold szN at hn; split at hn <;> omega
theorem szSt_ok {s : ByteArray} {v : Int} (h0 : 0 ≤ v) (h : v ≤ 1048576) (hn : ¬ szSt s v < 0) : okS s := szN_ok h hn
theorem szFl_ok {α : Type} [Inhabited α] {p : α → Prop} (hp : ∀ a, p a) {l : List α} {v : Int} (h0 : 0 ≤ v) (h : v ≤ 1048576) (hn : ¬ szFl l v < 0) : okL p l := ⟨szN_ok h hn, fun k _ => hp _⟩
theorem szSt_neg {s : ByteArray} {v : Int} (h : v - (s.size : Int) < 0) : szSt s v < 0 := by unfold szSt szN; split <;> omega
theorem szSt_pos {s : ByteArray} {v : Int} (h : ¬ v - (s.size : Int) < 0) : ¬ szSt s v < 0 := by unfold szSt szN; split <;> omega
theorem szSt_eq {s : ByteArray} {v : Int} (h : ¬ szSt s v < 0) : v - (s.size : Int) = szSt s v := by unfold szSt szN at *; split at h <;> omega
theorem szF_cons {α : Type} {g : α → Int → Int} {x : α} {r : List α} {v : Int} : szF g (x :: r) v = if g x v < 0 then -1 else szF g r (g x v) := rfl
theorem szF_le {α : Type} {g : α → Int → Int} (hg : ∀ a v, v ≤ 1048576 → g a v ≤ 1048576) : ∀ {l : List α} {v : Int}, v ≤ 1048576 → szF g l v ≤ 1048576
  | [], v, h => h
  | x :: r, v, h => by unfold szF; split; omega; exact szF_le hg (hg x v h)
theorem szLs_le {α : Type} {g : α → Int → Int} (hg : ∀ a v, v ≤ 1048576 → g a v ≤ 1048576) {l : List α} {v : Int} (h : v ≤ 1048576) : szLs g l v ≤ 1048576 := by
  unfold szLs; split; omega; exact szF_le hg (by omega)
theorem szF_ok {α : Type} [Inhabited α] {g : α → Int → Int} {p : α → Prop} (hg : ∀ a v, v ≤ 1048576 → g a v ≤ 1048576) (hp : ∀ a v, 0 ≤ v → v ≤ 1048576 → ¬ g a v < 0 → p a) :
    ∀ {l : List α} {v : Int}, 0 ≤ v → v ≤ 1048576 → ¬ szF g l v < 0 → ∀ k, k < l.length → p (l.getD k default)
  | [], v, h0, h, hn, k, hk => by simp at hk
  | x :: r, v, h0, h, hn, k, hk => by
    unfold szF at hn
    by_cases c : g x v < 0
    · rw [if_pos c] at hn; omega
    rw [if_neg c] at hn
    cases k with
    | zero => exact hp x v h0 h c
    | succ k => exact szF_ok hg hp (by omega) (hg x v h) hn k (by simpa using hk)
theorem szLs_ok {α : Type} [Inhabited α] {g : α → Int → Int} {p : α → Prop} (hg : ∀ a v, v ≤ 1048576 → g a v ≤ 1048576) (hp : ∀ a v, 0 ≤ v → v ≤ 1048576 → ¬ g a v < 0 → p a)
    {l : List α} {v : Int} (h0 : 0 ≤ v) (h : v ≤ 1048576) (hn : ¬ szLs g l v < 0) : okL p l := by
  unfold szLs at hn
  by_cases c : v - l.length < 0
  · rw [if_pos c] at hn; omega
  rw [if_neg c] at hn
  exact ⟨by omega, szF_ok hg hp (by omega) (by omega) hn⟩
theorem szLs_neg {α : Type} {g : α → Int → Int} {l : List α} {v : Int} (h : v - l.length < 0) : (-1 : Int) = szLs g l v := by unfold szLs; rw [if_pos h]
structure SzI {α : Type} [Inhabited α] (g : α → Int → Int) (l : List α) (v0 : Int) (k : Nat) : Prop where
  eq : szF g (l.drop k) (szAt g l v0 k) = szF g l v0
  lo : 0 ≤ szAt g l v0 k
  hi : szAt g l v0 k ≤ 1048576
theorem SzI.start {α : Type} [Inhabited α] {g : α → Int → Int} {l : List α} {v0 : Int} (h0 : 0 ≤ v0) (h1 : v0 ≤ 1048576) : SzI g l v0 0 := ⟨rfl, h0, h1⟩
theorem drop_get {α : Type} [Inhabited α] {l : List α} {k : Nat} (hk : k < l.length) : l.drop k = l.getD k default :: l.drop (k + 1) := by
  rw [List.drop_eq_getElem_cons hk, List.getD_eq_getElem?_getD, List.getElem?_eq_getElem hk]; rfl
theorem SzI.step {α : Type} [Inhabited α] {g : α → Int → Int} {l : List α} {v0 : Int} {k : Nat} (hg : ∀ a v, v ≤ 1048576 → g a v ≤ 1048576) (s : SzI g l v0 k) (hk : (k : Int) < (l.length : Int))
    (hn : ¬ g (l.getD k default) (szAt g l v0 k) < 0) : SzI g l v0 (k + 1) := by
  have e := s.eq
  rw [drop_get (by omega)] at e
  rw [szF_cons, if_neg hn] at e
  refine ⟨e, ?_, ?_⟩
  · show 0 ≤ g (l.getD k default) (szAt g l v0 k); omega
  · exact hg _ _ s.hi
theorem SzI.neg {α : Type} [Inhabited α] {g : α → Int → Int} {l : List α} {left : Int} {k : Nat} (s : SzI g l (left - l.length) k) (hk : (k : Int) < (l.length : Int))
    (hn : g (l.getD k default) (szAt g l (left - l.length) k) < 0) (h0 : ¬ left - l.length < 0) : (-1 : Int) = szLs g l left := by
  have e := s.eq
  rw [drop_get (by omega)] at e
  rw [szF_cons, if_pos hn] at e
  unfold szLs
  rw [if_neg h0]
  exact e
theorem SzI.fin {α : Type} [Inhabited α] {g : α → Int → Int} {l : List α} {left : Int} {k : Nat} (s : SzI g l (left - l.length) k) (hk : ¬ (k : Int) < (l.length : Int)) (h0 : ¬ left - l.length < 0) : szAt g l (left - l.length) k = szLs g l left := by
  have e := s.eq
  rw [List.drop_eq_nil_of_le (by omega)] at e
  unfold szLs
  rw [if_neg h0]
  exact e
set_option maxRecDepth 8000
structure Import where
  name : ByteArray
  params : Int
  result : Bool
  deriving DecidableEq, Inhabited
def Import.cs (a : Import) : List AV := [.s a.name, .i .i64 a.params, .b a.result]
theorem Import.low (a : Import) : a.cs.all (low1 0) = true := rfl
def Import.ok (a : Import) : Prop := okS a.name
theorem toImport_ok (a : Import) (h : Import.ok a) : Ret env.P 29 [.agg a.cs] (fun r => r = .agg a.cs) := by
  refine ret_of (nt := 14) (rvs := [.cell 2 57]) Tryz.func29 rfl rfl rfl rfl (fun X => ?_)
  exact rfl
theorem eqImport_ok (a b : Import) (h : Import.ok a) : Ret env.P 45 [.agg a.cs, .agg b.cs] (fun r => r = .b (decide (a = b))) := by
  obtain ⟨a0, a1, a2⟩ := a
  obtain ⟨b0, b1, b2⟩ := b
  refine ret_of (nt := 20) (rvs := [.tmp 4]) Tryz.func45 rfl rfl rfl rfl (fun X => ?_)
  repeat' (first | exact aa | ((conv => whnf) <;> (first | refine And.intro ?_ ?_ | (intro _h; first | contradiction | (try simp only [dd] at _h)) | (refine dt_go ?_) | exact rfl | exact True.intro | exact dkk | exact dks | (refine wrap_succ ?_; omega))))
  all_goals (clear h; refine leaf_b ?_; simp_all)
def Import.sz (a : Import) (left : Int) : Int :=
  if (szSt a.name left) < 0 then -1 else (szSt a.name left)
theorem Import.sz_le (a : Import) (left : Int) (h1 : left ≤ 1048576) : Import.sz a left ≤ 1048576 := by
  have b1 : (szSt a.name left) ≤ 1048576 := szN_le h1
  unfold Import.sz
  repeat' split
  all_goals omega
theorem Import.sz_ok (a : Import) (left : Int) (h0 : 0 ≤ left) (h1 : left ≤ 1048576) (hn : ¬ Import.sz a left < 0) : Import.ok a := by
  have b1 : (szSt a.name left) ≤ 1048576 := szN_le h1
  unfold Import.sz at hn
  by_cases c1 : (szSt a.name left) < 0
  · rw [if_pos c1] at hn; omega
  rw [if_neg c1] at hn
  exact szSt_ok h0 h1 c1
theorem szImport_ok (a : Import) (left : Int) (h0 : 0 ≤ left) (h1 : left ≤ 1048576) : Ret env.P 21 [.agg a.cs, .i .i64 left] (fun r => r = .i .i64 (Import.sz a left)) := by
  refine Ret.args fun hw => ?_
  have b1 : (szSt a.name left) ≤ 1048576 := szN_le h1
  have w0 : a.name.size ≤ 9223372036854775807 := hw _ (List.mem_cons_self) (.s a.name) (.head _)
  have e0 : 0 ≤ left → IntKind.i64.wrap (left - (a.name.size : Int)) = left - (a.name.size : Int) := fun _ => wrap_in (by omega) (by omega)
  refine ret_of (nt := 13) (rvs := [.tmp 4]) Tryz.func21 rfl rfl rfl rfl (fun X => ?_)
  conv => whnf
  rw [e0 (by omega)]
  refine ⟨fun _h => ?_, fun _h => ?_⟩
  · exact leaf_i (by have dn := szSt_neg (of_decide_eq_true _h); clear _h; simp_all [Import.sz]; try (intros; omega))
  have d0 : ¬ (szSt a.name left) < 0 := szSt_pos (fun hc => _h (decide_eq_true hc))
  rw [szSt_eq d0] at *
  all_goals (refine leaf_i ?_; simp_all [Import.sz]; try (intros; omega))
theorem toImportS_ok (l : List Import) (h : okL Import.ok l) : Ret env.P 14 [slL 3 Import.cs l] (fun r => r = slL 3 Import.cs l) := by
  have hl := h.1
  refine Ret.to ?_
  refine ret_of (nt := 23) (rvs := [.tmp 2]) Tryz.func14 rfl rfl rfl rfl (fun X => ?_)
  conv => whnf
  refine ⟨⟨by omega, by omega, by dsimp only; omega, by omega⟩, ?_⟩
  conv => whnf
  refine loopN l.length (fun k => [(4, .i .i64 k)]) (fun k => [some (.arr ⟨3, l.length, fillE k (elE Import.cs l) (fun _ j => [AV.s ByteArray.empty, AV.i .i64 0, AV.kb false].getD j .any), .arr⟩)]) (fun k => True) ⟨trivial, ?_⟩
  repeat' (first | exact aa | ((conv => whnf) <;> (first | exact arr_start rfl (fun _ _ => low_cells (Import.low _)) (fun _ _ => low_cells rfl) | exact arr_round rfl rfl (fun _ _ => rfl) (fun _ _ => low_cells (Import.low _)) (fun _ _ => low_cells rfl) | refine And.intro ?_ ?_ | (intro _h; first | contradiction | (try simp only [dd] at _h)) | (refine dt_go ?_) | exact rfl | exact True.intro | exact dkk | exact dks | ((first | refine .inl ⟨_, toImport_ok _ (h.2 _ (by omega)), ?_⟩ | refine ⟨_, toImport_ok _ (h.2 _ (by omega)), ?_⟩); (try rintro _ rfl)) | (refine wrap_succ ?_; omega))))
  exact wk_fill rfl (by omega) rfl (fun _ => rfl)
theorem eqImportS_ok (l m : List Import) (h : okL Import.ok l) : Ret env.P 19 [slL 3 Import.cs l, slL 3 Import.cs m] (fun r => r = .b (decide (l = m))) := by
  have hl := h.1
  refine ret_of (nt := 27) (rvs := [.tmp 4]) Tryz.func19 rfl rfl rfl rfl (fun X => ?_)
  repeat' (first | exact aa | ((conv => whnf) <;> (first | exact upto_succ (by assumption) (by assumption) | refine loopN l.length (fun k => [(5, .i .i64 k)]) (fun k => []) (fun k => ∀ j, j < k → l.getD j default = m.getD j default) ⟨fun _ h => by omega, ?_⟩ | refine And.intro ?_ ?_ | (intro _h; first | contradiction | (try simp only [dd] at _h)) | (refine dt_go ?_) | exact rfl | exact True.intro | exact dkk | exact dks | ((first | refine .inl ⟨_, eqImport_ok _ _ (h.2 _ (by omega)), ?_⟩ | refine ⟨_, eqImport_ok _ _ (h.2 _ (by omega)), ?_⟩); (try rintro _ rfl)) | (refine wrap_succ ?_; omega))))
  · exact leaf_ne (by rintro rfl; omega)
  · exact leaf_ne (by rintro rfl; contradiction)
  · exact leaf_eq (list_eq (by omega) fun j hj => by have := ‹∀ j, j < _ → l.getD j default = m.getD j default›; exact this j (by omega))
theorem szImportS_ok (l : List Import) (left : Int) (h0 : 0 ≤ left) (h1 : left ≤ 1048576) : Ret env.P 9 [slL 3 Import.cs l, .i .i64 left] (fun r => r = .i .i64 (szLs Import.sz l left)) := by
  refine Ret.args fun hw => ?_
  have hl := wfs_sl (hw _ (List.mem_cons_self))
  have e : IntKind.i64.wrap (left - (l.length : Int)) = left - (l.length : Int) := wrap_in (by omega) (by omega)
  refine ret_of (nt := 27) (rvs := [.tmp 4]) Tryz.func9 rfl rfl rfl rfl (fun X => ?_)
  conv => whnf
  rw [e]
  refine ⟨fun _h => ?_, fun _h => ?_⟩
  · exact leaf_i (szLs_neg (of_decide_eq_true _h))
  have _h : ¬ (left - (l.length : Int) < 0) := fun hc => _h (decide_eq_true hc)
  conv => whnf
  refine loopN l.length (fun k => [(5, .i .i64 k), (1, .i .i64 (szAt Import.sz l (left - l.length) k))]) (fun k => []) (fun k => SzI Import.sz l (left - l.length) k) ⟨.start (by omega) (by omega), ?_⟩
  repeat' (first | exact aa | ((conv => whnf) <;> (first | exact SzI.step (fun a v h => Import.sz_le a v h) (by assumption) (by assumption) (by assumption) | refine And.intro ?_ ?_ | (intro _h; first | contradiction | (try simp only [dd] at _h)) | (refine dt_go ?_) | exact rfl | exact True.intro | exact dkk | exact dks | ((first | refine .inl ⟨_, szImport_ok _ _ (SzI.lo ‹_›) (SzI.hi ‹_›), ?_⟩ | refine ⟨_, szImport_ok _ _ (SzI.lo ‹_›) (SzI.hi ‹_›), ?_⟩); (try rintro _ rfl)) | (refine wrap_succ ?_; omega))))
  all_goals first | exact leaf_i (SzI.neg ‹SzI _ _ _ _› (by assumption) (by assumption) (by assumption)) | exact leaf_i (SzI.fin ‹SzI _ _ _ _› (by assumption) (by assumption))
set_option maxRecDepth 8000
structure Ins where
  op : Int
  a : Int
  deriving DecidableEq, Inhabited
def Ins.cs (a : Ins) : List AV := [.i .i64 a.op, .i .i64 a.a]
theorem Ins.low (a : Ins) : a.cs.all (low1 0) = true := rfl
def Ins.ok (a : Ins) : Prop := True
theorem toIns_ok (a : Ins) (h : Ins.ok a) : Ret env.P 74 [.agg a.cs] (fun r => r = .agg a.cs) := by
  refine ret_of (nt := 11) (rvs := [.cell 2 93]) Tryz.func74 rfl rfl rfl rfl (fun X => ?_)
  exact rfl
theorem eqIns_ok (a b : Ins) (h : Ins.ok a) : Ret env.P 88 [.agg a.cs, .agg b.cs] (fun r => r = .b (decide (a = b))) := by
  obtain ⟨a0, a1⟩ := a
  obtain ⟨b0, b1⟩ := b
  refine ret_of (nt := 15) (rvs := [.tmp 4]) Tryz.func88 rfl rfl rfl rfl (fun X => ?_)
  repeat' (first | exact aa | ((conv => whnf) <;> (first | refine And.intro ?_ ?_ | (intro _h; first | contradiction | (try simp only [dd] at _h)) | (refine dt_go ?_) | exact rfl | exact True.intro | exact dkk | exact dks | (refine wrap_succ ?_; omega))))
  all_goals (clear h; refine leaf_b ?_; simp_all)
theorem toInsS_ok (l : List Ins) (h : okL Ins.ok l) : Ret env.P 56 [slL 2 Ins.cs l] (fun r => r = slL 2 Ins.cs l) := by
  have hl := h.1
  refine Ret.to ?_
  refine ret_of (nt := 23) (rvs := [.tmp 2]) Tryz.func56 rfl rfl rfl rfl (fun X => ?_)
  conv => whnf
  refine ⟨⟨by omega, by omega, by dsimp only; omega, by omega⟩, ?_⟩
  conv => whnf
  refine loopN l.length (fun k => [(4, .i .i64 k)]) (fun k => [some (.arr ⟨2, l.length, fillE k (elE Ins.cs l) (fun _ j => [AV.i .i64 0, AV.i .i64 0].getD j .any), .arr⟩)]) (fun k => True) ⟨trivial, ?_⟩
  repeat' (first | exact aa | ((conv => whnf) <;> (first | exact arr_start rfl (fun _ _ => low_cells (Ins.low _)) (fun _ _ => low_cells rfl) | exact arr_round rfl rfl (fun _ _ => rfl) (fun _ _ => low_cells (Ins.low _)) (fun _ _ => low_cells rfl) | refine And.intro ?_ ?_ | (intro _h; first | contradiction | (try simp only [dd] at _h)) | (refine dt_go ?_) | exact rfl | exact True.intro | exact dkk | exact dks | ((first | refine .inl ⟨_, toIns_ok _ (h.2 _ (by omega)), ?_⟩ | refine ⟨_, toIns_ok _ (h.2 _ (by omega)), ?_⟩); (try rintro _ rfl)) | (refine wrap_succ ?_; omega))))
  exact wk_fill rfl (by omega) rfl (fun _ => rfl)
theorem eqInsS_ok (l m : List Ins) (h : okL Ins.ok l) : Ret env.P 70 [slL 2 Ins.cs l, slL 2 Ins.cs m] (fun r => r = .b (decide (l = m))) := by
  have hl := h.1
  refine ret_of (nt := 27) (rvs := [.tmp 4]) Tryz.func70 rfl rfl rfl rfl (fun X => ?_)
  repeat' (first | exact aa | ((conv => whnf) <;> (first | exact upto_succ (by assumption) (by assumption) | refine loopN l.length (fun k => [(5, .i .i64 k)]) (fun k => []) (fun k => ∀ j, j < k → l.getD j default = m.getD j default) ⟨fun _ h => by omega, ?_⟩ | refine And.intro ?_ ?_ | (intro _h; first | contradiction | (try simp only [dd] at _h)) | (refine dt_go ?_) | exact rfl | exact True.intro | exact dkk | exact dks | ((first | refine .inl ⟨_, eqIns_ok _ _ (h.2 _ (by omega)), ?_⟩ | refine ⟨_, eqIns_ok _ _ (h.2 _ (by omega)), ?_⟩); (try rintro _ rfl)) | (refine wrap_succ ?_; omega))))
  · exact leaf_ne (by rintro rfl; omega)
  · exact leaf_ne (by rintro rfl; contradiction)
  · exact leaf_eq (list_eq (by omega) fun j hj => by have := ‹∀ j, j < _ → l.getD j default = m.getD j default›; exact this j (by omega))
theorem szInsS_ok (l : List Ins) (left : Int) (h0 : 0 ≤ left) (h1 : left ≤ 1048576) : Ret env.P 47 [slL 2 Ins.cs l, .i .i64 left] (fun r => r = .i .i64 (szFl l left)) := by
  refine Ret.args fun hw => ?_
  have hl := wfs_sl (hw _ (List.mem_cons_self))
  have e : IntKind.i64.wrap (left - (l.length : Int)) = left - (l.length : Int) := wrap_in (by omega) (by omega)
  refine ret_of (nt := 12) (rvs := [.tmp 4]) Tryz.func47 rfl rfl rfl rfl (fun X => ?_)
  repeat' (first | exact aa | ((conv => whnf) <;> (first | refine And.intro ?_ ?_ | (intro _h; first | contradiction | (try simp only [dd] at _h)) | (refine dt_go ?_) | exact rfl | exact True.intro | exact dkk | exact dks | (refine wrap_succ ?_; omega))))
  all_goals (refine leaf_i ?_; unfold szFl szN; rw [e] at _h; first | rw [if_pos (by omega)] | (rw [if_neg (by omega)]; exact e))
set_option maxRecDepth 8000
structure Core where
  name : ByteArray
  params : Int
  locals : Int
  result : Bool
  code : List Ins
  deriving DecidableEq, Inhabited
def Core.cs (a : Core) : List AV := [.s a.name, .i .i64 a.params, .i .i64 a.locals, .b a.result, slL 2 Ins.cs a.code]
theorem Core.low (a : Core) : a.cs.all (low1 0) = true := rfl
def Core.ok (a : Core) : Prop := okS a.name ∧ (okL Ins.ok) a.code
theorem toCore_ok (a : Core) (h : Core.ok a) : Ret env.P 30 [.agg a.cs] (fun r => r = .agg a.cs) := by
  refine ret_of (nt := 21) (rvs := [.cell 2 62]) Tryz.func30 rfl rfl rfl rfl (fun X => ?_)
  repeat' (first | exact aa | ((conv => whnf) <;> (first | refine And.intro ?_ ?_ | (intro _h; first | contradiction | (try simp only [dd] at _h)) | (refine dt_go ?_) | exact rfl | exact True.intro | exact dkk | exact dks | ((first | refine .inl ⟨_, toInsS_ok _ h.2, ?_⟩ | refine ⟨_, toInsS_ok _ h.2, ?_⟩); (try rintro _ rfl)) | (refine wrap_succ ?_; omega))))
theorem eqCore_ok (a b : Core) (h : Core.ok a) : Ret env.P 46 [.agg a.cs, .agg b.cs] (fun r => r = .b (decide (a = b))) := by
  obtain ⟨a0, a1, a2, a3, a4⟩ := a
  obtain ⟨b0, b1, b2, b3, b4⟩ := b
  refine ret_of (nt := 31) (rvs := [.tmp 4]) Tryz.func46 rfl rfl rfl rfl (fun X => ?_)
  repeat' (first | exact aa | ((conv => whnf) <;> (first | refine And.intro ?_ ?_ | (intro _h; first | contradiction | (try simp only [dd] at _h)) | (refine dt_go ?_) | exact rfl | exact True.intro | exact dkk | exact dks | ((first | refine .inl ⟨_, eqInsS_ok _ _ h.2, ?_⟩ | refine ⟨_, eqInsS_ok _ _ h.2, ?_⟩); (try rintro _ rfl)) | (refine wrap_succ ?_; omega))))
  all_goals (clear h; refine leaf_b ?_; simp_all)
def Core.sz (a : Core) (left : Int) : Int :=
  if (szSt a.name left) < 0 then -1 else if (szFl a.code (szSt a.name left)) < 0 then -1 else (szFl a.code (szSt a.name left))
theorem Core.sz_le (a : Core) (left : Int) (h1 : left ≤ 1048576) : Core.sz a left ≤ 1048576 := by
  have b1 : (szSt a.name left) ≤ 1048576 := szN_le h1
  have b2 : (szFl a.code (szSt a.name left)) ≤ 1048576 := szN_le b1
  unfold Core.sz
  repeat' split
  all_goals omega
theorem Core.sz_ok (a : Core) (left : Int) (h0 : 0 ≤ left) (h1 : left ≤ 1048576) (hn : ¬ Core.sz a left < 0) : Core.ok a := by
  have b1 : (szSt a.name left) ≤ 1048576 := szN_le h1
  have b2 : (szFl a.code (szSt a.name left)) ≤ 1048576 := szN_le b1
  unfold Core.sz at hn
  by_cases c1 : (szSt a.name left) < 0
  · rw [if_pos c1] at hn; omega
  rw [if_neg c1] at hn
  by_cases c2 : (szFl a.code (szSt a.name left)) < 0
  · rw [if_pos c2] at hn; omega
  rw [if_neg c2] at hn
  exact ⟨szSt_ok h0 h1 c1, szFl_ok (fun _ => trivial) (by omega) b1 c2⟩
theorem szCore_ok (a : Core) (left : Int) (h0 : 0 ≤ left) (h1 : left ≤ 1048576) : Ret env.P 22 [.agg a.cs, .i .i64 left] (fun r => r = .i .i64 (Core.sz a left)) := by
  refine Ret.args fun hw => ?_
  have b1 : (szSt a.name left) ≤ 1048576 := szN_le h1
  have b2 : (szFl a.code (szSt a.name left)) ≤ 1048576 := szN_le b1
  have w0 : a.name.size ≤ 9223372036854775807 := hw _ (List.mem_cons_self) (.s a.name) (.head _)
  have e0 : 0 ≤ left → IntKind.i64.wrap (left - (a.name.size : Int)) = left - (a.name.size : Int) := fun _ => wrap_in (by omega) (by omega)
  refine ret_of (nt := 19) (rvs := [.tmp 4]) Tryz.func22 rfl rfl rfl rfl (fun X => ?_)
  conv => whnf
  rw [e0 (by omega)]
  refine ⟨fun _h => ?_, fun _h => ?_⟩
  · exact leaf_i (by have dn := szSt_neg (of_decide_eq_true _h); clear _h; simp_all [Core.sz]; try (intros; omega))
  have d0 : ¬ (szSt a.name left) < 0 := szSt_pos (fun hc => _h (decide_eq_true hc))
  rw [szSt_eq d0] at *
  repeat' (first | exact aa | ((conv => whnf) <;> (first | refine And.intro ?_ ?_ | (intro _h; first | contradiction | (try simp only [dd] at _h)) | (refine dt_go ?_) | exact rfl | exact True.intro | exact dkk | exact dks | ((first | refine .inl ⟨_, szInsS_ok _ _ (by omega) (by omega), ?_⟩ | refine ⟨_, szInsS_ok _ _ (by omega) (by omega), ?_⟩); (try rintro _ rfl)) | (refine wrap_succ ?_; omega))))
  all_goals (refine leaf_i ?_; simp_all [Core.sz]; try (intros; omega))
theorem toCoreS_ok (l : List Core) (h : okL Core.ok l) : Ret env.P 15 [slL 5 Core.cs l] (fun r => r = slL 5 Core.cs l) := by
  have hl := h.1
  refine Ret.to ?_
  refine ret_of (nt := 23) (rvs := [.tmp 2]) Tryz.func15 rfl rfl rfl rfl (fun X => ?_)
  conv => whnf
  refine ⟨⟨by omega, by omega, by dsimp only; omega, by omega⟩, ?_⟩
  conv => whnf
  refine loopN l.length (fun k => [(4, .i .i64 k)]) (fun k => [some (.arr ⟨5, l.length, fillE k (elE Core.cs l) (fun _ j => [AV.s ByteArray.empty, AV.i .i64 0, AV.i .i64 0, AV.kb false, AV.nils].getD j .any), .arr⟩)]) (fun k => True) ⟨trivial, ?_⟩
  repeat' (first | exact aa | ((conv => whnf) <;> (first | exact arr_start rfl (fun _ _ => low_cells (Core.low _)) (fun _ _ => low_cells rfl) | exact arr_round rfl rfl (fun _ _ => rfl) (fun _ _ => low_cells (Core.low _)) (fun _ _ => low_cells rfl) | refine And.intro ?_ ?_ | (intro _h; first | contradiction | (try simp only [dd] at _h)) | (refine dt_go ?_) | exact rfl | exact True.intro | exact dkk | exact dks | ((first | refine .inl ⟨_, toCore_ok _ (h.2 _ (by omega)), ?_⟩ | refine ⟨_, toCore_ok _ (h.2 _ (by omega)), ?_⟩); (try rintro _ rfl)) | (refine wrap_succ ?_; omega))))
  exact wk_fill rfl (by omega) rfl (fun _ => rfl)
theorem eqCoreS_ok (l m : List Core) (h : okL Core.ok l) : Ret env.P 20 [slL 5 Core.cs l, slL 5 Core.cs m] (fun r => r = .b (decide (l = m))) := by
  have hl := h.1
  refine ret_of (nt := 27) (rvs := [.tmp 4]) Tryz.func20 rfl rfl rfl rfl (fun X => ?_)
  repeat' (first | exact aa | ((conv => whnf) <;> (first | exact upto_succ (by assumption) (by assumption) | refine loopN l.length (fun k => [(5, .i .i64 k)]) (fun k => []) (fun k => ∀ j, j < k → l.getD j default = m.getD j default) ⟨fun _ h => by omega, ?_⟩ | refine And.intro ?_ ?_ | (intro _h; first | contradiction | (try simp only [dd] at _h)) | (refine dt_go ?_) | exact rfl | exact True.intro | exact dkk | exact dks | ((first | refine .inl ⟨_, eqCore_ok _ _ (h.2 _ (by omega)), ?_⟩ | refine ⟨_, eqCore_ok _ _ (h.2 _ (by omega)), ?_⟩); (try rintro _ rfl)) | (refine wrap_succ ?_; omega))))
  · exact leaf_ne (by rintro rfl; omega)
  · exact leaf_ne (by rintro rfl; contradiction)
  · exact leaf_eq (list_eq (by omega) fun j hj => by have := ‹∀ j, j < _ → l.getD j default = m.getD j default›; exact this j (by omega))
theorem szCoreS_ok (l : List Core) (left : Int) (h0 : 0 ≤ left) (h1 : left ≤ 1048576) : Ret env.P 10 [slL 5 Core.cs l, .i .i64 left] (fun r => r = .i .i64 (szLs Core.sz l left)) := by
  refine Ret.args fun hw => ?_
  have hl := wfs_sl (hw _ (List.mem_cons_self))
  have e : IntKind.i64.wrap (left - (l.length : Int)) = left - (l.length : Int) := wrap_in (by omega) (by omega)
  refine ret_of (nt := 27) (rvs := [.tmp 4]) Tryz.func10 rfl rfl rfl rfl (fun X => ?_)
  conv => whnf
  rw [e]
  refine ⟨fun _h => ?_, fun _h => ?_⟩
  · exact leaf_i (szLs_neg (of_decide_eq_true _h))
  have _h : ¬ (left - (l.length : Int) < 0) := fun hc => _h (decide_eq_true hc)
  conv => whnf
  refine loopN l.length (fun k => [(5, .i .i64 k), (1, .i .i64 (szAt Core.sz l (left - l.length) k))]) (fun k => []) (fun k => SzI Core.sz l (left - l.length) k) ⟨.start (by omega) (by omega), ?_⟩
  repeat' (first | exact aa | ((conv => whnf) <;> (first | exact SzI.step (fun a v h => Core.sz_le a v h) (by assumption) (by assumption) (by assumption) | refine And.intro ?_ ?_ | (intro _h; first | contradiction | (try simp only [dd] at _h)) | (refine dt_go ?_) | exact rfl | exact True.intro | exact dkk | exact dks | ((first | refine .inl ⟨_, szCore_ok _ _ (SzI.lo ‹_›) (SzI.hi ‹_›), ?_⟩ | refine ⟨_, szCore_ok _ _ (SzI.lo ‹_›) (SzI.hi ‹_›), ?_⟩); (try rintro _ rfl)) | (refine wrap_succ ?_; omega))))
  all_goals first | exact leaf_i (SzI.neg ‹SzI _ _ _ _› (by assumption) (by assumption) (by assumption)) | exact leaf_i (SzI.fin ‹SzI _ _ _ _› (by assumption) (by assumption))
set_option maxRecDepth 8000
structure Module where
  pages : Int
  imports : List Import
  cores : List Core
  deriving DecidableEq, Inhabited
def Module.cs (a : Module) : List AV := [.i .i64 a.pages, slL 3 Import.cs a.imports, slL 5 Core.cs a.cores]
theorem Module.low (a : Module) : a.cs.all (low1 0) = true := rfl
def Module.ok (a : Module) : Prop := (okL Import.ok) a.imports ∧ (okL Core.ok) a.cores
theorem toModule_ok (a : Module) (h : Module.ok a) : Ret env.P 6 [.agg a.cs] (fun r => r = .agg a.cs) := by
  refine ret_of (nt := 16) (rvs := [.cell 2 31]) Tryz.func6 rfl rfl rfl rfl (fun X => ?_)
  repeat' (first | exact aa | ((conv => whnf) <;> (first | refine And.intro ?_ ?_ | (intro _h; first | contradiction | (try simp only [dd] at _h)) | (refine dt_go ?_) | exact rfl | exact True.intro | exact dkk | exact dks | ((first | refine .inl ⟨_, toImportS_ok _ h.1, ?_⟩ | refine ⟨_, toImportS_ok _ h.1, ?_⟩); (try rintro _ rfl)) | ((first | refine .inl ⟨_, toCoreS_ok _ h.2, ?_⟩ | refine ⟨_, toCoreS_ok _ h.2, ?_⟩); (try rintro _ rfl)) | (refine wrap_succ ?_; omega))))
theorem eqModule_ok (a b : Module) (h : Module.ok a) : Ret env.P 8 [.agg a.cs, .agg b.cs] (fun r => r = .b (decide (a = b))) := by
  obtain ⟨a0, a1, a2⟩ := a
  obtain ⟨b0, b1, b2⟩ := b
  refine ret_of (nt := 22) (rvs := [.tmp 4]) Tryz.func8 rfl rfl rfl rfl (fun X => ?_)
  repeat' (first | exact aa | ((conv => whnf) <;> (first | refine And.intro ?_ ?_ | (intro _h; first | contradiction | (try simp only [dd] at _h)) | (refine dt_go ?_) | exact rfl | exact True.intro | exact dkk | exact dks | ((first | refine .inl ⟨_, eqImportS_ok _ _ h.1, ?_⟩ | refine ⟨_, eqImportS_ok _ _ h.1, ?_⟩); (try rintro _ rfl)) | ((first | refine .inl ⟨_, eqCoreS_ok _ _ h.2, ?_⟩ | refine ⟨_, eqCoreS_ok _ _ h.2, ?_⟩); (try rintro _ rfl)) | (refine wrap_succ ?_; omega))))
  all_goals (clear h; refine leaf_b ?_; simp_all)
def Module.sz (a : Module) (left : Int) : Int :=
  if ((szLs Import.sz) a.imports left) < 0 then -1 else if ((szLs Core.sz) a.cores ((szLs Import.sz) a.imports left)) < 0 then -1 else ((szLs Core.sz) a.cores ((szLs Import.sz) a.imports left))
theorem Module.sz_le (a : Module) (left : Int) (h1 : left ≤ 1048576) : Module.sz a left ≤ 1048576 := by
  have b1 : ((szLs Import.sz) a.imports left) ≤ 1048576 := szLs_le (fun a v h => Import.sz_le a v h) h1
  have b2 : ((szLs Core.sz) a.cores ((szLs Import.sz) a.imports left)) ≤ 1048576 := szLs_le (fun a v h => Core.sz_le a v h) b1
  unfold Module.sz
  repeat' split
  all_goals omega
theorem Module.sz_ok (a : Module) (left : Int) (h0 : 0 ≤ left) (h1 : left ≤ 1048576) (hn : ¬ Module.sz a left < 0) : Module.ok a := by
  have b1 : ((szLs Import.sz) a.imports left) ≤ 1048576 := szLs_le (fun a v h => Import.sz_le a v h) h1
  have b2 : ((szLs Core.sz) a.cores ((szLs Import.sz) a.imports left)) ≤ 1048576 := szLs_le (fun a v h => Core.sz_le a v h) b1
  unfold Module.sz at hn
  by_cases c1 : ((szLs Import.sz) a.imports left) < 0
  · rw [if_pos c1] at hn; omega
  rw [if_neg c1] at hn
  by_cases c2 : ((szLs Core.sz) a.cores ((szLs Import.sz) a.imports left)) < 0
  · rw [if_pos c2] at hn; omega
  rw [if_neg c2] at hn
  exact ⟨szLs_ok (fun a v h => Import.sz_le a v h) (fun a v h0 h1 hn => Import.sz_ok a v h0 h1 hn) h0 h1 c1, szLs_ok (fun a v h => Core.sz_le a v h) (fun a v h0 h1 hn => Core.sz_ok a v h0 h1 hn) (by omega) b1 c2⟩
theorem szModule_ok (a : Module) (left : Int) (h0 : 0 ≤ left) (h1 : left ≤ 1048576) : Ret env.P 4 [.agg a.cs, .i .i64 left] (fun r => r = .i .i64 (Module.sz a left)) := by
  have b1 : ((szLs Import.sz) a.imports left) ≤ 1048576 := szLs_le (fun a v h => Import.sz_le a v h) h1
  have b2 : ((szLs Core.sz) a.cores ((szLs Import.sz) a.imports left)) ≤ 1048576 := szLs_le (fun a v h => Core.sz_le a v h) b1
  refine ret_of (nt := 18) (rvs := [.tmp 4]) Tryz.func4 rfl rfl rfl rfl (fun X => ?_)
  repeat' (first | exact aa | ((conv => whnf) <;> (first | refine And.intro ?_ ?_ | (intro _h; first | contradiction | (try simp only [dd] at _h)) | (refine dt_go ?_) | exact rfl | exact True.intro | exact dkk | exact dks | ((first | refine .inl ⟨_, szImportS_ok _ _ (by omega) (by omega), ?_⟩ | refine ⟨_, szImportS_ok _ _ (by omega) (by omega), ?_⟩); (try rintro _ rfl)) | ((first | refine .inl ⟨_, szCoreS_ok _ _ (by omega) (by omega), ?_⟩ | refine ⟨_, szCoreS_ok _ _ (by omega) (by omega), ?_⟩); (try rintro _ rfl)) | (refine wrap_succ ?_; omega))))
  all_goals (refine leaf_i ?_; simp_all [Module.sz]; try (intros; omega))
def lebL (n : Nat) : List Nat := if h : n ≤ 127 then [n] else (n % 128 + 128) :: lebL (n / 128)
termination_by n
decreasing_by omega
theorem lebL_small {n : Nat} (h : n ≤ 127) : lebL n = [n] := by rw [lebL, dif_pos h]
theorem lebL_big {n : Nat} (h : ¬ n ≤ 127) : lebL n = (n % 128 + 128) :: lebL (n / 128) := by rw [lebL, dif_neg h]
theorem or_add {a b i : Nat} (h : a < 2 ^ i) : a ||| (b * 2 ^ i) = a + 2 ^ i * b := by
  rw [Nat.or_comm, Nat.mul_comm b, ← Nat.two_pow_add_eq_or_of_lt h, Nat.add_comm]
def bsN (b : ByteArray) : List Nat := b.data.toList.map UInt8.toNat
def baN (l : List Nat) : ByteArray := ⟨(l.map UInt8.ofNat).toArray⟩
def u8C (n : Nat) : List AV := [.i .u8 (n : Int)]
theorem bsN_len (b : ByteArray) : (bsN b).length = b.size := by
  unfold bsN
  rw [List.length_map, Array.length_toList]
  rfl
theorem bsN_lt {b : ByteArray} : ∀ x ∈ bsN b, x < 256 := fun x hx => by
  obtain ⟨c, _, rfl⟩ := List.mem_map.1 hx
  exact c.toNat_lt
theorem bsN_at (b : ByteArray) (i : Nat) : (bsN b).getD i 0 = (b.data.getD i 0).toNat := by
  unfold bsN
  rw [List.getD_eq_getElem?_getD, List.getElem?_map, Array.getElem?_toList, Array.getD_eq_getD_getElem?]
  cases b.data[i]? <;> rfl
theorem bsN_ba {l : List Nat} (h : ∀ x ∈ l, x < 256) : bsN (baN l) = l := by
  unfold bsN baN
  dsimp only
  rw [List.map_map]
  conv => rhs; rw [← List.map_id l]
  refine List.map_congr_left fun x hx => ?_
  have := h x hx
  show (UInt8.ofNat x).toNat = x
  rw [UInt8.toNat_ofNat']
  omega
theorem baN_bs (b : ByteArray) : baN (bsN b) = b := by
  unfold bsN baN
  rw [List.map_map]
  have : (UInt8.ofNat ∘ UInt8.toNat) = id := by
    funext x
    exact UInt8.ofNat_toNat
  rw [this, List.map_id]
theorem bytesOf_u8 (l : List Nat) : bytesOf l.length (elE u8C l) = baN l := by
  unfold bytesOf baN
  congr 2
  refine List.ext_getElem? fun i => ?_
  rw [List.getElem?_map, List.getElem?_map]
  by_cases hi : i < l.length
  · rw [List.getElem?_range hi, List.getElem?_eq_getElem hi, Option.map_some, Option.map_some]
    congr 1
    show UInt8.ofNat (Int.toNat ((l.getD i default : Nat) : Int)) = _
    rw [Int.toNat_natCast, List.getD_eq_getElem?_getD, List.getElem?_eq_getElem hi]
    rfl
  · rw [List.getElem?_eq_none (by rw [List.length_range]; omega), List.getElem?_eq_none (by omega)]
    rfl
theorem lebL_lt : ∀ (n : Nat), ∀ x ∈ lebL n, x < 256 := fun n => by
  induction n using Nat.strongRecOn with
  | ind n ih =>
    intro x hx
    by_cases h : n ≤ 127
    · rw [lebL_small h, List.mem_singleton] at hx
      omega
    · rw [lebL_big h] at hx
      rcases List.mem_cons.1 hx with e | e
      · omega
      · exact ih (n / 128) (by omega) x e
structure FstTo (b : ByteArray) (k : Nat) : Prop where
  h : ∀ j, j < k → ¬ (bsN b).getD j 0 < 128
theorem FstTo.zero (b : ByteArray) : FstTo b 0 := ⟨fun j hj => absurd hj (Nat.not_lt_zero _)⟩
theorem FstTo.succ {b : ByteArray} {k : Nat} (h : FstTo b k) (hk : ¬ (bsN b).getD k 0 < 128) : FstTo b (k + 1) := ⟨fun j hj => by
  rcases Nat.lt_or_eq_of_le (Nat.le_of_lt_succ hj) with q | rfl
  · exact h.h j q
  · exact hk⟩
def slebL (n : Int) : List Nat := if h : -64 ≤ n ∧ n ≤ 63 then [(n % 128).toNat] else ((n % 128).toNat + 128) :: slebL (n / 128)
termination_by n.natAbs
decreasing_by omega
theorem slebL_small {n : Int} (h : -64 ≤ n ∧ n ≤ 63) : slebL n = [(n % 128).toNat] := by rw [slebL, dif_pos h]
theorem slebL_big {n : Int} (h : ¬ (-64 ≤ n ∧ n ≤ 63)) : slebL n = ((n % 128).toNat + 128) :: slebL (n / 128) := by rw [slebL, dif_neg h]
theorem and_i64 {n : Int} (h : -9223372036854775808 ≤ n ∧ n ≤ 9223372036854775807) : bits .and .i64 n 127 = n % 128 := by
  have e : bits .and .i64 n 127 = IntKind.i64.wrap ((BitVec.ofInt 64 n &&& BitVec.ofInt 64 127).toNat : Int) := rfl
  have h1 : (BitVec.ofInt 64 n).toNat = (n % 18446744073709551616).toNat := by rw [BitVec.toNat_ofInt]; rfl
  have h2 : (BitVec.ofInt 64 127).toNat = 2 ^ 7 - 1 := by decide
  rw [e, BitVec.toNat_and, h1, h2, Nat.and_two_pow_sub_one_eq_mod, wrap_in (by omega) (by omega)]
  omega
theorem or_u8 {x : Int} (h : 0 ≤ x ∧ x < 128) : bits .or .u8 x 128 = x + 128 := by
  have e : bits .or .u8 x 128 = IntKind.u8.wrap ((BitVec.ofInt 8 x ||| BitVec.ofInt 8 128).toNat : Int) := rfl
  have h1 : (BitVec.ofInt 8 x).toNat = x.toNat := by rw [BitVec.toNat_ofInt]; omega
  have h2 : (BitVec.ofInt 8 128).toNat = 1 * 2 ^ 7 := by decide
  rw [e, BitVec.toNat_or, h1, h2, or_add (by omega), IntKind.wrap_u8]
  omega
end Go.Proofs.YtoccjfeaaaaegaaGreat
