/-
  Table: what the laws' functions for it do. Printed by fam.py.
-/
import Derived.Test.YtfjciadhanfhpaaVU
import Derived.Test.YtfjciadhanfhpaaVTBase
import Derived.Test.YtfjciadhanfhpaaVTEntry
namespace Go.Proofs.Ytfjciadhanfhpaa
open Go Go.RowKit
set_option linter.unusedVariables false
set_option linter.unusedSimpArgs false

structure Table where
  next : Int
  entries : List Entry
  deriving DecidableEq, Inhabited
def Table.cs (a : Table) : List AV := [.i .i64 a.next, slL 7 Entry.cs a.entries]
theorem Table.low (a : Table) : a.cs.all (low1 0) = true := rfl
theorem Table.eta {a b : Table} (h0 : a.next = b.next) (h1 : a.entries = b.entries) : a = b := by cases a; cases b; simp_all
theorem Table.etaC {a b : Table} (h : a.next = b.next ∧ a.entries = b.entries) : a = b := by cases a; cases b; simp_all
def Table.ok (a : Table) : Prop := (okL Entry.ok) a.entries

set_option maxRecDepth 8000 in
theorem toTable_ok (a : Table) (h : Table.ok a) : Ret env.P 61 [.agg a.cs] (fun r => r = .agg a.cs) := by
  refine ret_of (nt := 12) (rvs := [.cell 2 52]) Try.func61 rfl rfl rfl rfl (fun X => ?_)
  repeat' (first | exact aa | ((conv => whnf) <;> (first | refine And.intro ?_ ?_ | (intro _h; first | contradiction | (try simp only [dd] at _h)) | (refine dt_go ?_) | exact rfl | exact True.intro | exact dkk | exact dks | ((first | refine .inl ⟨_, toEntryS_ok _ h, ?_⟩ | refine ⟨_, toEntryS_ok _ h, ?_⟩); (try rintro _ rfl)) | (refine wrap_succ ?_; omega))))

set_option maxRecDepth 8000 in
theorem eqTable_ok (a b : Table) (h : Table.ok a) : Ret env.P 49 [.agg a.cs, .agg b.cs] (fun r => r = .b (decide (a = b))) := by
  obtain ⟨a0, a1⟩ := a
  obtain ⟨b0, b1⟩ := b
  refine ret_of (nt := 16) (rvs := [.tmp 4]) Try.func49 rfl rfl rfl rfl (fun X => ?_)
  repeat' (first | exact aa | ((conv => whnf) <;> (first | refine And.intro ?_ ?_ | (intro _h; first | contradiction | (try simp only [dd] at _h)) | (refine dt_go ?_) | exact rfl | exact True.intro | exact dkk | exact dks | ((first | refine .inl ⟨_, eqEntryS_ok _ _ h, ?_⟩ | refine ⟨_, eqEntryS_ok _ _ h, ?_⟩); (try rintro _ rfl)) | (refine wrap_succ ?_; omega))))
  all_goals (clear h; refine leaf_b ?_; simp_all)

def Table.sz (a : Table) (left : Int) : Int :=
  if (szFl a.entries left) < 0 then -1 else (szFl a.entries left)
theorem Table.sz_le (a : Table) (left : Int) (h1 : left ≤ 1048576) : Table.sz a left ≤ 1048576 := by
  have b1 : (szFl a.entries left) ≤ 1048576 := szN_le h1
  unfold Table.sz
  repeat' split
  all_goals omega
theorem Table.sz_ok (a : Table) (left : Int) (h0 : 0 ≤ left) (h1 : left ≤ 1048576) (hn : ¬ Table.sz a left < 0) : Table.ok a := by
  have b1 : (szFl a.entries left) ≤ 1048576 := szN_le h1
  unfold Table.sz at hn
  by_cases c1 : (szFl a.entries left) < 0
  · rw [if_pos c1] at hn; omega
  rw [if_neg c1] at hn
  exact szFl_ok (fun _ => trivial) h0 h1 c1

set_option maxRecDepth 8000 in
theorem szTable_ok (a : Table) (left : Int) (h0 : 0 ≤ left) (h1 : left ≤ 1048576) : Ret env.P 54 [.agg a.cs, .i .i64 left] (fun r => r = .i .i64 (Table.sz a left)) := by
  have b1 : (szFl a.entries left) ≤ 1048576 := szN_le h1
  refine ret_of (nt := 12) (rvs := [.tmp 4]) Try.func54 rfl rfl rfl rfl (fun X => ?_)
  repeat' (first | exact aa | ((conv => whnf) <;> (first | refine And.intro ?_ ?_ | (intro _h; first | contradiction | (try simp only [dd] at _h)) | (refine dt_go ?_) | exact rfl | exact True.intro | exact dkk | exact dks | ((first | refine .inl ⟨_, szEntryS_ok _ _ (by omega) (by omega), ?_⟩ | refine ⟨_, szEntryS_ok _ _ (by omega) (by omega), ?_⟩); (try rintro _ rfl)) | (refine wrap_succ ?_; omega))))
  all_goals (refine leaf_i ?_; simp_all [Table.sz]; try (intros; omega))

set_option maxRecDepth 8000 in
theorem toTableS_ok (l : List Table) (h : okL Table.ok l) : Ret env.P 42 [slL 2 Table.cs l] (fun r => r = slL 2 Table.cs l) := by
  have hl := h.1
  refine Ret.to ?_
  refine ret_of (nt := 23) (rvs := [.tmp 2]) Try.func42 rfl rfl rfl rfl (fun X => ?_)
  conv => whnf
  refine ⟨⟨by omega, by omega, by dsimp only; omega, by omega⟩, ?_⟩
  conv => whnf
  refine loopN l.length (fun k => [(4, .i .i64 k)]) (fun k => [some (.arr ⟨2, l.length, fillE k (elE Table.cs l) (fun _ j => [AV.i .i64 0, AV.nils].getD j .any), .arr⟩)]) (fun k => True) ⟨trivial, ?_⟩
  repeat' (first | exact aa | ((conv => whnf) <;> (first | exact arr_start rfl (fun _ _ => low_cells (Table.low _)) (fun _ _ => low_cells rfl) | exact arr_round rfl rfl (fun _ _ => rfl) (fun _ _ => low_cells (Table.low _)) (fun _ _ => low_cells rfl) | refine And.intro ?_ ?_ | (intro _h; first | contradiction | (try simp only [dd] at _h)) | (refine dt_go ?_) | exact rfl | exact True.intro | exact dkk | exact dks | ((first | refine .inl ⟨_, toTable_ok _ (h.2 _ (by omega)), ?_⟩ | refine ⟨_, toTable_ok _ (h.2 _ (by omega)), ?_⟩); (try rintro _ rfl)) | (refine wrap_succ ?_; omega))))
  exact wk_fill rfl (by omega) rfl (fun _ => rfl)

set_option maxRecDepth 8000 in
theorem eqTableS_ok (l m : List Table) (h : okL Table.ok l) : Ret env.P 24 [slL 2 Table.cs l, slL 2 Table.cs m] (fun r => r = .b (decide (l = m))) := by
  have hl := h.1
  refine ret_of (nt := 27) (rvs := [.tmp 4]) Try.func24 rfl rfl rfl rfl (fun X => ?_)
  repeat' (first | exact aa | ((conv => whnf) <;> (first | exact upto_succ (by assumption) (by assumption) | refine loopN l.length (fun k => [(5, .i .i64 k)]) (fun k => []) (fun k => ∀ j, j < k → l.getD j default = m.getD j default) ⟨fun _ h => by omega, ?_⟩ | refine And.intro ?_ ?_ | (intro _h; first | contradiction | (try simp only [dd] at _h)) | (refine dt_go ?_) | exact rfl | exact True.intro | exact dkk | exact dks | ((first | refine .inl ⟨_, eqTable_ok _ _ (h.2 _ (by omega)), ?_⟩ | refine ⟨_, eqTable_ok _ _ (h.2 _ (by omega)), ?_⟩); (try rintro _ rfl)) | (refine wrap_succ ?_; omega))))
  · exact leaf_ne (by rintro rfl; omega)
  · exact leaf_ne (by rintro rfl; contradiction)
  · exact leaf_eq (list_eq (by omega) fun j hj => by have := ‹∀ j, j < _ → l.getD j default = m.getD j default›; exact this j (by omega))

set_option maxRecDepth 8000 in
theorem szTableS_ok (l : List Table) (left : Int) (h0 : 0 ≤ left) (h1 : left ≤ 1048576) : Ret env.P 37 [slL 2 Table.cs l, .i .i64 left] (fun r => r = .i .i64 (szLs Table.sz l left)) := by
  refine Ret.args fun hw => ?_
  have hl := wfs_sl (hw _ (List.mem_cons_self))
  have e : IntKind.i64.wrap (left - (l.length : Int)) = left - (l.length : Int) := wrap_in (by omega) (by omega)
  refine ret_of (nt := 27) (rvs := [.tmp 4]) Try.func37 rfl rfl rfl rfl (fun X => ?_)
  conv => whnf
  rw [e]
  refine ⟨fun _h => ?_, fun _h => ?_⟩
  · exact leaf_i (szLs_neg (of_decide_eq_true _h))
  have _h : ¬ (left - (l.length : Int) < 0) := fun hc => _h (decide_eq_true hc)
  conv => whnf
  refine loopN l.length (fun k => [(5, .i .i64 k), (1, .i .i64 (szAt Table.sz l (left - l.length) k))]) (fun k => []) (fun k => SzI Table.sz l (left - l.length) k) ⟨.start (by omega) (by omega), ?_⟩
  repeat' (first | exact aa | ((conv => whnf) <;> (first | exact SzI.step (fun a v h => Table.sz_le a v h) (by assumption) (by assumption) (by assumption) | refine And.intro ?_ ?_ | (intro _h; first | contradiction | (try simp only [dd] at _h)) | (refine dt_go ?_) | exact rfl | exact True.intro | exact dkk | exact dks | ((first | refine .inl ⟨_, szTable_ok _ _ (SzI.lo ‹_›) (SzI.hi ‹_›), ?_⟩ | refine ⟨_, szTable_ok _ _ (SzI.lo ‹_›) (SzI.hi ‹_›), ?_⟩); (try rintro _ rfl)) | (refine wrap_succ ?_; omega))))
  all_goals first | exact leaf_i (SzI.neg ‹SzI _ _ _ _› (by assumption) (by assumption) (by assumption)) | exact leaf_i (SzI.fin ‹SzI _ _ _ _› (by assumption) (by assumption))

end Go.Proofs.Ytfjciadhanfhpaa
