/- Texts for VHandlesOneP. -/
import Derived.Test.YtmglpojnoadgeaaGreatVo17
namespace Go.Proofs.YtmglpojnoadgeaaGreat
open Go Go.RowKit
set_option linter.unusedVariables false
set_option linter.unusedSimpArgs false
set_option maxHeartbeats 2000000 in
set_option maxRecDepth 8000 in
theorem sameShelf_spec (a b : Shelf) (h : a.ok) : Ret env.P 9 [.agg a.cs, .agg b.cs] (fun r => r = .b (decide (a = b))) := by
 obtain ⟨a0, a1, a2⟩ := a
 obtain ⟨b0, b1, b2⟩ := b
 have h1 : okL Table.ok a1 := h.1
 have h2 : okL Thing.ok a2 := h.2
 have hl1 := h1.1
 have hl2 := h2.1
 refine ret_of (nt := 100) (rvs := [.tmp 4]) Tryz.func9 rfl rfl rfl rfl (fun X => ?_)
 repeat' (first | exact aa | ((conv => whnf) <;> (first | refine loopAt 5 a2.length (fun k => [(5, .i .i64 k)]) (fun k => []) (fun k => ∀ j, j < k → a2.getD j default = b2.getD j default) rfl ⟨fun _ h => by omega, ?_⟩ | refine loopAt 6 a1.length (fun k => [(6, .i .i64 k)]) (fun k => []) (fun k => ∀ j, j < k → a1.getD j default = b1.getD j default) rfl ⟨fun _ h => by omega, ?_⟩ | (rename_i i _ _ _ _; have he : (a1.getD (i : Int).toNat default).entries.length ≤ 1048576 := (h1.2 (i : Int).toNat (by omega)).1; refine loopAt 9 (a1.getD (i : Int).toNat default).entries.length (fun k => [(9, .i .i64 k)]) (fun k => []) (fun k => ∀ j, j < k → (a1.getD (i : Int).toNat default).entries.getD j default = (b1.getD (i : Int).toNat default).entries.getD j default) rfl ⟨fun _ h => by omega, ?_⟩) | exact upto_succ (by assumption) (Thing.etaC (by simpa using _h)) | exact upto_succ (by assumption) (Entry.etaC (by simpa using _h)) | exact upto_succ (by assumption) (Table.eta (a := a1.getD (i : Int).toNat default) (b := b1.getD (i : Int).toNat default) (by assumption) (list_eq (by omega) (fun j hj => ‹∀ j, j < _ → (Table.entries _).getD j default = (Table.entries _).getD j default› j (by omega)))) | refine And.intro ?_ ?_ | (intro _h; first | contradiction | (try simp only [dd] at _h)) | (refine dt_go ?_) | exact rfl | exact True.intro | exact dkk | exact dks | (refine wrap_succ ?_; omega))))
 all_goals first
  | exact leaf_ne (by intro e; injection e; subst_vars; first | omega | contradiction | (simp at _h; done))
  | exact leaf_eq (Shelf.eta (a := ⟨a0, a1, a2⟩) (b := ⟨b0, b1, b2⟩) (by assumption) (list_eq (l := a1) (m := b1) (by omega) fun j hj => (‹∀ j, j < _ → a1.getD j default = b1.getD j default› : ∀ j, j < _ → a1.getD j default = b1.getD j default) j (by omega)) (list_eq (l := a2) (m := b2) (by omega) fun j hj => (‹∀ j, j < _ → a2.getD j default = b2.getD j default› : ∀ j, j < _ → a2.getD j default = b2.getD j default) j (by omega)))
instance : HoldC ShelfAct.cs := holdC_plain fun _ => rfl
instance : FreeC ShelfAct.cs := freeC_plain fun _ => rfl
instance : Shr 0 ShelfAct.cs ShelfAct.cs := shr_plain fun _ => rfl
end Go.Proofs.YtmglpojnoadgeaaGreat
