/- Texts for VHandlesOneP. -/
import Derived.Test.YtmglpojnoadgeaaGreatVo18
namespace Go.Proofs.YtmglpojnoadgeaaGreat
open Go Go.RowKit
set_option linter.unusedVariables false
set_option linter.unusedSimpArgs false
set_option maxRecDepth 8000
theorem bif_t {p : Prop} {α : Type} {a b : α} (h : p) : (bif pb p then a else b) = a := by rw [pb_t.mpr h]; rfl
theorem bif_f {p : Prop} {α : Type} {a b : α} (h : ¬ p) : (bif pb p then a else b) = b := by rw [pb_f.mpr h]; rfl
theorem isId_ok (n : Int) : Ret env.P 58 [.i .i64 n] (fun r => r = .b (decide (1 ≤ n ∧ n ≤ 1000000))) := by
 refine ret_of (nt := 5) (rvs := [.tmp 2]) Tryz.func58 rfl rfl rfl rfl (fun X => ?_)
 repeat' (first | exact aa | ((conv => whnf) <;> (first | refine And.intro ?_ ?_ | (intro _h; first | contradiction | (try simp only [dd] at _h)) | (refine dt_go ?_) | exact rfl | exact True.intro | exact dkk | exact dks | ((first | refine .inl ⟨_, within_ok _ _ _, ?_⟩ | refine ⟨_, within_ok _ _ _, ?_⟩); (try rintro _ rfl)) | (refine wrap_succ ?_; omega))))
 all_goals exact rfl
theorem isRes_ok (n : Int) : Ret env.P 57 [.i .i64 n] (fun r => r = .b (decide (1 ≤ n ∧ n ≤ 8))) := by
 refine ret_of (nt := 5) (rvs := [.tmp 2]) Tryz.func57 rfl rfl rfl rfl (fun X => ?_)
 repeat' (first | exact aa | ((conv => whnf) <;> (first | refine And.intro ?_ ?_ | (intro _h; first | contradiction | (try simp only [dd] at _h)) | (refine dt_go ?_) | exact rfl | exact True.intro | exact dkk | exact dks | ((first | refine .inl ⟨_, within_ok _ _ _, ?_⟩ | refine ⟨_, within_ok _ _ _, ?_⟩); (try rintro _ rfl)) | (refine wrap_succ ?_; omega))))
 all_goals exact rfl
theorem shelfArgs_ok (s : Shelf) (h : s.ok) (who num : Int) : Ret env.P 35 [.agg s.cs, .i .i64 who, .i .i64 num] (fun r => r = .b (pb (s.args who num))) := by
 refine ret_of (nt := 20) (rvs := [.tmp 6]) Tryz.func35 rfl rfl rfl rfl (fun X => ?_)
 repeat' (first | exact aa | ((conv => whnf) <;> (first | refine And.intro ?_ ?_ | (intro _h; first | contradiction | (try simp only [dd] at _h)) | (refine dt_go ?_) | exact rfl | exact True.intro | exact dkk | exact dks | ((first | refine .inl ⟨_, shelfOk_ok s h, ?_⟩ | refine ⟨_, shelfOk_ok s h, ?_⟩); (try rintro _ rfl)) | ((first | refine .inl ⟨_, Ret.wke (isTable_ok s h _), ?_⟩ | refine ⟨_, Ret.wke (isTable_ok s h _), ?_⟩); (try rintro _ rfl)) | ((first | refine .inl ⟨_, isId_ok _, ?_⟩ | refine ⟨_, isId_ok _, ?_⟩); (try rintro _ rfl)) | (refine wrap_succ ?_; omega))))
 all_goals (first | refine leaf_f ?_ | refine leaf_t ?_ | refine leaf_p ?_ | (conv => whnf) | skip)
 ·rw [decide_eq_true_eq]
  exact ⟨fun q => ⟨by assumption, by assumption, q⟩, fun q => q.2.2⟩
 ·exact fun q => ‹¬ (0 ≤ who ∧ who < (s.tables.length : Int))› q.2.1
 ·exact fun q => ‹¬ s.good› q.1
theorem entryM_ok (s : Shelf) (h : s.ok) (who num : Int) : RetM env.P 36 [some (boxRow s.cs)] [.ptr 0 0 0, .i .i64 who, .i .i64 num] (fun r H => r = entP (s.at_ who num) ∧ H = [some (boxRow s.cs)]) := by
 have hl : s.tables.length ≤ 1048576 := h.1.1
 refine ret_ofM (nt := 45) (rvs := [.tmp 6]) Tryz.func36 rfl rfl rfl rfl (fun X hX => ?_)
 repeat' (first | exact aa | ((conv => whnf) <;> (first | (have he : (s.tables.getD who.toNat default).entries.length ≤ 1048576 := (h.1.2 who.toNat (by omega)).1; refine loopN (s.tables.getD who.toNat default).entries.length (fun k => [(23, .i .i64 k)]) (fun k => []) (fun k => ∀ j, j < k → ¬ ((s.tables.getD who.toNat default).entries.getD j default).num = num) ⟨fun _ h => by omega, ?_⟩) | exact upto_succ (by assumption) (by assumption) | refine And.intro ?_ ?_ | (intro _h; first | contradiction | (try simp only [dd] at _h)) | (refine dt_go ?_) | exact rfl | exact True.intro | exact dkk | exact dks | ((first | refine .inl ⟨_, Ret.wke (isTable_ok s h _), ?_⟩ | refine ⟨_, Ret.wke (isTable_ok s h _), ?_⟩); (try rintro _ rfl)) | (refine wrap_succ ?_; omega))))
 all_goals refine endM_self ⟨?_, rfl⟩
 ·rw [at_out (by assumption)]; rfl
 ·rename_i k _ hI _
  rw [at_some (k := k) (by assumption) (by omega) _h hI]; rfl
 ·rw [at_none (by assumption) (fun j hj => by have := ‹∀ j, j < _ → ¬ (Entry.num _) = num›; exact this j (by omega))]; rfl
noncomputable def Shelf.entQ (s : Shelf) (who num : Int) : Option Entry := bif pb s.good then s.at_ who num else none
theorem entQ_out {s : Shelf} {who num : Int} (h : ¬ s.args who num) : s.entQ who num = none := by
 unfold Shelf.entQ
 by_cases hg : s.good
 ·rw [bif_t hg]
  cases hE : s.at_ who num with
  | none => rfl
  | some x => exact absurd ⟨hg, at_num hg hE⟩ h
 ·rw [bif_f hg]
theorem entQ_in {s : Shelf} {who num : Int} (h : s.args who num) : s.entQ who num = s.at_ who num := bif_t h.1
theorem entryAt_impl (s : Shelf) (h : s.ok) (who num : Int) : Ret env.P 11 [.agg s.cs, .i .i64 who, .i .i64 num] (fun r => r = entR (s.entQ who num)) := by
 refine ret_of (nt := 27) (rvs := [.cell 6 39, .tmp 7]) Tryz.func11 rfl rfl rfl rfl (fun X => ?_)
 repeat' (first | exact aa | ((conv => whnf) <;> (first | (refine .inr (.inl (.inl ⟨[2], [some (boxRow s.cs)], [.ptr 0 0 0, .i .i64 who, .i .i64 num], _, entryM_ok s h who num, view1' rfl (rowPl_box rfl), ⟨rfl, rfl⟩, ?_⟩)); rintro _ _ ⟨rfl, rfl⟩; cases hE : s.at_ who num <;> refine ⟨rfl, _, lok_1 (rowPl_box rfl), ?_⟩) | refine And.intro ?_ ?_ | (intro _h; first | contradiction | (try simp only [dd] at _h)) | (refine dt_go ?_) | exact rfl | exact True.intro | exact dkk | exact dks | ((first | refine .inl ⟨_, shelfArgs_ok s h _ _, ?_⟩ | refine ⟨_, shelfArgs_ok s h _ _, ?_⟩); (try rintro _ rfl)) | (refine wrap_succ ?_; omega))))
 all_goals first
  | (rw [entQ_out ‹_›]; rfl)
  | (rw [entQ_in (Classical.not_not.1 ‹_›), hE]; rfl)
theorem ownerOf_ok (s : Shelf) (h : s.ok) (id : Int) : Ret env.P 34 [rfL s.cs, .i .i64 id] (fun r => r = ownR (s.ownV id)) := by
 have hl : s.tables.length ≤ 1048576 := h.1.1
 refine ret_of (nt := 42) (rvs := [.tmp 4, .tmp 5, .tmp 6]) Tryz.func34 rfl rfl rfl rfl (fun X => ?_)
 repeat' (first | exact aa | ((conv => whnf) <;> (first | refine loopAt 17 s.tables.length (fun i => [(17, .i .i64 i)]) (fun i => []) (fun i => s.UpW id i 0) rfl ⟨s.upW_zero id, ?_⟩ | (rename_i i _ _; have he : (s.tables.getD (i : Int).toNat default).entries.length ≤ 1048576 := (h.1.2 i (by omega)).1; refine loopAt 25 (s.tables.getD (i : Int).toNat default).entries.length (fun k => [(25, .i .i64 k)]) (fun k => []) (fun k => s.UpW id i k) rfl ⟨by assumption, ?_⟩) | refine And.intro ?_ ?_ | (intro _h; first | contradiction | (try simp only [dd] at _h)) | (refine dt_go ?_) | exact rfl | exact True.intro | exact dkk | exact dks | (refine wrap_succ ?_; omega))))
 all_goals (try simp only [Int.toNat_natCast] at *)
 all_goals first
  | exact Shelf.upW_next ‹s.UpW id _ _› (by omega)
  | (refine Shelf.upW_succ ‹s.UpW id _ _› ?_; simp_all; done)
  | (rw [ownV_none ‹_› ‹_›]; rfl)
  | (rw [ownV_some ‹s.UpW id _ _› ‹_› ‹_› ‹_› ‹_›]; rfl)
  | trace_state
theorem ownerOf_impl (s : Shelf) (h : s.ok) (id : Int) : Ret env.P 10 [.agg s.cs, .i .i64 id] (fun r => r = ownR (bif pb s.good then s.ownV id else (0, 0, false))) := by
 refine ret_of (nt := 18) (rvs := [.tmp 4, .tmp 5, .tmp 6]) Tryz.func10 rfl rfl rfl rfl (fun X => ?_)
 repeat' (first | exact aa | ((conv => whnf) <;> (first | refine And.intro ?_ ?_ | (intro _h; first | contradiction | (try simp only [dd] at _h)) | (refine dt_go ?_) | exact rfl | exact True.intro | exact dkk | exact dks | ((first | refine .inl ⟨_, shelfOk_ok s h, ?_⟩ | refine ⟨_, shelfOk_ok s h, ?_⟩); (try rintro _ rfl)) | ((first | refine .inl ⟨_, Ret.wke (ownerOf_ok s h _), ?_⟩ | refine ⟨_, Ret.wke (ownerOf_ok s h _), ?_⟩); (try rintro _ rfl)) | (refine wrap_succ ?_; omega))))
 all_goals first
  | (rw [bif_f ‹_›]; rfl)
  | (rw [bif_t (Classical.not_not.1 ‹_›)]; rfl)
set_option maxRecDepth 8000
theorem l19Used_ok (b : Bool) (n h : Int) : Ret env.P 70 [.b b, .i .i64 n, .i .i64 h] (fun r => r = .b (decide ((b = true ∧ 1 ≤ n ∧ n ≤ h) ∨ (b = false ∧ n = 0)))) := by
 refine ret_of (nt := 13) (rvs := [.tmp 6]) Tryz.func70 rfl rfl rfl rfl (fun X => ?_)
 repeat' (first | exact aa | ((conv => whnf) <;> (first | refine And.intro ?_ ?_ | (intro _h; first | contradiction | (try simp only [dd] at _h)) | (refine dt_go ?_) | exact rfl | exact True.intro | exact dkk | exact dks | ((first | refine .inl ⟨_, l00In_ok _ _ _, ?_⟩ | refine ⟨_, l00In_ok _ _ _, ?_⟩); (try rintro _ rfl)) | (refine wrap_succ ?_; omega))))
 all_goals (refine leaf_b ?_; simp_all)
def ShelfAct.fine (a : ShelfAct) : Bool :=
 decide ((0 ≤ a.who ∧ a.who ≤ 6) ∧ (0 ≤ a.to ∧ a.to ≤ 6) ∧
 (if a.kind = 1 then (1 ≤ a.res ∧ a.res ≤ 8) ∧ (a.num = 0 ∧ a.to = 0 ∧ a.scope = 0)
   else if a.kind = 2 then (1 ≤ a.num ∧ a.num ≤ 1000000) ∧ (1 ≤ a.res ∧ a.res ≤ 8) ∧ a.scope = 0
   else if a.kind = 3 then (1 ≤ a.num ∧ a.num ≤ 1000000) ∧ (1 ≤ a.res ∧ a.res ≤ 8) ∧ (1 ≤ a.scope ∧ a.scope ≤ 1000000)
   else if a.kind = 4 then (1 ≤ a.num ∧ a.num ≤ 1000000) ∧ (a.res = 0 ∧ a.to = 0 ∧ a.scope = 0)
   else if a.kind = 5 then (1 ≤ a.scope ∧ a.scope ≤ 1000000) ∧ (a.who = 0 ∧ a.num = 0 ∧ a.res = 0 ∧ a.to = 0)
   else if a.kind = 6 then a.num = 0 ∧ a.res = 0 ∧ a.to = 0 ∧ a.scope = 0
   else False))
set_option maxHeartbeats 2000000 in
theorem shelfActOk_spec (a : ShelfAct) : Ret env.P 31 [.agg a.cs] (fun r => r = .b a.fine) := by
 obtain ⟨k, w, n, r, t, s⟩ := a
 refine ret_of (nt := 78) (rvs := [.tmp 2]) Tryz.func31 rfl rfl rfl rfl (fun X => ?_)
 repeat' (first | exact aa | ((conv => whnf) <;> (first | refine And.intro ?_ ?_ | (intro _h; first | contradiction | (try simp only [dd] at _h)) | (refine dt_go ?_) | exact rfl | exact True.intro | exact dkk | exact dks | ((first | refine .inl ⟨_, l00In_ok _ _ _, ?_⟩ | refine ⟨_, l00In_ok _ _ _, ?_⟩); (try rintro _ rfl)) | ((first | refine .inl ⟨_, l19Used_ok _ _ _, ?_⟩ | refine ⟨_, l19Used_ok _ _ _, ?_⟩); (try rintro _ rfl)) | (refine wrap_succ ?_; omega))))
 all_goals refine leaf_b ?_
 all_goals (rw [Bool.eq_iff_iff]; simp_all [ShelfAct.fine]; try (first | omega | (repeat' split) <;> omega))
set_option maxHeartbeats 2000000 in
theorem shelfActOk_impl (a : ShelfAct) : Ret env.P 27 [.agg a.cs] (fun r => r = .b a.fine) := by
 obtain ⟨k, w, n, r, t, s⟩ := a
 refine ret_of (nt := 106) (rvs := [.tmp 2]) Tryz.func27 rfl rfl rfl rfl (fun X => ?_)
 repeat' (first | exact aa | ((conv => whnf) <;> (first | refine And.intro ?_ ?_ | (intro _h; first | contradiction | (try simp only [dd] at _h)) | (refine dt_go ?_) | exact rfl | exact True.intro | exact dkk | exact dks | ((first | refine .inl ⟨_, within_ok _ _ _, ?_⟩ | refine ⟨_, within_ok _ _ _, ?_⟩); (try rintro _ rfl)) | ((first | refine .inl ⟨_, isRes_ok _, ?_⟩ | refine ⟨_, isRes_ok _, ?_⟩); (try rintro _ rfl)) | ((first | refine .inl ⟨_, isId_ok _, ?_⟩ | refine ⟨_, isId_ok _, ?_⟩); (try rintro _ rfl)) | (refine wrap_succ ?_; omega))))
 all_goals refine leaf_b ?_
 all_goals (rw [Bool.eq_iff_iff]; simp_all [ShelfAct.fine]; try (first | omega | (repeat' split) <;> omega))
instance : HoldC Entry.cs := holdC_plain fun _ => rfl
instance : FreeC Entry.cs := freeC_plain fun _ => rfl
instance : Shr 0 Entry.cs Entry.cs := shr_plain fun _ => rfl
def Table.csO (a : Table) : List AV := [.i .i64 a.next, owL 7 Entry.cs a.entries]
instance : HoldC Table.csO := ⟨fun a => (idf_cons trivial (idf_cons owL_idf idf_nil))⟩
instance : FreeC Table.csO := ⟨fun a => (free_cons trivial (free_cons owL_free free_nil))⟩
instance : Shr 1 Table.csO Table.cs := ⟨fun H k a => (.cons (.refl _) (.cons (shr_ow (d := 0) (k := k + 0)) .nil))⟩
def Table.resO (a : Table) : List AV := [.i .i64 a.next, .row 0 a.entries.length]
def Table.rowsO (a : Table) : Hp := [some (rowL 7 Entry.cs a.entries)]
instance : HoldC Thing.cs := holdC_plain fun _ => rfl
instance : FreeC Thing.cs := freeC_plain fun _ => rfl
instance : Shr 0 Thing.cs Thing.cs := shr_plain fun _ => rfl
def Shelf.csO (a : Shelf) : List AV := [.i .i64 a.next, owL 2 Table.csO a.tables, owL 3 Thing.cs a.things]
instance : HoldC Shelf.csO := ⟨fun a => (idf_cons trivial (idf_cons owL_idf (idf_cons owL_idf idf_nil)))⟩
instance : FreeC Shelf.csO := ⟨fun a => (free_cons trivial (free_cons owL_free (free_cons owL_free free_nil)))⟩
instance : Shr 2 Shelf.csO Shelf.cs := ⟨fun H k a => (.cons (.refl _) (.cons (shr_ow (d := 1) (k := k + 0)) (.cons (shr_ow (d := 0) (k := k + 1)) .nil)))⟩
def Shelf.resO (a : Shelf) : List AV := [.i .i64 a.next, .row 0 a.tables.length, .row 1 a.things.length]
def Shelf.rowsO (a : Shelf) : Hp := [some (rowL 2 Table.csO a.tables), some (rowL 3 Thing.cs a.things)]
section
variable {E : Env} {P : Program} {nt : Nat} {X : Ctx} {f : Fr} {H H' : Hp} {a : Act} {w : World} {blk : Nat → BC} {FP : Nat → List Nat}
theorem StB.thin (hk : ∀ k : Nat, H'[k]? = H[k]? ∨ H'[k]? = some none) (s : StB nt X f H blk FP a w) : StB nt X f H' blk FP a w := by
 have hget : ∀ (k : Nat) (r : Row), H'[k]? = some (some r) → H[k]? = some (some r) := fun k r h => by
  rcases hk k with q | q
  ·rw [← q]; exact h
  ·rw [q] at h; cases h
 have hkeep : ∀ b, X.S FP H w.heap.size b → X.S FP H' w.heap.size b ∧ w.heap[b]? = w.heap[b]? := fun b hb => ⟨⟨hb.1, hb.2.1, fun k r h => hb.2.2 k r (hget k r h)⟩, rfl⟩
 have hext : HExt H blk H' blk := fun k x hx => by
  rcases hk k with q | q
  ·cases x with
   | none => exact .inl (q.trans hx)
   | some r => exact .inr ⟨r, r, rfl, q.trans hx, rfl, rfl, rfl⟩
  ·exact .inl q
 exact ⟨s.defers, s.size, s.keeps, fun k r h => ⟨(s.rows k r (hget k r h)).1.mono hkeep hext fun _ _ => rfl, (s.rows k r (hget k r h)).2⟩, fun i j r r' hi hj => s.apart i j r r' (hget i r hi) (hget j r' hj), fun t => (s.fr t).mono hkeep hext, s.ext.trans hext⟩
def frP (f : Fr) : Fr → Prop
 | [] => True
 | (t, v) :: g => lk f t = v ∧ frP f g
theorem frP_lk : ∀ {g : Fr}, frP f g → ∀ t, lk g t = .any ∨ lk g t = lk f t
 | [], _, t => .inl rfl
 | (d, v) :: g, h, t => by
  rw [lk_cons]
  split
  ·rename_i e; subst e; exact .inr h.1.symm
  ·exact frP_lk h.2 t
def hpK : Hp → Hp → Prop
 | [], [] => True
 | x :: H, y :: H' => (y = x ∨ y = none) ∧ hpK H H'
 | [], y :: H' => y = none ∧ hpK [] H'
 | _ :: _, [] => False
theorem hpK_at : ∀ {H H' : Hp}, hpK H H' → ∀ k : Nat, H'[k]? = H[k]? ∨ H'[k]? = some none
 | [], [], _, k => .inl rfl
 | x :: H, y :: H', h, 0 => by
  rcases h.1 with rfl | rfl
  ·exact .inl rfl
  ·exact .inr rfl
 | x :: H, y :: H', h, k + 1 => by simpa using hpK_at h.2 k
 | [], y :: H', h, 0 => by obtain ⟨rfl, _⟩ := h; exact .inr rfl
 | [], y :: H', h, k + 1 => by simpa using hpK_at h.2 k
 | _ :: _, [], h, _ => h.elim
structure Cut (nt : Nat) (X : Ctx) {α : Type} (I : α → Prop) (g : α → Fr) (hp : α → Hp) (f : Fr) (H : Hp) : Prop where
 h : ∃ y, I y ∧ ∀ a w, St nt X f H a w → St nt X (g y) (hp y) a w
theorem cut_go {α : Type} {I : α → Prop} {g : α → Fr} {hp : α → Hp} (y : α) (hI : I y) (hg : frP f (g y)) (hH : hpK H (hp y)) : Cut nt X I g hp f H :=
 ⟨y, hI, fun a w ⟨blk, FP, s⟩ => ⟨blk, FP, (s.refr (g := g y) fun t hc => by
  rcases frP_lk hg t with q | q
  ·rw [q]; exact .any _
  ·rw [q]; exact hc).thin (hpK_at hH)⟩⟩
theorem cut_turn {α : Type} {I : α → Prop} {g : α → Fr} {hp : α → Hp} (t : Turn X H H') (h : Cut nt X I g hp f H') : Cut nt X I g hp f H := by
 obtain ⟨y, hI, hs⟩ := h
 exact ⟨y, hI, fun a w s => hs a w (s.turn t)⟩
def wpcN (E : Env) (nt : Nat) (X : Ctx) : Nat → Code → Fr → Hp → (Fr → Hp → Prop) → (Exit → Fr → Hp → Prop) → Prop
 | 0, _, f, H, J, _ => J f H
 | k + 1, .seq a b, f, H, J, Q => wpc E nt X a f H (thn (fun f H => wpcN E nt X k b f H J Q) Q)
 | _ + 1, _, _, _, _, _ => False
def restC : Nat → Code → Code
 | 0, c => c
 | k + 1, .seq _ b => restC k b
 | _ + 1, c => c
theorem wpcN_ok {J : Fr → Hp → Prop} {Q : Exit → Fr → Hp → Prop} : ∀ (k : Nat) (c : Code) (f : Fr) (H : Hp), wpcN E nt X k c f H J Q → (∀ f H, J f H → PW E.P nt X (restC k c) f H Q) → PW E.P nt X c f H Q
 | 0, c, f, H, h, hJ => hJ f H h
 | k + 1, c, f, H, h, hJ => by
  cases c with
  | seq a b =>
   refine pw_seq fun x w s => wp_mono (wpc_ok a f H _ h x w s) fun e x w ⟨f, H, q, s⟩ => ?_
   refine ⟨f, H, ?_, s⟩
   cases e with
   | normal => exact wpcN_ok k b f H q hJ
   | _ => exact q
  | _ => exact h.elim
theorem pw_cut {c : Code} {Q : Exit → Fr → Hp → Prop} {α : Type} (k : Nat) (I : α → Prop) (gf : α → Fr) (hp : α → Hp)
  (h : wpcN E nt X k c f H (Cut nt X I gf hp) Q) (h2 : ∀ y, I y → PW E.P nt X (restC k c) (gf y) (hp y) Q) : PW E.P nt X c f H Q :=
 wpcN_ok k c _ _ h fun f H ⟨⟨y, hI, hs⟩⟩ a w s => h2 y hI a w (hs a w s)
theorem ret_ofPM {g : FuncId} {fn : Func} {c : Code} {H0 : Hp} {al : List AV} {post : AV → Hp → Prop} {rvs : List ResultVar} (hf : E.P.funcs[g]? = some fn) (hb : fn.body = some c) (hnt : fn.ntmps = nt) (hrv : fn.results.toList = rvs) (hle : Nat.ble al.length nt = true)
  (h : ∀ X : Ctx, X.H0 = H0 → PW E.P nt X c (frm 0 al) H0 (FinM E X rvs post)) : RetM E.P g H0 al post :=
 ret_ofPT hf hb hnt hrv hle (fun _ => Turn.refl) h
end
end Go.Proofs.YtmglpojnoadgeaaGreat
