/-
  Streams of numbers: made, copied, shut.
-/
import Derived.Test.YtjepdbkphfemmaaDoorVFuD
namespace Go.Proofs.YtjepdbkphfemmaaDoor
open Go Go.RowKit
set_option linter.unusedVariables false
set_option linter.unusedSimpArgs false

/-- A row's cells, said otherwise by a law of its own. -/
theorem turn_eqG {X : Ctx} {H : Hp} {id : Nat} {r x : Row} (hr : H[id]? = some (some r)) (h1 : x.sz = r.sz) (h2 : x.cap = r.cap) (hk : x.k.isMp = r.k.isMp) (hkm : r.k.isMp = false) (hes : ∀ i j, i < r.cap → j < r.sz → ∀ (w : World) (S : Nat → Prop) (blk : Nat → BC) (u : Value) (fp : List Nat), Own w S blk (H.set id (some x)) (r.es i j) u fp → Own w S blk (H.set id (some x)) (x.es i j) u fp) : Turn X H (H.set id (some x)) := fun w blk FP hR he => by
  obtain ⟨xsz, xcap, xes, xk⟩ := x
  dsimp only at h1 h2 hk hes
  subst h1 h2
  have hS : ∀ b, X.S FP H w.heap.size b → X.S FP (H.set id (some ⟨r.sz, r.cap, xes, xk⟩)) w.heap.size b := fun b hb => (S_set X FP hr b).2 hb
  have hext := HExt.set (H := H) (r1 := ⟨r.sz, r.cap, xes, xk⟩) blk hr rfl rfl
  refine ⟨blk, FP, ⟨fun k r' hk' => ?_, fun i j r1 r2 hi hj hij => ?_, fun b hb => ⟨hb.2.1, hb.2.2⟩⟩, hext, ?_, hS⟩
  · rcases set_cases hr hk' with ⟨rfl, rfl⟩ | ⟨hne, hk'⟩
    · refine ⟨?_, (hR.rows k r hr).2⟩
      rcases ((hR.rows k r hr).1.mono (fun b hb => ⟨hS b hb, rfl⟩) hext fun _ _ => rfl) with ⟨q1, q2, q3⟩ | ⟨h0, hle, hmp, hb, ty, cur, F, e1, e2, hall, e3, e4, e5⟩
      · refine .inl ⟨q1, q2, .inl ⟨hk.trans hkm, ?_⟩⟩
        rcases q3 with ⟨_, h⟩ | e | ⟨ak, fm, sts, e, _⟩
        · exact h
        · rw [e] at hkm; cases hkm
        · rw [e] at hkm; cases hkm
      · refine .inr ⟨h0, hle, hk.trans hmp, hb, ty, cur, F, e1, e2, hall, fun i j hi hj => ?_, e4, e5⟩
        obtain ⟨u, hu, ho, hc⟩ := e3 i j hi hj
        exact ⟨u, hu, ho, hes i j hi hj _ _ _ _ _ hc⟩
    · obtain ⟨h1, h2⟩ := hR.rows k r' hk'
      exact ⟨h1.mono (fun b hb => ⟨hS b hb, rfl⟩) hext fun _ _ => rfl, h2⟩
  · rcases set_cases hr hi with ⟨hi1, _⟩ | ⟨hne, hi'⟩ <;> rcases set_cases hr hj with ⟨hj1, _⟩ | ⟨hne', hj'⟩
    · omega
    · subst hi1; exact hR.apart i j r r2 hr hj' hij
    · subst hj1; exact hR.apart i j r1 r hi' hr hij
    · exact hR.apart i j r1 r2 hi' hj' hij
  · rintro b ⟨k, r', hk', hb⟩
    rcases set_cases hr hk' with ⟨rfl, rfl⟩ | ⟨hne, hk'⟩
    · exact ⟨k, r, hr, hb⟩
    · exact ⟨k, r', hk', hb⟩

/-- A cell may be said so too. -/
inductive OwTo (H : Hp) : AV → AV → Prop
  | eq {x y : AV} (h : OwEq x y) : OwTo H x y
  | kb (x : Bool) : OwTo H (.kb x) (.b x)
  | rs0 {q o sz : Nat} {g : Nat → Nat → AV} {r : Row} (h : H[q]? = some (some r)) : OwTo H (.rs q o 0) (.sl sz 0 g)
theorem Own.to {w : World} {S : Nat → Prop} {blk : Nat → BC} {H : Hp} {x y : AV} {u : Value} {fp : List Nat} (h : Own w S blk H x u fp) (e : OwTo H x y) : Own w S blk H y u fp := by
  cases e with
  | eq e => exact h.eqv e
  | kb x =>
    cases h with
    | plain h => cases h with
      | kb => exact .plain (.b x)
  | rs0 hq =>
    cases h with
    | plain h =>
      obtain ⟨a, rfl, h1, h2, h3, h4⟩ := inv_rs hq h
      exact .plain (.sl0 a _ (by omega))
inductive OwToL (H : Hp) : List AV → List AV → Prop
  | nil : OwToL H [] []
  | cons {x y : AV} {xs ys : List AV} (h : OwTo H x y) (r : OwToL H xs ys) : OwToL H (x :: xs) (y :: ys)
theorem OwToL.len {H : Hp} {xs ys : List AV} (h : OwToL H xs ys) : xs.length = ys.length := by
  induction h with
  | nil => rfl
  | cons _ _ ih => simp [ih]
theorem OwToL.getD {H : Hp} {xs ys : List AV} (h : OwToL H xs ys) : ∀ j, OwTo H (xs.getD j .any) (ys.getD j .any) := by
  induction h with
  | nil => exact fun j => .eq (.refl _)
  | cons h _ ih => intro j; cases j with
    | zero => exact h
    | succ j => simpa using ih j
theorem turn_boxG {X : Ctx} {H : Hp} {id : Nat} {r : Row} {ds : List AV} (hr : H[id]? = some (some r)) (hk : r.k = .box) (hc : r.cap = 1) (h : OwToL (H.set id (some (boxRow ds))) (cellsAt (r.es 0) 0 r.sz) ds) : Turn X H (H.set id (some (boxRow ds))) :=
  turn_eqG hr (by rw [← cellsAt_length (r.es 0) r.sz 0]; exact h.len.symm) hc.symm (by rw [hk]; rfl) (by rw [hk]; rfl) fun i j hi hj => by
    obtain rfl : i = 0 := by omega
    have := h.getD j
    have e : (cellsAt (r.es 0) 0 r.sz).getD j .any = r.es 0 j := by
      have hl : j < (cellsAt (r.es 0) 0 r.sz).length := by rw [cellsAt_length]; exact hj
      rw [List.getD_eq_getElem?_getD, List.getElem?_eq_getElem hl]
      have := (cellsAt_get (r.es 0) r.sz 0 j _ (List.getElem?_eq_getElem hl)).2
      rw [Nat.zero_add] at this
      exact this
    rw [e] at this
    exact fun w S blk u fp ho => ho.to this
/-- A stream's cells as they are handed back, as they are held; no stream. -/
def fuR (l : List Int) (put got : Int) (shut : Bool) : List AV := [.i .i64 9, .s ByteArray.empty, .nils, .row 0 0, .i .i64 1, .b true, .row 1 l.length, .i .i64 put, .i .i64 got, .b shut, .b false]
def fuO (l : List Int) (put got : Int) (shut : Bool) : List AV := [.i .i64 9, .s ByteArray.empty, .nils, owL 4 nonC [], .i .i64 1, .b true, owL 4 vCO l, .i .i64 put, .i .i64 got, .b shut, .b false]
def fuN : List AV := [.i .i64 9, .s ByteArray.empty, .nils, .row 0 0, .i .i64 1, .kb true, .nils, .i .i64 0, .i .i64 0, .kb false, .kb false]
def fuZ : List AV := [.i .i64 0, .s ByteArray.empty, .nils, .nils, .i .i64 0, .kb false, .nils, .i .i64 0, .i .i64 0, .kb false, .kb false]
set_option maxRecDepth 8000 in
theorem newFuture_t : RetM env.P 5 [] [.agg tC] (fun r H => r = .tup [.agg fuN, .i .i64 0] ∧ H = [some tZ]) := by
  refine ret_ofM (nt := 11) (rvs := [.cell 2 30, .tmp 3]) Tryd.func5 rfl rfl rfl rfl (fun X hX => ?_)
  repeat' (first | exact aa | ((conv => whnf) <;> (first | refine And.intro ?_ ?_ | (intro _h; first | contradiction | (try simp only [dd] at _h)) | (refine dt_go ?_) | exact rfl | exact True.intro | exact dkk | exact dks | ((first | refine .inl ⟨_, streamable_t, ?_⟩ | refine ⟨_, streamable_t, ?_⟩); (try rintro _ rfl)) | (refine .inr (.inl (.inl ⟨[], _, _, _, copyType_t, viewA, ⟨rfl, rfl⟩, ?_⟩)); rintro _ _ ⟨rfl, rfl⟩; refine ⟨rfl, _, lokA, ?_⟩) | (refine wrap_succ ?_; omega))))
  all_goals (conv => whnf)
  all_goals exact endM_pick [2] [some tZ] (.tup [.agg fuN, .i .i64 0]) (view_of rfl (.cons rfl (.self (rowPl_L fun _ => rfl)) .nil)) rfl rfl (fun k hk => by rw [hX] at hk; exact absurd hk (Nat.not_lt_zero _)) ⟨rfl, rfl⟩
set_option maxRecDepth 8000 in
theorem copyStream_t (l : List Int) (hl : l.length ≤ 8) (put got : Int) (shut : Bool) : RetM env.P 19 [] [.agg (fuC l put got shut)] (fun r H => r = .agg (fuR l put got shut) ∧ H = [some tZ, some (rowL 4 vCO l)]) := by
  refine ret_ofM (nt := 12) (rvs := [.cell 2 30]) Tryd.func19 rfl rfl rfl rfl (fun X hX => ?_)
  repeat' (first | exact aa | ((conv => whnf) <;> (first | refine And.intro ?_ ?_ | (intro _h; first | contradiction | (try simp only [dd] at _h)) | (refine dt_go ?_) | exact rfl | exact True.intro | exact dkk | exact dks | (refine .inr (.inl (.inl ⟨[], _, _, _, copyType_t, viewA, ⟨rfl, rfl⟩, ?_⟩)); rintro _ _ ⟨rfl, rfl⟩; refine ⟨rfl, _, lokA, ?_⟩) | (refine .inr (.inl (.inl ⟨[], _, _, _, copyValues_t l hl, viewA, ⟨rfl, rfl⟩, ?_⟩)); rintro _ _ ⟨rfl, rfl⟩; refine ⟨rfl, _, lokA, ?_⟩) | (refine wrap_succ ?_; omega))))
  all_goals (conv => whnf)
  all_goals first
    | exact endM_pick [2, 3] [some tZ, some (rowL 4 vCO l)] (.agg (fuR l put got shut)) (view_of rfl (.cons rfl (.self (rowPl_L fun _ => rfl)) (.cons rfl (.self (rowPl_L fun _ => rfl)) .nil))) rfl rfl (fun k hk => by rw [hX] at hk; exact absurd hk (Nat.not_lt_zero _)) ⟨rfl, rfl⟩
    | exact endM_pick [3, 2] [some tZ, some (rowL 4 vCO l)] (.agg (fuR l put got shut)) (view_of rfl (.cons rfl (.self (rowPl_L fun _ => rfl)) (.cons rfl (.self (rowPl_L fun _ => rfl)) .nil))) rfl rfl (fun k hk => by rw [hX] at hk; exact absurd hk (Nat.not_lt_zero _)) ⟨rfl, rfl⟩
    | trace_state
set_option maxRecDepth 8000 in
theorem shutE_t : RetM env.P 14 [some (boxRow (fuO [] 0 0 false))] [.ptr 0 0 0] (fun r H => r = .i .i64 3 ∧ H = [some (boxRow (fuO [] 0 0 false))]) := by
  refine ret_ofM (nt := 30) (rvs := [.tmp 2]) Tryd.func14 rfl rfl rfl rfl (fun X hX => ?_)
  repeat' (first | exact aa | ((conv => whnf) <;> (first | refine And.intro ?_ ?_ | (intro _h; first | contradiction | (try simp only [dd] at _h)) | (refine dt_go ?_) | exact rfl | exact True.intro | exact dkk | exact dks | (refine wrap_succ ?_; omega))))
  all_goals (conv => whnf)
  all_goals exact endM_self ⟨rfl, rfl⟩
set_option maxRecDepth 8000 in
theorem shutF_t (n : Int) : RetM env.P 14 [some (boxRow (fuO [n] 1 0 false))] [.ptr 0 0 0] (fun r H => r = .i .i64 0 ∧ H = [some (boxRow (fuO [n] 1 0 true))]) := by
  refine ret_ofM (nt := 30) (rvs := [.tmp 2]) Tryd.func14 rfl rfl rfl rfl (fun X hX => ?_)
  repeat' (first | exact aa | ((conv => whnf) <;> (first | refine And.intro ?_ ?_ | (intro _h; first | contradiction | (try simp only [dd] at _h)) | (refine dt_go ?_) | exact rfl | exact True.intro | exact dkk | exact dks | (refine wrap_succ ?_; omega))))
  all_goals (conv => whnf)
  all_goals first
    | exact endM_turn (turn_boxG (id := 0) (ds := fuO [n] 1 0 true) rfl rfl rfl (.cons (.eq (.refl _)) (.cons (.eq (.refl _)) (.cons (.eq (.refl _)) (.cons (.eq (.refl _)) (.cons (.eq (.refl _)) (.cons (.eq (.refl _)) (.cons (.eq (.refl _)) (.cons (.eq (.refl _)) (.cons (.eq (.refl _)) (.cons (.kb _) (.cons (.eq (.refl _)) (.nil))))))))))))) (endM_self ⟨rfl, rfl⟩)
    | trace_state
end Go.Proofs.YtjepdbkphfemmaaDoor
