/- Texts for VSectionsP. -/
import Derived.Test.YtdeledeopippfaaVx34
namespace Go.Proofs.Ytdeledeopippfaa
open Go Go.RowKit
set_option linter.unusedVariables false
set_option linter.unusedSimpArgs false
section
open Go Go.RowKit Go.Shelf
def byL (s : ByteArray) : List UInt8 := s.data.toList
theorem conc_at {w W : World} {S : Nat → Prop} {av : List AV} {us : List Value} (hS : ∀ b, S b → b < w.heap.size) (hB : Below w.heap.size w W) (hc : ConcL w S (fun _ => ⟨0, 0⟩) [] av us) : ConcL W S (fun _ => ⟨0, 0⟩) [] av us :=
  ⟨hc.1, fun j c u hj hu => (hc.2 j c u hj hu).mono (fun b hb => ⟨hb, hB.block b (hS b hb)⟩) (HExt.refl _ _)⟩
theorem Ret.atS {g : FuncId} {av : List AV} {s : ByteArray} (h : Ret env.P g av (fun r => r = .s s)) {w : World} {S : Nat → Prop} {us : List Value} (hS : SIn w S) (hc : ConcL w S (fun _ => ⟨0, 0⟩) [] av us) (W : World) (hB : Below w.heap.size w W) :
    Calls Try.prog g us.toArray W fun e W' => e = .returned (.string s) ∧ Below W.heap.size W W' :=
  (h.h W S us (hS.below hB (Nat.le_refl _)) (conc_at hS.lt hB hc)).mono fun e W' ⟨r, u, he, hr, hu, hb⟩ => by
    subst hr
    cases hu
    exact ⟨he, hb⟩
theorem Ret.atB {g : FuncId} {av : List AV} {z : Bool} (h : Ret env.P g av (fun r => r = .b z)) {w : World} {S : Nat → Prop} {us : List Value} (hS : SIn w S) (hc : ConcL w S (fun _ => ⟨0, 0⟩) [] av us) (W : World) (hB : Below w.heap.size w W) :
    Calls Try.prog g us.toArray W fun e W' => e = .returned (.bool z) ∧ Below W.heap.size W W' :=
  (h.h W S us (hS.below hB (Nat.le_refl _)) (conc_at hS.lt hB hc)).mono fun e W' ⟨r, u, he, hr, hu, hb⟩ => by
    subst hr
    cases hu
    exact ⟨he, hb⟩
theorem Ret.atI {g : FuncId} {av : List AV} {k : IntKind} {z : Int} (h : Ret env.P g av (fun r => r = .i k z)) {w : World} {S : Nat → Prop} {us : List Value} (hS : SIn w S) (hc : ConcL w S (fun _ => ⟨0, 0⟩) [] av us) (W : World) (hB : Below w.heap.size w W) :
    Calls Try.prog g us.toArray W fun e W' => e = .returned (.int k z) ∧ Below W.heap.size W W' :=
  (h.h W S us (hS.below hB (Nat.le_refl _)) (conc_at hS.lt hB hc)).mono fun e W' ⟨r, u, he, hr, hu, hb⟩ => by
    subst hr
    cases hu
    exact ⟨he, hb⟩
theorem ConcL.ofF {w : World} {S : Nat → Prop} {av : List AV} {us : List Value} (hc : ConcL w (fun _ => False) (fun _ => ⟨0, 0⟩) [] av us) : ConcL w S (fun _ => ⟨0, 0⟩) [] av us := ⟨hc.1, fun j c u hj hu => (hc.2 j c u hj hu).mono (fun b hb => hb.elim) (HExt.refl _ _)⟩
theorem concL_nil {w : World} {S : Nat → Prop} : ConcL w S (fun _ => ⟨0, 0⟩) [] [] [] := ⟨rfl, fun j c u hj _ => by simp at hj⟩
theorem ConcL.cons1 {w : World} {S : Nat → Prop} {x : AV} {u : Value} {av : List AV} {us : List Value} (h : Conc w S (fun _ => ⟨0, 0⟩) [] x u) (hr : ConcL w S (fun _ => ⟨0, 0⟩) [] av us) : ConcL w S (fun _ => ⟨0, 0⟩) [] (x :: av) (u :: us) := ⟨by rw [List.length_cons, List.length_cons, hr.1], fun j c v hj hv => by
  cases j with
  | zero => cases hj; cases hv; exact h
  | succ j => exact hr.2 j c v hj hv⟩
theorem conc_fn {w : World} {S : Nat → Prop} (g : FuncId) : Conc w S (fun _ => ⟨0, 0⟩) [] (.fn g []) (.func (.func g) #[] #[]) := .fn g [] [] rfl fun j c u hj _ => by simp at hj
theorem sizeIns_ok (l : List Ins) : Ret env.P 37 [slL 2 Ins.cs l] (fun r => r = .i .i64 (l.length : Int)) := by
  refine ret_of (nt := 5) (rvs := [.tmp 2]) Try.func37 rfl rfl rfl rfl (fun X => ?_)
  repeat' (first | omega | (with_reducible show (_ : Int) < _; dsimp only; omega) | (with_reducible show (_ : Nat) ≤ _; dsimp only; omega) | ((with_reducible show SrcOk _ _ _) <;> (first | exact srcOk_1 rfl | exact srcOk_L (fun _ => ⟨rfl, rfl⟩) | exact srcOk_E (fun _ => ⟨rfl, rfl⟩))) | ((conv => whnf) <;> (first | refine And.intro ?_ ?_ | (intro _h; first | contradiction | (try simp only [dd] at _h)) | (refine dt_go ?_) | exact rfl | exact True.intro | exact dkk | exact dks | (refine wrap_succ ?_; omega))))
theorem bodyBytes1_ok (i : Ins) : Ret env.P 35 [.agg i.cs] (fun r => r = .b (!i.good)) := by
  refine ret_of (nt := 6) (rvs := [.tmp 2]) Try.func35 rfl rfl rfl rfl (fun X => ?_)
  repeat' (first | omega | (with_reducible show (_ : Int) < _; dsimp only; omega) | (with_reducible show (_ : Nat) ≤ _; dsimp only; omega) | ((with_reducible show SrcOk _ _ _) <;> (first | exact srcOk_1 rfl | exact srcOk_L (fun _ => ⟨rfl, rfl⟩) | exact srcOk_E (fun _ => ⟨rfl, rfl⟩))) | ((conv => whnf) <;> (first | refine And.intro ?_ ?_ | (intro _h; first | contradiction | (try simp only [dd] at _h)) | (refine dt_go ?_) | exact rfl | exact True.intro | exact dkk | exact dks | ((first | refine .inl ⟨_, insOk_impl i, ?_⟩ | refine ⟨_, insOk_impl i, ?_⟩); (try rintro _ rfl)) | (refine wrap_succ ?_; omega))))
  all_goals exact rfl
theorem fm_lenU {α : Type} {f : α → List UInt8} {k : Nat} : ∀ {l : List α}, (∀ x ∈ l, (f x).length ≤ k) → (l.flatMap f).length ≤ l.length * k
  | [], _ => by simp
  | a :: l, h => by
    have h1 := h a (List.mem_cons_self ..)
    have h2 := fm_lenU (l := l) fun x hx => h x (List.mem_cons_of_mem _ hx)
    rw [List.flatMap_cons, List.length_append, List.length_cons, Nat.add_mul]
    omega
set_option maxRecDepth 100000 in
set_option maxHeartbeats 1000000 in
theorem bb_walk (n : Nat) (hn : n ≤ 120) (a : Option Addr) (cap : Nat) (s0 : List UInt8) (f : Nat → List UInt8) (y0 y1 : Nat → Int) (w : World) (hs0 : s0.length ≤ 1000) (hf : ∀ k, (f k).length ≤ 1000)
    (ha : 0 < n → ∃ b o, a = some ⟨b, o, none⟩ ∧ b < w.heap.size ∧ ∀ k, k < n → w.cell? ⟨b, o + k * 2, none⟩ = some (.int .i64 (y0 k)) ∧ w.cell? ⟨b, o + k * 2 + 1, none⟩ = some (.int .i64 (y1 k)))
    (cC : ∀ W, Below w.heap.size w W → Calls Try.prog 34 #[.slice a n cap, .func (.func 35) #[] #[]] W fun e W' => e = .returned (.bool false) ∧ Below W.heap.size W W')
    (cS : ∀ W, Below w.heap.size w W → Calls Try.prog 37 #[.slice a n cap] W fun e W' => e = .returned (.int .i64 n) ∧ Below W.heap.size W W')
    (cP : ∀ W, Below w.heap.size w W → Calls Try.prog 36 #[.int .i64 n] W fun e W' => e = .returned (.string ⟨s0.toArray⟩) ∧ Below W.heap.size W W')
    (cI : ∀ k W, k < n → Below w.heap.size w W → Calls Try.prog 25 #[.agg #[.int .i64 (y0 k), .int .i64 (y1 k)]] W fun e W' => e = .returned (.string ⟨(f k).toArray⟩) ∧ Below W.heap.size W W') :
    Calls Try.prog 13 #[.slice a n cap] w fun e w' => e = .returned (.string ⟨(s0 ++ (List.range n).flatMap f).toArray⟩) ∧ Below w.heap.size w w' := by
  have z1 : ¬ (120 : Int) < (n : Int) := by omega
  go_enter Try.func13, Try.ntmps13
  go_wp2_with (go_at_call 34; refine (cC _ (Below.refl _ _)).mono ?_; rintro e w1 ⟨rfl, hb1⟩)
  have hB1 : Below w.heap.size w (w1.alloc (.cells #[.pointer none, .slice none 0 0] 46)) := hb1.alloc hb1.size _
  have hI1 := bd_fresh w1
  generalize hW1 : w1.alloc (.cells #[.pointer none, .slice none 0 0] 46) = W1 at hB1 hI1
  go_wp2_with (go_at_call 37; (try rw [hW1]); refine (cS _ hB1).mono ?_; rintro e w2 ⟨rfl, hb2⟩)
  have hB2 := hB1.trans (hb2.mono hB1.size)
  have hI2 := isBld_old hI1 hb2
  go_wp2_with (go_at_call 36; refine (cP _ hB2).mono ?_; rintro e w3 ⟨rfl, hb3⟩)
  have hB3 := hB2.trans (hb3.mono hB2.size)
  have hI3 := isBld_old hI2 hb3
  have hs1 : w1.heap.size ≤ w3.heap.size := by
    have e1 := hb2.size
    have e2 := hb3.size
    have e3 : w1.heap.size ≤ W1.heap.size := by rw [← hW1]; simp
    omega
  go_wp2_with (go_at_call 17; refine (bd_write _ _ _ ⟨s0.toArray⟩ _ hI3 (by show 0 + s0.length ≤ _; omega) hs1).mono ?_; rintro e w4 ⟨rfl, hA4, hb4⟩)
  have hB4 := hB3.trans (hb4.mono hb1.size)
  rw [show ([] : List Value) = Lib.byteCells [] from rfl, bd_cells, List.nil_append] at hA4
  go_wp2
  go_loopw [19] (fun i wr => ∃ k : Nat, k ≤ n ∧ i = .int .i64 k ∧ BdAt w1.heap.size w1.heap.size (Lib.byteCells (s0 ++ (List.range k).flatMap f)) wr ∧ Below w.heap.size w wr) (fun i _ => n - (intOf i).toNat)
  case atStart => exact ⟨0, Nat.zero_le _, rfl, by simpa using hA4, hB4⟩
  case round =>
    obtain ⟨k, hk, rfl, hA, hB⟩ := hrel
    by_cases hlt : k < n
    · obtain ⟨b, o, rfl, hbw, hcell⟩ := ha (by omega)
      have c0 : wr.cell? ⟨b, o + k * 2, none⟩ = some (.int .i64 (y0 k)) := (hB.cell (p := ⟨b, o + k * 2, none⟩) hbw).trans (hcell k hlt).1
      have c1 : wr.cell? ⟨b, o + k * 2 + 1, none⟩ = some (.int .i64 (y1 k)) := (hB.cell (p := ⟨b, o + k * 2 + 1, none⟩) hbw).trans (hcell k hlt).2
      clear hcell
      have hB5 : Below w.heap.size w (wr.alloc (.cells #[.int .i64 (y0 k), .int .i64 (y1 k)] 30)) := hB.alloc hB.size _
      have hbr : Below wr.heap.size wr (wr.alloc (.cells #[.int .i64 (y0 k), .int .i64 (y1 k)] 30)) := (Below.refl _ wr).alloc (Nat.le_refl _) _
      have hA5 := bld_old hA hbr
      have hw1r : w1.heap.size < wr.heap.size := hA.lt
      go_wp2_with (go_at_call 25; refine (cI k _ hlt hB5).mono ?_; rintro e w5 ⟨rfl, hb5⟩)
      have hA6 := bld_old hA5 hb5
      have hB6 := hB5.trans (hb5.mono hB5.size)
      have hsz : (f k).length ≤ 1000 := hf k
      have hac : (s0 ++ (List.range k).flatMap f).length ≤ 1000 + k * 1000 := by
        have h1 := fm_lenU (f := f) (k := 1000) (l := List.range k) fun x _ => hf x
        rw [List.length_range] at h1
        rw [List.length_append]
        omega
      go_wp2_with (go_at_call 17; refine (bd_write _ _ _ ⟨(f k).toArray⟩ _ (.inr hA6) (by rw [Lib.byteCells_length]; show _ + (f k).length ≤ _; omega) (by have e1 := hb5.size; have e2 := hbr.size; omega)).mono ?_; rintro e w6 ⟨rfl, hA7, hb6⟩)
      rw [bd_cells] at hA7
      go_wp2
      go_roundw
      case rel => exact ⟨k + 1, by omega, by simp, by rw [List.range_succ, List.flatMap_append]; simpa using hA7, hB6.trans (hb6.mono hb1.size)⟩
      case measure => simp [intOf]; omega
    · obtain rfl : k = n := by omega
      go_wp2_with (go_at_call 22; refine (bd_string _ _ _ _ (.inr hA) (by have := hA.lt; omega)).mono ?_; rintro e w5 ⟨rfl, hb5⟩)
      go_ret
      exact ⟨rfl, hB.trans (hb5.mono hb1.size)⟩
theorem range_fm {α β : Type} [Inhabited α] {g : α → List β} : ∀ (l : List α), (List.range l.length).flatMap (fun k => g (l.getD k default)) = l.flatMap g
  | [] => rfl
  | a :: l => by
    rw [List.length_cons, List.range_succ_eq_map, List.flatMap_cons, List.flatMap_cons, List.flatMap_map]
    congr 1
    exact range_fm l
theorem bodyBytes_impl (l : List Ins) (hl : l.length ≤ 120) (hg : CodeTo l l.length) : Ret env.P 13 [slL 2 Ins.cs l] (fun r => r = .s (baN (bodyN l))) := .mk fun w S us hS hc => by
  obtain ⟨u, rfl, h0⟩ := concL_1 hc
  obtain ⟨a, cap, rfl, _, _⟩ := sl_form h0
  have hln : (l.any fun i => !i.good) = false := any_good.2 hg
  have hC := containsFuncIns_ok l 35 rfl (fun i => !i.good) (by omega) (fun k hk => bodyBytes1_ok _)
  rw [hln] at hC
  have cC := hC.atB hS (.cons1 h0 (.cons1 (conc_fn 35) concL_nil))
  have cS := (sizeIns_ok l).atI hS hc
  have hP : Ret env.P 36 [.i .i64 (l.length : Int)] (fun r => r = .s (baN (lebL l.length))) := (putLeb_impl l.length (by omega)).toRet
  have cP := hP.atS hS (.cons1 (u := .int .i64 (l.length : Int)) (conc_i (by omega) (by omega)) concL_nil)
  have hbs : ∀ k, (baN (l.getD k default).by).data.toList.length ≤ 1000 := fun k => by
    show (baN (l.getD k default).by).size ≤ 1000
    rw [baN_size]
    have := (l.getD k default).by_len
    omega
  have hcell : ∀ k, k < l.length → ∀ (W : World), ConcL W (fun _ => False) (fun _ => ⟨0, 0⟩) [] [.agg (l.getD k default).cs] [.agg #[.int .i64 (l.getD k default).op, .int .i64 (l.getD k default).a]] := fun k hk W => by
    obtain ⟨b, o, cap', U, he, hb, _, _, hcc, hu, _⟩ := inv_sl h0 (by omega)
    have h1 := hu k 0 hk (by decide)
    have h2 := hu k 1 hk (by decide)
    refine .cons1 (.agg _ [_, _] rfl fun j c u hj hv => ?_) concL_nil
    match j with
    | 0 => cases hj; cases hv; exact .i (inv_i h1).2
    | 1 => cases hj; cases hv; exact .i (inv_i h2).2
    | j + 2 => cases hj
  have hw := bb_walk l.length hl a cap (baN (lebL l.length)).data.toList (fun k => (baN (l.getD k default).by).data.toList) (fun k => (l.getD k default).op) (fun k => (l.getD k default).a) w (by show (baN (lebL l.length)).size ≤ 1000; rw [baN_size]; have := lb_small (n := l.length) (by omega); omega) hbs
    (fun hn => by
      obtain ⟨b, o, cap', U, he, hb, _, _, hcc, hu, _⟩ := inv_sl h0 hn
      cases he
      refine ⟨b, o, rfl, hS b hb, fun k hk => ⟨?_, ?_⟩⟩
      · have := hcc k 0 hk (by decide)
        rw [Nat.add_zero] at this
        rw [this, (inv_i (hu k 0 hk (by decide))).1]
      · rw [hcc k 1 hk (by decide), (inv_i (hu k 1 hk (by decide))).1])
    cC cS cP (fun k W hk hB => (insBytesG_impl (l.getD k default) (hg.h k hk)).atS (hS.below hB (Nat.le_refl _)) (w := W) (hcell k hk W).ofF W (Below.refl _ _))
  refine hw.mono fun e w' ⟨he, hb⟩ => ⟨_, _, he, rfl, ?_, hb⟩
  have e1 : (⟨((baN (lebL l.length)).data.toList ++ (List.range l.length).flatMap fun k => (baN (l.getD k default).by).data.toList).toArray⟩ : ByteArray) = baN (bodyN l) := by
    apply ByteArray.ext
    show List.toArray _ = List.toArray _
    congr 1
    show (lebL l.length).map UInt8.ofNat ++ (List.range l.length).flatMap (fun k => ((l.getD k default).by).map UInt8.ofNat) = (bodyN l).map UInt8.ofNat
    unfold bodyN
    rw [List.map_append, List.map_flatMap, range_fm (g := fun i => (Ins.by i).map UInt8.ofNat)]
  rw [e1]
  refine .s ?_
  rw [baN_size]
  have := bodyN_len hl
  exact Nat.le_trans this (by decide)
end
end Go.Proofs.Ytdeledeopippfaa
