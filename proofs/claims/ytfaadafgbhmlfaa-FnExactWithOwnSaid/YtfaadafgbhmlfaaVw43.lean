/- Texts for VWithOwnP. -/
import Derived.Test.YtfaadafgbhmlfaaVw42
namespace Go.Proofs.Ytfaadafgbhmlfaa
open Go Go.RowKit
set_option linter.unusedVariables false
set_option linter.unusedSimpArgs false
section
open Go Go.RowKit Go.Shelf
attribute [local irreducible] gbB secG okSec
theorem emp_t {s : ByteArray} (h : s.toList.isEmpty = true) : s = ⟨#[]⟩ := of_decide_eq_true ((decide_eq_emptyBytes s).trans h)
theorem emp_f {s : ByteArray} (h : s.toList.isEmpty = false) : ¬ s = ⟨#[]⟩ := of_decide_eq_false ((decide_eq_emptyBytes s).trans h)
set_option maxHeartbeats 2000000 in
set_option maxRecDepth 100000 in
theorem wo_walk (s : ByteArray) (at' : Int) (nm bs out : ByteArray) (l : List Section) (w : World) (rout : ByteArray) (rc : Int) (hl : l.length ≤ 20) (h1 : 0 ≤ at' ∧ at' ≤ l.length)
    (hr : (out = ⟨#[]⟩ ∧ rout = ⟨#[]⟩ ∧ rc = 4) ∨ (¬ out = ⟨#[]⟩ ∧ rout = out ∧ rc = 0))
    (cS : Calls Try.prog 10 #[.string s] w fun e w' => SoPost w l e w')
    (cW : ∀ W, Below w.heap.size w W → Calls Try.prog 11 #[.int .i64 at', .int .i64 0, .int .i64 l.length] W fun e W' => e = .returned (.bool true) ∧ Below W.heap.size W W')
    (cN : ∀ W, Below w.heap.size w W → Calls Try.prog 13 #[.string nm] W fun e W' => e = .returned (.bool true) ∧ Below W.heap.size W W')
    (cB : ∀ W nb G, l.length + 1 ≤ G → G ≤ maxLen → RowLike W (secCells (woL l at' ⟨0, nm, bs⟩)) nb G → nb < W.heap.size → Below w.heap.size w W → Calls Try.prog 14 #[.slice (some ⟨nb, 0, none⟩) (l.length + 1) G] W fun e W' => e = .returned (.string out) ∧ Below W.heap.size W W') :
    Calls Try.prog 5 #[.string s, .int .i64 at', .string nm, .string bs] w fun e w' => e = .returned (.tuple #[.string rout, .int .i64 rc]) ∧ Below w.heap.size w w' := by
  go_enter Try.func5, Try.ntmps5
  go_wp2_with (go_at_call 10; refine cS.mono ?_; rintro e w1 ⟨base, c, rfl, hk1, hso⟩)
  have hB1 : Below w.heap.size w w1 := ⟨hk1.os, hk1.tape, hk1.output, hk1.size, fun k hk => hk1.block k hk id⟩
  go_wp2_with (go_at_call 12; refine (size_val base l.length c w1 (by omega)).mono ?_; rintro e w2 ⟨rfl, hw2⟩; subst w2)
  go_wp2_with (go_at_call 11; refine (cW _ hB1).mono ?_; rintro e w3 ⟨rfl, hb3⟩)
  have hB3 := hB1.trans (hb3.mono hB1.size)
  go_wp2_with (go_at_call 13; refine (cN _ hB3).mono ?_; rintro e w4 ⟨rfl, hb4⟩)
  have hB4 := hB3.trans (hb4.mono hB3.size)
  have hb14 := hb3.trans (hb4.mono hb3.size)
  have hB5 : Below w.heap.size w (w4.alloc (.cells #[.int .i64 0, .string nm, .string bs] 31)) := hB4.alloc hB4.size _
  have hb15 : Below w1.heap.size w1 (w4.alloc (.cells #[.int .i64 0, .string nm, .string bs] 31)) := hb14.alloc hb14.size _
  have hv5 : (w4.alloc (.cells #[.int .i64 0, .string nm, .string bs] 31)).heap[w4.heap.size]? = some (.cells #[.int .i64 0, .string nm, .string bs] 31 (0, 0)) := by
    show (w4.heap.push _)[w4.heap.size]? = _
    exact Array.getElem?_push_size
  have hI := ins_val w l at' ⟨0, nm, bs⟩ hl h1 base c w4.heap.size 1 #[.int .i64 0, .string nm, .string bs] 31 (w4.alloc (.cells #[.int .i64 0, .string nm, .string bs] 31)) hB4.size (by
    rcases hso with q | ⟨b, cur, ty, q1, q2, q3, q4⟩
    · exact .inl q
    · exact .inr ⟨b, cur, ty, q1, q2, (by have := q3.lt; have := hb14.size; omega), q3.mono (hb15.block b q3.lt), q4⟩) hv5 rfl
  have hw1 : w1.heap.size ≤ w4.heap.size := hb14.size
  clear hso
  go_wp2_with (go_at_call 15; refine hI.mono ?_; rintro e w6 ⟨nb, G, rfl, hG1, hG2, hrow, hk6, hlt⟩)
  have hB6 : Below w.heap.size w w6 := ⟨hk6.os.trans hB5.os, hk6.tape.trans hB5.tape, hk6.output.trans hB5.output, Nat.le_trans hB5.size hk6.size, fun k hk => (hk6.block k (Nat.lt_of_lt_of_le hk hB5.size) (by show ¬ w.heap.size ≤ k; omega)).trans (hB5.block k hk)⟩
  go_wp2_with (go_at_call 14; refine (cB w6 nb G hG1 hG2 hrow hlt hB6).mono ?_; rintro e w7 ⟨rfl, hb7⟩; have hB7 := hB6.trans (hb7.mono hB6.size); clear hI hB5 hb15 hv5 hk6 hrow hb7 cS cW cN cB)
  all_goals (try go_wp2)
  · have hE : out = ⟨#[]⟩ := emp_t ‹_›
    rcases hr with ⟨hr1, hr2, hr3⟩ | ⟨hr1, hr2, hr3⟩
    · subst hr2 hr3
      go_ret2
      exact ⟨rfl, hB7⟩
    · exact absurd hE hr1
  · have hE : ¬ out = ⟨#[]⟩ := emp_f ‹_›
    rcases hr with ⟨hr1, hr2, hr3⟩ | ⟨hr1, hr2, hr3⟩
    · exact absurd hr1 hE
    · subst hr2 hr3
      go_ret2
      exact ⟨rfl, hB7⟩
theorem sbB_size {l : List Section} : (sbB l).size ≤ maxLen := by
  have hm : (30000 : Nat) ≤ maxLen := by decide
  unfold sbB
  split
  · unfold allB
    by_cases h : (allN l l.length).length ≤ 30000
    · rw [pb_t.mpr h]
      show (baN _).size ≤ _
      rw [baN_size]
      omega
    · rw [pb_f.mpr h]
      exact Nat.zero_le _
  · exact Nat.zero_le _
theorem withOwn_yes (s : ByteArray) (at' : Int) (nm bs : ByteArray) (hs : s.size ≤ 1048576) (hb : bs.size ≤ 1048576) (h0 : soC s = 0) (h1 : 0 ≤ at' ∧ at' ≤ (soL s).length) (h2 : owB nm) : Ret env.P 5 [.s s, .i .i64 at', .s nm, .s bs] (fun r => r = woV (woR s at' nm bs)) := .mk fun w S us hS hc => by
  obtain ⟨q, e⟩ := soC_0 h0
  obtain ⟨hl, ho⟩ := soL_ok s
  have hok : okSec ⟨0, nm, bs⟩ := (ok_own (x := ⟨0, nm, bs⟩) rfl).1 h2
  have hx := okSec_fit hok (by show bs.size ≤ _; omega)
  have h4 : us.length = 4 := hc.1
  match us, h4, hc with
  | [u0, u1, u2, u3], _, hc =>
  obtain ⟨rfl, hz0⟩ := inv_s (hc.2 0 _ _ rfl rfl)
  obtain ⟨rfl, hz1⟩ := inv_i (hc.2 1 _ _ rfl rfl)
  obtain ⟨rfl, hz2⟩ := inv_s (hc.2 2 _ _ rfl rfl)
  obtain ⟨rfl, hz3⟩ := inv_s (hc.2 3 _ _ rfl rfl)
  have hW := within_ok at' 0 ((soL s).length : Int)
  rw [decide_eq_true h1] at hW
  have hN := ownName_ok nm
  rw [pb_t.mpr h2] at hN
  have hB := sectionBytes_all (woL (soL s) at' ⟨0, nm, bs⟩) (woL_fit hl ho (by omega) hx) (fun x hx => by
    rcases woL_mem hx with q | q
    · rw [q]; exact hok
    · exact (ho x q).1)
  have hr := wo_fin (s := s) (nm := nm) (bs := bs) (at' := at') h0 h1 h2
  refine (wo_walk s at' nm bs (sbB (woL (soL s) at' ⟨0, nm, bs⟩)) (soL s) w (woR s at' nm bs).1 (woR s at' nm bs).2 hl h1 ?_ (so_val s hs e q w S hS) ?_ ?_ ?_).mono ?_
  · rcases hr with ⟨r1, r2⟩ | ⟨r1, r2⟩
    · exact .inl ⟨r1, by rw [r2], by rw [r2]⟩
    · exact .inr ⟨r1, by rw [r2], by rw [r2]⟩
  · exact fun W hBW => hW.atB (hS.below hBW (Nat.le_refl _)) (w := W) (.cons1 (u := .int .i64 at') (.i hz1) (.cons1 (u := .int .i64 0) (conc_i (by decide) (by decide)) (.cons1 (u := .int .i64 ((soL s).length : Int)) (conc_i (by omega) (by omega)) concL_nil))) W (Below.refl _ _)
  · exact fun W hBW => hN.atB (hS.below hBW (Nat.le_refl _)) (w := W) (.cons1 (u := .string nm) (.s hz2) concL_nil) W (Below.refl _ _)
  · intro W nb G hG1 hG2 hrow hlt hBW
    have hS1 : SIn W (fun b => S b ∨ b = nb) := ⟨fun b hb => by
      rcases hb with hb | rfl
      · exact Nat.lt_of_lt_of_le (hS b hb) hBW.size
      · exact hlt, hS.gl.mono fun b hb => ⟨.inl hb, hBW.block b (hS b hb)⟩⟩
    have hlen : (woL (soL s) at' ⟨0, nm, bs⟩).length = (soL s).length + 1 := woL_len
    refine hB.atS hS1 (w := W) (.cons1 (u := .slice (some ⟨nb, 0, none⟩) ((soL s).length + 1) G) ?_ concL_nil) W (Below.refl _ _)
    rw [← hlen]
    have hmm : (10000000 : Nat) ≤ maxLen := by decide
    have hmem : ∀ i, i < (woL (soL s) at' ⟨0, nm, bs⟩).length → ((woL (soL s) at' ⟨0, nm, bs⟩).getD i default).fit := (woL_fit hl ho (by omega) hx).h
    refine Conc.sl nb 0 G (fun i j => (secV3 ((woL (soL s) at' ⟨0, nm, bs⟩).getD i default)).getD j undef) (.inr rfl) (by omega) hG2 (fun i j hi hj => ?_) (fun i j hi hj => ?_) (fun i j hi hj => ?_)
    · obtain ⟨g1, g2, g3⟩ := secCells_get _ i hi
      rw [Nat.zero_add]
      rcases (show j = 0 ∨ j = 1 ∨ j = 2 by omega) with rfl | rfl | rfl
      · exact hrow.cell g1
      · exact hrow.cell g2
      · exact hrow.cell g3
    · rcases (show j = 0 ∨ j = 1 ∨ j = 2 by omega) with rfl | rfl | rfl <;> trivial
    · have hf := hmem i hi
      rcases (show j = 0 ∨ j = 1 ∨ j = 2 by omega) with rfl | rfl | rfl
      · exact conc_i (by have := hf.id; omega) (by have := hf.id; omega)
      · exact .s (by have := hf.nm; omega)
      · exact .s (by have := hf.by_; omega)
  · rintro e w' ⟨he, hb⟩
    refine ⟨_, _, he, rfl, .tup _ [_, _] rfl fun j c u hj hu => ?_, hb⟩
    have hsz : (woR s at' nm bs).1.size ≤ maxLen ∧ -9223372036854775808 ≤ (woR s at' nm bs).2 ∧ (woR s at' nm bs).2 < 9223372036854775808 := by
      rcases hr with ⟨r1, r2⟩ | ⟨r1, r2⟩
      · rw [r2]; exact ⟨Nat.zero_le _, (show (-9223372036854775808 : Int) ≤ 4 by omega), (show (4 : Int) < 9223372036854775808 by omega)⟩
      · rw [r2]; exact ⟨sbB_size, (show (-9223372036854775808 : Int) ≤ 0 by omega), (show (0 : Int) < 9223372036854775808 by omega)⟩
    match j with
    | 0 => cases hj; cases hu; exact .s hsz.1
    | 1 => cases hj; cases hu; exact conc_i hsz.2.1 hsz.2.2
    | j + 2 => cases hj
theorem withOwn_impl (s : ByteArray) (at' : Int) (nm bs : ByteArray) (hs : s.size ≤ 1048576) (hb : bs.size ≤ 1048576) : Ret env.P 5 [.s s, .i .i64 at', .s nm, .s bs] (fun r => r = woV (woR s at' nm bs)) := by
  by_cases h0 : soC s = 0
  · by_cases h1 : 0 ≤ at' ∧ at' ≤ ((soL s).length : Int)
    · by_cases h2 : owB nm
      · exact withOwn_yes s at' nm bs hs hb h0 h1 h2
      · exact withOwn_no2R s at' nm bs hs h0 (.inr h2)
    · exact withOwn_no2R s at' nm bs hs h0 (.inl h1)
  · exact withOwn_no1 s at' nm bs hs h0
end
end Go.Proofs.Ytfaadafgbhmlfaa
