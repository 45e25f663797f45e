/-
  The law FnRanges: its walk.
-/
import Derived.Test.YtcmnohbbjkdpdaaDoorVVrI
namespace Go.Proofs.YtcmnohbbjkdpdaaDoor
open Go Go.RowKit
set_option linter.unusedVariables false
set_option linter.unusedSimpArgs false
attribute [local irreducible] IntKind.wrap rgS numS belS

theorem Ret.toMB {P : Program} {g : FuncId} {av : List AV} {post : AV → Prop} (h : Ret P g av post) : RetM P g [] av (fun r H => post r ∧ H = []) := .mk fun w S blk FP us hR hG hc => by
  refine (h.h w S us ⟨fun b hb => (hR.free b hb).1, hG⟩ ⟨hc.1, fun j c u hj hu => (hc.2 j c u hj hu).nil⟩).mono fun e w' ⟨r, u, he, hq, hcu, hb⟩ => ⟨r, u, [], blk, FP, he, ⟨hq, rfl⟩, ⟨fun id r hr => by simp at hr, fun i j r r' hr => by simp at hr, fun b hb => ⟨hb.2.1, fun id r hr => by simp at hr⟩⟩, ?_, HExt.refl _ _, ?_, ⟨hb.os, hb.tape, hb.output, hb.size, fun k hk _ => hb.block k hk⟩⟩
  · have hcu' : Conc w' (fun b => S b ∨ (w.heap.size ≤ b ∧ b < w'.heap.size)) blk [] r u := hcu.nil
    refine hcu'.mono (fun b hb' => ⟨⟨?_, ?_, fun id r hr => by simp at hr⟩, rfl⟩) (HExt.refl _ _)
    · rcases hb' with h | h
      · exact .inl h
      · exact .inr h.1
    · rcases hb' with h | h
      · have := (hR.free b h).1
        have := hb.size
        omega
      · exact h.2
  · rintro b ⟨id, r, hr, _⟩
    simp at hr

theorem RetM.toRetP {P : Program} {g : FuncId} {av : List AV} {x : Bool} (h : RetM P g [] av (fun r H => (r = .b x ∨ r = .kb x) ∧ H = [])) : Ret P g av (fun r => r = .b x) := .mk fun w S us hS hc => by
  refine (h.h w S (fun _ => ⟨0, 0⟩) (fun _ => []) us ⟨fun id r q => by simp at q, fun i j r r' q => by simp at q, fun b hb => ⟨hS b hb, fun id r q => by simp at q⟩⟩ hS.gl hc).mono ?_
  rintro e w' ⟨r, u, H', blk', FP', he, ⟨hq, rfl⟩, _, hcu, _, _, hk⟩
  refine ⟨.b x, u, he, rfl, ?_, ⟨hk.os, hk.tape, hk.output, hk.size, fun k hlt => hk.block k hlt (by rintro ⟨id, r, q, _⟩; simp at q)⟩⟩
  have hcu' : Conc w' _ (fun _ => ⟨0, 0⟩) [] r u := hcu.nil
  rcases hq with rfl | rfl
  · exact hcu'.mono (fun b hb => ⟨hb.1.imp_right fun q => ⟨q, hb.2.1⟩, rfl⟩) (HExt.refl _ _)
  · cases hcu'
    exact .b x

def rg0 (o : Option Rng) : Rng := o.getD ⟨0, 0⟩
theorem meet_ok' (a b : Rng) : Ret env.P 16 [.agg a.cs, .agg b.cs] (fun x => x = .tup [.agg [.i .i64 (rg0 (meetN a b)).low, .i .i64 (rg0 (meetN a b)).below], .b (meetN a b).isSome]) := (meet_ok a b).mono fun x h => by
  rw [h]
  cases meetN a b <;> rfl
theorem rangeOf_ok' (s : ByteArray) (hs : s.size ≤ 1000000000) : Ret env.P 10 [.s s] (fun x => x = .tup [.agg [.i .i64 (rg0 (rangeN s)).low, .i .i64 (rg0 (rangeN s)).below], .i .i64 (bif (rangeN s).isSome then 0 else 6)]) := (rangeOf_ok s hs).mono fun x h => by
  rw [h]
  cases rangeN s <;> rfl
theorem rtext_size (r : Rng) : (rtext r).size ≤ 1000000000 := by
  have z1 := verOf_size r.low
  have z2 := verOf_size r.below
  have y1 : opEq.size = 1 := rfl
  have y2 : opTl.size = 1 := rfl
  have y3 : opHat.size = 1 := rfl
  have y4 : opGt.size = 1 := rfl
  have y5 : gtB.size = 1 := rfl
  have y6 : ltB.size = 2 := rfl
  unfold rtext
  repeat' split
  all_goals (try simp only [ByteArray.size_append])
  all_goals first | omega | exact Nat.zero_le _
theorem both_no {v : ByteArray} {a b : Rng} (h : ¬ (inR v a && inR v b) = ((meetN a b).isSome && inR v (rg0 (meetN a b)))) : False := by
  apply h
  rw [meet_law v a b]
  cases meetN a b <;> rfl
theorem back_some {s : ByteArray} (h : backB s = true) (hs : (rangeN s).isSome = true) : rangeN (rtext (rg0 (rangeN s))) = some (rg0 (rangeN s)) ∧ rangeOk (rg0 (rangeN s)) = true ∧ inR (verOf (rg0 (rangeN s)).low) (rg0 (rangeN s)) = true := by
  unfold backB at h
  cases e : rangeN s with
  | none => rw [e] at hs; cases hs
  | some x =>
    rw [e] at h
    dsimp only at h
    rw [Bool.and_eq_true, Bool.and_eq_true, beq_iff_eq] at h
    exact ⟨h.1.1, h.1.2, h.2⟩
theorem is0 {b : Bool} (h : (bif b then (0 : Int) else 6) = 0) : b = true := by
  cases b with
  | true => rfl
  | false => exact absurd h (by decide)
set_option maxRecDepth 8000 in
set_option maxHeartbeats 1000000 in
theorem rangesLaw (l m : List UInt8) : RetM env.P 4 [] [slL 1 byteC l, slL 1 byteC m] (fun r H => (r = .b true ∨ r = .kb true) ∧ H = []) := by
  by_cases hl : 1048576 < (l.length : Int) ∨ 1048576 < (m.length : Int)
  · have hb := b10Long_ok l m
    rw [pb_t.mpr hl] at hb
    refine ret_ofM (nt := 85) (rvs := [.tmp 4]) Tryd.func4 rfl rfl rfl rfl (fun X hX => ?_)
    repeat' (first | exact aa | ((conv => whnf) <;> (first | refine And.intro ?_ ?_ | (intro _h; first | contradiction | (try simp only [dd] at _h)) | (refine dt_go ?_) | exact rfl | exact True.intro | exact dkk | exact dks | ((first | refine .inl ⟨_, hb, ?_⟩ | refine ⟨_, hb, ?_⟩); (try rintro _ rfl)) | (refine wrap_succ ?_; omega))))
    all_goals (conv => whnf)
    all_goals exact endM_pick [] [] (.kb true) (view_of rfl .nil) rfl rfl (fun k hk => by rw [hX] at hk; exact absurd hk (Nat.not_lt_zero _)) ⟨.inr rfl, rfl⟩
  · have hb := b10Long_ok l m
    rw [pb_f.mpr hl] at hb
    refine ret_ofM (nt := 85) (rvs := [.tmp 4]) Tryd.func4 rfl rfl rfl rfl (fun X hX => ?_)
    repeat' (first | exact aa | ((conv => whnf) <;> (first | refine And.intro ?_ ?_ | (intro _h; first | contradiction | (try simp only [dd] at _h)) | (refine dt_go ?_) | exact rfl | exact True.intro | exact dkk | exact dks | ((first | refine .inl ⟨_, hb, ?_⟩ | refine ⟨_, hb, ?_⟩); (try rintro _ rfl)) | (refine .inr (.inl (.inl ⟨[], _, _, _, drawMeet_ok l (by omega), viewA, ⟨rfl, rfl⟩, ?_⟩)); rintro _ _ ⟨a, b, rfl, rfl⟩; refine ⟨rfl, _, lokA, ?_⟩) | (refine .inr (.inl (.inl ⟨[], _, _, _, drawInRange_ok m (by omega), viewA, ⟨rfl, rfl⟩, ?_⟩)); rintro _ _ ⟨v, w, hv, rfl, rfl⟩; refine ⟨rfl, _, lokA, ?_⟩) | (refine .inr (.inl (.inl ⟨[], _, _, _, drawRangeOf_ok m (by omega), viewA, ⟨rfl, rfl⟩, ?_⟩)); rintro _ _ ⟨o, t, ho, ht, rfl, rfl⟩; refine ⟨rfl, _, lokA, ?_⟩) | ((first | refine .inl ⟨_, meet_ok' a b, ?_⟩ | refine ⟨_, meet_ok' a b, ?_⟩); (try rintro _ rfl)) | ((first | refine .inl ⟨_, inR_ok v (by have := any_size v hv; omega) a, ?_⟩ | refine ⟨_, inR_ok v (by have := any_size v hv; omega) a, ?_⟩); (try rintro _ rfl)) | ((first | refine .inl ⟨_, inR_ok v (by have := any_size v hv; omega) b, ?_⟩ | refine ⟨_, inR_ok v (by have := any_size v hv; omega) b, ?_⟩); (try rintro _ rfl)) | ((first | refine .inl ⟨_, inR_ok v (by have := any_size v hv; omega) (rg0 (meetN a b)), ?_⟩ | refine ⟨_, inR_ok v (by have := any_size v hv; omega) (rg0 (meetN a b)), ?_⟩); (try rintro _ rfl)) | ((first | refine .inl ⟨_, rangeOf_ok' _ (by have := any_size t ht; have := opsV_size o ho; rw [ByteArray.size_append]; omega), ?_⟩ | refine ⟨_, rangeOf_ok' _ (by have := any_size t ht; have := opsV_size o ho; rw [ByteArray.size_append]; omega), ?_⟩); (try rintro _ rfl)) | ((first | refine .inl ⟨_, rangeText_ok (rg0 (rangeN (o ++ t))), ?_⟩ | refine ⟨_, rangeText_ok (rg0 (rangeN (o ++ t))), ?_⟩); (try rintro _ rfl)) | ((first | refine .inl ⟨_, rangeOf_ok' _ (rtext_size _), ?_⟩ | refine ⟨_, rangeOf_ok' _ (rtext_size _), ?_⟩); (try rintro _ rfl)) | ((first | refine .inl ⟨_, rangeOk_spec (rg0 (rangeN (o ++ t))), ?_⟩ | refine ⟨_, rangeOk_spec (rg0 (rangeN (o ++ t))), ?_⟩); (try rintro _ rfl)) | ((first | refine .inl ⟨_, versionOf_ok _, ?_⟩ | refine ⟨_, versionOf_ok _, ?_⟩); (try rintro _ rfl)) | ((first | refine .inl ⟨_, inR_ok (verOf _) (by have := verOf_size (rg0 (rangeN (o ++ t))).low; omega) (rg0 (rangeN (o ++ t))), ?_⟩ | refine ⟨_, inR_ok (verOf _) (by have := verOf_size (rg0 (rangeN (o ++ t))).low; omega) (rg0 (rangeN (o ++ t))), ?_⟩); (try rintro _ rfl)) | (refine wrap_succ ?_; omega))))
    all_goals (conv => whnf)
    all_goals first
      | exact endM_pick [] [] (.kb true) (view_of rfl .nil) rfl rfl (fun k hk => by rw [hX] at hk; exact absurd hk (Nat.not_lt_zero _)) ⟨.inr rfl, rfl⟩
      | (exfalso; refine both_no (v := v) (a := a) (b := b) ?_; simp_all; done)
      | (have hs : (rangeN (o ++ t)).isSome = true := is0 ‹(bif (rangeN (o ++ t)).isSome then (0 : Int) else 6) = 0›
         obtain ⟨b1, b2, b3⟩ := back_some (back_ok o ho t ht) hs
         first
           | exact endM_pick [] [] (.b (inR (verOf (rg0 (rangeN (o ++ t))).low) (rg0 (rangeN (o ++ t))))) (view_of rfl .nil) rfl rfl (fun k hk => by rw [hX] at hk; exact absurd hk (Nat.not_lt_zero _)) ⟨.inl (congrArg AV.b b3), rfl⟩
           | (exfalso
              have b4 : rg0 (rangeN (rtext (rg0 (rangeN (o ++ t))))) = rg0 (rangeN (o ++ t)) := by rw [b1]; rfl
              have q : (decide ((rg0 (rangeN (rtext (rg0 (rangeN (o ++ t)))))).low = (rg0 (rangeN (o ++ t))).low) && (decide ((rg0 (rangeN (rtext (rg0 (rangeN (o ++ t)))))).below = (rg0 (rangeN (o ++ t))).below) && true)) = false := by assumption
              rw [b4] at q
              simp at q
              done)
           | (exfalso
              have b4 : rg0 (rangeN (rtext (rg0 (rangeN (o ++ t))))) = rg0 (rangeN (o ++ t)) := by rw [b1]; rfl
              have b5 : (rangeN (rtext (rg0 (rangeN (o ++ t))))).isSome = true := by rw [b1]; rfl
              rw [b4] at *
              simp_all
              done))
      | trace_state
end Go.Proofs.YtcmnohbbjkdpdaaDoor
