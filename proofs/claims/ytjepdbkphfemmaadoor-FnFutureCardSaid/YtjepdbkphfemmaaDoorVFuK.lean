/-
  The law on futures, walked.
-/
import Derived.Test.YtjepdbkphfemmaaDoorVFuJ
namespace Go.Proofs.YtjepdbkphfemmaaDoor
open Go Go.RowKit
set_option linter.unusedVariables false
set_option linter.unusedSimpArgs false

/-- A contract without rows is one of a function that reads. -/
theorem RetM.toRetB {P : Program} {g : FuncId} {av : List AV} (h : RetM P g [] av (fun r H => (r = .b true ∨ r = .kb true) ∧ H = [])) : Ret P g av (fun r => r = .b true) := .mk fun w S us hS hc => by
  refine (h.h w S (fun _ => ⟨0, 0⟩) (fun _ => []) us ⟨fun id r q => by simp at q, fun i j r r' q => by simp at q, fun b hb => ⟨hS b hb, fun id r q => by simp at q⟩⟩ hc).mono ?_
  rintro e w' ⟨r, u, H', blk', FP', he, ⟨hq, rfl⟩, _, hcu, _, _, hk⟩
  refine ⟨.b true, u, he, rfl, ?_, ⟨hk.os, hk.tape, hk.output, hk.size, fun k hlt => hk.block k hlt (by rintro ⟨id, r, q, _⟩; simp at q)⟩⟩
  have hcu' : Conc w' _ (fun _ => ⟨0, 0⟩) [] r u := hcu.nil
  rcases hq with rfl | rfl
  · exact hcu'.mono (fun b hb => ⟨hb.1.imp_right fun q => ⟨q, hb.2.1⟩, rfl⟩) (HExt.refl _ _)
  · cases hcu'
    exact .b true
theorem v_sl {n : Int} {g : Nat → Nat → AV} (h0 : g 0 0 = .i .i64 9) (h1 : g 0 1 = .i .i64 n) (h2 : g 0 2 = .s ByteArray.empty) (h3 : g 0 3 = .nils) : Wk (.sl 4 1 g) (slL 4 vC [n]) := Wk.sl' rfl rfl fun i j hi hj => by
  obtain rfl : i = 0 := Nat.lt_one_iff.1 hi
  rcases (show j = 0 ∨ j = 1 ∨ j = 2 ∨ j = 3 by omega) with rfl | rfl | rfl | rfl
  · rw [h0]; exact .refl _
  · rw [h1]; exact .refl _
  · rw [h2]; exact .refl _
  · rw [h3]; exact Wk.nilS0
/-- The stream that is read, in one of two places. -/
def fuG (b : Bool) : Fr := bif b then [(16, .ptr 15 0 0), (17, .row 14 1)] else [(16, .ptr 13 0 0), (17, .row 15 1)]
def fuYC (q : Nat) : List AV := [.i .i64 9, .s ByteArray.empty, .nils, .row q 0, .i .i64 1, .b true, slL 4 vC [], .i .i64 1, .i .i64 1, .b true, .b false]
def fuH (b : Bool) (v : Int) : Hp := bif b then [some tZ, some (rowL 4 vCO [v]), some (boxRow (fuYC 13))] else [some (boxRow (fuYC 14)), some tZ, some (rowL 4 vCO [v])]
set_option maxRecDepth 8000 in
set_option maxHeartbeats 16000000 in
theorem futureM (l : List UInt8) : RetM env.P 3 [] [slL 1 byteC l] (fun r H => (r = .b true ∨ r = .kb true) ∧ H = []) := by
  have hv0 := c2V_lt l 0 100 (by omega)
  have hk0 := c2V_lt l 1 8 (by omega)
  have hv : n64 (c2V l 0 100) := ⟨by omega, by omega⟩
  have hk : 1 ≤ IntKind.i64.wrap (1 + c2V l 1 8) ∧ IntKind.i64.wrap (1 + c2V l 1 8) ≤ 8 := by
    have e : IntKind.i64.wrap (1 + c2V l 1 8) = 1 + c2V l 1 8 := wrap_in (by omega) (by omega)
    rw [e]; omega
  refine ret_ofPM (nt := 106) (rvs := [.tmp 2]) Tryd.func3 rfl rfl rfl rfl (fun X hX => ?_)
  refine pw_cut 8 (fun _ : Unit => ¬ 1048576 < (l.length : Int)) (fun _ => [(0, slL 1 byteC l), (4, .i .i64 0), (5, .ptr 2 0 0), (9, .i .i64 1), (10, .i .i64 0), (13, .i .i64 4), (14, .ptr 12 0 0), (15, .i .i64 0)]) (fun _ => [none, none, some (boxRow [.i .i64 9, .i .i64 (c2V l 0 100), .s ByteArray.empty, .nils]), none, none, none, none, none, none, none, some tZ, some (rowL 4 vCO [c2V l 0 100]), some (boxRow [.i .i64 9, .s ByteArray.empty, .nils, .row 10 0, .i .i64 1, .b true, .row 11 1, .i .i64 1, .i .i64 0, .b true, .b false])]) ?_ (fun _ hl => ?_)
  · repeat' (first | exact aa | ((conv => whnf) <;> (first | ((refine .inr (.inl (.inr (.inl ⟨_, RetM.wk (by ((repeat (first | exact WkL.nil | exact v_sl rfl rfl rfl rfl | refine WkL.cons ?_ ?_ | exact Wk.refl _ | exact Wk.rfc rfl | refine Wk.fn ?_ | exact Wk.nilS0 | exact shr_L (d := 0) (k := 4) rfl | exact shr_L (d := 1) (k := 3) rfl | exact shr_L (d := 2) (k := 2) rfl | exact shr_L (d := 0) (k := 4) (by simp only [markL_len]) | exact shr_L (d := 1) (k := 3) (by simp only [markL_len]) | refine Wk.agg ?_ | exact shr_L (d := 0) (k := 3) rfl | exact shr_L (d := 1) (k := 2) rfl | exact shr_ow (d := 1) (k := 2) | exact shr_ow (d := 0) (k := 3) | refine Wk.rfLo ?_)); first | done | fail)) (writeStreamF_t _ hv), ?_⟩))); rintro _ _ ⟨rfl, rfl⟩; refine ⟨⟨rfl, nssA⟩, _, lokA, ?_⟩)) | ((refine .inr (.inl (.inr (.inl ⟨_, RetM.wk (by ((repeat (first | exact WkL.nil | exact v_sl rfl rfl rfl rfl | refine WkL.cons ?_ ?_ | exact Wk.refl _ | exact Wk.rfc rfl | refine Wk.fn ?_ | exact Wk.nilS0 | exact shr_L (d := 0) (k := 4) rfl | exact shr_L (d := 1) (k := 3) rfl | exact shr_L (d := 2) (k := 2) rfl | exact shr_L (d := 0) (k := 4) (by simp only [markL_len]) | exact shr_L (d := 1) (k := 3) (by simp only [markL_len]) | refine Wk.agg ?_ | exact shr_L (d := 0) (k := 3) rfl | exact shr_L (d := 1) (k := 2) rfl | exact shr_ow (d := 1) (k := 2) | exact shr_ow (d := 0) (k := 3) | refine Wk.rfLo ?_)); first | done | fail)) (writeStreamE_t _ _ hv hv), ?_⟩))); rintro _ _ ⟨rfl, rfl⟩; refine ⟨⟨rfl, nssA⟩, _, lokA, ?_⟩)) | (exfalso; exact ‹¬True› trivial) | refine And.intro ?_ ?_ | (intro _h; first | contradiction | (try simp only [dd] at _h)) | (refine dt_go ?_) | exact rfl | exact True.intro | exact dkk | exact dks | ((first | refine .inl ⟨_, c2Big_ok l, ?_⟩ | refine ⟨_, c2Big_ok l, ?_⟩); (try rintro _ rfl)) | ((first | refine .inl ⟨_, c2At_0 l (by omega), ?_⟩ | refine ⟨_, c2At_0 l (by omega), ?_⟩); (try rintro _ rfl)) | (refine .inr (.inl (.inr (.inl ⟨_, RetM.wka (newFuture_t), ?_⟩))); rintro _ _ ⟨rfl, rfl⟩; refine ⟨⟨rfl, nssA⟩, _, lokA, ?_⟩) | (refine .inr (.inl (.inr (.inl ⟨_, RetM.wka (shutStreamE_t), ?_⟩))); rintro _ _ ⟨rfl, rfl⟩; refine ⟨⟨rfl, nssA⟩, _, lokA, ?_⟩) | (refine .inr (.inl (.inr (.inl ⟨_, RetM.wka (shutStreamF_t _ hv), ?_⟩))); rintro _ _ ⟨rfl, rfl⟩; refine ⟨⟨rfl, nssA⟩, _, lokA, ?_⟩) | (refine wrap_succ ?_; omega))))
    all_goals (first | contradiction | skip)
    all_goals (conv => whnf)
    all_goals first
      | (refine cut_turn (turn_box (id := 2) (ds := [.i .i64 9, .i .i64 (c2V l 0 100), .s ByteArray.empty, .nils]) rfl rfl rfl (.cons (.refl _) (.cons (.refl _) (.cons (.refl _) (.cons (.refl _) (.nil)))))) ?_
         refine cut_turn (turn_box (id := 12) (ds := [.i .i64 9, .s ByteArray.empty, .nils, .row 10 0, .i .i64 1, .b true, .row 11 1, .i .i64 1, .i .i64 0, .b true, .b false]) rfl rfl rfl (.cons (.refl _) (.cons (.refl _) (.cons (.refl _) (.cons (.refl _) (.cons (.refl _) (.cons (.refl _) (.cons (.refl _) (.cons (.refl _) (.cons (.refl _) (.cons (.refl _) (.cons (.refl _) (.nil))))))))))))) ?_
         exact cut_go () (by assumption) (by repeat' (first | exact trivial | refine And.intro rfl ?_)) (by repeat' (first | exact trivial | refine And.intro (.inl rfl) ?_ | refine And.intro (.inr rfl) ?_ | refine And.intro rfl ?_)))
      | exact endM_pick [] [] (.kb true) (view_of rfl .nil) rfl rfl (fun k hk => by rw [hX] at hk; exact absurd hk (Nat.not_lt_zero _)) ⟨.inr rfl, rfl⟩
      | trace_state
  refine pw_cut 1 (fun _ : Bool => True) (fun b => [(4, .i .i64 0), (5, .ptr 2 0 0), (9, .i .i64 1), (10, .i .i64 0), (13, .i .i64 4), (15, .i .i64 0), (18, .i .i64 0)] ++ fuG b) (fun b => [none, none, some (boxRow [.i .i64 9, .i .i64 (c2V l 0 100), .s ByteArray.empty, .nils]), none, none, none, none, none, none, none, none, none, none] ++ fuH b (c2V l 0 100)) ?_ (fun b _ => ?_)
  · repeat' (first | exact aa | ((conv => whnf) <;> (first | (refine dt_goC (id := 11) [] ?_) | (exfalso; exact ‹¬True› trivial) | refine And.intro ?_ ?_ | (intro _h; first | contradiction | (try simp only [dd] at _h)) | (refine dt_go ?_) | exact rfl | exact True.intro | exact dkk | exact dks | ((first | refine .inl ⟨_, c2At_1 l (by omega), ?_⟩ | refine ⟨_, c2At_1 l (by omega), ?_⟩); (try rintro _ rfl)) | (refine .inr (.inl (.inr (.inl ⟨_, RetM.wka (readStreamF_t _ _ hv hk), ?_⟩))); rintro _ _ ⟨rfl, rfl⟩; refine ⟨⟨rfl, nssA⟩, _, lokA, ?_⟩) | (refine wrap_succ ?_; omega))))
    all_goals (first | contradiction | skip)
    all_goals (conv => whnf)
    all_goals first
      | (refine cut_turn (turn_box (id := 15) (ds := fuYC 13) rfl rfl rfl (.cons (.refl _) (.cons (.refl _) (.cons (.refl _) (.cons (.refl _) (.cons (.refl _) (.cons (.refl _) (.cons (.refl _) (.cons (.refl _) (.cons (.refl _) (.cons (.refl _) (.cons (.refl _) (.nil))))))))))))) ?_
         exact cut_go true trivial (by repeat' (first | exact trivial | refine And.intro rfl ?_)) (by repeat' (first | exact trivial | refine And.intro (.inl rfl) ?_ | refine And.intro (.inr rfl) ?_ | refine And.intro rfl ?_)))
      | (refine cut_turn (turn_box (id := 13) (ds := fuYC 14) rfl rfl rfl (.cons (.refl _) (.cons (.refl _) (.cons (.refl _) (.cons (.refl _) (.cons (.refl _) (.cons (.refl _) (.cons (.refl _) (.cons (.refl _) (.cons (.refl _) (.cons (.refl _) (.cons (.refl _) (.nil))))))))))))) ?_
         exact cut_go false trivial (by repeat' (first | exact trivial | refine And.intro rfl ?_)) (by repeat' (first | exact trivial | refine And.intro (.inl rfl) ?_ | refine And.intro (.inr rfl) ?_ | refine And.intro rfl ?_)))
      | trace_state
  refine wpc_ok _ _ _ _ ?_
  cases b with
  | true =>
    (try dsimp only)
    repeat' (first | exact aa | ((conv => whnf) <;> (first | (exfalso; exact ‹¬True› trivial) | (exfalso; exact ‹¬ _ = _› rfl) | refine And.intro ?_ ?_ | (intro _h; first | contradiction | (try simp only [dd] at _h)) | (refine dt_go ?_) | exact rfl | exact True.intro | exact dkk | exact dks | ((first | refine .inl ⟨_, Ret.wka (isOver_t), ?_⟩ | refine ⟨_, Ret.wka (isOver_t), ?_⟩); (try rintro _ rfl)) | (refine wrap_succ ?_; omega))))
    all_goals (first | contradiction | skip)
    all_goals (conv => whnf)
    all_goals exact endM_pick [] [] (.b true) (view_of rfl .nil) rfl rfl (fun k hk => by rw [hX] at hk; exact absurd hk (Nat.not_lt_zero _)) ⟨.inl rfl, rfl⟩
  | false =>
    (try dsimp only)
    repeat' (first | exact aa | ((conv => whnf) <;> (first | (exfalso; exact ‹¬True› trivial) | (exfalso; exact ‹¬ _ = _› rfl) | refine And.intro ?_ ?_ | (intro _h; first | contradiction | (try simp only [dd] at _h)) | (refine dt_go ?_) | exact rfl | exact True.intro | exact dkk | exact dks | ((first | refine .inl ⟨_, Ret.wka (isOver_t), ?_⟩ | refine ⟨_, Ret.wka (isOver_t), ?_⟩); (try rintro _ rfl)) | (refine wrap_succ ?_; omega))))
    all_goals (first | contradiction | skip)
    all_goals (conv => whnf)
    all_goals exact endM_pick [] [] (.b true) (view_of rfl .nil) rfl rfl (fun k hk => by rw [hX] at hk; exact absurd hk (Nat.not_lt_zero _)) ⟨.inl rfl, rfl⟩
theorem futureLaw (l : List UInt8) : Ret env.P 3 [slL 1 byteC l] (fun r => r = .b true) := (futureM l).toRetB
end Go.Proofs.YtjepdbkphfemmaaDoor
