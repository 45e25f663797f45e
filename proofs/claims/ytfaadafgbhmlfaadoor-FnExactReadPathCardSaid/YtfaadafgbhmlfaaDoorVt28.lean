/- Texts for VReadPathP. -/
import Derived.Test.YtfaadafgbhmlfaaDoorRows
import Derived.Lib.LaidU8
import Derived.LaidLaws
import Derived.Clock
import Derived.MakeChecks
import Derived.Test.YtfaadafgbhmlfaaDoorVt27
import Derived.Test.YtfaadafgbhmlfaaDoorVVrW
namespace Go.Proofs.YtfaadafgbhmlfaaDoor
open Go Go.RowKit
set_option linter.unusedVariables false
set_option linter.unusedSimpArgs false
set_option maxRecDepth 8000
section
attribute [local irreducible] IntKind.wrap
def noP : Pth := ⟨⟨#[]⟩, ⟨#[]⟩, ⟨#[]⟩⟩
noncomputable def rdP (s : ByteArray) : Pth × Int := match lexF s with
  | .err _ c => (noP, c)
  | .ok L => match pPath L 0 with
    | none => (noP, 6)
    | some (x, i) => bif decide ((tkL L i).kind = 4) then (x, 0) else (noP, 6)
theorem rdP_at {s : ByteArray} {L : List Tok} {x : Pth} {a : Nat} (hx : lexF s = .ok L) (hp : pPath L 0 = some (x, a)) (h : (tkL L a).kind = 4) : rdP s = (x, 0) := by
  unfold rdP
  rw [hx]
  dsimp only
  rw [hp]
  dsimp only
  rw [decide_eq_true h]
  rfl
theorem rdP_bad {s : ByteArray} {L : List Tok} {x : Pth} {a : Nat} (hx : lexF s = .ok L) (hp : pPath L 0 = some (x, a)) (h : ¬ (tkL L a).kind = 4) : rdP s = (noP, 6) := by
  unfold rdP
  rw [hx]
  dsimp only
  rw [hp]
  dsimp only
  rw [decide_eq_false h]
  rfl
theorem rdP_no {s : ByteArray} {L : List Tok} (hx : lexF s = .ok L) (hp : pPath L 0 = none) : rdP s = (noP, 6) := by
  unfold rdP
  rw [hx]
  dsimp only
  rw [hp]
theorem rdP_err {s : ByteArray} {l c : Int} (hx : lexF s = .err l c) : rdP s = (noP, c) := by
  unfold rdP
  rw [hx]
noncomputable def rpR (y : Pth × Int) : AV := .tup [.agg y.1.cs, .i .i64 y.2]
set_option maxHeartbeats 4000000 in
theorem ReadPathS_ok (s : ByteArray) : Ret env.P 4 [.s s] (fun r => r = rpR (rdP s)) := by
  have hlx := l05Tokens_ok s
  cases hx : lexF s with
  | err l c =>
    rw [hx] at hlx
    have hc : c = 6 ∨ c = 4 := lexF_err hx
    have hlx : Ret env.P 7 [.s s] (fun r => r = .tup [.nils, .i .i64 l, .i .i64 c]) := hlx
    refine ret_of (nt := 36) (rvs := [.cell 2 23, .tmp 3]) Tryd.func4 rfl rfl rfl rfl (fun X => ?_)
    repeat' (first | omega | (with_reducible show (_ : Int) < _; dsimp only; omega) | (with_reducible show (_ : Nat) ≤ _; dsimp only; omega) | ((with_reducible show SrcOk _ _ _) <;> (first | exact srcOk_1 rfl | exact srcOk_L (fun _ => ⟨rfl, rfl⟩) | exact srcOk_E (fun _ => ⟨rfl, rfl⟩))) | ((conv => whnf) <;> (first | refine And.intro ?_ ?_ | (intro _h; first | contradiction | (try simp only [dd] at _h)) | (refine dt_go ?_) | exact rfl | exact True.intro | exact dkk | exact dks | ((first | refine .inl ⟨_, hlx, ?_⟩ | refine ⟨_, hlx, ?_⟩); (try rintro _ rfl)) | (refine wrap_succ ?_; omega))))
    all_goals (conv => whnf)
    all_goals first
      | (exfalso; omega)
      | (rw [rdP_err hx]; rfl)
      | trace_state
  | ok L =>
    rw [hx] at hlx
    have hL := lexF_ok hx
    have hlx : Ret env.P 7 [.s s] (fun r => r = .tup [slL 3 tokC L, .i .i64 0, .i .i64 0]) := hlx
    refine RetM.toRetG ?_
    refine ret_ofM (nt := 36) (rvs := [.cell 2 23, .tmp 3]) Tryd.func4 rfl rfl rfl rfl (fun X hX => ?_)
    repeat' (first | omega | (with_reducible show (_ : Int) < _; dsimp only; omega) | (with_reducible show (_ : Nat) ≤ _; dsimp only; omega) | ((with_reducible show SrcOk _ _ _) <;> (first | exact srcOk_1 rfl | exact srcOk_L (fun _ => ⟨rfl, rfl⟩) | exact srcOk_E (fun _ => ⟨rfl, rfl⟩))) | ((conv => whnf) <;> (first | (refine .inr (.inr ⟨_, (fun X => turn_box (id := 1) (ds := pB L 0 false) rfl rfl rfl (.cons (.refl _) (.cons (.refl _) (.cons (.refl _) .nil)))), (fun i _ q => (by cases q)), .inl ⟨[1], _, _, _, pathS_ok L hL 0 hL.pos, viewA, ⟨rfl, rfl⟩, ?_⟩⟩); rintro _ _ (⟨x, a', hp, ha', rfl, rfl⟩ | ⟨hp, x, a', ha', rfl, rfl⟩) <;> refine ⟨rfl, _, lokA, ?_⟩) | refine And.intro ?_ ?_ | (intro _h; first | contradiction | (try simp only [dd] at _h)) | (refine dt_go ?_) | exact rfl | exact True.intro | exact dkk | exact dks | ((first | refine .inl ⟨_, hlx, ?_⟩ | refine ⟨_, hlx, ?_⟩); (try rintro _ rfl)) | ((first | refine .inl ⟨_, Ret.wk (by exact .cons (tWk_rfcp rfl rfl) .nil) (peek_ok L hL a' ha'), ?_⟩ | refine ⟨_, Ret.wk (by exact .cons (tWk_rfcp rfl rfl) .nil) (peek_ok L hL a' ha'), ?_⟩); (try rintro _ rfl)) | (refine wrap_succ ?_; omega))))
    all_goals (first | (conv => whnf) | skip)
    all_goals first
      | exact endM_pick [] [] (.tup [.agg (Pth.cs x), .i .i64 0]) view_none rfl rfl (fun k hk => by rw [hX] at hk; exact absurd hk (Nat.not_lt_zero _)) ⟨by rw [rdP_at hx hp (by assumption)]; rfl, rfl⟩
      | exact endM_pick [] [] (.tup [.agg noP.cs, .i .i64 6]) view_none rfl rfl (fun k hk => by rw [hX] at hk; exact absurd hk (Nat.not_lt_zero _)) ⟨by rw [rdP_bad hx hp (by assumption)]; rfl, rfl⟩
      | exact endM_pick [] [] (.tup [.agg noP.cs, .i .i64 6]) view_none rfl rfl (fun k hk => by rw [hX] at hk; exact absurd hk (Nat.not_lt_zero _)) ⟨by rw [rdP_no hx hp]; rfl, rfl⟩
      | trace_state
set_option maxHeartbeats 4000000 in
theorem readPath1_ok (L : List Tok) (hL : LexOk L) : RetM env.P 11 [some (boxRow (pB L 0 false)), some (boxRow noP.cs)] [.ptr 0 0 0, .ptr 1 0 0] (fun r H => r = .tup [] ∧ ((∃ x a', pPath L 0 = some (x, a') ∧ a' < L.length ∧ H = [some (boxRow (pB L a' false)), some (boxRow (Pth.cs x))]) ∨ (pPath L 0 = none ∧ ∃ x a', a' < L.length ∧ H = [some (boxRow (pB L a' true)), some (boxRow (Pth.cs x))]))) := by
  refine ret_ofM (nt := 5) (rvs := []) Tryd.func11 rfl rfl rfl rfl (fun X hX => ?_)
  repeat' (first | omega | (with_reducible show (_ : Int) < _; dsimp only; omega) | (with_reducible show (_ : Nat) ≤ _; dsimp only; omega) | ((with_reducible show SrcOk _ _ _) <;> (first | exact srcOk_1 rfl | exact srcOk_L (fun _ => ⟨rfl, rfl⟩) | exact srcOk_E (fun _ => ⟨rfl, rfl⟩))) | ((conv => whnf) <;> (first | (refine .inr (.inl (.inl ⟨[0], _, _, _, pathI_ok L hL 0 hL.pos, viewA, ⟨rfl, rfl⟩, ?_⟩)); (rintro _ _ (⟨x, a', hp, ha', rfl, rfl⟩ | ⟨hp, x, a', ha', rfl, rfl⟩)) <;> (refine ⟨rfl, _, lokA, ?_⟩)) | refine And.intro ?_ ?_ | (intro _h; first | contradiction | (try simp only [dd] at _h)) | (refine dt_go ?_) | exact rfl | exact True.intro | exact dkk | exact dks | (refine wrap_succ ?_; omega))))
  all_goals (first | (conv => whnf) | skip)
  all_goals refine endM_turn (turn_box (id := 1) (ds := Pth.cs x) rfl rfl rfl (.cons (.refl _) (.cons (.refl _) (.cons (.refl _) .nil)))) ?_
  · exact endM_pick [0, 1] [some (boxRow (pB L a' false)), some (boxRow (Pth.cs x))] (.tup []) viewA rfl rfl (by rw [hX]; exact keepK (n := 2) rfl rfl) ⟨rfl, .inl ⟨x, a', hp, ha', rfl⟩⟩
  · exact endM_pick [0, 1] [some (boxRow (pB L a' true)), some (boxRow (Pth.cs x))] (.tup []) viewA rfl rfl (by rw [hX]; exact keepK (n := 2) rfl rfl) ⟨rfl, .inr ⟨hp, x, a', ha', rfl⟩⟩
set_option maxHeartbeats 4000000 in
theorem wholeP_ok (s : ByteArray) : RetM env.P 10 [some (boxRow noP.cs)] [.s s, .fn 11 [.ptr 0 0 0]] (fun r H => (∃ l c, r = .tup [.i .i64 l, .i .i64 c] ∧ ¬ c = 0 ∧ rdP s = (noP, c) ∧ H = [some (boxRow noP.cs)]) ∨ (∃ l x, r = .tup [.i .i64 l, .i .i64 6] ∧ rdP s = (noP, 6) ∧ H = [some (boxRow (Pth.cs x))]) ∨ (∃ x, r = .tup [.i .i64 0, .i .i64 0] ∧ rdP s = (x, 0) ∧ H = [some (boxRow (Pth.cs x))])) := by
  have hlx := tokens_ok s
  cases hx : lexF s with
  | err l c =>
    rw [hx] at hlx
    have hc : c = 6 ∨ c = 4 := lexF_err hx
    have hlx : Ret env.P 18 [.s s] (fun r => r = .tup [.nils, .i .i64 l, .i .i64 c]) := hlx
    refine ret_ofM (nt := 49) (rvs := [.tmp 4, .tmp 5]) Tryd.func10 rfl rfl rfl rfl (fun X hX => ?_)
    repeat' (first | omega | (with_reducible show (_ : Int) < _; dsimp only; omega) | (with_reducible show (_ : Nat) ≤ _; dsimp only; omega) | ((with_reducible show SrcOk _ _ _) <;> (first | exact srcOk_1 rfl | exact srcOk_L (fun _ => ⟨rfl, rfl⟩) | exact srcOk_E (fun _ => ⟨rfl, rfl⟩))) | ((conv => whnf) <;> (first | refine And.intro ?_ ?_ | (intro _h; first | contradiction | (try simp only [dd] at _h)) | (refine dt_go ?_) | exact rfl | exact True.intro | exact dkk | exact dks | ((first | refine .inl ⟨_, hlx, ?_⟩ | refine ⟨_, hlx, ?_⟩); (try rintro _ rfl)) | (refine wrap_succ ?_; omega))))
    all_goals (conv => whnf)
    all_goals first
      | (exfalso; omega)
      | exact endM_self (.inl ⟨l, c, rfl, by omega, rdP_err hx, rfl⟩)
  | ok L =>
    rw [hx] at hlx
    have hL := lexF_ok hx
    have hlx : Ret env.P 18 [.s s] (fun r => r = .tup [slL 3 tokC L, .i .i64 0, .i .i64 0]) := hlx
    refine ret_ofM (nt := 49) (rvs := [.tmp 4, .tmp 5]) Tryd.func10 rfl rfl rfl rfl (fun X hX => ?_)
    repeat' (first | omega | (with_reducible show (_ : Int) < _; dsimp only; omega) | (with_reducible show (_ : Nat) ≤ _; dsimp only; omega) | ((with_reducible show SrcOk _ _ _) <;> (first | exact srcOk_1 rfl | exact srcOk_L (fun _ => ⟨rfl, rfl⟩) | exact srcOk_E (fun _ => ⟨rfl, rfl⟩))) | ((conv => whnf) <;> (first | (refine .inr (.inr ⟨_, (fun X => turn_box (id := 1) (ds := pB L 0 false) rfl rfl rfl (.cons (.refl _) (.cons (.refl _) (.cons (.refl _) .nil)))), (fun i _ q => (by cases q)), .inl ⟨[1, 0], _, _, _, readPath1_ok L hL, viewA, ⟨rfl, rfl⟩, ?_⟩⟩); rintro _ _ ⟨rfl, (⟨x, a', hp, ha', rfl⟩ | ⟨hp, x, a', ha', rfl⟩)⟩ <;> refine ⟨rfl, _, lokA, ?_⟩) | refine And.intro ?_ ?_ | (intro _h; first | contradiction | (try simp only [dd] at _h)) | (refine dt_go ?_) | exact rfl | exact True.intro | exact dkk | exact dks | ((first | refine .inl ⟨_, hlx, ?_⟩ | refine ⟨_, hlx, ?_⟩); (try rintro _ rfl)) | (refine wrap_succ ?_; omega))))
    all_goals (first | (conv => whnf) | skip)
    all_goals (try simp only [Int.toNat_natCast] at *)
    · exact endM_pick [0] [some (boxRow (Pth.cs x))] (.tup [.i .i64 (L.getD a' default).line, .i .i64 6]) viewA rfl rfl (by rw [hX]; exact keepK (n := 1) rfl rfl) (.inr (.inl ⟨_, x, rfl, rdP_bad hx hp _h, rfl⟩))
    · exact endM_pick [0] [some (boxRow (Pth.cs x))] (.tup [.i .i64 0, .i .i64 0]) viewA rfl rfl (by rw [hX]; exact keepK (n := 1) rfl rfl) (.inr (.inr ⟨x, rfl, rdP_at hx hp _h, rfl⟩))
    · exact endM_pick [0] [some (boxRow (Pth.cs x))] (.tup [.i .i64 (L.getD a' default).line, .i .i64 6]) viewA rfl rfl (by rw [hX]; exact keepK (n := 1) rfl rfl) (.inr (.inl ⟨_, x, rfl, rdP_no hx hp, rfl⟩))
set_option maxHeartbeats 4000000 in
theorem ReadPathI_ok (s : ByteArray) : Ret env.P 5 [.s s] (fun r => r = rpR (rdP s)) := by
  refine RetM.toRetG ?_
  refine ret_ofM (nt := 18) (rvs := [.cell 2 23, .tmp 3]) Tryd.func5 rfl rfl rfl rfl (fun X hX => ?_)
  repeat' (first | omega | (with_reducible show (_ : Int) < _; dsimp only; omega) | (with_reducible show (_ : Nat) ≤ _; dsimp only; omega) | ((with_reducible show SrcOk _ _ _) <;> (first | exact srcOk_1 rfl | exact srcOk_L (fun _ => ⟨rfl, rfl⟩) | exact srcOk_E (fun _ => ⟨rfl, rfl⟩))) | ((conv => whnf) <;> (first | (refine .inr (.inr ⟨_, (fun X => turn_box (id := 1) (ds := noP.cs) rfl rfl rfl (.cons (.refl _) (.cons (.refl _) (.cons (.refl _) .nil)))), (fun i _ q => (by cases q)), .inl ⟨[1], _, _, _, wholeP_ok s, viewA, ⟨rfl, rfl⟩, ?_⟩⟩); rintro _ _ (⟨l, c, rfl, hc, hr, rfl⟩ | ⟨l, x, rfl, hr, rfl⟩ | ⟨x, rfl, hr, rfl⟩) <;> refine ⟨rfl, _, lokA, ?_⟩) | refine And.intro ?_ ?_ | (intro _h; first | contradiction | (try simp only [dd] at _h)) | (refine dt_go ?_) | exact rfl | exact True.intro | exact dkk | exact dks | (refine wrap_succ ?_; omega))))
  all_goals (first | (conv => whnf) | skip)
  · exact endM_pick [] [] (.tup [.agg noP.cs, .i .i64 c]) view_none rfl rfl (fun k hk => by rw [hX] at hk; exact absurd hk (Nat.not_lt_zero _)) ⟨by rw [hr]; rfl, rfl⟩
  · exact endM_pick [] [] (.tup [.agg noP.cs, .i .i64 6]) view_none rfl rfl (fun k hk => by rw [hX] at hk; exact absurd hk (Nat.not_lt_zero _)) ⟨by rw [hr]; rfl, rfl⟩
  · exact endM_pick [] [] (.tup [.agg (Pth.cs x), .i .i64 0]) view_none rfl rfl (fun k hk => by rw [hX] at hk; exact absurd hk (Nat.not_lt_zero _)) ⟨by rw [hr]; rfl, rfl⟩
end
theorem err_at {w : World} {name : String} {nm : String} {d : DataW Unit} {g t : Nat} {ms : Array (String × TypeId)} (h : Lib.VarReads Tryd.prog w name (.iface nm d)) (hg : Tryd.prog.globalNamed name = some g) (ht : (Tryd.prog.globals[g]?).map (·.type) = some t) (hi : Tryd.prog.underlying t = some (.interface ms)) : ErrAt w g := by
  obtain ⟨g', t', cs, fuel, p, h1, h2, h3, h4⟩ := h
  obtain rfl := Option.some.inj (hg.symm.trans h1)
  obtain rfl := Option.some.inj (ht.symm.trans h2)
  obtain ⟨fuel', u, v, e, _, _⟩ := iface_of_trod hi h4
  refine ⟨.iface u v, ?_, .inr ⟨u, v, rfl⟩⟩
  rw [World.var?_cell hg h3 0, show cs = #[.iface u v] from Array.toList_inj.1 e]
  rfl
theorem int_of_shape {P : Program} {w : World} {g : Nat} {t : TypeId} {zero : Array Value} (h : w.ShapedOpen P) (hg : g < P.globals.size)
    (h0 : ((begin P (fun _ _ => 0) default).world.heap[g]?).bind Obj.row? = some (zero, t)) (hz : zero.size = 1)
    (hb : P.buildable t = true) (hc : P.cellTypes P.depth t = some [t]) (hu : P.underlying t = some (.int .i64)) : ∃ m, w.cell? ⟨g, 0, none⟩ = some (.int .i64 m) := by
  obtain ⟨cs, hh, hs, hr⟩ := h.1 g zero t hg h0
  obtain ⟨ts, hts, _, hall⟩ := hr hb
  rw [hc] at hts
  cases hts
  have h1 : 0 < cs.size := by omega
  obtain ⟨u, hu', hok⟩ := hall 0 cs[0] (by simp [h1])
  have : u = t := by simpa using hu'.symm
  subst this
  have hcell : w.cell? ⟨g, 0, none⟩ = some cs[0] := by simp [World.cell?, hh, h1]
  rw [hcell]
  unfold Cell.ok at hok
  rw [hu] at hok
  cases hv : cs[0] <;> rw [hv] at hok <;> simp_all
theorem tab_at {w : World} {name : String} {k : IntKind} {zs : List Int} {g t e : TypeId} {n : Nat} (h : Lib.VarReads Tryd.prog w name (Lib.tabData k zs)) (hg : Tryd.prog.globalNamed name = some g) (hty : (Tryd.prog.globals[g]?).map (·.type) = some t) (ht : Tryd.prog.underlying t = some (.array n e)) (he : Tryd.prog.underlying e = some (.int k)) (hce : Tryd.prog.cellsOf e = 1) (hct : Tryd.prog.cellsOf t = n) : Lib.TabIs Tryd.prog w name k zs := by
  obtain ⟨g', t', cs, fuel, p, h1, h2, h3, h4⟩ := h
  obtain rfl := Option.some.inj (hg.symm.trans h1)
  obtain rfl := Option.some.inj (hty.symm.trans h2)
  unfold Lib.TabIs
  rw [h3, ← Lib.cells_of_tab ht he hce hct h4]
theorem lw_of {W : World} (h : laidMetH Tryd.prog Rows.fnExactReadPathRow.laid W) (hs : W.ShapedOpen Tryd.prog) : Lw W := by
  rw [MakeChecks.laidMetH_plain _ _ _ (by kernel_rfl)] at h
  refine ⟨?_, ?_, ?_, ?_⟩
  · exact tab_at (Lib.laidMet.reads h (n := "internal/strconv.uint64pow10") (d := Lib.tabData .u64 Lib.pow10Tab) (.tail _ (.tail _ (.head _)))) (g := 5) (by kernel_rfl) (t := 112) (by kernel_rfl) Tryd.underlying112 Tryd.underlying82 (by kernel_rfl) (by kernel_rfl)
  · exact err_at (Lib.laidMet.reads h (n := "strconv.ErrSyntax") (d := Rows.laid_strconv_ErrSyntax) (.tail _ (.tail _ (.tail _ (.tail _ (.tail _ (.head _))))))) (by kernel_rfl) (t := 70) (by kernel_rfl) Tryd.underlying70
  · exact err_at (Lib.laidMet.reads h (n := "strconv.ErrRange") (d := Rows.laid_strconv_ErrRange) (.tail _ (.tail _ (.tail _ (.tail _ (.head _)))))) (by kernel_rfl) (t := 70) (by kernel_rfl) Tryd.underlying70
  · exact int_of_shape hs (g := 0) (Nat.blt_eq.mp (by kernel_rfl)) (t := 3) (zero := #[.int .i64 0]) (by kernel_rfl) rfl (by kernel_rfl) (by kernel_rfl) Tryd.underlying3
end Go.Proofs.YtfaadafgbhmlfaaDoor
