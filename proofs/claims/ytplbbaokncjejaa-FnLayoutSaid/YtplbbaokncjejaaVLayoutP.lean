/-
  The law FnLayout: its walk.
-/
import Derived.Test.YtplbbaokncjejaaVLyE
import Derived.Test.YtplbbaokncjejaaVTpD
import Derived.Test.YtplbbaokncjejaaVTpQ
import Derived.Test.YtplbbaokncjejaaVTpO
import Derived.Test.YtplbbaokncjejaaVLayoutG
namespace Go.Proofs.Ytplbbaokncjejaa
open Go Go.RowKit
set_option linter.unusedVariables false
set_option linter.unusedSimpArgs false
attribute [local irreducible] IntKind.wrap

set_option maxRecDepth 8000 in
theorem drawSize_of (hAny : ∀ s : Src, s.rm 4000 → RetM env.P 22 [some (boxRow s.cs)] [.ptr 0 0 0] (LtP 4000 s)) (l : List UInt8) (hl : l.length ≤ 1048576) : RetM env.P 5 [] [slL 1 byteC l] (fun r H => ∃ (n : Nat) (a : Typ), (n ≤ 12 ∧ Typ.oN (n + 1) a ∧ a.np ≤ 2000) ∧ r = .agg (Typ.pN (n + 2) a) ∧ H = []) := by
  refine RetM.frz [] rfl plainH_nil ?_
  refine ret_ofM (nt := 6) (rvs := [.cell 2 27]) Try.func5 rfl rfl rfl rfl (fun X hX => ?_)
  repeat' (first | exact aa | ((conv => whnf) <;> (first | refine And.intro ?_ ?_ | (intro _h; first | contradiction | (try simp only [dd] at _h)) | (refine dt_go ?_) | exact rfl | exact True.intro | exact dkk | exact dks | (refine .inr (.inl (.inl ⟨[], _, _, _, from_gen l hl, viewA, ⟨rfl, rfl⟩, ?_⟩)); rintro _ _ ⟨s, ⟨hs1, hs2⟩, rfl, rfl⟩; refine ⟨rfl, _, lokA, ?_⟩) | (refine .inr (.inl (.inl ⟨[1], _, _, _, l09_of hAny s (Src.rm_i (by omega) (by omega) (by omega)), viewA, ⟨rfl, rfl⟩, ?_⟩)); rintro _ _ ⟨n, a, t, hn, ht, rfl, rfl⟩; refine ⟨rfl, _, lokA, ?_⟩) | (refine wrap_succ ?_; omega))))
  all_goals (conv => whnf)
  all_goals exact endM_self ⟨[], .agg (Typ.pN (n + 2) a), view_none, frz_agg (.cons (.refl _) (.cons (.refl _) (.cons (.refl _) (.cons (.refl _) .nil)))), n, a, hn, rfl, rfl⟩
/-! What is known of a valid type. -/
theorem unit_good : unitT.good := by
  refine ⟨Typ.fN_get.2 fun k hk => absurd hk (Nat.not_lt_zero _), by rw [unit_np]; decide, ?_⟩
  exact Typ.sh_eq.2 ⟨⟨fun h => absurd h (show ¬ ((1 : Int) = 20 ∨ (1 : Int) = 21) by decide), fun _ => rfl, fun h => absurd h (show ¬ ((16 : Int) ≤ 1 ∧ (1 : Int) ≤ 19) by decide), fun _ => rfl, ⟨fun h => absurd h (show ¬ ((1 : Int) = 12 ∨ (1 : Int) = 13) by decide), fun h => absurd h (show ¬ ((1 : Int) = 22 ∨ (1 : Int) = 23) by decide), fun h => absurd h (show ¬ ((1 : Int) = 14) by decide), fun h => absurd h (show ¬ ((1 : Int) = 15) by decide), fun h => absurd h (show ¬ ((1 : Int) = 16) by decide), fun h => absurd h (show ¬ ((1 : Int) = 17) by decide), fun _ => ⟨⟨show (1 : Int) ≤ 1 by decide, show (1 : Int) ≤ 23 by decide⟩, rfl⟩⟩⟩, fun k hk => absurd hk (Nat.not_lt_zero _)⟩
theorem kid_good {a : Typ} (h : a.good) {k : Nat} (hk : k < a.kids.length) : (a.kids.getD k default).good := ⟨Typ.fN_up _ _ (Typ.fN_get.1 h.1 k hk), by have := Typ.np_kid hk; have := h.2.1; omega, (Typ.sh_eq.1 h.2.2).2 k hk⟩
theorem cas_good {a : Typ} (h : a.good) : ∀ k, k < a.cas.length → (a.cas.getD k default).good := cas_all unit_good (fun e => by rw [((Typ.sh_eq.1 h.2.2).1.ks.k1 (by omega)).1]; exact Nat.le_refl _) (fun k hk => kid_good h hk)
theorem cas_oN {n : Nat} {a : Typ} (h : a.good) (ho : Typ.oN (n + 1) a) : ∀ k, k < a.cas.length → Typ.oN (n + 1) (a.cas.getD k default) := cas_all (oN_unit _) (fun e => by rw [((Typ.sh_eq.1 h.2.2).1.ks.k1 (by omega)).1]; exact Nat.le_refl _) (fun k hk => Typ.oN_up _ _ (Typ.oN_kid ho hk))
theorem cas_cs {a : Typ} (h : 0 < a.cas.length) : isCs a.kind := by
  unfold Typ.cas at h
  unfold isCs
  split at h
  · omega
  · split at h
    · omega
    · exact absurd h (Nat.not_lt_zero _)
theorem tmod_0 {x y : Nat} (h : y ∣ x) : (x : Int).tmod (y : Int) = 0 := Int.tmod_eq_zero_of_dvd (Int.natCast_dvd_natCast.2 h)
/-- What the law asks of a case (as the program's numbers). -/
theorem cas_law {a : Typ} (h : a.good) {k : Nat} (hk : k < a.cas.length) : (1 : Int) ≤ ifG (a.good ∧ isCs a.kind) (rup 1 (maxK Typ.al 1 a.cas a.cas.length)) ∧ (1 : Int) ≤ ((a.cas.getD k default).al : Nat) ∧ (ifG (a.good ∧ isCs a.kind) (rup 1 (maxK Typ.al 1 a.cas a.cas.length))).tmod ((a.cas.getD k default).al : Nat) = 0 ∧ ¬ IntKind.i64.wrap (ifG (a.good ∧ isCs a.kind) (rup 1 (maxK Typ.al 1 a.cas a.cas.length)) + ((a.cas.getD k default).sz' : Nat)) > (a.sz' : Nat) := by
  have hc := cas_cs (Nat.lt_of_le_of_lt (Nat.zero_le k) hk)
  have h1 : a.kind = 13 → a.kids.length = 1 := fun e => ((Typ.sh_eq.1 h.2.2).1.ks.k1 (by omega)).1
  obtain ⟨⟨q, hq⟩, h2, h3, h4⟩ := cas_fits h.2.2 hc hk
  have hb := Typ.sz_b h.2.2
  have hn := h.2.1
  rw [← ifG_t ⟨h, hc⟩, cas_al hc h1]
  generalize rup 1 (maxK Typ.al 1 a.kids a.kids.length) = x at *
  refine ⟨by omega, by omega, tmod_0 ⟨q, by rw [hq, Nat.mul_comm]⟩, ?_⟩
  rw [wrap_in (by omega) (by omega)]
  omega
set_option maxRecDepth 8000 in
set_option maxHeartbeats 8000000 in
theorem layoutLaw_of (hAny : ∀ s : Src, s.rm 4000 → RetM env.P 22 [some (boxRow s.cs)] [.ptr 0 0 0] (LtP 4000 s)) (l m : List UInt8) : RetM env.P 3 [] [slL 1 byteC l, slL 1 byteC m] (fun r H => (r = .b true ∨ r = .kb true) ∧ H = []) := by
  by_cases hl : 1048576 < (l.length : Int) ∨ 1048576 < (m.length : Int)
  · have hb := b10Long_ok l m
    rw [pb_t.mpr hl] at hb
    refine ret_ofM (nt := 86) (rvs := [.tmp 4]) Try.func3 rfl rfl rfl rfl (fun X hX => ?_)
    repeat' (first | exact aa | ((conv => whnf) <;> (first | refine And.intro ?_ ?_ | (intro _h; first | contradiction | (try simp only [dd] at _h)) | (refine dt_go ?_) | exact rfl | exact True.intro | exact dkk | exact dks | ((first | refine .inl ⟨_, hb, ?_⟩ | refine ⟨_, hb, ?_⟩); (try rintro _ rfl)) | (refine wrap_succ ?_; omega))))
    all_goals (conv => whnf)
    all_goals exact endM_pick [] [] (.kb true) (view_of rfl .nil) rfl rfl (fun k hk => by rw [hX] at hk; exact absurd hk (Nat.not_lt_zero _)) ⟨.inr rfl, rfl⟩
  · have hb := b10Long_ok l m
    rw [pb_f.mpr hl] at hb
    refine ret_ofM (nt := 86) (rvs := [.tmp 4]) Try.func3 rfl rfl rfl rfl (fun X hX => ?_)
    repeat' (first | exact aa | ((conv => whnf) <;> (first | refine And.intro ?_ ?_ | (intro _h; first | contradiction | (try simp only [dd] at _h)) | (refine dt_go ?_) | exact rfl | exact True.intro | exact dkk | exact dks | ((first | refine .inl ⟨_, hb, ?_⟩ | refine ⟨_, hb, ?_⟩); (try rintro _ rfl)) | (refine .inr (.inl (.inl ⟨[], _, _, _, drawSize_of hAny l (by omega), viewA, ⟨rfl, rfl⟩, ?_⟩)); rintro _ _ ⟨n, a, ⟨hn, ho, hnp⟩, rfl, rfl⟩; refine ⟨rfl, _, lokA, ?_⟩) | (refine wrap_succ ?_; omega))))
    have ho2 := Typ.oN_up _ _ ho
    have hT := typeOk_spec ho2
    have hS := sizeOf_impl ho2 (by omega)
    have hA := alignOf_impl ho2 (by omega)
    by_cases hg : a.good
    · rw [pb_t.mpr hg] at hT
      rw [← ifG_t hg] at hS hA
      have hC : Ret env.P 9 [.agg (Typ.pN (n + 2) a)] (fun r => r = slL 4 (Typ.pN (n + 3)) a.cas) := (casesOf_impl ho2 (by omega)).mono fun r h => by
        rcases h with h | h
        · exact h.2
        · exact absurd hg h.1
      have hK := caseAt_impl ho2 (by omega)
      have hF : ∀ k, k < a.cas.length → _ := fun k hk => cas_law hg hk
      have hal := (Typ.al_p hg.2.2).pos
      have hrem := tmod_0 (Typ.al_sz hg.2.2)
      have hcl : a.cas.length ≤ 1048576 := cas_len (Typ.oN_len ho)
      generalize ifG (a.good ∧ isCs a.kind) (rup 1 (maxK Typ.al 1 a.cas a.cas.length)) = x at *
      repeat' (first | exact aa | ((conv => whnf) <;> (first | (exfalso; exact ‹¬True› trivial) | (exfalso; exact ‹¬ (a.sz' : Int).tmod (a.al : Int) = 0› hrem) | refine loopN a.cas.length (fun k => [(10, .i .i64 k)]) (fun k => []) (fun k => True) ⟨trivial, ?_⟩ | refine And.intro ?_ ?_ | (intro _h; first | contradiction | (try simp only [dd] at _h)) | (refine dt_go ?_) | exact rfl | exact True.intro | exact dkk | exact dks | ((first | refine .inl ⟨_, hT, ?_⟩ | refine ⟨_, hT, ?_⟩); (try rintro _ rfl)) | ((first | refine .inl ⟨_, hS, ?_⟩ | refine ⟨_, hS, ?_⟩); (try rintro _ rfl)) | ((first | refine .inl ⟨_, hA, ?_⟩ | refine ⟨_, hA, ?_⟩); (try rintro _ rfl)) | ((first | refine .inl ⟨_, hC, ?_⟩ | refine ⟨_, hC, ?_⟩); (try rintro _ rfl)) | ((first | refine .inl ⟨_, hK, ?_⟩ | refine ⟨_, hK, ?_⟩); (try rintro _ rfl)) | (refine wrap_succ ?_; omega))))
      · rename_i k _ _
        have hk : k < a.cas.length := by omega
        obtain ⟨f1, f2, f3, f4⟩ := hF k hk
        have hgk := cas_good hg k hk
        have hok := Typ.oN_up _ _ (cas_oN hg ho2 k hk)
        have hnk := hgk.2.1
        have hAk := alignOf_impl hok (by omega)
        have hSk := sizeOf_impl hok (by omega)
        rw [← ifG_t hgk] at hAk hSk
        repeat' (first | exact aa | ((conv => whnf) <;> (first | (exfalso; exact ‹¬True› trivial) | (exfalso; exact ‹¬ x.tmod _ = 0› f3) | (exfalso; exact f4 ‹_›) | refine And.intro ?_ ?_ | (intro _h; first | contradiction | (try simp only [dd] at _h)) | (refine dt_go ?_) | exact rfl | exact True.intro | exact dkk | exact dks | ((first | refine .inl ⟨_, hAk, ?_⟩ | refine ⟨_, hAk, ?_⟩); (try rintro _ rfl)) | ((first | refine .inl ⟨_, hSk, ?_⟩ | refine ⟨_, hSk, ?_⟩); (try rintro _ rfl)) | (refine wrap_succ ?_; omega))))
        all_goals trace_state
      · conv => whnf
        exact endM_pick [] [] (.kb true) (view_of rfl .nil) rfl rfl (fun k hk => by rw [hX] at hk; exact absurd hk (Nat.not_lt_zero _)) ⟨.inr rfl, rfl⟩
    · rw [pb_f.mpr hg] at hT
      rw [← ifG_f hg] at hS hA
      repeat' (first | exact aa | ((conv => whnf) <;> (first | (exfalso; exact ‹¬True› trivial) | refine And.intro ?_ ?_ | (intro _h; first | contradiction | (try simp only [dd] at _h)) | (refine dt_go ?_) | exact rfl | exact True.intro | exact dkk | exact dks | ((first | refine .inl ⟨_, hT, ?_⟩ | refine ⟨_, hT, ?_⟩); (try rintro _ rfl)) | ((first | refine .inl ⟨_, hS, ?_⟩ | refine ⟨_, hS, ?_⟩); (try rintro _ rfl)) | ((first | refine .inl ⟨_, hA, ?_⟩ | refine ⟨_, hA, ?_⟩); (try rintro _ rfl)) | (refine wrap_succ ?_; omega))))
      all_goals (conv => whnf)
      all_goals exact endM_pick [] [] (.b true) (view_of rfl .nil) rfl rfl (fun k hk => by rw [hX] at hk; exact absurd hk (Nat.not_lt_zero _)) ⟨.inl rfl, rfl⟩
end Go.Proofs.Ytplbbaokncjejaa

namespace Go.Proofs.Ytplbbaokncjejaa
open Go Go.RowKit
set_option linter.unusedVariables false
set_option linter.unusedSimpArgs false

theorem any_all (s : Src) (hs : s.rm 4000) : RetM env.P 22 [some (boxRow s.cs)] [.ptr 0 0 0] (LtP 4000 s) := RetM.mono (any_of (fun q hq s hs D hD => draw_O q (by omega) s hs D hD) (some_C 1 (by decide)) s hs) fun r H h => h
theorem layoutLaw (l m : List UInt8) : Ret env.P 3 [slL 1 byteC l, slL 1 byteC m] (fun r => r = .b true) := (layoutLaw_of any_all l m).toRetP

namespace fnLayout
theorem law_ret (dss : List (List AV)) (h : TyCs Try.prog Try.f3.params.toList dss) : Ret Try.prog 3 (mkArgs Try.prog Try.f3.params.toList dss) fun r => r = .b true := by
  obtain ⟨d0, r0, rfl, h0, h⟩ := h.cons_inv
  obtain ⟨d1, r1, rfl, h1, h⟩ := h.cons_inv
  obtain rfl := h.nil_inv
  obtain ⟨l, hl⟩ := arg_one (c := fun l => slL 1 byteC l) (rd_sl Try.underlying22 (by kernel_rfl) (rd_u8 Try.underlying5)) (by kernel_rfl) h0
  obtain ⟨m, hm⟩ := arg_one (c := fun l => slL 1 byteC l) (rd_sl Try.underlying22 (by kernel_rfl) (rd_u8 Try.underlying5)) (by kernel_rfl) h1
  exact Ret.wk (.cons hl (.cons hm .nil)) (layoutLaw l m)
end fnLayout
end Go.Proofs.Ytplbbaokncjejaa
namespace Go.Proofs.Ytplbbaokncjejaa.fnLayout
open Go.ChangeShapes Go.WideShapes Go.ChangeAt Go.RowKit
set_option linter.unusedVariables false

theorem own : ownKnob Try.prog.godebug = none := by kernel_rfl

set_option maxRecDepth 100000 in
theorem lifted (os : Os) (started : os.Started) (H : Type) (enc : TypeId × Go.Value → H) :
    ReturnsInHanded {} Try.checked os 3 .any (Rows.fnLayoutSpec.pre6 enc Try.prog Try.f3 Rows.fnLayoutRow.domain false) (Rows.fnLayoutSpec.post enc Try.prog Try.f3 false true false false) := by
  refine returnsInHanded_of_change (C := Try.checked) own started (by kernel_rfl) Try.func3
    (ChangeSpec.witness6 (enc := enc) (C := Try.checked) false ⟨#[], #[.slice none 0 0, .slice none 0 0], []⟩ 8 (by kernel_rfl) (by kernel_rfl) (by kernel_rfl) (by kernel_rfl)) ?_
  intro W base args ds gs before hval0 hW hcnd _
  refine law_end (k := closeT Try.prog 9 Try.f3.params.toList) rfl (by kernel_rfl) (by kernel_rfl) rfl Try.underlying4 ?_ (fun dss h => law_ret dss h) hval0 hW ⟨fun _ _ => trivial⟩
  · rintro ds hl
    match ds, hl with
    | [_, _], _ => rfl

theorem over : Rows.fnLayoutRow.holds Try.pinned (OpenSpec.ofChange Rows.fnLayoutSpec) :=
  OpenClaim.holds_of_wide 3 Try.f3 rfl rfl rfl rfl rfl rfl rfl ⟨rfl, rfl, rfl, rfl, rfl⟩ rfl rfl rfl rfl rfl fact_named Try.func3 fact_joined fact_inst fact_wrap
    (fun os started H enc _ => lifted os started H enc)

theorem proved : Rows.FnLayoutSaid :=
  over
end Go.Proofs.Ytplbbaokncjejaa.fnLayout
