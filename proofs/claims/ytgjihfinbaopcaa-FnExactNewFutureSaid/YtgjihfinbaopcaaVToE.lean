/-
  Copies of types, held alone (the program) and frozen (the reference).
-/
import Derived.Test.YtgjihfinbaopcaaVToC
import Derived.Test.YtgjihfinbaopcaaVTpD
import Derived.Test.YtgjihfinbaopcaaVTpN
import Derived.Test.YtgjihfinbaopcaaVFz
import Derived.Test.YtgjihfinbaopcaaVZ
namespace Go.Proofs.Ytgjihfinbaopcaa
open Go Go.RowKit
set_option linter.unusedVariables false
set_option linter.unusedSimpArgs false

theorem endM_nil1 {X : Ctx} {H : Hp} {sz : Nat} {g : Nat → Nat → AV} {post : AV → Hp → Prop} (k : EndM X (H ++ [some ⟨sz, 0, g, .arr⟩]) (.row H.length 0) post) : EndM X H .nils post := ⟨fun w blk FP u hR hc he => by
  have hext := HExt.push H blk (some ⟨sz, 0, g, .arr⟩) ⟨0, 0⟩
  have hnew : ∀ id, id < H.length → (fun id => if id = H.length then ([] : List Nat) else FP id) id = FP id := fun id h => if_neg (by omega)
  have hnewb : ∀ id, id < H.length → (fun id => if id = H.length then (⟨0, 0⟩ : BC) else blk id) id = blk id := fun id h => if_neg (by omega)
  have hend : (fun id => if id = H.length then ([] : List Nat) else FP id) H.length = [] := if_pos rfl
  have hendb : (fun id => if id = H.length then (⟨0, 0⟩ : BC) else blk id) H.length = ⟨0, 0⟩ := if_pos rfl
  generalize hFP : (fun id => if id = H.length then ([] : List Nat) else FP id) = FP' at hnew hend
  generalize hBL : (fun id => if id = H.length then (⟨0, 0⟩ : BC) else blk id) = blk' at hnewb hendb hext
  have hS : X.S FP' (H ++ [some ⟨sz, 0, g, .arr⟩]) w.heap.size = X.S FP H w.heap.size := by
    funext b
    apply propext
    constructor
    · rintro ⟨h1, h2, h3⟩
      refine ⟨h1, h2, fun id r hr => ?_⟩
      have hlt := (List.getElem?_eq_some_iff.1 hr).1
      have := h3 id r (by rw [List.getElem?_append_left hlt]; exact hr)
      rwa [hnew id hlt] at this
    · rintro ⟨h1, h2, h3⟩
      refine ⟨h1, h2, fun id r hr => ?_⟩
      rcases old_or_new hr with ⟨hlt, ho⟩ | ⟨rfl, _⟩
      · rw [hnew id hlt]
        exact h3 id r ho
      · rw [hend]
        exact List.not_mem_nil
  obtain ⟨r', H2, b2, F2, q1, q2, q3, q4, q5⟩ := k.h w blk' FP' u (by
    rw [hS]
    refine ⟨fun id r hr => ?_, fun i j r r' hi hj hij b hb => ?_, fun b hb => ⟨(hR.free b hb).1, fun id r hr => ?_⟩⟩
    · rcases old_or_new hr with ⟨hlt, ho⟩ | ⟨rfl, rfl⟩
      · rw [hnew id hlt, hnewb id hlt]
        exact ⟨(hR.rows id r ho).1.mono (fun b hb => ⟨hb, rfl⟩) hext (fun _ _ => rfl), (hR.rows id r ho).2⟩
      · rw [hend, hendb]
        exact ⟨.inl ⟨rfl, rfl, .inl ⟨rfl, rfl⟩⟩, fun b hb => absurd hb List.not_mem_nil⟩
    · rcases old_or_new hi with ⟨hlt, ho⟩ | ⟨rfl, rfl⟩
      · rcases old_or_new hj with ⟨hlt', ho'⟩ | ⟨rfl, rfl⟩
        · rw [hnew i hlt] at hb
          rw [hnew j hlt']
          exact hR.apart i j r r' ho ho' hij b hb
        · rw [hend]
          exact List.not_mem_nil
      · rw [hend] at hb
        exact absurd hb List.not_mem_nil
    · rcases old_or_new hr with ⟨hlt, ho⟩ | ⟨rfl, rfl⟩
      · rw [hnew id hlt]
        exact (hR.free b hb).2 id r ho
      · rw [hend]
        exact List.not_mem_nil) (by
    rw [hS]
    have e2 := inv_nils hc
    subst e2
    exact .row0 ⟨sz, 0, g, .arr⟩ (by rw [List.getElem?_append_right (Nat.le_refl _), Nat.sub_self]; rfl) rfl (by rw [hendb]) none) (he.trans hext)
  refine ⟨r', H2, b2, F2, q1, q2, q3, q4, fun b hb => ?_⟩
  obtain ⟨id, r, hr, hm⟩ := q5 b hb
  rcases old_or_new hr with ⟨hlt, ho⟩ | ⟨rfl, _⟩
  · rw [hnew id hlt] at hm
    exact ⟨id, r, ho, hm⟩
  · rw [hend] at hm
    exact absurd hm List.not_mem_nil⟩
theorem tarr_zero {r : List Nat} {n sz cap cap' : Nat} {e e' : Nat → Nat → AV} {k : RK} (hc : cap = 0) (hc' : cap' = 0) : ArrP r n ⟨sz, cap, e, k⟩ ⟨sz, cap', e', k⟩ := by
  subst hc hc'
  exact ⟨rfl, rfl, rfl, fun i j hi => absurd hi (Nat.not_lt_zero _), fun i j hi => absurd hi (Nat.not_lt_zero _)⟩
theorem tcat_k {n : Nat} {es g : Nat → Nat → AV} {j : Nat} : catE n es g n j = g 0 j := by rw [catE_at, if_neg (Nat.lt_irrefl n), Nat.sub_self]
theorem tupd_cat {n : Nat} {es g : Nat → Nat → AV} {v : AV} : upd (catE n es g) n 2 [v] n 3 = g 0 3 := by rw [upd_out (by simp), tcat_k]
theorem tlbz_rho {X : Ctx} {r : List Nat} {id : Nat} (hX : X.H0 = []) (h : id < X.H0.length) : rhoF r id = id := by rw [hX] at h; exact absurd h (Nat.not_lt_zero _)
set_option maxRecDepth 8000 in
theorem cloneStrO (l : List ByteArray) (hl : l.length ≤ 1048576) : RetM env.P 39 [] [slL 1 strC l] (fun r H => r = .row 0 l.length ∧ H = [some (rowL 1 strC l)]) := by
  refine ret_ofM (nt := 8) (rvs := [.tmp 2]) Try.func39 rfl rfl rfl rfl (fun X hX => ?_)
  repeat' (first | exact aa | ((conv => whnf) <;> (first | exact capB hl (by decide) | exact capN hl | refine And.intro ?_ ?_ | (intro _h; first | contradiction | (try simp only [dd] at _h)) | (refine dt_go ?_) | exact rfl | exact True.intro | exact dkk | exact dks | (refine wrap_succ ?_; omega))))
  all_goals (conv => whnf)
  · have e : l = [] := List.length_eq_zero_iff.1 ‹_›
    subst e
    refine endM_nil1 (sz := 1) (g := elE strC []) ?_
    exact endM_pick [0] [some (rowL 1 strC [])] (.row 0 0) viewA rfl rfl (fun k hk => by rw [hX] at hk; exact absurd hk (Nat.not_lt_zero _)) ⟨rfl, rfl⟩
  · have e := Nat.zero_add l.length
    refine endM_turn (turn_eq (id := 1) (x := rowL 1 strC l) rfl rfl e.symm rfl rfl (fun i j hi hj => by
      dsimp only
      rw [catE_at, if_neg (Nat.not_lt_zero _), Nat.sub_zero]
      exact .refl _)) ?_
    exact endM_pick [1] [some (rowL 1 strC l)] (.row 0 l.length) viewA (show AV.row 1 (0 + l.length) = AV.row 1 l.length by rw [e]) rfl (fun k hk => by rw [hX] at hk; exact absurd hk (Nat.not_lt_zero _)) ⟨rfl, rfl⟩
theorem tgetD_take {l : List Typ} {k i : Nat} (h : i < k) : (l.take k).getD i default = l.getD i default := by
  rw [List.getD_eq_getElem?_getD, List.getD_eq_getElem?_getD, List.getElem?_take, if_pos h]
theorem snoc_typ {n k : Nat} {l : List Typ} {g : Nat → Nat → AV} {v u : AV} (hk : k < l.length) (h0 : g 0 0 = .i .i64 (l.getD k default).kind) (h1 : g 0 1 = .s (l.getD k default).name) (hv : OwEq v (owL 1 strC (l.getD k default).labels)) (hu : OwEq u (owL 4 (Typ.pO n) (l.getD k default).kids)) : ∀ i j, i < k + 1 → j < 4 → OwEq (upd (upd (catE k (elE (Typ.pO (n + 1)) (l.take k)) g) k 2 [v]) k 3 [u] i j) (elE (Typ.pO (n + 1)) (l.take (k + 1)) i j) := fun i j hi hj => by
  by_cases e1 : i = k
  · subst e1
    have hr : elE (Typ.pO (n + 1)) (l.take (i + 1)) i j = (Typ.pO (n + 1) (l.getD i default)).getD j .any := by
      unfold elE
      rw [tgetD_take (Nat.lt_succ_self i)]
    rw [hr]
    rcases (show j = 0 ∨ j = 1 ∨ j = 2 ∨ j = 3 by omega) with rfl | rfl | rfl | rfl
    · rw [upd_out (by omega), upd_out (by omega), tcat_k, h0]; exact .refl _
    · rw [upd_out (by omega), upd_out (by omega), tcat_k, h1]; exact .refl _
    · rw [upd_out (by simp), show (2 : Nat) = 2 + 0 from rfl, upd_in (Nat.lt_succ_self 0)]
      exact hv
    · rw [show (3 : Nat) = 3 + 0 from rfl, upd_in (Nat.lt_succ_self 0)]
      exact hu
  · rw [upd_miss e1, upd_miss e1]
    have : i < k := by omega
    rw [catE_at, if_pos this]
    unfold elE
    rw [tgetD_take this, tgetD_take hi]
    exact .refl _
set_option maxRecDepth 8000 in
theorem copyTypesO_g (n : Nat) (l : List Typ) (hl : l.length ≤ 1000) (hq : ∀ k, k < l.length → RetM env.P 23 [] [.agg (Typ.pN (n + 1) (l.getD k default))] (fun r H => r = .agg (l.getD k default).resO ∧ H = Typ.rowsO n (l.getD k default))) : RetM env.P 40 [] [slL 4 (Typ.pN (n + 1)) l] (fun r H => r = .row 0 l.length ∧ H = [some (rowL 4 (Typ.pO (n + 1)) l)]) := by
  refine ret_ofPM (nt := 20) (rvs := [.tmp 2]) Try.func40 rfl rfl rfl rfl (fun X hX => ?_)
  refine pw_cut 2 (fun _ : Unit => True) (fun _ => [(0, slL 4 (Typ.pN (n + 1)) l), (3, .row 0 0)]) (fun _ => [some (rowL 4 (Typ.pO (n + 1)) [])]) ?_ (fun _ _ => ?_)
  · repeat' (first | exact aa | ((conv => whnf) <;> (first | refine And.intro ?_ ?_ | (intro _h; first | contradiction | (try simp only [dd] at _h)) | (refine dt_go ?_) | exact rfl | exact True.intro | exact dkk | exact dks | (refine wrap_succ ?_; omega))))
    conv => whnf
    refine cut_turn (turn_eq (id := 0) (x := rowL 4 (Typ.pO (n + 1)) []) rfl rfl rfl rfl rfl (fun i j hi _ => absurd hi (Nat.not_lt_zero _))) ?_
    exact cut_go () trivial (by repeat' (first | exact trivial | refine And.intro rfl ?_)) (by repeat' (first | exact trivial | refine And.intro (.inl rfl) ?_ | refine And.intro (.inr rfl) ?_ | refine And.intro rfl ?_))
  refine wpc_ok _ _ _ _ ?_
  (try dsimp only)
  conv => whnf
  repeat' (first | exact aa | ((conv => whnf) <;> (first | (refine .inr (.inl (.inl ⟨[], _, _, _, hq _ (by omega), viewT, ⟨rfl, rfl⟩, ?_⟩)); rintro _ _ ⟨rfl, rfl⟩; refine ⟨rfl, _, lokT, ?_⟩) | exact tarr_zero rfl rfl | exact low_cells rfl | exact srcOk_1 rfl | refine loopFT (fun k : Nat => [(9, .i .i64 k), (3, .row 0 k)]) (fun k => [some (.arr ⟨4, k, elE (Typ.pO (n + 1)) (l.take k), .arr⟩)]) (fun k => k ≤ l.length) (fun k => l.length - k) 0 ⟨Nat.zero_le _, ?_⟩ | refine And.intro ?_ ?_ | (intro _h; first | contradiction | (try simp only [dd] at _h)) | (refine dt_go ?_) | exact rfl | exact True.intro | exact dkk | exact dks | (refine wrap_succ ?_; omega))))
  · rename_i k hk
    conv => whnf
    have hkl : k < l.length := by omega
    refine roundET_turn (turn_close (id := 5) (i := k) (j := 2) (id' := 2) rfl (Nat.lt_succ_self k) (show 2 < 4 by decide) tcat_k rfl (show 5 ≠ 2 by decide) rfl (rowO_le (Nat.le_refl _))) ?_
    refine roundET_turn (turn_close (id := 5) (i := k) (j := 3) (id' := 3) rfl (Nat.lt_succ_self k) (show 3 < 4 by decide) (tupd_cat (v := owL 1 strC (l.getD k default).labels)) rfl (show 5 ≠ 3 by decide) rfl (rowO_le (Nat.le_refl _))) ?_
    refine roundET_turn (turn_eq (id := 5) (x := rowL 4 (Typ.pO (n + 1)) (l.take (k + 1))) rfl rfl (show (l.take (k + 1)).length = k + 1 by rw [List.length_take]; omega) rfl rfl (snoc_typ hkl rfl rfl (.refl _) (.refl _))) ?_
    refine roundET_end ?_
    refine ⟨k + 1, [5], by omega, (show l.length - (k + 1) < l.length - k by omega), ?_⟩
    have hcap : (l.take (k + 1)).length = k + 1 := by rw [List.length_take]; omega
    repeat' (first | exact aa | ((conv => whnf) <;> (first | exact arr_same rfl hcap (fun a j => low_cells rfl) | exact hcap | exact low_cells rfl | exact tlbz_rho hX ‹_› | refine And.intro ?_ ?_ | (intro _h; first | contradiction | (try simp only [dd] at _h)) | (refine dt_go ?_) | exact rfl | exact True.intro | exact dkk | exact dks | (refine wrap_succ ?_; omega))))
  · rename_i k hk
    conv => whnf
    obtain rfl : k = l.length := by omega
    rw [List.take_length]
    exact endM_pick [0] [some (rowL 4 (Typ.pO (n + 1)) l)] (.row 0 l.length) viewT rfl rfl (fun k hk => by rw [hX] at hk; exact absurd hk (Nat.not_lt_zero _)) ⟨rfl, rfl⟩
end Go.Proofs.Ytgjihfinbaopcaa
