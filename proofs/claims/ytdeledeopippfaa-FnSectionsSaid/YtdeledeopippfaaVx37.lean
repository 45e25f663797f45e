/- Texts for VSectionsP. -/
import Derived.Test.YtdeledeopippfaaVx36
namespace Go.Proofs.Ytdeledeopippfaa
open Go Go.RowKit
set_option linter.unusedVariables false
set_option linter.unusedSimpArgs false
section
open Go Go.RowKit Go.Shelf
attribute [local irreducible] IntKind.wrap
theorem putBytes_impl (s : ByteArray) (h : s.size ≤ 100000000) : Ret env.P 19 [.s s] (fun r => r = .s (baN (putB s))) := by
  have hp : Ret env.P 36 [.i .i64 (s.size : Int)] (fun r => r = .s (baN (lebL s.size))) := (putLeb_impl s.size (by omega)).toRet
  rw [putB_baN]
  refine ret_of (nt := 8) (rvs := [.tmp 2]) Try.func19 rfl rfl rfl rfl (fun X => ?_)
  repeat' (first | omega | (with_reducible show (_ : Int) < _; dsimp only; omega) | (with_reducible show (_ : Nat) ≤ _; dsimp only; omega) | ((with_reducible show SrcOk _ _ _) <;> (first | exact srcOk_1 rfl | exact srcOk_L (fun _ => ⟨rfl, rfl⟩) | exact srcOk_E (fun _ => ⟨rfl, rfl⟩))) | ((conv => whnf) <;> (first | exact le_of2 (lb_size (by omega)) (by omega) | refine And.intro ?_ ?_ | (intro _h; first | contradiction | (try simp only [dd] at _h)) | (refine dt_go ?_) | exact rfl | exact True.intro | exact dkk | exact dks | ((first | refine .inl ⟨_, hp, ?_⟩ | refine ⟨_, hp, ?_⟩); (try rintro _ rfl)) | ((first | refine .inl ⟨_, lengthI_ok _, ?_⟩ | refine ⟨_, lengthI_ok _, ?_⟩); (try rintro _ rfl)) | (refine wrap_succ ?_; omega))))
theorem fixN_impl {n : Int} (h : 0 ≤ n ∧ n ≤ 255) : Ret env.P 20 [.i .i64 n, .i .i64 1] (fun r => r = .s (baN [n.toNat])) := by
  have := putFix_impl n 1 ⟨by omega, by omega⟩ (by omega)
  rw [fixN h] at this
  exact this.toRet
noncomputable def allB (l : List Section) : ByteArray := bif pb ((allN l l.length).length ≤ 30000) then baN (allN l l.length) else ByteArray.empty
theorem default_fit : (default : Section).fit := ⟨⟨by decide, by decide⟩, by decide, by decide⟩
theorem Fit.at {l : List Section} (h : Fit l) (k : Nat) : (l.getD k default).fit := by
  rcases Nat.lt_or_ge k l.length with q | q
  · exact h.h k q
  · rw [List.getD_eq_getElem?_getD, List.getElem?_eq_none q]
    exact default_fit
theorem sec_conc (x : Section) (hn : x.name.size ≤ maxLen) (hb : x.bytes.size ≤ maxLen) (hi : -9223372036854775808 ≤ x.id ∧ x.id < 9223372036854775808) (W : World) : ConcL W (fun _ => False) (fun _ => ⟨0, 0⟩) [] [.agg x.cs] [.agg #[.int .i64 x.id, .string x.name, .string x.bytes]] := by
  refine .cons1 (.agg _ [_, _, _] rfl fun j c u hj hv => ?_) concL_nil
  match j with
  | 0 => cases hj; cases hv; exact conc_i hi.1 hi.2
  | 1 => cases hj; cases hv; exact .s hn
  | 2 => cases hj; cases hv; exact .s hb
  | j + 3 => cases hj
theorem sb_acc {l : List Section} (hf : Fit l) : sbAcc (fun k => baN [(l.getD k default).id.toNat]) (fun k => baN (putB (conB (l.getD k default).id (baN (putB (l.getD k default).name)) (l.getD k default).bytes))) l.length = byL (baN (allN l l.length)) := by
  have e : ∀ x : Section, baN [x.id.toNat] ++ baN (putB (conB x.id (baN (putB x.name)) x.bytes)) = baN x.by := fun x => by
    by_cases h0 : x.id = 0
    · rw [← Section.by0 h0]
      unfold conB
      rw [if_pos h0]
    · rw [← Section.byN h0]
      unfold conB
      rw [if_neg h0]
  unfold sbAcc
  simp only [e]
  rw [range_fm (g := fun x => byL (baN (Section.by x)))]
  show _ = (allN l l.length).map UInt8.ofNat
  unfold allN
  rw [List.map_append, List.map_flatMap, List.take_length]
  rfl
theorem sectionBytes_impl (l : List Section) (hl : l.length ≤ 20) (hf : Fit l) (hO : ∀ k, k < l.length → Ret env.P 18 [.agg (l.getD k default).cs] (fun r => r = .b true)) : Ret env.P 7 [slL 3 Section.cs l] (fun r => r = .s (allB l)) := .mk fun w S us hS hc => by
  obtain ⟨u, rfl, h0⟩ := concL_1 hc
  obtain ⟨a, cap, rfl, _, _⟩ := sl_form h0
  have hfa := hf.at
  have hpn : ∀ k, (baN (putB (l.getD k default).name)).size ≤ 20000000 := fun k => by
    have := (hfa k).nm
    rw [putB_baN, size_app, baN_size]
    have := lb9 (n := (l.getD k default).name.size) (by omega)
    omega
  have hcon : ∀ k, (conB (l.getD k default).id (baN (putB (l.getD k default).name)) (l.getD k default).bytes).size ≤ 40000000 := fun k => by
    have := (hfa k).by_
    have := hpn k
    unfold conB
    split
    · rw [size_app]; omega
    · omega
  have hpb : ∀ k, (baN (putB (conB (l.getD k default).id (baN (putB (l.getD k default).name)) (l.getD k default).bytes))).size ≤ 50000000 := fun k => by
    have := hcon k
    rw [putB_baN, size_app, baN_size]
    have := lb9 (n := (conB (l.getD k default).id (baN (putB (l.getD k default).name)) (l.getD k default).bytes).size) (by omega)
    omega
  have hm : (100000000 : Nat) ≤ maxLen := by decide
  have hi : ∀ k, -9223372036854775808 ≤ (l.getD k default).id ∧ (l.getD k default).id < 9223372036854775808 := fun k => by have := (hfa k).id; omega
  have hsc : ∀ k (W : World), ConcL W (fun _ => False) (fun _ => ⟨0, 0⟩) [] [.agg (l.getD k default).cs] [.agg #[.int .i64 (l.getD k default).id, .string (l.getD k default).name, .string (l.getD k default).bytes]] := fun k W => sec_conc _ (by have := (hfa k).nm; omega) (by have := (hfa k).by_; omega) (hi k) W
  have hsacc := sb_acc hf
  have hlen : (byL (baN (allN l l.length))).length = (allN l l.length).length := baN_size (allN l l.length)
  have hw := sb_walk l.length hl a cap (fun k => (l.getD k default).id) (fun k => (l.getD k default).name) (fun k => (l.getD k default).bytes) (fun k => baN (putB (l.getD k default).name)) (fun k => baN [(l.getD k default).id.toNat]) (fun k => baN (putB (conB (l.getD k default).id (baN (putB (l.getD k default).name)) (l.getD k default).bytes))) (allB l) w
    (fun k => by have h1 := hpn k; have h2 := (hfa k).by_; omega)
    (fun k => by have h1 := hpb k; have h2 := baN_size [(l.getD k default).id.toNat]; rw [List.length_singleton] at h2; omega)
    (fun h => by
      rw [hsacc, hlen] at h
      rw [hsacc, ba_toL]
      unfold allB
      rw [pb_t.mpr h]
      rfl)
    (fun h => by
      rw [hsacc, hlen] at h
      unfold allB
      rw [pb_f.mpr (by omega)]
      rfl)
    (fun hn => by
      obtain ⟨b, o, cap', U, he, hb, _, _, hcc, hu, _⟩ := inv_sl h0 hn
      cases he
      refine ⟨b, o, rfl, hS b hb, fun k hk => ⟨?_, ?_, ?_⟩⟩
      · have := hcc k 0 hk (by decide)
        rw [Nat.add_zero] at this
        rw [this, (inv_i (hu k 0 hk (by decide))).1]
      · rw [hcc k 1 hk (by decide), (inv_s (hu k 1 hk (by decide))).1]
      · rw [hcc k 2 hk (by decide), (inv_s (hu k 2 hk (by decide))).1])
    (fun k W hk hB => (hO k hk).atB (hS.below hB (Nat.le_refl _)) (w := W) (hsc k W).ofF W (Below.refl _ _))
    (fun k W hk hB => (putBytes_impl _ (by have := (hfa k).nm; omega)).atS (hS.below hB (Nat.le_refl _)) (w := W) (.cons1 (u := .string (l.getD k default).name) (.s (by have := (hfa k).nm; omega)) concL_nil) W (Below.refl _ _))
    (fun k W hk hB => (fixN_impl (hfa k).id).atS (hS.below hB (Nat.le_refl _)) (w := W) (.cons1 (u := .int .i64 (l.getD k default).id) (conc_i (hi k).1 (hi k).2) (.cons1 (u := .int .i64 1) (conc_i (by decide) (by decide)) concL_nil)) W (Below.refl _ _))
    (fun k W hk hB => (putBytes_impl _ (by have := hcon k; omega)).atS (hS.below hB (Nat.le_refl _)) (w := W) (.cons1 (u := .string (conB (l.getD k default).id (baN (putB (l.getD k default).name)) (l.getD k default).bytes)) (.s (by have := hcon k; omega)) concL_nil) W (Below.refl _ _))
  refine hw.mono fun e w' ⟨he, hb⟩ => ⟨_, _, he, rfl, .s ?_, hb⟩
  unfold allB
  by_cases h : (allN l l.length).length ≤ 30000
  · rw [pb_t.mpr h]
    show (baN _).size ≤ _
    rw [baN_size]
    omega
  · rw [pb_f.mpr h]
    exact Nat.zero_le _
end
end Go.Proofs.Ytdeledeopippfaa
