/- Texts for VWithOwnP. -/
import Derived.Test.YtfaadafgbhmlfaaVw39
import Derived.Test.YtfaadafgbhmlfaaVw40
namespace Go.Proofs.Ytfaadafgbhmlfaa
open Go Go.RowKit
set_option linter.unusedVariables false
set_option linter.unusedSimpArgs false
section
open Go Go.RowKit Go.Shelf
attribute [local irreducible] gbB secG okSec
noncomputable def sbB (l : List Section) : ByteArray := if l.length ≤ 20 then allB l else ⟨#[]⟩
set_option maxRecDepth 8000 in
theorem sectionBytes_big (l : List Section) (hl : 20 < l.length) : Ret env.P 14 [slL 3 Section.cs l] (fun r => r = .s ⟨#[]⟩) := by
  refine ret_of (nt := 41) (rvs := [.tmp 2]) Try.func14 rfl rfl rfl rfl (fun X => ?_)
  repeat' (first | omega | (with_reducible show (_ : Int) < _; dsimp only; omega) | (with_reducible show (_ : Nat) ≤ _; dsimp only; omega) | ((with_reducible show SrcOk _ _ _) <;> (first | exact srcOk_1 rfl | exact srcOk_L (fun _ => ⟨rfl, rfl⟩) | exact srcOk_E (fun _ => ⟨rfl, rfl⟩))) | ((conv => whnf) <;> (first | (exfalso; omega) | refine And.intro ?_ ?_ | (intro _h; first | contradiction | (try simp only [dd] at _h)) | (refine dt_go ?_) | exact rfl | exact True.intro | exact dkk | exact dks | (refine wrap_succ ?_; omega))))
theorem sectionBytes_all (l : List Section) (hf : Fit l) (hO : ∀ x ∈ l, okSec x) : Ret env.P 14 [slL 3 Section.cs l] (fun r => r = .s (sbB l)) := by
  unfold sbB
  by_cases h : l.length ≤ 20
  · rw [if_pos h]
    refine sectionBytes_impl l h hf fun k hk => ?_
    have hm : l.getD k default ∈ l := by
      rw [List.getD_eq_getElem?_getD, List.getElem?_eq_getElem hk]
      exact List.getElem_mem hk
    have := sectionOk_ok (l.getD k default)
    rw [pb_t.mpr (hO _ hm)] at this
    exact this
  · rw [if_neg h]
    exact sectionBytes_big l (by omega)
theorem size_val (base : Option Addr) (n c : Nat) (w : World) (hn : n ≤ 1000) : Calls Try.prog 12 #[.slice base n c] w fun e w' => e = .returned (.int .i64 n) ∧ w' = w := by
  go_enter Try.func12, Try.ntmps12
  go_wp2
  go_ret
  exact ⟨rfl, rfl⟩
theorem ins_val (w0 : World) (l : List Section) (at' : Int) (x : Section) (hl : l.length ≤ 20) (h1 : 0 ≤ at' ∧ at' ≤ l.length) (base : Option Addr) (c vb vc : Nat) (vcur : Array Value) (vty : TypeId) (w : World) (hvb : w0.heap.size ≤ vb)
    (hso : (c = 0 ∧ l = []) ∨ ∃ (b : Nat) (cur : Array Value) (ty : TypeId), base = some ⟨b, 0, none⟩ ∧ w0.heap.size ≤ b ∧ vb ≠ b ∧ RowAt w b cur ty ∧ cur.size = c * 3 ∧ l.length ≤ c ∧ c ≤ maxLen ∧ (∀ u ∈ cur, u.oneCell' = true) ∧ cur.toList.take (3 * l.length) = secCells l)
    (hv : w.heap[vb]? = some (.cells vcur vty (0, 0))) (hvs : vcur.toList = secV3 x) :
    Calls Try.prog 15 #[.slice base l.length c, .int .i64 at', .slice (some ⟨vb, 0, none⟩) 1 vc] w fun e w' =>
      ∃ (nb G : Nat), e = .returned (.slice (some ⟨nb, 0, none⟩) (l.length + 1) G) ∧ l.length + 1 ≤ G ∧ G ≤ maxLen ∧ RowLike w' (secCells (woL l at' x)) nb G ∧ Keeps (fun k => w0.heap.size ≤ k) w w' ∧ nb < w'.heap.size := by
  have hv3 : vcur.size = 3 := by
    have := congrArg List.length hvs
    exact this
  have h1v : ∀ u ∈ vcur, u.oneCell' = true := fun u hu => by
    have hu : u ∈ vcur.toList := by simpa using hu
    rw [hvs] at hu
    unfold secV3 at hu
    simp at hu
    rcases hu with rfl | rfl | rfl <;> rfl
  have ea : at' = ((at'.toNat : Nat) : Int) := by omega
  have wk : ∀ {W W' : World} {b : Nat}, w0.heap.size ≤ b → Keeps (fun k => k = b) W W' → Keeps (fun k => w0.heap.size ≤ k) W W' := fun hb h => ⟨h.os, h.tape, h.output, h.size, fun k hk hn => h.block k hk (fun q => hn (q ▸ hb))⟩
  rw [ea]
  rcases hso with ⟨rfl, rfl⟩ | ⟨b, cur, ty, rfl, hb0, hne, hb, hsz, hlc, hcm, h1c, hcs⟩
  · have hz : at' = 0 := by have := h1.2; simp at this; omega
    subst hz
    refine (ins_none base vb vc vcur vty w vb hv hv3 h1v).mono fun e w' ⟨nb, G, he, hG1, hG2, hr, hk, hlt⟩ => ⟨nb, G, he, hG1, hG2, ?_, wk hvb hk, hlt⟩
    rw [hvs] at hr
    exact hr
  · have hfin : ∀ e w', InsPost w l.length (insL (cur.toList.take (3 * l.length)) vcur.toList at'.toNat) b e w' → ∃ (nb G : Nat), e = .returned (.slice (some ⟨nb, 0, none⟩) (l.length + 1) G) ∧ l.length + 1 ≤ G ∧ G ≤ maxLen ∧ RowLike w' (secCells (woL l ((at'.toNat : Nat) : Int) x)) nb G ∧ Keeps (fun k => w0.heap.size ≤ k) w w' ∧ nb < w'.heap.size := fun e w' ⟨nb, G, he, hG1, hG2, hr, hk, hlt⟩ => ⟨nb, G, he, hG1, hG2, by
        rw [hcs, hvs, insL_sec] at hr
        rw [← ea]
        exact hr, wk hb0 hk, hlt⟩
    by_cases hroom : l.length + 1 ≤ c
    · exact (ins_room b l.length c at'.toNat vb vc cur vcur ty vty w (by omega) hroom hcm hne hb hsz hv hv3 h1c h1v).mono hfin
    · obtain rfl : c = l.length := by omega
      exact (ins_full b l.length at'.toNat vb vc cur vcur ty vty w (by omega) (by omega) hb hsz hv hv3 h1c h1v).mono hfin
end
end Go.Proofs.Ytfaadafgbhmlfaa
