/- Texts for VWithOwnP. -/
import Derived.Test.YtfaadafgbhmlfaaVw30
import Derived.Test.YtfaadafgbhmlfaaVw31
import Derived.Test.YtfaadafgbhmlfaaVw32
namespace Go.Proofs.Ytfaadafgbhmlfaa
open Go Go.RowKit
set_option linter.unusedVariables false
set_option linter.unusedSimpArgs false
section
attribute [local irreducible] IntKind.wrap gbB secG okSec
noncomputable def secY (s : ByteArray) : Section := bif pb (secF s) then secX s else default
noncomputable def secM (s : ByteArray) : Int := bif pb (secF s) then 1 + (secG s).2.1 else 0
theorem secY_t {s : ByteArray} (h : secF s) : secY s = secX s := by unfold secY; rw [pb_t.mpr h]; rfl
theorem secM_t {s : ByteArray} (h : secF s) : secM s = 1 + (secG s).2.1 := by unfold secM; rw [pb_t.mpr h]; rfl
theorem l17Read_ok (s : ByteArray) (hs : s.size ≤ 1048576) (h0 : 1 ≤ s.size) : Ret env.P 16 [.s s] (fun r => r = secV (secY s) (secM s) (pb (secF s))) := by
  obtain ⟨q1, q2, q3⟩ := secG_rng h0
  obtain ⟨p1, p2, p3⟩ := gbB_rng (secG s).1
  have hG := getBytes_spec (s.extract 1 s.size) (by rw [ByteArray.size_extract]; omega)
  have hH := getBytes_spec (secG s).1 (by omega)
  refine (l17Read_w s hs h0 (secG s).1 (secG s).2.1 (secG s).2.2 (by unfold secG; exact hG) q1 (by omega) (gbB (secG s).1).1 (gbB (secG s).1).2.1 (gbB (secG s).1).2.2 hH p1 p2).mono fun r hr => hr.trans ?_
  have e : ((secG s).2.2 = true ∧ (secB s = 0 → (gbB (secG s).1).2.2 = true) ∧ okSec (secK s (secG s).1 (gbB (secG s).1).1 (gbB (secG s).1).2.1)) ↔ secF s := ⟨fun q => ⟨q.1, q.2.1, q.2.2⟩, fun q => ⟨q.g, q.h, q.ok⟩⟩
  rw [pb_congr e]
  unfold secY secM
  cases pb (secF s) <;> rfl
def hdrB : ByteArray := ⟨#[0, 99, 111, 114, 1]⟩
open Classical in
noncomputable def secAll (s : ByteArray) : Option (List Section) := if 5 ≤ s.size ∧ s.extract 0 5 = hdrB then secs 20 (s.extract 5 s.size) [] else none
structure SoI (s : ByteArray) (x : List Section × Int) : Prop where
  lo : 5 ≤ x.2
  hi : x.2 ≤ s.size
  n : x.1.length ≤ 20
  h : secs (20 - x.1.length) (s.extract x.2.toNat s.size) x.1 = secAll s
theorem so0 {s : ByteArray} (h5 : 5 ≤ s.size) (h : s.extract 0 5 = hdrB) : SoI s ([], 5) := ⟨Int.le_refl _, by show (5 : Int) ≤ s.size; omega, Nat.zero_le _, (if_pos ⟨h5, h⟩).symm⟩
theorem secs_end {n : Nat} {s : ByteArray} {acc : List Section} (h : s.size = 0) : secs n s acc = some acc := by
  cases n <;> (unfold secs; exact if_pos h)
theorem secs_no {n : Nat} {s : ByteArray} {acc : List Section} (h : ¬ s.size = 0) (q : ¬ secF s ∨ n = 0) : secs n s acc = none := by
  cases n with
  | zero => unfold secs; exact if_neg h
  | succ n =>
    unfold secs
    rw [if_neg h, if_neg (q.resolve_right (by omega))]
theorem secs_step {n : Nat} {s : ByteArray} {acc : List Section} (h : ¬ s.size = 0) (q : secF s) : secs (n + 1) s acc = secs n (secT s) (acc ++ [secX s]) := by
  rw [secs, if_neg h, if_pos q]
theorem ex_size {s : ByteArray} {a : Int} : (s.extract a.toNat s.size).size = s.size - a.toNat := by
  rw [ByteArray.size_extract]
  omega
theorem SoI.fin {s : ByteArray} {x : List Section × Int} (h : SoI s x) (e : ¬ x.2 < s.size) : secAll s = some x.1 := by
  rw [← h.h]
  exact secs_end (by rw [ex_size]; omega)
theorem SoI.bad {s : ByteArray} {x : List Section × Int} (h : SoI s x) (e : x.2 < s.size) (q : ¬ secF (s.extract x.2.toNat s.size) ∨ 20 ≤ x.1.length) : secAll s = none := by
  have := h.lo
  rw [← h.h]
  exact secs_no (by rw [ex_size]; omega) (q.imp_right (fun q => by omega))
theorem SoI.rng {s : ByteArray} {x : List Section × Int} (h : SoI s x) (e : x.2 < s.size) (q : secF (s.extract x.2.toNat s.size)) : 1 ≤ secM (s.extract x.2.toNat s.size) ∧ secM (s.extract x.2.toNat s.size) + x.2 ≤ s.size := by
  have := h.lo
  obtain ⟨q1, q2, q3⟩ := secG_rng (s := s.extract x.2.toNat s.size) (by rw [ex_size]; omega)
  rw [ex_size] at q2
  rw [secM_t q]
  omega
theorem ex_ex {s : ByteArray} {a b : Nat} (h : a ≤ s.size) : (s.extract a s.size).extract b (s.size - a) = s.extract (a + b) s.size := by
  rw [ByteArray.extract_extract]
  congr 1
  omega
theorem SoI.next {s : ByteArray} {x : List Section × Int} (hs : s.size ≤ 1048576) (h : SoI s x) (e : x.2 < s.size) (q : secF (s.extract x.2.toNat s.size)) (hn : ¬ 20 ≤ x.1.length) : SoI s (x.1 ++ [secY (s.extract x.2.toNat s.size)], IntKind.i64.wrap (x.2 + secM (s.extract x.2.toNat s.size))) := by
  obtain ⟨r1, r2⟩ := h.rng e q
  have hlo := h.lo
  have hw : IntKind.i64.wrap (x.2 + secM (s.extract x.2.toNat s.size)) = x.2 + secM (s.extract x.2.toNat s.size) := wr64 (by omega) (by omega)
  rw [hw]
  refine ⟨by show 5 ≤ x.2 + _; omega, by show x.2 + _ ≤ _; omega, by rw [List.length_append]; show x.1.length + 1 ≤ 20; omega, ?_⟩
  rw [← h.h]
  obtain ⟨k, hk⟩ : ∃ k, 20 - x.1.length = k + 1 := ⟨19 - x.1.length, by omega⟩
  rw [hk, secs_step (by rw [ex_size]; omega) q, secY_t q]
  have e1 : 20 - (x.1 ++ [secX (s.extract x.2.toNat s.size)]).length = k := by rw [List.length_append]; show 20 - (x.1.length + 1) = k; omega
  have e2 : secT (s.extract x.2.toNat s.size) = s.extract (x.2 + secM (s.extract x.2.toNat s.size)).toNat s.size := by
    unfold secT
    rw [ex_size, ex_ex (by omega), secM_t q]
    congr 1
    rw [secM_t q] at r1
    omega
  rw [e2]
  show secs (20 - (x.1 ++ [secX (s.extract x.2.toNat s.size)]).length) _ _ = _
  rw [e1]
theorem sec_hdr {s : ByteArray} (h : ¬ 5 ≤ s.size) : secAll s = none := if_neg fun q => h q.1
theorem sec_hdr' {s : ByteArray} (h : ¬ s.extract 0 5 = hdrB) : secAll s = none := if_neg fun q => h q.2
theorem SoI.dec {s : ByteArray} {x : List Section × Int} (hs : s.size ≤ 1048576) (h : SoI s x) (e : x.2 < s.size) (q : secF (s.extract x.2.toNat s.size)) : s.size - (IntKind.i64.wrap (x.2 + secM (s.extract x.2.toNat s.size))).toNat < s.size - x.2.toNat := by
  obtain ⟨r1, r2⟩ := h.rng e q
  have hlo := h.lo
  rw [wr64 (by omega) (by omega)]
  omega
theorem soi1k {s : ByteArray} {x : List Section × Int} (h : SoI s x) : x.1.length ≤ 1000 := Nat.le_trans h.n (by decide)
theorem soi0 {s : ByteArray} {x : List Section × Int} (h : SoI s x) : 0 ≤ x.2 := Int.le_trans (by decide) h.lo
noncomputable def soL (s : ByteArray) : List Section := if 30000 < s.size then [] else (secAll s).getD []
noncomputable def soC (s : ByteArray) : Int := if 30000 < s.size then 4 else match secAll s with
  | none => 18
  | some _ => 0
theorem so_4 {s : ByteArray} (h : 30000 < s.size) : soL s = [] ∧ soC s = 4 := ⟨if_pos h, if_pos h⟩
theorem so_18 {s : ByteArray} (h : ¬ 30000 < s.size) (e : secAll s = none) : soL s = [] ∧ soC s = 18 := by
  unfold soL soC
  rw [if_neg h, if_neg h, e]
  exact ⟨rfl, rfl⟩
theorem so_0 {s : ByteArray} {l : List Section} (h : ¬ 30000 < s.size) (e : secAll s = some l) : soL s = l ∧ soC s = 0 := by
  unfold soL soC
  rw [if_neg h, if_neg h, e]
  exact ⟨rfl, rfl⟩
set_option maxRecDepth 8000 in
set_option maxHeartbeats 4000000 in
theorem sectionsOf_spec (s : ByteArray) (hs : s.size ≤ 1048576) : Ret env.P 6 [.s s] (fun r => r = .tup [slL 3 Section.cs (soL s), .i .i64 (soC s)]) := by
  refine Ret.ofFrz ?_
  have hR : ∀ x : List Section × Int, SoI s x → x.2 < s.size → Ret env.P 16 [.s (s.extract x.2.toNat s.size)] (fun r => r = secV (secY (s.extract x.2.toNat s.size)) (secM (s.extract x.2.toNat s.size)) (pb (secF (s.extract x.2.toNat s.size)))) := fun x h e => l17Read_ok _ (by rw [ex_size]; omega) (by rw [ex_size]; have := h.lo; omega)
  refine ret_ofM (nt := 48) (rvs := [.tmp 2, .tmp 3]) Try.func6 rfl rfl rfl rfl (fun X hX => ?_)
  repeat' (first | omega | (with_reducible show (_ : Int) < _; dsimp only; omega) | (with_reducible show (_ : Nat) ≤ _; dsimp only; omega) | ((with_reducible show SrcOk _ _ _) <;> (first | exact srcOk_1 rfl | exact srcOk_L (fun _ => ⟨rfl, rfl⟩) | exact srcOk_E (fun _ => ⟨rfl, rfl⟩))) | ((conv => whnf) <;> (first | (refine lw_del 20 ?_; refine loopFT (fun x : List Section × Int => [(5, .i .i64 x.2), (4, .row 0 x.1.length)]) (fun x => [some (.arr ⟨3, x.1.length, elE Section.cs x.1, .arr⟩)]) (SoI s) (fun x => s.size - x.2.toNat) ([], 5) ⟨so0 (by omega) ‹_›, ?_⟩) | exact lbz_zero rfl rfl | exact low_cells rfl | exact lbz_capC (soi1k ‹SoI s _›) (show 40 ≤ 1000 by decide) | exact lbz_capM (soi1k ‹SoI s _›) | exact soi0 ‹SoI s _› | exact srcOk_1 rfl | refine And.intro ?_ ?_ | (intro _h; first | contradiction | (try simp only [dd] at _h)) | (refine dt_go ?_) | exact rfl | exact True.intro | exact dkk | exact dks | ((first | refine .inl ⟨_, hR _ ‹_› ‹_›, ?_⟩ | refine ⟨_, hR _ ‹_› ‹_›, ?_⟩); (try rintro _ rfl)) | (refine wrap_succ ?_; omega))))
  all_goals first
    | (conv => whnf
       have q := so_4 (s := s) (by omega)
       rw [q.1, q.2]
       exact endM_self (frz0 (frz_tup (.cons Wk.nilS0 (.cons (.refl _) .nil))) rfl))
    | (conv => whnf
       have q := so_18 (s := s) (by omega) (sec_hdr (by omega))
       rw [q.1, q.2]
       exact endM_self (frz0 (frz_tup (.cons Wk.nilS0 (.cons (.refl _) .nil))) rfl))
    | (conv => whnf
       have q := so_18 (s := s) (by omega) (sec_hdr' ‹_›)
       rw [q.1, q.2]
       exact endM_self (frz0 (frz_tup (.cons Wk.nilS0 (.cons (.refl _) .nil))) rfl))
    | (conv => whnf
       have hI := ‹SoI s _›
       have q := so_18 (s := s) (by omega) (hI.bad ‹_› (.inl ‹_›))
       rw [q.1, q.2]
       exact endM_self (frz0 (frz_tup (.cons Wk.nilS0 (.cons (.refl _) .nil))) rfl))
    | (conv => whnf
       have hI := ‹SoI s _›
       have q := so_18 (s := s) (by omega) (hI.bad ‹_› (.inr (by omega)))
       rw [q.1, q.2]
       exact endM_self (frz0 (frz_tup (.cons Wk.nilS0 (.cons (.refl _) .nil))) rfl))
    | (conv => whnf
       have hI := ‹SoI s _›
       have q := so_0 (s := s) (by omega) (hI.fin ‹_›)
       rw [q.1, q.2]
       exact endM_self (frz0 (frz_tup (.cons (shr_L (d := 0) (k := 4) rfl) (.cons (.refl _) .nil))) rfl))
    | (rename List Section × Int => x
       have hI := ‹SoI s x›
       have hf : secF (s.extract x.2.toNat s.size) := Classical.not_not.1 ‹_›
       have hlt : x.2 < (s.size : Int) := ‹_›
       have hn : ¬ 20 ≤ x.1.length := by omega
       have hN := hI.next hs hlt hf hn
       conv => whnf
       refine roundET_turn (turn_eq (id := 3) (x := rowL 3 Section.cs (x.1 ++ [secY (s.extract x.2.toNat s.size)])) rfl rfl lbz_len.symm rfl rfl (snoc_eq (l := x.1) (sz := 3) (a := secY (s.extract x.2.toNat s.size)) (c := Section.cs) rfl (fun j hj => by
         rcases j with _ | _ | _ | j
         · exact .refl _
         · exact .refl _
         · exact .refl _
         · omega))) ?_
       refine roundET_end ?_
       refine ⟨(x.1 ++ [secY (s.extract x.2.toNat s.size)], IntKind.i64.wrap (x.2 + secM (s.extract x.2.toNat s.size))), [3], hN, hI.dec hs hlt hf, ?_⟩
       repeat' (first | omega | (with_reducible show (_ : Int) < _; dsimp only; omega) | (with_reducible show (_ : Nat) ≤ _; dsimp only; omega) | ((with_reducible show SrcOk _ _ _) <;> (first | exact srcOk_1 rfl | exact srcOk_L (fun _ => ⟨rfl, rfl⟩) | exact srcOk_E (fun _ => ⟨rfl, rfl⟩))) | ((conv => whnf) <;> (first | exact arr_same rfl rfl (fun a j => low_cells rfl) | exact low_cells rfl | exact lbz_len | exact lbz_rho hX ‹_› | exact rfl | refine And.intro ?_ ?_ | (intro _h; first | contradiction | (try simp only [dd] at _h)) | (refine dt_go ?_) | exact rfl | exact True.intro | exact dkk | exact dks | (refine wrap_succ ?_; omega)))))
    | trace_state
end
end Go.Proofs.Ytfaadafgbhmlfaa
