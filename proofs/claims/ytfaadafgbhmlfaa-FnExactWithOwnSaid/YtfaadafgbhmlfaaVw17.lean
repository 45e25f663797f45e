/- Texts for VWithOwnP. -/
import Derived.Test.YtfaadafgbhmlfaaVw16
namespace Go.Proofs.Ytfaadafgbhmlfaa
open Go Go.RowKit
set_option linter.unusedVariables false
set_option linter.unusedSimpArgs false
section
def owL {α : Type} [Inhabited α] (sz : Nat) (c : α → List AV) (l : List α) : AV := .ow sz l.length (elE c l)
def rowL {α : Type} [Inhabited α] (sz : Nat) (c : α → List AV) (l : List α) : Row := ⟨sz, l.length, elE c l, .arr⟩
class Shr (d : outParam Nat) {α : Type} (cO : α → List AV) (c : outParam (α → List AV)) : Prop where
  h : ∀ (H : Hp) (k : Nat) (a : α), WkL ((cO a).map (shrC (k + d) H)) (c a)
theorem pl1_getD {cs : List AV} (h : cs.all pl1 = true) (j : Nat) : pl1 (cs.getD j .any) = true := by
  rw [List.getD_eq_getElem?_getD]
  cases hj : cs[j]? with
  | none => rfl
  | some c => exact List.all_eq_true.1 h c (List.mem_of_getElem? hj)
theorem rowPl_L {α : Type} [Inhabited α] {sz : Nat} {c : α → List AV} {l : List α} (h : ∀ a, (c a).all pl1 = true) : RowPl (rowL sz c l) := ⟨fun i j _ _ => pl1_getD (h _) j⟩
def idfB : AV → Bool
  | .any | .i .. | .b _ | .kb _ | .s _ | .nils | .nilp | .st _ => true
  | _ => false
theorem idfB_ok {x : AV} (h : idfB x = true) : x.idfO := by cases x <;> first | exact trivial | cases h
class HoldC {α : Type} (c : α → List AV) : Prop where
  h : ∀ a j, ((c a).getD j .any).idfO
theorem holdC_plain {α : Type} {c : α → List AV} (h : ∀ a, (c a).all idfB = true) : HoldC c := ⟨fun a j => by
  rw [List.getD_eq_getElem?_getD]
  cases hj : (c a)[j]? with
  | none => exact trivial
  | some x => exact idfB_ok (List.all_eq_true.1 (h a) x (List.mem_of_getElem? hj))⟩
class FreeC {α : Type} (c : α → List AV) : Prop where
  h : ∀ a j, noS ((c a).getD j .any)
theorem freeC_plain {α : Type} {c : α → List AV} (h : ∀ a, (c a).all noS1 = true) : FreeC c := ⟨fun a j => by
  rw [List.getD_eq_getElem?_getD]
  cases hj : (c a)[j]? with
  | none => exact trivial
  | some x => exact noS1_ok (List.all_eq_true.1 (h a) x (List.mem_of_getElem? hj))⟩
theorem Conc.nil {w : World} {S : Nat → Prop} {blk blk' : Nat → BC} {x : AV} {u : Value} (h : Conc w S blk [] x u) : Conc w S blk' [] x u := h.mono (fun b hb => ⟨hb, rfl⟩) fun id x hx => by simp at hx
theorem RetM.wk {P : Program} {g : FuncId} {av bs : List AV} {post : AV → Hp → Prop} (h : WkL av bs) (r : RetM P g [] bs post) : RetM P g [] av post := .mk fun w S blk FP us hR hG hc => by
  refine r.h w S blk FP us hR hG ⟨by rw [hc.1, h.1], fun j c u hj hu => ?_⟩
  have hjl : j < av.length := by rw [h.1]; exact (List.getElem?_eq_some_iff.1 hj).1
  have e := List.getElem?_eq_getElem hjl
  exact ((h.2 j _ _ e hj).c w S u (hc.2 j _ u e hu).nil).nil
theorem shr_plain {α : Type} {c : α → List AV} (h : ∀ a, (c a).all stay = true) : Shr 0 c c := ⟨fun H k a => by
  have : (c a).map (shrC (k + 0) H) = c a := by
    conv => rhs; rw [← List.map_id (c a)]
    exact List.map_congr_left fun x hx => stay_eq (List.all_eq_true.1 (h a) x hx)
  rw [this]
  exact ⟨rfl, fun j x y hx hy => by rw [hx] at hy; cases hy; exact .refl _⟩⟩
theorem WkL.getD {xs ys : List AV} (h : WkL xs ys) (j : Nat) : Wk (xs.getD j .any) (ys.getD j .any) := by
  rw [List.getD_eq_getElem?_getD, List.getD_eq_getElem?_getD]
  cases hx : xs[j]? with
  | none =>
    have : ys[j]? = none := by
      rw [List.getElem?_eq_none_iff] at hx ⊢
      rw [← h.1]; exact hx
    rw [this]
    exact .refl _
  | some x =>
    have hj : j < ys.length := by rw [← h.1]; exact (List.getElem?_eq_some_iff.1 hx).1
    rw [List.getElem?_eq_getElem hj]
    exact h.2 j _ _ hx (List.getElem?_eq_getElem hj)
theorem shr_any {k : Nat} {H : Hp} : shrC k H .any = .any := by cases k <;> rfl
theorem shr_L {α : Type} [Inhabited α] {d sz k n : Nat} {H : Hp} {cO c : α → List AV} {l : List α} [h : Shr d cO c] (hn : n = l.length) : Wk (.sl sz n fun i j => shrC (k + d) H (elE cO l i j)) (slL sz c l) := by
  subst hn
  refine Wk.sl fun i j hi hj => ?_
  have := (h.h H k (l.getD i default)).getD j
  have e : ((cO (l.getD i default)).map (shrC (k + d) H)).getD j .any = shrC (k + d) H (elE cO l i j) := by
    unfold elE
    generalize cO (l.getD i default) = cs
    rw [List.getD_eq_getElem?_getD, List.getD_eq_getElem?_getD, List.getElem?_map]
    cases cs[j]? with
    | none => exact shr_any.symm
    | some x => rfl
  rw [e] at this
  exact this
theorem shr_ow {α : Type} [Inhabited α] {d sz k : Nat} {H : Hp} {cO c : α → List AV} {l : List α} [h : Shr d cO c] : Wk (shrC (k + (d + 1)) H (owL sz cO l)) (slL sz c l) := by
  show Wk (.sl sz l.length fun i j => shrC (k + d) H (elE cO l i j)) _
  exact shr_L rfl
inductive RowsPl : Hp → Prop
  | nil : RowsPl []
  | cons {x : Row} {H : Hp} (h : RowPl x) (r : RowsPl H) : RowsPl (some x :: H)
  | none {H : Hp} (r : RowsPl H) : RowsPl (none :: H)
theorem RowsPl.at {H : Hp} (h : RowsPl H) : ∀ (k : Nat) (x : Row), H[k]? = some (some x) → RowPl x := by
  induction h with
  | nil => intro k x h; simp at h
  | cons h r ih =>
    intro k y hk
    cases k with
    | zero => cases hk; exact h
    | succ k => exact ih k y (by simpa using hk)
  | none r ih =>
    intro k y hk
    cases k with
    | zero => cases hk
    | succ k => exact ih k y (by simpa using hk)
theorem lok_pl {σ : Nat → Nat} {L : Hp} (h : RowsPl L) : LOk σ L L := lok_self h.at
def markL {α : Type} (f : α → Int → α × Int) : List α → Int → List α × Int
  | [], k => ([], k)
  | a :: l, k => ((f a k).1 :: (markL f l (f a k).2).1, (markL f l (f a k).2).2)
theorem markL_len {α : Type} {f : α → Int → α × Int} : ∀ (l : List α) (k : Int), (markL f l k).1.length = l.length
  | [], k => rfl
  | a :: l, k => by simp [markL, markL_len l]
section
variable {α : Type} {f : α → Int → α × Int} {l : List α} {k : Int} {i : Nat}
end
theorem arr_same {α : Type} [Inhabited α] {r : List Nat} {n sz cap cap' : Nat} {c : α → List AV} {l l' : List α} {bx : RK} (e : l' = l) (hc : cap' = cap) (hlow : ∀ a j, fx r n ((c a).getD j .any) = true) : ArrP r n ⟨sz, cap, elE c l', bx⟩ ⟨sz, cap', elE c l, bx⟩ :=
  ⟨rfl, hc, rfl, fun i j hi hj => by show elE c l i j = elE c l' i j; rw [e], fun i j _ _ => hlow _ _⟩
theorem Wk.nilS0 {α : Type} [Inhabited α] {sz : Nat} {c : α → List AV} : Wk .nils (slL sz c []) := by
  refine ⟨fun _ i j hi _ => ?_, fun w S u h => ?_⟩
  · exact absurd hi (Nat.not_lt_zero _)
  · rw [inv_nils h]
    exact .sl0 none 0 (Nat.zero_le _)
theorem roundET_turn {α : Type} {X : Ctx} {f0 : Fr} {H0 : Hp} {vs : α → Fr} {hp : α → List (Option RowI)} {I : α → Prop} {μ : α → Nat} {x : α} {f' : Fr} {H' H1 : Hp} (t : Turn X H' H1) (h : RoundEndT X f0 H0 vs hp I μ x f' H1) : RoundEndT X f0 H0 vs hp I μ x f' H' := by
  obtain ⟨H2, t2, h⟩ := h
  exact ⟨H2, t.trans t2, h⟩
theorem roundET_end {α : Type} {X : Ctx} {f0 : Fr} {H0 : Hp} {vs : α → Fr} {hp : α → List (Option RowI)} {I : α → Prop} {μ : α → Nat} {x : α} {f' : Fr} {H' : Hp} (h : RoundEnd X f0 H0 vs hp I μ x f' H') : RoundEndT X f0 H0 vs hp I μ x f' H' := ⟨H', Turn.refl, h⟩
theorem catE_at {n i j : Nat} {es g : Nat → Nat → AV} : catE n es g i j = if i < n then es i j else g (i - n) j := by
  by_cases h : i < n
  · rw [if_pos h, catE_lt h]
  · rw [if_neg h, catE_ge (by omega)]
theorem getD_snoc {α : Type} [Inhabited α] {l : List α} {a : α} {i : Nat} : (l ++ [a]).getD i default = if i < l.length then l.getD i default else if i = l.length then a else default := by
  rw [List.getD_eq_getElem?_getD, List.getD_eq_getElem?_getD]
  by_cases h : i < l.length
  · rw [if_pos h, List.getElem?_append_left h]
  · rw [if_neg h, List.getElem?_append_right (by omega)]
    by_cases e : i = l.length
    · rw [if_pos e, e, Nat.sub_self]; rfl
    · rw [if_neg e, List.getElem?_eq_none (by simp; omega)]; rfl
theorem snoc_eq {α : Type} [Inhabited α] {k sz : Nat} {c : α → List AV} {l : List α} {a : α} {g : Nat → Nat → AV} (hk : k = l.length) (hg : ∀ j, j < sz → OwEq (g 0 j) ((c a).getD j .any)) : ∀ i j, i < k + 1 → j < sz → OwEq (catE k (elE c l) g i j) (elE c (l ++ [a]) i j) := fun i j hi hj => by
  rw [catE_at]
  unfold elE
  rw [getD_snoc]
  by_cases h' : i < k
  · rw [if_pos h', if_pos (by omega)]; exact .refl _
  · rw [if_neg h', if_neg (by omega), if_pos (by omega), show i - k = 0 by omega]; exact hg j hj
theorem RowBack.L {α : Type} [Inhabited α] {σ : Nat → Nat} {m sz n : Nat} {c : α → List AV} {l : List α} (hn : l.length = n) (h : ∀ a, (c a).all pl1 = true) : RowBack σ m (rowL sz c l) ⟨sz, n, elE c l, .arr⟩ := ⟨rfl, hn, .refl _, fun i j _ _ => ⟨(pl1_ren (pl1_getD (h _) j)).1.symm, pl1_low2 (pl1_getD (h _) j)⟩⟩
theorem Wk.rfLo {m : Nat} {g : Nat → AV} {cs : List AV} (h : WkL (cellsAt g 0 m) cs) : Wk (.rf m g) (rfL cs) := by
  have hl : m = cs.length := by rw [← h.1, cellsAt_length]
  subst hl
  unfold rfL
  refine Wk.rf fun j hj => ?_
  have := h.getD j
  have hj' : j < (cellsAt g 0 cs.length).length := by rw [cellsAt_length]; exact hj
  have e := (cellsAt_get g cs.length 0 j _ (List.getElem?_eq_getElem hj')).2
  rw [Nat.zero_add] at e
  rw [List.getD_eq_getElem?_getD, List.getElem?_eq_getElem hj'] at this
  rw [e] at this
  exact this
theorem MixL.wk {π : List Nat} {H : Hp} {a c : AV} {es cs : List AV} (h : Wk (shr (outM π 0 H) c) a) (r : MixL π H es cs) : MixL π H (a :: es) (c :: cs) := .frz h.c r
theorem Ret.wka {P : Program} {g : FuncId} {av bs : List AV} {post : AV → Prop} (r : Ret P g bs post) (h : WkL av bs := by ((repeat (first | exact WkL.nil | refine WkL.cons ?_ ?_ | exact Wk.refl _ | exact Wk.rfc rfl | refine Wk.fn ?_ | exact Wk.nilS0 | exact shr_L (d := 0) (k := 4) rfl | exact shr_L (d := 1) (k := 3) rfl | exact shr_L (d := 2) (k := 2) rfl | exact shr_L (d := 0) (k := 4) (by simp only [markL_len]) | exact shr_L (d := 1) (k := 3) (by simp only [markL_len]) | refine Wk.agg ?_ | exact shr_L (d := 0) (k := 3) rfl | exact shr_L (d := 1) (k := 2) rfl | exact shr_ow (d := 1) (k := 2) | exact shr_ow (d := 0) (k := 3) | refine Wk.rfLo ?_)); first | done | fail)) : Ret P g av post := Ret.wk h r
theorem RetM.wka {P : Program} {g : FuncId} {av bs : List AV} {post : AV → Hp → Prop} (r : RetM P g [] bs post) (h : WkL av bs := by ((repeat (first | exact WkL.nil | refine WkL.cons ?_ ?_ | exact Wk.refl _ | exact Wk.rfc rfl | refine Wk.fn ?_ | exact Wk.nilS0 | exact shr_L (d := 0) (k := 4) rfl | exact shr_L (d := 1) (k := 3) rfl | exact shr_L (d := 2) (k := 2) rfl | exact shr_L (d := 0) (k := 4) (by simp only [markL_len]) | exact shr_L (d := 1) (k := 3) (by simp only [markL_len]) | refine Wk.agg ?_ | exact shr_L (d := 0) (k := 3) rfl | exact shr_L (d := 1) (k := 2) rfl | exact shr_ow (d := 1) (k := 2) | exact shr_ow (d := 0) (k := 3) | refine Wk.rfLo ?_)); first | done | fail)) : RetM P g [] av post := RetM.wk h r
theorem viewA {π : List Nat} {H H0 : Hp} (hn : nodupB π = true := by exact rfl) (h : ViewL H (sig π H.length) π.length π H0 := by repeat' (first | exact ViewL.nil | refine ViewL.cons rfl (RowBack.self ?_) ?_ | exact rowPl_L (fun _ => rfl) | exact rowPl_box rfl)) : ViewOk π H H0 := view_of hn h
theorem lokA {σ : Nat → Nat} {L : Hp} (h : RowsPl L := by repeat' (first | exact RowsPl.nil | refine RowsPl.cons ?_ ?_ | refine RowsPl.none ?_ | exact rowPl_L (fun _ => rfl) | exact rowPl_box rfl)) : LOk σ L L := lok_pl h
end
section
variable {E : Env} {P : Program} {nt : Nat} {X : Ctx} {f : Fr} {H : Hp} {ty : TypeId}
def dimsK (n0 : Nat) (H H' : Hp) : List Nat → Prop
  | [] => True
  | id :: r => (bif Nat.ble n0 id then True else match H[id]?, H'[id]? with
    | some (some x), some (some y) => y.sz = x.sz ∧ y.cap = x.cap ∧ blankK y.k = blankK x.k
    | some none, some none => True
    | _, _ => False) ∧ dimsK n0 H H' r
theorem dimsK_at {n0 : Nat} {H H' : Hp} : ∀ {M : List Nat}, dimsK n0 H H' M → ∀ i, i < n0 → i ∈ M → (H'[i]?).map (fun r => r.map Go.Proofs.Ytfaadafgbhmlfaa.blank) = (H[i]?).map (fun r => r.map Go.Proofs.Ytfaadafgbhmlfaa.blank)
  | [], _, i, _, hi => by cases hi
  | id :: r, h, i, hlt, hi => by
    rcases List.mem_cons.1 hi with rfl | hi
    · have h1 := h.1
      have hb : Nat.ble n0 i = false := by
        cases hb : Nat.ble n0 i with
        | false => rfl
        | true => have := Nat.le_of_ble_eq_true hb; omega
      rw [hb, cond_false] at h1
      split at h1
      · rename_i x y e1 e2
        rw [e1, e2]
        simp only [Option.map_some, Go.Proofs.Ytfaadafgbhmlfaa.blank, h1.1, h1.2.1, h1.2.2]
      · rename_i e1 e2
        rw [e1, e2]
      · cases h1
    · exact dimsK_at h.2 i hlt hi
def efC (E : Env) (nt : Nat) (M : List Nat) (n0 : Nat) (o : Oper) (f : Fr) (H : Hp) (K : AV → Hp → Prop) : Prop :=
  match o.op with
  | .call ⟨.value fx, args, _⟩ => (match o.guard with
    | some _ => False
    | none => (match o.dst with
      | some d => bif Nat.blt d nt then clM E f H (fun i => M.contains i || Nat.ble n0 i) fx args.toList (fun v H' => dimsK n0 H H' M ∧ K v H') else False
      | none => clM E f H (fun i => M.contains i || Nat.ble n0 i) fx args.toList (fun _ H' => dimsK n0 H H' M ∧ K .any H')))
  | _ => efK E nt M n0 o f H K
theorem hid_call {M : List Nat} {n0 : Nat} {H2 : Hp} (hn : n0 ≤ H.length) (h1 : dimsK n0 H H2 M) (h2 : ∀ i, i < H.length → (M.contains i || Nat.ble n0 i) = false → H2[i]? = H[i]?) : hidM M 0 (H2.take n0) = hidM M 0 (H.take n0) := by
  apply List.ext_getElem?
  intro i
  rw [hidM_at, hidM_at, List.getElem?_take, List.getElem?_take]
  by_cases hi : i < n0
  · rw [if_pos hi, if_pos hi]
    simp only [Nat.zero_add]
    cases hM : M.contains i with
    | true =>
      simp only [cond_true]
      exact dimsK_at h1 i hi (List.contains_iff_mem.1 hM)
    | false =>
      rw [h2 i (by omega) (by
        rw [hM, Bool.false_or]
        cases hb : Nat.ble n0 i with
        | false => rfl
        | true => have := Nat.le_of_ble_eq_true hb; omega)]
  · rw [if_neg hi, if_neg hi]
theorem efC_po {M : List Nat} {n0 : Nat} {o : Oper} {K : AV → Hp → Prop} (hn : n0 ≤ H.length) (h : efC E nt M n0 o f H K) : o.guard = none ∧ PO E.P nt X o f H fun f' H' => ∃ v, f' = pushD o.dst v f ∧ hidM M 0 (H'.take n0) = hidM M 0 (H.take n0) ∧ K v H' := by
  unfold efC at h
  split at h
  · rename_i fx args tys hop
    split at h
    · cases h
    rename_i hg
    refine ⟨hg, ?_⟩
    obtain ⟨d?, op, ty, pos, after, gd⟩ := o
    dsimp only at h hop hg
    subst hop
    split at h
    · rename_i d
      cases hb : Nat.blt d nt with
      | false => rw [hb] at h; cases h
      | true =>
        rw [hb, cond_true] at h
        rintro a w ⟨blk, FP, s⟩ K' Q' hK
        refine clM_run h s _ tys (by simp) K' Q' fun r u w' H2 blk2 FP2 hk hsame s2 hc => ?_
        exact hK _ _ _ _ ⟨r, rfl, hid_call hn hk.1 hsame, hk.2⟩ ⟨blk2, FP2, s2.put (Nat.le_of_ble_eq_true hb) hc⟩
    · rintro a w ⟨blk, FP, s⟩ K' Q' hK
      refine clM_run h s _ tys (by simp) K' Q' fun r u w' H2 blk2 FP2 hk hsame s2 hc => ?_
      exact hK _ _ _ _ ⟨.any, rfl, hid_call hn hk.1 hsame, hk.2⟩ ⟨blk2, FP2, s2⟩
  · exact ef_po hn h
def dsC (E : Env) (nt : Nat) (ops : Array Oper) (M : List Nat) (H0 : Hp) (Q : Fr → Hp → Prop) (n : Nat) : List Nat → Fr → Hp → Prop :=
  Nat.rec (motive := fun _ => List Nat → Fr → Hp → Prop) (fun _ f H => Q f H) (fun _ ih D f H => match firstRd E ops M H0.length f D 0 ops.toList with
    | some (i, o) => (match o.dst with
      | some d => bif Nat.blt d nt then
          rdK E (hidM M 0 H0) (restr (looksL ops o) f) o.op fun v => frc v fun v => bif low H0.length v then ih (i :: D) ((d, v) :: f) H else False else False
      | none => False)
    | none => brsK D (fun i o => efC E nt M H0.length o f H fun v H' => pushK o.dst v f fun f => ih (i :: D) f H') ops.toList 0 none) n
theorem dsC_succ {ops : Array Oper} {M : List Nat} {H0 : Hp} {Q : Fr → Hp → Prop} {n : Nat} {D : List Nat} {f : Fr} {H : Hp} : dsC E nt ops M H0 Q (n + 1) D f H = match firstRd E ops M H0.length f D 0 ops.toList with
    | some (i, o) => (match o.dst with
      | some d => bif Nat.blt d nt then
          rdK E (hidM M 0 H0) (restr (looksL ops o) f) o.op fun v => frc v fun v => bif low H0.length v then dsC E nt ops M H0 Q n (i :: D) ((d, v) :: f) H else False else False
      | none => False)
    | none => brsK D (fun i o => efC E nt M H0.length o f H fun v H' => pushK o.dst v f fun f => dsC E nt ops M H0 Q n (i :: D) f H') ops.toList 0 none := rfl
theorem dsC_ok {ops : Array Oper} {M : List Nat} {H0 : Hp} {Q : Exit → Fr → Hp → Prop} : ∀ (n : Nat) (D : List Nat) (f : Fr) (H : Hp), hidM M 0 (H.take H0.length) = hidM M 0 H0 → dsC E nt ops M H0 (Q .normal) n D f H → DR E.P nt X ops M H0 Q n D f H
  | 0, D, f, H, _, h => h
  | n + 1, D, f, H, hold, h => by
    have hlen : H0.length ≤ H.length := by
      have := congrArg List.length hold
      rw [hidM_len, hidM_len, List.length_take] at this
      omega
    rw [dsC_succ] at h
    split at h
    · rename_i i o hfi
      obtain ⟨_, h1, h2, h3, h6, h4, h5⟩ := firstRd_ok hfi
      split at h
      · rename_i d hd
        rw [looksL_eq] at h
        cases hb : Nat.blt d nt with
        | false => rw [hb] at h; cases h
        | true =>
          rw [hb, cond_true] at h
          obtain ⟨v, hpj, hk⟩ := pj_of (nt := nt) (X := X) (ops := ops) (ty := o.type) h
          rw [frc_eq] at hk
          cases hl : low H0.length v with
          | false => rw [hl] at hk; cases hk
          | true =>
            rw [hl, cond_true] at hk
            exact .inl ⟨i, o, d, v, by simpa using h1, h2, hd, Nat.le_of_ble_eq_true hb, h3, h6, hl, h5 d hd, .inl ⟨h4, hpj⟩, dsC_ok n _ _ _ hold hk⟩
      · cases h
    · refine .inr fun i o ho hD hw => ?_
      have hm := brsK_mem h (Nat.zero_le i) (by simpa using ho) hD hw
      obtain ⟨hg, hpo⟩ := efC_po (X := X) hlen hm
      refine pl_op hg (hpo.mono ?_)
      rintro f' H' ⟨v, rfl, ho1, hk⟩
      rw [pushK_eq] at hk
      refine pl_nil ⟨rfl, ?_, ho1.trans hold, dsC_ok n _ _ _ (ho1.trans hold) hk⟩
      cases hd : o.dst with
      | none => exact ext_rfl
      | some d => exact ext_cons
theorem dt_goC {id : Nat} {ops : Array Oper} {Q : Exit → Fr → Hp → Prop} (M : List Nat) (h : drawOkS ops = true ∧ dsC E nt ops M H (Q .normal) ops.toList.length [] f H) : DT E nt X id ops f H Q := ⟨by
  obtain ⟨hok, h⟩ := h
  have := pw_drawS (id := id) (l := ops.toList) (Q := Q) (X := X) M E.mixed (by simpa using hok) (by simpa using dsC_ok (Q := Q) (X := X) _ _ _ _ (by rw [List.take_length]) h)
  simpa using this⟩
end
section
variable {E : Env} {P : Program} {nt : Nat} {X : Ctx} {f : Fr} {H H' : Hp} {a : Act} {w : World} {blk : Nat → BC} {FP : Nat → List Nat}
theorem StB.thin (hk : ∀ k : Nat, H'[k]? = H[k]? ∨ H'[k]? = some none) (s : StB nt X f H blk FP a w) : StB nt X f H' blk FP a w := by
  have hget : ∀ (k : Nat) (r : Row), H'[k]? = some (some r) → H[k]? = some (some r) := fun k r h => by
    rcases hk k with q | q
    · rw [← q]; exact h
    · rw [q] at h; cases h
  have hkeep : ∀ b, X.S FP H w.heap.size b → X.S FP H' w.heap.size b ∧ w.heap[b]? = w.heap[b]? := fun b hb => ⟨⟨hb.1, hb.2.1, fun k r h => hb.2.2 k r (hget k r h)⟩, rfl⟩
  have hext : HExt H blk H' blk := fun k x hx => by
    rcases hk k with q | q
    · cases x with
      | none => exact .inl (q.trans hx)
      | some r => exact .inr ⟨r, r, rfl, q.trans hx, rfl, rfl, rfl⟩
    · exact .inl q
  exact ⟨s.defers, s.size, s.keeps, fun k r h => ⟨(s.rows k r (hget k r h)).1.mono hkeep hext fun _ _ => rfl, (s.rows k r (hget k r h)).2⟩, fun i j r r' hi hj => s.apart i j r r' (hget i r hi) (hget j r' hj), fun t => (s.fr t).mono hkeep hext, s.ext.trans hext⟩
def frP (f : Fr) : Fr → Prop
  | [] => True
  | (t, v) :: g => lk f t = v ∧ frP f g
theorem frP_lk : ∀ {g : Fr}, frP f g → ∀ t, lk g t = .any ∨ lk g t = lk f t
  | [], _, t => .inl rfl
  | (d, v) :: g, h, t => by
    rw [lk_cons]
    split
    · rename_i e; subst e; exact .inr h.1.symm
    · exact frP_lk h.2 t
def hpK : Hp → Hp → Prop
  | [], [] => True
  | x :: H, y :: H' => (y = x ∨ y = none) ∧ hpK H H'
  | [], y :: H' => y = none ∧ hpK [] H'
  | _ :: _, [] => False
theorem hpK_at : ∀ {H H' : Hp}, hpK H H' → ∀ k : Nat, H'[k]? = H[k]? ∨ H'[k]? = some none
  | [], [], _, k => .inl rfl
  | x :: H, y :: H', h, 0 => by
    rcases h.1 with rfl | rfl
    · exact .inl rfl
    · exact .inr rfl
  | x :: H, y :: H', h, k + 1 => by simpa using hpK_at h.2 k
  | [], y :: H', h, 0 => by obtain ⟨rfl, _⟩ := h; exact .inr rfl
  | [], y :: H', h, k + 1 => by simpa using hpK_at h.2 k
  | _ :: _, [], h, _ => h.elim
structure Cut (nt : Nat) (X : Ctx) {α : Type} (I : α → Prop) (g : α → Fr) (hp : α → Hp) (f : Fr) (H : Hp) : Prop where
  h : ∃ y, I y ∧ ∀ a w, St nt X f H a w → St nt X (g y) (hp y) a w
theorem cut_go {α : Type} {I : α → Prop} {g : α → Fr} {hp : α → Hp} (y : α) (hI : I y) (hg : frP f (g y)) (hH : hpK H (hp y)) : Cut nt X I g hp f H :=
  ⟨y, hI, fun a w ⟨blk, FP, s⟩ => ⟨blk, FP, (s.refr (g := g y) fun t hc => by
    rcases frP_lk hg t with q | q
    · rw [q]; exact .any _
    · rw [q]; exact hc).thin (hpK_at hH)⟩⟩
theorem cut_turn {α : Type} {I : α → Prop} {g : α → Fr} {hp : α → Hp} (t : Turn X H H') (h : Cut nt X I g hp f H') : Cut nt X I g hp f H := by
  obtain ⟨y, hI, hs⟩ := h
  exact ⟨y, hI, fun a w s => hs a w (s.turn t)⟩
def wpcN (E : Env) (nt : Nat) (X : Ctx) : Nat → Code → Fr → Hp → (Fr → Hp → Prop) → (Exit → Fr → Hp → Prop) → Prop
  | 0, _, f, H, J, _ => J f H
  | k + 1, .seq a b, f, H, J, Q => wpc E nt X a f H (thn (fun f H => wpcN E nt X k b f H J Q) Q)
  | _ + 1, _, _, _, _, _ => False
def restC : Nat → Code → Code
  | 0, c => c
  | k + 1, .seq _ b => restC k b
  | _ + 1, c => c
theorem wpcN_ok {J : Fr → Hp → Prop} {Q : Exit → Fr → Hp → Prop} : ∀ (k : Nat) (c : Code) (f : Fr) (H : Hp), wpcN E nt X k c f H J Q → (∀ f H, J f H → PW E.P nt X (restC k c) f H Q) → PW E.P nt X c f H Q
  | 0, c, f, H, h, hJ => hJ f H h
  | k + 1, c, f, H, h, hJ => by
    cases c with
    | seq a b =>
      refine pw_seq fun x w s => wp_mono (wpc_ok a f H _ h x w s) fun e x w ⟨f, H, q, s⟩ => ?_
      refine ⟨f, H, ?_, s⟩
      cases e with
      | normal => exact wpcN_ok k b f H q hJ
      | _ => exact q
    | _ => exact h.elim
theorem pw_cut {c : Code} {Q : Exit → Fr → Hp → Prop} {α : Type} (k : Nat) (I : α → Prop) (gf : α → Fr) (hp : α → Hp)
    (h : wpcN E nt X k c f H (Cut nt X I gf hp) Q) (h2 : ∀ y, I y → PW E.P nt X (restC k c) (gf y) (hp y) Q) : PW E.P nt X c f H Q :=
  wpcN_ok k c _ _ h fun f H ⟨⟨y, hI, hs⟩⟩ a w s => h2 y hI a w (hs a w s)
theorem ret_ofPM {g : FuncId} {fn : Func} {c : Code} {H0 : Hp} {al : List AV} {post : AV → Hp → Prop} {rvs : List ResultVar} (hf : E.P.funcs[g]? = some fn) (hb : fn.body = some c) (hnt : fn.ntmps = nt) (hrv : fn.results.toList = rvs) (hle : Nat.ble al.length nt = true)
    (h : ∀ X : Ctx, X.H0 = H0 → PW E.P nt X c (frm 0 al) H0 (FinM E X rvs post)) : RetM E.P g H0 al post :=
  ret_ofPT hf hb hnt hrv hle (fun _ => Turn.refl) h
end
section
attribute [local irreducible] IntKind.wrap
theorem lbz_zero {r : List Nat} {n sz cap cap' : Nat} {e e' : Nat → Nat → AV} {k : RK} (hc : cap = 0) (hc' : cap' = 0) : ArrP r n ⟨sz, cap, e, k⟩ ⟨sz, cap', e', k⟩ := by
  subst hc hc'
  exact ⟨rfl, rfl, rfl, fun i j hi => absurd hi (Nat.not_lt_zero _), fun i j hi => absurd hi (Nat.not_lt_zero _)⟩
theorem lbz_cap {n b : Nat} (h : n ≤ 10) (hb : b ≤ 1000) : (n + 1) * b ≤ 140737488355328 := Nat.le_trans (Nat.mul_le_mul (Nat.succ_le_succ h) hb) (by decide)
theorem lbz_capN {n : Nat} (h : n ≤ 10) : n + 1 ≤ 9223372036854775807 := by omega
theorem lbz_bytes {l : List Nat} {g : Nat → Nat → AV} {z : Int} (hg : g 0 0 = .i .u8 z) : Bytes (l.length + 1) (catE l.length (elE u8C l) g) := ⟨fun i hi => by
  rw [catE_at]
  split
  · exact ⟨_, rfl⟩
  · rw [show i - l.length = 0 by omega]; exact ⟨z, hg⟩⟩
theorem bytesOf_eq {n : Nat} {g g' : Nat → Nat → AV} (h : ∀ i, i < n → g i 0 = g' i 0) : bytesOf n g = bytesOf n g' := by
  unfold bytesOf
  congr 2
  exact List.map_congr_left fun i hi => by rw [h i (List.mem_range.1 hi)]
theorem bytes_snoc {l : List Nat} {g : Nat → Nat → AV} {z : Nat} (hg : g 0 0 = .i .u8 (z : Int)) : bytesOf (l.length + 1) (catE l.length (elE u8C l) g) = baN (l ++ [z]) := by
  rw [← bytesOf_u8, List.length_append, List.length_singleton]
  refine bytesOf_eq fun i hi => ?_
  rw [catE_at]
  split
  · rename_i q
    show AV.i .u8 _ = AV.i .u8 _
    rw [List.getD_eq_getElem?_getD (l := l ++ [z]), List.getElem?_append_left q, ← List.getD_eq_getElem?_getD]
  · rw [show i - l.length = 0 by omega, hg]
    obtain rfl : i = l.length := by omega
    show _ = AV.i .u8 _
    rw [List.getD_eq_getElem?_getD, List.getElem?_append_right (Nat.le_refl _), Nat.sub_self]
    first | done | rfl
theorem leb_le {l : List Nat} {m n k : Nat} (hb : (lebL n).length ≤ k) (h : l ++ lebL m = lebL n ∧ m < 9223372036854775808) : l.length ≤ k := by
  rw [← h.1, List.length_append] at hb
  omega
theorem lbz_rho {X : Ctx} {r : List Nat} {id : Nat} (hX : X.H0 = []) (h : id < X.H0.length) : rhoF r id = id := by rw [hX] at h; exact absurd h (Nat.not_lt_zero _)
theorem lbz_len {α : Type} {l : List α} {a : α} : l.length + 1 = (l ++ [a]).length := by rw [List.length_append]; rfl
theorem shr7 (n : Nat) : Int.fdiv (n : Int) (2 ^ min (Int.toNat 7) 64) = ((n / 128 : Nat) : Int) := by
  have : (2 : Int) ^ min (Int.toNat 7) 64 = 128 := by decide
  rw [this, Int.fdiv_eq_ediv_of_nonneg _ (by omega)]
  rfl
theorem quo7 {n : Nat} (h : n < 9223372036854775808) : IntKind.i64.wrap (Int.tdiv (n : Int) 128) = ((n / 128 : Nat) : Int) := by
  have : Int.tdiv (n : Int) 128 = ((n / 128 : Nat) : Int) := by rw [Int.tdiv_eq_ediv_of_nonneg (by omega)]; rfl
  rw [this, wrap_in (by omega) (by omega)]
theorem byte_put {n : Nat} (h : n < 9223372036854775808) : IntKind.u8.wrap (IntKind.i64.wrap (bits .and .i64 (n : Int) 127 + 128)) = ((n % 128 + 128 : Nat) : Int) := by
  rw [and_i64 ⟨by omega, by omega⟩, wrap_in (by omega) (by omega), IntKind.wrap_u8]
  omega
theorem byte_last {n : Nat} (h : n ≤ 127) : IntKind.u8.wrap (n : Int) = (n : Int) := by rw [IntKind.wrap_u8]; omega
theorem byte_putQ {n : Nat} (h : n < 9223372036854775808) : IntKind.u8.wrap (IntKind.i64.wrap (Int.tmod (n : Int) 128 + 128)) = ((n % 128 + 128 : Nat) : Int) := by
  rw [Int.tmod_eq_emod_of_nonneg (by omega), wrap_in (by omega) (by omega), IntKind.wrap_u8]
  omega
instance hold_u8 : HoldC u8C := holdC_plain fun _ => rfl
instance free_u8 : FreeC u8C := freeC_plain fun _ => rfl
theorem lebL_len : ∀ (k n : Nat), n < 128 ^ (k + 1) → (lebL n).length ≤ k + 1 := fun k => by
  induction k with
  | zero => intro n h; rw [lebL_small (by omega)]; exact Nat.le_refl _
  | succ k ih =>
    intro n h
    by_cases q : n ≤ 127
    · rw [lebL_small q]; exact Nat.succ_le_succ (Nat.zero_le _)
    · rw [lebL_big q, List.length_cons]
      have := ih (n / 128) (by rw [Nat.pow_succ] at h; omega)
      omega
structure LbS where
  n : Nat
  l : List Nat
set_option maxRecDepth 8000 in
set_option maxHeartbeats 4000000 in
theorem putLeb_spec (n : Nat) (h : n < 9223372036854775808) : RetM env.P 41 [] [.i .i64 (n : Int)] (fun r H => r = .s (baN (lebL n)) ∧ H = []) := by
  have hb := lebL_len 8 n (by
    have : (128 : Nat) ^ (8 + 1) = 9223372036854775808 := by decide
    omega)
  refine ret_ofPM (nt := 24) (rvs := [.tmp 2]) Try.func41 rfl rfl rfl rfl (fun X hX => ?_)
  refine pw_cut 3 (fun _ : Unit => True) (fun _ => [(0, .i .i64 (n : Int)), (3, .row 0 0)]) (fun _ => [some (rowL 1 u8C [])]) ?_ (fun _ _ => ?_)
  · repeat' (first | omega | (with_reducible show (_ : Int) < _; dsimp only; omega) | (with_reducible show (_ : Nat) ≤ _; dsimp only; omega) | ((with_reducible show SrcOk _ _ _) <;> (first | exact srcOk_1 rfl | exact srcOk_L (fun _ => ⟨rfl, rfl⟩) | exact srcOk_E (fun _ => ⟨rfl, rfl⟩))) | ((conv => whnf) <;> (first | refine And.intro ?_ ?_ | (intro _h; first | contradiction | (try simp only [dd] at _h)) | (refine dt_go ?_) | exact rfl | exact True.intro | exact dkk | exact dks | (refine wrap_succ ?_; omega))))
    all_goals (first | (exfalso; omega) | skip)
    conv => whnf
    refine cut_turn (turn_eq (id := 0) (x := rowL 1 u8C []) rfl rfl rfl rfl rfl (fun i j hi _ => absurd hi (Nat.not_lt_zero _))) ?_
    exact cut_go () trivial (by repeat' (first | exact trivial | refine And.intro rfl ?_)) (by repeat' (first | exact trivial | refine And.intro (.inl rfl) ?_ | refine And.intro (.inr rfl) ?_ | refine And.intro rfl ?_))
  refine wpc_ok _ _ _ _ ?_
  (try dsimp only)
  conv => whnf
  refine loopFT (fun y : LbS => [(0, .i .i64 (y.n : Int)), (3, .row 0 y.l.length)]) (fun y => [some (.arr ⟨1, y.l.length, elE u8C y.l, .arr⟩)]) (fun y => y.l ++ lebL y.n = lebL n ∧ y.n < 9223372036854775808) (fun y => y.n) ⟨n, []⟩ ⟨⟨rfl, h⟩, ?_⟩
  repeat' (first | omega | (with_reducible show (_ : Int) < _; dsimp only; omega) | (with_reducible show (_ : Nat) ≤ _; dsimp only; omega) | ((with_reducible show SrcOk _ _ _) <;> (first | exact srcOk_1 rfl | exact srcOk_L (fun _ => ⟨rfl, rfl⟩) | exact srcOk_E (fun _ => ⟨rfl, rfl⟩))) | ((conv => whnf) <;> (first | exact lbz_zero rfl rfl | exact low_cells rfl | exact lbz_cap (Nat.le_succ_of_le (leb_le hb ‹_ ∧ _›)) (by decide) | exact lbz_capN (Nat.le_succ_of_le (leb_le hb ‹_ ∧ _›)) | exact lbz_bytes rfl | refine And.intro ?_ ?_ | (intro _h; first | contradiction | (try simp only [dd] at _h)) | (refine dt_go ?_) | exact rfl | exact True.intro | exact dkk | exact dks | (refine wrap_succ ?_; omega))))
  · rename_i y hy
    conv => whnf
    refine roundET_turn (turn_eq (id := 2) (x := rowL 1 u8C (y.l ++ [y.n % 128 + 128])) rfl rfl lbz_len.symm rfl rfl (snoc_eq (l := y.l) (sz := 1) (a := y.n % 128 + 128) (c := u8C) rfl (fun j hj => ?_))) ?_
    · obtain rfl : j = 0 := Nat.lt_one_iff.1 hj
      show OwEq (.i .u8 (IntKind.u8.wrap (IntKind.i64.wrap (bits .and .i64 (y.n : Int) 127 + 128)))) (.i .u8 ((y.n % 128 + 128 : Nat) : Int))
      rw [byte_put hy.2]
      exact .refl _
    refine roundET_end ?_
    refine ⟨⟨y.n / 128, y.l ++ [y.n % 128 + 128]⟩, [2], ?_, ?_, ?_⟩
    · refine ⟨?_, Nat.lt_of_le_of_lt (Nat.div_le_self _ _) hy.2⟩
      dsimp only
      rw [List.append_assoc, List.singleton_append, ← lebL_big (by omega)]
      exact hy.1
    · show y.n / 128 < y.n
      omega
    repeat' (first | omega | (with_reducible show (_ : Int) < _; dsimp only; omega) | (with_reducible show (_ : Nat) ≤ _; dsimp only; omega) | ((with_reducible show SrcOk _ _ _) <;> (first | exact srcOk_1 rfl | exact srcOk_L (fun _ => ⟨rfl, rfl⟩) | exact srcOk_E (fun _ => ⟨rfl, rfl⟩))) | ((conv => whnf) <;> (first | exact arr_same rfl rfl (fun a j => low_cells rfl) | exact low_cells rfl | exact lbz_len | exact shr7 _ | exact lbz_rho hX _h | refine And.intro ?_ ?_ | (intro _h; first | contradiction | (try simp only [dd] at _h)) | (refine dt_go ?_) | exact rfl | exact True.intro | exact dkk | exact dks | (refine wrap_succ ?_; omega))))
  · rename_i y hy
    conv => whnf
    refine endM_pick [] [] (.s _) (view_of rfl .nil) rfl rfl (fun k hk => by rw [hX] at hk; exact absurd hk (Nat.not_lt_zero _)) ⟨?_, rfl⟩
    exact congrArg AV.s ((bytes_snoc (z := y.n) (congrArg (AV.i .u8) (byte_last (by omega)))).trans (by rw [← hy.1, lebL_small (by omega)]))
set_option maxRecDepth 8000 in
set_option maxHeartbeats 4000000 in
theorem putLeb_impl (n : Nat) (h : n < 9223372036854775808) : RetM env.P 38 [] [.i .i64 (n : Int)] (fun r H => r = .s (baN (lebL n)) ∧ H = []) := by
  have hb := lebL_len 8 n (by
    have : (128 : Nat) ^ (8 + 1) = 9223372036854775808 := by decide
    omega)
  refine ret_ofPM (nt := 24) (rvs := [.tmp 2]) Try.func38 rfl rfl rfl rfl (fun X hX => ?_)
  refine pw_cut 3 (fun _ : Unit => True) (fun _ => [(0, .i .i64 (n : Int)), (3, .row 0 0)]) (fun _ => [some (rowL 1 u8C [])]) ?_ (fun _ _ => ?_)
  · repeat' (first | omega | (with_reducible show (_ : Int) < _; dsimp only; omega) | (with_reducible show (_ : Nat) ≤ _; dsimp only; omega) | ((with_reducible show SrcOk _ _ _) <;> (first | exact srcOk_1 rfl | exact srcOk_L (fun _ => ⟨rfl, rfl⟩) | exact srcOk_E (fun _ => ⟨rfl, rfl⟩))) | ((conv => whnf) <;> (first | refine And.intro ?_ ?_ | (intro _h; first | contradiction | (try simp only [dd] at _h)) | (refine dt_go ?_) | exact rfl | exact True.intro | exact dkk | exact dks | (refine wrap_succ ?_; omega))))
    all_goals (first | (exfalso; omega) | skip)
    conv => whnf
    refine cut_turn (turn_eq (id := 0) (x := rowL 1 u8C []) rfl rfl rfl rfl rfl (fun i j hi _ => absurd hi (Nat.not_lt_zero _))) ?_
    exact cut_go () trivial (by repeat' (first | exact trivial | refine And.intro rfl ?_)) (by repeat' (first | exact trivial | refine And.intro (.inl rfl) ?_ | refine And.intro (.inr rfl) ?_ | refine And.intro rfl ?_))
  refine wpc_ok _ _ _ _ ?_
  (try dsimp only)
  conv => whnf
  refine loopFT (fun y : LbS => [(0, .i .i64 (y.n : Int)), (3, .row 0 y.l.length)]) (fun y => [some (.arr ⟨1, y.l.length, elE u8C y.l, .arr⟩)]) (fun y => y.l ++ lebL y.n = lebL n ∧ y.n < 9223372036854775808) (fun y => y.n) ⟨n, []⟩ ⟨⟨rfl, h⟩, ?_⟩
  repeat' (first | omega | (with_reducible show (_ : Int) < _; dsimp only; omega) | (with_reducible show (_ : Nat) ≤ _; dsimp only; omega) | ((with_reducible show SrcOk _ _ _) <;> (first | exact srcOk_1 rfl | exact srcOk_L (fun _ => ⟨rfl, rfl⟩) | exact srcOk_E (fun _ => ⟨rfl, rfl⟩))) | ((conv => whnf) <;> (first | exact lbz_zero rfl rfl | exact low_cells rfl | exact lbz_cap (Nat.le_succ_of_le (leb_le hb ‹_ ∧ _›)) (by decide) | exact lbz_capN (Nat.le_succ_of_le (leb_le hb ‹_ ∧ _›)) | exact lbz_bytes rfl | refine And.intro ?_ ?_ | (intro _h; first | contradiction | (try simp only [dd] at _h)) | (refine dt_go ?_) | exact rfl | exact True.intro | exact dkk | exact dks | (refine wrap_succ ?_; omega))))
  · rename_i y hy
    conv => whnf
    refine roundET_turn (turn_eq (id := 2) (x := rowL 1 u8C (y.l ++ [y.n % 128 + 128])) rfl rfl lbz_len.symm rfl rfl (snoc_eq (l := y.l) (sz := 1) (a := y.n % 128 + 128) (c := u8C) rfl (fun j hj => ?_))) ?_
    · obtain rfl : j = 0 := Nat.lt_one_iff.1 hj
      show OwEq (.i .u8 (IntKind.u8.wrap (IntKind.i64.wrap (Int.tmod (y.n : Int) 128 + 128)))) (.i .u8 ((y.n % 128 + 128 : Nat) : Int))
      rw [byte_putQ hy.2]
      exact .refl _
    refine roundET_end ?_
    refine ⟨⟨y.n / 128, y.l ++ [y.n % 128 + 128]⟩, [2], ?_, ?_, ?_⟩
    · refine ⟨?_, Nat.lt_of_le_of_lt (Nat.div_le_self _ _) hy.2⟩
      dsimp only
      rw [List.append_assoc, List.singleton_append, ← lebL_big (by omega)]
      exact hy.1
    · show y.n / 128 < y.n
      omega
    repeat' (first | omega | (with_reducible show (_ : Int) < _; dsimp only; omega) | (with_reducible show (_ : Nat) ≤ _; dsimp only; omega) | ((with_reducible show SrcOk _ _ _) <;> (first | exact srcOk_1 rfl | exact srcOk_L (fun _ => ⟨rfl, rfl⟩) | exact srcOk_E (fun _ => ⟨rfl, rfl⟩))) | ((conv => whnf) <;> (first | exact arr_same rfl rfl (fun a j => low_cells rfl) | exact low_cells rfl | exact lbz_len | exact quo7 hy.2 | exact lbz_rho hX _h | refine And.intro ?_ ?_ | (intro _h; first | contradiction | (try simp only [dd] at _h)) | (refine dt_go ?_) | exact rfl | exact True.intro | exact dkk | exact dks | (refine wrap_succ ?_; omega))))
  · rename_i y hy
    conv => whnf
    refine endM_pick [] [] (.s _) (view_of rfl .nil) rfl rfl (fun k hk => by rw [hX] at hk; exact absurd hk (Nat.not_lt_zero _)) ⟨?_, rfl⟩
    exact congrArg AV.s ((bytes_snoc (z := y.n) (congrArg (AV.i .u8) (byte_last (by omega)))).trans (by rw [← hy.1, lebL_small (by omega)]))
end
end Go.Proofs.Ytfaadafgbhmlfaa
