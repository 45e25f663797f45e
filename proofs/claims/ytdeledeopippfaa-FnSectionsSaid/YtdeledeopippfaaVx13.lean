/- Texts for VSectionsP. -/
import Derived.Test.YtdeledeopippfaaVx12
namespace Go.Proofs.Ytdeledeopippfaa
open Go Go.RowKit
set_option linter.unusedVariables false
set_option linter.unusedSimpArgs false
section
variable {E : Env} {P : Program} {nt : Nat} {X : Ctx} {f : Fr} {H : Hp} {ty : TypeId}
def rdK (E : Env) (H : Hp) (f : Fr) (op : Op) (K : AV → Prop) : Prop :=
  match op with
  | .move x => K (ev f x)
  | .assign x => K (ev f x)
  | .pick c x y => (match ev f c with
    | .kb true => K (ev f x)
    | .kb false => K (ev f y)
    | .b b => two b true (K (ev f x)) (K (ev f y))
    | _ => False)
  | .load t x => ldK E f H t x K
  | .fieldAddr t x i => faK E f H t x i K
  | .field t x i => fvK E f t x i K
  | .indexAddr t x y => iaK E f H t x y K
  | .index t x y => ixK E f t x y K
  | .binOp op t x y _ => opK E f H op t x y K
  | .unOp op _ x => unK f op x K
  | .convert s d x => cwK E f H s d x K
  | .nilCheck x => ncK f H x K
  | .makeFunc fn a b => mfK f fn a b K
  | .slice t x lo hi mx => slK E f H t x lo hi mx K
  | .lookup t x i ok => lkK E f H t x i ok K
  | .extract x i => exK f x i K
  | .build t ps => (match E.T.get t with
    | some ti => (match ti.k with | .ar .. => arK E f H t ps K | _ => bdK E f H t ps K)
    | none => False)
  | .call ⟨.builtin .max, args, _⟩ => mmK f .max args.toList K
  | .call ⟨.builtin .min, args, _⟩ => mmK f .min args.toList K
  | .call ⟨.builtin .len, args, tys⟩ => (match args.toList, tys.toList with
    | [x], [t] => lenK' E f H t x K
    | _, _ => False)
  | _ => False
theorem rdK_ok {op : Op} {K : AV → Prop} (h : rdK E H f op K) : ∃ v, RD E.P nt X op ty f H v ∧ K v := by
  unfold rdK at h
  split at h
  · exact ⟨_, rd_same (.inl rfl), h⟩
  · exact ⟨_, rd_same (.inr rfl), h⟩
  · rename_i c x y
    split at h
    · rename_i hc
      have := rd_pick (P := E.P) (nt := nt) (X := X) (H := H) (ty := ty) (x := x) (y := y) (.inr hc)
      exact ⟨_, this, h⟩
    · rename_i hc
      have := rd_pick (P := E.P) (nt := nt) (X := X) (H := H) (ty := ty) (x := x) (y := y) (.inr hc)
      exact ⟨_, this, h⟩
    · rename_i b hc
      refine ⟨_, rd_pick (.inl hc), ?_⟩
      cases b
      · exact two_2 h rfl
      · exact two_1 h rfl
    · cases h
  · exact ldK_ok h
  · exact faK_ok h
  · exact fvK_ok h
  · exact iaK_ok h
  · exact ixK_ok h
  · exact opK_ok h
  · exact unK_ok h
  · exact cwK_ok h
  · exact ncK_ok h
  · exact mfK_ok h
  · exact slK_ok h
  · exact lkK_ok h
  · exact exK_ok h
  · split at h
    · split at h
      · exact arK_ok h
      · exact bdK_ok h
    · cases h
  · exact mmK_ok (tys := #[]) h
  · exact mmK_ok (tys := #[]) h
  · rename_i args tys
    split at h
    · rename_i x t hx ht
      have e1 : args = #[x] := by
        have := congrArg List.toArray hx
        simpa using this
      have e2 : tys = #[t] := by
        have := congrArg List.toArray ht
        simpa using this
      subst e1 e2
      exact lenK_ok h
    · cases h
  · cases h
theorem at_ext {T : Hp} {id : Nat} {x : Option Row} (h : H[id]? = some x) : (H ++ T)[id]? = some x := by
  rw [List.getElem?_append_left (List.getElem?_eq_some_iff.1 h).1]; exact h
theorem ldK_det {t : TypeId} {x : Operand} {K : AV → Prop} (T : Hp) (h : ldK E f H t x K) : ∃ v, ldK E f (H ++ T) t x (fun v' => v' = v) ∧ K v := by
  unfold ldK at h ⊢
  split at h
  · cases h
  rename_i ti hti
  cases h0 : Nat.blt 0 ti.sz with
  | false => rw [h0] at h; cases h
  | true =>
    rw [h0, cond_true] at h
    simp only [cond_true]
    split at h
    · rename_i id j off hx
      split at h
      · rename_i r hr
        rw [at_ext hr]
        cases hl : Nat.ble (off + ti.sz) r.sz with
        | false => rw [hl] at h; cases h
        | true =>
          rw [hl, cond_true] at h
          cases ho : (cellsAt (r.es j) off ti.sz).any AV.isOw with
          | true => rw [ho] at h; cases h
          | false =>
            rw [ho, cond_false] at h
            refine ⟨_, ?_, h⟩
            simp only [hl, ho, cond_true, cond_false]
      · cases h
    · rename_i m g hx
      cases hl : Nat.ble ti.sz m with
      | false => rw [hl] at h; cases h
      | true =>
        rw [hl, cond_true] at h
        cases ho : (cellsAt g 0 ti.sz).any AV.isOw with
        | true => rw [ho] at h; cases h
        | false =>
          rw [ho, cond_false] at h
          refine ⟨_, ?_, h⟩
          simp only [hl, ho, cond_true, cond_false]
    · cases h
theorem faK_det {t : TypeId} {i : Nat} {x : Operand} {K : AV → Prop} (T : Hp) (h : faK E f H t x i K) : ∃ v, faK E f (H ++ T) t x i (fun v' => v' = v) ∧ K v := by
  unfold faK at h ⊢
  split at h
  · cases h
  rename_i off n ag hF
  cases hn : Nat.blt 0 n with
  | false => rw [hn] at h; cases h
  | true =>
    rw [hn, cond_true] at h
    simp only [hn, cond_true]
    split at h
    · rename_i id j o hx
      split at h
      · rename_i r hr
        rw [at_ext hr]
        cases hl : Nat.ble (o + off) r.sz with
        | false => rw [hl] at h; cases h
        | true =>
          rw [hl, cond_true] at h
          refine ⟨_, ?_, h⟩
          simp only [hl, cond_true]
      · cases h
    · exact ⟨_, rfl, h⟩
    · cases h
theorem iaK_det {t : TypeId} {x y : Operand} {K : AV → Prop} (T : Hp) (h : iaK E f H t x y K) : ∃ v, iaK E f (H ++ T) t x y (fun v' => v' = v) ∧ K v := by
  unfold iaK at h ⊢
  split at h
  · cases h
  rename_i e te hS
  simp only
  split at h
  · rename_i k z hy
    split at h
    · rename_i sz n g hx
      cases hs : Nat.beq sz te.sz with
      | false => rw [hs] at h; cases h
      | true =>
        rw [hs, cond_true] at h
        refine ⟨_, ?_, h.2⟩
        simp only [hs, cond_true]
        exact ⟨h.1, trivial⟩
    · rename_i id n hx
      split at h
      · rename_i r hr
        rw [at_ext hr]
        cases hs : Nat.beq r.sz te.sz with
        | false => rw [hs] at h; cases h
        | true =>
          rw [hs, cond_true] at h
          refine ⟨_, ?_, h.2⟩
          simp only [hs, cond_true]
          exact ⟨h.1, trivial⟩
      · cases h
    · cases h
  · cases h
theorem one2_ext {T : Hp} {x : AV} (h : one2 H x = true) : one2 (H ++ T) x = true := by
  cases x with
  | ptr id j off =>
    unfold one2 at h ⊢
    dsimp only at h ⊢
    cases hx : H[id]? with
    | none => rw [hx] at h; cases h
    | some r => rw [at_ext hx]; rw [hx] at h; exact h
  | row id n =>
    unfold one2 at h ⊢
    dsimp only at h ⊢
    cases hx : H[id]? with
    | none => rw [hx] at h; cases h
    | some r => rw [at_ext hx]; rw [hx] at h; exact h
  | rs id o n =>
    unfold one2 at h ⊢
    dsimp only at h ⊢
    cases hx : H[id]? with
    | none => rw [hx] at h; cases h
    | some r => rw [at_ext hx]; rw [hx] at h; exact h
  | mp id =>
    unfold one2 at h ⊢
    dsimp only at h ⊢
    cases hx : H[id]? with
    | none => rw [hx] at h; cases h
    | some r => rw [at_ext hx]; rw [hx] at h; exact h
  | _ => exact h
theorem all_ext {T : Hp} {cs : List AV} (h : cs.all (one2 H) = true) : cs.all (one2 (H ++ T)) = true :=
  List.all_eq_true.2 fun x hx => one2_ext (List.all_eq_true.1 h x hx)
theorem fillA_ext {T : Hp} {pl : List (Nat × Nat × Bool)} : ∀ {parts : List (Nat × AV)} {cells cs : List AV}, fillA H pl cells parts = some cs → fillA (H ++ T) pl cells parts = some cs
  | [], cells, cs, h => h
  | (i, x) :: rest, cells, cs, h => by
    unfold fillA at h ⊢
    split at h
    · rename_i o n ag hpl
      cases hb : (Nat.beq (avc x).length n && (Nat.ble (o + n) cells.length && (avc x).all (one2 H))) with
      | false => rw [hb] at h; cases h
      | true =>
        rw [hb, cond_true] at h
        rw [Bool.and_eq_true, Bool.and_eq_true] at hb
        have : (Nat.beq (avc x).length n && (Nat.ble (o + n) cells.length && (avc x).all (one2 (H ++ T)))) = true := by
          rw [Bool.and_eq_true, Bool.and_eq_true]
          exact ⟨hb.1, hb.2.1, all_ext hb.2.2⟩
        simp only [this, cond_true]
        exact fillA_ext h
    · cases h
theorem bdK_det {t : TypeId} {kx : Array (Nat × Operand)} {K : AV → Prop} (T : Hp) (h : bdK E f H t kx K) : ∃ v, bdK E f (H ++ T) t kx (fun v' => v' = v) ∧ K v := by
  unfold bdK at h ⊢
  split at h
  · cases h
  rename_i ti hti
  simp only
  split at h
  · rename_i zs hk hzs
    split at h
    · rename_i cs hfill
      refine ⟨_, ?_, h⟩
      simp only [fillA_ext (T := T) hfill]
    · cases h
  · cases h
theorem cmb_det {r : Option (Option Prop × AV)} {K : AV → Prop} (h : cmb r K) : ∃ v, cmb r (fun v' => v' = v) ∧ K v := by
  unfold cmb at h ⊢
  split at h
  · rename_i p v
    refine ⟨v, ?_, andO_1 h⟩
    cases p with
    | none => rfl
    | some p => exact ⟨h.1, rfl⟩
  · cases h
theorem binK_det {op : BinOp} {t : TypeId} {x y : Operand} {K : AV → Prop} (h : binK E f op t x y K) : ∃ v, binK E f op t x y (fun v' => v' = v) ∧ K v := by
  unfold binK at h ⊢
  split at h
  · rename_i k a hx
    split at h
    · rename_i k' b hy
      cases hk : decide (k = k') with
      | false => rw [hk] at h; cases h
      | true =>
        rw [hk, cond_true] at h
        simp only [hk, cond_true]
        exact cmb_det h
    · cases h
  · split at h
    · exact cmb_det h
    · cases h
  · split at h
    · cases hb : isB E t with
      | false => rw [hb] at h; cases h
      | true => rw [hb, cond_true] at h; simp only [hb, cond_true]; exact cmb_det h
    · cases hb : isB E t with
      | false => rw [hb] at h; cases h
      | true => rw [hb, cond_true] at h; simp only [hb, cond_true]; exact cmb_det h
    · cases h
  · split at h
    · cases hb : isB E t with
      | false => rw [hb] at h; cases h
      | true => rw [hb, cond_true] at h; simp only [hb, cond_true]; exact cmb_det h
    · cases hb : isB E t with
      | false => rw [hb] at h; cases h
      | true => rw [hb, cond_true] at h; simp only [hb, cond_true]; exact cmb_det h
    · cases h
  · split at h
    · split at h
      · split at h
        · split at h
          · rename_i b hb
            cases op with
            | eql => exact ⟨_, rfl, h⟩
            | neq => exact ⟨_, rfl, h⟩
            | _ => exact h.elim
          · cases h
        · cases h
      · cases h
    · cases h
  · cases h
theorem rdK_det {op : Op} {K : AV → Prop} (T : Hp) (h : rdK E H f op K) : ∃ v, rdK E (H ++ T) f op (fun v' => v' = v) ∧ K v := by
  unfold rdK at h
  split at h
  · exact ⟨_, rfl, h⟩
  · exact ⟨_, rfl, h⟩
  · rename_i c x y
    unfold rdK
    dsimp only
    split at h
    · exact ⟨_, rfl, h⟩
    · exact ⟨_, rfl, h⟩
    · rename_i b hc
      refine ⟨if b then ev f x else ev f y, ?_, ?_⟩
      · cases b
        · exact ⟨fun e => by simp at e, fun _ => rfl⟩
        · exact ⟨fun _ => rfl, fun e => absurd rfl e⟩
      · cases b
        · exact two_2 h rfl
        · exact two_1 h rfl
    · cases h
  · exact ldK_det T h
  · exact faK_det T h
  · rename_i t x i
    show ∃ v, fvK E f t x i (fun v' => v' = v) ∧ K v
    unfold fvK at h ⊢
    split at h
    · cases h
    · rename_i off n hF
      simp only
      split at h
      · rename_i cs hx
        cases hl : Nat.ble (off + n) cs.length with
        | false => rw [hl] at h; cases h
        | true => rw [hl, cond_true] at h; exact ⟨_, by simp only [hl, cond_true], h⟩
      · cases h
    · rename_i off n hF
      simp only
      split at h
      · split at h
        · rename_i c hc
          exact ⟨_, rfl, h⟩
        · cases h
      · cases h
  · exact iaK_det T h
  · rename_i t x y
    show ∃ v, ixK E f t x y (fun v' => v' = v) ∧ K v
    unfold ixK at h ⊢
    split at h
    · cases h
    simp only
    split at h
    · exact ⟨_, ⟨h.1, rfl⟩, h.2⟩
    · cases h
  · rename_i op t x y t'
    show ∃ v, opK E f (H ++ T) op t x y (fun v' => v' = v) ∧ K v
    unfold opK at h ⊢
    split at h
    · exact shK_det h
    · exact shK_det h
    · split at h
      · exact npK_det T h
      · exact npK_det T h
      · exact npK_det T h
      · exact binK_det h
  · rename_i op t x
    show ∃ v, unK f op x (fun v' => v' = v) ∧ K v
    unfold unK at h ⊢
    split at h
    · exact ⟨_, rfl, h⟩
    · exact ⟨_, rfl, h⟩
    · exact ⟨_, rfl, h⟩
    · cases h
  · rename_i s d x
    show ∃ v, cwK E f (H ++ T) s d x (fun v' => v' = v) ∧ K v
    unfold cwK at h ⊢
    split at h
    · exact bsK_det T h
    · exact bsK_det T h
    · exact bsK_det T h
    · exact bsK_det T h
    · unfold cvK at h ⊢
      split at h
      · split at h
        · split at h
          · rename_i h3
            exact ⟨_, by simp only [h3], h⟩
          · cases h
        · split at h
          · rename_i h3
            exact ⟨_, by simp only [h3], h⟩
          · cases h
        · cases h
      · cases h
  · exact ncK_det T h
  · exact mfK_det h
  · exact slK_det T h
  · exact lkK_det T h
  · rename_i x i
    show ∃ v, exK f x i (fun v' => v' = v) ∧ K v
    unfold exK at h ⊢
    split at h
    · split at h
      · rename_i c hi
        exact ⟨_, rfl, h⟩
      · cases h
    · cases h
  · rename_i t ps
    show ∃ v, (match E.T.get t with
      | some ti => (match ti.k with | .ar .. => arK E f (H ++ T) t ps (fun v' => v' = v) | _ => bdK E f (H ++ T) t ps (fun v' => v' = v))
      | none => False) ∧ K v
    split at h
    · split at h
      · exact arK_det T (fun x hx => one2_ext hx) h
      · exact bdK_det T h
    · cases h
  · exact mmK_det h
  · exact mmK_det h
  · rename_i args tys
    unfold rdK
    dsimp only
    split at h
    · rename_i x t hx ht
      have len : ∀ {K : AV → Prop}, lenK E f t x K → ∃ v, lenK E f t x (fun v' => v' = v) ∧ K v := by
        intro K h
        unfold lenK at h ⊢
        split at h
        · cases h
        simp only
        split at h
        · exact ⟨_, rfl, h⟩
        · exact ⟨_, rfl, h⟩
        · exact ⟨_, rfl, h⟩
        · exact ⟨_, rfl, h⟩
        · cases h
      unfold lenK' at h ⊢
      split at h
      · rename_i id n hxr
        have hl : live H id = true := by
          cases hl : live H id with
          | true => rfl
          | false => rw [hl] at h; cases h
        have hl' : live (H ++ T) id = true := by
          unfold live at hl ⊢
          cases hh : H[id]? with
          | none => rw [hh] at hl; cases hl
          | some r => rw [at_ext hh]; rw [hh] at hl; exact hl
        rw [hl, cond_true] at h
        simp only [hl', cond_true]
        exact len h
      · exact len h
    · cases h
  · cases h
theorem pj_of {ops : Array Oper} {op : Op} {K : AV → Prop} (h : rdK E H f op K) : ∃ v, PJ E.P nt X ops H op ty f v ∧ K v := by
  obtain ⟨v0, h0, hk⟩ := rdK_det [] h
  refine ⟨v0, pj_rd fun T => ?_, hk⟩
  obtain ⟨v, h1, h2⟩ := rdK_det T (by simpa using h0)
  subst h2
  obtain ⟨v', hr, rfl⟩ := rdK_ok (nt := nt) (X := X) (ty := ty) h1
  exact hr
def wopO (E : Env) (nt : Nat) (ok : Nat → Bool) (o : Oper) (f : Fr) (H : Hp) (K : AV → Hp → Prop) : Prop :=
  match o.op with
  | .box _ x => (match o.dst with | some d => bxK nt f H d x K | none => False)
  | .alloc t => (match o.dst with | some d => alK E nt H d t K | none => False)
  | .store t x y => (match o.dst with | some _ => False | none => stK E f H t x y fun H => K .any H)
  | .makeSlice t x y => (match o.dst with | some d => mkK E nt f H d t x y K | none => False)
  | .load t x => (match o.dst with
    | some d => bif Nat.blt d nt then (match ldow E f H t x with
        | some (H1, v) => frcH H1 fun H1 => frc v fun v => K v H1
        | none => rdK E H f (.load t x) fun v => frc v fun v => K v H) else False
    | none => False)
  | .call ⟨.value fx, args, _⟩ => (match o.dst with
    | some d => bif Nat.blt d nt then clM E f H ok fx args.toList K else False
    | none => clM E f H ok fx args.toList fun _ => K .any)
  | .mapEntry t m k => (match o.dst, meD E f H t m k with
    | some d, some g => bif Nat.blt d nt then ∀ st : Int, frcH (g st).H fun H' => frc (g st).v fun v => K v H' else False
    | _, _ => False)
  | op => (match o.dst with
    | some d => bif Nat.blt d nt then rdK E H f op fun v => frc v fun v => K v H else False
    | none => False)
def eqPol : BinOp → Option Bool
  | .eql => some true
  | .neq => some false
  | _ => none
def nlD (E : Env) (f : Fr) (H : Hp) : Op → Option (Nat × Bool × Bool)
  | .binOp op t x y _ => (match eqPol op with
    | some pol => (match ev f y with
      | .nils => (match E.T.get t with
        | some ti => (match ti.k with
          | .sl _ => (match ev f x with
            | .sl _ n _ => some (n, false, pol)
            | .row id n => bif live H id then some (n, false, pol) else none
            | .nils => some (0, true, pol)
            | _ => none)
          | _ => none)
        | none => none)
      | _ => none)
    | none => none)
  | _ => none
theorem run_nils {t e : Nat} (hT : P.underlying t = some (.slice e)) (ad : Option Addr) (n c : Nat) (w : World) : (Op.equal t (.slice ad n c) (.slice none 0 0)).run P w = .ok ad.isNone w := by
  have : ∀ m, (Op.equalIn (m + 1) t (.slice ad n c) (.slice none 0 0)).run P w = .ok ad.isNone w := fun m => by cases ad <;> simp [Op.equalIn, run_underlying hT]
  exact this 9999
theorem po_nl {n : Nat} {pol ce : Bool} {op : Op} {d : Nat} {pos : String} {after : Array Edge} {gd : Option (Nat × Bool)} {K : Fr → Hp → Prop} (h : nlD E f H op = some (n, ce, pol)) (hn : Nat.blt d nt = true) (hk : (n = 0 → K ((d, .kb pol) :: f) H) ∧ bif ce then True else K ((d, .kb (!pol)) :: f) H) :
    PO E.P nt X ⟨some d, op, ty, pos, after, gd⟩ f H K := by
  unfold nlD at h
  split at h
  · rename_i bop t x y t'
    have main : ∀ (e : Nat), E.P.underlying t = some (.slice e) → ev f y = .nils → (bop = .eql ∧ pol = true ∨ bop = .neq ∧ pol = false) → (∀ blk FP a w, StB nt X f H blk FP a w → ∃ ad c, a.eval x = .slice ad n c ∧ (ad = none → n = 0) ∧ (ce = true → ad = none)) → PO E.P nt X ⟨some d, .binOp bop t x y t', ty, pos, after, gd⟩ f H K := by
      intro e hu hy hop hx
      rintro a w ⟨blk, FP, s⟩ K' Q' hK
      obtain ⟨ad, c, hev, hnn, hce⟩ := hx blk FP a w s
      have hyv := inv_nils (hy ▸ s.ev y)
      have hg : (eqGuard bop t x y (.slice ad n c) (.slice none 0 0)).run E.P w = .ok () w := run_guard_ok (.inr (.inr (.inr (.inl ⟨ad, n, c, rfl⟩))))
      have hb : (binOp bop t (.slice ad n c) (.slice none 0 0)).run E.P w = .ok (.bool (if pol then ad.isNone else !ad.isNone)) w := by
        rcases hop with ⟨rfl, rfl⟩ | ⟨rfl, rfl⟩
        · have h : binOp .eql t (.slice ad n c) (.slice none 0 0) = (do pure (.bool (← Op.equal t (.slice ad n c) (.slice none 0 0)))) := rfl
          rw [h, Sem.run_bind, run_nils hu]
          rfl
        · have h : binOp .neq t (.slice ad n c) (.slice none 0 0) = (do pure (.bool (!(← Op.equal t (.slice ad n c) (.slice none 0 0))))) := rfl
          rw [h, Sem.run_bind, run_nils hu]
          rfl
      have hrun : (execOp a.eval ⟨some d, .binOp bop t x y t', ty, pos, after, gd⟩).run E.P w = .ok (.value (.bool (if pol then ad.isNone else !ad.isNone))) w := by simp [execOp, hev, hyv, hg, hb]
      unfold Oper.wp
      rw [hrun]
      cases ad with
      | none =>
        refine hK _ _ _ _ (hk.1 (hnn rfl)) ⟨blk, FP, s.put (Nat.le_of_ble_eq_true hn) ?_⟩
        cases pol <;> exact .kb _
      | some q =>
        refine hK _ _ _ _ (by cases ce with | false => exact hk.2 | true => cases hce rfl) ⟨blk, FP, s.put (Nat.le_of_ble_eq_true hn) ?_⟩
        cases pol <;> exact .kb _
    split at h
    · rename_i pol' hpol
      have hop : ∀ {q : Nat} {c' : Bool}, some (q, c', pol') = some (n, ce, pol) → q = n ∧ c' = ce ∧ (bop = .eql ∧ pol = true ∨ bop = .neq ∧ pol = false) := by
        intro q c' h
        cases h
        refine ⟨rfl, rfl, ?_⟩
        unfold eqPol at hpol
        split at hpol
        · cases hpol; exact .inl ⟨rfl, rfl⟩
        · cases hpol; exact .inr ⟨rfl, rfl⟩
        · cases hpol
      split at h
      · rename_i hy
        split at h
        · rename_i ti hti
          split at h
          · rename_i e htk
            split at h
            · rename_i sz m g hx
              obtain ⟨rfl, rfl, hp⟩ := hop h
              refine main e (und_sl hti htk) hy hp fun blk FP a w s => ?_
              have hc := s.ev x
              rw [hx] at hc
              generalize hu : a.eval x = u at hc
              cases hc with
              | sl0 ad cap hm => exact ⟨ad, cap, rfl, fun _ => rfl, fun h => by cases h⟩
              | sl b o cap U hS hn hm hc hf hu => exact ⟨_, cap, rfl, (fun h => by cases h), fun h => by cases h⟩
            · rename_i id m hx
              cases hl : live H id with
              | false => rw [hl] at h; cases h
              | true =>
                rw [hl, cond_true] at h
                obtain ⟨rfl, rfl, hp⟩ := hop h
                obtain ⟨r, hr⟩ := live_some hl
                refine main e (und_sl hti htk) hy hp fun blk FP a w s => ?_
                rcases inv_row hr (hx ▸ s.ev x) with ⟨hev, _⟩ | ⟨ad, hev, h0, _⟩
                · exact ⟨_, _, hev, (fun h => by cases h), fun h => by cases h⟩
                · exact ⟨ad, 0, by rw [hev, h0], (fun _ => h0), fun h => by cases h⟩
            · rename_i hx
              obtain ⟨rfl, rfl, hp⟩ := hop h
              exact main e (und_sl hti htk) hy hp fun blk FP a w s => ⟨none, 0, inv_nils (hx ▸ s.ev x), (fun _ => rfl), fun _ => rfl⟩
            · cases h
          · cases h
        · cases h
      · cases h
    · cases h
  · cases h
def wopV (E : Env) (nt : Nat) (o : Oper) (f : Fr) (H : Hp) (K : AV → Hp → Prop) : Prop :=
  match effD E f H o.op with
  | some e => bif dstOk nt o.dst then e.p ∧ frcH e.H fun H' => frc e.v fun v => K v H' else False
  | none => (match nlD E f H o.op with
    | some (n, ce, pol) => (match o.dst with
      | some d => bif Nat.blt d nt then (n = 0 → K (.kb pol) H) ∧ (bif ce then True else K (.kb (!pol)) H) else False
      | none => False)
    | none => wopO E nt (fun _ => true) o f H K)
def pushK (d : Option Tmp) (v : AV) (f : Fr) (K : Fr → Prop) : Prop := match d with | some d => K ((d, v) :: f) | none => K f
theorem pushK_eq {d : Option Tmp} {v : AV} {f : Fr} {K : Fr → Prop} : pushK d v f K = K (pushD d v f) := by cases d <;> rfl
def wop (E : Env) (nt : Nat) (o : Oper) (f : Fr) (H : Hp) (K : Fr → Hp → Prop) : Prop := wopV E nt o f H fun v H => pushK o.dst v f fun f => K f H
theorem wop_eq {o : Oper} {K : Fr → Hp → Prop} : wop E nt o f H K = wopV E nt o f H fun v H => K (pushD o.dst v f) H := by
  unfold wop
  congr 1
  funext v H
  exact pushK_eq
theorem wopO_ok {ok : Nat → Bool} {o : Oper} {K : Fr → Hp → Prop} (h : wopO E nt ok o f H fun v H => K (pushD o.dst v f) H) : PO E.P nt X o f H K := by
  obtain ⟨d?, op, ty, pos, after, gd⟩ := o
  unfold wopO at h
  dsimp only at h
  split at h
  · cases d? with
    | some d => exact bxK_ok h
    | none => cases h
  · cases d? with
    | some d => exact alK_ok h
    | none => cases h
  · cases d? with
    | some d => cases h
    | none => exact stK_ok h
  · cases d? with
    | some d => exact mkK_ok h
    | none => cases h
  · rename_i t x
    cases d? with
    | none => cases h
    | some d =>
      dsimp only at h
      cases hn : Nat.blt d nt with
      | false => rw [hn] at h; cases h
      | true =>
        rw [hn, cond_true] at h
        split at h
        · rename_i H1 v hH
          rw [frcH_eq, frc_eq] at h
          obtain ⟨_, _, _, _, _, _, _, _, _, hld⟩ := ldow_ok hH
          obtain ⟨v', hr, rfl⟩ := ldK_ok (nt := nt) (X := X) (ty := ty) hld
          rintro a w ⟨blk, FP, s⟩ K' Q' hK
          exact po_rd hr hn h a w (St.turn (ldow_turn hH s) ⟨blk, FP, s⟩) K' Q' hK
        · obtain ⟨v, hr, hk⟩ := rdK_ok (nt := nt) (X := X) (ty := ty) h
          rw [frc_eq] at hk
          exact po_rd hr hn hk
  · rename_i fx args tys
    cases d? with
    | some d =>
      dsimp only at h
      cases hn : Nat.blt d nt with
      | false => rw [hn] at h; cases h
      | true =>
        rw [hn, cond_true] at h
        rintro a w ⟨blk, FP, s⟩ K' Q' hK
        refine clM_run h s _ tys (by simp) K' Q' fun r u w' H2 blk2 FP2 hk _ s2 hc => ?_
        exact hK _ _ _ _ hk ⟨blk2, FP2, s2.put (Nat.le_of_ble_eq_true hn) hc⟩
    | none =>
      rintro a w ⟨blk, FP, s⟩ K' Q' hK
      refine clM_run h s _ tys (by simp) K' Q' fun r u w' H2 blk2 FP2 hk _ s2 hc => ?_
      exact hK _ _ _ _ hk ⟨blk2, FP2, s2⟩
  · rename_i t m k
    split at h
    · rename_i d g hg
      cases hn : Nat.blt d nt with
      | false => rw [hn] at h; cases h
      | true =>
        rw [hn, cond_true] at h
        refine po_me hg hn fun st => ?_
        have := h st
        rw [frcH_eq, frc_eq] at this
        exact this
    · cases h
  · cases d? with
    | some d =>
      dsimp only at h
      cases hn : Nat.blt d nt with
      | false => rw [hn] at h; cases h
      | true =>
        rw [hn, cond_true] at h
        obtain ⟨v, hr, hk⟩ := rdK_ok (nt := nt) (X := X) (ty := ty) h
        rw [frc_eq] at hk
        exact po_rd hr hn hk
    | none => cases h
theorem wop_ok {o : Oper} {K : Fr → Hp → Prop} (h : wop E nt o f H K) : PO E.P nt X o f H K := by
  rw [wop_eq] at h
  unfold wopV at h
  split at h
  · rename_i e he
    cases hd : dstOk nt o.dst with
    | false => rw [hd] at h; cases h
    | true =>
      rw [hd, cond_true, frcH_eq, frc_eq] at h
      exact po_eff (effD_ok he).1 h.1 hd h.2
  · split at h
    · rename_i n pol hnl
      obtain ⟨d?, op, ty, pos, after, gd⟩ := o
      cases d? with
      | none => cases h
      | some d =>
        dsimp only at h
        cases hn : Nat.blt d nt with
        | false => rw [hn] at h; cases h
        | true => rw [hn, cond_true] at h; exact po_nl hnl hn h
    · exact wopO_ok h
def wops (E : Env) (nt : Nat) (ops : Array Oper) : List Oper → Fr → Hp → (Fr → Hp → Prop) → Prop
  | [], f, H, K => K f H
  | o :: rest, f, H, K =>
    match o.guard with
    | none => wop E nt o f H fun f H => wops E nt ops rest f H K
    | some (i, pol) => (match (ops[i]?).bind (·.dst) with
      | some t => (match lk f t with
        | .kb b => bif b == pol then wop E nt { o with guard := none } f H fun f H => wops E nt ops rest f H K else bif (match o.dst with | some d => Nat.blt d nt | none => true) then wops E nt ops rest (skp o.dst f) H K else False
        | .b b => two b pol (wop E nt { o with guard := none } ((t, .kb pol) :: f) H fun f H => wops E nt ops rest f H K)
            (bif (match o.dst with | some d => Nat.blt d nt | none => true) then wops E nt ops rest (skp o.dst ((t, .kb (!pol)) :: f)) H K else False)
        | .tup [] => bif (match o.dst with | some d => Nat.blt d nt | none => true) then wops E nt ops rest (skp o.dst f) H K else False
        | _ => False)
      | none => False)
theorem pl_know {ops : Array Oper} {todo : List Oper} {Q : Exit → Fr → Hp → Prop} {t : Nat} {b : Bool} (hb : lk f t = .b b) (h : PL P nt X ops todo ((t, .kb b) :: f) H Q) : PL P nt X ops todo f H Q :=
  fun a w s => h a w (s.know hb)
theorem lk_self (t : Nat) (v : AV) : lk ((t, v) :: f) t = v := by rw [lk_cons, if_pos rfl]
theorem wops_ok {ops : Array Oper} {Q : Exit → Fr → Hp → Prop} : ∀ (l : List Oper) (f : Fr) (H : Hp) (K : Fr → Hp → Prop), (∀ f H, K f H → Q .normal f H) → wops E nt ops l f H K → PL E.P nt X ops l f H Q
  | [], f, H, K, hK, h => pl_nil (hK f H h)
  | o :: rest, f, H, K, hK, h => by
    have ih : ∀ f H, wops E nt ops rest f H K → PL E.P nt X ops rest f H Q := fun f H h => wops_ok rest f H K hK h
    have bne : ∀ {b pol : Bool}, (b == pol) = false → b = !pol := by intro b pol; cases b <;> cases pol <;> simp
    have skip : ∀ {f : Fr} {i t : Nat} {pol : Bool}, o.guard = some (i, pol) → (ops[i]?).bind (·.dst) = some t → (lk f t = .b (!pol) ∨ lk f t = .kb (!pol) ∨ lk f t = .tup []) →
        (bif (match o.dst with | some d => Nat.blt d nt | none => true) then wops E nt ops rest (skp o.dst f) H K else False) → PL E.P nt X ops (o :: rest) f H Q := by
      intro f i t pol hg hi hb h
      cases hn : (match o.dst with | some d => Nat.blt d nt | none => true) with
      | false => rw [hn] at h; cases h
      | true => rw [hn, cond_true] at h; exact pl_not hg hi hb hn (ih _ _ h)
    have run : ∀ {f : Fr} {i t : Nat} {pol : Bool}, o.guard = some (i, pol) → (ops[i]?).bind (·.dst) = some t → (lk f t = .b pol ∨ lk f t = .kb pol) →
        (wop E nt { o with guard := none } f H fun f H => wops E nt ops rest f H K) → PL E.P nt X ops (o :: rest) f H Q := by
      intro f i t pol hg hi hb h
      exact pl_run hg hi hb ((wop_ok h).mono ih)
    unfold wops at h
    split at h
    · rename_i hg
      exact pl_op hg ((wop_ok h).mono ih)
    · rename_i i pol hg
      split at h
      · rename_i t hi
        split at h
        · rename_i b hb
          cases hbp : b == pol with
          | true =>
            rw [hbp, cond_true] at h
            have e : b = pol := by simpa using hbp
            subst e
            exact run hg hi (.inr hb) h
          | false =>
            rw [hbp, cond_false] at h
            have e := bne hbp
            subst e
            exact skip hg hi (.inr (.inl hb)) h
        · rename_i b hb
          by_cases e : b = pol
          · subst e
            exact pl_know hb (run hg hi (.inr (lk_self _ _)) (two_1 h rfl))
          · have e' := bne (beq_eq_false_iff_ne.2 e)
            subst e'
            exact pl_know hb (skip hg hi (.inr (.inl (lk_self _ _))) (two_2 h rfl))
        · rename_i hb
          exact skip hg hi (.inr (.inr hb)) h
        · cases h
      · cases h
def inL : List Nat → Nat → Bool
  | [], _ => false
  | x :: r, t => bif Nat.beq x t then true else inL r t
theorem inL_eq (l : List Nat) (t : Nat) : inL l t = l.contains t := by
  induction l with
  | nil => rfl
  | cons x l ih =>
    show (bif Nat.beq x t then true else inL l t) = _
    rw [ih, List.contains_cons]
    cases h : Nat.beq x t with
    | true =>
      have := Nat.eq_of_beq_eq_true h
      subst this
      simp
    | false =>
      have : (t == x) = false := by
        rw [beq_eq_false_iff_ne]
        intro e
        subst e
        rw [Nat.beq_refl] at h
        cases h
      rw [this]; rfl
def bindsA (e : Edge) : Bool := match e.ground with | .textOnly _ => false | .gcOnly _ => false | _ => true
def allE (D : List Nat) : List Edge → Bool
  | [] => true
  | e :: r => bif bindsA e then (bif inL D e.on then allE D r else false) else allE D r
def waitsL (D : List Nat) (o : Oper) : Bool := allE D o.after.toList
theorem waitsL_eq (D : List Nat) (o : Oper) : waitsL D o = waits D o := by
  unfold waitsL waits
  rw [← Array.all_toList]
  induction o.after.toList with
  | nil => rfl
  | cons e r ih =>
    have hb : bindsA e = Region.binds .any e := by
      obtain ⟨on, g⟩ := e
      cases g <;> rfl
    unfold allE
    rw [List.all_cons, ← ih, hb, inL_eq]
    cases Region.binds .any e <;> cases D.contains e.on <;> simp
def rootOf (ops : List Oper) (f : Fr) : Nat → Operand → AV
  | 0, _ => .any
  | k + 1, .tmp t => (match ops.find? (fun o => match o.dst with | some d => Nat.beq d t | none => false) with
    | some o => (match o.op with
      | .fieldAddr _ x _ => rootOf ops f k x
      | .nilCheck x => rootOf ops f k x
      | .slice _ x _ _ _ => rootOf ops f k x
      | .indexAddr _ x _ => rootOf ops f k x
      | .move x => rootOf ops f k x
      | .assign x => (match lk f t with | .any => rootOf ops f k x | v => v)
      | _ => .any)
    | none => lk f t)
  | _, _ => .any
def rowId : AV → Option Nat
  | .ptr id _ _ => some id
  | .row id _ => some id
  | .rs id _ _ => some id
  | .mp id => some id
  | _ => none
def wrAt : Op → Option Operand
  | .store _ x _ => some x
  | .mapUpdate _ m _ _ => some m
  | .mapEntry _ m _ => some m
  | .entryStore _ m _ _ => some m
  | .call ⟨.builtin .copy, args, _⟩ => args.toList.head?
  | .call ⟨.builtin .clear, args, _⟩ => args.toList.head?
  | _ => none
def apAt (all : List Oper) (f : Fr) : Op → Option Operand
  | .call ⟨.builtin .append, args, _⟩ => (match args.toList with
    | [a, b] => (match rowId (rootOf all f 6 a), rowId (rootOf all f 6 b) with
      | some i, some j => bif Nat.beq i j then some a else none
      | _, _ => none)
    | _ => none)
  | op => wrAt op
def valA (E : Env) (ops : List Oper) (f : Fr) (H : Hp) : Nat → Operand → AV
  | 0, _ => .any
  | k + 1, .tmp t => (match ops.find? (fun o => match o.dst with | some d => Nat.beq d t | none => false) with
    | some o => (match o.op with
      | .move x => valA E ops f H k x
      | .assign x => (match lk f t with | .any => valA E ops f H k x | v => v)
      | .nilCheck x => valA E ops f H k x
      | .fieldAddr t' x i => (match fldAt E t' i, valA E ops f H k x with
        | some (off, _, _), .ptr id j o => .ptr id j (o + off)
        | _, _ => .any)
      | .indexAddr _ x y => (match valA E ops f H k x, valA E ops f H k y with
        | .row id _, .i _ z => .ptr id z.toNat 0
        | _, _ => .any)
      | .load _ x => (match valA E ops f H k x with
        | .ptr id j o => (match H[id]? with | some (some r) => r.es j o | _ => .any)
        | _ => .any)
      | _ => .any)
    | none => lk f t)
  | _, x => ev f x
def storedM (E : Env) (H : Hp) (all : List Oper) (f : Fr) : List Oper → List Nat
  | [] => []
  | o :: rest => (match apAt all f o.op with
    | some x => (match rowId (rootOf all f 6 x) with
      | some id => id :: storedM E H all f rest
      | none => (match rowId (valA E all f H 14 x) with
        | some id => id :: storedM E H all f rest
        | none => storedM E H all f rest))
    | none => storedM E H all f rest)
def isSb (E : Env) (s d : Nat) : Bool :=
  match E.T.get s, E.T.get d with
  | some ts, some td => (match ts.k, td.k with | .s, .sl _ => true | .sl _, .sl _ => true | _, _ => false)
  | _, _ => false
def rowsOf (r : Row) : List Nat := (cellsAt (r.es 0) 0 r.sz).filterMap fun x => match x with | .row id _ => some id | _ => none
def isApp : Op → Bool
  | .call ⟨.builtin .append, _, _⟩ => true
  | _ => false
def linkM (H : Hp) (ops : List Oper) (M : List Nat) : List Nat :=
  bif ops.any (fun o => isApp o.op) then M ++ M.flatMap (fun id => match H[id]? with
    | some (some r) => (match r.k with | .box => rowsOf r | _ => [])
    | _ => []) else M
def isRd (E : Env) (M : List Nat) (f : Fr) : Op → Bool
  | .load _ x => (match ev f x with | .ptr id _ _ => !inL M id | _ => true)
  | .lookup _ x _ _ => (match ev f x with | .mp id => !inL M id | _ => true)
  | .convert s d x => (match ev f x with | .row id _ => !inL M id | .rs id _ _ => !inL M id | _ => !isSb E s d)
  | .box .. | .alloc _ | .store .. | .makeSlice .. | .buildSlice .. | .makeMap .. | .mapUpdate .. | .insert .. | .mapEntry .. | .entryStore .. => false
  | .call ⟨.builtin .len, _, _⟩ => true
  | .call ⟨.builtin .max, _, _⟩ => true
  | .call ⟨.builtin .min, _, _⟩ => true
  | .call _ => false
  | _ => true
def isEf (E : Env) : Op → Bool
  | .box .. | .alloc _ | .store .. | .makeSlice .. | .buildSlice .. | .makeMap .. | .mapUpdate .. | .insert .. | .mapEntry .. | .entryStore .. => true
  | .convert s d _ => isSb E s d
  | .call ⟨.builtin .append, _, _⟩ => true
  | .call ⟨.builtin .copy, _, _⟩ => true
  | .call ⟨.builtin .clear, _, _⟩ => true
  | _ => false
def waitsOn (i : Nat) : List Edge → Bool
  | [] => false
  | e :: r => bif bindsA e then (bif Nat.beq e.on i then true else waitsOn i r) else waitsOn i r
theorem waitsOn_eq (i : Nat) : ∀ l : List Edge, waitsOn i l = l.any fun e => Region.binds .any e && Nat.beq e.on i
  | [] => rfl
  | e :: r => by
    have hb : Region.binds .any e = bindsA e := by
      unfold Region.binds bindsA
      cases e.ground <;> rfl
    rw [List.any_cons, hb, ← waitsOn_eq i r]
    show (bif bindsA e then (bif Nat.beq e.on i then true else waitsOn i r) else waitsOn i r) = _
    generalize waitsOn i r = x
    cases bindsA e <;> cases Nat.beq e.on i <;> rfl
def loneL (ops : Array Oper) (i d : Nat) : Nat → List Oper → Bool
  | _, [] => true
  | k, q :: r => bif Nat.beq k i then loneL ops i d (k + 1) r else bif inL (looksL ops q) d then (bif waitsOn i q.after.toList then loneL ops i d (k + 1) r else false) else loneL ops i d (k + 1) r
theorem loneL_at {ops : Array Oper} {i d : Nat} : ∀ (l : List Oper) (n k : Nat) (q : Oper), loneL ops i d n l = true → l[k - n]? = some q → n ≤ k → (Nat.beq k i || (!(q.looksAt ops).contains d || q.after.any fun e => Region.binds .any e && Nat.beq e.on i)) = true
  | [], n, k, q, _, h, _ => by simp at h
  | p :: l, n, k, q, h, hq, hn => by
    have h' : loneL ops i d (n + 1) l = true ∧ (n = k → p = q → (Nat.beq k i || (!(q.looksAt ops).contains d || q.after.any fun e => Region.binds .any e && Nat.beq e.on i)) = true) := by
      unfold loneL at h
      rw [inL_eq, looksL_eq, waitsOn_eq] at h
      cases hb : Nat.beq n i with
      | true => rw [hb, cond_true] at h; exact ⟨h, fun e _ => by rw [← e, hb]; rfl⟩
      | false =>
        rw [hb, cond_false] at h
        cases hc : (looks ops p).contains d with
        | false => rw [hc, cond_false] at h; exact ⟨h, fun e e2 => by rw [← e2]; unfold looks at hc; rw [hc]; simp⟩
        | true =>
          rw [hc, cond_true] at h
          cases ha : p.after.toList.any fun e => Region.binds .any e && Nat.beq e.on i with
          | false => rw [ha] at h; cases h
          | true =>
            rw [ha, cond_true] at h
            refine ⟨h, fun e e2 => ?_⟩
            rw [← e2, ← Array.any_toList, ha]
            simp
    by_cases e : n = k
    · subst e
      rw [Nat.sub_self] at hq
      exact h'.2 rfl (Option.some.inj hq)
    · exact loneL_at l (n + 1) k q h'.1 (by rw [show k - n = (k - (n + 1)) + 1 by omega] at hq; simpa using hq) (by omega)
theorem loneL_ok {ops : Array Oper} {i d : Nat} (h : loneL ops i d 0 ops.toList = true) : lone ops i d = true := by
  unfold lone
  refine List.all_eq_true.2 fun k hk => ?_
  cases hq : ops[k]? with
  | none => rfl
  | some q => exact loneL_at ops.toList 0 k q h (by simpa using hq) (Nat.zero_le _)
def firstRd (E : Env) (ops : Array Oper) (M : List Nat) (n0 : Nat) (f : Fr) (D : List Nat) : Nat → List Oper → Option (Nat × Oper)
  | _, [] => none
  | i, o :: rest => bif !inL D i && (waitsL D o && ((isRd E M f o.op && (looksL ops o).all (fun t => low n0 (lk f t))) && (match o.guard with | none => (match o.dst with | some d => loneL ops i d 0 ops.toList | none => true) | some _ => false))) then some (i, o) else firstRd E ops M n0 f D (i + 1) rest
theorem firstRd_ok {ops : Array Oper} {M : List Nat} {n0 : Nat} {f : Fr} {D : List Nat} : ∀ {l : List Oper} {k i : Nat} {o : Oper}, firstRd E ops M n0 f D k l = some (i, o) → k ≤ i ∧ l[i - k]? = some o ∧ i ∉ D ∧ waits D o = true ∧ (looks ops o).all (fun t => low n0 (lk f t)) = true ∧ o.guard = none ∧ ∀ d, o.dst = some d → lone ops i d = true
  | [], k, i, o, h => by cases h
  | p :: l, k, i, o, h => by
    unfold firstRd at h
    rw [inL_eq, waitsL_eq, looksL_eq] at h
    cases hb : (!D.contains k && (waits D p && ((isRd E M f p.op && (looks ops p).all (fun t => low n0 (lk f t))) && (match p.guard with | none => (match p.dst with | some d => loneL ops k d 0 ops.toList | none => true) | some _ => false)))) with
    | true =>
      rw [hb] at h
      cases h
      rw [Bool.and_eq_true, Bool.and_eq_true, Bool.and_eq_true, Bool.and_eq_true] at hb
      refine ⟨Nat.le_refl _, by simp, by simpa using hb.1, hb.2.1, hb.2.2.1.2, ?_⟩
      have := hb.2.2.2
      cases hg : p.guard with
      | none =>
        refine ⟨rfl, fun d hd => ?_⟩
        rw [hg, hd] at this
        exact loneL_ok this
      | some g => rw [hg] at this; cases this
    | false =>
      rw [hb] at h
      obtain ⟨h1, h2, h3⟩ := firstRd_ok h
      refine ⟨by omega, ?_, h3⟩
      rw [show i - k = (i - (k + 1)) + 1 by omega]
      simpa using h2
def efO (E : Env) (nt : Nat) (M : List Nat) (n0 : Nat) (o : Oper) (f : Fr) (H : Hp) (K : AV → Hp → Prop) : Prop :=
  match o.op with
  | .store _ x _ => (match ev f x with
    | .ptr id _ _ => bif M.contains id || Nat.ble n0 id then wopO E nt (fun i => Nat.ble n0 i) o f H K else False
    | _ => False)
  | .mapEntry t m k => (match meD E f H t m k with
    | some g => bif effIn M n0 (g 0) then wopO E nt (fun i => Nat.ble n0 i) o f H K else False
    | none => False)
  | .load t x => (match ldow E f H t x with
    | some _ => (match ev f x with
      | .ptr id _ _ => bif M.contains id || Nat.ble n0 id then wopO E nt (fun i => Nat.ble n0 i) o f H K else False
      | _ => False)
    | none => wopO E nt (fun i => Nat.ble n0 i) o f H K)
  | _ => wopO E nt (fun i => Nat.ble n0 i) o f H K
def efK (E : Env) (nt : Nat) (M : List Nat) (n0 : Nat) (o : Oper) (f : Fr) (H : Hp) (K : AV → Hp → Prop) : Prop :=
  match o.guard with
  | some _ => False
  | none => (match effD E f H o.op with
    | some e => bif effIn M n0 e then wopV E nt o f H K else False
    | none => efO E nt M n0 o f H K)
theorem hid_set {M : List Nat} {n0 id : Nat} {r r1 : Row} (hr : H[id]? = some (some r)) (h1 : r1.sz = r.sz) (h2 : r1.cap = r.cap) (h3 : blankK r1.k = blankK r.k) (h : (M.contains id || Nat.ble n0 id) = true) : hidM M 0 ((H.set id (some r1)).take n0) = hidM M 0 (H.take n0) := by
  apply List.ext_getElem?
  intro i
  rw [hidM_at, hidM_at, List.getElem?_take, List.getElem?_take]
  by_cases hi : i < n0
  · rw [if_pos hi, if_pos hi]
    by_cases e : id = i
    · subst e
      rw [List.getElem?_set_self (List.getElem?_eq_some_iff.1 hr).1, hr]
      have hM : M.contains id = true := by
        rw [Bool.or_eq_true] at h
        rcases h with h | h
        · exact h
        · have := Nat.le_of_ble_eq_true h; omega
      simp only [Nat.zero_add, hM, Option.map_some, cond_true, blank, h1, h2, h3]
    · rw [List.getElem?_set_ne e]
  · rw [if_neg hi, if_neg hi]
theorem efO_po {M : List Nat} {n0 : Nat} {o : Oper} {K : AV → Hp → Prop} (hn : n0 ≤ H.length) (h : efO E nt M n0 o f H K) : PO E.P nt X o f H fun f' H' => ∃ v, f' = pushD o.dst v f ∧ hidM M 0 (H'.take n0) = hidM M 0 (H.take n0) ∧ K v H' := by
  unfold efO at h
  obtain ⟨d?, op, ty, pos, after, gd⟩ := o
  dsimp only at h
  have hpush : ∀ r : Option Row, hidM M 0 ((H ++ [r]).take n0) = hidM M 0 (H.take n0) := fun r => by rw [List.take_append_of_le_length hn]
  split at h
  · rename_i t x y
    split at h
    · rename_i id j off hx
      cases hb : (M.contains id || Nat.ble n0 id) with
      | false => rw [hb] at h; cases h
      | true =>
        rw [hb, cond_true] at h
        unfold wopO at h
        cases d? with
        | some d => cases h
        | none =>
          dsimp only at h
          refine stK_ok ?_
          unfold stK at h ⊢
          split at h
          · cases h
          try dsimp only
          rw [hx] at h ⊢
          dsimp only at h ⊢
          rw [frc_eq] at h ⊢
          split at h
          · rename_i r hr
            try dsimp only
            cases hb2 : (Nat.beq (avc (ev f y)).length _ && (Nat.ble (off + _) r.sz && (avc (ev f y)).all (one2 H))) with
            | true =>
              rw [hb2, cond_true, setK_eq] at h
              rw [cond_true, setK_eq]
              exact ⟨_, rfl, hid_set hr rfl rfl rfl hb, h⟩
            | false => rw [hb2] at h; cases h
          · cases h
    · cases h
  · rename_i t m k
    split at h
    · rename_i g hg
      cases hb : effIn M n0 (g 0) with
      | false => rw [hb] at h; cases h
      | true =>
        rw [hb, cond_true] at h
        unfold wopO at h
        dsimp only at h
        split at h
        · rename_i d g' hg'
          rw [hg] at hg'
          cases hg'
          cases hnn : Nat.blt d nt with
          | false => rw [hnn] at h; cases h
          | true =>
            rw [hnn, cond_true] at h
            refine po_me hg hnn fun st => ⟨_, rfl, ?_, ?_⟩
            · refine effIn_ok hn ((meD_ok (nt := nt) (X := X) (ty := ty) hg).1 st) ?_
              have e := meD_t hg st
              unfold effIn at hb ⊢
              rw [e.1, e.2]
              exact hb
            · have := h st
              rw [frcH_eq, frc_eq] at this
              exact this
        · cases h
    · cases h
  · rename_i t x
    split at h
    · rename_i H1v hH
      obtain ⟨H1, v⟩ := H1v
      split at h
      · rename_i id j off hx
        cases hb : (M.contains id || Nat.ble n0 id) with
        | false => rw [hb] at h; cases h
        | true =>
          rw [hb, cond_true] at h
          unfold wopO at h
          cases d? with
          | none => cases h
          | some d =>
            dsimp only at h
            cases hnn : Nat.blt d nt with
            | false => rw [hnn] at h; cases h
            | true =>
              rw [hnn, cond_true, hH] at h
              dsimp only at h
              rw [frcH_eq, frc_eq] at h
              obtain ⟨id', j', off', n', r, hx', hr', ho', e1, hld⟩ := ldow_ok hH
              obtain ⟨v', hr, e2⟩ := ldK_ok (nt := nt) (X := X) (ty := ty) hld
              subst e2
              rintro a w ⟨blk, FP, s⟩ K' Q' hK
              refine po_rd (K := fun f' H' => ∃ v, f' = pushD (some d) v f ∧ hidM M 0 (H'.take n0) = hidM M 0 (H.take n0) ∧ K v H') hr hnn ⟨_, rfl, ?_, h⟩ a w (St.turn (ldow_turn hH s) ⟨blk, FP, s⟩) K' Q' hK
              subst e1
              rw [hx] at hx'
              cases hx'
              obtain ⟨q1, q2, r', q3, q4, q5, q6⟩ := opnC_at (j := j) n' off H r hr'
              apply List.ext_getElem?
              intro i
              rw [hidM_at, hidM_at, List.getElem?_take, List.getElem?_take]
              by_cases hi : i < n0
              · rw [if_pos hi, if_pos hi]
                by_cases e : i = id
                · subst e
                  rw [q3, hr']
                  have hM : M.contains i = true := by
                    rw [Bool.or_eq_true] at hb
                    rcases hb with h | h
                    · exact h
                    · have := Nat.le_of_ble_eq_true h; omega
                  simp only [Nat.zero_add, hM, Option.map_some, cond_true, blank, q4, q5, q6]
                · rw [q2 i (by omega) e]
              · rw [if_neg hi, if_neg hi]
      · cases h
    · rename_i hH
      unfold wopO at h
      cases d? with
      | none => cases h
      | some d =>
        dsimp only at h
        cases hnn : Nat.blt d nt with
        | false => rw [hnn] at h; cases h
        | true =>
          rw [hnn, cond_true, hH] at h
          dsimp only at h
          obtain ⟨v, hr, hk⟩ := rdK_ok (nt := nt) (X := X) (ty := ty) h
          rw [frc_eq] at hk
          exact po_rd hr hnn ⟨v, rfl, rfl, hk⟩
  · unfold wopO at h
    dsimp only at h
    split at h
    · cases d? with
      | none => cases h
      | some d =>
        refine bxK_ok ?_
        dsimp only at h
        unfold bxK at h ⊢
        cases hn : Nat.blt d nt with
        | false => rw [hn] at h; cases h
        | true =>
          rw [hn, cond_true, frc_eq] at h
          rw [cond_true, frc_eq]
          cases hb2 : (avc (ev f _)).all (one2 H) with
          | true =>
            rw [hb2, cond_true, snocK_eq] at h
            rw [cond_true, snocK_eq]
            exact ⟨_, rfl, hpush _, h⟩
          | false => rw [hb2] at h; cases h
    · cases d? with
      | none => cases h
      | some d =>
        refine alK_ok ?_
        dsimp only at h
        unfold alK at h ⊢
        split at h
        · cases h
        try dsimp only
        split at h
        · cases h
        try dsimp only
        cases hn : Nat.blt d nt with
        | false => rw [hn] at h; cases h
        | true =>
          rw [hn, cond_true, frcL_eq] at h
          rw [cond_true, frcL_eq]
          cases hb2 : List.all _ Value.oneCell' with
          | true =>
            rw [hb2, cond_true, snocK_eq] at h
            rw [cond_true, snocK_eq]
            exact ⟨_, rfl, hpush _, h⟩
          | false => rw [hb2] at h; cases h
    · exfalso; simp_all
    · cases d? with
      | none => cases h
      | some d =>
        refine mkK_ok ?_
        dsimp only at h
        unfold mkK at h ⊢
        split at h
        · cases h
        try dsimp only
        split at h
        · cases h
        rename_i zs hzs
        try dsimp only
        cases hb : (Nat.blt d nt && (Nat.beq zs.length _ && (zs.map cv).all AV.one1)) with
        | false => rw [hb] at h; cases h
        | true =>
          rw [hb, cond_true] at h
          rw [cond_true]
          split at h
          · obtain ⟨g, h⟩ := h
            rw [frcL_eq, snocK_eq] at h
            refine ⟨g, ?_⟩
            rw [frcL_eq, snocK_eq]
            exact ⟨_, rfl, hpush _, h⟩
          · cases h
    · exfalso; simp_all
    · rename_i fx args tys _ _ _
      cases d? with
      | some d =>
        dsimp only at h
        cases hnd : Nat.blt d nt with
        | false => rw [hnd] at h; cases h
        | true =>
          rw [hnd, cond_true] at h
          rintro a w ⟨blk, FP, s⟩ K' Q' hK
          refine clM_run h s _ tys (by simp) K' Q' fun r u w' H2 blk2 FP2 hk hsame s2 hc => ?_
          exact hK _ _ _ _ ⟨r, rfl, (by
            apply List.ext_getElem?
            intro i
            rw [hidM_at, hidM_at, List.getElem?_take, List.getElem?_take]
            by_cases hi : i < n0
            · rw [if_pos hi, if_pos hi, hsame i (by omega) (by
                cases hb : Nat.ble n0 i with
                | false => rfl
                | true => have := Nat.le_of_ble_eq_true hb; omega)]
            · rw [if_neg hi, if_neg hi]), hk⟩ ⟨blk2, FP2, s2.put (Nat.le_of_ble_eq_true hnd) hc⟩
      | none =>
        rintro a w ⟨blk, FP, s⟩ K' Q' hK
        refine clM_run h s _ tys (by simp) K' Q' fun r u w' H2 blk2 FP2 hk hsame s2 hc => ?_
        exact hK _ _ _ _ ⟨.any, rfl, (by
            apply List.ext_getElem?
            intro i
            rw [hidM_at, hidM_at, List.getElem?_take, List.getElem?_take]
            by_cases hi : i < n0
            · rw [if_pos hi, if_pos hi, hsame i (by omega) (by
                cases hb : Nat.ble n0 i with
                | false => rfl
                | true => have := Nat.le_of_ble_eq_true hb; omega)]
            · rw [if_neg hi, if_neg hi]), hk⟩ ⟨blk2, FP2, s2⟩
    · exfalso; simp_all
    · cases d? with
      | none => cases h
      | some d =>
        dsimp only at h
        cases hn : Nat.blt d nt with
        | false => rw [hn] at h; cases h
        | true =>
          rw [hn, cond_true] at h
          obtain ⟨v, hr, hk⟩ := rdK_ok (nt := nt) (X := X) (ty := ty) h
          rw [frc_eq] at hk
          exact po_rd hr hn ⟨v, rfl, rfl, hk⟩
theorem ef_po {M : List Nat} {n0 : Nat} {o : Oper} {K : AV → Hp → Prop} (hn : n0 ≤ H.length) (h : efK E nt M n0 o f H K) : o.guard = none ∧ PO E.P nt X o f H fun f' H' => ∃ v, f' = pushD o.dst v f ∧ hidM M 0 (H'.take n0) = hidM M 0 (H.take n0) ∧ K v H' := by
  unfold efK at h
  split at h
  · cases h
  rename_i hg
  refine ⟨hg, ?_⟩
  split at h
  · rename_i e he
    cases hb : effIn M n0 e with
    | false => rw [hb] at h; cases h
    | true =>
      rw [hb, cond_true] at h
      unfold wopV at h
      rw [he] at h
      dsimp only at h
      cases hd : dstOk nt o.dst with
      | false => rw [hd] at h; cases h
      | true =>
        rw [hd, cond_true, frcH_eq, frc_eq] at h
        obtain ⟨h1, h2⟩ := effD_ok (nt := nt) (X := X) (ty := o.type) he
        exact po_eff h1 h.1 hd ⟨e.v, rfl, effIn_ok hn h2 hb, h.2⟩
  · exact efO_po hn h
def andP (a : Option Prop) (p : Prop) : Option Prop := match a with | none => some p | some q => some (q ∧ p)
def allO (a : Option Prop) : Prop := match a with | none => True | some q => q
def brsK (D : List Nat) (F : Nat → Oper → Prop) (l : List Oper) : Nat → Option Prop → Prop :=
  List.rec (motive := fun _ => Nat → Option Prop → Prop) (fun _ acc => allO acc) (fun o _ ih k acc => bif !inL D k && waitsL D o then ih (k + 1) (andP acc (F k o)) else ih (k + 1) acc) l
theorem brsK_cons {D : List Nat} {F : Nat → Oper → Prop} {o : Oper} {l : List Oper} {k : Nat} {acc : Option Prop} : brsK D F (o :: l) k acc = (bif !inL D k && waitsL D o then brsK D F l (k + 1) (andP acc (F k o)) else brsK D F l (k + 1) acc) := rfl
theorem brsK_acc {D : List Nat} {F : Nat → Oper → Prop} : ∀ {l : List Oper} {k : Nat} {acc : Option Prop}, brsK D F l k acc → allO acc
  | [], k, acc, h => h
  | o :: l, k, acc, h => by
    rw [brsK_cons] at h
    cases hc : (!inL D k && waitsL D o) with
    | false => rw [hc] at h; exact brsK_acc h
    | true =>
      rw [hc, cond_true] at h
      have := brsK_acc h
      cases acc with
      | none => trivial
      | some q => exact And.left this
theorem brsK_mem {D : List Nat} {F : Nat → Oper → Prop} : ∀ {l : List Oper} {k i : Nat} {o : Oper} {acc : Option Prop}, brsK D F l k acc → k ≤ i → l[i - k]? = some o → i ∉ D → waits D o = true → F i o
  | [], k, i, o, acc, _, _, h, _, _ => by simp at h
  | p :: l, k, i, o, acc, hb, hk, h, hD, hw => by
    rw [brsK_cons, inL_eq, waitsL_eq] at hb
    by_cases e : k = i
    · subst e
      rw [Nat.sub_self] at h
      cases h
      rw [show (!D.contains k && waits D p) = true by simp [hD, hw], cond_true] at hb
      have := brsK_acc hb
      cases acc with
      | none => exact this
      | some q => exact And.right this
    · have h2 : l[i - (k + 1)]? = some o := by
        rw [show i - k = (i - (k + 1)) + 1 by omega] at h
        simpa using h
      cases hc : (!D.contains k && waits D p) with
      | true => rw [hc, cond_true] at hb; exact brsK_mem hb (by omega) h2 hD hw
      | false => rw [hc, cond_false] at hb; exact brsK_mem hb (by omega) h2 hD hw
def dsK (E : Env) (nt : Nat) (ops : Array Oper) (M : List Nat) (H0 : Hp) (Q : Fr → Hp → Prop) (n : Nat) : List Nat → Fr → Hp → Prop :=
  Nat.rec (motive := fun _ => List Nat → Fr → Hp → Prop) (fun _ f H => Q f H) (fun _ ih D f H => match firstRd E ops M H0.length f D 0 ops.toList with
    | some (i, o) => (match o.dst with
      | some d => bif Nat.blt d nt then
          rdK E (hidM M 0 H0) (restr (looksL ops o) f) o.op fun v => frc v fun v => bif low H0.length v then ih (i :: D) ((d, v) :: f) H else False else False
      | none => False)
    | none => brsK D (fun i o => efK E nt M H0.length o f H fun v H' => pushK o.dst v f fun f => ih (i :: D) f H') ops.toList 0 none) n
theorem dsK_succ {ops : Array Oper} {M : List Nat} {H0 : Hp} {Q : Fr → Hp → Prop} {n : Nat} {D : List Nat} {f : Fr} {H : Hp} : dsK E nt ops M H0 Q (n + 1) D f H = match firstRd E ops M H0.length f D 0 ops.toList with
    | some (i, o) => (match o.dst with
      | some d => bif Nat.blt d nt then
          rdK E (hidM M 0 H0) (restr (looksL ops o) f) o.op fun v => frc v fun v => bif low H0.length v then dsK E nt ops M H0 Q n (i :: D) ((d, v) :: f) H else False else False
      | none => False)
    | none => brsK D (fun i o => efK E nt M H0.length o f H fun v H' => pushK o.dst v f fun f => dsK E nt ops M H0 Q n (i :: D) f H') ops.toList 0 none := rfl
theorem dsK_ok {ops : Array Oper} {M : List Nat} {H0 : Hp} {Q : Exit → Fr → Hp → Prop} : ∀ (n : Nat) (D : List Nat) (f : Fr) (H : Hp), hidM M 0 (H.take H0.length) = hidM M 0 H0 → dsK E nt ops M H0 (Q .normal) n D f H → DR E.P nt X ops M H0 Q n D f H
  | 0, D, f, H, _, h => h
  | n + 1, D, f, H, hold, h => by
    have hlen : H0.length ≤ H.length := by
      have := congrArg List.length hold
      rw [hidM_len, hidM_len, List.length_take] at this
      omega
    rw [dsK_succ] at h
    split at h
    · rename_i i o hfi
      obtain ⟨_, h1, h2, h3, h6, h4, h5⟩ := firstRd_ok hfi
      split at h
      · rename_i d hd
        rw [looksL_eq] at h
        cases hb : Nat.blt d nt with
        | false => rw [hb] at h; cases h
        | true =>
          rw [hb, cond_true] at h
          obtain ⟨v, hpj, hk⟩ := pj_of (nt := nt) (X := X) (ops := ops) (ty := o.type) h
          rw [frc_eq] at hk
          cases hl : low H0.length v with
          | false => rw [hl] at hk; cases hk
          | true =>
            rw [hl, cond_true] at hk
            exact .inl ⟨i, o, d, v, by simpa using h1, h2, hd, Nat.le_of_ble_eq_true hb, h3, h6, hl, h5 d hd, .inl ⟨h4, hpj⟩, dsK_ok n _ _ _ hold hk⟩
      · cases h
    · refine .inr fun i o ho hD hw => ?_
      have hm := brsK_mem h (Nat.zero_le i) (by simpa using ho) hD hw
      obtain ⟨hg, hpo⟩ := ef_po (X := X) hlen hm
      refine pl_op hg (hpo.mono ?_)
      rintro f' H' ⟨v, rfl, ho1, hk⟩
      rw [pushK_eq] at hk
      refine pl_nil ⟨rfl, ?_, ho1.trans hold, dsK_ok n _ _ _ (ho1.trans hold) hk⟩
      cases hd : o.dst with
      | none => exact ext_rfl
      | some d => exact ext_cons
structure LW (P : Program) (nt : Nat) (X : Ctx) (c : Code) (f : Fr) (H : Hp) (Q : Exit → Fr → Hp → Prop) : Prop where
  pw : PW P nt X c f H Q
structure DT (E : Env) (nt : Nat) (X : Ctx) (id : Nat) (ops : Array Oper) (f : Fr) (H : Hp) (Q : Exit → Fr → Hp → Prop) : Prop where
  pw : PW E.P nt X (.region id ops true) f H Q
theorem dt_turn {id : Nat} {ops : Array Oper} {Q : Exit → Fr → Hp → Prop} {H1 : Hp} (ht : Turn X H H1) (h : DT E nt X id ops f H1 Q) : DT E nt X id ops f H Q := ⟨fun a w s => h.pw a w (s.turn ht)⟩
theorem dt_go {id : Nat} {ops : Array Oper} {Q : Exit → Fr → Hp → Prop} (h : bif ops.toList.any (fun o => isEf E o.op) then drawOkS ops = true ∧ dsK E nt ops (linkM H ops.toList (storedM E H ops.toList f ops.toList)) H (Q .normal) ops.toList.length [] f H
      else drawOk ops = true ∧ drK E nt ops H (rdK E H) ops.toList [] f fun f => Q .normal f H) : DT E nt X id ops f H Q := ⟨by
  cases hef : ops.toList.any (fun o => isEf E o.op) with
  | true =>
    rw [hef, cond_true] at h
    obtain ⟨hok, h⟩ := h
    have := pw_drawS (id := id) (l := ops.toList) (Q := Q) (X := X) (linkM H ops.toList (storedM E H ops.toList f ops.toList)) E.mixed (by simpa using hok) (by simpa using dsK_ok (Q := Q) (X := X) _ _ _ _ (by rw [List.take_length]) h)
    simpa using this
  | false =>
    rw [hef, cond_false] at h
    obtain ⟨hok, h⟩ := h
    obtain ⟨F, hF, hq⟩ := drK_ok (nt := nt) (X := X) (fun g op ty K h => rdK_ok h) ops.toList [] f _ (fun t v h => by cases h) h
    have := pw_draw (id := id) (l := ops.toList) (Q := Q) E.mixed (by simpa using hok) (by simpa using hF) hq
    simpa using this⟩
def wpc (E : Env) (nt : Nat) (X : Ctx) : Code → Fr → Hp → (Exit → Fr → Hp → Prop) → Prop
  | .skip, f, H, Q => Q .normal f H
  | .ret, f, H, Q => Q .ret f H
  | .exit id, f, H, Q => Q (.exit id) f H
  | .seq a b, f, H, Q => wpc E nt X a f H (thn (fun f H => wpc E nt X b f H Q) Q)
  | .block id c, f, H, Q => wpc E nt X c f H (inBlk id Q)
  | .cond c a b, f, H, Q => (match ev f c with
    | .kb true => wpc E nt X a f H Q
    | .kb false => wpc E nt X b f H Q
    | .b t => (match c with
      | .tmp s => two t true (wpc E nt X a ((s, .kb true) :: f) H Q) (wpc E nt X b ((s, .kb false) :: f) H Q)
      | _ => False)
    | _ => False)
  | .region _ ops false, f, H, Q => wops E nt ops ops.toList f H (Q .normal)
  | .region id ops true, f, H, Q => DT E nt X id ops f H Q
  | .loop c, f, H, Q => LW E.P nt X (.loop c) f H Q
  | _, _, _, _ => False
theorem wpc_ok : ∀ (c : Code) (f : Fr) (H : Hp) (Q : Exit → Fr → Hp → Prop), wpc E nt X c f H Q → PW E.P nt X c f H Q := by
  intro c
  induction c with
  | skip => intro f H Q h; exact pw_skip h
  | ret => intro f H Q h; exact pw_ret h
  | exit id => intro f H Q h; exact pw_exit h
  | seq a b iha ihb =>
    intro f H Q h
    refine pw_seq ((iha _ _ _ h).mono fun e f H q => ?_)
    cases e with
    | normal => exact ihb _ _ _ q
    | _ => exact q
  | block id c ih => intro f H Q h; exact pw_block (ih _ _ _ h)
  | cond c a b iha ihb =>
    intro f H Q h
    unfold wpc at h
    split at h
    · rename_i hc
      exact pw_cond (.inr hc) (fun _ => iha _ _ _ h) (fun e => by cases e)
    · rename_i hc
      exact pw_cond (.inr hc) (fun e => by cases e) (fun _ => ihb _ _ _ h)
    · rename_i t hc
      split at h
      · rename_i s
        have hk : lk f s = .b t := hc
        refine pw_cond (.inl hc) (fun e => ?_) (fun e => ?_)
        · subst e
          intro a w s
          exact iha _ _ _ (two_1 h rfl) a w (s.know hk)
        · subst e
          intro a w s
          exact ihb _ _ _ (two_2 h rfl) a w (s.know hk)
      · cases h
    · cases h
  | region id ops draw =>
    intro f H Q h
    cases draw with
    | false => exact pw_region (wops_ok _ _ _ _ (fun f H h => h) h)
    | true => exact h.pw
  | loop c ih => intro f H Q h; exact h.pw
  | _ => intro f H Q h; exact h.elim
def frm : Nat → List AV → Fr
  | _, [] => []
  | i, x :: r => (i, x) :: frm (i + 1) r
theorem lk_frm (avs : List AV) : ∀ (i t : Nat), lk (frm i avs) t = if t < i then .any else avs.getD (t - i) .any := by
  induction avs with
  | nil => intro i t; simp [frm, lk]
  | cons x r ih =>
    intro i t
    rw [frm, lk_cons, ih]
    by_cases h : i = t
    · subst h; simp
    · rw [if_neg h]
      by_cases h2 : t < i
      · rw [if_pos (by omega), if_pos h2]
      · rw [if_neg (by omega), if_neg h2, show t - i = (t - (i + 1)) + 1 by omega]
        simp
def rvSem (a : Act) : ResultVar → Sem Value
  | .tmp t => pure (a.tmps.getD t undef)
  | .cell p t => do loadVar t (← asAddr (a.tmps.getD p undef))
def rvK (E : Env) (f : Fr) (H : Hp) : List ResultVar → (List AV → Prop) → Prop
  | [], K => K []
  | .tmp t :: rest, K => rvK E f H rest fun vs => K (lk f t :: vs)
  | .cell p t :: rest, K => ldK E f H t (.tmp p) fun v => rvK E f H rest fun vs => K (v :: vs)
def pack : List AV → AV
  | [r] => r
  | rs => .tup rs
def Fin (E : Env) (rvs : List ResultVar) (post : AV → Prop) : Exit → Fr → Hp → Prop := fun e f H =>
  match e with
  | .ret => rvK E f H rvs fun vs => post (shr H (pack vs))
  | .normal => rvK E f H rvs fun vs => post (shr H (pack vs))
  | _ => False
theorem mapM_run {w : World} {f' : ResultVar → Sem Value} : ∀ (l : List ResultVar) (us : List Value), us.length = l.length → (∀ (j : Nat) rv u, l[j]? = some rv → us[j]? = some u → (f' rv).run P w = .ok u w) → (l.mapM f').run P w = .ok us w
  | [], us, hl, _ => by
    have : us = [] := List.eq_nil_of_length_eq_zero hl
    subst this
    simp
  | rv :: l, us, hl, h => by
    cases us with
    | nil => simp at hl
    | cons u us =>
      have ih := mapM_run l us (by simpa using hl) fun j rv u hj hu => h (j + 1) rv u (by simpa using hj) (by simpa using hu)
      have h0 := h 0 rv u rfl rfl
      simp [List.mapM_cons, h0, ih]
theorem rvK_run {blk : Nat → BC} {FP : Nat → List Nat} {a : Act} {w : World} (s : StB nt X f H blk FP a w) : ∀ (rvs : List ResultVar) (K : List AV → Prop), rvK E f H rvs K →
    ∃ (vs : List AV) (us : List Value), K vs ∧ us.length = rvs.length ∧ vs.length = rvs.length ∧ (∀ (j : Nat) rv u, rvs[j]? = some rv → us[j]? = some u → (rvSem a rv).run E.P w = .ok u w) ∧
      ∀ (j : Nat) (v : AV) (u : Value), vs[j]? = some v → us[j]? = some u → Conc w (X.S FP H w.heap.size) blk H v u
  | [], K, h => ⟨[], [], h, rfl, rfl, by simp, by simp⟩
  | rv :: rest, K, h => by
    have main : ∀ (v : AV) (u : Value), (rvSem a rv).run E.P w = .ok u w → Conc w (X.S FP H w.heap.size) blk H v u → rvK E f H rest (fun vs => K (v :: vs)) →
        ∃ (vs : List AV) (us : List Value), K vs ∧ us.length = (rv :: rest).length ∧ vs.length = (rv :: rest).length ∧ (∀ (j : Nat) rv' u, (rv :: rest)[j]? = some rv' → us[j]? = some u → (rvSem a rv').run E.P w = .ok u w) ∧
          ∀ (j : Nat) (v : AV) (u : Value), vs[j]? = some v → us[j]? = some u → Conc w (X.S FP H w.heap.size) blk H v u := by
      intro v u hr hc h
      obtain ⟨vs, us, hk, h1, h2, h3, h4⟩ := rvK_run s rest _ h
      refine ⟨v :: vs, u :: us, hk, by simp [h1], by simp [h2], fun j rv' u' hj hu => ?_, fun j v' u' hj hu => ?_⟩
      · cases j with
        | zero => cases hj; cases hu; exact hr
        | succ j => exact h3 j rv' u' (by simpa using hj) (by simpa using hu)
      · cases j with
        | zero => cases hj; cases hu; exact hc
        | succ j => exact h4 j v' u' (by simpa using hj) (by simpa using hu)
    cases rv with
    | tmp t => exact main _ _ rfl (s.fr t) h
    | cell p t =>
      obtain ⟨v, hr, hk⟩ := ldK_ok (nt := nt) (X := X) (ty := t) h
      obtain ⟨u, hu, hc⟩ := hr blk FP a w s
      refine main v u ?_ hc hk
      have hu' := hu none "" #[] none
      have hev : a.eval (.tmp p) = a.tmps.getD p undef := rfl
      have key : ∀ x : Value, (do let v ← Instr.loadAt t x; pure (Next.value v) : Sem Next).run E.P w = .ok (.value u) w → (do loadVar t (← asAddr x) : Sem Value).run E.P w = .ok u w := by
        intro x hx
        cases x with
        | pointer ad =>
          cases ad with
          | none => simp [Instr.loadAt, Instr.sureAddr] at hx
          | some ad =>
            simp only [Instr.loadAt, Instr.sureAddr, asAddr, Sem.run_bind, Sem.run_pure, Result.andThen_ok] at hx ⊢
            cases hl : (loadVar t ad).run E.P w with
            | ok v w2 => rw [hl] at hx; simp at hx; obtain ⟨rfl, rfl⟩ := hx; rfl
            | halt h w2 => rw [hl] at hx; simp at hx
        | _ => simp [Instr.loadAt, Instr.sureAddr] at hx
      refine key (a.tmps.getD p undef) ?_
      simpa [execOp, hev] using hu'
theorem fin_body {fn : Func} {post : AV → Prop} {e : Exit} {a : Act} {w : World} (hm : ∀ b, ¬ X.mod b) (s : St nt X f H a w) (h : Fin E fn.results.toList post e f H) :
    bodyPost E.P fn (fun e w' => ∃ r u, e = .returned u ∧ post r ∧ Conc w' (fun b => X.S0 b ∨ (X.w0.heap.size ≤ b ∧ b < w'.heap.size)) (fun _ => ⟨0, 0⟩) [] r u ∧ Below X.w0.heap.size X.w0 w') e a w := by
  obtain ⟨blk, FP, s⟩ := s
  have hbel : Below X.w0.heap.size X.w0 w := by
    have k := s.keeps
    exact ⟨k.os, k.tape, k.output, k.size, fun b hb => k.block b hb (hm b)⟩
  have main : rvK E f H fn.results.toList (fun vs => post (shr H (pack vs))) → ∃ u, (results fn a.tmps).run E.P w = .ok u w ∧ ∃ r, post r ∧ Conc w (fun b => X.S0 b ∨ (X.w0.heap.size ≤ b ∧ b < w.heap.size)) (fun _ => ⟨0, 0⟩) [] r u := by
    intro h
    obtain ⟨vs, us, hp, h1, h2, h3, h4⟩ := rvK_run s _ _ h
    have hrun : (fn.results.mapM (rvSem a)).run E.P w = .ok us.toArray w := by
      have := mapM_run (P := E.P) (w := w) (f' := rvSem a) fn.results.toList us h1 h3
      rw [Array.mapM_eq_mapM_toList]
      simp [this]
    have hrr : ∀ u, (pure (if h : us.toArray.size = 1 then us.toArray[0] else .tuple us.toArray) : Sem Value).run E.P w = .ok u w → (results fn a.tmps).run E.P w = .ok u w := by
      intro u hu
      have hdef : results fn a.tmps = (do let vs ← fn.results.mapM (rvSem a); pure (if h : vs.size = 1 then vs[0] else .tuple vs)) := by
        unfold results
        congr 1
      rw [hdef, Sem.run_bind, hrun]
      exact hu
    have hcs : ∃ u, (results fn a.tmps).run E.P w = .ok u w ∧ Conc w (X.S FP H w.heap.size) blk H (pack vs) u := by
      clear hrun h3 hp
      match vs, us, h1, h2, h4, hrr with
      | [v], [u], _, _, h4, hrr => exact ⟨u, hrr _ (by simp), h4 0 v u rfl rfl⟩
      | [], [], _, _, h4, hrr => exact ⟨_, hrr (.tuple #[]) (by simp), .tup [] [] rfl (by simp)⟩
      | v1 :: v2 :: vs, u1 :: u2 :: us, h1, h2, h4, hrr => exact ⟨_, hrr (.tuple (u1 :: u2 :: us).toArray) (by simp), .tup _ (u1 :: u2 :: us) (by rw [h1, h2]) h4⟩
      | [], _ :: _, h1, h2, _, _ => rw [← h2] at h1; simp at h1
      | [_], [], h1, h2, _, _ => rw [← h2] at h1; simp at h1
      | [_], _ :: _ :: _, h1, h2, _, _ => rw [← h2] at h1; simp at h1
      | _ :: _ :: _, [], h1, h2, _, _ => rw [← h2] at h1; simp at h1
      | _ :: _ :: _, [_], h1, h2, _, _ => rw [← h2] at h1; simp at h1
    obtain ⟨u, hu, hc⟩ := hcs
    refine ⟨u, hu, _, hp, shr_conc (S := X.S FP H w.heap.size) (blk := blk) (FP := FP) (fun b hb => hb.1.imp_right fun h => ⟨h, hb.2.1⟩) (fun id r hr => ⟨(s.rows id r hr).1, fun b hb => ?_⟩) hc⟩
    have := (s.rows id r hr).2 b hb
    exact .inr ⟨this.1.resolve_right (hm b), this.2⟩
  cases e with
  | ret => obtain ⟨u, hu, r, hp, hc⟩ := main h; exact ⟨s.defers, u, hu, r, u, rfl, hp, hc, hbel⟩
  | normal => obtain ⟨u, hu, r, hp, hc⟩ := main h; exact ⟨s.defers, u, hu, r, u, rfl, hp, hc, hbel⟩
  | _ => exact h.elim
theorem ret_of {g : FuncId} {fn : Func} {c : Code} {avs : List AV} {post : AV → Prop} {rvs : List ResultVar} (hf : E.P.funcs[g]? = some fn) (hb : fn.body = some c) (hnt : fn.ntmps = nt) (hrv : fn.results.toList = rvs) (hle : Nat.ble avs.length nt = true)
    (h : ∀ X : Ctx, wpc E nt X c (frm 0 avs) [] (Fin E rvs post)) : Ret E.P g avs post := by
  refine ⟨?_⟩
  intro w S us hS hc
  subst hnt hrv
  let X : Ctx := ⟨w, S, fun _ => False, [], fun _ => ⟨0, 0⟩, fun b hb => ⟨hS b hb, fun h => h⟩, hS.gl⟩
  have hle' := Nat.le_of_ble_eq_true hle
  refine calls_of_wp hf hb (wp_mono (wpc_ok c _ _ _ (h X) _ _ ?_) fun e a' w' l => ?_)
  · refine ⟨fun _ => ⟨0, 0⟩, fun _ => [], rfl, by simp [hc.1]; omega, Keeps.refl _ _, by simp, by simp, fun t => ?_, fun id x hx => by simp [X] at hx⟩
    rw [lk_frm]
    simp only [Nat.not_lt_zero, if_false, Nat.sub_zero]
    by_cases ht : t < avs.length
    · have hu : t < us.length := by rw [hc.1]; exact ht
      have h1 : avs.getD t .any = avs[t] := by simp [ht]
      have h2 : (us.toArray ++ Array.replicate (fn.ntmps - us.toArray.size) undef).getD t undef = us[t] := by simp [Array.getElem?_append, hu]
      rw [h1, h2]
      exact (hc.2 t _ _ (List.getElem?_eq_getElem ht) (List.getElem?_eq_getElem hu)).mono (fun b hb => ⟨⟨.inl hb, hS b hb, by simp⟩, rfl⟩) (HExt.refl _ _)
    · have h1 : avs.getD t .any = .any := by simp [List.getElem?_eq_none (Nat.le_of_not_lt ht)]
      rw [h1]
      exact .any _
  · obtain ⟨f, H, q, s⟩ := l
    exact fin_body (fun _ h => h) s q
structure EndM (X : Ctx) (H : Hp) (r : AV) (post : AV → Hp → Prop) : Prop where
  h : ∀ w blk FP u, RowsIn w (X.S FP H w.heap.size) blk FP H → Conc w (X.S FP H w.heap.size) blk H r u → HExt X.H0 X.blk0 H blk →
    ∃ r' H' blk' FP', post r' H' ∧ RowsIn w (X.S FP' H' w.heap.size) blk' FP' H' ∧ Conc w (X.S FP' H' w.heap.size) blk' H' r' u ∧ HExt X.H0 X.blk0 H' blk' ∧ ∀ b, inFP FP' H' b → inFP FP H b
def FinM (E : Env) (X : Ctx) (rvs : List ResultVar) (post : AV → Hp → Prop) : Exit → Fr → Hp → Prop := fun e f H =>
  match e with
  | .ret => rvK E f H rvs fun vs => EndM X H (pack vs) post
  | .normal => rvK E f H rvs fun vs => EndM X H (pack vs) post
  | _ => False
theorem results_run {fn : Func} {K : List AV → Prop} {blk : Nat → BC} {FP : Nat → List Nat} {a : Act} {w : World} (s : StB nt X f H blk FP a w) (h : rvK E f H fn.results.toList K) :
    ∃ vs u, K vs ∧ (results fn a.tmps).run E.P w = .ok u w ∧ Conc w (X.S FP H w.heap.size) blk H (pack vs) u := by
  obtain ⟨vs, us, hp, h1, h2, h3, h4⟩ := rvK_run s _ _ h
  have hrun : (fn.results.mapM (rvSem a)).run E.P w = .ok us.toArray w := by
    have := mapM_run (P := E.P) (w := w) (f' := rvSem a) fn.results.toList us h1 h3
    rw [Array.mapM_eq_mapM_toList]
    simp [this]
  have hrr : ∀ u, (pure (if h : us.toArray.size = 1 then us.toArray[0] else .tuple us.toArray) : Sem Value).run E.P w = .ok u w → (results fn a.tmps).run E.P w = .ok u w := by
    intro u hu
    have hdef : results fn a.tmps = (do let vs ← fn.results.mapM (rvSem a); pure (if h : vs.size = 1 then vs[0] else .tuple vs)) := by
      unfold results
      congr 1
    rw [hdef, Sem.run_bind, hrun]
    exact hu
  have hcs : ∃ u, (results fn a.tmps).run E.P w = .ok u w ∧ Conc w (X.S FP H w.heap.size) blk H (pack vs) u := by
    clear hrun h3 hp
    match vs, us, h1, h2, h4, hrr with
    | [v], [u], _, _, h4, hrr => exact ⟨u, hrr _ (by simp), h4 0 v u rfl rfl⟩
    | [], [], _, _, h4, hrr => exact ⟨_, hrr (.tuple #[]) (by simp), .tup [] [] rfl (by simp)⟩
    | v1 :: v2 :: vs, u1 :: u2 :: us, h1, h2, h4, hrr => exact ⟨_, hrr (.tuple (u1 :: u2 :: us).toArray) (by simp), .tup _ (u1 :: u2 :: us) (by rw [h1, h2]) h4⟩
    | [], _ :: _, h1, h2, _, _ => rw [← h2] at h1; simp at h1
    | [_], [], h1, h2, _, _ => rw [← h2] at h1; simp at h1
    | [_], _ :: _ :: _, h1, h2, _, _ => rw [← h2] at h1; simp at h1
    | _ :: _ :: _, [], h1, h2, _, _ => rw [← h2] at h1; simp at h1
    | _ :: _ :: _, [_], h1, h2, _, _ => rw [← h2] at h1; simp at h1
  obtain ⟨u, hu, hc⟩ := hcs
  exact ⟨vs, u, hp, hu, hc⟩
theorem ret_ofPT {g : FuncId} {fn : Func} {c : Code} {H0 H1 : Hp} {avs : List AV} {post : AV → Hp → Prop} {rvs : List ResultVar} (hf : E.P.funcs[g]? = some fn) (hb : fn.body = some c) (hnt : fn.ntmps = nt) (hrv : fn.results.toList = rvs) (hle : Nat.ble avs.length nt = true)
    (hT : Turns H0 H1) (h : ∀ X : Ctx, X.H0 = H0 → PW E.P nt X c (frm 0 avs) H1 (FinM E X rvs post)) : RetM E.P g H0 avs post := by
  refine ⟨?_⟩
  intro w S blk FP us hR hG hc
  subst hnt hrv
  let X : Ctx := ⟨w, S, inFP FP H0, H0, blk, fun b hb => ⟨(hR.free b hb).1, fun ⟨id, r, hr, hf⟩ => (hR.free b hb).2 id r hr hf⟩, hG⟩
  have hle' := Nat.le_of_ble_eq_true hle
  have hSX : ∀ b, S b → X.S FP H0 w.heap.size b ∧ w.heap[b]? = w.heap[b]? := fun b hb => ⟨⟨.inl hb, (hR.free b hb).1, (hR.free b hb).2⟩, rfl⟩
  have hout : ∀ {f : Fr} {H : Hp} {blk' : Nat → BC} {FP' : Nat → List Nat} {a' : Act} {w' : World} (s : StB fn.ntmps X f H blk' FP' a' w'), RowsIn w' (X.S FP' H w'.heap.size) blk' FP' H := fun s =>
    ⟨fun id r hr => ⟨(s.rows id r hr).1, fun b hb => ((s.rows id r hr).2 b hb).2⟩, s.apart, fun b hb => ⟨hb.2.1, hb.2.2⟩⟩
  refine calls_of_wp hf hb (wp_mono (h X rfl _ _ (St.turn (hT X) ?_)) fun e a' w' l => ?_)
  · refine ⟨blk, FP, rfl, by simp [hc.1]; omega, Keeps.refl _ _, fun id r hr => ⟨(hR.rows id r hr).1.mono hSX (HExt.refl _ _) fun _ _ => rfl, fun b hb => ⟨.inr ⟨id, r, hr, hb⟩, (hR.rows id r hr).2 b hb⟩⟩, hR.apart, fun t => ?_, HExt.refl _ _⟩
    rw [lk_frm]
    simp only [Nat.not_lt_zero, if_false, Nat.sub_zero]
    by_cases ht : t < avs.length
    · have hu : t < us.length := by rw [hc.1]; exact ht
      have h1 : avs.getD t .any = avs[t] := by simp [ht]
      have h2 : (us.toArray ++ Array.replicate (fn.ntmps - us.toArray.size) undef).getD t undef = us[t] := by simp [Array.getElem?_append, hu]
      rw [h1, h2]
      exact (hc.2 t _ _ (List.getElem?_eq_getElem ht) (List.getElem?_eq_getElem hu)).mono hSX (HExt.refl _ _)
    · have h1 : avs.getD t .any = .any := by simp [List.getElem?_eq_none (Nat.le_of_not_lt ht)]
      rw [h1]
      exact .any _
  · obtain ⟨f, H, q, blk', FP', s⟩ := l
    have main : rvK E f H fn.results.toList (fun vs => EndM X H (pack vs) post) → ∃ u, (results fn a'.tmps).run E.P w' = .ok u w' ∧ ∃ r H' blk2 FP2, post r H' ∧ RowsIn w' (X.S FP2 H' w'.heap.size) blk2 FP2 H' ∧ Conc w' (X.S FP2 H' w'.heap.size) blk2 H' r u ∧ HExt H0 blk H' blk2 ∧
        (∀ b, inFP FP2 H' b → w.heap.size ≤ b ∨ inFP FP H0 b) ∧ Keeps (inFP FP H0) w w' := by
      intro q
      obtain ⟨vs, u, hk, hu, hcu⟩ := results_run s q
      obtain ⟨r, H', blk2, FP2, h1, h2, h3, h4, h5⟩ := hk.h w' blk' FP' u (hout s) hcu s.ext
      refine ⟨u, hu, r, H', blk2, FP2, h1, h2, h3, h4, fun b hb => ?_, s.keeps⟩
      obtain ⟨id, r, hr, hbf⟩ := h5 b hb
      exact ((s.rows id r hr).2 b hbf).1
    cases e with
    | ret => obtain ⟨u, hu, r, H', blk2, FP2, h1, h2, h3, h4⟩ := main q; exact ⟨s.defers, u, hu, r, u, H', blk2, FP2, rfl, h1, h2, h3, h4⟩
    | normal => obtain ⟨u, hu, r, H', blk2, FP2, h1, h2, h3, h4⟩ := main q; exact ⟨s.defers, u, hu, r, u, H', blk2, FP2, rfl, h1, h2, h3, h4⟩
    | _ => exact q.elim
theorem ret_ofMT {g : FuncId} {fn : Func} {c : Code} {H0 H1 : Hp} {avs : List AV} {post : AV → Hp → Prop} {rvs : List ResultVar} (hf : E.P.funcs[g]? = some fn) (hb : fn.body = some c) (hnt : fn.ntmps = nt) (hrv : fn.results.toList = rvs) (hle : Nat.ble avs.length nt = true)
    (hT : Turns H0 H1) (h : ∀ X : Ctx, X.H0 = H0 → wpc E nt X c (frm 0 avs) H1 (FinM E X rvs post)) : RetM E.P g H0 avs post := ret_ofPT hf hb hnt hrv hle hT fun X hX => wpc_ok _ _ _ _ (h X hX)
theorem ret_ofM {g : FuncId} {fn : Func} {c : Code} {H0 : Hp} {avs : List AV} {post : AV → Hp → Prop} {rvs : List ResultVar} (hf : E.P.funcs[g]? = some fn) (hb : fn.body = some c) (hnt : fn.ntmps = nt) (hrv : fn.results.toList = rvs) (hle : Nat.ble avs.length nt = true)
    (h : ∀ X : Ctx, X.H0 = H0 → wpc E nt X c (frm 0 avs) H0 (FinM E X rvs post)) : RetM E.P g H0 avs post := ret_ofMT hf hb hnt hrv hle (fun _ => Turn.refl) h
theorem Ret.know {g : FuncId} {avs : List AV} {post : AV → Prop} {p : Prop} (hk : ∀ w S us, ConcL w S (fun _ => ⟨0, 0⟩) [] avs us → p) (h : p → Ret P g avs post) : Ret P g avs post :=
  ⟨fun w S us hS hc => (h (hk w S us hc)).h w S us hS hc⟩
end
end Go.Proofs.Ytdeledeopippfaa
