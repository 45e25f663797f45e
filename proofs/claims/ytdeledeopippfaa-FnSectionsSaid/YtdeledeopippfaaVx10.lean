/- Texts for VSectionsP. -/
import Derived.Laws.IdiomStrings
import Derived.Test.YtdeledeopippfaaVx9
import Derived.Test.YtdeledeopippfaaVx6
namespace Go.Proofs.Ytdeledeopippfaa
open Go Go.RowKit
set_option linter.unusedVariables false
set_option linter.unusedSimpArgs false
section
structure EffR where
  p : Prop
  v : AV
  H : Hp
  t : List Nat
  kl : List Nat
section
variable {E : Env} {P : Program} {nt : Nat} {X : Ctx} {f : Fr} {H : Hp} {ty : TypeId}
def EffOk (P : Program) (nt : Nat) (X : Ctx) (f : Fr) (H : Hp) (op : Op) (ty : TypeId) (e : EffR) : Prop :=
  e.p → ∀ blk FP a w, StB nt X f H blk FP a w → ∃ nx u w' blk' FP', (∀ (dst : Option Tmp) (pos : String) (after : Array Edge) (gd : Option (Nat × Bool)), (execOp a.eval ⟨dst, op, ty, pos, after, gd⟩).run P w = .ok nx w') ∧
    (nx = .value u ∨ (nx = .skip ∧ u = undef)) ∧ StB nt X f e.H blk' FP' a w' ∧ Conc w' (X.S FP' e.H w'.heap.size) blk' e.H e.v u
structure EffFr (H : Hp) (e : EffR) : Prop where
  len : H.length ≤ e.H.length
  same : ∀ i, i < H.length → i ∉ e.kl → i ∉ e.t → e.H[i]? = H[i]?
  dims : ∀ i, i < H.length → i ∉ e.kl → (e.H[i]?).map (fun r => r.map Go.Proofs.Ytdeledeopippfaa.blank) = (H[i]?).map (fun r => r.map Go.Proofs.Ytdeledeopippfaa.blank)
def sameR (id : Nat) : AV → Bool
  | .rs id' _ _ => Nat.beq id' id
  | _ => false
def isStrT (E : Env) (t : TypeId) : Bool := match E.T.get t with | some ti => (match ti.k with | .s => true | _ => false) | none => false
def apS (E : Env) (f : Fr) (H : Hp) (sx x : Operand) (t t' : TypeId) : Option EffR :=
  bif isStrT E t' then (match elemAt E t with
    | some (_, te) => (match te.zero with
      | some zs => bif (Nat.beq zs.length te.sz && (Nat.blt 0 te.sz && (zs.map cv).all AV.one1)) && Nat.beq te.sz 1 then
        (match ev f x with
        | .s b => (match ev f sx with
          | .row id n => (match H[id]? with
            | some (some r) => bif Nat.beq r.sz te.sz then
                some ⟨(n + b.size) * te.bytes ≤ 140737488355328 ∧ n + b.size ≤ 9223372036854775807, .row H.length (n + b.size), H.set id none ++ [some ⟨te.sz, n + b.size, catE n r.es (strE b), .arr⟩], [], [id]⟩ else none
            | _ => none)
          | _ => none)
        | _ => none) else none
      | none => none)
    | none => none) else none
def apD (E : Env) (f : Fr) (H : Hp) (args : List Operand) (tys : List TypeId) : Option EffR :=
  match args, tys with
  | [sx, x], [t, t'] => bif Nat.beq t' t then (match elemAt E t with
    | some (_, te) => (match te.zero with
      | some zs => bif Nat.beq zs.length te.sz && (Nat.blt 0 te.sz && (zs.map cv).all AV.one1) then
        (match srcF H (ev f x) with
        | some (sz, m, g) => bif Nat.beq sz te.sz then (match ev f sx with
          | .row id n => (match H[id]? with
            | some (some r) => bif Nat.beq r.sz te.sz then
                (bif sameR id (ev f x) then (bif r.k.isMp then none else some ⟨SrcOk m sz g ∧ n + m ≤ r.cap, .row id (n + m), H.set id (some ⟨r.sz, r.cap, segE n m g r.es, r.k⟩), [id], []⟩) else
                some ⟨SrcOk m sz g ∧ ((n + m) * te.bytes ≤ 140737488355328 ∧ n + m ≤ 9223372036854775807), .row H.length (n + m), H.set id none ++ [some ⟨te.sz, n + m, catE n r.es g, .arr⟩], [], [id]⟩) else none
            | _ => none)
          | .nils => some ⟨SrcOk m sz g ∧ (m * te.bytes ≤ 140737488355328 ∧ m ≤ 9223372036854775807), .row (H.length + 1) m, H ++ [none, some ⟨te.sz, m, g, .arr⟩], [], []⟩
          | _ => none) else none
        | none => none) else none
      | none => none)
    | none => none) else apS E f H sx x t t'
  | _, _ => none
theorem row_ext (blk : Nat → BC) {X : Ctx} {FP : Nat → List Nat} {a : Act} {w : World} {id : Nat} {r : Row} (s : StB nt X f H blk FP a w) (hr : H[id]? = some (some r)) (hk : r.k = .arr) (es : Nat → Nat → AV) (he : ∀ i j, i < r.cap → j < r.sz → es i j = r.es i j) :
    StB nt X f (H.set id (some ⟨r.sz, r.cap, es, .arr⟩)) blk FP a w := s.same hr es .arr (by rw [hk]) (by rw [hk]; rfl) he
theorem set_fr {id : Nat} {r r1 : Row} {p : Prop} {v : AV} (hr : H[id]? = some (some r)) (hb : Go.Proofs.Ytdeledeopippfaa.blank r1 = Go.Proofs.Ytdeledeopippfaa.blank r) : EffFr H ⟨p, v, H.set id (some r1), [id], []⟩ := by
  have hid : id < H.length := (List.getElem?_eq_some_iff.1 hr).1
  refine ⟨by simp, fun i hi _ hn => ?_, fun i hi _ => ?_⟩
  · dsimp only at hn ⊢
    rw [List.getElem?_set_ne (fun e => hn (by simp [e]))]
  · dsimp only
    by_cases e : id = i
    · subst e
      rw [List.getElem?_set_self hid, hr]
      simp [hb]
    · rw [List.getElem?_set_ne e]
theorem set_fr' {id : Nat} {r : Row} {p : Prop} {v : AV} (hr : H[id]? = some (some r)) (es : Nat → Nat → AV) : EffFr H ⟨p, v, H.set id (some ⟨r.sz, r.cap, es, r.k⟩), [id], []⟩ := set_fr hr rfl
theorem StB.seg' {blk : Nat → BC} {FP : Nat → List Nat} {a : Act} {w : World} {id : Nat} {r : Row} (s : StB nt X f H blk FP a w) (hr : H[id]? = some (some r)) (hk : r.k.isMp = false) (o k : Nat) (hok : o + k ≤ r.cap) (U : Nat → Nat → Value) (g : Nat → Nat → AV) (ad : Option Addr) (had : 0 < k → ad = some ⟨(blk id).b, o * r.sz, none⟩)
    (hU : ∀ i j, i < k → j < r.sz → (U i j).oneCell' = true ∧ Conc w (X.S FP H w.heap.size) blk H (g i j) (U i j)) :
    ∃ w', ((match ad with | some b => storeCells b (flat U k r.sz) | none => pure ()) : Sem Unit).run P w = .ok () w' ∧
      StB nt X f (H.set id (some ⟨r.sz, r.cap, segE o k g r.es, r.k⟩)) blk FP a w' ∧ w'.heap.size = w.heap.size := by
  rcases Nat.eq_zero_or_pos k with h0 | h0
  · subst h0
    have hnil : flat U 0 r.sz = [] := List.eq_nil_of_length_eq_zero (by rw [flat_len]; simp)
    refine ⟨w, ?_, s.same hr _ _ rfl hk fun i j _ _ => segE_out (by omega), rfl⟩
    rw [hnil]
    cases ad <;> rfl
  · obtain ⟨cur, ty', hb, hfit, s'⟩ := s.seg hr o k hok h0 U g hU
    refine ⟨_, ?_, s', by rw [setRow_size]⟩
    rw [had h0]
    have := run_storeZ P (blk id).b (o * r.sz) ty' (flat U k r.sz) 0 cur w hb (by simpa using hfit) (flat_all fun i j hi hj => (hU i j hi hj).1)
    simpa using this
theorem app_in {t el : Nat} {te : TI} {id n m : Nat} {r : Row} {g : Nat → Nat → AV} {sx x : Operand} (hu : E.P.underlying t = some (.slice el)) (hT : TIok E.P el te) (hr : H[id]? = some (some r)) (hrs : r.sz = te.sz) (hkm : r.k.isMp = false)
    (hsx : ev f sx = .row id n) (hsrc : srcF H (ev f x) = some (te.sz, m, g)) (hok : SrcOk m te.sz g) (hle : n + m ≤ r.cap) {blk : Nat → BC} {FP : Nat → List Nat} {a : Act} {w : World} (s : StB nt X f H blk FP a w) :
    ∃ nx u w' blk' FP', (∀ (dst : Option Tmp) (pos : String) (after : Array Edge) (gd : Option (Nat × Bool)), (execOp a.eval ⟨dst, .call ⟨.builtin .append, #[sx, x], #[t, t]⟩, ty, pos, after, gd⟩).run E.P w = .ok nx w') ∧
      (nx = .value u ∨ (nx = .skip ∧ u = undef)) ∧ StB nt X f (H.set id (some ⟨r.sz, r.cap, segE n m g r.es, r.k⟩)) blk' FP' a w' ∧ Conc w' (X.S FP' (H.set id (some ⟨r.sz, r.cap, segE n m g r.es, r.k⟩)) w'.heap.size) blk' (H.set id (some ⟨r.sz, r.cap, segE n m g r.es, r.k⟩)) (.row id (n + m)) u := by
  obtain ⟨i, hi, hisz, hiby⟩ := hT.info
  obtain ⟨A, c, U, hev, hA, hU⟩ := src_of s (s.ev x) hsrc hok
  have hid : id < H.length := (List.getElem?_eq_some_iff.1 hr).1
  have hnew : (H.set id (some (⟨r.sz, r.cap, segE n m g r.es, r.k⟩ : Row)))[id]? = some (some ⟨r.sz, r.cap, segE n m g r.es, r.k⟩) := by
    rw [List.getElem?_set_self hid]
  have hfl : (flat U m te.sz).length = m * te.sz := flat_len _ _ _
  rcases inv_row hr (hsx ▸ s.ev sx) with ⟨hv, hn, hcc, h0, hcm⟩ | ⟨ad, hv, rfl, h0, h1⟩
  · rcases Nat.eq_zero_or_pos m with hm | hm
    · subst hm
      have s' := s.same hr (segE n 0 g r.es) r.k rfl hkm fun i j _ _ => segE_out (by omega)
      rcases (s.rows id r hr).1 with hrow | ⟨_, _, _, hbm, ty', cur, F, hb, _⟩
      · omega
      have hrun := run_app_none (P := E.P) (w := w) (ty := ty) hu hi (some ⟨(blk id).b, 0, none⟩) (fun b hb' => by cases hb'; exact ⟨_, _, _, rfl, hb⟩) n (blk id).c c (by omega) A
      exact ⟨.value (.slice (some ⟨(blk id).b, 0, none⟩) n (blk id).c), _, w, blk, FP, fun _ _ _ _ => by simp [execOp, resolve, invoke, builtin, hv, hev, hrun], .inl rfl, s', .row _ hnew hn hcc h0 hcm⟩
    · obtain ⟨cur, ty', hb, hfit, s'⟩ := s.seg hr n m hle hm U g (fun i j hi hj => ⟨(hU i j hi (by omega)).2.1, (hU i j hi (by omega)).2.2⟩)
      obtain ⟨b0, o0, hA0⟩ := hA hm
      have hcell : ∀ (j : Nat) (v : Value), (flat U m te.sz)[j]? = some v → w.cell? ((⟨b0, o0, none⟩ : Addr).add j) = some v := by
        intro j v hj
        have hlt : j < m * te.sz := by rw [← flat_len U]; exact (List.getElem?_eq_some_iff.1 hj).1
        obtain ⟨h1, h2, h3⟩ := lt_at hlt
        have hc := (hU (j / te.sz) (j % te.sz) h1 h2).1 b0 o0 hA0
        rw [← h3] at hc
        have hv : v = U (j / te.sz) (j % te.sz) := by
          simp [flat, hlt] at hj
          exact hj.symm
        rw [add_mk, hv]
        exact hc
      have hrun := run_app_room (P := E.P) (w := w) (ty := ty) hu hi (blk id).b n (blk id).c cur ty' hb ⟨b0, o0, none⟩ m c (flat U m te.sz) (by rw [hfl, hisz]) hcell (flat_all fun i j hi hj => (hU i j hi hj).2.1) (by omega) (by rw [hisz, ← hrs]; rw [hrs] at hfit ⊢; exact hfit)
      rw [hisz] at hrun
      rw [hrs] at s' hnew ⊢
      exact ⟨.value (.slice (some ⟨(blk id).b, 0, none⟩) (n + m) (blk id).c), _, _, blk, FP, fun _ _ _ _ => by simp [execOp, resolve, invoke, builtin, hv, hev, hA0, hrun], .inl rfl, s', .row _ hnew hle hcc h0 hcm⟩
  · have hm : m = 0 := by omega
    subst hm
    have s' := s.same hr (segE 0 0 g r.es) r.k rfl hkm fun i j _ _ => segE_out (by omega)
    have hrun : (Builtin.append_ #[t, t] ty #[.slice ad 0 0, .slice A 0 c]).run E.P w = .ok (.slice ad 0 0) w := by
      cases ad with
      | none => exact run_app_none hu hi _ (fun b hb' => by cases hb') 0 0 c (Nat.le_refl _) A
      | some q =>
        cases A with
        | none => simp [Builtin.append_, run_underlying hu, sizeOf, typeInfo, hi, Builtin.lenOf, Builtin.firstCells, storeCells]
        | some q' =>
          have hf := run_firstCells_some (P := E.P) w i.size 0 q' 0 c [] (by simp) (by simp)
          simp [Builtin.append_, run_underlying hu, sizeOf, typeInfo, hi, Builtin.lenOf, hf, storeCells]
    exact ⟨.value (.slice ad 0 0), _, w, blk, FP, fun _ _ _ _ => by simp [execOp, resolve, invoke, builtin, hv, hev, hrun], .inl rfl, s', .row0 _ hnew (by exact h0) h1 _⟩
theorem srcA {t' e : TypeId} {x : AV} {u : Value} {sz m : Nat} {g : Nat → Nat → AV} {blk : Nat → BC} {FP : Nat → List Nat} {a : Act} {w : World} (s : StB nt X f H blk FP a w) (ht : P.underlying t' = some (.slice e)) (hc : Conc w (X.S FP H w.heap.size) blk H x u) (hx : srcF H x = some (sz, m, g)) (hok : SrcOk m sz g) :
    ∃ U, ApSrc P w t' u m sz U ∧ ∀ i j, i < m → j < sz → (U i j).oneCell' = true ∧ Conc w (X.S FP H w.heap.size) blk H (g i j) (U i j) := by
  obtain ⟨A, c, U, rfl, hA, hU⟩ := src_of s hc hx hok
  refine ⟨U, apSrc_sl ht hA fun b o hA' j v hj => ?_, fun i j hi hj => (hU i j hi hj).2⟩
  have hlt : j < m * sz := by rw [← flat_len U]; exact (List.getElem?_eq_some_iff.1 hj).1
  obtain ⟨h1, h2, h3⟩ := lt_at hlt
  have hc := (hU (j / sz) (j % sz) h1 h2).1 b o hA'
  rw [← h3] at hc
  have hv : v = U (j / sz) (j % sz) := by
    simp [flat, hlt] at hj
    exact hj.symm
  rw [add_mk, hv]
  exact hc
theorem apS_ok {sx x : Operand} {t t' : TypeId} {e : EffR} (h : apS E f H sx x t t' = some e) : EffOk E.P nt X f H (.call ⟨.builtin .append, #[sx, x], #[t, t']⟩) ty e ∧ EffFr H e := by
  unfold apS at h
  cases hb : isStrT E t' with
  | false => rw [hb] at h; cases h
  | true =>
    rw [hb, cond_true] at h
    have hu' : E.P.underlying t' = some .string := by
      unfold isStrT at hb
      split at hb
      · rename_i ti hti
        have hk := (E.ty hti).k
        split at hb
        · rename_i hs
          rw [hs] at hk
          unfold tkOk at hk
          dsimp only at hk
          split at hk
          · assumption
          · cases hk
        · cases hb
      · cases hb
    split at h
    · rename_i el te hS
      obtain ⟨hu, hT⟩ := elemAt_ok hS
      split at h
      · rename_i zs hzs
        cases hb2 : ((Nat.beq zs.length te.sz && (Nat.blt 0 te.sz && (zs.map cv).all AV.one1)) && Nat.beq te.sz 1) with
        | false => rw [hb2] at h; cases h
        | true =>
          rw [hb2, cond_true] at h
          rw [Bool.and_eq_true, Bool.and_eq_true, Bool.and_eq_true] at hb2
          obtain ⟨⟨q1, q2, q3⟩, q4⟩ := hb2
          have hzl := Nat.eq_of_beq_eq_true q1
          have hs0 : 0 < te.sz := Nat.le_of_ble_eq_true q2
          have hs1 : te.sz = 1 := Nat.eq_of_beq_eq_true q4
          split at h
          · rename_i b hx
            split at h
            · rename_i id n hsx
              split at h
              · rename_i r hr
                cases hb4 : Nat.beq r.sz te.sz with
                | false => rw [hb4] at h; cases h
                | true =>
                  rw [hb4, cond_true] at h
                  have hrs := Nat.eq_of_beq_eq_true hb4
                  cases h
                  refine ⟨fun hp blk FP a w s => ?_, ⟨by simp, fun i hi hk _ => ?_, fun i hi hk => ?_⟩⟩
                  · obtain ⟨hle, hm⟩ := hp
                    have hxv := (inv_s (hx ▸ s.ev x)).1
                    obtain ⟨v', w', blk', FP', hrun, s', hc⟩ := s.app (ty := ty) (t' := t') (u := .string b) (m := b.size) (g := strE b) (U := strU b) hu hT hzs (hsx ▸ s.ev sx) hr hrs (by rw [hs1]; exact apSrc_str hu') (fun i j _ _ => ⟨rfl, .i (by
                      have := (b.data.getD i 0).toNat_lt
                      simp only [Lit.wf, IntKind.min, IntKind.max, IntKind.signed, IntKind.bits, Bool.and_eq_true, decide_eq_true_eq, if_true, Bool.false_eq_true, if_false]
                      omega)⟩) hs0 hzl q3 hle (by unfold maxLen; omega)
                    exact ⟨.value v', v', w', blk', FP', fun _ _ _ _ => by simp [execOp, resolve, invoke, builtin, hxv, hrun], .inl rfl, s', hc⟩
                  · dsimp only at hk ⊢
                    rw [List.getElem?_append_left (by simp; exact hi), List.getElem?_set_ne (fun e => hk (by simp [e]))]
                  · dsimp only at hk ⊢
                    rw [List.getElem?_append_left (by simp; exact hi), List.getElem?_set_ne (fun e => hk (by simp [e]))]
              · cases h
            · cases h
          · cases h
      · cases h
    · cases h
theorem apD_ok {args : Array Operand} {tys : Array TypeId} {e : EffR} (h : apD E f H args.toList tys.toList = some e) : EffOk E.P nt X f H (.call ⟨.builtin .append, args, tys⟩) ty e ∧ EffFr H e := by
  unfold apD at h
  split at h
  · rename_i sx x t t' ha ht
    have e1 : args = #[sx, x] := by
      have := congrArg List.toArray ha
      simpa using this
    have e2 : tys = #[t, t'] := by
      have := congrArg List.toArray ht
      simpa using this
    subst e1 e2
    cases hb : Nat.beq t' t with
    | false => rw [hb, cond_false] at h; exact apS_ok h
    | true =>
      rw [hb, cond_true] at h
      obtain rfl := Nat.eq_of_beq_eq_true hb
      split at h
      · rename_i el te hS
        obtain ⟨hu, hT⟩ := elemAt_ok hS
        split at h
        · rename_i zs hzs
          cases hb2 : (Nat.beq zs.length te.sz && (Nat.blt 0 te.sz && (zs.map cv).all AV.one1)) with
          | false => rw [hb2] at h; cases h
          | true =>
            rw [hb2, cond_true] at h
            rw [Bool.and_eq_true, Bool.and_eq_true] at hb2
            obtain ⟨q1, q2, q3⟩ := hb2
            have hzl := Nat.eq_of_beq_eq_true q1
            have hs0 : 0 < te.sz := Nat.le_of_ble_eq_true q2
            split at h
            · rename_i sz m g hsrc
              cases hb3 : Nat.beq sz te.sz with
              | false => rw [hb3] at h; cases h
              | true =>
                rw [hb3, cond_true] at h
                obtain rfl := Nat.eq_of_beq_eq_true hb3
                split at h
                · rename_i id n hsx
                  split at h
                  · rename_i r hr
                    cases hb4 : Nat.beq r.sz te.sz with
                    | false => rw [hb4] at h; cases h
                    | true =>
                      rw [hb4, cond_true] at h
                      have hrs := Nat.eq_of_beq_eq_true hb4
                      cases hsr : sameR id (ev f x) with
                      | true =>
                        rw [hsr, cond_true] at h
                        cases hkm : r.k.isMp with
                        | true => rw [hkm] at h; cases h
                        | false =>
                        rw [hkm, cond_false] at h
                        cases h
                        exact ⟨fun hp blk FP a w s => app_in hu hT hr hrs hkm hsx hsrc hp.1 hp.2 s, set_fr' hr _⟩
                      | false =>
                      rw [hsr, cond_false] at h
                      cases h
                      have hid : id < H.length := (List.getElem?_eq_some_iff.1 hr).1
                      refine ⟨fun hp blk FP a w s => ?_, ⟨by simp, fun i hi hk _ => ?_, fun i hi hk => ?_⟩⟩
                      · obtain ⟨hok, hle, hm⟩ := hp
                        obtain ⟨U, hA, hU⟩ := srcA s hu (s.ev x) hsrc hok
                        obtain ⟨v', w', blk', FP', hrun, s', hc⟩ := s.app (ty := ty) hu hT hzs (hsx ▸ s.ev sx) hr hrs hA hU hs0 hzl q3 hle hm
                        exact ⟨.value v', v', w', blk', FP', fun _ _ _ _ => by simp [execOp, resolve, invoke, builtin, hrun], .inl rfl, s', hc⟩
                      · dsimp only at hk ⊢
                        rw [List.getElem?_append_left (by simp; exact hi), List.getElem?_set_ne (fun e => hk (by simp [e]))]
                      · dsimp only at hk ⊢
                        rw [List.getElem?_append_left (by simp; exact hi), List.getElem?_set_ne (fun e => hk (by simp [e]))]
                  · cases h
                · rename_i hsx
                  cases h
                  refine ⟨fun hp blk FP a w s => ?_, ⟨by simp, fun i hi _ _ => ?_, fun i hi _ => ?_⟩⟩
                  · obtain ⟨hok, hle, hm⟩ := hp
                    have s1 := s.push0 ⟨te.sz, 0, fun _ _ => .any, .arr⟩ rfl rfl
                    have hr1 : (H ++ [some (⟨te.sz, 0, fun _ _ => .any, .arr⟩ : Row)])[H.length]? = some (some ⟨te.sz, 0, fun _ _ => .any, .arr⟩) := by simp
                    have hv : Conc w (X.S (fun id => if id = H.length then [] else FP id) (H ++ [some ⟨te.sz, 0, fun _ _ => .any, .arr⟩]) w.heap.size) (fun id => if id = H.length then ⟨0, 0⟩ else blk id) (H ++ [some ⟨te.sz, 0, fun _ _ => .any, .arr⟩]) (.row H.length 0) (.slice none 0 0) := .row0 _ hr1 rfl (by simp) none
                    have hnil := inv_nils (hsx ▸ s.ev sx)
                    obtain ⟨U, hA, hU⟩ := srcA s1 hu (s1.ev x) (srcF_ext hsrc) hok
                    obtain ⟨v', w', blk', FP', hrun, s', hc⟩ := s1.app (ty := ty) (m := m) (g := g) (n := 0) hu hT hzs hv hr1 rfl hA hU hs0 hzl q3 (by simpa using hle) (by unfold maxLen; omega)
                    have hH : (H ++ [some (⟨te.sz, 0, fun _ _ => .any, .arr⟩ : Row)]).set H.length none ++ [some ⟨te.sz, 0 + m, catE 0 (fun _ _ => .any) g, .arr⟩] = H ++ [none, some ⟨te.sz, m, catE 0 (fun _ _ => .any) g, .arr⟩] := by
                      rw [List.set_append_right _ _ (Nat.le_refl _)]
                      simp
                    have hnl : (H ++ [some (⟨te.sz, 0, fun _ _ => .any, .arr⟩ : Row)]).length = H.length + 1 := by simp
                    rw [hH] at s' hc
                    rw [hnl, Nat.zero_add] at hc
                    have hr2 : (H ++ [none, some (⟨te.sz, m, catE 0 (fun _ _ => .any) g, .arr⟩ : Row)])[H.length + 1]? = some (some ⟨te.sz, m, catE 0 (fun _ _ => .any) g, .arr⟩) := by
                      rw [List.getElem?_append_right (by omega), show H.length + 1 - H.length = 1 by omega]; rfl
                    have s2 := row_ext blk' s' hr2 rfl g (fun i j hi hj => by have := catE_ge (n := 0) (i := i) (j := j) (es := fun _ _ => AV.any) (g := g) (Nat.zero_le i); rw [Nat.sub_zero] at this; exact this.symm)
                    have hH2 : (H ++ [none, some (⟨te.sz, m, catE 0 (fun _ _ => .any) g, .arr⟩ : Row)]).set (H.length + 1) (some ⟨te.sz, m, g, .arr⟩) = H ++ [none, some ⟨te.sz, m, g, .arr⟩] := by
                      rw [List.set_append_right _ _ (by omega), show H.length + 1 - H.length = 1 by omega]
                      rfl
                    dsimp only at s2
                    rw [hH2] at s2
                    refine ⟨.value v', v', w', blk', FP', fun _ _ _ _ => by simp [execOp, resolve, invoke, builtin, hnil, hrun], .inl rfl, s2, ?_⟩
                    refine hc.mono (fun b hb => ⟨?_, rfl⟩) ?_
                    · rw [← hH2]; exact (S_set X FP' hr2 b).2 hb
                    · rw [← hH2]; exact HExt.set blk' hr2 rfl rfl
                  · dsimp only
                    rw [List.getElem?_append_left hi]
                  · dsimp only
                    rw [List.getElem?_append_left hi]
                · cases h
            · cases h
        · cases h
      · cases h
  · cases h
def litE (css : List (List AV)) : Nat → Nat → AV := fun i j => (css.getD i []).getD j .any
def keysL : Nat → List (Nat × Operand) → Bool
  | _, [] => true
  | k, (i, _) :: r => Nat.beq i k && keysL (k + 1) r
def litsOk (H : Hp) (sz : Nat) : List AV → Bool
  | [] => true
  | v :: r => (Nat.beq (avc v).length sz && (avc v).all (one2 H)) && litsOk H sz r
theorem litsOk_mem {sz : Nat} : ∀ {l : List AV}, litsOk H sz l = true → ∀ v ∈ l, (avc v).length = sz ∧ (avc v).all (one2 H) = true
  | [], _, v, hv => by cases hv
  | x :: r, h, v, hv => by
    unfold litsOk at h
    rw [Bool.and_eq_true, Bool.and_eq_true] at h
    rcases List.mem_cons.1 hv with rfl | hv
    · exact ⟨Nat.eq_of_beq_eq_true h.1.1, h.1.2⟩
    · exact litsOk_mem h.2 v hv
theorem keysL_eq : ∀ {l : List (Nat × Operand)} {k : Nat}, keysL k l = true → l.map (·.1) = (List.range l.length).map (k + ·)
  | [], k, _ => rfl
  | (i, x) :: r, k, h => by
    unfold keysL at h
    rw [Bool.and_eq_true] at h
    have := keysL_eq h.2
    rw [List.map_cons, this, List.length_cons, List.range_succ_eq_map, List.map_cons, List.map_map, Nat.eq_of_beq_eq_true h.1]
    congr 1
    apply List.map_congr_left
    intro j _
    show k + 1 + j = k + (j + 1)
    omega
def bsD (E : Env) (f : Fr) (H : Hp) (t n : Nat) (kx : List (Nat × Operand)) : Option EffR :=
  match elemAt E t with
  | some (_, te) => (match te.zero with
    | some zs => bif Nat.beq n kx.length && (keysL 0 kx && (Nat.beq zs.length te.sz && (Nat.ble (n * te.sz) 16777216 && (Nat.ble n 1000000 && litsOk H te.sz (kx.map fun p => ev f p.2))))) then
        some ⟨True, .row H.length n, H ++ [some ⟨te.sz, n, litE (kx.map fun p => avc (ev f p.2)), .arr⟩], [], []⟩ else none
    | none => none)
  | none => none
theorem fill_seq (sz : Nat) : ∀ (vs : List Value) (k : Nat) (cells : Array Value), (∀ v ∈ vs, v.cells.size = sz) → (k + vs.length) * sz ≤ cells.size →
    ∃ cells' : Array Value, Instr.fill (fun i => some (i * sz, sz)) cells ((vs.zipIdx k).map fun p => (p.2, p.1)) = some cells' ∧ cells'.size = cells.size ∧ (∀ q, q < k * sz → cells'[q]? = cells[q]?) ∧
      ∀ (i j : Nat) (v : Value), vs[i]? = some v → j < sz → cells'[(k + i) * sz + j]? = v.cells[j]?
  | [], k, cells, _, _ => ⟨cells, rfl, rfl, fun _ _ => rfl, fun i j v hi => by simp at hi⟩
  | v :: vs, k, cells, hv, hl => by
    have hvs := hv v (by simp)
    simp only [List.length_cons] at hl
    have hks : k * sz + sz ≤ cells.size := by
      have := Nat.mul_le_mul_right sz (show k + 1 ≤ k + (vs.length + 1) by omega)
      rw [Nat.succ_mul] at this
      omega
    obtain ⟨f1, f2⟩ := fold_set (k * sz) v.cells.toList 0 cells (by simp; omega)
    simp only [Nat.add_zero, Nat.sub_zero, Array.length_toList] at f1 f2
    obtain ⟨cells', h1, h2, h3, h4⟩ := fill_seq sz vs (k + 1) ((v.cells.toList.zipIdx 0).foldl (fun cs (p : Value × Nat) => cs.setIfInBounds (k * sz + p.2) p.1) cells) (fun u hu => hv u (by simp [hu])) (by
      rw [f1]
      have : k + 1 + vs.length = k + (vs.length + 1) := by omega
      rw [this]; exact hl)
    refine ⟨cells', ?_, h2.trans f1, fun q hq => ?_, fun i j u hi hj => ?_⟩
    · simp only [List.zipIdx_cons, List.map_cons, Instr.fill]
      rw [if_neg (by simp [hvs]; omega)]
      rw [← h1]
      congr 1
      rw [← Array.foldl_toList]
      simp
    · have hq' : q < (k + 1) * sz := by rw [Nat.succ_mul]; omega
      rw [h3 q hq', f2, if_neg (by omega)]
    · cases i with
      | zero =>
        obtain rfl : v = u := by simpa using hi
        have hlt : k * sz + j < (k + 1) * sz := by rw [Nat.succ_mul]; omega
        rw [Nat.add_zero, h3 _ hlt, f2, if_pos (by omega), show k * sz + j - k * sz = j by omega]
        simp
      | succ i =>
        have := h4 i j u (by simpa using hi) hj
        rw [show k + (i + 1) = k + 1 + i by omega]
        exact this
theorem bsD_ok {t n : Nat} {kx : Array (Nat × Operand)} {e : EffR} (h : bsD E f H t n kx.toList = some e) : EffOk E.P nt X f H (.buildSlice t n kx) ty e ∧ EffFr H e := by
  unfold bsD at h
  split at h
  · rename_i el te hS
    obtain ⟨hu, hT⟩ := elemAt_ok hS
    split at h
    · rename_i zs hzs
      cases hb : (Nat.beq n kx.toList.length && (keysL 0 kx.toList && (Nat.beq zs.length te.sz && (Nat.ble (n * te.sz) 16777216 && (Nat.ble n 1000000 && litsOk H te.sz (kx.toList.map fun p => ev f p.2)))))) with
      | false => rw [hb] at h; cases h
      | true =>
        rw [hb, cond_true] at h
        cases h
        rw [Bool.and_eq_true, Bool.and_eq_true, Bool.and_eq_true, Bool.and_eq_true, Bool.and_eq_true] at hb
        obtain ⟨q1, q2, q3, q4, q5, q6⟩ := hb
        have hnl := Nat.eq_of_beq_eq_true q1
        have hzl := Nat.eq_of_beq_eq_true q3
        have hsm := Nat.le_of_ble_eq_true q4
        have hnm := Nat.le_of_ble_eq_true q5
        have hlits := litsOk_mem q6
        refine ⟨fun _ blk FP a w s => ?_, ⟨by simp, fun i hi _ _ => by dsimp only; rw [List.getElem?_append_left hi], fun i hi _ => by dsimp only; rw [List.getElem?_append_left hi]⟩⟩
        obtain ⟨i, z, hi, hz, hzc⟩ := hT.zero zs hzs
        have hzsz : z.cells.size = te.sz := by rw [← hzl, ← hzc]; simp
        let xs : List Operand := kx.toList.map (·.2)
        have hxl : xs.length = n := by simp [xs, hnl]
        have hall : ∀ x ∈ xs, (avc (ev f x)).length = te.sz ∧ (avc (ev f x)).all (one2 H) = true := by
          intro x hx
          obtain ⟨p, hp, rfl⟩ := List.mem_map.1 hx
          exact hlits _ (List.mem_map.2 ⟨p, hp, rfl⟩)
        have hcs : ∀ x ∈ xs, (a.eval x).cells.size = te.sz := by
          intro x hx
          obtain ⟨us, hu, hl, _⟩ := avc_conc (s.ev x) (hall x hx).2
          rw [hu]
          simp [hl, (hall x hx).1]
        have fillof : ∀ b : Array Value, b.size = n * te.sz → ∃ cells' : Array Value, Instr.fill (fun i => some (i * te.sz, te.sz)) b ((xs.map a.eval).zipIdx.map fun p => (p.2, p.1)) = some cells' ∧ cells'.size = n * te.sz ∧
            ∀ (i j : Nat) (v : Value), (xs.map a.eval)[i]? = some v → j < te.sz → cells'[i * te.sz + j]? = v.cells[j]? := by
          intro b hb
          obtain ⟨cells', h1, h2, _, h4⟩ := fill_seq te.sz (xs.map a.eval) 0 b (fun v hv => by
            obtain ⟨x, hx, rfl⟩ := List.mem_map.1 hv
            exact hcs x hx) (by simp [hb, hxl])
          exact ⟨cells', h1, h2.trans hb, fun i j v hi hj => by have := h4 i j v hi hj; rwa [Nat.zero_add] at this⟩
        have hparts : (kx.map fun p => (p.1, a.eval p.2)).toList = (xs.map a.eval).zipIdx.map fun p => (p.2, p.1) := by
          rw [Array.toList_map]
          apply List.ext_getElem?
          intro j
          have hk := congrArg (fun l => l[j]?) (keysL_eq q2)
          simp only [List.getElem?_map, List.getElem?_zipIdx, xs, List.map_map] at hk ⊢
          cases hj : kx.toList[j]? with
          | none => simp [hj]
          | some p =>
            have hjl : j < kx.toList.length := (List.getElem?_eq_some_iff.1 hj).1
            rw [hj, List.getElem?_range hjl] at hk
            have h1 : p.1 = j := by simpa using hk
            simp [hj, ← h1]
        have key : ∃ cells' : Array Value, (Instr.buildSlice t n (kx.map fun p => (p.1, a.eval p.2))).run E.P w = .ok (.slice (some ⟨w.heap.size, 0, none⟩) n n) (w.alloc (.cells cells' el)) ∧
            cells'.size = n * te.sz ∧ ∀ (i j : Nat) (v : Value), (xs.map a.eval)[i]? = some v → j < te.sz → cells'[i * te.sz + j]? = v.cells[j]? := by
          by_cases h0 : n * te.sz = 0
          · obtain ⟨cells', h1, h2, h3⟩ := fillof ((Array.range (n * te.sz)).map fun q => (#[] : Array Value)[q % (#[] : Array Value).size]!) (by simp)
            refine ⟨cells', ?_, h2, h3⟩
            unfold Instr.buildSlice
            rw [hparts]
            have hsz := run_size hT w
            simp only [Sem.run_bind, run_underlying hu, Result.andThen_ok, hsz]
            rw [if_neg (by omega), if_pos h0]
            simp only [Sem.run_bind, Sem.run_pure, Result.andThen_ok, h1]
            simp [newRow]
          · obtain ⟨cells', h1, h2, h3⟩ := fillof ((Array.range (n * te.sz)).map fun q => z.cells[q % z.cells.size]!) (by simp)
            refine ⟨cells', ?_, h2, h3⟩
            unfold Instr.buildSlice
            rw [hparts]
            have hsz := run_size hT w
            have hzv : (zeroValue el).run E.P w = .ok z w := by simp [zeroValue, typeInfo, hi, hz]
            simp only [Sem.run_bind, run_underlying hu, Result.andThen_ok, hsz]
            rw [if_neg (by omega), if_neg h0]
            simp only [Sem.run_bind, Sem.run_pure, Result.andThen_ok, hzv, h1]
            simp [newRow]
        obtain ⟨cells', hrun, hsize, hat⟩ := key
        have hex : ∀ (dst : Option Tmp) (pos : String) (after : Array Edge) (gd : Option (Nat × Bool)), (execOp a.eval ⟨dst, .buildSlice t n kx, ty, pos, after, gd⟩).run E.P w = .ok (.value (.slice (some ⟨w.heap.size, 0, none⟩) n n)) (w.alloc (.cells cells' el)) := by
          intro dst pos after gd
          simp only [execOp, Sem.run_bind]
          have : (kx.map fun x => match x with | (i, x) => (i, a.eval x)) = kx.map fun p => (p.1, a.eval p.2) := rfl
          rw [this, hrun]
          rfl
        rcases Nat.eq_zero_or_pos n with h0 | h0
        · have hb : Below w.heap.size w (w.alloc (.cells cells' el)) := (Below.refl _ _).alloc (Nat.le_refl _) _
          have s1 := (s.called hb).1.push0 ⟨te.sz, n, litE (kx.toList.map fun p => avc (ev f p.2)), .arr⟩ h0 rfl
          refine ⟨_, _, _, _, _, hex, .inl rfl, s1, ?_⟩
          have hnew : (H ++ [some (⟨te.sz, n, litE (kx.toList.map fun p => avc (ev f p.2)), .arr⟩ : Row)])[H.length]? = some (some ⟨te.sz, n, litE (kx.toList.map fun p => avc (ev f p.2)), .arr⟩) := by simp
          dsimp only
          rw [h0] at hnew ⊢
          exact .row0 _ hnew rfl (by simp) _
        · have s1 := s.push el cells' ⟨te.sz, n, litE (kx.toList.map fun p => avc (ev f p.2)), .arr⟩ rfl h0 hsize (fun p q hp hq => ?_)
          · refine ⟨_, _, _, _, _, hex, .inl rfl, s1, ?_⟩
            have := Conc.row (w := w.alloc (.cells cells' el)) (S := X.S (fun id => if id = H.length then [w.heap.size] else FP id) (H ++ [some ⟨te.sz, n, litE (kx.toList.map fun p => avc (ev f p.2)), .arr⟩]) (w.alloc (.cells cells' el)).heap.size)
              (blk := fun id => if id = H.length then ⟨w.heap.size, n⟩ else blk id) (H := H ++ [some ⟨te.sz, n, litE (kx.toList.map fun p => avc (ev f p.2)), .arr⟩]) (id := H.length) (n := n) ⟨te.sz, n, litE (kx.toList.map fun p => avc (ev f p.2)), .arr⟩ (by simp) (Nat.le_refl _) (by simp) (by simp; omega) (by simp; unfold maxLen; omega)
            simpa using this
          · dsimp only at hp hq ⊢
            have hpx : p < xs.length := by omega
            have hx : xs[p]? = some xs[p] := List.getElem?_eq_getElem hpx
            have hmem := List.mem_of_getElem? hx
            obtain ⟨us, hu', hl, hc⟩ := avc_conc (s.ev xs[p]) (hall _ hmem).2
            have hql : q < (avc (ev f xs[p])).length := by rw [(hall _ hmem).1]; exact hq
            obtain ⟨v, hv2, ho, hcv⟩ := hc q _ (List.getElem?_eq_getElem hql)
            refine ⟨v, ?_, ho, ?_⟩
            · rw [hat p q (a.eval xs[p]) (by rw [List.getElem?_map, hx]; rfl) hq, hu']
              simpa using hv2
            · have e1 : (kx.toList.map fun p => avc (ev f p.2)).getD p [] = avc (ev f xs[p]) := by
                have : (kx.toList.map fun p => avc (ev f p.2)) = xs.map fun x => avc (ev f x) := by simp [xs]
                rw [this]
                simp [hpx]
              unfold litE
              rw [e1]
              simpa [hql] using hcv
    · cases h
  · cases h
def mmD (E : Env) (H : Hp) (t : Nat) : Option EffR :=
  match E.T.get t with
  | some ti => (match ti.k with
    | .mp ak => some ⟨True, .mp H.length, H ++ [some ⟨0, 0, fun _ _ => .any, .mp ak (fun _ => 0) []⟩], [], []⟩
    | _ => none)
  | none => none
theorem mmD_ok {t : Nat} {e : EffR} (h : mmD E H t = some e) : EffOk E.P nt X f H (.makeMap t none) ty e ∧ EffFr H e := by
  unfold mmD at h
  split at h
  · rename_i ti hti
    split at h
    · rename_i ak hk
      cases h
      refine ⟨fun _ blk FP a w s => ?_, ⟨by simp, fun i hi _ _ => by dsimp only; rw [List.getElem?_append_left hi], fun i hi _ => by dsimp only; rw [List.getElem?_append_left hi]⟩⟩
      obtain ⟨h1, h2⟩ := map_make (P := E.P) (t := t) (w := w) (ak := ak)
      refine ⟨.value (.map (some w.heap.size)), _, _, _, _, fun _ _ _ _ => by simp [execOp, h1], .inl rfl, s.pushMap ak h2, ?_⟩
      have hnew : (H ++ [some (⟨0, 0, fun _ _ => .any, .mp ak (fun _ => 0) []⟩ : Row)])[H.length]? = some (some ⟨0, 0, fun _ _ => .any, .mp ak (fun _ => 0) []⟩) := by simp
      have := Conc.mp (w := w.alloc (.map #[] 0)) (S := X.S (fun id => if id = H.length then [w.heap.size] else FP id) (H ++ [some ⟨0, 0, fun _ _ => .any, .mp ak (fun _ => 0) []⟩]) (w.alloc (.map #[] 0)).heap.size)
        (blk := fun id => if id = H.length then ⟨w.heap.size, 0⟩ else blk id) _ hnew
      simpa using this
    · cases h
  · cases h
def rowAt (H : Hp) (id : Nat) : Row := match H[id]? with | some (some r) => r | _ => ⟨0, 0, fun _ _ => .any, .hid⟩
theorem rowAt_eq {id : Nat} {r : Row} (h : H[id]? = some (some r)) : rowAt H id = r := by unfold rowAt; rw [h]
def muD (E : Env) (f : Fr) (H : Hp) (t : Nat) (m k x : Operand) : Option EffR :=
  match E.T.get t with
  | some ti => (match ti.k with
    | .mp ak => (match ev f m, keyA ak (ev f k), ev f x with
      | .mp id, some ks, .i .i64 z => (match mpAt H id with
        | some (ak', fm, sts) => bif ak == ak' then some ⟨True, .any, H.set id (some ⟨(rowAt H id).sz, (rowAt H id).cap, (rowAt H id).es, .mp ak (putF fm ks z) sts⟩), [id], []⟩ else none
        | none => none)
      | _, _, _ => none)
    | _ => none)
  | none => none
theorem muD_ok {t : Nat} {m k x : Operand} {e : EffR} (h : muD E f H t m k x = some e) : EffOk E.P nt X f H (.mapUpdate t m k x) ty e ∧ EffFr H e := by
  unfold muD at h
  split at h
  · rename_i ti hti
    split at h
    · rename_i ak hk
      obtain ⟨kt, et, hu, MK, hz⟩ := mp_inv hti hk
      split at h
      · rename_i id ks z hm hks hx
        split at h
        · rename_i ak' fm sts hmp
          cases hb : ak == ak' with
          | false => rw [hb] at h; cases h
          | true =>
            rw [hb, cond_true] at h
            obtain rfl : ak = ak' := by simpa using hb
            cases h
            obtain ⟨r, hr, hrk⟩ := mpAt_ok hmp
            rw [rowAt_eq hr]
            refine ⟨fun _ blk FP a w s => ?_, set_fr hr ?_⟩
            · obtain ⟨hkv, hok⟩ := keyA_ok hks (s.ev k)
              obtain ⟨hxv, hwf⟩ := inv_i (hx ▸ s.ev x)
              have hmv := inv_mp hr (hm ▸ s.ev m)
              obtain ⟨_, _, _, hmo⟩ := map_row s hr hrk
              obtain ⟨o, hrun, hmo'⟩ := map_update MK hu hmo hok hwf
              exact ⟨.skip, undef, _, blk, FP, fun _ _ _ _ => by simp [execOp, hkv, hxv, hmv, hrun], .inr ⟨rfl, rfl⟩, s.setMap hr hrk hmo', .any _⟩
            · simp [Go.Proofs.Ytdeledeopippfaa.blank, blankK, hrk]
        · cases h
      · cases h
    · cases h
  · cases h
def esD (f : Fr) (H : Hp) (m st x : Operand) : Option EffR :=
  match ev f m, ev f st, ev f x with
  | .mp id, .st z, .i .i64 v => (match mpAt H id with
    | some (ak, fm, (z', ks) :: sts) => some ⟨z' = z, .any, H.set id (some ⟨(rowAt H id).sz, (rowAt H id).cap, (rowAt H id).es, .mp ak (putF fm ks v) ((z', ks) :: sts)⟩), [id], []⟩
    | _ => none)
  | _, _, _ => none
theorem esD_ok {t : Nat} {m st x : Operand} {e : EffR} (hT : ∃ ti ak, E.T.get t = some ti ∧ ti.k = .mp ak ∧ ∀ id ak' fm sts, ev f m = .mp id → mpAt H id = some (ak', fm, sts) → ak' = ak) (h : esD f H m st x = some e) : EffOk E.P nt X f H (.entryStore t m st x) ty e ∧ EffFr H e := by
  unfold esD at h
  split at h
  · rename_i id z v hm hst hx
    split at h
    · rename_i ak fm z' ks sts hmp
      cases h
      obtain ⟨r, hr, hrk⟩ := mpAt_ok hmp
      rw [rowAt_eq hr]
      obtain ⟨ti, ak2, hti, hk2, hak⟩ := hT
      obtain rfl := hak id ak fm _ hm hmp
      obtain ⟨kt, et, hu, MK, hz⟩ := mp_inv hti hk2
      refine ⟨fun hp blk FP a w s => ?_, set_fr hr ?_⟩
      · have hp : z' = z := hp
        subst hp
        have hsv := inv_st (hst ▸ s.ev st)
        obtain ⟨hxv, hwf⟩ := inv_i (hx ▸ s.ev x)
        have hmv := inv_mp hr (hm ▸ s.ev m)
        obtain ⟨_, _, _, hmo⟩ := map_row s hr hrk
        obtain ⟨o, hrun, hmo'⟩ := map_store (t := t) MK hmo (ks := ks) (st := z') (by simp) hwf
        exact ⟨.skip, undef, _, blk, FP, fun _ _ _ _ => by simp [execOp, hsv, hxv, hmv, hrun], .inr ⟨rfl, rfl⟩, s.setMap hr hrk hmo', .any _⟩
      · simp [Go.Proofs.Ytdeledeopippfaa.blank, blankK, hrk]
    · cases h
  · cases h
def mapTy (E : Env) (f : Fr) (H : Hp) (t : Nat) (m : Operand) : Bool :=
  match E.T.get t with
  | some ti => (match ti.k with
    | .mp ak => (match ev f m with
      | .mp id => (match mpAt H id with | some (ak', _, _) => ak == ak' | none => false)
      | _ => false)
    | _ => false)
  | none => false
theorem mapTy_ok {t : Nat} {m : Operand} (h : mapTy E f H t m = true) : ∃ ti ak, E.T.get t = some ti ∧ ti.k = .mp ak ∧ ∀ id ak' fm sts, ev f m = .mp id → mpAt H id = some (ak', fm, sts) → ak' = ak := by
  unfold mapTy at h
  split at h
  · rename_i ti hti
    split at h
    · rename_i ak hk
      split at h
      · rename_i id hm
        split at h
        · rename_i ak' fm sts hmp
          refine ⟨ti, ak, hti, hk, fun id2 ak2 fm2 sts2 e1 e2 => ?_⟩
          rw [hm] at e1
          cases e1
          rw [hmp] at e2
          cases e2
          have : ak = ak' := by simpa using h
          exact this.symm
        · cases h
      · cases h
    · cases h
  · cases h
def meD (E : Env) (f : Fr) (H : Hp) (t : Nat) (m k : Operand) : Option (Int → EffR) :=
  match E.T.get t with
  | some ti => (match ti.k with
    | .mp ak => (match ev f m, keyA ak (ev f k) with
      | .mp id, some ks => (match mpAt H id with
        | some (ak', fm, sts) => bif ak == ak' then some fun st => ⟨True, .tup [.i .i64 (fm ks), .st st], H.set id (some ⟨(rowAt H id).sz, (rowAt H id).cap, (rowAt H id).es, .mp ak fm ((st, ks) :: sts)⟩), [id], []⟩ else none
        | none => none)
      | _, _ => none)
    | _ => none)
  | none => none
theorem meD_ok {t : Nat} {m k : Operand} {g : Int → EffR} (h : meD E f H t m k = some g) : (∀ st, EffFr H (g st)) ∧ ∀ blk FP a w, StB nt X f H blk FP a w → ∃ st u w' blk' FP', (∀ (dst : Option Tmp) (pos : String) (after : Array Edge) (gd : Option (Nat × Bool)), (execOp a.eval ⟨dst, .mapEntry t m k, ty, pos, after, gd⟩).run E.P w = .ok (.value u) w') ∧
    StB nt X f (g st).H blk' FP' a w' ∧ Conc w' (X.S FP' (g st).H w'.heap.size) blk' (g st).H (g st).v u := by
  unfold meD at h
  split at h
  · rename_i ti hti
    split at h
    · rename_i ak hk
      obtain ⟨kt, et, hu, MK, hz⟩ := mp_inv hti hk
      split at h
      · rename_i id ks hm hks
        split at h
        · rename_i ak' fm sts hmp
          cases hb : ak == ak' with
          | false => rw [hb] at h; cases h
          | true =>
            rw [hb, cond_true] at h
            obtain rfl : ak = ak' := by simpa using hb
            cases h
            obtain ⟨r, hr, hrk⟩ := mpAt_ok hmp
            rw [rowAt_eq hr]
            refine ⟨fun st => set_fr hr ?_, fun blk FP a w s => ?_⟩
            · simp [Go.Proofs.Ytdeledeopippfaa.blank, blankK, hrk]
            · obtain ⟨hkv, hok⟩ := keyA_ok hks (s.ev k)
              have hmv := inv_mp hr (hm ▸ s.ev m)
              obtain ⟨_, _, _, hmo⟩ := map_row s hr hrk
              have hwf := hmo.wf hok MK.inj
              obtain ⟨o, st, hrun, hmo'⟩ := map_entry MK hu hz hmo hok
              refine ⟨st, _, _, blk, FP, fun _ _ _ _ => by simp [execOp, hkv, hmv, hrun]; rfl, s.setMap hr hrk hmo', ?_⟩
              refine .tup _ [.int .i64 (fm ks), .int .i64 st] rfl fun j c u hj hu => ?_
              match j, hj, hu with
              | 0, hj, hu => cases hj; cases hu; exact .i hwf
              | 1, hj, hu => cases hj; cases hu; exact .st st
        · cases h
      · cases h
    · cases h
  · cases h
theorem meD_t {t : Nat} {m k : Operand} {g : Int → EffR} (h : meD E f H t m k = some g) (st : Int) : (g st).t = (g 0).t ∧ (g st).kl = (g 0).kl := by
  unfold meD at h
  split at h
  · split at h
    · rename_i ak hk
      split at h
      · split at h
        · rename_i ak' fm sts hmp
          cases hb : ak == ak' with
          | false => rw [hb] at h; cases h
          | true =>
            rw [hb, cond_true] at h
            cases h
            exact ⟨rfl, rfl⟩
        · cases h
      · cases h
    · cases h
  · cases h
def bytesG (x : ByteArray) : Nat → Nat → AV := fun i _ => .i .u8 ((x.data.getD i 0).toNat : Int)
def srcC (H : Hp) : AV → Option (Nat × Nat × (Nat → Nat → AV))
  | .s b => some (1, b.size, bytesG b)
  | .nils => none
  | v => srcF H v
def dstOf (H : Hp) : AV → Option (Nat × Nat × Nat × Row)
  | .row id n => (match H[id]? with | some (some r) => some (id, 0, n, r) | _ => none)
  | .rs id o n => (match H[id]? with | some (some r) => some (id, o, n, r) | _ => none)
  | _ => none
theorem dstOf_ok {blk : Nat → BC} {FP : Nat → List Nat} {a : Act} {w : World} {v : AV} {u : Value} {id o n : Nat} {r : Row} (s : StB nt X f H blk FP a w) (hd : dstOf H v = some (id, o, n, r)) (hc : Conc w (X.S FP H w.heap.size) blk H v u) :
    H[id]? = some (some r) ∧ o + n ≤ r.cap ∧ ∃ ad c, u = .slice ad n c ∧ (0 < n → ad = some ⟨(blk id).b, o * r.sz, none⟩) := by
  unfold dstOf at hd
  split at hd
  · split at hd
    · rename_i r' hr
      cases hd
      rcases inv_row hr hc with ⟨rfl, hn, hle, h0, hm⟩ | ⟨ad, rfl, rfl, h0, h1⟩
      · exact ⟨hr, by omega, _, _, rfl, fun _ => by rw [Nat.zero_mul]⟩
      · exact ⟨hr, by omega, _, _, rfl, fun h => by omega⟩
    · cases hd
  · split at hd
    · rename_i r' hr
      cases hd
      obtain ⟨ad, rfl, hn, hle, hm, ha⟩ := inv_rs hr hc
      exact ⟨hr, hn, _, _, rfl, fun h => ha (by omega)⟩
    · cases hd
  · cases hd
theorem srcC_ok {blk : Nat → BC} {FP : Nat → List Nat} {a : Act} {w : World} (s : StB nt X f H blk FP a w) {x : AV} {u : Value} {sz m : Nat} {g : Nat → Nat → AV} (hc : Conc w (X.S FP H w.heap.size) blk H x u) (hx : srcC H x = some (sz, m, g)) (hok : SrcOk m sz g) (k : Nat) (hk : k ≤ m) :
    ∃ U : Nat → Nat → Value, (Builtin.lenOf u).run P w = .ok m w ∧ (Builtin.firstCells sz k u).run P w = .ok (flat U k sz).toArray w ∧ ∀ i j, i < m → j < sz → (U i j).oneCell' = true ∧ Conc w (X.S FP H w.heap.size) blk H (g i j) (U i j) := by
  have gen : srcF H x = some (sz, m, g) → ∃ U : Nat → Nat → Value, (Builtin.lenOf u).run P w = .ok m w ∧ (Builtin.firstCells sz k u).run P w = .ok (flat U k sz).toArray w ∧ ∀ i j, i < m → j < sz → (U i j).oneCell' = true ∧ Conc w (X.S FP H w.heap.size) blk H (g i j) (U i j) := by
    intro hx
    obtain ⟨A, c, U, rfl, hA, hU⟩ := src_of s hc hx hok
    refine ⟨U, rfl, ?_, fun i j hi hj => (hU i j hi hj).2⟩
    rcases Nat.eq_zero_or_pos m with h0 | h0
    · have hk0 : k = 0 := by omega
      subst hk0
      have hnil : flat U 0 sz = [] := List.eq_nil_of_length_eq_zero (by rw [flat_len]; simp)
      rw [hnil]
      cases A with
      | none => exact run_firstCells_none w sz 0 m c
      | some ad => exact run_firstCells_some w sz 0 ad m c [] (by simp) (by simp)
    · obtain ⟨b, o, rfl⟩ := hA h0
      refine run_firstCells_some w sz k ⟨b, o, none⟩ m c (flat U k sz) (flat_len _ _ _) fun j v hj => ?_
      have hlt : j < k * sz := by rw [← flat_len U]; exact (List.getElem?_eq_some_iff.1 hj).1
      obtain ⟨h1, h2, h3⟩ := lt_at hlt
      have hcc := (hU (j / sz) (j % sz) (by omega) h2).1 b o rfl
      rw [← h3] at hcc
      have hv : v = U (j / sz) (j % sz) := by
        simp [flat, hlt] at hj
        exact hj.symm
      rw [add_mk, hv]
      exact hcc
  cases x with
  | s b =>
    cases hx
    obtain ⟨rfl, hm⟩ := inv_s hc
    refine ⟨fun i _ => .int .u8 ((b.data.getD i 0).toNat : Int), rfl, ?_, fun i j hi hj => ⟨rfl, .i ?_⟩⟩
    · simp only [Builtin.firstCells, Sem.run_pure]
      congr 1
      apply Array.ext_getElem?
      intro i
      have hd : (b.extract 0 k).data = b.data.extract 0 k := by rw [ByteArray.data_extract]
      have hbs : b.data.size = b.size := rfl
      rw [hd, Array.getElem?_map]
      by_cases hi : i < k
      · have hib : i < b.data.size := by omega
        have e1 : (b.data.extract 0 k)[i]? = some (b.data.getD i 0) := by
          rw [Array.getElem?_extract, if_pos (by omega), Nat.zero_add, Array.getElem?_eq_getElem hib]
          simp [Array.getD, hib]
          intro h; omega
        rw [e1]
        have : (flat (fun i _ => Value.int .u8 ((b.data.getD i 0).toNat : Int)) k 1)[i]? = some (.int .u8 ((b.data.getD i 0).toNat : Int)) := by
          have := flat_at (U := fun i _ => Value.int .u8 ((b.data.getD i 0).toNat : Int)) (m := k) (sz := 1) (i := i) (j := 0) hi (by omega)
          simpa using this
        rw [List.getElem?_toArray, this]
        rfl
      · have l : (b.data.extract 0 k)[i]? = none := Array.getElem?_eq_none (by rw [Array.size_extract]; omega)
        have l2 : (flat (fun i _ => Value.int .u8 ((b.data.getD i 0).toNat : Int)) k 1)[i]? = none := List.getElem?_eq_none (by rw [flat_len]; omega)
        rw [l, List.getElem?_toArray, l2]
        rfl
    · have := (b.data.getD i 0).toNat_lt
      generalize (b.data.getD i 0).toNat = q at this
      simp only [Lit.wf, IntKind.min, IntKind.max, IntKind.signed, IntKind.bits]
      simp
      omega
  | nils => cases hx
  | _ => exact gen hx
def cpD (E : Env) (f : Fr) (H : Hp) (args : List Operand) (tys : List TypeId) : Option EffR :=
  match args, tys with
  | [dx, x], t :: _ => (match elemAt E t with
    | some (_, te) => (match dstOf H (ev f dx) with
      | some (id, o, n, r) => (match srcC H (ev f x) with
        | some (sz, m, g) => bif Nat.beq sz te.sz && (Nat.beq r.sz te.sz && !r.k.isMp) then
            some ⟨SrcOk m sz g, .i .i64 (min m n : Nat), H.set id (some ⟨r.sz, r.cap, segE o (min m n) g r.es, r.k⟩), [id], []⟩ else none
        | none => none)
      | none => none)
    | none => none)
  | _, _ => none
theorem cpD_ok {args : Array Operand} {tys : Array TypeId} {e : EffR} (h : cpD E f H args.toList tys.toList = some e) : EffOk E.P nt X f H (.call ⟨.builtin .copy, args, tys⟩) ty e ∧ EffFr H e := by
  unfold cpD at h
  split at h
  · rename_i dx x t tr ha ht
    have e1 : args = #[dx, x] := by
      have := congrArg List.toArray ha
      simpa using this
    subst e1
    have ht0 : tys[0]? = some t := by rw [← Array.getElem?_toList, ht]; rfl
    split at h
    · rename_i el te hS
      obtain ⟨hu, hT⟩ := elemAt_ok hS
      split at h
      · rename_i id o n r hd
        split at h
        · rename_i sz m g hsrc
          cases hb : (Nat.beq sz te.sz && (Nat.beq r.sz te.sz && !r.k.isMp)) with
          | false => rw [hb] at h; cases h
          | true =>
            rw [hb, cond_true] at h
            rw [Bool.and_eq_true, Bool.and_eq_true] at hb
            obtain ⟨q1, q2, q3⟩ := hb
            obtain rfl := Nat.eq_of_beq_eq_true q1
            have hrs := Nat.eq_of_beq_eq_true q2
            have hkm : r.k.isMp = false := by simpa using q3
            cases h
            have hr : H[id]? = some (some r) := by
              unfold dstOf at hd
              split at hd
              · split at hd
                · cases hd; assumption
                · cases hd
              · split at hd
                · cases hd; assumption
                · cases hd
              · cases hd
            refine ⟨fun hp blk FP a w s => ?_, set_fr' hr _⟩
            obtain ⟨_, hn, ad, c, hdv, had⟩ := dstOf_ok s hd (s.ev dx)
            obtain ⟨U, hlen, hfc, hU⟩ := srcC_ok (P := E.P) s (s.ev x) hsrc hp (min m n) (Nat.min_le_left _ _)
            obtain ⟨w', hst, s', hsz⟩ := s.seg' (P := E.P) hr hkm o (min m n) (by omega) U g ad (fun h => had (by omega)) (fun i j hi hj => hU i j (by omega) (by rw [← hrs]; exact hj))
            rw [hrs] at hst
            have hmm : min m n ≤ maxLen := by
              have hcd := s.ev dx
              have hmn : n ≤ maxLen := by
                unfold dstOf at hd
                split at hd
                · rename_i id' n' hxx
                  rw [hxx] at hcd
                  split at hd
                  · rename_i r' hr'
                    cases hd
                    rcases inv_row hr' hcd with ⟨_, q1, q2, _, q3⟩ | ⟨_, _, q1, _⟩ <;> omega
                  · cases hd
                · rename_i id' o' n' hxx
                  rw [hxx] at hcd
                  split at hd
                  · rename_i r' hr'
                    cases hd
                    obtain ⟨_, _, q1, q2, q3, _⟩ := inv_rs hr' hcd
                    omega
                  · cases hd
                · cases hd
              omega
            have hsize := run_size hT w
            have hfc' : (Builtin.firstCells te.sz (Nat.min m n) (a.eval x)).run E.P w = .ok (flat U (min m n) te.sz).toArray w := hfc
            have ha0 : (#[a.eval dx, a.eval x] : Array Value)[0]? = some (a.eval dx) := rfl
            have ha1 : (#[a.eval dx, a.eval x] : Array Value)[1]? = some (a.eval x) := rfl
            have hrun : (Builtin.copy_ tys ty #[a.eval dx, a.eval x]).run E.P w = .ok (goInt ((min m n : Nat) : Int)) w' := by
              unfold Builtin.copy_
              rw [ht0, ha0, ha1, hdv]
              cases ad with
              | none =>
                obtain rfl : w' = w := by
                  simp only [Sem.run_pure] at hst
                  cases hst
                  rfl
                simp only [Sem.run_bind, run_underlying hu, Result.andThen_ok, hlen, hsize, hfc']
                rfl
              | some q =>
                simp only [Sem.run_bind, run_underlying hu, Result.andThen_ok, hlen, hsize, hfc', hst]
                rfl
            refine ⟨.value (goInt ((min m n : Nat) : Int)), _, w', blk, FP, fun _ _ _ _ => by simp [execOp, resolve, invoke, builtin, hrun], .inl rfl, s', .i (wf_len hmm)⟩
        · cases h
      · cases h
    · cases h
  · cases h
def clD (E : Env) (f : Fr) (H : Hp) (args : List Operand) (tys : List TypeId) : Option EffR :=
  match args, tys with
  | [x], t :: _ => (match elemAt E t with
    | some (_, te) => (match te.zero with
      | some zs => (match dstOf H (ev f x) with
        | some (id, o, n, r) => bif Nat.beq zs.length te.sz && ((zs.map cv).all AV.one1 && (Nat.beq r.sz te.sz && !r.k.isMp)) then
            some ⟨True, .any, H.set id (some ⟨r.sz, r.cap, segE o n (fun _ j => (zs.map cv).getD j .any) r.es, r.k⟩), [id], []⟩ else none
        | none => none)
      | none => none)
    | none => none)
  | _, _ => none
theorem clD_ok {args : Array Operand} {tys : Array TypeId} {e : EffR} (h : clD E f H args.toList tys.toList = some e) : EffOk E.P nt X f H (.call ⟨.builtin .clear, args, tys⟩) ty e ∧ EffFr H e := by
  unfold clD at h
  split at h
  · rename_i x t tr ha ht
    have e1 : args = #[x] := by
      have := congrArg List.toArray ha
      simpa using this
    subst e1
    have ht0 : tys[0]? = some t := by rw [← Array.getElem?_toList, ht]; rfl
    split at h
    · rename_i el te hS
      obtain ⟨hu, hT⟩ := elemAt_ok hS
      split at h
      · rename_i zs hzs
        split at h
        · rename_i id o n r hd
          cases hb : (Nat.beq zs.length te.sz && ((zs.map cv).all AV.one1 && (Nat.beq r.sz te.sz && !r.k.isMp))) with
          | false => rw [hb] at h; cases h
          | true =>
            rw [hb, cond_true] at h
            rw [Bool.and_eq_true, Bool.and_eq_true, Bool.and_eq_true] at hb
            obtain ⟨q0, q1, q2, q3⟩ := hb
            have hzl := Nat.eq_of_beq_eq_true q0
            have hrs := Nat.eq_of_beq_eq_true q2
            have hkm : r.k.isMp = false := by simpa using q3
            cases h
            have hr : H[id]? = some (some r) := by
              unfold dstOf at hd
              split at hd
              · split at hd
                · cases hd; assumption
                · cases hd
              · split at hd
                · cases hd; assumption
                · cases hd
              · cases hd
            refine ⟨fun _ blk FP a w s => ?_, set_fr' hr _⟩
            obtain ⟨_, hn, ad, c, hdv, had⟩ := dstOf_ok s hd (s.ev x)
            obtain ⟨i, z, hi, hz, hzc⟩ := hT.zero zs hzs
            have hzsz : z.cells.size = te.sz := by rw [← hzl, ← hzc]; simp
            obtain ⟨w', hst, s', hsz⟩ := s.seg' (P := E.P) hr hkm o n hn (fun _ j => z.cells.getD j undef) (fun _ j => (zs.map cv).getD j .any) ad had (fun i j hi hj => by
              have hjz : j < zs.length := by omega
              have e1 : z.cells.getD j undef = zs[j] := by
                have : z.cells.toList[j]? = some zs[j] := by rw [hzc]; exact List.getElem?_eq_getElem hjz
                have : z.cells[j]? = some zs[j] := by simpa using this
                simp [this]
              have e2 : (zs.map cv).getD j .any = cv zs[j] := by simp [hjz]
              rw [e1, e2]
              exact ⟨(conc_cv (w := w) (S := X.S FP H w.heap.size) (blk := blk) (H := H) zs[j]).one1 (List.all_eq_true.1 q1 _ (List.mem_map.2 ⟨_, List.getElem_mem hjz, rfl⟩)), conc_cv _⟩)
            have hzero : (zeroValue el).run E.P w = .ok z w := by simp [zeroValue, typeInfo, hi, hz]
            have hcells : (Builtin.zeroCells z.cells n).toList = flat (fun _ j => z.cells.getD j undef) n r.sz := by
              unfold Builtin.zeroCells flat
              rw [hzsz, hrs, Array.toList_map, Array.toList_range]
              apply List.map_congr_left
              intro k hk
              have hk' := List.mem_range.1 hk
              obtain ⟨_, h2, _⟩ := lt_at hk'
              have hlt : k % te.sz < z.cells.size := by omega
              rw [getElem!_pos z.cells _ hlt]
              simp [Array.getD, hlt]
            have ha0 : (#[a.eval x] : Array Value)[0]? = some (a.eval x) := rfl
            have hrun : (Builtin.clear_ tys ty #[a.eval x]).run E.P w = .ok (.tuple #[]) w' := by
              unfold Builtin.clear_
              rw [ht0, ha0, hdv]
              simp only [Sem.run_bind, run_underlying hu, Result.andThen_ok]
              cases ad with
              | none =>
                obtain rfl : w' = w := by
                  simp only [Sem.run_pure] at hst
                  cases hst
                  rfl
                simp
              | some q =>
                cases n with
                | zero =>
                  obtain rfl : w' = w := by
                    have hnil : flat (fun _ j => z.cells.getD j undef) 0 r.sz = [] := List.eq_nil_of_length_eq_zero (by rw [flat_len]; simp)
                    rw [hnil] at hst
                    simp only [storeCells, Sem.run_pure] at hst
                    cases hst
                    rfl
                  simp
                | succ n =>
                  simp only at hst
                  simp only [Sem.run_bind, hzero, Result.andThen_ok]
                  rw [hcells, hst]
                  rfl
            exact ⟨.value (.tuple #[]), _, w', blk, FP, fun _ _ _ _ => by simp [execOp, resolve, invoke, builtin, hrun], .inl rfl, s', .any _⟩
        · cases h
      · cases h
    · cases h
  · cases h
def sbD (E : Env) (f : Fr) (H : Hp) (src dst : Nat) (x : Operand) : Option EffR :=
  match E.T.get src, E.T.get dst with
  | some ts, some td => (match ts.k, td.k with
    | .s, .sl e => bif isU8 E e then (match ev f x with
      | .s b => some ⟨True, .row H.length b.size, H ++ [some ⟨1, b.size, bytesG b, .arr⟩], [], []⟩
      | _ => none) else none
    | _, _ => none)
  | _, _ => none
theorem bytesG_wf (b : ByteArray) (i : Nat) : (Lit.int .u8 ((b.data.getD i 0).toNat : Int)).wf = true := by
  have := (b.data.getD i 0).toNat_lt
  generalize (b.data.getD i 0).toNat = q at this
  simp only [Lit.wf, IntKind.min, IntKind.max, IntKind.signed, IntKind.bits]
  simp
  omega
theorem sbD_ok {src dst : Nat} {x : Operand} {e : EffR} (h : sbD E f H src dst x = some e) : EffOk E.P nt X f H (.convert src dst x) ty e ∧ EffFr H e := by
  unfold sbD at h
  split at h
  · rename_i ts td h1 h2
    split at h
    · rename_i el hks hkd
      cases hb : isU8 E el with
      | false => rw [hb] at h; cases h
      | true =>
        rw [hb, cond_true] at h
        split at h
        · rename_i b hx
          cases h
          refine ⟨fun _ blk FP a w s => ?_, ⟨by simp, fun i hi _ _ => by dsimp only; rw [List.getElem?_append_left hi], fun i hi _ => by dsimp only; rw [List.getElem?_append_left hi]⟩⟩
          obtain ⟨hxv, hm⟩ := inv_s (hx ▸ s.ev x)
          have hrun := run_bytes_of_string (P := E.P) w src dst el b (und_s h1 hks) (und_sl h2 hkd) (isU8_ok hb)
          let K := grownCap w b.size 0 el
          have hK : b.size ≤ K := grownCap_ge w _ _ el
          have hKm : K ≤ maxLen := grownCap_le_maxLen w _ _ el hm
          have hrs : (bytesRow b K).size = K := by unfold bytesRow; simp; exact Nat.add_sub_cancel' hK
          have hall : ∀ u ∈ bytesRow b K, u.oneCell' = true := fun u hu => by
            unfold bytesRow at hu
            rcases Array.mem_append.1 hu with h | h
            · obtain ⟨q, _, rfl⟩ := Array.mem_map.1 h; rfl
            · obtain ⟨_, rfl⟩ := Array.mem_replicate.1 h; rfl
          have hex : ∀ (dst' : Option Tmp) (pos : String) (after : Array Edge) (gd : Option (Nat × Bool)), (execOp a.eval ⟨dst', .convert src dst x, ty, pos, after, gd⟩).run E.P w = .ok (.value (.slice (some ⟨w.heap.size, 0, none⟩) b.size K)) (w.drew.alloc (.cells (bytesRow b K) el ((bytesRow b K).size, (bytesRow b K).size + 1))) := by
            intro dst' pos after gd
            simp [execOp, hxv, hrun, K]
          obtain ⟨s0, _⟩ := s.called ((Below.refl w.heap.size w).drew)
          rcases Nat.eq_zero_or_pos K with h0 | h0
          · have hb0 : b.size = 0 := by omega
            obtain ⟨s1, _⟩ := s.called (((Below.refl _ _).drew).alloc (Nat.le_refl _) (.cells (bytesRow b K) el ((bytesRow b K).size, (bytesRow b K).size + 1)))
            refine ⟨_, _, _, _, _, hex, .inl rfl, s1.push0 ⟨1, b.size, bytesG b, .arr⟩ hb0 rfl, ?_⟩
            have hnew : (H ++ [some (⟨1, b.size, bytesG b, .arr⟩ : Row)])[H.length]? = some (some ⟨1, b.size, bytesG b, .arr⟩) := by simp
            dsimp only
            rw [hb0, h0]
            rw [hb0] at hnew
            exact .row0 _ hnew rfl (by simp) _
          · have s1 := s0.pushC el (bytesRow b K) ⟨1, b.size, bytesG b, .arr⟩ K h0 hK rfl (by rw [hrs, Nat.mul_one]) hall (fun p q hp hq => by
              dsimp only at hp hq ⊢
              obtain rfl : q = 0 := by omega
              refine ⟨.int .u8 ((b.data.getD p 0).toNat : Int), ?_, .i (bytesG_wf b p)⟩
              have hib : p < b.data.size := hp
              unfold bytesRow
              rw [show p * 1 + 0 = p by omega, Array.getElem?_append_left (by simpa using hib)]
              simp [Array.getD]
              exact ⟨b.data[p], by simp [hib], by rw [dif_pos hp]⟩) ((bytesRow b K).size, (bytesRow b K).size + 1) (.inr (Nat.le_refl _))
            refine ⟨_, _, _, _, _, hex, .inl rfl, s1, ?_⟩
            have hdr : w.drew.heap.size = w.heap.size := rfl
            have := Conc.row (w := w.drew.alloc (.cells (bytesRow b K) el ((bytesRow b K).size, (bytesRow b K).size + 1))) (S := X.S (fun id => if id = H.length then [w.drew.heap.size] else FP id) (H ++ [some ⟨1, b.size, bytesG b, .arr⟩]) (w.drew.alloc (.cells (bytesRow b K) el ((bytesRow b K).size, (bytesRow b K).size + 1))).heap.size)
              (blk := fun id => if id = H.length then ⟨w.drew.heap.size, K⟩ else blk id) (H := H ++ [some ⟨1, b.size, bytesG b, .arr⟩]) (id := H.length) (n := b.size) ⟨1, b.size, bytesG b, .arr⟩ (by simp) (Nat.le_refl _) (by simpa using hK) (by simpa using h0) (by simpa using hKm)
            simpa using this
        · cases h
    · cases h
  · cases h
def mkB (E : Env) (f : Fr) (H : Hp) (src dst : Nat) (x : Operand) : Option EffR :=
  bif Nat.beq src dst then (match E.T.get src with
    | some ts => (match ts.k with
      | .sl e => bif isU8 E e then (match ev f x with
        | .row id n => (match H[id]? with
          | some (some r) => bif Nat.blt 0 n then some ⟨True, .row H.length n, H.set id none ++ [some r], [], [id]⟩ else none
          | _ => none)
        | _ => none) else none
      | _ => none)
    | none => none) else none
theorem freeze_heap {w : World} {b n : Nat} {cur : Array Value} {ty : TypeId} {lo hi : Nat} (h : w.heap[b]? = some (.cells cur ty (lo, hi))) : (w.freeze ⟨b, n, none⟩ 1).heap[b]? = some (.cells cur ty (if lo == hi then (n, n + 1) else (min lo n, max hi (n + 1)))) := by
  unfold World.freeze
  rw [if_neg (by decide)]
  simp [Array.getElem?_modify, h]
theorem freeze_other {w : World} {b n k : Nat} (h : k ≠ b) : (w.freeze ⟨b, n, none⟩ 1).heap[k]? = w.heap[k]? := by
  unfold World.freeze
  rw [if_neg (by decide)]
  simp [Array.getElem?_modify, Ne.symm h]
theorem freeze_size {w : World} {b n : Nat} : (w.freeze ⟨b, n, none⟩ 1).heap.size = w.heap.size := by
  unfold World.freeze
  rw [if_neg (by decide)]
  simp
theorem freeze_row {w : World} {b n : Nat} {cur : Array Value} {ty : TypeId} (h : RowAt w b cur ty) (hn : n = cur.size) : RowAt (w.freeze ⟨b, n, none⟩ 1) b cur ty := by
  obtain ⟨⟨lo, hi⟩, h1, h2⟩ := h
  refine ⟨_, freeze_heap h1, ?_⟩
  subst hn
  cases he : lo == hi with
  | true => exact .inr (Nat.le_refl _)
  | false =>
    rcases h2 with h2 | h2
    · dsimp only at h2
      rw [h2] at he
      simp at he
    · refine .inr ?_
      dsimp only at h2
      simp only [Bool.false_eq_true, if_false]
      omega
theorem mkB_ok {src dst : Nat} {x : Operand} {e : EffR} (h : mkB E f H src dst x = some e) : EffOk E.P nt X f H (.convert src dst x) ty e ∧ EffFr H e := by
  unfold mkB at h
  cases hb : Nat.beq src dst with
  | false => rw [hb] at h; cases h
  | true =>
    rw [hb, cond_true] at h
    obtain rfl := Nat.eq_of_beq_eq_true hb
    split at h
    · rename_i ts h1
      split at h
      · rename_i el hk
        cases hb2 : isU8 E el with
        | false => rw [hb2] at h; cases h
        | true =>
          rw [hb2, cond_true] at h
          split at h
          · rename_i id n hx
            split at h
            · rename_i r hr
              cases hb3 : Nat.blt 0 n with
              | false => rw [hb3] at h; cases h
              | true =>
                rw [hb3, cond_true] at h
                have hn0 : 0 < n := Nat.le_of_ble_eq_true hb3
                cases h
                refine ⟨fun _ blk FP a w s => ?_, ⟨by simp, fun i hi hk _ => ?_, fun i hi hk => ?_⟩⟩
                · have hid : id < H.length := (List.getElem?_eq_some_iff.1 hr).1
                  rcases inv_row hr (hx ▸ s.ev x) with ⟨hv, hn, hcc, h0, hcm⟩ | ⟨ad, hv, hz, _⟩
                  · rcases (s.rows id r hr).1 with hrow | ⟨_, hle, hmp, hbm, ty', cur, F, hrow, hcur, hall, hcells, hF1, hF2⟩
                    · omega
                    have hrl : (H.set id none).length = H.length := by simp
                    have hnew : (H.set id none ++ [some r])[H.length]? = some (some r) := by
                      rw [List.getElem?_append_right (by rw [hrl]; exact Nat.le_refl _), hrl, Nat.sub_self]; rfl
                    have hsh : w.shape? (blk id).b = some (ty', cur.size) := by
                      obtain ⟨fz, q1, q2⟩ := hrow
                      simp [World.shape?, q1]
                    have hrun : (convert src src (.slice (some ⟨(blk id).b, 0, none⟩) n (blk id).c)).run E.P w = .ok (.slice (some ⟨(blk id).b, 0, none⟩) n (blk id).c) (w.freeze ⟨(blk id).b, cur.size, none⟩ 1) := by
                      simp [convert, run_underlying (und_sl h1 hk), run_underlying (isU8_ok hb2), markStringish, hsh]
                    obtain ⟨s', hS⟩ := s.repl (r' := r) (bc := blk id) (fp' := FP id) (w' := w.freeze ⟨(blk id).b, cur.size, none⟩ 1) hr (fun b _ hbf => freeze_other (fun e => hbf (e ▸ hbm))) (by rw [freeze_size]; exact Nat.le_refl _)
                      (by unfold World.freeze; rw [if_neg (by decide)]) (by unfold World.freeze; rw [if_neg (by decide)]) (by unfold World.freeze; rw [if_neg (by decide)])
                      (fun b hb => by rw [freeze_size]; exact ⟨.inl hb, ((s.rows id r hr).2 b hb).2⟩)
                      (fun hS hext => .inr ⟨h0, hle, hmp, hbm, ty', cur, F, freeze_row hrow rfl, hcur, hall, fun i j hi hj => by
                        obtain ⟨u, hu, ho, hc⟩ := hcells i j hi hj
                        exact ⟨u, hu, ho, hc.mono hS hext fun y hy => freeze_other (hF1 i j hi hj y hy).2⟩, hF1, hF2⟩)
                    refine ⟨.value (.slice (some ⟨(blk id).b, 0, none⟩) n (blk id).c), _, _, _, _, fun _ _ _ _ => by simp [execOp, hv, hrun], .inl rfl, s', ?_⟩
                    have := Conc.row (w := w.freeze ⟨(blk id).b, cur.size, none⟩ 1) (S := X.S (fun k => if k = H.length then FP id else FP k) (H.set id none ++ [some r]) (w.freeze ⟨(blk id).b, cur.size, none⟩ 1).heap.size)
                      (blk := fun k => if k = H.length then blk id else blk k) (H := H.set id none ++ [some r]) (id := H.length) (n := n) r hnew hn (by simpa using hle) (by simpa using h0) (by simpa using hcm)
                    simpa using this
                  · omega
                · dsimp only at hk ⊢
                  rw [List.getElem?_append_left (by simp; exact hi), List.getElem?_set_ne (fun e => hk (by simp [e]))]
                · dsimp only at hk ⊢
                  rw [List.getElem?_append_left (by simp; exact hi), List.getElem?_set_ne (fun e => hk (by simp [e]))]
            · cases h
          · cases h
      · cases h
    · cases h
def cbD (E : Env) (f : Fr) (H : Hp) (src dst : Nat) (x : Operand) : Option EffR :=
  match ev f x with
  | .s _ => sbD E f H src dst x
  | _ => mkB E f H src dst x
theorem cbD_ok {src dst : Nat} {x : Operand} {e : EffR} (h : cbD E f H src dst x = some e) : EffOk E.P nt X f H (.convert src dst x) ty e ∧ EffFr H e := by
  unfold cbD at h
  split at h
  · exact sbD_ok h
  · exact mkB_ok h
def effD (E : Env) (f : Fr) (H : Hp) (op : Op) : Option EffR :=
  match op with
  | .buildSlice t n kx => bsD E f H t n kx.toList
  | .makeMap t none => mmD E H t
  | .mapUpdate t m k x => muD E f H t m k x
  | .entryStore t m st x => bif mapTy E f H t m then esD f H m st x else none
  | .convert s d x => cbD E f H s d x
  | .call ⟨.builtin .append, args, tys⟩ => apD E f H args.toList tys.toList
  | .call ⟨.builtin .copy, args, tys⟩ => cpD E f H args.toList tys.toList
  | .call ⟨.builtin .clear, args, tys⟩ => clD E f H args.toList tys.toList
  | _ => none
theorem effD_ok {op : Op} {e : EffR} (h : effD E f H op = some e) : EffOk E.P nt X f H op ty e ∧ EffFr H e := by
  unfold effD at h
  split at h
  · exact bsD_ok h
  · exact mmD_ok h
  · exact muD_ok h
  · rename_i t m st x
    cases hb : mapTy E f H t m with
    | false => rw [hb] at h; cases h
    | true => rw [hb, cond_true] at h; exact esD_ok (mapTy_ok hb) h
  · exact cbD_ok h
  · exact apD_ok h
  · exact cpD_ok h
  · exact clD_ok h
  · cases h
def frcH : Hp → (Hp → Prop) → Prop
  | [], K => K []
  | x :: t, K => frcH t fun t' => K (x :: t')
theorem frcH_eq : ∀ (H : Hp) (K : Hp → Prop), frcH H K = K H
  | [], K => rfl
  | x :: t, K => by unfold frcH; rw [frcH_eq t]
def pushD (d : Option Tmp) (v : AV) (f : Fr) : Fr := match d with | some d => (d, v) :: f | none => f
def dstOk (nt : Nat) : Option Tmp → Bool
  | some d => Nat.blt d nt
  | none => true
theorem po_eff {o : Oper} {e : EffR} {K : Fr → Hp → Prop} (he : EffOk E.P nt X f H o.op o.type e) (hp : e.p) (hd : dstOk nt o.dst = true) (h : K (pushD o.dst e.v f) e.H) : PO E.P nt X o f H K := by
  rintro a w ⟨blk, FP, s⟩ K' Q' hK
  obtain ⟨nx, u, w', blk', FP', hr, hn, s', hc⟩ := he hp blk FP a w s
  obtain ⟨dst, op, ty, pos, after, gd⟩ := o
  have hr' := hr dst pos after gd
  unfold Oper.wp
  rw [hr']
  have fin : K' (a.put dst u) w' := by
    cases dst with
    | none => exact hK _ _ _ _ h ⟨blk', FP', s'⟩
    | some d => exact hK _ _ _ _ h ⟨blk', FP', s'.put (Nat.le_of_ble_eq_true hd) hc⟩
  rcases hn with rfl | ⟨rfl, rfl⟩
  · exact fin
  · exact fin
theorem po_me {t : Nat} {m k : Operand} {g : Int → EffR} {d : Nat} {pos : String} {after : Array Edge} {gd : Option (Nat × Bool)} {K : Fr → Hp → Prop} (h : meD E f H t m k = some g) (hn : Nat.blt d nt = true) (hk : ∀ st, K ((d, (g st).v) :: f) (g st).H) :
    PO E.P nt X ⟨some d, .mapEntry t m k, ty, pos, after, gd⟩ f H K := by
  rintro a w ⟨blk, FP, s⟩ K' Q' hK
  obtain ⟨_, hrun⟩ := meD_ok (nt := nt) (X := X) (ty := ty) h
  obtain ⟨st, u, w', blk', FP', hr, s', hc⟩ := hrun blk FP a w s
  unfold Oper.wp
  rw [hr]
  exact hK _ _ _ _ (hk st) ⟨blk', FP', s'.put (Nat.le_of_ble_eq_true hn) hc⟩
def effIn (M : List Nat) (n0 : Nat) (e : EffR) : Bool := e.t.all (fun i => M.contains i || Nat.ble n0 i) && e.kl.all (fun i => Nat.ble n0 i)
theorem effIn_ok {M : List Nat} {n0 : Nat} {e : EffR} (hn : n0 ≤ H.length) (hf : EffFr H e) (h : effIn M n0 e = true) : hidM M 0 (e.H.take n0) = hidM M 0 (H.take n0) := by
  unfold effIn at h
  rw [Bool.and_eq_true] at h
  apply List.ext_getElem?
  intro i
  rw [hidM_at, hidM_at, List.getElem?_take, List.getElem?_take]
  by_cases hi : i < n0
  · rw [if_pos hi, if_pos hi]
    have hkl : i ∉ e.kl := fun hm => by
      have := Nat.le_of_ble_eq_true (List.all_eq_true.1 h.2 i hm)
      omega
    by_cases ht : i ∈ e.t
    · have hM : M.contains i = true := by
        have := List.all_eq_true.1 h.1 i ht
        rw [Bool.or_eq_true] at this
        rcases this with h | h
        · exact h
        · have := Nat.le_of_ble_eq_true h; omega
      simp only [Nat.zero_add, hM, cond_true]
      exact hf.dims i (by omega) hkl
    · rw [hf.same i (by omega) hkl ht]
  · rw [if_neg hi, if_neg hi]
theorem fillA_ext' {T : Hp} {pl : List (Nat × Nat × Bool)} : ∀ {parts : List (Nat × AV)} {cells cs : List AV}, (∀ x, one2 H x = true → one2 (H ++ T) x = true) → fillA H pl cells parts = some cs → fillA (H ++ T) pl cells parts = some cs
  | [], cells, cs, _, h => h
  | (i, x) :: rest, cells, cs, h1, h => by
    unfold fillA at h ⊢
    split at h
    · rename_i o n ag hpl
      cases hb : (Nat.beq (avc x).length n && (Nat.ble (o + n) cells.length && (avc x).all (one2 H))) with
      | false => rw [hb] at h; cases h
      | true =>
        rw [hb, cond_true] at h
        rw [Bool.and_eq_true, Bool.and_eq_true] at hb
        have : (Nat.beq (avc x).length n && (Nat.ble (o + n) cells.length && (avc x).all (one2 (H ++ T)))) = true := by
          rw [Bool.and_eq_true, Bool.and_eq_true]
          exact ⟨hb.1, hb.2.1, List.all_eq_true.2 fun y hy => h1 y (List.all_eq_true.1 hb.2.2 y hy)⟩
        simp only [this, cond_true]
        exact fillA_ext' h1 h
    · cases h
theorem arK_det {t : TypeId} {kx : Array (Nat × Operand)} {K : AV → Prop} (T : Hp) (h1 : ∀ x, one2 H x = true → one2 (H ++ T) x = true) (h : arK E f H t kx K) : ∃ v, arK E f (H ++ T) t kx (fun v' => v' = v) ∧ K v := by
  unfold arK at h ⊢
  split at h
  · cases h
  rename_i ti hti
  split at h
  · rename_i n e zs hk hzs
    simp only [hk, hzs]
    split at h
    · rename_i te hte
      try simp only [hte]
      cases hb : Nat.beq te.sz 1 with
      | false => rw [hb] at h; cases h
      | true =>
        rw [hb, cond_true] at h
        simp only [cond_true]
        split at h
        · rename_i cs hfill
          refine ⟨.agg cs, ?_, h⟩
          simp only [fillA_ext' (T := T) h1 hfill]
        · cases h
    · cases h
  · cases h
end
end
end Go.Proofs.Ytdeledeopippfaa
