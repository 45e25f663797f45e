/- Texts for VSectionsP. -/
import Derived.Test.YtdeledeopippfaaVx8
namespace Go.Proofs.Ytdeledeopippfaa
open Go Go.RowKit
set_option linter.unusedVariables false
set_option linter.unusedSimpArgs false
section
variable {E : Env} {P : Program} {nt : Nat} {X : Ctx} {f : Fr} {H : Hp} {ty : TypeId} {K : AV → Prop}
theorem at_ext' {T : Hp} {id : Nat} {x : Option Row} (h : H[id]? = some x) : (H ++ T)[id]? = some x := by
  rw [List.getElem?_append_left (List.getElem?_eq_some_iff.1 h).1]; exact h
theorem live_ext {T : Hp} {id : Nat} (h : live H id = true) : live (H ++ T) id = true := by
  unfold live at h ⊢
  cases hh : H[id]? with
  | none => rw [hh] at h; cases h
  | some r => rw [at_ext' hh]; rw [hh] at h; exact h
theorem live_some {id : Nat} (h : live H id = true) : ∃ r, H[id]? = some (some r) := by
  unfold live at h
  split at h
  · rename_i r hr; exact ⟨r, hr⟩
  · cases h
def ncK (f : Fr) (H : Hp) (x : Operand) (K : AV → Prop) : Prop :=
  match ev f x with
  | .ptr id j off => bif live H id then K (.ptr id j off) else False
  | .rf m g => K (.rf m g)
  | _ => False
theorem ncK_ok {x : Operand} (h : ncK f H x K) : ∃ v, RD E.P nt X (.nilCheck x) ty f H v ∧ K v := by
  unfold ncK at h
  split at h
  · rename_i id j off hx
    cases hl : live H id with
    | false => rw [hl] at h; cases h
    | true =>
      rw [hl, cond_true] at h
      obtain ⟨r, hr⟩ := live_some hl
      refine ⟨_, fun blk FP a w s => ?_, h⟩
      have hc := s.ev x
      rw [hx] at hc
      obtain ⟨hev, _⟩ := inv_ptr hr hc
      refine ⟨_, fun _ _ _ _ => ?_, hc⟩
      simp [execOp, hev]
  · rename_i m g hx
    refine ⟨_, fun blk FP a w s => ?_, h⟩
    have hc := s.ev x
    rw [hx] at hc
    obtain ⟨b, o, U, hev, _⟩ := inv_rf hc
    refine ⟨_, fun _ _ _ _ => ?_, hc⟩
    simp [execOp, hev]
  · cases h
theorem ncK_det {x : Operand} (T : Hp) (h : ncK f H x K) : ∃ v, ncK f (H ++ T) x (fun v' => v' = v) ∧ K v := by
  unfold ncK at h ⊢
  split at h
  · rename_i id j off hx
    cases hl : live H id with
    | false => rw [hl] at h; cases h
    | true =>
      rw [hl, cond_true] at h
      refine ⟨_, ?_, h⟩
      rw [live_ext hl]; rfl
  · exact ⟨_, rfl, h⟩
  · cases h
def mfK (f : Fr) (fn : Fn) (first captured : Array Operand) (K : AV → Prop) : Prop :=
  match fn, first.toList with
  | .func g, [] => frc (.fn g (captured.toList.map (ev f))) K
  | _, _ => False
theorem mfK_ok {fn : Fn} {first captured : Array Operand} (h : mfK f fn first captured K) : ∃ v, RD E.P nt X (.makeFunc fn first captured) ty f H v ∧ K v := by
  unfold mfK at h
  split at h
  · rename_i g hf
    rw [frc_eq] at h
    refine ⟨_, fun blk FP a w s => ?_, h⟩
    have e : first = #[] := by
      have := congrArg List.toArray hf
      simpa using this
    subst e
    refine ⟨.func (.func g) #[] (captured.toList.map a.eval).toArray, fun _ _ _ _ => ?_, ?_⟩
    · have hc : captured.map a.eval = (captured.toList.map a.eval).toArray := by rw [← Array.toList_map, Array.toArray_toList]
      simp [execOp, Instr.makeFunc, hc]
    · refine .fn g _ _ (by simp) fun j c u hj hu => ?_
      rw [List.getElem?_map] at hj hu
      obtain ⟨x, hx, rfl⟩ := Option.map_eq_some_iff.1 hj
      rw [hx] at hu
      cases hu
      exact s.ev x
  · cases h
theorem mfK_det {fn : Fn} {first captured : Array Operand} (h : mfK f fn first captured K) : ∃ v, mfK f fn first captured (fun v' => v' = v) ∧ K v := by
  unfold mfK at h ⊢
  split at h
  · rename_i g hf
    rw [frc_eq] at h
    refine ⟨_, ?_, h⟩
    rw [frc_eq]
  · cases h
def keyA : Bool → AV → Option (List Int)
  | false, .i .i64 n => some [n]
  | true, .agg [.i .i64 a, .i .i64 b] => some [a, b]
  | _, _ => none
theorem keyA_ok {w : World} {S : Nat → Prop} {blk : Nat → BC} {ak : Bool} {x : AV} {u : Value} {ks : List Int} (h : keyA ak x = some ks) (hc : Conc w S blk H x u) : u = keyV ak ks ∧ okK ak ks := by
  unfold keyA at h
  split at h
  · cases h
    exact ⟨(inv_i hc).1, rfl⟩
  · cases h
    obtain ⟨us, rfl, hl, hu⟩ := inv_agg hc
    match us, hl with
    | [u, v], _ =>
      obtain ⟨rfl, h1⟩ := inv_i (hu 0 _ u rfl rfl)
      obtain ⟨rfl, h2⟩ := inv_i (hu 1 _ v rfl rfl)
      exact ⟨rfl, _, _, rfl, h1, h2⟩
  · cases h
theorem mp_inv {t : Nat} {ti : TI} {ak : Bool} (hti : E.T.get t = some ti) (h : ti.k = .mp ak) : ∃ kt et, E.P.underlying t = some (.map kt et) ∧ MKey E.P kt ak ∧ ∀ u : World, (zeroValue et).run E.P u = .ok (.int .i64 0) u := by
  have hk := (E.ty hti).k
  rw [h] at hk
  unfold tkOk at hk
  dsimp only at hk
  split at hk
  · rename_i kt et hu
    rw [Bool.and_eq_true, Bool.and_eq_true] at hk
    refine ⟨kt, et, hu, keyOkB_ok hk.1, fun u => ?_⟩
    have h3 := hk.2.2
    split at h3
    · rename_i z hz
      obtain ⟨i, hi, hz'⟩ := Option.bind_eq_some_iff.1 hz
      obtain rfl := veq_eq h3
      simp [zeroValue, typeInfo, hi, hz']
    · cases h3
  · cases hk
def mpAt (H : Hp) (id : Nat) : Option (Bool × (List Int → Int) × List (Int × List Int)) :=
  match H[id]? with
  | some (some r) => (match r.k with | .mp ak fm sts => some (ak, fm, sts) | _ => none)
  | _ => none
theorem mpAt_ok {id : Nat} {x : Bool × (List Int → Int) × List (Int × List Int)} (h : mpAt H id = some x) : ∃ r, H[id]? = some (some r) ∧ r.k = .mp x.1 x.2.1 x.2.2 := by
  unfold mpAt at h
  split at h
  · rename_i r hr
    split at h
    · rename_i ak fm sts hk
      cases h
      exact ⟨r, hr, hk⟩
    · cases h
  · cases h
theorem mpAt_ext {T : Hp} {id : Nat} {x : Bool × (List Int → Int) × List (Int × List Int)} (h : mpAt H id = some x) : mpAt (H ++ T) id = some x := by
  unfold mpAt at h ⊢
  cases hh : H[id]? with
  | none => rw [hh] at h; cases h
  | some r => rw [at_ext' hh]; rw [hh] at h; exact h
def lkK (E : Env) (f : Fr) (H : Hp) (t : TypeId) (x i : Operand) (ok : Bool) (K : AV → Prop) : Prop :=
  match ok, E.T.get t with
  | false, some ti => (match ti.k with
    | .mp ak => (match keyA ak (ev f i) with
      | some ks => (match ev f x with
        | .fm ak' fm => bif ak == ak' then K (.i .i64 (fm ks)) else False
        | .mp id => (match mpAt H id with
          | some (ak', fm, _) => bif ak == ak' then K (.i .i64 (fm ks)) else False
          | none => False)
        | _ => False)
      | none => False)
    | _ => False)
  | _, _ => False
theorem lkK_ok {t : TypeId} {x i : Operand} {ok : Bool} (h : lkK E f H t x i ok K) : ∃ v, RD E.P nt X (.lookup t x i ok) ty f H v ∧ K v := by
  unfold lkK at h
  split at h
  · rename_i ti hti
    split at h
    · rename_i ak hk
      obtain ⟨kt, et, hu, MK, hz⟩ := mp_inv hti hk
      split at h
      · rename_i ks hks
        split at h
        · rename_i ak' fm hx
          cases hb : ak == ak' with
          | false => rw [hb] at h; cases h
          | true =>
            rw [hb, cond_true] at h
            obtain rfl : ak = ak' := by simpa using hb
            refine ⟨_, fun blk FP a w s => ?_, h⟩
            obtain ⟨hev, hok⟩ := keyA_ok hks (s.ev i)
            obtain ⟨b, hxv, hS, hm⟩ := inv_fm (hx ▸ s.ev x)
            refine ⟨.int .i64 (fm ks), fun _ _ _ _ => ?_, .i (hm.wf hok MK.inj)⟩
            simp only [execOp, hev, hxv]
            have := map_lookup MK hu hz hm hok
            simp [this]
        · rename_i id hx
          split at h
          · rename_i ak' fm sts hm
            cases hb : ak == ak' with
            | false => rw [hb] at h; cases h
            | true =>
              rw [hb, cond_true] at h
              obtain rfl : ak = ak' := by simpa using hb
              refine ⟨_, fun blk FP a w s => ?_, h⟩
              obtain ⟨hev, hok⟩ := keyA_ok hks (s.ev i)
              obtain ⟨r, hr, hk⟩ := mpAt_ok hm
              have hxv := inv_mp hr (hx ▸ s.ev x)
              obtain ⟨_, _, _, hmo⟩ := map_row s hr hk
              refine ⟨.int .i64 (fm ks), fun _ _ _ _ => ?_, .i (hmo.wf hok MK.inj)⟩
              simp only [execOp, hev, hxv]
              have := map_lookup MK hu hz hmo hok
              simp [this]
          · cases h
        · cases h
      · cases h
    · cases h
  · cases h
theorem lkK_det {t : TypeId} {x i : Operand} {ok : Bool} (T : Hp) (h : lkK E f H t x i ok K) : ∃ v, lkK E f (H ++ T) t x i ok (fun v' => v' = v) ∧ K v := by
  unfold lkK at h ⊢
  split at h
  · rename_i ti hti
    split at h
    · rename_i ak hk
      split at h
      · rename_i ks hks
        split at h
        · rename_i ak' fm hx
          cases hb : ak == ak' with
          | false => rw [hb] at h; cases h
          | true =>
            rw [hb, cond_true] at h
            refine ⟨_, ?_, h⟩
            simp only [hb, cond_true]
        · rename_i id hx
          split at h
          · rename_i ak' fm sts hm
            cases hb : ak == ak' with
            | false => rw [hb] at h; cases h
            | true =>
              rw [hb, cond_true] at h
              refine ⟨_, ?_, h⟩
              simp only [mpAt_ext hm, hb, cond_true]
          · cases h
        · cases h
      · cases h
    · cases h
  · cases h
def bnd (f : Fr) (d : Int) : Option Operand → Option Int
  | none => some d
  | some x => (match ev f x with | .i _ z => some z | _ => none)
theorem bnd_ok {blk : Nat → BC} {FP : Nat → List Nat} {a : Act} {w : World} (s : StB nt X f H blk FP a w) {d z : Int} {x : Option Operand} (h : bnd f d x = some z) : (x = none ∧ z = d) ∨ ∃ o k, x = some o ∧ a.eval o = .int k z := by
  cases x with
  | none => cases h; exact .inl ⟨rfl, rfl⟩
  | some o =>
    unfold bnd at h
    dsimp only at h
    split at h
    · rename_i k z' hx
      cases h
      exact .inr ⟨o, k, rfl, (inv_i (hx ▸ s.ev o)).1⟩
    · cases h
theorem run_bound {w : World} {k : IntKind} {i : Int} {y : Nat} {c : BoundsCode} (h0 : 0 ≤ i) (h1 : i ≤ y) : (Instr.sliceBound (.int k i) y c).run P w = .ok i.toNat w := by
  simp [Instr.sliceBound, asIntOf, h0, h1]
theorem run_bounds {blk : Nat → BC} {FP : Nat → List Nat} {a : Act} {w : World} (s : StB nt X f H blk FP a w) {lo hi : Option Operand} {l h : Int} {len cap : Nat} {isS : Bool} (hl : bnd f 0 lo = some l) (hh : bnd f len hi = some h) (h0 : 0 ≤ l) (h1 : l ≤ h) (h2 : h ≤ cap) (hlen : len ≤ cap) :
    (Instr.sliceBounds isS len cap (lo.map a.eval) (hi.map a.eval) none).run P w = .ok (l.toNat, h.toNat, cap) w := by
  rcases bnd_ok s hl with ⟨rfl, rfl⟩ | ⟨ol, kl, rfl, hel⟩ <;> rcases bnd_ok s hh with ⟨rfl, rfl⟩ | ⟨oh, kh, rfl, heh⟩
  · simp [Instr.sliceBounds]
  · have e := run_bound (P := P) (w := w) (k := kh) (i := h) (y := cap) (c := if isS then .sliceAcap else .sliceAlen) (by omega) h2
    simp [Instr.sliceBounds, heh, e]
  · have e := run_bound (P := P) (w := w) (k := kl) (i := l) (y := len) (c := .sliceB) h0 (by omega)
    simp [Instr.sliceBounds, hel, e]
  · have e := run_bound (P := P) (w := w) (k := kh) (i := h) (y := cap) (c := if isS then .sliceAcap else .sliceAlen) (by omega) h2
    have e2 := run_bound (P := P) (w := w) (k := kl) (i := l) (y := h.toNat) (c := .sliceB) h0 (by omega)
    simp [Instr.sliceBounds, heh, hel, e, e2]
def slK (E : Env) (f : Fr) (H : Hp) (t : TypeId) (x : Operand) (lo hi mx : Option Operand) (K : AV → Prop) : Prop :=
  match mx, E.T.get t with
  | none, some ti => (match ti.k with
    | .s => (match ev f x with
      | .s b => (match bnd f 0 lo, bnd f b.size hi with
        | some l, some h => (0 ≤ l ∧ l ≤ h ∧ h ≤ b.size) ∧ K (.s (b.extract l.toNat h.toNat))
        | _, _ => False)
      | _ => False)
    | .sl _ => (match elemAt E t with
      | some (_, te) => (match ev f x with
        | .sl sz n g => bif Nat.beq sz te.sz then (match bnd f 0 lo, bnd f n hi with
          | some l, some h => (0 ≤ l ∧ l ≤ h ∧ h ≤ n) ∧ K (.sl sz (h - l).toNat fun i j => g (l.toNat + i) j)
          | _, _ => False) else False
        | .nils => (match bnd f 0 lo, bnd f 0 hi with
          | some l, some h => (0 ≤ l ∧ l ≤ h ∧ h ≤ 0) ∧ K .nils
          | _, _ => False)
        | .row id n => (match H[id]? with
          | some (some r) => bif Nat.beq r.sz te.sz then (match lo with
            | none => (match bnd f n hi with
              | some h => (0 ≤ h ∧ h ≤ r.cap) ∧ K (.row id h.toNat)
              | none => False)
            | some _ => (match bnd f 0 lo, bnd f n hi with
              | some l, some h => (0 ≤ l ∧ l ≤ h ∧ h ≤ r.cap) ∧ K (.rs id l.toNat (h - l).toNat)
              | _, _ => False)) else False
          | _ => False)
        | .rs id o n => (match H[id]? with
          | some (some r) => bif Nat.beq r.sz te.sz then (match bnd f 0 lo, bnd f n hi with
              | some l, some h => (0 ≤ l ∧ l ≤ h ∧ o + h ≤ r.cap) ∧ K (.rs id (o + l.toNat) (h - l).toNat)
              | _, _ => False) else False
          | _ => False)
        | _ => False)
      | none => False)
    | _ => False)
  | some m, some ti => (match ti.k with
    | .sl _ => (match elemAt E t with
      | some (_, te) => (match ev f x with
        | .row id n => (match H[id]? with
          | some (some r) => bif Nat.beq r.sz te.sz then (match hi with
            | some hi => (match bnd f 0 lo, bnd f 0 (some hi), bnd f 0 (some m) with
              | some l, some h, some c => (0 ≤ l ∧ l ≤ h ∧ h ≤ c ∧ c ≤ r.cap) ∧ K .any
              | _, _, _ => False)
            | none => False) else False
          | _ => False)
        | _ => False)
      | none => False)
    | _ => False)
  | _, _ => False
theorem sliceAt_slice {t e : Nat} (hu : P.underlying t = some (.slice e)) (w : World) (x : Value) (lo hi mx : Option Value) : (Instr.sliceAt t x lo hi mx).run P w = (Instr.slice t x lo hi mx).run P w := by
  simp [Instr.sliceAt, run_underlying hu]
theorem sliceAt_string {t : Nat} (hu : P.underlying t = some .string) (w : World) (x : Value) (lo hi mx : Option Value) : (Instr.sliceAt t x lo hi mx).run P w = (Instr.slice t x lo hi mx).run P w := by
  simp [Instr.sliceAt, run_underlying hu]
theorem run_slice {blk : Nat → BC} {FP : Nat → List Nat} {a : Act} {w : World} (s : StB nt X f H blk FP a w) {t e : Nat} {te : TI} (hu : P.underlying t = some (.slice e)) (hT : TIok P e te) {lo hi : Option Operand} {l h : Int} {n cap : Nat} {ad : Option Addr}
    (hl : bnd f 0 lo = some l) (hh : bnd f n hi = some h) (h0 : 0 ≤ l) (h1 : l ≤ h) (h2 : h ≤ cap) (hn : n ≤ cap) {x : Operand} (hev : a.eval x = .slice ad n cap) (dst : Option Tmp) (pos : String) (after : Array Edge) (gd : Option (Nat × Bool)) :
    (execOp a.eval ⟨dst, .slice t x lo hi none, ty, pos, after, gd⟩).run P w = .ok (.value (.slice (if cap = l.toNat then ad else ad.map (·.add (l.toNat * te.sz))) (h.toNat - l.toNat) (cap - l.toNat))) w := by
  have hb := run_bounds (P := P) (isS := true) (cap := cap) s hl hh h0 h1 h2 hn
  have hsz := run_size hT w
  simp only [execOp, hev]
  rw [Sem.run_bind, Option.map_none, sliceAt_slice hu]
  simp [Instr.slice, run_underlying hu, hb, hsz]
theorem run_slice3 {blk : Nat → BC} {FP : Nat → List Nat} {a : Act} {w : World} (s : StB nt X f H blk FP a w) {t e : Nat} {te : TI} (hu : P.underlying t = some (.slice e)) (hT : TIok P e te) {lo : Option Operand} {hi mx : Operand} {l h c : Int} {n cap : Nat} {ad : Option Addr}
    (hl : bnd f 0 lo = some l) (hh : bnd f 0 (some hi) = some h) (hm : bnd f 0 (some mx) = some c) (h0 : 0 ≤ l) (h1 : l ≤ h) (h2 : h ≤ c) (h3 : c ≤ cap) {x : Operand} (hev : a.eval x = .slice ad n cap) (dst : Option Tmp) (pos : String) (after : Array Edge) (gd : Option (Nat × Bool)) :
    (execOp a.eval ⟨dst, .slice t x lo (some hi) (some mx), ty, pos, after, gd⟩).run P w = .ok (.value (.slice (if c.toNat = l.toNat then ad else ad.map (·.add (l.toNat * te.sz))) (h.toNat - l.toNat) (c.toNat - l.toNat))) w := by
  obtain ⟨oh, kh, eh, heh⟩ := (bnd_ok s hh).resolve_left (fun q => by cases q.1)
  cases eh
  obtain ⟨om, km, em, hem⟩ := (bnd_ok s hm).resolve_left (fun q => by cases q.1)
  cases em
  have hb : (Instr.sliceBounds true n cap (lo.map a.eval) (some (a.eval hi)) (some (a.eval mx))).run P w = .ok (l.toNat, h.toNat, c.toNat) w := by
    have e1 := run_bound (P := P) (w := w) (k := km) (i := c) (y := cap) (c := .slice3Acap) (by omega) h3
    have e2 := run_bound (P := P) (w := w) (k := kh) (i := h) (y := c.toNat) (c := .slice3B) (by omega) (by omega)
    rcases bnd_ok s hl with ⟨rfl, rfl⟩ | ⟨ol, kl, rfl, hel⟩
    · simp [Instr.sliceBounds, hem, heh, e1, e2]
    · have e3 := run_bound (P := P) (w := w) (k := kl) (i := l) (y := h.toNat) (c := .slice3C) h0 (by omega)
      simp [Instr.sliceBounds, hem, heh, hel, e1, e2, e3]
  have hsz := run_size hT w
  simp only [execOp, hev]
  rw [Sem.run_bind, Option.map_some, Option.map_some, sliceAt_slice hu]
  simp [Instr.slice, run_underlying hu, hb, hsz]
theorem slK_ok {t : TypeId} {x : Operand} {lo hi mx : Option Operand} (h : slK E f H t x lo hi mx K) : ∃ v, RD E.P nt X (.slice t x lo hi mx) ty f H v ∧ K v := by
  unfold slK at h
  split at h
  · rename_i ti hti
    split at h
    · rename_i hk
      split at h
      · rename_i b hx
        split at h
        · rename_i l hh hl hhi
          obtain ⟨⟨h0, h1, h2⟩, h⟩ := h
          refine ⟨_, fun blk FP a w s => ?_, h⟩
          obtain ⟨hev, hm⟩ := inv_s (hx ▸ s.ev x)
          have hb := run_bounds (P := E.P) (isS := false) s hl hhi h0 h1 h2 (Nat.le_refl _)
          refine ⟨.string (b.extract l.toNat hh.toNat), fun _ _ _ _ => ?_, .s ?_⟩
          · simp only [execOp, hev]
            rw [Sem.run_bind, Option.map_none, sliceAt_string (und_s hti hk)]
            simp [Instr.slice, run_underlying (und_s hti hk), hb]
          · rw [ByteArray.size_extract]
            omega
        · cases h
      · cases h
    · rename_i e0 hk
      split at h
      · rename_i e te hS
        obtain ⟨hu, hT⟩ := elemAt_ok hS
        split at h
        · rename_i sz n g hx
          cases hs : Nat.beq sz te.sz with
          | false => rw [hs] at h; cases h
          | true =>
            rw [hs, cond_true] at h
            obtain rfl := Nat.eq_of_beq_eq_true hs
            split at h
            · rename_i l hh hl hhi
              obtain ⟨⟨h0, h1, h2⟩, h⟩ := h
              refine ⟨_, fun blk FP a w s => ?_, h⟩
              have hc := s.ev x
              rw [hx] at hc
              rcases Nat.eq_zero_or_pos (hh - l).toNat with hz | hz
              · obtain ⟨ad, cap, hev, hn, hm⟩ := sl_form hc
                refine ⟨_, run_slice s hu hT hl hhi h0 h1 (by omega) hn hev, ?_⟩
                rw [show hh.toNat - l.toNat = 0 by omega, hz]
                exact .sl0 _ _ (by omega)
              · obtain ⟨b, o, cap, U, hev, hSb, hn, hm, hcc, huu, hf⟩ := inv_sl hc (by omega)
                refine ⟨_, run_slice s hu hT hl hhi h0 h1 (by omega) hn hev, ?_⟩
                rw [if_neg (by omega), Option.map_some, add_mk, show hh.toNat - l.toNat = (hh - l).toNat by omega]
                refine .sl b (o + l.toNat * te.sz) (cap - l.toNat) (fun i j => U (l.toNat + i) j) hSb (by omega) (by omega) (fun i j hi hj => ?_) (fun i j hi hj => hf _ _ (by omega) hj) (fun i j hi hj => huu _ _ (by omega) hj)
                have := hcc (l.toNat + i) j (by omega) hj
                rw [Nat.add_mul, ← Nat.add_assoc] at this
                exact this
            · cases h
        · rename_i hx
          split at h
          · rename_i l hh hl hhi
            obtain ⟨⟨h0, h1, h2⟩, h⟩ := h
            refine ⟨_, fun blk FP a w s => ?_, h⟩
            have hev := inv_nils (hx ▸ s.ev x)
            refine ⟨_, run_slice (n := 0) (cap := 0) s hu hT hl hhi h0 h1 h2 (Nat.le_refl _) hev, ?_⟩
            rw [if_pos (by omega), show hh.toNat - l.toNat = 0 by omega, show 0 - l.toNat = 0 by omega]
            exact .nils
          · cases h
        · rename_i id n hx
          split at h
          · rename_i r hr
            cases hs : Nat.beq r.sz te.sz with
            | false => rw [hs] at h; cases h
            | true =>
              rw [hs, cond_true] at h
              have hs' := Nat.eq_of_beq_eq_true hs
              split at h
              · split at h
                · rename_i hh hhi
                  obtain ⟨⟨h0, h2⟩, h⟩ := h
                  refine ⟨_, fun blk FP a w s => ?_, h⟩
                  have hc := s.ev x
                  rw [hx] at hc
                  rcases inv_row hr hc with ⟨hev, hn, hle, hc0, hm⟩ | ⟨ad, hev, hn, hc0, hc1⟩
                  · refine ⟨_, run_slice (l := 0) s hu hT rfl hhi (Int.le_refl _) h0 (by omega) (by omega) hev, ?_⟩
                    rw [if_neg (by simp; omega), Option.map_some, add_mk]
                    simp only [Int.toNat_zero, Nat.zero_mul, Nat.add_zero, Nat.sub_zero]
                    exact .row r hr (by omega) hle hc0 hm
                  · subst hn
                    refine ⟨_, run_slice (l := 0) s hu hT rfl hhi (Int.le_refl _) h0 (by omega) (by omega) hev, ?_⟩
                    rw [if_pos (by simp)]
                    simp only [Int.toNat_zero, Nat.sub_zero]
                    rw [show hh.toNat = 0 by omega]
                    exact .row0 r hr hc0 hc1 _
                · cases h
              · split at h
                · rename_i l hh hl hhi
                  obtain ⟨⟨h0, h1, h2⟩, h⟩ := h
                  refine ⟨_, fun blk FP a w s => ?_, h⟩
                  have hc := s.ev x
                  rw [hx] at hc
                  rcases inv_row hr hc with ⟨hev, hn, hle, hc0, hm⟩ | ⟨ad, hev, hn, hc0, hc1⟩
                  · refine ⟨_, run_slice s hu hT hl hhi h0 h1 (by omega) (by omega) hev, ?_⟩
                    rw [show hh.toNat - l.toNat = (hh - l).toNat by omega]
                    refine .rs r hr (by omega) hle hm _ fun hlt => ?_
                    rw [if_neg (by omega), Option.map_some, add_mk, Nat.zero_add, hs']
                  · subst hn
                    refine ⟨_, run_slice s hu hT hl hhi h0 h1 (by omega) (by omega) hev, ?_⟩
                    rw [show hh.toNat - l.toNat = (hh - l).toNat by omega]
                    have := Conc.rs (w := w) (S := X.S FP H w.heap.size) (blk := blk) (o := l.toNat) (n := (hh - l).toNat) r hr (by omega) (by omega) (by omega) (if 0 = l.toNat then ad else ad.map (·.add (l.toNat * te.sz))) (fun hlt => by omega)
                    rwa [hc1] at this
                · cases h
          · cases h
        · rename_i id o n hx
          split at h
          · rename_i r hr
            cases hs : Nat.beq r.sz te.sz with
            | false => rw [hs] at h; cases h
            | true =>
              rw [hs, cond_true] at h
              have hs' := Nat.eq_of_beq_eq_true hs
              split at h
              · rename_i l hh hl hhi
                obtain ⟨⟨h0, h1, h2⟩, h⟩ := h
                refine ⟨_, fun blk FP a w s => ?_, h⟩
                have hc := s.ev x
                rw [hx] at hc
                obtain ⟨ad, hev, hn, hle, hm, ha⟩ := inv_rs hr hc
                refine ⟨_, run_slice s hu hT hl hhi h0 h1 (by omega) (by omega) hev, ?_⟩
                rw [show hh.toNat - l.toNat = (hh - l).toNat by omega, Nat.sub_sub]
                refine .rs r hr (by omega) hle hm _ fun hlt => ?_
                rw [if_neg (by omega), ha (by omega), Option.map_some, add_mk, hs', ← Nat.add_mul]
              · cases h
          · cases h
        · cases h
      · cases h
    · cases h
  · rename_i m ti hti
    split at h
    · split at h
      · rename_i e te hS
        obtain ⟨hu, hT⟩ := elemAt_ok hS
        split at h
        · rename_i id n hx
          split at h
          · rename_i r hr
            cases hs : Nat.beq r.sz te.sz with
            | false => rw [hs] at h; cases h
            | true =>
              rw [hs, cond_true] at h
              split at h
              · rename_i hi'
                split at h
                · rename_i l hh c hl hhi hmm
                  obtain ⟨⟨h0, h1, h2, h3⟩, h⟩ := h
                  refine ⟨_, fun blk FP a w s => ?_, h⟩
                  have hc := s.ev x
                  rw [hx] at hc
                  rcases inv_row hr hc with ⟨hev, hn, hle, hc0, hm⟩ | ⟨ad, hev, hn, hc0, hc1⟩
                  · exact ⟨_, run_slice3 s hu hT hl hhi hmm h0 h1 h2 (by omega) hev, .any _⟩
                  · subst hn
                    exact ⟨_, run_slice3 s hu hT hl hhi hmm h0 h1 h2 (by omega) hev, .any _⟩
                · cases h
              · cases h
          · cases h
        · cases h
      · cases h
    · cases h
  · cases h
theorem slK_det {t : TypeId} {x : Operand} {lo hi mx : Option Operand} (T : Hp) (h : slK E f H t x lo hi mx K) : ∃ v, slK E f (H ++ T) t x lo hi mx (fun v' => v' = v) ∧ K v := by
  unfold slK at h ⊢
  split at h
  · rename_i ti hti
    split at h
    · rename_i hk
      simp only [hk]
      split at h
      · split at h
        · exact ⟨_, ⟨h.1, rfl⟩, h.2⟩
        · cases h
      · cases h
    · rename_i e0 hk
      simp only [hk]
      split at h
      · rename_i e te hS
        try simp only [hS]
        split at h
        · rename_i sz n g hx
          cases hs : Nat.beq sz te.sz with
          | false => rw [hs] at h; cases h
          | true =>
            rw [hs, cond_true] at h
            simp only [cond_true]
            split at h
            · exact ⟨_, ⟨h.1, rfl⟩, h.2⟩
            · cases h
        · split at h
          · exact ⟨_, ⟨h.1, rfl⟩, h.2⟩
          · cases h
        · rename_i id n hx
          split at h
          · rename_i r hr
            simp only [at_ext' hr]
            cases hs : Nat.beq r.sz te.sz with
            | false => rw [hs] at h; cases h
            | true =>
              rw [hs, cond_true] at h
              simp only [cond_true]
              split at h
              · split at h
                · rename_i hh hhi
                  refine ⟨.row id hh.toNat, ?_, h.2⟩
                  simp only [hhi]
                  exact ⟨h.1, trivial⟩
                · cases h
              · split at h
                · rename_i l hh hl hhi
                  refine ⟨.rs id l.toNat (hh - l).toNat, ?_, h.2⟩
                  simp only [hl, hhi]
                  exact ⟨h.1, trivial⟩
                · cases h
          · cases h
        · rename_i id o n hx
          split at h
          · rename_i r hr
            simp only [at_ext' hr]
            cases hs : Nat.beq r.sz te.sz with
            | false => rw [hs] at h; cases h
            | true =>
              rw [hs, cond_true] at h
              simp only [cond_true]
              split at h
              · exact ⟨_, ⟨h.1, rfl⟩, h.2⟩
              · cases h
          · cases h
        · cases h
      · cases h
    · cases h
  · rename_i m ti hti
    split at h
    · rename_i e0 hk
      simp only [hk]
      split at h
      · rename_i e te hS
        try simp only [hS]
        split at h
        · rename_i id n hx
          split at h
          · rename_i r hr
            simp only [at_ext' hr]
            cases hs : Nat.beq r.sz te.sz with
            | false => rw [hs] at h; cases h
            | true =>
              rw [hs, cond_true] at h
              simp only [cond_true]
              split at h
              · split at h
                · rename_i l hh c hl hhi hmm
                  refine ⟨.any, ?_, h.2⟩
                  simp only [hl, hhi, hmm]
                  exact ⟨h.1, trivial⟩
                · cases h
              · cases h
          · cases h
        · cases h
      · cases h
    · cases h
  · cases h
def shK (f : Fr) (op : BinOp) (x y : Operand) (K : AV → Prop) : Prop :=
  match ev f x, ev f y with
  | .i k a, .i _ b => (match op with
    | .shl => (0 ≤ b) ∧ K (.i k (k.wrap (a * 2 ^ min b.toNat k.bits)))
    | .shr => (0 ≤ b) ∧ K (.i k (a.fdiv (2 ^ min b.toNat k.bits)))
    | _ => False)
  | _, _ => False
theorem fdiv_wf {k : IntKind} {a : Int} {n : Nat} (ha : (Lit.int k a).wf = true) : (Lit.int k (a.fdiv (2 ^ n))).wf = true := by
  have hm := min_max k
  have hp : (0 : Int) < 2 ^ n := Int.pow_pos (by omega)
  simp only [Lit.wf, Bool.and_eq_true, decide_eq_true_eq] at ha ⊢
  rw [Int.fdiv_eq_ediv_of_nonneg _ (by omega)]
  rcases Int.le_total 0 a with h0 | h0
  · have h3 : 0 ≤ a / 2 ^ n := Int.ediv_nonneg h0 (by omega)
    have h4 : a / 2 ^ n ≤ a := Int.ediv_le_self _ h0
    omega
  · have h3 : a ≤ a / 2 ^ n := by
      refine Int.le_ediv_of_mul_le hp ?_
      have : a * 2 ^ n ≤ a * 1 := Int.mul_le_mul_of_nonpos_left h0 (by omega)
      omega
    have h4 : a / 2 ^ n < 1 := Int.ediv_lt_of_lt_mul hp (by omega)
    omega
theorem shK_ok {op : BinOp} {t t' : TypeId} {x y : Operand} (h : shK f op x y K) : ∃ v, RD P nt X (.binOp op t x y t') ty f H v ∧ K v := by
  unfold shK at h
  split at h
  · rename_i k a k' b hx hy
    split at h
    · obtain ⟨h0, h⟩ := h
      refine ⟨_, fun blk FP c w s => ⟨_, fun _ _ _ _ => ?_, .i (wf_wrap _ _)⟩, h⟩
      have e1 := (inv_i (hx ▸ s.ev x)).1
      have e2 := (inv_i (hy ▸ s.ev y)).1
      simp [execOp, e1, e2, eqGuard, binOp, Op.shift, show ¬ b < 0 by omega]
    · obtain ⟨h0, h⟩ := h
      refine ⟨_, fun blk FP c w s => ⟨.int k (a.fdiv (2 ^ min b.toNat k.bits)), fun _ _ _ _ => ?_, .i (fdiv_wf (inv_i (hx ▸ s.ev x)).2)⟩, h⟩
      have e1 := (inv_i (hx ▸ s.ev x)).1
      have e2 := (inv_i (hy ▸ s.ev y)).1
      simp [execOp, e1, e2, eqGuard, binOp, Op.shift, show ¬ b < 0 by omega]
    · cases h
  · cases h
theorem shK_det {op : BinOp} {x y : Operand} (h : shK f op x y K) : ∃ v, shK f op x y (fun v' => v' = v) ∧ K v := by
  unfold shK at h ⊢
  split at h
  · split at h
    · exact ⟨_, ⟨h.1, rfl⟩, h.2⟩
    · exact ⟨_, ⟨h.1, rfl⟩, h.2⟩
    · cases h
  · cases h
def isP (E : Env) (t : Nat) : Bool := match E.T.get t with | some ti => (match ti.k with | .p => true | _ => false) | none => false
theorem isP_ok {t : Nat} (h : isP E t = true) : ∃ e, E.P.underlying t = some (.pointer e) := by
  unfold isP at h
  split at h
  · rename_i ti hti
    have hk := (E.ty hti).k
    split at h
    · rename_i hb
      rw [hb] at hk
      unfold tkOk at hk
      dsimp only at hk
      split at hk
      · exact ⟨_, ‹_›⟩
      · cases hk
    · cases h
  · cases h
def nilP (H : Hp) : AV → Option Bool
  | .nilp => some true
  | .rf .. => some false
  | .ptr id _ _ => bif live H id then some false else none
  | _ => none
def npK (E : Env) (f : Fr) (H : Hp) (op : BinOp) (t : TypeId) (x y : Operand) (K : AV → Prop) : Prop :=
  match ev f y with
  | .nilp => bif isP E t then (match nilP H (ev f x) with
    | some b => (match op with | .eql => K (.kb b) | .neq => K (.kb (!b)) | _ => False)
    | none => False) else False
  | _ => False
theorem nilP_ok {blk : Nat → BC} {FP : Nat → List Nat} {a : Act} {w : World} (s : StB nt X f H blk FP a w) {x : Operand} {b : Bool} (h : nilP H (ev f x) = some b) : ∃ ad, a.eval x = .pointer ad ∧ ad.isNone = b := by
  unfold nilP at h
  split at h
  · rename_i hx
    cases h
    exact ⟨none, inv_nilp (hx ▸ s.ev x), rfl⟩
  · rename_i m g hx
    cases h
    obtain ⟨b, o, U, hev, _⟩ := inv_rf (hx ▸ s.ev x)
    exact ⟨_, hev, rfl⟩
  · rename_i id j off hx
    cases hl : live H id with
    | false => rw [hl] at h; cases h
    | true =>
      rw [hl] at h
      cases h
      obtain ⟨r, hr⟩ := live_some hl
      obtain ⟨hev, _⟩ := inv_ptr hr (hx ▸ s.ev x)
      exact ⟨_, hev, rfl⟩
  · cases h
theorem run_nilp {t e : Nat} (hT : P.underlying t = some (.pointer e)) (ad : Option Addr) (w : World) : (Op.equal t (.pointer ad) (.pointer none)).run P w = .ok ad.isNone w := by
  have : ∀ n, (Op.equalIn (n + 1) t (.pointer ad) (.pointer none)).run P w = .ok ad.isNone w := fun n => by cases ad <;> simp [Op.equalIn, run_underlying hT]
  exact this 9999
theorem npK_ok {op : BinOp} {t t' : TypeId} {x y : Operand} (h : npK E f H op t x y K) : ∃ v, RD E.P nt X (.binOp op t x y t') ty f H v ∧ K v := by
  unfold npK at h
  split at h
  · rename_i hy
    cases hp : isP E t with
    | false => rw [hp] at h; cases h
    | true =>
      rw [hp, cond_true] at h
      obtain ⟨e, hu⟩ := isP_ok hp
      split at h
      · rename_i b hb
        split at h
        · refine ⟨_, fun blk FP a w s => ?_, h⟩
          obtain ⟨ad, hev, rfl⟩ := nilP_ok s hb
          have hyv := inv_nilp (hy ▸ s.ev y)
          refine ⟨_, fun _ _ _ _ => ?_, .kb _⟩
          have hg : (eqGuard .eql t x y (.pointer ad) (.pointer none)).run E.P w = .ok () w := run_guard_ok (.inr (.inr (.inr (.inr ⟨ad, rfl⟩))))
          have hb : (binOp .eql t (.pointer ad) (.pointer none)).run E.P w = .ok (.bool ad.isNone) w := by
            have h : binOp .eql t (.pointer ad) (.pointer none) = (do pure (.bool (← Op.equal t (.pointer ad) (.pointer none)))) := rfl
            rw [h, Sem.run_bind, run_nilp hu]
            rfl
          simp [execOp, hev, hyv, hg, hb]
        · refine ⟨_, fun blk FP a w s => ?_, h⟩
          obtain ⟨ad, hev, rfl⟩ := nilP_ok s hb
          have hyv := inv_nilp (hy ▸ s.ev y)
          refine ⟨_, fun _ _ _ _ => ?_, .kb _⟩
          have hg : (eqGuard .neq t x y (.pointer ad) (.pointer none)).run E.P w = .ok () w := run_guard_ok (.inr (.inr (.inr (.inr ⟨ad, rfl⟩))))
          have hb : (binOp .neq t (.pointer ad) (.pointer none)).run E.P w = .ok (.bool (!ad.isNone)) w := by
            have h : binOp .neq t (.pointer ad) (.pointer none) = (do pure (.bool (!(← Op.equal t (.pointer ad) (.pointer none))))) := rfl
            rw [h, Sem.run_bind, run_nilp hu]
            rfl
          simp [execOp, hev, hyv, hg, hb]
        · cases h
      · cases h
  · cases h
theorem nilP_ext {T : Hp} {v : AV} {b : Bool} (h : nilP H v = some b) : nilP (H ++ T) v = some b := by
  unfold nilP at h ⊢
  split at h
  · exact h
  · exact h
  · rename_i id j off
    cases hl : live H id with
    | false => rw [hl] at h; cases h
    | true => rw [hl] at h; rw [live_ext hl]; exact h
  · cases h
theorem npK_det {op : BinOp} {t : TypeId} {x y : Operand} (T : Hp) (h : npK E f H op t x y K) : ∃ v, npK E f (H ++ T) op t x y (fun v' => v' = v) ∧ K v := by
  unfold npK at h ⊢
  split at h
  · cases hp : isP E t with
    | false => rw [hp] at h; cases h
    | true =>
      rw [hp, cond_true] at h
      simp only [cond_true]
      split at h
      · rename_i b hb
        simp only [nilP_ext (T := T) hb]
        split at h
        · exact ⟨_, rfl, h⟩
        · exact ⟨_, rfl, h⟩
        · cases h
      · cases h
  · cases h
def opK (E : Env) (f : Fr) (H : Hp) (op : BinOp) (t : TypeId) (x y : Operand) (K : AV → Prop) : Prop :=
  match op with
  | .shl => shK f .shl x y K
  | .shr => shK f .shr x y K
  | op => (match ev f x with
    | .nilp => npK E f H op t x y K
    | .rf .. => npK E f H op t x y K
    | .ptr .. => npK E f H op t x y K
    | _ => binK E f op t x y K)
theorem opK_ok {op : BinOp} {t t' : TypeId} {x y : Operand} (h : opK E f H op t x y K) : ∃ v, RD E.P nt X (.binOp op t x y t') ty f H v ∧ K v := by
  unfold opK at h
  split at h
  · exact shK_ok h
  · exact shK_ok h
  · split at h
    · exact npK_ok h
    · exact npK_ok h
    · exact npK_ok h
    · exact binK_ok h
def mmK (f : Fr) (b : Builtin) (args : List Operand) (K : AV → Prop) : Prop :=
  match args with
  | [x, y] => (match ev f x, ev f y with
    | .i k a, .i k' b' => bif decide (k = k') then (match b with
      | .max => K (.i k (if b' > a then b' else a))
      | .min => K (.i k (if b' < a then b' else a))
      | _ => False) else False
    | _, _ => False)
  | _ => False
theorem mmK_ok {b : Builtin} {args tys : Array Operand} {tt : Array TypeId} (h : mmK f b args.toList K) : ∃ v, RD P nt X (.call ⟨.builtin b, args, tt⟩) ty f H v ∧ K v := by
  unfold mmK at h
  split at h
  · rename_i x y hxy
    have e : args = #[x, y] := by
      have := congrArg List.toArray hxy
      simpa using this
    subst e
    split at h
    · rename_i k a k' b' hx hy
      cases hk : decide (k = k') with
      | false => rw [hk] at h; cases h
      | true =>
        rw [hk, cond_true] at h
        obtain rfl := of_decide_eq_true hk
        split at h
        · refine ⟨_, fun blk FP c w s => ?_, h⟩
          obtain ⟨e1, w1⟩ := inv_i (hx ▸ s.ev x)
          obtain ⟨e2, w2⟩ := inv_i (hy ▸ s.ev y)
          refine ⟨.int k (if b' > a then b' else a), fun _ _ _ _ => ?_, .i ?_⟩
          · simp [execOp, resolve, invoke, builtin, Builtin.max_, Builtin.max2, e1, e2]
          · split
            · exact w2
            · exact w1
        · refine ⟨_, fun blk FP c w s => ?_, h⟩
          obtain ⟨e1, w1⟩ := inv_i (hx ▸ s.ev x)
          obtain ⟨e2, w2⟩ := inv_i (hy ▸ s.ev y)
          refine ⟨.int k (if b' < a then b' else a), fun _ _ _ _ => ?_, .i ?_⟩
          · simp [execOp, resolve, invoke, builtin, Builtin.min_, Builtin.min2, e1, e2]
          · split
            · exact w2
            · exact w1
        · cases h
    · cases h
  · cases h
theorem mmK_det {b : Builtin} {args : List Operand} (h : mmK f b args K) : ∃ v, mmK f b args (fun v' => v' = v) ∧ K v := by
  unfold mmK at h ⊢
  split at h
  · split at h
    · rename_i k a k' b' hx hy
      cases hk : decide (k = k') with
      | false => rw [hk] at h; cases h
      | true =>
        rw [hk, cond_true] at h
        simp only [cond_true]
        split at h
        · exact ⟨_, rfl, h⟩
        · exact ⟨_, rfl, h⟩
        · cases h
    · cases h
  · cases h
def byteA : AV → UInt8
  | .i _ z => UInt8.ofNat z.toNat
  | _ => 0
def bytesOf (n : Nat) (g : Nat → Nat → AV) : ByteArray := ⟨((List.range n).map fun i => byteA (g i 0)).toArray⟩
structure Bytes (n : Nat) (g : Nat → Nat → AV) : Prop where
  h : ∀ i, i < n → ∃ z, g i 0 = .i .u8 z
def isU8 (E : Env) (t : Nat) : Bool := match E.T.get t with | some ti => (match ti.k with | .i .u8 => Nat.beq ti.sz 1 | _ => false) | none => false
theorem isU8_ok {t : Nat} (h : isU8 E t = true) : E.P.underlying t = some (.int .u8) := by
  unfold isU8 at h
  split at h
  · rename_i ti hti
    split at h
    · rename_i hk; exact und_i hti hk
    · cases h
  · cases h
def bsK (E : Env) (f : Fr) (H : Hp) (src dst : TypeId) (x : Operand) (K : AV → Prop) : Prop :=
  match E.T.get src, E.T.get dst with
  | some ts, some td => (match ts.k, td.k with
    | .sl e, .s => bif isU8 E e then (match srcF H (ev f x) with
      | some (1, n, g) => Bytes n g ∧ K (.s (bytesOf n g))
      | _ => (match ev f x with | .nils => K (.s ByteArray.empty) | _ => False)) else False
    | _, _ => False)
  | _, _ => False
theorem foldl_push : ∀ (ns : List Int) (acc : ByteArray), ns.foldl (fun r n => r.push (UInt8.ofNat n.toNat)) acc = ⟨acc.data ++ (ns.map fun n => UInt8.ofNat n.toNat).toArray⟩
  | [], acc => by cases acc; simp
  | n :: ns, acc => by
    rw [List.foldl_cons, foldl_push ns]
    congr 1
    apply Array.ext'
    simp [ByteArray.push]
theorem bsK_ok {src dst : TypeId} {x : Operand} (h : bsK E f H src dst x K) : ∃ v, RD E.P nt X (.convert src dst x) ty f H v ∧ K v := by
  unfold bsK at h
  split at h
  · rename_i ts td h1 h2
    split at h
    · rename_i e hks hkd
      cases hb : isU8 E e with
      | false => rw [hb] at h; cases h
      | true =>
        rw [hb, cond_true] at h
        have hu := und_sl h1 hks
        have he := isU8_ok hb
        have hd := und_s h2 hkd
        split at h
        · rename_i n g hsrc
          obtain ⟨hby, h⟩ := h
          refine ⟨_, fun blk FP a w s => ?_, h⟩
          have hok : SrcOk n 1 g := ⟨fun i j hi hj => by
            obtain ⟨z, hz⟩ := hby.h i hi
            obtain rfl : j = 0 := by omega
            rw [hz]; rfl⟩
          obtain ⟨A, c, U, hev, hA, hU⟩ := src_of s (s.ev x) hsrc hok
          have hz : ∀ i, i < n → ∃ z : Int, U i 0 = .int .u8 z ∧ byteA (g i 0) = UInt8.ofNat z.toNat := fun i hi => by
            obtain ⟨z, hz⟩ := hby.h i hi
            have hc := (hU i 0 hi (by omega)).2.2
            rw [hz] at hc ⊢
            exact ⟨z, (inv_i hc).1, rfl⟩
          let ns : List Int := (List.range n).map fun i => if h : i < n then Classical.choose (hz i h) else 0
          have hns : ∀ i (hi : i < n), ns[i]? = some (Classical.choose (hz i hi)) := fun i hi => by simp [ns, hi]
          have hnl : ns.length = n := by simp [ns]
          have hbytes : (ns.map fun z => UInt8.ofNat z.toNat) = (List.range n).map fun i => byteA (g i 0) := by
            apply List.ext_getElem?
            intro i
            by_cases hi : i < n
            · rw [List.getElem?_map, hns i hi, List.getElem?_map, List.getElem?_range hi, Option.map_some, Option.map_some]
              exact congrArg some (Classical.choose_spec (hz i hi)).2.symm
            · rw [List.getElem?_eq_none (by simp [hnl]; omega), List.getElem?_eq_none (by simp; omega)]
          have hm : n ≤ maxLen := by
            have hc := s.ev x
            cases hxe : ev f x with
            | sl sz m g' =>
              rw [hxe] at hsrc hc
              cases hsrc
              obtain ⟨_, _, _, h1, h2⟩ := sl_form hc
              omega
            | row id m =>
              rw [hxe] at hsrc hc
              unfold srcF at hsrc
              dsimp only at hsrc
              split at hsrc
              · rename_i r hr
                injection hsrc with hsrc
                injection hsrc with e1 e2
                injection e2 with e2 e3
                rcases inv_row hr hc with ⟨_, q1, q2, _, q3⟩ | ⟨_, _, q1, _⟩ <;> omega
              · cases hsrc
            | rs id k m =>
              rw [hxe] at hsrc hc
              unfold srcF at hsrc
              dsimp only at hsrc
              split at hsrc
              · rename_i r hr
                injection hsrc with hsrc
                injection hsrc with e1 e2
                injection e2 with e2 e3
                obtain ⟨_, _, q1, q2, q3, _⟩ := inv_rs hr hc
                omega
              · cases hsrc
            | _ => rw [hxe] at hsrc; cases hsrc
          refine ⟨.string (bytesOf n g), fun _ _ _ _ => ?_, .s ?_⟩
          · have hrun : (Conv.bytesToString (.slice A n c)).run E.P w = .ok (.string (bytesOf n g)) w := by
              have hfold : ns.foldl (fun r n => r.push (UInt8.ofNat n.toNat)) ByteArray.empty = bytesOf n g := by
                rw [foldl_push, hbytes]
                have he : ByteArray.empty.data = #[] := rfl
                rw [he, Array.empty_append]
                rfl
              rcases Nat.eq_zero_or_pos n with h0 | h0
              · subst h0
                have hnil : ns = [] := List.eq_nil_of_length_eq_zero hnl
                rw [← hfold, hnil]
                cases A with
                | none => simp [Conv.bytesToString]
                | some ad =>
                  have := run_bytesToString (P := E.P) w ad 0 c [] (by have := run_loadCells_list (P := E.P) w ad [] (by simp); simpa using this)
                  simpa using this
              · obtain ⟨b, o, rfl⟩ := hA h0
                have hl := run_loadCells_list (P := E.P) w ⟨b, o, none⟩ (ns.map (Value.int .u8)) (fun j v hj => by
                  have hlt : j < n := by
                    have := (List.getElem?_eq_some_iff.1 hj).1
                    simpa [hnl] using this
                  rw [List.getElem?_map, hns j hlt] at hj
                  cases hj
                  rw [add_mk, ← (Classical.choose_spec (hz j hlt)).1]
                  have := (hU j 0 hlt (by omega)).1 b o rfl
                  simpa using this)
                rw [List.length_map, hnl] at hl
                rw [run_bytesToString (P := E.P) w ⟨b, o, none⟩ n c ns hl, hfold]
            simp only [execOp, hev]
            rw [Sem.run_bind, run_convert_bytes_string w src dst e A n c hu he hd, hrun]
            rfl
          · show (bytesOf n g).data.size ≤ maxLen
            simp [bytesOf]
            exact hm
        · split at h
          · rename_i hx
            refine ⟨_, fun blk FP a w s => ⟨.string ByteArray.empty, fun _ _ _ _ => ?_, .s (by simp)⟩, h⟩
            simp only [execOp, inv_nils (hx ▸ s.ev x)]
            rw [Sem.run_bind, run_convert_bytes_string w src dst e none 0 0 hu he hd]
            simp [Conv.bytesToString]
          · cases h
    · cases h
  · cases h
theorem srcF_ext {T : Hp} {v : AV} {y : Nat × Nat × (Nat → Nat → AV)} (h : srcF H v = some y) : srcF (H ++ T) v = some y := by
  cases v with
  | sl => exact h
  | row id m =>
    unfold srcF at h ⊢
    dsimp only at h ⊢
    cases hh : H[id]? with
    | none => rw [hh] at h; cases h
    | some r => rw [at_ext' hh]; rw [hh] at h; exact h
  | rs id o m =>
    unfold srcF at h ⊢
    dsimp only at h ⊢
    cases hh : H[id]? with
    | none => rw [hh] at h; cases h
    | some r => rw [at_ext' hh]; rw [hh] at h; exact h
  | _ => cases h
theorem bsK_det {src dst : TypeId} {x : Operand} (T : Hp) (h : bsK E f H src dst x K) : ∃ v, bsK E f (H ++ T) src dst x (fun v' => v' = v) ∧ K v := by
  unfold bsK at h ⊢
  split at h
  · split at h
    · rename_i e hks hkd
      simp only [hks, hkd]
      cases hb : isU8 E e with
      | false => rw [hb] at h; cases h
      | true =>
        rw [hb, cond_true] at h
        simp only [cond_true]
        split at h
        · rename_i n g hsrc
          refine ⟨.s (bytesOf n g), ?_, h.2⟩
          simp only [srcF_ext (T := T) hsrc]
          exact ⟨h.1, trivial⟩
        · split at h
          · rename_i hx
            refine ⟨_, ?_, h⟩
            simp only [hx]
            split
            · rename_i heq; cases heq
            · trivial
          · cases h
    · cases h
  · cases h
def cwK (E : Env) (f : Fr) (H : Hp) (src dst : TypeId) (x : Operand) (K : AV → Prop) : Prop :=
  match ev f x with
  | .sl .. => bsK E f H src dst x K
  | .row .. => bsK E f H src dst x K
  | .rs .. => bsK E f H src dst x K
  | .nils => bsK E f H src dst x K
  | _ => cvK E f src dst x K
theorem cwK_ok {src dst : TypeId} {x : Operand} (h : cwK E f H src dst x K) : ∃ v, RD E.P nt X (.convert src dst x) ty f H v ∧ K v := by
  unfold cwK at h
  split at h
  · exact bsK_ok h
  · exact bsK_ok h
  · exact bsK_ok h
  · exact bsK_ok h
  · exact cvK_ok h
def arK (E : Env) (f : Fr) (H : Hp) (t : TypeId) (kx : Array (Nat × Operand)) (K : AV → Prop) : Prop :=
  match E.T.get t with
  | none => False
  | some ti => (match ti.k, ti.zero with
    | .ar n e, some zs => (match E.T.get e with
      | some te => bif Nat.beq te.sz 1 then (match fillA H ((List.range n).map fun i => (i, 1, false)) (zs.map cv) (kx.toList.map fun p => (p.1, ev f p.2)) with
        | some cs => K (.agg cs)
        | none => False) else False
      | none => False)
    | _, _ => False)
theorem arK_ok {t : Nat} {kx : Array (Nat × Operand)} (h : arK E f H t kx K) : ∃ v, RD E.P nt X (.build t kx) ty f H v ∧ K v := by
  unfold arK at h
  split at h
  · cases h
  rename_i ti hti
  have hT := E.ty hti
  split at h
  · rename_i n e zs hk hzs
    split at h
    · rename_i te hte
      cases hb : Nat.beq te.sz 1 with
      | false => rw [hb] at h; cases h
      | true =>
        rw [hb, cond_true] at h
        have hsz := Nat.eq_of_beq_eq_true hb
        split at h
        · rename_i cs hfill
          refine ⟨_, fun blk FP a w s => ?_, h⟩
          obtain ⟨i, z, hi, hz, hzc⟩ := hT.zero zs hzs
          have hkk := hT.k
          rw [hk] at hkk
          unfold tkOk at hkk
          dsimp only at hkk
          split at hkk
          · rename_i n' e' hu
            rw [Bool.and_eq_true, Bool.and_eq_true] at hkk
            obtain ⟨q1, q2, _⟩ := hkk
            obtain rfl := Nat.eq_of_beq_eq_true q1
            obtain rfl := Nat.eq_of_beq_eq_true q2
            obtain ⟨out, h1, h2, h3⟩ := fillA_run (w := w) (S := X.S FP H w.heap.size) (blk := blk) (H := H) ((List.range n').map fun i => (i, 1, false)) _ (kx.toList.map fun p => a.eval p.2) _ z.cells cs hfill (by simp) (fun j p u hj hu => by
              rw [List.getElem?_map] at hj hu
              cases hk : kx.toList[j]? with
              | none => rw [hk] at hj; cases hj
              | some q =>
                rw [hk] at hj hu
                cases hj
                cases hu
                exact s.ev q.2) (by simp [← hzc]) (fun j c u hj hu => by
              rw [List.getElem?_map] at hj
              have : z.cells.toList[j]? = some u := by simpa using hu
              rw [hzc] at this
              rw [this] at hj
              cases hj
              exact conc_cv u)
            have hzip : (((kx.toList.map fun p => (p.1, ev f p.2)).zip (kx.toList.map fun p => a.eval p.2)).map fun p => (p.1.1, p.2)) = (kx.map fun p => (p.1, a.eval p.2)).toList := by
              rw [List.zip_map', List.map_map, Array.toList_map]
              rfl
            rw [hzip] at h1
            have hfl : ∀ (l : List (Nat × Value)) (c c' : Array Value), Instr.fill ((((List.range n').map fun i => ((i, 1, false) : Nat × Nat × Bool)).map fun x => (x.1, x.2.1)).toArray[·]?) c l = some c' → Instr.fill (fun i => some (i * 1, 1)) c l = some c' := by
              intro l
              induction l with
              | nil => intro c c' h; exact h
              | cons p l ih =>
                intro c c' h
                obtain ⟨i, v⟩ := p
                unfold Instr.fill at h ⊢
                by_cases hin : i < n'
                · have : (((List.range n').map fun i => ((i, 1, false) : Nat × Nat × Bool)).map fun x => (x.1, x.2.1)).toArray[i]? = some (i, 1) := by simp [hin]
                  rw [this] at h
                  simp only [Nat.mul_one] at h ⊢ ih
                  split at h
                  · cases h
                  · rename_i hc
                    rw [if_neg hc]
                    exact ih _ _ h
                · have : (((List.range n').map fun i => ((i, 1, false) : Nat × Nat × Bool)).map fun x => (x.1, x.2.1)).toArray[i]? = none := by simp; omega
                  rw [this] at h
                  cases h
            have h1' := hfl _ _ _ h1
            have hzv : (zeroValue t).run E.P w = .ok z w := by simp [zeroValue, typeInfo, hi, hz]
            have hes := run_size (E.ty hte) w
            rw [hsz] at hes
            refine ⟨.agg out, fun _ _ _ _ => ?_, ?_⟩
            · simp only [execOp]
              have hp : (kx.map fun x => (x.1, a.eval x.2)).toList = (kx.map fun p => (p.1, a.eval p.2)).toList := rfl
              simp only [Instr.build, Sem.run_bind, hzv, Result.andThen_ok, run_underlying hu, hes]
              rw [hp, h1']
              simp
            · have := Conc.agg (w := w) (S := X.S FP H w.heap.size) (blk := blk) (H := H) cs out.toList (by simpa using h2) (fun j c u hj hu => h3 j c u hj (by simpa using hu))
              simpa using this
          · cases hkk
        · cases h
    · cases h
  · cases h
end
end Go.Proofs.Ytdeledeopippfaa
