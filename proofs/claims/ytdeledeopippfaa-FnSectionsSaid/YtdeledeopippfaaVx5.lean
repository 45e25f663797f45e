/- Texts for VSectionsP. -/
import Derived.Orders
import Derived.Test.YtdeledeopippfaaVx4
namespace Go.Proofs.Ytdeledeopippfaa
open Go Go.RowKit
set_option linter.unusedVariables false
set_option linter.unusedSimpArgs false
section
variable {E : Env} {P : Program} {nt : Nat} {X : Ctx} {f : Fr} {H : Hp} {Q : Exit → Fr → Hp → Prop}
def YS (P : Program) (nt : Nat) (X : Ctx) (op : Op) (ty : TypeId) (f : Fr) (H : Hp) (v : AV) : Prop :=
  ∀ blk FP a w, StB nt X f H blk FP a w → ∀ (dst : Option Tmp) (pos : String) (after : Array Edge) (gd : Option (Nat × Bool)) (K : Act → World → Prop) (Q : Exit → Act → World → Prop),
    (∀ u w', Below w.heap.size w w' → Conc w' (X.S FP H w'.heap.size) blk H v u → K (a.put dst u) w') → (⟨dst, op, ty, pos, after, gd⟩ : Oper).wp P a w K Q
theorem ys_rd {op : Op} {ty : TypeId} {v : AV} (h : RD P nt X op ty f H v) : YS P nt X op ty f H v := by
  intro blk FP a w s dst pos after gd K Q hK
  obtain ⟨u, hu, hc⟩ := h blk FP a w s
  unfold Oper.wp
  rw [hu]
  exact hK u w (Below.refl _ _) hc
def dcK (E : Env) (f : Fr) (H : Hp) (fx : Operand) (args : List Operand) (K : AV → Prop) : Prop :=
  match ev f fx with
  | .fn g caps => (match E.F.get g with
    | some _ => frcL ((args.map (ev f) ++ caps).map nrm) fun avs => bif avs.all clo then (∃ r, Ret E.P g avs (fun r' => r' = r) ∧ frc r K)
        else (∃ r, Ret E.P g (avs.map (shr H)) (fun r' => r' = r) ∧ scal r = true ∧ frc r K)
    | none => False)
  | _ => False
theorem ys_call {ty : TypeId} {fx : Operand} {args : List Operand} {tys : Array TypeId} {K : AV → Prop} (h : dcK E f H fx args K) : ∃ v, YS E.P nt X (.call ⟨.value fx, args.toArray, tys⟩) ty f H v ∧ K v := by
  unfold dcK at h
  split at h
  · rename_i g caps hf
    split at h
    · rename_i hF
      rw [frcL_eq] at h
      cases hclo : ((args.map (ev f) ++ caps).map nrm).all clo with
      | true =>
        rw [hclo, cond_true] at h
        obtain ⟨r, hr, hk⟩ := h
        rw [frc_eq] at hk
        refine ⟨r, fun blk FP a w s dst pos after gd K' Q' hK => ?_, hk⟩
        refine clK_run (E := E) (K := fun r' => r' = r) (H := H) (f := f) ?_ s _ tys rfl K' Q' (fun r' u w' e hb hc => by subst e; exact hK u w' hb hc)
        unfold clK
        rw [hf]
        dsimp only
        rw [hF]
        dsimp only
        rw [frcL_eq, hclo, cond_true]
        exact ⟨_, hr, fun r' e => by rw [frc_eq]; exact e⟩
      | false =>
        rw [hclo, cond_false] at h
        obtain ⟨r, hr, hsc, hk⟩ := h
        rw [frc_eq] at hk
        refine ⟨r, fun blk FP a w s dst pos after gd K' Q' hK => ?_, hk⟩
        refine clK_run (E := E) (K := fun r' => r' = r) (H := H) (f := f) ?_ s _ tys rfl K' Q' (fun r' u w' e hb hc => by subst e; exact hK u w' hb hc)
        unfold clK
        rw [hf]
        dsimp only
        rw [hF]
        dsimp only
        rw [frcL_eq, hclo, cond_false]
        exact ⟨_, hr, fun r' e => ⟨by rw [e]; exact hsc, by rw [frc_eq]; exact e⟩⟩
    · cases h
  · cases h
def looks (ops : Array Oper) (o : Oper) : List Nat := o.looksAt ops
def opsL : Op → List Operand
  | .alloc _ | .ready _ | .waits _ => []
  | .move x | .assign x | .box _ x | .load _ x | .nilCheck x | .unOp _ _ x | .convert _ _ x | .sliceToArrayPointer _ x | .makeInterface _ x | .makeChan _ x | .fieldAddr _ x _ | .field _ x _ | .extract x _ => [x]
  | .pick c a b => [c, a, b]
  | .build _ ps | .buildSlice _ _ ps => ps.toList.map (·.2)
  | .store _ a v | .binOp _ _ a v _ | .makeSlice _ a v | .indexAddr _ a v | .index _ a v => [a, v]
  | .call ⟨.value g, args, _⟩ => g :: args.toList
  | .call ⟨.builtin _, args, _⟩ => args.toList
  | .slice _ x l h m => x :: (l.toList ++ (h.toList ++ m.toList))
  | op => op.operands.toList
def tmps : List Operand → List Nat
  | [] => []
  | .tmp t :: r => t :: tmps r
  | _ :: r => tmps r
def looksL (ops : Array Oper) (o : Oper) : List Nat :=
  match o.guard with
  | none => tmps (opsL o.op)
  | some (g, _) => (match (ops[g]?).bind (·.dst) with
    | some t => tmps (opsL o.op) ++ [t]
    | none => tmps (opsL o.op))
theorem opsL_eq (op : Op) : opsL op = op.operands.toList := by
  cases op with
  | call c =>
    obtain ⟨cl, args, tys⟩ := c
    cases cl <;> simp [opsL, Op.operands, Call.operands]
  | build => simp [opsL, Op.operands]
  | buildSlice => simp [opsL, Op.operands]
  | slice t x l h m => cases l <;> cases h <;> cases m <;> simp [opsL, Op.operands]
  | _ => rfl
theorem tmps_eq (g : Operand → Option Nat) (h1 : ∀ t, g (.tmp t) = some t) (h2 : ∀ v, g (.const v) = none) (h3 : ∀ v, g (.global v) = none) (h4 : ∀ v, g (.func v) = none) (l : List Operand) : l.filterMap g = tmps l := by
  induction l with
  | nil => rfl
  | cons x l ih => cases x <;> simp [tmps, ih, h1, h2, h3, h4]
theorem looksL_eq (ops : Array Oper) (o : Oper) : looksL ops o = looks ops o := by
  unfold looksL looks Oper.looksAt
  rw [← opsL_eq, tmps_eq _ (fun _ => rfl) (fun _ => rfl) (fun _ => rfl) (fun _ => rfl)]
  cases o.guard with
  | none => simp
  | some g =>
    obtain ⟨g, pol⟩ := g
    dsimp only
    cases (ops[g]?).bind (·.dst) with
    | none => simp
    | some t => simp
def restr (ts : List Nat) (f : Fr) : Fr := ts.map fun t => (t, lk f t)
def GY (g : Fr) (t : Nat) (pol : Bool) : Prop := lk g t = .b pol ∨ lk g t = .kb pol
def GN (g : Fr) (t : Nat) (pol : Bool) : Prop := lk g t = .b (!pol) ∨ lk g t = .kb (!pol) ∨ lk g t = .tup []
inductive PR (P : Program) (nt : Nat) (X : Ctx) (ops : Array Oper) (H : Hp) : List Oper → Fr → Fr → Prop
  | nil (f : Fr) : PR P nt X ops H [] f f
  | run {d : Nat} {op : Op} {ty : TypeId} {pos : String} {after : Array Edge} {rest : List Oper} {f F : Fr} {v : AV} (hn : Nat.blt d nt = true) (hy : YS P nt X op ty (restr (looks ops ⟨some d, op, ty, pos, after, none⟩) f) H v)
      (h : PR P nt X ops H rest ((d, v) :: f) F) : PR P nt X ops H (⟨some d, op, ty, pos, after, none⟩ :: rest) f F
  | grun {d i t : Nat} {pol : Bool} {op : Op} {ty : TypeId} {pos : String} {after : Array Edge} {rest : List Oper} {f F : Fr} {v : AV} (hn : Nat.blt d nt = true) (hi : (ops[i]?).bind (·.dst) = some t) (hb : GY f t pol)
      (hy : YS P nt X op ty (restr (looks ops ⟨some d, op, ty, pos, after, some (i, pol)⟩) f) H v)
      (h : PR P nt X ops H rest ((d, v) :: f) F) : PR P nt X ops H (⟨some d, op, ty, pos, after, some (i, pol)⟩ :: rest) f F
  | gnot {d i t : Nat} {pol : Bool} {op : Op} {ty : TypeId} {pos : String} {after : Array Edge} {rest : List Oper} {f F : Fr} (hn : Nat.blt d nt = true) (hi : (ops[i]?).bind (·.dst) = some t) (hb : GN f t pol)
      (h : PR P nt X ops H rest ((d, .tup []) :: f) F) : PR P nt X ops H (⟨some d, op, ty, pos, after, some (i, pol)⟩ :: rest) f F
def drawOk (ops : Array Oper) : Bool :=
  (List.range ops.size).all fun i => match ops[i]? with
    | none => true
    | some o => o.dst.isSome && (o.after.all fun e => !Region.binds .any e || Nat.blt e.on i) && (List.range ops.size).all fun j => match ops[j]? with
      | none => true
      | some p => Nat.beq i j || (p.dst != o.dst && (match p.dst with
        | none => true
        | some d => !(o.looksAt ops).contains d || (Nat.blt j i && o.after.any fun e => Region.binds .any e && Nat.beq e.on j)))
theorem drawOk_spec {ops : Array Oper} (h : drawOk ops = true) {i j : Nat} {o p : Oper} (hi : ops[i]? = some o) (hj : ops[j]? = some p) (hne : i ≠ j) :
    p.dst ≠ o.dst ∧ ∀ d, p.dst = some d → d ∈ o.looksAt ops → j < i ∧ ∃ e ∈ o.after, Region.binds .any e = true ∧ e.on = j := by
  unfold drawOk at h
  have hil : i < ops.size := (Array.getElem?_eq_some_iff.1 hi).1
  have hjl : j < ops.size := (Array.getElem?_eq_some_iff.1 hj).1
  have h1 := List.all_eq_true.1 h i (List.mem_range.2 hil)
  rw [hi] at h1
  simp only [Bool.and_eq_true] at h1
  have h2 := List.all_eq_true.1 h1.2 j (List.mem_range.2 hjl)
  have hb : Nat.beq i j = false := by
    cases hb : Nat.beq i j with
    | true => exact absurd (Nat.eq_of_beq_eq_true hb) hne
    | false => rfl
  simp only [hj, hb, Bool.false_or, Bool.and_eq_true] at h2
  refine ⟨by simpa using h2.1, fun d hd hm => ?_⟩
  have h3 := h2.2
  rw [hd] at h3
  simp only [Bool.or_eq_true, Bool.not_eq_true', Bool.and_eq_true] at h3
  rcases h3 with h3 | ⟨h3, h4⟩
  · rw [List.contains_eq_mem] at h3
    simp [hm] at h3
  · obtain ⟨e, he, hb⟩ := Array.any_eq_true'.1 h4
    rw [Bool.and_eq_true] at hb
    exact ⟨Nat.le_of_ble_eq_true h3, e, he, hb.1, Nat.eq_of_beq_eq_true hb.2⟩
theorem drawOk_dst {ops : Array Oper} (h : drawOk ops = true) {i : Nat} {o : Oper} (hi : ops[i]? = some o) : ∃ d, o.dst = some d := by
  unfold drawOk at h
  have hil : i < ops.size := (Array.getElem?_eq_some_iff.1 hi).1
  have h1 := List.all_eq_true.1 h i (List.mem_range.2 hil)
  rw [hi] at h1
  simp only [Bool.and_eq_true] at h1
  exact Option.isSome_iff_exists.1 h1.1.1
theorem drawOk_after {ops : Array Oper} (h : drawOk ops = true) {i : Nat} {o : Oper} (hi : ops[i]? = some o) : ∀ e ∈ o.after, Region.binds .any e = true → e.on < i := by
  unfold drawOk at h
  have hil : i < ops.size := (Array.getElem?_eq_some_iff.1 hi).1
  have h1 := List.all_eq_true.1 h i (List.mem_range.2 hil)
  rw [hi] at h1
  simp only [Bool.and_eq_true] at h1
  intro e he hb
  have h2 := Array.all_eq_true'.1 h1.1.2 e he
  rw [hb] at h2
  simpa using h2
def wrote (ops : Array Oper) (listed : Array Bool) (t : Nat) : Bool := (List.range ops.size).any fun i => listed.getD i false && (match ops[i]? with | some o => o.dst == some t | none => false)
theorem wrote_iff {ops : Array Oper} {listed : Array Bool} {t : Nat} : wrote ops listed t = true ↔ ∃ (i : Nat) (o : Oper), ops[i]? = some o ∧ o.dst = some t ∧ listed.getD i false = true := by
  unfold wrote
  rw [List.any_eq_true]
  constructor
  · rintro ⟨i, hi, h⟩
    rw [Bool.and_eq_true] at h
    obtain ⟨h1, h2⟩ := h
    cases ho : ops[i]? with
    | none => rw [ho] at h2; cases h2
    | some o => rw [ho] at h2; exact ⟨i, o, ho, by simpa using h2, h1⟩
  · rintro ⟨i, o, ho, hd, hl⟩
    refine ⟨i, List.mem_range.2 (Array.getElem?_eq_some_iff.1 ho).1, ?_⟩
    simp [hl, ho, hd]
def Half (ops : Array Oper) (f F : Fr) (listed : Array Bool) (t : Nat) : AV := if wrote ops listed t = true then lk F t else lk f t
def Case (P : Program) (nt : Nat) (X : Ctx) (ops : Array Oper) (H : Hp) (o : Oper) (g : Fr) (v : AV) : Prop :=
  (o.guard = none ∧ YS P nt X o.op o.type (restr (looks ops o) g) H v) ∨
  (∃ i t pol, o.guard = some (i, pol) ∧ (ops[i]?).bind (·.dst) = some t ∧ ((GY g t pol ∧ YS P nt X o.op o.type (restr (looks ops o) g) H v) ∨ (GN g t pol ∧ v = .tup [])))
theorem PR.keep {ops : Array Oper} {todo : List Oper} {f F : Fr} (h : PR P nt X ops H todo f F) : ∀ t, (∀ p ∈ todo, p.dst ≠ some t) → lk F t = lk f t := by
  induction h with
  | nil f => intro t _; rfl
  | run hn hy h ih => intro t ht; rw [ih t fun p hp => ht p (by simp [hp]), lk_cons, if_neg (fun e => ht _ List.mem_cons_self (congrArg some e))]
  | grun hn hi hb hy h ih => intro t ht; rw [ih t fun p hp => ht p (by simp [hp]), lk_cons, if_neg (fun e => ht _ List.mem_cons_self (congrArg some e))]
  | gnot hn hi hb h ih => intro t ht; rw [ih t fun p hp => ht p (by simp [hp]), lk_cons, if_neg (fun e => ht _ List.mem_cons_self (congrArg some e))]
theorem PR.at_ {ops : Array Oper} {todo : List Oper} {f F : Fr} (h : PR P nt X ops H todo f F) : ∀ (k : Nat) (o : Oper) (d : Nat), todo[k]? = some o → o.dst = some d →
    (∀ j p, j ≠ k → todo[j]? = some p → p.dst ≠ some d) →
    ∃ g : Fr, (∀ t, (∀ j p, j < k → todo[j]? = some p → p.dst ≠ some t) → lk g t = lk f t) ∧ (∀ j p t, j < k → todo[j]? = some p → p.dst = some t → (∀ j' p', j' ≠ j → todo[j']? = some p' → p'.dst ≠ some t) → lk g t = lk F t) ∧ Nat.blt d nt = true ∧ Case P nt X ops H o g (lk F d) := by
  have fin : ∀ {d : Nat} {v : AV} {o : Oper} {rest : List Oper} {f F : Fr}, PR P nt X ops H rest ((d, v) :: f) F → (∀ j p, j ≠ 0 → (o :: rest)[j]? = some p → p.dst ≠ some d) → lk F d = v := by
    intro d v o rest f F h hu
    rw [h.keep d fun p hp => by
      obtain ⟨j, hj⟩ := List.getElem?_of_mem hp
      exact hu (j + 1) p (by omega) (by simpa using hj), lk_cons, if_pos rfl]
  have step : ∀ {d0 : Nat} {v0 : AV} {o0 : Oper} {rest : List Oper} {f F : Fr}, o0.dst = some d0 → PR P nt X ops H rest ((d0, v0) :: f) F →
      (∀ (k : Nat) (o : Oper) (d : Nat), rest[k]? = some o → o.dst = some d → (∀ j p, j ≠ k → rest[j]? = some p → p.dst ≠ some d) →
        ∃ g : Fr, (∀ t, (∀ j p, j < k → rest[j]? = some p → p.dst ≠ some t) → lk g t = lk ((d0, v0) :: f) t) ∧ (∀ j p t, j < k → rest[j]? = some p → p.dst = some t → (∀ j' p', j' ≠ j → rest[j']? = some p' → p'.dst ≠ some t) → lk g t = lk F t) ∧ Nat.blt d nt = true ∧ Case P nt X ops H o g (lk F d)) →
      ∀ (k : Nat) (o : Oper) (d : Nat), rest[k]? = some o → o.dst = some d → (∀ j p, j ≠ k + 1 → (o0 :: rest)[j]? = some p → p.dst ≠ some d) →
        ∃ g : Fr, (∀ t, (∀ j p, j < k + 1 → (o0 :: rest)[j]? = some p → p.dst ≠ some t) → lk g t = lk f t) ∧ (∀ j p t, j < k + 1 → (o0 :: rest)[j]? = some p → p.dst = some t → (∀ j' p', j' ≠ j → (o0 :: rest)[j']? = some p' → p'.dst ≠ some t) → lk g t = lk F t) ∧ Nat.blt d nt = true ∧ Case P nt X ops H o g (lk F d) := by
    intro d0 v0 o0 rest f F hd0 hrest ih k o d hk hd hu
    obtain ⟨g, h1, h2, h3, h4⟩ := ih k o d hk hd fun j p hj hp => hu (j + 1) p (by omega) (by simpa using hp)
    refine ⟨g, fun t ht => ?_, fun j p t hj hp hpt hut => ?_, h3, h4⟩
    · rw [h1 t fun j p hj hp => ht (j + 1) p (by omega) (by simpa using hp), lk_cons, if_neg (fun e => ht 0 o0 (by omega) rfl (by rw [hd0, e]))]
    · cases j with
      | zero =>
        have hpo : p = o0 := by simpa using hp.symm
        rw [hpo] at hpt
        have e : d0 = t := Option.some.inj (hd0.symm.trans hpt)
        subst e
        rw [h1 d0 fun j p' hj hp' => hut (j + 1) p' (by omega) (by simpa using hp')]
        rw [lk_cons, if_pos rfl]
        exact (fin (o := o0) hrest (fun j p' hj hp' => hut j p' hj hp')).symm
      | succ j => exact h2 j p t (by omega) (by simpa using hp) hpt fun j' p' hj' hp' => hut (j' + 1) p' (by omega) (by simpa using hp')
  induction h with
  | nil f => intro k o d hk; simp at hk
  | @run d0 op ty pos after rest f F v hn hy h ih =>
    intro k o d hk hd hu
    cases k with
    | zero =>
      obtain rfl : _ = o := by simpa using hk
      cases hd
      refine ⟨f, fun t _ => rfl, fun j p t hj => by omega, hn, .inl ⟨rfl, ?_⟩⟩
      rw [fin (o := ⟨some d0, op, ty, pos, after, none⟩) h hu]
      exact hy
    | succ k => exact step rfl h ih k o d (by simpa using hk) hd hu
  | @grun d0 i t pol op ty pos after rest f F v hn hi hb hy h ih =>
    intro k o d hk hd hu
    cases k with
    | zero =>
      obtain rfl : _ = o := by simpa using hk
      cases hd
      refine ⟨f, fun t _ => rfl, fun j p t hj => by omega, hn, .inr ⟨i, t, pol, rfl, hi, .inl ⟨hb, ?_⟩⟩⟩
      rw [fin (o := ⟨some d0, op, ty, pos, after, some (i, pol)⟩) h hu]
      exact hy
    | succ k => exact step rfl h ih k o d (by simpa using hk) hd hu
  | @gnot d0 i t pol op ty pos after rest f F hn hi hb h ih =>
    intro k o d hk hd hu
    cases k with
    | zero =>
      obtain rfl : _ = o := by simpa using hk
      cases hd
      refine ⟨f, fun t _ => rfl, fun j p t hj => by omega, hn, .inr ⟨i, t, pol, rfl, hi, .inr ⟨hb, ?_⟩⟩⟩
      exact fin (o := ⟨some d0, op, ty, pos, after, some (i, pol)⟩) h hu
    | succ k => exact step rfl h ih k o d (by simpa using hk) hd hu
theorem StB.congr {g g' : Fr} {blk : Nat → BC} {FP : Nat → List Nat} {a : Act} {w : World} (s : StB nt X g H blk FP a w) (h : ∀ t, lk g' t = lk g t) : StB nt X g' H blk FP a w :=
  s.refr fun t ht => by rw [h]; exact ht
theorem lk_restr (ts : List Nat) (g : Fr) (t : Nat) : lk (restr ts g) t = if t ∈ ts then lk g t else .any := by
  induction ts with
  | nil => rfl
  | cons x ts ih =>
    show lk ((x, lk g x) :: restr ts g) t = _
    rw [lk_cons, ih]
    by_cases h : x = t
    · subst h; simp
    · rw [if_neg h]
      by_cases h2 : t ∈ ts
      · simp [h2]
      · rw [if_neg h2, if_neg (by simp; exact ⟨fun e => h e.symm, h2⟩)]
theorem StB.restr {g : Fr} {blk : Nat → BC} {FP : Nat → List Nat} {a : Act} {w : World} (s : StB nt X g H blk FP a w) (ts : List Nat) : StB nt X (Go.Proofs.Ytdeledeopippfaa.restr ts g) H blk FP a w :=
  s.refr fun t ht => by
    rw [lk_restr]
    split
    · exact ht
    · exact .any _
theorem StB.draw {g : Fr} {blk : Nat → BC} {FP : Nat → List Nat} {a : Act} {w : World} (s : StB nt X g H blk FP a w) : StB nt X g H blk FP a { w with drawn := w.drawn + 1 } :=
  ⟨s.defers, s.size, ⟨s.keeps.os, s.keeps.tape, s.keeps.output, s.keeps.size, s.keeps.block⟩,
    fun id r hr => ⟨(s.rows id r hr).1.mono (fun b hb => ⟨hb, rfl⟩) (HExt.refl _ _) (fun _ _ => rfl), (s.rows id r hr).2⟩, s.apart, fun t => (s.fr t).mono (fun b hb => ⟨hb, rfl⟩) (HExt.refl _ _), s.ext⟩
def left (n : Nat) (listed : Array Bool) : Nat := (List.range n).countP fun i => !listed.getD i false
theorem countP_lt {p q : Nat → Bool} {i : Nat} : ∀ l : List Nat, i ∈ l → (∀ x, q x = true → p x = true) → p i = true → q i = false → l.countP q < l.countP p
  | [], h, _, _, _ => by simp at h
  | x :: l, h, hpq, hp, hq => by
    have hle : ∀ l : List Nat, l.countP q ≤ l.countP p := fun l => List.countP_mono_left fun x _ => hpq x
    rw [List.countP_cons, List.countP_cons]
    rcases List.mem_cons.1 h with e | h
    · subst e
      have := hle l
      simp only [hp, hq]
      simp
      omega
    · have := countP_lt l h hpq hp hq
      cases hx : q x with
      | true => rw [if_pos rfl, if_pos (hpq x hx)]; omega
      | false => simp only [Bool.false_eq_true, if_false]; split <;> omega
theorem pw_draw {id : Nat} {l : List Oper} {F : Fr} (hm : P.follows .mixedOrders = true) (hok : drawOk l.toArray = true) (h : PR P nt X l.toArray H l f F) (hq : Q .normal F H) :
    PW P nt X (.region id l.toArray true) f H Q := by
  rintro a w ⟨blk, FP, s⟩
  refine wp_region_any hm ?_
  have hget : ∀ i : Nat, l.toArray[i]? = l[i]? := fun i => List.getElem?_toArray
  have uniq : ∀ {i j : Nat} {o p : Oper} {d : Nat}, l[i]? = some o → l[j]? = some p → o.dst = some d → p.dst = some d → i = j := by
    intro i j o p d hi hj ho hp
    by_cases e : i = j
    · exact e
    · exact absurd (hp.trans ho.symm) (drawOk_spec hok ((hget i).trans hi) ((hget j).trans hj) e).1
  have key : ∀ (fuel : Nat) (listed : Array Bool) (a : Act) (w : World) (g : Fr), listed.size = l.toArray.size → left l.toArray.size listed ≤ fuel → (∀ t, lk g t = Half l.toArray f F listed t) → StB nt X g H blk FP a w →
      wpAny P .any l.toArray (Lift nt X Q) fuel listed a w := by
    have done : ∀ (listed : Array Bool) (a : Act) (w : World) (g : Fr), listed.size = l.toArray.size → (∀ t, lk g t = Half l.toArray f F listed t) → StB nt X g H blk FP a w → Region.ready .any l.toArray listed = [] → Lift nt X Q .normal a w := by
      intro listed a w g hls hg s hr
      have all : ∀ (n i : Nat), i < n → i < l.toArray.size → listed.getD i false = true := by
        intro n
        induction n with
        | zero => intro i hi; omega
        | succ n ih =>
          intro i hi hil
          rcases Nat.lt_or_ge i n with hlt | hge
          · exact ih i hlt hil
          · have hin : i = n := by omega
            subst hin
            cases hu : listed.getD i false with
            | true => rfl
            | false =>
              exfalso
              have hmem : i ∈ Region.ready .any l.toArray listed := by
                unfold Region.ready
                rw [List.mem_filter]
                refine ⟨List.mem_range.2 hil, ?_⟩
                have hu' : listed.getD i true = false := by
                  have : i < listed.size := by omega
                  simp [this] at hu ⊢
                  exact hu
                rw [hu', Array.getElem?_eq_getElem hil]
                simp only [Bool.not_false, Bool.true_and, Option.map_some, Option.getD_some]
                refine Array.all_eq_true'.2 fun e he => ?_
                cases hb : Region.binds .any e with
                | false => rfl
                | true =>
                  have hlt := drawOk_after hok (Array.getElem?_eq_getElem hil) e he hb
                  rw [ih e.on hlt (by omega)]
                  rfl
              rw [hr] at hmem
              cases hmem
      refine ⟨F, H, hq, blk, FP, s.congr fun t => ?_⟩
      rw [hg]
      unfold Half
      split
      · rfl
      · rename_i hno
        refine h.keep t fun p hp hpt => hno (wrote_iff.2 ?_)
        obtain ⟨j, hj⟩ := List.getElem?_of_mem hp
        have hjl : j < l.toArray.size := by simpa using (List.getElem?_eq_some_iff.1 hj).1
        exact ⟨j, p, (hget j).trans hj, hpt, all (j + 1) j (by omega) hjl⟩
    intro fuel
    induction fuel with
    | zero =>
      intro listed a w g hls hleft hg s
      have hr : Region.ready .any l.toArray listed = [] := by
        rw [List.eq_nil_iff_forall_not_mem]
        intro i hi
        obtain ⟨hu, o, ho, _⟩ := mem_ready.1 hi
        have hil : i < l.toArray.size := (Array.getElem?_eq_some_iff.1 ho).1
        have : 0 < left l.toArray.size listed := by
          unfold left
          refine List.countP_pos_iff.2 ⟨i, List.mem_range.2 hil, ?_⟩
          have : i < listed.size := by omega
          simp [this] at hu ⊢
          exact hu
        omega
      exact ⟨hr, done listed a w g hls hg s hr⟩
    | succ fuel ih =>
      intro listed a w g hls hleft hg s
      refine ⟨fun hr => done listed a w g hls hg s hr, fun i hi => ?_⟩
      obtain ⟨hu, o, ho, hall⟩ := mem_ready.1 hi
      have hil : i < l.toArray.size := (Array.getElem?_eq_some_iff.1 ho).1
      have hil' : i < listed.size := by omega
      have hu' : listed.getD i false = false := by
        simp [hil'] at hu ⊢
        exact hu
      obtain ⟨d, hd⟩ := drawOk_dst hok ho
      have hol : l[i]? = some o := (hget i).symm.trans ho
      obtain ⟨gt, h1, h2, hnt, hcase⟩ := h.at_ i o d hol hd (fun j p hne hj hpd => hne (uniq hj hol hpd hd))
      have hlook : ∀ t ∈ looks l.toArray o, lk g t = lk gt t := by
        intro t ht
        rw [hg]
        unfold Half
        by_cases hw : ∃ (j : Nat) (p : Oper), l[j]? = some p ∧ p.dst = some t
        · obtain ⟨j, p, hj, hpt⟩ := hw
          by_cases hji : j = i
          ·
            subst hji
            obtain rfl : p = o := Option.some.inj (hj.symm.trans hol)
            rw [if_neg, h1 t fun j' p' hj' hp' hpt' => by have := uniq hp' hj hpt' hpt; omega]
            intro hw
            obtain ⟨j', p', hj', hpt', hl'⟩ := wrote_iff.1 hw
            have := uniq ((hget j').symm.trans hj') hj hpt' hpt
            subst this
            rw [hu'] at hl'
            cases hl'
          · obtain ⟨hlt, e, he, hb, hon⟩ := (drawOk_spec hok ho ((hget j).trans hj) (fun e => hji e.symm)).2 t hpt ht
            have hlj : listed.getD j false = true := by rw [← hon]; exact hall e he hb
            rw [if_pos (wrote_iff.2 ⟨j, p, (hget j).trans hj, hpt, hlj⟩)]
            exact (h2 j p t hlt hj hpt fun j' p' hne hj' hpt' => hne (uniq hj' hj hpt' hpt)).symm
        · rw [if_neg (fun h => by obtain ⟨j, p, hj, hpt, _⟩ := wrote_iff.1 h; exact hw ⟨j, p, (hget j).symm.trans hj, hpt⟩)]
          exact (h1 t fun j p _ hj hpt => hw ⟨j, p, hj, hpt⟩).symm
      have hrestr : StB nt X (restr (looks l.toArray o) gt) H blk FP a w := by
        have : ∀ t, lk (restr (looks l.toArray o) gt) t = lk (restr (looks l.toArray o) g) t := by
          intro t
          rw [lk_restr, lk_restr]
          split
          · rename_i hm; exact (hlook t hm).symm
          · rfl
        exact (s.restr (looks l.toArray o)).congr this
      have hhalf : ∀ t, lk ((d, lk F d) :: g) t = Half l.toArray f F (listed.setIfInBounds i true) t := by
        intro t
        rw [lk_cons, hg]
        unfold Half
        by_cases hdt : d = t
        · subst hdt
          rw [if_pos rfl, if_pos (wrote_iff.2 ⟨i, o, ho, hd, by simp [hil']⟩)]
        · rw [if_neg hdt]
          congr 1
          rw [eq_iff_iff, wrote_iff, wrote_iff]
          constructor
          · rintro ⟨j, p, hj, hpt, hl⟩
            exact ⟨j, p, hj, hpt, getD_set_true hl⟩
          · rintro ⟨j, p, hj, hpt, hl⟩
            refine ⟨j, p, hj, hpt, ?_⟩
            by_cases hij : i = j
            · subst hij
              obtain rfl : p = o := Option.some.inj (hj.symm.trans ho)
              rw [hd] at hpt
              exact absurd (Option.some.inj hpt) hdt
            · rw [getD_set_ne false hij] at hl
              exact hl
      have hleft' : left l.toArray.size (listed.setIfInBounds i true) ≤ fuel := by
        have : left l.toArray.size (listed.setIfInBounds i true) < left l.toArray.size listed := by
          unfold left
          refine countP_lt (i := i) _ (List.mem_range.2 hil) (fun x hx => ?_) (by simpa using hu') (by simp [hil'])
          by_cases hix : i = x
          · subst hix; simpa using hu'
          · rw [getD_set_ne false hix] at hx; exact hx
        omega
      have hsz' : (listed.setIfInBounds i true).size = l.toArray.size := by simpa using hls
      have run : YS P nt X o.op o.type (restr (looks l.toArray o) gt) H (lk F d) → o.wp P a w (wpAny P .any l.toArray (Lift nt X Q) fuel (listed.setIfInBounds i true)) (Lift nt X Q) := by
        intro hy
        refine hy blk FP a w hrestr o.dst o.pos o.after o.guard _ _ fun u w' hb hc => ?_
        rw [hd]
        exact ih _ _ _ _ hsz' hleft' hhalf ((s.called hb).1.put (Nat.le_of_ble_eq_true hnt) hc)
      have skip : lk F d = .tup [] → wpAny P .any l.toArray (Lift nt X Q) fuel (listed.setIfInBounds i true) (a.put o.dst undef) w := by
        intro hany
        rw [hd]
        exact ih _ _ _ _ hsz' hleft' hhalf (s.put (Nat.le_of_ble_eq_true hnt) (by rw [hany]; exact .tup [] [] rfl (by simp)))
      unfold wpOp
      rw [ho]
      dsimp only
      rcases hcase with ⟨hgd, hy⟩ | ⟨i', t, pol, hgd, hi', hrest⟩
      · rw [if_pos (by simp [Region.wanted, hgd])]
        exact .inl (run hy)
      · have hlt : t ∈ looks l.toArray o := by
          unfold looks Oper.looksAt
          rw [hgd]
          refine List.mem_append_right _ ?_
          show t ∈ ((l.toArray[i']?).bind (·.dst)).toList
          rw [hi']
          simp
        have hbg := hlook t hlt
        have yv : ∀ u, a.tmps.getD t undef = u → u ≠ undef → ∀ b, u = .bool b → yielded l.toArray a.tmps i' = some b := by
          intro u hu hne b hub
          subst hub
          unfold yielded
          rw [hi']
          by_cases ht : t < a.tmps.size
          · have : a.tmps[t]? = some (.bool b) := by
              rw [Array.getElem?_eq_getElem ht]
              simpa [ht] using hu
            simp [this]
          · simp [ht] at hu
            exact absurd hu.symm hne
        rcases hrest with ⟨hp, hy⟩ | ⟨hp, hany⟩
        · have hv : a.tmps.getD t undef = .bool pol := by
            rcases hp with h | h
            · exact inv_b (hbg.trans h ▸ s.fr t)
            · exact inv_kb (hbg.trans h ▸ s.fr t)
          have hyv := yv _ hv (by simp [undef]) pol rfl
          rw [if_pos (by simp [Region.wanted, hgd, hyv])]
          exact .inl (run hy)
        · have hyv : yielded l.toArray a.tmps i' ≠ some pol := by
            rcases hp with h | h | h
            · rw [yv _ (inv_b (hbg.trans h ▸ s.fr t)) (by simp [undef]) (!pol) rfl]; simp
            · rw [yv _ (inv_kb (hbg.trans h ▸ s.fr t)) (by simp [undef]) (!pol) rfl]; simp
            · have hv : a.tmps.getD t undef = .tuple #[] := by
                have := hbg.trans h ▸ s.fr t
                obtain ⟨us, hu, hl, _⟩ := inv_tup this
                cases us with
                | nil => exact hu
                | cons => cases hl
              unfold yielded
              rw [hi']
              by_cases ht : t < a.tmps.size
              · have : a.tmps[t]? = some (.tuple #[]) := by
                  rw [Array.getElem?_eq_getElem ht]
                  simpa [ht] using hv
                simp [this]
              · simp [ht]
          rw [if_neg (by simpa [Region.wanted, hgd] using hyv)]
          exact skip hany
  refine key l.toArray.size (Array.replicate l.toArray.size false) a _ f (by simp) ?_ (fun t => ?_) ?_
  · unfold left
    exact Nat.le_trans List.countP_le_length (by simp)
  · unfold Half
    rw [if_neg]
    intro hw
    obtain ⟨j, p, _, _, hl⟩ := wrote_iff.1 hw
    have : (Array.replicate l.toArray.size false).getD j false = false := by
      generalize l.toArray.size = m
      rcases Nat.lt_or_ge j m with hj | hj <;> simp [hj]
    rw [this] at hl
    cases hl
  · exact s.draw
def kget : List (Nat × Bool) → Nat → Option Bool
  | [], _ => none
  | (s, v) :: r, t => bif Nat.beq s t then some v else kget r t
def kdel : List (Nat × Bool) → Nat → List (Nat × Bool)
  | [], _ => []
  | (s, v) :: r, t => bif Nat.beq s t then kdel r t else (s, v) :: kdel r t
def kfr (kn : List (Nat × Bool)) : Fr → Fr
  | [] => []
  | (t, v) :: r => (t, match v with | .b b => (match kget kn t with | some k => .kb k | none => .b b) | v => v) :: kfr kn r
def two (b pol : Bool) (p q : Prop) : Prop :=
  match pol with
  | true => (b = true → p) ∧ (¬ b = true → q)
  | false => (¬ b = true → p) ∧ (b = true → q)
theorem two_1 {b pol : Bool} {p q : Prop} (h : two b pol p q) (e : b = pol) : p := by
  cases pol
  · exact h.1 (by simp [e])
  · exact h.1 e
theorem two_2 {b pol : Bool} {p q : Prop} (h : two b pol p q) (e : b = !pol) : q := by
  cases pol
  · exact h.2 (by simpa using e)
  · exact h.2 (by simp at e; simp [e])
def yoK (E : Env) (nt : Nat) (ops : Array Oper) (o : Oper) (kn : List (Nat × Bool)) (f : Fr) (H : Hp) (rd : Fr → Op → (AV → Prop) → Prop) (K : Fr → Prop) : Prop :=
  match o.dst with
  | some d => bif Nat.blt d nt then
      (match o.op with
      | .call ⟨.value fx, args, _⟩ => dcK E (kfr kn (restr (looksL ops o) f)) H fx args.toList fun v => K ((d, v) :: f)
      | op => rd (kfr kn (restr (looksL ops o) f)) op fun v => frc v fun v => K ((d, v) :: f)) else False
  | none => False
def drK (E : Env) (nt : Nat) (ops : Array Oper) (H : Hp) (rd : Fr → Op → (AV → Prop) → Prop) : List Oper → List (Nat × Bool) → Fr → (Fr → Prop) → Prop
  | [], _, f, K => K f
  | o :: rest, kn, f, K =>
    let kn' := match o.dst with | some d => kdel kn d | none => kn
    match o.guard with
    | none => yoK E nt ops o kn f H rd fun f => drK E nt ops H rd rest kn' f K
    | some (i, pol) => (match (ops[i]?).bind (·.dst), o.dst with
      | some t, some d => (match lk f t with
        | .kb b => bif b == pol then yoK E nt ops o kn f H rd fun f => drK E nt ops H rd rest kn' f K else bif Nat.blt d nt then drK E nt ops H rd rest kn' ((d, .tup []) :: f) K else False
        | .b b => (match kget kn t with
          | some v => bif v == pol then yoK E nt ops o kn f H rd fun f => drK E nt ops H rd rest kn' f K else bif Nat.blt d nt then drK E nt ops H rd rest kn' ((d, .tup []) :: f) K else False
          | none => two b pol (yoK E nt ops o ((t, pol) :: kn) f H rd fun f => drK E nt ops H rd rest (kdel ((t, pol) :: kn) d) f K)
              (bif Nat.blt d nt then drK E nt ops H rd rest (kdel ((t, !pol) :: kn) d) ((d, .tup []) :: f) K else False))
        | .tup [] => bif Nat.blt d nt then drK E nt ops H rd rest kn' ((d, .tup []) :: f) K else False
        | _ => False)
      | _, _ => False)
def KnOk (kn : List (Nat × Bool)) (f : Fr) : Prop := ∀ t v, kget kn t = some v → lk f t = .b v
theorem kget_kdel (kn : List (Nat × Bool)) (d t : Nat) : kget (kdel kn d) t = if t = d then none else kget kn t := by
  induction kn with
  | nil => simp [kdel, kget]
  | cons p kn ih =>
    obtain ⟨s, v⟩ := p
    unfold kdel
    cases hb : Nat.beq s d with
    | true =>
      have := Nat.eq_of_beq_eq_true hb
      subst this
      rw [cond_true, ih]
      by_cases e : t = s
      · rw [if_pos e, if_pos e]
      · rw [if_neg e, if_neg e]
        show _ = (bif Nat.beq s t then some v else kget kn t)
        have : Nat.beq s t = false := by
          cases h : Nat.beq s t with
          | false => rfl
          | true => exact absurd (Nat.eq_of_beq_eq_true h).symm e
        rw [this]; rfl
    | false =>
      rw [cond_false]
      show (bif Nat.beq s t then some v else kget (kdel kn d) t) = if t = d then none else (bif Nat.beq s t then some v else kget kn t)
      rw [ih]
      cases hst : Nat.beq s t with
      | true =>
        have := Nat.eq_of_beq_eq_true hst
        subst this
        have hne : s ≠ d := fun e => by subst e; rw [Nat.beq_refl] at hb; cases hb
        simp [hne]
      | false => rfl
theorem KnOk.del {kn : List (Nat × Bool)} {f : Fr} (h : KnOk kn f) (d : Nat) (v : AV) : KnOk (kdel kn d) ((d, v) :: f) := by
  intro t b ht
  rw [kget_kdel] at ht
  split at ht
  · cases ht
  · rename_i hne
    rw [lk_cons, if_neg (fun e => hne e.symm)]
    exact h t b ht
theorem KnOk.cons {kn : List (Nat × Bool)} {f : Fr} {t : Nat} {b : Bool} (h : KnOk kn f) (hb : lk f t = .b b) : KnOk ((t, b) :: kn) f := by
  intro s v hs
  change (bif Nat.beq t s then some b else kget kn s) = some v at hs
  cases hst : Nat.beq t s with
  | true =>
    rw [hst] at hs
    cases hs
    rw [← Nat.eq_of_beq_eq_true hst]
    exact hb
  | false => rw [hst] at hs; exact h s v hs
theorem kfr_st {kn : List (Nat × Bool)} {g f : Fr} (hkn : KnOk kn f) {blk : Nat → BC} {FP : Nat → List Nat} {a : Act} {w : World} (ts : List Nat) (s : StB nt X (restr ts f) H blk FP a w) : StB nt X (kfr kn (restr ts f)) H blk FP a w := by
  refine s.refr fun t ht => ?_
  have : ∀ ts : List Nat, lk (kfr kn (restr ts f)) t = lk (restr ts f) t ∨ ∃ v, lk (restr ts f) t = .b v ∧ lk (kfr kn (restr ts f)) t = .kb v := by
    intro ts
    induction ts with
    | nil => exact .inl rfl
    | cons x ts ih =>
      show lk ((x, match lk f x with | .b b => (match kget kn x with | some k => .kb k | none => .b b) | v => v) :: kfr kn (restr ts f)) t = lk ((x, lk f x) :: restr ts f) t ∨
        ∃ v, lk ((x, lk f x) :: restr ts f) t = .b v ∧ lk ((x, match lk f x with | .b b => (match kget kn x with | some k => .kb k | none => .b b) | v => v) :: kfr kn (restr ts f)) t = .kb v
      rw [lk_cons, lk_cons]
      by_cases e : x = t
      · rw [if_pos e, if_pos e]
        split
        · rename_i b hb
          split
          · rename_i k hk
            have := hkn x k hk
            rw [hb] at this
            cases this
            exact .inr ⟨b, hb, rfl⟩
          · exact .inl hb.symm
        · exact .inl rfl
      · rw [if_neg e, if_neg e]
        exact ih
  rcases this ts with h | ⟨v, h1, h2⟩
  · rw [h]; exact ht
  · rw [h2]
    rw [h1] at ht
    rw [inv_b ht]
    exact .kb v
theorem yoK_ok {ops : Array Oper} {o : Oper} {kn : List (Nat × Bool)} {rd : Fr → Op → (AV → Prop) → Prop} (hrd : ∀ (g : Fr) (op : Op) (ty : TypeId) (K : AV → Prop), rd g op K → ∃ v, RD E.P nt X op ty g H v ∧ K v) {K : Fr → Prop} (hkn : KnOk kn f)
    (h : yoK E nt ops o kn f H rd K) : ∃ d v, o.dst = some d ∧ Nat.blt d nt = true ∧ YS E.P nt X o.op o.type (restr (looks ops o) f) H v ∧ K ((d, v) :: f) := by
  obtain ⟨d?, op, ty, pos, after, gd⟩ := o
  unfold yoK at h
  cases d? with
  | none => cases h
  | some d =>
    dsimp only at h
    cases hn : Nat.blt d nt with
    | false => rw [hn] at h; cases h
    | true =>
      rw [hn, cond_true, looksL_eq] at h
      split at h
      · rename_i fx args tys
        obtain ⟨v, hy, hk⟩ := ys_call (tys := tys) (ty := ty) (nt := nt) (X := X) h
        refine ⟨d, v, rfl, hn, fun blk FP a w s => ?_, hk⟩
        have := hy blk FP a w (kfr_st (g := f) hkn _ s)
        simpa using this
      · obtain ⟨v, hr, hk⟩ := hrd _ _ ty _ h
        rw [frc_eq] at hk
        refine ⟨d, v, rfl, hn, fun blk FP a w s => ys_rd hr blk FP a w (kfr_st (g := f) hkn _ s), hk⟩
theorem drK_ok {ops : Array Oper} {rd : Fr → Op → (AV → Prop) → Prop} (hrd : ∀ (g : Fr) (op : Op) (ty : TypeId) (K : AV → Prop), rd g op K → ∃ v, RD E.P nt X op ty g H v ∧ K v) : ∀ (l : List Oper) (kn : List (Nat × Bool)) (f : Fr) (K : Fr → Prop), KnOk kn f →
    drK E nt ops H rd l kn f K → ∃ F, PR E.P nt X ops H l f F ∧ K F
  | [], kn, f, K, hkn, h => ⟨f, .nil f, h⟩
  | o :: rest, kn, f, K, hkn, h => by
    have ih : ∀ kn f, KnOk kn f → drK E nt ops H rd rest kn f K → ∃ F, PR E.P nt X ops H rest f F ∧ K F := fun kn f hkn h => drK_ok hrd rest kn f K hkn h
    have run : ∀ kn, KnOk kn f → (yoK E nt ops o kn f H rd fun f => drK E nt ops H rd rest (match o.dst with | some d => kdel kn d | none => kn) f K) → (o.guard = none ∨ ∃ i t pol, o.guard = some (i, pol) ∧ (ops[i]?).bind (·.dst) = some t ∧ GY f t pol) → ∃ F, PR E.P nt X ops H (o :: rest) f F ∧ K F := by
      intro kn hkn h hg
      obtain ⟨d, v, hd, hn, hy, hk⟩ := yoK_ok hrd hkn h
      obtain ⟨d?, op, ty, pos, after, gd⟩ := o
      cases hd
      obtain ⟨F, hF, hKF⟩ := ih _ _ (hkn.del d v) hk
      rcases hg with hg | ⟨i, t, pol, hg, hi, hb⟩
      · cases hg
        exact ⟨F, .run hn hy hF, hKF⟩
      · cases hg
        exact ⟨F, .grun hn hi hb hy hF, hKF⟩
    have skip : ∀ kn d, o.dst = some d → KnOk kn f → (bif Nat.blt d nt then drK E nt ops H rd rest (kdel kn d) ((d, .tup []) :: f) K else False) → (∃ i t pol, o.guard = some (i, pol) ∧ (ops[i]?).bind (·.dst) = some t ∧ GN f t pol) → ∃ F, PR E.P nt X ops H (o :: rest) f F ∧ K F := by
      intro kn d hd hkn h ⟨i, t, pol, hg, hi, hb⟩
      cases hn : Nat.blt d nt with
      | false => rw [hn] at h; cases h
      | true =>
        rw [hn, cond_true] at h
        obtain ⟨F, hF, hKF⟩ := ih _ _ (hkn.del d _) h
        obtain ⟨d?, op, ty, pos, after, gd⟩ := o
        cases hd
        cases hg
        exact ⟨F, .gnot hn hi hb hF, hKF⟩
    have bne : ∀ {b pol : Bool}, (b == pol) = false → b = !pol := by intro b pol; cases b <;> cases pol <;> simp
    unfold drK at h
    dsimp only at h
    split at h
    · rename_i hg
      exact run kn hkn h (.inl hg)
    · rename_i i pol hg
      split at h
      · rename_i t d hi hd
        have hk' : (match o.dst with | some d => kdel kn d | none => kn) = kdel kn d := by rw [hd]
        split at h
        · rename_i b hb
          cases hbp : b == pol with
          | true =>
            rw [hbp, cond_true] at h
            have e : b = pol := by simpa using hbp
            subst e
            exact run kn hkn h (.inr ⟨i, t, b, hg, hi, .inr hb⟩)
          | false =>
            rw [hbp, cond_false, hk'] at h
            have e := bne hbp
            subst e
            exact skip kn d hd hkn h ⟨i, t, pol, hg, hi, .inr (.inl hb)⟩
        · rename_i b hb
          split at h
          · rename_i v hv
            have hbv := hkn t v hv
            cases hbp : v == pol with
            | true =>
              rw [hbp, cond_true] at h
              have e : v = pol := by simpa using hbp
              subst e
              exact run kn hkn h (.inr ⟨i, t, v, hg, hi, .inl hbv⟩)
            | false =>
              rw [hbp, cond_false, hk'] at h
              have e := bne hbp
              subst e
              exact skip kn d hd hkn h ⟨i, t, pol, hg, hi, .inl hbv⟩
          · by_cases e : b = pol
            · subst e
              have := two_1 h rfl
              refine run ((t, b) :: kn) (hkn.cons hb) ?_ (.inr ⟨i, t, b, hg, hi, .inl hb⟩)
              rw [hd]
              exact this
            · have e' : b = !pol := bne (beq_eq_false_iff_ne.2 e)
              subst e'
              exact skip _ d hd (hkn.cons hb) (two_2 h rfl) ⟨i, t, pol, hg, hi, .inl hb⟩
        · rename_i hb
          rw [hk'] at h
          exact skip kn d hd hkn h ⟨i, t, pol, hg, hi, .inr (.inr hb)⟩
        · cases h
      · cases h
end
end Go.Proofs.Ytdeledeopippfaa
