/- Texts for VSectionsP. -/
import Derived.OpenShut
import Derived.Laws.Tables
import Derived.Laws.StructEq
import Derived.Test.YtdeledeopippfaaVx2
namespace Go.Proofs.Ytdeledeopippfaa
open Go Go.RowKit
set_option linter.unusedVariables false
set_option linter.unusedSimpArgs false
section
inductive SK where
  | i
  | b
  | s
inductive TK where
  | i (k : IntKind)
  | b
  | s
  | sl (e : Nat)
  | st
  | p
  | mp (ak : Bool)
  | ar (n e : Nat)
  | o
structure TI where
  sz : Nat
  agg : Bool
  bytes : Nat
  k : TK
  zero : Option (List Value)
  flds : List (Nat × Nat × Bool)
  sq : Option (List SK)
def aggD : TypeDesc → Bool
  | .struct _ | .array _ _ => true
  | _ => false
def veq : Value → Value → Bool
  | .int k n, .int k' n' => decide (k = k') && decide (n = n')
  | .bool b, .bool b' => b == b'
  | .string s, .string s' => Nat.beq s.size 0 && Nat.beq s'.size 0
  | .slice none 0 0, .slice none 0 0 => true
  | .pointer none, .pointer none => true
  | .map none, .map none => true
  | .nilFunc, .nilFunc => true
  | .nilIface, .nilIface => true
  | _, _ => false
theorem size_zero {s : ByteArray} (h : s.size = 0) : s = ByteArray.empty := by
  obtain ⟨d⟩ := s
  have hd : d.size = 0 := h
  have : d = #[] := Array.eq_empty_of_size_eq_zero hd
  subst this
  rfl
theorem veq_eq {u v : Value} (h : veq u v = true) : u = v := by
  unfold veq at h
  split at h
  · simp at h; rw [h.1, h.2]
  · simp at h; rw [h]
  · rw [Bool.and_eq_true] at h
    rw [size_zero (Nat.eq_of_beq_eq_true h.1), size_zero (Nat.eq_of_beq_eq_true h.2)]
  · rfl
  · rfl
  · rfl
  · rfl
  · rfl
  · cases h
def veqL : List Value → List Value → Bool
  | [], [] => true
  | u :: us, v :: vs => veq u v && veqL us vs
  | _, _ => false
theorem veqL_eq : ∀ {us vs : List Value}, veqL us vs = true → us = vs
  | [], [], _ => rfl
  | [], _ :: _, h => by cases h
  | _ :: _, [], h => by cases h
  | u :: us, v :: vs, h => by
    unfold veqL at h
    rw [Bool.and_eq_true] at h
    rw [veq_eq h.1, veqL_eq h.2]
def skOk (P : Program) (t : TypeId) : SK → Bool
  | .i => match P.underlying t with | some (.int _) => true | _ => false
  | .b => match P.underlying t with | some .bool => true | _ => false
  | .s => match P.underlying t with | some .string => true | _ => false
def flOk (P : Program) : Nat → List Field → List SK → Bool
  | _, [], [] => true
  | o, f :: fs, k :: ks => f.name != "_" && (Nat.beq f.offset o && (skOk P f.type k && flOk P (o + 1) fs ks))
  | _, _, _ => false
def sqOk (P : Program) (t : Nat) (ks : List SK) : Bool :=
  (match P.underlying t with | some (.struct _) => true | _ => false) && (!P.stoodInHeld t && (!P.eqGuardType P.depth t && flOk P 0 (P.fieldsOf t).toList ks))
def fdsOk (P : Program) : List Field → List (Nat × Nat × Bool) → Bool
  | [], [] => true
  | f :: fs, (o, n, a) :: r => Nat.beq f.offset o && ((match P.info? f.type with | some i => Nat.beq i.size n | none => false) && ((match P.underlying f.type with | some d => aggD d == a | none => false) && fdsOk P fs r))
  | _, _ => false
def tyOk (P : Program) (t sz bytes : Nat) (agg : Bool) : Bool :=
  (match P.info? t with | some i => Nat.beq i.size sz && Nat.beq i.bytes bytes | none => false) && (match P.underlying t with | some d => aggD d == agg | none => false)
def keyOkB (P : Program) (kt : Nat) : Bool → Bool
  | false => (match P.underlying kt with | some (.int .i64) => true | _ => false)
  | true => (match P.underlying kt with | some (.array n e) => Nat.beq n 2 && (P.plainKey e && (Nat.beq (P.cellsOf e) 1 && (Nat.beq (P.cellsOf kt) 2 && (Nat.blt 0 P.types.size && (match P.underlying e with | some (.int .i64) => true | _ => false))))) | _ => false)
theorem keyOkB_ok {P : Program} {kt : Nat} {ak : Bool} (h : keyOkB P kt ak = true) : MKey P kt ak := by
  cases ak with
  | false =>
    unfold keyOkB at h
    dsimp only at h
    split at h
    · rename_i hu; exact mkey_int hu
    · cases h
  | true =>
    unfold keyOkB at h
    dsimp only at h
    split at h
    · rename_i n e hu
      rw [Bool.and_eq_true, Bool.and_eq_true, Bool.and_eq_true, Bool.and_eq_true, Bool.and_eq_true] at h
      obtain ⟨h1, h2, h3, h4, h5, h6⟩ := h
      obtain rfl := Nat.eq_of_beq_eq_true h1
      split at h6
      · rename_i he
        exact mkey_arr2 ⟨hu, h2, Nat.eq_of_beq_eq_true h3, Nat.eq_of_beq_eq_true h4⟩ he ⟨P.types.size - 1, by have := Nat.le_of_ble_eq_true h5; omega⟩
      · cases h6
    · cases h
def tkOk (P : Program) (t : Nat) (flds : List (Nat × Nat × Bool)) : TK → Bool
  | .i k => (match P.underlying t with | some (.int k') => decide (k = k') | _ => false)
  | .b => (match P.underlying t with | some .bool => true | _ => false)
  | .s => (match P.underlying t with | some .string => true | _ => false)
  | .sl e => (match P.underlying t with | some (.slice e') => Nat.beq e' e | _ => false)
  | .st => (match P.underlying t with | some (.struct fs) => fdsOk P fs.toList flds | _ => false)
  | .p => (match P.underlying t with | some (.pointer _) => true | _ => false)
  | .mp ak => (match P.underlying t with
    | some (.map kt et) => keyOkB P kt ak && ((match P.underlying et with | some (.int .i64) => true | _ => false) && (match (P.info? et).bind (·.zero) with | some z => veq z (.int .i64 0) | none => false))
    | _ => false)
  | .ar n e => (match P.underlying t with | some (.array n' e') => Nat.beq n' n && (Nat.beq e' e && Nat.beq (P.cellsOf e) 1) | _ => false)
  | .o => true
def zrOk (P : Program) (t : Nat) : Option (List Value) → Bool
  | some zs => (match (P.info? t).bind (·.zero) with | some z => veqL z.cells.toList zs | none => false)
  | none => true
def tiOk (P : Program) (t : Nat) (ti : TI) : Bool :=
  tyOk P t ti.sz ti.bytes ti.agg && (tkOk P t ti.flds ti.k && (zrOk P t ti.zero && (match ti.sq with | some ks => sqOk P t ks | none => true)))
structure TIok (P : Program) (t : Nat) (ti : TI) : Prop where
  info : ∃ i, P.info? t = some i ∧ i.size = ti.sz ∧ i.bytes = ti.bytes
  agg : ∃ d, P.underlying t = some d ∧ aggD d = ti.agg
  k : tkOk P t ti.flds ti.k = true
  zero : ∀ zs, ti.zero = some zs → ∃ i z, P.info? t = some i ∧ i.zero = some z ∧ z.cells.toList = zs
  sq : ∀ ks, ti.sq = some ks → sqOk P t ks = true
theorem ti_of {P : Program} {t : Nat} {ti : TI} (h : tiOk P t ti = true) : TIok P t ti := by
  unfold tiOk at h
  rw [Bool.and_eq_true, Bool.and_eq_true, Bool.and_eq_true] at h
  obtain ⟨h1, h2, h3, h4⟩ := h
  unfold tyOk at h1
  rw [Bool.and_eq_true] at h1
  obtain ⟨h1, h5⟩ := h1
  refine ⟨?_, ?_, h2, fun zs hz => ?_, fun ks hk => ?_⟩
  · cases hi : P.info? t with
    | none => rw [hi] at h1; cases h1
    | some i =>
      rw [hi] at h1
      simp only [Bool.and_eq_true] at h1
      exact ⟨i, rfl, Nat.eq_of_beq_eq_true h1.1, Nat.eq_of_beq_eq_true h1.2⟩
  · cases hd : P.underlying t with
    | none => rw [hd] at h5; cases h5
    | some d => rw [hd] at h5; exact ⟨d, rfl, by simpa using h5⟩
  · rw [hz] at h3
    unfold zrOk at h3
    dsimp only at h3
    split at h3
    · rename_i z hz
      obtain ⟨i, hi, hz'⟩ := Option.bind_eq_some_iff.1 hz
      exact ⟨i, z, hi, hz', veqL_eq h3⟩
    · cases h3
  · rw [hk] at h4
    exact h4
inductive Tr (α : Type) where
  | nil
  | nd (l : Tr α) (v : Option α) (r : Tr α)
def Tr.get {α : Type} : Tr α → Nat → Option α
  | .nil, _ => none
  | .nd l v r, n => bif Nat.beq n 0 then v else bif Nat.beq (n % 2) 1 then l.get (n / 2) else r.get (n / 2 - 1)
def Tr.all {α : Type} (p : Nat → α → Bool) : Tr α → (Nat → Nat) → Bool
  | .nil, _ => true
  | .nd l v r, f => (match v with | some a => p (f 0) a | none => true) && (l.all p (fun m => f (2 * m + 1)) && r.all p (fun m => f (2 * m + 2)))
theorem Tr.get_ok {α : Type} {p : Nat → α → Bool} : ∀ {t : Tr α} {f : Nat → Nat} {n : Nat} {a : α}, t.all p f = true → t.get n = some a → p (f n) a = true
  | .nil, f, n, a, _, h => by cases h
  | .nd l v r, f, n, a, hp, h => by
    unfold Tr.all at hp
    rw [Bool.and_eq_true, Bool.and_eq_true] at hp
    obtain ⟨h1, h2, h3⟩ := hp
    unfold Tr.get at h
    cases h0 : Nat.beq n 0 with
    | true =>
      rw [h0] at h
      have hn : n = 0 := Nat.eq_of_beq_eq_true h0
      subst hn
      simp only [cond_true] at h
      subst h
      exact h1
    | false =>
      rw [h0] at h
      have hn : n ≠ 0 := fun e => by subst e; cases h0
      simp only [cond_false] at h
      cases hm : Nat.beq (n % 2) 1 with
      | true =>
        rw [hm] at h
        have := Nat.eq_of_beq_eq_true hm
        have h4 := Tr.get_ok h2 h
        rwa [show 2 * (n / 2) + 1 = n by omega] at h4
      | false =>
        rw [hm] at h
        have hne : n % 2 ≠ 1 := fun e => by rw [e] at hm; cases hm
        have h4 := Tr.get_ok h3 h
        rwa [show 2 * (n / 2 - 1) + 2 = n by omega] at h4
def fnOk (P : Program) (g : Nat) : Bool := match P.funcs[g]? with | some fn => !(fn.name == "runtime.NumGoroutine") && fn.body.isSome | none => false
def Ent (P : Program) (g : FuncId) : Prop := ∀ (args : Array Value) (w : World), (callFunc g args).run P w = .ok (.enter g args) w
theorem ent_of {P : Program} {g : Nat} (h : fnOk P g = true) : Ent P g := by
  unfold fnOk at h
  split at h
  · rename_i fn hfn
    rw [Bool.and_eq_true] at h
    obtain ⟨h1, h2⟩ := h
    intro args w
    have h3 : (fn.name == "runtime.NumGoroutine") = false := by simpa using h1
    have h4 : fn.body.isNone = false := by cases hb : fn.body <;> simp_all
    unfold callFunc
    rw [Sem.run_bind, run_program, Result.andThen_ok, hfn]
    simp only [h3, h4]
    rfl
  · cases h
structure Env where
  P : Program
  T : Tr TI
  F : Tr Unit
  okT : T.all (tiOk P) id = true
  okF : F.all (fun g _ => fnOk P g) id = true
  mixed : P.follows .mixedOrders = true
theorem Env.ty (E : Env) {t : Nat} {ti : TI} (h : E.T.get t = some ti) : TIok E.P t ti := ti_of (Tr.get_ok E.okT h)
theorem Env.fn (E : Env) {g : Nat} {x : Unit} (h : E.F.get g = some x) : Ent E.P g := ent_of (Tr.get_ok (p := fun g _ => fnOk E.P g) E.okF h)
def frc1 (x : AV) (K : AV → Prop) : Prop :=
  match x with
  | .any => K .any
  | .i k n => K (.i k n)
  | .b x => K (.b x)
  | .kb x => K (.kb x)
  | .s x => K (.s x)
  | .nils => K .nils
  | .nilp => K .nilp
  | .sl sz n g => K (.sl sz n g)
  | .rf m g => K (.rf m g)
  | .ow sz n g => K (.ow sz n g)
  | .ptr id j off => K (.ptr id j off)
  | .row id n => K (.row id n)
  | .agg cs => K (.agg cs)
  | .tup cs => K (.tup cs)
  | .fn f cs => K (.fn f cs)
  | .rs id o n => K (.rs id o n)
  | .mp id => K (.mp id)
  | .fm ak f => K (.fm ak f)
  | .st z => K (.st z)
theorem frc1_eq (x : AV) (K : AV → Prop) : frc1 x K = K x := by cases x <;> rfl
def frcL : List AV → (List AV → Prop) → Prop
  | [], K => K []
  | c :: cs, K => frc1 c fun c => frcL cs fun cs => K (c :: cs)
theorem frcL_eq : ∀ (cs : List AV) (K : List AV → Prop), frcL cs K = K cs
  | [], K => rfl
  | c :: cs, K => by unfold frcL; rw [frc1_eq, frcL_eq cs]
def frc (x : AV) (K : AV → Prop) : Prop :=
  match x with
  | .any => K .any
  | .i k n => K (.i k n)
  | .b x => K (.b x)
  | .kb x => K (.kb x)
  | .s x => K (.s x)
  | .nils => K .nils
  | .nilp => K .nilp
  | .sl sz n g => K (.sl sz n g)
  | .rf m g => K (.rf m g)
  | .ow sz n g => K (.ow sz n g)
  | .ptr id j off => K (.ptr id j off)
  | .row id n => K (.row id n)
  | .agg cs => frcL cs fun cs => K (.agg cs)
  | .tup cs => frcL cs fun cs => K (.tup cs)
  | .fn f cs => frcL cs fun cs => K (.fn f cs)
  | .rs id o n => K (.rs id o n)
  | .mp id => K (.mp id)
  | .fm ak f => K (.fm ak f)
  | .st z => K (.st z)
theorem frc_eq (x : AV) (K : AV → Prop) : frc x K = K x := by
  cases x <;> first | rfl | (unfold frc; exact frcL_eq _ _)
def RD (P : Program) (nt : Nat) (X : Ctx) (op : Op) (ty : TypeId) (f : Fr) (H : Hp) (v : AV) : Prop :=
  ∀ blk FP a w, StB nt X f H blk FP a w → ∃ u, (∀ (dst : Option Tmp) (pos : String) (after : Array Edge) (gd : Option (Nat × Bool)), (execOp a.eval ⟨dst, op, ty, pos, after, gd⟩).run P w = .ok (.value u) w) ∧ Conc w (X.S FP H w.heap.size) blk H v u
section
variable {E : Env} {P : Program} {nt : Nat} {X : Ctx} {f : Fr} {H : Hp} {ty : TypeId} {K : AV → Prop}
theorem run_isAgg {t : Nat} {ti : TI} (h : TIok P t ti) (w : World) : (isAgg t).run P w = .ok ti.agg w := by
  obtain ⟨d, hu, hd⟩ := h.agg
  unfold isAgg
  rw [Sem.run_bind, run_underlying hu w, ← hd]
  cases d <;> rfl
theorem run_size {t : Nat} {ti : TI} (h : TIok P t ti) (w : World) : (sizeOf t).run P w = .ok ti.sz w := by
  obtain ⟨i, hi, hs, _⟩ := h.info
  simp [sizeOf, typeInfo, hi, hs]
theorem rd_same {op : Op} {x : Operand} (hop : op = .move x ∨ op = .assign x) : RD P nt X op ty f H (ev f x) := by
  rintro blk FP a w s
  rcases hop with rfl | rfl
  · exact ⟨_, fun _ _ _ _ => rfl, s.ev x⟩
  · exact ⟨_, fun _ _ _ _ => rfl, s.ev x⟩
theorem rd_pick {c x y : Operand} {b : Bool} (hc : ev f c = .b b ∨ ev f c = .kb b) : RD P nt X (.pick c x y) ty f H (if b then ev f x else ev f y) := by
  rintro blk FP a w s
  have h : a.eval c = .bool b := by
    rcases hc with h | h
    · exact inv_b (h ▸ s.ev c)
    · exact inv_kb (h ▸ s.ev c)
  cases b
  · exact ⟨_, fun _ _ _ _ => by simp [execOp, h, asBool], s.ev y⟩
  · exact ⟨_, fun _ _ _ _ => by simp [execOp, h, asBool], s.ev x⟩
def cellsAt (g : Nat → AV) : Nat → Nat → List AV
  | _, 0 => []
  | o, n + 1 => g o :: cellsAt g (o + 1) n
theorem cellsAt_length (g : Nat → AV) : ∀ (n o : Nat), (cellsAt g o n).length = n
  | 0, o => rfl
  | n + 1, o => by simp [cellsAt, cellsAt_length g n]
theorem cellsAt_get (g : Nat → AV) : ∀ (n o j : Nat) (c : AV), (cellsAt g o n)[j]? = some c → j < n ∧ c = g (o + j)
  | 0, o, j, c, h => by simp [cellsAt] at h
  | n + 1, o, j, c, h => by
    cases j with
    | zero => exact ⟨by omega, by simpa [cellsAt] using h.symm⟩
    | succ j =>
      obtain ⟨h1, h2⟩ := cellsAt_get g n (o + 1) j c (by simpa [cellsAt] using h)
      exact ⟨by omega, by rw [h2]; congr 1; omega⟩
def AV.isOw : AV → Bool
  | .ow .. => true
  | _ => false
theorem Own.conc {w : World} {S : Nat → Prop} {blk : Nat → BC} {x : AV} {u : Value} {fp : List Nat} (h : Own w S blk H x u fp) (hx : x.isOw = false) : Conc w S blk H x u := by
  cases h with
  | plain h => exact h
  | ow0 => cases hx
  | ow => cases hx
def ldV (ti : TI) (g : Nat → AV) (o : Nat) : AV := bif ti.agg then .agg (cellsAt g o ti.sz) else g o
theorem run_loadVar {t : Nat} {ti : TI} (hT : TIok P t ti) {w : World} {S : Nat → Prop} {blk : Nat → BC} {b o : Nat} {g : Nat → AV} {k : Nat} {U : Nat → Value}
    (hc : ∀ j, j < ti.sz → w.cell? ⟨b, o + j, none⟩ = some (U j)) (hu : ∀ j, j < ti.sz → Conc w S blk H (g (k + j)) (U j)) (h1 : 0 < ti.sz) :
    ∃ u, (loadVar t ⟨b, o, none⟩).run P w = .ok u w ∧ Conc w S blk H (ldV ti g k) u := by
  unfold ldV
  cases hag : ti.agg with
  | false =>
    refine ⟨U 0, ?_, by simpa using hu 0 h1⟩
    have := hc 0 h1
    simp only [Nat.add_zero] at this
    simp [loadVar, run_isAgg hT, hag, run_load, this]
  | true =>
    have hrun := run_loadCells_list (P := P) w ⟨b, o, none⟩ ((List.range ti.sz).map U) (fun j v hv => by
      have hj : j < ti.sz := by
        have := (List.getElem?_eq_some_iff.1 hv).1
        simpa using this
      have hv' : v = U j := by simpa [hj] using hv.symm
      subst hv'
      rw [add_mk]
      exact hc j hj)
    simp only [List.length_map, List.length_range] at hrun
    refine ⟨_, by simp [loadVar, run_isAgg hT, hag, run_size hT, hrun]; rfl, ?_⟩
    refine .agg _ _ (by simp [cellsAt_length]) fun j c u hj hu' => ?_
    obtain ⟨hlt, rfl⟩ := cellsAt_get g ti.sz k j c hj
    have : u = U j := by simpa [hlt] using hu'.symm
    subst this
    exact hu j hlt
def ldK (E : Env) (f : Fr) (H : Hp) (t : TypeId) (x : Operand) (K : AV → Prop) : Prop :=
  match E.T.get t with
  | none => False
  | some ti => bif Nat.blt 0 ti.sz then
      match ev f x with
      | .ptr id j off => (match H[id]? with
        | some (some r) => bif Nat.ble (off + ti.sz) r.sz then (bif (cellsAt (r.es j) off ti.sz).any AV.isOw then False else K (ldV ti (r.es j) off)) else False
        | _ => False)
      | .rf m g => bif Nat.ble ti.sz m then (bif (cellsAt g 0 ti.sz).any AV.isOw then False else K (ldV ti g 0)) else False
      | _ => False
    else False
theorem any_cells {g : Nat → AV} {o n : Nat} (h : (cellsAt g o n).any AV.isOw = false) : ∀ j, j < n → (g (o + j)).isOw = false := by
  intro j hj
  have hlt : j < (cellsAt g o n).length := by rw [cellsAt_length]; exact hj
  obtain ⟨_, h2⟩ := cellsAt_get g n o j _ (List.getElem?_eq_getElem hlt)
  rw [← h2]
  have := List.any_eq_false.1 h _ (List.getElem_mem hlt)
  simpa using this
theorem ldK_ok {t : TypeId} {x : Operand} (h : ldK E f H t x K) : ∃ v, RD E.P nt X (.load t x) ty f H v ∧ K v := by
  unfold ldK at h
  split at h
  · cases h
  rename_i ti hti
  have hT := E.ty hti
  cases h0 : Nat.blt 0 ti.sz with
  | false => rw [h0] at h; cases h
  | true =>
    rw [h0, cond_true] at h
    have hpos : 0 < ti.sz := Nat.le_of_ble_eq_true h0
    split at h
    · rename_i id j off hx
      split at h
      · rename_i r hr
        cases hl : Nat.ble (off + ti.sz) r.sz with
        | false => rw [hl] at h; cases h
        | true =>
          rw [hl, cond_true] at h
          have hle := Nat.le_of_ble_eq_true hl
          cases ho : (cellsAt (r.es j) off ti.sz).any AV.isOw with
          | true => rw [ho] at h; cases h
          | false =>
            rw [ho, cond_false] at h
            refine ⟨_, fun blk FP a w s => ?_, h⟩
            obtain ⟨hev, hj, _⟩ := inv_ptr hr (hx ▸ s.ev x)
            rcases (s.rows id r hr).1 with hrow | ⟨_, _, _, _, ty', cur, F, hb, hcur, _, hcells, _⟩
            · omega
            have hno := any_cells ho
            obtain ⟨u, hrun, hcu⟩ := run_loadVar hT (w := w) (S := X.S FP H w.heap.size) (blk := blk) (H := H) (b := (blk id).b) (o := j * r.sz + off) (g := r.es j) (k := off) (U := fun i => cur.getD (j * r.sz + (off + i)) undef)
              (fun i hi => by
                obtain ⟨u, hu, _, _⟩ := hcells j (off + i) hj (by omega)
                rw [RowAt.cell hb, Nat.add_assoc, hu]
                simp [hu])
              (fun i hi => by
                obtain ⟨u, hu, _, hcu⟩ := hcells j (off + i) hj (by omega)
                simpa [hu] using hcu.conc (hno i hi)) hpos
            exact ⟨u, fun _ _ _ _ => by simp [execOp, hev, Instr.loadAt, Instr.sureAddr, hrun], hcu⟩
      · cases h
    · rename_i m g hx
      cases hl : Nat.ble ti.sz m with
      | false => rw [hl] at h; cases h
      | true =>
        rw [hl, cond_true] at h
        have hle := Nat.le_of_ble_eq_true hl
        cases ho : (cellsAt g 0 ti.sz).any AV.isOw with
        | true => rw [ho] at h; cases h
        | false =>
          rw [ho, cond_false] at h
          refine ⟨_, fun blk FP a w s => ?_, h⟩
          obtain ⟨b, o, U, hev, hS, hc, hu, hf⟩ := inv_rf (hx ▸ s.ev x)
          obtain ⟨u, hrun, hcu⟩ := run_loadVar hT (w := w) (S := X.S FP H w.heap.size) (blk := blk) (H := H) (b := b) (o := o) (g := g) (k := 0) (U := U)
            (fun i hi => hc i (by omega)) (fun i hi => by rw [Nat.zero_add]; exact hu i (by omega)) hpos
          exact ⟨u, fun _ _ _ _ => by simp [execOp, hev, Instr.loadAt, Instr.sureAddr, hrun], hcu⟩
    · cases h
def fldAt (E : Env) (t i : Nat) : Option (Nat × Nat × Bool) :=
  match E.T.get t with
  | some ti => (match ti.k with | .st => ti.flds[i]? | _ => none)
  | none => none
theorem fdsOk_at : ∀ {fs : List Field} {l : List (Nat × Nat × Bool)} {i : Nat} {x : Nat × Nat × Bool}, fdsOk P fs l = true → l[i]? = some x → ∃ fl, fs[i]? = some fl ∧ fl.offset = x.1 ∧ (∃ inf, P.info? fl.type = some inf ∧ inf.size = x.2.1) ∧ (∃ d, P.underlying fl.type = some d ∧ aggD d = x.2.2)
  | [], [], i, x, _, h => by simp at h
  | [], _ :: _, i, x, h, _ => by cases h
  | _ :: _, [], i, x, h, _ => by cases h
  | f :: fs, (o, n, a) :: r, i, x, h, hi => by
    unfold fdsOk at h
    rw [Bool.and_eq_true, Bool.and_eq_true, Bool.and_eq_true] at h
    obtain ⟨h1, h2, h3, h4⟩ := h
    cases i with
    | zero =>
      cases hi
      refine ⟨f, rfl, Nat.eq_of_beq_eq_true h1, ?_, ?_⟩
      · split at h2
        · rename_i inf hinf; exact ⟨inf, hinf, Nat.eq_of_beq_eq_true h2⟩
        · cases h2
      · split at h3
        · rename_i d hd; exact ⟨d, hd, by simpa using h3⟩
        · cases h3
    | succ i =>
      obtain ⟨fl, e1, e2⟩ := fdsOk_at h4 (by simpa using hi : r[i]? = some x)
      exact ⟨fl, by simpa using e1, e2⟩
theorem fldAt_ok {t i : Nat} {x : Nat × Nat × Bool} (h : fldAt E t i = some x) : ∃ fs fl, E.P.underlying t = some (.struct fs) ∧ fs[i]? = some fl ∧ fl.offset = x.1 ∧ (∃ inf, E.P.info? fl.type = some inf ∧ inf.size = x.2.1) ∧ (∃ d, E.P.underlying fl.type = some d ∧ aggD d = x.2.2) := by
  unfold fldAt at h
  split at h
  · rename_i ti hti
    have hk := (E.ty hti).k
    split at h
    · rename_i hst
      rw [hst] at hk
      unfold tkOk at hk
      dsimp only at hk
      split at hk
      · rename_i fs hfs
        obtain ⟨fl, h1, h2⟩ := fdsOk_at hk h
        exact ⟨fs, fl, hfs, by simpa using h1, h2⟩
      · cases hk
    · cases h
  · cases h
theorem run_fieldAt {t i off n : Nat} {g : Bool} (hF : fldAt E t i = some (off, n, g)) (hn : 0 < n) (w : World) (b o : Nat) : (Instr.fieldAt t (.pointer (some ⟨b, o, none⟩)) i).run E.P w = .ok (.pointer (some ⟨b, o + off, none⟩)) w := by
  obtain ⟨fs, fl, hu, hi, ho, ⟨inf, hinf, hs⟩, _⟩ := fldAt_ok hF
  dsimp only at ho hs
  subst ho
  subst hs
  have : inf.size ≠ 0 := by omega
  simp [Instr.fieldAt, run_underlying hu, hi, Instr.sureAddr, fieldPlace, sizeOf, typeInfo, hinf, this, add_mk]
def faK (E : Env) (f : Fr) (H : Hp) (t : TypeId) (x : Operand) (i : Nat) (K : AV → Prop) : Prop :=
  match fldAt E t i with
  | none => False
  | some (off, n, _) => bif Nat.blt 0 n then
      match ev f x with
      | .ptr id j o => (match H[id]? with
        | some (some r) => bif Nat.ble (o + off) r.sz then K (.ptr id j (o + off)) else False
        | _ => False)
      | .rf m g => K (.rf (m - off) fun j => g (off + j))
      | _ => False
    else False
theorem faK_ok {t i : Nat} {x : Operand} (h : faK E f H t x i K) : ∃ v, RD E.P nt X (.fieldAddr t x i) ty f H v ∧ K v := by
  unfold faK at h
  split at h
  · cases h
  rename_i off n ag hF
  cases hn : Nat.blt 0 n with
  | false => rw [hn] at h; cases h
  | true =>
    rw [hn, cond_true] at h
    have hn' : 0 < n := Nat.le_of_ble_eq_true hn
    split at h
    · rename_i id j o hx
      split at h
      · rename_i r hr
        cases hl : Nat.ble (o + off) r.sz with
        | false => rw [hl] at h; cases h
        | true =>
          rw [hl, cond_true] at h
          refine ⟨_, fun blk FP a w s => ?_, h⟩
          obtain ⟨hev, hj, _⟩ := inv_ptr hr (hx ▸ s.ev x)
          refine ⟨.pointer (some ⟨(blk id).b, j * r.sz + o + off, none⟩), fun _ _ _ _ => by simp [execOp, hev, run_fieldAt hF hn'], ?_⟩
          have := Conc.ptr (w := w) (S := X.S FP H w.heap.size) (blk := blk) (j := j) (off := o + off) r hr hj (Nat.le_of_ble_eq_true hl)
          rwa [← Nat.add_assoc] at this
      · cases h
    · rename_i m g hx
      refine ⟨_, fun blk FP a w s => ?_, h⟩
      obtain ⟨b, o, U, hev, hS, hc, hu, hf⟩ := inv_rf (hx ▸ s.ev x)
      refine ⟨_, fun _ _ _ _ => by simp [execOp, hev, run_fieldAt hF hn'], .rf b (o + off) (fun j => U (off + j)) hS (fun j hj => ?_) (fun j hj => hf _ (by omega)) (fun j hj => hu _ (by omega))⟩
      rw [Nat.add_assoc]
      exact hc _ (by omega)
    · cases h
def fvK (E : Env) (f : Fr) (t : TypeId) (x : Operand) (i : Nat) (K : AV → Prop) : Prop :=
  match fldAt E t i with
  | none => False
  | some (off, n, true) => (match ev f x with
    | .agg cs => bif Nat.ble (off + n) cs.length then K (.agg ((cs.drop off).take n)) else False
    | _ => False)
  | some (off, n, false) => (match ev f x with
    | .agg cs => (match cs[off]? with | some c => K c | none => False)
    | _ => False)
theorem run_isAggD {t : TypeId} {d : TypeDesc} (hu : P.underlying t = some d) (w : World) : (isAgg t).run P w = .ok (aggD d) w := by
  unfold isAgg
  rw [Sem.run_bind, run_underlying hu w]
  cases d <;> rfl
theorem fvK_ok {t i : Nat} {x : Operand} (h : fvK E f t x i K) : ∃ v, RD E.P nt X (.field t x i) ty f H v ∧ K v := by
  unfold fvK at h
  split at h
  · cases h
  · rename_i off n hF
    split at h
    · rename_i cs hx
      cases hl : Nat.ble (off + n) cs.length with
      | false => rw [hl] at h; cases h
      | true =>
        rw [hl, cond_true] at h
        have hle := Nat.le_of_ble_eq_true hl
        refine ⟨_, fun blk FP a w s => ?_, h⟩
        obtain ⟨us, hev, hul, huc⟩ := inv_agg (hx ▸ s.ev x)
        obtain ⟨fs, fl, hu, hi, ho, ⟨inf, hinf, hs⟩, ⟨d, hd, hda⟩⟩ := fldAt_ok hF
        dsimp only at ho hs hda
        subst ho hs
        refine ⟨.agg (us.toArray.extract fl.offset (fl.offset + inf.size)), fun _ _ _ _ => ?_, ?_⟩
        · simp [execOp, hev, Instr.field, run_underlying hu, hi, asAgg, part, run_isAggD hd, hda, sizeOf, typeInfo, hinf]
        · have h2 := Conc.agg (w := w) (S := X.S FP H w.heap.size) (blk := blk) (H := H) ((cs.drop fl.offset).take inf.size) ((us.drop fl.offset).take inf.size) (by simp [hul]) (fun j c u hj hju => by
            rw [List.getElem?_take] at hj hju
            split at hj
            · rename_i hlt
              rw [if_pos hlt, List.getElem?_drop] at hju
              rw [List.getElem?_drop] at hj
              exact huc _ c u hj hju
            · cases hj)
          have e : us.toArray.extract fl.offset (fl.offset + inf.size) = ((us.drop fl.offset).take inf.size).toArray := by simp
          rw [e]
          exact h2
    · cases h
  · rename_i off n hF
    split at h
    · rename_i cs hx
      split at h
      · rename_i c hc
        refine ⟨_, fun blk FP a w s => ?_, h⟩
        obtain ⟨us, hev, hul, huc⟩ := inv_agg (hx ▸ s.ev x)
        obtain ⟨fs, fl, hu, hi, ho, ⟨inf, hinf, hs⟩, ⟨d, hd, hda⟩⟩ := fldAt_ok hF
        dsimp only at ho hs hda
        subst ho hs
        have hlt : fl.offset < us.length := by rw [hul]; exact (List.getElem?_eq_some_iff.1 hc).1
        refine ⟨us[fl.offset], fun _ _ _ _ => ?_, huc _ c _ hc (List.getElem?_eq_getElem hlt)⟩
        simp [execOp, hev, Instr.field, run_underlying hu, hi, asAgg, part, run_isAggD hd, hda, hlt]
      · cases h
    · cases h
def elemAt (E : Env) (t : Nat) : Option (Nat × TI) :=
  match E.T.get t with
  | some ti => (match ti.k with | .sl e => (match E.T.get e with | some te => some (e, te) | none => none) | _ => none)
  | none => none
theorem elemAt_ok {t e : Nat} {te : TI} (h : elemAt E t = some (e, te)) : E.P.underlying t = some (.slice e) ∧ TIok E.P e te := by
  unfold elemAt at h
  split at h
  · rename_i ti hti
    have hk := (E.ty hti).k
    split at h
    · rename_i e' he
      rw [he] at hk
      split at h
      · rename_i te' hte
        cases h
        refine ⟨?_, E.ty hte⟩
        unfold tkOk at hk
        dsimp only at hk
        split at hk
        · rename_i e2 he2; rw [he2, Nat.eq_of_beq_eq_true hk]
        · cases hk
      · cases h
    · cases h
  · cases h
theorem run_indexAt {t e : Nat} {te : TI} (hS : elemAt E t = some (e, te)) (w : World) (b o n cap : Nat) (i : Int) (k : IntKind) (h0 : 0 ≤ i) (hi : i < n) :
    (Instr.indexAt t (.slice (some ⟨b, o, none⟩) n cap) (.int k i)).run E.P w = .ok (.pointer (some ⟨b, o + i.toNat * te.sz, none⟩)) w := by
  obtain ⟨h1, h2⟩ := elemAt_ok hS
  have h3 := run_size h2
  simp [Instr.indexAt, asIntOf, run_underlying h1, hi, h0, h3, add_mk]
def iaK (E : Env) (f : Fr) (H : Hp) (t : TypeId) (x y : Operand) (K : AV → Prop) : Prop :=
  match elemAt E t with
  | none => False
  | some (_, te) => (match ev f y with
    | .i _ z => (match ev f x with
      | .sl sz n g => bif Nat.beq sz te.sz then (0 ≤ z ∧ z < n) ∧ K (.rf sz (g z.toNat)) else False
      | .row id n => (match H[id]? with
        | some (some r) => bif Nat.beq r.sz te.sz then (0 ≤ z ∧ z < n) ∧ K (.ptr id z.toNat 0) else False
        | _ => False)
      | _ => False)
    | _ => False)
theorem iaK_ok {t : TypeId} {x y : Operand} (h : iaK E f H t x y K) : ∃ v, RD E.P nt X (.indexAddr t x y) ty f H v ∧ K v := by
  unfold iaK at h
  split at h
  · cases h
  rename_i e te hS
  split at h
  · rename_i k z hy
    split at h
    · rename_i sz n g hx
      cases hs : Nat.beq sz te.sz with
      | false => rw [hs] at h; cases h
      | true =>
        rw [hs, cond_true] at h
        have hs' := Nat.eq_of_beq_eq_true hs
        subst hs'
        obtain ⟨⟨h0, hlt⟩, hK⟩ := h
        refine ⟨_, fun blk FP a w s => ?_, hK⟩
        obtain ⟨hyv, _⟩ := inv_i (hy ▸ s.ev y)
        obtain ⟨b, o, cap, U, hev, hSb, hn, hm, hc, hu, hf⟩ := inv_sl (hx ▸ s.ev x) (by omega)
        exact ⟨_, fun _ _ _ _ => by simp [execOp, hev, hyv, run_indexAt hS w b o n cap z k h0 hlt], .rf b _ (U z.toNat) hSb (fun j hj => hc z.toNat j (by omega) hj) (fun j hj => hf z.toNat j (by omega) hj) (fun j hj => hu z.toNat j (by omega) hj)⟩
    · rename_i id n hx
      split at h
      · rename_i r hr
        cases hs : Nat.beq r.sz te.sz with
        | false => rw [hs] at h; cases h
        | true =>
          rw [hs, cond_true] at h
          have hs' := Nat.eq_of_beq_eq_true hs
          obtain ⟨⟨h0, hlt⟩, hK⟩ := h
          refine ⟨_, fun blk FP a w s => ?_, hK⟩
          obtain ⟨hyv, _⟩ := inv_i (hy ▸ s.ev y)
          rcases inv_row hr (hx ▸ s.ev x) with ⟨hev, hn, _, hc0, hm⟩ | ⟨a', hev, hn, hc0, _⟩
          · refine ⟨.pointer (some ⟨(blk id).b, 0 + z.toNat * te.sz, none⟩), fun _ _ _ _ => by simp [execOp, hev, hyv, run_indexAt hS w (blk id).b 0 n (blk id).c z k h0 hlt], ?_⟩
            have := Conc.ptr (w := w) (S := X.S FP H w.heap.size) (blk := blk) (j := z.toNat) (off := 0) r hr (by omega) (by omega)
            rw [hs'] at this
            simpa using this
          · omega
      · cases h
    · cases h
  · cases h
def intV (op : BinOp) (k : IntKind) (a b : Int) : Option (Option Prop × AV) :=
  match op with
  | .eql => some (none, .b (decide (a = b)))
  | .neq => some (none, .b (!decide (a = b)))
  | .lss => some (none, .b (decide (a < b)))
  | .leq => some (none, .b (decide (a ≤ b)))
  | .gtr => some (none, .b (decide (b < a)))
  | .geq => some (none, .b (decide (b ≤ a)))
  | .add => some (none, .i k (k.wrap (a + b)))
  | .sub => some (none, .i k (k.wrap (a - b)))
  | .mul => some (none, .i k (k.wrap (a * b)))
  | .quo => some (some (b ≠ 0), .i k (k.wrap (a.tdiv b)))
  | .rem => some (some (b ≠ 0), .i k (a.tmod b))
  | .and => some (none, .i k (bits .and k a b))
  | .or => some (none, .i k (bits .or k a b))
  | .xor => some (none, .i k (bits .xor k a b))
  | .andNot => some (none, .i k (bits .andNot k a b))
  | _ => none
def boolV (op : BinOp) (a b : Bool) : Option (Option Prop × AV) :=
  match op with
  | .eql => some (none, .b (a == b))
  | .neq => some (none, .b (a != b))
  | _ => none
def strV (op : BinOp) (a b : ByteArray) : Option (Option Prop × AV) :=
  match op with
  | .eql => some (none, .b (decide (a = b)))
  | .neq => some (none, .b (!decide (a = b)))
  | .lss => some (none, .b (Op.bytesLess a.toList b.toList))
  | .leq => some (none, .b (Op.bytesLess a.toList b.toList || decide (a = b)))
  | .gtr => some (none, .b (!(Op.bytesLess a.toList b.toList || decide (a = b))))
  | .geq => some (none, .b (!Op.bytesLess a.toList b.toList))
  | .add => some (some (a.size + b.size ≤ maxLen), .s (a ++ b))
  | _ => none
def andO : Option Prop → Prop → Prop
  | none, q => q
  | some p, q => p ∧ q
theorem andO_1 {p : Option Prop} {q : Prop} (h : andO p q) : q := by cases p with | none => exact h | some p => exact h.2
theorem andO_2 {p : Option Prop} {q : Prop} (h : andO p q) : andO p True := by cases p with | none => trivial | some p => exact ⟨h.1, trivial⟩
theorem tmod_le (a b : Int) : (0 ≤ a → 0 ≤ a.tmod b ∧ a.tmod b ≤ a) ∧ (a ≤ 0 → a ≤ a.tmod b ∧ a.tmod b ≤ 0) := by
  have key : ∀ a : Int, 0 ≤ a → 0 ≤ a.tmod b ∧ a.tmod b ≤ a := by
    intro a ha
    refine ⟨Int.tmod_nonneg b ha, ?_⟩
    have h1 := Int.natAbs_tmod a b
    have h2 := Nat.mod_le a.natAbs b.natAbs
    have h3 := Int.tmod_nonneg b ha
    omega
  refine ⟨key a, fun ha => ?_⟩
  have h := key (-a) (by omega)
  rw [Int.neg_tmod] at h
  omega
theorem min_max (k : IntKind) : k.min ≤ 0 ∧ 0 ≤ k.max := by cases k <;> decide
theorem tmod_wf {k : IntKind} {a b : Int} (ha : (Lit.int k a).wf = true) : (Lit.int k (a.tmod b)).wf = true := by
  have h := tmod_le a b
  have hm := min_max k
  simp only [Lit.wf, Bool.and_eq_true, decide_eq_true_eq] at ha ⊢
  rcases Int.le_total 0 a with h0 | h0
  · have := h.1 h0; omega
  · have := h.2 h0; omega
theorem run_intV {op : BinOp} {k : IntKind} {t : TypeId} {a b : Int} {p : Option Prop} {v : AV} (h : intV op k a b = some (p, v)) (hp : andO p True) (ha : (Lit.int k a).wf = true) :
    ∃ r, (∀ w, (binOp op t (.int k a) (.int k b)).run P w = .ok r w) ∧ ∀ w S blk H, Conc w S blk H v r := by
  cases op <;> cases h
  case add => exact ⟨_, fun w => by simp [binOp, Op.intArith], fun _ _ _ _ => .i (wf_wrap _ _)⟩
  case sub => exact ⟨_, fun w => by simp [binOp, Op.intArith], fun _ _ _ _ => .i (wf_wrap _ _)⟩
  case mul => exact ⟨_, fun w => by simp [binOp, Op.intArith], fun _ _ _ _ => .i (wf_wrap _ _)⟩
  case quo => exact ⟨_, fun w => by simp [binOp, Op.intDiv, hp.1], fun _ _ _ _ => .i (wf_wrap _ _)⟩
  case rem => exact ⟨_, fun w => by simp [binOp, Op.intDiv, hp.1], fun _ _ _ _ => .i (tmod_wf ha)⟩
  case and => exact ⟨.int k (bits .and k a b), fun w => by simp [binOp, Op.intBits, bits], fun _ _ _ _ => .i (wf_bits _ _ _ _)⟩
  case or => exact ⟨.int k (bits .or k a b), fun w => by simp [binOp, Op.intBits, bits], fun _ _ _ _ => .i (wf_bits _ _ _ _)⟩
  case xor => exact ⟨.int k (bits .xor k a b), fun w => by simp [binOp, Op.intBits, bits], fun _ _ _ _ => .i (wf_bits _ _ _ _)⟩
  case andNot => exact ⟨.int k (bits .andNot k a b), fun w => by simp [binOp, Op.intBits, bits], fun _ _ _ _ => .i (wf_bits _ _ _ _)⟩
  all_goals exact ⟨_, fun w => by simp [binOp, Op.intCmp] <;> rfl, fun _ _ _ _ => .b _⟩
theorem strEq (p q : ByteArray) : (p.toList == q.toList) = decide (p = q) := by
  rw [ByteArray.toList_eq, ByteArray.toList_eq, Bool.eq_iff_iff, beq_iff_eq, decide_eq_true_eq]
  constructor
  · intro h
    cases p
    cases q
    exact congrArg ByteArray.mk (Array.ext' h)
  · rintro rfl
    rfl
theorem run_strV {op : BinOp} {t : TypeId} {a b : ByteArray} {p : Option Prop} {v : AV} (h : strV op a b = some (p, v)) (hp : andO p True) :
    ∃ r, (∀ w, (binOp op t (.string a) (.string b)).run P w = .ok r w) ∧ ∀ w S blk H, Conc w S blk H v r := by
  cases op <;> cases h
  case add =>
    have h1 : a.size + b.size ≤ maxLen := hp.1
    refine ⟨.string (a ++ b), fun w => ?_, fun _ _ _ _ => .s (by simpa using h1)⟩
    unfold maxLen at h1
    have h2 : ¬ (((a.size + b.size : Nat) : Int) > IntKind.i64.max) := by
      have : IntKind.i64.max = 9223372036854775807 := by decide
      omega
    simp only [binOp, Op.stringOp]
    rw [if_neg h2]
    rfl
  all_goals exact ⟨_, fun w => by simp only [binOp, Op.stringOp, strEq]; rfl, fun _ _ _ _ => .b _⟩
theorem run_equalB {t : TypeId} (hT : P.underlying t = some .bool) (p q : Bool) (w : World) : (Op.equal t (.bool p) (.bool q)).run P w = .ok (p == q) w := by
  have : ∀ n, (Op.equalIn (n + 1) t (.bool p) (.bool q)).run P w = .ok (p == q) w := fun n => by simp [Op.equalIn, run_underlying hT]
  exact this 9999
theorem run_boolV {op : BinOp} {t : TypeId} {a b : Bool} {p : Option Prop} {v : AV} (hT : P.underlying t = some .bool) (h : boolV op a b = some (p, v)) :
    ∃ r, (∀ w, (binOp op t (.bool a) (.bool b)).run P w = .ok r w) ∧ ∀ w S blk H, Conc w S blk H v r := by
  cases op <;> cases h
  · refine ⟨_, fun w => ?_, fun _ _ _ _ => .b _⟩
    have h : binOp .eql t (.bool a) (.bool b) = (do pure (.bool (← Op.equal t (.bool a) (.bool b)))) := rfl
    rw [h, Sem.run_bind, run_equalB hT]
    rfl
  · refine ⟨_, fun w => ?_, fun _ _ _ _ => .b _⟩
    have h : binOp .neq t (.bool a) (.bool b) = (do pure (.bool (!(← Op.equal t (.bool a) (.bool b))))) := rfl
    rw [h, Sem.run_bind, run_equalB hT]
    rfl
def isB (E : Env) (t : Nat) : Bool := match E.T.get t with | some ti => (match ti.k with | .b => true | _ => false) | none => false
theorem isB_ok {t : Nat} (h : isB E t = true) : E.P.underlying t = some .bool := by
  unfold isB at h
  split at h
  · rename_i ti hti
    have hk := (E.ty hti).k
    split at h
    · rename_i hb
      rw [hb] at hk
      unfold tkOk at hk
      dsimp only at hk
      split at hk
      · assumption
      · cases hk
    · cases h
  · cases h
theorem run_guard_ok {op : BinOp} {t : TypeId} {x y : Operand} {u v : Value} {w : World} (h : (∃ k n, u = .int k n) ∨ (∃ b, u = .bool b) ∨ (∃ s, u = .string s) ∨ (∃ a n c, u = .slice a n c) ∨ (∃ a, u = .pointer a)) : (eqGuard op t x y u v).run P w = .ok () w := by
  unfold eqGuard
  rcases h with ⟨k, n, rfl⟩ | ⟨b, rfl⟩ | ⟨s, rfl⟩ | ⟨a, n, c, rfl⟩ | ⟨a, rfl⟩ <;> cases op <;> simp
def eqC : List SK → List AV → List AV → Option Bool
  | [], [], [] => some true
  | .i :: ks, .i .i64 a :: xs, .i .i64 b :: ys => (match eqC ks xs ys with | some r => some (decide (a = b) && r) | none => none)
  | .b :: ks, x :: xs, y :: ys => (match x, y with
    | .b a, .b b => (match eqC ks xs ys with | some r => some ((a == b) && r) | none => none)
    | .kb a, .b b => (match eqC ks xs ys with | some r => some ((a == b) && r) | none => none)
    | .b a, .kb b => (match eqC ks xs ys with | some r => some ((a == b) && r) | none => none)
    | .kb a, .kb b => (match eqC ks xs ys with | some r => some ((a == b) && r) | none => none)
    | _, _ => none)
  | .s :: ks, .s a :: xs, .s b :: ys => (match eqC ks xs ys with | some r => some (decide (a = b) && r) | none => none)
  | _, _, _ => none
theorem skOk_i {t : TypeId} (h : skOk P t .i = true) : ∃ k, P.underlying t = some (.int k) := by
  change (match P.underlying t with | some (.int _) => true | _ => false) = true at h
  split at h
  · rename_i k hu; exact ⟨k, hu⟩
  · cases h
theorem skOk_b {t : TypeId} (h : skOk P t .b = true) : P.underlying t = some .bool := by
  change (match P.underlying t with | some .bool => true | _ => false) = true at h
  split at h
  · assumption
  · cases h
theorem skOk_s {t : TypeId} (h : skOk P t .s = true) : P.underlying t = some .string := by
  change (match P.underlying t with | some .string => true | _ => false) = true at h
  split at h
  · assumption
  · cases h
theorem run_part_one {t : TypeId} {k : SK} (hk : skOk P t k = true) {w : World} {cs : Array Value} {o : Nat} {v : Value} (hv : cs[o]? = some v) : (part t cs o).run P w = .ok v w := by
  have : (isAgg t).run P w = .ok false w := by
    unfold skOk at hk
    cases hu : P.underlying t with
    | none => rw [hu] at hk; cases k <;> cases hk
    | some d =>
      rw [hu] at hk
      cases k <;> cases d <;> first | (simp [isAgg, run_underlying hu]; done) | cases hk
  simp [part, this, hv]
theorem eqC_run {w : World} {S : Nat → Prop} {blk : Nat → BC} {dd : Nat} {us vs : Array Value} : ∀ (fs : List Field) (ks : List SK) (o : Nat) (xs ys : List AV) (b : Bool), flOk P o fs ks = true → eqC ks xs ys = some b →
    (∀ (j : Nat) (c : AV), xs[j]? = some c → ∃ u, us[o + j]? = some u ∧ Conc w S blk H c u) → (∀ (j : Nat) (c : AV), ys[j]? = some c → ∃ u, vs[o + j]? = some u ∧ Conc w S blk H c u) →
    (Op.eqFields (dd + 1) us vs fs).run P w = .ok b w
  | [], [], o, xs, ys, b, hf, he, hx, hy => by
    cases xs with
    | nil => cases ys with
      | nil => cases he; rfl
      | cons => cases he
    | cons => cases he
  | [], _ :: _, o, xs, ys, b, hf, he, hx, hy => by cases hf
  | _ :: _, [], o, xs, ys, b, hf, he, hx, hy => by cases hf
  | f :: fs, k :: ks, o, xs, ys, b, hf, he, hx, hy => by
    unfold flOk at hf
    rw [Bool.and_eq_true, Bool.and_eq_true, Bool.and_eq_true] at hf
    obtain ⟨h1, h2, h3, h4⟩ := hf
    have ho : f.offset = o := Nat.eq_of_beq_eq_true h2
    have step : ∀ (x y : AV) (u0 v0 : Value) (xs' ys' : List AV) (b1 b2 : Bool), (∀ u, Conc w S blk H x u → u = u0) → (∀ v, Conc w S blk H y v → v = v0) → xs = x :: xs' → ys = y :: ys' → eqC ks xs' ys' = some b2 → b = (b1 && b2) → (∀ w : World, (Op.equalIn (dd + 1) f.type u0 v0).run P w = .ok b1 w) →
        (Op.eqFields (dd + 1) us vs (f :: fs)).run P w = .ok b w := by
      intro x y u0 v0 xs' ys' b1 b2 hxu hyv hxs hys hb2 hb heq1
      subst hxs hys
      obtain ⟨u, hu, hcu⟩ := hx 0 _ rfl
      obtain ⟨v, hv, hcv⟩ := hy 0 _ rfl
      obtain rfl := hxu _ hcu
      obtain rfl := hyv _ hcv
      have hrest := eqC_run (w := w) (S := S) (dd := dd) fs ks (o + 1) xs' ys' b2 h4 hb2 (fun j c hj => by
        obtain ⟨u, hu, hc⟩ := hx (j + 1) c (by simpa using hj)
        exact ⟨u, by rw [show o + 1 + j = o + (j + 1) by omega]; exact hu, hc⟩) (fun j c hj => by
        obtain ⟨u, hu, hc⟩ := hy (j + 1) c (by simpa using hj)
        exact ⟨u, by rw [show o + 1 + j = o + (j + 1) by omega]; exact hu, hc⟩)
      have hn : f.name ≠ "_" := by simpa using h1
      unfold Op.eqFields
      rw [if_pos hn]
      have p1 := run_part_one (P := P) h3 (w := w) (cs := us) (o := f.offset) (v := u) (by rw [ho]; exact hu)
      have p2 := run_part_one (P := P) h3 (w := w) (cs := vs) (o := f.offset) (v := v) (by rw [ho]; exact hv)
      simp only [Sem.run_bind, p1, p2, heq1, Result.andThen_ok]
      subst hb
      cases b1 with
      | true => simpa using hrest
      | false => simp
    have opt : ∀ {o : Option Bool} {g : Bool → Bool}, (match o with | some r => some (g r) | none => none) = some b → ∃ b2, o = some b2 ∧ b = g b2 := by
      intro o g h
      cases o with
      | none => cases h
      | some r => cases h; exact ⟨r, rfl, rfl⟩
    have bb := fun (x y : Bool) (w : World) => run_equalIn_bool' (P := P) w dd f.type x y
    unfold eqC at he
    split at he
    · contradiction
    · rename_i heq
      obtain ⟨b2, hb2, rfl⟩ := opt he
      cases heq
      refine step _ _ _ _ _ _ _ b2 (fun u hu => (inv_i hu).1) (fun u hu => (inv_i hu).1) rfl rfl hb2 rfl fun w => ?_
      obtain ⟨kd, hu⟩ := skOk_i h3
      exact run_equalIn_int w dd f.type _ kd _ _ hu
    · rename_i heq
      cases heq
      have hbk := skOk_b h3
      split at he
      · obtain ⟨b2, hb2, rfl⟩ := opt he
        exact step _ _ _ _ _ _ _ b2 (fun u hu => inv_b hu) (fun u hu => inv_b hu) rfl rfl hb2 rfl fun w => bb _ _ w hbk
      · obtain ⟨b2, hb2, rfl⟩ := opt he
        exact step _ _ _ _ _ _ _ b2 (fun u hu => inv_kb hu) (fun u hu => inv_b hu) rfl rfl hb2 rfl fun w => bb _ _ w hbk
      · obtain ⟨b2, hb2, rfl⟩ := opt he
        exact step _ _ _ _ _ _ _ b2 (fun u hu => inv_b hu) (fun u hu => inv_kb hu) rfl rfl hb2 rfl fun w => bb _ _ w hbk
      · obtain ⟨b2, hb2, rfl⟩ := opt he
        exact step _ _ _ _ _ _ _ b2 (fun u hu => inv_kb hu) (fun u hu => inv_kb hu) rfl rfl hb2 rfl fun w => bb _ _ w hbk
      · cases he
    · rename_i heq
      obtain ⟨b2, hb2, rfl⟩ := opt he
      cases heq
      refine step _ _ _ _ _ _ _ b2 (fun u hu => (inv_s hu).1) (fun u hu => (inv_s hu).1) rfl rfl hb2 rfl fun w => ?_
      rw [run_equalIn_string w dd f.type _ _ (skOk_s h3), strEq]
    · cases he
theorem run_eqS {t : Nat} {ks : List SK} (hok : sqOk P t ks = true) {w : World} {S : Nat → Prop} {blk : Nat → BC} {xs ys : List AV} {b : Bool} (hb : eqC ks xs ys = some b) {u v : Value} (hu : Conc w S blk H (.agg xs) u) (hv : Conc w S blk H (.agg ys) v) (o1 o2 : Operand) (op : BinOp) :
    ((eqGuard op t o1 o2 u v).run P w = .ok () w) ∧ (binOp .eql t u v).run P w = .ok (.bool b) w ∧ (binOp .neq t u v).run P w = .ok (.bool (!b)) w := by
  unfold sqOk at hok
  rw [Bool.and_eq_true, Bool.and_eq_true, Bool.and_eq_true] at hok
  obtain ⟨h1, h2, h3, h4⟩ := hok
  have hst : P.underlying t = some (.struct (P.fieldsOf t)) := by
    unfold Program.fieldsOf
    split at h1
    · rename_i fs hfs; rw [hfs]
    · cases h1
  obtain ⟨us, rfl, hul, huc⟩ := inv_agg hu
  obtain ⟨vs, rfl, hvl, hvc⟩ := inv_agg hv
  have he := eqC_run (w := w) (S := S) (blk := blk) (dd := 9998) (us := us.toArray) (vs := vs.toArray) (P.fieldsOf t).toList ks 0 xs ys b h4 hb (fun j c hj => by
    have hl : j < us.length := by rw [hul]; exact (List.getElem?_eq_some_iff.1 hj).1
    refine ⟨us[j], by simp [hl], huc j c _ hj (List.getElem?_eq_getElem hl)⟩) (fun j c hj => by
    have hl : j < vs.length := by rw [hvl]; exact (List.getElem?_eq_some_iff.1 hj).1
    refine ⟨vs[j], by simp [hl], hvc j c _ hj (List.getElem?_eq_getElem hl)⟩)
  have he2 : (Op.equalIn 10000 t (.agg us.toArray) (.agg vs.toArray)).run P w = .ok b w := by
    rw [show (10000 : Nat) = 9999 + 1 from rfl, run_equalIn_struct w 9999 t _ _ hst (by simpa using h2)]
    exact he
  refine ⟨run_eqGuard_agg w op t o1 o2 _ _ (by simpa using h3), ?_, ?_⟩
  · rw [run_eql_struct, he2]; rfl
  · rw [run_neq_struct, he2]; rfl
def cmb (r : Option (Option Prop × AV)) (K : AV → Prop) : Prop :=
  match r with
  | some (p, v) => andO p (K v)
  | none => False
def binK (E : Env) (f : Fr) (op : BinOp) (t : TypeId) (x y : Operand) (K : AV → Prop) : Prop :=
  match ev f x with
  | .i k a => (match ev f y with
    | .i k' b => bif decide (k = k') then cmb (intV op k a b) K else False
    | _ => False)
  | .s a => (match ev f y with
    | .s b => cmb (strV op a b) K
    | _ => False)
  | .b a => (match ev f y with
    | .b b => bif isB E t then cmb (boolV op a b) K else False
    | .kb b => bif isB E t then cmb (boolV op a b) K else False
    | _ => False)
  | .kb a => (match ev f y with
    | .b b => bif isB E t then cmb (boolV op a b) K else False
    | .kb b => bif isB E t then cmb (boolV op a b) K else False
    | _ => False)
  | .agg xs => (match ev f y with
    | .agg ys => (match E.T.get t with
      | some ti => (match ti.sq with
        | some ks => (match eqC ks xs ys with
          | some b => (match op with | .eql => K (.b b) | .neq => K (.b (!b)) | _ => False)
          | none => False)
        | none => False)
      | none => False)
    | _ => False)
  | _ => False
theorem cmb_ok {r : Option (Option Prop × AV)} (h : cmb r K) : ∃ p v, r = some (p, v) ∧ andO p True ∧ K v := by
  unfold cmb at h
  split at h
  · rename_i p v; exact ⟨p, v, rfl, andO_2 h, andO_1 h⟩
  · cases h
theorem binK_ok {op : BinOp} {t t' : TypeId} {x y : Operand} (h : binK E f op t x y K) : ∃ v, RD E.P nt X (.binOp op t x y t') ty f H v ∧ K v := by
  unfold binK at h
  have scal : ∀ {u v : Value} {z : AV}, ((∃ k n, u = .int k n) ∨ (∃ b, u = .bool b) ∨ (∃ s, u = .string s) ∨ (∃ a n c, u = .slice a n c) ∨ (∃ a, u = .pointer a)) → (∀ blk FP a w, StB nt X f H blk FP a w → a.eval x = u ∧ a.eval y = v) →
      (∃ r, (∀ w, (binOp op t u v).run E.P w = .ok r w) ∧ ∀ w S blk H, Conc w S blk H z r) → RD E.P nt X (.binOp op t x y t') ty f H z := by
    rintro u v z hu hxy ⟨r, hr, hc⟩ blk FP a w s
    obtain ⟨e1, e2⟩ := hxy blk FP a w s
    exact ⟨r, fun _ _ _ _ => by simp [execOp, e1, e2, run_guard_ok hu, hr], hc _ _ _ _⟩
  split at h
  · rename_i k a hx
    split at h
    · rename_i k' b hy
      cases hk : decide (k = k') with
      | false => rw [hk] at h; cases h
      | true =>
        rw [hk] at h
        have hk' := of_decide_eq_true hk
        subst hk'
        obtain ⟨p, v, hv, hp, hK⟩ := cmb_ok h
        by_cases hw : (Lit.int k a).wf = true
        · exact ⟨v, scal (.inl ⟨_, _, rfl⟩) (fun blk FP c w s => ⟨(inv_i (hx ▸ s.ev x)).1, (inv_i (hy ▸ s.ev y)).1⟩) (run_intV hv hp hw), hK⟩
        · exact ⟨v, fun blk FP c w s => absurd (inv_i (hx ▸ s.ev x)).2 hw, hK⟩
    · cases h
  · rename_i a hx
    split at h
    · rename_i b hy
      obtain ⟨p, v, hv, hp, hK⟩ := cmb_ok h
      exact ⟨v, scal (.inr (.inr (.inl ⟨_, rfl⟩))) (fun blk FP c w s => ⟨(inv_s (hx ▸ s.ev x)).1, (inv_s (hy ▸ s.ev y)).1⟩) (run_strV hv hp), hK⟩
    · cases h
  · rename_i a hx
    split at h
    · rename_i b hy
      cases hb : isB E t with
      | false => rw [hb] at h; cases h
      | true =>
        rw [hb] at h
        obtain ⟨p, v, hv, hp, hK⟩ := cmb_ok h
        exact ⟨v, scal (.inr (.inl ⟨_, rfl⟩)) (fun blk FP c w s => ⟨inv_b (hx ▸ s.ev x), inv_b (hy ▸ s.ev y)⟩) (run_boolV (isB_ok hb) hv), hK⟩
    · rename_i b hy
      cases hb : isB E t with
      | false => rw [hb] at h; cases h
      | true =>
        rw [hb] at h
        obtain ⟨p, v, hv, hp, hK⟩ := cmb_ok h
        exact ⟨v, scal (.inr (.inl ⟨_, rfl⟩)) (fun blk FP c w s => ⟨inv_b (hx ▸ s.ev x), inv_kb (hy ▸ s.ev y)⟩) (run_boolV (isB_ok hb) hv), hK⟩
    · cases h
  · rename_i a hx
    split at h
    · rename_i b hy
      cases hb : isB E t with
      | false => rw [hb] at h; cases h
      | true =>
        rw [hb] at h
        obtain ⟨p, v, hv, hp, hK⟩ := cmb_ok h
        exact ⟨v, scal (.inr (.inl ⟨_, rfl⟩)) (fun blk FP c w s => ⟨inv_kb (hx ▸ s.ev x), inv_b (hy ▸ s.ev y)⟩) (run_boolV (isB_ok hb) hv), hK⟩
    · rename_i b hy
      cases hb : isB E t with
      | false => rw [hb] at h; cases h
      | true =>
        rw [hb] at h
        obtain ⟨p, v, hv, hp, hK⟩ := cmb_ok h
        exact ⟨v, scal (.inr (.inl ⟨_, rfl⟩)) (fun blk FP c w s => ⟨inv_kb (hx ▸ s.ev x), inv_kb (hy ▸ s.ev y)⟩) (run_boolV (isB_ok hb) hv), hK⟩
    · cases h
  · rename_i xs hx
    split at h
    · rename_i ys hy
      split at h
      · rename_i ti hti
        split at h
        · rename_i ks hks
          split at h
          · rename_i b hb
            have hsq := (E.ty hti).sq ks hks
            split at h
            · refine ⟨_, fun blk FP a w s => ?_, h⟩
              obtain ⟨h1, h2, h3⟩ := run_eqS hsq hb (hx ▸ s.ev x) (hy ▸ s.ev y) x y .eql
              exact ⟨_, fun _ _ _ _ => by simp [execOp, h1, h2], .b _⟩
            · refine ⟨_, fun blk FP a w s => ?_, h⟩
              obtain ⟨h1, h2, h3⟩ := run_eqS hsq hb (hx ▸ s.ev x) (hy ▸ s.ev y) x y .neq
              exact ⟨_, fun _ _ _ _ => by simp [execOp, h1, h3], .b _⟩
            · cases h
          · cases h
        · cases h
      · cases h
    · cases h
  · cases h
def unK (f : Fr) (op : UnOp) (x : Operand) (K : AV → Prop) : Prop :=
  match op, ev f x with
  | .not, .b a => K (.b (!a))
  | .not, .kb a => K (.kb (!a))
  | .neg, .i k n => K (.i k (k.wrap (0 - n)))
  | _, _ => False
theorem unK_ok {op : UnOp} {t : TypeId} {x : Operand} (h : unK f op x K) : ∃ v, RD P nt X (.unOp op t x) ty f H v ∧ K v := by
  unfold unK at h
  split at h
  · rename_i a hx
    exact ⟨_, fun blk FP c w s => ⟨_, fun _ _ _ _ => by simp [execOp, inv_b (hx ▸ s.ev x), Op.unary], .b _⟩, h⟩
  · rename_i a hx
    exact ⟨_, fun blk FP c w s => ⟨_, fun _ _ _ _ => by simp [execOp, inv_kb (hx ▸ s.ev x), Op.unary], .kb _⟩, h⟩
  · rename_i k n hx
    exact ⟨_, fun blk FP c w s => ⟨.int k (k.wrap (0 - n)), fun _ _ _ _ => by simp [execOp, (inv_i (hx ▸ s.ev x)).1, Op.unary, Op.intArith], .i (wf_wrap k (0 - n))⟩, h⟩
  · cases h
def cvK (E : Env) (f : Fr) (src dst : TypeId) (x : Operand) (K : AV → Prop) : Prop :=
  match E.T.get src, E.T.get dst with
  | some ts, some td => (match ev f x, td.k with
    | .i k n, .i k' => (match ts.k with | .i _ => K (.i k' (k'.wrap n)) | _ => False)
    | .s b, .s => (match ts.k with | .s => K (.s b) | _ => False)
    | _, _ => False)
  | _, _ => False
theorem und_i {t : Nat} {k : IntKind} {ti : TI} (hti : E.T.get t = some ti) (h : ti.k = .i k) : E.P.underlying t = some (.int k) := by
  have hk := (E.ty hti).k
  rw [h] at hk
  unfold tkOk at hk
  dsimp only at hk
  split at hk
  · rename_i k' hu; rw [hu, of_decide_eq_true hk]
  · cases hk
theorem und_s {t : Nat} {ti : TI} (hti : E.T.get t = some ti) (h : ti.k = .s) : E.P.underlying t = some .string := by
  have hk := (E.ty hti).k
  rw [h] at hk
  unfold tkOk at hk
  dsimp only at hk
  split at hk
  · assumption
  · cases hk
theorem cvK_ok {src dst : TypeId} {x : Operand} (h : cvK E f src dst x K) : ∃ v, RD E.P nt X (.convert src dst x) ty f H v ∧ K v := by
  unfold cvK at h
  split at h
  · rename_i ts td h1 h2
    split at h
    · rename_i k n k' hx hk
      split at h
      · rename_i k0 hk0
        refine ⟨_, fun blk FP c w s => ⟨_, fun _ _ _ _ => ?_, .i (wf_wrap k' n)⟩, h⟩
        simp [execOp, convert, run_underlying (und_i h1 hk0), run_underlying (und_i h2 hk), (inv_i (hx ▸ s.ev x)).1, Conv.intToInt]
      · cases h
    · rename_i b hx hk
      split at h
      · rename_i hk0
        refine ⟨_, fun blk FP c w s => ⟨.string b, fun _ _ _ _ => ?_, .s (inv_s (hx ▸ s.ev x)).2⟩, h⟩
        simp [execOp, convert, run_underlying (und_s h1 hk0), run_underlying (und_s h2 hk), (inv_s (hx ▸ s.ev x)).1]
      · cases h
    · cases h
  · cases h
def exK (f : Fr) (x : Operand) (i : Nat) (K : AV → Prop) : Prop :=
  match ev f x with
  | .tup cs => (match cs[i]? with | some c => K c | none => False)
  | _ => False
theorem exK_ok {x : Operand} {i : Nat} (h : exK f x i K) : ∃ v, RD P nt X (.extract x i) ty f H v ∧ K v := by
  unfold exK at h
  split at h
  · rename_i cs hx
    split at h
    · rename_i c hi
      refine ⟨_, fun blk FP a w s => ?_, h⟩
      obtain ⟨us, hev, hl, hu⟩ := inv_tup (hx ▸ s.ev x)
      have hlt : i < us.length := by rw [hl]; exact (List.getElem?_eq_some_iff.1 hi).1
      exact ⟨us[i], fun _ _ _ _ => by simp [execOp, hev, Instr.extract, hlt], hu i c _ hi (List.getElem?_eq_getElem hlt)⟩
    · cases h
  · cases h
def lenK (E : Env) (f : Fr) (t : TypeId) (x : Operand) (K : AV → Prop) : Prop :=
  match E.T.get t with
  | none => False
  | some ti => (match ti.k, ev f x with
    | .sl _, .sl _ n _ => K (.i .i64 n)
    | .sl _, .row _ n => K (.i .i64 n)
    | .sl _, .nils => K (.i .i64 0)
    | .s, .s b => K (.i .i64 b.size)
    | _, _ => False)
theorem wf_len {n : Nat} (h : n ≤ maxLen) : (Lit.int .i64 (n : Int)).wf = true := by
  unfold maxLen at h
  simp only [Lit.wf, IntKind.min, IntKind.max, IntKind.signed, IntKind.bits]
  simp
  omega
theorem und_sl {t e : Nat} {ti : TI} (hti : E.T.get t = some ti) (h : ti.k = .sl e) : E.P.underlying t = some (.slice e) := by
  have hk := (E.ty hti).k
  rw [h] at hk
  unfold tkOk at hk
  dsimp only at hk
  split at hk
  · rename_i e' he; rw [he, Nat.eq_of_beq_eq_true hk]
  · cases hk
theorem row_len {w : World} {S : Nat → Prop} {blk : Nat → BC} {id n : Nat} {u : Value} (hr : ∀ x, H[id]? = some x → x ≠ none) (hlt : id < H.length) (h : Conc w S blk H (.row id n) u) : ∃ a c, u = .slice a n c ∧ n ≤ maxLen := by
  cases hx : H[id]? with
  | none => rw [List.getElem?_eq_none_iff] at hx; omega
  | some x =>
    cases x with
    | none => exact absurd rfl (hr _ hx)
    | some r =>
      rcases inv_row hx h with ⟨hev, h1, h3, _, h2⟩ | ⟨a, hev, h1, _⟩
      · exact ⟨_, _, hev, by omega⟩
      · subst h1; exact ⟨a, 0, hev, Nat.zero_le _⟩
def live (H : Hp) (id : Nat) : Bool := match H[id]? with | some (some _) => true | _ => false
def lenK' (E : Env) (f : Fr) (H : Hp) (t : TypeId) (x : Operand) (K : AV → Prop) : Prop :=
  match ev f x with
  | .row id n => bif live H id then lenK E f t x K else False
  | _ => lenK E f t x K
theorem lenK_ok {t : TypeId} {x : Operand} (h : lenK' E f H t x K) : ∃ v, RD E.P nt X (.call ⟨.builtin .len, #[x], #[t]⟩) ty f H v ∧ K v := by
  have main : ∀ {z : AV}, (∀ blk FP a w, StB nt X f H blk FP a w → ∃ n : Nat, z = .i .i64 n ∧ n ≤ maxLen ∧ (Builtin.len_ #[t] ty #[a.eval x]).run E.P w = .ok (goInt n) w) → RD E.P nt X (.call ⟨.builtin .len, #[x], #[t]⟩) ty f H z := by
    intro z hz blk FP a w s
    obtain ⟨n, rfl, hm, hrun⟩ := hz blk FP a w s
    exact ⟨.int .i64 n, fun _ _ _ _ => by simp [execOp, resolve, invoke, builtin, hrun]; rfl, .i (wf_len hm)⟩
  have hl : lenK E f t x K ∧ ∀ id n, ev f x = .row id n → live H id = true := by
    unfold lenK' at h
    split at h
    · rename_i id n hx
      cases hv : live H id with
      | false => rw [hv] at h; cases h
      | true =>
        rw [hv] at h
        refine ⟨h, fun id' n' e => ?_⟩
        rw [hx] at e
        cases e
        exact hv
    · rename_i hx
      exact ⟨h, fun id' n' e => absurd e (hx id' n')⟩
  obtain ⟨h, hlive⟩ := hl
  unfold lenK at h
  split at h
  · cases h
  rename_i ti hti
  split at h
  · rename_i e sz n g hk hx
    refine ⟨_, main fun blk FP a w s => ?_, h⟩
    obtain ⟨ad, cap, hev, h1, h2⟩ := sl_form (hx ▸ s.ev x)
    exact ⟨n, rfl, Nat.le_trans h1 h2, by simp [Builtin.len_, run_underlying (und_sl hti hk), hev]⟩
  · rename_i e id n hk hx
    refine ⟨_, main fun blk FP a w s => ?_, h⟩
    have hv := hlive id n hx
    unfold live at hv
    have hne : ∀ x, H[id]? = some x → x ≠ none := by
      intro x hx e
      subst e
      rw [hx] at hv
      cases hv
    have hlt : id < H.length := by
      rcases Nat.lt_or_ge id H.length with h | h
      · exact h
      · rw [List.getElem?_eq_none h] at hv; cases hv
    obtain ⟨a', c', hev, hm⟩ := row_len hne hlt (hx ▸ s.ev x)
    exact ⟨n, rfl, hm, by simp [Builtin.len_, run_underlying (und_sl hti hk), hev]⟩
  · rename_i e hk hx
    refine ⟨_, main fun blk FP a w s => ?_, h⟩
    exact ⟨0, rfl, Nat.zero_le _, by simp [Builtin.len_, run_underlying (und_sl hti hk), inv_nils (hx ▸ s.ev x)]⟩
  · rename_i b hk hx
    refine ⟨_, main fun blk FP a w s => ?_, h⟩
    obtain ⟨hev, h2⟩ := inv_s (hx ▸ s.ev x)
    exact ⟨b.size, rfl, h2, by simp [Builtin.len_, run_underlying (und_s hti hk), hev]⟩
  · cases h
def ixK (E : Env) (f : Fr) (t : TypeId) (x y : Operand) (K : AV → Prop) : Prop :=
  match E.T.get t with
  | none => False
  | some ti => (match ti.k, ev f x, ev f y with
    | .s, .s b, .i _ z => (0 ≤ z ∧ z < b.size) ∧ K (.i .u8 ((b.data.getD z.toNat 0).toNat : Int))
    | _, _, _ => False)
theorem ixK_ok {t : TypeId} {x y : Operand} (h : ixK E f t x y K) : ∃ v, RD E.P nt X (.index t x y) ty f H v ∧ K v := by
  unfold ixK at h
  split at h
  · cases h
  rename_i ti hti
  split at h
  · rename_i b k z hk hx hy
    obtain ⟨⟨h0, hlt⟩, hK⟩ := h
    refine ⟨_, fun blk FP a w s => ?_, hK⟩
    have e1 := (inv_s (hx ▸ s.ev x)).1
    have e2 := (inv_i (hy ▸ s.ev y)).1
    have hz : z.toNat < b.size := by omega
    have hb : b[z.toNat]? = some (b.data.getD z.toNat 0) := by
      rw [getElem?_pos b z.toNat hz]
      have hz' : z.toNat < b.data.size := hz
      rw [Array.getD, dif_pos hz']
      rfl
    refine ⟨.int .u8 ((b.data.getD z.toNat 0).toNat : Int), fun _ _ _ _ => ?_, .i ?_⟩
    · simp only [execOp, e1, e2]
      simp [Instr.index, asIntOf, run_underlying (und_s hti hk), h0, hb]
    · have := (b.data.getD z.toNat 0).toNat_lt
      generalize (b.data.getD z.toNat 0).toNat = m at this
      simp only [Lit.wf, IntKind.min, IntKind.max, IntKind.signed, IntKind.bits]
      simp
      omega
  · cases h
end
end
end Go.Proofs.Ytdeledeopippfaa
