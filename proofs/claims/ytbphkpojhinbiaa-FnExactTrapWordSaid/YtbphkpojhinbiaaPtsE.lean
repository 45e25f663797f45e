/-
  The abstract layer: tests and sums, contracts (PC), calls by contract, a function's entry and its end.
-/
import Derived.Test.YtbphkpojhinbiaaPtsD
namespace Go.Proofs.Ytbphkpojhinbiaa
open Go Go.RowKit
set_option linter.unusedVariables false
set_option linter.unusedSimpArgs false

section
variable {P : Program} {nt : Nat} {X : Ctx} {f : Fr} {H : Hp} {N : Nat} {Q : Exit → Fr → Hp → Nat → Prop} {ops : Array Oper} {rest : List Oper}
  {d : Nat} {ty : TypeId} {pos : String} {after : Array Edge} {a : Act} {w : World}

/-- What is known of a tree that stands in the frame. -/
theorem pl_learn {t : D} {todo : List Oper} (i : Nat) (hx : lk f i = .d t) (h : WFD t → PL P nt X ops todo f H N Q) : PL P nt X ops todo f H N Q :=
  fun a w s => h ((inv_d (hx ▸ s.fr i)).wf) a w s
theorem pw_learn {t : D} {c : Code} (i : Nat) (hx : lk f i = .d t) (h : WFD t → PW P nt X c f H N Q) : PW P nt X c f H N Q :=
  fun a w s => h ((inv_d (hx ▸ s.fr i)).wf) a w s

/-! ### Contracts -/

def ConcL (w : World) (S : Nat → Prop) (H : Hp) (as : List AV) (us : List Value) : Prop :=
  us.length = as.length ∧ ∀ (j : Nat) (c : AV) (u : Value), as[j]? = some c → us[j]? = some u → Conc w S H c u

/-- THE CONTRACT: called at arguments that are so described the function returns; its result is so described; nothing that was there has turned. -/
def PC (P : Program) (g : FuncId) (as : List AV) (post : AV → Nat → Nat → Prop) : Prop :=
  ∀ (w : World) (S : Nat → Prop) (us : List Value), (∀ b, S b → b < w.heap.size) → ConcL w S [] as us →
    Calls P g us.toArray w fun e w' => ∃ r u, e = .returned u ∧ post r w.heap.size w'.heap.size ∧ Conc w' (fun b => S b ∨ (w.heap.size ≤ b ∧ b < w'.heap.size)) [] r u ∧ Below w.heap.size w w'

theorem PC.mono {g : FuncId} {as : List AV} {post post' : AV → Nat → Nat → Prop} (h : PC P g as post) (hp : ∀ r N N', post r N N' → post' r N N') : PC P g as post' :=
  fun w S us hS hc => (h w S us hS hc).mono fun e w' ⟨r, u, he, hq, hr, hb⟩ => ⟨r, u, he, hp _ _ _ hq, hr, hb⟩

/-- The function has a body: a call enters it. -/
class Fn (P : Program) (g : FuncId) : Prop where
  ent : ∀ (args : Array Value) (w : World), (callFunc g args).run P w = .ok (.enter g args) w

def clo1 : AV → Bool
  | .ptr .. | .row .. | .agg _ | .tup _ => false
  | .fn _ cs => cs.isEmpty
  | _ => true
/-- It speaks of no local row. -/
def clo : AV → Bool
  | .agg cs | .tup cs | .fn _ cs => cs.all clo1
  | x => clo1 x

theorem Conc.clo1 {S : Nat → Prop} {x : AV} {u : Value} (h : Conc w S H x u) (hx : clo1 x = true) (H' : Hp) : Conc w S H' x u := by
  cases x with
  | any => exact .any u
  | d t => exact .d (inv_d h)
  | ow fp t => exact .ow (inv_ow h).1 (inv_ow h).2
  | rf cs => obtain ⟨b, o, U, rfl, hS, hc, hu⟩ := inv_rf h; exact .rf b o cs U hS hc hu
  | ptr => cases hx
  | row => cases hx
  | agg => cases hx
  | tup => cases hx
  | fn g cs =>
    obtain ⟨us, rfl, hl, hu⟩ := inv_fn h
    have : cs = [] := by simpa [Go.Proofs.Ytbphkpojhinbiaa.clo1] using hx
    subst this
    exact .fn g [] us hl (by simp)

theorem Conc.clo {S : Nat → Prop} {x : AV} {u : Value} (h : Conc w S H x u) (hx : clo x = true) (H' : Hp) : Conc w S H' x u := by
  cases x with
  | agg cs => obtain ⟨us, rfl, hl, hu⟩ := inv_agg h; exact .agg cs us hl fun j c u hj hju => (hu j c u hj hju).clo1 (List.all_eq_true.1 hx c (List.mem_of_getElem? hj)) H'
  | tup cs => obtain ⟨us, rfl, hl, hu⟩ := inv_tup h; exact .tup cs us hl fun j c u hj hju => (hu j c u hj hju).clo1 (List.all_eq_true.1 hx c (List.mem_of_getElem? hj)) H'
  | fn g cs => obtain ⟨us, rfl, hl, hu⟩ := inv_fn h; exact .fn g cs us hl fun j c u hj hju => (hu j c u hj hju).clo1 (List.all_eq_true.1 hx c (List.mem_of_getElem? hj)) H'
  | any => exact h.clo1 hx H'
  | d => exact h.clo1 hx H'
  | ow => exact h.clo1 hx H'
  | rf => exact h.clo1 hx H'
  | ptr => exact h.clo1 hx H'
  | row => exact h.clo1 hx H'

/-- The state behind a call that turned nothing. -/
theorem St.called {w' : World} (s : St nt X f H N a w) (hb : Below N w w') : St nt X f H w'.heap.size a w' := by
  have hN := s.heap
  have hs := hb.size
  have hkeep : ∀ b, X.S H N b → X.S H w'.heap.size b ∧ w'.heap[b]? = w.heap[b]? := fun b hS => ⟨⟨hS.1, by have := hS.2.1; omega, hS.2.2⟩, hb.block b hS.2.1⟩
  refine ⟨s.defers, s.size, rfl, ?_, fun id r hr => ?_, s.inj, fun t => (s.fr t).mono hkeep (Same.refl H)⟩
  · have k := s.keeps
    exact ⟨hb.os.trans k.os, hb.tape.trans k.tape, hb.output.trans k.output, Nat.le_trans k.size hs, fun b h1 h2 => (hb.block b (by have := k.size; omega)).trans (k.block b h1 h2)⟩
  · obtain ⟨h1, h2⟩ := s.rows id r hr
    exact ⟨h1.mono (hb.block _ (by have := h1.lt; omega)) hkeep (Same.refl H), h2⟩

theorem St.low (s : St nt X f H N a w) : ∀ b, X.S H N b → b < w.heap.size := fun b hb => by rw [s.heap]; exact hb.2.1

/-- What a callee made is the caller's to keep. -/
theorem St.took {w' : World} (s : St nt X f H N a w) (b : Nat) (hb : X.S H N b ∨ (N ≤ b ∧ b < w'.heap.size)) (hs : N ≤ w'.heap.size) : X.S H w'.heap.size b := by
  rcases hb with h | h
  · exact ⟨h.1, by have := h.2.1; omega, h.2.2⟩
  · refine ⟨.inr ?_, h.2, fun id r hr => ?_⟩
    · have := s.keeps.size; have := s.heap; omega
    · have := (s.rows id r hr).1.lt; have := s.heap; omega

theorem eval_list (s : St nt X f H N a w) (xs : List Operand) : ConcL w (X.S H N) H (xs.map (ev f)) (xs.map a.eval) := by
  refine ⟨by simp, fun j c u hj hu => ?_⟩
  rw [List.getElem?_map] at hj hu
  obtain ⟨x, hx, rfl⟩ := Option.map_eq_some_iff.1 hj
  rw [hx] at hu
  cases hu
  exact s.ev x

theorem ConcL.append {S : Nat → Prop} {as bs : List AV} {us vs : List Value} (h : ConcL w S H as us) (k : ConcL w S H bs vs) : ConcL w S H (as ++ bs) (us ++ vs) := by
  refine ⟨by simp [h.1, k.1], fun j c u hj hu => ?_⟩
  rcases Nat.lt_or_ge j as.length with hlt | hge
  · rw [List.getElem?_append_left hlt] at hj
    rw [List.getElem?_append_left (by rw [h.1]; exact hlt)] at hu
    exact h.2 j c u hj hu
  · rw [List.getElem?_append_right hge] at hj
    rw [List.getElem?_append_right (by rw [h.1]; exact hge), h.1] at hu
    exact k.2 _ c u hj hu

/-- A call by contract; its arguments speak of no local row. -/
theorem pl_call {fx : Operand} {args : List Operand} {tys : Array TypeId} {g : FuncId} {caps as : List AV} {post : AV → Nat → Nat → Prop} [hF : Fn P g] (hf : ev f fx = .fn g caps) (has : args.map (ev f) ++ caps = as)
    (hclo : as.all clo = true) (hpc : PC P g as post) (hn : Nat.blt d nt = true)
    (h : ∀ r N', post r N N' → N ≤ N' → PL P nt X ops rest ((d, r) :: f) H N' Q) : PL P nt X ops (⟨some d, .call ⟨.value fx, args.toArray, tys⟩, ty, pos, after, none⟩ :: rest) f H N Q := by
  intro a w s
  subst has
  obtain ⟨us, hfv, hfl, hfu⟩ := inv_fn (hf ▸ s.ev fx)
  have hcl := (eval_list s args).append (bs := caps) (vs := us) ⟨hfl, hfu⟩
  have hcl' : ConcL w (X.S H N) [] (args.map (ev f) ++ caps) (args.map a.eval ++ us) := ⟨hcl.1, fun j c u hj hu => (hcl.2 j c u hj hu).clo (List.all_eq_true.1 hclo c (List.mem_of_getElem? hj)) []⟩
  have hcall := hpc w (X.S H N) _ s.low hcl'
  refine wpList_plain rfl fun K hK => ?_
  unfold Oper.wp
  have hrun : (execOp a.eval ⟨some d, .call ⟨.value fx, args.toArray, tys⟩, ty, pos, after, none⟩).run P w = .ok (.enter g (args.map a.eval ++ us).toArray) w := by
    simp [execOp, resolve, hfv, Deferred.ofValue, invoke, hF.ent]
  rw [hrun]
  refine hcall.mono fun e w' ⟨r, u, he, hq, hr, hb⟩ => ?_
  subst he
  have hN := s.heap
  rw [hN] at hq hb hr
  have hs : N ≤ w'.heap.size := by have := hb.size; omega
  refine hK _ _ (h r w'.heap.size hq hs _ _ ((s.called hb).put (Nat.le_of_ble_eq_true hn) ?_))
  refine hr.mono (fun b hb' => ⟨s.took b hb' hs, rfl⟩) ?_
  intro id r hr; simp at hr

/-- A call whose result is thrown away (a function without results). -/
theorem pl_call0 {fx : Operand} {args : List Operand} {tys : Array TypeId} {g : FuncId} {caps as : List AV} {post : AV → Nat → Nat → Prop} [hF : Fn P g] (hf : ev f fx = .fn g caps) (has : args.map (ev f) ++ caps = as)
    (hclo : as.all clo = true) (hpc : PC P g as post)
    (h : ∀ r N', post r N N' → N ≤ N' → PL P nt X ops rest f H N' Q) : PL P nt X ops (⟨none, .call ⟨.value fx, args.toArray, tys⟩, ty, pos, after, none⟩ :: rest) f H N Q := by
  intro a w s
  subst has
  obtain ⟨us, hfv, hfl, hfu⟩ := inv_fn (hf ▸ s.ev fx)
  have hcl := (eval_list s args).append (bs := caps) (vs := us) ⟨hfl, hfu⟩
  have hcl' : ConcL w (X.S H N) [] (args.map (ev f) ++ caps) (args.map a.eval ++ us) := ⟨hcl.1, fun j c u hj hu => (hcl.2 j c u hj hu).clo (List.all_eq_true.1 hclo c (List.mem_of_getElem? hj)) []⟩
  have hcall := hpc w (X.S H N) _ s.low hcl'
  refine wpList_plain rfl fun K hK => ?_
  unfold Oper.wp
  have hrun : (execOp a.eval ⟨none, .call ⟨.value fx, args.toArray, tys⟩, ty, pos, after, none⟩).run P w = .ok (.enter g (args.map a.eval ++ us).toArray) w := by
    simp [execOp, resolve, hfv, Deferred.ofValue, invoke, hF.ent]
  rw [hrun]
  refine hcall.mono fun e w' ⟨r, u, he, hq, hr, hb⟩ => ?_
  subst he
  have hN := s.heap
  rw [hN] at hq hb
  have hs : N ≤ w'.heap.size := by have := hb.size; omega
  exact hK _ _ (h r w'.heap.size hq hs _ _ (s.called hb))

/-! ### Entry and end -/

/-- The frame at the start. -/
def frm : Nat → List AV → Fr
  | _, [] => []
  | i, x :: r => (i, x) :: frm (i + 1) r

theorem lk_frm (as : List AV) : ∀ (i t : Nat), lk (frm i as) t = if t < i then .any else as.getD (t - i) .any := by
  induction as with
  | nil => intro i t; simp [frm, lk]
  | cons x r ih =>
    intro i t
    rw [frm, lk_cons, ih]
    by_cases h : i = t
    · subst h; simp
    · rw [if_neg h]
      by_cases h2 : t < i
      · rw [if_pos (by omega), if_pos h2]
      · rw [if_neg (by omega), if_neg h2, show t - i = (t - (i + 1)) + 1 by omega]
        simp

/-- What a result slot yields. -/
def rvSem (a : Act) : ResultVar → Sem Value
  | .tmp t => pure (a.tmps.getD t undef)
  | .cell p t => do loadVar t (← asAddr (a.tmps.getD p undef))

/-- A result slot holds x. -/
def Rv (P : Program) (nt : Nat) (X : Ctx) (f : Fr) (H : Hp) (N : Nat) (rv : ResultVar) (x : AV) : Prop :=
  ∀ a w, St nt X f H N a w → ∃ u, (rvSem a rv).run P w = .ok u w ∧ Conc w (X.S H N) H x u

theorem rv_tmp {t : Nat} {x : AV} (h : force (lk f t) = some x) : Rv P nt X f H N (.tmp t) x := fun a w s => ⟨_, rfl, force_eq h ▸ s.fr t⟩

theorem rv_cell {p t sz id i off : Nat} {agg : Bool} {r : LRow} {e : List AV} {x : AV} [hT : Ty P t sz agg] (hx : lk f p = .ptr id i off) (hr : H[id]? = some (some r)) (he : r.es[i]? = some e) (hl : Nat.ble (sz + off) e.length = true) (h1 : Nat.blt 0 sz = true)
    (h : force (ldA agg sz (e.drop off)) = some x) : Rv P nt X f H N (.cell p t) x := fun a w s => by
  cases force_eq h
  have hev := inv_ptr hr (hx ▸ s.fr p)
  obtain ⟨U, hc, hu⟩ := cells_of_row (s.rows id r hr).1 (off := off) he
  obtain ⟨u, hrun, hcu⟩ := run_loadVar_cells hT (b := r.blk) (o := i * r.sz + off) hc hu (by have := Nat.le_of_ble_eq_true hl; simp; omega) (Nat.le_of_ble_eq_true h1)
  have hev' : a.tmps[p]?.getD undef = .pointer (some ⟨r.blk, i * r.sz + off, none⟩) := by simpa using hev
  exact ⟨u, by simp [rvSem, hev', asAddr, hrun], hcu⟩

/-- What the caller sees of a value. -/
def Out (nt : Nat) (X : Ctx) (f : Fr) (H : Hp) (N : Nat) (x r : AV) : Prop :=
  ∀ a w, St nt X f H N a w → ∀ u, Conc w (X.S H N) H x u → Conc w (fun b => X.S0 b ∨ (X.w0.heap.size ≤ b ∧ b < N)) [] r u

theorem out_clo {x : AV} (h : clo x = true) : Out nt X f H N x x := fun a w s u hu =>
  (hu.clo h []).mono (fun b hb => ⟨hb.1.imp id fun h => ⟨h, hb.2.1⟩, rfl⟩) (by intro id r hr; simp at hr)

def pack : List AV → AV
  | [r] => r
  | rs => .tup rs

/-- The end of a function. -/
def Fin (P : Program) (nt : Nat) (X : Ctx) (rvs : List ResultVar) (post : AV → Nat → Nat → Prop) : Exit → Fr → Hp → Nat → Prop := fun e f H N =>
  (e = .ret ∨ e = .normal) ∧ ∃ xs rs : List AV, xs.length = rvs.length ∧ rs.length = rvs.length ∧
    (∀ (j : Nat) (rv : ResultVar) (x : AV), rvs[j]? = some rv → xs[j]? = some x → Rv P nt X f H N rv x) ∧
    (∀ (j : Nat) (x r : AV), xs[j]? = some x → rs[j]? = some r → Out nt X f H N x r) ∧ post (pack rs) X.w0.heap.size N

theorem mapM_run {f' : ResultVar → Sem Value} : ∀ (l : List ResultVar) (us : List Value), us.length = l.length → (∀ (j : Nat) rv u, l[j]? = some rv → us[j]? = some u → (f' rv).run P w = .ok u w) → (l.mapM f').run P w = .ok us w
  | [], us, hl, _ => by
    have : us = [] := List.eq_nil_of_length_eq_zero hl
    subst this
    simp
  | rv :: l, us, hl, h => by
    cases us with
    | nil => simp at hl
    | cons u us =>
      have ih := mapM_run l us (by simpa using hl) fun j rv u hj hu => h (j + 1) rv u (by simpa using hj) (by simpa using hu)
      have h0 := h 0 rv u rfl rfl
      simp [List.mapM_cons, h0, ih]

theorem fin_body {fn : Func} {post : AV → Nat → Nat → Prop} {e : Exit} (hm : X.mod = []) (s : St nt X f H N a w) (h : Fin P nt X fn.results.toList post e f H N) :
    bodyPost P fn (fun e w' => ∃ r u, e = .returned u ∧ post r X.w0.heap.size w'.heap.size ∧ Conc w' (fun b => X.S0 b ∨ (X.w0.heap.size ≤ b ∧ b < w'.heap.size)) [] r u ∧ Below X.w0.heap.size X.w0 w') e a w := by
  obtain ⟨he, xs, rs, hxl, hrl, hrv, hout, hpost⟩ := h
  have hN := s.heap
  have hbel : Below X.w0.heap.size X.w0 w := by
    have k := s.keeps
    rw [hm] at k
    exact k.below
  have hall : ∀ j : Nat, ∃ u : Value, ∀ (rv : ResultVar) (x r : AV), fn.results.toList[j]? = some rv → xs[j]? = some x → rs[j]? = some r →
      (rvSem a rv).run P w = .ok u w ∧ Conc w (fun b => X.S0 b ∨ (X.w0.heap.size ≤ b ∧ b < N)) [] r u := by
    intro j
    by_cases hj : j < fn.results.toList.length
    · obtain ⟨u, hu, hc⟩ := hrv j _ _ (List.getElem?_eq_getElem hj) (List.getElem?_eq_getElem (by omega)) a w s
      refine ⟨u, fun rv x r h1 h2 h3 => ?_⟩
      rw [List.getElem?_eq_getElem hj] at h1
      cases h1
      rw [List.getElem?_eq_getElem (by omega)] at h2
      cases h2
      exact ⟨hu, hout j _ _ (List.getElem?_eq_getElem (by omega)) h3 a w s u hc⟩
    · exact ⟨undef, fun rv x r h1 _ _ => by rw [List.getElem?_eq_none (by omega)] at h1; cases h1⟩
  let U : Nat → Value := fun j => Classical.choose (hall j)
  have hU := fun j => Classical.choose_spec (hall j)
  let us := (List.range fn.results.toList.length).map U
  have husl : us.length = fn.results.toList.length := by simp [us]
  have husg : ∀ (j : Nat) (u : Value), j < fn.results.toList.length → us[j]? = some u → u = U j := by
    intro j u hj hu
    simp only [us, List.getElem?_map, List.getElem?_range hj, Option.map_some, Option.some.injEq] at hu
    exact hu.symm
  have hrun : (fn.results.mapM (rvSem a)).run P w = .ok us.toArray w := by
    have := mapM_run (P := P) (w := w) (f' := rvSem a) fn.results.toList us husl (fun j rv u hj hu => by
      have hjl : j < fn.results.toList.length := (List.getElem?_eq_some_iff.1 hj).1
      have hu' : u = U j := husg j u hjl hu
      subst hu'
      exact (hU j rv _ _ hj (List.getElem?_eq_getElem (by omega)) (List.getElem?_eq_getElem (by omega))).1)
    rw [Array.mapM_eq_mapM_toList]
    simp [this]
  have hres : ∃ u, (results fn a.tmps).run P w = .ok u w ∧ Conc w (fun b => X.S0 b ∨ (X.w0.heap.size ≤ b ∧ b < N)) [] (pack rs) u := by
    have hcs : ∀ (j : Nat) (r : AV) (u : Value), rs[j]? = some r → us[j]? = some u → Conc w (fun b => X.S0 b ∨ (X.w0.heap.size ≤ b ∧ b < N)) [] r u := by
      intro j r u hj hu
      have hjl : j < fn.results.toList.length := by rw [← hrl]; exact (List.getElem?_eq_some_iff.1 hj).1
      have hu' : u = U j := husg j u hjl hu
      subst hu'
      exact (hU j _ _ r (List.getElem?_eq_getElem hjl) (List.getElem?_eq_getElem (by omega)) hj).2
    have hrr : ∀ u, (pure (if h : us.toArray.size = 1 then us.toArray[0] else .tuple us.toArray) : Sem Value).run P w = .ok u w → (results fn a.tmps).run P w = .ok u w := by
      intro u hu
      have hdef : results fn a.tmps = (do let vs ← fn.results.mapM (rvSem a); pure (if h : vs.size = 1 then vs[0] else .tuple vs)) := by
        unfold results
        congr 1
      rw [hdef, Sem.run_bind, hrun]
      exact hu
    match rs, hrl, hcs with
    | [r], hrl, hcs =>
      have h1 : us.length = 1 := by rw [husl, ← hrl]; rfl
      obtain ⟨u, hu⟩ := List.length_eq_one_iff.1 h1
      refine ⟨u, hrr _ (by simp [hu]), hcs 0 r u rfl (by rw [hu]; rfl)⟩
    | [], hrl, hcs =>
      have h1 : us.length = 0 := by rw [husl, ← hrl]; rfl
      refine ⟨.tuple us.toArray, hrr _ (by simp [h1]), .tup [] us (by rw [h1]; rfl) (by simp)⟩
    | r1 :: r2 :: rs, hrl, hcs =>
      have h1 : us.length = (r1 :: r2 :: rs).length := by rw [husl, ← hrl]
      have h2 : ¬ us.length = 1 := by rw [h1]; simp
      refine ⟨.tuple us.toArray, hrr _ (by simp [h2]), .tup _ us h1 hcs⟩
  obtain ⟨u, hu, hcu⟩ := hres
  have hfin : ∃ r u, Ending.returned u = .returned u ∧ post r X.w0.heap.size w.heap.size ∧ Conc w (fun b => X.S0 b ∨ (X.w0.heap.size ≤ b ∧ b < w.heap.size)) [] r u ∧ Below X.w0.heap.size X.w0 w :=
    ⟨_, u, rfl, by rw [hN]; exact hpost, by rw [hN]; exact hcu, hbel⟩
  rcases he with rfl | rfl
  · exact ⟨s.defers, u, hu, _, u, rfl, by rw [hN]; exact hpost, by rw [hN]; exact hcu, hbel⟩
  · exact ⟨s.defers, u, hu, _, u, rfl, by rw [hN]; exact hpost, by rw [hN]; exact hcu, hbel⟩

theorem pc_enter {g : FuncId} {fn : Func} {c : Code} {as : List AV} {post : AV → Nat → Nat → Prop} {rvs : List ResultVar} (hf : P.funcs[g]? = some fn) (hb : fn.body = some c) (hnt : fn.ntmps = nt) (hrv : fn.results.toList = rvs) (hle : Nat.ble as.length nt = true)
    (h : ∀ X : Ctx, X.mod = [] → PW P nt X c (frm 0 as) [] X.w0.heap.size (Fin P nt X rvs post)) : PC P g as post := by
  intro w S us hS hc
  subst hnt hrv
  let X : Ctx := ⟨w, S, []⟩
  have hle' := Nat.le_of_ble_eq_true hle
  refine calls_of_wp hf hb (wp_mono (h X rfl _ _ ?_) fun e a' w' l => ?_)
  · refine ⟨rfl, by simp [hc.1]; omega, rfl, Keeps.refl _ _, by simp, by simp, fun t => ?_⟩
    rw [lk_frm]
    simp only [Nat.not_lt_zero, if_false, Nat.sub_zero]
    by_cases ht : t < as.length
    · have hu : t < us.length := by rw [hc.1]; exact ht
      have h1 : as.getD t .any = as[t] := by simp [ht]
      have h2 : (us.toArray ++ Array.replicate (fn.ntmps - us.toArray.size) undef).getD t undef = us[t] := by simp [Array.getElem?_append, hu]
      rw [h1, h2]
      exact (hc.2 t _ _ (List.getElem?_eq_getElem ht) (List.getElem?_eq_getElem hu)).mono (fun b hb => ⟨⟨.inl hb, hS b hb, by simp⟩, rfl⟩) (by intro id r hr; simp at hr)
    · have h1 : as.getD t .any = .any := by simp [List.getElem?_eq_none (Nat.le_of_not_lt ht)]
      rw [h1]
      exact .any _
  · obtain ⟨f, H, N, q, s⟩ := l
    exact fin_body rfl s q

theorem fin1 {rv : ResultVar} {x r : AV} {post : AV → Nat → Nat → Prop} {e : Exit} (he : e = .ret ∨ e = .normal) (hr : Rv P nt X f H N rv x) (ho : Out nt X f H N x r) (hp : post r X.w0.heap.size N) : Fin P nt X [rv] post e f H N := by
  refine ⟨he, [x], [r], rfl, rfl, fun j rv' x' h1 h2 => ?_, fun j x' r' h1 h2 => ?_, hp⟩
  · cases j with
    | zero => cases h1; cases h2; exact hr
    | succ j => cases h1
  · cases j with
    | zero => cases h1; cases h2; exact ho
    | succ j => cases h1

theorem fin2 {rv1 rv2 : ResultVar} {x1 x2 r1 r2 : AV} {post : AV → Nat → Nat → Prop} {e : Exit} (he : e = .ret ∨ e = .normal) (h1 : Rv P nt X f H N rv1 x1) (h2 : Rv P nt X f H N rv2 x2) (o1 : Out nt X f H N x1 r1) (o2 : Out nt X f H N x2 r2)
    (hp : post (.tup [r1, r2]) X.w0.heap.size N) : Fin P nt X [rv1, rv2] post e f H N := by
  refine ⟨he, [x1, x2], [r1, r2], rfl, rfl, fun j rv' x' h h' => ?_, fun j x' r' h h' => ?_, hp⟩
  · match j with
    | 0 => cases h; cases h'; exact h1
    | 1 => cases h; cases h'; exact h2
    | j + 2 => cases h
  · match j with
    | 0 => cases h; cases h'; exact o1
    | 1 => cases h; cases h'; exact o2
    | j + 2 => cases h

theorem fin3 {rv1 rv2 rv3 : ResultVar} {x1 x2 x3 r1 r2 r3 : AV} {post : AV → Nat → Nat → Prop} {e : Exit} (he : e = .ret ∨ e = .normal) (h1 : Rv P nt X f H N rv1 x1) (h2 : Rv P nt X f H N rv2 x2) (h3 : Rv P nt X f H N rv3 x3)
    (o1 : Out nt X f H N x1 r1) (o2 : Out nt X f H N x2 r2) (o3 : Out nt X f H N x3 r3)
    (hp : post (.tup [r1, r2, r3]) X.w0.heap.size N) : Fin P nt X [rv1, rv2, rv3] post e f H N := by
  refine ⟨he, [x1, x2, x3], [r1, r2, r3], rfl, rfl, fun j rv' x' h h' => ?_, fun j x' r' h h' => ?_, hp⟩
  · match j with
    | 0 => cases h; cases h'; exact h1
    | 1 => cases h; cases h'; exact h2
    | 2 => cases h; cases h'; exact h3
    | j + 3 => cases h
  · match j with
    | 0 => cases h; cases h'; exact o1
    | 1 => cases h; cases h'; exact o2
    | 2 => cases h; cases h'; exact o3
    | j + 3 => cases h

theorem fin0 {post : AV → Nat → Nat → Prop} {e : Exit} (he : e = .ret ∨ e = .normal) (hp : post (.tup []) X.w0.heap.size N) : Fin P nt X [] post e f H N :=
  ⟨he, [], [], rfl, rfl, by simp, by simp, hp⟩

end
end Go.Proofs.Ytbphkpojhinbiaa
