/- Texts for VWithOwnP. -/
import Derived.Test.YtfaadafgbhmlfaaChecked
import Derived.KernelRfl
import Derived.Test.YtfaadafgbhmlfaaVw15
namespace Go.Proofs.Ytfaadafgbhmlfaa
open Go Go.RowKit
set_option linter.unusedVariables false
set_option linter.unusedSimpArgs false
section
open Go
def envT : Tr TI := (.nd (.nd (.nd (.nd (.nd (.nd (.nd .nil (.some ⟨1, false, 8, .o, some [.nilFunc], [], none⟩) .nil) (.some ⟨3, true, 40, .st, some [.int .i64 0, .string ByteArray.empty, .string ByteArray.empty], [(0, 1, false), (1, 1, false), (2, 1, false)], some [.i, .s, .s]⟩) .nil) (.some ⟨1, false, 8, .p, some [.pointer none], [], none⟩) (.nd (.nd .nil (.some ⟨0, true, 0, .st, some [], [(0, 0, true)], none⟩) .nil) (.some ⟨1, false, 16, .o, some [.nilIface], [], none⟩) .nil)) (.some ⟨4, true, 24, .st, some [.int .i64 0, .int .i64 0, .bool false, .int .u8 0], [(0, 1, false), (1, 1, false), (2, 1, false), (3, 1, false)], none⟩) (.nd (.nd (.nd .nil (.some ⟨1, false, 8, .o, some [.nilFunc], [], none⟩) .nil) .none .nil) (.some ⟨1, false, 8, .o, some [.nilFunc], [], none⟩) (.nd (.nd .nil (.some ⟨11, true, 48, .st, some [.int .u64 0, .int .u64 0, .int .u32 0, .int .u8 0, .int .u8 0, .int .u8 0, .int .u8 0, .nilFunc, .pointer none, .int .i32 0, .int .i32 0], [(0, 1, false), (1, 1, false), (2, 1, false), (3, 1, false), (4, 1, false), (5, 1, false), (6, 1, false), (7, 1, false), (8, 1, false), (9, 1, false), (10, 1, false)], none⟩) .nil) (.some ⟨1, false, 8, .o, some [.nilFunc], [], none⟩) .nil))) (.some ⟨1, false, 8, .i .i64, some [.int .i64 0], [], none⟩) (.nd (.nd (.nd (.nd .nil (.some ⟨1, false, 8, .o, some [.nilFunc], [], none⟩) .nil) .none .nil) (.some ⟨1, true, 8, .st, some [.pointer none], [(0, 1, false)], none⟩) (.nd (.nd .nil (.some ⟨1, false, 1, .i .u8, some [.int .u8 0], [], none⟩) .nil) (.some ⟨1, false, 8, .o, some [.nilFunc], [], none⟩) .nil)) (.some ⟨1, false, 16, .s, some [.string ByteArray.empty], [], none⟩) (.nd (.nd (.nd .nil (.some ⟨1, false, 8, .i .u64, some [.int .u64 0], [], none⟩) .nil) (.some ⟨1, false, 8, .o, some [.nilFunc], [], none⟩) .nil) (.some ⟨1, false, 8, .o, some [.nilFunc], [], none⟩) (.nd .nil (.some ⟨1, false, 8, .o, some [.nilFunc], [], none⟩) .nil)))) (.some ⟨1, false, 8, .o, some [.nilFunc], [], none⟩) (.nd (.nd (.nd (.nd (.nd .nil (.some ⟨1, false, 8, .p, some [.pointer none], [], none⟩) .nil) (.some ⟨1, false, 8, .o, some [.nilFunc], [], none⟩) .nil) (.some ⟨1, false, 8, .p, some [.pointer none], [], none⟩) (.nd (.nd .nil (.some ⟨1, false, 4, .i .u32, some [.int .u32 0], [], none⟩) .nil) .none .nil)) (.some ⟨1, false, 16, .s, some [.string ByteArray.empty], [], none⟩) (.nd (.nd (.nd .nil (.some ⟨1, false, 8, .o, some [.nilFunc], [], none⟩) .nil) (.some ⟨1, false, 8, .o, some [.nilFunc], [], none⟩) .nil) (.some ⟨1, false, 24, .sl 31, some [.slice none 0 0], [], none⟩) (.nd .nil (.some ⟨1, false, 8, .o, some [.nilFunc], [], none⟩) .nil))) (.some ⟨1, false, 1, .i .u8, some [.int .u8 0], [], none⟩) (.nd (.nd (.nd .nil (.some ⟨1, false, 24, .sl 5, some [.slice none 0 0], [], none⟩) .nil) (.some ⟨1, false, 4, .i .i32, some [.int .i32 0], [], none⟩) (.nd (.nd .nil (.some ⟨1, false, 4, .i .i32, some [.int .i32 0], [], none⟩) .nil) (.some ⟨1, false, 8, .o, some [.nilFunc], [], none⟩) .nil)) (.some ⟨2, true, 24, .st, some [.string ByteArray.empty, .int .u64 0], [(0, 1, false), (1, 1, false)], none⟩) (.nd (.nd (.nd .nil (.some ⟨4, true, 40, .st, some [.pointer none, .pointer none, .pointer none, .string ByteArray.empty], [(0, 1, false), (1, 1, false), (2, 1, false), (3, 1, false)], none⟩) .nil) (.some ⟨2, true, 32, .st, some [.pointer none, .slice none 0 0], [(0, 1, false), (1, 1, false)], none⟩) .nil) (.some ⟨1, false, 8, .o, some [.nilFunc], [], none⟩) (.nd .nil (.some ⟨1, false, 8, .o, some [.nilFunc], [], none⟩) .nil))))) .none (.nd (.nd (.nd (.nd (.nd (.nd .nil (.some ⟨1, false, 8, .i .u64, some [.int .u64 0], [], none⟩) .nil) (.some ⟨1, false, 8, .o, some [.nilFunc], [], none⟩) .nil) (.some ⟨1, false, 8, .p, some [.pointer none], [], none⟩) (.nd (.nd .nil (.some ⟨0, true, 0, .st, some [], [(0, 0, true)], none⟩) .nil) (.some ⟨1, false, 16, .o, some [.nilIface], [], none⟩) .nil)) (.some ⟨4, true, 24, .st, some [.int .i64 0, .int .i64 0, .bool false, .int .u8 0], [(0, 1, false), (1, 1, false), (2, 1, false), (3, 1, false)], none⟩) (.nd (.nd .nil (.some ⟨1, false, 8, .o, some [.nilFunc], [], none⟩) .nil) (.some ⟨1, false, 8, .o, some [.nilFunc], [], none⟩) (.nd (.nd .nil (.some ⟨11, true, 48, .st, some [.int .u64 0, .int .u64 0, .int .u32 0, .int .u8 0, .int .u8 0, .int .u8 0, .int .u8 0, .nilFunc, .pointer none, .int .i32 0, .int .i32 0], [(0, 1, false), (1, 1, false), (2, 1, false), (3, 1, false), (4, 1, false), (5, 1, false), (6, 1, false), (7, 1, false), (8, 1, false), (9, 1, false), (10, 1, false)], none⟩) .nil) (.some ⟨1, false, 8, .o, some [.nilFunc], [], none⟩) .nil))) (.some ⟨1, false, 1, .b, some [.bool false], [], none⟩) (.nd (.nd (.nd (.nd .nil (.some ⟨1, false, 8, .o, some [.nilFunc], [], none⟩) .nil) (.some ⟨1, false, 8, .o, some [.nilFunc], [], none⟩) .nil) (.some ⟨1, false, 16, .o, some [.nilIface], [], none⟩) (.nd (.nd .nil (.some ⟨1, false, 8, .o, some [.nilFunc], [], none⟩) .nil) (.some ⟨1, false, 8, .o, some [.nilFunc], [], none⟩) .nil)) (.some ⟨1, false, 8, .i .u64, some [.int .u64 0], [], none⟩) (.nd (.nd (.nd .nil (.some ⟨4, true, 40, .st, some [.pointer none, .pointer none, .pointer none, .string ByteArray.empty], [(0, 1, false), (1, 1, false), (2, 1, false), (3, 1, false)], none⟩) .nil) (.some ⟨1, false, 8, .p, some [.pointer none], [], none⟩) .nil) (.some ⟨1, false, 8, .o, some [.nilFunc], [], none⟩) .nil))) (.some ⟨1, false, 8, .i .i64, some [.int .i64 0], [], none⟩) (.nd (.nd (.nd (.nd .nil (.some ⟨1, false, 8, .o, some [.nilFunc], [], none⟩) .nil) (.some ⟨1, true, 8, .st, some [.pointer none], [(0, 1, false)], none⟩) (.nd (.nd .nil (.some ⟨1, false, 1, .i .u8, some [.int .u8 0], [], none⟩) .nil) (.some ⟨1, false, 8, .o, some [.nilFunc], [], none⟩) .nil)) (.some ⟨1, false, 16, .s, some [.string ByteArray.empty], [], none⟩) (.nd (.nd (.nd .nil (.some ⟨1, false, 8, .o, some [.nilFunc], [], none⟩) .nil) (.some ⟨1, false, 8, .o, some [.nilFunc], [], none⟩) .nil) .none .nil)) (.some ⟨1, false, 1, .i .u8, some [.int .u8 0], [], none⟩) (.nd (.nd (.nd (.nd .nil (.some ⟨1, false, 8, .o, some [.nilFunc], [], none⟩) .nil) (.some ⟨1, false, 8, .o, some [.nilFunc], [], none⟩) .nil) .none (.nd (.nd .nil (.some ⟨1, false, 4, .i .i32, some [.int .i32 0], [], none⟩) .nil) (.some ⟨1, false, 8, .o, some [.nilFunc], [], none⟩) .nil)) (.some ⟨2, true, 24, .st, some [.string ByteArray.empty, .int .u64 0], [(0, 1, false), (1, 1, false)], none⟩) (.nd (.nd (.nd .nil (.some ⟨0, true, 0, .o, some [], [], none⟩) .nil) (.some ⟨2, true, 32, .st, some [.pointer none, .slice none 0 0], [(0, 1, false), (1, 1, false)], none⟩) .nil) (.some ⟨3, true, 40, .st, some [.int .i64 0, .string ByteArray.empty, .string ByteArray.empty], [(0, 1, false), (1, 1, false), (2, 1, false)], some [.i, .s, .s]⟩) (.nd .nil (.some ⟨1, false, 8, .o, some [.nilFunc], [], none⟩) .nil))))))
def envF : Tr Unit := (.nd (.nd (.nd (.nd (.nd (.nd .nil (.some ()) .nil) (.some ()) (.nd .nil (.some ()) .nil)) (.some ()) (.nd (.nd .nil (.some ()) .nil) (.some ()) .nil)) (.some ()) (.nd (.nd (.nd .nil (.some ()) .nil) (.some ()) .nil) (.some ()) (.nd (.nd .nil (.some ()) .nil) (.some ()) .nil))) .none (.nd (.nd (.nd (.nd .nil (.some ()) .nil) (.some ()) .nil) (.some ()) (.nd (.nd .nil (.some ()) .nil) (.some ()) .nil)) (.some ()) (.nd (.nd (.nd .nil (.some ()) .nil) (.some ()) .nil) (.some ()) (.nd .nil (.some ()) .nil)))) .none (.nd (.nd (.nd (.nd (.nd .nil (.some ()) .nil) (.some ()) (.nd .nil (.some ()) .nil)) (.some ()) (.nd (.nd .nil (.some ()) .nil) (.some ()) .nil)) (.some ()) (.nd (.nd (.nd .nil (.some ()) .nil) (.some ()) .nil) (.some ()) (.nd (.nd .nil (.some ()) .nil) .none .nil))) (.some ()) (.nd (.nd (.nd (.nd .nil (.some ()) .nil) (.some ()) .nil) (.some ()) (.nd (.nd .nil (.some ()) .nil) (.some ()) .nil)) (.some ()) (.nd (.nd (.nd .nil (.some ()) .nil) (.some ()) .nil) (.some ()) (.nd (.nd .nil (.some ()) .nil) (.some ()) .nil)))))
theorem envT_ok : envT.all (tiOk Try.prog) id = true := by kernel_rfl
theorem envF_ok : envF.all (fun g _ => fnOk Try.prog g) id = true := by kernel_rfl
noncomputable def env : Env := ⟨Try.prog, envT, envF, envT_ok, envF_ok, by kernel_rfl⟩
end
theorem leaf_b {a b : Bool} (h : a = b) : AV.b a = AV.b b := by rw [h]
noncomputable def pb (p : Prop) : Bool := @decide p (Classical.propDecidable p)
theorem pb_t {p : Prop} : (pb p = true) = p := by
  unfold pb
  exact propext (@decide_eq_true_iff p (Classical.propDecidable p))
theorem pb_f {p : Prop} : (pb p = false) = ¬ p := by
  unfold pb
  exact propext (@decide_eq_false_iff_not p (Classical.propDecidable p))
theorem leaf_t {p : Prop} (h : p) : AV.b true = AV.b (pb p) := by rw [pb_t.mpr h]
theorem leaf_f {p : Prop} (h : ¬ p) : AV.b false = AV.b (pb p) := by rw [pb_f.mpr h]
theorem leaf_p {b : Bool} {p : Prop} (h : b = true ↔ p) : AV.b b = AV.b (pb p) := by
  cases b with
  | true => exact leaf_t (h.1 rfl)
  | false => exact leaf_f fun hp => by have := h.2 hp; cases this
theorem pb_congr {p q : Prop} (h : p ↔ q) : pb p = pb q := by rw [propext h]
theorem wrap_succ {k : Nat} (h : k < 9223372036854775807) : IntKind.i64.wrap ((k : Int) + 1) = ((k + 1 : Nat) : Int) := by
  rw [IntKind.wrap_i64]; omega
theorem wrap_in {n : Int} (h1 : -9223372036854775808 ≤ n) (h2 : n ≤ 9223372036854775807) : IntKind.i64.wrap n = n := by
  rw [IntKind.wrap_i64]; omega
theorem low_cells {r : List Nat} {n j : Nat} {cs : List AV} (h : cs.all (low1 0) = true) : fx r n (cs.getD j .any) = true := by
  by_cases hj : j < cs.length
  · have : cs.getD j .any = cs[j] := by rw [List.getD_eq_getElem?_getD, List.getElem?_eq_getElem hj]; rfl
    rw [this]
    exact fx_low (List.all_eq_true.1 h _ (List.getElem_mem hj))
  · have : cs.getD j .any = .any := by rw [List.getD_eq_getElem?_getD, List.getElem?_eq_none (by omega)]; rfl
    rw [this]; rfl
def elE {α : Type} [Inhabited α] (cells : α → List AV) (l : List α) : Nat → Nat → AV := fun i j => (cells (l.getD i default)).getD j .any
def AV.wf : AV → Prop
  | .i k n => (Lit.int k n).wf = true
  | .s x => x.size ≤ maxLen
  | .sl sz n g => n ≤ maxLen ∧ ∀ i j, i < n → j < sz → (g i j).wf
  | .rf m g => ∀ j, j < m → (g j).wf
  | _ => True
theorem Conc.wf {w : World} {S : Nat → Prop} {blk : Nat → BC} {H : Hp} {x : AV} {u : Value} (h : Conc w S blk H x u) : x.wf := by
  induction h with
  | i h => exact h
  | s h => exact h
  | sl0 a cap hm => exact ⟨Nat.zero_le _, fun i j hi => by omega⟩
  | sl b o cap U hb hn hm hc hf hu ih => exact ⟨Nat.le_trans hn hm, ih⟩
  | rf b o U hb hc hf hu ih => exact ih
  | _ => trivial
def AV.wfs : AV → Prop
  | .agg cs => ∀ c ∈ cs, c.wf
  | x => x.wf
theorem Conc.wfs {w : World} {S : Nat → Prop} {blk : Nat → BC} {H : Hp} {x : AV} {u : Value} (h : Conc w S blk H x u) : x.wfs := by
  cases x with
  | agg cs =>
    obtain ⟨us, rfl, hl, hu⟩ := inv_agg h
    intro c hc
    obtain ⟨j, hj⟩ := List.getElem?_of_mem hc
    have hlt : j < us.length := by rw [hl]; exact (List.getElem?_eq_some_iff.1 hj).1
    exact (hu j c _ hj (List.getElem?_eq_getElem hlt)).wf
  | _ => exact h.wf
theorem Ret.args {P : Program} {g : FuncId} {av : List AV} {post : AV → Prop} (h : (∀ a ∈ av, a.wfs) → Ret P g av post) : Ret P g av post :=
  Ret.know (p := ∀ a ∈ av, a.wfs) (fun w S us hc a ha => by
    obtain ⟨j, hj⟩ := List.getElem?_of_mem ha
    have hlt : j < us.length := by rw [hc.1]; exact (List.getElem?_eq_some_iff.1 hj).1
    exact (hc.2 j a _ hj (List.getElem?_eq_getElem hlt)).wfs) h
structure Wk (x y : AV) : Prop where
  idf : x.idf → y.idf
  c : ∀ (w : World) (S : Nat → Prop) (u : Value), Conc w S (fun _ => ⟨0, 0⟩) [] x u → Conc w S (fun _ => ⟨0, 0⟩) [] y u
theorem Wk.refl (x : AV) : Wk x x := ⟨id, fun _ _ _ h => h⟩
theorem Wk.of {x y : AV} (h : x = y) : Wk x y := h ▸ Wk.refl x
theorem Wk.sl {sz n : Nat} {g g' : Nat → Nat → AV} (h : ∀ i j, i < n → j < sz → Wk (g i j) (g' i j)) : Wk (.sl sz n g) (.sl sz n g') := by
  refine ⟨fun hi i j hi' hj => (h i j hi' hj).idf (hi i j hi' hj), fun w S u hc => ?_⟩
  cases hc with
  | sl0 a cap hm => exact .sl0 a cap hm
  | sl b o cap U hb hn hm hc hf hu => exact .sl b o cap U hb hn hm hc (fun i j hi hj => (h i j hi hj).idf (hf i j hi hj)) (fun i j hi hj => (h i j hi hj).c w S _ (hu i j hi hj))
theorem Wk.rf {m : Nat} {g g' : Nat → AV} (h : ∀ j, j < m → Wk (g j) (g' j)) : Wk (.rf m g) (.rf m g') := by
  refine ⟨fun hi j hj => (h j hj).idf (hi j hj), fun w S u hc => ?_⟩
  obtain ⟨b, o, U, rfl, hS, hcc, hu, hf⟩ := inv_rf hc
  exact .rf b o U hS hcc (fun j hj => (h j hj).idf (hf j hj)) fun j hj => (h j hj).c w S _ (hu j hj)
def rfL (cs : List AV) : AV := .rf cs.length fun j => cs.getD j .any
theorem Wk.rfc {m : Nat} {g : Nat → AV} {cs : List AV} (h : cellsAt g 0 m = cs) : Wk (.rf m g) (rfL cs) := by
  have hl : cs.length = m := by rw [← h, cellsAt_length]
  unfold rfL
  rw [hl]
  refine Wk.rf fun j hj => Wk.of ?_
  obtain ⟨_, e⟩ := cellsAt_get g m 0 j (cs.getD j .any) (by rw [h, List.getElem?_eq_getElem (by omega), List.getD_eq_getElem?_getD, List.getElem?_eq_getElem (by omega)]; rfl)
  rw [e, Nat.zero_add]
def WkL (xs ys : List AV) : Prop := xs.length = ys.length ∧ ∀ (j : Nat) (x y : AV), xs[j]? = some x → ys[j]? = some y → Wk x y
theorem WkL.nil : WkL [] [] := ⟨rfl, fun j x y h => by simp at h⟩
theorem WkL.cons {x y : AV} {xs ys : List AV} (h : Wk x y) (r : WkL xs ys) : WkL (x :: xs) (y :: ys) :=
  ⟨by simp [r.1], fun j a b ha hb => by
    cases j with
    | zero => cases ha; cases hb; exact h
    | succ j => exact r.2 j a b (by simpa using ha) (by simpa using hb)⟩
theorem WkL.append {xs ys xs' ys' : List AV} (h : WkL xs ys) (r : WkL xs' ys') : WkL (xs ++ xs') (ys ++ ys') := by
  refine ⟨by simp [h.1, r.1], fun j a b ha hb => ?_⟩
  rcases Nat.lt_or_ge j xs.length with hlt | hge
  · rw [List.getElem?_append_left hlt] at ha
    rw [List.getElem?_append_left (by rw [← h.1]; exact hlt)] at hb
    exact h.2 j a b ha hb
  · rw [List.getElem?_append_right hge] at ha
    rw [List.getElem?_append_right (by rw [← h.1]; exact hge), ← h.1] at hb
    exact r.2 _ a b ha hb
theorem Wk.agg {xs ys : List AV} (h : WkL xs ys) : Wk (.agg xs) (.agg ys) := by
  refine ⟨fun hi => hi.elim, fun w S u hc => ?_⟩
  obtain ⟨us, rfl, hl, hu⟩ := inv_agg hc
  refine .agg ys us (hl.trans h.1) fun j c u hj hju => ?_
  have hlt : j < xs.length := by rw [h.1]; exact (List.getElem?_eq_some_iff.1 hj).1
  exact (h.2 j _ c (List.getElem?_eq_getElem hlt) hj).c w S u (hu j _ u (List.getElem?_eq_getElem hlt) hju)
theorem Wk.fn {g : FuncId} {xs ys : List AV} (h : WkL xs ys) : Wk (.fn g xs) (.fn g ys) := by
  refine ⟨fun hi => ?_, fun w S u hc => ?_⟩
  · have hx : xs = [] := hi
    subst hx
    show ys = []
    exact List.eq_nil_of_length_eq_zero h.1.symm
  · obtain ⟨us, rfl, hl, hu⟩ := inv_fn hc
    refine .fn g ys us (hl.trans h.1) fun j c u hj hju => ?_
    have hlt : j < xs.length := by rw [h.1]; exact (List.getElem?_eq_some_iff.1 hj).1
    exact (h.2 j _ c (List.getElem?_eq_getElem hlt) hj).c w S u (hu j _ u (List.getElem?_eq_getElem hlt) hju)
theorem Ret.wk {P : Program} {g : FuncId} {av bs : List AV} {post : AV → Prop} (h : WkL av bs) (r : Ret P g bs post) : Ret P g av post := .mk fun w S us hS hc =>
  r.h w S us hS ⟨hc.1.trans h.1, fun j c u hj hu => by
    have hlt : j < av.length := by rw [h.1]; exact (List.getElem?_eq_some_iff.1 hj).1
    exact (h.2 j _ c (List.getElem?_eq_getElem hlt) hj).c w S u (hc.2 j _ u (List.getElem?_eq_getElem hlt) hu)⟩
def slL {α : Type} [Inhabited α] (sz : Nat) (cells : α → List AV) (l : List α) : AV := .sl sz l.length fun i j => (cells (l.getD i default)).getD j .any
def stay : AV → Bool
  | .any | .i .. | .b _ | .s _ | .nils | .nilp | .sl .. | .rf .. => true
  | _ => false
theorem stay_eq {k : Nat} {H : Hp} {v : AV} (h : stay v = true) : shrC k H v = v := by
  cases k <;> cases v <;> first | rfl | cases h
def szN (n : Nat) (left : Int) : Int := if left < n then -1 else left - n
def Rd (P : Program) (t : TypeId) (α : Type) (cells : α → List AV) : Prop := ∀ cs, TyC P t cs → ∃ a, WkL cs (cells a)
theorem rd_int {P : Program} {t : TypeId} {k : IntKind} (hu : P.underlying t = some (.int k)) : Rd P t Int fun n => [.i k n] := fun cs h => by
  obtain ⟨n, rfl, _⟩ := h.int_inv hu
  exact ⟨n, .cons (.refl _) .nil⟩
theorem rd_str {P : Program} {t : TypeId} (hu : P.underlying t = some .string) : Rd P t ByteArray fun b => [.s b] := fun cs h => by
  obtain ⟨n, rfl, _⟩ := h.string_inv hu
  exact ⟨n, .cons (.refl _) .nil⟩
theorem arg_one {P : Program} {t : TypeId} {α : Type} {c : α → AV} {cs : List AV} (h : Rd P t α fun a => [c a]) (ha : aggT P t = false) (hc : TyC P t cs) : ∃ a, Wk (mkArg P t cs) (c a) := by
  obtain ⟨a, h1⟩ := h cs hc
  refine ⟨a, ?_⟩
  unfold mkArg
  rw [ha, cond_false]
  obtain ⟨x, rfl⟩ := List.length_eq_one_iff.1 (show cs.length = 1 from h1.1)
  exact h1.2 0 x _ rfl rfl
theorem srcOk_1 {sz : Nat} {g : Nat → Nat → AV} (h : (cellsAt (g 0) 0 sz).all cp1 = true) : SrcOk 1 sz g := ⟨fun i j hi hj => by
  obtain rfl : i = 0 := by omega
  have hl : j < (cellsAt (g 0) 0 sz).length := by rw [cellsAt_length]; exact hj
  have := List.all_eq_true.1 h _ (List.getElem_mem hl)
  have e := (cellsAt_get (g 0) sz 0 j _ (List.getElem?_eq_getElem hl)).2
  rw [e, Nat.zero_add] at this
  exact this⟩
theorem srcOk_L {α : Type} [Inhabited α] {m sz : Nat} {c : α → List AV} {l : List α} (h : ∀ a, (c a).all cp1 = true ∧ (c a).length = sz) : SrcOk m sz (fun i j => (c (l.getD i default)).getD j .any) := ⟨fun i j hi hj => by
  have hj' : j < (c (l.getD i default)).length := by rw [(h _).2]; exact hj
  rw [List.getD_eq_getElem?_getD, List.getElem?_eq_getElem hj']
  exact List.all_eq_true.1 (h _).1 _ (List.getElem_mem hj')⟩
theorem srcOk_E {α : Type} [Inhabited α] {m sz : Nat} {c : α → List AV} {l : List α} (h : ∀ a, (c a).all cp1 = true ∧ (c a).length = sz) : SrcOk m sz (elE c l) := srcOk_L h
theorem dd : (∀ (p : Prop) [Decidable p], decide p = true ↔ p) ∧ (∀ b : Bool, (!b) = true ↔ b = false) ∧ (∀ b : Bool, (!b) = false ↔ b = true) ∧ (∀ (p : Prop) [Decidable p], decide p = false ↔ ¬ p) ∧ (∀ b : Bool, (¬ b = true) ↔ b = false) ∧ (∀ (p : Prop) [Decidable p], ¬¬p ↔ p) ∧ (true = false ↔ False) ∧ (false = true ↔ False) ∧ (∀ p : Prop, pb p = true ↔ p) ∧ (∀ p : Prop, pb p = false ↔ ¬ p) :=
  ⟨fun _ _ => by simp, fun _ => by simp, fun _ => by simp, fun _ _ => by simp, fun _ => by simp, fun _ _ => by simp, by simp, by simp, fun _ => iff_of_eq pb_t, fun _ => iff_of_eq pb_f⟩
theorem dkk {ops : Array Oper} (h : drawOk ops = true := by kernel_rfl) : drawOk ops = true := h
theorem dks {ops : Array Oper} (h : drawOkS ops = true := by kernel_rfl) : drawOkS ops = true := h
def okS (s : ByteArray) : Prop := s.size ≤ 1048576
def okL {α : Type} [Inhabited α] (p : α → Prop) (l : List α) : Prop := l.length ≤ 1048576 ∧ ∀ k, k < l.length → p (l.getD k default)
def szFl {α : Type} (l : List α) (left : Int) : Int := szN l.length left
def szSt (s : ByteArray) (left : Int) : Int := szN s.size left
def szF {α : Type} (g : α → Int → Int) : List α → Int → Int
  | [], v => v
  | x :: r, v => if g x v < 0 then -1 else szF g r (g x v)
def szLs {α : Type} (g : α → Int → Int) (l : List α) (left : Int) : Int := if left - l.length < 0 then -1 else szF g l (left - l.length)
def szAt {α : Type} [Inhabited α] (g : α → Int → Int) (l : List α) (v0 : Int) : Nat → Int
  | 0 => v0
  | k + 1 => g (l.getD k default) (szAt g l v0 k)
theorem szF_cons {α : Type} {g : α → Int → Int} {x : α} {r : List α} {v : Int} : szF g (x :: r) v = if g x v < 0 then -1 else szF g r (g x v) := rfl
structure SzI {α : Type} [Inhabited α] (g : α → Int → Int) (l : List α) (v0 : Int) (k : Nat) : Prop where
  eq : szF g (l.drop k) (szAt g l v0 k) = szF g l v0
  lo : 0 ≤ szAt g l v0 k
  hi : szAt g l v0 k ≤ 1048576
theorem drop_get {α : Type} [Inhabited α] {l : List α} {k : Nat} (hk : k < l.length) : l.drop k = l.getD k default :: l.drop (k + 1) := by
  rw [List.drop_eq_getElem_cons hk, List.getD_eq_getElem?_getD, List.getElem?_eq_getElem hk]; rfl
theorem SzI.step {α : Type} [Inhabited α] {g : α → Int → Int} {l : List α} {v0 : Int} {k : Nat} (hg : ∀ a v, v ≤ 1048576 → g a v ≤ 1048576) (s : SzI g l v0 k) (hk : (k : Int) < (l.length : Int))
    (hn : ¬ g (l.getD k default) (szAt g l v0 k) < 0) : SzI g l v0 (k + 1) := by
  have e := s.eq
  rw [drop_get (by omega)] at e
  rw [szF_cons, if_neg hn] at e
  refine ⟨e, ?_, ?_⟩
  · show 0 ≤ g (l.getD k default) (szAt g l v0 k); omega
  · exact hg _ _ s.hi
theorem SzI.neg {α : Type} [Inhabited α] {g : α → Int → Int} {l : List α} {left : Int} {k : Nat} (s : SzI g l (left - l.length) k) (hk : (k : Int) < (l.length : Int))
    (hn : g (l.getD k default) (szAt g l (left - l.length) k) < 0) (h0 : ¬ left - l.length < 0) : (-1 : Int) = szLs g l left := by
  have e := s.eq
  rw [drop_get (by omega)] at e
  rw [szF_cons, if_pos hn] at e
  unfold szLs
  rw [if_neg h0]
  exact e
theorem SzI.fin {α : Type} [Inhabited α] {g : α → Int → Int} {l : List α} {left : Int} {k : Nat} (s : SzI g l (left - l.length) k) (hk : ¬ (k : Int) < (l.length : Int)) (h0 : ¬ left - l.length < 0) : szAt g l (left - l.length) k = szLs g l left := by
  have e := s.eq
  rw [List.drop_eq_nil_of_le (by omega)] at e
  unfold szLs
  rw [if_neg h0]
  exact e
structure Import where
  name : ByteArray
  params : Int
  result : Bool
  deriving DecidableEq, Inhabited
def Import.cs (a : Import) : List AV := [.s a.name, .i .i64 a.params, .b a.result]
theorem Import.low (a : Import) : a.cs.all (low1 0) = true := rfl
def Import.ok (a : Import) : Prop := okS a.name
def Import.sz (a : Import) (left : Int) : Int :=
  if (szSt a.name left) < 0 then -1 else (szSt a.name left)
structure Ins where
  op : Int
  a : Int
  deriving DecidableEq, Inhabited
def Ins.cs (a : Ins) : List AV := [.i .i64 a.op, .i .i64 a.a]
theorem Ins.low (a : Ins) : a.cs.all (low1 0) = true := rfl
def Ins.ok (a : Ins) : Prop := True
structure Core where
  name : ByteArray
  params : Int
  locals : Int
  result : Bool
  code : List Ins
  deriving DecidableEq, Inhabited
def Core.cs (a : Core) : List AV := [.s a.name, .i .i64 a.params, .i .i64 a.locals, .b a.result, slL 2 Ins.cs a.code]
theorem Core.low (a : Core) : a.cs.all (low1 0) = true := rfl
def Core.ok (a : Core) : Prop := okS a.name ∧ (okL Ins.ok) a.code
def Core.sz (a : Core) (left : Int) : Int :=
  if (szSt a.name left) < 0 then -1 else if (szFl a.code (szSt a.name left)) < 0 then -1 else (szFl a.code (szSt a.name left))
structure Module where
  pages : Int
  imports : List Import
  cores : List Core
  deriving DecidableEq, Inhabited
def Module.cs (a : Module) : List AV := [.i .i64 a.pages, slL 3 Import.cs a.imports, slL 5 Core.cs a.cores]
theorem Module.low (a : Module) : a.cs.all (low1 0) = true := rfl
def Module.ok (a : Module) : Prop := (okL Import.ok) a.imports ∧ (okL Core.ok) a.cores
def Module.sz (a : Module) (left : Int) : Int :=
  if ((szLs Import.sz) a.imports left) < 0 then -1 else if ((szLs Core.sz) a.cores ((szLs Import.sz) a.imports left)) < 0 then -1 else ((szLs Core.sz) a.cores ((szLs Import.sz) a.imports left))
def lebL (n : Nat) : List Nat := if h : n ≤ 127 then [n] else (n % 128 + 128) :: lebL (n / 128)
termination_by n
decreasing_by omega
def decL : List Nat → Nat
  | [] => 0
  | b :: l => b % 128 + 128 * decL l
def isLeb : List Nat → Prop
  | [] => False
  | [b] => b < 128
  | b :: c :: l => (128 ≤ b ∧ b < 256) ∧ isLeb (c :: l)
theorem lebL_small {n : Nat} (h : n ≤ 127) : lebL n = [n] := by rw [lebL, dif_pos h]
theorem lebL_big {n : Nat} (h : ¬ n ≤ 127) : lebL n = (n % 128 + 128) :: lebL (n / 128) := by rw [lebL, dif_neg h]
theorem dec_zero : ∀ {l : List Nat}, isLeb l → decL l = 0 → l.getLast? = some 0
  | [], h, _ => h.elim
  | [b], h, e => by
    have h' : b < 128 := h
    have e' : b % 128 + 128 * 0 = 0 := e
    obtain rfl : b = 0 := by omega
    rfl
  | b :: c :: l, h, e => by
    have e' : b % 128 + 128 * decL (c :: l) = 0 := e
    have := dec_zero h.2 (by omega)
    rw [List.getLast?_cons_cons]
    exact this
theorem dec_last : ∀ {l : List Nat}, isLeb l → l.getLast? = some 0 → l.length = 1 ∨ lebL (decL l) ≠ l
  | [], h, _ => h.elim
  | [b], _, _ => .inl rfl
  | b :: c :: l, h, e => .inr fun q => by
    obtain ⟨⟨h1, h2⟩, h3⟩ := h
    rw [List.getLast?_cons_cons] at e
    have q' : lebL (b % 128 + 128 * decL (c :: l)) = b :: c :: l := q
    by_cases hd : decL (c :: l) = 0
    · rw [hd, lebL_small (by omega)] at q'
      exact absurd (congrArg List.length q') (by simp)
    · rw [lebL_big (by omega)] at q'
      have q2 := (List.cons.inj q').2
      rw [show (b % 128 + 128 * decL (c :: l)) / 128 = decL (c :: l) by omega] at q2
      rcases dec_last h3 e with hl | hl
      · have : l = [] := by simpa using hl
        subst this
        have : c = 0 := by simpa using e
        subst this
        exact hd rfl
      · exact hl q2
theorem leb_dec : ∀ {l : List Nat}, isLeb l → (l.length = 1 ∨ ¬ l.getLast? = some 0) → lebL (decL l) = l
  | [], h, _ => h.elim
  | [b], h, _ => by
    have h' : b < 128 := h
    show lebL (b % 128 + 128 * 0) = [b]
    rw [show b % 128 + 128 * 0 = b by omega, lebL_small (by omega)]
  | b :: c :: l, h, e => by
    obtain ⟨⟨h1, h2⟩, h3⟩ := h
    have e' : ¬ (c :: l).getLast? = some 0 := by
      rcases e with e | e
      · simp at e
      · rwa [List.getLast?_cons_cons] at e
    have hd : decL (c :: l) ≠ 0 := fun q => e' (dec_zero h3 q)
    show lebL (b % 128 + 128 * decL (c :: l)) = b :: c :: l
    rw [lebL_big (by omega), show (b % 128 + 128 * decL (c :: l)) / 128 = decL (c :: l) by omega, leb_dec h3 (.inr e')]
    congr 1
    omega
theorem leb_iff {l : List Nat} (h : isLeb l) : lebL (decL l) = l ↔ (l.length = 1 ∨ ¬ l.getLast? = some 0) := by
  refine ⟨fun q => ?_, leb_dec h⟩
  by_cases e : l.getLast? = some 0
  · exact (dec_last h e).imp_right fun r => absurd q r
  · exact .inr e
theorem dec_lt : ∀ (l : List Nat), decL l < 128 ^ l.length
  | [] => Nat.one_pos
  | b :: l => by
    have := dec_lt l
    show b % 128 + 128 * decL l < 128 ^ (l.length + 1)
    rw [Nat.pow_succ]
    omega
theorem dec_snoc : ∀ (l : List Nat) (b : Nat), decL (l ++ [b]) = decL l + 128 ^ l.length * (b % 128)
  | [], b => by show b % 128 + 128 * 0 = 0 + 128 ^ 0 * (b % 128); omega
  | a :: l, b => by
    show a % 128 + 128 * decL (l ++ [b]) = a % 128 + 128 * decL l + 128 ^ (l.length + 1) * (b % 128)
    rw [dec_snoc l b, Nat.pow_succ, Nat.mul_add, Nat.add_assoc, ← Nat.mul_assoc, Nat.mul_comm 128 (128 ^ l.length)]
theorem leb_snoc : ∀ {l : List Nat} {b : Nat}, (∀ x ∈ l, 128 ≤ x ∧ x < 256) → b < 128 → isLeb (l ++ [b])
  | [], b, _, h => h
  | [a], b, hl, h => ⟨hl a (List.mem_singleton.2 rfl), h⟩
  | a :: c :: l, b, hl, h => ⟨hl a List.mem_cons_self, leb_snoc (l := c :: l) (fun x hx => hl x (List.mem_cons_of_mem _ hx)) h⟩
theorem or_add {a b i : Nat} (h : a < 2 ^ i) : a ||| (b * 2 ^ i) = a + 2 ^ i * b := by
  rw [Nat.or_comm, Nat.mul_comm b, ← Nat.two_pow_add_eq_or_of_lt h, Nat.add_comm]
theorem or_i64 {a b : Int} (ha : 0 ≤ a ∧ a < 9223372036854775808) (hb : 0 ≤ b ∧ b < 9223372036854775808) : bits .or .i64 a b = ((a.toNat ||| b.toNat : Nat) : Int) := by
  have e : bits .or .i64 a b = IntKind.i64.wrap ((BitVec.ofInt 64 a ||| BitVec.ofInt 64 b).toNat : Int) := rfl
  have h1 : (BitVec.ofInt 64 a).toNat = a.toNat := by rw [BitVec.toNat_ofInt]; omega
  have h2 : (BitVec.ofInt 64 b).toNat = b.toNat := by rw [BitVec.toNat_ofInt]; omega
  have h3 : a.toNat ||| b.toNat < 2 ^ 63 := Nat.or_lt_two_pow (by omega) (by omega)
  rw [e, BitVec.toNat_or, h1, h2, wrap_in (by omega) (by omega)]
theorem or_u64 {a b : Int} (ha : 0 ≤ a ∧ a < 9223372036854775808) (hb : 0 ≤ b ∧ b < 9223372036854775808) : bits .or .u64 a b = ((a.toNat ||| b.toNat : Nat) : Int) := by
  have e : bits .or .u64 a b = IntKind.u64.wrap ((BitVec.ofInt 64 a ||| BitVec.ofInt 64 b).toNat : Int) := rfl
  have h1 : (BitVec.ofInt 64 a).toNat = a.toNat := by rw [BitVec.toNat_ofInt]; omega
  have h2 : (BitVec.ofInt 64 b).toNat = b.toNat := by rw [BitVec.toNat_ofInt]; omega
  have h3 : a.toNat ||| b.toNat < 2 ^ 63 := Nat.or_lt_two_pow (by omega) (by omega)
  rw [e, BitVec.toNat_or, h1, h2, IntKind.wrap_u64]
  omega
theorem and_u8 {x : Int} (h : 0 ≤ x ∧ x < 256) : bits .and .u8 x 127 = x % 128 := by
  have e : bits .and .u8 x 127 = IntKind.u8.wrap ((BitVec.ofInt 8 x &&& BitVec.ofInt 8 127).toNat : Int) := rfl
  have h1 : (BitVec.ofInt 8 x).toNat = x.toNat := by rw [BitVec.toNat_ofInt]; omega
  have h2 : (BitVec.ofInt 8 127).toNat = 2 ^ 7 - 1 := by decide
  rw [e, BitVec.toNat_and, h1, h2, Nat.and_two_pow_sub_one_eq_mod, IntKind.wrap_u8]
  omega
theorem leb_step {l : List Nat} {x : Nat} (hl : l.length ≤ 8) : bits .or .i64 (decL l : Int) (IntKind.i64.wrap ((x % 128 : Nat) * 2 ^ (7 * l.length))) = (decL (l ++ [x]) : Int) := by
  have h1 := dec_lt l
  have hp : (128 : Nat) ^ l.length = 2 ^ (7 * l.length) := by rw [Nat.pow_mul]
  have h8 : (128 : Nat) ^ l.length ≤ 128 ^ 8 := Nat.pow_le_pow_right (by decide) hl
  have hm : x % 128 * 2 ^ (7 * l.length) ≤ 127 * 128 ^ 8 := by
    rw [← hp]
    exact Nat.mul_le_mul (by omega) h8
  have hc : ((x % 128 : Nat) : Int) * 2 ^ (7 * l.length) = ((x % 128 * 2 ^ (7 * l.length) : Nat) : Int) := by push_cast; rfl
  have h9 : (128 : Nat) ^ 8 = 72057594037927936 := by decide
  rw [hc, wrap_in (by omega) (by omega), or_i64 ⟨by omega, by omega⟩ ⟨by omega, by omega⟩, Int.toNat_natCast, Int.toNat_natCast, or_add (by rw [← hp]; exact h1), dec_snoc, hp]
def bsN (b : ByteArray) : List Nat := b.data.toList.map UInt8.toNat
def baN (l : List Nat) : ByteArray := ⟨(l.map UInt8.ofNat).toArray⟩
def u8C (n : Nat) : List AV := [.i .u8 (n : Int)]
theorem bsN_len (b : ByteArray) : (bsN b).length = b.size := by
  unfold bsN
  rw [List.length_map, Array.length_toList]
  rfl
theorem bsN_lt {b : ByteArray} : ∀ x ∈ bsN b, x < 256 := fun x hx => by
  obtain ⟨c, _, rfl⟩ := List.mem_map.1 hx
  exact c.toNat_lt
theorem bsN_at (b : ByteArray) (i : Nat) : (bsN b).getD i 0 = (b.data.getD i 0).toNat := by
  unfold bsN
  rw [List.getD_eq_getElem?_getD, List.getElem?_map, Array.getElem?_toList, Array.getD_eq_getD_getElem?]
  cases b.data[i]? <;> rfl
theorem bsN_ba {l : List Nat} (h : ∀ x ∈ l, x < 256) : bsN (baN l) = l := by
  unfold bsN baN
  dsimp only
  rw [List.map_map]
  conv => rhs; rw [← List.map_id l]
  refine List.map_congr_left fun x hx => ?_
  have := h x hx
  show (UInt8.ofNat x).toNat = x
  rw [UInt8.toNat_ofNat']
  omega
theorem baN_bs (b : ByteArray) : baN (bsN b) = b := by
  unfold bsN baN
  rw [List.map_map]
  have : (UInt8.ofNat ∘ UInt8.toNat) = id := by
    funext x
    exact UInt8.ofNat_toNat
  rw [this, List.map_id]
theorem baN_eq {l : List Nat} {b : ByteArray} (h : ∀ x ∈ l, x < 256) : baN l = b ↔ l = bsN b :=
  ⟨fun e => by rw [← e, bsN_ba h], fun e => by rw [e, baN_bs]⟩
theorem bsN_take {b : ByteArray} {k : Nat} (h : k ≤ b.size) : bsN (b.extract 0 k) = (bsN b).take k := by
  unfold bsN
  rw [ByteArray.data_extract, Array.toList_extract, List.map_take]
  simp
theorem bytesOf_u8 (l : List Nat) : bytesOf l.length (elE u8C l) = baN l := by
  unfold bytesOf baN
  congr 2
  refine List.ext_getElem? fun i => ?_
  rw [List.getElem?_map, List.getElem?_map]
  by_cases hi : i < l.length
  · rw [List.getElem?_range hi, List.getElem?_eq_getElem hi, Option.map_some, Option.map_some]
    congr 1
    show UInt8.ofNat (Int.toNat ((l.getD i default : Nat) : Int)) = _
    rw [Int.toNat_natCast, List.getD_eq_getElem?_getD, List.getElem?_eq_getElem hi]
    rfl
  · rw [List.getElem?_eq_none (by rw [List.length_range]; omega), List.getElem?_eq_none (by omega)]
    rfl
theorem lebL_lt : ∀ (n : Nat), ∀ x ∈ lebL n, x < 256 := fun n => by
  induction n using Nat.strongRecOn with
  | ind n ih =>
    intro x hx
    by_cases h : n ≤ 127
    · rw [lebL_small h, List.mem_singleton] at hx
      omega
    · rw [lebL_big h] at hx
      rcases List.mem_cons.1 hx with e | e
      · omega
      · exact ih (n / 128) (by omega) x e
def fstI (b : ByteArray) (m : Nat) : Option Nat := ((bsN b).take m).findIdx? fun x => decide (x < 128)
structure FstTo (b : ByteArray) (k : Nat) : Prop where
  h : ∀ j, j < k → ¬ (bsN b).getD j 0 < 128
theorem FstTo.zero (b : ByteArray) : FstTo b 0 := ⟨fun j hj => absurd hj (Nat.not_lt_zero _)⟩
theorem FstTo.succ {b : ByteArray} {k : Nat} (h : FstTo b k) (hk : ¬ (bsN b).getD k 0 < 128) : FstTo b (k + 1) := ⟨fun j hj => by
  rcases Nat.lt_or_eq_of_le (Nat.le_of_lt_succ hj) with q | rfl
  · exact h.h j q
  · exact hk⟩
theorem bsN_get {b : ByteArray} {i : Nat} (hi : i < (bsN b).length) : (bsN b)[i] = (bsN b).getD i 0 := by
  rw [List.getD_eq_getElem?_getD, List.getElem?_eq_getElem hi]; rfl
theorem fstI_some {b : ByteArray} {m i : Nat} (hi : i < b.size) (hm : i < m) (h : (bsN b).getD i 0 < 128) (hb : FstTo b i) : fstI b m = some i := by
  unfold fstI
  rw [List.findIdx?_eq_some_iff_getElem]
  have hl : i < ((bsN b).take m).length := by rw [List.length_take, bsN_len]; omega
  refine ⟨hl, ?_, fun j hj => ?_⟩
  · rw [List.getElem_take, bsN_get (by rw [bsN_len]; exact hi)]
    exact decide_eq_true h
  · rw [List.getElem_take, bsN_get (by rw [bsN_len]; omega)]
    simpa using hb.h j hj
theorem fstI_none {b : ByteArray} {m k : Nat} (hb : FstTo b k) (hk : b.size ≤ k ∨ m ≤ k) : fstI b m = none := by
  unfold fstI
  rw [List.findIdx?_eq_none_iff]
  intro x hx
  obtain ⟨j, hj, rfl⟩ := List.mem_iff_getElem.1 hx
  rw [List.length_take, bsN_len] at hj
  rw [List.getElem_take, bsN_get (by rw [bsN_len]; omega)]
  simpa using hb.h j (by omega)
theorem isLeb_of {b : ByteArray} {i : Nat} (hi : i < b.size) (h : (bsN b).getD i 0 < 128) (hb : FstTo b i) : isLeb ((bsN b).take (i + 1)) := by
  have hl : i < (bsN b).length := by rw [bsN_len]; exact hi
  rw [List.take_add_one, List.getElem?_eq_getElem hl]
  refine leb_snoc (fun x hx => ?_) (by rw [bsN_get hl]; exact h)
  obtain ⟨j, hj, rfl⟩ := List.mem_iff_getElem.1 hx
  rw [List.length_take] at hj
  rw [List.getElem_take]
  have h1 := bsN_lt (b := b) _ (List.getElem_mem (show j < (bsN b).length by omega))
  have h2 := hb.h j (by omega)
  rw [← bsN_get (by omega)] at h2
  omega
def getL (b : ByteArray) : Int × Int × Bool := match fstI b 9 with
  | none => (0, 0, false)
  | some i => if i = 0 ∨ ¬ (bsN b).getD i 0 = 0 then ((decL ((bsN b).take (i + 1)) : Nat), (i : Int) + 1, true) else (0, 0, false)
theorem canon {b : ByteArray} {i : Nat} (hi : i < b.size) (h : (bsN b).getD i 0 < 128) (hb : FstTo b i) : baN (lebL (decL ((bsN b).take (i + 1)))) = b.extract 0 (i + 1) ↔ (i = 0 ∨ ¬ (bsN b).getD i 0 = 0) := by
  have hl : i < (bsN b).length := by rw [bsN_len]; exact hi
  rw [baN_eq (lebL_lt _), bsN_take (by omega), leb_iff (isLeb_of hi h hb), List.length_take, show min (i + 1) (bsN b).length = i + 1 by omega, List.getLast?_eq_getElem?, List.length_take, show min (i + 1) (bsN b).length - 1 = i by omega, List.getElem?_take, if_pos (by omega), List.getElem?_eq_getElem hl, bsN_get hl, Option.some_inj]
  constructor
  · rintro (h | h)
    · exact .inl (by omega)
    · exact .inr h
  · rintro (h | h)
    · exact .inl (by omega)
    · exact .inr h
def slebL (n : Int) : List Nat := if h : -64 ≤ n ∧ n ≤ 63 then [(n % 128).toNat] else ((n % 128).toNat + 128) :: slebL (n / 128)
termination_by n.natAbs
decreasing_by omega
theorem slebL_small {n : Int} (h : -64 ≤ n ∧ n ≤ 63) : slebL n = [(n % 128).toNat] := by rw [slebL, dif_pos h]
theorem slebL_big {n : Int} (h : ¬ (-64 ≤ n ∧ n ≤ 63)) : slebL n = ((n % 128).toNat + 128) :: slebL (n / 128) := by rw [slebL, dif_neg h]
theorem and_i64 {n : Int} (h : -9223372036854775808 ≤ n ∧ n ≤ 9223372036854775807) : bits .and .i64 n 127 = n % 128 := by
  have e : bits .and .i64 n 127 = IntKind.i64.wrap ((BitVec.ofInt 64 n &&& BitVec.ofInt 64 127).toNat : Int) := rfl
  have h1 : (BitVec.ofInt 64 n).toNat = (n % 18446744073709551616).toNat := by rw [BitVec.toNat_ofInt]; rfl
  have h2 : (BitVec.ofInt 64 127).toNat = 2 ^ 7 - 1 := by decide
  rw [e, BitVec.toNat_and, h1, h2, Nat.and_two_pow_sub_one_eq_mod, wrap_in (by omega) (by omega)]
  omega
end Go.Proofs.Ytfaadafgbhmlfaa
