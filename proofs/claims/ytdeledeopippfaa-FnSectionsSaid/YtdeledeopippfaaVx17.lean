/- Texts for VSectionsP. -/
import Derived.Test.YtdeledeopippfaaChecked
import Derived.KernelRfl
import Derived.Test.YtdeledeopippfaaVx15
import Derived.Test.YtdeledeopippfaaVx16
namespace Go.Proofs.Ytdeledeopippfaa
open Go Go.RowKit
set_option linter.unusedVariables false
set_option linter.unusedSimpArgs false
section
open Go
def envT : Tr TI := (.nd (.nd (.nd (.nd (.nd (.nd (.nd (.nd .nil (.some ⟨0, true, 0, .st, some [], [(0, 0, true)], none⟩) .nil) (.some ⟨1, false, 8, .o, some [.nilFunc], [], none⟩) .nil) (.some ⟨1, false, 8, .o, some [.nilFunc], [], none⟩) (.nd .nil (.some ⟨1, false, 8, .o, some [.nilFunc], [], none⟩) .nil)) (.some ⟨1, false, 8, .p, some [.pointer none], [], none⟩) (.nd .nil (.some ⟨1, false, 16, .o, some [.nilIface], [], none⟩) (.nd .nil (.some ⟨1, false, 8, .o, some [.nilFunc], [], none⟩) .nil))) (.some ⟨4, true, 24, .st, some [.int .i64 0, .int .i64 0, .bool false, .int .u8 0], [(0, 1, false), (1, 1, false), (2, 1, false), (3, 1, false)], none⟩) (.nd (.nd (.nd (.nd .nil (.some ⟨11, true, 48, .st, some [.int .u64 0, .int .u64 0, .int .u32 0, .int .u8 0, .int .u8 0, .int .u8 0, .int .u8 0, .nilFunc, .pointer none, .int .i32 0, .int .i32 0], [(0, 1, false), (1, 1, false), (2, 1, false), (3, 1, false), (4, 1, false), (5, 1, false), (6, 1, false), (7, 1, false), (8, 1, false), (9, 1, false), (10, 1, false)], none⟩) .nil) (.some ⟨1, false, 8, .o, some [.nilFunc], [], none⟩) .nil) (.some ⟨1, false, 8, .o, some [.nilFunc], [], none⟩) (.nd .nil (.some ⟨1, false, 8, .o, some [.nilFunc], [], none⟩) .nil)) (.some ⟨1, false, 8, .o, some [.nilFunc], [], none⟩) (.nd (.nd .nil (.some ⟨1, false, 24, .sl 2, some [.slice none 0 0], [], none⟩) .nil) (.some ⟨1, false, 8, .o, some [.nilFunc], [], none⟩) (.nd .nil (.some ⟨1, false, 8, .o, some [.nilFunc], [], none⟩) .nil)))) (.some ⟨1, false, 8, .i .i64, some [.int .i64 0], [], none⟩) (.nd (.nd (.nd (.nd (.nd .nil (.some ⟨1, false, 1, .i .u8, some [.int .u8 0], [], none⟩) .nil) (.some ⟨1, false, 8, .o, some [.nilFunc], [], none⟩) .nil) (.some ⟨1, false, 24, .sl 30, some [.slice none 0 0], [], none⟩) (.nd .nil (.some ⟨1, false, 8, .o, some [.nilFunc], [], none⟩) .nil)) (.some ⟨1, true, 8, .st, some [.pointer none], [(0, 1, false)], none⟩) (.nd (.nd .nil (.some ⟨1, false, 8, .i .u64, some [.int .u64 0], [], none⟩) .nil) (.some ⟨3, true, 40, .st, some [.int .i64 0, .string ByteArray.empty, .string ByteArray.empty], [(0, 1, false), (1, 1, false), (2, 1, false)], some [.i, .s, .s]⟩) (.nd .nil (.some ⟨1, false, 8, .o, some [.nilFunc], [], none⟩) .nil))) (.some ⟨1, false, 16, .s, some [.string ByteArray.empty], [], none⟩) (.nd (.nd (.nd .nil (.some ⟨3, true, 40, .st, some [.slice none 0 0, .int .i64 0, .int .u64 0], [(0, 1, false), (1, 1, false), (2, 1, false)], none⟩) .nil) (.some ⟨1, false, 8, .o, some [.nilFunc], [], none⟩) (.nd .nil (.some ⟨3, true, 32, .st, some [.string ByteArray.empty, .int .i64 0, .bool false], [(0, 1, false), (1, 1, false), (2, 1, false)], some [.s, .i, .b]⟩) .nil)) (.some ⟨1, false, 8, .o, some [.nilFunc], [], none⟩) (.nd (.nd .nil (.some ⟨3, true, 56, .st, some [.int .i64 0, .slice none 0 0, .slice none 0 0], [(0, 1, false), (1, 1, false), (2, 1, false)], none⟩) .nil) (.some ⟨1, false, 8, .o, some [.nilFunc], [], none⟩) (.nd .nil (.some ⟨1, false, 8, .o, some [.nilFunc], [], none⟩) .nil))))) (.some ⟨1, false, 8, .o, some [.nilFunc], [], none⟩) (.nd (.nd (.nd (.nd (.nd (.nd .nil (.some ⟨1, false, 4, .i .u32, some [.int .u32 0], [], none⟩) .nil) (.some ⟨1, false, 8, .o, some [.nilFunc], [], none⟩) .nil) .none (.nd .nil (.some ⟨1, false, 8, .o, some [.nilFunc], [], none⟩) .nil)) (.some ⟨1, false, 8, .p, some [.pointer none], [], none⟩) (.nd (.nd .nil (.some ⟨1, false, 8, .o, some [.nilFunc], [], none⟩) .nil) .none (.nd .nil (.some ⟨1, false, 8, .o, some [.nilFunc], [], none⟩) .nil))) (.some ⟨1, false, 16, .s, some [.string ByteArray.empty], [], none⟩) (.nd (.nd (.nd .nil (.some ⟨1, false, 24, .sl 9, some [.slice none 0 0], [], none⟩) .nil) (.some ⟨1, false, 8, .o, some [.nilFunc], [], none⟩) (.nd .nil (.some ⟨1, false, 8, .o, some [.nilFunc], [], none⟩) .nil)) (.some ⟨1, false, 24, .sl 52, some [.slice none 0 0], [], none⟩) (.nd (.nd .nil (.some ⟨1, false, 24, .sl 94, some [.slice none 0 0], [], none⟩) .nil) (.some ⟨1, false, 8, .o, some [.nilFunc], [], none⟩) (.nd .nil (.some ⟨1, false, 8, .o, some [.nilFunc], [], none⟩) .nil)))) (.some ⟨1, false, 1, .i .u8, some [.int .u8 0], [], none⟩) (.nd (.nd (.nd (.nd (.nd .nil (.some ⟨1, false, 4, .i .i32, some [.int .i32 0], [], none⟩) .nil) (.some ⟨1, false, 8, .o, some [.nilFunc], [], none⟩) .nil) (.some ⟨1, false, 8, .o, some [.nilFunc], [], none⟩) (.nd .nil (.some ⟨1, false, 8, .o, some [.nilFunc], [], none⟩) .nil)) (.some ⟨1, false, 4, .i .i32, some [.int .i32 0], [], none⟩) (.nd (.nd .nil (.some ⟨1, false, 8, .o, some [.nilFunc], [], none⟩) .nil) (.some ⟨1, false, 8, .o, some [.nilFunc], [], none⟩) (.nd .nil (.some ⟨1, false, 8, .o, some [.nilFunc], [], none⟩) .nil))) (.some ⟨2, true, 24, .st, some [.string ByteArray.empty, .int .u64 0], [(0, 1, false), (1, 1, false)], none⟩) (.nd (.nd .nil (.some ⟨2, true, 32, .st, some [.pointer none, .slice none 0 0], [(0, 1, false), (1, 1, false)], none⟩) (.nd .nil (.some ⟨1, false, 8, .o, some [.nilFunc], [], none⟩) .nil)) (.some ⟨2, true, 16, .st, some [.int .i64 0, .int .i64 0], [(0, 1, false), (1, 1, false)], some [.i, .i]⟩) (.nd (.nd .nil (.some ⟨5, true, 64, .st, some [.string ByteArray.empty, .int .i64 0, .int .i64 0, .bool false, .slice none 0 0], [(0, 1, false), (1, 1, false), (2, 1, false), (3, 1, false), (4, 1, false)], none⟩) .nil) (.some ⟨1, false, 8, .o, some [.nilFunc], [], none⟩) (.nd .nil (.some ⟨4, true, 40, .st, some [.pointer none, .pointer none, .pointer none, .string ByteArray.empty], [(0, 1, false), (1, 1, false), (2, 1, false), (3, 1, false)], none⟩) .nil)))))) .none (.nd (.nd (.nd (.nd (.nd (.nd (.nd .nil (.some ⟨0, true, 0, .st, some [], [(0, 0, true)], none⟩) .nil) (.some ⟨1, false, 8, .o, some [.nilFunc], [], none⟩) .nil) (.some ⟨1, false, 8, .o, some [.nilFunc], [], none⟩) (.nd .nil (.some ⟨1, false, 8, .o, some [.nilFunc], [], none⟩) .nil)) (.some ⟨1, false, 8, .p, some [.pointer none], [], none⟩) (.nd (.nd .nil (.some ⟨1, false, 8, .o, some [.nilFunc], [], none⟩) .nil) (.some ⟨1, false, 16, .o, some [.nilIface], [], none⟩) (.nd .nil (.some ⟨1, false, 8, .o, some [.nilFunc], [], none⟩) .nil))) (.some ⟨4, true, 24, .st, some [.int .i64 0, .int .i64 0, .bool false, .int .u8 0], [(0, 1, false), (1, 1, false), (2, 1, false), (3, 1, false)], none⟩) (.nd (.nd (.nd (.nd .nil (.some ⟨11, true, 48, .st, some [.int .u64 0, .int .u64 0, .int .u32 0, .int .u8 0, .int .u8 0, .int .u8 0, .int .u8 0, .nilFunc, .pointer none, .int .i32 0, .int .i32 0], [(0, 1, false), (1, 1, false), (2, 1, false), (3, 1, false), (4, 1, false), (5, 1, false), (6, 1, false), (7, 1, false), (8, 1, false), (9, 1, false), (10, 1, false)], none⟩) .nil) (.some ⟨1, false, 8, .o, some [.nilFunc], [], none⟩) .nil) (.some ⟨1, false, 8, .p, some [.pointer none], [], none⟩) (.nd .nil (.some ⟨1, false, 8, .o, some [.nilFunc], [], none⟩) .nil)) (.some ⟨1, false, 8, .o, some [.nilFunc], [], none⟩) (.nd (.nd .nil (.some ⟨1, false, 24, .sl 107, some [.slice none 0 0], [], none⟩) .nil) (.some ⟨1, false, 8, .o, some [.nilFunc], [], none⟩) (.nd .nil (.some ⟨1, false, 8, .o, some [.nilFunc], [], none⟩) .nil)))) (.some ⟨1, false, 1, .b, some [.bool false], [], none⟩) (.nd (.nd (.nd (.nd (.nd .nil (.some ⟨1, false, 8, .o, some [.nilFunc], [], none⟩) .nil) (.some ⟨1, false, 8, .o, some [.nilFunc], [], none⟩) .nil) .none .nil) (.some ⟨1, false, 16, .o, some [.nilIface], [], none⟩) (.nd (.nd .nil (.some ⟨1, false, 8, .p, some [.pointer none], [], none⟩) .nil) (.some ⟨3, true, 40, .st, some [.int .i64 0, .string ByteArray.empty, .string ByteArray.empty], [(0, 1, false), (1, 1, false), (2, 1, false)], some [.i, .s, .s]⟩) (.nd .nil (.some ⟨1, false, 8, .o, some [.nilFunc], [], none⟩) .nil))) (.some ⟨1, false, 8, .i .u64, some [.int .u64 0], [], none⟩) (.nd (.nd (.nd .nil (.some ⟨3, true, 40, .st, some [.slice none 0 0, .int .i64 0, .int .u64 0], [(0, 1, false), (1, 1, false), (2, 1, false)], none⟩) .nil) (.some ⟨1, false, 8, .p, some [.pointer none], [], none⟩) (.nd .nil (.some ⟨1, false, 8, .p, some [.pointer none], [], none⟩) .nil)) (.some ⟨1, false, 8, .o, some [.nilFunc], [], none⟩) (.nd (.nd .nil (.some ⟨1, false, 8, .o, some [.nilFunc], [], none⟩) .nil) .none (.nd .nil (.some ⟨4, true, 40, .st, some [.pointer none, .pointer none, .pointer none, .string ByteArray.empty], [(0, 1, false), (1, 1, false), (2, 1, false), (3, 1, false)], none⟩) .nil))))) (.some ⟨1, false, 8, .i .i64, some [.int .i64 0], [], none⟩) (.nd (.nd (.nd (.nd (.nd (.nd .nil (.some ⟨1, false, 1, .i .u8, some [.int .u8 0], [], none⟩) .nil) (.some ⟨1, false, 8, .o, some [.nilFunc], [], none⟩) .nil) (.some ⟨1, false, 8, .o, some [.nilFunc], [], none⟩) .nil) (.some ⟨1, true, 8, .st, some [.pointer none], [(0, 1, false)], none⟩) (.nd (.nd .nil (.some ⟨1, false, 8, .o, some [.nilFunc], [], none⟩) .nil) (.some ⟨1, false, 8, .o, some [.nilFunc], [], none⟩) (.nd .nil (.some ⟨1, false, 8, .o, some [.nilFunc], [], none⟩) .nil))) (.some ⟨1, false, 16, .s, some [.string ByteArray.empty], [], none⟩) (.nd (.nd (.nd .nil (.some ⟨1, false, 8, .i .u64, some [.int .u64 0], [], none⟩) .nil) .none (.nd .nil (.some ⟨3, true, 32, .st, some [.string ByteArray.empty, .int .i64 0, .bool false], [(0, 1, false), (1, 1, false), (2, 1, false)], some [.s, .i, .b]⟩) .nil)) .none (.nd (.nd .nil (.some ⟨3, true, 56, .st, some [.int .i64 0, .slice none 0 0, .slice none 0 0], [(0, 1, false), (1, 1, false), (2, 1, false)], none⟩) .nil) (.some ⟨1, false, 8, .o, some [.nilFunc], [], none⟩) .nil))) (.some ⟨1, false, 1, .i .u8, some [.int .u8 0], [], none⟩) (.nd (.nd (.nd (.nd (.nd .nil (.some ⟨1, false, 4, .i .i32, some [.int .i32 0], [], none⟩) .nil) (.some ⟨1, false, 8, .o, some [.nilFunc], [], none⟩) .nil) (.some ⟨1, false, 8, .o, some [.nilFunc], [], none⟩) .nil) (.some ⟨1, false, 24, .sl 5, some [.slice none 0 0], [], none⟩) (.nd (.nd .nil (.some ⟨1, false, 8, .o, some [.nilFunc], [], none⟩) .nil) (.some ⟨1, false, 8, .o, some [.nilFunc], [], none⟩) (.nd .nil (.some ⟨1, false, 8, .o, some [.nilFunc], [], none⟩) .nil))) (.some ⟨2, true, 24, .st, some [.string ByteArray.empty, .int .u64 0], [(0, 1, false), (1, 1, false)], none⟩) (.nd (.nd (.nd .nil (.some ⟨1, false, 8, .o, some [.nilFunc], [], none⟩) .nil) (.some ⟨2, true, 32, .st, some [.pointer none, .slice none 0 0], [(0, 1, false), (1, 1, false)], none⟩) (.nd .nil (.some ⟨1, false, 8, .o, some [.nilFunc], [], none⟩) .nil)) (.some ⟨2, true, 16, .st, some [.int .i64 0, .int .i64 0], [(0, 1, false), (1, 1, false)], some [.i, .i]⟩) (.nd (.nd .nil (.some ⟨5, true, 64, .st, some [.string ByteArray.empty, .int .i64 0, .int .i64 0, .bool false, .slice none 0 0], [(0, 1, false), (1, 1, false), (2, 1, false), (3, 1, false), (4, 1, false)], none⟩) .nil) (.some ⟨1, false, 8, .o, some [.nilFunc], [], none⟩) (.nd .nil (.some ⟨0, true, 0, .o, some [], [], none⟩) .nil)))))))
def envF : Tr Unit := (.nd (.nd (.nd (.nd (.nd (.nd (.nd .nil (.some ()) .nil) (.some ()) .nil) (.some ()) (.nd (.nd .nil (.some ()) .nil) (.some ()) .nil)) (.some ()) (.nd (.nd (.nd .nil (.some ()) .nil) (.some ()) .nil) (.some ()) (.nd (.nd .nil (.some ()) .nil) (.some ()) .nil))) (.some ()) (.nd (.nd (.nd (.nd .nil (.some ()) .nil) (.some ()) .nil) (.some ()) (.nd (.nd .nil (.some ()) .nil) (.some ()) .nil)) (.some ()) (.nd (.nd (.nd .nil (.some ()) .nil) (.some ()) .nil) (.some ()) (.nd (.nd .nil (.some ()) .nil) (.some ()) .nil)))) .none (.nd (.nd (.nd (.nd (.nd .nil (.some ()) .nil) (.some ()) .nil) (.some ()) (.nd (.nd .nil (.some ()) .nil) (.some ()) .nil)) (.some ()) (.nd (.nd (.nd .nil (.some ()) .nil) (.some ()) .nil) (.some ()) (.nd (.nd .nil (.some ()) .nil) (.some ()) .nil))) (.some ()) (.nd (.nd (.nd (.nd .nil (.some ()) .nil) (.some ()) .nil) (.some ()) (.nd (.nd .nil (.some ()) .nil) (.some ()) .nil)) (.some ()) (.nd (.nd (.nd .nil (.some ()) .nil) (.some ()) .nil) (.some ()) (.nd (.nd .nil (.some ()) .nil) (.some ()) .nil))))) .none (.nd (.nd (.nd (.nd (.nd (.nd .nil (.some ()) .nil) (.some ()) .nil) (.some ()) (.nd (.nd .nil (.some ()) .nil) (.some ()) .nil)) (.some ()) (.nd (.nd (.nd .nil (.some ()) .nil) (.some ()) .nil) (.some ()) (.nd (.nd .nil (.some ()) .nil) (.some ()) .nil))) (.some ()) (.nd (.nd (.nd (.nd .nil (.some ()) .nil) (.some ()) .nil) (.some ()) (.nd (.nd .nil (.some ()) .nil) (.some ()) .nil)) (.some ()) (.nd (.nd (.nd .nil (.some ()) .nil) (.some ()) .nil) (.some ()) (.nd (.nd .nil (.some ()) .nil) (.some ()) .nil)))) (.some ()) (.nd (.nd (.nd (.nd .nil (.some ()) .nil) (.some ()) (.nd (.nd .nil (.some ()) .nil) (.some ()) .nil)) (.some ()) (.nd (.nd (.nd .nil (.some ()) .nil) (.some ()) .nil) (.some ()) (.nd (.nd .nil (.some ()) .nil) (.some ()) .nil))) (.some ()) (.nd (.nd (.nd (.nd .nil (.some ()) .nil) (.some ()) .nil) (.some ()) (.nd (.nd .nil (.some ()) .nil) (.some ()) .nil)) (.some ()) (.nd (.nd (.nd .nil (.some ()) .nil) (.some ()) .nil) (.some ()) (.nd (.nd .nil (.some ()) .nil) (.some ()) .nil))))))
theorem envT_ok : envT.all (tiOk Try.prog) id = true := by kernel_rfl
theorem envF_ok : envF.all (fun g _ => fnOk Try.prog g) id = true := by kernel_rfl
noncomputable def env : Env := ⟨Try.prog, envT, envF, envT_ok, envF_ok, by kernel_rfl⟩
end
theorem leaf_b {a b : Bool} (h : a = b) : AV.b a = AV.b b := by rw [h]
noncomputable def pb (p : Prop) : Bool := @decide p (Classical.propDecidable p)
theorem pb_t {p : Prop} : (pb p = true) = p := by
  unfold pb
  exact propext (@decide_eq_true_iff p (Classical.propDecidable p))
theorem pb_f {p : Prop} : (pb p = false) = ¬ p := by
  unfold pb
  exact propext (@decide_eq_false_iff_not p (Classical.propDecidable p))
theorem leaf_t {p : Prop} (h : p) : AV.b true = AV.b (pb p) := by rw [pb_t.mpr h]
theorem leaf_f {p : Prop} (h : ¬ p) : AV.b false = AV.b (pb p) := by rw [pb_f.mpr h]
theorem leaf_p {b : Bool} {p : Prop} (h : b = true ↔ p) : AV.b b = AV.b (pb p) := by
  cases b with
  | true => exact leaf_t (h.1 rfl)
  | false => exact leaf_f fun hp => by have := h.2 hp; cases this
theorem pb_congr {p q : Prop} (h : p ↔ q) : pb p = pb q := by rw [propext h]
theorem leaf_i {k : IntKind} {a b : Int} (h : a = b) : AV.i k a = AV.i k b := by rw [h]
theorem wrap_succ {k : Nat} (h : k < 9223372036854775807) : IntKind.i64.wrap ((k : Int) + 1) = ((k + 1 : Nat) : Int) := by
  rw [IntKind.wrap_i64]; omega
theorem wrap_in {n : Int} (h1 : -9223372036854775808 ≤ n) (h2 : n ≤ 9223372036854775807) : IntKind.i64.wrap n = n := by
  rw [IntKind.wrap_i64]; omega
theorem low_cells {r : List Nat} {n j : Nat} {cs : List AV} (h : cs.all (low1 0) = true) : fx r n (cs.getD j .any) = true := by
  by_cases hj : j < cs.length
  · have : cs.getD j .any = cs[j] := by rw [List.getD_eq_getElem?_getD, List.getElem?_eq_getElem hj]; rfl
    rw [this]
    exact fx_low (List.all_eq_true.1 h _ (List.getElem_mem hj))
  · have : cs.getD j .any = .any := by rw [List.getD_eq_getElem?_getD, List.getElem?_eq_none (by omega)]; rfl
    rw [this]; rfl
def elE {α : Type} [Inhabited α] (cells : α → List AV) (l : List α) : Nat → Nat → AV := fun i j => (cells (l.getD i default)).getD j .any
def AV.wf : AV → Prop
  | .i k n => (Lit.int k n).wf = true
  | .s x => x.size ≤ maxLen
  | .sl sz n g => n ≤ maxLen ∧ ∀ i j, i < n → j < sz → (g i j).wf
  | .rf m g => ∀ j, j < m → (g j).wf
  | _ => True
theorem Conc.wf {w : World} {S : Nat → Prop} {blk : Nat → BC} {H : Hp} {x : AV} {u : Value} (h : Conc w S blk H x u) : x.wf := by
  induction h with
  | i h => exact h
  | s h => exact h
  | sl0 a cap hm => exact ⟨Nat.zero_le _, fun i j hi => by omega⟩
  | sl b o cap U hb hn hm hc hf hu ih => exact ⟨Nat.le_trans hn hm, ih⟩
  | rf b o U hb hc hf hu ih => exact ih
  | _ => trivial
def AV.wfs : AV → Prop
  | .agg cs => ∀ c ∈ cs, c.wf
  | x => x.wf
theorem Conc.wfs {w : World} {S : Nat → Prop} {blk : Nat → BC} {H : Hp} {x : AV} {u : Value} (h : Conc w S blk H x u) : x.wfs := by
  cases x with
  | agg cs =>
    obtain ⟨us, rfl, hl, hu⟩ := inv_agg h
    intro c hc
    obtain ⟨j, hj⟩ := List.getElem?_of_mem hc
    have hlt : j < us.length := by rw [hl]; exact (List.getElem?_eq_some_iff.1 hj).1
    exact (hu j c _ hj (List.getElem?_eq_getElem hlt)).wf
  | _ => exact h.wf
theorem Ret.args {P : Program} {g : FuncId} {av : List AV} {post : AV → Prop} (h : (∀ a ∈ av, a.wfs) → Ret P g av post) : Ret P g av post :=
  Ret.know (p := ∀ a ∈ av, a.wfs) (fun w S us hc a ha => by
    obtain ⟨j, hj⟩ := List.getElem?_of_mem ha
    have hlt : j < us.length := by rw [hc.1]; exact (List.getElem?_eq_some_iff.1 hj).1
    exact (hc.2 j a _ hj (List.getElem?_eq_getElem hlt)).wfs) h
structure Wk (x y : AV) : Prop where
  idf : x.idf → y.idf
  c : ∀ (w : World) (S : Nat → Prop) (u : Value), Conc w S (fun _ => ⟨0, 0⟩) [] x u → Conc w S (fun _ => ⟨0, 0⟩) [] y u
theorem Wk.refl (x : AV) : Wk x x := ⟨id, fun _ _ _ h => h⟩
theorem Wk.of {x y : AV} (h : x = y) : Wk x y := h ▸ Wk.refl x
theorem Wk.sl {sz n : Nat} {g g' : Nat → Nat → AV} (h : ∀ i j, i < n → j < sz → Wk (g i j) (g' i j)) : Wk (.sl sz n g) (.sl sz n g') := by
  refine ⟨fun hi i j hi' hj => (h i j hi' hj).idf (hi i j hi' hj), fun w S u hc => ?_⟩
  cases hc with
  | sl0 a cap hm => exact .sl0 a cap hm
  | sl b o cap U hb hn hm hc hf hu => exact .sl b o cap U hb hn hm hc (fun i j hi hj => (h i j hi hj).idf (hf i j hi hj)) (fun i j hi hj => (h i j hi hj).c w S _ (hu i j hi hj))
theorem Wk.rf {m : Nat} {g g' : Nat → AV} (h : ∀ j, j < m → Wk (g j) (g' j)) : Wk (.rf m g) (.rf m g') := by
  refine ⟨fun hi j hj => (h j hj).idf (hi j hj), fun w S u hc => ?_⟩
  obtain ⟨b, o, U, rfl, hS, hcc, hu, hf⟩ := inv_rf hc
  exact .rf b o U hS hcc (fun j hj => (h j hj).idf (hf j hj)) fun j hj => (h j hj).c w S _ (hu j hj)
def rfL (cs : List AV) : AV := .rf cs.length fun j => cs.getD j .any
theorem Wk.rfc {m : Nat} {g : Nat → AV} {cs : List AV} (h : cellsAt g 0 m = cs) : Wk (.rf m g) (rfL cs) := by
  have hl : cs.length = m := by rw [← h, cellsAt_length]
  unfold rfL
  rw [hl]
  refine Wk.rf fun j hj => Wk.of ?_
  obtain ⟨_, e⟩ := cellsAt_get g m 0 j (cs.getD j .any) (by rw [h, List.getElem?_eq_getElem (by omega), List.getD_eq_getElem?_getD, List.getElem?_eq_getElem (by omega)]; rfl)
  rw [e, Nat.zero_add]
def WkL (xs ys : List AV) : Prop := xs.length = ys.length ∧ ∀ (j : Nat) (x y : AV), xs[j]? = some x → ys[j]? = some y → Wk x y
theorem WkL.nil : WkL [] [] := ⟨rfl, fun j x y h => by simp at h⟩
theorem WkL.cons {x y : AV} {xs ys : List AV} (h : Wk x y) (r : WkL xs ys) : WkL (x :: xs) (y :: ys) :=
  ⟨by simp [r.1], fun j a b ha hb => by
    cases j with
    | zero => cases ha; cases hb; exact h
    | succ j => exact r.2 j a b (by simpa using ha) (by simpa using hb)⟩
theorem WkL.append {xs ys xs' ys' : List AV} (h : WkL xs ys) (r : WkL xs' ys') : WkL (xs ++ xs') (ys ++ ys') := by
  refine ⟨by simp [h.1, r.1], fun j a b ha hb => ?_⟩
  rcases Nat.lt_or_ge j xs.length with hlt | hge
  · rw [List.getElem?_append_left hlt] at ha
    rw [List.getElem?_append_left (by rw [← h.1]; exact hlt)] at hb
    exact h.2 j a b ha hb
  · rw [List.getElem?_append_right hge] at ha
    rw [List.getElem?_append_right (by rw [← h.1]; exact hge), ← h.1] at hb
    exact r.2 _ a b ha hb
theorem Wk.agg {xs ys : List AV} (h : WkL xs ys) : Wk (.agg xs) (.agg ys) := by
  refine ⟨fun hi => hi.elim, fun w S u hc => ?_⟩
  obtain ⟨us, rfl, hl, hu⟩ := inv_agg hc
  refine .agg ys us (hl.trans h.1) fun j c u hj hju => ?_
  have hlt : j < xs.length := by rw [h.1]; exact (List.getElem?_eq_some_iff.1 hj).1
  exact (h.2 j _ c (List.getElem?_eq_getElem hlt) hj).c w S u (hu j _ u (List.getElem?_eq_getElem hlt) hju)
theorem Wk.fn {g : FuncId} {xs ys : List AV} (h : WkL xs ys) : Wk (.fn g xs) (.fn g ys) := by
  refine ⟨fun hi => ?_, fun w S u hc => ?_⟩
  · have hx : xs = [] := hi
    subst hx
    show ys = []
    exact List.eq_nil_of_length_eq_zero h.1.symm
  · obtain ⟨us, rfl, hl, hu⟩ := inv_fn hc
    refine .fn g ys us (hl.trans h.1) fun j c u hj hju => ?_
    have hlt : j < xs.length := by rw [h.1]; exact (List.getElem?_eq_some_iff.1 hj).1
    exact (h.2 j _ c (List.getElem?_eq_getElem hlt) hj).c w S u (hu j _ u (List.getElem?_eq_getElem hlt) hju)
theorem Ret.wk {P : Program} {g : FuncId} {av bs : List AV} {post : AV → Prop} (h : WkL av bs) (r : Ret P g bs post) : Ret P g av post := .mk fun w S us hS hc =>
  r.h w S us hS ⟨hc.1.trans h.1, fun j c u hj hu => by
    have hlt : j < av.length := by rw [h.1]; exact (List.getElem?_eq_some_iff.1 hj).1
    exact (h.2 j _ c (List.getElem?_eq_getElem hlt) hj).c w S u (hc.2 j _ u (List.getElem?_eq_getElem hlt) hu)⟩
theorem Wk.sl' {sz sz' n n' : Nat} {g g' : Nat → Nat → AV} (h1 : sz = sz') (h2 : n = n') (h : ∀ i j, i < n → j < sz → Wk (g i j) (g' i j)) : Wk (.sl sz n g) (.sl sz' n' g') := by
  subst h1 h2; exact Wk.sl h
def slL {α : Type} [Inhabited α] (sz : Nat) (cells : α → List AV) (l : List α) : AV := .sl sz l.length fun i j => (cells (l.getD i default)).getD j .any
def stay : AV → Bool
  | .any | .i .. | .b _ | .s _ | .nils | .nilp | .sl .. | .rf .. => true
  | _ => false
theorem stay_eq {k : Nat} {H : Hp} {v : AV} (h : stay v = true) : shrC k H v = v := by
  cases k <;> cases v <;> first | rfl | cases h
theorem upto_succ {p : Nat → Prop} {k : Nat} (h : ∀ j, j < k → p j) (hk : p k) : ∀ j, j < k + 1 → p j := fun j hj => by
  rcases Nat.lt_or_eq_of_le (Nat.le_of_lt_succ hj) with h1 | rfl
  · exact h j h1
  · exact hk
def szN (n : Nat) (left : Int) : Int := if left < n then -1 else left - n
def Rd (P : Program) (t : TypeId) (α : Type) (cells : α → List AV) : Prop := ∀ cs, TyC P t cs → ∃ a, WkL cs (cells a)
theorem rd_sl {P : Program} {t e : TypeId} {α : Type} [Inhabited α] {cells : α → List AV} {sz : Nat} (hu : P.underlying t = some (.slice e)) (hsz : P.cellsOf e = sz) (h : Rd P e α cells) : Rd P t (List α) fun l => [slL sz cells l] := fun cs hc => by
  obtain ⟨n, g, rfl, hm, he⟩ := hc.sl_inv hu
  subst hsz
  have hall : ∀ i, i < n → ∃ a, WkL (cellsAt (g i) 0 (P.cellsOf e)) (cells a) := fun i hi => h _ (he i hi)
  let l : List α := (List.range n).map fun i => if h : i < n then Classical.choose (hall i h) else default
  have hl : l.length = n := by simp [l]
  have hget : ∀ i (hi : i < n), l.getD i default = Classical.choose (hall i hi) := fun i hi => by simp [l, hi]
  refine ⟨l, .cons ?_ .nil⟩
  unfold slL
  rw [hl]
  refine .sl fun i j hi hj => ?_
  have hw := Classical.choose_spec (hall i hi)
  rw [← hget i hi] at hw
  have h1 : j < (cellsAt (g i) 0 (P.cellsOf e)).length := by rw [cellsAt_length]; exact hj
  have h2 : j < (cells (l.getD i default)).length := by rw [← hw.1]; exact h1
  have h3 := hw.2 j _ _ (List.getElem?_eq_getElem h1) (List.getElem?_eq_getElem h2)
  obtain ⟨_, e1⟩ := cellsAt_get (g i) (P.cellsOf e) 0 j _ (List.getElem?_eq_getElem h1)
  rw [e1, Nat.zero_add] at h3
  have e2 : (cells (l.getD i default)).getD j .any = (cells (l.getD i default))[j] := by rw [List.getD_eq_getElem?_getD, List.getElem?_eq_getElem h2]; rfl
  rw [e2]
  exact h3
theorem arg_one {P : Program} {t : TypeId} {α : Type} {c : α → AV} {cs : List AV} (h : Rd P t α fun a => [c a]) (ha : aggT P t = false) (hc : TyC P t cs) : ∃ a, Wk (mkArg P t cs) (c a) := by
  obtain ⟨a, h1⟩ := h cs hc
  refine ⟨a, ?_⟩
  unfold mkArg
  rw [ha, cond_false]
  obtain ⟨x, rfl⟩ := List.length_eq_one_iff.1 (show cs.length = 1 from h1.1)
  exact h1.2 0 x _ rfl rfl
def idxI (o : Option Nat) : Int := match o with | some k => k | none => -1
theorem idx_some {α : Type} [Inhabited α] {p : α → Bool} {l : List α} {k : Nat} (hk : k < l.length) (hp : p (l.getD k default) = true) (h : ∀ j, j < k → p (l.getD j default) = false) : (k : Int) = idxI (l.findIdx? p) := by
  have : l.findIdx? p = some k := by
    rw [List.findIdx?_eq_some_iff_getElem]
    refine ⟨hk, ?_, fun j hj => ?_⟩
    · rw [List.getD_eq_getElem?_getD, List.getElem?_eq_getElem hk] at hp
      exact hp
    · have := h j hj
      rw [List.getD_eq_getElem?_getD, List.getElem?_eq_getElem (by omega)] at this
      simpa using this
  rw [this]; rfl
theorem idx_none {α : Type} [Inhabited α] {p : α → Bool} {l : List α} (h : ∀ j, j < l.length → p (l.getD j default) = false) : (-1 : Int) = idxI (l.findIdx? p) := by
  have : l.findIdx? p = none := by
    rw [List.findIdx?_eq_none_iff]
    intro x hx
    obtain ⟨j, hj⟩ := List.getElem?_of_mem hx
    have hlt := (List.getElem?_eq_some_iff.1 hj).1
    have := h j hlt
    rw [List.getD_eq_getElem?_getD, hj] at this
    exact this
  rw [this]; rfl
theorem idx_any {α : Type} (l : List α) (p : α → Bool) : decide (0 ≤ idxI (l.findIdx? p)) = l.any p := by
  rw [Bool.eq_iff_iff, decide_eq_true_eq]
  cases h : l.findIdx? p with
  | none =>
    rw [List.findIdx?_eq_none_iff] at h
    simp only [idxI, List.any_eq_true]
    exact ⟨fun q => absurd q (by decide), fun ⟨x, hx, hp⟩ => by rw [h x hx] at hp; cases hp⟩
  | some k =>
    rw [List.findIdx?_eq_some_iff_getElem] at h
    obtain ⟨hk, hp, _⟩ := h
    simp only [idxI, List.any_eq_true]
    exact ⟨fun _ => ⟨_, List.getElem_mem hk, hp⟩, fun _ => by omega⟩
theorem loopAt {E : Env} {nt : Nat} {X : Ctx} {f : Fr} {H : Hp} {c : Code} {Q : Exit → Fr → Hp → Prop} (t n : Nat) (vs : Nat → Fr) (hp : Nat → List (Option RowI)) (I : Nat → Prop) (ht : inL (asg c) t = true)
    (h : I 0 ∧ agK (mkH H (hp 0)) H [] f (vs 0) ∧ hpP (mkH H (hp 0)) H [] 0 (hp 0) H ∧
      delK H.length (asg c) f fun f0 => ∀ k, k ≤ n → I k → wpc E nt X c (vs k ++ f0) (mkH H (hp k)) (thn (RoundN f0 H vs hp I n k) Q)) :
    LW E.P nt X (.loop c) f H Q := loopN n vs hp I h
theorem srcOk_1 {sz : Nat} {g : Nat → Nat → AV} (h : (cellsAt (g 0) 0 sz).all cp1 = true) : SrcOk 1 sz g := ⟨fun i j hi hj => by
  obtain rfl : i = 0 := by omega
  have hl : j < (cellsAt (g 0) 0 sz).length := by rw [cellsAt_length]; exact hj
  have := List.all_eq_true.1 h _ (List.getElem_mem hl)
  have e := (cellsAt_get (g 0) sz 0 j _ (List.getElem?_eq_getElem hl)).2
  rw [e, Nat.zero_add] at this
  exact this⟩
theorem srcOk_L {α : Type} [Inhabited α] {m sz : Nat} {c : α → List AV} {l : List α} (h : ∀ a, (c a).all cp1 = true ∧ (c a).length = sz) : SrcOk m sz (fun i j => (c (l.getD i default)).getD j .any) := ⟨fun i j hi hj => by
  have hj' : j < (c (l.getD i default)).length := by rw [(h _).2]; exact hj
  rw [List.getD_eq_getElem?_getD, List.getElem?_eq_getElem hj']
  exact List.all_eq_true.1 (h _).1 _ (List.getElem_mem hj')⟩
theorem srcOk_E {α : Type} [Inhabited α] {m sz : Nat} {c : α → List AV} {l : List α} (h : ∀ a, (c a).all cp1 = true ∧ (c a).length = sz) : SrcOk m sz (elE c l) := srcOk_L h
theorem dd : (∀ (p : Prop) [Decidable p], decide p = true ↔ p) ∧ (∀ b : Bool, (!b) = true ↔ b = false) ∧ (∀ b : Bool, (!b) = false ↔ b = true) ∧ (∀ (p : Prop) [Decidable p], decide p = false ↔ ¬ p) ∧ (∀ b : Bool, (¬ b = true) ↔ b = false) ∧ (∀ (p : Prop) [Decidable p], ¬¬p ↔ p) ∧ (true = false ↔ False) ∧ (false = true ↔ False) ∧ (∀ p : Prop, pb p = true ↔ p) ∧ (∀ p : Prop, pb p = false ↔ ¬ p) :=
  ⟨fun _ _ => by simp, fun _ => by simp, fun _ => by simp, fun _ _ => by simp, fun _ => by simp, fun _ _ => by simp, by simp, by simp, fun _ => iff_of_eq pb_t, fun _ => iff_of_eq pb_f⟩
theorem dkk {ops : Array Oper} (h : drawOk ops = true := by kernel_rfl) : drawOk ops = true := h
theorem dks {ops : Array Oper} (h : drawOkS ops = true := by kernel_rfl) : drawOkS ops = true := h
def lebL (n : Nat) : List Nat := if h : n ≤ 127 then [n] else (n % 128 + 128) :: lebL (n / 128)
termination_by n
decreasing_by omega
def decL : List Nat → Nat
  | [] => 0
  | b :: l => b % 128 + 128 * decL l
def isLeb : List Nat → Prop
  | [] => False
  | [b] => b < 128
  | b :: c :: l => (128 ≤ b ∧ b < 256) ∧ isLeb (c :: l)
theorem lebL_small {n : Nat} (h : n ≤ 127) : lebL n = [n] := by rw [lebL, dif_pos h]
theorem lebL_big {n : Nat} (h : ¬ n ≤ 127) : lebL n = (n % 128 + 128) :: lebL (n / 128) := by rw [lebL, dif_neg h]
theorem dec_zero : ∀ {l : List Nat}, isLeb l → decL l = 0 → l.getLast? = some 0
  | [], h, _ => h.elim
  | [b], h, e => by
    have h' : b < 128 := h
    have e' : b % 128 + 128 * 0 = 0 := e
    obtain rfl : b = 0 := by omega
    rfl
  | b :: c :: l, h, e => by
    have e' : b % 128 + 128 * decL (c :: l) = 0 := e
    have := dec_zero h.2 (by omega)
    rw [List.getLast?_cons_cons]
    exact this
theorem dec_last : ∀ {l : List Nat}, isLeb l → l.getLast? = some 0 → l.length = 1 ∨ lebL (decL l) ≠ l
  | [], h, _ => h.elim
  | [b], _, _ => .inl rfl
  | b :: c :: l, h, e => .inr fun q => by
    obtain ⟨⟨h1, h2⟩, h3⟩ := h
    rw [List.getLast?_cons_cons] at e
    have q' : lebL (b % 128 + 128 * decL (c :: l)) = b :: c :: l := q
    by_cases hd : decL (c :: l) = 0
    · rw [hd, lebL_small (by omega)] at q'
      exact absurd (congrArg List.length q') (by simp)
    · rw [lebL_big (by omega)] at q'
      have q2 := (List.cons.inj q').2
      rw [show (b % 128 + 128 * decL (c :: l)) / 128 = decL (c :: l) by omega] at q2
      rcases dec_last h3 e with hl | hl
      · have : l = [] := by simpa using hl
        subst this
        have : c = 0 := by simpa using e
        subst this
        exact hd rfl
      · exact hl q2
theorem leb_dec : ∀ {l : List Nat}, isLeb l → (l.length = 1 ∨ ¬ l.getLast? = some 0) → lebL (decL l) = l
  | [], h, _ => h.elim
  | [b], h, _ => by
    have h' : b < 128 := h
    show lebL (b % 128 + 128 * 0) = [b]
    rw [show b % 128 + 128 * 0 = b by omega, lebL_small (by omega)]
  | b :: c :: l, h, e => by
    obtain ⟨⟨h1, h2⟩, h3⟩ := h
    have e' : ¬ (c :: l).getLast? = some 0 := by
      rcases e with e | e
      · simp at e
      · rwa [List.getLast?_cons_cons] at e
    have hd : decL (c :: l) ≠ 0 := fun q => e' (dec_zero h3 q)
    show lebL (b % 128 + 128 * decL (c :: l)) = b :: c :: l
    rw [lebL_big (by omega), show (b % 128 + 128 * decL (c :: l)) / 128 = decL (c :: l) by omega, leb_dec h3 (.inr e')]
    congr 1
    omega
theorem leb_iff {l : List Nat} (h : isLeb l) : lebL (decL l) = l ↔ (l.length = 1 ∨ ¬ l.getLast? = some 0) := by
  refine ⟨fun q => ?_, leb_dec h⟩
  by_cases e : l.getLast? = some 0
  · exact (dec_last h e).imp_right fun r => absurd q r
  · exact .inr e
theorem dec_lt : ∀ (l : List Nat), decL l < 128 ^ l.length
  | [] => Nat.one_pos
  | b :: l => by
    have := dec_lt l
    show b % 128 + 128 * decL l < 128 ^ (l.length + 1)
    rw [Nat.pow_succ]
    omega
theorem dec_snoc : ∀ (l : List Nat) (b : Nat), decL (l ++ [b]) = decL l + 128 ^ l.length * (b % 128)
  | [], b => by show b % 128 + 128 * 0 = 0 + 128 ^ 0 * (b % 128); omega
  | a :: l, b => by
    show a % 128 + 128 * decL (l ++ [b]) = a % 128 + 128 * decL l + 128 ^ (l.length + 1) * (b % 128)
    rw [dec_snoc l b, Nat.pow_succ, Nat.mul_add, Nat.add_assoc, ← Nat.mul_assoc, Nat.mul_comm 128 (128 ^ l.length)]
theorem leb_snoc : ∀ {l : List Nat} {b : Nat}, (∀ x ∈ l, 128 ≤ x ∧ x < 256) → b < 128 → isLeb (l ++ [b])
  | [], b, _, h => h
  | [a], b, hl, h => ⟨hl a (List.mem_singleton.2 rfl), h⟩
  | a :: c :: l, b, hl, h => ⟨hl a List.mem_cons_self, leb_snoc (l := c :: l) (fun x hx => hl x (List.mem_cons_of_mem _ hx)) h⟩
theorem or_add {a b i : Nat} (h : a < 2 ^ i) : a ||| (b * 2 ^ i) = a + 2 ^ i * b := by
  rw [Nat.or_comm, Nat.mul_comm b, ← Nat.two_pow_add_eq_or_of_lt h, Nat.add_comm]
theorem or_i64 {a b : Int} (ha : 0 ≤ a ∧ a < 9223372036854775808) (hb : 0 ≤ b ∧ b < 9223372036854775808) : bits .or .i64 a b = ((a.toNat ||| b.toNat : Nat) : Int) := by
  have e : bits .or .i64 a b = IntKind.i64.wrap ((BitVec.ofInt 64 a ||| BitVec.ofInt 64 b).toNat : Int) := rfl
  have h1 : (BitVec.ofInt 64 a).toNat = a.toNat := by rw [BitVec.toNat_ofInt]; omega
  have h2 : (BitVec.ofInt 64 b).toNat = b.toNat := by rw [BitVec.toNat_ofInt]; omega
  have h3 : a.toNat ||| b.toNat < 2 ^ 63 := Nat.or_lt_two_pow (by omega) (by omega)
  rw [e, BitVec.toNat_or, h1, h2, wrap_in (by omega) (by omega)]
theorem or_u64 {a b : Int} (ha : 0 ≤ a ∧ a < 9223372036854775808) (hb : 0 ≤ b ∧ b < 9223372036854775808) : bits .or .u64 a b = ((a.toNat ||| b.toNat : Nat) : Int) := by
  have e : bits .or .u64 a b = IntKind.u64.wrap ((BitVec.ofInt 64 a ||| BitVec.ofInt 64 b).toNat : Int) := rfl
  have h1 : (BitVec.ofInt 64 a).toNat = a.toNat := by rw [BitVec.toNat_ofInt]; omega
  have h2 : (BitVec.ofInt 64 b).toNat = b.toNat := by rw [BitVec.toNat_ofInt]; omega
  have h3 : a.toNat ||| b.toNat < 2 ^ 63 := Nat.or_lt_two_pow (by omega) (by omega)
  rw [e, BitVec.toNat_or, h1, h2, IntKind.wrap_u64]
  omega
theorem and_u8 {x : Int} (h : 0 ≤ x ∧ x < 256) : bits .and .u8 x 127 = x % 128 := by
  have e : bits .and .u8 x 127 = IntKind.u8.wrap ((BitVec.ofInt 8 x &&& BitVec.ofInt 8 127).toNat : Int) := rfl
  have h1 : (BitVec.ofInt 8 x).toNat = x.toNat := by rw [BitVec.toNat_ofInt]; omega
  have h2 : (BitVec.ofInt 8 127).toNat = 2 ^ 7 - 1 := by decide
  rw [e, BitVec.toNat_and, h1, h2, Nat.and_two_pow_sub_one_eq_mod, IntKind.wrap_u8]
  omega
theorem leb_step {l : List Nat} {x : Nat} (hl : l.length ≤ 8) : bits .or .i64 (decL l : Int) (IntKind.i64.wrap ((x % 128 : Nat) * 2 ^ (7 * l.length))) = (decL (l ++ [x]) : Int) := by
  have h1 := dec_lt l
  have hp : (128 : Nat) ^ l.length = 2 ^ (7 * l.length) := by rw [Nat.pow_mul]
  have h8 : (128 : Nat) ^ l.length ≤ 128 ^ 8 := Nat.pow_le_pow_right (by decide) hl
  have hm : x % 128 * 2 ^ (7 * l.length) ≤ 127 * 128 ^ 8 := by
    rw [← hp]
    exact Nat.mul_le_mul (by omega) h8
  have hc : ((x % 128 : Nat) : Int) * 2 ^ (7 * l.length) = ((x % 128 * 2 ^ (7 * l.length) : Nat) : Int) := by push_cast; rfl
  have h9 : (128 : Nat) ^ 8 = 72057594037927936 := by decide
  rw [hc, wrap_in (by omega) (by omega), or_i64 ⟨by omega, by omega⟩ ⟨by omega, by omega⟩, Int.toNat_natCast, Int.toNat_natCast, or_add (by rw [← hp]; exact h1), dec_snoc, hp]
end Go.Proofs.Ytdeledeopippfaa
