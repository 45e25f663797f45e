/- Texts for VReadPathP. -/
import Derived.Test.YtfaadafgbhmlfaaDoorChecked
import Derived.KernelRfl
import Derived.Test.YtfaadafgbhmlfaaDoorVt15
import Derived.Test.YtfaadafgbhmlfaaDoorVt16
namespace Go.Proofs.YtfaadafgbhmlfaaDoor
open Go Go.RowKit
set_option linter.unusedVariables false
set_option linter.unusedSimpArgs false
section
open Go
def envT : Tr TI := (.nd (.nd (.nd (.nd (.nd (.nd (.nd (.nd .nil (.some ⟨1, false, 8, .o, some [.nilFunc], [], none⟩) .nil) (.some ⟨1, false, 8, .o, some [.nilFunc], [], none⟩) .nil) (.some ⟨1, false, 8, .p, some [.pointer none], [], none⟩) (.nd .nil (.some ⟨24, true, 24, .ar 24 5, some [.int .u8 0, .int .u8 0, .int .u8 0, .int .u8 0, .int .u8 0, .int .u8 0, .int .u8 0, .int .u8 0, .int .u8 0, .int .u8 0, .int .u8 0, .int .u8 0, .int .u8 0, .int .u8 0, .int .u8 0, .int .u8 0, .int .u8 0, .int .u8 0, .int .u8 0, .int .u8 0, .int .u8 0, .int .u8 0, .int .u8 0, .int .u8 0], [], none⟩) .nil)) (.some ⟨1, false, 8, .p, some [.pointer none], [], none⟩) (.nd .nil (.some ⟨3, true, 40, .st, some [.slice none 0 0, .int .i64 0, .bool false], [(0, 1, false), (1, 1, false), (2, 1, false)], none⟩) (.nd .nil (.some ⟨1, false, 8, .o, some [.nilFunc], [], none⟩) .nil))) (.some ⟨4, true, 24, .st, some [.int .i64 0, .int .i64 0, .bool false, .int .u8 0], [(0, 1, false), (1, 1, false), (2, 1, false), (3, 1, false)], none⟩) (.nd (.nd .nil (.some ⟨1, false, 8, .o, some [.nilFunc], [], none⟩) (.nd .nil (.some ⟨32, true, 32, .o, some [.int .u8 0, .int .u8 0, .int .u8 0, .int .u8 0, .int .u8 0, .int .u8 0, .int .u8 0, .int .u8 0, .int .u8 0, .int .u8 0, .int .u8 0, .int .u8 0, .int .u8 0, .int .u8 0, .int .u8 0, .int .u8 0, .int .u8 0, .int .u8 0, .int .u8 0, .int .u8 0, .int .u8 0, .int .u8 0, .int .u8 0, .int .u8 0, .int .u8 0, .int .u8 0, .int .u8 0, .int .u8 0, .int .u8 0, .int .u8 0, .int .u8 0, .int .u8 0], [], none⟩) .nil)) (.some ⟨3, true, 48, .st, some [.string ByteArray.empty, .string ByteArray.empty, .string ByteArray.empty], [(0, 1, false), (1, 1, false), (2, 1, false)], some [.s, .s, .s]⟩) (.nd (.nd .nil (.some ⟨1, false, 8, .o, some [.nilFunc], [], none⟩) .nil) (.some ⟨1, false, 8, .o, some [.nilFunc], [], none⟩) (.nd .nil (.some ⟨4, true, 40, .st, some [.pointer none, .pointer none, .pointer none, .string ByteArray.empty], [(0, 1, false), (1, 1, false), (2, 1, false), (3, 1, false)], none⟩) .nil)))) (.some ⟨1, false, 8, .i .i64, some [.int .i64 0], [], none⟩) (.nd (.nd (.nd (.nd (.nd .nil (.some ⟨11, true, 48, .st, some [.int .u64 0, .int .u64 0, .int .u32 0, .int .u8 0, .int .u8 0, .int .u8 0, .int .u8 0, .nilFunc, .pointer none, .int .i32 0, .int .i32 0], [(0, 1, false), (1, 1, false), (2, 1, false), (3, 1, false), (4, 1, false), (5, 1, false), (6, 1, false), (7, 1, false), (8, 1, false), (9, 1, false), (10, 1, false)], none⟩) .nil) (.some ⟨1, false, 8, .o, some [.nilFunc], [], none⟩) .nil) (.some ⟨3, true, 32, .st, some [.int .i64 0, .string ByteArray.empty, .int .i64 0], [(0, 1, false), (1, 1, false), (2, 1, false)], some [.i, .s, .i]⟩) (.nd .nil (.some ⟨1, false, 8, .o, some [.nilFunc], [], none⟩) .nil)) (.some ⟨1, true, 8, .st, some [.pointer none], [(0, 1, false)], none⟩) (.nd .nil (.some ⟨1, false, 8, .p, some [.pointer none], [], none⟩) (.nd .nil (.some ⟨1, false, 8, .o, some [.nilFunc], [], none⟩) .nil))) (.some ⟨1, false, 16, .s, some [.string ByteArray.empty], [], none⟩) (.nd (.nd (.nd .nil (.some ⟨1, false, 8, .o, some [.nilFunc], [], none⟩) .nil) (.some ⟨1, false, 8, .o, some [.nilFunc], [], none⟩) (.nd .nil (.some ⟨1, false, 8, .p, some [.pointer none], [], none⟩) .nil)) (.some ⟨1, false, 8, .o, some [.nilFunc], [], none⟩) (.nd (.nd .nil (.some ⟨3, true, 48, .st, some [.string ByteArray.empty, .string ByteArray.empty, .nilIface], [(0, 1, false), (1, 1, false), (2, 1, false)], none⟩) .nil) (.some ⟨1, false, 8, .o, some [.nilFunc], [], none⟩) (.nd .nil (.some ⟨0, true, 0, .st, some [], [(0, 0, true)], none⟩) .nil))))) (.some ⟨1, false, 8, .o, some [.nilFunc], [], none⟩) (.nd (.nd (.nd (.nd (.nd (.nd .nil (.some ⟨1, false, 4, .i .i32, some [.int .i32 0], [], none⟩) .nil) (.some ⟨1, false, 8, .o, some [.nilFunc], [], none⟩) .nil) (.some ⟨3, true, 40, .st, some [.slice none 0 0, .int .i64 0, .bool false], [(0, 1, false), (1, 1, false), (2, 1, false)], none⟩) (.nd .nil (.some ⟨1, false, 8, .o, some [.nilFunc], [], none⟩) .nil)) (.some ⟨1, false, 8, .p, some [.pointer none], [], none⟩) (.nd (.nd .nil (.some ⟨1, false, 8, .i .i64, some [.int .i64 0], [], none⟩) .nil) (.some ⟨1, false, 8, .o, some [.nilFunc], [], none⟩) (.nd .nil (.some ⟨65, true, 65, .ar 65 5, none, [], none⟩) .nil))) (.some ⟨1, false, 16, .s, some [.string ByteArray.empty], [], none⟩) (.nd (.nd (.nd .nil (.some ⟨1, false, 24, .sl 5, some [.slice none 0 0], [], none⟩) .nil) (.some ⟨1, false, 8, .o, some [.nilFunc], [], none⟩) .nil) (.some ⟨1, false, 8, .o, some [.nilFunc], [], none⟩) (.nd (.nd .nil (.some ⟨1, false, 8, .o, some [.nilFunc], [], none⟩) .nil) (.some ⟨1, false, 8, .o, some [.nilFunc], [], none⟩) (.nd .nil (.some ⟨0, true, 0, .o, some [], [], none⟩) .nil)))) (.some ⟨1, false, 1, .i .u8, some [.int .u8 0], [], none⟩) (.nd (.nd (.nd (.nd .nil (.some ⟨1, false, 16, .o, some [.nilIface], [], none⟩) .nil) (.some ⟨1, false, 8, .o, some [.nilFunc], [], none⟩) (.nd .nil (.some ⟨2, true, 2, .st, some [.int .u8 0, .int .u8 0], [(0, 1, false), (1, 1, false)], none⟩) .nil)) (.some ⟨1, false, 4, .i .i32, some [.int .i32 0], [], none⟩) (.nd (.nd .nil (.some ⟨1, false, 8, .i .u64, some [.int .u64 0], [], none⟩) .nil) (.some ⟨4, true, 56, .st, some [.string ByteArray.empty, .int .i64 0, .int .i64 0, .slice none 0 0], [(0, 1, false), (1, 1, false), (2, 1, false), (3, 1, false)], none⟩) (.nd .nil (.some ⟨32, true, 32, .ar 32 5, some [.int .u8 0, .int .u8 0, .int .u8 0, .int .u8 0, .int .u8 0, .int .u8 0, .int .u8 0, .int .u8 0, .int .u8 0, .int .u8 0, .int .u8 0, .int .u8 0, .int .u8 0, .int .u8 0, .int .u8 0, .int .u8 0, .int .u8 0, .int .u8 0, .int .u8 0, .int .u8 0, .int .u8 0, .int .u8 0, .int .u8 0, .int .u8 0, .int .u8 0, .int .u8 0, .int .u8 0, .int .u8 0, .int .u8 0, .int .u8 0, .int .u8 0, .int .u8 0], [], none⟩) .nil))) (.some ⟨2, true, 24, .st, some [.string ByteArray.empty, .int .u64 0], [(0, 1, false), (1, 1, false)], none⟩) (.nd (.nd (.nd .nil (.some ⟨1, false, 8, .o, some [.nilFunc], [], none⟩) .nil) (.some ⟨1, false, 8, .o, some [.nilFunc], [], none⟩) (.nd .nil (.some ⟨1, true, 16, .st, some [.string ByteArray.empty], [(0, 1, false)], some [.s]⟩) .nil)) .none (.nd (.nd .nil (.some ⟨1, false, 8, .o, some [.nilFunc], [], none⟩) .nil) .none (.nd .nil (.some ⟨1, false, 1, .i .u8, some [.int .u8 0], [], none⟩) .nil)))))) .none (.nd (.nd (.nd (.nd (.nd (.nd (.nd .nil (.some ⟨1, false, 4, .i .i32, some [.int .i32 0], [], none⟩) .nil) (.some ⟨1, false, 8, .o, some [.nilFunc], [], none⟩) .nil) (.some ⟨3, true, 40, .st, some [.slice none 0 0, .int .i64 0, .bool false], [(0, 1, false), (1, 1, false), (2, 1, false)], none⟩) (.nd .nil (.some ⟨1, false, 8, .o, some [.nilFunc], [], none⟩) .nil)) (.some ⟨1, false, 8, .p, some [.pointer none], [], none⟩) (.nd (.nd .nil (.some ⟨1, false, 8, .o, some [.nilFunc], [], none⟩) .nil) (.some ⟨3, true, 40, .st, some [.slice none 0 0, .int .i64 0, .bool false], [(0, 1, false), (1, 1, false), (2, 1, false)], none⟩) (.nd .nil (.some ⟨20, true, 160, .ar 20 82, some [.int .u64 0, .int .u64 0, .int .u64 0, .int .u64 0, .int .u64 0, .int .u64 0, .int .u64 0, .int .u64 0, .int .u64 0, .int .u64 0, .int .u64 0, .int .u64 0, .int .u64 0, .int .u64 0, .int .u64 0, .int .u64 0, .int .u64 0, .int .u64 0, .int .u64 0, .int .u64 0], [], none⟩) .nil))) (.some ⟨4, true, 24, .st, some [.int .i64 0, .int .i64 0, .bool false, .int .u8 0], [(0, 1, false), (1, 1, false), (2, 1, false), (3, 1, false)], none⟩) (.nd (.nd (.nd .nil (.some ⟨1, false, 8, .o, some [.nilFunc], [], none⟩) .nil) (.some ⟨1, false, 8, .p, some [.pointer none], [], none⟩) (.nd .nil (.some ⟨1, false, 4, .i .u32, some [.int .u32 0], [], none⟩) .nil)) .none (.nd (.nd .nil (.some ⟨1, false, 8, .o, some [.nilFunc], [], none⟩) .nil) (.some ⟨1, false, 8, .o, some [.nilFunc], [], none⟩) (.nd .nil (.some ⟨4, true, 40, .st, some [.pointer none, .pointer none, .pointer none, .string ByteArray.empty], [(0, 1, false), (1, 1, false), (2, 1, false), (3, 1, false)], none⟩) .nil)))) (.some ⟨1, false, 1, .b, some [.bool false], [], none⟩) (.nd (.nd (.nd (.nd .nil (.some ⟨1, false, 8, .o, some [.nilFunc], [], none⟩) .nil) (.some ⟨3, true, 32, .st, some [.int .i64 0, .string ByteArray.empty, .int .i64 0], [(0, 1, false), (1, 1, false), (2, 1, false)], some [.i, .s, .i]⟩) (.nd .nil (.some ⟨256, true, 256, .ar 256 5, none, [], none⟩) .nil)) (.some ⟨1, false, 16, .o, some [.nilIface], [], none⟩) (.nd (.nd .nil (.some ⟨1, false, 8, .o, some [.nilFunc], [], none⟩) .nil) (.some ⟨4, true, 56, .st, some [.string ByteArray.empty, .int .i64 0, .int .i64 0, .slice none 0 0], [(0, 1, false), (1, 1, false), (2, 1, false), (3, 1, false)], none⟩) (.nd .nil (.some ⟨1, false, 8, .o, some [.nilFunc], [], none⟩) .nil))) (.some ⟨1, false, 8, .i .u64, some [.int .u64 0], [], none⟩) (.nd (.nd (.nd .nil (.some ⟨1, false, 8, .o, some [.nilFunc], [], none⟩) .nil) .none (.nd .nil (.some ⟨1, false, 8, .p, some [.pointer none], [], none⟩) .nil)) (.some ⟨1, false, 24, .sl 36, some [.slice none 0 0], [], none⟩) (.nd (.nd .nil (.some ⟨3, true, 48, .st, some [.string ByteArray.empty, .string ByteArray.empty, .nilIface], [(0, 1, false), (1, 1, false), (2, 1, false)], none⟩) .nil) (.some ⟨1, false, 8, .o, some [.nilFunc], [], none⟩) (.nd .nil (.some ⟨1, false, 8, .o, some [.nilFunc], [], none⟩) .nil))))) (.some ⟨1, false, 8, .i .i64, some [.int .i64 0], [], none⟩) (.nd (.nd (.nd (.nd (.nd (.nd .nil (.some ⟨11, true, 48, .st, some [.int .u64 0, .int .u64 0, .int .u32 0, .int .u8 0, .int .u8 0, .int .u8 0, .int .u8 0, .nilFunc, .pointer none, .int .i32 0, .int .i32 0], [(0, 1, false), (1, 1, false), (2, 1, false), (3, 1, false), (4, 1, false), (5, 1, false), (6, 1, false), (7, 1, false), (8, 1, false), (9, 1, false), (10, 1, false)], none⟩) .nil) (.some ⟨1, false, 24, .sl 9, some [.slice none 0 0], [], none⟩) .nil) (.some ⟨1, false, 8, .o, some [.nilFunc], [], none⟩) .nil) (.some ⟨1, true, 8, .st, some [.pointer none], [(0, 1, false)], none⟩) (.nd (.nd .nil (.some ⟨1, false, 8, .i .u64, some [.int .u64 0], [], none⟩) .nil) (.some ⟨1, false, 8, .o, some [.nilFunc], [], none⟩) (.nd .nil (.some ⟨1, false, 8, .o, some [.nilFunc], [], none⟩) .nil))) (.some ⟨1, false, 16, .s, some [.string ByteArray.empty], [], none⟩) (.nd (.nd (.nd .nil (.some ⟨1, false, 8, .o, some [.nilFunc], [], none⟩) .nil) .none (.nd .nil (.some ⟨1, false, 8, .o, some [.nilFunc], [], none⟩) .nil)) (.some ⟨1, false, 8, .o, some [.nilFunc], [], none⟩) (.nd (.nd .nil (.some ⟨1, false, 8, .o, some [.nilFunc], [], none⟩) .nil) (.some ⟨1, false, 8, .o, some [.nilFunc], [], none⟩) (.nd .nil (.some ⟨0, true, 0, .st, some [], [(0, 0, true)], none⟩) .nil)))) (.some ⟨1, false, 1, .i .u8, some [.int .u8 0], [], none⟩) (.nd (.nd (.nd (.nd .nil (.some ⟨1, false, 16, .o, some [.nilIface], [], none⟩) .nil) .none (.nd .nil (.some ⟨2, true, 2, .st, some [.int .u8 0, .int .u8 0], [(0, 1, false), (1, 1, false)], none⟩) .nil)) (.some ⟨3, true, 48, .st, some [.string ByteArray.empty, .string ByteArray.empty, .string ByteArray.empty], [(0, 1, false), (1, 1, false), (2, 1, false)], some [.s, .s, .s]⟩) (.nd (.nd .nil (.some ⟨1, false, 8, .p, some [.pointer none], [], none⟩) .nil) .none (.nd .nil (.some ⟨64, true, 64, .ar 64 5, none, [], none⟩) .nil))) (.some ⟨2, true, 24, .st, some [.string ByteArray.empty, .int .u64 0], [(0, 1, false), (1, 1, false)], none⟩) (.nd (.nd (.nd .nil (.some ⟨1, false, 8, .o, some [.nilFunc], [], none⟩) .nil) (.some ⟨1, false, 8, .o, some [.nilFunc], [], none⟩) (.nd .nil (.some ⟨1, true, 16, .st, some [.string ByteArray.empty], [(0, 1, false)], some [.s]⟩) .nil)) (.some ⟨1, false, 8, .o, some [.nilFunc], [], none⟩) (.nd (.nd .nil (.some ⟨1, false, 8, .o, some [.nilFunc], [], none⟩) .nil) (.some ⟨1, false, 8, .o, some [.nilFunc], [], none⟩) (.nd .nil (.some ⟨1, false, 1, .i .u8, some [.int .u8 0], [], none⟩) .nil)))))))
def envF : Tr Unit := (.nd (.nd (.nd (.nd (.nd (.nd (.nd .nil (.some ()) .nil) (.some ()) (.nd .nil (.some ()) .nil)) (.some ()) (.nd (.nd .nil (.some ()) .nil) (.some ()) .nil)) (.some ()) (.nd (.nd (.nd .nil (.some ()) .nil) (.some ()) .nil) (.some ()) (.nd (.nd .nil (.some ()) .nil) (.some ()) .nil))) (.some ()) (.nd (.nd (.nd (.nd .nil (.some ()) .nil) (.some ()) .nil) (.some ()) (.nd (.nd .nil (.some ()) .nil) (.some ()) .nil)) (.some ()) (.nd (.nd .nil (.some ()) .nil) (.some ()) (.nd (.nd .nil (.some ()) .nil) (.some ()) .nil)))) .none (.nd (.nd (.nd (.nd (.nd .nil (.some ()) .nil) (.some ()) .nil) (.some ()) (.nd (.nd .nil (.some ()) .nil) (.some ()) .nil)) (.some ()) (.nd (.nd (.nd .nil (.some ()) .nil) (.some ()) .nil) (.some ()) (.nd (.nd .nil (.some ()) .nil) (.some ()) .nil))) (.some ()) (.nd (.nd (.nd (.nd .nil (.some ()) .nil) (.some ()) .nil) (.some ()) (.nd (.nd .nil (.some ()) .nil) (.some ()) .nil)) (.some ()) (.nd (.nd (.nd .nil (.some ()) .nil) (.some ()) .nil) (.some ()) (.nd (.nd .nil (.some ()) .nil) (.some ()) (.nd .nil (.some ()) .nil)))))) .none (.nd (.nd (.nd (.nd (.nd (.nd .nil (.some ()) .nil) (.some ()) .nil) (.some ()) (.nd (.nd .nil (.some ()) .nil) (.some ()) .nil)) (.some ()) (.nd (.nd (.nd .nil (.some ()) .nil) (.some ()) .nil) (.some ()) (.nd (.nd .nil (.some ()) .nil) (.some ()) .nil))) (.some ()) (.nd (.nd (.nd (.nd .nil (.some ()) .nil) (.some ()) .nil) (.some ()) (.nd (.nd .nil (.some ()) .nil) (.some ()) .nil)) (.some ()) (.nd (.nd (.nd .nil (.some ()) .nil) (.some ()) .nil) (.some ()) (.nd (.nd .nil (.some ()) .nil) (.some ()) .nil)))) (.some ()) (.nd (.nd (.nd (.nd .nil (.some ()) .nil) (.some ()) (.nd (.nd .nil (.some ()) .nil) (.some ()) .nil)) (.some ()) (.nd (.nd (.nd .nil (.some ()) .nil) (.some ()) .nil) (.some ()) (.nd (.nd .nil (.some ()) .nil) (.some ()) .nil))) (.some ()) (.nd (.nd (.nd (.nd .nil (.some ()) .nil) (.some ()) .nil) (.some ()) (.nd (.nd .nil (.some ()) .nil) .none .nil)) (.some ()) (.nd (.nd (.nd .nil (.some ()) .nil) (.some ()) .nil) (.some ()) (.nd (.nd .nil (.some ()) .nil) (.some ()) .nil))))))
theorem envT_ok : envT.all (tiOk Tryd.prog) id = true := by kernel_rfl
theorem envF_ok : envF.all (fun g _ => fnOk Tryd.prog g) id = true := by kernel_rfl
noncomputable def env : Env := ⟨Tryd.prog, envT, envF, envT_ok, envF_ok, by kernel_rfl⟩
end
theorem leaf_b {a b : Bool} (h : a = b) : AV.b a = AV.b b := by rw [h]
noncomputable def pb (p : Prop) : Bool := @decide p (Classical.propDecidable p)
theorem pb_t {p : Prop} : (pb p = true) = p := by
  unfold pb
  exact propext (@decide_eq_true_iff p (Classical.propDecidable p))
theorem pb_f {p : Prop} : (pb p = false) = ¬ p := by
  unfold pb
  exact propext (@decide_eq_false_iff_not p (Classical.propDecidable p))
theorem leaf_t {p : Prop} (h : p) : AV.b true = AV.b (pb p) := by rw [pb_t.mpr h]
theorem leaf_f {p : Prop} (h : ¬ p) : AV.b false = AV.b (pb p) := by rw [pb_f.mpr h]
theorem leaf_p {b : Bool} {p : Prop} (h : b = true ↔ p) : AV.b b = AV.b (pb p) := by
  cases b with
  | true => exact leaf_t (h.1 rfl)
  | false => exact leaf_f fun hp => by have := h.2 hp; cases this
theorem pb_congr {p q : Prop} (h : p ↔ q) : pb p = pb q := by rw [propext h]
theorem leaf_i {k : IntKind} {a b : Int} (h : a = b) : AV.i k a = AV.i k b := by rw [h]
theorem wrap_succ {k : Nat} (h : k < 9223372036854775807) : IntKind.i64.wrap ((k : Int) + 1) = ((k + 1 : Nat) : Int) := by
  rw [IntKind.wrap_i64]; omega
theorem wrap_in {n : Int} (h1 : -9223372036854775808 ≤ n) (h2 : n ≤ 9223372036854775807) : IntKind.i64.wrap n = n := by
  rw [IntKind.wrap_i64]; omega
theorem low_cells {r : List Nat} {n j : Nat} {cs : List AV} (h : cs.all (low1 0) = true) : fx r n (cs.getD j .any) = true := by
  by_cases hj : j < cs.length
  · have : cs.getD j .any = cs[j] := by rw [List.getD_eq_getElem?_getD, List.getElem?_eq_getElem hj]; rfl
    rw [this]
    exact fx_low (List.all_eq_true.1 h _ (List.getElem_mem hj))
  · have : cs.getD j .any = .any := by rw [List.getD_eq_getElem?_getD, List.getElem?_eq_none (by omega)]; rfl
    rw [this]; rfl
def elE {α : Type} [Inhabited α] (cells : α → List AV) (l : List α) : Nat → Nat → AV := fun i j => (cells (l.getD i default)).getD j .any
def AV.wf : AV → Prop
  | .i k n => (Lit.int k n).wf = true
  | .s x => x.size ≤ maxLen
  | .sl sz n g => n ≤ maxLen ∧ ∀ i j, i < n → j < sz → (g i j).wf
  | .rf m g => ∀ j, j < m → (g j).wf
  | _ => True
theorem Conc.wf {w : World} {S : Nat → Prop} {blk : Nat → BC} {H : Hp} {x : AV} {u : Value} (h : Conc w S blk H x u) : x.wf := by
  induction h with
  | i h => exact h
  | s h => exact h
  | sl0 a cap hm => exact ⟨Nat.zero_le _, fun i j hi => by omega⟩
  | sl b o cap U hb hn hm hc hf hu ih => exact ⟨Nat.le_trans hn hm, ih⟩
  | rf b o U hb hc hf hu ih => exact ih
  | _ => trivial
def AV.wfs : AV → Prop
  | .agg cs => ∀ c ∈ cs, c.wf
  | x => x.wf
theorem Conc.wfs {w : World} {S : Nat → Prop} {blk : Nat → BC} {H : Hp} {x : AV} {u : Value} (h : Conc w S blk H x u) : x.wfs := by
  cases x with
  | agg cs =>
    obtain ⟨us, rfl, hl, hu⟩ := inv_agg h
    intro c hc
    obtain ⟨j, hj⟩ := List.getElem?_of_mem hc
    have hlt : j < us.length := by rw [hl]; exact (List.getElem?_eq_some_iff.1 hj).1
    exact (hu j c _ hj (List.getElem?_eq_getElem hlt)).wf
  | _ => exact h.wf
theorem Ret.args {P : Program} {g : FuncId} {av : List AV} {post : AV → Prop} (h : (∀ a ∈ av, a.wfs) → Ret P g av post) : Ret P g av post :=
  Ret.know (p := ∀ a ∈ av, a.wfs) (fun w S us hc a ha => by
    obtain ⟨j, hj⟩ := List.getElem?_of_mem ha
    have hlt : j < us.length := by rw [hc.1]; exact (List.getElem?_eq_some_iff.1 hj).1
    exact (hc.2 j a _ hj (List.getElem?_eq_getElem hlt)).wfs) h
structure Wk (x y : AV) : Prop where
  idf : x.idf → y.idf
  c : ∀ (w : World) (S : Nat → Prop) (u : Value), Conc w S (fun _ => ⟨0, 0⟩) [] x u → Conc w S (fun _ => ⟨0, 0⟩) [] y u
theorem Wk.refl (x : AV) : Wk x x := ⟨id, fun _ _ _ h => h⟩
theorem Wk.of {x y : AV} (h : x = y) : Wk x y := h ▸ Wk.refl x
theorem Wk.sl {sz n : Nat} {g g' : Nat → Nat → AV} (h : ∀ i j, i < n → j < sz → Wk (g i j) (g' i j)) : Wk (.sl sz n g) (.sl sz n g') := by
  refine ⟨fun hi i j hi' hj => (h i j hi' hj).idf (hi i j hi' hj), fun w S u hc => ?_⟩
  cases hc with
  | sl0 a cap hm => exact .sl0 a cap hm
  | sl b o cap U hb hn hm hc hf hu => exact .sl b o cap U hb hn hm hc (fun i j hi hj => (h i j hi hj).idf (hf i j hi hj)) (fun i j hi hj => (h i j hi hj).c w S _ (hu i j hi hj))
theorem Wk.rf {m : Nat} {g g' : Nat → AV} (h : ∀ j, j < m → Wk (g j) (g' j)) : Wk (.rf m g) (.rf m g') := by
  refine ⟨fun hi j hj => (h j hj).idf (hi j hj), fun w S u hc => ?_⟩
  obtain ⟨b, o, U, rfl, hS, hcc, hu, hf⟩ := inv_rf hc
  exact .rf b o U hS hcc (fun j hj => (h j hj).idf (hf j hj)) fun j hj => (h j hj).c w S _ (hu j hj)
def rfL (cs : List AV) : AV := .rf cs.length fun j => cs.getD j .any
theorem Wk.rfc {m : Nat} {g : Nat → AV} {cs : List AV} (h : cellsAt g 0 m = cs) : Wk (.rf m g) (rfL cs) := by
  have hl : cs.length = m := by rw [← h, cellsAt_length]
  unfold rfL
  rw [hl]
  refine Wk.rf fun j hj => Wk.of ?_
  obtain ⟨_, e⟩ := cellsAt_get g m 0 j (cs.getD j .any) (by rw [h, List.getElem?_eq_getElem (by omega), List.getD_eq_getElem?_getD, List.getElem?_eq_getElem (by omega)]; rfl)
  rw [e, Nat.zero_add]
def WkL (xs ys : List AV) : Prop := xs.length = ys.length ∧ ∀ (j : Nat) (x y : AV), xs[j]? = some x → ys[j]? = some y → Wk x y
theorem WkL.nil : WkL [] [] := ⟨rfl, fun j x y h => by simp at h⟩
theorem WkL.cons {x y : AV} {xs ys : List AV} (h : Wk x y) (r : WkL xs ys) : WkL (x :: xs) (y :: ys) :=
  ⟨by simp [r.1], fun j a b ha hb => by
    cases j with
    | zero => cases ha; cases hb; exact h
    | succ j => exact r.2 j a b (by simpa using ha) (by simpa using hb)⟩
theorem WkL.append {xs ys xs' ys' : List AV} (h : WkL xs ys) (r : WkL xs' ys') : WkL (xs ++ xs') (ys ++ ys') := by
  refine ⟨by simp [h.1, r.1], fun j a b ha hb => ?_⟩
  rcases Nat.lt_or_ge j xs.length with hlt | hge
  · rw [List.getElem?_append_left hlt] at ha
    rw [List.getElem?_append_left (by rw [← h.1]; exact hlt)] at hb
    exact h.2 j a b ha hb
  · rw [List.getElem?_append_right hge] at ha
    rw [List.getElem?_append_right (by rw [← h.1]; exact hge), ← h.1] at hb
    exact r.2 _ a b ha hb
theorem Wk.agg {xs ys : List AV} (h : WkL xs ys) : Wk (.agg xs) (.agg ys) := by
  refine ⟨fun hi => hi.elim, fun w S u hc => ?_⟩
  obtain ⟨us, rfl, hl, hu⟩ := inv_agg hc
  refine .agg ys us (hl.trans h.1) fun j c u hj hju => ?_
  have hlt : j < xs.length := by rw [h.1]; exact (List.getElem?_eq_some_iff.1 hj).1
  exact (h.2 j _ c (List.getElem?_eq_getElem hlt) hj).c w S u (hu j _ u (List.getElem?_eq_getElem hlt) hju)
theorem Wk.fn {g : FuncId} {xs ys : List AV} (h : WkL xs ys) : Wk (.fn g xs) (.fn g ys) := by
  refine ⟨fun hi => ?_, fun w S u hc => ?_⟩
  · have hx : xs = [] := hi
    subst hx
    show ys = []
    exact List.eq_nil_of_length_eq_zero h.1.symm
  · obtain ⟨us, rfl, hl, hu⟩ := inv_fn hc
    refine .fn g ys us (hl.trans h.1) fun j c u hj hju => ?_
    have hlt : j < xs.length := by rw [h.1]; exact (List.getElem?_eq_some_iff.1 hj).1
    exact (h.2 j _ c (List.getElem?_eq_getElem hlt) hj).c w S u (hu j _ u (List.getElem?_eq_getElem hlt) hju)
theorem Ret.wk {P : Program} {g : FuncId} {av bs : List AV} {post : AV → Prop} (h : WkL av bs) (r : Ret P g bs post) : Ret P g av post := .mk fun w S us hS hc =>
  r.h w S us hS ⟨hc.1.trans h.1, fun j c u hj hu => by
    have hlt : j < av.length := by rw [h.1]; exact (List.getElem?_eq_some_iff.1 hj).1
    exact (h.2 j _ c (List.getElem?_eq_getElem hlt) hj).c w S u (hc.2 j _ u (List.getElem?_eq_getElem hlt) hu)⟩
def slL {α : Type} [Inhabited α] (sz : Nat) (cells : α → List AV) (l : List α) : AV := .sl sz l.length fun i j => (cells (l.getD i default)).getD j .any
def stay : AV → Bool
  | .any | .i .. | .b _ | .s _ | .nils | .nilp | .sl .. | .rf .. => true
  | _ => false
theorem stay_eq {k : Nat} {H : Hp} {v : AV} (h : stay v = true) : shrC k H v = v := by
  cases k <;> cases v <;> first | rfl | cases h
def szN (n : Nat) (left : Int) : Int := if left < n then -1 else left - n
def Rd (P : Program) (t : TypeId) (α : Type) (cells : α → List AV) : Prop := ∀ cs, TyC P t cs → ∃ a, WkL cs (cells a)
theorem rd_str {P : Program} {t : TypeId} (hu : P.underlying t = some .string) : Rd P t ByteArray fun b => [.s b] := fun cs h => by
  obtain ⟨n, rfl, _⟩ := h.string_inv hu
  exact ⟨n, .cons (.refl _) .nil⟩
theorem arg_one {P : Program} {t : TypeId} {α : Type} {c : α → AV} {cs : List AV} (h : Rd P t α fun a => [c a]) (ha : aggT P t = false) (hc : TyC P t cs) : ∃ a, Wk (mkArg P t cs) (c a) := by
  obtain ⟨a, h1⟩ := h cs hc
  refine ⟨a, ?_⟩
  unfold mkArg
  rw [ha, cond_false]
  obtain ⟨x, rfl⟩ := List.length_eq_one_iff.1 (show cs.length = 1 from h1.1)
  exact h1.2 0 x _ rfl rfl
theorem srcOk_1 {sz : Nat} {g : Nat → Nat → AV} (h : (cellsAt (g 0) 0 sz).all cp1 = true) : SrcOk 1 sz g := ⟨fun i j hi hj => by
  obtain rfl : i = 0 := by omega
  have hl : j < (cellsAt (g 0) 0 sz).length := by rw [cellsAt_length]; exact hj
  have := List.all_eq_true.1 h _ (List.getElem_mem hl)
  have e := (cellsAt_get (g 0) sz 0 j _ (List.getElem?_eq_getElem hl)).2
  rw [e, Nat.zero_add] at this
  exact this⟩
theorem srcOk_L {α : Type} [Inhabited α] {m sz : Nat} {c : α → List AV} {l : List α} (h : ∀ a, (c a).all cp1 = true ∧ (c a).length = sz) : SrcOk m sz (fun i j => (c (l.getD i default)).getD j .any) := ⟨fun i j hi hj => by
  have hj' : j < (c (l.getD i default)).length := by rw [(h _).2]; exact hj
  rw [List.getD_eq_getElem?_getD, List.getElem?_eq_getElem hj']
  exact List.all_eq_true.1 (h _).1 _ (List.getElem_mem hj')⟩
theorem srcOk_E {α : Type} [Inhabited α] {m sz : Nat} {c : α → List AV} {l : List α} (h : ∀ a, (c a).all cp1 = true ∧ (c a).length = sz) : SrcOk m sz (elE c l) := srcOk_L h
theorem dd : (∀ (p : Prop) [Decidable p], decide p = true ↔ p) ∧ (∀ b : Bool, (!b) = true ↔ b = false) ∧ (∀ b : Bool, (!b) = false ↔ b = true) ∧ (∀ (p : Prop) [Decidable p], decide p = false ↔ ¬ p) ∧ (∀ b : Bool, (¬ b = true) ↔ b = false) ∧ (∀ (p : Prop) [Decidable p], ¬¬p ↔ p) ∧ (true = false ↔ False) ∧ (false = true ↔ False) ∧ (∀ p : Prop, pb p = true ↔ p) ∧ (∀ p : Prop, pb p = false ↔ ¬ p) :=
  ⟨fun _ _ => by simp, fun _ => by simp, fun _ => by simp, fun _ _ => by simp, fun _ => by simp, fun _ _ => by simp, by simp, by simp, fun _ => iff_of_eq pb_t, fun _ => iff_of_eq pb_f⟩
theorem dkk {ops : Array Oper} (h : drawOk ops = true := by kernel_rfl) : drawOk ops = true := h
theorem dks {ops : Array Oper} (h : drawOkS ops = true := by kernel_rfl) : drawOkS ops = true := h
def strC (s : ByteArray) : List AV := [.s s]
def okS (s : ByteArray) : Prop := s.size ≤ 1048576
def okL {α : Type} [Inhabited α] (p : α → Prop) (l : List α) : Prop := l.length ≤ 1048576 ∧ ∀ k, k < l.length → p (l.getD k default)
def szSt (s : ByteArray) (left : Int) : Int := szN s.size left
def szF {α : Type} (g : α → Int → Int) : List α → Int → Int
  | [], v => v
  | x :: r, v => if g x v < 0 then -1 else szF g r (g x v)
def szLs {α : Type} (g : α → Int → Int) (l : List α) (left : Int) : Int := if left - l.length < 0 then -1 else szF g l (left - l.length)
def szAt {α : Type} [Inhabited α] (g : α → Int → Int) (l : List α) (v0 : Int) : Nat → Int
  | 0 => v0
  | k + 1 => g (l.getD k default) (szAt g l v0 k)
theorem szF_cons {α : Type} {g : α → Int → Int} {x : α} {r : List α} {v : Int} : szF g (x :: r) v = if g x v < 0 then -1 else szF g r (g x v) := rfl
structure SzI {α : Type} [Inhabited α] (g : α → Int → Int) (l : List α) (v0 : Int) (k : Nat) : Prop where
  eq : szF g (l.drop k) (szAt g l v0 k) = szF g l v0
  lo : 0 ≤ szAt g l v0 k
  hi : szAt g l v0 k ≤ 1048576
theorem drop_get {α : Type} [Inhabited α] {l : List α} {k : Nat} (hk : k < l.length) : l.drop k = l.getD k default :: l.drop (k + 1) := by
  rw [List.drop_eq_getElem_cons hk, List.getD_eq_getElem?_getD, List.getElem?_eq_getElem hk]; rfl
theorem SzI.step {α : Type} [Inhabited α] {g : α → Int → Int} {l : List α} {v0 : Int} {k : Nat} (hg : ∀ a v, v ≤ 1048576 → g a v ≤ 1048576) (s : SzI g l v0 k) (hk : (k : Int) < (l.length : Int))
    (hn : ¬ g (l.getD k default) (szAt g l v0 k) < 0) : SzI g l v0 (k + 1) := by
  have e := s.eq
  rw [drop_get (by omega)] at e
  rw [szF_cons, if_neg hn] at e
  refine ⟨e, ?_, ?_⟩
  · show 0 ≤ g (l.getD k default) (szAt g l v0 k); omega
  · exact hg _ _ s.hi
theorem SzI.neg {α : Type} [Inhabited α] {g : α → Int → Int} {l : List α} {left : Int} {k : Nat} (s : SzI g l (left - l.length) k) (hk : (k : Int) < (l.length : Int))
    (hn : g (l.getD k default) (szAt g l (left - l.length) k) < 0) (h0 : ¬ left - l.length < 0) : (-1 : Int) = szLs g l left := by
  have e := s.eq
  rw [drop_get (by omega)] at e
  rw [szF_cons, if_pos hn] at e
  unfold szLs
  rw [if_neg h0]
  exact e
theorem SzI.fin {α : Type} [Inhabited α] {g : α → Int → Int} {l : List α} {left : Int} {k : Nat} (s : SzI g l (left - l.length) k) (hk : ¬ (k : Int) < (l.length : Int)) (h0 : ¬ left - l.length < 0) : szAt g l (left - l.length) k = szLs g l left := by
  have e := s.eq
  rw [List.drop_eq_nil_of_le (by omega)] at e
  unfold szLs
  rw [if_neg h0]
  exact e
structure Typ where
  kind : Int
  name : ByteArray
  labels : List ByteArray
  kids : List Typ
instance : Inhabited Typ := ⟨⟨0, ByteArray.empty, [], []⟩⟩
noncomputable instance : DecidableEq Typ := fun a b => Classical.propDecidable (a = b)
noncomputable def Typ.pN (n : Nat) : Typ → List AV := Nat.rec (motive := fun _ => Typ → List AV) (fun _ => []) (fun _ ih a => [.i .i64 a.kind, .s a.name, slL 1 strC a.labels, slL 4 ih a.kids]) n
noncomputable def Typ.kd (a : Typ) : Nat := Typ.rec (motive_1 := fun _ => Nat) (motive_2 := fun _ => Nat) (fun _ _ _ _ ih => ih) 0 (fun _ _ x y => Nat.max (x + 1) y) a
noncomputable def Typ.cs (a : Typ) : List AV := Typ.pN (a.kd + 1) a
theorem Typ.low (a : Typ) : a.cs.all (low1 0) = true := rfl
def Typ.fN (n : Nat) : Typ → Prop := Nat.rec (motive := fun _ => Typ → Prop) (fun _ => False) (fun _ ih a => ∀ x ∈ a.kids, ih x) n
def Typ.oN (n : Nat) : Typ → Prop := Nat.rec (motive := fun _ => Typ → Prop) (fun _ => False) (fun _ ih a => okS a.name ∧ (okL okS) a.labels ∧ okL ih a.kids) n
def Typ.ok (a : Typ) : Prop := Typ.oN (a.kd + 1) a
theorem Typ.wget {xs ys : List AV} (h : WkL xs ys) (j : Nat) : Wk (xs.getD j .any) (ys.getD j .any) := by
  rw [List.getD_eq_getElem?_getD, List.getD_eq_getElem?_getD]
  cases hx : xs[j]? with
  | none =>
    have : ys[j]? = none := by
      rw [List.getElem?_eq_none_iff] at hx ⊢
      rw [← h.1]; exact hx
    rw [this]
    exact .refl _
  | some x =>
    have hl : j < ys.length := by rw [← h.1]; exact (List.getElem?_eq_some_iff.1 hx).1
    rw [List.getElem?_eq_getElem hl]
    exact h.2 j x _ hx (List.getElem?_eq_getElem hl)
theorem Typ.getD_mem0 {l : List Typ} {k : Nat} (h : k < l.length) : l.getD k default ∈ l := by
  rw [List.getD_eq_getElem?_getD, List.getElem?_eq_getElem h]
  exact List.getElem_mem h
theorem Typ.conv : ∀ (n m : Nat) (a : Typ), Typ.fN n a → Typ.fN m a → WkL (Typ.pN n a) (Typ.pN m a)
  | 0, m, a, h, _ => h.elim
  | n + 1, 0, a, _, h => h.elim
  | n + 1, m + 1, a, h, k => .cons (.refl _) (.cons (.refl _) (.cons (.refl _) (.cons (Wk.sl fun i j hi hj => Typ.wget (Typ.conv n m _ (h _ (Typ.getD_mem0 hi)) (k _ (Typ.getD_mem0 hi))) j) .nil)))
noncomputable def Typ.zN (n : Nat) : Typ → Int → Int := Nat.rec (motive := fun _ => Typ → Int → Int) (fun _ _ => -1) (fun _ ih a left => if (szSt a.name left) < 0 then -1 else if ((szLs szSt) a.labels (szSt a.name left)) < 0 then -1 else if (szLs ih a.kids ((szLs szSt) a.labels (szSt a.name left))) < 0 then -1 else (szLs ih a.kids ((szLs szSt) a.labels (szSt a.name left)))) n
noncomputable def Typ.sz (a : Typ) (left : Int) : Int := Typ.zN (a.kd + 1) a left
def byA (b : ByteArray) (k : Nat) : Nat := (b.data.getD k 0).toNat
def chA (c : Nat) : Prop := 97 ≤ c ∧ c ≤ 122
def chB (c : Nat) : Prop := (97 ≤ c ∧ c ≤ 122) ∨ (48 ≤ c ∧ c ≤ 57) ∨ c = 45
structure NmTo (b : ByteArray) (k : Nat) : Prop where
  h : ∀ j, j < k → chB (byA b j) ∧ (byA b j = 45 → 0 < j ∧ byA b (j - 1) ≠ 45) ∧ (j = 0 → chA (byA b j))
theorem NmTo.zero (b : ByteArray) : NmTo b 0 := ⟨fun j hj => absurd hj (Nat.not_lt_zero _)⟩
theorem NmTo.succ {b : ByteArray} {k : Nat} (h : NmTo b k) (h1 : chB (byA b k)) (h2 : byA b k = 45 → 0 < k ∧ byA b (k - 1) ≠ 45) (h3 : k = 0 → chA (byA b k)) : NmTo b (k + 1) := ⟨fun j hj => by
  rcases Nat.lt_or_eq_of_le (Nat.le_of_lt_succ hj) with r | rfl
  · exact h.h j r
  · exact ⟨h1, h2, h3⟩⟩
structure nmB (b : ByteArray) : Prop where
  lo : 1 ≤ b.size
  hi : b.size ≤ 12
  fst : chA (byA b 0)
  last : byA b (b.size - 1) ≠ 45
  all : NmTo b b.size
def Typ.hasN (p : Int → Prop) (n : Nat) : Typ → Prop := Nat.rec (motive := fun _ => Typ → Prop) (fun _ => False) (fun _ ih a => p a.kind ∨ ∃ k, k < a.kids.length ∧ ih (a.kids.getD k default)) n
def Typ.has (p : Int → Prop) (a : Typ) : Prop := Typ.hasN p (a.kd + 1) a
end Go.Proofs.YtfaadafgbhmlfaaDoor
