/- Texts for VTermOkP. -/
import Derived.Test.YtllcemegnggpfaaChecked
import Derived.KernelRfl
import Derived.Test.YtllcemegnggpfaaVs15
import Derived.Test.YtllcemegnggpfaaVs16
namespace Go.Proofs.Ytllcemegnggpfaa
open Go Go.RowKit
set_option linter.unusedVariables false
set_option linter.unusedSimpArgs false
section
open Go
def envT : Tr TI := (.nd (.nd (.nd (.nd (.nd (.nd (.nd (.nd .nil (.some ⟨1, false, 8, .o, some [.nilFunc], [], none⟩) .nil) (.some ⟨3, true, 32, .st, some [.int .i64 0, .string ByteArray.empty, .int .i64 0], [(0, 1, false), (1, 1, false), (2, 1, false)], some [.i, .s, .i]⟩) .nil) (.some ⟨1, false, 24, .sl 33, some [.slice none 0 0], [], none⟩) (.nd .nil (.some ⟨1, false, 24, .sl 5, some [.slice none 0 0], [], none⟩) .nil)) (.some ⟨1, false, 8, .p, some [.pointer none], [], none⟩) (.nd (.nd .nil (.some ⟨1, false, 8, .o, some [.nilFunc], [], none⟩) .nil) (.some ⟨1, false, 8, .o, some [.nilFunc], [], none⟩) .nil)) (.some ⟨4, true, 24, .st, some [.int .i64 0, .int .i64 0, .bool false, .int .u8 0], [(0, 1, false), (1, 1, false), (2, 1, false), (3, 1, false)], none⟩) (.nd (.nd (.nd .nil (.some ⟨1, false, 8, .o, some [.nilFunc], [], none⟩) .nil) (.some ⟨1, false, 8, .o, some [.nilFunc], [], none⟩) (.nd .nil (.some ⟨1, false, 8, .o, some [.nilFunc], [], none⟩) .nil)) (.some ⟨1, false, 24, .sl 25, some [.slice none 0 0], [], none⟩) (.nd (.nd .nil (.some ⟨1, false, 8, .o, some [.nilFunc], [], none⟩) .nil) (.some ⟨1, false, 24, .sl 63, some [.slice none 0 0], [], none⟩) (.nd .nil (.some ⟨4, true, 40, .st, some [.pointer none, .pointer none, .pointer none, .string ByteArray.empty], [(0, 1, false), (1, 1, false), (2, 1, false), (3, 1, false)], none⟩) .nil)))) (.some ⟨1, false, 8, .i .i64, some [.int .i64 0], [], none⟩) (.nd (.nd (.nd (.nd (.nd .nil (.some ⟨11, true, 48, .st, some [.int .u64 0, .int .u64 0, .int .u32 0, .int .u8 0, .int .u8 0, .int .u8 0, .int .u8 0, .nilFunc, .pointer none, .int .i32 0, .int .i32 0], [(0, 1, false), (1, 1, false), (2, 1, false), (3, 1, false), (4, 1, false), (5, 1, false), (6, 1, false), (7, 1, false), (8, 1, false), (9, 1, false), (10, 1, false)], none⟩) .nil) (.some ⟨1, false, 8, .o, some [.nilFunc], [], none⟩) .nil) (.some ⟨1, false, 8, .o, some [.nilFunc], [], none⟩) (.nd .nil (.some ⟨1, false, 8, .o, some [.nilFunc], [], none⟩) .nil)) (.some ⟨1, true, 8, .st, some [.pointer none], [(0, 1, false)], none⟩) (.nd (.nd .nil (.some ⟨1, false, 8, .o, some [.nilFunc], [], none⟩) .nil) (.some ⟨1, false, 8, .o, some [.nilFunc], [], none⟩) .nil)) (.some ⟨1, false, 16, .s, some [.string ByteArray.empty], [], none⟩) (.nd (.nd (.nd .nil (.some ⟨1, false, 8, .o, some [.nilFunc], [], none⟩) .nil) (.some ⟨1, false, 8, .o, some [.nilFunc], [], none⟩) (.nd .nil (.some ⟨2, true, 32, .st, some [.pointer none, .slice none 0 0], [(0, 1, false), (1, 1, false)], none⟩) .nil)) (.some ⟨1, false, 8, .o, some [.nilFunc], [], none⟩) (.nd .nil (.some ⟨3, true, 40, .st, some [.slice none 0 0, .int .i64 0, .bool false], [(0, 1, false), (1, 1, false), (2, 1, false)], none⟩) (.nd .nil (.some ⟨1, false, 8, .o, some [.nilFunc], [], none⟩) .nil))))) (.some ⟨1, false, 8, .o, some [.nilFunc], [], none⟩) (.nd (.nd (.nd (.nd (.nd (.nd .nil (.some ⟨1, false, 4, .i .i32, some [.int .i32 0], [], none⟩) .nil) (.some ⟨3, true, 40, .st, some [.slice none 0 0, .int .i64 0, .bool false], [(0, 1, false), (1, 1, false), (2, 1, false)], none⟩) .nil) (.some ⟨4, true, 72, .st, some [.int .i64 0, .string ByteArray.empty, .slice none 0 0, .slice none 0 0], [(0, 1, false), (1, 1, false), (2, 1, false), (3, 1, false)], none⟩) (.nd .nil (.some ⟨1, false, 8, .o, some [.nilFunc], [], none⟩) .nil)) (.some ⟨1, false, 8, .p, some [.pointer none], [], none⟩) (.nd (.nd .nil (.some ⟨1, false, 8, .o, some [.nilFunc], [], none⟩) .nil) (.some ⟨1, false, 8, .o, some [.nilFunc], [], none⟩) (.nd .nil (.some ⟨1, false, 8, .o, some [.nilFunc], [], none⟩) .nil))) (.some ⟨1, false, 16, .s, some [.string ByteArray.empty], [], none⟩) (.nd (.nd (.nd .nil (.some ⟨1, false, 8, .p, some [.pointer none], [], none⟩) .nil) (.some ⟨1, false, 8, .o, some [.nilFunc], [], none⟩) (.nd .nil (.some ⟨1, false, 8, .p, some [.pointer none], [], none⟩) .nil)) (.some ⟨4, true, 72, .st, some [.int .i64 0, .string ByteArray.empty, .slice none 0 0, .slice none 0 0], [(0, 1, false), (1, 1, false), (2, 1, false), (3, 1, false)], none⟩) (.nd (.nd .nil (.some ⟨4, true, 56, .st, some [.string ByteArray.empty, .int .i64 0, .int .i64 0, .slice none 0 0], [(0, 1, false), (1, 1, false), (2, 1, false), (3, 1, false)], none⟩) .nil) (.some ⟨1, false, 8, .o, some [.nilFunc], [], none⟩) (.nd .nil (.some ⟨0, true, 0, .st, some [], [(0, 0, true)], none⟩) .nil)))) (.some ⟨1, false, 1, .i .u8, some [.int .u8 0], [], none⟩) (.nd (.nd (.nd (.nd .nil (.some ⟨1, false, 8, .o, some [.nilFunc], [], none⟩) .nil) (.some ⟨1, false, 8, .o, some [.nilFunc], [], none⟩) (.nd .nil (.some ⟨1, false, 8, .o, some [.nilFunc], [], none⟩) .nil)) (.some ⟨1, false, 4, .i .i32, some [.int .i32 0], [], none⟩) (.nd (.nd .nil (.some ⟨1, false, 8, .o, some [.nilFunc], [], none⟩) .nil) (.some ⟨1, false, 8, .o, some [.nilFunc], [], none⟩) (.nd .nil (.some ⟨1, false, 8, .o, some [.nilFunc], [], none⟩) .nil))) (.some ⟨2, true, 24, .st, some [.string ByteArray.empty, .int .u64 0], [(0, 1, false), (1, 1, false)], none⟩) (.nd (.nd (.nd .nil (.some ⟨1, false, 8, .o, some [.nilFunc], [], none⟩) .nil) (.some ⟨1, false, 8, .o, some [.nilFunc], [], none⟩) (.nd .nil (.some ⟨1, false, 16, .o, some [.nilIface], [], none⟩) .nil)) (.some ⟨1, false, 8, .o, some [.nilFunc], [], none⟩) (.nd (.nd .nil (.some ⟨1, false, 8, .o, some [.nilFunc], [], none⟩) .nil) (.some ⟨1, false, 8, .o, some [.nilFunc], [], none⟩) (.nd .nil (.some ⟨1, false, 1, .i .u8, some [.int .u8 0], [], none⟩) .nil)))))) .none (.nd (.nd (.nd (.nd (.nd (.nd (.nd .nil (.some ⟨1, false, 4, .i .i32, some [.int .i32 0], [], none⟩) .nil) (.some ⟨1, false, 8, .o, some [.nilFunc], [], none⟩) .nil) (.some ⟨4, true, 72, .st, some [.int .i64 0, .string ByteArray.empty, .slice none 0 0, .slice none 0 0], [(0, 1, false), (1, 1, false), (2, 1, false), (3, 1, false)], none⟩) (.nd .nil (.some ⟨1, false, 8, .o, some [.nilFunc], [], none⟩) .nil)) (.some ⟨1, false, 8, .p, some [.pointer none], [], none⟩) (.nd .nil (.some ⟨1, false, 8, .o, some [.nilFunc], [], none⟩) (.nd .nil (.some ⟨1, false, 8, .o, some [.nilFunc], [], none⟩) .nil))) (.some ⟨4, true, 24, .st, some [.int .i64 0, .int .i64 0, .bool false, .int .u8 0], [(0, 1, false), (1, 1, false), (2, 1, false), (3, 1, false)], none⟩) (.nd (.nd (.nd .nil (.some ⟨1, false, 8, .o, some [.nilFunc], [], none⟩) .nil) .none (.nd .nil (.some ⟨1, false, 8, .o, some [.nilFunc], [], none⟩) .nil)) (.some ⟨4, true, 72, .st, some [.int .i64 0, .string ByteArray.empty, .slice none 0 0, .slice none 0 0], [(0, 1, false), (1, 1, false), (2, 1, false), (3, 1, false)], none⟩) (.nd (.nd .nil (.some ⟨1, false, 8, .p, some [.pointer none], [], none⟩) .nil) .none (.nd .nil (.some ⟨0, true, 0, .o, some [], [], none⟩) .nil)))) (.some ⟨1, false, 1, .b, some [.bool false], [], none⟩) (.nd (.nd (.nd (.nd .nil (.some ⟨1, false, 8, .o, some [.nilFunc], [], none⟩) .nil) (.some ⟨1, false, 8, .o, some [.nilFunc], [], none⟩) (.nd .nil (.some ⟨1, false, 8, .o, some [.nilFunc], [], none⟩) .nil)) (.some ⟨1, false, 16, .o, some [.nilIface], [], none⟩) (.nd (.nd .nil (.some ⟨1, false, 8, .o, some [.nilFunc], [], none⟩) .nil) .none (.nd .nil (.some ⟨1, false, 8, .o, some [.nilFunc], [], none⟩) .nil))) (.some ⟨1, false, 8, .i .u64, some [.int .u64 0], [], none⟩) (.nd (.nd (.nd .nil (.some ⟨1, false, 8, .o, some [.nilFunc], [], none⟩) .nil) (.some ⟨1, false, 8, .o, some [.nilFunc], [], none⟩) (.nd .nil (.some ⟨1, false, 8, .o, some [.nilFunc], [], none⟩) .nil)) (.some ⟨1, false, 8, .o, some [.nilFunc], [], none⟩) (.nd (.nd .nil (.some ⟨1, false, 8, .o, some [.nilFunc], [], none⟩) .nil) (.some ⟨3, true, 40, .st, some [.slice none 0 0, .int .i64 0, .bool false], [(0, 1, false), (1, 1, false), (2, 1, false)], none⟩) (.nd .nil (.some ⟨1, false, 4, .i .u32, some [.int .u32 0], [], none⟩) .nil))))) (.some ⟨1, false, 8, .i .i64, some [.int .i64 0], [], none⟩) (.nd (.nd (.nd (.nd (.nd (.nd .nil (.some ⟨11, true, 48, .st, some [.int .u64 0, .int .u64 0, .int .u32 0, .int .u8 0, .int .u8 0, .int .u8 0, .int .u8 0, .nilFunc, .pointer none, .int .i32 0, .int .i32 0], [(0, 1, false), (1, 1, false), (2, 1, false), (3, 1, false), (4, 1, false), (5, 1, false), (6, 1, false), (7, 1, false), (8, 1, false), (9, 1, false), (10, 1, false)], none⟩) .nil) (.some ⟨3, true, 40, .st, some [.slice none 0 0, .int .i64 0, .bool false], [(0, 1, false), (1, 1, false), (2, 1, false)], none⟩) .nil) (.some ⟨1, false, 8, .o, some [.nilFunc], [], none⟩) (.nd .nil (.some ⟨1, false, 8, .o, some [.nilFunc], [], none⟩) .nil)) (.some ⟨1, true, 8, .st, some [.pointer none], [(0, 1, false)], none⟩) (.nd .nil (.some ⟨1, false, 8, .o, some [.nilFunc], [], none⟩) (.nd .nil (.some ⟨1, false, 8, .p, some [.pointer none], [], none⟩) .nil))) (.some ⟨1, false, 16, .s, some [.string ByteArray.empty], [], none⟩) (.nd (.nd (.nd .nil (.some ⟨1, false, 8, .o, some [.nilFunc], [], none⟩) .nil) (.some ⟨1, false, 8, .p, some [.pointer none], [], none⟩) (.nd .nil (.some ⟨2, true, 32, .st, some [.pointer none, .slice none 0 0], [(0, 1, false), (1, 1, false)], none⟩) .nil)) .none (.nd (.nd .nil (.some ⟨4, true, 56, .st, some [.string ByteArray.empty, .int .i64 0, .int .i64 0, .slice none 0 0], [(0, 1, false), (1, 1, false), (2, 1, false), (3, 1, false)], none⟩) .nil) (.some ⟨1, false, 8, .p, some [.pointer none], [], none⟩) (.nd .nil (.some ⟨0, true, 0, .st, some [], [(0, 0, true)], none⟩) .nil)))) (.some ⟨1, false, 1, .i .u8, some [.int .u8 0], [], none⟩) (.nd (.nd (.nd (.nd .nil (.some ⟨1, false, 8, .o, some [.nilFunc], [], none⟩) .nil) (.some ⟨1, false, 8, .o, some [.nilFunc], [], none⟩) (.nd .nil (.some ⟨1, false, 8, .o, some [.nilFunc], [], none⟩) .nil)) (.some ⟨1, false, 24, .sl 9, some [.slice none 0 0], [], none⟩) (.nd (.nd .nil (.some ⟨1, false, 8, .o, some [.nilFunc], [], none⟩) .nil) (.some ⟨1, false, 8, .o, some [.nilFunc], [], none⟩) (.nd .nil (.some ⟨4, true, 40, .st, some [.pointer none, .pointer none, .pointer none, .string ByteArray.empty], [(0, 1, false), (1, 1, false), (2, 1, false), (3, 1, false)], none⟩) .nil))) (.some ⟨2, true, 24, .st, some [.string ByteArray.empty, .int .u64 0], [(0, 1, false), (1, 1, false)], none⟩) (.nd (.nd (.nd .nil (.some ⟨1, false, 8, .o, some [.nilFunc], [], none⟩) .nil) (.some ⟨1, false, 8, .o, some [.nilFunc], [], none⟩) (.nd .nil (.some ⟨1, false, 16, .o, some [.nilIface], [], none⟩) .nil)) (.some ⟨1, false, 8, .o, some [.nilFunc], [], none⟩) (.nd (.nd .nil (.some ⟨1, false, 8, .o, some [.nilFunc], [], none⟩) .nil) (.some ⟨3, true, 32, .st, some [.int .i64 0, .string ByteArray.empty, .int .i64 0], [(0, 1, false), (1, 1, false), (2, 1, false)], some [.i, .s, .i]⟩) (.nd .nil (.some ⟨1, false, 1, .i .u8, some [.int .u8 0], [], none⟩) .nil)))))))
def envF : Tr Unit := (.nd (.nd (.nd (.nd (.nd (.nd (.nd .nil (.some ()) .nil) (.some ()) (.nd .nil (.some ()) .nil)) (.some ()) (.nd (.nd .nil (.some ()) .nil) (.some ()) .nil)) (.some ()) (.nd (.nd (.nd .nil (.some ()) .nil) (.some ()) (.nd .nil (.some ()) .nil)) (.some ()) (.nd (.nd .nil (.some ()) .nil) (.some ()) .nil))) (.some ()) (.nd (.nd (.nd (.nd .nil (.some ()) .nil) (.some ()) (.nd .nil (.some ()) .nil)) (.some ()) (.nd (.nd .nil (.some ()) .nil) (.some ()) .nil)) (.some ()) (.nd (.nd (.nd .nil (.some ()) .nil) (.some ()) (.nd .nil (.some ()) .nil)) (.some ()) (.nd (.nd .nil (.some ()) .nil) (.some ()) .nil)))) .none (.nd (.nd (.nd (.nd (.nd .nil (.some ()) .nil) (.some ()) (.nd .nil (.some ()) .nil)) (.some ()) (.nd (.nd .nil (.some ()) .nil) (.some ()) .nil)) (.some ()) (.nd (.nd (.nd .nil (.some ()) .nil) (.some ()) (.nd .nil (.some ()) .nil)) (.some ()) (.nd (.nd .nil (.some ()) .nil) (.some ()) .nil))) (.some ()) (.nd (.nd (.nd (.nd .nil (.some ()) .nil) (.some ()) (.nd .nil (.some ()) .nil)) (.some ()) (.nd (.nd .nil (.some ()) .nil) (.some ()) .nil)) (.some ()) (.nd (.nd (.nd .nil (.some ()) .nil) (.some ()) (.nd .nil (.some ()) .nil)) (.some ()) (.nd (.nd .nil (.some ()) .nil) (.some ()) .nil))))) .none (.nd (.nd (.nd (.nd (.nd (.nd .nil (.some ()) .nil) (.some ()) (.nd .nil (.some ()) .nil)) (.some ()) (.nd (.nd .nil (.some ()) .nil) (.some ()) .nil)) (.some ()) (.nd (.nd (.nd .nil (.some ()) .nil) (.some ()) (.nd .nil (.some ()) .nil)) (.some ()) (.nd (.nd .nil (.some ()) .nil) (.some ()) .nil))) (.some ()) (.nd (.nd (.nd (.nd .nil (.some ()) .nil) (.some ()) (.nd .nil (.some ()) .nil)) (.some ()) (.nd (.nd .nil (.some ()) .nil) (.some ()) .nil)) (.some ()) (.nd (.nd (.nd .nil (.some ()) .nil) (.some ()) (.nd .nil (.some ()) .nil)) (.some ()) (.nd (.nd .nil (.some ()) .nil) (.some ()) .nil)))) (.some ()) (.nd (.nd (.nd (.nd (.nd .nil (.some ()) .nil) (.some ()) (.nd .nil (.some ()) .nil)) (.some ()) (.nd (.nd .nil (.some ()) .nil) (.some ()) .nil)) (.some ()) (.nd (.nd (.nd .nil (.some ()) .nil) (.some ()) (.nd .nil (.some ()) .nil)) (.some ()) (.nd (.nd .nil (.some ()) .nil) (.some ()) .nil))) (.some ()) (.nd (.nd (.nd (.nd .nil (.some ()) .nil) (.some ()) (.nd .nil (.some ()) .nil)) (.some ()) (.nd (.nd .nil (.some ()) .nil) (.some ()) .nil)) (.some ()) (.nd (.nd (.nd .nil (.some ()) .nil) (.some ()) (.nd .nil (.some ()) .nil)) (.some ()) (.nd (.nd .nil (.some ()) .nil) (.some ()) .nil))))))
theorem envT_ok : envT.all (tiOk Try.prog) id = true := by kernel_rfl
theorem envF_ok : envF.all (fun g _ => fnOk Try.prog g) id = true := by kernel_rfl
noncomputable def env : Env := ⟨Try.prog, envT, envF, envT_ok, envF_ok, by kernel_rfl⟩
end
theorem leaf_b {a b : Bool} (h : a = b) : AV.b a = AV.b b := by rw [h]
noncomputable def pb (p : Prop) : Bool := @decide p (Classical.propDecidable p)
theorem pb_t {p : Prop} : (pb p = true) = p := by
  unfold pb
  exact propext (@decide_eq_true_iff p (Classical.propDecidable p))
theorem pb_f {p : Prop} : (pb p = false) = ¬ p := by
  unfold pb
  exact propext (@decide_eq_false_iff_not p (Classical.propDecidable p))
theorem leaf_t {p : Prop} (h : p) : AV.b true = AV.b (pb p) := by rw [pb_t.mpr h]
theorem leaf_f {p : Prop} (h : ¬ p) : AV.b false = AV.b (pb p) := by rw [pb_f.mpr h]
theorem leaf_p {b : Bool} {p : Prop} (h : b = true ↔ p) : AV.b b = AV.b (pb p) := by
  cases b with
  | true => exact leaf_t (h.1 rfl)
  | false => exact leaf_f fun hp => by have := h.2 hp; cases this
theorem pb_congr {p q : Prop} (h : p ↔ q) : pb p = pb q := by rw [propext h]
theorem leaf_i {k : IntKind} {a b : Int} (h : a = b) : AV.i k a = AV.i k b := by rw [h]
theorem wrap_succ {k : Nat} (h : k < 9223372036854775807) : IntKind.i64.wrap ((k : Int) + 1) = ((k + 1 : Nat) : Int) := by
  rw [IntKind.wrap_i64]; omega
theorem wrap_in {n : Int} (h1 : -9223372036854775808 ≤ n) (h2 : n ≤ 9223372036854775807) : IntKind.i64.wrap n = n := by
  rw [IntKind.wrap_i64]; omega
def fillE (k : Nat) (c z : Nat → Nat → AV) : Nat → Nat → AV := fun i j => bif Nat.blt i k then c i j else z i j
theorem fill_upd {k : Nat} {c z : Nat → Nat → AV} {cs : List AV} {i j : Nat} (hj : j < cs.length) (hc : ∀ j, j < cs.length → cs.getD j .any = c k j) : upd (fillE k c z) k 0 cs i j = fillE (k + 1) c z i j := by
  unfold upd fillE
  have h1 : Nat.ble 0 j = true := Nat.ble_eq_true_of_le (Nat.zero_le _)
  have h2 : Nat.blt j (0 + cs.length) = true := Nat.ble_eq_true_of_le (by omega)
  rw [h1, h2]
  by_cases e : i = k
  · subst e
    rw [Nat.beq_refl, Nat.sub_zero, hc j hj]
    have : Nat.blt i (i + 1) = true := Nat.ble_eq_true_of_le (Nat.le_refl _)
    rw [this]; rfl
  · have hb : Nat.beq i k = false := by
      cases hb : Nat.beq i k with
      | true => exact absurd (Nat.eq_of_beq_eq_true hb) e
      | false => rfl
    rw [hb]
    have : Nat.blt i (k + 1) = Nat.blt i k := by
      rw [Bool.eq_iff_iff]
      constructor
      · intro h
        have := Nat.le_of_ble_eq_true h
        exact Nat.ble_eq_true_of_le (by omega)
      · intro h
        have := Nat.le_of_ble_eq_true h
        exact Nat.ble_eq_true_of_le (by omega)
    rw [this]; rfl
theorem low_cells {r : List Nat} {n j : Nat} {cs : List AV} (h : cs.all (low1 0) = true) : fx r n (cs.getD j .any) = true := by
  by_cases hj : j < cs.length
  · have : cs.getD j .any = cs[j] := by rw [List.getD_eq_getElem?_getD, List.getElem?_eq_getElem hj]; rfl
    rw [this]
    exact fx_low (List.all_eq_true.1 h _ (List.getElem_mem hj))
  · have : cs.getD j .any = .any := by rw [List.getD_eq_getElem?_getD, List.getElem?_eq_none (by omega)]; rfl
    rw [this]; rfl
theorem low_fill {r : List Nat} {n k i j : Nat} {c z : Nat → Nat → AV} (h1 : fx r n (c i j) = true) (h2 : fx r n (z i j) = true) : fx r n (fillE k c z i j) = true := by
  unfold fillE
  cases Nat.blt i k
  · exact h2
  · exact h1
theorem arr_start {r : List Nat} {n sz cap cap' : Nat} {c z : Nat → Nat → AV} {bx : RK} (hc : cap' = cap) (h1 : ∀ i j, fx r n (c i j) = true) (h2 : ∀ i j, fx r n (z i j) = true) : ArrP r n ⟨sz, cap, fillE 0 c z, bx⟩ ⟨sz, cap', z, bx⟩ :=
  ⟨rfl, hc, rfl, fun i k hi hk => rfl, fun i k hi hk => by show fx r n (fillE 0 c z i k) = true; exact low_fill (h1 i k) (h2 i k)⟩
theorem arr_round {r : List Nat} {n sz cap cap' k : Nat} {c z : Nat → Nat → AV} {cs : List AV} {bx : RK} (hc : cap' = cap) (hl : cs.length = sz) (he : ∀ j, j < cs.length → cs.getD j .any = c k j) (h1 : ∀ i j, fx r n (c i j) = true) (h2 : ∀ i j, fx r n (z i j) = true) :
    ArrP r n ⟨sz, cap, fillE (k + 1) c z, bx⟩ ⟨sz, cap', upd (fillE k c z) k 0 cs, bx⟩ :=
  ⟨rfl, hc, rfl, fun i q hi hq => by show upd (fillE k c z) k 0 cs i q = fillE (k + 1) c z i q; exact fill_upd (by rw [hl]; exact hq) he, fun i q hi hq => by show fx r n (fillE (k + 1) c z i q) = true; exact low_fill (h1 i q) (h2 i q)⟩
def elE {α : Type} [Inhabited α] (cells : α → List AV) (l : List α) : Nat → Nat → AV := fun i j => (cells (l.getD i default)).getD j .any
def AV.wf : AV → Prop
  | .i k n => (Lit.int k n).wf = true
  | .s x => x.size ≤ maxLen
  | .sl sz n g => n ≤ maxLen ∧ ∀ i j, i < n → j < sz → (g i j).wf
  | .rf m g => ∀ j, j < m → (g j).wf
  | _ => True
theorem Conc.wf {w : World} {S : Nat → Prop} {blk : Nat → BC} {H : Hp} {x : AV} {u : Value} (h : Conc w S blk H x u) : x.wf := by
  induction h with
  | i h => exact h
  | s h => exact h
  | sl0 a cap hm => exact ⟨Nat.zero_le _, fun i j hi => by omega⟩
  | sl b o cap U hb hn hm hc hf hu ih => exact ⟨Nat.le_trans hn hm, ih⟩
  | rf b o U hb hc hf hu ih => exact ih
  | _ => trivial
def AV.wfs : AV → Prop
  | .agg cs => ∀ c ∈ cs, c.wf
  | x => x.wf
theorem Conc.wfs {w : World} {S : Nat → Prop} {blk : Nat → BC} {H : Hp} {x : AV} {u : Value} (h : Conc w S blk H x u) : x.wfs := by
  cases x with
  | agg cs =>
    obtain ⟨us, rfl, hl, hu⟩ := inv_agg h
    intro c hc
    obtain ⟨j, hj⟩ := List.getElem?_of_mem hc
    have hlt : j < us.length := by rw [hl]; exact (List.getElem?_eq_some_iff.1 hj).1
    exact (hu j c _ hj (List.getElem?_eq_getElem hlt)).wf
  | _ => exact h.wf
theorem Ret.args {P : Program} {g : FuncId} {av : List AV} {post : AV → Prop} (h : (∀ a ∈ av, a.wfs) → Ret P g av post) : Ret P g av post :=
  Ret.know (p := ∀ a ∈ av, a.wfs) (fun w S us hc a ha => by
    obtain ⟨j, hj⟩ := List.getElem?_of_mem ha
    have hlt : j < us.length := by rw [hc.1]; exact (List.getElem?_eq_some_iff.1 hj).1
    exact (hc.2 j a _ hj (List.getElem?_eq_getElem hlt)).wfs) h
structure Wk (x y : AV) : Prop where
  idf : x.idf → y.idf
  c : ∀ (w : World) (S : Nat → Prop) (u : Value), Conc w S (fun _ => ⟨0, 0⟩) [] x u → Conc w S (fun _ => ⟨0, 0⟩) [] y u
theorem Wk.refl (x : AV) : Wk x x := ⟨id, fun _ _ _ h => h⟩
theorem Wk.of {x y : AV} (h : x = y) : Wk x y := h ▸ Wk.refl x
theorem Wk.sl {sz n : Nat} {g g' : Nat → Nat → AV} (h : ∀ i j, i < n → j < sz → Wk (g i j) (g' i j)) : Wk (.sl sz n g) (.sl sz n g') := by
  refine ⟨fun hi i j hi' hj => (h i j hi' hj).idf (hi i j hi' hj), fun w S u hc => ?_⟩
  cases hc with
  | sl0 a cap hm => exact .sl0 a cap hm
  | sl b o cap U hb hn hm hc hf hu => exact .sl b o cap U hb hn hm hc (fun i j hi hj => (h i j hi hj).idf (hf i j hi hj)) (fun i j hi hj => (h i j hi hj).c w S _ (hu i j hi hj))
theorem Wk.rf {m : Nat} {g g' : Nat → AV} (h : ∀ j, j < m → Wk (g j) (g' j)) : Wk (.rf m g) (.rf m g') := by
  refine ⟨fun hi j hj => (h j hj).idf (hi j hj), fun w S u hc => ?_⟩
  obtain ⟨b, o, U, rfl, hS, hcc, hu, hf⟩ := inv_rf hc
  exact .rf b o U hS hcc (fun j hj => (h j hj).idf (hf j hj)) fun j hj => (h j hj).c w S _ (hu j hj)
def rfL (cs : List AV) : AV := .rf cs.length fun j => cs.getD j .any
theorem Wk.rfc {m : Nat} {g : Nat → AV} {cs : List AV} (h : cellsAt g 0 m = cs) : Wk (.rf m g) (rfL cs) := by
  have hl : cs.length = m := by rw [← h, cellsAt_length]
  unfold rfL
  rw [hl]
  refine Wk.rf fun j hj => Wk.of ?_
  obtain ⟨_, e⟩ := cellsAt_get g m 0 j (cs.getD j .any) (by rw [h, List.getElem?_eq_getElem (by omega), List.getD_eq_getElem?_getD, List.getElem?_eq_getElem (by omega)]; rfl)
  rw [e, Nat.zero_add]
def WkL (xs ys : List AV) : Prop := xs.length = ys.length ∧ ∀ (j : Nat) (x y : AV), xs[j]? = some x → ys[j]? = some y → Wk x y
theorem WkL.nil : WkL [] [] := ⟨rfl, fun j x y h => by simp at h⟩
theorem WkL.cons {x y : AV} {xs ys : List AV} (h : Wk x y) (r : WkL xs ys) : WkL (x :: xs) (y :: ys) :=
  ⟨by simp [r.1], fun j a b ha hb => by
    cases j with
    | zero => cases ha; cases hb; exact h
    | succ j => exact r.2 j a b (by simpa using ha) (by simpa using hb)⟩
theorem WkL.append {xs ys xs' ys' : List AV} (h : WkL xs ys) (r : WkL xs' ys') : WkL (xs ++ xs') (ys ++ ys') := by
  refine ⟨by simp [h.1, r.1], fun j a b ha hb => ?_⟩
  rcases Nat.lt_or_ge j xs.length with hlt | hge
  · rw [List.getElem?_append_left hlt] at ha
    rw [List.getElem?_append_left (by rw [← h.1]; exact hlt)] at hb
    exact h.2 j a b ha hb
  · rw [List.getElem?_append_right hge] at ha
    rw [List.getElem?_append_right (by rw [← h.1]; exact hge), ← h.1] at hb
    exact r.2 _ a b ha hb
theorem Wk.agg {xs ys : List AV} (h : WkL xs ys) : Wk (.agg xs) (.agg ys) := by
  refine ⟨fun hi => hi.elim, fun w S u hc => ?_⟩
  obtain ⟨us, rfl, hl, hu⟩ := inv_agg hc
  refine .agg ys us (hl.trans h.1) fun j c u hj hju => ?_
  have hlt : j < xs.length := by rw [h.1]; exact (List.getElem?_eq_some_iff.1 hj).1
  exact (h.2 j _ c (List.getElem?_eq_getElem hlt) hj).c w S u (hu j _ u (List.getElem?_eq_getElem hlt) hju)
theorem Wk.fn {g : FuncId} {xs ys : List AV} (h : WkL xs ys) : Wk (.fn g xs) (.fn g ys) := by
  refine ⟨fun hi => ?_, fun w S u hc => ?_⟩
  · have hx : xs = [] := hi
    subst hx
    show ys = []
    exact List.eq_nil_of_length_eq_zero h.1.symm
  · obtain ⟨us, rfl, hl, hu⟩ := inv_fn hc
    refine .fn g ys us (hl.trans h.1) fun j c u hj hju => ?_
    have hlt : j < xs.length := by rw [h.1]; exact (List.getElem?_eq_some_iff.1 hj).1
    exact (h.2 j _ c (List.getElem?_eq_getElem hlt) hj).c w S u (hu j _ u (List.getElem?_eq_getElem hlt) hju)
theorem Ret.wk {P : Program} {g : FuncId} {av bs : List AV} {post : AV → Prop} (h : WkL av bs) (r : Ret P g bs post) : Ret P g av post := .mk fun w S us hS hc =>
  r.h w S us hS ⟨hc.1.trans h.1, fun j c u hj hu => by
    have hlt : j < av.length := by rw [h.1]; exact (List.getElem?_eq_some_iff.1 hj).1
    exact (h.2 j _ c (List.getElem?_eq_getElem hlt) hj).c w S u (hc.2 j _ u (List.getElem?_eq_getElem hlt) hu)⟩
theorem Ret.to {P : Program} {g : FuncId} {av : List AV} {r0 : AV} (h : Ret P g av fun r => Wk r r0) : Ret P g av fun r => r = r0 := .mk fun w S us hS hc =>
  (h.h w S us hS hc).mono fun e w' ⟨r, u, he, hq, hr, hb⟩ => ⟨r0, u, he, rfl, hq.c w' _ u hr, hb⟩
theorem Wk.sl' {sz sz' n n' : Nat} {g g' : Nat → Nat → AV} (h1 : sz = sz') (h2 : n = n') (h : ∀ i j, i < n → j < sz → Wk (g i j) (g' i j)) : Wk (.sl sz n g) (.sl sz' n' g') := by
  subst h1 h2; exact Wk.sl h
def slL {α : Type} [Inhabited α] (sz : Nat) (cells : α → List AV) (l : List α) : AV := .sl sz l.length fun i j => (cells (l.getD i default)).getD j .any
def stay : AV → Bool
  | .any | .i .. | .b _ | .s _ | .nils | .nilp | .sl .. | .rf .. => true
  | _ => false
theorem stay_eq {k : Nat} {H : Hp} {v : AV} (h : stay v = true) : shrC k H v = v := by
  cases k <;> cases v <;> first | rfl | cases h
theorem wk_fill {α : Type} [Inhabited α] {sz sz' n k k' : Nat} {H : Hp} {cells : α → List AV} {l : List α} {z : Nat → Nat → AV} (hn : n = l.length) (hk : l.length ≤ k) (hs : sz' = sz) (hst : ∀ a, (cells a).all stay = true) :
    Wk (.sl sz' n fun i j => shrC k' H (fillE k (elE cells l) z i j)) (slL sz cells l) := by
  refine Wk.sl' hs hn fun i j hi hj => .of ?_
  unfold fillE
  have : Nat.blt i k = true := Nat.ble_eq_true_of_le (by omega)
  rw [this, cond_true]
  refine stay_eq ?_
  unfold elE
  by_cases hj : j < (cells (l.getD i default)).length
  · rw [List.getD_eq_getElem?_getD, List.getElem?_eq_getElem hj]
    exact List.all_eq_true.1 (hst _) _ (List.getElem_mem hj)
  · rw [List.getD_eq_getElem?_getD, List.getElem?_eq_none (by omega)]
    rfl
theorem wfs_sl {α : Type} [Inhabited α] {sz : Nat} {cells : α → List AV} {l : List α} (h : (slL sz cells l).wfs) : l.length ≤ 9223372036854775807 := h.1
theorem leaf_ne {α : Type} [DecidableEq α] {l m : α} (h : ¬ l = m) : AV.b false = AV.b (decide (l = m)) := by rw [decide_eq_false h]
theorem leaf_eq {α : Type} [DecidableEq α] {l m : α} (h : l = m) : AV.b true = AV.b (decide (l = m)) := by rw [decide_eq_true h]
theorem upto_succ {p : Nat → Prop} {k : Nat} (h : ∀ j, j < k → p j) (hk : p k) : ∀ j, j < k + 1 → p j := fun j hj => by
  rcases Nat.lt_or_eq_of_le (Nat.le_of_lt_succ hj) with h1 | rfl
  · exact h j h1
  · exact hk
def szN (n : Nat) (left : Int) : Int := if left < n then -1 else left - n
theorem list_eq {α : Type} [Inhabited α] {l m : List α} (hl : l.length = m.length) (h : ∀ j, j < l.length → l.getD j default = m.getD j default) : l = m := by
  refine List.ext_getElem hl fun i h1 h2 => ?_
  have := h i h1
  rwa [List.getD_eq_getElem?_getD, List.getElem?_eq_getElem h1, List.getD_eq_getElem?_getD, List.getElem?_eq_getElem h2] at this
def Rd (P : Program) (t : TypeId) (α : Type) (cells : α → List AV) : Prop := ∀ cs, TyC P t cs → ∃ a, WkL cs (cells a)
theorem rd_int {P : Program} {t : TypeId} {k : IntKind} (hu : P.underlying t = some (.int k)) : Rd P t Int fun n => [.i k n] := fun cs h => by
  obtain ⟨n, rfl, _⟩ := h.int_inv hu
  exact ⟨n, .cons (.refl _) .nil⟩
theorem rd_str {P : Program} {t : TypeId} (hu : P.underlying t = some .string) : Rd P t ByteArray fun b => [.s b] := fun cs h => by
  obtain ⟨n, rfl, _⟩ := h.string_inv hu
  exact ⟨n, .cons (.refl _) .nil⟩
theorem rd_sl {P : Program} {t e : TypeId} {α : Type} [Inhabited α] {cells : α → List AV} {sz : Nat} (hu : P.underlying t = some (.slice e)) (hsz : P.cellsOf e = sz) (h : Rd P e α cells) : Rd P t (List α) fun l => [slL sz cells l] := fun cs hc => by
  obtain ⟨n, g, rfl, hm, he⟩ := hc.sl_inv hu
  subst hsz
  have hall : ∀ i, i < n → ∃ a, WkL (cellsAt (g i) 0 (P.cellsOf e)) (cells a) := fun i hi => h _ (he i hi)
  let l : List α := (List.range n).map fun i => if h : i < n then Classical.choose (hall i h) else default
  have hl : l.length = n := by simp [l]
  have hget : ∀ i (hi : i < n), l.getD i default = Classical.choose (hall i hi) := fun i hi => by simp [l, hi]
  refine ⟨l, .cons ?_ .nil⟩
  unfold slL
  rw [hl]
  refine .sl fun i j hi hj => ?_
  have hw := Classical.choose_spec (hall i hi)
  rw [← hget i hi] at hw
  have h1 : j < (cellsAt (g i) 0 (P.cellsOf e)).length := by rw [cellsAt_length]; exact hj
  have h2 : j < (cells (l.getD i default)).length := by rw [← hw.1]; exact h1
  have h3 := hw.2 j _ _ (List.getElem?_eq_getElem h1) (List.getElem?_eq_getElem h2)
  obtain ⟨_, e1⟩ := cellsAt_get (g i) (P.cellsOf e) 0 j _ (List.getElem?_eq_getElem h1)
  rw [e1, Nat.zero_add] at h3
  have e2 : (cells (l.getD i default)).getD j .any = (cells (l.getD i default))[j] := by rw [List.getD_eq_getElem?_getD, List.getElem?_eq_getElem h2]; rfl
  rw [e2]
  exact h3
theorem arg_agg {P : Program} {t : TypeId} {α : Type} {cells : α → List AV} {cs : List AV} (h : Rd P t α cells) (ha : aggT P t = true) (hc : TyC P t cs) : ∃ a, Wk (mkArg P t cs) (.agg (cells a)) := by
  obtain ⟨a, h1⟩ := h cs hc
  exact ⟨a, by unfold mkArg; rw [ha, cond_true]; exact .agg h1⟩
theorem loopAt {E : Env} {nt : Nat} {X : Ctx} {f : Fr} {H : Hp} {c : Code} {Q : Exit → Fr → Hp → Prop} (t n : Nat) (vs : Nat → Fr) (hp : Nat → List (Option RowI)) (I : Nat → Prop) (ht : inL (asg c) t = true)
    (h : I 0 ∧ agK (mkH H (hp 0)) H [] f (vs 0) ∧ hpP (mkH H (hp 0)) H [] 0 (hp 0) H ∧
      delK H.length (asg c) f fun f0 => ∀ k, k ≤ n → I k → wpc E nt X c (vs k ++ f0) (mkH H (hp k)) (thn (RoundN f0 H vs hp I n k) Q)) :
    LW E.P nt X (.loop c) f H Q := loopN n vs hp I h
theorem srcOk_1 {sz : Nat} {g : Nat → Nat → AV} (h : (cellsAt (g 0) 0 sz).all cp1 = true) : SrcOk 1 sz g := ⟨fun i j hi hj => by
  obtain rfl : i = 0 := by omega
  have hl : j < (cellsAt (g 0) 0 sz).length := by rw [cellsAt_length]; exact hj
  have := List.all_eq_true.1 h _ (List.getElem_mem hl)
  have e := (cellsAt_get (g 0) sz 0 j _ (List.getElem?_eq_getElem hl)).2
  rw [e, Nat.zero_add] at this
  exact this⟩
theorem srcOk_L {α : Type} [Inhabited α] {m sz : Nat} {c : α → List AV} {l : List α} (h : ∀ a, (c a).all cp1 = true ∧ (c a).length = sz) : SrcOk m sz (fun i j => (c (l.getD i default)).getD j .any) := ⟨fun i j hi hj => by
  have hj' : j < (c (l.getD i default)).length := by rw [(h _).2]; exact hj
  rw [List.getD_eq_getElem?_getD, List.getElem?_eq_getElem hj']
  exact List.all_eq_true.1 (h _).1 _ (List.getElem_mem hj')⟩
theorem srcOk_E {α : Type} [Inhabited α] {m sz : Nat} {c : α → List AV} {l : List α} (h : ∀ a, (c a).all cp1 = true ∧ (c a).length = sz) : SrcOk m sz (elE c l) := srcOk_L h
theorem dd : (∀ (p : Prop) [Decidable p], decide p = true ↔ p) ∧ (∀ b : Bool, (!b) = true ↔ b = false) ∧ (∀ b : Bool, (!b) = false ↔ b = true) ∧ (∀ (p : Prop) [Decidable p], decide p = false ↔ ¬ p) ∧ (∀ b : Bool, (¬ b = true) ↔ b = false) ∧ (∀ (p : Prop) [Decidable p], ¬¬p ↔ p) ∧ (true = false ↔ False) ∧ (false = true ↔ False) ∧ (∀ p : Prop, pb p = true ↔ p) ∧ (∀ p : Prop, pb p = false ↔ ¬ p) :=
  ⟨fun _ _ => by simp, fun _ => by simp, fun _ => by simp, fun _ _ => by simp, fun _ => by simp, fun _ _ => by simp, by simp, by simp, fun _ => iff_of_eq pb_t, fun _ => iff_of_eq pb_f⟩
theorem dkk {ops : Array Oper} (h : drawOk ops = true := by kernel_rfl) : drawOk ops = true := h
theorem dks {ops : Array Oper} (h : drawOkS ops = true := by kernel_rfl) : drawOkS ops = true := h
theorem Ret.wke {P : Program} {g : FuncId} {av bs : List AV} {post : AV → Prop} (r : Ret P g bs post) (h : WkL av bs := by ((repeat (first | exact WkL.nil | refine WkL.cons ?_ ?_ | exact Wk.refl _ | exact Wk.rfc rfl | refine Wk.fn ?_ | refine Wk.agg ?_)); first | done | fail)) : Ret P g av post := Ret.wk h r
def strC (s : ByteArray) : List AV := [.s s]
def okS (s : ByteArray) : Prop := s.size ≤ 1048576
def okL {α : Type} [Inhabited α] (p : α → Prop) (l : List α) : Prop := l.length ≤ 1048576 ∧ ∀ k, k < l.length → p (l.getD k default)
def szSt (s : ByteArray) (left : Int) : Int := szN s.size left
def szF {α : Type} (g : α → Int → Int) : List α → Int → Int
  | [], v => v
  | x :: r, v => if g x v < 0 then -1 else szF g r (g x v)
def szLs {α : Type} (g : α → Int → Int) (l : List α) (left : Int) : Int := if left - l.length < 0 then -1 else szF g l (left - l.length)
def szAt {α : Type} [Inhabited α] (g : α → Int → Int) (l : List α) (v0 : Int) : Nat → Int
  | 0 => v0
  | k + 1 => g (l.getD k default) (szAt g l v0 k)
theorem szN_le {n : Nat} {v : Int} (h : v ≤ 1048576) : szN n v ≤ 1048576 := by unfold szN; split <;> omega
theorem szN_ok {n : Nat} {v : Int} (h : v ≤ 1048576) (hn : ¬ szN n v < 0) : n ≤ 1048576 := by unfold szN at hn; split at hn <;> omega
theorem szSt_le (s : ByteArray) (v : Int) (h : v ≤ 1048576) : szSt s v ≤ 1048576 := szN_le h
theorem szSt_ok {s : ByteArray} {v : Int} (h0 : 0 ≤ v) (h : v ≤ 1048576) (hn : ¬ szSt s v < 0) : okS s := szN_ok h hn
theorem szSt_ok' (s : ByteArray) (v : Int) (h0 : 0 ≤ v) (h : v ≤ 1048576) (hn : ¬ szSt s v < 0) : okS s := szN_ok h hn
theorem szSt_neg {s : ByteArray} {v : Int} (h : v - (s.size : Int) < 0) : szSt s v < 0 := by unfold szSt szN; split <;> omega
theorem szSt_pos {s : ByteArray} {v : Int} (h : ¬ v - (s.size : Int) < 0) : ¬ szSt s v < 0 := by unfold szSt szN; split <;> omega
theorem szSt_eq {s : ByteArray} {v : Int} (h : ¬ szSt s v < 0) : v - (s.size : Int) = szSt s v := by unfold szSt szN at *; split at h <;> omega
theorem szF_cons {α : Type} {g : α → Int → Int} {x : α} {r : List α} {v : Int} : szF g (x :: r) v = if g x v < 0 then -1 else szF g r (g x v) := rfl
theorem szF_le {α : Type} {g : α → Int → Int} (hg : ∀ a v, v ≤ 1048576 → g a v ≤ 1048576) : ∀ {l : List α} {v : Int}, v ≤ 1048576 → szF g l v ≤ 1048576
  | [], v, h => h
  | x :: r, v, h => by unfold szF; split; omega; exact szF_le hg (hg x v h)
theorem szLs_le {α : Type} {g : α → Int → Int} (hg : ∀ a v, v ≤ 1048576 → g a v ≤ 1048576) {l : List α} {v : Int} (h : v ≤ 1048576) : szLs g l v ≤ 1048576 := by
  unfold szLs; split; omega; exact szF_le hg (by omega)
theorem szF_ok {α : Type} [Inhabited α] {g : α → Int → Int} {p : α → Prop} (hg : ∀ a v, v ≤ 1048576 → g a v ≤ 1048576) (hp : ∀ a v, 0 ≤ v → v ≤ 1048576 → ¬ g a v < 0 → p a) :
    ∀ {l : List α} {v : Int}, 0 ≤ v → v ≤ 1048576 → ¬ szF g l v < 0 → ∀ k, k < l.length → p (l.getD k default)
  | [], v, h0, h, hn, k, hk => by simp at hk
  | x :: r, v, h0, h, hn, k, hk => by
    unfold szF at hn
    by_cases c : g x v < 0
    · rw [if_pos c] at hn; omega
    rw [if_neg c] at hn
    cases k with
    | zero => exact hp x v h0 h c
    | succ k => exact szF_ok hg hp (by omega) (hg x v h) hn k (by simpa using hk)
theorem szLs_ok {α : Type} [Inhabited α] {g : α → Int → Int} {p : α → Prop} (hg : ∀ a v, v ≤ 1048576 → g a v ≤ 1048576) (hp : ∀ a v, 0 ≤ v → v ≤ 1048576 → ¬ g a v < 0 → p a)
    {l : List α} {v : Int} (h0 : 0 ≤ v) (h : v ≤ 1048576) (hn : ¬ szLs g l v < 0) : okL p l := by
  unfold szLs at hn
  by_cases c : v - l.length < 0
  · rw [if_pos c] at hn; omega
  rw [if_neg c] at hn
  exact ⟨by omega, szF_ok hg hp (by omega) (by omega) hn⟩
theorem szLs_neg {α : Type} {g : α → Int → Int} {l : List α} {v : Int} (h : v - l.length < 0) : (-1 : Int) = szLs g l v := by unfold szLs; rw [if_pos h]
structure SzI {α : Type} [Inhabited α] (g : α → Int → Int) (l : List α) (v0 : Int) (k : Nat) : Prop where
  eq : szF g (l.drop k) (szAt g l v0 k) = szF g l v0
  lo : 0 ≤ szAt g l v0 k
  hi : szAt g l v0 k ≤ 1048576
theorem SzI.start {α : Type} [Inhabited α] {g : α → Int → Int} {l : List α} {v0 : Int} (h0 : 0 ≤ v0) (h1 : v0 ≤ 1048576) : SzI g l v0 0 := ⟨rfl, h0, h1⟩
theorem drop_get {α : Type} [Inhabited α] {l : List α} {k : Nat} (hk : k < l.length) : l.drop k = l.getD k default :: l.drop (k + 1) := by
  rw [List.drop_eq_getElem_cons hk, List.getD_eq_getElem?_getD, List.getElem?_eq_getElem hk]; rfl
theorem SzI.step {α : Type} [Inhabited α] {g : α → Int → Int} {l : List α} {v0 : Int} {k : Nat} (hg : ∀ a v, v ≤ 1048576 → g a v ≤ 1048576) (s : SzI g l v0 k) (hk : (k : Int) < (l.length : Int))
    (hn : ¬ g (l.getD k default) (szAt g l v0 k) < 0) : SzI g l v0 (k + 1) := by
  have e := s.eq
  rw [drop_get (by omega)] at e
  rw [szF_cons, if_neg hn] at e
  refine ⟨e, ?_, ?_⟩
  · show 0 ≤ g (l.getD k default) (szAt g l v0 k); omega
  · exact hg _ _ s.hi
theorem SzI.neg {α : Type} [Inhabited α] {g : α → Int → Int} {l : List α} {left : Int} {k : Nat} (s : SzI g l (left - l.length) k) (hk : (k : Int) < (l.length : Int))
    (hn : g (l.getD k default) (szAt g l (left - l.length) k) < 0) (h0 : ¬ left - l.length < 0) : (-1 : Int) = szLs g l left := by
  have e := s.eq
  rw [drop_get (by omega)] at e
  rw [szF_cons, if_pos hn] at e
  unfold szLs
  rw [if_neg h0]
  exact e
theorem SzI.fin {α : Type} [Inhabited α] {g : α → Int → Int} {l : List α} {left : Int} {k : Nat} (s : SzI g l (left - l.length) k) (hk : ¬ (k : Int) < (l.length : Int)) (h0 : ¬ left - l.length < 0) : szAt g l (left - l.length) k = szLs g l left := by
  have e := s.eq
  rw [List.drop_eq_nil_of_le (by omega)] at e
  unfold szLs
  rw [if_neg h0]
  exact e
end Go.Proofs.Ytllcemegnggpfaa
