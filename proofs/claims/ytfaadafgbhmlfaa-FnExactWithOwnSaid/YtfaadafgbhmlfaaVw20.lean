/- Texts for VWithOwnP. -/
import Derived.Shelf.Strings.BuilderK
import Derived.Test.YtfaadafgbhmlfaaProg
namespace Go.Proofs.Ytfaadafgbhmlfaa
open Go Go.RowKit
set_option linter.unusedVariables false
set_option linter.unusedSimpArgs false
section
open Go Go.Shelf
def lays169_ren : Go.Shelf.Ren := ⟨fun | 169 => 27 | n => n, fun | 70 => 44 | 9 => 9 | 0 => 0 | 72 => 46 | 37 => 37 | 127 => 65 | 3 => 3 | 5 => 5 | n => n, fun | n => n⟩
theorem lays169 : Lays.n169 Try.prog lays169_ren := {
  mixed := by kernel_rfl,
  f169 := Try.func27.trans (congrArg some (by kernel_rfl)),
  t0 := Try.underlying0,
  a0 := Try.isAgg0,
  z0 := Try.sizeOf0,
  v0 := Try.zeroValue0,
  t3 := Try.underlying3,
  a3 := Try.isAgg3,
  z3 := Try.sizeOf3,
  v3 := Try.zeroValue3,
  t9 := Try.underlying9,
  a9 := Try.isAgg9,
  z9 := Try.sizeOf9,
  v9 := Try.zeroValue9,
  t37 := Try.underlying37,
  a37 := Try.isAgg37,
  z37 := Try.sizeOf37,
  v37 := Try.zeroValue37,
  t70 := Try.underlying44,
  a70 := Try.isAgg44,
  z70 := Try.sizeOf44,
  v70 := Try.zeroValue44,
  t72 := Try.underlying46,
  a72 := Try.isAgg46,
  z72 := Try.sizeOf46,
  v72 := Try.zeroValue46,
  t127 := Try.underlying65,
  a127 := Try.isAgg65,
  z127 := Try.sizeOf65,
  v127 := Try.zeroValue65 }
def lays170_ren : Go.Shelf.Ren := ⟨fun | 170 => 26 | n => n, fun | 70 => 44 | 3 => 3 | 0 => 0 | 72 => 46 | 37 => 37 | 5 => 5 | n => n, fun | n => n⟩
theorem lays170 : Lays.n170 Try.prog lays170_ren := {
  mixed := by kernel_rfl,
  f170 := Try.func26.trans (congrArg some (by kernel_rfl)),
  t0 := Try.underlying0,
  a0 := Try.isAgg0,
  z0 := Try.sizeOf0,
  v0 := Try.zeroValue0,
  t3 := Try.underlying3,
  a3 := Try.isAgg3,
  z3 := Try.sizeOf3,
  v3 := Try.zeroValue3,
  t37 := Try.underlying37,
  a37 := Try.isAgg37,
  z37 := Try.sizeOf37,
  v37 := Try.zeroValue37,
  t70 := Try.underlying44,
  a70 := Try.isAgg44,
  z70 := Try.sizeOf44,
  v70 := Try.zeroValue44,
  t72 := Try.underlying46,
  a72 := Try.isAgg46,
  z72 := Try.sizeOf46,
  v72 := Try.zeroValue46 }
end
end Go.Proofs.Ytfaadafgbhmlfaa
