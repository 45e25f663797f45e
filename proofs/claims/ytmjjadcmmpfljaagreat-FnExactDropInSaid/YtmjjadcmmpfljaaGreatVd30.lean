/- Texts for VDropInP. -/
import Derived.Test.YtmjjadcmmpfljaaGreatVd29
namespace Go.Proofs.YtmjjadcmmpfljaaGreat
open Go Go.RowKit
set_option linter.unusedVariables false
set_option linter.unusedSimpArgs false
set_option maxRecDepth 8000
def Shelf.yd (s : Shelf) (y : Yard) : Yard := ⟨s, y.stack, y.next, y.dead⟩
def Shelf.yO (s : Shelf) (y : Yard) : List AV := [.i .i64 s.next, owL 2 Table.csO s.tables, owL 3 Thing.cs s.things, owL 4 Call.csO y.stack, .i .i64 y.next, owL 1 intC y.dead]
theorem Wk.rfLoP {m : Nat} {g : Nat → AV} {cs : List AV} (h : WkL (cellsAt g 0 3) cs) (hm : Nat.ble 3 m = true := by rfl) : Wk (.rf m g) (rfL cs) := (Wk.rfp (Nat.le_of_ble_eq_true hm)).trans (Wk.rfLo h)
end Go.Proofs.YtmjjadcmmpfljaaGreat
