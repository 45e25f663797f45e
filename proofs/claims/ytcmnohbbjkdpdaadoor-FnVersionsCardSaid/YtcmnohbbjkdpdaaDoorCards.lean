/-
  DERIVED. GIVEN WITH THE SEED: THE CARDS: each row of YtcmnohbbjkdpdaaDoorRows.lean that lists a variable, with what it lists TIED to the program's text (the seventh form; the later family's looks); each row that meets fmt, with fmt's text TOLD by the authors' own Lean function (tested against real Go, not proved from fmt's source: count such statements apart). THE CARD IS WHAT COUNTS. Prove the row's statement (the work); the ties are given (YtcmnohbbjkdpdaaDoorTie.lean); close each card by the builder's one call (the guide's Derived/Test/ToyasCard.lean, 'card_holds'). Laid BY PROGRAM, IN A SANDBOX (cutbox-door.mjs). By AI agents, Wed Nov 11 2026. No macro, syntax, notation, axiom, sorry.
-/
import Derived.Test.YtcmnohbbjkdpdaaDoorRows
import GoSem.ClaimSeven
namespace Go.Proofs.YtcmnohbbjkdpdaaDoor
namespace Rows

/-- THE TIED CARD OF 'laws.FnVersions'. -/
def fnVersionsCard : Claim7 := { stood := { row := fnVersionsRow, standIns := [], harness := (true, "dd7bc0f26be0ccefc414bf103f432a895b1b7dd93f7e837c9684088d3a3e7378"), looks := true }, kinds := [], alts := [], laidByText := true, laidKinds := [.data, .data, .data, .data, .sentinel, .sentinel, .pinned], laidTests := true, laidLooks := .later }
def FnVersionsCardSaid : Prop := Claim7.holds Tryd.pinned (.plain (OpenSpec.ofChange fnVersionsSpec)) fnVersionsCard

/-- THE TIED CARD OF 'laws.FnRanges'. -/
def fnRangesCard : Claim7 := { stood := { row := fnRangesRow, standIns := [], harness := (true, "dd7bc0f26be0ccefc414bf103f432a895b1b7dd93f7e837c9684088d3a3e7378"), looks := true }, kinds := [], alts := [], laidByText := true, laidKinds := [.data, .data, .data, .data, .sentinel, .sentinel, .pinned], laidTests := true, laidLooks := .later }
def FnRangesCardSaid : Prop := Claim7.holds Tryd.pinned (.plain (OpenSpec.ofChange fnRangesSpec)) fnRangesCard

/-- THE SECOND FORM's CARD OF 'laws.FnVersions'. -/
def fnVersionsUptoCard : Claim7 := { stood := { row := fnVersionsUptoRow, standIns := [], harness := (true, "dd7bc0f26be0ccefc414bf103f432a895b1b7dd93f7e837c9684088d3a3e7378"), looks := true }, kinds := [], alts := [], laidByText := true, laidKinds := [.data, .data, .data, .data, .sentinel, .sentinel, .pinned], laidTests := true, laidLooks := .later }
def FnVersionsUptoCardSaid : Prop := Claim7.holds Tryd.pinned (.plain (OpenSpec.upto fnVersionsSpec)) fnVersionsUptoCard

/-- THE SECOND FORM's CARD OF 'laws.FnRanges'. -/
def fnRangesUptoCard : Claim7 := { stood := { row := fnRangesUptoRow, standIns := [], harness := (true, "dd7bc0f26be0ccefc414bf103f432a895b1b7dd93f7e837c9684088d3a3e7378"), looks := true }, kinds := [], alts := [], laidByText := true, laidKinds := [.data, .data, .data, .data, .sentinel, .sentinel, .pinned], laidTests := true, laidLooks := .later }
def FnRangesUptoCardSaid : Prop := Claim7.holds Tryd.pinned (.plain (OpenSpec.upto fnRangesSpec)) fnRangesUptoCard
end Rows
end Go.Proofs.YtcmnohbbjkdpdaaDoor
