/-
  DERIVED. GIVEN WITH THE SEED: THE CARDS: each row of YtfddakeigmpjkaaGreatDoorRows.lean that lists a variable, with what it lists TIED to the program's text (the seventh form; the later family's looks); each row that meets fmt, with fmt's text TOLD by the authors' own Lean function (tested against real Go, not proved from fmt's source: count such statements apart). THE CARD IS WHAT COUNTS. Prove the row's statement (the work); the ties are given (YtfddakeigmpjkaaGreatDoorTie.lean); close each card by the builder's one call (the guide's Derived/Test/ToyasCard.lean, 'card_holds'). Laid BY PROGRAM, IN A SANDBOX (cutbox-door.mjs). By AI agents, Wed Nov 11 2026. No macro, syntax, notation, axiom, sorry.
-/
import Derived.Test.YtfddakeigmpjkaaGreatDoorRows
import GoSem.ClaimSeven
namespace Go.Proofs.YtfddakeigmpjkaaGreatDoor
namespace Rows

/-- THE TIED CARD OF 'laws.FnSubtypeOrder'. -/
def fnSubtypeOrderCard : Claim7 := { stood := { row := fnSubtypeOrderRow, standIns := [], harness := (true, "c4d8198ccd0a4e5007924c343eb2c32ed47ffb01e87d658d64c631371c8412e2"), looks := false }, kinds := [], alts := [], laidByText := true, laidKinds := [.data, .data, .data], laidTests := true, laidLooks := .later }
def FnSubtypeOrderCardSaid : Prop := Claim7.holds Tryz.pinned (.plain (OpenSpec.ofChange fnSubtypeOrderSpec)) fnSubtypeOrderCard

/-- THE TIED CARD OF 'laws.FnSubtypeReasons'. -/
def fnSubtypeReasonsCard : Claim7 := { stood := { row := fnSubtypeReasonsRow, standIns := [], harness := (true, "c4d8198ccd0a4e5007924c343eb2c32ed47ffb01e87d658d64c631371c8412e2"), looks := false }, kinds := [], alts := [], laidByText := true, laidKinds := [.data, .data, .data], laidTests := true, laidLooks := .later }
def FnSubtypeReasonsCardSaid : Prop := Claim7.holds Tryz.pinned (.plain (OpenSpec.ofChange fnSubtypeReasonsSpec)) fnSubtypeReasonsCard

/-- THE TIED CARD OF 'laws.FnSubtypeSafe'. -/
def fnSubtypeSafeCard : Claim7 := { stood := { row := fnSubtypeSafeRow, standIns := [], harness := (true, "c4d8198ccd0a4e5007924c343eb2c32ed47ffb01e87d658d64c631371c8412e2"), looks := false }, kinds := [], alts := [], laidByText := true, laidKinds := [.data, .data, .data, .data, .pinned], laidTests := true, laidLooks := .later }
def FnSubtypeSafeCardSaid : Prop := Claim7.holds Tryz.pinned (.plain (OpenSpec.ofChange fnSubtypeSafeSpec)) fnSubtypeSafeCard

/-- THE SECOND FORM's CARD OF 'laws.FnSubtypeOrder'. -/
def fnSubtypeOrderUptoCard : Claim7 := { stood := { row := fnSubtypeOrderUptoRow, standIns := [], harness := (true, "c4d8198ccd0a4e5007924c343eb2c32ed47ffb01e87d658d64c631371c8412e2"), looks := false }, kinds := [], alts := [], laidByText := true, laidKinds := [.data, .data, .data], laidTests := true, laidLooks := .later }
def FnSubtypeOrderUptoCardSaid : Prop := Claim7.holds Tryz.pinned (.plain (OpenSpec.upto fnSubtypeOrderSpec)) fnSubtypeOrderUptoCard

/-- THE SECOND FORM's CARD OF 'laws.FnSubtypeReasons'. -/
def fnSubtypeReasonsUptoCard : Claim7 := { stood := { row := fnSubtypeReasonsUptoRow, standIns := [], harness := (true, "c4d8198ccd0a4e5007924c343eb2c32ed47ffb01e87d658d64c631371c8412e2"), looks := false }, kinds := [], alts := [], laidByText := true, laidKinds := [.data, .data, .data], laidTests := true, laidLooks := .later }
def FnSubtypeReasonsUptoCardSaid : Prop := Claim7.holds Tryz.pinned (.plain (OpenSpec.upto fnSubtypeReasonsSpec)) fnSubtypeReasonsUptoCard

/-- THE SECOND FORM's CARD OF 'laws.FnSubtypeSafe'. -/
def fnSubtypeSafeUptoCard : Claim7 := { stood := { row := fnSubtypeSafeUptoRow, standIns := [], harness := (true, "c4d8198ccd0a4e5007924c343eb2c32ed47ffb01e87d658d64c631371c8412e2"), looks := false }, kinds := [], alts := [], laidByText := true, laidKinds := [.data, .data, .data, .data, .pinned], laidTests := true, laidLooks := .later }
def FnSubtypeSafeUptoCardSaid : Prop := Claim7.holds Tryz.pinned (.plain (OpenSpec.upto fnSubtypeSafeSpec)) fnSubtypeSafeUptoCard
end Rows
end Go.Proofs.YtfddakeigmpjkaaGreatDoor
