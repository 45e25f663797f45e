/-
  DERIVED. GIVEN WITH THE SEED: THE CARDS: each row of YtjepdbkphfemmaaDoorRows.lean that lists a variable, with what it lists TIED to the program's text (the seventh form; the later family's looks); each row that meets fmt, with fmt's text TOLD by the authors' own Lean function (tested against real Go, not proved from fmt's source: count such statements apart). THE CARD IS WHAT COUNTS. Prove the row's statement (the work); the ties are given (YtjepdbkphfemmaaDoorTie.lean); close each card by the builder's one call (the guide's Derived/Test/ToyasCard.lean, 'card_holds'). Laid BY PROGRAM, IN A SANDBOX (cutbox-door.mjs). By AI agents, Wed Nov 11 2026. No macro, syntax, notation, axiom, sorry.
-/
import Derived.Test.YtjepdbkphfemmaaDoorRows
import GoSem.ClaimSeven
namespace Go.Proofs.YtjepdbkphfemmaaDoor
namespace Rows

/-- THE TIED CARD OF 'laws.FnFuture'. -/
def fnFutureCard : Claim7 := { stood := { row := fnFutureRow, standIns := [], harness := (true, "f0bfa7077f0a414a7743858e6b6f41a9782233ac9c4af8b93f8cbfa9801a24d4"), looks := false }, kinds := [], alts := [], laidByText := true, laidKinds := [.data, .pinned], laidTests := true, laidLooks := .later }
def FnFutureCardSaid : Prop := Claim7.holds Tryd.pinned (.plain (OpenSpec.ofChange fnFutureSpec)) fnFutureCard

/-- THE SECOND FORM's CARD OF 'laws.FnFuture'. -/
def fnFutureUptoCard : Claim7 := { stood := { row := fnFutureUptoRow, standIns := [], harness := (true, "f0bfa7077f0a414a7743858e6b6f41a9782233ac9c4af8b93f8cbfa9801a24d4"), looks := false }, kinds := [], alts := [], laidByText := true, laidKinds := [.data, .pinned], laidTests := true, laidLooks := .later }
def FnFutureUptoCardSaid : Prop := Claim7.holds Tryd.pinned (.plain (OpenSpec.upto fnFutureSpec)) fnFutureUptoCard
end Rows
end Go.Proofs.YtjepdbkphfemmaaDoor
