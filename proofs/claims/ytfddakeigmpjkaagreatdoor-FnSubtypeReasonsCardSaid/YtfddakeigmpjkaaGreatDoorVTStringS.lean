/-
  []string: what the laws' functions for it do. Printed by fam.py.
-/
import Derived.Test.YtfddakeigmpjkaaGreatDoorVU
import Derived.Test.YtfddakeigmpjkaaGreatDoorVTBase
namespace Go.Proofs.YtfddakeigmpjkaaGreatDoor
open Go Go.RowKit
set_option linter.unusedVariables false
set_option linter.unusedSimpArgs false

end Go.Proofs.YtfddakeigmpjkaaGreatDoor
