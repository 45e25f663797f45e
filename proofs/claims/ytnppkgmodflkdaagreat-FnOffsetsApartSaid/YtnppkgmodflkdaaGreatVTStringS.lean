/-
  []string: what the laws' functions for it do. Printed by fam.py.
-/
import Derived.Test.YtnppkgmodflkdaaGreatVU
import Derived.Test.YtnppkgmodflkdaaGreatVTBase
namespace Go.Proofs.YtnppkgmodflkdaaGreat
open Go Go.RowKit
set_option linter.unusedVariables false
set_option linter.unusedSimpArgs false

end Go.Proofs.YtnppkgmodflkdaaGreat
