/-
  []string: what the laws' functions for it do. Printed by fam.py.
-/
import Derived.Test.YtplbbaokncjejaaVU
import Derived.Test.YtplbbaokncjejaaVTBase
namespace Go.Proofs.Ytplbbaokncjejaa
open Go Go.RowKit
set_option linter.unusedVariables false
set_option linter.unusedSimpArgs false

end Go.Proofs.Ytplbbaokncjejaa
