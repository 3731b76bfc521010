/-
  What is read of sheets, as it lies in memory: parts, selectors, declarations, rules.
-/
import Derived.Test.YtplbdlgmjehckabShTests
namespace Go.Proofs.Ytplbdlgmjehckab
open Go.RowKit
set_option linter.unusedVariables false
set_option linter.unusedSimpArgs false

end Go.Proofs.Ytplbdlgmjehckab
