/-
  More on slices on abstract values: parts, appending slices, copies; division's rest. No program in sight.
-/
import Derived.Test.YtaeehadibckcjaaDoorPLAp
set_option linter.unusedVariables false
set_option linter.unusedSimpArgs false
namespace Go.Vs.Ab
open Go.RowKit
variable {P : Program}
/-! ### is a slice nil? -/
end Go.Vs.Ab
