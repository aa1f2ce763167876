/-
  Sets of strings as maps: each key with one and the same value. No program in sight.
-/
import Derived.Test.YtinbfakpjnnagaaTm0
set_option linter.unusedVariables false
set_option linter.unusedSimpArgs false
namespace Go.Vs.Ab
open Go.RowKit
variable {P : Program}
end Go.Vs.Ab
