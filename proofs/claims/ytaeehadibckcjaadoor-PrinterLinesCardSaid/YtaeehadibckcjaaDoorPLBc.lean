/-
  Maps on abstract values: keys that are strings, keys that are compared as a whole. No program in sight.
-/
import Derived.Test.YtaeehadibckcjaaDoorPLAr
import Derived.Test.YtaeehadibckcjaaDoorPLBb
set_option linter.unusedVariables false
set_option linter.unusedSimpArgs false
namespace Go.Vs.Ab
open Go.RowKit
variable {P : Program}
theorem so_add {a b : ByteArray} (h : a.size + b.size ≤ 9223372036854775807) : pureVal P (Op.stringOp .add a b) = some (.string (a ++ b)) := by
  have : ¬ (((a.size + b.size : Nat) : Int) > IntKind.i64.max) := by
    have : IntKind.i64.max = 9223372036854775807 := rfl
    omega
  simp only [Op.stringOp, this, if_false]
  rfl
theorem ba_beq (a b : ByteArray) : (a == b) = decide (a = b) := by
  cases a with | mk x => cases b with | mk y =>
    show (x == y) = _
    rw [Bool.eq_iff_iff]
    simp
end Go.Vs.Ab
