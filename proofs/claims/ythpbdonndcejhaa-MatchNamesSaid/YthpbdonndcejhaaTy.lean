/-
  Facts on the types of this program: sizes, zero values; the orders of its regions are what the model follows.
-/
import Derived.Test.YthpbdonndcejhaaChecked
import Derived.Test.YthpbdonndcejhaaAn
import Derived.KernelRfl
namespace Go.Proofs.Ythpbdonndcejhaa
open Go.Vs Go.Vs.Ab
set_option maxRecDepth 100000
theorem follows : Try.prog.follows .mixedOrders = true := by kernel_rfl
theorem sz3 : tsz Try.prog 3 = some 1 := by kernel_rfl
theorem by3 : tbytes Try.prog 3 = some 8 := by kernel_rfl
theorem ze3 : tzero Try.prog 3 = some [.v (.int .i64 0)] := by kernel_rfl
theorem sz4 : tsz Try.prog 4 = some 1 := by kernel_rfl
theorem by4 : tbytes Try.prog 4 = some 1 := by kernel_rfl
theorem ze4 : tzero Try.prog 4 = some [.v (.bool false)] := by kernel_rfl
theorem sz9 : tsz Try.prog 9 = some 1 := by kernel_rfl
theorem by9 : tbytes Try.prog 9 = some 16 := by kernel_rfl
theorem ze9 : tzero Try.prog 9 = some [.v (.string ⟨#[]⟩)] := by kernel_rfl
theorem sz5 : tsz Try.prog 5 = some 1 := by kernel_rfl
theorem by5 : tbytes Try.prog 5 = some 1 := by kernel_rfl
theorem ze5 : tzero Try.prog 5 = some [.v (.int .u8 0)] := by kernel_rfl
theorem sz23 : tsz Try.prog 23 = some 2 := by kernel_rfl
theorem by23 : tbytes Try.prog 23 = some 24 := by kernel_rfl
theorem ze23 : tzero Try.prog 23 = some [.v (.bool false), .v (.string ⟨#[]⟩)] := by kernel_rfl
theorem sz24 : tsz Try.prog 24 = some 8 := by kernel_rfl
theorem by24 : tbytes Try.prog 24 = some 96 := by kernel_rfl
theorem ze24 : tzero Try.prog 24 = some [.v (.bool false), .v (.string ⟨#[]⟩), .v (.bool false), .v (.string ⟨#[]⟩), .v (.bool false), .v (.string ⟨#[]⟩), .v (.bool false), .v (.string ⟨#[]⟩)] := by kernel_rfl
theorem sz65 : tsz Try.prog 65 = some 1 := by kernel_rfl
theorem by65 : tbytes Try.prog 65 = some 24 := by kernel_rfl
theorem ze65 : tzero Try.prog 65 = some [.sl true 0 []] := by kernel_rfl
theorem sz26 : tsz Try.prog 26 = some 11 := by kernel_rfl
theorem by26 : tbytes Try.prog 26 = some 136 := by kernel_rfl
theorem ze26 : tzero Try.prog 26 = some [.v (.string ⟨#[]⟩), .v (.string ⟨#[]⟩), .v (.int .i64 0), .v (.bool false), .v (.string ⟨#[]⟩), .v (.bool false), .v (.string ⟨#[]⟩), .v (.bool false), .v (.string ⟨#[]⟩), .v (.bool false), .v (.string ⟨#[]⟩)] := by kernel_rfl
theorem sz53 : tsz Try.prog 53 = some 1 := by kernel_rfl
theorem by53 : tbytes Try.prog 53 = some 24 := by kernel_rfl
theorem ze53 : tzero Try.prog 53 = some [.sl true 0 []] := by kernel_rfl
theorem sz36 : tsz Try.prog 36 = some 3 := by kernel_rfl
theorem by36 : tbytes Try.prog 36 = some 40 := by kernel_rfl
theorem ze36 : tzero Try.prog 36 = some [.v (.string ⟨#[]⟩), .v (.bool false), .v (.string ⟨#[]⟩)] := by kernel_rfl
theorem sz29 : tsz Try.prog 29 = some 1 := by kernel_rfl
theorem by29 : tbytes Try.prog 29 = some 24 := by kernel_rfl
theorem ze29 : tzero Try.prog 29 = some [.sl true 0 []] := by kernel_rfl
theorem sz44 : tsz Try.prog 44 = some 1 := by kernel_rfl
theorem by44 : tbytes Try.prog 44 = some 24 := by kernel_rfl
theorem ze44 : tzero Try.prog 44 = some [.sl true 0 []] := by kernel_rfl
theorem sz41 : tsz Try.prog 41 = some 1 := by kernel_rfl
theorem by41 : tbytes Try.prog 41 = some 8 := by kernel_rfl
theorem ze41 : tzero Try.prog 41 = some [.v (.int .i64 0)] := by kernel_rfl
attribute [go_sem] sz3 Try.underlying3 by3 ze3 sz4 Try.underlying4 by4 ze4 sz9 Try.underlying9 by9 ze9 sz5 Try.underlying5 by5 ze5 sz23 Try.underlying23 by23 ze23 sz24 Try.underlying24 by24 ze24 sz65 Try.underlying65 by65 ze65 sz26 Try.underlying26 by26 ze26 sz53 Try.underlying53 by53 ze53 sz36 Try.underlying36 by36 ze36 sz29 Try.underlying29 by29 ze29 sz44 Try.underlying44 by44 ze44 sz41 Try.underlying41 by41 ze41
end Go.Proofs.Ythpbdonndcejhaa
