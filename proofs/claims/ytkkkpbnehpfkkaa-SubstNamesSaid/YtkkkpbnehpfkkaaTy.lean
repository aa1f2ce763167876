/-
  Facts on the types of this program: sizes, zero values; the orders of its regions are what the model follows.
-/
import Derived.Test.YtkkkpbnehpfkkaaChecked
import Derived.Test.YtkkkpbnehpfkkaaAn
import Derived.KernelRfl
namespace Go.Proofs.Ytkkkpbnehpfkkaa
open Go.Vs Go.Vs.Ab
set_option maxRecDepth 100000
theorem follows : Try.prog.follows .mixedOrders = true := by kernel_rfl
theorem sz3 : tsz Try.prog 3 = some 1 := by kernel_rfl
theorem by3 : tbytes Try.prog 3 = some 8 := by kernel_rfl
theorem ze3 : tzero Try.prog 3 = some [.v (.int .i64 0)] := by kernel_rfl
theorem sz4 : tsz Try.prog 4 = some 1 := by kernel_rfl
theorem by4 : tbytes Try.prog 4 = some 1 := by kernel_rfl
theorem ze4 : tzero Try.prog 4 = some [.v (.bool false)] := by kernel_rfl
theorem sz9 : tsz Try.prog 9 = some 1 := by kernel_rfl
theorem by9 : tbytes Try.prog 9 = some 16 := by kernel_rfl
theorem ze9 : tzero Try.prog 9 = some [.v (.string ⟨#[]⟩)] := by kernel_rfl
theorem sz5 : tsz Try.prog 5 = some 1 := by kernel_rfl
theorem by5 : tbytes Try.prog 5 = some 1 := by kernel_rfl
theorem ze5 : tzero Try.prog 5 = some [.v (.int .u8 0)] := by kernel_rfl
theorem sz24 : tsz Try.prog 24 = some 2 := by kernel_rfl
theorem by24 : tbytes Try.prog 24 = some 24 := by kernel_rfl
theorem ze24 : tzero Try.prog 24 = some [.v (.bool false), .v (.string ⟨#[]⟩)] := by kernel_rfl
theorem sz25 : tsz Try.prog 25 = some 8 := by kernel_rfl
theorem by25 : tbytes Try.prog 25 = some 96 := by kernel_rfl
theorem ze25 : tzero Try.prog 25 = some [.v (.bool false), .v (.string ⟨#[]⟩), .v (.bool false), .v (.string ⟨#[]⟩), .v (.bool false), .v (.string ⟨#[]⟩), .v (.bool false), .v (.string ⟨#[]⟩)] := by kernel_rfl
theorem sz27 : tsz Try.prog 27 = some 11 := by kernel_rfl
theorem by27 : tbytes Try.prog 27 = some 136 := by kernel_rfl
theorem ze27 : tzero Try.prog 27 = some [.v (.string ⟨#[]⟩), .v (.string ⟨#[]⟩), .v (.int .i64 0), .v (.bool false), .v (.string ⟨#[]⟩), .v (.bool false), .v (.string ⟨#[]⟩), .v (.bool false), .v (.string ⟨#[]⟩), .v (.bool false), .v (.string ⟨#[]⟩)] := by kernel_rfl
theorem sz36 : tsz Try.prog 36 = some 3 := by kernel_rfl
theorem by36 : tbytes Try.prog 36 = some 40 := by kernel_rfl
theorem ze36 : tzero Try.prog 36 = some [.v (.string ⟨#[]⟩), .v (.bool false), .v (.string ⟨#[]⟩)] := by kernel_rfl
theorem sz22 : tsz Try.prog 22 = some 1 := by kernel_rfl
theorem by22 : tbytes Try.prog 22 = some 24 := by kernel_rfl
theorem ze22 : tzero Try.prog 22 = some [.sl true 0 []] := by kernel_rfl
theorem sz31 : tsz Try.prog 31 = some 1 := by kernel_rfl
theorem by31 : tbytes Try.prog 31 = some 24 := by kernel_rfl
theorem ze31 : tzero Try.prog 31 = some [.sl true 0 []] := by kernel_rfl
theorem sz39 : tsz Try.prog 39 = some 1 := by kernel_rfl
theorem by39 : tbytes Try.prog 39 = some 8 := by kernel_rfl
theorem ze39 : tzero Try.prog 39 = some [.v (.int .i64 0)] := by kernel_rfl
attribute [go_sem] sz3 Try.underlying3 by3 ze3 sz4 Try.underlying4 by4 ze4 sz9 Try.underlying9 by9 ze9 sz5 Try.underlying5 by5 ze5 sz24 Try.underlying24 by24 ze24 sz25 Try.underlying25 by25 ze25 sz27 Try.underlying27 by27 ze27 sz36 Try.underlying36 by36 ze36 sz22 Try.underlying22 by22 ze22 sz31 Try.underlying31 by31 ze31 sz39 Try.underlying39 by39 ze39
end Go.Proofs.Ytkkkpbnehpfkkaa
