/-
  Facts on the types of this program: sizes, zero values; the orders of its regions are what the model follows.
-/
import Derived.Test.YtlnlnpbjgcickaaDoorChecked
import Derived.Test.YtlnlnpbjgcickaaDoorAn
import Derived.KernelRfl
namespace Go.Proofs.YtlnlnpbjgcickaaDoor
open Go.Vs Go.Vs.Ab
set_option maxRecDepth 100000
theorem follows : Tryd.prog.follows .mixedOrders = true := by kernel_rfl
theorem sz3 : tsz Tryd.prog 3 = some 1 := by kernel_rfl
theorem by3 : tbytes Tryd.prog 3 = some 8 := by kernel_rfl
theorem ze3 : tzero Tryd.prog 3 = some [.v (.int .i64 0)] := by kernel_rfl
theorem sz4 : tsz Tryd.prog 4 = some 1 := by kernel_rfl
theorem by4 : tbytes Tryd.prog 4 = some 1 := by kernel_rfl
theorem ze4 : tzero Tryd.prog 4 = some [.v (.bool false)] := by kernel_rfl
theorem sz9 : tsz Tryd.prog 9 = some 1 := by kernel_rfl
theorem by9 : tbytes Tryd.prog 9 = some 16 := by kernel_rfl
theorem ze9 : tzero Tryd.prog 9 = some [.v (.string ⟨#[]⟩)] := by kernel_rfl
theorem sz5 : tsz Tryd.prog 5 = some 1 := by kernel_rfl
theorem by5 : tbytes Tryd.prog 5 = some 1 := by kernel_rfl
theorem ze5 : tzero Tryd.prog 5 = some [.v (.int .u8 0)] := by kernel_rfl
theorem sz27 : tsz Tryd.prog 27 = some 2 := by kernel_rfl
theorem by27 : tbytes Tryd.prog 27 = some 24 := by kernel_rfl
theorem ze27 : tzero Tryd.prog 27 = some [.v (.bool false), .v (.string ⟨#[]⟩)] := by kernel_rfl
theorem sz28 : tsz Tryd.prog 28 = some 8 := by kernel_rfl
theorem by28 : tbytes Tryd.prog 28 = some 96 := by kernel_rfl
theorem ze28 : tzero Tryd.prog 28 = some [.v (.bool false), .v (.string ⟨#[]⟩), .v (.bool false), .v (.string ⟨#[]⟩), .v (.bool false), .v (.string ⟨#[]⟩), .v (.bool false), .v (.string ⟨#[]⟩)] := by kernel_rfl
theorem sz63 : tsz Tryd.prog 63 = some 1 := by kernel_rfl
theorem by63 : tbytes Tryd.prog 63 = some 24 := by kernel_rfl
theorem ze63 : tzero Tryd.prog 63 = some [.sl true 0 []] := by kernel_rfl
theorem sz30 : tsz Tryd.prog 30 = some 11 := by kernel_rfl
theorem by30 : tbytes Tryd.prog 30 = some 136 := by kernel_rfl
theorem ze30 : tzero Tryd.prog 30 = some [.v (.string ⟨#[]⟩), .v (.string ⟨#[]⟩), .v (.int .i64 0), .v (.bool false), .v (.string ⟨#[]⟩), .v (.bool false), .v (.string ⟨#[]⟩), .v (.bool false), .v (.string ⟨#[]⟩), .v (.bool false), .v (.string ⟨#[]⟩)] := by kernel_rfl
theorem sz22 : tsz Tryd.prog 22 = some 1 := by kernel_rfl
theorem by22 : tbytes Tryd.prog 22 = some 24 := by kernel_rfl
theorem ze22 : tzero Tryd.prog 22 = some [.sl true 0 []] := by kernel_rfl
theorem sz45 : tsz Tryd.prog 45 = some 3 := by kernel_rfl
theorem by45 : tbytes Tryd.prog 45 = some 40 := by kernel_rfl
theorem ze45 : tzero Tryd.prog 45 = some [.v (.string ⟨#[]⟩), .v (.bool false), .v (.string ⟨#[]⟩)] := by kernel_rfl
theorem sz42 : tsz Tryd.prog 42 = some 1 := by kernel_rfl
theorem by42 : tbytes Tryd.prog 42 = some 24 := by kernel_rfl
theorem ze42 : tzero Tryd.prog 42 = some [.sl true 0 []] := by kernel_rfl
theorem sz39 : tsz Tryd.prog 39 = some 1 := by kernel_rfl
theorem by39 : tbytes Tryd.prog 39 = some 24 := by kernel_rfl
theorem ze39 : tzero Tryd.prog 39 = some [.sl true 0 []] := by kernel_rfl
theorem sz36 : tsz Tryd.prog 36 = some 1 := by kernel_rfl
theorem by36 : tbytes Tryd.prog 36 = some 8 := by kernel_rfl
theorem ze36 : tzero Tryd.prog 36 = some [.v (.int .i64 0)] := by kernel_rfl
theorem sz51 : tsz Tryd.prog 51 = some 1 := by kernel_rfl
theorem by51 : tbytes Tryd.prog 51 = some 8 := by kernel_rfl
theorem ze51 : tzero Tryd.prog 51 = some [.v (.map none)] := by kernel_rfl
theorem sz59 : tsz Tryd.prog 59 = some 1 := by kernel_rfl
theorem by59 : tbytes Tryd.prog 59 = some 8 := by kernel_rfl
theorem ze59 : tzero Tryd.prog 59 = some [.v (.map none)] := by kernel_rfl
theorem sz60 : tsz Tryd.prog 60 = some 0 := by kernel_rfl
theorem by60 : tbytes Tryd.prog 60 = some 0 := by kernel_rfl
theorem ze60 : tzero Tryd.prog 60 = some [] := by kernel_rfl
attribute [go_sem] sz3 Tryd.underlying3 by3 ze3 sz4 Tryd.underlying4 by4 ze4 sz9 Tryd.underlying9 by9 ze9 sz5 Tryd.underlying5 by5 ze5 sz27 Tryd.underlying27 by27 ze27 sz28 Tryd.underlying28 by28 ze28 sz63 Tryd.underlying63 by63 ze63 sz30 Tryd.underlying30 by30 ze30 sz22 Tryd.underlying22 by22 ze22 sz45 Tryd.underlying45 by45 ze45 sz42 Tryd.underlying42 by42 ze42 sz39 Tryd.underlying39 by39 ze39 sz36 Tryd.underlying36 by36 ze36 sz51 Tryd.underlying51 by51 ze51 sz59 Tryd.underlying59 by59 ze59 sz60 Tryd.underlying60 by60 ze60
end Go.Proofs.YtlnlnpbjgcickaaDoor
