/-
  Facts on the types of this program: sizes, zero values; the orders of its regions are what the model follows.
-/
import Derived.Test.YtinbfakpjnnagaaGreatDoorChecked
import Derived.Test.YtinbfakpjnnagaaGreatDoorDCAn
import Derived.KernelRfl
namespace Go.Proofs.YtinbfakpjnnagaaGreatDoor
open Go.Vs Go.Vs.Ab
set_option maxRecDepth 100000
theorem follows : Tryz.prog.follows .mixedOrders = true := by kernel_rfl
theorem sz3 : tsz Tryz.prog 3 = some 1 := by kernel_rfl
theorem by3 : tbytes Tryz.prog 3 = some 8 := by kernel_rfl
theorem ze3 : tzero Tryz.prog 3 = some [.v (.int .i64 0)] := by kernel_rfl
theorem za3 : tzeroA Tryz.prog 3 = some (.c (.v (.int .i64 0))) := by kernel_rfl
theorem lo3 : localE Tryz.prog 3 = false := by kernel_rfl
theorem sz4 : tsz Tryz.prog 4 = some 1 := by kernel_rfl
theorem by4 : tbytes Tryz.prog 4 = some 1 := by kernel_rfl
theorem ze4 : tzero Tryz.prog 4 = some [.v (.bool false)] := by kernel_rfl
theorem za4 : tzeroA Tryz.prog 4 = some (.c (.v (.bool false))) := by kernel_rfl
theorem lo4 : localE Tryz.prog 4 = false := by kernel_rfl
theorem sz9 : tsz Tryz.prog 9 = some 1 := by kernel_rfl
theorem by9 : tbytes Tryz.prog 9 = some 16 := by kernel_rfl
theorem ze9 : tzero Tryz.prog 9 = some [.v (.string ⟨#[]⟩)] := by kernel_rfl
theorem za9 : tzeroA Tryz.prog 9 = some (.c (.v (.string ⟨#[]⟩))) := by kernel_rfl
theorem lo9 : localE Tryz.prog 9 = false := by kernel_rfl
theorem sz5 : tsz Tryz.prog 5 = some 1 := by kernel_rfl
theorem by5 : tbytes Tryz.prog 5 = some 1 := by kernel_rfl
theorem ze5 : tzero Tryz.prog 5 = some [.v (.int .u8 0)] := by kernel_rfl
theorem za5 : tzeroA Tryz.prog 5 = some (.c (.v (.int .u8 0))) := by kernel_rfl
theorem lo5 : localE Tryz.prog 5 = false := by kernel_rfl
theorem sz30 : tsz Tryz.prog 30 = some 2 := by kernel_rfl
theorem by30 : tbytes Tryz.prog 30 = some 24 := by kernel_rfl
theorem ze30 : tzero Tryz.prog 30 = some [.v (.bool false), .v (.string ⟨#[]⟩)] := by kernel_rfl
theorem za30 : tzeroA Tryz.prog 30 = some (.agg [.v (.bool false), .v (.string ⟨#[]⟩)]) := by kernel_rfl
theorem lo30 : localE Tryz.prog 30 = false := by kernel_rfl
theorem sz31 : tsz Tryz.prog 31 = some 8 := by kernel_rfl
theorem by31 : tbytes Tryz.prog 31 = some 96 := by kernel_rfl
theorem ze31 : tzero Tryz.prog 31 = some [.v (.bool false), .v (.string ⟨#[]⟩), .v (.bool false), .v (.string ⟨#[]⟩), .v (.bool false), .v (.string ⟨#[]⟩), .v (.bool false), .v (.string ⟨#[]⟩)] := by kernel_rfl
theorem za31 : tzeroA Tryz.prog 31 = some (.agg [.v (.bool false), .v (.string ⟨#[]⟩), .v (.bool false), .v (.string ⟨#[]⟩), .v (.bool false), .v (.string ⟨#[]⟩), .v (.bool false), .v (.string ⟨#[]⟩)]) := by kernel_rfl
theorem lo31 : localE Tryz.prog 31 = false := by kernel_rfl
theorem sz99 : tsz Tryz.prog 99 = some 1 := by kernel_rfl
theorem by99 : tbytes Tryz.prog 99 = some 24 := by kernel_rfl
theorem ze99 : tzero Tryz.prog 99 = some [.sl true 0 []] := by kernel_rfl
theorem za99 : tzeroA Tryz.prog 99 = some (.c (.sl true 0 [])) := by kernel_rfl
theorem lo99 : localE Tryz.prog 99 = false := by kernel_rfl
theorem sz33 : tsz Tryz.prog 33 = some 11 := by kernel_rfl
theorem by33 : tbytes Tryz.prog 33 = some 136 := by kernel_rfl
theorem ze33 : tzero Tryz.prog 33 = some [.v (.string ⟨#[]⟩), .v (.string ⟨#[]⟩), .v (.int .i64 0), .v (.bool false), .v (.string ⟨#[]⟩), .v (.bool false), .v (.string ⟨#[]⟩), .v (.bool false), .v (.string ⟨#[]⟩), .v (.bool false), .v (.string ⟨#[]⟩)] := by kernel_rfl
theorem za33 : tzeroA Tryz.prog 33 = some (.agg [.v (.string ⟨#[]⟩), .v (.string ⟨#[]⟩), .v (.int .i64 0), .v (.bool false), .v (.string ⟨#[]⟩), .v (.bool false), .v (.string ⟨#[]⟩), .v (.bool false), .v (.string ⟨#[]⟩), .v (.bool false), .v (.string ⟨#[]⟩)]) := by kernel_rfl
theorem lo33 : localE Tryz.prog 33 = false := by kernel_rfl
theorem sz34 : tsz Tryz.prog 34 = some 1 := by kernel_rfl
theorem by34 : tbytes Tryz.prog 34 = some 24 := by kernel_rfl
theorem ze34 : tzero Tryz.prog 34 = some [.sl true 0 []] := by kernel_rfl
theorem za34 : tzeroA Tryz.prog 34 = some (.c (.sl true 0 [])) := by kernel_rfl
theorem lo34 : localE Tryz.prog 34 = false := by kernel_rfl
theorem sz22 : tsz Tryz.prog 22 = some 1 := by kernel_rfl
theorem by22 : tbytes Tryz.prog 22 = some 24 := by kernel_rfl
theorem ze22 : tzero Tryz.prog 22 = some [.sl true 0 []] := by kernel_rfl
theorem za22 : tzeroA Tryz.prog 22 = some (.c (.sl true 0 [])) := by kernel_rfl
theorem lo22 : localE Tryz.prog 22 = false := by kernel_rfl
theorem sz54 : tsz Tryz.prog 54 = some 1 := by kernel_rfl
theorem by54 : tbytes Tryz.prog 54 = some 8 := by kernel_rfl
theorem ze54 : tzero Tryz.prog 54 = some [.v (.int .i64 0)] := by kernel_rfl
theorem za54 : tzeroA Tryz.prog 54 = some (.c (.v (.int .i64 0))) := by kernel_rfl
theorem lo54 : localE Tryz.prog 54 = false := by kernel_rfl
theorem sz62 : tsz Tryz.prog 62 = some 2 := by kernel_rfl
theorem by62 : tbytes Tryz.prog 62 = some 24 := by kernel_rfl
theorem ze62 : tzero Tryz.prog 62 = some [.v (.string ⟨#[]⟩), .v (.int .i64 0)] := by kernel_rfl
theorem za62 : tzeroA Tryz.prog 62 = some (.agg [.v (.string ⟨#[]⟩), .v (.int .i64 0)]) := by kernel_rfl
theorem lo62 : localE Tryz.prog 62 = false := by kernel_rfl
theorem sz23 : tsz Tryz.prog 23 = some 1 := by kernel_rfl
theorem by23 : tbytes Tryz.prog 23 = some 24 := by kernel_rfl
theorem ze23 : tzero Tryz.prog 23 = some [.sl true 0 []] := by kernel_rfl
theorem za23 : tzeroA Tryz.prog 23 = some (.c (.sl true 0 [])) := by kernel_rfl
theorem lo23 : localE Tryz.prog 23 = false := by kernel_rfl
theorem sz64 : tsz Tryz.prog 64 = some 2 := by kernel_rfl
theorem by64 : tbytes Tryz.prog 64 = some 40 := by kernel_rfl
theorem ze64 : tzero Tryz.prog 64 = some [.v (.string ⟨#[]⟩), .sl true 0 []] := by kernel_rfl
theorem za64 : tzeroA Tryz.prog 64 = some (.agg [.v (.string ⟨#[]⟩), .sl true 0 []]) := by kernel_rfl
theorem lo64 : localE Tryz.prog 64 = false := by kernel_rfl
theorem sz24 : tsz Tryz.prog 24 = some 1 := by kernel_rfl
theorem by24 : tbytes Tryz.prog 24 = some 24 := by kernel_rfl
theorem ze24 : tzero Tryz.prog 24 = some [.sl true 0 []] := by kernel_rfl
theorem za24 : tzeroA Tryz.prog 24 = some (.c (.sl true 0 [])) := by kernel_rfl
theorem lo24 : localE Tryz.prog 24 = false := by kernel_rfl
theorem sz65 : tsz Tryz.prog 65 = some 12 := by kernel_rfl
theorem by65 : tbytes Tryz.prog 65 = some 160 := by kernel_rfl
theorem ze65 : tzero Tryz.prog 65 = some [.v (.string ⟨#[]⟩), .v (.string ⟨#[]⟩), .v (.int .i64 0), .v (.bool false), .v (.string ⟨#[]⟩), .v (.bool false), .v (.string ⟨#[]⟩), .v (.bool false), .v (.string ⟨#[]⟩), .v (.bool false), .v (.string ⟨#[]⟩), .sl true 0 []] := by kernel_rfl
theorem za65 : tzeroA Tryz.prog 65 = some (.agg [.v (.string ⟨#[]⟩), .v (.string ⟨#[]⟩), .v (.int .i64 0), .v (.bool false), .v (.string ⟨#[]⟩), .v (.bool false), .v (.string ⟨#[]⟩), .v (.bool false), .v (.string ⟨#[]⟩), .v (.bool false), .v (.string ⟨#[]⟩), .sl true 0 []]) := by kernel_rfl
theorem lo65 : localE Tryz.prog 65 = false := by kernel_rfl
theorem sz25 : tsz Tryz.prog 25 = some 1 := by kernel_rfl
theorem by25 : tbytes Tryz.prog 25 = some 24 := by kernel_rfl
theorem ze25 : tzero Tryz.prog 25 = some [.sl true 0 []] := by kernel_rfl
theorem za25 : tzeroA Tryz.prog 25 = some (.c (.sl true 0 [])) := by kernel_rfl
theorem lo25 : localE Tryz.prog 25 = false := by kernel_rfl
theorem sz36 : tsz Tryz.prog 36 = some 13 := by kernel_rfl
theorem by36 : tbytes Tryz.prog 36 = some 176 := by kernel_rfl
theorem ze36 : tzero Tryz.prog 36 = some [.v (.string ⟨#[]⟩), .v (.string ⟨#[]⟩), .v (.string ⟨#[]⟩), .v (.int .i64 0), .v (.bool false), .v (.string ⟨#[]⟩), .v (.bool false), .v (.string ⟨#[]⟩), .v (.bool false), .v (.string ⟨#[]⟩), .v (.bool false), .v (.string ⟨#[]⟩), .sl true 0 []] := by kernel_rfl
theorem za36 : tzeroA Tryz.prog 36 = some (.agg [.v (.string ⟨#[]⟩), .v (.string ⟨#[]⟩), .v (.string ⟨#[]⟩), .v (.int .i64 0), .v (.bool false), .v (.string ⟨#[]⟩), .v (.bool false), .v (.string ⟨#[]⟩), .v (.bool false), .v (.string ⟨#[]⟩), .v (.bool false), .v (.string ⟨#[]⟩), .sl true 0 []]) := by kernel_rfl
theorem lo36 : localE Tryz.prog 36 = false := by kernel_rfl
theorem sz26 : tsz Tryz.prog 26 = some 1 := by kernel_rfl
theorem by26 : tbytes Tryz.prog 26 = some 24 := by kernel_rfl
theorem ze26 : tzero Tryz.prog 26 = some [.sl true 0 []] := by kernel_rfl
theorem za26 : tzeroA Tryz.prog 26 = some (.c (.sl true 0 [])) := by kernel_rfl
theorem lo26 : localE Tryz.prog 26 = false := by kernel_rfl
theorem sz28 : tsz Tryz.prog 28 = some 7 := by kernel_rfl
theorem by28 : tbytes Tryz.prog 28 = some 136 := by kernel_rfl
theorem ze28 : tzero Tryz.prog 28 = some [.sl true 0 [], .sl true 0 [], .sl true 0 [], .v (.int .i64 0), .v (.int .i64 0), .sl true 0 [], .sl true 0 []] := by kernel_rfl
theorem za28 : tzeroA Tryz.prog 28 = some (.agg [.sl true 0 [], .sl true 0 [], .sl true 0 [], .v (.int .i64 0), .v (.int .i64 0), .sl true 0 [], .sl true 0 []]) := by kernel_rfl
theorem lo28 : localE Tryz.prog 28 = false := by kernel_rfl
theorem sz38 : tsz Tryz.prog 38 = some 12 := by kernel_rfl
theorem by38 : tbytes Tryz.prog 38 = some 160 := by kernel_rfl
theorem ze38 : tzero Tryz.prog 38 = some [.v (.string ⟨#[]⟩), .v (.string ⟨#[]⟩), .v (.int .i64 0), .v (.bool false), .v (.string ⟨#[]⟩), .v (.bool false), .v (.string ⟨#[]⟩), .v (.bool false), .v (.string ⟨#[]⟩), .v (.bool false), .v (.string ⟨#[]⟩), .sl true 0 []] := by kernel_rfl
theorem za38 : tzeroA Tryz.prog 38 = some (.agg [.v (.string ⟨#[]⟩), .v (.string ⟨#[]⟩), .v (.int .i64 0), .v (.bool false), .v (.string ⟨#[]⟩), .v (.bool false), .v (.string ⟨#[]⟩), .v (.bool false), .v (.string ⟨#[]⟩), .v (.bool false), .v (.string ⟨#[]⟩), .sl true 0 []]) := by kernel_rfl
theorem lo38 : localE Tryz.prog 38 = false := by kernel_rfl
theorem sz46 : tsz Tryz.prog 46 = some 1 := by kernel_rfl
theorem by46 : tbytes Tryz.prog 46 = some 24 := by kernel_rfl
theorem ze46 : tzero Tryz.prog 46 = some [.sl true 0 []] := by kernel_rfl
theorem za46 : tzeroA Tryz.prog 46 = some (.c (.sl true 0 [])) := by kernel_rfl
theorem lo46 : localE Tryz.prog 46 = false := by kernel_rfl
theorem sz67 : tsz Tryz.prog 67 = some 12 := by kernel_rfl
theorem by67 : tbytes Tryz.prog 67 = some 160 := by kernel_rfl
theorem ze67 : tzero Tryz.prog 67 = some [.v (.string ⟨#[]⟩), .v (.string ⟨#[]⟩), .v (.int .i64 0), .v (.bool false), .v (.string ⟨#[]⟩), .v (.bool false), .v (.string ⟨#[]⟩), .v (.bool false), .v (.string ⟨#[]⟩), .v (.bool false), .v (.string ⟨#[]⟩), .sl true 0 []] := by kernel_rfl
theorem za67 : tzeroA Tryz.prog 67 = some (.agg [.v (.string ⟨#[]⟩), .v (.string ⟨#[]⟩), .v (.int .i64 0), .v (.bool false), .v (.string ⟨#[]⟩), .v (.bool false), .v (.string ⟨#[]⟩), .v (.bool false), .v (.string ⟨#[]⟩), .v (.bool false), .v (.string ⟨#[]⟩), .sl true 0 []]) := by kernel_rfl
theorem lo67 : localE Tryz.prog 67 = false := by kernel_rfl
theorem sz69 : tsz Tryz.prog 69 = some 13 := by kernel_rfl
theorem by69 : tbytes Tryz.prog 69 = some 176 := by kernel_rfl
theorem ze69 : tzero Tryz.prog 69 = some [.v (.string ⟨#[]⟩), .v (.string ⟨#[]⟩), .v (.int .i64 0), .v (.bool false), .v (.string ⟨#[]⟩), .v (.bool false), .v (.string ⟨#[]⟩), .v (.bool false), .v (.string ⟨#[]⟩), .v (.bool false), .v (.string ⟨#[]⟩), .sl true 0 [], .v (.string ⟨#[]⟩)] := by kernel_rfl
theorem za69 : tzeroA Tryz.prog 69 = some (.agg [.v (.string ⟨#[]⟩), .v (.string ⟨#[]⟩), .v (.int .i64 0), .v (.bool false), .v (.string ⟨#[]⟩), .v (.bool false), .v (.string ⟨#[]⟩), .v (.bool false), .v (.string ⟨#[]⟩), .v (.bool false), .v (.string ⟨#[]⟩), .sl true 0 [], .v (.string ⟨#[]⟩)]) := by kernel_rfl
theorem lo69 : localE Tryz.prog 69 = false := by kernel_rfl
theorem sz72 : tsz Tryz.prog 72 = some 12 := by kernel_rfl
theorem by72 : tbytes Tryz.prog 72 = some 160 := by kernel_rfl
theorem ze72 : tzero Tryz.prog 72 = some [.v (.string ⟨#[]⟩), .v (.string ⟨#[]⟩), .v (.int .i64 0), .v (.bool false), .v (.string ⟨#[]⟩), .v (.bool false), .v (.string ⟨#[]⟩), .v (.bool false), .v (.string ⟨#[]⟩), .v (.bool false), .v (.string ⟨#[]⟩), .sl true 0 []] := by kernel_rfl
theorem za72 : tzeroA Tryz.prog 72 = some (.agg [.v (.string ⟨#[]⟩), .v (.string ⟨#[]⟩), .v (.int .i64 0), .v (.bool false), .v (.string ⟨#[]⟩), .v (.bool false), .v (.string ⟨#[]⟩), .v (.bool false), .v (.string ⟨#[]⟩), .v (.bool false), .v (.string ⟨#[]⟩), .sl true 0 []]) := by kernel_rfl
theorem lo72 : localE Tryz.prog 72 = false := by kernel_rfl
theorem sz73 : tsz Tryz.prog 73 = some 1 := by kernel_rfl
theorem by73 : tbytes Tryz.prog 73 = some 8 := by kernel_rfl
theorem ze73 : tzero Tryz.prog 73 = some [.v (.map none)] := by kernel_rfl
theorem za73 : tzeroA Tryz.prog 73 = some (.c (.v (.map none))) := by kernel_rfl
theorem lo73 : localE Tryz.prog 73 = false := by kernel_rfl
theorem sz74 : tsz Tryz.prog 74 = some 0 := by kernel_rfl
theorem by74 : tbytes Tryz.prog 74 = some 0 := by kernel_rfl
theorem ze74 : tzero Tryz.prog 74 = some [] := by kernel_rfl
theorem za74 : tzeroA Tryz.prog 74 = some (.agg []) := by kernel_rfl
theorem lo74 : localE Tryz.prog 74 = false := by kernel_rfl
theorem sz79 : tsz Tryz.prog 79 = some 1 := by kernel_rfl
theorem by79 : tbytes Tryz.prog 79 = some 8 := by kernel_rfl
theorem ze79 : tzero Tryz.prog 79 = some [.v (.map none)] := by kernel_rfl
theorem za79 : tzeroA Tryz.prog 79 = some (.c (.v (.map none))) := by kernel_rfl
theorem lo79 : localE Tryz.prog 79 = false := by kernel_rfl
attribute [go_sem] sz3 Tryz.underlying3 by3 ze3 za3 lo3 sz4 Tryz.underlying4 by4 ze4 za4 lo4 sz9 Tryz.underlying9 by9 ze9 za9 lo9 sz5 Tryz.underlying5 by5 ze5 za5 lo5 sz30 Tryz.underlying30 by30 ze30 za30 lo30 sz31 Tryz.underlying31 by31 ze31 za31 lo31 sz99 Tryz.underlying99 by99 ze99 za99 lo99 sz33 Tryz.underlying33 by33 ze33 za33 lo33 sz34 Tryz.underlying34 by34 ze34 za34 lo34 sz22 Tryz.underlying22 by22 ze22 za22 lo22 sz54 Tryz.underlying54 by54 ze54 za54 lo54 sz62 Tryz.underlying62 by62 ze62 za62 lo62 sz23 Tryz.underlying23 by23 ze23 za23 lo23 sz64 Tryz.underlying64 by64 ze64 za64 lo64 sz24 Tryz.underlying24 by24 ze24 za24 lo24 sz65 Tryz.underlying65 by65 ze65 za65 lo65 sz25 Tryz.underlying25 by25 ze25 za25 lo25 sz36 Tryz.underlying36 by36 ze36 za36 lo36 sz26 Tryz.underlying26 by26 ze26 za26 lo26 sz28 Tryz.underlying28 by28 ze28 za28 lo28 sz38 Tryz.underlying38 by38 ze38 za38 lo38 sz46 Tryz.underlying46 by46 ze46 za46 lo46 sz67 Tryz.underlying67 by67 ze67 za67 lo67 sz69 Tryz.underlying69 by69 ze69 za69 lo69 sz72 Tryz.underlying72 by72 ze72 za72 lo72 sz73 Tryz.underlying73 by73 ze73 za73 lo73 sz74 Tryz.underlying74 by74 ze74 za74 lo74 sz79 Tryz.underlying79 by79 ze79 za79 lo79
end Go.Proofs.YtinbfakpjnnagaaGreatDoor
