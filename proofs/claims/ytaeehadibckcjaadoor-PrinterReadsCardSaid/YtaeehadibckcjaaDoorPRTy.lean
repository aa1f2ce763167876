/-
  Facts on the types of this program: sizes, zero values; the orders of its regions are what the model follows.
-/
import Derived.Test.YtaeehadibckcjaaDoorChecked
import Derived.Test.YtaeehadibckcjaaDoorPRAn
import Derived.KernelRfl
namespace Go.Proofs.YtaeehadibckcjaaDoor
open Go.Vs Go.Vs.Ab
set_option maxRecDepth 100000
theorem follows : Tryd.prog.follows .mixedOrders = true := by kernel_rfl
theorem sz3 : tsz Tryd.prog 3 = some 1 := by kernel_rfl
theorem by3 : tbytes Tryd.prog 3 = some 8 := by kernel_rfl
theorem ze3 : tzero Tryd.prog 3 = some [.v (.int .i64 0)] := by kernel_rfl
theorem za3 : tzeroA Tryd.prog 3 = some (.c (.v (.int .i64 0))) := by kernel_rfl
theorem lo3 : localE Tryd.prog 3 = false := by kernel_rfl
theorem sz4 : tsz Tryd.prog 4 = some 1 := by kernel_rfl
theorem by4 : tbytes Tryd.prog 4 = some 1 := by kernel_rfl
theorem ze4 : tzero Tryd.prog 4 = some [.v (.bool false)] := by kernel_rfl
theorem za4 : tzeroA Tryd.prog 4 = some (.c (.v (.bool false))) := by kernel_rfl
theorem lo4 : localE Tryd.prog 4 = false := by kernel_rfl
theorem sz9 : tsz Tryd.prog 9 = some 1 := by kernel_rfl
theorem by9 : tbytes Tryd.prog 9 = some 16 := by kernel_rfl
theorem ze9 : tzero Tryd.prog 9 = some [.v (.string ⟨#[]⟩)] := by kernel_rfl
theorem za9 : tzeroA Tryd.prog 9 = some (.c (.v (.string ⟨#[]⟩))) := by kernel_rfl
theorem lo9 : localE Tryd.prog 9 = false := by kernel_rfl
theorem sz5 : tsz Tryd.prog 5 = some 1 := by kernel_rfl
theorem by5 : tbytes Tryd.prog 5 = some 1 := by kernel_rfl
theorem ze5 : tzero Tryd.prog 5 = some [.v (.int .u8 0)] := by kernel_rfl
theorem za5 : tzeroA Tryd.prog 5 = some (.c (.v (.int .u8 0))) := by kernel_rfl
theorem lo5 : localE Tryd.prog 5 = false := by kernel_rfl
theorem sz39 : tsz Tryd.prog 39 = some 2 := by kernel_rfl
theorem by39 : tbytes Tryd.prog 39 = some 24 := by kernel_rfl
theorem ze39 : tzero Tryd.prog 39 = some [.v (.bool false), .v (.string ⟨#[]⟩)] := by kernel_rfl
theorem za39 : tzeroA Tryd.prog 39 = some (.agg [.v (.bool false), .v (.string ⟨#[]⟩)]) := by kernel_rfl
theorem lo39 : localE Tryd.prog 39 = false := by kernel_rfl
theorem sz40 : tsz Tryd.prog 40 = some 8 := by kernel_rfl
theorem by40 : tbytes Tryd.prog 40 = some 96 := by kernel_rfl
theorem ze40 : tzero Tryd.prog 40 = some [.v (.bool false), .v (.string ⟨#[]⟩), .v (.bool false), .v (.string ⟨#[]⟩), .v (.bool false), .v (.string ⟨#[]⟩), .v (.bool false), .v (.string ⟨#[]⟩)] := by kernel_rfl
theorem za40 : tzeroA Tryd.prog 40 = some (.agg [.v (.bool false), .v (.string ⟨#[]⟩), .v (.bool false), .v (.string ⟨#[]⟩), .v (.bool false), .v (.string ⟨#[]⟩), .v (.bool false), .v (.string ⟨#[]⟩)]) := by kernel_rfl
theorem lo40 : localE Tryd.prog 40 = false := by kernel_rfl
theorem sz111 : tsz Tryd.prog 111 = some 1 := by kernel_rfl
theorem by111 : tbytes Tryd.prog 111 = some 24 := by kernel_rfl
theorem ze111 : tzero Tryd.prog 111 = some [.sl true 0 []] := by kernel_rfl
theorem za111 : tzeroA Tryd.prog 111 = some (.c (.sl true 0 [])) := by kernel_rfl
theorem lo111 : localE Tryd.prog 111 = false := by kernel_rfl
theorem sz42 : tsz Tryd.prog 42 = some 11 := by kernel_rfl
theorem by42 : tbytes Tryd.prog 42 = some 136 := by kernel_rfl
theorem ze42 : tzero Tryd.prog 42 = some [.v (.string ⟨#[]⟩), .v (.string ⟨#[]⟩), .v (.int .i64 0), .v (.bool false), .v (.string ⟨#[]⟩), .v (.bool false), .v (.string ⟨#[]⟩), .v (.bool false), .v (.string ⟨#[]⟩), .v (.bool false), .v (.string ⟨#[]⟩)] := by kernel_rfl
theorem za42 : tzeroA Tryd.prog 42 = some (.agg [.v (.string ⟨#[]⟩), .v (.string ⟨#[]⟩), .v (.int .i64 0), .v (.bool false), .v (.string ⟨#[]⟩), .v (.bool false), .v (.string ⟨#[]⟩), .v (.bool false), .v (.string ⟨#[]⟩), .v (.bool false), .v (.string ⟨#[]⟩)]) := by kernel_rfl
theorem lo42 : localE Tryd.prog 42 = false := by kernel_rfl
theorem sz43 : tsz Tryd.prog 43 = some 1 := by kernel_rfl
theorem by43 : tbytes Tryd.prog 43 = some 24 := by kernel_rfl
theorem ze43 : tzero Tryd.prog 43 = some [.sl true 0 []] := by kernel_rfl
theorem za43 : tzeroA Tryd.prog 43 = some (.c (.sl true 0 [])) := by kernel_rfl
theorem lo43 : localE Tryd.prog 43 = false := by kernel_rfl
theorem sz23 : tsz Tryd.prog 23 = some 1 := by kernel_rfl
theorem by23 : tbytes Tryd.prog 23 = some 24 := by kernel_rfl
theorem ze23 : tzero Tryd.prog 23 = some [.sl true 0 []] := by kernel_rfl
theorem za23 : tzeroA Tryd.prog 23 = some (.c (.sl true 0 [])) := by kernel_rfl
theorem lo23 : localE Tryd.prog 23 = false := by kernel_rfl
theorem sz30 : tsz Tryd.prog 30 = some 1 := by kernel_rfl
theorem by30 : tbytes Tryd.prog 30 = some 8 := by kernel_rfl
theorem ze30 : tzero Tryd.prog 30 = some [.v (.int .i64 0)] := by kernel_rfl
theorem za30 : tzeroA Tryd.prog 30 = some (.c (.v (.int .i64 0))) := by kernel_rfl
theorem lo30 : localE Tryd.prog 30 = false := by kernel_rfl
theorem sz77 : tsz Tryd.prog 77 = some 1 := by kernel_rfl
theorem by77 : tbytes Tryd.prog 77 = some 24 := by kernel_rfl
theorem ze77 : tzero Tryd.prog 77 = some [.sl true 0 []] := by kernel_rfl
theorem za77 : tzeroA Tryd.prog 77 = some (.c (.sl true 0 [])) := by kernel_rfl
theorem lo77 : localE Tryd.prog 77 = false := by kernel_rfl
theorem sz69 : tsz Tryd.prog 69 = some 2 := by kernel_rfl
theorem by69 : tbytes Tryd.prog 69 = some 24 := by kernel_rfl
theorem ze69 : tzero Tryd.prog 69 = some [.v (.string ⟨#[]⟩), .v (.int .i64 0)] := by kernel_rfl
theorem za69 : tzeroA Tryd.prog 69 = some (.agg [.v (.string ⟨#[]⟩), .v (.int .i64 0)]) := by kernel_rfl
theorem lo69 : localE Tryd.prog 69 = false := by kernel_rfl
theorem sz24 : tsz Tryd.prog 24 = some 1 := by kernel_rfl
theorem by24 : tbytes Tryd.prog 24 = some 24 := by kernel_rfl
theorem ze24 : tzero Tryd.prog 24 = some [.sl true 0 []] := by kernel_rfl
theorem za24 : tzeroA Tryd.prog 24 = some (.c (.sl true 0 [])) := by kernel_rfl
theorem lo24 : localE Tryd.prog 24 = false := by kernel_rfl
theorem sz54 : tsz Tryd.prog 54 = some 2 := by kernel_rfl
theorem by54 : tbytes Tryd.prog 54 = some 40 := by kernel_rfl
theorem ze54 : tzero Tryd.prog 54 = some [.v (.string ⟨#[]⟩), .sl true 0 []] := by kernel_rfl
theorem za54 : tzeroA Tryd.prog 54 = some (.agg [.v (.string ⟨#[]⟩), .sl true 0 []]) := by kernel_rfl
theorem lo54 : localE Tryd.prog 54 = false := by kernel_rfl
theorem sz25 : tsz Tryd.prog 25 = some 1 := by kernel_rfl
theorem by25 : tbytes Tryd.prog 25 = some 24 := by kernel_rfl
theorem ze25 : tzero Tryd.prog 25 = some [.sl true 0 []] := by kernel_rfl
theorem za25 : tzeroA Tryd.prog 25 = some (.c (.sl true 0 [])) := by kernel_rfl
theorem lo25 : localE Tryd.prog 25 = false := by kernel_rfl
theorem sz45 : tsz Tryd.prog 45 = some 12 := by kernel_rfl
theorem by45 : tbytes Tryd.prog 45 = some 160 := by kernel_rfl
theorem ze45 : tzero Tryd.prog 45 = some [.v (.string ⟨#[]⟩), .v (.string ⟨#[]⟩), .v (.int .i64 0), .v (.bool false), .v (.string ⟨#[]⟩), .v (.bool false), .v (.string ⟨#[]⟩), .v (.bool false), .v (.string ⟨#[]⟩), .v (.bool false), .v (.string ⟨#[]⟩), .sl true 0 []] := by kernel_rfl
theorem za45 : tzeroA Tryd.prog 45 = some (.agg [.v (.string ⟨#[]⟩), .v (.string ⟨#[]⟩), .v (.int .i64 0), .v (.bool false), .v (.string ⟨#[]⟩), .v (.bool false), .v (.string ⟨#[]⟩), .v (.bool false), .v (.string ⟨#[]⟩), .v (.bool false), .v (.string ⟨#[]⟩), .sl true 0 []]) := by kernel_rfl
theorem lo45 : localE Tryd.prog 45 = false := by kernel_rfl
theorem sz26 : tsz Tryd.prog 26 = some 1 := by kernel_rfl
theorem by26 : tbytes Tryd.prog 26 = some 24 := by kernel_rfl
theorem ze26 : tzero Tryd.prog 26 = some [.sl true 0 []] := by kernel_rfl
theorem za26 : tzeroA Tryd.prog 26 = some (.c (.sl true 0 [])) := by kernel_rfl
theorem lo26 : localE Tryd.prog 26 = false := by kernel_rfl
theorem sz48 : tsz Tryd.prog 48 = some 13 := by kernel_rfl
theorem by48 : tbytes Tryd.prog 48 = some 176 := by kernel_rfl
theorem ze48 : tzero Tryd.prog 48 = some [.v (.string ⟨#[]⟩), .v (.string ⟨#[]⟩), .v (.string ⟨#[]⟩), .v (.int .i64 0), .v (.bool false), .v (.string ⟨#[]⟩), .v (.bool false), .v (.string ⟨#[]⟩), .v (.bool false), .v (.string ⟨#[]⟩), .v (.bool false), .v (.string ⟨#[]⟩), .sl true 0 []] := by kernel_rfl
theorem za48 : tzeroA Tryd.prog 48 = some (.agg [.v (.string ⟨#[]⟩), .v (.string ⟨#[]⟩), .v (.string ⟨#[]⟩), .v (.int .i64 0), .v (.bool false), .v (.string ⟨#[]⟩), .v (.bool false), .v (.string ⟨#[]⟩), .v (.bool false), .v (.string ⟨#[]⟩), .v (.bool false), .v (.string ⟨#[]⟩), .sl true 0 []]) := by kernel_rfl
theorem lo48 : localE Tryd.prog 48 = false := by kernel_rfl
theorem sz27 : tsz Tryd.prog 27 = some 1 := by kernel_rfl
theorem by27 : tbytes Tryd.prog 27 = some 24 := by kernel_rfl
theorem ze27 : tzero Tryd.prog 27 = some [.sl true 0 []] := by kernel_rfl
theorem za27 : tzeroA Tryd.prog 27 = some (.c (.sl true 0 [])) := by kernel_rfl
theorem lo27 : localE Tryd.prog 27 = false := by kernel_rfl
theorem sz29 : tsz Tryd.prog 29 = some 7 := by kernel_rfl
theorem by29 : tbytes Tryd.prog 29 = some 136 := by kernel_rfl
theorem ze29 : tzero Tryd.prog 29 = some [.sl true 0 [], .sl true 0 [], .sl true 0 [], .v (.int .i64 0), .v (.int .i64 0), .sl true 0 [], .sl true 0 []] := by kernel_rfl
theorem za29 : tzeroA Tryd.prog 29 = some (.agg [.sl true 0 [], .sl true 0 [], .sl true 0 [], .v (.int .i64 0), .v (.int .i64 0), .sl true 0 [], .sl true 0 []]) := by kernel_rfl
theorem lo29 : localE Tryd.prog 29 = false := by kernel_rfl
theorem sz81 : tsz Tryd.prog 81 = some 2 := by kernel_rfl
theorem by81 : tbytes Tryd.prog 81 = some 32 := by kernel_rfl
theorem ze81 : tzero Tryd.prog 81 = some [.v (.pointer none), .sl true 0 []] := by kernel_rfl
theorem za81 : tzeroA Tryd.prog 81 = some (.agg [.v (.pointer none), .sl true 0 []]) := by kernel_rfl
theorem lo81 : localE Tryd.prog 81 = false := by kernel_rfl
theorem sz79 : tsz Tryd.prog 79 = some 2 := by kernel_rfl
theorem by79 : tbytes Tryd.prog 79 = some 32 := by kernel_rfl
theorem ze79 : tzero Tryd.prog 79 = some [.v (.pointer none), .sl true 0 []] := by kernel_rfl
theorem za79 : tzeroA Tryd.prog 79 = some (.agg [.v (.pointer none), .sl true 0 []]) := by kernel_rfl
theorem lo79 : localE Tryd.prog 79 = false := by kernel_rfl
theorem sz99 : tsz Tryd.prog 99 = some 3 := by kernel_rfl
theorem by99 : tbytes Tryd.prog 99 = some 32 := by kernel_rfl
theorem ze99 : tzero Tryd.prog 99 = some [.v (.int .i64 0), .v (.string ⟨#[]⟩), .v (.int .i64 0)] := by kernel_rfl
theorem za99 : tzeroA Tryd.prog 99 = some (.agg [.v (.int .i64 0), .v (.string ⟨#[]⟩), .v (.int .i64 0)]) := by kernel_rfl
theorem lo99 : localE Tryd.prog 99 = false := by kernel_rfl
theorem sz61 : tsz Tryd.prog 61 = some 1 := by kernel_rfl
theorem by61 : tbytes Tryd.prog 61 = some 24 := by kernel_rfl
theorem ze61 : tzero Tryd.prog 61 = some [.sl true 0 []] := by kernel_rfl
theorem za61 : tzeroA Tryd.prog 61 = some (.c (.sl true 0 [])) := by kernel_rfl
theorem lo61 : localE Tryd.prog 61 = false := by kernel_rfl
theorem sz66 : tsz Tryd.prog 66 = some 5 := by kernel_rfl
theorem by66 : tbytes Tryd.prog 66 = some 56 := by kernel_rfl
theorem ze66 : tzero Tryd.prog 66 = some [.sl true 0 [], .v (.int .i64 0), .v (.int .i64 0), .v (.int .i64 0), .v (.int .i64 0)] := by kernel_rfl
theorem za66 : tzeroA Tryd.prog 66 = some (.agg [.sl true 0 [], .v (.int .i64 0), .v (.int .i64 0), .v (.int .i64 0), .v (.int .i64 0)]) := by kernel_rfl
theorem lo66 : localE Tryd.prog 66 = false := by kernel_rfl
attribute [go_sem] sz3 Tryd.underlying3 by3 ze3 za3 lo3 sz4 Tryd.underlying4 by4 ze4 za4 lo4 sz9 Tryd.underlying9 by9 ze9 za9 lo9 sz5 Tryd.underlying5 by5 ze5 za5 lo5 sz39 Tryd.underlying39 by39 ze39 za39 lo39 sz40 Tryd.underlying40 by40 ze40 za40 lo40 sz111 Tryd.underlying111 by111 ze111 za111 lo111 sz42 Tryd.underlying42 by42 ze42 za42 lo42 sz43 Tryd.underlying43 by43 ze43 za43 lo43 sz23 Tryd.underlying23 by23 ze23 za23 lo23 sz30 Tryd.underlying30 by30 ze30 za30 lo30 sz77 Tryd.underlying77 by77 ze77 za77 lo77 sz69 Tryd.underlying69 by69 ze69 za69 lo69 sz24 Tryd.underlying24 by24 ze24 za24 lo24 sz54 Tryd.underlying54 by54 ze54 za54 lo54 sz25 Tryd.underlying25 by25 ze25 za25 lo25 sz45 Tryd.underlying45 by45 ze45 za45 lo45 sz26 Tryd.underlying26 by26 ze26 za26 lo26 sz48 Tryd.underlying48 by48 ze48 za48 lo48 sz27 Tryd.underlying27 by27 ze27 za27 lo27 sz29 Tryd.underlying29 by29 ze29 za29 lo29 sz81 Tryd.underlying81 by81 ze81 za81 lo81 sz79 Tryd.underlying79 by79 ze79 za79 lo79 sz99 Tryd.underlying99 by99 ze99 za99 lo99 sz61 Tryd.underlying61 by61 ze61 za61 lo61 sz66 Tryd.underlying66 by66 ze66 za66 lo66
end Go.Proofs.YtaeehadibckcjaaDoor
