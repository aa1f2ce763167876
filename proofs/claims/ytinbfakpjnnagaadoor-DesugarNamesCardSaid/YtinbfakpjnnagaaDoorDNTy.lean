/-
  Facts on the types of this program: sizes, zero values; the orders of its regions are what the model follows.
-/
import Derived.Test.YtinbfakpjnnagaaDoorChecked
import Derived.Test.YtinbfakpjnnagaaDoorDNAn
import Derived.KernelRfl
namespace Go.Proofs.YtinbfakpjnnagaaDoor
open Go.Vs Go.Vs.Ab
set_option maxRecDepth 100000
theorem follows : Tryd.prog.follows .mixedOrders = true := by kernel_rfl
theorem sz3 : tsz Tryd.prog 3 = some 1 := by kernel_rfl
theorem by3 : tbytes Tryd.prog 3 = some 8 := by kernel_rfl
theorem ze3 : tzero Tryd.prog 3 = some [.v (.int .i64 0)] := by kernel_rfl
theorem za3 : tzeroA Tryd.prog 3 = some (.c (.v (.int .i64 0))) := by kernel_rfl
theorem lo3 : localE Tryd.prog 3 = false := by kernel_rfl
theorem sz4 : tsz Tryd.prog 4 = some 1 := by kernel_rfl
theorem by4 : tbytes Tryd.prog 4 = some 1 := by kernel_rfl
theorem ze4 : tzero Tryd.prog 4 = some [.v (.bool false)] := by kernel_rfl
theorem za4 : tzeroA Tryd.prog 4 = some (.c (.v (.bool false))) := by kernel_rfl
theorem lo4 : localE Tryd.prog 4 = false := by kernel_rfl
theorem sz9 : tsz Tryd.prog 9 = some 1 := by kernel_rfl
theorem by9 : tbytes Tryd.prog 9 = some 16 := by kernel_rfl
theorem ze9 : tzero Tryd.prog 9 = some [.v (.string ⟨#[]⟩)] := by kernel_rfl
theorem za9 : tzeroA Tryd.prog 9 = some (.c (.v (.string ⟨#[]⟩))) := by kernel_rfl
theorem lo9 : localE Tryd.prog 9 = false := by kernel_rfl
theorem sz5 : tsz Tryd.prog 5 = some 1 := by kernel_rfl
theorem by5 : tbytes Tryd.prog 5 = some 1 := by kernel_rfl
theorem ze5 : tzero Tryd.prog 5 = some [.v (.int .u8 0)] := by kernel_rfl
theorem za5 : tzeroA Tryd.prog 5 = some (.c (.v (.int .u8 0))) := by kernel_rfl
theorem lo5 : localE Tryd.prog 5 = false := by kernel_rfl
theorem sz36 : tsz Tryd.prog 36 = some 2 := by kernel_rfl
theorem by36 : tbytes Tryd.prog 36 = some 24 := by kernel_rfl
theorem ze36 : tzero Tryd.prog 36 = some [.v (.bool false), .v (.string ⟨#[]⟩)] := by kernel_rfl
theorem za36 : tzeroA Tryd.prog 36 = some (.agg [.v (.bool false), .v (.string ⟨#[]⟩)]) := by kernel_rfl
theorem lo36 : localE Tryd.prog 36 = false := by kernel_rfl
theorem sz37 : tsz Tryd.prog 37 = some 8 := by kernel_rfl
theorem by37 : tbytes Tryd.prog 37 = some 96 := by kernel_rfl
theorem ze37 : tzero Tryd.prog 37 = some [.v (.bool false), .v (.string ⟨#[]⟩), .v (.bool false), .v (.string ⟨#[]⟩), .v (.bool false), .v (.string ⟨#[]⟩), .v (.bool false), .v (.string ⟨#[]⟩)] := by kernel_rfl
theorem za37 : tzeroA Tryd.prog 37 = some (.agg [.v (.bool false), .v (.string ⟨#[]⟩), .v (.bool false), .v (.string ⟨#[]⟩), .v (.bool false), .v (.string ⟨#[]⟩), .v (.bool false), .v (.string ⟨#[]⟩)]) := by kernel_rfl
theorem lo37 : localE Tryd.prog 37 = false := by kernel_rfl
theorem sz84 : tsz Tryd.prog 84 = some 1 := by kernel_rfl
theorem by84 : tbytes Tryd.prog 84 = some 24 := by kernel_rfl
theorem ze84 : tzero Tryd.prog 84 = some [.sl true 0 []] := by kernel_rfl
theorem za84 : tzeroA Tryd.prog 84 = some (.c (.sl true 0 [])) := by kernel_rfl
theorem lo84 : localE Tryd.prog 84 = false := by kernel_rfl
theorem sz39 : tsz Tryd.prog 39 = some 11 := by kernel_rfl
theorem by39 : tbytes Tryd.prog 39 = some 136 := by kernel_rfl
theorem ze39 : tzero Tryd.prog 39 = some [.v (.string ⟨#[]⟩), .v (.string ⟨#[]⟩), .v (.int .i64 0), .v (.bool false), .v (.string ⟨#[]⟩), .v (.bool false), .v (.string ⟨#[]⟩), .v (.bool false), .v (.string ⟨#[]⟩), .v (.bool false), .v (.string ⟨#[]⟩)] := by kernel_rfl
theorem za39 : tzeroA Tryd.prog 39 = some (.agg [.v (.string ⟨#[]⟩), .v (.string ⟨#[]⟩), .v (.int .i64 0), .v (.bool false), .v (.string ⟨#[]⟩), .v (.bool false), .v (.string ⟨#[]⟩), .v (.bool false), .v (.string ⟨#[]⟩), .v (.bool false), .v (.string ⟨#[]⟩)]) := by kernel_rfl
theorem lo39 : localE Tryd.prog 39 = false := by kernel_rfl
theorem sz33 : tsz Tryd.prog 33 = some 1 := by kernel_rfl
theorem by33 : tbytes Tryd.prog 33 = some 24 := by kernel_rfl
theorem ze33 : tzero Tryd.prog 33 = some [.sl true 0 []] := by kernel_rfl
theorem za33 : tzeroA Tryd.prog 33 = some (.c (.sl true 0 [])) := by kernel_rfl
theorem lo33 : localE Tryd.prog 33 = false := by kernel_rfl
theorem sz23 : tsz Tryd.prog 23 = some 1 := by kernel_rfl
theorem by23 : tbytes Tryd.prog 23 = some 24 := by kernel_rfl
theorem ze23 : tzero Tryd.prog 23 = some [.sl true 0 []] := by kernel_rfl
theorem za23 : tzeroA Tryd.prog 23 = some (.c (.sl true 0 [])) := by kernel_rfl
theorem lo23 : localE Tryd.prog 23 = false := by kernel_rfl
theorem sz52 : tsz Tryd.prog 52 = some 2 := by kernel_rfl
theorem by52 : tbytes Tryd.prog 52 = some 24 := by kernel_rfl
theorem ze52 : tzero Tryd.prog 52 = some [.v (.string ⟨#[]⟩), .v (.int .i64 0)] := by kernel_rfl
theorem za52 : tzeroA Tryd.prog 52 = some (.agg [.v (.string ⟨#[]⟩), .v (.int .i64 0)]) := by kernel_rfl
theorem lo52 : localE Tryd.prog 52 = false := by kernel_rfl
theorem sz24 : tsz Tryd.prog 24 = some 1 := by kernel_rfl
theorem by24 : tbytes Tryd.prog 24 = some 24 := by kernel_rfl
theorem ze24 : tzero Tryd.prog 24 = some [.sl true 0 []] := by kernel_rfl
theorem za24 : tzeroA Tryd.prog 24 = some (.c (.sl true 0 [])) := by kernel_rfl
theorem lo24 : localE Tryd.prog 24 = false := by kernel_rfl
theorem sz54 : tsz Tryd.prog 54 = some 2 := by kernel_rfl
theorem by54 : tbytes Tryd.prog 54 = some 40 := by kernel_rfl
theorem ze54 : tzero Tryd.prog 54 = some [.v (.string ⟨#[]⟩), .sl true 0 []] := by kernel_rfl
theorem za54 : tzeroA Tryd.prog 54 = some (.agg [.v (.string ⟨#[]⟩), .sl true 0 []]) := by kernel_rfl
theorem lo54 : localE Tryd.prog 54 = false := by kernel_rfl
theorem sz25 : tsz Tryd.prog 25 = some 1 := by kernel_rfl
theorem by25 : tbytes Tryd.prog 25 = some 24 := by kernel_rfl
theorem ze25 : tzero Tryd.prog 25 = some [.sl true 0 []] := by kernel_rfl
theorem za25 : tzeroA Tryd.prog 25 = some (.c (.sl true 0 [])) := by kernel_rfl
theorem lo25 : localE Tryd.prog 25 = false := by kernel_rfl
theorem sz42 : tsz Tryd.prog 42 = some 12 := by kernel_rfl
theorem by42 : tbytes Tryd.prog 42 = some 160 := by kernel_rfl
theorem ze42 : tzero Tryd.prog 42 = some [.v (.string ⟨#[]⟩), .v (.string ⟨#[]⟩), .v (.int .i64 0), .v (.bool false), .v (.string ⟨#[]⟩), .v (.bool false), .v (.string ⟨#[]⟩), .v (.bool false), .v (.string ⟨#[]⟩), .v (.bool false), .v (.string ⟨#[]⟩), .sl true 0 []] := by kernel_rfl
theorem za42 : tzeroA Tryd.prog 42 = some (.agg [.v (.string ⟨#[]⟩), .v (.string ⟨#[]⟩), .v (.int .i64 0), .v (.bool false), .v (.string ⟨#[]⟩), .v (.bool false), .v (.string ⟨#[]⟩), .v (.bool false), .v (.string ⟨#[]⟩), .v (.bool false), .v (.string ⟨#[]⟩), .sl true 0 []]) := by kernel_rfl
theorem lo42 : localE Tryd.prog 42 = false := by kernel_rfl
theorem sz26 : tsz Tryd.prog 26 = some 1 := by kernel_rfl
theorem by26 : tbytes Tryd.prog 26 = some 24 := by kernel_rfl
theorem ze26 : tzero Tryd.prog 26 = some [.sl true 0 []] := by kernel_rfl
theorem za26 : tzeroA Tryd.prog 26 = some (.c (.sl true 0 [])) := by kernel_rfl
theorem lo26 : localE Tryd.prog 26 = false := by kernel_rfl
theorem sz50 : tsz Tryd.prog 50 = some 13 := by kernel_rfl
theorem by50 : tbytes Tryd.prog 50 = some 176 := by kernel_rfl
theorem ze50 : tzero Tryd.prog 50 = some [.v (.string ⟨#[]⟩), .v (.string ⟨#[]⟩), .v (.string ⟨#[]⟩), .v (.int .i64 0), .v (.bool false), .v (.string ⟨#[]⟩), .v (.bool false), .v (.string ⟨#[]⟩), .v (.bool false), .v (.string ⟨#[]⟩), .v (.bool false), .v (.string ⟨#[]⟩), .sl true 0 []] := by kernel_rfl
theorem za50 : tzeroA Tryd.prog 50 = some (.agg [.v (.string ⟨#[]⟩), .v (.string ⟨#[]⟩), .v (.string ⟨#[]⟩), .v (.int .i64 0), .v (.bool false), .v (.string ⟨#[]⟩), .v (.bool false), .v (.string ⟨#[]⟩), .v (.bool false), .v (.string ⟨#[]⟩), .v (.bool false), .v (.string ⟨#[]⟩), .sl true 0 []]) := by kernel_rfl
theorem lo50 : localE Tryd.prog 50 = false := by kernel_rfl
theorem sz27 : tsz Tryd.prog 27 = some 1 := by kernel_rfl
theorem by27 : tbytes Tryd.prog 27 = some 24 := by kernel_rfl
theorem ze27 : tzero Tryd.prog 27 = some [.sl true 0 []] := by kernel_rfl
theorem za27 : tzeroA Tryd.prog 27 = some (.c (.sl true 0 [])) := by kernel_rfl
theorem lo27 : localE Tryd.prog 27 = false := by kernel_rfl
theorem sz29 : tsz Tryd.prog 29 = some 7 := by kernel_rfl
theorem by29 : tbytes Tryd.prog 29 = some 136 := by kernel_rfl
theorem ze29 : tzero Tryd.prog 29 = some [.sl true 0 [], .sl true 0 [], .sl true 0 [], .v (.int .i64 0), .v (.int .i64 0), .sl true 0 [], .sl true 0 []] := by kernel_rfl
theorem za29 : tzeroA Tryd.prog 29 = some (.agg [.sl true 0 [], .sl true 0 [], .sl true 0 [], .v (.int .i64 0), .v (.int .i64 0), .sl true 0 [], .sl true 0 []]) := by kernel_rfl
theorem lo29 : localE Tryd.prog 29 = false := by kernel_rfl
theorem sz45 : tsz Tryd.prog 45 = some 12 := by kernel_rfl
theorem by45 : tbytes Tryd.prog 45 = some 160 := by kernel_rfl
theorem ze45 : tzero Tryd.prog 45 = some [.v (.string ⟨#[]⟩), .v (.string ⟨#[]⟩), .v (.int .i64 0), .v (.bool false), .v (.string ⟨#[]⟩), .v (.bool false), .v (.string ⟨#[]⟩), .v (.bool false), .v (.string ⟨#[]⟩), .v (.bool false), .v (.string ⟨#[]⟩), .sl true 0 []] := by kernel_rfl
theorem za45 : tzeroA Tryd.prog 45 = some (.agg [.v (.string ⟨#[]⟩), .v (.string ⟨#[]⟩), .v (.int .i64 0), .v (.bool false), .v (.string ⟨#[]⟩), .v (.bool false), .v (.string ⟨#[]⟩), .v (.bool false), .v (.string ⟨#[]⟩), .v (.bool false), .v (.string ⟨#[]⟩), .sl true 0 []]) := by kernel_rfl
theorem lo45 : localE Tryd.prog 45 = false := by kernel_rfl
theorem sz31 : tsz Tryd.prog 31 = some 1 := by kernel_rfl
theorem by31 : tbytes Tryd.prog 31 = some 24 := by kernel_rfl
theorem ze31 : tzero Tryd.prog 31 = some [.sl true 0 []] := by kernel_rfl
theorem za31 : tzeroA Tryd.prog 31 = some (.c (.sl true 0 [])) := by kernel_rfl
theorem lo31 : localE Tryd.prog 31 = false := by kernel_rfl
theorem sz56 : tsz Tryd.prog 56 = some 12 := by kernel_rfl
theorem by56 : tbytes Tryd.prog 56 = some 160 := by kernel_rfl
theorem ze56 : tzero Tryd.prog 56 = some [.v (.string ⟨#[]⟩), .v (.string ⟨#[]⟩), .v (.int .i64 0), .v (.bool false), .v (.string ⟨#[]⟩), .v (.bool false), .v (.string ⟨#[]⟩), .v (.bool false), .v (.string ⟨#[]⟩), .v (.bool false), .v (.string ⟨#[]⟩), .sl true 0 []] := by kernel_rfl
theorem za56 : tzeroA Tryd.prog 56 = some (.agg [.v (.string ⟨#[]⟩), .v (.string ⟨#[]⟩), .v (.int .i64 0), .v (.bool false), .v (.string ⟨#[]⟩), .v (.bool false), .v (.string ⟨#[]⟩), .v (.bool false), .v (.string ⟨#[]⟩), .v (.bool false), .v (.string ⟨#[]⟩), .sl true 0 []]) := by kernel_rfl
theorem lo56 : localE Tryd.prog 56 = false := by kernel_rfl
theorem sz75 : tsz Tryd.prog 75 = some 13 := by kernel_rfl
theorem by75 : tbytes Tryd.prog 75 = some 176 := by kernel_rfl
theorem ze75 : tzero Tryd.prog 75 = some [.v (.string ⟨#[]⟩), .v (.string ⟨#[]⟩), .v (.int .i64 0), .v (.bool false), .v (.string ⟨#[]⟩), .v (.bool false), .v (.string ⟨#[]⟩), .v (.bool false), .v (.string ⟨#[]⟩), .v (.bool false), .v (.string ⟨#[]⟩), .sl true 0 [], .v (.string ⟨#[]⟩)] := by kernel_rfl
theorem za75 : tzeroA Tryd.prog 75 = some (.agg [.v (.string ⟨#[]⟩), .v (.string ⟨#[]⟩), .v (.int .i64 0), .v (.bool false), .v (.string ⟨#[]⟩), .v (.bool false), .v (.string ⟨#[]⟩), .v (.bool false), .v (.string ⟨#[]⟩), .v (.bool false), .v (.string ⟨#[]⟩), .sl true 0 [], .v (.string ⟨#[]⟩)]) := by kernel_rfl
theorem lo75 : localE Tryd.prog 75 = false := by kernel_rfl
theorem sz58 : tsz Tryd.prog 58 = some 12 := by kernel_rfl
theorem by58 : tbytes Tryd.prog 58 = some 160 := by kernel_rfl
theorem ze58 : tzero Tryd.prog 58 = some [.v (.string ⟨#[]⟩), .v (.string ⟨#[]⟩), .v (.int .i64 0), .v (.bool false), .v (.string ⟨#[]⟩), .v (.bool false), .v (.string ⟨#[]⟩), .v (.bool false), .v (.string ⟨#[]⟩), .v (.bool false), .v (.string ⟨#[]⟩), .sl true 0 []] := by kernel_rfl
theorem za58 : tzeroA Tryd.prog 58 = some (.agg [.v (.string ⟨#[]⟩), .v (.string ⟨#[]⟩), .v (.int .i64 0), .v (.bool false), .v (.string ⟨#[]⟩), .v (.bool false), .v (.string ⟨#[]⟩), .v (.bool false), .v (.string ⟨#[]⟩), .v (.bool false), .v (.string ⟨#[]⟩), .sl true 0 []]) := by kernel_rfl
theorem lo58 : localE Tryd.prog 58 = false := by kernel_rfl
theorem sz60 : tsz Tryd.prog 60 = some 1 := by kernel_rfl
theorem by60 : tbytes Tryd.prog 60 = some 8 := by kernel_rfl
theorem ze60 : tzero Tryd.prog 60 = some [.v (.map none)] := by kernel_rfl
theorem za60 : tzeroA Tryd.prog 60 = some (.c (.v (.map none))) := by kernel_rfl
theorem lo60 : localE Tryd.prog 60 = false := by kernel_rfl
theorem sz62 : tsz Tryd.prog 62 = some 0 := by kernel_rfl
theorem by62 : tbytes Tryd.prog 62 = some 0 := by kernel_rfl
theorem ze62 : tzero Tryd.prog 62 = some [] := by kernel_rfl
theorem za62 : tzeroA Tryd.prog 62 = some (.agg []) := by kernel_rfl
theorem lo62 : localE Tryd.prog 62 = false := by kernel_rfl
theorem sz66 : tsz Tryd.prog 66 = some 1 := by kernel_rfl
theorem by66 : tbytes Tryd.prog 66 = some 8 := by kernel_rfl
theorem ze66 : tzero Tryd.prog 66 = some [.v (.map none)] := by kernel_rfl
theorem za66 : tzeroA Tryd.prog 66 = some (.c (.v (.map none))) := by kernel_rfl
theorem lo66 : localE Tryd.prog 66 = false := by kernel_rfl
attribute [go_sem] sz3 Tryd.underlying3 by3 ze3 za3 lo3 sz4 Tryd.underlying4 by4 ze4 za4 lo4 sz9 Tryd.underlying9 by9 ze9 za9 lo9 sz5 Tryd.underlying5 by5 ze5 za5 lo5 sz36 Tryd.underlying36 by36 ze36 za36 lo36 sz37 Tryd.underlying37 by37 ze37 za37 lo37 sz84 Tryd.underlying84 by84 ze84 za84 lo84 sz39 Tryd.underlying39 by39 ze39 za39 lo39 sz33 Tryd.underlying33 by33 ze33 za33 lo33 sz23 Tryd.underlying23 by23 ze23 za23 lo23 sz52 Tryd.underlying52 by52 ze52 za52 lo52 sz24 Tryd.underlying24 by24 ze24 za24 lo24 sz54 Tryd.underlying54 by54 ze54 za54 lo54 sz25 Tryd.underlying25 by25 ze25 za25 lo25 sz42 Tryd.underlying42 by42 ze42 za42 lo42 sz26 Tryd.underlying26 by26 ze26 za26 lo26 sz50 Tryd.underlying50 by50 ze50 za50 lo50 sz27 Tryd.underlying27 by27 ze27 za27 lo27 sz29 Tryd.underlying29 by29 ze29 za29 lo29 sz45 Tryd.underlying45 by45 ze45 za45 lo45 sz31 Tryd.underlying31 by31 ze31 za31 lo31 sz56 Tryd.underlying56 by56 ze56 za56 lo56 sz75 Tryd.underlying75 by75 ze75 za75 lo75 sz58 Tryd.underlying58 by58 ze58 za58 lo58 sz60 Tryd.underlying60 by60 ze60 za60 lo60 sz62 Tryd.underlying62 by62 ze62 za62 lo62 sz66 Tryd.underlying66 by66 ze66 za66 lo66
end Go.Proofs.YtinbfakpjnnagaaDoor
