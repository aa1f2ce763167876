/-
  Facts on the types of this program: sizes, zero values; the orders of its regions are what the model follows.
-/
import Derived.Test.YtinbfakpjnnagaaChecked
import Derived.Test.YtinbfakpjnnagaaTAn
import Derived.KernelRfl
namespace Go.Proofs.Ytinbfakpjnnagaa
open Go.Vs Go.Vs.Ab
set_option maxRecDepth 100000
theorem follows : Try.prog.follows .mixedOrders = true := by kernel_rfl
theorem sz3 : tsz Try.prog 3 = some 1 := by kernel_rfl
theorem by3 : tbytes Try.prog 3 = some 8 := by kernel_rfl
theorem ze3 : tzero Try.prog 3 = some [.v (.int .i64 0)] := by kernel_rfl
theorem za3 : tzeroA Try.prog 3 = some (.c (.v (.int .i64 0))) := by kernel_rfl
theorem lo3 : localE Try.prog 3 = false := by kernel_rfl
theorem sz4 : tsz Try.prog 4 = some 1 := by kernel_rfl
theorem by4 : tbytes Try.prog 4 = some 1 := by kernel_rfl
theorem ze4 : tzero Try.prog 4 = some [.v (.bool false)] := by kernel_rfl
theorem za4 : tzeroA Try.prog 4 = some (.c (.v (.bool false))) := by kernel_rfl
theorem lo4 : localE Try.prog 4 = false := by kernel_rfl
theorem sz9 : tsz Try.prog 9 = some 1 := by kernel_rfl
theorem by9 : tbytes Try.prog 9 = some 16 := by kernel_rfl
theorem ze9 : tzero Try.prog 9 = some [.v (.string ⟨#[]⟩)] := by kernel_rfl
theorem za9 : tzeroA Try.prog 9 = some (.c (.v (.string ⟨#[]⟩))) := by kernel_rfl
theorem lo9 : localE Try.prog 9 = false := by kernel_rfl
theorem sz5 : tsz Try.prog 5 = some 1 := by kernel_rfl
theorem by5 : tbytes Try.prog 5 = some 1 := by kernel_rfl
theorem ze5 : tzero Try.prog 5 = some [.v (.int .u8 0)] := by kernel_rfl
theorem za5 : tzeroA Try.prog 5 = some (.c (.v (.int .u8 0))) := by kernel_rfl
theorem lo5 : localE Try.prog 5 = false := by kernel_rfl
theorem sz37 : tsz Try.prog 37 = some 2 := by kernel_rfl
theorem by37 : tbytes Try.prog 37 = some 24 := by kernel_rfl
theorem ze37 : tzero Try.prog 37 = some [.v (.bool false), .v (.string ⟨#[]⟩)] := by kernel_rfl
theorem za37 : tzeroA Try.prog 37 = some (.agg [.v (.bool false), .v (.string ⟨#[]⟩)]) := by kernel_rfl
theorem lo37 : localE Try.prog 37 = false := by kernel_rfl
theorem sz38 : tsz Try.prog 38 = some 8 := by kernel_rfl
theorem by38 : tbytes Try.prog 38 = some 96 := by kernel_rfl
theorem ze38 : tzero Try.prog 38 = some [.v (.bool false), .v (.string ⟨#[]⟩), .v (.bool false), .v (.string ⟨#[]⟩), .v (.bool false), .v (.string ⟨#[]⟩), .v (.bool false), .v (.string ⟨#[]⟩)] := by kernel_rfl
theorem za38 : tzeroA Try.prog 38 = some (.agg [.v (.bool false), .v (.string ⟨#[]⟩), .v (.bool false), .v (.string ⟨#[]⟩), .v (.bool false), .v (.string ⟨#[]⟩), .v (.bool false), .v (.string ⟨#[]⟩)]) := by kernel_rfl
theorem lo38 : localE Try.prog 38 = false := by kernel_rfl
theorem sz98 : tsz Try.prog 98 = some 1 := by kernel_rfl
theorem by98 : tbytes Try.prog 98 = some 24 := by kernel_rfl
theorem ze98 : tzero Try.prog 98 = some [.sl true 0 []] := by kernel_rfl
theorem za98 : tzeroA Try.prog 98 = some (.c (.sl true 0 [])) := by kernel_rfl
theorem lo98 : localE Try.prog 98 = false := by kernel_rfl
theorem sz40 : tsz Try.prog 40 = some 11 := by kernel_rfl
theorem by40 : tbytes Try.prog 40 = some 136 := by kernel_rfl
theorem ze40 : tzero Try.prog 40 = some [.v (.string ⟨#[]⟩), .v (.string ⟨#[]⟩), .v (.int .i64 0), .v (.bool false), .v (.string ⟨#[]⟩), .v (.bool false), .v (.string ⟨#[]⟩), .v (.bool false), .v (.string ⟨#[]⟩), .v (.bool false), .v (.string ⟨#[]⟩)] := by kernel_rfl
theorem za40 : tzeroA Try.prog 40 = some (.agg [.v (.string ⟨#[]⟩), .v (.string ⟨#[]⟩), .v (.int .i64 0), .v (.bool false), .v (.string ⟨#[]⟩), .v (.bool false), .v (.string ⟨#[]⟩), .v (.bool false), .v (.string ⟨#[]⟩), .v (.bool false), .v (.string ⟨#[]⟩)]) := by kernel_rfl
theorem lo40 : localE Try.prog 40 = false := by kernel_rfl
theorem sz41 : tsz Try.prog 41 = some 1 := by kernel_rfl
theorem by41 : tbytes Try.prog 41 = some 24 := by kernel_rfl
theorem ze41 : tzero Try.prog 41 = some [.sl true 0 []] := by kernel_rfl
theorem za41 : tzeroA Try.prog 41 = some (.c (.sl true 0 [])) := by kernel_rfl
theorem lo41 : localE Try.prog 41 = false := by kernel_rfl
theorem sz22 : tsz Try.prog 22 = some 1 := by kernel_rfl
theorem by22 : tbytes Try.prog 22 = some 24 := by kernel_rfl
theorem ze22 : tzero Try.prog 22 = some [.sl true 0 []] := by kernel_rfl
theorem za22 : tzeroA Try.prog 22 = some (.c (.sl true 0 [])) := by kernel_rfl
theorem lo22 : localE Try.prog 22 = false := by kernel_rfl
theorem sz31 : tsz Try.prog 31 = some 1 := by kernel_rfl
theorem by31 : tbytes Try.prog 31 = some 8 := by kernel_rfl
theorem ze31 : tzero Try.prog 31 = some [.v (.int .i64 0)] := by kernel_rfl
theorem za31 : tzeroA Try.prog 31 = some (.c (.v (.int .i64 0))) := by kernel_rfl
theorem lo31 : localE Try.prog 31 = false := by kernel_rfl
theorem sz58 : tsz Try.prog 58 = some 2 := by kernel_rfl
theorem by58 : tbytes Try.prog 58 = some 24 := by kernel_rfl
theorem ze58 : tzero Try.prog 58 = some [.v (.string ⟨#[]⟩), .v (.int .i64 0)] := by kernel_rfl
theorem za58 : tzeroA Try.prog 58 = some (.agg [.v (.string ⟨#[]⟩), .v (.int .i64 0)]) := by kernel_rfl
theorem lo58 : localE Try.prog 58 = false := by kernel_rfl
theorem sz23 : tsz Try.prog 23 = some 1 := by kernel_rfl
theorem by23 : tbytes Try.prog 23 = some 24 := by kernel_rfl
theorem ze23 : tzero Try.prog 23 = some [.sl true 0 []] := by kernel_rfl
theorem za23 : tzeroA Try.prog 23 = some (.c (.sl true 0 [])) := by kernel_rfl
theorem lo23 : localE Try.prog 23 = false := by kernel_rfl
theorem sz60 : tsz Try.prog 60 = some 2 := by kernel_rfl
theorem by60 : tbytes Try.prog 60 = some 40 := by kernel_rfl
theorem ze60 : tzero Try.prog 60 = some [.v (.string ⟨#[]⟩), .sl true 0 []] := by kernel_rfl
theorem za60 : tzeroA Try.prog 60 = some (.agg [.v (.string ⟨#[]⟩), .sl true 0 []]) := by kernel_rfl
theorem lo60 : localE Try.prog 60 = false := by kernel_rfl
theorem sz24 : tsz Try.prog 24 = some 1 := by kernel_rfl
theorem by24 : tbytes Try.prog 24 = some 24 := by kernel_rfl
theorem ze24 : tzero Try.prog 24 = some [.sl true 0 []] := by kernel_rfl
theorem za24 : tzeroA Try.prog 24 = some (.c (.sl true 0 [])) := by kernel_rfl
theorem lo24 : localE Try.prog 24 = false := by kernel_rfl
theorem sz53 : tsz Try.prog 53 = some 12 := by kernel_rfl
theorem by53 : tbytes Try.prog 53 = some 160 := by kernel_rfl
theorem ze53 : tzero Try.prog 53 = some [.v (.string ⟨#[]⟩), .v (.string ⟨#[]⟩), .v (.int .i64 0), .v (.bool false), .v (.string ⟨#[]⟩), .v (.bool false), .v (.string ⟨#[]⟩), .v (.bool false), .v (.string ⟨#[]⟩), .v (.bool false), .v (.string ⟨#[]⟩), .sl true 0 []] := by kernel_rfl
theorem za53 : tzeroA Try.prog 53 = some (.agg [.v (.string ⟨#[]⟩), .v (.string ⟨#[]⟩), .v (.int .i64 0), .v (.bool false), .v (.string ⟨#[]⟩), .v (.bool false), .v (.string ⟨#[]⟩), .v (.bool false), .v (.string ⟨#[]⟩), .v (.bool false), .v (.string ⟨#[]⟩), .sl true 0 []]) := by kernel_rfl
theorem lo53 : localE Try.prog 53 = false := by kernel_rfl
theorem sz25 : tsz Try.prog 25 = some 1 := by kernel_rfl
theorem by25 : tbytes Try.prog 25 = some 24 := by kernel_rfl
theorem ze25 : tzero Try.prog 25 = some [.sl true 0 []] := by kernel_rfl
theorem za25 : tzeroA Try.prog 25 = some (.c (.sl true 0 [])) := by kernel_rfl
theorem lo25 : localE Try.prog 25 = false := by kernel_rfl
theorem sz47 : tsz Try.prog 47 = some 13 := by kernel_rfl
theorem by47 : tbytes Try.prog 47 = some 176 := by kernel_rfl
theorem ze47 : tzero Try.prog 47 = some [.v (.string ⟨#[]⟩), .v (.string ⟨#[]⟩), .v (.string ⟨#[]⟩), .v (.int .i64 0), .v (.bool false), .v (.string ⟨#[]⟩), .v (.bool false), .v (.string ⟨#[]⟩), .v (.bool false), .v (.string ⟨#[]⟩), .v (.bool false), .v (.string ⟨#[]⟩), .sl true 0 []] := by kernel_rfl
theorem za47 : tzeroA Try.prog 47 = some (.agg [.v (.string ⟨#[]⟩), .v (.string ⟨#[]⟩), .v (.string ⟨#[]⟩), .v (.int .i64 0), .v (.bool false), .v (.string ⟨#[]⟩), .v (.bool false), .v (.string ⟨#[]⟩), .v (.bool false), .v (.string ⟨#[]⟩), .v (.bool false), .v (.string ⟨#[]⟩), .sl true 0 []]) := by kernel_rfl
theorem lo47 : localE Try.prog 47 = false := by kernel_rfl
theorem sz26 : tsz Try.prog 26 = some 1 := by kernel_rfl
theorem by26 : tbytes Try.prog 26 = some 24 := by kernel_rfl
theorem ze26 : tzero Try.prog 26 = some [.sl true 0 []] := by kernel_rfl
theorem za26 : tzeroA Try.prog 26 = some (.c (.sl true 0 [])) := by kernel_rfl
theorem lo26 : localE Try.prog 26 = false := by kernel_rfl
theorem sz28 : tsz Try.prog 28 = some 7 := by kernel_rfl
theorem by28 : tbytes Try.prog 28 = some 136 := by kernel_rfl
theorem ze28 : tzero Try.prog 28 = some [.sl true 0 [], .sl true 0 [], .sl true 0 [], .v (.int .i64 0), .v (.int .i64 0), .sl true 0 [], .sl true 0 []] := by kernel_rfl
theorem za28 : tzeroA Try.prog 28 = some (.agg [.sl true 0 [], .sl true 0 [], .sl true 0 [], .v (.int .i64 0), .v (.int .i64 0), .sl true 0 [], .sl true 0 []]) := by kernel_rfl
theorem lo28 : localE Try.prog 28 = false := by kernel_rfl
theorem sz112 : tsz Try.prog 112 = some 3 := by kernel_rfl
theorem by112 : tbytes Try.prog 112 = some 32 := by kernel_rfl
theorem ze112 : tzero Try.prog 112 = some [.v (.int .i64 0), .v (.string ⟨#[]⟩), .v (.int .i64 0)] := by kernel_rfl
theorem za112 : tzeroA Try.prog 112 = some (.agg [.v (.int .i64 0), .v (.string ⟨#[]⟩), .v (.int .i64 0)]) := by kernel_rfl
theorem lo112 : localE Try.prog 112 = false := by kernel_rfl
theorem sz77 : tsz Try.prog 77 = some 1 := by kernel_rfl
theorem by77 : tbytes Try.prog 77 = some 24 := by kernel_rfl
theorem ze77 : tzero Try.prog 77 = some [.sl true 0 []] := by kernel_rfl
theorem za77 : tzeroA Try.prog 77 = some (.c (.sl true 0 [])) := by kernel_rfl
theorem lo77 : localE Try.prog 77 = false := by kernel_rfl
theorem sz82 : tsz Try.prog 82 = some 5 := by kernel_rfl
theorem by82 : tbytes Try.prog 82 = some 56 := by kernel_rfl
theorem ze82 : tzero Try.prog 82 = some [.sl true 0 [], .v (.int .i64 0), .v (.int .i64 0), .v (.int .i64 0), .v (.int .i64 0)] := by kernel_rfl
theorem za82 : tzeroA Try.prog 82 = some (.agg [.sl true 0 [], .v (.int .i64 0), .v (.int .i64 0), .v (.int .i64 0), .v (.int .i64 0)]) := by kernel_rfl
theorem lo82 : localE Try.prog 82 = false := by kernel_rfl
theorem sz43 : tsz Try.prog 43 = some 12 := by kernel_rfl
theorem by43 : tbytes Try.prog 43 = some 160 := by kernel_rfl
theorem ze43 : tzero Try.prog 43 = some [.v (.string ⟨#[]⟩), .v (.string ⟨#[]⟩), .v (.int .i64 0), .v (.bool false), .v (.string ⟨#[]⟩), .v (.bool false), .v (.string ⟨#[]⟩), .v (.bool false), .v (.string ⟨#[]⟩), .v (.bool false), .v (.string ⟨#[]⟩), .sl true 0 []] := by kernel_rfl
theorem za43 : tzeroA Try.prog 43 = some (.agg [.v (.string ⟨#[]⟩), .v (.string ⟨#[]⟩), .v (.int .i64 0), .v (.bool false), .v (.string ⟨#[]⟩), .v (.bool false), .v (.string ⟨#[]⟩), .v (.bool false), .v (.string ⟨#[]⟩), .v (.bool false), .v (.string ⟨#[]⟩), .sl true 0 []]) := by kernel_rfl
theorem lo43 : localE Try.prog 43 = false := by kernel_rfl
theorem sz33 : tsz Try.prog 33 = some 1 := by kernel_rfl
theorem by33 : tbytes Try.prog 33 = some 24 := by kernel_rfl
theorem ze33 : tzero Try.prog 33 = some [.sl true 0 []] := by kernel_rfl
theorem za33 : tzeroA Try.prog 33 = some (.c (.sl true 0 [])) := by kernel_rfl
theorem lo33 : localE Try.prog 33 = false := by kernel_rfl
theorem sz35 : tsz Try.prog 35 = some 1 := by kernel_rfl
theorem by35 : tbytes Try.prog 35 = some 8 := by kernel_rfl
theorem ze35 : tzero Try.prog 35 = some [.v (.map none)] := by kernel_rfl
theorem za35 : tzeroA Try.prog 35 = some (.c (.v (.map none))) := by kernel_rfl
theorem lo35 : localE Try.prog 35 = false := by kernel_rfl
theorem sz67 : tsz Try.prog 67 = some 12 := by kernel_rfl
theorem by67 : tbytes Try.prog 67 = some 160 := by kernel_rfl
theorem ze67 : tzero Try.prog 67 = some [.v (.string ⟨#[]⟩), .v (.string ⟨#[]⟩), .v (.int .i64 0), .v (.bool false), .v (.string ⟨#[]⟩), .v (.bool false), .v (.string ⟨#[]⟩), .v (.bool false), .v (.string ⟨#[]⟩), .v (.bool false), .v (.string ⟨#[]⟩), .sl true 0 []] := by kernel_rfl
theorem za67 : tzeroA Try.prog 67 = some (.agg [.v (.string ⟨#[]⟩), .v (.string ⟨#[]⟩), .v (.int .i64 0), .v (.bool false), .v (.string ⟨#[]⟩), .v (.bool false), .v (.string ⟨#[]⟩), .v (.bool false), .v (.string ⟨#[]⟩), .v (.bool false), .v (.string ⟨#[]⟩), .sl true 0 []]) := by kernel_rfl
theorem lo67 : localE Try.prog 67 = false := by kernel_rfl
theorem sz92 : tsz Try.prog 92 = some 13 := by kernel_rfl
theorem by92 : tbytes Try.prog 92 = some 176 := by kernel_rfl
theorem ze92 : tzero Try.prog 92 = some [.v (.string ⟨#[]⟩), .v (.string ⟨#[]⟩), .v (.int .i64 0), .v (.bool false), .v (.string ⟨#[]⟩), .v (.bool false), .v (.string ⟨#[]⟩), .v (.bool false), .v (.string ⟨#[]⟩), .v (.bool false), .v (.string ⟨#[]⟩), .sl true 0 [], .v (.string ⟨#[]⟩)] := by kernel_rfl
theorem za92 : tzeroA Try.prog 92 = some (.agg [.v (.string ⟨#[]⟩), .v (.string ⟨#[]⟩), .v (.int .i64 0), .v (.bool false), .v (.string ⟨#[]⟩), .v (.bool false), .v (.string ⟨#[]⟩), .v (.bool false), .v (.string ⟨#[]⟩), .v (.bool false), .v (.string ⟨#[]⟩), .sl true 0 [], .v (.string ⟨#[]⟩)]) := by kernel_rfl
theorem lo92 : localE Try.prog 92 = false := by kernel_rfl
theorem sz69 : tsz Try.prog 69 = some 12 := by kernel_rfl
theorem by69 : tbytes Try.prog 69 = some 160 := by kernel_rfl
theorem ze69 : tzero Try.prog 69 = some [.v (.string ⟨#[]⟩), .v (.string ⟨#[]⟩), .v (.int .i64 0), .v (.bool false), .v (.string ⟨#[]⟩), .v (.bool false), .v (.string ⟨#[]⟩), .v (.bool false), .v (.string ⟨#[]⟩), .v (.bool false), .v (.string ⟨#[]⟩), .sl true 0 []] := by kernel_rfl
theorem za69 : tzeroA Try.prog 69 = some (.agg [.v (.string ⟨#[]⟩), .v (.string ⟨#[]⟩), .v (.int .i64 0), .v (.bool false), .v (.string ⟨#[]⟩), .v (.bool false), .v (.string ⟨#[]⟩), .v (.bool false), .v (.string ⟨#[]⟩), .v (.bool false), .v (.string ⟨#[]⟩), .sl true 0 []]) := by kernel_rfl
theorem lo69 : localE Try.prog 69 = false := by kernel_rfl
attribute [go_sem] sz3 Try.underlying3 by3 ze3 za3 lo3 sz4 Try.underlying4 by4 ze4 za4 lo4 sz9 Try.underlying9 by9 ze9 za9 lo9 sz5 Try.underlying5 by5 ze5 za5 lo5 sz37 Try.underlying37 by37 ze37 za37 lo37 sz38 Try.underlying38 by38 ze38 za38 lo38 sz98 Try.underlying98 by98 ze98 za98 lo98 sz40 Try.underlying40 by40 ze40 za40 lo40 sz41 Try.underlying41 by41 ze41 za41 lo41 sz22 Try.underlying22 by22 ze22 za22 lo22 sz31 Try.underlying31 by31 ze31 za31 lo31 sz58 Try.underlying58 by58 ze58 za58 lo58 sz23 Try.underlying23 by23 ze23 za23 lo23 sz60 Try.underlying60 by60 ze60 za60 lo60 sz24 Try.underlying24 by24 ze24 za24 lo24 sz53 Try.underlying53 by53 ze53 za53 lo53 sz25 Try.underlying25 by25 ze25 za25 lo25 sz47 Try.underlying47 by47 ze47 za47 lo47 sz26 Try.underlying26 by26 ze26 za26 lo26 sz28 Try.underlying28 by28 ze28 za28 lo28 sz112 Try.underlying112 by112 ze112 za112 lo112 sz77 Try.underlying77 by77 ze77 za77 lo77 sz82 Try.underlying82 by82 ze82 za82 lo82 sz43 Try.underlying43 by43 ze43 za43 lo43 sz33 Try.underlying33 by33 ze33 za33 lo33 sz35 Try.underlying35 by35 ze35 za35 lo35 sz67 Try.underlying67 by67 ze67 za67 lo67 sz92 Try.underlying92 by92 ze92 za92 lo92 sz69 Try.underlying69 by69 ze69 za69 lo69
end Go.Proofs.Ytinbfakpjnnagaa
