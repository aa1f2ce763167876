/-
  Facts on the types of this program: sizes, zero values; the orders of its regions are what the model follows.
-/
import Derived.Test.YtlhlcfijpdknfaaChecked
import Derived.Test.YtlhlcfijpdknfaaAn
import Derived.KernelRfl
namespace Go.Proofs.Ytlhlcfijpdknfaa
open Go.Vs Go.Vs.Ab
set_option maxRecDepth 100000
theorem follows : Try.prog.follows .mixedOrders = true := by kernel_rfl
theorem sz3 : tsz Try.prog 3 = some 1 := by kernel_rfl
theorem by3 : tbytes Try.prog 3 = some 8 := by kernel_rfl
theorem ze3 : tzero Try.prog 3 = some [.v (.int .i64 0)] := by kernel_rfl
theorem za3 : tzeroA Try.prog 3 = some (.c (.v (.int .i64 0))) := by kernel_rfl
theorem lo3 : localE Try.prog 3 = false := by kernel_rfl
theorem sz4 : tsz Try.prog 4 = some 1 := by kernel_rfl
theorem by4 : tbytes Try.prog 4 = some 1 := by kernel_rfl
theorem ze4 : tzero Try.prog 4 = some [.v (.bool false)] := by kernel_rfl
theorem za4 : tzeroA Try.prog 4 = some (.c (.v (.bool false))) := by kernel_rfl
theorem lo4 : localE Try.prog 4 = false := by kernel_rfl
theorem sz9 : tsz Try.prog 9 = some 1 := by kernel_rfl
theorem by9 : tbytes Try.prog 9 = some 16 := by kernel_rfl
theorem ze9 : tzero Try.prog 9 = some [.v (.string ⟨#[]⟩)] := by kernel_rfl
theorem za9 : tzeroA Try.prog 9 = some (.c (.v (.string ⟨#[]⟩))) := by kernel_rfl
theorem lo9 : localE Try.prog 9 = false := by kernel_rfl
theorem sz5 : tsz Try.prog 5 = some 1 := by kernel_rfl
theorem by5 : tbytes Try.prog 5 = some 1 := by kernel_rfl
theorem ze5 : tzero Try.prog 5 = some [.v (.int .u8 0)] := by kernel_rfl
theorem za5 : tzeroA Try.prog 5 = some (.c (.v (.int .u8 0))) := by kernel_rfl
theorem lo5 : localE Try.prog 5 = false := by kernel_rfl
theorem sz26 : tsz Try.prog 26 = some 1 := by kernel_rfl
theorem by26 : tbytes Try.prog 26 = some 8 := by kernel_rfl
theorem ze26 : tzero Try.prog 26 = some [.v (.int .i64 0)] := by kernel_rfl
theorem za26 : tzeroA Try.prog 26 = some (.c (.v (.int .i64 0))) := by kernel_rfl
theorem lo26 : localE Try.prog 26 = false := by kernel_rfl
theorem sz58 : tsz Try.prog 58 = some 1 := by kernel_rfl
theorem by58 : tbytes Try.prog 58 = some 24 := by kernel_rfl
theorem ze58 : tzero Try.prog 58 = some [.sl true 0 []] := by kernel_rfl
theorem za58 : tzeroA Try.prog 58 = some (.c (.sl true 0 [])) := by kernel_rfl
theorem lo58 : localE Try.prog 58 = true := by kernel_rfl
theorem sz60 : tsz Try.prog 60 = some 1 := by kernel_rfl
theorem by60 : tbytes Try.prog 60 = some 24 := by kernel_rfl
theorem ze60 : tzero Try.prog 60 = some [.sl true 0 []] := by kernel_rfl
theorem za60 : tzeroA Try.prog 60 = some (.agg [.sl true 0 []]) := by kernel_rfl
theorem lo60 : localE Try.prog 60 = false := by kernel_rfl
theorem sz67 : tsz Try.prog 67 = some 1 := by kernel_rfl
theorem by67 : tbytes Try.prog 67 = some 8 := by kernel_rfl
theorem ze67 : tzero Try.prog 67 = some [.v (.pointer none)] := by kernel_rfl
theorem za67 : tzeroA Try.prog 67 = some (.c (.v (.pointer none))) := by kernel_rfl
theorem lo67 : localE Try.prog 67 = false := by kernel_rfl
theorem sz63 : tsz Try.prog 63 = some 3 := by kernel_rfl
theorem by63 : tbytes Try.prog 63 = some 56 := by kernel_rfl
theorem ze63 : tzero Try.prog 63 = some [.sl true 0 [], .sl true 0 [], .v (.map none)] := by kernel_rfl
theorem za63 : tzeroA Try.prog 63 = some (.agg [.sl true 0 [], .sl true 0 [], .v (.map none)]) := by kernel_rfl
theorem lo63 : localE Try.prog 63 = false := by kernel_rfl
theorem sz24 : tsz Try.prog 24 = some 1 := by kernel_rfl
theorem by24 : tbytes Try.prog 24 = some 8 := by kernel_rfl
theorem ze24 : tzero Try.prog 24 = some [.v (.pointer none)] := by kernel_rfl
theorem za24 : tzeroA Try.prog 24 = some (.c (.v (.pointer none))) := by kernel_rfl
theorem lo24 : localE Try.prog 24 = false := by kernel_rfl
theorem sz65 : tsz Try.prog 65 = some 2 := by kernel_rfl
theorem by65 : tbytes Try.prog 65 = some 24 := by kernel_rfl
theorem ze65 : tzero Try.prog 65 = some [.v (.string ⟨#[]⟩), .v (.int .i64 0)] := by kernel_rfl
theorem za65 : tzeroA Try.prog 65 = some (.agg [.v (.string ⟨#[]⟩), .v (.int .i64 0)]) := by kernel_rfl
theorem lo65 : localE Try.prog 65 = false := by kernel_rfl
theorem sz61 : tsz Try.prog 61 = some 1 := by kernel_rfl
theorem by61 : tbytes Try.prog 61 = some 24 := by kernel_rfl
theorem ze61 : tzero Try.prog 61 = some [.sl true 0 []] := by kernel_rfl
theorem za61 : tzeroA Try.prog 61 = some (.c (.sl true 0 [])) := by kernel_rfl
theorem lo61 : localE Try.prog 61 = true := by kernel_rfl
theorem sz56 : tsz Try.prog 56 = some 1 := by kernel_rfl
theorem by56 : tbytes Try.prog 56 = some 8 := by kernel_rfl
theorem ze56 : tzero Try.prog 56 = some [.v (.map none)] := by kernel_rfl
theorem za56 : tzeroA Try.prog 56 = some (.c (.v (.map none))) := by kernel_rfl
theorem lo56 : localE Try.prog 56 = false := by kernel_rfl
theorem sz55 : tsz Try.prog 55 = some 1 := by kernel_rfl
theorem by55 : tbytes Try.prog 55 = some 24 := by kernel_rfl
theorem ze55 : tzero Try.prog 55 = some [.sl true 0 []] := by kernel_rfl
theorem za55 : tzeroA Try.prog 55 = some (.c (.sl true 0 [])) := by kernel_rfl
theorem lo55 : localE Try.prog 55 = true := by kernel_rfl
theorem sz54 : tsz Try.prog 54 = some 1 := by kernel_rfl
theorem by54 : tbytes Try.prog 54 = some 24 := by kernel_rfl
theorem ze54 : tzero Try.prog 54 = some [.sl true 0 []] := by kernel_rfl
theorem za54 : tzeroA Try.prog 54 = some (.c (.sl true 0 [])) := by kernel_rfl
theorem lo54 : localE Try.prog 54 = true := by kernel_rfl
theorem sz76 : tsz Try.prog 76 = some 2 := by kernel_rfl
theorem by76 : tbytes Try.prog 76 = some 48 := by kernel_rfl
theorem ze76 : tzero Try.prog 76 = some [.sl true 0 [], .sl true 0 []] := by kernel_rfl
theorem za76 : tzeroA Try.prog 76 = some (.agg [.sl true 0 [], .sl true 0 []]) := by kernel_rfl
theorem lo76 : localE Try.prog 76 = false := by kernel_rfl
theorem sz43 : tsz Try.prog 43 = some 1 := by kernel_rfl
theorem by43 : tbytes Try.prog 43 = some 8 := by kernel_rfl
theorem ze43 : tzero Try.prog 43 = some [.v (.pointer none)] := by kernel_rfl
theorem za43 : tzeroA Try.prog 43 = some (.c (.v (.pointer none))) := by kernel_rfl
theorem lo43 : localE Try.prog 43 = false := by kernel_rfl
theorem sz52 : tsz Try.prog 52 = some 2 := by kernel_rfl
theorem by52 : tbytes Try.prog 52 = some 24 := by kernel_rfl
theorem ze52 : tzero Try.prog 52 = some [.v (.int .i64 0), .v (.string ⟨#[]⟩)] := by kernel_rfl
theorem za52 : tzeroA Try.prog 52 = some (.agg [.v (.int .i64 0), .v (.string ⟨#[]⟩)]) := by kernel_rfl
theorem lo52 : localE Try.prog 52 = false := by kernel_rfl
theorem sz47 : tsz Try.prog 47 = some 1 := by kernel_rfl
theorem by47 : tbytes Try.prog 47 = some 24 := by kernel_rfl
theorem ze47 : tzero Try.prog 47 = some [.sl true 0 []] := by kernel_rfl
theorem za47 : tzeroA Try.prog 47 = some (.c (.sl true 0 [])) := by kernel_rfl
theorem lo47 : localE Try.prog 47 = false := by kernel_rfl
theorem sz46 : tsz Try.prog 46 = some 3 := by kernel_rfl
theorem by46 : tbytes Try.prog 46 = some 32 := by kernel_rfl
theorem ze46 : tzero Try.prog 46 = some [.v (.int .i64 0), .v (.string ⟨#[]⟩), .v (.int .i64 0)] := by kernel_rfl
theorem za46 : tzeroA Try.prog 46 = some (.agg [.v (.int .i64 0), .v (.string ⟨#[]⟩), .v (.int .i64 0)]) := by kernel_rfl
theorem lo46 : localE Try.prog 46 = false := by kernel_rfl
theorem sz41 : tsz Try.prog 41 = some 1 := by kernel_rfl
theorem by41 : tbytes Try.prog 41 = some 24 := by kernel_rfl
theorem ze41 : tzero Try.prog 41 = some [.sl true 0 []] := by kernel_rfl
theorem za41 : tzeroA Try.prog 41 = some (.c (.sl true 0 [])) := by kernel_rfl
theorem lo41 : localE Try.prog 41 = false := by kernel_rfl
theorem sz20 : tsz Try.prog 20 = some 1 := by kernel_rfl
theorem by20 : tbytes Try.prog 20 = some 16 := by kernel_rfl
theorem ze20 : tzero Try.prog 20 = some [.v .nilIface] := by kernel_rfl
theorem za20 : tzeroA Try.prog 20 = some (.c (.v .nilIface)) := by kernel_rfl
theorem lo20 : localE Try.prog 20 = false := by kernel_rfl
attribute [go_sem] sz3 Try.underlying3 by3 ze3 za3 lo3 sz4 Try.underlying4 by4 ze4 za4 lo4 sz9 Try.underlying9 by9 ze9 za9 lo9 sz5 Try.underlying5 by5 ze5 za5 lo5 sz26 Try.underlying26 by26 ze26 za26 lo26 sz58 Try.underlying58 by58 ze58 za58 lo58 sz60 Try.underlying60 by60 ze60 za60 lo60 sz67 Try.underlying67 by67 ze67 za67 lo67 sz63 Try.underlying63 by63 ze63 za63 lo63 sz24 Try.underlying24 by24 ze24 za24 lo24 sz65 Try.underlying65 by65 ze65 za65 lo65 sz61 Try.underlying61 by61 ze61 za61 lo61 sz56 Try.underlying56 by56 ze56 za56 lo56 sz55 Try.underlying55 by55 ze55 za55 lo55 sz54 Try.underlying54 by54 ze54 za54 lo54 sz76 Try.underlying76 by76 ze76 za76 lo76 sz43 Try.underlying43 by43 ze43 za43 lo43 sz52 Try.underlying52 by52 ze52 za52 lo52 sz47 Try.underlying47 by47 ze47 za47 lo47 sz46 Try.underlying46 by46 ze46 za46 lo46 sz41 Try.underlying41 by41 ze41 za41 lo41 sz20 Try.underlying20 by20 ze20 za20 lo20
end Go.Proofs.Ytlhlcfijpdknfaa
