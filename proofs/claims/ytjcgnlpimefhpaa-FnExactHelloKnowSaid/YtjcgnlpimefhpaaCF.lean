/- Closed facts of the program. -/
import Derived.Test.YtjcgnlpimefhpaaRows
import Derived.Test.YtjcgnlpimefhpaaMQ
namespace Go.Proofs.Ytjcgnlpimefhpaa
set_option maxRecDepth 100000
theorem laid : laidOutB Try.prog = true := by kernel_rfl
theorem cfMaps : mapsRowed Try.prog = true := by kernel_rfl
theorem cfKeys : Try.prog.plainKeys = Rows.fnExactTernLayRow.plainKeys := by kernel_rfl
theorem cfLifts : Try.prog.liftsFinal = Rows.fnExactTernLayRow.lifted := by kernel_rfl
theorem cfHeard : Try.prog.stopsHeard = true := by kernel_rfl
theorem cfEnter : Try.prog.mayEnter = true := by kernel_rfl
theorem cfMake : Try.prog.make = some Rows.fnExactTernLayRow.make := by kernel_rfl
end Go.Proofs.Ytjcgnlpimefhpaa
