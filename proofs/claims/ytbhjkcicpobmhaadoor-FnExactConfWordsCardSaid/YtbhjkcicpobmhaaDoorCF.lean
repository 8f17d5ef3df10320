/- Closed facts of the program. -/
import Derived.Test.YtbhjkcicpobmhaaDoorRows
import Derived.Test.YtbhjkcicpobmhaaDoorMQ
namespace Go.Proofs.YtbhjkcicpobmhaaDoor
set_option maxRecDepth 100000
theorem laid : laidOutB Tryd.prog = true := by kernel_rfl
theorem cfMaps : mapsRowed Tryd.prog = true := by kernel_rfl
theorem cfKeys : Tryd.prog.plainKeys = Rows.fnExactConfWordsRow.plainKeys := by kernel_rfl
theorem cfLifts : Tryd.prog.liftsFinal = Rows.fnExactConfWordsRow.lifted := by kernel_rfl
theorem cfHeard : Tryd.prog.stopsHeard = true := by kernel_rfl
theorem cfEnter : Tryd.prog.mayEnter = true := by kernel_rfl
theorem cfMake : Tryd.prog.make = some Rows.fnExactConfWordsRow.make := by kernel_rfl
end Go.Proofs.YtbhjkcicpobmhaaDoor
