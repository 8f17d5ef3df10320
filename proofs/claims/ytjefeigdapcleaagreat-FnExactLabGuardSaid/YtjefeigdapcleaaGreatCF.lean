/- Closed facts of the program. -/
import Derived.Test.YtjefeigdapcleaaGreatRows
import Derived.Test.YtjefeigdapcleaaGreatMQ
namespace Go.Proofs.YtjefeigdapcleaaGreat
set_option maxRecDepth 100000
theorem laid : laidOutB Tryz.prog = true := by kernel_rfl
theorem cfMaps : mapsRowed Tryz.prog = true := by kernel_rfl
theorem cfKeys : Tryz.prog.plainKeys = Rows.fnExactLabGuardRow.plainKeys := by kernel_rfl
theorem cfLifts : Tryz.prog.liftsFinal = Rows.fnExactLabGuardRow.lifted := by kernel_rfl
theorem cfHeard : Tryz.prog.stopsHeard = true := by kernel_rfl
theorem cfEnter : Tryz.prog.mayEnter = true := by kernel_rfl
theorem cfMake : Tryz.prog.make = some Rows.fnExactLabGuardRow.make := by kernel_rfl
end Go.Proofs.YtjefeigdapcleaaGreat
