/- Closed facts of the program. -/
import Derived.Test.YtjefeigdapcleaaRows
import Derived.Test.YtjefeigdapcleaaMQ
namespace Go.Proofs.Ytjefeigdapcleaa
set_option maxRecDepth 100000
theorem laid : laidOutB Try.prog = true := by kernel_rfl
theorem cfMaps : mapsRowed Try.prog = true := by kernel_rfl
theorem cfKeys : Try.prog.plainKeys = Rows.fnExactLabOpenRow.plainKeys := by kernel_rfl
theorem cfLifts : Try.prog.liftsFinal = Rows.fnExactLabOpenRow.lifted := by kernel_rfl
theorem cfHeard : Try.prog.stopsHeard = true := by kernel_rfl
theorem cfEnter : Try.prog.mayEnter = true := by kernel_rfl
theorem cfMake : Try.prog.make = some Rows.fnExactLabOpenRow.make := by kernel_rfl
end Go.Proofs.Ytjefeigdapcleaa
