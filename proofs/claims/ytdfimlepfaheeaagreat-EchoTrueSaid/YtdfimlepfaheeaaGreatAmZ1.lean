/- AmZ1: closed facts of the program and of the row, apart from one another. -/
import Derived.Test.YtdfimlepfaheeaaGreatRows
import Derived.ProofKit
set_option linter.unusedVariables false
namespace Go.AM
open Go.Proofs Go.Proofs.YtdfimlepfaheeaaGreat
theorem fact_laid : laidOutB Tryz.prog = true := by kernel_rfl
theorem fact_rowed : mapsRowed Tryz.prog = true := by kernel_rfl
theorem fact_stops : (Tryz.prog.stops == []) = true := by kernel_rfl
theorem fact_knobs : (Tryz.prog.stopKnobs == []) = true := by kernel_rfl
theorem fact_heard : Tryz.prog.stopsHeard = true := by kernel_rfl
theorem fact_enter : Tryz.prog.mayEnter = true := by kernel_rfl
end Go.AM
