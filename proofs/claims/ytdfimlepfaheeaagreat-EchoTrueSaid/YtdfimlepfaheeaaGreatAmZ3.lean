/- AmZ3: closed facts of EchoTrue's row. -/
import Derived.Test.YtdfimlepfaheeaaGreatAmZ1
set_option linter.unusedVariables false
namespace Go.AM
open Go.Proofs Go.Proofs.YtdfimlepfaheeaaGreat
theorem echo_named : Tryz.prog.funcNamed Rows.echoTrueRow.func = some 3 := by kernel_rfl
theorem echo_inPlace : (Rows.echoTrueRow.inPlace == Tryz.prog.inPlace 3) = true := by kernel_rfl
theorem echo_unfollowed : (Rows.echoTrueRow.unfollowed == Tryz.prog.unfollowed 3) = true := by kernel_rfl
theorem echo_recurses : (Rows.echoTrueRow.recurses == Tryz.prog.recurses 3) = true := by kernel_rfl
theorem echo_vars : (Rows.echoTrueRow.named == Tryz.prog.varsNamed 3) = true := by kernel_rfl
theorem echo_plain : (Rows.echoTrueRow.plainKeys == Tryz.prog.plainKeys) = true := by kernel_rfl
theorem echo_lifted : (Rows.echoTrueRow.lifted == Tryz.prog.liftsFinal) = true := by kernel_rfl
theorem echo_make : (Tryz.prog.make == some Rows.echoTrueRow.make) = true := by kernel_rfl
end Go.AM
