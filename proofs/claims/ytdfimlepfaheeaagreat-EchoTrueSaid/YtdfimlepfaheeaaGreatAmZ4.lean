/- AmZ4: closed facts of EchoTrue's row, together. -/
import Derived.Test.YtdfimlepfaheeaaGreatAmZ3
set_option linter.unusedVariables false
namespace Go.AM
open Go.Proofs Go.Proofs.YtdfimlepfaheeaaGreat
theorem echo_closed : joinedFacts Tryz.prog 3 Tryz.f3 Rows.echoTrueSpec Rows.echoTrueRow = true := by
  unfold joinedFacts
  rw [fact_laid, fact_rowed, fact_stops, fact_knobs, echo_inPlace, echo_unfollowed, echo_recurses, echo_vars, echo_plain, fact_heard, fact_enter, echo_lifted, echo_make]
  kernel_rfl
theorem echo_inst : Tryz.f3.isInstance Tryz.prog Rows.echoTrueRow.origin Rows.echoTrueRow.targs := of_decide_eq_true (by kernel_rfl)
theorem echo_wrap : Tryz.f3.isWrapper Tryz.prog Rows.echoTrueRow.wrapper Rows.echoTrueRow.mainSum := by
  unfold Func.isWrapper; first | (rw [if_pos (by decide +kernel)]; kernel_rfl) | (rw [if_neg (by decide +kernel)]; exact ⟨rfl, rfl⟩)
end Go.AM
