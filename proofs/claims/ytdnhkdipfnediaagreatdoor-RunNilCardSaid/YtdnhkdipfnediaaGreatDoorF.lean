/- The row's closed facts. No condition: lemmas. -/
import Derived.Test.YtdnhkdipfnediaaGreatDoorRows
import Derived.JoinedOf
import Derived.KernelRfl
namespace Go.Proofs.YtdnhkdipfnediaaGreatDoor
open Go

set_option maxHeartbeats 0 in
set_option maxRecDepth 100000 in
theorem joined : joinedFacts Tryz.prog 3 Tryz.f3 Rows.runNilSpec Rows.runNilRow = true := by
  simp only [joinedFacts, Bool.and_eq_true]
  repeat' apply And.intro
  all_goals (as_aux_lemma => kernel_rfl)
theorem named : Tryz.prog.funcNamed Rows.runNilRow.func = some 3 := by kernel_rfl
end Go.Proofs.YtdnhkdipfnediaaGreatDoor
