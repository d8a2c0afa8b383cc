/-
  SlotsApplied: the closed facts that its row and its card ask. No conditions.
-/
import Derived.Test.YtkeoalhglkfbkaaDoorIx1
import Derived.Test.YtkeoalhglkfbkaaDoorRows
import Derived.WalkKit
import Derived.ProofKit
import Derived.JoinedCond
import Derived.SevenTiedAt
set_option linter.unusedVariables false
set_option linter.unusedSimpArgs false
set_option linter.all false
namespace Go.Proofs.YtkeoalhglkfbkaaDoor.slotsAppliedP
open Go
set_option maxRecDepth 100000 in
set_option maxHeartbeats 400000000 in
theorem closed : joinedFacts Tryd.pinned.checked.prog 16 Tryd.f16 (OpenSpec.ofChange Rows.slotsAppliedSpec).bare Rows.slotsAppliedRow = true := by
  unfold joinedFacts
  repeat' (with_reducible refine and_mk ?_ ?_)
  all_goals (as_aux_lemma => kernel_rfl)
theorem named : Tryd.pinned.checked.prog.funcNamed Rows.slotsAppliedRow.func = some 16 := by kernel_rfl
theorem wrapper : Tryd.f16.isWrapper Tryd.pinned.checked.prog Rows.slotsAppliedRow.wrapper Rows.slotsAppliedRow.mainSum := by
  unfold Func.isWrapper; first | (rw [if_pos (by decide +kernel)]; kernel_rfl) | (rw [if_neg (by decide +kernel)]; exact ⟨rfl, rfl⟩)
theorem instance_ : Tryd.f16.isInstance Tryd.pinned.checked.prog Rows.slotsAppliedRow.origin Rows.slotsAppliedRow.targs := of_decide_eq_true (by kernel_rfl)
theorem noInit : Tryd.checked.prog.inits.idxOf? 16 = none := by kernel_rfl
theorem wfText : Rows.slotsAppliedRow.wfByText (OpenSpec.ofChange Rows.slotsAppliedSpec) = true := by kernel_rfl
theorem goesBy : false = Rows.slotsAppliedRow.goesBy Tryd.pinned.checked.prog := by kernel_rfl
theorem plainl : Tryd.pinned.checked.prog.wantsStandIn 39 = false := by kernel_rfl
theorem plainp : Tryd.pinned.checked.prog.wantsStandIn 44 = false := by kernel_rfl
end Go.Proofs.YtkeoalhglkfbkaaDoor.slotsAppliedP
