/-
  DeadNone: the closed facts that its row and its card ask. No conditions.
-/
import Derived.Test.YtkeoalhglkfbkaaDoorIx1
import Derived.Test.YtkeoalhglkfbkaaDoorRows
import Derived.WalkKit
import Derived.ProofKit
import Derived.JoinedCond
import Derived.SevenTiedAt
set_option linter.unusedVariables false
set_option linter.unusedSimpArgs false
set_option linter.all false
namespace Go.Proofs.YtkeoalhglkfbkaaDoor.deadNoneP
open Go
set_option maxRecDepth 100000 in
set_option maxHeartbeats 400000000 in
theorem closed : joinedFacts Tryd.pinned.checked.prog 13 Tryd.f13 (OpenSpec.ofChange Rows.deadNoneSpec).bare Rows.deadNoneRow = true := by
  unfold joinedFacts
  repeat' (with_reducible refine and_mk ?_ ?_)
  all_goals (as_aux_lemma => kernel_rfl)
theorem named : Tryd.pinned.checked.prog.funcNamed Rows.deadNoneRow.func = some 13 := by kernel_rfl
theorem wrapper : Tryd.f13.isWrapper Tryd.pinned.checked.prog Rows.deadNoneRow.wrapper Rows.deadNoneRow.mainSum := by
  unfold Func.isWrapper; first | (rw [if_pos (by decide +kernel)]; kernel_rfl) | (rw [if_neg (by decide +kernel)]; exact ⟨rfl, rfl⟩)
theorem instance_ : Tryd.f13.isInstance Tryd.pinned.checked.prog Rows.deadNoneRow.origin Rows.deadNoneRow.targs := of_decide_eq_true (by kernel_rfl)
theorem noInit : Tryd.checked.prog.inits.idxOf? 13 = none := by kernel_rfl
theorem wfText : Rows.deadNoneRow.wfByText (OpenSpec.ofChange Rows.deadNoneSpec) = true := by kernel_rfl
theorem goesBy : false = Rows.deadNoneRow.goesBy Tryd.pinned.checked.prog := by kernel_rfl
theorem plainp : Tryd.pinned.checked.prog.wantsStandIn 44 = false := by kernel_rfl
end Go.Proofs.YtkeoalhglkfbkaaDoor.deadNoneP
