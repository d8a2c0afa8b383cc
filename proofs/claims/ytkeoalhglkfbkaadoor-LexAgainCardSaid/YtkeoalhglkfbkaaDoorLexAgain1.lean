/-
  LexAgain: the closed facts that its row and its card ask. No conditions.
-/
import Derived.Test.YtkeoalhglkfbkaaDoorY
import Derived.Test.YtkeoalhglkfbkaaDoorRows
import Derived.WalkKit
import Derived.ProofKit
import Derived.JoinedCond
import Derived.SevenTiedAt
set_option linter.unusedVariables false
set_option linter.unusedSimpArgs false
namespace Go.Proofs.YtkeoalhglkfbkaaDoor.lexAgainP
open Go
set_option maxRecDepth 100000 in
set_option maxHeartbeats 400000000 in
theorem closed : joinedFacts Tryd.pinned.checked.prog 5 Tryd.f5 (OpenSpec.ofChange Rows.lexAgainSpec).bare Rows.lexAgainRow = true := by
  unfold joinedFacts
  repeat' (with_reducible refine and_mk ?_ ?_)
  all_goals (as_aux_lemma => kernel_rfl)
theorem named : Tryd.pinned.checked.prog.funcNamed Rows.lexAgainRow.func = some 5 := by kernel_rfl
theorem wrapper : Tryd.f5.isWrapper Tryd.pinned.checked.prog Rows.lexAgainRow.wrapper Rows.lexAgainRow.mainSum := by
  unfold Func.isWrapper; first | (rw [if_pos (by decide +kernel)]; kernel_rfl) | (rw [if_neg (by decide +kernel)]; exact ⟨rfl, rfl⟩)
theorem instance_ : Tryd.f5.isInstance Tryd.pinned.checked.prog Rows.lexAgainRow.origin Rows.lexAgainRow.targs := of_decide_eq_true (by kernel_rfl)
theorem noInit : Tryd.checked.prog.inits.idxOf? 5 = none := by kernel_rfl
theorem wfText : Rows.lexAgainRow.wfByText (OpenSpec.ofChange Rows.lexAgainSpec) = true := by kernel_rfl
theorem goesBy : false = Rows.lexAgainRow.goesBy Tryd.pinned.checked.prog := by kernel_rfl
end Go.Proofs.YtkeoalhglkfbkaaDoor.lexAgainP
