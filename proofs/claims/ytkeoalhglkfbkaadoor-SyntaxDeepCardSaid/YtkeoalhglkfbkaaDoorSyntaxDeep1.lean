/-
  SyntaxDeep: the closed facts that its row and its card ask. No conditions.
-/
import Derived.Test.YtkeoalhglkfbkaaDoorLx1
import Derived.Test.YtkeoalhglkfbkaaDoorRows
import Derived.WalkKit
import Derived.ProofKit
import Derived.JoinedCond
import Derived.SevenTiedAt
set_option linter.unusedVariables false
set_option linter.unusedSimpArgs false
namespace Go.Proofs.YtkeoalhglkfbkaaDoor.syntaxDeepP
open Go
set_option maxRecDepth 100000 in
set_option maxHeartbeats 400000000 in
theorem closed : joinedFacts Tryd.pinned.checked.prog 11 Tryd.f11 (OpenSpec.ofChange Rows.syntaxDeepSpec).bare Rows.syntaxDeepRow = true := by
  unfold joinedFacts
  repeat' (with_reducible refine and_mk ?_ ?_)
  all_goals (as_aux_lemma => kernel_rfl)
theorem named : Tryd.pinned.checked.prog.funcNamed Rows.syntaxDeepRow.func = some 11 := by kernel_rfl
theorem wrapper : Tryd.f11.isWrapper Tryd.pinned.checked.prog Rows.syntaxDeepRow.wrapper Rows.syntaxDeepRow.mainSum := by
  unfold Func.isWrapper; first | (rw [if_pos (by decide +kernel)]; kernel_rfl) | (rw [if_neg (by decide +kernel)]; exact ⟨rfl, rfl⟩)
theorem instance_ : Tryd.f11.isInstance Tryd.pinned.checked.prog Rows.syntaxDeepRow.origin Rows.syntaxDeepRow.targs := of_decide_eq_true (by kernel_rfl)
theorem noInit : Tryd.checked.prog.inits.idxOf? 11 = none := by kernel_rfl
theorem wfText : Rows.syntaxDeepRow.wfByText (OpenSpec.ofChange Rows.syntaxDeepSpec) = true := by kernel_rfl
theorem goesBy : false = Rows.syntaxDeepRow.goesBy Tryd.pinned.checked.prog := by kernel_rfl
theorem plainT : Tryd.pinned.checked.prog.wantsStandIn 3 = false := by kernel_rfl
end Go.Proofs.YtkeoalhglkfbkaaDoor.syntaxDeepP
