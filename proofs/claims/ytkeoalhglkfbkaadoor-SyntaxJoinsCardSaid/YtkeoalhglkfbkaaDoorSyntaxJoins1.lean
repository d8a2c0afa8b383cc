/-
  SyntaxJoins: the closed facts that its row and its card ask. No conditions.
-/
import Derived.Test.YtkeoalhglkfbkaaDoorLx1
import Derived.Test.YtkeoalhglkfbkaaDoorRows
import Derived.WalkKit
import Derived.ProofKit
import Derived.JoinedCond
import Derived.SevenTiedAt
set_option linter.unusedVariables false
set_option linter.unusedSimpArgs false
namespace Go.Proofs.YtkeoalhglkfbkaaDoor.syntaxJoinsP
open Go
set_option maxRecDepth 100000 in
set_option maxHeartbeats 400000000 in
theorem closed : joinedFacts Tryd.pinned.checked.prog 9 Tryd.f9 (OpenSpec.ofChange Rows.syntaxJoinsSpec).bare Rows.syntaxJoinsRow = true := by
  unfold joinedFacts
  repeat' (with_reducible refine and_mk ?_ ?_)
  all_goals (as_aux_lemma => kernel_rfl)
theorem named : Tryd.pinned.checked.prog.funcNamed Rows.syntaxJoinsRow.func = some 9 := by kernel_rfl
theorem wrapper : Tryd.f9.isWrapper Tryd.pinned.checked.prog Rows.syntaxJoinsRow.wrapper Rows.syntaxJoinsRow.mainSum := by
  unfold Func.isWrapper; first | (rw [if_pos (by decide +kernel)]; kernel_rfl) | (rw [if_neg (by decide +kernel)]; exact ⟨rfl, rfl⟩)
theorem instance_ : Tryd.f9.isInstance Tryd.pinned.checked.prog Rows.syntaxJoinsRow.origin Rows.syntaxJoinsRow.targs := of_decide_eq_true (by kernel_rfl)
theorem noInit : Tryd.checked.prog.inits.idxOf? 9 = none := by kernel_rfl
theorem wfText : Rows.syntaxJoinsRow.wfByText (OpenSpec.ofChange Rows.syntaxJoinsSpec) = true := by kernel_rfl
theorem goesBy : false = Rows.syntaxJoinsRow.goesBy Tryd.pinned.checked.prog := by kernel_rfl
end Go.Proofs.YtkeoalhglkfbkaaDoor.syntaxJoinsP
