/-
  SyntaxParses: the closed facts that its row and its card ask. No conditions.
-/
import Derived.Test.YtkeoalhglkfbkaaDoorLx1
import Derived.Test.YtkeoalhglkfbkaaDoorRows
import Derived.WalkKit
import Derived.ProofKit
import Derived.JoinedCond
import Derived.SevenTiedAt
set_option linter.unusedVariables false
set_option linter.unusedSimpArgs false
namespace Go.Proofs.YtkeoalhglkfbkaaDoor.syntaxParsesP
open Go
set_option maxRecDepth 100000 in
set_option maxHeartbeats 400000000 in
theorem closed : joinedFacts Tryd.pinned.checked.prog 8 Tryd.f8 (OpenSpec.ofChange Rows.syntaxParsesSpec).bare Rows.syntaxParsesRow = true := by
  unfold joinedFacts
  repeat' (with_reducible refine and_mk ?_ ?_)
  all_goals (as_aux_lemma => kernel_rfl)
theorem named : Tryd.pinned.checked.prog.funcNamed Rows.syntaxParsesRow.func = some 8 := by kernel_rfl
theorem wrapper : Tryd.f8.isWrapper Tryd.pinned.checked.prog Rows.syntaxParsesRow.wrapper Rows.syntaxParsesRow.mainSum := by
  unfold Func.isWrapper; first | (rw [if_pos (by decide +kernel)]; kernel_rfl) | (rw [if_neg (by decide +kernel)]; exact ⟨rfl, rfl⟩)
theorem instance_ : Tryd.f8.isInstance Tryd.pinned.checked.prog Rows.syntaxParsesRow.origin Rows.syntaxParsesRow.targs := of_decide_eq_true (by kernel_rfl)
theorem noInit : Tryd.checked.prog.inits.idxOf? 8 = none := by kernel_rfl
theorem wfText : Rows.syntaxParsesRow.wfByText (OpenSpec.ofChange Rows.syntaxParsesSpec) = true := by kernel_rfl
theorem goesBy : false = Rows.syntaxParsesRow.goesBy Tryd.pinned.checked.prog := by kernel_rfl
end Go.Proofs.YtkeoalhglkfbkaaDoor.syntaxParsesP
