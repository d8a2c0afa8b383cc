/-
  ProseLines: the closed facts that its row and its card ask. No conditions.
-/
import Derived.Test.YtlddmnojanpdoaaGreatDoorPWgu1
import Derived.Test.YtlddmnojanpdoaaGreatDoorRows
import Derived.WalkKit
import Derived.ProofKit
import Derived.JoinedCond
import Derived.SevenTiedAt
set_option linter.unusedVariables false
set_option linter.unusedSimpArgs false
set_option linter.all false
namespace Go.Proofs.YtlddmnojanpdoaaGreatDoor.proseLinesP
open Go
set_option maxRecDepth 100000 in
set_option maxHeartbeats 400000000 in
theorem closed : joinedFacts Tryz.pinned.checked.prog 8 Tryz.f8 (OpenSpec.ofChange Rows.proseLinesSpec).bare Rows.proseLinesRow = true := by
  unfold joinedFacts
  repeat' (with_reducible refine Zx ?_ ?_)
  all_goals (as_aux_lemma => kernel_rfl)
theorem named : Tryz.pinned.checked.prog.funcNamed Rows.proseLinesRow.func = some 8 := by kernel_rfl
theorem wrapper : Tryz.f8.isWrapper Tryz.pinned.checked.prog Rows.proseLinesRow.wrapper Rows.proseLinesRow.mainSum := by
  unfold Func.isWrapper; first | (rw [if_pos (by decide +kernel)]; kernel_rfl) | (rw [if_neg (by decide +kernel)]; exact ⟨rfl, rfl⟩)
theorem instance_ : Tryz.f8.isInstance Tryz.pinned.checked.prog Rows.proseLinesRow.origin Rows.proseLinesRow.targs := of_decide_eq_true (by kernel_rfl)
theorem noInit : Tryz.checked.prog.inits.idxOf? 8 = none := by kernel_rfl
theorem wfText : Rows.proseLinesRow.wfByText (OpenSpec.ofChange Rows.proseLinesSpec) = true := by kernel_rfl
theorem goesBy : false = Rows.proseLinesRow.goesBy Tryz.pinned.checked.prog := by kernel_rfl
theorem plains : Tryz.pinned.checked.prog.wantsStandIn 9 = false := by kernel_rfl
end Go.Proofs.YtlddmnojanpdoaaGreatDoor.proseLinesP
