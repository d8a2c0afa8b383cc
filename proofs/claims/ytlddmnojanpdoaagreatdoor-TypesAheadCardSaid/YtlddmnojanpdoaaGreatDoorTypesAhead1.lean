/-
  TypesAhead: the closed facts that its row and its card ask. No conditions.
-/
import Derived.Test.YtlddmnojanpdoaaGreatDoorPWgu1
import Derived.Test.YtlddmnojanpdoaaGreatDoorRows
import Derived.WalkKit
import Derived.ProofKit
import Derived.JoinedCond
import Derived.SevenTiedAt
set_option linter.unusedVariables false
set_option linter.unusedSimpArgs false
set_option linter.all false
namespace Go.Proofs.YtlddmnojanpdoaaGreatDoor.typesAheadP
open Go
set_option maxRecDepth 100000 in
set_option maxHeartbeats 400000000 in
theorem closed : joinedFacts Tryz.pinned.checked.prog 10 Tryz.f10 (OpenSpec.ofChange Rows.typesAheadSpec).bare Rows.typesAheadRow = true := by
  unfold joinedFacts
  repeat' (with_reducible refine afL ?_ ?_)
  all_goals (as_aux_lemma => kernel_rfl)
theorem named : Tryz.pinned.checked.prog.funcNamed Rows.typesAheadRow.func = some 10 := by kernel_rfl
theorem wrapper : Tryz.f10.isWrapper Tryz.pinned.checked.prog Rows.typesAheadRow.wrapper Rows.typesAheadRow.mainSum := by
  unfold Func.isWrapper; first | (rw [if_pos (by decide +kernel)]; kernel_rfl) | (rw [if_neg (by decide +kernel)]; exact ⟨rfl, rfl⟩)
theorem instance_ : Tryz.f10.isInstance Tryz.pinned.checked.prog Rows.typesAheadRow.origin Rows.typesAheadRow.targs := of_decide_eq_true (by kernel_rfl)
theorem noInit : Tryz.checked.prog.inits.idxOf? 10 = none := by kernel_rfl
theorem wfText : Rows.typesAheadRow.wfByText (OpenSpec.ofChange Rows.typesAheadSpec) = true := by kernel_rfl
theorem goesBy : false = Rows.typesAheadRow.goesBy Tryz.pinned.checked.prog := by kernel_rfl
theorem plains : Tryz.pinned.checked.prog.wantsStandIn 9 = false := by kernel_rfl
end Go.Proofs.YtlddmnojanpdoaaGreatDoor.typesAheadP
