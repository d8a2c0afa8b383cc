/-
  EmitLabels: the closed facts that its row and its card ask. No conditions.
-/
import Derived.Test.YtgllbnabmglcfaaGreatDoorYm6
import Derived.Test.YtgllbnabmglcfaaGreatDoorRows
import Derived.WalkKit
import Derived.ProofKit
import Derived.JoinedCond
import Derived.SevenTiedAt
set_option linter.unusedVariables false
set_option linter.unusedSimpArgs false
set_option linter.all false
namespace Go.Proofs.YtgllbnabmglcfaaGreatDoor.emitLabelsP
open Go
set_option maxRecDepth 100000 in
set_option maxHeartbeats 400000000 in
theorem closed : joinedFacts Tryz.pinned.checked.prog 3 Tryz.f3 (OpenSpec.ofChange Rows.emitLabelsSpec).bare Rows.emitLabelsRow = true := by
  unfold joinedFacts
  repeat' (with_reducible refine ajZ ?_ ?_)
  all_goals (as_aux_lemma => kernel_rfl)
theorem named : Tryz.pinned.checked.prog.funcNamed Rows.emitLabelsRow.func = some 3 := by kernel_rfl
theorem wrapper : Tryz.f3.isWrapper Tryz.pinned.checked.prog Rows.emitLabelsRow.wrapper Rows.emitLabelsRow.mainSum := by
  unfold Func.isWrapper; first | (rw [if_pos (by decide +kernel)]; kernel_rfl) | (rw [if_neg (by decide +kernel)]; exact ⟨rfl, rfl⟩)
theorem instance_ : Tryz.f3.isInstance Tryz.pinned.checked.prog Rows.emitLabelsRow.origin Rows.emitLabelsRow.targs := of_decide_eq_true (by kernel_rfl)
theorem noInit : Tryz.checked.prog.inits.idxOf? 3 = none := by kernel_rfl
theorem wfText : Rows.emitLabelsRow.wfByText (OpenSpec.ofChange Rows.emitLabelsSpec) = true := by kernel_rfl
theorem goesBy : false = Rows.emitLabelsRow.goesBy Tryz.pinned.checked.prog := by kernel_rfl
theorem plainp : Tryz.pinned.checked.prog.wantsStandIn 25 = false := by kernel_rfl
theorem plaini : Tryz.pinned.checked.prog.wantsStandIn 3 = false := by kernel_rfl
end Go.Proofs.YtgllbnabmglcfaaGreatDoor.emitLabelsP
