/-
  ShapePacks: the closed facts that its row and its card ask. No conditions.
-/
import Derived.Test.YtckbkcjhalimpabGreatDoorSh3
import Derived.Test.YtckbkcjhalimpabGreatDoorRows
import Derived.WalkKit
import Derived.ProofKit
import Derived.JoinedCond
import Derived.SevenTiedAt
set_option linter.unusedVariables false
set_option linter.unusedSimpArgs false
set_option linter.all false
namespace Go.Proofs.YtckbkcjhalimpabGreatDoor.shapePacksP
open Go
set_option maxRecDepth 100000 in
set_option maxHeartbeats 400000000 in
theorem closed : joinedFacts Tryz.pinned.checked.prog 3 Tryz.f3 (OpenSpec.ofChange Rows.shapePacksSpec).bare Rows.shapePacksRow = true := by
  unfold joinedFacts
  repeat' (with_reducible refine and_mk ?_ ?_)
  all_goals (as_aux_lemma => kernel_rfl)
theorem named : Tryz.pinned.checked.prog.funcNamed Rows.shapePacksRow.func = some 3 := by kernel_rfl
theorem wrapper : Tryz.f3.isWrapper Tryz.pinned.checked.prog Rows.shapePacksRow.wrapper Rows.shapePacksRow.mainSum := by
  unfold Func.isWrapper; first | (rw [if_pos (by decide +kernel)]; kernel_rfl) | (rw [if_neg (by decide +kernel)]; exact ⟨rfl, rfl⟩)
theorem instance_ : Tryz.f3.isInstance Tryz.pinned.checked.prog Rows.shapePacksRow.origin Rows.shapePacksRow.targs := of_decide_eq_true (by kernel_rfl)
theorem noInit : Tryz.checked.prog.inits.idxOf? 3 = none := by kernel_rfl
theorem wfText : Rows.shapePacksRow.wfByText (OpenSpec.ofChange Rows.shapePacksSpec) = true := by kernel_rfl
theorem goesBy : false = Rows.shapePacksRow.goesBy Tryz.pinned.checked.prog := by kernel_rfl
theorem plainf : Tryz.pinned.checked.prog.wantsStandIn 22 = false := by kernel_rfl
theorem plainv : Tryz.pinned.checked.prog.wantsStandIn 23 = false := by kernel_rfl
theorem plains : Tryz.pinned.checked.prog.wantsStandIn 9 = false := by kernel_rfl
end Go.Proofs.YtckbkcjhalimpabGreatDoor.shapePacksP
