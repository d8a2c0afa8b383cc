/-
  SlotsTells: the closed facts that its row and its card ask. No conditions.
-/
import Derived.Test.YtkeoalhglkfbkaaDoorIxu1
import Derived.Test.YtkeoalhglkfbkaaDoorRows
import Derived.WalkKit
import Derived.ProofKit
import Derived.JoinedCond
import Derived.SevenTiedAt
set_option linter.unusedVariables false
set_option linter.unusedSimpArgs false
set_option linter.all false
namespace Go.Proofs.YtkeoalhglkfbkaaDoor.slotsTellsP
open Go
set_option maxRecDepth 100000 in
set_option maxHeartbeats 400000000 in
theorem closed : joinedFacts Tryd.pinned.checked.prog 14 Tryd.f14 (OpenSpec.ofChange Rows.slotsTellsSpec).bare Rows.slotsTellsRow = true := by
  unfold joinedFacts
  repeat' (with_reducible refine QD ?_ ?_)
  all_goals (as_aux_lemma => kernel_rfl)
theorem named : Tryd.pinned.checked.prog.funcNamed Rows.slotsTellsRow.func = some 14 := by kernel_rfl
theorem wrapper : Tryd.f14.isWrapper Tryd.pinned.checked.prog Rows.slotsTellsRow.wrapper Rows.slotsTellsRow.mainSum := by
  unfold Func.isWrapper; first | (rw [if_pos (by decide +kernel)]; kernel_rfl) | (rw [if_neg (by decide +kernel)]; exact ⟨rfl, rfl⟩)
theorem instance_ : Tryd.f14.isInstance Tryd.pinned.checked.prog Rows.slotsTellsRow.origin Rows.slotsTellsRow.targs := of_decide_eq_true (by kernel_rfl)
theorem noInit : Tryd.checked.prog.inits.idxOf? 14 = none := by kernel_rfl
theorem wfText : Rows.slotsTellsRow.wfByText (OpenSpec.ofChange Rows.slotsTellsSpec) = true := by kernel_rfl
theorem goesBy : false = Rows.slotsTellsRow.goesBy Tryd.pinned.checked.prog := by kernel_rfl
theorem plainp : Tryd.pinned.checked.prog.wantsStandIn 44 = false := by kernel_rfl
end Go.Proofs.YtkeoalhglkfbkaaDoor.slotsTellsP
