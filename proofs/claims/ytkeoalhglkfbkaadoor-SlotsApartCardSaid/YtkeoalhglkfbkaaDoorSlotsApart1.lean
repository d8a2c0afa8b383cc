/-
  SlotsApart: the closed facts that its row and its card ask. No conditions.
-/
import Derived.Test.YtkeoalhglkfbkaaDoorIxu1
import Derived.Test.YtkeoalhglkfbkaaDoorRows
import Derived.WalkKit
import Derived.ProofKit
import Derived.JoinedCond
import Derived.SevenTiedAt
set_option linter.unusedVariables false
set_option linter.unusedSimpArgs false
set_option linter.all false
namespace Go.Proofs.YtkeoalhglkfbkaaDoor.slotsApartP
open Go
set_option maxRecDepth 100000 in
set_option maxHeartbeats 400000000 in
theorem closed : joinedFacts Tryd.pinned.checked.prog 15 Tryd.f15 (OpenSpec.ofChange Rows.slotsApartSpec).bare Rows.slotsApartRow = true := by
  unfold joinedFacts
  repeat' (with_reducible refine QD ?_ ?_)
  all_goals (as_aux_lemma => kernel_rfl)
theorem named : Tryd.pinned.checked.prog.funcNamed Rows.slotsApartRow.func = some 15 := by kernel_rfl
theorem wrapper : Tryd.f15.isWrapper Tryd.pinned.checked.prog Rows.slotsApartRow.wrapper Rows.slotsApartRow.mainSum := by
  unfold Func.isWrapper; first | (rw [if_pos (by decide +kernel)]; kernel_rfl) | (rw [if_neg (by decide +kernel)]; exact ⟨rfl, rfl⟩)
theorem instance_ : Tryd.f15.isInstance Tryd.pinned.checked.prog Rows.slotsApartRow.origin Rows.slotsApartRow.targs := of_decide_eq_true (by kernel_rfl)
theorem noInit : Tryd.checked.prog.inits.idxOf? 15 = none := by kernel_rfl
theorem wfText : Rows.slotsApartRow.wfByText (OpenSpec.ofChange Rows.slotsApartSpec) = true := by kernel_rfl
theorem goesBy : false = Rows.slotsApartRow.goesBy Tryd.pinned.checked.prog := by kernel_rfl
theorem plainp : Tryd.pinned.checked.prog.wantsStandIn 44 = false := by kernel_rfl
end Go.Proofs.YtkeoalhglkfbkaaDoor.slotsApartP
