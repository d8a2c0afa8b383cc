/-
  SlotsMean: the closed facts that its row and its card ask. No conditions.
-/
import Derived.Test.YtkeoalhglkfbkaaDoorIxu1
import Derived.Test.YtkeoalhglkfbkaaDoorRows
import Derived.WalkKit
import Derived.ProofKit
import Derived.JoinedCond
import Derived.SevenTiedAt
set_option linter.unusedVariables false
set_option linter.unusedSimpArgs false
set_option linter.all false
namespace Go.Proofs.YtkeoalhglkfbkaaDoor.slotsMeanP
open Go
set_option maxRecDepth 100000 in
set_option maxHeartbeats 400000000 in
theorem closed : joinedFacts Tryd.pinned.checked.prog 19 Tryd.f19 (OpenSpec.ofChange Rows.slotsMeanSpec).bare Rows.slotsMeanRow = true := by
  unfold joinedFacts
  repeat' (with_reducible refine Sl ?_ ?_)
  all_goals (as_aux_lemma => kernel_rfl)
theorem named : Tryd.pinned.checked.prog.funcNamed Rows.slotsMeanRow.func = some 19 := by kernel_rfl
theorem wrapper : Tryd.f19.isWrapper Tryd.pinned.checked.prog Rows.slotsMeanRow.wrapper Rows.slotsMeanRow.mainSum := by
  unfold Func.isWrapper; first | (rw [if_pos (by decide +kernel)]; kernel_rfl) | (rw [if_neg (by decide +kernel)]; exact ⟨rfl, rfl⟩)
theorem instance_ : Tryd.f19.isInstance Tryd.pinned.checked.prog Rows.slotsMeanRow.origin Rows.slotsMeanRow.targs := of_decide_eq_true (by kernel_rfl)
theorem noInit : Tryd.checked.prog.inits.idxOf? 19 = none := by kernel_rfl
theorem wfText : Rows.slotsMeanRow.wfByText (OpenSpec.ofChange Rows.slotsMeanSpec) = true := by kernel_rfl
theorem goesBy : false = Rows.slotsMeanRow.goesBy Tryd.pinned.checked.prog := by kernel_rfl
theorem plaini : Tryd.pinned.checked.prog.wantsStandIn 3 = false := by kernel_rfl
theorem plainp : Tryd.pinned.checked.prog.wantsStandIn 44 = false := by kernel_rfl
theorem plains : Tryd.pinned.checked.prog.wantsStandIn 9 = false := by kernel_rfl
end Go.Proofs.YtkeoalhglkfbkaaDoor.slotsMeanP
