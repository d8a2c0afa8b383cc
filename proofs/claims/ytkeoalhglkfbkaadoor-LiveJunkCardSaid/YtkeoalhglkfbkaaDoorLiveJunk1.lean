/-
  LiveJunk: the closed facts that its row and its card ask. No conditions.
-/
import Derived.Test.YtkeoalhglkfbkaaDoorIxu1
import Derived.Test.YtkeoalhglkfbkaaDoorRows
import Derived.WalkKit
import Derived.ProofKit
import Derived.JoinedCond
import Derived.SevenTiedAt
set_option linter.unusedVariables false
set_option linter.unusedSimpArgs false
set_option linter.all false
namespace Go.Proofs.YtkeoalhglkfbkaaDoor.liveJunkP
open Go
set_option maxRecDepth 100000 in
set_option maxHeartbeats 400000000 in
theorem closed : joinedFacts Tryd.pinned.checked.prog 17 Tryd.f17 (OpenSpec.ofChange Rows.liveJunkSpec).bare Rows.liveJunkRow = true := by
  unfold joinedFacts
  repeat' (with_reducible refine Sl ?_ ?_)
  all_goals (as_aux_lemma => kernel_rfl)
theorem named : Tryd.pinned.checked.prog.funcNamed Rows.liveJunkRow.func = some 17 := by kernel_rfl
theorem wrapper : Tryd.f17.isWrapper Tryd.pinned.checked.prog Rows.liveJunkRow.wrapper Rows.liveJunkRow.mainSum := by
  unfold Func.isWrapper; first | (rw [if_pos (by decide +kernel)]; kernel_rfl) | (rw [if_neg (by decide +kernel)]; exact ⟨rfl, rfl⟩)
theorem instance_ : Tryd.f17.isInstance Tryd.pinned.checked.prog Rows.liveJunkRow.origin Rows.liveJunkRow.targs := of_decide_eq_true (by kernel_rfl)
theorem noInit : Tryd.checked.prog.inits.idxOf? 17 = none := by kernel_rfl
theorem wfText : Rows.liveJunkRow.wfByText (OpenSpec.ofChange Rows.liveJunkSpec) = true := by kernel_rfl
theorem goesBy : false = Rows.liveJunkRow.goesBy Tryd.pinned.checked.prog := by kernel_rfl
theorem plaini : Tryd.pinned.checked.prog.wantsStandIn 3 = false := by kernel_rfl
theorem plainp : Tryd.pinned.checked.prog.wantsStandIn 44 = false := by kernel_rfl
theorem plains : Tryd.pinned.checked.prog.wantsStandIn 9 = false := by kernel_rfl
end Go.Proofs.YtkeoalhglkfbkaaDoor.liveJunkP
