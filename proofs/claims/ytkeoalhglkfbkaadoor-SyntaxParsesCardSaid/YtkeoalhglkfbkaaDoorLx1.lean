/-
  The texts LX.Y, one behind another. No conditions.
-/
import Derived.Test.YtkeoalhglkfbkaaDoorRows
import Derived.WalkKit
import Derived.SevenTiedAt
set_option linter.unusedVariables false
set_option linter.unusedSimpArgs false
/-
  Two closed facts of the program that every card asks. No conditions.
-/
namespace Go.Proofs.YtkeoalhglkfbkaaDoor
open Go
theorem mainIs : Tryd.pinned.checked.prog.mainIs = some (true, "7c8527047ffb63bdbc7985bab493d381175d25fc55ed6eef943fa30bf11f58b5".toList) := by kernel_rfl
theorem looksUp : true = Tryd.pinned.checked.prog.looks [] := by kernel_rfl
theorem plain9 : Tryd.pinned.checked.prog.wantsStandIn 9 = false := by kernel_rfl
theorem and_mk {a b : Bool} (h : a = true) (g : b = true) : (a && b) = true := by rw [h, g]; rfl
end Go.Proofs.YtkeoalhglkfbkaaDoor
