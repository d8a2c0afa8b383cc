/-
  What 'lives' of layer 15 calls: the kernel's own run of the evaluator, with a table. No conditions.
-/
import Derived.Test.YtckbkcjhalimpabGreatDoorShapeToks
import Derived.Test.YtckbkcjhalimpabGreatDoorShapeWords
set_option linter.unusedVariables false
set_option linter.unusedSimpArgs false
set_option linter.all false
namespace Go.Proofs.YtckbkcjhalimpabGreatDoor
open Go Hk
noncomputable def T4 : CallO := fun f args h => match args, h with
  | [.str s], [] =>
    if f = 129 then (if s = txW then some (.ret (.slice rsW .no), []) else if s = txS then some (.ret (.slice rsS .no), []) else none)
    else if f = 30 then (if s = tx then some (.ret (.tuple [.slice tk .no, .agg [.int .i64 0, .int .i64 0]]), []) else none)
    else none
  | _, _ => none
theorem T4_ok : ∀ f args h r, T4 f args h = some r → evW Tryz.prog ann f args h = some r := by
  intro f args h r ht
  unfold T4 at ht
  split at ht
  · split at ht
    · rename_i hf
      subst hf
      split at ht
      · rename_i hs; subst hs; cases ht; exact evW_run _ _ _ _ _ _ run129W
      · split at ht
        · rename_i hs; subst hs; cases ht; exact evW_run _ _ _ _ _ _ run129S
        · cases ht
    · split at ht
      · rename_i hf
        subst hf
        split at ht
        · rename_i hs; subst hs; cases ht; exact w30
        · cases ht
      · cases ht
  · cases ht
def fnC : List AVal := [.int .i64 3, .str [109, 97, 105, 110], .slice [[.int .i64 12, .str [110], .int .i64 0, .int .i64 0, .int .i64 0, .bool false], [.int .i64 24, .str [107], .int .i64 2, .int .i64 5, .int .i64 1, .bool false]] .no, .bool false, .int .i64 0, .int .i64 0, .int .i64 0, .slice [] .no]
set_option maxRecDepth 100000 in
theorem run14 : evT T4 Tryz.prog ann (loopN 60) 30 14 [.str tx] [] = some (.ret (.tuple [.agg [.slice [fnC] .no], .agg [.int .i64 0, .int .i64 0]]), []) := by kernel_rfl
theorem k14 (h : Heap) : KK 14 [.str tx] h = some (.ret (.tuple [.agg [.slice [fnC] .no], .agg [.int .i64 0, .int .i64 0]]), h) := callP_pure rfl rfl (evT_run T4_ok _ _ _ _ _ _ run14)
end Go.Proofs.YtckbkcjhalimpabGreatDoor
