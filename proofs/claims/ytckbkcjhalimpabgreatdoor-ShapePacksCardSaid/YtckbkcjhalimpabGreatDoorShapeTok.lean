/-
  The tokens of a text, each by the kernel's run of the evaluator. No conditions.
-/
import Derived.Test.YtckbkcjhalimpabGreatDoorShapeTab
set_option linter.unusedVariables false
set_option linter.unusedSimpArgs false
set_option linter.all false
namespace Go.Proofs.YtckbkcjhalimpabGreatDoor
open Go Hk
set_option maxRecDepth 100000 in
theorem nx0 : evF Tryz.prog ann (loopN 40) 14 41 [.str tx, .int .i64 0] [] = some (.ret (.int .i64 0), []) := by kernel_rfl
set_option maxRecDepth 100000 in
theorem one0 : evF Tryz.prog ann (loopN 100) 14 42 [.str tx, .int .i64 0] [] = some (.ret (.tuple [.agg [.int .i64 3, .int .i64 0, .int .i64 0, .str [102, 110]], .int .i64 2]), []) := by kernel_rfl
set_option maxRecDepth 100000 in
theorem nxt0 : evF Tryz.prog ann (loopN 40) 14 41 [.str tx, .int .i64 2] [] = some (.ret (.int .i64 3), []) := by kernel_rfl
set_option maxRecDepth 100000 in
theorem one1 : evF Tryz.prog ann (loopN 100) 14 42 [.str tx, .int .i64 3] [] = some (.ret (.tuple [.agg [.int .i64 1, .int .i64 3, .int .i64 0, .str [109, 97, 105, 110]], .int .i64 4]), []) := by kernel_rfl
set_option maxRecDepth 100000 in
theorem nxt1 : evF Tryz.prog ann (loopN 40) 14 41 [.str tx, .int .i64 7] [] = some (.ret (.int .i64 7), []) := by kernel_rfl
set_option maxRecDepth 100000 in
theorem one2 : evF Tryz.prog ann (loopN 100) 14 42 [.str tx, .int .i64 7] [] = some (.ret (.tuple [.agg [.int .i64 4, .int .i64 7, .int .i64 0, .str [40]], .int .i64 1]), []) := by kernel_rfl
set_option maxRecDepth 100000 in
theorem nxt2 : evF Tryz.prog ann (loopN 40) 14 41 [.str tx, .int .i64 8] [] = some (.ret (.int .i64 8), []) := by kernel_rfl
set_option maxRecDepth 100000 in
theorem one3 : evF Tryz.prog ann (loopN 100) 14 42 [.str tx, .int .i64 8] [] = some (.ret (.tuple [.agg [.int .i64 3, .int .i64 8, .int .i64 0, .str [112, 117, 98]], .int .i64 3]), []) := by kernel_rfl
set_option maxRecDepth 100000 in
theorem nxt3 : evF Tryz.prog ann (loopN 40) 14 41 [.str tx, .int .i64 11] [] = some (.ret (.int .i64 12), []) := by kernel_rfl
set_option maxRecDepth 100000 in
theorem one4 : evF Tryz.prog ann (loopN 100) 14 42 [.str tx, .int .i64 12] [] = some (.ret (.tuple [.agg [.int .i64 1, .int .i64 12, .int .i64 0, .str [110]], .int .i64 1]), []) := by kernel_rfl
set_option maxRecDepth 100000 in
theorem nxt4 : evF Tryz.prog ann (loopN 40) 14 41 [.str tx, .int .i64 13] [] = some (.ret (.int .i64 13), []) := by kernel_rfl
set_option maxRecDepth 100000 in
theorem one5 : evF Tryz.prog ann (loopN 100) 14 42 [.str tx, .int .i64 13] [] = some (.ret (.tuple [.agg [.int .i64 4, .int .i64 13, .int .i64 0, .str [58]], .int .i64 1]), []) := by kernel_rfl
set_option maxRecDepth 100000 in
theorem nxt5 : evF Tryz.prog ann (loopN 40) 14 41 [.str tx, .int .i64 14] [] = some (.ret (.int .i64 15), []) := by kernel_rfl
set_option maxRecDepth 100000 in
theorem one6 : evF Tryz.prog ann (loopN 100) 14 42 [.str tx, .int .i64 15] [] = some (.ret (.tuple [.agg [.int .i64 3, .int .i64 15, .int .i64 0, .str [117, 51, 50]], .int .i64 3]), []) := by kernel_rfl
set_option maxRecDepth 100000 in
theorem nxt6 : evF Tryz.prog ann (loopN 40) 14 41 [.str tx, .int .i64 18] [] = some (.ret (.int .i64 18), []) := by kernel_rfl
set_option maxRecDepth 100000 in
theorem one7 : evF Tryz.prog ann (loopN 100) 14 42 [.str tx, .int .i64 18] [] = some (.ret (.tuple [.agg [.int .i64 4, .int .i64 18, .int .i64 0, .str [44]], .int .i64 1]), []) := by kernel_rfl
set_option maxRecDepth 100000 in
theorem nxt7 : evF Tryz.prog ann (loopN 40) 14 41 [.str tx, .int .i64 19] [] = some (.ret (.int .i64 20), []) := by kernel_rfl
set_option maxRecDepth 100000 in
theorem one8 : evF Tryz.prog ann (loopN 100) 14 42 [.str tx, .int .i64 20] [] = some (.ret (.tuple [.agg [.int .i64 3, .int .i64 20, .int .i64 0, .str [115, 101, 99]], .int .i64 3]), []) := by kernel_rfl
set_option maxRecDepth 100000 in
theorem nxt8 : evF Tryz.prog ann (loopN 40) 14 41 [.str tx, .int .i64 23] [] = some (.ret (.int .i64 24), []) := by kernel_rfl
set_option maxRecDepth 100000 in
theorem one9 : evF Tryz.prog ann (loopN 100) 14 42 [.str tx, .int .i64 24] [] = some (.ret (.tuple [.agg [.int .i64 1, .int .i64 24, .int .i64 0, .str [107]], .int .i64 1]), []) := by kernel_rfl
set_option maxRecDepth 100000 in
theorem nxt9 : evF Tryz.prog ann (loopN 40) 14 41 [.str tx, .int .i64 25] [] = some (.ret (.int .i64 25), []) := by kernel_rfl
set_option maxRecDepth 100000 in
theorem one10 : evF Tryz.prog ann (loopN 100) 14 42 [.str tx, .int .i64 25] [] = some (.ret (.tuple [.agg [.int .i64 4, .int .i64 25, .int .i64 0, .str [58]], .int .i64 1]), []) := by kernel_rfl
set_option maxRecDepth 100000 in
theorem nxt10 : evF Tryz.prog ann (loopN 40) 14 41 [.str tx, .int .i64 26] [] = some (.ret (.int .i64 27), []) := by kernel_rfl
set_option maxRecDepth 100000 in
theorem one11 : evF Tryz.prog ann (loopN 100) 14 42 [.str tx, .int .i64 27] [] = some (.ret (.tuple [.agg [.int .i64 3, .int .i64 27, .int .i64 0, .str [117, 56]], .int .i64 2]), []) := by kernel_rfl
set_option maxRecDepth 100000 in
theorem nxt11 : evF Tryz.prog ann (loopN 40) 14 41 [.str tx, .int .i64 29] [] = some (.ret (.int .i64 29), []) := by kernel_rfl
set_option maxRecDepth 100000 in
theorem one12 : evF Tryz.prog ann (loopN 100) 14 42 [.str tx, .int .i64 29] [] = some (.ret (.tuple [.agg [.int .i64 4, .int .i64 29, .int .i64 0, .str [91]], .int .i64 1]), []) := by kernel_rfl
set_option maxRecDepth 100000 in
theorem nxt12 : evF Tryz.prog ann (loopN 40) 14 41 [.str tx, .int .i64 30] [] = some (.ret (.int .i64 30), []) := by kernel_rfl
set_option maxRecDepth 100000 in
theorem one13 : evF Tryz.prog ann (loopN 100) 14 42 [.str tx, .int .i64 30] [] = some (.ret (.tuple [.agg [.int .i64 2, .int .i64 30, .int .i64 5, .str []], .int .i64 1]), []) := by kernel_rfl
set_option maxRecDepth 100000 in
theorem nxt13 : evF Tryz.prog ann (loopN 40) 14 41 [.str tx, .int .i64 31] [] = some (.ret (.int .i64 31), []) := by kernel_rfl
set_option maxRecDepth 100000 in
theorem one14 : evF Tryz.prog ann (loopN 100) 14 42 [.str tx, .int .i64 31] [] = some (.ret (.tuple [.agg [.int .i64 4, .int .i64 31, .int .i64 0, .str [93]], .int .i64 1]), []) := by kernel_rfl
set_option maxRecDepth 100000 in
theorem nxt14 : evF Tryz.prog ann (loopN 40) 14 41 [.str tx, .int .i64 32] [] = some (.ret (.int .i64 32), []) := by kernel_rfl
set_option maxRecDepth 100000 in
theorem one15 : evF Tryz.prog ann (loopN 100) 14 42 [.str tx, .int .i64 32] [] = some (.ret (.tuple [.agg [.int .i64 4, .int .i64 32, .int .i64 0, .str [41]], .int .i64 1]), []) := by kernel_rfl
set_option maxRecDepth 100000 in
theorem nxt15 : evF Tryz.prog ann (loopN 40) 14 41 [.str tx, .int .i64 33] [] = some (.ret (.int .i64 34), []) := by kernel_rfl
set_option maxRecDepth 100000 in
theorem one16 : evF Tryz.prog ann (loopN 100) 14 42 [.str tx, .int .i64 34] [] = some (.ret (.tuple [.agg [.int .i64 4, .int .i64 34, .int .i64 0, .str [123]], .int .i64 1]), []) := by kernel_rfl
set_option maxRecDepth 100000 in
theorem nxt16 : evF Tryz.prog ann (loopN 40) 14 41 [.str tx, .int .i64 35] [] = some (.ret (.int .i64 36), []) := by kernel_rfl
set_option maxRecDepth 100000 in
theorem one17 : evF Tryz.prog ann (loopN 100) 14 42 [.str tx, .int .i64 36] [] = some (.ret (.tuple [.agg [.int .i64 4, .int .i64 36, .int .i64 0, .str [125]], .int .i64 1]), []) := by kernel_rfl
set_option maxRecDepth 100000 in
theorem nxt17 : evF Tryz.prog ann (loopN 40) 14 41 [.str tx, .int .i64 37] [] = some (.ret (.int .i64 37), []) := by kernel_rfl
end Go.Proofs.YtckbkcjhalimpabGreatDoor
