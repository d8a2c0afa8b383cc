/-
  The words and signs, by the kernel's run of the evaluator. No conditions.
-/
import Derived.Test.YtckbkcjhalimpabGreatDoorShapeTab
set_option linter.unusedVariables false
set_option linter.unusedSimpArgs false
set_option linter.all false
namespace Go.Proofs.YtckbkcjhalimpabGreatDoor
open Go Hk
def txW : List UInt8 := [102, 110, 32, 112, 117, 98, 32, 115, 101, 99, 32, 111, 117, 116, 32, 108, 101, 116, 32, 118, 97, 114, 32, 105, 102, 32, 101, 108, 115, 101, 32, 102, 111, 114, 32, 109, 97, 120, 32, 114, 101, 116, 117, 114, 110, 32, 117, 51, 50, 32, 117, 56, 32, 109, 97, 115, 107, 32, 109, 117, 108, 104, 105, 32, 99, 97, 114, 114, 121, 32, 115, 101, 108, 101, 99, 116, 32, 119, 111, 114, 100, 32, 114, 111, 114]
def rsW : List (List AVal) := [[.str [102, 110]], [.str [112, 117, 98]], [.str [115, 101, 99]], [.str [111, 117, 116]], [.str [108, 101, 116]], [.str [118, 97, 114]], [.str [105, 102]], [.str [101, 108, 115, 101]], [.str [102, 111, 114]], [.str [109, 97, 120]], [.str [114, 101, 116, 117, 114, 110]], [.str [117, 51, 50]], [.str [117, 56]], [.str [109, 97, 115, 107]], [.str [109, 117, 108, 104, 105]], [.str [99, 97, 114, 114, 121]], [.str [115, 101, 108, 101, 99, 116]], [.str [119, 111, 114, 100]], [.str [114, 111, 114]]]
set_option maxRecDepth 100000 in
theorem run129W : evF Tryz.prog ann (loopN 110) 10 129 [.str txW] [] = some (.ret (.slice rsW .no), []) := by kernel_rfl
def txS : List UInt8 := [60, 60, 32, 62, 62, 32, 61, 61, 32, 33, 61, 32, 60, 61, 32, 62, 61, 32, 40, 32, 41, 32, 123, 32, 125, 32, 91, 32, 93, 32, 44, 32, 59, 32, 58, 32, 61, 32, 43, 32, 45, 32, 42, 32, 38, 32, 124, 32, 94, 32, 126, 32, 33, 32, 60, 32, 62]
def rsS : List (List AVal) := [[.str [60, 60]], [.str [62, 62]], [.str [61, 61]], [.str [33, 61]], [.str [60, 61]], [.str [62, 61]], [.str [40]], [.str [41]], [.str [123]], [.str [125]], [.str [91]], [.str [93]], [.str [44]], [.str [59]], [.str [58]], [.str [61]], [.str [43]], [.str [45]], [.str [42]], [.str [38]], [.str [124]], [.str [94]], [.str [126]], [.str [33]], [.str [60]], [.str [62]]]
set_option maxRecDepth 100000 in
theorem run129S : evF Tryz.prog ann (loopN 110) 10 129 [.str txS] [] = some (.ret (.slice rsS .no), []) := by kernel_rfl
end Go.Proofs.YtckbkcjhalimpabGreatDoor
