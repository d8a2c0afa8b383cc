/-
  The language's words and signs, as the program makes them. No conditions.
-/
import Derived.Test.YtkeoalhglkfbkaaDoorC
set_option linter.unusedVariables false
set_option linter.unusedSimpArgs false
namespace Go.Proofs.YtkeoalhglkfbkaaDoor
open Go Hk

def wordsT : List (List UInt8) := [[102, 110], [112, 117, 98], [115, 101, 99], [111, 117, 116], [108, 101, 116], [118, 97, 114], [105, 102], [101, 108, 115, 101], [102, 111, 114], [109, 97, 120], [114, 101, 116, 117, 114, 110], [117, 51, 50], [117, 56], [109, 97, 115, 107], [109, 117, 108, 104, 105], [99, 97, 114, 114, 121], [115, 101, 108, 101, 99, 116], [119, 111, 114, 100], [114, 111, 114]]
def signsT : List (List UInt8) := [[60, 60], [62, 62], [61, 61], [33, 61], [60, 61], [62, 61], [40], [41], [123], [125], [91], [93], [44], [59], [58], [61], [43], [45], [42], [38], [124], [94], [126], [33], [60], [62]]
/-- The map of words. -/
def wordsM : List (AVal × AVal) := (wordsT.zip (List.range' 1 19)).map fun p => (.str p.1, .int .i64 p.2)
def signsR : List (List AVal) := signsT.map fun t => [.str t]

set_option maxRecDepth 100000 in
theorem run53 : evF Tryd.prog ann (loopN 200) 3 53 [] [] = some (.ret (.slice signsR .no), []) := by kernel_rfl
theorem c53 (h : Heap) : KK 53 [] h = some (.ret (.slice signsR .no), h) := callP_pure rfl rfl (evW_run 200 3 53 [] [] _ run53)
set_option maxRecDepth 100000 in
theorem run52 : evF Tryd.prog ann (loopN 200) 3 52 [] [.front 0 0, .cells [.int .i64 0, .int .i64 0]] = some (.ret (.map 2), [.front 0 0, .cells [.int .i64 0, .int .i64 0], .map wordsM]) := by kernel_rfl
theorem c52 : KK 52 [] [.front 0 0, .cells [.int .i64 0, .int .i64 0]] = some (.ret (.map 2), [.front 0 0, .cells [.int .i64 0, .int .i64 0], .map wordsM]) := evW_run 200 3 52 [] _ _ run52
theorem wordsM_shut (m : Nat) : wordsM.all (fun e => e.2.shut1 m) = true := rfl

end Go.Proofs.YtkeoalhglkfbkaaDoor
