/-
  What types.Check calls, at lives' program. No conditions.
-/
import Derived.Test.YtckbkcjhalimpabGreatDoorSh2
import Derived.Test.YtckbkcjhalimpabGreatDoorShapeRunA
set_option linter.unusedVariables false
set_option linter.unusedSimpArgs false
set_option linter.all false
namespace Go.Proofs.YtckbkcjhalimpabGreatDoor
open Go Hk
theorem q83 {a b c : AVal} {h : Heap} : KK 83 [a, b, c] h = m83 KK a b c h := by
  show evW Tryz.prog ann 83 _ h = _
  rw [evW_eq, m83_eq]
theorem q84 {a b c d : AVal} {h : Heap} : KK 84 [a, b, c, d] h = m84 KK a b c d h := by
  show evW Tryz.prog ann 84 _ h = _
  rw [evW_eq, m84_eq]
theorem q86 {a b : AVal} {h : Heap} : KK 86 [a, b] h = m86 KK a b h := by
  show evW Tryz.prog ann 86 _ h = _
  rw [evW_eq, m86_eq]
theorem q87 {a b : AVal} {h : Heap} : KK 87 [a, b] h = m87 KK a b h := by
  show evW Tryz.prog ann 87 _ h = _
  rw [evW_eq, m87_eq]
theorem q71 {a b : AVal} {h : Heap} : KK 71 [a, b] h = m71 KK a b h := by
  show evW Tryz.prog ann 71 _ h = _
  rw [evW_eq, m71_eq]
theorem q72 {a b : AVal} {h : Heap} : KK 72 [a, b] h = m72 KK a b h := by
  show evW Tryz.prog ann 72 _ h = _
  rw [evW_eq, m72_eq]
theorem chk_nil {h h' : Heap} {x : Option R} : chk [] h h' x = x := rfl
theorem chk_cons {id : Nat} {r : List Nat} {h h' : Heap} {x : Option R} (hq : h'[id]? = h[id]?) : chk (id :: r) h h' x = chk r h h' x := by
  rw [chk]
  exact if_pos (fun b hb => hq.trans hb)
set_option maxRecDepth 100000 in
theorem run69 : evT T4 Tryz.prog ann (loopN 60) 30 69 [.agg [.slice [fnC] .no]] [] = some (.ret (.tuple [.str [102, 110, 32, 109, 97, 105, 110, 40, 112, 117, 98, 32, 110, 58, 32, 117, 51, 50, 44, 32, 115, 101, 99, 32, 107, 58, 32, 117, 56, 91, 53, 93, 41, 32, 123, 10, 125, 10], .int .i64 0]), []) := by kernel_rfl
set_option maxRecDepth 100000 in
theorem run88a : evT T4 Tryz.prog ann (loopN 60) 30 88 [.agg [.int .i64 0, .int .i64 0, .int .i64 0]] [] = some (.ret (.int .i64 4), []) := by kernel_rfl
set_option maxRecDepth 100000 in
theorem run88b : evT T4 Tryz.prog ann (loopN 60) 30 88 [.agg [.int .i64 2, .int .i64 5, .int .i64 1]] [] = some (.ret (.int .i64 8), []) := by kernel_rfl
theorem k88a (h : Heap) : KK 88 [.agg [.int .i64 0, .int .i64 0, .int .i64 0]] h = some (.ret (.int .i64 4), h) := callP_pure rfl rfl (evT_run T4_ok _ _ _ _ _ _ run88a)
theorem k88b (h : Heap) : KK 88 [.agg [.int .i64 2, .int .i64 5, .int .i64 1]] h = some (.ret (.int .i64 8), h) := callP_pure rfl rfl (evT_run T4_ok _ _ _ _ _ _ run88b)
theorem k69 (h : Heap) : KK 69 [.agg [.slice [fnC] .no]] h = some (.ret (.tuple [.str [102, 110, 32, 109, 97, 105, 110, 40, 112, 117, 98, 32, 110, 58, 32, 117, 51, 50, 44, 32, 115, 101, 99, 32, 107, 58, 32, 117, 56, 91, 53, 93, 41, 32, 123, 10, 125, 10], .int .i64 0]), h) := callP_pure rfl rfl (evT_run T4_ok _ _ _ _ _ _ run69)
end Go.Proofs.YtckbkcjhalimpabGreatDoor
