/-
  'lives' of layer 15 answers true. No conditions.
-/
import Derived.Test.YtckbkcjhalimpabGreatDoorShapeRunC
import Derived.Test.YtckbkcjhalimpabGreatDoorSh2
set_option linter.unusedVariables false
set_option linter.unusedSimpArgs false
set_option linter.all false
namespace Go.Proofs.YtckbkcjhalimpabGreatDoor
open Go Hk
def fd0 : List Fd := [⟨[110], ⟨0, 0, 0⟩, false, 0, 0⟩, ⟨[107], ⟨2, 5, 1⟩, false, 0, 0⟩]
def fd1 : List Fd := [⟨[110], ⟨0, 0, 0⟩, false, 0, 4⟩, ⟨[107], ⟨2, 5, 1⟩, false, 4, 8⟩]
theorem laid01 : laidL fd0 0 0 = (fd1, 12, 0) := by decide
theorem k33 (h : Heap) : KK 33 [.slice (Rw Fd.cells fd0) .no] h = some (.ret (.tuple [.slice (Rw Fd.cells fd1) .no, .int .i64 12, .int .i64 0]), h) := by
  rw [r33, t33_eq fd0 (by decide) (by decide), laid01]
  rfl
theorem bs15 {a : List UInt8} {b c d f g : Int} {e : Bool} {h : Heap} : abuildSlice 1 7 [.str [], .int .i64 0, .int .i64 0, .int .i64 0, .bool false, .int .i64 0, .int .i64 0] [(0, .agg [.str a, .int .i64 b, .int .i64 c, .int .i64 d, .bool e, .int .i64 f, .int .i64 g])] h = some (.slice [[.str a, .int .i64 b, .int .i64 c, .int .i64 d, .bool e, .int .i64 f, .int .i64 g]] (.own h.length), h ++ [.front 1 7]) := (rfl)
theorem k15 (h : Heap) : KK 15 [.agg [.slice [fnC] .no]] h = some (.ret (.tuple [.slice (Rw Fd.cells fd1) .no, .int .i64 0]), h) := by
  refine callP_pure rfl rfl (evW_by (m15_eq _ _ _) ?_)
  have h32 := k32
  have h33 := k33
  have w0 : IntKind.wrap .i64 0 = 0 := by decide
  have w1 : IntKind.wrap .i64 1 = 1 := by decide
  have w2 : IntKind.wrap .i64 2 = 2 := by decide
  simp only [fnC, fd0, Rw, List.map_cons, List.map_nil, Fd.cells] at *
  simp -implicitDefEqProofs [m15, h32, aindexSl, w0, w1, w2]
  rw [lpW_step]
  simp -implicitDefEqProofs [m15_l0, aindexSl, bs15, aappend, arowsS, w0, w1, w2]
  rw [lpW_step]
  simp -implicitDefEqProofs [m15_l0, aindexSl, bs15, aappend, arowsS, w0, w1, w2]
  rw [lpW_step]
  simp -implicitDefEqProofs [m15_l0, aindexSl, bs15, aappend, arowsS, w0, w1, w2, h33]
theorem k4 (h : Heap) : KK 4 [] h = some (.ret (.bool true), h) := by
  refine callP_pure rfl rfl (evW_by (m4_eq _ _) ?_)
  have h14 := k14
  have h15 := k15
  simp only [tx, fnC, fd1, Rw, List.map_cons, List.map_nil, Fd.cells] at *
  simp -implicitDefEqProofs [m4, h14, h15, aindexSl]
end Go.Proofs.YtckbkcjhalimpabGreatDoor
