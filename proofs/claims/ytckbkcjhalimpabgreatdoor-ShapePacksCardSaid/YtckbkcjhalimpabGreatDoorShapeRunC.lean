/-
  types.Check of lives' program. No conditions.
-/
import Derived.Test.YtckbkcjhalimpabGreatDoorShapeRunB
set_option linter.unusedVariables false
set_option linter.unusedSimpArgs false
set_option linter.all false
namespace Go.Proofs.YtckbkcjhalimpabGreatDoor
open Go Hk
set_option maxHeartbeats 4000000 in
theorem c51 : evW Tryz.prog ann 51 [.agg [.slice [fnC] .no]] [] = some (.ret (.tuple [.int .i64 1, .int .i64 3, .agg [.int .i64 0, .int .i64 0]]), []) := by
  refine evW_by (m51_eq _ _ _) ?_
  have h69 := k69
  have s1 : AVal.cellOk .nilmap = true := rfl
  have s2 : ∀ n, AVal.cellOk (.map n) = true := fun _ => rfl
  have s3 : ∀ m h, AVal.san1 m h .nilmap = .nilmap := fun _ _ => rfl
  have s4 : ∀ (m i : Nat) (h : Heap), i < m → AVal.san1 m h (.map i) = .map i := fun m i h hi => by simp [AVal.san1, AVal.shut1, AVal.shut0, hi]
  have w0 : IntKind.wrap .i64 0 = 0 := by decide
  have w1 : IntKind.wrap .i64 1 = 1 := by decide
  have w2 : IntKind.wrap .i64 2 = 2 := by decide
  have w4 : IntKind.wrap .i64 4 = 4 := by decide
  have w8 : IntKind.wrap .i64 8 = 8 := by decide
  have w12 : IntKind.wrap .i64 12 = 12 := by decide
  have n1 : min (1 : Int) 65537 = 1 := by decide
  have n4 : min (4 : Int) 65537 = 4 := by decide
  have n12 : min (12 : Int) 65537 = 12 := by decide
  simp only [fnC] at *
  simp -implicitDefEqProofs (maxSteps := 4000000) [m51, h69, s1, s2, aindexSl]
  rw [lpW_step]
  simp -implicitDefEqProofs (maxSteps := 4000000) [m51_l0, s1, s2, s3, s4, w0, w1, w2, w4, w8, w12, n1, n4, n12, q71, m71, m71_l0, m71_l1, q83, m83, q84, m84, q86, m86, q87, m87, m87_l0, q72, m72, m72_l0, k88a, k88b, mR70, mR70', chk_nil, chk_cons, aindexSl, lockIds, addrId, sanBlk, akeyFor, alookup, amapSet, akeyOk, afind, getMap, aputMap, aeq1, AVal.shut1, AVal.shut0]
  rw [lpW_step]
  simp -implicitDefEqProofs (maxSteps := 4000000) [m51_l0, s1, s2, s3, s4, w0, w1, w2, w4, w8, w12, n1, n4, n12, q71, m71, m71_l0, m71_l1, q83, m83, q84, m84, q86, m86, q87, m87, m87_l0, q72, m72, m72_l0, k88a, k88b, mR70, mR70', chk_nil, chk_cons, aindexSl, lockIds, addrId, sanBlk, akeyFor, alookup, amapSet, akeyOk, afind, getMap, aputMap, aeq1, AVal.shut1, AVal.shut0]
  rw [lpW_step]
  simp -implicitDefEqProofs (maxSteps := 4000000) [m51_l0, s1, s2, s3, s4, w0, w1, w2, w4, w8, w12, n1, n4, n12, q71, m71, m71_l0, m71_l1, q83, m83, q84, m84, q86, m86, q87, m87, m87_l0, q72, m72, m72_l0, k88a, k88b, mR70, mR70', chk_nil, chk_cons, aindexSl, lockIds, addrId, sanBlk, akeyFor, alookup, amapSet, akeyOk, afind, getMap, aputMap, aeq1, AVal.shut1, AVal.shut0]
  rw [lpW_step]
  simp -implicitDefEqProofs (maxSteps := 4000000) [m51_l0, s1, s2, s3, s4, w0, w1, w2, w4, w8, w12, n1, n4, n12, q71, m71, m71_l0, m71_l1, q83, m83, q84, m84, q86, m86, q87, m87, m87_l0, q72, m72, m72_l0, k88a, k88b, mR70, mR70', chk_nil, chk_cons, aindexSl, lockIds, addrId, sanBlk, akeyFor, alookup, amapSet, akeyOk, afind, getMap, aputMap, aeq1, AVal.shut1, AVal.shut0]
  rw [lpW_step]
  simp -implicitDefEqProofs (maxSteps := 4000000) [m51_l0, s1, s2, s3, s4, w0, w1, w2, w4, w8, w12, n1, n4, n12, q71, m71, m71_l0, m71_l1, q83, m83, q84, m84, q86, m86, q87, m87, m87_l0, q72, m72, m72_l0, k88a, k88b, mR70, mR70', chk_nil, chk_cons, aindexSl, lockIds, addrId, sanBlk, akeyFor, alookup, amapSet, akeyOk, afind, getMap, aputMap, aeq1, AVal.shut1, AVal.shut0]
  rw [lpW_step]
  simp -implicitDefEqProofs (maxSteps := 4000000) [m51_l0, s1, s2, s3, s4, w0, w1, w2, w4, w8, w12, n1, n4, n12, q71, m71, m71_l0, m71_l1, q83, m83, q84, m84, q86, m86, q87, m87, m87_l0, q72, m72, m72_l0, k88a, k88b, mR70, mR70', chk_nil, chk_cons, aindexSl, lockIds, addrId, sanBlk, akeyFor, alookup, amapSet, akeyOk, afind, getMap, aputMap, aeq1, AVal.shut1, AVal.shut0]
  rw [lpW_step]
  simp -implicitDefEqProofs (maxSteps := 4000000) [m51_l0, s1, s2, s3, s4, w0, w1, w2, w4, w8, w12, n1, n4, n12, q71, m71, m71_l0, m71_l1, q83, m83, q84, m84, q86, m86, q87, m87, m87_l0, q72, m72, m72_l0, k88a, k88b, mR70, mR70', chk_nil, chk_cons, aindexSl, lockIds, addrId, sanBlk, akeyFor, alookup, amapSet, akeyOk, afind, getMap, aputMap, aeq1, AVal.shut1, AVal.shut0]
  rw [lpW_step]
  simp -implicitDefEqProofs (maxSteps := 4000000) [m51_l0, s1, s2, s3, s4, w0, w1, w2, w4, w8, w12, n1, n4, n12, q71, m71, m71_l0, m71_l1, q83, m83, q84, m84, q86, m86, q87, m87, m87_l0, q72, m72, m72_l0, k88a, k88b, mR70, mR70', chk_nil, chk_cons, aindexSl, lockIds, addrId, sanBlk, akeyFor, alookup, amapSet, akeyOk, afind, getMap, aputMap, aeq1, AVal.shut1, AVal.shut0]
  rw [lpW_step]
  simp -implicitDefEqProofs (maxSteps := 4000000) [m51_l0, s1, s2, s3, s4, w0, w1, w2, w4, w8, w12, n1, n4, n12, q71, m71, m71_l0, m71_l1, q83, m83, q84, m84, q86, m86, q87, m87, m87_l0, q72, m72, m72_l0, k88a, k88b, mR70, mR70', chk_nil, chk_cons, aindexSl, lockIds, addrId, sanBlk, akeyFor, alookup, amapSet, akeyOk, afind, getMap, aputMap, aeq1, AVal.shut1, AVal.shut0]
  rw [lpW_step]
  simp -implicitDefEqProofs (maxSteps := 4000000) [m51_l0, s1, s2, s3, s4, w0, w1, w2, w4, w8, w12, n1, n4, n12, q71, m71, m71_l0, m71_l1, q83, m83, q84, m84, q86, m86, q87, m87, m87_l0, q72, m72, m72_l0, k88a, k88b, mR70, mR70', chk_nil, chk_cons, aindexSl, lockIds, addrId, sanBlk, akeyFor, alookup, amapSet, akeyOk, afind, getMap, aputMap, aeq1, AVal.shut1, AVal.shut0]
theorem k51 (h : Heap) : KK 51 [.agg [.slice [fnC] .no]] h = some (.ret (.tuple [.int .i64 1, .int .i64 3, .agg [.int .i64 0, .int .i64 0]]), h) := callP_pure rfl rfl c51
theorem k32 (h : Heap) : KK 32 [.agg [.slice [fnC] .no]] h = some (.ret (.agg [.int .i64 0, .int .i64 0]), h) := by
  refine callP_pure rfl rfl (evW_by (m32_eq _ _ _) ?_)
  have h51 := k51
  simp only [fnC] at *
  simp -implicitDefEqProofs [m32, h51]
end Go.Proofs.YtckbkcjhalimpabGreatDoor
