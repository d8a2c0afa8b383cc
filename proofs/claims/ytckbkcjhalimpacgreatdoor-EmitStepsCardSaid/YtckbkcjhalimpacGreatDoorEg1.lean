/-
  The texts EG.M, EG.A, EG.FR, EG.B, EG.L, EG.W3, one behind another. No conditions.
-/
import Derived.Test.YtckbkcjhalimpacGreatDoorProg
import Derived.Test.YtckbkcjhalimpacGreatDoorVk4
import Derived.KernelRfl
import Derived.Test.YtckbkcjhalimpacGreatDoorRows
import Derived.Lib.LaidTab
import Derived.LaidMore
import Derived.MakeChecks
import Derived.LaidHandle
import Derived.WalkKit
import Derived.SevenTiedAt
set_option linter.unusedVariables false
set_option linter.unusedSimpArgs false
set_option linter.all false
namespace Go.Proofs.YtckbkcjhalimpacGreatDoor
noncomputable section
open Go Hk
def panned : List Nat := []
def inlined : List Nat := [20, 21, 22, 35, 36, 44, 45, 46, 47, 49, 50, 52, 54, 55, 57, 59, 60, 63, 67, 74, 75, 76, 82, 95, 96, 78, 79, 80, 81, 93, 104, 69, 38, 39, 42, 43, 53, 56, 64, 66, 71, 83, 84, 85, 86, 87, 88, 89, 90, 99, 100, 102, 103, 105, 14, 123]
def olds : List Nat := []
def tbs : List Nat := []
def gBruijn : List AVal := [0,1,56,2,57,49,28,3,61,58,42,50,38,29,17,4,62,47,59,36,45,43,51,22,53,39,33,30,24,18,12,5,63,55,48,27,60,41,37,16,46,35,44,21,52,32,23,11,54,26,40,15,34,20,31,10,25,14,19,9,13,8,7,6].map (.int .u8)
def ann : Ann := { prm := fun f => none, frz := fun f => f == 68, esc := fun f => f == 95 || f == 78 || f == 79 || f == 80 || f == 123, grow := fun f => f == 95 || f == 79 || f == 80, vlit := fun f => f == 77, sub := fun f => f == 50 || f == 49 || f == 69 || f == 44 || f == 45 || f == 46 || f == 47, vec := fun f => f == 95 || f == 78 || f == 23 || f == 44 || f == 47, glob := fun g => if g = 0 then some gBruijn else none, pure := fun f => !(inlined.contains f), pan := fun f => panned.contains f, vmk := fun f => !(olds.contains f), jt := fun f => !(olds.contains f) }
/- hauberk/hauberklaw32.EmitSteps -/
def m3 (K : CallO) (a0 a1 : AVal) (h0 : Heap) : OH :=
  (bindVH (anew 3 h0 a1) fun t0 h1 => (aload true 3 h1 t0).bind fun t2 => (aload true 3 h1 t0).bind fun t3 => kq2 K 4 a0 t2 (hide (lockIds [0] [t0]) h1) fun t4 h5 => kq2 K 5 a0 t3 (unhide (lockIds [0] [t0]) h1 h5) fun t6 h7 => (abin .eql t4 t6).bind fun t8 => gq true t8 (bindRes (K 6 [] h7) (fun t9 h10 => kv0 t9 h10) kp0) h7 fun t11 h12 => (apick t8 t11 (.bool false)).bind fun t13 => some (.ret, [t13], h12)).bind fun r14 => uq1 r14.2 fun x4v15 h16 => Ex.endF r14.1 (finR (List.length h0) x4v15 h16)
theorem m3_eq K a0 a1 h0 : evB Tryz.prog ann lpW K 3 [a0, a1] h0 = m3 (callP ann K) a0 a1 h0 := by kernel_rfl

/- hauberk/emit.Steps -/
def m4 (K : CallO) (a0 a1 : AVal) (h0 : Heap) : OH :=
  (bindVH (anew 3 h0 a1) fun t0 h1 => (abin .lss a0 (iq 0)).bind fun t2 => gpq false t2 (some a0) h1 fun t3 h4 => gpq false t2 (abin .gtr t3 (iq 67108864)) h4 fun t6 h7 => (apick t2 (.bool true) t6).bind fun t8 => acond t8 (some (.ret, [(iq 0)], h7)) ((abin .mul (iq 64) a0).bind fun t9 => (aload true 3 h7 t0).bind fun t10 => kq1 K 7 t10 h7 fun t11 h12 => (abin .add t9 t11).bind fun t13 => (abin .add t13 (iq 256)).bind fun t14 => some (.ret, [t14], h12))).bind fun r15 => uq1 r15.2 fun x4v16 h17 => Ex.endF r15.1 (finR (List.length h0) x4v16 h17)
theorem m4_eq K a0 a1 h0 : evB Tryz.prog ann lpW K 4 [a0, a1] h0 = m4 (callP ann K) a0 a1 h0 := by kernel_rfl

/- hauberk/hauberkref32.Steps -/
def m5 (K : CallO) (a0 a1 : AVal) (h0 : Heap) : OH :=
  (bindVH (anew 3 h0 a1) fun t0 h1 => (abin .lss a0 (iq 0)).bind fun t2 => gpq false t2 (some a0) h1 fun t3 h4 => gpq false t2 (abin .gtr t3 (iq 67108864)) h4 fun t6 h7 => (apick t2 (.bool true) t6).bind fun t8 => acond t8 (some (.ret, [(iq 0)], h7)) ((abin .mul (iq 64) a0).bind fun t9 => (aload true 3 h7 t0).bind fun t10 => kq1 K 8 t10 h7 fun t11 h12 => (abin .add t9 t11).bind fun t13 => (abin .add t13 (iq 256)).bind fun t14 => some (.ret, [t14], h12))).bind fun r15 => uq1 r15.2 fun x4v16 h17 => Ex.endF r15.1 (finR (List.length h0) x4v16 h17)
theorem m5_eq K a0 a1 h0 : evB Tryz.prog ann lpW K 5 [a0, a1] h0 = m5 (callP ann K) a0 a1 h0 := by kernel_rfl

/- hauberk/outcome.Slack -/
def m7 (K : CallO) (a0 : AVal) (h0 : Heap) : OH :=
  (bindVH (anew 3 h0 a0) fun t0 h1 => (aload true 3 h1 t0).bind fun t2 => kq2 K 10 t2 (iq 0) h1 fun t3 h4 => aq .neq t3 (iq 0) (some (.ret, [(iq 0)], h4)) (fq 1 t0 h4 fun t7 => fq 2 t0 h4 fun t9 => (abin .mul (iq 2) t9).bind fun t10 => (abin .add t7 t10).bind fun t11 => (abin .mul (iq 32) t11).bind fun t12 => (abin .add t12 (iq 256)).bind fun t13 => some (.ret, [t13], h4))).bind fun r14 => uq1 r14.2 fun x2v15 h16 => Ex.endF r14.1 (finR (List.length h0) x2v15 h16)
theorem m7_eq K a0 h0 : evB Tryz.prog ann lpW K 7 [a0] h0 = m7 (callP ann K) a0 h0 := by kernel_rfl

/- hauberk/hauberkref10.Slack -/
def m8 (K : CallO) (a0 : AVal) (h0 : Heap) : OH :=
  (bindVH (anew 3 h0 a0) fun t0 h1 => (aload true 3 h1 t0).bind fun t2 => kq2 K 11 t2 (iq 0) h1 fun t3 h4 => aq .neq t3 (iq 0) (some (.ret, [(iq 0)], h4)) (fq 1 t0 h4 fun t7 => (abin .mul (iq 32) t7).bind fun t8 => (abin .add (iq 256) t8).bind fun t9 => fq 2 t0 h4 fun t11 => (abin .mul (iq 64) t11).bind fun t12 => (abin .add t9 t12).bind fun t13 => some (.ret, [t13], h4))).bind fun r14 => uq1 r14.2 fun x2v15 h16 => Ex.endF r14.1 (finR (List.length h0) x2v15 h16)
theorem m8_eq K a0 h0 : evB Tryz.prog ann lpW K 8 [a0] h0 = m8 (callP ann K) a0 h0 := by kernel_rfl

/- hauberk/memmap.Check -/
def m10_l0 (K : CallO) (m : Nat) (s : St) : Option R :=
  uq7 s fun x1v12 x2v13 x4v14 x5v15 x16v16 x17v17 x18v18 h19 => aq .lss x18v18 x17v17 ((aindexSl 1 x16v16 x18v18).bind fun t21 => (aload false 1 h19 t21).bind fun t22 => (abin .lss t22 (iq 0)).bind fun t23 => gpq false t23 (some t22) h19 fun t24 h25 => gpq false t23 (abin .rem t24 (iq 4)) h25 fun t27 h28 => gpq false t23 (abin .neq t27 (iq 0)) h28 fun t30 h31 => (apick t23 (.bool true) t30).bind fun t32 => acond t32 (endR m .ret [x1v12, x2v13, (iq 2), x5v15, x16v16, x17v17, x18v18] h31) (gpq false x5v15 (some t22) h31 fun t33 h34 => gpq false x5v15 (abin .gtr t33 (iq 65536)) h34 fun t36 h37 => (apick x5v15 (.bool true) t36).bind fun t38 => (abin .add x18v18 (iq 1)).bind fun t39 => endR m .normal [x1v12, x2v13, x4v14, t38, x16v16, x17v17, t39] h37)) (endR m (.exit 0) [x1v12, x2v13, x4v14, x5v15, x16v16, x17v17, x18v18] h19)
def m10 (K : CallO) (a0 a1 : AVal) (h0 : Heap) : OH :=
  (bindVH (anew 3 h0 a0) fun t0 h1 => (abin .gtr a1 (iq 262144)).bind fun t2 => fq 0 t0 h1 fun t4 => fq 1 t0 h1 fun t6 => fq 2 t0 h1 fun t8 => bindVH (abuildSlice 3 1 [(iq 0)] [(0, t4), (1, t6), (2, t8)] h1) fun t9 h10 => (alenSl t9).bind fun t11 => (lpW (m10_l0 K (List.length h10)) ([a1, t0, (iq 0), t2, t9, t11, (iq 0)], h10)).bind fun r40 => uq7 r40.2 fun x1v42 x2v43 x4v44 x5v45 x16v46 x17v47 x18v48 h49 => Ex.thenDo r40.1 none (fun e41 => Ex.inBlock 0 e41 ((abin .lss x1v42 (iq 0)).bind fun t51 => gpq false t51 (afieldAt 2 x2v43) h49 fun t53 h54 => gpq false t51 (aload false 1 h54 t53) h54 fun t56 h57 => gpq false t51 (abin .lss t56 (iq 4)) h57 fun t59 h60 => (apick t51 (.bool true) t59).bind fun t61 => acond t61 (some (.ret, [(iq 2)], h60)) (acond x5v45 (some (.ret, [(iq 5)], h60)) (some (.ret, [(iq 0)], h60)))) (fun e50 => some (e50, [x4v44], h49)))).bind fun r62 => uq1 r62.2 fun x4v63 h64 => Ex.endF r62.1 (finR (List.length h0) x4v63 h64)
theorem m10_eq K a0 a1 h0 : evB Tryz.prog ann lpW K 10 [a0, a1] h0 = m10 (callP ann K) a0 a1 h0 := by kernel_rfl

/- hauberk/hauberkref05.Check -/
def m11 (K : CallO) (a0 a1 : AVal) (h0 : Heap) : OH :=
  (bindVH (anew 3 h0 a0) fun t0 h1 => fq 0 t0 h1 fun t3 => fq 1 t0 h1 fun t5 => fq 2 t0 h1 fun t7 => (abin .sub t7 (iq 4)).bind fun t8 => (aminN t3 [t5, t8, a1]).bind fun t9 => (abin .lss t9 (iq 0)).bind fun t10 => gpq false t10 (afieldAt 2 t0) h1 fun t12 h13 => gpq false t10 (aload false 1 h13 t12) h13 fun t15 h16 => gpq false t10 (abin .lss t15 (iq 4)) h16 fun t18 h19 => (apick t10 (.bool true) t18).bind fun t20 => gpq false t20 (afieldAt 0 t0) h19 fun t22 h23 => gpq false t20 (aload false 1 h23 t22) h23 fun t25 h26 => gpq false t20 (abin .rem t25 (iq 4)) h26 fun t28 h29 => gpq false t20 (abin .neq t28 (iq 0)) h29 fun t31 h32 => (apick t20 (.bool true) t31).bind fun t33 => gpq false t33 (afieldAt 1 t0) h32 fun t35 h36 => gpq false t33 (aload false 1 h36 t35) h36 fun t38 h39 => gpq false t33 (abin .rem t38 (iq 4)) h39 fun t41 h42 => gpq false t33 (abin .neq t41 (iq 0)) h42 fun t44 h45 => (apick t33 (.bool true) t44).bind fun t46 => gpq false t46 (afieldAt 2 t0) h45 fun t48 h49 => gpq false t46 (aload false 1 h49 t48) h49 fun t51 h52 => gpq false t46 (abin .rem t51 (iq 4)) h52 fun t54 h55 => gpq false t46 (abin .neq t54 (iq 0)) h55 fun t57 h58 => (apick t46 (.bool true) t57).bind fun t59 => acond t59 (some (.ret, [(iq 2)], h58)) (fq 0 t0 h58 fun t61 => fq 1 t0 h58 fun t63 => fq 2 t0 h58 fun t65 => (amaxN t61 [t63, t65]).bind fun t66 => (abin .gtr t66 (iq 65536)).bind fun t67 => gpq false t67 (some a1) h58 fun t68 h69 => gpq false t67 (abin .gtr t68 (iq 262144)) h69 fun t71 h72 => (apick t67 (.bool true) t71).bind fun t73 => acond t73 (some (.ret, [(iq 5)], h72)) (some (.ret, [(iq 0)], h72)))).bind fun r74 => uq1 r74.2 fun x4v75 h76 => Ex.endF r74.1 (finR (List.length h0) x4v75 h76)
theorem m11_eq K a0 a1 h0 : evB Tryz.prog ann lpW K 11 [a0, a1] h0 = m11 (callP ann K) a0 a1 h0 := by kernel_rfl
end
section
open Go Hk
noncomputable abbrev KK : CallO := callP ann (evW Tryz.prog ann)
theorem rem4 {n : Int} : abin .rem (.int .i64 n) (.int .i64 4) = some (.int .i64 (n.tmod 4)) := (rfl)
def badS (x : Int) : Prop := x < 0 ∨ ¬ Int.tmod x 4 = 0
instance (x : Int) : Decidable (badS x) := by unfold badS; infer_instance
def chkS (i o r : Int) : Int := if badS i ∨ badS o ∨ badS r ∨ r < 4 then 2 else if 65536 < i ∨ 65536 < o ∨ 65536 < r then 5 else 0
def szA (i o r : Int) : AVal := .agg [.int .i64 i, .int .i64 o, .int .i64 r]
def hp (i o r : Int) : Heap := [.cells [.int .i64 i, .int .i64 o, .int .i64 r], .front 3 1]
def stA (i o r : Int) (e : Int) (g : Bool) (k : Int) : List AVal := [.int .i64 0, .ptr 0 0, .int .i64 e, .bool g, .slice [[.int .i64 i], [.int .i64 o], [.int .i64 r]] (.own 1), .int .i64 3, .int .i64 k]
section
variable {K : CallO} {i o r : Int} {g : Bool}
theorem rnd0 : m10_l0 K 2 (stA i o r 0 g 0, hp i o r) = if badS i then some (.ret, stA i o r 2 g 0, hp i o r) else some (.normal, stA i o r 0 (g || decide (65536 < i)) 1, hp i o r) := by
  have q : ∀ h k, k < 2 → AVal.san1 2 h (.ptr k 0) = .ptr k 0 := fun h k hk => san1_ptr hk
  unfold badS
  by_cases a : i < 0 <;> by_cases b : Int.tmod i 4 = 0 <;> cases g <;> simp [stA, hp, m10_l0, aindexSl, a, b, q, endR, trunc, rem4, wrap64]
theorem rnd1 : m10_l0 K 2 (stA i o r 0 g 1, hp i o r) = if badS o then some (.ret, stA i o r 2 g 1, hp i o r) else some (.normal, stA i o r 0 (g || decide (65536 < o)) 2, hp i o r) := by
  have q : ∀ h k, k < 2 → AVal.san1 2 h (.ptr k 0) = .ptr k 0 := fun h k hk => san1_ptr hk
  unfold badS
  by_cases a : o < 0 <;> by_cases b : Int.tmod o 4 = 0 <;> cases g <;> simp [stA, hp, m10_l0, aindexSl, a, b, q, endR, trunc, rem4, wrap64]
theorem rnd2 : m10_l0 K 2 (stA i o r 0 g 2, hp i o r) = if badS r then some (.ret, stA i o r 2 g 2, hp i o r) else some (.normal, stA i o r 0 (g || decide (65536 < r)) 3, hp i o r) := by
  have q : ∀ h k, k < 2 → AVal.san1 2 h (.ptr k 0) = .ptr k 0 := fun h k hk => san1_ptr hk
  unfold badS
  by_cases a : r < 0 <;> by_cases b : Int.tmod r 4 = 0 <;> cases g <;> simp [stA, hp, m10_l0, aindexSl, a, b, q, endR, trunc, rem4, wrap64]
theorem rnd3 : m10_l0 K 2 (stA i o r 0 g 3, hp i o r) = some (.exit 0, stA i o r 0 g 3, hp i o r) := by
  have q : ∀ h k, k < 2 → AVal.san1 2 h (.ptr k 0) = .ptr k 0 := fun h k hk => san1_ptr hk
  simp [stA, hp, m10_l0, q, endR, trunc]
theorem lp10 : ∃ k : Bool × Int, lpW (m10_l0 K 2) (stA i o r 0 false 0, hp i o r) = if badS i ∨ badS o ∨ badS r then some (.ret, stA i o r 2 k.1 k.2, hp i o r) else some (.exit 0, stA i o r 0 (decide (65536 < i) || decide (65536 < o) || decide (65536 < r)) 3, hp i o r) := by
  rw [lpW_step, rnd0]
  by_cases a : badS i
  · exact ⟨(false, 0), by simp [a, Ex.thenDo]⟩
  · simp only [a, if_false, Option.bind_some, Ex.thenDo]
    rw [lpW_step, rnd1]
    by_cases b : badS o
    · exact ⟨(false || decide (65536 < i), 1), by simp [b, Ex.thenDo]⟩
    · simp only [b, if_false, Option.bind_some, Ex.thenDo]
      rw [lpW_step, rnd2]
      by_cases c : badS r
      · exact ⟨(false || decide (65536 < i) || decide (65536 < o), 2), by simp [c, Ex.thenDo]⟩
      · simp only [c, if_false, Option.bind_some, Ex.thenDo]
        rw [lpW_step, rnd3]
        exact ⟨(false, 0), by simp [Ex.thenDo]⟩
theorem b3 {a b c : Int} : abuildRow 3 1 [.int .i64 0] [(0, .int .i64 a), (1, .int .i64 b), (2, .int .i64 c)] = some [[.int .i64 a], [.int .i64 b], [.int .i64 c]] := (rfl)
theorem c10 (h : Heap) : KK 10 [szA i o r, .int .i64 0] h = some (.ret (.int .i64 (chkS i o r)), h) := by
  refine callP_pure rfl rfl (evW_by (m10_eq _ _ _ _) ?_)
  obtain ⟨⟨g, k⟩, e⟩ := lp10 (K := callP ann (evW Tryz.prog ann)) (i := i) (o := o) (r := r)
  simp only [stA, hp] at e
  unfold chkS
  by_cases a : badS i ∨ badS o ∨ badS r
  · have a' : badS i ∨ badS o ∨ badS r ∨ r < 4 := by rcases a with a | a | a <;> simp [a]
    rw [if_pos a] at e
    rw [if_pos a']
    simp -implicitDefEqProofs [m10, szA, anew, tokCells, putCells, abuildSlice, b3, e, finR_zero]
  · rw [if_neg a] at e
    have a' : (badS i ∨ badS o ∨ badS r ∨ r < 4) = (r < 4) := by simp only [not_or] at a; simp [a]
    simp only [a']
    by_cases b : r < 4
    · simp -implicitDefEqProofs [m10, szA, anew, tokCells, putCells, abuildSlice, b3, e, b, finR_zero]
    · by_cases d : 65536 < i ∨ 65536 < o ∨ 65536 < r
      · have d' : (decide (65536 < i) || decide (65536 < o) || decide (65536 < r)) = true := by rcases d with d | d | d <;> simp [d]
        rw [d'] at e
        simp -implicitDefEqProofs [m10, szA, anew, tokCells, putCells, abuildSlice, b3, e, b, d, finR_zero]
      · have d' : (decide (65536 < i) || decide (65536 < o) || decide (65536 < r)) = false := by simp only [not_or] at d; simp [d]
        rw [d'] at e
        simp -implicitDefEqProofs [m10, szA, anew, tokCells, putCells, abuildSlice, b3, e, b, d, finR_zero]
theorem c11 (hr : r ≤ 9223372036854775807) (h : Heap) : KK 11 [szA i o r, .int .i64 0] h = some (.ret (.int .i64 (chkS i o r)), h) := by
  refine callP_pure rfl rfl (evW_by (m11_eq _ _ _ _) ?_)
  have hw : 4 ≤ r → IntKind.wrap .i64 (r - 4) = r - 4 := fun h => wrap64 (by omega) (by omega)
  by_cases a : min i (min o (min (IntKind.i64.wrap (r - 4)) 0)) < 0
  · have e : chkS i o r = 2 := by
      unfold chkS badS
      refine if_pos ?_
      by_cases h4 : 4 ≤ r
      · rw [hw h4] at a; omega
      · omega
    rw [e]
    simp -implicitDefEqProofs [m11, szA, anew, tokCells, putCells, aminN, amaxN, rem4, finR_zero, eq_true a]
  · by_cases b : r < 4
    · have e : chkS i o r = 2 := by
        unfold chkS; exact if_pos (by omega)
      rw [e]
      simp -implicitDefEqProofs [m11, szA, anew, tokCells, putCells, aminN, amaxN, rem4, finR_zero, eq_false a, b]
    · rw [hw (by omega)] at a
      have hw' := hw (by omega)
      have hi : ¬ i < 0 := by omega
      have ho : ¬ o < 0 := by omega
      have a1 := eq_false a
      by_cases d1 : Int.tmod i 4 = 0 <;> by_cases d2 : Int.tmod o 4 = 0 <;> by_cases d3 : Int.tmod r 4 = 0 <;>
        simp -implicitDefEqProofs [m11, szA, anew, tokCells, putCells, aminN, amaxN, rem4, finR_zero, hw', a1, b, d1, d2, d3, chkS, badS, hi, ho]
      · by_cases d : 65536 < max i (max o r)
        · have dd : 65536 < i ∨ 65536 < o ∨ 65536 < r := by omega
          have d4 : ¬ r < 0 := by omega
          simp [d, dd, d4]
        · have dd : ¬ (65536 < i ∨ 65536 < o ∨ 65536 < r) := by omega
          have d4 : ¬ r < 0 := by omega
          simp [d, dd, d4]
end
end
section
open Go Hk

theorem mainIs : Tryz.pinned.checked.prog.mainIs = some (true, "024d597c545a3983fae6db119af80bbca6904352dd5d2f29becdc2e1bd9348f2".toList) := by kernel_rfl
theorem looksUp : false = Tryz.pinned.checked.prog.looks [] := by kernel_rfl
theorem and_mk {a b : Bool} (h : a = true) (g : b = true) : (a && b) = true := by rw [h, g]; rfl
theorem own : ownKnob Tryz.prog.godebug = none := by kernel_rfl
theorem laidOut : laidOutB Tryz.prog = true := by kernel_rfl
theorem follows : Tryz.prog.follows .mixedOrders = true := by kernel_rfl
theorem extOk : ExtOk Tryz.prog ann := by
  refine ⟨fun f hf => (by cases hf), fun f hf => (by cases hf), fun f g hf => (by cases hf), fun f k hf => (by cases hf)⟩

theorem gBru : Tryz.prog.globalNamed "math/bits.deBruijn64tab" = some 0 := by kernel_rfl
theorem tBru : (Tryz.prog.globals[0]?).map (·.type) = some 181 := by kernel_rfl
def bruN : List Int := [0,1,56,2,57,49,28,3,61,58,42,50,38,29,17,4,62,47,59,36,45,43,51,22,53,39,33,30,24,18,12,5,63,55,48,27,60,41,37,16,46,35,44,21,52,32,23,11,54,26,40,15,34,20,31,10,25,14,19,9,13,8,7,6]
def laid5 : List (String × DataW Unit) := [("math/bits.deBruijn64tab", Rows.laid_math_bits_deBruijn64tab)]
theorem bru_laid {W : World} (h : laidMetH Tryz.prog laid5 W) : Lib.TabIs Tryz.prog W "math/bits.deBruijn64tab" .u8 bruN := by
  rw [MakeChecks.laidMetH_plain _ _ _ (by kernel_rfl)] at h
  obtain ⟨ps, ⟨g1, t1, cs1, f1, p1, q1, hg1, ht1, hv1, hd1, _, _⟩, _, _⟩ := h
  obtain rfl := Option.some.inj (gBru.symm.trans hg1)
  obtain rfl := Option.some.inj (tBru.symm.trans ht1)
  unfold Lib.TabIs
  have e : (Rows.laid_math_bits_deBruijn64tab : DataW Unit) = Lib.tabData .u8 bruN := by kernel_rfl
  rw [e] at hd1
  rw [hv1, ← Lib.cells_of_tab (k := .u8) Tryz.underlying181 Tryz.underlying5 (by kernel_rfl) (by kernel_rfl) hd1]
theorem globOk {W : World} (h : laidMetH Tryz.prog laid5 W) : GlobOk ann (gh W) [] W := by
  have hT := bru_laid h
  refine ⟨fun g cs hg => ?_, fun g n hg => (by cases hg)⟩
  have hg' : g = 0 ∧ cs = gBruijn := by
    unfold ann at hg
    simp only [] at hg
    split at hg
    · rename_i h0; exact ⟨h0, (Option.some.inj hg).symm⟩
    · cases hg
  obtain ⟨rfl, rfl⟩ := hg'
  have eG : gBruijn = bruN.map (AVal.int .u8) := rfl
  rw [eG]
  refine .pptr _ 0 0 (fun j => .int .u8 (bruN.getD j 0)) ?_ ?_ ?_
  · intro j v hv
    have hj : j < bruN.length := by
      have := (List.getElem?_eq_some_iff.1 hv).1
      simpa using this
    simpa [gh] using hT.cell gBru j hj
  · intro j v hv
    simp only [List.getElem?_map, Option.map_eq_some_iff] at hv
    obtain ⟨z, _, rfl⟩ := hv
    rfl
  · intro j v hv
    simp only [List.getElem?_map, Option.map_eq_some_iff] at hv
    obtain ⟨z, hz, rfl⟩ := hv
    have : bruN.getD j 0 = z := by simp [List.getD, hz]
    rw [this]
    exact .int _ _

theorem wtables (args : Array Value) (os : Os) : laidMetH Tryz.prog laid5 ((World.doorLaid Tryz.prog 600 os).forCall (fun _ _ => 0) ⟨#[], args, []⟩).memory :=
  laidMetH_of_parts3 (fuel := 8) (laidMet_of_run' 8 (by kernel_rfl) (by kernel_rfl)) (by kernel_rfl) (by kernel_rfl)
theorem wshape (args : Array Value) (os : Os) : ((World.doorLaid Tryz.prog 600 os).forCall (fun _ _ => 0) ⟨#[], args, []⟩).variablesRefB Tryz.prog = true := by kernel_rfl
theorem wrest (args : Array Value) (os : Os) : ((((World.doorLaid Tryz.prog 600 os).forCall (fun _ _ => 0) ⟨#[], args, []⟩).heap.toList.drop Tryz.prog.globals.size).take ((begin Tryz.prog (fun _ _ => 0) default).world.heap.size - Tryz.prog.globals.size)) =
      (begin Tryz.prog (fun _ _ => 0) default).world.heap.toList.drop Tryz.prog.globals.size := by kernel_rfl

/-! ### Readers -/
structure Sz where
  i : Int
  o : Int
  r : Int
theorem rdInt (n : Nat) : Rd Tryz.prog n 3 (fun z : Int => [.int .i64 z]) (fun z => (Lit.int .i64 z).wf = true) := .int Tryz.underlying3
theorem rdSz (n : Nat) : Rd Tryz.prog n 23 (fun z : Sz => [.int .i64 z.i, .int .i64 z.o, .int .i64 z.r]) (fun z => (Lit.int .i64 z.r).wf = true) := by
  refine Rd.mono (n := n + 1) (by omega) ?_
  refine (Rd.struct (n := n) (total := 3) Tryz.underlying23 (by kernel_rfl)
    (.cons (sz := 1) rfl (by kernel_rfl) (rdInt n) (.cons (sz := 1) rfl (by kernel_rfl) (rdInt n) (.cons (sz := 1) rfl (by kernel_rfl) (rdInt n) .nil)))).to
    (fun z => (⟨z.1, z.2.1, z.2.2.1⟩ : Sz)) (fun z => rfl) (fun _ h => h.2.2.1)
theorem aggSz {W : World} {b : Nat} {V : Value} (h : Value.okWide Tryz.prog W .any b 23 V) : ∃ C, V = .agg C := by
  simp only [Value.okWide, Tryz.underlying23] at h
  obtain ⟨cs, h, _⟩ := h
  exact ⟨cs, h⟩
theorem noAggI {W : World} {b : Nat} {V : Value} (h : Value.okWide Tryz.prog W .any b 3 V) : ∀ C, V ≠ .agg C := by
  intro C hC
  subst hC
  simp [Value.okWide, Tryz.underlying3, Cell.okWide, Cell.ok] at h
end
section
open Go Hk
variable {i o r : Int}
def slk (i o r : Int) : Int := if chkS i o r = 0 then 32 * o + 64 * r + 256 else 0
theorem chk0 (h : chkS i o r = 0) : (0 ≤ i ∧ i ≤ 65536) ∧ (0 ≤ o ∧ o ≤ 65536) ∧ (0 ≤ r ∧ r ≤ 65536) := by
  unfold chkS at h
  split at h
  · omega
  · rename_i a
    split at h
    · omega
    · rename_i b
      simp only [badS, not_or] at a b
      omega
theorem c7 (h : Heap) : KK 7 [szA i o r] h = some (.ret (.int .i64 (slk i o r)), h) := by
  refine callP_pure rfl rfl (evW_by (m7_eq _ _ _) ?_)
  have k := c10 (i := i) (o := o) (r := r)
  unfold slk
  by_cases a : chkS i o r = 0
  · obtain ⟨_, h2, h3⟩ := chk0 a
    rw [a] at k
    have w1 : IntKind.wrap .i64 (2 * r) = 2 * r := wrap64 (by omega) (by omega)
    have w2 : IntKind.wrap .i64 (o + 2 * r) = o + 2 * r := wrap64 (by omega) (by omega)
    have w3 : IntKind.wrap .i64 (32 * (o + 2 * r)) = 32 * (o + 2 * r) := wrap64 (by omega) (by omega)
    have w4 : IntKind.wrap .i64 (32 * (o + 2 * r) + 256) = 32 * (o + 2 * r) + 256 := wrap64 (by omega) (by omega)
    have w5 : 32 * (o + 2 * r) + 256 = 32 * o + 64 * r + 256 := by omega
    rw [if_pos a, ← w5]
    simp only [szA] at k ⊢
    simp -implicitDefEqProofs [m7, k, anew, tokCells, putCells, w1, w2, w3, w4, finR_zero]
  · rw [if_neg a]
    simp only [szA] at k ⊢
    simp -implicitDefEqProofs [m7, k, anew, tokCells, putCells, a, finR_zero]
theorem c8 (hr : r ≤ 9223372036854775807) (h : Heap) : KK 8 [szA i o r] h = some (.ret (.int .i64 (slk i o r)), h) := by
  refine callP_pure rfl rfl (evW_by (m8_eq _ _ _) ?_)
  have k := c11 (i := i) (o := o) hr
  unfold slk
  by_cases a : chkS i o r = 0
  · obtain ⟨_, h2, h3⟩ := chk0 a
    rw [a] at k
    have w1 : IntKind.wrap .i64 (32 * o) = 32 * o := wrap64 (by omega) (by omega)
    have w2 : IntKind.wrap .i64 (256 + 32 * o) = 256 + 32 * o := wrap64 (by omega) (by omega)
    have w3 : IntKind.wrap .i64 (64 * r) = 64 * r := wrap64 (by omega) (by omega)
    have w4 : IntKind.wrap .i64 (256 + 32 * o + 64 * r) = 256 + 32 * o + 64 * r := wrap64 (by omega) (by omega)
    have w5 : 256 + 32 * o + 64 * r = 32 * o + 64 * r + 256 := by omega
    rw [if_pos a, ← w5]
    simp only [szA] at k ⊢
    simp -implicitDefEqProofs [m8, k, anew, tokCells, putCells, w1, w2, w3, w4, finR_zero]
  · rw [if_neg a]
    simp only [szA] at k ⊢
    simp -implicitDefEqProofs [m8, k, anew, tokCells, putCells, a, finR_zero]
def stp (n i o r : Int) : Int := if n < 0 ∨ 67108864 < n then 0 else IntKind.wrap .i64 (IntKind.wrap .i64 (IntKind.wrap .i64 (64 * n) + slk i o r) + 256)
theorem c4 (n : Int) (h : Heap) : KK 4 [.int .i64 n, szA i o r] h = some (.ret (.int .i64 (stp n i o r)), h) := by
  refine callP_pure rfl rfl (evW_by (m4_eq _ _ _ _) ?_)
  have k := c7 (i := i) (o := o) (r := r)
  unfold stp
  by_cases a : n < 0
  · simp only [szA] at k ⊢
    simp -implicitDefEqProofs [m4, k, anew, tokCells, putCells, a, finR_zero]
  · by_cases b : 67108864 < n
    · simp only [szA] at k ⊢
      simp -implicitDefEqProofs [m4, k, anew, tokCells, putCells, a, b, finR_zero]
    · simp only [szA] at k ⊢
      simp -implicitDefEqProofs [m4, k, anew, tokCells, putCells, a, b, finR_zero]
theorem c5 (n : Int) (hr : r ≤ 9223372036854775807) (h : Heap) : KK 5 [.int .i64 n, szA i o r] h = some (.ret (.int .i64 (stp n i o r)), h) := by
  refine callP_pure rfl rfl (evW_by (m5_eq _ _ _ _) ?_)
  have k := c8 (i := i) (o := o) hr
  unfold stp
  by_cases a : n < 0
  · simp only [szA] at k ⊢
    simp -implicitDefEqProofs [m5, k, anew, tokCells, putCells, a, finR_zero]
  · by_cases b : 67108864 < n
    · simp only [szA] at k ⊢
      simp -implicitDefEqProofs [m5, k, anew, tokCells, putCells, a, b, finR_zero]
    · simp only [szA] at k ⊢
      simp -implicitDefEqProofs [m5, k, anew, tokCells, putCells, a, b, finR_zero]
end
section
open Go Hk
set_option maxRecDepth 100000 in
theorem run6 : evF Tryz.prog ann (loopN 200) 16 6 [] [] = some (.ret (.bool true), []) := by kernel_rfl
theorem c6 (h : Heap) : KK 6 [] h = some (.ret (.bool true), h) := callP_pure rfl rfl (evW_run 200 16 6 _ _ _ run6)
end
section
open Go Hk
theorem law3 (n : Int) (z : Sz) (hz : (Lit.int .i64 z.r).wf = true) : evW Tryz.prog ann 3 [.int .i64 n, .agg [.int .i64 z.i, .int .i64 z.o, .int .i64 z.r]] [] = some (.ret (.bool true), []) := by
  have hr : z.r ≤ 9223372036854775807 := by
    have e : IntKind.max .i64 = 9223372036854775807 := by rfl
    simp only [Lit.wf, e, Bool.and_eq_true, decide_eq_true_eq] at hz
    exact hz.2
  refine evW_by (m3_eq _ _ _ _) ?_
  have k4 := c4 (i := z.i) (o := z.o) (r := z.r) n
  have k5 := c5 (i := z.i) (o := z.o) n hr
  have k6 := c6
  simp only [szA] at k4 k5
  simp -implicitDefEqProofs [m3, k4, k5, k6, anew, tokCells, putCells, hide, hide1, unhide, unhide1, lockIds, addrId, finR_zero]
end
end Go.Proofs.YtckbkcjhalimpacGreatDoor
