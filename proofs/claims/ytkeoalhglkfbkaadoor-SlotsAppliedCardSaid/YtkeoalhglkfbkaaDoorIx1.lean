/-
  The texts IX.M, IX.A, IX.L26, IX.T1, IX.T2, IX.V, IX.U, IX.M2, IX.B, IX.H, IX.C, IX.D, one behind another. No conditions.
-/
import Derived.Test.YtkeoalhglkfbkaaDoorProg
import Derived.Test.YtkeoalhglkfbkaaDoorVk3
import Derived.KernelRfl
import Derived.Shelf.Sort.Plain
import Derived.Shelf.Slices.In.SortNone
import Derived.Lib.SlKeysI
import Derived.Sort.OwnSortedInts
import Derived.Maps.RangeWalk
import Derived.Maps.AppendAt
import Derived.Maps.Ext
import Derived.OwnWalk
import Derived.WalkKit
import Derived.Test.YtkeoalhglkfbkaaDoorVk2
import Derived.Test.YtkeoalhglkfbkaaDoorRows
import Derived.Lib.LaidTab
import Derived.LaidMore
import Derived.MakeChecks
import Derived.LaidHandle
import Derived.SevenTiedAt
set_option linter.unusedVariables false
set_option linter.unusedSimpArgs false
set_option linter.unusedSectionVars false
set_option linter.all false
/-
  The shallow forms of the functions on programs of blocks, each equal to the evaluator's run of its code. No conditions.
-/
namespace Go.Proofs.YtkeoalhglkfbkaaDoor
open Go Hk
def inlined : List Nat := [63, 69, 70, 71, 91, 92, 93, 94, 98, 99, 122, 123, 135, 136, 59, 60, 61, 62, 72, 120, 174, 83, 85, 95, 96, 103, 104, 105, 86, 89, 90, 160, 191, 192, 193, 194, 195, 196, 197, 198, 235, 236, 238, 239, 255, 99, 98, 83]
def gBruijn : List AVal := [0, 1, 56, 2, 57, 49, 28, 3, 61, 58, 42, 50, 38, 29, 17, 4, 62, 47, 59, 36, 45, 43, 51, 22, 53, 39, 33, 30, 24, 18, 12, 5, 63, 55, 48, 27, 60, 41, 37, 16, 46, 35, 44, 21, 52, 32, 23, 11, 54, 26, 40, 15, 34, 20, 31, 10, 25, 14, 19, 9, 13, 8, 7, 6].map (.int .u8)
def olds : List Nat := [6, 7, 12, 13, 25, 26, 27, 28, 29, 30, 31, 32, 38, 39, 40, 41, 42, 58, 59, 60, 61, 62, 63, 64, 65, 66, 67, 68, 69, 70, 71, 73, 74, 80, 81, 82, 100, 101, 120, 121, 122, 123, 124, 125, 126, 127, 128, 129, 130, 131, 132, 133, 134, 135, 136, 156, 157, 158, 162, 163, 164, 174, 175, 176, 189, 190]
def ann : Ann := { glob := fun g => if g = 1 then some gBruijn else none, pure := fun f => !(inlined.contains f), esc := fun f => f == 122 || f == 59 || f == 60 || f == 61, out := fun f => f == 100, frr := fun f => f == 31, vmk := fun f => f == 31 || f == 40 || !(olds.contains f), grow := fun f => f == 122 || f == 60 || f == 61, vec := fun f => f == 122 || f == 59 || f == 130 || f == 100 || f == 84 || f == 47 || f == 91 || f == 94, vlit := fun f => f == 58 || f == 130, frz := fun f => f == 27 || f == 40, srt := fun f => f == 72, vecT := fun f t => (f == 50 && t == 39), sub := fun f => f == 99 || f == 98 || f == 83, jt := fun f => !(olds.contains f) }
/- hauberk/ir.Check -/
noncomputable def m30_l0 (K : CallO) (m : Nat) (s : List AVal × Heap) : Option R :=
  (fun x1v81 x2v82 x3v83 x50v84 x51v85 x52v86 h87 => (abin .lss x52v86 x51v85).bind fun t88 => acond t88 ((aindexSl 4 x50v84 x52v86).bind fun t89 => (aload true 4 h87 t89).bind fun t90 => bindVH (anew 4 h87 (.agg [(.int .i64 0), (.int .i64 0), (.int .i64 0), (.int .i64 0)])) fun t91 h92 => (astore 4 h92 t91 t90).bind fun h93 => (aload true 4 h93 t91).bind fun t94 => bindRes (K 69 [(AVal.untok x3v83), (AVal.untok t94)] h93) (fun t95 h96 => (aun .not t95).bind fun t97 => acond t97 (endR m .ret [x1v81, (.int .i64 2), x3v83, x50v84, x51v85, x52v86] h96) ((abin .add x52v86 (.int .i64 1)).bind fun t98 => endR m .normal [x1v81, x2v82, x3v83, x50v84, x51v85, t98] h96)) (fun _ _ => none)) (endR m (.exit 0) [x1v81, x2v82, x3v83, x50v84, x51v85, x52v86] h87)) (List.getD s.1 0 .junk) (List.getD s.1 1 .junk) (List.getD s.1 2 .junk) (List.getD s.1 3 .junk) (List.getD s.1 4 .junk) (List.getD s.1 5 .junk) s.2
noncomputable def m30_l1 (K : CallO) (m : Nat) (s : List AVal × Heap) : Option R :=
  (fun x2v127 x3v128 x7v129 x62v130 x63v131 x64v132 x69v133 x70v134 x71v135 h136 => (abin .lss x71v135 x70v134).bind fun t137 => acond t137 ((aindexSl 6 x69v133 x71v135).bind fun t138 => (aload true 6 h136 t138).bind fun t139 => bindVH (anew 6 h136 (.agg [(.int .i64 0), (.int .i64 0), (.int .i64 0), (.int .i64 0), (.int .i64 0), (.int .i64 0)])) fun t140 h141 => (astore 6 h141 t140 t139).bind fun h142 => (aload true 6 h142 t140).bind fun t143 => bindRes (K 70 [(AVal.untok x3v128), (AVal.untok t143)] h142) (fun t144 h145 => (aun .not t144).bind fun t146 => acond t146 (endR m .ret [(.int .i64 2), x3v128, x7v129, x62v130, x63v131, x64v132, x69v133, x70v134, x71v135] h145) ((abin .add x71v135 (.int .i64 1)).bind fun t147 => endR m .normal [x2v127, x3v128, x7v129, x62v130, x63v131, x64v132, x69v133, x70v134, t147] h145)) (fun _ _ => none)) (endR m (.exit 4) [x2v127, x3v128, x7v129, x62v130, x63v131, x64v132, x69v133, x70v134, x71v135] h136)) (List.getD s.1 0 .junk) (List.getD s.1 1 .junk) (List.getD s.1 2 .junk) (List.getD s.1 3 .junk) (List.getD s.1 4 .junk) (List.getD s.1 5 .junk) (List.getD s.1 6 .junk) (List.getD s.1 7 .junk) (List.getD s.1 8 .junk) s.2
noncomputable def m30_l2 (K : CallO) (m : Nat) (s : List AVal × Heap) : Option R :=
  (fun x2v112 x3v113 x62v114 x63v115 x64v116 h117 => (abin .lss x64v116 x63v115).bind fun t118 => acond t118 (((aindexSl 5 x62v114 x64v116).bind fun t119 => (aload true 5 h117 t119).bind fun t120 => bindVH (anew 5 h117 (.agg [(.slice [] .nil), (.int .i64 0), (.int .i64 0), (.int .i64 0), (.int .i64 0)])) fun t121 h122 => (astore 5 h122 t121 t120).bind fun h123 => (afieldAt 0 t121).bind fun t124 => (aload false 1 h123 t124).bind fun t125 => (alenSl t125).bind fun t126 => (lpW (m30_l1 K (List.length h123)) ([x2v112, x3v113, t121, x62v114, x63v115, x64v116, t125, t126, (.int .i64 0)], h123)).bind fun r148 => (fun x2v150 x3v151 x7v152 x62v153 x63v154 x64v155 x69v156 x70v157 x71v158 h159 => Ex.thenDo r148.1 none (fun e149 => Ex.inBlock 4 e149 ((afieldAt 1 x7v152).bind fun t161 => (aload true 4 h159 t161).bind fun t162 => bindRes (K 71 [(AVal.untok x3v151), (AVal.untok t162)] h159) (fun t163 h164 => (aun .not t163).bind fun t165 => acond t165 (some (.ret, [(.int .i64 2), x3v151, x62v153, x63v154, x64v155], h164)) (some (.normal, [x2v150, x3v151, x62v153, x63v154, x64v155], h164))) (fun _ _ => none)) (fun e160 => some (e160, [x2v150, x3v151, x62v153, x63v154, x64v155], h159)))) (List.getD r148.2.1 0 .junk) (List.getD r148.2.1 1 .junk) (List.getD r148.2.1 2 .junk) (List.getD r148.2.1 3 .junk) (List.getD r148.2.1 4 .junk) (List.getD r148.2.1 5 .junk) (List.getD r148.2.1 6 .junk) (List.getD r148.2.1 7 .junk) (List.getD r148.2.1 8 .junk) r148.2.2).bind fun r166 => (fun x2v167 x3v168 x62v169 x63v170 x64v171 h172 => Ex.inBlock 3 r166.1 ((abin .add x64v171 (.int .i64 1)).bind fun t174 => endR m .normal [x2v167, x3v168, x62v169, x63v170, t174] h172) (fun e173 => endR m e173 [x2v167, x3v168, x62v169, x63v170, x64v171] h172)) (List.getD r166.2.1 0 .junk) (List.getD r166.2.1 1 .junk) (List.getD r166.2.1 2 .junk) (List.getD r166.2.1 3 .junk) (List.getD r166.2.1 4 .junk) r166.2.2) (endR m (.exit 2) [x2v112, x3v113, x62v114, x63v115, x64v116] h117)) (List.getD s.1 0 .junk) (List.getD s.1 1 .junk) (List.getD s.1 2 .junk) (List.getD s.1 3 .junk) (List.getD s.1 4 .junk) s.2
noncomputable def m30 (K : CallO) (a0 : AVal) (h0 : Heap) : Option (Res × Heap) :=
  (bindVH (anew 5 h0 a0) fun t0 h1 => (aload true 5 h1 t0).bind fun t2 => bindRes (K 67 [(AVal.untok t2)] h1) (fun t3 h4 => (aun .not t3).bind fun t5 => acond t5 (some (.ret, [(.int .i64 18)], h4)) ((aload true 5 h4 t0).bind fun t6 => (abuild [(.int .i64 0), (.slice [] .nil), (.slice [] .nil), (.int .i64 0), (.int .i64 0), (.int .i64 0)] [(0, 5), (5, 1)] [(0, t6)]).bind fun t7 => bindVH (anew 6 h4 t7) fun t8 h9 => (afieldAt 3 t0).bind fun t10 => (aload false 1 h9 t10).bind fun t11 => bindRes (K 68 [(AVal.untok t11), (AVal.untok (.int .i64 0)), (AVal.untok (.int .i64 65536))] h9) (fun t12 h13 => (aun .not t12).bind fun t14 => (guardSel false t14 ((afieldAt 4 t0).bind fun t15 => kv0 t15 h13) (kv0 (.tuple []) h13)).bind (fin0 (fun t16 h17 => (guardSel false t14 ((aload false 1 h17 t16).bind fun t18 => kv0 t18 h17) (kv0 (.tuple []) h17)).bind (fin0 (fun t19 h20 => (guardSel false t14 (bindRes (K 68 [(AVal.untok t19), (AVal.untok (.int .i64 0)), (AVal.untok (.int .i64 65536))] h20) (fun t21 h22 => kv0 t21 h22) kp0) (kv0 (.tuple []) h20)).bind (fin0 (fun t23 h24 => (guardSel false t14 ((aun .not t23).bind fun t25 => kv0 t25 h24) (kv0 (.tuple []) h24)).bind (fin0 (fun t26 h27 => (apick t14 (.bool true) t26).bind fun t28 => (guardSel false t28 ((afieldAt 3 t0).bind fun t29 => kv0 t29 h27) (kv0 (.tuple []) h27)).bind (fin0 (fun t30 h31 => (guardSel false t28 ((aload false 1 h31 t30).bind fun t32 => kv0 t32 h31) (kv0 (.tuple []) h31)).bind (fin0 (fun t33 h34 => (guardSel false t28 ((abin .rem t33 (.int .i64 4)).bind fun t35 => kv0 t35 h34) (kv0 (.tuple []) h34)).bind (fin0 (fun t36 h37 => (guardSel false t28 ((abin .neq t36 (.int .i64 0)).bind fun t38 => kv0 t38 h37) (kv0 (.tuple []) h37)).bind (fin0 (fun t39 h40 => (apick t28 (.bool true) t39).bind fun t41 => (guardSel false t41 ((afieldAt 4 t0).bind fun t42 => kv0 t42 h40) (kv0 (.tuple []) h40)).bind (fin0 (fun t43 h44 => (guardSel false t41 ((aload false 1 h44 t43).bind fun t45 => kv0 t45 h44) (kv0 (.tuple []) h44)).bind (fin0 (fun t46 h47 => (guardSel false t41 ((abin .rem t46 (.int .i64 4)).bind fun t48 => kv0 t48 h47) (kv0 (.tuple []) h47)).bind (fin0 (fun t49 h50 => (guardSel false t41 ((abin .neq t49 (.int .i64 0)).bind fun t51 => kv0 t51 h50) (kv0 (.tuple []) h50)).bind (fin0 (fun t52 h53 => (apick t41 (.bool true) t52).bind fun t54 => (guardSel false t54 ((afieldAt 0 t0).bind fun t55 => kv0 t55 h53) (kv0 (.tuple []) h53)).bind (fin0 (fun t56 h57 => (guardSel false t54 ((aload false 1 h57 t56).bind fun t58 => kv0 t58 h57) (kv0 (.tuple []) h57)).bind (fin0 (fun t59 h60 => (guardSel false t54 ((abin .lss t59 (.int .i64 0)).bind fun t61 => kv0 t61 h60) (kv0 (.tuple []) h60)).bind (fin0 (fun t62 h63 => (apick t54 (.bool true) t62).bind fun t64 => (guardSel false t64 ((afieldAt 2 t0).bind fun t65 => kv0 t65 h63) (kv0 (.tuple []) h63)).bind (fin0 (fun t66 h67 => (guardSel false t64 ((aload false 1 h67 t66).bind fun t68 => kv0 t68 h67) (kv0 (.tuple []) h67)).bind (fin0 (fun t69 h70 => (guardSel false t64 ((alenSl t69).bind fun t71 => kv0 t71 h70) (kv0 (.tuple []) h70)).bind (fin0 (fun t72 h73 => (guardSel false t64 ((abin .eql t72 (.int .i64 0)).bind fun t74 => kv0 t74 h73) (kv0 (.tuple []) h73)).bind (fin0 (fun t75 h76 => (apick t64 (.bool true) t75).bind fun t77 => acond t77 (some (.ret, [(.int .i64 2)], h76)) ((afieldAt 1 t0).bind fun t78 => (aload false 1 h76 t78).bind fun t79 => (alenSl t79).bind fun t80 => (lpW (m30_l0 K (List.length h76)) ([t0, (.int .i64 0), t8, t79, t80, (.int .i64 0)], h76)).bind fun r99 => (fun x1v101 x2v102 x3v103 x50v104 x51v105 x52v106 h107 => Ex.thenDo r99.1 none (fun e100 => Ex.inBlock 0 e100 ((afieldAt 2 x1v101).bind fun t109 => (aload false 1 h107 t109).bind fun t110 => (alenSl t110).bind fun t111 => (lpW (m30_l2 K (List.length h107)) ([x2v102, x3v103, t110, t111, (.int .i64 0)], h107)).bind fun r175 => (fun x2v177 x3v178 x62v179 x63v180 x64v181 h182 => Ex.thenDo r175.1 none (fun e176 => Ex.inBlock 2 e176 (some (.ret, [(.int .i64 0)], h182)) (fun e183 => some (e183, [x2v177], h182)))) (List.getD r175.2.1 0 .junk) (List.getD r175.2.1 1 .junk) (List.getD r175.2.1 2 .junk) (List.getD r175.2.1 3 .junk) (List.getD r175.2.1 4 .junk) r175.2.2) (fun e108 => some (e108, [x2v102], h107)))) (List.getD r99.2.1 0 .junk) (List.getD r99.2.1 1 .junk) (List.getD r99.2.1 2 .junk) (List.getD r99.2.1 3 .junk) (List.getD r99.2.1 4 .junk) (List.getD r99.2.1 5 .junk) r99.2.2)) (fun _ _ => none))) (fun _ _ => none))) (fun _ _ => none))) (fun _ _ => none))) (fun _ _ => none))) (fun _ _ => none))) (fun _ _ => none))) (fun _ _ => none))) (fun _ _ => none))) (fun _ _ => none))) (fun _ _ => none))) (fun _ _ => none))) (fun _ _ => none))) (fun _ _ => none))) (fun _ _ => none))) (fun _ _ => none))) (fun _ _ => none))) (fun _ _ => none))) (fun _ _ => none))) (fun _ _ => none))) (fun _ _ => none)).bind fun r184 => (fun x2v185 h186 => Ex.endF r184.1 (finR (List.length h0) x2v185 h186)) (List.getD r184.2.1 0 .junk) r184.2.2
theorem m30_eq (K : CallO) (a0 : AVal) (h0 : Heap) : evB Tryd.prog ann lpW K 30 [a0] h0 = m30 (callP ann K) a0 h0 := by kernel_rfl

/- hauberk/ir.limited -/
noncomputable def m67_l0 (K : CallO) (m : Nat) (s : List AVal × Heap) : Option R :=
  (fun x1v38 x2v39 x3v40 x4v41 x29v42 x30v43 x31v44 h45 => (abin .lss x31v44 x30v43).bind fun t46 => acond t46 ((aindexSl 5 x29v42 x31v44).bind fun t47 => (aload true 5 h45 t47).bind fun t48 => bindVH (anew 5 h45 (.agg [(.slice [] .nil), (.int .i64 0), (.int .i64 0), (.int .i64 0), (.int .i64 0)])) fun t49 h50 => (astore 5 h50 t49 t48).bind fun h51 => (afieldAt 0 t49).bind fun t52 => (aload false 1 h51 t52).bind fun t53 => (alenSl t53).bind fun t54 => (abin .sub (.int .i64 1048576) x3v40).bind fun t55 => (abin .gtr t54 t55).bind fun t56 => acond t56 (endR m .ret [x1v38, (.bool false), x3v40, x4v41, x29v42, x30v43, x31v44] h51) ((afieldAt 0 t49).bind fun t57 => (aload false 1 h51 t57).bind fun t58 => (alenSl t58).bind fun t59 => (abin .add x3v40 t59).bind fun t60 => (abin .add x31v44 (.int .i64 1)).bind fun t61 => endR m .normal [x1v38, x2v39, t60, x4v41, x29v42, x30v43, t61] h51)) (endR m (.exit 0) [x1v38, x2v39, x3v40, x4v41, x29v42, x30v43, x31v44] h45)) (List.getD s.1 0 .junk) (List.getD s.1 1 .junk) (List.getD s.1 2 .junk) (List.getD s.1 3 .junk) (List.getD s.1 4 .junk) (List.getD s.1 5 .junk) (List.getD s.1 6 .junk) s.2
noncomputable def m67_l1 (K : CallO) (m : Nat) (s : List AVal × Heap) : Option R :=
  (fun x2v76 x4v77 x48v78 x49v79 x50v80 h81 => (abin .lss x50v80 x49v79).bind fun t82 => acond t82 ((aindexSl 4 x48v78 x50v80).bind fun t83 => (aload true 4 h81 t83).bind fun t84 => bindVH (anew 4 h81 (.agg [(.int .i64 0), (.int .i64 0), (.int .i64 0), (.int .i64 0)])) fun t85 h86 => (astore 4 h86 t85 t84).bind fun h87 => (aload true 4 h87 t85).bind fun t88 => bindRes (K 132 [(AVal.untok t88)] h87) (fun t89 h90 => (guardSel true t89 ((afieldAt 2 t85).bind fun t91 => kv0 t91 h90) (kv0 (.tuple []) h90)).bind (fin0 (fun t92 h93 => (guardSel true t89 ((aload false 1 h93 t92).bind fun t94 => kv0 t94 h93) (kv0 (.tuple []) h93)).bind (fin0 (fun t95 h96 => (guardSel true t89 ((abin .eql t95 (.int .i64 0)).bind fun t97 => kv0 t97 h96) (kv0 (.tuple []) h96)).bind (fin0 (fun t98 h99 => (apick t89 t98 (.bool false)).bind fun t100 => (acond t100 ((afieldAt 0 t85).bind fun t101 => (aload false 1 h99 t101).bind fun t102 => (afieldAt 1 t85).bind fun t103 => (aload false 1 h99 t103).bind fun t104 => (abin .mul t102 t104).bind fun t105 => bindRes (K 133 [(AVal.untok t105)] h99) (fun t106 h107 => (abin .add x4v77 t106).bind fun t108 => some (.normal, [x2v76, t108, x48v78, x49v79, x50v80], h107)) (fun _ _ => none)) (some (.normal, [x2v76, x4v77, x48v78, x49v79, x50v80], h99))).bind fun r109 => (fun x2v110 x4v111 x48v112 x49v113 x50v114 h115 => Ex.nrm r109.1 ((abin .gtr x4v111 (.int .i64 65536)).bind fun t116 => acond t116 (endR m .ret [(.bool false), x4v111, x48v112, x49v113, x50v114] h115) ((abin .add x50v114 (.int .i64 1)).bind fun t117 => endR m .normal [x2v110, x4v111, x48v112, x49v113, t117] h115))) (List.getD r109.2.1 0 .junk) (List.getD r109.2.1 1 .junk) (List.getD r109.2.1 2 .junk) (List.getD r109.2.1 3 .junk) (List.getD r109.2.1 4 .junk) r109.2.2) (fun _ _ => none))) (fun _ _ => none))) (fun _ _ => none))) (fun _ _ => none)) (endR m (.exit 2) [x2v76, x4v77, x48v78, x49v79, x50v80] h81)) (List.getD s.1 0 .junk) (List.getD s.1 1 .junk) (List.getD s.1 2 .junk) (List.getD s.1 3 .junk) (List.getD s.1 4 .junk) s.2
noncomputable def m67 (K : CallO) (a0 : AVal) (h0 : Heap) : Option (Res × Heap) :=
  (bindVH (anew 5 h0 a0) fun t0 h1 => (afieldAt 0 t0).bind fun t2 => (aload false 1 h1 t2).bind fun t3 => (abin .gtr t3 (.int .i64 1048576)).bind fun t4 => (guardSel false t4 ((afieldAt 1 t0).bind fun t5 => kv0 t5 h1) (kv0 (.tuple []) h1)).bind (fin0 (fun t6 h7 => (guardSel false t4 ((aload false 1 h7 t6).bind fun t8 => kv0 t8 h7) (kv0 (.tuple []) h7)).bind (fin0 (fun t9 h10 => (guardSel false t4 ((alenSl t9).bind fun t11 => kv0 t11 h10) (kv0 (.tuple []) h10)).bind (fin0 (fun t12 h13 => (guardSel false t4 ((abin .gtr t12 (.int .i64 1048576)).bind fun t14 => kv0 t14 h13) (kv0 (.tuple []) h13)).bind (fin0 (fun t15 h16 => (apick t4 (.bool true) t15).bind fun t17 => (guardSel false t17 ((afieldAt 2 t0).bind fun t18 => kv0 t18 h16) (kv0 (.tuple []) h16)).bind (fin0 (fun t19 h20 => (guardSel false t17 ((aload false 1 h20 t19).bind fun t21 => kv0 t21 h20) (kv0 (.tuple []) h20)).bind (fin0 (fun t22 h23 => (guardSel false t17 ((alenSl t22).bind fun t24 => kv0 t24 h23) (kv0 (.tuple []) h23)).bind (fin0 (fun t25 h26 => (guardSel false t17 ((abin .gtr t25 (.int .i64 1048576)).bind fun t27 => kv0 t27 h26) (kv0 (.tuple []) h26)).bind (fin0 (fun t28 h29 => (apick t17 (.bool true) t28).bind fun t30 => acond t30 (some (.ret, [(.bool false)], h29)) ((afieldAt 4 t0).bind fun t31 => (aload false 1 h29 t31).bind fun t32 => (amax2 t32 (.int .i64 0)).bind fun t33 => (amin2 t33 (.int .i64 65537)).bind fun t34 => (afieldAt 2 t0).bind fun t35 => (aload false 1 h29 t35).bind fun t36 => (alenSl t36).bind fun t37 => (lpW (m67_l0 K (List.length h29)) ([t0, (.bool false), (.int .i64 0), t34, t36, t37, (.int .i64 0)], h29)).bind fun r62 => (fun x1v64 x2v65 x3v66 x4v67 x29v68 x30v69 x31v70 h71 => Ex.thenDo r62.1 none (fun e63 => Ex.inBlock 0 e63 ((afieldAt 1 x1v64).bind fun t73 => (aload false 1 h71 t73).bind fun t74 => (alenSl t74).bind fun t75 => (lpW (m67_l1 K (List.length h71)) ([x2v65, x4v67, t74, t75, (.int .i64 0)], h71)).bind fun r118 => (fun x2v120 x4v121 x48v122 x49v123 x50v124 h125 => Ex.thenDo r118.1 none (fun e119 => Ex.inBlock 2 e119 ((abin .leq x4v121 (.int .i64 65536)).bind fun t127 => some (.ret, [t127], h125)) (fun e126 => some (e126, [x2v120], h125)))) (List.getD r118.2.1 0 .junk) (List.getD r118.2.1 1 .junk) (List.getD r118.2.1 2 .junk) (List.getD r118.2.1 3 .junk) (List.getD r118.2.1 4 .junk) r118.2.2) (fun e72 => some (e72, [x2v65], h71)))) (List.getD r62.2.1 0 .junk) (List.getD r62.2.1 1 .junk) (List.getD r62.2.1 2 .junk) (List.getD r62.2.1 3 .junk) (List.getD r62.2.1 4 .junk) (List.getD r62.2.1 5 .junk) (List.getD r62.2.1 6 .junk) r62.2.2)) (fun _ _ => none))) (fun _ _ => none))) (fun _ _ => none))) (fun _ _ => none))) (fun _ _ => none))) (fun _ _ => none))) (fun _ _ => none))) (fun _ _ => none))).bind fun r128 => (fun x2v129 h130 => Ex.endF r128.1 (finR (List.length h0) x2v129 h130)) (List.getD r128.2.1 0 .junk) r128.2.2
theorem m67_eq (K : CallO) (a0 : AVal) (h0 : Heap) : evB Tryd.prog ann lpW K 67 [a0] h0 = m67 (callP ann K) a0 h0 := by kernel_rfl

/- hauberk/ir.within -/
noncomputable def m68 (K : CallO) (a0 a1 a2 : AVal) (h0 : Heap) : Option (Res × Heap) :=
  ((abin .geq a0 a1).bind fun t0 => (guardSel true t0 (kv0 a0 h0) (kv0 (.tuple []) h0)).bind (fin0 (fun t1 h2 => (guardSel true t0 (kv0 a2 h2) (kv0 (.tuple []) h2)).bind (fin0 (fun t3 h4 => (guardSel true t0 ((abin .leq t1 t3).bind fun t5 => kv0 t5 h4) (kv0 (.tuple []) h4)).bind (fin0 (fun t6 h7 => (apick t0 t6 (.bool false)).bind fun t8 => some (.ret, [t8], h7)) (fun _ _ => none))) (fun _ _ => none))) (fun _ _ => none))).bind fun r9 => (fun x6v10 h11 => Ex.endF r9.1 (finR (List.length h0) x6v10 h11)) (List.getD r9.2.1 0 .junk) r9.2.2
theorem m68_eq (K : CallO) (a0 a1 a2 : AVal) (h0 : Heap) : evB Tryd.prog ann lpW K 68 [a0, a1, a2] h0 = m68 (callP ann K) a0 a1 a2 h0 := by kernel_rfl

/- (*hauberk/ir.checker).array -/
noncomputable def m69 (K : CallO) (a0 a1 : AVal) (h0 : Heap) : Option (Res × Heap) :=
  (bindVH (anew 4 h0 a1) fun t0 h1 => (aload true 4 h1 t0).bind fun t2 => bindRes (K 132 [(AVal.untok t2)] h1) (fun t3 h4 => (aun .not t3).bind fun t5 => acond t5 (some (.ret, [(.bool false)], h4)) ((afieldAt 0 t0).bind fun t6 => (aload false 1 h4 t6).bind fun t7 => (afieldAt 1 t0).bind fun t8 => (aload false 1 h4 t8).bind fun t9 => (abin .mul t7 t9).bind fun t10 => (afieldAt 2 t0).bind fun t11 => (aload false 1 h4 t11).bind fun t12 => (abin .eql t12 (.int .i64 0)).bind fun t13 => acond t13 ((afieldAt 3 t0).bind fun t14 => (aload false 1 h4 t14).bind fun t15 => (abin .eql t15 (.int .i64 0)).bind fun t16 => some (.ret, [t16], h4)) ((abin .eql t12 (.int .i64 1)).bind fun t17 => acond t17 ((afieldAt 3 t0).bind fun t18 => (aload false 1 h4 t18).bind fun t19 => (anilCheck a0).bind fun t20 => (afieldAt 0 t20).bind fun t21 => (afieldAt 3 t21).bind fun t22 => (aload false 1 h4 t22).bind fun t23 => (abin .sub t23 t10).bind fun t24 => bindRes (K 68 [(AVal.untok t19), (AVal.untok (.int .i64 0)), (AVal.untok t24)] h4) (fun t25 h26 => (guardSel true t25 ((afieldAt 3 t0).bind fun t27 => kv0 t27 h26) (kv0 (.tuple []) h26)).bind (fin0 (fun t28 h29 => (guardSel true t25 ((aload false 1 h29 t28).bind fun t30 => kv0 t30 h29) (kv0 (.tuple []) h29)).bind (fin0 (fun t31 h32 => (guardSel true t25 ((abin .rem t31 (.int .i64 4)).bind fun t33 => kv0 t33 h32) (kv0 (.tuple []) h32)).bind (fin0 (fun t34 h35 => (guardSel true t25 ((abin .eql t34 (.int .i64 0)).bind fun t36 => kv0 t36 h35) (kv0 (.tuple []) h35)).bind (fin0 (fun t37 h38 => (apick t25 t37 (.bool false)).bind fun t39 => some (.ret, [t39], h38)) (fun _ _ => none))) (fun _ _ => none))) (fun _ _ => none))) (fun _ _ => none))) (fun _ _ => none)) ((abin .eql t12 (.int .i64 2)).bind fun t40 => acond t40 ((afieldAt 3 t0).bind fun t41 => (aload false 1 h4 t41).bind fun t42 => (anilCheck a0).bind fun t43 => (afieldAt 5 t43).bind fun t44 => (aload false 1 h4 t44).bind fun t45 => (anilCheck a0).bind fun t46 => (afieldAt 0 t46).bind fun t47 => (afieldAt 4 t47).bind fun t48 => (aload false 1 h4 t48).bind fun t49 => (abin .sub t49 t10).bind fun t50 => bindRes (K 68 [(AVal.untok t42), (AVal.untok t45), (AVal.untok t50)] h4) (fun t51 h52 => (aun .not t51).bind fun t53 => (guardSel false t53 ((afieldAt 3 t0).bind fun t54 => kv0 t54 h52) (kv0 (.tuple []) h52)).bind (fin0 (fun t55 h56 => (guardSel false t53 ((aload false 1 h56 t55).bind fun t57 => kv0 t57 h56) (kv0 (.tuple []) h56)).bind (fin0 (fun t58 h59 => (guardSel false t53 ((abin .rem t58 (.int .i64 4)).bind fun t60 => kv0 t60 h59) (kv0 (.tuple []) h59)).bind (fin0 (fun t61 h62 => (guardSel false t53 ((abin .neq t61 (.int .i64 0)).bind fun t63 => kv0 t63 h62) (kv0 (.tuple []) h62)).bind (fin0 (fun t64 h65 => (apick t53 (.bool true) t64).bind fun t66 => acond t66 (some (.ret, [(.bool false)], h65)) ((afieldAt 3 t0).bind fun t67 => (aload false 1 h65 t67).bind fun t68 => (abin .add t68 t10).bind fun t69 => bindRes (K 133 [(AVal.untok t69)] h65) (fun t70 h71 => (anilCheck a0).bind fun t72 => (afieldAt 5 t72).bind fun t73 => (astore 1 h71 t73 t70).bind fun h74 => some (.ret, [(.bool true)], h74)) (fun _ _ => none))) (fun _ _ => none))) (fun _ _ => none))) (fun _ _ => none))) (fun _ _ => none))) (fun _ _ => none)) (some (.ret, [(.bool false)], h4)))))) (fun _ _ => none)).bind fun r75 => (fun x4v76 h77 => Ex.endF r75.1 (finR (List.length h0) x4v76 h77)) (List.getD r75.2.1 0 .junk) r75.2.2
theorem m69_eq (K : CallO) (a0 a1 : AVal) (h0 : Heap) : evB Tryd.prog ann lpW K 69 [a0, a1] h0 = m69 (callP ann K) a0 a1 h0 := by kernel_rfl

/- (*hauberk/ir.checker).op -/
noncomputable def m70_l0 (K : CallO) (m : Nat) (s : List AVal × Heap) : Option R :=
  (fun x0v63 x3v64 x4v65 x5v66 x6v67 x36v68 x37v69 x38v70 h71 => (abin .lss x38v70 x37v69).bind fun t72 => acond t72 ((aindexSl 1 x36v68 x38v70).bind fun t73 => (aload false 1 h71 t73).bind fun t74 => bindRes (K 135 [(AVal.untok x0v63), (AVal.untok t74)] h71) (fun t75 h76 => (aun .not t75).bind fun t77 => acond t77 (endR m .ret [x0v63, x3v64, (.bool false), x5v66, x6v67, x36v68, x37v69, x38v70] h76) ((abin .eql x38v70 (.int .i64 0)).bind fun t78 => (acond t78 ((afieldAt 2 x6v67).bind fun t79 => (astore 1 h76 t79 t74).bind fun h80 => some (.normal, [x0v63, x3v64, x4v65, x5v66, x6v67, x36v68, x37v69, x38v70], h80)) ((abin .eql x38v70 (.int .i64 1)).bind fun t81 => (acond t81 ((afieldAt 3 x6v67).bind fun t82 => (astore 1 h76 t82 t74).bind fun h83 => some (.normal, [x0v63, x3v64, x4v65, x5v66, x6v67, x36v68, x37v69, x38v70], h83)) ((abin .eql x38v70 (.int .i64 2)).bind fun t84 => (acond t84 ((afieldAt 4 x6v67).bind fun t85 => (astore 1 h76 t85 t74).bind fun h86 => some (.normal, [x0v63, x3v64, x4v65, x5v66, x6v67, x36v68, x37v69, x38v70], h86)) (some (.normal, [x0v63, x3v64, x4v65, x5v66, x6v67, x36v68, x37v69, x38v70], h76))).bind fun r87 => (fun x0v88 x3v89 x4v90 x5v91 x6v92 x36v93 x37v94 x38v95 h96 => Ex.nrm r87.1 (some (.normal, [x0v88, x3v89, x4v90, x5v91, x6v92, x36v93, x37v94, x38v95], h96))) (List.getD r87.2.1 0 .junk) (List.getD r87.2.1 1 .junk) (List.getD r87.2.1 2 .junk) (List.getD r87.2.1 3 .junk) (List.getD r87.2.1 4 .junk) (List.getD r87.2.1 5 .junk) (List.getD r87.2.1 6 .junk) (List.getD r87.2.1 7 .junk) r87.2.2)).bind fun r97 => (fun x0v98 x3v99 x4v100 x5v101 x6v102 x36v103 x37v104 x38v105 h106 => Ex.nrm r97.1 (some (.normal, [x0v98, x3v99, x4v100, x5v101, x6v102, x36v103, x37v104, x38v105], h106))) (List.getD r97.2.1 0 .junk) (List.getD r97.2.1 1 .junk) (List.getD r97.2.1 2 .junk) (List.getD r97.2.1 3 .junk) (List.getD r97.2.1 4 .junk) (List.getD r97.2.1 5 .junk) (List.getD r97.2.1 6 .junk) (List.getD r97.2.1 7 .junk) r97.2.2)).bind fun r107 => (fun x0v108 x3v109 x4v110 x5v111 x6v112 x36v113 x37v114 x38v115 h116 => Ex.nrm r107.1 ((abin .add x38v115 (.int .i64 1)).bind fun t117 => endR m .normal [x0v108, x3v109, x4v110, x5v111, x6v112, x36v113, x37v114, t117] h116)) (List.getD r107.2.1 0 .junk) (List.getD r107.2.1 1 .junk) (List.getD r107.2.1 2 .junk) (List.getD r107.2.1 3 .junk) (List.getD r107.2.1 4 .junk) (List.getD r107.2.1 5 .junk) (List.getD r107.2.1 6 .junk) (List.getD r107.2.1 7 .junk) r107.2.2)) (fun _ _ => none)) (endR m (.exit 0) [x0v63, x3v64, x4v65, x5v66, x6v67, x36v68, x37v69, x38v70] h71)) (List.getD s.1 0 .junk) (List.getD s.1 1 .junk) (List.getD s.1 2 .junk) (List.getD s.1 3 .junk) (List.getD s.1 4 .junk) (List.getD s.1 5 .junk) (List.getD s.1 6 .junk) (List.getD s.1 7 .junk) s.2
noncomputable def m70 (K : CallO) (a0 a1 : AVal) (h0 : Heap) : Option (Res × Heap) :=
  (bindVH (anew 6 h0 a1) fun t0 h1 => (afieldAt 0 t0).bind fun t2 => (aload false 1 h1 t2).bind fun t3 => bindRes (K 134 [(AVal.untok t3)] h1) (fun t4 h5 => bindVH (anew 5 h5 (.agg [(.bool false), (.int .i64 0), (.int .i64 0), (.int .i64 0), (.bool false)])) fun t6 h7 => (astore 5 h7 t6 t4).bind fun h8 => (afieldAt 4 t6).bind fun t9 => (aload false 1 h8 t9).bind fun t10 => (aun .not t10).bind fun t11 => (guardSel false t11 ((afieldAt 5 t0).bind fun t12 => kv0 t12 h8) (kv0 (.tuple []) h8)).bind (fin0 (fun t13 h14 => (guardSel false t11 ((aload false 1 h14 t13).bind fun t15 => kv0 t15 h14) (kv0 (.tuple []) h14)).bind (fin0 (fun t16 h17 => (guardSel false t11 ((afieldAt 2 t6).bind fun t18 => kv0 t18 h17) (kv0 (.tuple []) h17)).bind (fin0 (fun t19 h20 => (guardSel false t11 ((aload false 1 h20 t19).bind fun t21 => kv0 t21 h20) (kv0 (.tuple []) h20)).bind (fin0 (fun t22 h23 => (guardSel false t11 ((afieldAt 3 t6).bind fun t24 => kv0 t24 h23) (kv0 (.tuple []) h23)).bind (fin0 (fun t25 h26 => (guardSel false t11 ((aload false 1 h26 t25).bind fun t27 => kv0 t27 h26) (kv0 (.tuple []) h26)).bind (fin0 (fun t28 h29 => (guardSel false t11 (bindRes (K 68 [(AVal.untok t16), (AVal.untok t22), (AVal.untok t28)] h29) (fun t30 h31 => kv0 t30 h31) kp0) (kv0 (.tuple []) h29)).bind (fin0 (fun t32 h33 => (guardSel false t11 ((aun .not t32).bind fun t34 => kv0 t34 h33) (kv0 (.tuple []) h33)).bind (fin0 (fun t35 h36 => (apick t11 (.bool true) t35).bind fun t37 => acond t37 (some (.ret, [(.bool false)], h36)) ((afieldAt 0 t0).bind fun t38 => (aload false 1 h36 t38).bind fun t39 => (afieldAt 5 t0).bind fun t40 => (aload false 1 h36 t40).bind fun t41 => (abuild [(.int .i64 0), (.int .i64 0), (.int .i64 0), (.int .i64 0), (.int .i64 0), (.int .i64 0)] [(0, 1), (1, 1), (2, 1), (3, 1), (4, 1), (5, 1)] [(0, t39), (5, t41)]).bind fun t42 => bindVH (anew 6 h36 (.agg [(.int .i64 0), (.int .i64 0), (.int .i64 0), (.int .i64 0), (.int .i64 0), (.int .i64 0)])) fun t43 h44 => (astore 6 h44 t43 t42).bind fun h45 => (afieldAt 0 t6).bind fun t46 => (aload false 1 h45 t46).bind fun t47 => (acond t47 ((afieldAt 1 t0).bind fun t48 => (aload false 1 h45 t48).bind fun t49 => (afieldAt 1 t43).bind fun t50 => (astore 1 h45 t50 t49).bind fun h51 => some (.normal, [a0, t0, (.bool false), t6, t43], h51)) (some (.normal, [a0, t0, (.bool false), t6, t43], h45))).bind fun r52 => (fun x0v53 x3v54 x4v55 x5v56 x6v57 h58 => Ex.nrm r52.1 ((aload true 6 h58 x3v54).bind fun t59 => bindRes (K 74 [(AVal.untok t59)] h58) (fun t60 h61 => (alenSl t60).bind fun t62 => (lpW (m70_l0 K (List.length h61)) ([x0v53, x3v54, x4v55, x5v56, x6v57, t60, t62, (.int .i64 0)], h61)).bind fun r118 => (fun x0v120 x3v121 x4v122 x5v123 x6v124 x36v125 x37v126 x38v127 h128 => Ex.thenDo r118.1 none (fun e119 => Ex.inBlock 0 e119 ((aload true 6 h128 x6v124).bind fun t130 => (aload true 6 h128 x3v121).bind fun t131 => (aeqAgg [.i, .i, .i, .i, .i, .i] t130 t131).bind fun t132 => (guardSel false (.bool (!t132)) ((afieldAt 0 x5v123).bind fun t133 => kv0 t133 h128) (kv0 (.tuple []) h128)).bind (fin0 (fun t134 h135 => (guardSel false (.bool (!t132)) ((aload false 1 h135 t134).bind fun t136 => kv0 t136 h135) (kv0 (.tuple []) h135)).bind (fin0 (fun t137 h138 => (guardSel false (.bool (!t132)) (kv0 t137 h138) (kv0 (.tuple []) h138)).bind (fin0 (fun t139 h140 => (guardSel true t139 (kv0 x0v120 h140) (kv0 (.tuple []) h140)).bind (fin0 (fun t141 h142 => (guardSel true t139 ((afieldAt 1 x3v121).bind fun t143 => kv0 t143 h142) (kv0 (.tuple []) h142)).bind (fin0 (fun t144 h145 => (guardSel true t139 ((aload false 1 h145 t144).bind fun t146 => kv0 t146 h145) (kv0 (.tuple []) h145)).bind (fin0 (fun t147 h148 => (guardSel true t139 (bindRes (K 135 [(AVal.untok t141), (AVal.untok t147)] h148) (fun t149 h150 => kv0 t149 h150) kp0) (kv0 (.tuple []) h148)).bind (fin0 (fun t151 h152 => (guardSel true t139 ((aun .not t151).bind fun t153 => kv0 t153 h152) (kv0 (.tuple []) h152)).bind (fin0 (fun t154 h155 => (guardSel false (.bool (!t132)) ((apick t139 t154 (.bool false)).bind fun t156 => kv0 t156 h155) (kv0 (.tuple []) h155)).bind (fin0 (fun t157 h158 => (apick (.bool (!t132)) (.bool true) t157).bind fun t159 => acond t159 (some (.ret, [(.bool false)], h158)) ((afieldAt 0 x3v121).bind fun t160 => (aload false 1 h158 t160).bind fun t161 => (abin .eql t161 (.int .i64 18)).bind fun t162 => (guardSel false t162 ((afieldAt 0 x3v121).bind fun t163 => kv0 t163 h158) (kv0 (.tuple []) h158)).bind (fin0 (fun t164 h165 => (guardSel false t162 ((aload false 1 h165 t164).bind fun t166 => kv0 t166 h165) (kv0 (.tuple []) h165)).bind (fin0 (fun t167 h168 => (guardSel false t162 ((abin .eql t167 (.int .i64 19)).bind fun t169 => kv0 t169 h168) (kv0 (.tuple []) h168)).bind (fin0 (fun t170 h171 => (apick t162 (.bool true) t170).bind fun t172 => acond t172 ((afieldAt 5 x3v121).bind fun t173 => (aload false 1 h171 t173).bind fun t174 => (anilCheck x0v120).bind fun t175 => (afieldAt 0 t175).bind fun t176 => (afieldAt 1 t176).bind fun t177 => (aload false 1 h171 t177).bind fun t178 => (alenSl t178).bind fun t179 => (abin .lss t174 t179).bind fun t180 => (guardSel true t180 ((afieldAt 0 x3v121).bind fun t181 => kv0 t181 h171) (kv0 (.tuple []) h171)).bind (fin0 (fun t182 h183 => (guardSel true t180 ((aload false 1 h183 t182).bind fun t184 => kv0 t184 h183) (kv0 (.tuple []) h183)).bind (fin0 (fun t185 h186 => (guardSel true t180 ((abin .eql t185 (.int .i64 18)).bind fun t187 => kv0 t187 h186) (kv0 (.tuple []) h186)).bind (fin0 (fun t188 h189 => (guardSel true t180 (kv0 t188 h189) (kv0 (.tuple []) h189)).bind (fin0 (fun t190 h191 => (guardSel false t190 (kv0 x0v120 h191) (kv0 (.tuple []) h191)).bind (fin0 (fun t192 h193 => (guardSel false t190 ((anilCheck t192).bind fun t194 => kv0 t194 h193) (kv0 (.tuple []) h193)).bind (fin0 (fun t195 h196 => (guardSel false t190 ((afieldAt 0 t195).bind fun t197 => kv0 t197 h196) (kv0 (.tuple []) h196)).bind (fin0 (fun t198 h199 => (guardSel false t190 ((afieldAt 1 t198).bind fun t200 => kv0 t200 h199) (kv0 (.tuple []) h199)).bind (fin0 (fun t201 h202 => (guardSel false t190 ((aload false 1 h202 t201).bind fun t203 => kv0 t203 h202) (kv0 (.tuple []) h202)).bind (fin0 (fun t204 h205 => (guardSel false t190 ((afieldAt 5 x3v121).bind fun t206 => kv0 t206 h205) (kv0 (.tuple []) h205)).bind (fin0 (fun t207 h208 => (guardSel false t190 ((aload false 1 h208 t207).bind fun t209 => kv0 t209 h208) (kv0 (.tuple []) h208)).bind (fin0 (fun t210 h211 => (guardSel false t190 ((aindexSl 4 t204 t210).bind fun t212 => kv0 t212 h211) (kv0 (.tuple []) h211)).bind (fin0 (fun t213 h214 => (guardSel false t190 ((afieldAt 2 t213).bind fun t215 => kv0 t215 h214) (kv0 (.tuple []) h214)).bind (fin0 (fun t216 h217 => (guardSel false t190 ((aload false 1 h217 t216).bind fun t218 => kv0 t218 h217) (kv0 (.tuple []) h217)).bind (fin0 (fun t219 h220 => (guardSel false t190 ((abin .neq t219 (.int .i64 1)).bind fun t221 => kv0 t221 h220) (kv0 (.tuple []) h220)).bind (fin0 (fun t222 h223 => (guardSel true t180 ((apick t190 (.bool true) t222).bind fun t224 => kv0 t224 h223) (kv0 (.tuple []) h223)).bind (fin0 (fun t225 h226 => (apick t180 t225 (.bool false)).bind fun t227 => some (.ret, [t227], h226)) (fun _ _ => none))) (fun _ _ => none))) (fun _ _ => none))) (fun _ _ => none))) (fun _ _ => none))) (fun _ _ => none))) (fun _ _ => none))) (fun _ _ => none))) (fun _ _ => none))) (fun _ _ => none))) (fun _ _ => none))) (fun _ _ => none))) (fun _ _ => none))) (fun _ _ => none))) (fun _ _ => none))) (fun _ _ => none))) (some (.ret, [(.bool true)], h171))) (fun _ _ => none))) (fun _ _ => none))) (fun _ _ => none)))) (fun _ _ => none))) (fun _ _ => none))) (fun _ _ => none))) (fun _ _ => none))) (fun _ _ => none))) (fun _ _ => none))) (fun _ _ => none))) (fun _ _ => none))) (fun _ _ => none))) (fun e129 => some (e129, [x4v122], h128)))) (List.getD r118.2.1 0 .junk) (List.getD r118.2.1 1 .junk) (List.getD r118.2.1 2 .junk) (List.getD r118.2.1 3 .junk) (List.getD r118.2.1 4 .junk) (List.getD r118.2.1 5 .junk) (List.getD r118.2.1 6 .junk) (List.getD r118.2.1 7 .junk) r118.2.2) (fun _ _ => none))) (List.getD r52.2.1 0 .junk) (List.getD r52.2.1 1 .junk) (List.getD r52.2.1 2 .junk) (List.getD r52.2.1 3 .junk) (List.getD r52.2.1 4 .junk) r52.2.2)) (fun _ _ => none))) (fun _ _ => none))) (fun _ _ => none))) (fun _ _ => none))) (fun _ _ => none))) (fun _ _ => none))) (fun _ _ => none))) (fun _ _ => none))) (fun _ _ => none)).bind fun r228 => (fun x4v229 h230 => Ex.endF r228.1 (finR (List.length h0) x4v229 h230)) (List.getD r228.2.1 0 .junk) r228.2.2
theorem m70_eq (K : CallO) (a0 a1 : AVal) (h0 : Heap) : evB Tryd.prog ann lpW K 70 [a0, a1] h0 = m70 (callP ann K) a0 a1 h0 := by kernel_rfl

/- (*hauberk/ir.checker).term -/
noncomputable def m71 (K : CallO) (a0 a1 : AVal) (h0 : Heap) : Option (Res × Heap) :=
  (bindVH (anew 4 h0 a1) fun t0 h1 => (afieldAt 0 t0).bind fun t2 => (aload false 1 h1 t2).bind fun t3 => (abin .eql t3 (.int .i64 1)).bind fun t4 => acond t4 ((aload true 4 h1 t0).bind fun t5 => (afieldAt 2 t0).bind fun t6 => (aload false 1 h1 t6).bind fun t7 => (abuild [(.int .i64 0), (.int .i64 0), (.int .i64 0), (.int .i64 0)] [(0, 1), (1, 1), (2, 1), (3, 1)] [(0, (.int .i64 1)), (2, t7)]).bind fun t8 => (aeqAgg [.i, .i, .i, .i] t5 t8).bind fun t9 => (guardSel true (.bool t9) (kv0 a0 h1) (kv0 (.tuple []) h1)).bind (fin0 (fun t10 h11 => (guardSel true (.bool t9) ((afieldAt 2 t0).bind fun t12 => kv0 t12 h11) (kv0 (.tuple []) h11)).bind (fin0 (fun t13 h14 => (guardSel true (.bool t9) ((aload false 1 h14 t13).bind fun t15 => kv0 t15 h14) (kv0 (.tuple []) h14)).bind (fin0 (fun t16 h17 => (guardSel true (.bool t9) (bindRes (K 136 [(AVal.untok t10), (AVal.untok t16)] h17) (fun t18 h19 => kv0 t18 h19) kp0) (kv0 (.tuple []) h17)).bind (fin0 (fun t20 h21 => (apick (.bool t9) t20 (.bool false)).bind fun t22 => some (.ret, [t22], h21)) (fun _ _ => none))) (fun _ _ => none))) (fun _ _ => none))) (fun _ _ => none))) ((abin .eql t3 (.int .i64 2)).bind fun t23 => acond t23 ((afieldAt 1 t0).bind fun t24 => (aload false 1 h1 t24).bind fun t25 => bindRes (K 135 [(AVal.untok a0), (AVal.untok t25)] h1) (fun t26 h27 => (guardSel true t26 (kv0 a0 h27) (kv0 (.tuple []) h27)).bind (fin0 (fun t28 h29 => (guardSel true t26 ((afieldAt 2 t0).bind fun t30 => kv0 t30 h29) (kv0 (.tuple []) h29)).bind (fin0 (fun t31 h32 => (guardSel true t26 ((aload false 1 h32 t31).bind fun t33 => kv0 t33 h32) (kv0 (.tuple []) h32)).bind (fin0 (fun t34 h35 => (guardSel true t26 (bindRes (K 136 [(AVal.untok t28), (AVal.untok t34)] h35) (fun t36 h37 => kv0 t36 h37) kp0) (kv0 (.tuple []) h35)).bind (fin0 (fun t38 h39 => (apick t26 t38 (.bool false)).bind fun t40 => (guardSel true t40 (kv0 a0 h39) (kv0 (.tuple []) h39)).bind (fin0 (fun t41 h42 => (guardSel true t40 ((afieldAt 3 t0).bind fun t43 => kv0 t43 h42) (kv0 (.tuple []) h42)).bind (fin0 (fun t44 h45 => (guardSel true t40 ((aload false 1 h45 t44).bind fun t46 => kv0 t46 h45) (kv0 (.tuple []) h45)).bind (fin0 (fun t47 h48 => (guardSel true t40 (bindRes (K 136 [(AVal.untok t41), (AVal.untok t47)] h48) (fun t49 h50 => kv0 t49 h50) kp0) (kv0 (.tuple []) h48)).bind (fin0 (fun t51 h52 => (apick t40 t51 (.bool false)).bind fun t53 => some (.ret, [t53], h52)) (fun _ _ => none))) (fun _ _ => none))) (fun _ _ => none))) (fun _ _ => none))) (fun _ _ => none))) (fun _ _ => none))) (fun _ _ => none))) (fun _ _ => none))) (fun _ _ => none)) ((aload true 4 h1 t0).bind fun t54 => (abuild [(.int .i64 0), (.int .i64 0), (.int .i64 0), (.int .i64 0)] [(0, 1), (1, 1), (2, 1), (3, 1)] [(0, (.int .i64 3))]).bind fun t55 => (aeqAgg [.i, .i, .i, .i] t54 t55).bind fun t56 => some (.ret, [(.bool t56)], h1)))).bind fun r57 => (fun x4v58 h59 => Ex.endF r57.1 (finR (List.length h0) x4v58 h59)) (List.getD r57.2.1 0 .junk) r57.2.2
theorem m71_eq (K : CallO) (a0 a1 : AVal) (h0 : Heap) : evB Tryd.prog ann lpW K 71 [a0, a1] h0 = m71 (callP ann K) a0 a1 h0 := by kernel_rfl

/- hauberk/ir.shaped -/
noncomputable def m132 (K : CallO) (a0 : AVal) (h0 : Heap) : Option (Res × Heap) :=
  (bindVH (anew 4 h0 a0) fun t0 h1 => (afieldAt 0 t0).bind fun t2 => (aload false 1 h1 t2).bind fun t3 => (abin .eql t3 (.int .i64 1)).bind fun t4 => (guardSel false t4 ((afieldAt 0 t0).bind fun t5 => kv0 t5 h1) (kv0 (.tuple []) h1)).bind (fin0 (fun t6 h7 => (guardSel false t4 ((aload false 1 h7 t6).bind fun t8 => kv0 t8 h7) (kv0 (.tuple []) h7)).bind (fin0 (fun t9 h10 => (guardSel false t4 ((abin .eql t9 (.int .i64 4)).bind fun t11 => kv0 t11 h10) (kv0 (.tuple []) h10)).bind (fin0 (fun t12 h13 => (apick t4 (.bool true) t12).bind fun t14 => (guardSel true t14 ((afieldAt 1 t0).bind fun t15 => kv0 t15 h13) (kv0 (.tuple []) h13)).bind (fin0 (fun t16 h17 => (guardSel true t14 ((aload false 1 h17 t16).bind fun t18 => kv0 t18 h17) (kv0 (.tuple []) h17)).bind (fin0 (fun t19 h20 => (guardSel true t14 ((abin .geq t19 (.int .i64 1)).bind fun t21 => kv0 t21 h20) (kv0 (.tuple []) h20)).bind (fin0 (fun t22 h23 => (apick t14 t22 (.bool false)).bind fun t24 => (guardSel true t24 ((afieldAt 1 t0).bind fun t25 => kv0 t25 h23) (kv0 (.tuple []) h23)).bind (fin0 (fun t26 h27 => (guardSel true t24 ((aload false 1 h27 t26).bind fun t28 => kv0 t28 h27) (kv0 (.tuple []) h27)).bind (fin0 (fun t29 h30 => (guardSel true t24 ((abin .leq t29 (.int .i64 16384)).bind fun t31 => kv0 t31 h30) (kv0 (.tuple []) h30)).bind (fin0 (fun t32 h33 => (apick t24 t32 (.bool false)).bind fun t34 => some (.ret, [t34], h33)) (fun _ _ => none))) (fun _ _ => none))) (fun _ _ => none))) (fun _ _ => none))) (fun _ _ => none))) (fun _ _ => none))) (fun _ _ => none))) (fun _ _ => none))) (fun _ _ => none))).bind fun r35 => (fun x2v36 h37 => Ex.endF r35.1 (finR (List.length h0) x2v36 h37)) (List.getD r35.2.1 0 .junk) r35.2.2
theorem m132_eq (K : CallO) (a0 : AVal) (h0 : Heap) : evB Tryd.prog ann lpW K 132 [a0] h0 = m132 (callP ann K) a0 h0 := by kernel_rfl

/- hauberk/ir.up -/
noncomputable def m133 (K : CallO) (a0 : AVal) (h0 : Heap) : Option (Res × Heap) :=
  ((abin .add a0 (.int .i64 4)).bind fun t0 => (abin .sub t0 (.int .i64 1)).bind fun t1 => (abin .quo t1 (.int .i64 4)).bind fun t2 => (abin .mul t2 (.int .i64 4)).bind fun t3 => some (.ret, [t3], h0)).bind fun r4 => (fun x2v5 h6 => Ex.endF r4.1 (finR (List.length h0) x2v5 h6)) (List.getD r4.2.1 0 .junk) r4.2.2
theorem m133_eq (K : CallO) (a0 : AVal) (h0 : Heap) : evB Tryd.prog ann lpW K 133 [a0] h0 = m133 (callP ann K) a0 h0 := by kernel_rfl

/- hauberk/ir.formOf -/
noncomputable def m134 (K : CallO) (a0 : AVal) (h0 : Heap) : Option (Res × Heap) :=
  (bindVH (anew 5 h0 (.agg [(.bool false), (.int .i64 0), (.int .i64 0), (.int .i64 0), (.bool false)])) fun t0 h1 => (abin .eql a0 (.int .i64 1)).bind fun t2 => acond t2 ((abuild [(.bool false), (.int .i64 0), (.int .i64 0), (.int .i64 0), (.bool false)] [(0, 1), (1, 1), (2, 1), (3, 1), (4, 1)] [(0, (.bool true)), (1, (.int .i64 0)), (2, (.int .i64 0)), (3, (.int .i64 4294967295)), (4, (.bool true))]).bind fun t3 => (astore 5 h1 t0 t3).bind fun h4 => some (.ret, [t0], h4)) ((abin .eql a0 (.int .i64 2)).bind fun t5 => (acond t5 (some (.normal, [t0, a0, t5], h1)) ((abin .eql a0 (.int .i64 10)).bind fun t6 => some (.normal, [t0, a0, t6], h1))).bind fun r7 => (fun x2v8 x3v9 x7v10 h11 => Ex.nrm r7.1 (acond x7v10 ((abuild [(.bool false), (.int .i64 0), (.int .i64 0), (.int .i64 0), (.bool false)] [(0, 1), (1, 1), (2, 1), (3, 1), (4, 1)] [(0, (.bool true)), (1, (.int .i64 1)), (2, (.int .i64 0)), (3, (.int .i64 0)), (4, (.bool true))]).bind fun t12 => (astore 5 h11 x2v8 t12).bind fun h13 => some (.ret, [x2v8], h13)) ((abin .eql x3v9 (.int .i64 3)).bind fun t14 => (acond t14 (some (.normal, [x2v8, x3v9, t14], h11)) ((abin .eql x3v9 (.int .i64 4)).bind fun t15 => (acond t15 (some (.normal, [x2v8, x3v9, t15], h11)) ((abin .eql x3v9 (.int .i64 5)).bind fun t16 => (acond t16 (some (.normal, [x2v8, x3v9, t16], h11)) ((abin .eql x3v9 (.int .i64 6)).bind fun t17 => (acond t17 (some (.normal, [x2v8, x3v9, t17], h11)) ((abin .eql x3v9 (.int .i64 7)).bind fun t18 => (acond t18 (some (.normal, [x2v8, x3v9, t18], h11)) ((abin .eql x3v9 (.int .i64 8)).bind fun t19 => (acond t19 (some (.normal, [x2v8, x3v9, t19], h11)) ((abin .eql x3v9 (.int .i64 9)).bind fun t20 => (acond t20 (some (.normal, [x2v8, x3v9, t20], h11)) ((abin .eql x3v9 (.int .i64 14)).bind fun t21 => (acond t21 (some (.normal, [x2v8, x3v9, t21], h11)) ((abin .eql x3v9 (.int .i64 15)).bind fun t22 => (acond t22 (some (.normal, [x2v8, x3v9, t22], h11)) ((abin .eql x3v9 (.int .i64 16)).bind fun t23 => some (.normal, [x2v8, x3v9, t23], h11))).bind fun r24 => (fun x2v25 x3v26 x11v27 h28 => Ex.nrm r24.1 (some (.normal, [x2v25, x3v26, x11v27], h28))) (List.getD r24.2.1 0 .junk) (List.getD r24.2.1 1 .junk) (List.getD r24.2.1 2 .junk) r24.2.2)).bind fun r29 => (fun x2v30 x3v31 x11v32 h33 => Ex.nrm r29.1 (some (.normal, [x2v30, x3v31, x11v32], h33))) (List.getD r29.2.1 0 .junk) (List.getD r29.2.1 1 .junk) (List.getD r29.2.1 2 .junk) r29.2.2)).bind fun r34 => (fun x2v35 x3v36 x11v37 h38 => Ex.nrm r34.1 (some (.normal, [x2v35, x3v36, x11v37], h38))) (List.getD r34.2.1 0 .junk) (List.getD r34.2.1 1 .junk) (List.getD r34.2.1 2 .junk) r34.2.2)).bind fun r39 => (fun x2v40 x3v41 x11v42 h43 => Ex.nrm r39.1 (some (.normal, [x2v40, x3v41, x11v42], h43))) (List.getD r39.2.1 0 .junk) (List.getD r39.2.1 1 .junk) (List.getD r39.2.1 2 .junk) r39.2.2)).bind fun r44 => (fun x2v45 x3v46 x11v47 h48 => Ex.nrm r44.1 (some (.normal, [x2v45, x3v46, x11v47], h48))) (List.getD r44.2.1 0 .junk) (List.getD r44.2.1 1 .junk) (List.getD r44.2.1 2 .junk) r44.2.2)).bind fun r49 => (fun x2v50 x3v51 x11v52 h53 => Ex.nrm r49.1 (some (.normal, [x2v50, x3v51, x11v52], h53))) (List.getD r49.2.1 0 .junk) (List.getD r49.2.1 1 .junk) (List.getD r49.2.1 2 .junk) r49.2.2)).bind fun r54 => (fun x2v55 x3v56 x11v57 h58 => Ex.nrm r54.1 (some (.normal, [x2v55, x3v56, x11v57], h58))) (List.getD r54.2.1 0 .junk) (List.getD r54.2.1 1 .junk) (List.getD r54.2.1 2 .junk) r54.2.2)).bind fun r59 => (fun x2v60 x3v61 x11v62 h63 => Ex.nrm r59.1 (some (.normal, [x2v60, x3v61, x11v62], h63))) (List.getD r59.2.1 0 .junk) (List.getD r59.2.1 1 .junk) (List.getD r59.2.1 2 .junk) r59.2.2)).bind fun r64 => (fun x2v65 x3v66 x11v67 h68 => Ex.nrm r64.1 (acond x11v67 ((abuild [(.bool false), (.int .i64 0), (.int .i64 0), (.int .i64 0), (.bool false)] [(0, 1), (1, 1), (2, 1), (3, 1), (4, 1)] [(0, (.bool true)), (1, (.int .i64 2)), (2, (.int .i64 0)), (3, (.int .i64 0)), (4, (.bool true))]).bind fun t69 => (astore 5 h68 x2v65 t69).bind fun h70 => some (.ret, [x2v65], h70)) ((abin .eql x3v66 (.int .i64 11)).bind fun t71 => (acond t71 (some (.normal, [x2v65, x3v66, t71], h68)) ((abin .eql x3v66 (.int .i64 12)).bind fun t72 => (acond t72 (some (.normal, [x2v65, x3v66, t72], h68)) ((abin .eql x3v66 (.int .i64 13)).bind fun t73 => some (.normal, [x2v65, x3v66, t73], h68))).bind fun r74 => (fun x2v75 x3v76 x23v77 h78 => Ex.nrm r74.1 (some (.normal, [x2v75, x3v76, x23v77], h78))) (List.getD r74.2.1 0 .junk) (List.getD r74.2.1 1 .junk) (List.getD r74.2.1 2 .junk) r74.2.2)).bind fun r79 => (fun x2v80 x3v81 x23v82 h83 => Ex.nrm r79.1 (acond x23v82 ((abuild [(.bool false), (.int .i64 0), (.int .i64 0), (.int .i64 0), (.bool false)] [(0, 1), (1, 1), (2, 1), (3, 1), (4, 1)] [(0, (.bool true)), (1, (.int .i64 1)), (2, (.int .i64 0)), (3, (.int .i64 31)), (4, (.bool true))]).bind fun t84 => (astore 5 h83 x2v80 t84).bind fun h85 => some (.ret, [x2v80], h85)) ((abin .eql x3v81 (.int .i64 17)).bind fun t86 => acond t86 ((abuild [(.bool false), (.int .i64 0), (.int .i64 0), (.int .i64 0), (.bool false)] [(0, 1), (1, 1), (2, 1), (3, 1), (4, 1)] [(0, (.bool true)), (1, (.int .i64 3)), (2, (.int .i64 0)), (3, (.int .i64 0)), (4, (.bool true))]).bind fun t87 => (astore 5 h83 x2v80 t87).bind fun h88 => some (.ret, [x2v80], h88)) ((abin .eql x3v81 (.int .i64 18)).bind fun t89 => acond t89 ((abuild [(.bool false), (.int .i64 0), (.int .i64 0), (.int .i64 0), (.bool false)] [(0, 1), (1, 1), (2, 1), (3, 1), (4, 1)] [(0, (.bool true)), (1, (.int .i64 1)), (2, (.int .i64 0)), (3, (.int .i64 1048576)), (4, (.bool true))]).bind fun t90 => (astore 5 h83 x2v80 t90).bind fun h91 => some (.ret, [x2v80], h91)) ((abin .eql x3v81 (.int .i64 19)).bind fun t92 => acond t92 ((abuild [(.bool false), (.int .i64 0), (.int .i64 0), (.int .i64 0), (.bool false)] [(0, 1), (1, 1), (2, 1), (3, 1), (4, 1)] [(0, (.bool false)), (1, (.int .i64 2)), (2, (.int .i64 0)), (3, (.int .i64 1048576)), (4, (.bool true))]).bind fun t93 => (astore 5 h83 x2v80 t93).bind fun h94 => some (.ret, [x2v80], h94)) ((abuild [(.bool false), (.int .i64 0), (.int .i64 0), (.int .i64 0), (.bool false)] [(0, 1), (1, 1), (2, 1), (3, 1), (4, 1)] []).bind fun t95 => (astore 5 h83 x2v80 t95).bind fun h96 => some (.ret, [x2v80], h96))))))) (List.getD r79.2.1 0 .junk) (List.getD r79.2.1 1 .junk) (List.getD r79.2.1 2 .junk) r79.2.2))) (List.getD r64.2.1 0 .junk) (List.getD r64.2.1 1 .junk) (List.getD r64.2.1 2 .junk) r64.2.2))) (List.getD r7.2.1 0 .junk) (List.getD r7.2.1 1 .junk) (List.getD r7.2.1 2 .junk) r7.2.2)).bind fun r97 => (fun x2v98 h99 => Ex.endF r97.1 ((aload true 5 h99 x2v98).bind fun t100 => finR (List.length h0) t100 h99)) (List.getD r97.2.1 0 .junk) r97.2.2
theorem m134_eq (K : CallO) (a0 : AVal) (h0 : Heap) : evB Tryd.prog ann lpW K 134 [a0] h0 = m134 (callP ann K) a0 h0 := by kernel_rfl

/- (*hauberk/ir.checker).temp -/
noncomputable def m135 (K : CallO) (a0 a1 : AVal) (h0 : Heap) : Option (Res × Heap) :=
  ((anilCheck a0).bind fun t0 => (afieldAt 0 t0).bind fun t1 => (afieldAt 0 t1).bind fun t2 => (aload false 1 h0 t2).bind fun t3 => (abin .sub t3 (.int .i64 1)).bind fun t4 => bindRes (K 68 [(AVal.untok a1), (AVal.untok (.int .i64 0)), (AVal.untok t4)] h0) (fun t5 h6 => some (.ret, [t5], h6)) (fun _ _ => none)).bind fun r7 => (fun x4v8 h9 => Ex.endF r7.1 (finR (List.length h0) x4v8 h9)) (List.getD r7.2.1 0 .junk) r7.2.2
theorem m135_eq (K : CallO) (a0 a1 : AVal) (h0 : Heap) : evB Tryd.prog ann lpW K 135 [a0, a1] h0 = m135 (callP ann K) a0 a1 h0 := by kernel_rfl

/- (*hauberk/ir.checker).label -/
noncomputable def m136 (K : CallO) (a0 a1 : AVal) (h0 : Heap) : Option (Res × Heap) :=
  ((anilCheck a0).bind fun t0 => (afieldAt 0 t0).bind fun t1 => (afieldAt 2 t1).bind fun t2 => (aload false 1 h0 t2).bind fun t3 => (alenSl t3).bind fun t4 => (abin .sub t4 (.int .i64 1)).bind fun t5 => bindRes (K 68 [(AVal.untok a1), (AVal.untok (.int .i64 (-1))), (AVal.untok t5)] h0) (fun t6 h7 => some (.ret, [t6], h7)) (fun _ _ => none)).bind fun r8 => (fun x4v9 h10 => Ex.endF r8.1 (finR (List.length h0) x4v9 h10)) (List.getD r8.2.1 0 .junk) r8.2.2
theorem m136_eq (K : CallO) (a0 a1 : AVal) (h0 : Heap) : evB Tryd.prog ann lpW K 136 [a0, a1] h0 = m136 (callP ann K) a0 a1 h0 := by kernel_rfl

/- hauberk/ir.Makes -/
noncomputable def m73 (K : CallO) (a0 : AVal) (h0 : Heap) : Option (Res × Heap) :=
  (bindVH (anew 6 h0 a0) fun t0 h1 => (afieldAt 0 t0).bind fun t2 => (aload false 1 h1 t2).bind fun t3 => bindRes (K 134 [(AVal.untok t3)] h1) (fun t4 h5 => (afield false 1 0 t4).bind fun t6 => some (.ret, [t6], h5)) (fun _ _ => none)).bind fun r7 => (fun x2v8 h9 => Ex.endF r7.1 (finR (List.length h0) x2v8 h9)) (List.getD r7.2.1 0 .junk) r7.2.2
theorem m73_eq (K : CallO) (a0 : AVal) (h0 : Heap) : evB Tryd.prog ann lpW K 73 [a0] h0 = m73 (callP ann K) a0 h0 := by kernel_rfl

/- hauberk/ir.Uses -/
noncomputable def m74 (K : CallO) (a0 : AVal) (h0 : Heap) : Option (Res × Heap) :=
  (bindVH (anew 6 h0 a0) fun t0 h1 => (fun (t3 : AVal) (h2 : Heap) => (afieldAt 2 t0).bind fun t4 => (aload false 1 h2 t4).bind fun t5 => (afieldAt 3 t0).bind fun t6 => (aload false 1 h2 t6).bind fun t7 => (afieldAt 4 t0).bind fun t8 => (aload false 1 h2 t8).bind fun t9 => bindVH (abuildSlice 3 1 [(.int .i64 0)] [(0, t5), (1, t7), (2, t9)] h2) fun t10 h11 => (afieldAt 0 t0).bind fun t12 => (aload false 1 h11 t12).bind fun t13 => bindRes (K 134 [(AVal.untok t13)] h11) (fun t14 h15 => (afield false 1 1 t14).bind fun t16 => (asliceSl 1 t10 none (some t16)).bind fun t17 => some (.ret, [t17], h15)) (fun _ _ => none)) (.slice [] (.own (List.length h1))) (h1 ++ [.front 0 0])).bind fun r18 => (fun x2v19 h20 => Ex.endF r18.1 (finR (List.length h0) x2v19 h20)) (List.getD r18.2.1 0 .junk) r18.2.2
theorem m74_eq (K : CallO) (a0 : AVal) (h0 : Heap) : evB Tryd.prog ann lpW K 74 [a0] h0 = m74 (callP ann K) a0 h0 := by kernel_rfl

/- hauberk/hauberkref17.Check -/
noncomputable def m64_l0 (K : CallO) (m : Nat) (s : List AVal × Heap) : Option R :=
  (fun x1v96 x2v97 x3v98 x4v99 h100 => (afieldAt 2 x1v96).bind fun t101 => (aload false 1 h100 t101).bind fun t102 => (aindexSl 5 t102 x3v98).bind fun t103 => (afieldAt 0 t103).bind fun t104 => (aload false 1 h100 t104).bind fun t105 => (alenSl t105).bind fun t106 => (abin .lss x4v99 t106).bind fun t107 => acond t107 ((aload true 5 h100 x1v96).bind fun t108 => (afieldAt 2 x1v96).bind fun t109 => (aload false 1 h100 t109).bind fun t110 => (aindexSl 5 t110 x3v98).bind fun t111 => (afieldAt 0 t111).bind fun t112 => (aload false 1 h100 t112).bind fun t113 => (aindexSl 6 t113 x4v99).bind fun t114 => (aload true 6 h100 t114).bind fun t115 => bindRes (K 128 [(AVal.untok t108), (AVal.untok t115)] h100) (fun t116 h117 => (aun .not t116).bind fun t118 => acond t118 (endR m .ret [x1v96, (.int .i64 2), x3v98, x4v99] h117) ((abin .add x4v99 (.int .i64 1)).bind fun t119 => endR m .normal [x1v96, x2v97, x3v98, t119] h117)) (fun _ _ => none)) (endR m (.exit 2) [x1v96, x2v97, x3v98, x4v99] h100)) (List.getD s.1 0 .junk) (List.getD s.1 1 .junk) (List.getD s.1 2 .junk) (List.getD s.1 3 .junk) s.2
noncomputable def m64_l1 (K : CallO) (m : Nat) (s : List AVal × Heap) : Option R :=
  (fun x1v88 x2v89 x3v90 h91 => (afieldAt 2 x1v88).bind fun t92 => (aload false 1 h91 t92).bind fun t93 => (alenSl t93).bind fun t94 => (abin .lss x3v90 t94).bind fun t95 => acond t95 (((lpW (m64_l0 K (List.length h91)) ([x1v88, x2v89, x3v90, (.int .i64 0)], h91)).bind fun r120 => (fun x1v122 x2v123 x3v124 x4v125 h126 => Ex.thenDo r120.1 none (fun e121 => Ex.inBlock 2 e121 ((aload true 5 h126 x1v122).bind fun t128 => (afieldAt 2 x1v122).bind fun t129 => (aload false 1 h126 t129).bind fun t130 => (aindexSl 5 t130 x3v124).bind fun t131 => (afieldAt 1 t131).bind fun t132 => (aload true 4 h126 t132).bind fun t133 => bindRes (K 129 [(AVal.untok t128), (AVal.untok t133)] h126) (fun t134 h135 => (aun .not t134).bind fun t136 => acond t136 (some (.ret, [x1v122, (.int .i64 2), x3v124], h135)) (some (.normal, [x1v122, x2v123, x3v124], h135))) (fun _ _ => none)) (fun e127 => some (e127, [x1v122, x2v123, x3v124], h126)))) (List.getD r120.2.1 0 .junk) (List.getD r120.2.1 1 .junk) (List.getD r120.2.1 2 .junk) (List.getD r120.2.1 3 .junk) r120.2.2).bind fun r137 => (fun x1v138 x2v139 x3v140 h141 => Ex.inBlock 1 r137.1 ((abin .add x3v140 (.int .i64 1)).bind fun t143 => endR m .normal [x1v138, x2v139, t143] h141) (fun e142 => endR m e142 [x1v138, x2v139, x3v140] h141)) (List.getD r137.2.1 0 .junk) (List.getD r137.2.1 1 .junk) (List.getD r137.2.1 2 .junk) r137.2.2) (endR m (.exit 0) [x1v88, x2v89, x3v90] h91)) (List.getD s.1 0 .junk) (List.getD s.1 1 .junk) (List.getD s.1 2 .junk) s.2
noncomputable def m64 (K : CallO) (a0 : AVal) (h0 : Heap) : Option (Res × Heap) :=
  (bindVH (anew 5 h0 a0) fun t0 h1 => (aload true 5 h1 t0).bind fun t2 => bindRes (K 126 [(AVal.untok t2)] h1) (fun t3 h4 => acond t3 (some (.ret, [(.int .i64 18)], h4)) ((afieldAt 3 t0).bind fun t5 => (aload false 1 h4 t5).bind fun t6 => (abin .lss t6 (.int .i64 0)).bind fun t7 => (guardSel false t7 ((afieldAt 3 t0).bind fun t8 => kv0 t8 h4) (kv0 (.tuple []) h4)).bind (fin0 (fun t9 h10 => (guardSel false t7 ((aload false 1 h10 t9).bind fun t11 => kv0 t11 h10) (kv0 (.tuple []) h10)).bind (fin0 (fun t12 h13 => (guardSel false t7 ((abin .gtr t12 (.int .i64 65536)).bind fun t14 => kv0 t14 h13) (kv0 (.tuple []) h13)).bind (fin0 (fun t15 h16 => (apick t7 (.bool true) t15).bind fun t17 => (guardSel false t17 ((afieldAt 3 t0).bind fun t18 => kv0 t18 h16) (kv0 (.tuple []) h16)).bind (fin0 (fun t19 h20 => (guardSel false t17 ((aload false 1 h20 t19).bind fun t21 => kv0 t21 h20) (kv0 (.tuple []) h20)).bind (fin0 (fun t22 h23 => (guardSel false t17 ((abin .rem t22 (.int .i64 4)).bind fun t24 => kv0 t24 h23) (kv0 (.tuple []) h23)).bind (fin0 (fun t25 h26 => (guardSel false t17 ((abin .neq t25 (.int .i64 0)).bind fun t27 => kv0 t27 h26) (kv0 (.tuple []) h26)).bind (fin0 (fun t28 h29 => (apick t17 (.bool true) t28).bind fun t30 => (guardSel false t30 ((afieldAt 4 t0).bind fun t31 => kv0 t31 h29) (kv0 (.tuple []) h29)).bind (fin0 (fun t32 h33 => (guardSel false t30 ((aload false 1 h33 t32).bind fun t34 => kv0 t34 h33) (kv0 (.tuple []) h33)).bind (fin0 (fun t35 h36 => (guardSel false t30 ((abin .lss t35 (.int .i64 0)).bind fun t37 => kv0 t37 h36) (kv0 (.tuple []) h36)).bind (fin0 (fun t38 h39 => (apick t30 (.bool true) t38).bind fun t40 => (guardSel false t40 ((afieldAt 4 t0).bind fun t41 => kv0 t41 h39) (kv0 (.tuple []) h39)).bind (fin0 (fun t42 h43 => (guardSel false t40 ((aload false 1 h43 t42).bind fun t44 => kv0 t44 h43) (kv0 (.tuple []) h43)).bind (fin0 (fun t45 h46 => (guardSel false t40 ((abin .rem t45 (.int .i64 4)).bind fun t47 => kv0 t47 h46) (kv0 (.tuple []) h46)).bind (fin0 (fun t48 h49 => (guardSel false t40 ((abin .neq t48 (.int .i64 0)).bind fun t50 => kv0 t50 h49) (kv0 (.tuple []) h49)).bind (fin0 (fun t51 h52 => (apick t40 (.bool true) t51).bind fun t53 => (guardSel false t53 ((afieldAt 0 t0).bind fun t54 => kv0 t54 h52) (kv0 (.tuple []) h52)).bind (fin0 (fun t55 h56 => (guardSel false t53 ((aload false 1 h56 t55).bind fun t57 => kv0 t57 h56) (kv0 (.tuple []) h56)).bind (fin0 (fun t58 h59 => (guardSel false t53 ((abin .lss t58 (.int .i64 0)).bind fun t60 => kv0 t60 h59) (kv0 (.tuple []) h59)).bind (fin0 (fun t61 h62 => (apick t53 (.bool true) t61).bind fun t63 => (guardSel false t63 ((afieldAt 2 t0).bind fun t64 => kv0 t64 h62) (kv0 (.tuple []) h62)).bind (fin0 (fun t65 h66 => (guardSel false t63 ((aload false 1 h66 t65).bind fun t67 => kv0 t67 h66) (kv0 (.tuple []) h66)).bind (fin0 (fun t68 h69 => (guardSel false t63 ((alenSl t68).bind fun t70 => kv0 t70 h69) (kv0 (.tuple []) h69)).bind (fin0 (fun t71 h72 => (guardSel false t63 ((abin .eql t71 (.int .i64 0)).bind fun t73 => kv0 t73 h72) (kv0 (.tuple []) h72)).bind (fin0 (fun t74 h75 => (apick t63 (.bool true) t74).bind fun t76 => (guardSel false t76 ((aload true 5 h75 t0).bind fun t77 => kv0 t77 h75) (kv0 (.tuple []) h75)).bind (fin0 (fun t78 h79 => (guardSel false t76 (bindRes (K 127 [(AVal.untok t78)] h79) (fun t80 h81 => kv0 t80 h81) kp0) (kv0 (.tuple []) h79)).bind (fin0 (fun t82 h83 => (guardSel false t76 ((aun .not t82).bind fun t84 => kv0 t84 h83) (kv0 (.tuple []) h83)).bind (fin0 (fun t85 h86 => (apick t76 (.bool true) t85).bind fun t87 => acond t87 (some (.ret, [(.int .i64 2)], h86)) ((lpW (m64_l1 K (List.length h86)) ([t0, (.int .i64 0), (.int .i64 0)], h86)).bind fun r144 => (fun x1v146 x2v147 x3v148 h149 => Ex.thenDo r144.1 none (fun e145 => Ex.inBlock 0 e145 (some (.ret, [(.int .i64 0)], h149)) (fun e150 => some (e150, [x2v147], h149)))) (List.getD r144.2.1 0 .junk) (List.getD r144.2.1 1 .junk) (List.getD r144.2.1 2 .junk) r144.2.2)) (fun _ _ => none))) (fun _ _ => none))) (fun _ _ => none))) (fun _ _ => none))) (fun _ _ => none))) (fun _ _ => none))) (fun _ _ => none))) (fun _ _ => none))) (fun _ _ => none))) (fun _ _ => none))) (fun _ _ => none))) (fun _ _ => none))) (fun _ _ => none))) (fun _ _ => none))) (fun _ _ => none))) (fun _ _ => none))) (fun _ _ => none))) (fun _ _ => none))) (fun _ _ => none))) (fun _ _ => none))) (fun _ _ => none))) (fun _ _ => none))) (fun _ _ => none))) (fun _ _ => none)))) (fun _ _ => none)).bind fun r151 => (fun x2v152 h153 => Ex.endF r151.1 (finR (List.length h0) x2v152 h153)) (List.getD r151.2.1 0 .junk) r151.2.2
theorem m64_eq (K : CallO) (a0 : AVal) (h0 : Heap) : evB Tryd.prog ann lpW K 64 [a0] h0 = m64 (callP ann K) a0 h0 := by kernel_rfl

/- hauberk/hauberkref17.great -/
noncomputable def m126_l0 (K : CallO) (m : Nat) (s : List AVal × Heap) : Option R :=
  (fun x1v44 x2v45 x3v46 x4v47 x5v48 h49 => (afieldAt 2 x1v44).bind fun t50 => (aload false 1 h49 t50).bind fun t51 => (alenSl t51).bind fun t52 => (abin .lss x5v48 t52).bind fun t53 => (guardSel true t53 (kv0 x3v46 h49) (kv0 (.tuple []) h49)).bind (fin0 (fun t54 h55 => (guardSel true t53 ((abin .leq t54 (.int .i64 1048576)).bind fun t56 => kv0 t56 h55) (kv0 (.tuple []) h55)).bind (fin0 (fun t57 h58 => (apick t53 t57 (.bool false)).bind fun t59 => acond t59 ((afieldAt 2 x1v44).bind fun t60 => (aload false 1 h58 t60).bind fun t61 => (aindexSl 5 t61 x5v48).bind fun t62 => (afieldAt 0 t62).bind fun t63 => (aload false 1 h58 t63).bind fun t64 => (alenSl t64).bind fun t65 => (amin2 t65 (.int .i64 1048577)).bind fun t66 => (abin .add x3v46 t66).bind fun t67 => (abin .add x5v48 (.int .i64 1)).bind fun t68 => endR m .normal [x1v44, x2v45, t67, x4v47, t68] h58) (endR m (.exit 0) [x1v44, x2v45, x3v46, x4v47, x5v48] h58)) (fun _ _ => none))) (fun _ _ => none))) (List.getD s.1 0 .junk) (List.getD s.1 1 .junk) (List.getD s.1 2 .junk) (List.getD s.1 3 .junk) (List.getD s.1 4 .junk) s.2
noncomputable def m126_l1 (K : CallO) (m : Nat) (s : List AVal × Heap) : Option R :=
  (fun x1v78 x2v79 x3v80 x4v81 x6v82 h83 => (afieldAt 1 x1v78).bind fun t84 => (aload false 1 h83 t84).bind fun t85 => (alenSl t85).bind fun t86 => (abin .lss x6v82 t86).bind fun t87 => (guardSel true t87 (kv0 x4v81 h83) (kv0 (.tuple []) h83)).bind (fin0 (fun t88 h89 => (guardSel true t87 ((abin .leq t88 (.int .i64 65536)).bind fun t90 => kv0 t90 h89) (kv0 (.tuple []) h89)).bind (fin0 (fun t91 h92 => (apick t87 t91 (.bool false)).bind fun t93 => acond t93 ((afieldAt 1 x1v78).bind fun t94 => (aload false 1 h92 t94).bind fun t95 => (aindexSl 4 t95 x6v82).bind fun t96 => (afieldAt 2 t96).bind fun t97 => (aload false 1 h92 t97).bind fun t98 => (abin .eql t98 (.int .i64 0)).bind fun t99 => (acond t99 ((afieldAt 1 x1v78).bind fun t100 => (aload false 1 h92 t100).bind fun t101 => (aindexSl 4 t101 x6v82).bind fun t102 => (aload true 4 h92 t102).bind fun t103 => bindRes (K 175 [(AVal.untok t103)] h92) (fun t104 h105 => (abin .add x4v81 t104).bind fun t106 => some (.normal, [x1v78, x2v79, x3v80, t106, x6v82], h105)) (fun _ _ => none)) (some (.normal, [x1v78, x2v79, x3v80, x4v81, x6v82], h92))).bind fun r107 => (fun x1v108 x2v109 x3v110 x4v111 x6v112 h113 => Ex.nrm r107.1 ((abin .add x6v112 (.int .i64 1)).bind fun t114 => endR m .normal [x1v108, x2v109, x3v110, x4v111, t114] h113)) (List.getD r107.2.1 0 .junk) (List.getD r107.2.1 1 .junk) (List.getD r107.2.1 2 .junk) (List.getD r107.2.1 3 .junk) (List.getD r107.2.1 4 .junk) r107.2.2) (endR m (.exit 2) [x1v78, x2v79, x3v80, x4v81, x6v82] h92)) (fun _ _ => none))) (fun _ _ => none))) (List.getD s.1 0 .junk) (List.getD s.1 1 .junk) (List.getD s.1 2 .junk) (List.getD s.1 3 .junk) (List.getD s.1 4 .junk) s.2
noncomputable def m126 (K : CallO) (a0 : AVal) (h0 : Heap) : Option (Res × Heap) :=
  (bindVH (anew 5 h0 a0) fun t0 h1 => (afieldAt 0 t0).bind fun t2 => (aload false 1 h1 t2).bind fun t3 => (abin .gtr t3 (.int .i64 1048576)).bind fun t4 => (guardSel false t4 ((afieldAt 1 t0).bind fun t5 => kv0 t5 h1) (kv0 (.tuple []) h1)).bind (fin0 (fun t6 h7 => (guardSel false t4 ((aload false 1 h7 t6).bind fun t8 => kv0 t8 h7) (kv0 (.tuple []) h7)).bind (fin0 (fun t9 h10 => (guardSel false t4 ((alenSl t9).bind fun t11 => kv0 t11 h10) (kv0 (.tuple []) h10)).bind (fin0 (fun t12 h13 => (guardSel false t4 ((abin .gtr t12 (.int .i64 1048576)).bind fun t14 => kv0 t14 h13) (kv0 (.tuple []) h13)).bind (fin0 (fun t15 h16 => (apick t4 (.bool true) t15).bind fun t17 => (guardSel false t17 ((afieldAt 2 t0).bind fun t18 => kv0 t18 h16) (kv0 (.tuple []) h16)).bind (fin0 (fun t19 h20 => (guardSel false t17 ((aload false 1 h20 t19).bind fun t21 => kv0 t21 h20) (kv0 (.tuple []) h20)).bind (fin0 (fun t22 h23 => (guardSel false t17 ((alenSl t22).bind fun t24 => kv0 t24 h23) (kv0 (.tuple []) h23)).bind (fin0 (fun t25 h26 => (guardSel false t17 ((abin .gtr t25 (.int .i64 1048576)).bind fun t27 => kv0 t27 h26) (kv0 (.tuple []) h26)).bind (fin0 (fun t28 h29 => (apick t17 (.bool true) t28).bind fun t30 => (guardSel false t30 ((afieldAt 4 t0).bind fun t31 => kv0 t31 h29) (kv0 (.tuple []) h29)).bind (fin0 (fun t32 h33 => (guardSel false t30 ((aload false 1 h33 t32).bind fun t34 => kv0 t34 h33) (kv0 (.tuple []) h33)).bind (fin0 (fun t35 h36 => (guardSel false t30 ((abin .gtr t35 (.int .i64 65536)).bind fun t37 => kv0 t37 h36) (kv0 (.tuple []) h36)).bind (fin0 (fun t38 h39 => (apick t30 (.bool true) t38).bind fun t40 => acond t40 (some (.ret, [(.bool true)], h39)) ((afieldAt 4 t0).bind fun t41 => (aload false 1 h39 t41).bind fun t42 => (amax2 (.int .i64 0) t42).bind fun t43 => (lpW (m126_l0 K (List.length h39)) ([t0, (.bool false), (.int .i64 0), t43, (.int .i64 0)], h39)).bind fun r69 => (fun x1v71 x2v72 x3v73 x4v74 x5v75 h76 => Ex.thenDo r69.1 none (fun e70 => Ex.inBlock 0 e70 ((lpW (m126_l1 K (List.length h76)) ([x1v71, x2v72, x3v73, x4v74, (.int .i64 0)], h76)).bind fun r115 => (fun x1v117 x2v118 x3v119 x4v120 x6v121 h122 => Ex.thenDo r115.1 none (fun e116 => Ex.inBlock 2 e116 ((abin .gtr x3v119 (.int .i64 1048576)).bind fun t124 => (guardSel false t124 (kv0 x4v120 h122) (kv0 (.tuple []) h122)).bind (fin0 (fun t125 h126 => (guardSel false t124 ((abin .gtr t125 (.int .i64 65536)).bind fun t127 => kv0 t127 h126) (kv0 (.tuple []) h126)).bind (fin0 (fun t128 h129 => (apick t124 (.bool true) t128).bind fun t130 => some (.ret, [t130], h129)) (fun _ _ => none))) (fun _ _ => none))) (fun e123 => some (e123, [x2v118], h122)))) (List.getD r115.2.1 0 .junk) (List.getD r115.2.1 1 .junk) (List.getD r115.2.1 2 .junk) (List.getD r115.2.1 3 .junk) (List.getD r115.2.1 4 .junk) r115.2.2) (fun e77 => some (e77, [x2v72], h76)))) (List.getD r69.2.1 0 .junk) (List.getD r69.2.1 1 .junk) (List.getD r69.2.1 2 .junk) (List.getD r69.2.1 3 .junk) (List.getD r69.2.1 4 .junk) r69.2.2)) (fun _ _ => none))) (fun _ _ => none))) (fun _ _ => none))) (fun _ _ => none))) (fun _ _ => none))) (fun _ _ => none))) (fun _ _ => none))) (fun _ _ => none))) (fun _ _ => none))) (fun _ _ => none))) (fun _ _ => none))).bind fun r131 => (fun x2v132 h133 => Ex.endF r131.1 (finR (List.length h0) x2v132 h133)) (List.getD r131.2.1 0 .junk) r131.2.2
theorem m126_eq (K : CallO) (a0 : AVal) (h0 : Heap) : evB Tryd.prog ann lpW K 126 [a0] h0 = m126 (callP ann K) a0 h0 := by kernel_rfl

/- hauberk/hauberkref17.arrays -/
noncomputable def m127_l0 (K : CallO) (m : Nat) (s : List AVal × Heap) : Option R :=
  (fun x1v2 x2v3 x3v4 x4v5 h6 => (afieldAt 1 x1v2).bind fun t7 => (aload false 1 h6 t7).bind fun t8 => (alenSl t8).bind fun t9 => (abin .lss x4v5 t9).bind fun t10 => acond t10 (((afieldAt 1 x1v2).bind fun t11 => (aload false 1 h6 t11).bind fun t12 => (aindexSl 4 t12 x4v5).bind fun t13 => (aload true 4 h6 t13).bind fun t14 => bindVH (anew 4 h6 (.agg [(.int .i64 0), (.int .i64 0), (.int .i64 0), (.int .i64 0)])) fun t15 h16 => (astore 4 h16 t15 t14).bind fun h17 => (aload true 4 h17 t15).bind fun t18 => bindRes (K 175 [(AVal.untok t18)] h17) (fun t19 h20 => (abin .eql t19 (.int .i64 0)).bind fun t21 => (guardSel false t21 ((afieldAt 3 t15).bind fun t22 => kv0 t22 h20) (kv0 (.tuple []) h20)).bind (fin0 (fun t23 h24 => (guardSel false t21 ((aload false 1 h24 t23).bind fun t25 => kv0 t25 h24) (kv0 (.tuple []) h24)).bind (fin0 (fun t26 h27 => (guardSel false t21 ((abin .lss t26 (.int .i64 0)).bind fun t28 => kv0 t28 h27) (kv0 (.tuple []) h27)).bind (fin0 (fun t29 h30 => (apick t21 (.bool true) t29).bind fun t31 => (guardSel false t31 ((afieldAt 3 t15).bind fun t32 => kv0 t32 h30) (kv0 (.tuple []) h30)).bind (fin0 (fun t33 h34 => (guardSel false t31 ((aload false 1 h34 t33).bind fun t35 => kv0 t35 h34) (kv0 (.tuple []) h34)).bind (fin0 (fun t36 h37 => (guardSel false t31 ((abin .rem t36 (.int .i64 4)).bind fun t38 => kv0 t38 h37) (kv0 (.tuple []) h37)).bind (fin0 (fun t39 h40 => (guardSel false t31 ((abin .neq t39 (.int .i64 0)).bind fun t41 => kv0 t41 h40) (kv0 (.tuple []) h40)).bind (fin0 (fun t42 h43 => (apick t31 (.bool true) t42).bind fun t44 => (guardSel false t44 ((afieldAt 3 t15).bind fun t45 => kv0 t45 h43) (kv0 (.tuple []) h43)).bind (fin0 (fun t46 h47 => (guardSel false t44 ((aload false 1 h47 t46).bind fun t48 => kv0 t48 h47) (kv0 (.tuple []) h47)).bind (fin0 (fun t49 h50 => (guardSel false t44 ((abin .gtr t49 (.int .i64 65536)).bind fun t51 => kv0 t51 h50) (kv0 (.tuple []) h50)).bind (fin0 (fun t52 h53 => (apick t44 (.bool true) t52).bind fun t54 => acond t54 (some (.ret, [x1v2, (.bool false), x3v4, x4v5], h53)) (((afieldAt 2 t15).bind fun t55 => (aload false 1 h53 t55).bind fun t56 => (abin .eql t56 (.int .i64 0)).bind fun t57 => (guardSel true t57 ((afieldAt 3 t15).bind fun t58 => kv0 t58 h53) (kv0 (.tuple []) h53)).bind (fin0 (fun t59 h60 => (guardSel true t57 ((aload false 1 h60 t59).bind fun t61 => kv0 t61 h60) (kv0 (.tuple []) h60)).bind (fin0 (fun t62 h63 => (guardSel true t57 ((abin .eql t62 (.int .i64 0)).bind fun t64 => kv0 t64 h63) (kv0 (.tuple []) h63)).bind (fin0 (fun t65 h66 => (apick t57 t65 (.bool false)).bind fun t67 => (acond t67 (some (.normal, [x1v2, x2v3, x3v4, x4v5], h66)) ((afieldAt 2 t15).bind fun t68 => (aload false 1 h66 t68).bind fun t69 => (abin .eql t69 (.int .i64 1)).bind fun t70 => (guardSel true t70 ((afieldAt 3 t15).bind fun t71 => kv0 t71 h66) (kv0 (.tuple []) h66)).bind (fin0 (fun t72 h73 => (guardSel true t70 ((aload false 1 h73 t72).bind fun t74 => kv0 t74 h73) (kv0 (.tuple []) h73)).bind (fin0 (fun t75 h76 => (guardSel true t70 ((afieldAt 0 t15).bind fun t77 => kv0 t77 h76) (kv0 (.tuple []) h76)).bind (fin0 (fun t78 h79 => (guardSel true t70 ((aload false 1 h79 t78).bind fun t80 => kv0 t80 h79) (kv0 (.tuple []) h79)).bind (fin0 (fun t81 h82 => (guardSel true t70 ((afieldAt 1 t15).bind fun t83 => kv0 t83 h82) (kv0 (.tuple []) h82)).bind (fin0 (fun t84 h85 => (guardSel true t70 ((aload false 1 h85 t84).bind fun t86 => kv0 t86 h85) (kv0 (.tuple []) h85)).bind (fin0 (fun t87 h88 => (guardSel true t70 ((abin .mul t81 t87).bind fun t89 => kv0 t89 h88) (kv0 (.tuple []) h88)).bind (fin0 (fun t90 h91 => (guardSel true t70 ((abin .add t75 t90).bind fun t92 => kv0 t92 h91) (kv0 (.tuple []) h91)).bind (fin0 (fun t93 h94 => (guardSel true t70 ((afieldAt 3 x1v2).bind fun t95 => kv0 t95 h94) (kv0 (.tuple []) h94)).bind (fin0 (fun t96 h97 => (guardSel true t70 ((aload false 1 h97 t96).bind fun t98 => kv0 t98 h97) (kv0 (.tuple []) h97)).bind (fin0 (fun t99 h100 => (guardSel true t70 ((abin .leq t93 t99).bind fun t101 => kv0 t101 h100) (kv0 (.tuple []) h100)).bind (fin0 (fun t102 h103 => (apick t70 t102 (.bool false)).bind fun t104 => (acond t104 (some (.normal, [x1v2, x2v3, x3v4, x4v5], h103)) ((afieldAt 2 t15).bind fun t105 => (aload false 1 h103 t105).bind fun t106 => (abin .eql t106 (.int .i64 2)).bind fun t107 => (guardSel true t107 ((afieldAt 3 t15).bind fun t108 => kv0 t108 h103) (kv0 (.tuple []) h103)).bind (fin0 (fun t109 h110 => (guardSel true t107 ((aload false 1 h110 t109).bind fun t111 => kv0 t111 h110) (kv0 (.tuple []) h110)).bind (fin0 (fun t112 h113 => (guardSel true t107 ((afieldAt 0 t15).bind fun t114 => kv0 t114 h113) (kv0 (.tuple []) h113)).bind (fin0 (fun t115 h116 => (guardSel true t107 ((aload false 1 h116 t115).bind fun t117 => kv0 t117 h116) (kv0 (.tuple []) h116)).bind (fin0 (fun t118 h119 => (guardSel true t107 ((afieldAt 1 t15).bind fun t120 => kv0 t120 h119) (kv0 (.tuple []) h119)).bind (fin0 (fun t121 h122 => (guardSel true t107 ((aload false 1 h122 t121).bind fun t123 => kv0 t123 h122) (kv0 (.tuple []) h122)).bind (fin0 (fun t124 h125 => (guardSel true t107 ((abin .mul t118 t124).bind fun t126 => kv0 t126 h125) (kv0 (.tuple []) h125)).bind (fin0 (fun t127 h128 => (guardSel true t107 ((abin .add t112 t127).bind fun t129 => kv0 t129 h128) (kv0 (.tuple []) h128)).bind (fin0 (fun t130 h131 => (guardSel true t107 ((afieldAt 4 x1v2).bind fun t132 => kv0 t132 h131) (kv0 (.tuple []) h131)).bind (fin0 (fun t133 h134 => (guardSel true t107 ((aload false 1 h134 t133).bind fun t135 => kv0 t135 h134) (kv0 (.tuple []) h134)).bind (fin0 (fun t136 h137 => (guardSel true t107 ((abin .leq t130 t136).bind fun t138 => kv0 t138 h137) (kv0 (.tuple []) h137)).bind (fin0 (fun t139 h140 => (apick t107 t139 (.bool false)).bind fun t141 => (guardSel true t141 ((afieldAt 3 t15).bind fun t142 => kv0 t142 h140) (kv0 (.tuple []) h140)).bind (fin0 (fun t143 h144 => (guardSel true t141 ((aload false 1 h144 t143).bind fun t145 => kv0 t145 h144) (kv0 (.tuple []) h144)).bind (fin0 (fun t146 h147 => (guardSel true t141 (kv0 x3v4 h147) (kv0 (.tuple []) h147)).bind (fin0 (fun t148 h149 => (guardSel true t141 ((abin .geq t146 t148).bind fun t150 => kv0 t150 h149) (kv0 (.tuple []) h149)).bind (fin0 (fun t151 h152 => (apick t141 t151 (.bool false)).bind fun t153 => acond t153 ((afieldAt 3 t15).bind fun t154 => (aload false 1 h152 t154).bind fun t155 => (abin .add t155 t19).bind fun t156 => some (.normal, [x1v2, x2v3, t156, x4v5], h152)) (some (.ret, [x1v2, (.bool false), x3v4, x4v5], h152))) (fun _ _ => none))) (fun _ _ => none))) (fun _ _ => none))) (fun _ _ => none))) (fun _ _ => none))) (fun _ _ => none))) (fun _ _ => none))) (fun _ _ => none))) (fun _ _ => none))) (fun _ _ => none))) (fun _ _ => none))) (fun _ _ => none))) (fun _ _ => none))) (fun _ _ => none))) (fun _ _ => none)))).bind fun r157 => (fun x1v158 x2v159 x3v160 x4v161 h162 => Ex.thenDo r157.1 (some (.normal, [x1v158, x2v159, x3v160, x4v161], h162)) (fun e163 => some (e163, [x1v158, x2v159, x3v160, x4v161], h162))) (List.getD r157.2.1 0 .junk) (List.getD r157.2.1 1 .junk) (List.getD r157.2.1 2 .junk) (List.getD r157.2.1 3 .junk) r157.2.2) (fun _ _ => none))) (fun _ _ => none))) (fun _ _ => none))) (fun _ _ => none))) (fun _ _ => none))) (fun _ _ => none))) (fun _ _ => none))) (fun _ _ => none))) (fun _ _ => none))) (fun _ _ => none))) (fun _ _ => none)))).bind fun r164 => (fun x1v165 x2v166 x3v167 x4v168 h169 => Ex.thenDo r164.1 (some (.normal, [x1v165, x2v166, x3v167, x4v168], h169)) (fun e170 => some (e170, [x1v165, x2v166, x3v167, x4v168], h169))) (List.getD r164.2.1 0 .junk) (List.getD r164.2.1 1 .junk) (List.getD r164.2.1 2 .junk) (List.getD r164.2.1 3 .junk) r164.2.2) (fun _ _ => none))) (fun _ _ => none))) (fun _ _ => none))).bind fun r171 => (fun x1v172 x2v173 x3v174 x4v175 h176 => Ex.inBlock 2 r171.1 (some (.normal, [x1v172, x2v173, x3v174, x4v175], h176)) (fun e177 => some (e177, [x1v172, x2v173, x3v174, x4v175], h176))) (List.getD r171.2.1 0 .junk) (List.getD r171.2.1 1 .junk) (List.getD r171.2.1 2 .junk) (List.getD r171.2.1 3 .junk) r171.2.2)) (fun _ _ => none))) (fun _ _ => none))) (fun _ _ => none))) (fun _ _ => none))) (fun _ _ => none))) (fun _ _ => none))) (fun _ _ => none))) (fun _ _ => none))) (fun _ _ => none))) (fun _ _ => none))) (fun _ _ => none)).bind fun r178 => (fun x1v179 x2v180 x3v181 x4v182 h183 => Ex.inBlock 1 r178.1 ((abin .add x4v182 (.int .i64 1)).bind fun t185 => endR m .normal [x1v179, x2v180, x3v181, t185] h183) (fun e184 => endR m e184 [x1v179, x2v180, x3v181, x4v182] h183)) (List.getD r178.2.1 0 .junk) (List.getD r178.2.1 1 .junk) (List.getD r178.2.1 2 .junk) (List.getD r178.2.1 3 .junk) r178.2.2) (endR m (.exit 0) [x1v2, x2v3, x3v4, x4v5] h6)) (List.getD s.1 0 .junk) (List.getD s.1 1 .junk) (List.getD s.1 2 .junk) (List.getD s.1 3 .junk) s.2
noncomputable def m127 (K : CallO) (a0 : AVal) (h0 : Heap) : Option (Res × Heap) :=
  (bindVH (anew 5 h0 a0) fun t0 h1 => (lpW (m127_l0 K (List.length h1)) ([t0, (.bool false), (.int .i64 0), (.int .i64 0)], h1)).bind fun r186 => (fun x1v188 x2v189 x3v190 x4v191 h192 => Ex.thenDo r186.1 none (fun e187 => Ex.inBlock 0 e187 (some (.ret, [(.bool true)], h192)) (fun e193 => some (e193, [x2v189], h192)))) (List.getD r186.2.1 0 .junk) (List.getD r186.2.1 1 .junk) (List.getD r186.2.1 2 .junk) (List.getD r186.2.1 3 .junk) r186.2.2).bind fun r194 => (fun x2v195 h196 => Ex.endF r194.1 (finR (List.length h0) x2v195 h196)) (List.getD r194.2.1 0 .junk) r194.2.2
theorem m127_eq (K : CallO) (a0 : AVal) (h0 : Heap) : evB Tryd.prog ann lpW K 127 [a0] h0 = m127 (callP ann K) a0 h0 := by kernel_rfl

/- hauberk/hauberkref17.op -/
noncomputable def m128 (K : CallO) (a0 a1 : AVal) (h0 : Heap) : Option (Res × Heap) :=
  (bindVH (anew 5 h0 a0) fun t0 h1 => bindVH (anew 6 h1 a1) fun t2 h3 => (afieldAt 0 t2).bind fun t4 => (aload false 1 h3 t4).bind fun t5 => bindRes (K 163 [(AVal.untok t5)] h3) (fun t6 h7 => (abin .eql t6 (.str [])).bind fun t8 => (guardSel false t8 ((aload true 5 h7 t0).bind fun t9 => kv0 t9 h7) (kv0 (.tuple []) h7)).bind (fin0 (fun t10 h11 => (guardSel false t8 (kv0 t6 h11) (kv0 (.tuple []) h11)).bind (fin0 (fun t12 h13 => (guardSel false t8 ((afieldAt 1 t2).bind fun t14 => kv0 t14 h13) (kv0 (.tuple []) h13)).bind (fin0 (fun t15 h16 => (guardSel false t8 ((aload false 1 h16 t15).bind fun t17 => kv0 t17 h16) (kv0 (.tuple []) h16)).bind (fin0 (fun t18 h19 => (guardSel false t8 (bindRes (K 164 [(AVal.untok t12), (AVal.untok (.int .u8 100))] (hide (lockIds [0, 1] [t0, t15]) h19)) (fun t20 h21 => kv0 t20 (unhide (lockIds [0, 1] [t0, t15]) h19 h21)) (fun v h' => kp0 v (unhide (lockIds [0, 1] [t0, t15]) h19 h'))) (kv0 (.tuple []) h19)).bind (fin0 (fun t22 h23 => (guardSel false t8 (bindRes (K 176 [(AVal.untok t10), (AVal.untok t22), (AVal.untok t18)] h23) (fun t24 h25 => kv0 t24 h25) kp0) (kv0 (.tuple []) h23)).bind (fin0 (fun t26 h27 => (guardSel false t8 ((aun .not t26).bind fun t28 => kv0 t28 h27) (kv0 (.tuple []) h27)).bind (fin0 (fun t29 h30 => (apick t8 (.bool true) t29).bind fun t31 => (guardSel false t31 ((aload true 5 h30 t0).bind fun t32 => kv0 t32 h30) (kv0 (.tuple []) h30)).bind (fin0 (fun t33 h34 => (guardSel false t31 (kv0 t6 h34) (kv0 (.tuple []) h34)).bind (fin0 (fun t35 h36 => (guardSel false t31 ((afieldAt 2 t2).bind fun t37 => kv0 t37 h36) (kv0 (.tuple []) h36)).bind (fin0 (fun t38 h39 => (guardSel false t31 ((aload false 1 h39 t38).bind fun t40 => kv0 t40 h39) (kv0 (.tuple []) h39)).bind (fin0 (fun t41 h42 => (guardSel false t31 (bindRes (K 164 [(AVal.untok t35), (AVal.untok (.int .u8 97))] (hide (lockIds [0, 1] [t0, t38]) h42)) (fun t43 h44 => kv0 t43 (unhide (lockIds [0, 1] [t0, t38]) h42 h44)) (fun v h' => kp0 v (unhide (lockIds [0, 1] [t0, t38]) h42 h'))) (kv0 (.tuple []) h42)).bind (fin0 (fun t45 h46 => (guardSel false t31 (bindRes (K 176 [(AVal.untok t33), (AVal.untok t45), (AVal.untok t41)] h46) (fun t47 h48 => kv0 t47 h48) kp0) (kv0 (.tuple []) h46)).bind (fin0 (fun t49 h50 => (guardSel false t31 ((aun .not t49).bind fun t51 => kv0 t51 h50) (kv0 (.tuple []) h50)).bind (fin0 (fun t52 h53 => (apick t31 (.bool true) t52).bind fun t54 => (guardSel false t54 ((aload true 5 h53 t0).bind fun t55 => kv0 t55 h53) (kv0 (.tuple []) h53)).bind (fin0 (fun t56 h57 => (guardSel false t54 (kv0 t6 h57) (kv0 (.tuple []) h57)).bind (fin0 (fun t58 h59 => (guardSel false t54 ((afieldAt 3 t2).bind fun t60 => kv0 t60 h59) (kv0 (.tuple []) h59)).bind (fin0 (fun t61 h62 => (guardSel false t54 ((aload false 1 h62 t61).bind fun t63 => kv0 t63 h62) (kv0 (.tuple []) h62)).bind (fin0 (fun t64 h65 => (guardSel false t54 (bindRes (K 164 [(AVal.untok t58), (AVal.untok (.int .u8 98))] (hide (lockIds [0, 1] [t0, t61]) h65)) (fun t66 h67 => kv0 t66 (unhide (lockIds [0, 1] [t0, t61]) h65 h67)) (fun v h' => kp0 v (unhide (lockIds [0, 1] [t0, t61]) h65 h'))) (kv0 (.tuple []) h65)).bind (fin0 (fun t68 h69 => (guardSel false t54 (bindRes (K 176 [(AVal.untok t56), (AVal.untok t68), (AVal.untok t64)] h69) (fun t70 h71 => kv0 t70 h71) kp0) (kv0 (.tuple []) h69)).bind (fin0 (fun t72 h73 => (guardSel false t54 ((aun .not t72).bind fun t74 => kv0 t74 h73) (kv0 (.tuple []) h73)).bind (fin0 (fun t75 h76 => (apick t54 (.bool true) t75).bind fun t77 => (guardSel false t77 ((aload true 5 h76 t0).bind fun t78 => kv0 t78 h76) (kv0 (.tuple []) h76)).bind (fin0 (fun t79 h80 => (guardSel false t77 (kv0 t6 h80) (kv0 (.tuple []) h80)).bind (fin0 (fun t81 h82 => (guardSel false t77 ((afieldAt 4 t2).bind fun t83 => kv0 t83 h82) (kv0 (.tuple []) h82)).bind (fin0 (fun t84 h85 => (guardSel false t77 ((aload false 1 h85 t84).bind fun t86 => kv0 t86 h85) (kv0 (.tuple []) h85)).bind (fin0 (fun t87 h88 => (guardSel false t77 (bindRes (K 164 [(AVal.untok t81), (AVal.untok (.int .u8 99))] (hide (lockIds [0, 1] [t0, t84]) h88)) (fun t89 h90 => kv0 t89 (unhide (lockIds [0, 1] [t0, t84]) h88 h90)) (fun v h' => kp0 v (unhide (lockIds [0, 1] [t0, t84]) h88 h'))) (kv0 (.tuple []) h88)).bind (fin0 (fun t91 h92 => (guardSel false t77 (bindRes (K 176 [(AVal.untok t79), (AVal.untok t91), (AVal.untok t87)] h92) (fun t93 h94 => kv0 t93 h94) kp0) (kv0 (.tuple []) h92)).bind (fin0 (fun t95 h96 => (guardSel false t77 ((aun .not t95).bind fun t97 => kv0 t97 h96) (kv0 (.tuple []) h96)).bind (fin0 (fun t98 h99 => (apick t77 (.bool true) t98).bind fun t100 => (guardSel false t100 ((afieldAt 5 t2).bind fun t101 => kv0 t101 h99) (kv0 (.tuple []) h99)).bind (fin0 (fun t102 h103 => (guardSel false t100 ((aload false 1 h103 t102).bind fun t104 => kv0 t104 h103) (kv0 (.tuple []) h103)).bind (fin0 (fun t105 h106 => (guardSel false t100 ((abin .lss t105 (.int .i64 0)).bind fun t107 => kv0 t107 h106) (kv0 (.tuple []) h106)).bind (fin0 (fun t108 h109 => (apick t100 (.bool true) t108).bind fun t110 => acond t110 (some (.ret, [(.bool false)], h109)) (bindRes (K 164 [(AVal.untok t6), (AVal.untok (.int .u8 110))] h109) (fun t111 h112 => acond t111 ((afieldAt 5 t2).bind fun t113 => (aload false 1 h112 t113).bind fun t114 => (abin .leq t114 (.int .i64 4294967295)).bind fun t115 => some (.ret, [t115], h112)) (bindRes (K 164 [(AVal.untok t6), (AVal.untok (.int .u8 115))] h112) (fun t116 h117 => acond t116 ((afieldAt 5 t2).bind fun t118 => (aload false 1 h117 t118).bind fun t119 => (abin .lss t119 (.int .i64 32)).bind fun t120 => some (.ret, [t120], h117)) (bindRes (K 164 [(AVal.untok t6), (AVal.untok (.int .u8 114))] h117) (fun t121 h122 => acond t121 ((afieldAt 5 t2).bind fun t123 => (aload false 1 h122 t123).bind fun t124 => (afieldAt 1 t0).bind fun t125 => (aload false 1 h122 t125).bind fun t126 => (alenSl t126).bind fun t127 => (abin .lss t124 t127).bind fun t128 => (guardSel true t128 ((afieldAt 0 t2).bind fun t129 => kv0 t129 h122) (kv0 (.tuple []) h122)).bind (fin0 (fun t130 h131 => (guardSel true t128 ((aload false 1 h131 t130).bind fun t132 => kv0 t132 h131) (kv0 (.tuple []) h131)).bind (fin0 (fun t133 h134 => (guardSel true t128 ((abin .eql t133 (.int .i64 18)).bind fun t135 => kv0 t135 h134) (kv0 (.tuple []) h134)).bind (fin0 (fun t136 h137 => (guardSel true t128 (kv0 t136 h137) (kv0 (.tuple []) h137)).bind (fin0 (fun t138 h139 => (guardSel false t138 ((afieldAt 1 t0).bind fun t140 => kv0 t140 h139) (kv0 (.tuple []) h139)).bind (fin0 (fun t141 h142 => (guardSel false t138 ((aload false 1 h142 t141).bind fun t143 => kv0 t143 h142) (kv0 (.tuple []) h142)).bind (fin0 (fun t144 h145 => (guardSel false t138 ((afieldAt 5 t2).bind fun t146 => kv0 t146 h145) (kv0 (.tuple []) h145)).bind (fin0 (fun t147 h148 => (guardSel false t138 ((aload false 1 h148 t147).bind fun t149 => kv0 t149 h148) (kv0 (.tuple []) h148)).bind (fin0 (fun t150 h151 => (guardSel false t138 ((aindexSl 4 t144 t150).bind fun t152 => kv0 t152 h151) (kv0 (.tuple []) h151)).bind (fin0 (fun t153 h154 => (guardSel false t138 ((afieldAt 2 t153).bind fun t155 => kv0 t155 h154) (kv0 (.tuple []) h154)).bind (fin0 (fun t156 h157 => (guardSel false t138 ((aload false 1 h157 t156).bind fun t158 => kv0 t158 h157) (kv0 (.tuple []) h157)).bind (fin0 (fun t159 h160 => (guardSel false t138 ((abin .neq t159 (.int .i64 1)).bind fun t161 => kv0 t161 h160) (kv0 (.tuple []) h160)).bind (fin0 (fun t162 h163 => (guardSel true t128 ((apick t138 (.bool true) t162).bind fun t164 => kv0 t164 h163) (kv0 (.tuple []) h163)).bind (fin0 (fun t165 h166 => (apick t128 t165 (.bool false)).bind fun t167 => some (.ret, [t167], h166)) (fun _ _ => none))) (fun _ _ => none))) (fun _ _ => none))) (fun _ _ => none))) (fun _ _ => none))) (fun _ _ => none))) (fun _ _ => none))) (fun _ _ => none))) (fun _ _ => none))) (fun _ _ => none))) (fun _ _ => none))) (fun _ _ => none))) (fun _ _ => none))) ((afieldAt 5 t2).bind fun t168 => (aload false 1 h122 t168).bind fun t169 => (abin .eql t169 (.int .i64 0)).bind fun t170 => some (.ret, [t170], h122))) (fun _ _ => none))) (fun _ _ => none))) (fun _ _ => none))) (fun _ _ => none))) (fun _ _ => none))) (fun _ _ => none))) (fun _ _ => none))) (fun _ _ => none))) (fun _ _ => none))) (fun _ _ => none))) (fun _ _ => none))) (fun _ _ => none))) (fun _ _ => none))) (fun _ _ => none))) (fun _ _ => none))) (fun _ _ => none))) (fun _ _ => none))) (fun _ _ => none))) (fun _ _ => none))) (fun _ _ => none))) (fun _ _ => none))) (fun _ _ => none))) (fun _ _ => none))) (fun _ _ => none))) (fun _ _ => none))) (fun _ _ => none))) (fun _ _ => none))) (fun _ _ => none))) (fun _ _ => none))) (fun _ _ => none))) (fun _ _ => none))) (fun _ _ => none))) (fun _ _ => none))) (fun _ _ => none))) (fun _ _ => none)).bind fun r171 => (fun x4v172 h173 => Ex.endF r171.1 (finR (List.length h0) x4v172 h173)) (List.getD r171.2.1 0 .junk) r171.2.2
theorem m128_eq (K : CallO) (a0 a1 : AVal) (h0 : Heap) : evB Tryd.prog ann lpW K 128 [a0, a1] h0 = m128 (callP ann K) a0 a1 h0 := by kernel_rfl

/- hauberk/hauberkref17.term -/
noncomputable def m129 (K : CallO) (a0 a1 : AVal) (h0 : Heap) : Option (Res × Heap) :=
  (bindVH (anew 5 h0 a0) fun t0 h1 => bindVH (anew 4 h1 a1) fun t2 h3 => (afieldAt 2 t0).bind fun t4 => (aload false 1 h3 t4).bind fun t5 => (alenSl t5).bind fun t6 => (afieldAt 0 t2).bind fun t7 => (aload false 1 h3 t7).bind fun t8 => (abin .eql t8 (.int .i64 1)).bind fun t9 => acond t9 ((afieldAt 1 t2).bind fun t10 => (aload false 1 h3 t10).bind fun t11 => (abin .eql t11 (.int .i64 0)).bind fun t12 => (guardSel true t12 ((afieldAt 3 t2).bind fun t13 => kv0 t13 h3) (kv0 (.tuple []) h3)).bind (fin0 (fun t14 h15 => (guardSel true t12 ((aload false 1 h15 t14).bind fun t16 => kv0 t16 h15) (kv0 (.tuple []) h15)).bind (fin0 (fun t17 h18 => (guardSel true t12 ((abin .eql t17 (.int .i64 0)).bind fun t19 => kv0 t19 h18) (kv0 (.tuple []) h18)).bind (fin0 (fun t20 h21 => (apick t12 t20 (.bool false)).bind fun t22 => (guardSel true t22 ((afieldAt 2 t2).bind fun t23 => kv0 t23 h21) (kv0 (.tuple []) h21)).bind (fin0 (fun t24 h25 => (guardSel true t22 ((aload false 1 h25 t24).bind fun t26 => kv0 t26 h25) (kv0 (.tuple []) h25)).bind (fin0 (fun t27 h28 => (guardSel true t22 ((abin .geq t27 (.int .i64 (-1))).bind fun t29 => kv0 t29 h28) (kv0 (.tuple []) h28)).bind (fin0 (fun t30 h31 => (apick t22 t30 (.bool false)).bind fun t32 => (guardSel true t32 ((afieldAt 2 t2).bind fun t33 => kv0 t33 h31) (kv0 (.tuple []) h31)).bind (fin0 (fun t34 h35 => (guardSel true t32 ((aload false 1 h35 t34).bind fun t36 => kv0 t36 h35) (kv0 (.tuple []) h35)).bind (fin0 (fun t37 h38 => (guardSel true t32 (kv0 t6 h38) (kv0 (.tuple []) h38)).bind (fin0 (fun t39 h40 => (guardSel true t32 ((abin .lss t37 t39).bind fun t41 => kv0 t41 h40) (kv0 (.tuple []) h40)).bind (fin0 (fun t42 h43 => (apick t32 t42 (.bool false)).bind fun t44 => some (.ret, [t44], h43)) (fun _ _ => none))) (fun _ _ => none))) (fun _ _ => none))) (fun _ _ => none))) (fun _ _ => none))) (fun _ _ => none))) (fun _ _ => none))) (fun _ _ => none))) (fun _ _ => none))) (fun _ _ => none))) ((abin .eql t8 (.int .i64 2)).bind fun t45 => acond t45 ((afieldAt 1 t2).bind fun t46 => (aload false 1 h3 t46).bind fun t47 => (abin .geq t47 (.int .i64 0)).bind fun t48 => (guardSel true t48 ((afieldAt 1 t2).bind fun t49 => kv0 t49 h3) (kv0 (.tuple []) h3)).bind (fin0 (fun t50 h51 => (guardSel true t48 ((aload false 1 h51 t50).bind fun t52 => kv0 t52 h51) (kv0 (.tuple []) h51)).bind (fin0 (fun t53 h54 => (guardSel true t48 ((afieldAt 0 t0).bind fun t55 => kv0 t55 h54) (kv0 (.tuple []) h54)).bind (fin0 (fun t56 h57 => (guardSel true t48 ((aload false 1 h57 t56).bind fun t58 => kv0 t58 h57) (kv0 (.tuple []) h57)).bind (fin0 (fun t59 h60 => (guardSel true t48 ((abin .lss t53 t59).bind fun t61 => kv0 t61 h60) (kv0 (.tuple []) h60)).bind (fin0 (fun t62 h63 => (apick t48 t62 (.bool false)).bind fun t64 => (guardSel true t64 ((afieldAt 2 t2).bind fun t65 => kv0 t65 h63) (kv0 (.tuple []) h63)).bind (fin0 (fun t66 h67 => (guardSel true t64 ((aload false 1 h67 t66).bind fun t68 => kv0 t68 h67) (kv0 (.tuple []) h67)).bind (fin0 (fun t69 h70 => (guardSel true t64 ((abin .geq t69 (.int .i64 (-1))).bind fun t71 => kv0 t71 h70) (kv0 (.tuple []) h70)).bind (fin0 (fun t72 h73 => (apick t64 t72 (.bool false)).bind fun t74 => (guardSel true t74 ((afieldAt 2 t2).bind fun t75 => kv0 t75 h73) (kv0 (.tuple []) h73)).bind (fin0 (fun t76 h77 => (guardSel true t74 ((aload false 1 h77 t76).bind fun t78 => kv0 t78 h77) (kv0 (.tuple []) h77)).bind (fin0 (fun t79 h80 => (guardSel true t74 (kv0 t6 h80) (kv0 (.tuple []) h80)).bind (fin0 (fun t81 h82 => (guardSel true t74 ((abin .lss t79 t81).bind fun t83 => kv0 t83 h82) (kv0 (.tuple []) h82)).bind (fin0 (fun t84 h85 => (apick t74 t84 (.bool false)).bind fun t86 => (guardSel true t86 ((afieldAt 3 t2).bind fun t87 => kv0 t87 h85) (kv0 (.tuple []) h85)).bind (fin0 (fun t88 h89 => (guardSel true t86 ((aload false 1 h89 t88).bind fun t90 => kv0 t90 h89) (kv0 (.tuple []) h89)).bind (fin0 (fun t91 h92 => (guardSel true t86 ((abin .geq t91 (.int .i64 (-1))).bind fun t93 => kv0 t93 h92) (kv0 (.tuple []) h92)).bind (fin0 (fun t94 h95 => (apick t86 t94 (.bool false)).bind fun t96 => (guardSel true t96 ((afieldAt 3 t2).bind fun t97 => kv0 t97 h95) (kv0 (.tuple []) h95)).bind (fin0 (fun t98 h99 => (guardSel true t96 ((aload false 1 h99 t98).bind fun t100 => kv0 t100 h99) (kv0 (.tuple []) h99)).bind (fin0 (fun t101 h102 => (guardSel true t96 (kv0 t6 h102) (kv0 (.tuple []) h102)).bind (fin0 (fun t103 h104 => (guardSel true t96 ((abin .lss t101 t103).bind fun t105 => kv0 t105 h104) (kv0 (.tuple []) h104)).bind (fin0 (fun t106 h107 => (apick t96 t106 (.bool false)).bind fun t108 => some (.ret, [t108], h107)) (fun _ _ => none))) (fun _ _ => none))) (fun _ _ => none))) (fun _ _ => none))) (fun _ _ => none))) (fun _ _ => none))) (fun _ _ => none))) (fun _ _ => none))) (fun _ _ => none))) (fun _ _ => none))) (fun _ _ => none))) (fun _ _ => none))) (fun _ _ => none))) (fun _ _ => none))) (fun _ _ => none))) (fun _ _ => none))) (fun _ _ => none))) (fun _ _ => none))) (fun _ _ => none))) ((abin .eql t8 (.int .i64 3)).bind fun t109 => acond t109 ((afieldAt 1 t2).bind fun t110 => (aload false 1 h3 t110).bind fun t111 => (abin .eql t111 (.int .i64 0)).bind fun t112 => (guardSel true t112 ((afieldAt 2 t2).bind fun t113 => kv0 t113 h3) (kv0 (.tuple []) h3)).bind (fin0 (fun t114 h115 => (guardSel true t112 ((aload false 1 h115 t114).bind fun t116 => kv0 t116 h115) (kv0 (.tuple []) h115)).bind (fin0 (fun t117 h118 => (guardSel true t112 ((abin .eql t117 (.int .i64 0)).bind fun t119 => kv0 t119 h118) (kv0 (.tuple []) h118)).bind (fin0 (fun t120 h121 => (apick t112 t120 (.bool false)).bind fun t122 => (guardSel true t122 ((afieldAt 3 t2).bind fun t123 => kv0 t123 h121) (kv0 (.tuple []) h121)).bind (fin0 (fun t124 h125 => (guardSel true t122 ((aload false 1 h125 t124).bind fun t126 => kv0 t126 h125) (kv0 (.tuple []) h125)).bind (fin0 (fun t127 h128 => (guardSel true t122 ((abin .eql t127 (.int .i64 0)).bind fun t129 => kv0 t129 h128) (kv0 (.tuple []) h128)).bind (fin0 (fun t130 h131 => (apick t122 t130 (.bool false)).bind fun t132 => some (.ret, [t132], h131)) (fun _ _ => none))) (fun _ _ => none))) (fun _ _ => none))) (fun _ _ => none))) (fun _ _ => none))) (fun _ _ => none))) (some (.ret, [(.bool false)], h3))))).bind fun r133 => (fun x4v134 h135 => Ex.endF r133.1 (finR (List.length h0) x4v134 h135)) (List.getD r133.2.1 0 .junk) r133.2.2
theorem m129_eq (K : CallO) (a0 a1 : AVal) (h0 : Heap) : evB Tryd.prog ann lpW K 129 [a0, a1] h0 = m129 (callP ann K) a0 a1 h0 := by kernel_rfl

/- hauberk/hauberkref17.letters -/
noncomputable def m163 (K : CallO) (a0 : AVal) (h0 : Heap) : Option (Res × Heap) :=
  ((abin .lss a0 (.int .i64 1)).bind fun t0 => (guardSel false t0 (kv0 a0 h0) (kv0 (.tuple []) h0)).bind (fin0 (fun t1 h2 => (guardSel false t0 ((abin .gtr t1 (.int .i64 19)).bind fun t3 => kv0 t3 h2) (kv0 (.tuple []) h2)).bind (fin0 (fun t4 h5 => (apick t0 (.bool true) t4).bind fun t6 => acond t6 (some (.ret, [(.str [])], h5)) (bindVH (abuildSlice 20 1 [(.str [])] [(0, (.str [])), (1, (.str [100, 110])), (2, (.str [100, 97])), (3, (.str [100, 97, 98])), (4, (.str [100, 97, 98])), (5, (.str [100, 97, 98])), (6, (.str [100, 97, 98])), (7, (.str [100, 97, 98])), (8, (.str [100, 97, 98])), (9, (.str [100, 97, 98])), (10, (.str [100, 97])), (11, (.str [100, 97, 115])), (12, (.str [100, 97, 115])), (13, (.str [100, 97, 115])), (14, (.str [100, 97, 98])), (15, (.str [100, 97, 98])), (16, (.str [100, 97, 98])), (17, (.str [100, 97, 98, 99])), (18, (.str [100, 97, 114])), (19, (.str [97, 98, 114]))] h5) fun t7 h8 => (aindexSl 1 t7 a0).bind fun t9 => (aload false 1 h8 t9).bind fun t10 => some (.ret, [t10], h8))) (fun _ _ => none))) (fun _ _ => none))).bind fun r11 => (fun x2v12 h13 => Ex.endF r11.1 (finR (List.length h0) x2v12 h13)) (List.getD r11.2.1 0 .junk) r11.2.2
theorem m163_eq (K : CallO) (a0 : AVal) (h0 : Heap) : evB Tryd.prog ann lpW K 163 [a0] h0 = m163 (callP ann K) a0 h0 := by kernel_rfl

/- hauberk/hauberkref17.has -/
noncomputable def m164_l0 (K : CallO) (m : Nat) (s : List AVal × Heap) : Option R :=
  (fun x0v0 x1v1 x4v2 x5v3 h4 => (alenStr x0v0).bind fun t5 => (abin .lss x5v3 t5).bind fun t6 => acond t6 ((aindexStr x0v0 x5v3).bind fun t7 => (abin .eql t7 x1v1).bind fun t8 => acond t8 (endR m .ret [x0v0, x1v1, (.bool true), x5v3] h4) ((abin .add x5v3 (.int .i64 1)).bind fun t9 => endR m .normal [x0v0, x1v1, x4v2, t9] h4)) (endR m (.exit 0) [x0v0, x1v1, x4v2, x5v3] h4)) (List.getD s.1 0 .junk) (List.getD s.1 1 .junk) (List.getD s.1 2 .junk) (List.getD s.1 3 .junk) s.2
noncomputable def m164 (K : CallO) (a0 a1 : AVal) (h0 : Heap) : Option (Res × Heap) :=
  ((lpW (m164_l0 K (List.length h0)) ([a0, a1, (.bool false), (.int .i64 0)], h0)).bind fun r10 => (fun x0v12 x1v13 x4v14 x5v15 h16 => Ex.thenDo r10.1 none (fun e11 => Ex.inBlock 0 e11 (some (.ret, [(.bool false)], h16)) (fun e17 => some (e17, [x4v14], h16)))) (List.getD r10.2.1 0 .junk) (List.getD r10.2.1 1 .junk) (List.getD r10.2.1 2 .junk) (List.getD r10.2.1 3 .junk) r10.2.2).bind fun r18 => (fun x4v19 h20 => Ex.endF r18.1 (finR (List.length h0) x4v19 h20)) (List.getD r18.2.1 0 .junk) r18.2.2
theorem m164_eq (K : CallO) (a0 a1 : AVal) (h0 : Heap) : evB Tryd.prog ann lpW K 164 [a0, a1] h0 = m164 (callP ann K) a0 a1 h0 := by kernel_rfl

/- hauberk/hauberkref17.Uses -/
noncomputable def m100 (K : CallO) (a0 : AVal) (h0 : Heap) : Option (Res × Heap) :=
  (bindVH (anew 6 h0 a0) fun t0 h1 => (fun (t3 : AVal) (h2 : Heap) => (afieldAt 0 t0).bind fun t4 => (aload false 1 h2 t4).bind fun t5 => bindRes (K 163 [(AVal.untok t5)] h2) (fun t6 h7 => (fun (t9 : AVal) (h8 : Heap) => bindRes (K 164 [(AVal.untok t6), (AVal.untok (.int .u8 97))] h8) (fun t10 h11 => (acond t10 ((afieldAt 2 t0).bind fun t12 => (aload false 1 h11 t12).bind fun t13 => bindVH (abuildSlice 1 1 [(.int .i64 0)] [(0, t13)] h11) fun t14 h15 => bindVH (aappendV 1 8 h15 t9 t14) fun t16 h17 => some (.normal, [t0, t3, t6, t16], h17)) (some (.normal, [t0, t3, t6, t9], h11))).bind fun r18 => (fun x1v19 x2v20 x3v21 x4v22 h23 => Ex.nrm r18.1 (bindRes (K 164 [(AVal.untok x3v21), (AVal.untok (.int .u8 98))] h23) (fun t24 h25 => (acond t24 ((afieldAt 3 x1v19).bind fun t26 => (aload false 1 h25 t26).bind fun t27 => bindVH (abuildSlice 1 1 [(.int .i64 0)] [(0, t27)] h25) fun t28 h29 => bindVH (aappendV 1 8 h29 x4v22 t28) fun t30 h31 => some (.normal, [x1v19, x2v20, x3v21, t30], h31)) (some (.normal, [x1v19, x2v20, x3v21, x4v22], h25))).bind fun r32 => (fun x1v33 x2v34 x3v35 x4v36 h37 => Ex.nrm r32.1 (bindRes (K 164 [(AVal.untok x3v35), (AVal.untok (.int .u8 99))] h37) (fun t38 h39 => (acond t38 ((afieldAt 4 x1v33).bind fun t40 => (aload false 1 h39 t40).bind fun t41 => bindVH (abuildSlice 1 1 [(.int .i64 0)] [(0, t41)] h39) fun t42 h43 => bindVH (aappendV 1 8 h43 x4v36 t42) fun t44 h45 => some (.normal, [x2v34, t44], h45)) (some (.normal, [x2v34, x4v36], h39))).bind fun r46 => (fun x2v47 x4v48 h49 => Ex.nrm r46.1 (some (.ret, [x4v48], h49))) (List.getD r46.2.1 0 .junk) (List.getD r46.2.1 1 .junk) r46.2.2) (fun _ _ => none))) (List.getD r32.2.1 0 .junk) (List.getD r32.2.1 1 .junk) (List.getD r32.2.1 2 .junk) (List.getD r32.2.1 3 .junk) r32.2.2) (fun _ _ => none))) (List.getD r18.2.1 0 .junk) (List.getD r18.2.1 1 .junk) (List.getD r18.2.1 2 .junk) (List.getD r18.2.1 3 .junk) r18.2.2) (fun _ _ => none)) (.slice [] (.own (List.length h7))) (h7 ++ [.front 0 0])) (fun _ _ => none)) (.slice [] (.own (List.length h1))) (h1 ++ [.front 0 0])).bind fun r50 => (fun x2v51 h52 => Ex.endF r50.1 (finO (List.length h0) x2v51 h52)) (List.getD r50.2.1 0 .junk) r50.2.2
theorem m100_eq (K : CallO) (a0 : AVal) (h0 : Heap) : evB Tryd.prog ann lpW K 100 [a0] h0 = m100 (callP ann K) a0 h0 := by kernel_rfl

/- hauberk/hauberkref17.Makes -/
noncomputable def m101 (K : CallO) (a0 : AVal) (h0 : Heap) : Option (Res × Heap) :=
  (bindVH (anew 6 h0 a0) fun t0 h1 => (afieldAt 0 t0).bind fun t2 => (aload false 1 h1 t2).bind fun t3 => bindRes (K 163 [(AVal.untok t3)] h1) (fun t4 h5 => bindRes (K 164 [(AVal.untok t4), (AVal.untok (.int .u8 100))] h5) (fun t6 h7 => some (.ret, [t6], h7)) (fun _ _ => none)) (fun _ _ => none)).bind fun r8 => (fun x2v9 h10 => Ex.endF r8.1 (finR (List.length h0) x2v9 h10)) (List.getD r8.2.1 0 .junk) r8.2.2
theorem m101_eq (K : CallO) (a0 : AVal) (h0 : Heap) : evB Tryd.prog ann lpW K 101 [a0] h0 = m101 (callP ann K) a0 h0 := by kernel_rfl

/- hauberk/hauberkref17.Room -/
noncomputable def m175_l0 (K : CallO) (m : Nat) (s : List AVal × Heap) : Option R :=
  (fun x2v40 x3v41 h42 => (abin .rem x3v41 (.int .i64 4)).bind fun t43 => (abin .neq t43 (.int .i64 0)).bind fun t44 => acond t44 ((abin .add x3v41 (.int .i64 1)).bind fun t45 => endR m .normal [x2v40, t45] h42) (endR m (.exit 0) [x2v40, x3v41] h42)) (List.getD s.1 0 .junk) (List.getD s.1 1 .junk) s.2
noncomputable def m175 (K : CallO) (a0 : AVal) (h0 : Heap) : Option (Res × Heap) :=
  (bindVH (anew 4 h0 a0) fun t0 h1 => (afieldAt 0 t0).bind fun t2 => (aload false 1 h1 t2).bind fun t3 => (abin .neq t3 (.int .i64 1)).bind fun t4 => (guardSel true t4 ((afieldAt 0 t0).bind fun t5 => kv0 t5 h1) (kv0 (.tuple []) h1)).bind (fin0 (fun t6 h7 => (guardSel true t4 ((aload false 1 h7 t6).bind fun t8 => kv0 t8 h7) (kv0 (.tuple []) h7)).bind (fin0 (fun t9 h10 => (guardSel true t4 ((abin .neq t9 (.int .i64 4)).bind fun t11 => kv0 t11 h10) (kv0 (.tuple []) h10)).bind (fin0 (fun t12 h13 => (apick t4 t12 (.bool false)).bind fun t14 => (guardSel false t14 ((afieldAt 1 t0).bind fun t15 => kv0 t15 h13) (kv0 (.tuple []) h13)).bind (fin0 (fun t16 h17 => (guardSel false t14 ((aload false 1 h17 t16).bind fun t18 => kv0 t18 h17) (kv0 (.tuple []) h17)).bind (fin0 (fun t19 h20 => (guardSel false t14 ((abin .lss t19 (.int .i64 1)).bind fun t21 => kv0 t21 h20) (kv0 (.tuple []) h20)).bind (fin0 (fun t22 h23 => (apick t14 (.bool true) t22).bind fun t24 => (guardSel false t24 ((afieldAt 1 t0).bind fun t25 => kv0 t25 h23) (kv0 (.tuple []) h23)).bind (fin0 (fun t26 h27 => (guardSel false t24 ((aload false 1 h27 t26).bind fun t28 => kv0 t28 h27) (kv0 (.tuple []) h27)).bind (fin0 (fun t29 h30 => (guardSel false t24 ((abin .gtr t29 (.int .i64 16384)).bind fun t31 => kv0 t31 h30) (kv0 (.tuple []) h30)).bind (fin0 (fun t32 h33 => (apick t24 (.bool true) t32).bind fun t34 => acond t34 (some (.ret, [(.int .i64 0)], h33)) ((afieldAt 0 t0).bind fun t35 => (aload false 1 h33 t35).bind fun t36 => (afieldAt 1 t0).bind fun t37 => (aload false 1 h33 t37).bind fun t38 => (abin .mul t36 t38).bind fun t39 => (lpW (m175_l0 K (List.length h33)) ([(.int .i64 0), t39], h33)).bind fun r46 => (fun x2v48 x3v49 h50 => Ex.thenDo r46.1 none (fun e47 => Ex.inBlock 0 e47 (some (.ret, [x3v49], h50)) (fun e51 => some (e51, [x2v48], h50)))) (List.getD r46.2.1 0 .junk) (List.getD r46.2.1 1 .junk) r46.2.2)) (fun _ _ => none))) (fun _ _ => none))) (fun _ _ => none))) (fun _ _ => none))) (fun _ _ => none))) (fun _ _ => none))) (fun _ _ => none))) (fun _ _ => none))) (fun _ _ => none))).bind fun r52 => (fun x2v53 h54 => Ex.endF r52.1 (finR (List.length h0) x2v53 h54)) (List.getD r52.2.1 0 .junk) r52.2.2
theorem m175_eq (K : CallO) (a0 : AVal) (h0 : Heap) : evB Tryd.prog ann lpW K 175 [a0] h0 = m175 (callP ann K) a0 h0 := by kernel_rfl

/- hauberk/hauberkref17.field -/
noncomputable def m176 (K : CallO) (a0 a1 a2 : AVal) (h0 : Heap) : Option (Res × Heap) :=
  (bindVH (anew 5 h0 a0) fun t0 h1 => acond a1 ((abin .geq a2 (.int .i64 0)).bind fun t2 => (guardSel true t2 (kv0 a2 h1) (kv0 (.tuple []) h1)).bind (fin0 (fun t3 h4 => (guardSel true t2 ((afieldAt 0 t0).bind fun t5 => kv0 t5 h4) (kv0 (.tuple []) h4)).bind (fin0 (fun t6 h7 => (guardSel true t2 ((aload false 1 h7 t6).bind fun t8 => kv0 t8 h7) (kv0 (.tuple []) h7)).bind (fin0 (fun t9 h10 => (guardSel true t2 ((abin .lss t3 t9).bind fun t11 => kv0 t11 h10) (kv0 (.tuple []) h10)).bind (fin0 (fun t12 h13 => (apick t2 t12 (.bool false)).bind fun t14 => some (.ret, [t14], h13)) (fun _ _ => none))) (fun _ _ => none))) (fun _ _ => none))) (fun _ _ => none))) ((abin .eql a2 (.int .i64 0)).bind fun t15 => some (.ret, [t15], h1))).bind fun r16 => (fun x6v17 h18 => Ex.endF r16.1 (finR (List.length h0) x6v17 h18)) (List.getD r16.2.1 0 .junk) r16.2.2
theorem m176_eq (K : CallO) (a0 a1 a2 : AVal) (h0 : Heap) : evB Tryd.prog ann lpW K 176 [a0, a1, a2] h0 = m176 (callP ann K) a0 a1 a2 h0 := by kernel_rfl

/- hauberk/hauberkref17.Same -/
noncomputable def m42_l0 (K : CallO) (m : Nat) (s : List AVal × Heap) : Option R :=
  (fun x2v85 x3v86 x4v87 x5v88 h89 => (afieldAt 1 x2v85).bind fun t90 => (aload false 1 h89 t90).bind fun t91 => (alenSl t91).bind fun t92 => (abin .lss x5v88 t92).bind fun t93 => acond t93 ((afieldAt 1 x2v85).bind fun t94 => (aload false 1 h89 t94).bind fun t95 => (aindexSl 4 t95 x5v88).bind fun t96 => (aload true 4 h89 t96).bind fun t97 => (afieldAt 1 x3v86).bind fun t98 => (aload false 1 h89 t98).bind fun t99 => (aindexSl 4 t99 x5v88).bind fun t100 => (aload true 4 h89 t100).bind fun t101 => (aeqAgg [.i, .i, .i, .i] t97 t101).bind fun t102 => acond (.bool (!t102)) (endR m .ret [x2v85, x3v86, (.bool false), x5v88] h89) ((abin .add x5v88 (.int .i64 1)).bind fun t103 => endR m .normal [x2v85, x3v86, x4v87, t103] h89)) (endR m (.exit 0) [x2v85, x3v86, x4v87, x5v88] h89)) (List.getD s.1 0 .junk) (List.getD s.1 1 .junk) (List.getD s.1 2 .junk) (List.getD s.1 3 .junk) s.2
noncomputable def m42_l1 (K : CallO) (m : Nat) (s : List AVal × Heap) : Option R :=
  (fun x2v162 x3v163 x4v164 x6v165 x7v166 x8v167 x9v168 h169 => (afieldAt 0 x7v166).bind fun t170 => (aload false 1 h169 t170).bind fun t171 => (alenSl t171).bind fun t172 => (abin .lss x9v168 t172).bind fun t173 => acond t173 ((afieldAt 0 x7v166).bind fun t174 => (aload false 1 h169 t174).bind fun t175 => (aindexSl 6 t175 x9v168).bind fun t176 => (aload true 6 h169 t176).bind fun t177 => (afieldAt 0 x8v167).bind fun t178 => (aload false 1 h169 t178).bind fun t179 => (aindexSl 6 t179 x9v168).bind fun t180 => (aload true 6 h169 t180).bind fun t181 => (aeqAgg [.i, .i, .i, .i, .i, .i] t177 t181).bind fun t182 => acond (.bool (!t182)) (endR m .ret [x2v162, x3v163, (.bool false), x6v165, x7v166, x8v167, x9v168] h169) ((abin .add x9v168 (.int .i64 1)).bind fun t183 => endR m .normal [x2v162, x3v163, x4v164, x6v165, x7v166, x8v167, t183] h169)) (endR m (.exit 4) [x2v162, x3v163, x4v164, x6v165, x7v166, x8v167, x9v168] h169)) (List.getD s.1 0 .junk) (List.getD s.1 1 .junk) (List.getD s.1 2 .junk) (List.getD s.1 3 .junk) (List.getD s.1 4 .junk) (List.getD s.1 5 .junk) (List.getD s.1 6 .junk) s.2
noncomputable def m42_l2 (K : CallO) (m : Nat) (s : List AVal × Heap) : Option R :=
  (fun x2v112 x3v113 x4v114 x6v115 h116 => (afieldAt 2 x2v112).bind fun t117 => (aload false 1 h116 t117).bind fun t118 => (alenSl t118).bind fun t119 => (abin .lss x6v115 t119).bind fun t120 => acond t120 (((afieldAt 2 x2v112).bind fun t121 => (aload false 1 (h116 ++ [.free, .free]) t121).bind fun t122 => (aindexSl 5 t122 x6v115).bind fun t123 => (aload true 5 (h116 ++ [.free, .free]) t123).bind fun t124 => (afieldAt 2 x3v113).bind fun t125 => (aload false 1 (h116 ++ [.free, .free]) t125).bind fun t126 => (aindexSl 5 t126 x6v115).bind fun t127 => (aload true 5 (h116 ++ [.free, .free]) t127).bind fun t128 => bindVH (anewAt ((List.length h116) + 0) 5 (h116 ++ [.free, .free]) (.agg [(.slice [] .nil), (.int .i64 0), (.int .i64 0), (.int .i64 0), (.int .i64 0)])) fun t129 h130 => bindVH (anewAt ((List.length h116) + 1) 5 h130 (.agg [(.slice [] .nil), (.int .i64 0), (.int .i64 0), (.int .i64 0), (.int .i64 0)])) fun t131 h132 => (astore 5 (hide (lockIds [0, 1] [t125, t127]) h132) t129 t124).bind fun h133 => (astore 5 (unhide (lockIds [0, 1] [t125, t127]) h132 h133) t131 t128).bind fun h134 => (afieldAt 1 t129).bind fun t135 => (aload true 4 h134 t135).bind fun t136 => (afieldAt 1 t131).bind fun t137 => (aload true 4 h134 t137).bind fun t138 => (aeqAgg [.i, .i, .i, .i] t136 t138).bind fun t139 => (guardSel false (.bool (!t139)) ((afieldAt 0 t129).bind fun t140 => kv0 t140 h134) (kv0 (.tuple []) h134)).bind (fin0 (fun t141 h142 => (guardSel false (.bool (!t139)) ((aload false 1 h142 t141).bind fun t143 => kv0 t143 h142) (kv0 (.tuple []) h142)).bind (fin0 (fun t144 h145 => (guardSel false (.bool (!t139)) ((alenSl t144).bind fun t146 => kv0 t146 h145) (kv0 (.tuple []) h145)).bind (fin0 (fun t147 h148 => (guardSel false (.bool (!t139)) ((afieldAt 0 t131).bind fun t149 => kv0 t149 h148) (kv0 (.tuple []) h148)).bind (fin0 (fun t150 h151 => (guardSel false (.bool (!t139)) ((aload false 1 h151 t150).bind fun t152 => kv0 t152 h151) (kv0 (.tuple []) h151)).bind (fin0 (fun t153 h154 => (guardSel false (.bool (!t139)) ((alenSl t153).bind fun t155 => kv0 t155 h154) (kv0 (.tuple []) h154)).bind (fin0 (fun t156 h157 => (guardSel false (.bool (!t139)) ((abin .neq t147 t156).bind fun t158 => kv0 t158 h157) (kv0 (.tuple []) h157)).bind (fin0 (fun t159 h160 => (apick (.bool (!t139)) (.bool true) t159).bind fun t161 => acond t161 (some (.ret, [x2v112, x3v113, (.bool false), x6v115], h160)) ((lpW (m42_l1 K (List.length h160)) ([x2v112, x3v113, x4v114, x6v115, t129, t131, (.int .i64 0)], h160)).bind fun r184 => (fun x2v186 x3v187 x4v188 x6v189 x7v190 x8v191 x9v192 h193 => Ex.thenDo r184.1 none (fun e185 => Ex.inBlock 4 e185 (some (.normal, [x2v186, x3v187, x4v188, x6v189], h193)) (fun e194 => some (e194, [x2v186, x3v187, x4v188, x6v189], h193)))) (List.getD r184.2.1 0 .junk) (List.getD r184.2.1 1 .junk) (List.getD r184.2.1 2 .junk) (List.getD r184.2.1 3 .junk) (List.getD r184.2.1 4 .junk) (List.getD r184.2.1 5 .junk) (List.getD r184.2.1 6 .junk) r184.2.2)) (fun _ _ => none))) (fun _ _ => none))) (fun _ _ => none))) (fun _ _ => none))) (fun _ _ => none))) (fun _ _ => none))) (fun _ _ => none))).bind fun r195 => (fun x2v196 x3v197 x4v198 x6v199 h200 => Ex.inBlock 3 r195.1 ((abin .add x6v199 (.int .i64 1)).bind fun t202 => endR m .normal [x2v196, x3v197, x4v198, t202] h200) (fun e201 => endR m e201 [x2v196, x3v197, x4v198, x6v199] h200)) (List.getD r195.2.1 0 .junk) (List.getD r195.2.1 1 .junk) (List.getD r195.2.1 2 .junk) (List.getD r195.2.1 3 .junk) r195.2.2) (endR m (.exit 2) [x2v112, x3v113, x4v114, x6v115] h116)) (List.getD s.1 0 .junk) (List.getD s.1 1 .junk) (List.getD s.1 2 .junk) (List.getD s.1 3 .junk) s.2
noncomputable def m42 (K : CallO) (a0 a1 : AVal) (h0 : Heap) : Option (Res × Heap) :=
  (bindVH (anew 5 h0 a0) fun t0 h1 => bindVH (anew 5 h1 a1) fun t2 h3 => (afieldAt 0 t0).bind fun t4 => (aload false 1 h3 t4).bind fun t5 => (afieldAt 0 t2).bind fun t6 => (aload false 1 h3 t6).bind fun t7 => (abin .neq t5 t7).bind fun t8 => (guardSel false t8 ((afieldAt 3 t0).bind fun t9 => kv0 t9 h3) (kv0 (.tuple []) h3)).bind (fin0 (fun t10 h11 => (guardSel false t8 ((aload false 1 h11 t10).bind fun t12 => kv0 t12 h11) (kv0 (.tuple []) h11)).bind (fin0 (fun t13 h14 => (guardSel false t8 ((afieldAt 3 t2).bind fun t15 => kv0 t15 h14) (kv0 (.tuple []) h14)).bind (fin0 (fun t16 h17 => (guardSel false t8 ((aload false 1 h17 t16).bind fun t18 => kv0 t18 h17) (kv0 (.tuple []) h17)).bind (fin0 (fun t19 h20 => (guardSel false t8 ((abin .neq t13 t19).bind fun t21 => kv0 t21 h20) (kv0 (.tuple []) h20)).bind (fin0 (fun t22 h23 => (apick t8 (.bool true) t22).bind fun t24 => (guardSel false t24 ((afieldAt 4 t0).bind fun t25 => kv0 t25 h23) (kv0 (.tuple []) h23)).bind (fin0 (fun t26 h27 => (guardSel false t24 ((aload false 1 h27 t26).bind fun t28 => kv0 t28 h27) (kv0 (.tuple []) h27)).bind (fin0 (fun t29 h30 => (guardSel false t24 ((afieldAt 4 t2).bind fun t31 => kv0 t31 h30) (kv0 (.tuple []) h30)).bind (fin0 (fun t32 h33 => (guardSel false t24 ((aload false 1 h33 t32).bind fun t34 => kv0 t34 h33) (kv0 (.tuple []) h33)).bind (fin0 (fun t35 h36 => (guardSel false t24 ((abin .neq t29 t35).bind fun t37 => kv0 t37 h36) (kv0 (.tuple []) h36)).bind (fin0 (fun t38 h39 => (apick t24 (.bool true) t38).bind fun t40 => (guardSel false t40 ((afieldAt 1 t0).bind fun t41 => kv0 t41 h39) (kv0 (.tuple []) h39)).bind (fin0 (fun t42 h43 => (guardSel false t40 ((aload false 1 h43 t42).bind fun t44 => kv0 t44 h43) (kv0 (.tuple []) h43)).bind (fin0 (fun t45 h46 => (guardSel false t40 ((alenSl t45).bind fun t47 => kv0 t47 h46) (kv0 (.tuple []) h46)).bind (fin0 (fun t48 h49 => (guardSel false t40 ((afieldAt 1 t2).bind fun t50 => kv0 t50 h49) (kv0 (.tuple []) h49)).bind (fin0 (fun t51 h52 => (guardSel false t40 ((aload false 1 h52 t51).bind fun t53 => kv0 t53 h52) (kv0 (.tuple []) h52)).bind (fin0 (fun t54 h55 => (guardSel false t40 ((alenSl t54).bind fun t56 => kv0 t56 h55) (kv0 (.tuple []) h55)).bind (fin0 (fun t57 h58 => (guardSel false t40 ((abin .neq t48 t57).bind fun t59 => kv0 t59 h58) (kv0 (.tuple []) h58)).bind (fin0 (fun t60 h61 => (apick t40 (.bool true) t60).bind fun t62 => (guardSel false t62 ((afieldAt 2 t0).bind fun t63 => kv0 t63 h61) (kv0 (.tuple []) h61)).bind (fin0 (fun t64 h65 => (guardSel false t62 ((aload false 1 h65 t64).bind fun t66 => kv0 t66 h65) (kv0 (.tuple []) h65)).bind (fin0 (fun t67 h68 => (guardSel false t62 ((alenSl t67).bind fun t69 => kv0 t69 h68) (kv0 (.tuple []) h68)).bind (fin0 (fun t70 h71 => (guardSel false t62 ((afieldAt 2 t2).bind fun t72 => kv0 t72 h71) (kv0 (.tuple []) h71)).bind (fin0 (fun t73 h74 => (guardSel false t62 ((aload false 1 h74 t73).bind fun t75 => kv0 t75 h74) (kv0 (.tuple []) h74)).bind (fin0 (fun t76 h77 => (guardSel false t62 ((alenSl t76).bind fun t78 => kv0 t78 h77) (kv0 (.tuple []) h77)).bind (fin0 (fun t79 h80 => (guardSel false t62 ((abin .neq t70 t79).bind fun t81 => kv0 t81 h80) (kv0 (.tuple []) h80)).bind (fin0 (fun t82 h83 => (apick t62 (.bool true) t82).bind fun t84 => acond t84 (some (.ret, [(.bool false)], h83)) ((lpW (m42_l0 K (List.length h83)) ([t0, t2, (.bool false), (.int .i64 0)], h83)).bind fun r104 => (fun x2v106 x3v107 x4v108 x5v109 h110 => Ex.thenDo r104.1 none (fun e105 => Ex.inBlock 0 e105 ((lpW (m42_l2 K (List.length h110)) ([x2v106, x3v107, x4v108, (.int .i64 0)], h110)).bind fun r203 => (fun x2v205 x3v206 x4v207 x6v208 h209 => Ex.thenDo r203.1 none (fun e204 => Ex.inBlock 2 e204 (some (.ret, [(.bool true)], h209)) (fun e210 => some (e210, [x4v207], h209)))) (List.getD r203.2.1 0 .junk) (List.getD r203.2.1 1 .junk) (List.getD r203.2.1 2 .junk) (List.getD r203.2.1 3 .junk) r203.2.2) (fun e111 => some (e111, [x4v108], h110)))) (List.getD r104.2.1 0 .junk) (List.getD r104.2.1 1 .junk) (List.getD r104.2.1 2 .junk) (List.getD r104.2.1 3 .junk) r104.2.2)) (fun _ _ => none))) (fun _ _ => none))) (fun _ _ => none))) (fun _ _ => none))) (fun _ _ => none))) (fun _ _ => none))) (fun _ _ => none))) (fun _ _ => none))) (fun _ _ => none))) (fun _ _ => none))) (fun _ _ => none))) (fun _ _ => none))) (fun _ _ => none))) (fun _ _ => none))) (fun _ _ => none))) (fun _ _ => none))) (fun _ _ => none))) (fun _ _ => none))) (fun _ _ => none))) (fun _ _ => none))) (fun _ _ => none))) (fun _ _ => none))) (fun _ _ => none))) (fun _ _ => none))).bind fun r211 => (fun x4v212 h213 => Ex.endF r211.1 (finR (List.length h0) x4v212 h213)) (List.getD r211.2.1 0 .junk) r211.2.2
theorem m42_eq (K : CallO) (a0 a1 : AVal) (h0 : Heap) : evB Tryd.prog ann lpW K 42 [a0, a1] h0 = m42 (callP ann K) a0 a1 h0 := by kernel_rfl

end Go.Proofs.YtkeoalhglkfbkaaDoor

/-
  Programs of blocks, as plain data, and what the small functions on them answer. No conditions.
-/
namespace Go.Proofs.YtkeoalhglkfbkaaDoor
open Go Hk

noncomputable abbrev KK : CallO := callP ann (evW Tryd.prog ann)

structure Op where
  kind : Int
  dst : Int
  a : Int
  b : Int
  c : Int
  imm : Int
  deriving DecidableEq
structure Term where
  kind : Int
  a : Int
  yes : Int
  no : Int
  deriving DecidableEq
structure Arr where
  elem : Int
  len : Int
  kind : Int
  off : Int
  deriving DecidableEq
structure Blk where
  ops : List Op
  term : Term
structure IR where
  temps : Int
  arrays : List Arr
  blocks : List Blk
  inn : Int
  out : Int
def Op.cells (o : Op) : List AVal := [.int .i64 o.kind, .int .i64 o.dst, .int .i64 o.a, .int .i64 o.b, .int .i64 o.c, .int .i64 o.imm]
def Term.cells (t : Term) : List AVal := [.int .i64 t.kind, .int .i64 t.a, .int .i64 t.yes, .int .i64 t.no]
def Arr.cells (x : Arr) : List AVal := [.int .i64 x.elem, .int .i64 x.len, .int .i64 x.kind, .int .i64 x.off]
def Blk.cells (b : Blk) : List AVal := [.slice (b.ops.map Op.cells) .no, .int .i64 b.term.kind, .int .i64 b.term.a, .int .i64 b.term.yes, .int .i64 b.term.no]
def IR.cells (p : IR) : List AVal := [.int .i64 p.temps, .slice (p.arrays.map Arr.cells) .no, .slice (p.blocks.map Blk.cells) .no, .int .i64 p.inn, .int .i64 p.out]

attribute [simp] anew tokCells putCells abuild afield apart

/-! ### Numbers -/
theorem abin_quo {k : IntKind} {a b : Int} (hb : b ≠ 0) : abin .quo (.int k a) (.int k b) = some (.int k (k.wrap (a.tdiv b))) := by simp [abin, hb]
theorem abin_rem {k : IntKind} {a b : Int} (hb : b ≠ 0) : abin .rem (.int k a) (.int k b) = some (.int k (a.tmod b)) := by simp [abin, hb]

def between (n l m : Int) : Bool := decide (l ≤ n) && decide (n ≤ m)
theorem c68 (n l m : Int) (h : Heap) : KK 68 [.int .i64 n, .int .i64 l, .int .i64 m] h = some (.ret (.bool (between n l m)), h) := by
  refine callP_pure rfl rfl (evW_by (m68_eq _ _ _ _ _) ?_)
  by_cases h1 : l ≤ n <;> by_cases h2 : n ≤ m <;> simp [m68, between, h1, h2, finR_zero]

/-- May an array's elements be? -/
def shapedS (x : Arr) : Bool := (decide (x.elem = 1) || decide (x.elem = 4)) && (decide (1 ≤ x.len) && decide (x.len ≤ 16384))
theorem c132 (x : Arr) (h : Heap) : KK 132 [.agg x.cells] h = some (.ret (.bool (shapedS x)), h) := by
  refine callP_pure rfl rfl (evW_by (m132_eq _ _ _) ?_)
  by_cases h1 : x.elem = 1
  · by_cases h3 : 1 ≤ x.len <;> by_cases h4 : x.len ≤ 16384 <;> simp [m132, shapedS, Arr.cells, h1, h3, h4, finR_zero]
  · by_cases h2 : x.elem = 4 <;> by_cases h3 : 1 ≤ x.len <;> by_cases h4 : x.len ≤ 16384 <;> simp [m132, shapedS, Arr.cells, h1, h2, h3, h4, finR_zero]

def upS (n : Int) : Int := (n + 3) / 4 * 4
theorem c133 (n : Int) (hn : 0 ≤ n) (hn2 : n ≤ 1000000000) (h : Heap) : KK 133 [.int .i64 n] h = some (.ret (.int .i64 (upS n)), h) := by
  refine callP_pure rfl rfl (evW_by (m133_eq _ _ _) ?_)
  have w1 : IntKind.i64.wrap (n + 4) = n + 4 := by rw [wrap64] <;> omega
  have w2 : IntKind.i64.wrap (n + 4 - 1) = n + 3 := by rw [wrap64] <;> omega
  have w3 : (n + 3).tdiv 4 = (n + 3) / 4 := Int.tdiv_eq_ediv_of_nonneg (by omega)
  have w4 : IntKind.i64.wrap ((n + 3) / 4) = (n + 3) / 4 := by rw [wrap64] <;> omega
  have w5 : IntKind.i64.wrap ((n + 3) / 4 * 4) = (n + 3) / 4 * 4 := by rw [wrap64] <;> omega
  simp [m133, abin_quo, upS, w1, w2, w3, w4, w5, finR_zero]
end Go.Proofs.YtkeoalhglkfbkaaDoor

/-
  'lives' of layer 21 answers true. No conditions.
-/
namespace Go.Proofs.YtkeoalhglkfbkaaDoor
open Go Hk
theorem r26 : evF Tryd.prog ann (loopN 40) 12 26 [] [] = some (.ret (.bool true), []) := by kernel_rfl
theorem c26 (h : Heap) : KK 26 [] h = some (.ret (.bool true), h) := callP_pure rfl rfl (evW_run 40 12 26 [] [] _ r26)
end Go.Proofs.YtkeoalhglkfbkaaDoor

/-
  'sorted' of live lists a map's keys in rising order. No conditions.
-/
namespace Go.Proofs
open Go.Shelf
def Tryd.lays189_ren : Go.Shelf.Ren := ⟨fun | 189 => 137 | 125 => 161 | 257 => 177 | 128 => 199 | 129 => 200 | 294 => 220 | 295 => 221 | 296 => 222 | 297 => 223 | 298 => 224 | 299 => 225 | 216 => 189 | 300 => 226 | 301 => 227 | 328 => 245 | 329 => 236 | 330 => 237 | 331 => 246 | 332 => 247 | 215 => 162 | 343 => 256 | n => n, fun | 28 => 39 | 3 => 3 | 46 => 221 | 0 => 0 | 51 => 248 | 53 => 198 | 4 => 4 | 183 => 242 | 182 => 241 | 131 => 192 | 5 => 5 | 9 => 9 | 218 => 268 | 222 => 272 | 228 => 293 | 229 => 291 | n => n, fun | n => n⟩
theorem Tryd.lays189 : Go.Proofs.Lays.n189 Tryd.prog Tryd.lays189_ren := {
  mixed := by kernel_rfl
  f125 := Tryd.func161.trans (congrArg some (by kernel_rfl))
  f128 := Tryd.func199.trans (congrArg some (by kernel_rfl))
  f129 := Tryd.func200.trans (congrArg some (by kernel_rfl))
  f189 := Tryd.func137.trans (congrArg some (by kernel_rfl))
  f215 := Tryd.func162.trans (congrArg some (by kernel_rfl))
  f216 := Tryd.func189.trans (congrArg some (by kernel_rfl))
  f257 := Tryd.func177.trans (congrArg some (by kernel_rfl))
  f294 := Tryd.func220.trans (congrArg some (by kernel_rfl))
  f295 := Tryd.func221.trans (congrArg some (by kernel_rfl))
  f296 := Tryd.func222.trans (congrArg some (by kernel_rfl))
  f297 := Tryd.func223.trans (congrArg some (by kernel_rfl))
  f298 := Tryd.func224.trans (congrArg some (by kernel_rfl))
  f299 := Tryd.func225.trans (congrArg some (by kernel_rfl))
  f300 := Tryd.func226.trans (congrArg some (by kernel_rfl))
  f301 := Tryd.func227.trans (congrArg some (by kernel_rfl))
  f328 := Tryd.func245.trans (congrArg some (by kernel_rfl))
  f329 := Tryd.func236.trans (congrArg some (by kernel_rfl))
  f330 := Tryd.func237.trans (congrArg some (by kernel_rfl))
  f331 := Tryd.func246.trans (congrArg some (by kernel_rfl))
  f332 := Tryd.func247.trans (congrArg some (by kernel_rfl))
  f343 := Tryd.func256.trans (congrArg some (by kernel_rfl))
  t0 := Tryd.underlying0
  a0 := Tryd.isAgg0
  z0 := Tryd.sizeOf0
  v0 := Tryd.zeroValue0
  t3 := Tryd.underlying3
  a3 := Tryd.isAgg3
  z3 := Tryd.sizeOf3
  v3 := Tryd.zeroValue3
  t4 := Tryd.underlying4
  a4 := Tryd.isAgg4
  z4 := Tryd.sizeOf4
  v4 := Tryd.zeroValue4
  t5 := Tryd.underlying5
  a5 := Tryd.isAgg5
  z5 := Tryd.sizeOf5
  v5 := Tryd.zeroValue5
  t9 := Tryd.underlying9
  a9 := Tryd.isAgg9
  z9 := Tryd.sizeOf9
  v9 := Tryd.zeroValue9
  t28 := Tryd.underlying39
  a28 := Tryd.isAgg39
  z28 := Tryd.sizeOf39
  v28 := Tryd.zeroValue39
  t46 := Tryd.underlying221
  a46 := Tryd.isAgg221
  z46 := Tryd.sizeOf221
  v46 := Tryd.zeroValue221
  t51 := Tryd.underlying248
  a51 := Tryd.isAgg248
  z51 := Tryd.sizeOf248
  v51 := Tryd.zeroValue248
  t53 := Tryd.underlying198
  a53 := Tryd.isAgg198
  z53 := Tryd.sizeOf198
  v53 := Tryd.zeroValue198
  t131 := Tryd.underlying192
  a131 := Tryd.isAgg192
  z131 := Tryd.sizeOf192
  v131 := Tryd.zeroValue192
  t182 := Tryd.underlying241
  a182 := Tryd.isAgg241
  z182 := Tryd.sizeOf241
  v182 := Tryd.zeroValue241
  t183 := Tryd.underlying242
  a183 := Tryd.isAgg242
  z183 := Tryd.sizeOf242
  v183 := Tryd.zeroValue242
  t218 := Tryd.underlying268
  a218 := Tryd.isAgg268
  z218 := Tryd.sizeOf268
  v218 := Tryd.zeroValue268
  t222 := Tryd.underlying272
  a222 := Tryd.isAgg272
  z222 := Tryd.sizeOf272
  v222 := Tryd.zeroValue272
  t228 := Tryd.underlying293
  a228 := Tryd.isAgg293
  z228 := Tryd.sizeOf293
  v228 := Tryd.zeroValue293
  t229 := Tryd.underlying291
  a229 := Tryd.isAgg291
  z229 := Tryd.sizeOf291
  v229 := Tryd.zeroValue291 }
open Go.Sort Go.RowKit in
theorem Tryd.slices_Sort_int (blk off cap : Nat) (zs : List Int) (w : World) (hH : Holds (Value.int .i64) w blk off zs.toArray) (hblk : blk < w.heap.size) (hsz : zs.length < 4611686018427387904) :
    Calls Tryd.prog 137 #[.slice (some ⟨blk, off, none⟩) zs.length cap] w fun e w' =>
      e = .returned (.tuple #[]) ∧ ∃ n os, w' = grow (putRow (Value.int .i64) (Sort.ahead w n) blk off (zs.mergeSort fun x y => decide (x ≤ y)).toArray) os := Any.slices_Sort_int Tryd.lays189 blk off cap zs w hH hblk hsz
open Go.RowKit Go.Sort in
theorem Tryd.slices_Sort_int_none (p : Option Addr) (cap : Nat) (w : World) :
    Calls Tryd.prog 137 #[.slice p 0 cap] w fun e w' => e = .returned (.tuple #[]) ∧ w' = w := Any.slices_Sort_int_none Tryd.lays189 p cap w
end Go.Proofs
namespace Go.Proofs.YtkeoalhglkfbkaaDoor
open Go Go.RowKit Go.Maps Go.Sort Go.ChangeShapes Go.WideShapes

theorem law3 : Keyed Tryd.prog 3 := int_keyed Tryd.underlying3
theorem info3 : (Tryd.prog.info? 3).map (fun i => (i.zero, i.size, i.bytes)) = some (some (.int .i64 0), 1, 8) := by kernel_rfl

set_option maxRecDepth 1000000 in
set_option maxHeartbeats 3200000 in
theorem sorted_any {W : World} (bm n : Nat) (D0 : DataW Unit) (hown : W.ownsMap Tryd.prog 3 (plainElem (H := Unit) Tryd.prog 3) bm n D0) (hreach : Maps.size D0 ≤ 1048576) :
    Calls Tryd.prog 72 #[.map (some bm)] W fun e w' => Below W.heap.size W w' ∧ ∃ ks : List Int, ks.Perm (intKeys D0) ∧ ∃ V, e = .returned V ∧
      ((ks = [] ∧ V = .slice none 0 0) ∨ ∃ g cap, V = .slice (some ⟨g, 0, none⟩) ks.length cap ∧ ks.length ≤ cap ∧ W.heap.size ≤ g ∧ w'.ownsRow W.heap.size 3 1 V ks.length ((ks.mergeSort fun x y => decide (x ≤ y)).map (Value.int .i64))) := by
  obtain ⟨i0, hi, hz0, hz1, hz2⟩ := info_parts info3
  have hbl := hown.lt
  go_enter Tryd.func72, Tryd.ntmps72
  go_wp2_with (first
    | (at_range; refine wpList_range_own _ rfl _ 133 rfl 3 3 law3 Tryd.underlying133 _ bm n _ rfl hown ?_; intro w0 hrg0 hg0 hs0)
    | go_in)
  go_frame
  go_loopw [3] (fun v wr => ∃ (left : Lit → Bool) (cnt : Nat) (ks : List Int), wr.ranges Tryd.prog 3 (plainElem (H := Unit) Tryd.prog 3) bm W.heap.size n D0 left cnt ∧
      wr.ownsRow W.heap.size 3 1 v ks.length (ks.map (Value.int .i64)) ∧ ks.length + cnt ≤ Maps.size D0 ∧ CollectedI D0 left ks ∧ Below W.heap.size W wr)
    (fun _ wr => wr.rangeLeft bm W.heap.size)
  case atStart =>
    exact ⟨_, _, [], hrg0, World.ownsRow_nil _ _ _ _, by simp, CollectedI.start D0, (Below.refl _ _).grown hg0 (Nat.le_refl _) (fun j hj => by cases hj)⟩
  case round =>
    obtain ⟨left, cnt, ks, hrg, hrow, hlen, hC, hnx⟩ := hrel
    go_wp2_with (first
      | (at_next; refine wpList_next_ranges_ii _ rfl _ rfl 3 3 .i64 .i64 law3 Tryd.underlying3 Tryd.underlying3 bm W.heap.size n _ _ _ rfl hrg ?_ ?_)
      | go_in)
    · -- NOTHING IS LEFT: the sort
      intro hc0 hl0
      have hp := hC.perm hown law3 Tryd.underlying3 hl0
      rcases hrow.2 with ⟨hnil, hk0⟩ | ⟨g, cap, cur, hv, hbase, hb, h1, h2, h3, h4⟩
      · subst hnil
        obtain rfl : ks = [] := List.eq_nil_of_length_eq_zero hk0
        clear hrg
        go_wp2_with (go_at_call 137; refine (Tryd.slices_Sort_int_none none 0 _).mono ?_; rintro e w' ⟨rfl, rfl⟩)
        go_ret
        exact ⟨hnx, [], hp, _, rfl, .inl ⟨rfl, rfl⟩⟩
      · subst hv
        have hH : Holds (Value.int .i64) wr g 0 ks.toArray := holds_of_blockI hb (by simpa using h4)
        have hgl : g < wr.heap.size := (Array.getElem?_eq_some_iff.1 hb).1
        have hsort := Tryd.slices_Sort_int g 0 cap ks wr hH hgl (by omega)
        clear hrg hH
        go_wp2_with (go_at_call 137; refine hsort.mono ?_; rintro e w' ⟨rfl, nn, os, rfl⟩)
        go_ret
        have hg := grownBy_sortedI (w := wr) (g := g) (n := nn) (os := os) (ks.mergeSort fun x y => decide (x ≤ y)).toArray
        have hro := ownsRow_sortedI (n := nn) (os := os) (ts := ks.mergeSort fun x y => decide (x ≤ y)) (List.length_mergeSort ks) hbase hb h1 h2 h3
        exact ⟨hnx.grown hg hnx.size (fun j hj => by cases hj; exact hbase), ks, hp, _, rfl, .inr ⟨g, cap, rfl, h1, hbase, hro⟩⟩
    · -- AN ENTRY HAS COME
      intro x c w1 cnt1 hwx hwc hlx hat hrg1 hlt hg1 hs1 hen
      have hm0 : wr.rangeLeft bm W.heap.size = cnt := hrg.left_eq
      have hrow1 := hrow.kept hg1 (Or.inr (row_ne_iter hrow hrg).symm)
      have hszW := hnx.size
      have hsz1 := hg1.size
      clear hs1
      go_wp2_with (first
        | (at_builtin; refine wpList_append_own_at _ rfl _ _ 39 rfl W.heap.size 3 i0 (.int .i64 0) 1 8 Tryd.underlying39 hi hz0 hz1 hz2 rfl (by decide) _ _ _ rfl (hrow1.alloc _) ⟨w1.heap.size, 0, none⟩ 1 1 [.int .i64 x] rfl rfl ?c1 ?c2 ?c3 ?c4 ?c5 ?_)
        | go_in)
      case c1 =>
        intro j u hj
        match j, hj with
        | 0, hj => simp at hj; subst hj; simp [Addr.add]
      case c2 => intro u hu; simp at hu; subst hu; rfl
      case c3 => unfold maxLen; omega
      case c4 => omega
      case c5 => simp; omega
      · intro v' w4 hown' hgrow _ hloc
        have hrg4 := (hrg1.alloc (.cells #[.int .i64 x] 3)).kept hgrow (row_ne_low (hrow1.alloc (.cells #[.int .i64 x] 3)) hbl) (row_ne_iter (hrow1.alloc (.cells #[.int .i64 x] 3)) (hrg1.alloc (.cells #[.int .i64 x] 3)))
        have hrow4 : w4.ownsRow W.heap.size 3 1 v' (ks ++ [x]).length ((ks ++ [x]).map (Value.int .i64)) := by simpa using hown'
        have hnx4 : Below W.heap.size W w4 := ((hnx.grown hg1 hnx.size (fun j hj => by cases hj; exact Nat.le_refl _)).alloc (by omega) _).grown hgrow (by simp; omega) (fun j hj => ((hrow1.alloc (.cells #[.int .i64 x] 3)).lt j hj).1)
        clear hown' hgrow hloc hrow hrg
        go_wp2
        go_roundw
        case rel => exact ⟨_, cnt1, ks ++ [x], hrg4, hrow4, by simp; omega, hC.step hlx hat, hnx4⟩
        case measure => rw [hrg4.left_eq, hm0]; omega
end Go.Proofs.YtkeoalhglkfbkaaDoor

/-
  'sorted' as the evaluator asks it. No conditions.
-/
namespace Go.Proofs.YtkeoalhglkfbkaaDoor
open Go Go.RowKit Go.Maps Go.Sort Go.ChangeShapes Go.WideShapes Hk

theorem enter72 (X : Array Value) (w : World) : (callFunc 72 X).run Tryd.prog w = .ok (.enter 72 X) w := by
  have hne : (Tryd.f72.name == "runtime.NumGoroutine") = false := by kernel_rfl
  have hb : ∃ c, Tryd.f72.body = some c := ⟨_, rfl⟩
  obtain ⟨c, hc⟩ := hb
  simp [callFunc, Sem.run_bind, Tryd.func72, hc, beq_eq_false_iff_ne.1 hne, Sem.run_pure]

theorem sortedOk : SortedOk Tryd.prog 72 := by
  refine ⟨enter72, fun w b E clock ns hb hst hk hv hw hl => ?_⟩
  have hEl : E.toList.length = ns.length := by
    have := congrArg List.length hk
    simpa using this
  have hread : ∀ x ∈ E.toList, ∃ n v, x.key = .int .i64 n ∧ WideElems.rd Tryd.prog 3 (plainElem (H := Unit) Tryd.prog 3) x = some (.int .i64 n, .lit (.int .i64 v)) := by
    intro x hx
    have hkm : x.key ∈ E.toList.map (·.key) := List.mem_map.2 ⟨x, hx, rfl⟩
    rw [hk] at hkm
    obtain ⟨n, hn, hnk⟩ := List.mem_map.1 hkm
    obtain ⟨v, hv1, hv2⟩ := hv x hx
    refine ⟨n, v, hnk.symm, ?_⟩
    have e1 : x = ⟨.int .i64 n, .int .i64 v, x.born⟩ := by cases x; simp_all
    rw [e1]
    exact WideElems.rd_mk (keyOf_int_mk Tryd.underlying3 (hw n hn)) (plainElem_int Tryd.underlying3 hv2)
  have F : WideElems.Fit Tryd.prog 3 (plainElem (H := Unit) Tryd.prog 3) E clock := ⟨by
    have : E.size = ns.length := by simpa using hEl
    unfold maxLen; omega, hst, fun x hx => by obtain ⟨n, v, _, h2⟩ := hread x hx; exact ⟨_, h2⟩⟩
  have hown := World.ownsMap_of_fit (R := plainElem (H := Unit) Tryd.prog 3) hb F (fun _ _ _ h => h)
  have hsz : Maps.size (.map ((E.toList.map (WideElems.rg Tryd.prog 3 (plainElem (H := Unit) Tryd.prog 3))).foldr DataW.insert [])) ≤ 1048576 := by
    simp only [Maps.size, length_read]
    have : E.size = ns.length := by simpa using hEl
    omega
  have hperm : (intKeys (.map ((E.toList.map (WideElems.rg Tryd.prog 3 (plainElem (H := Unit) Tryd.prog 3))).foldr DataW.insert []))).Perm ns := by
    have h1 : (intKeys (.map ((E.toList.map (WideElems.rg Tryd.prog 3 (plainElem (H := Unit) Tryd.prog 3))).foldr DataW.insert []))).Perm ((E.toList.map (WideElems.rg Tryd.prog 3 (plainElem (H := Unit) Tryd.prog 3))).map fun p => Go.intOf p.1) := (sorted_perm _).map _
    refine h1.trans ?_
    have h2 : (E.toList.map (WideElems.rg Tryd.prog 3 (plainElem (H := Unit) Tryd.prog 3))).map (fun p => Go.intOf p.1) = ns := by
      have h3 : ((E.toList.map (WideElems.rg Tryd.prog 3 (plainElem (H := Unit) Tryd.prog 3))).map (fun p => Go.intOf p.1)).map (Value.int .i64) = ns.map (Value.int .i64) := by
        rw [← hk, List.map_map, List.map_map]
        apply List.map_congr_left
        intro x hx
        obtain ⟨n, v, h4, h5⟩ := hread x hx
        simp [WideElems.rg_of h5, Go.intOf, h4]
      exact (List.map_inj_right (fun a b h => by simpa using h)).1 h3
    rw [h2]
  refine (sorted_any b E.size _ hown hsz).mono ?_
  rintro e w' ⟨h1, ks, hp, V, rfl, h2⟩
  have hpn := hp.trans hperm
  have hln := hpn.length_eq
  refine ⟨h1, V, rfl, ?_⟩
  rcases h2 with ⟨rfl, rfl⟩ | ⟨g, cap, rfl, h3, h4, h5⟩
  · exact .inl ⟨by simpa using hpn.symm, none, 0, rfl⟩
  · refine .inr ⟨g, cap, by rw [hln], by omega, h4, fun j n hj => ?_⟩
    have hm : (ks.mergeSort fun x y => decide (x ≤ y)) = ns.mergeSort fun x y => decide (x ≤ y) := mergeSort_of_perm_i hpn
    rw [hm] at h5
    have hjl : j < ks.length := by
      have := (List.getElem?_eq_some_iff.1 hj).1
      rw [List.length_mergeSort] at this
      omega
    rcases h5.2 with ⟨h6, _⟩ | ⟨g', cap', cur, hv', _, hbk, _, _, _, h9⟩
    · cases h6
    · cases hv'
      have : cur[j]? = some (.int .i64 n) := by
        have h10 : (cur.toList.take (ks.length * 1))[j]? = some (.int .i64 n) := by
          rw [h9, List.getElem?_map, hj]; rfl
        rw [List.getElem?_take, if_pos (by omega), Array.getElem?_toList] at h10
        exact h10
      simp [World.cell?, hbk, this]
#print axioms sortedOk
end Go.Proofs.YtkeoalhglkfbkaaDoor

/-
  How a program of blocks is read as an argument. No conditions.
-/
namespace Go.Proofs.YtkeoalhglkfbkaaDoor
open Go Hk

/-! ### Readers -/
theorem rdInt (n : Nat) : Rd Tryd.prog n 3 (fun z : Int => [.int .i64 z]) (fun z => (Lit.int .i64 z).wf = true) := .int Tryd.underlying3
theorem rdOp (n : Nat) : Rd Tryd.prog n 83 Op.cells (fun _ => True) := by
  refine Rd.mono (n := n + 1) (by omega) ?_
  refine (Rd.struct (n := n) (total := 6) Tryd.underlying83 (by kernel_rfl)
    (.cons (sz := 1) rfl (by kernel_rfl) (rdInt n) (.cons (sz := 1) rfl (by kernel_rfl) (rdInt n) (.cons (sz := 1) rfl (by kernel_rfl) (rdInt n) (.cons (sz := 1) rfl (by kernel_rfl) (rdInt n) (.cons (sz := 1) rfl (by kernel_rfl) (rdInt n) (.cons (sz := 1) rfl (by kernel_rfl) (rdInt n) .nil))))))).to
    (fun z => (⟨z.1, z.2.1, z.2.2.1, z.2.2.2.1, z.2.2.2.2.1, z.2.2.2.2.2.1⟩ : Op)) (fun z => rfl) (fun _ _ => trivial)
theorem rdArr (n : Nat) : Rd Tryd.prog n 129 Arr.cells (fun _ => True) := by
  refine Rd.mono (n := n + 1) (by omega) ?_
  refine (Rd.struct (n := n) (total := 4) Tryd.underlying129 (by kernel_rfl)
    (.cons (sz := 1) rfl (by kernel_rfl) (rdInt n) (.cons (sz := 1) rfl (by kernel_rfl) (rdInt n) (.cons (sz := 1) rfl (by kernel_rfl) (rdInt n) (.cons (sz := 1) rfl (by kernel_rfl) (rdInt n) .nil))))).to
    (fun z => (⟨z.1, z.2.1, z.2.2.1, z.2.2.2.1⟩ : Arr)) (fun z => rfl) (fun _ _ => trivial)
theorem rdTerm (n : Nat) : Rd Tryd.prog n 56 Term.cells (fun _ => True) := by
  refine Rd.mono (n := n + 1) (by omega) ?_
  refine (Rd.struct (n := n) (total := 4) Tryd.underlying56 (by kernel_rfl)
    (.cons (sz := 1) rfl (by kernel_rfl) (rdInt n) (.cons (sz := 1) rfl (by kernel_rfl) (rdInt n) (.cons (sz := 1) rfl (by kernel_rfl) (rdInt n) (.cons (sz := 1) rfl (by kernel_rfl) (rdInt n) .nil))))).to
    (fun z => (⟨z.1, z.2.1, z.2.2.1, z.2.2.2.1⟩ : Term)) (fun z => rfl) (fun _ _ => trivial)
theorem rdOps (n : Nat) : Rd Tryd.prog n 54 (fun l : List Op => [.slice (l.map Op.cells) .no]) (fun l => l.length ≤ maxLen ∧ ∀ o ∈ l, True) :=
  Rd.mono (n := n + 1) (by omega) (Rd.slice (sz := 5) Tryd.underlying54 (by kernel_rfl) (fun _ => rfl) (rdOp n))
theorem rdBlk (n : Nat) : Rd Tryd.prog n 58 Blk.cells (fun _ => True) := by
  refine Rd.mono (n := n + 1) (by omega) ?_
  refine (Rd.struct (n := n) (total := 5) Tryd.underlying58 (by kernel_rfl)
    (.cons (sz := 1) rfl (by kernel_rfl) (rdOps n) (.cons (sz := 4) rfl (by kernel_rfl) (rdTerm n) .nil))).to
    (fun z => (⟨z.1, z.2.1⟩ : Blk)) (fun z => rfl) (fun _ _ => trivial)
theorem rdArrs (n : Nat) : Rd Tryd.prog n 41 (fun l : List Arr => [.slice (l.map Arr.cells) .no]) (fun l => l.length ≤ maxLen ∧ ∀ o ∈ l, True) :=
  Rd.mono (n := n + 1) (by omega) (Rd.slice (sz := 3) Tryd.underlying41 (by kernel_rfl) (fun _ => rfl) (rdArr n))
theorem rdBlks (n : Nat) : Rd Tryd.prog n 42 (fun l : List Blk => [.slice (l.map Blk.cells) .no]) (fun l => l.length ≤ maxLen ∧ ∀ o ∈ l, True) :=
  Rd.mono (n := n + 1) (by omega) (Rd.slice (sz := 4) Tryd.underlying42 (by kernel_rfl) (fun _ => rfl) (rdBlk n))
theorem rdIR (n : Nat) : Rd Tryd.prog n 44 IR.cells (fun _ => True) := by
  refine Rd.mono (n := n + 1) (by omega) ?_
  refine (Rd.struct (n := n) (total := 5) Tryd.underlying44 (by kernel_rfl)
    (.cons (sz := 1) rfl (by kernel_rfl) (rdInt n) (.cons (sz := 1) rfl (by kernel_rfl) (rdArrs n) (.cons (sz := 1) rfl (by kernel_rfl) (rdBlks n) (.cons (sz := 1) rfl (by kernel_rfl) (rdInt n) (.cons (sz := 1) rfl (by kernel_rfl) (rdInt n) .nil)))))).to
    (fun z => (⟨z.1, z.2.1, z.2.2.1, z.2.2.2.1, z.2.2.2.2.1⟩ : IR)) (fun z => rfl) (fun _ _ => trivial)
theorem aggIR {W : World} {b : Nat} {V : Value} (h : Value.okWide Tryd.prog W .any b 44 V) : ∃ C, V = .agg C := by
  simp only [Value.okWide, Tryd.underlying44] at h
  obtain ⟨cs, h, _⟩ := h
  exact ⟨cs, h⟩
theorem noAggL {W : World} {b : Nat} {V : Value} (h : Value.okWide Tryd.prog W .any b 39 V) : ∀ C, V ≠ .agg C := by
  intro C hC
  subst hC
  simp [Value.okWide, Tryd.underlying39, Cell.okWide, Cell.ok] at h
theorem rdInts (n : Nat) : Rd Tryd.prog n 39 (fun l : List Int => [.slice (l.map fun z => [.int .i64 z]) .no]) (fun l => l.length ≤ maxLen ∧ ∀ z ∈ l, (Lit.int .i64 z).wf = true) :=
  Rd.mono (n := n + 1) (by omega) (Rd.slice (sz := 0) Tryd.underlying39 (by kernel_rfl) (fun _ => rfl) (rdInt n))

/-- A law that a function run on its arguments alone answers. -/
theorem of_KK {f : Nat} {args : List AVal} {v : AVal} (hp : ann.pure f = true) (h : KK f args [] = some (.ret v, [])) : evW Tryd.prog ann f args [] = some (.ret v, []) := by
  unfold KK callP at h
  rw [hp] at h
  simp only [cond_true] at h
  cases ha : args.all (AVal.shut1 0) with
  | false => rw [ha] at h; cases h
  | true =>
    rw [ha] at h
    simp only [cond_true] at h
    obtain ⟨r, h1, h2⟩ := Option.bind_eq_some_iff.1 h
    obtain ⟨r1, r2⟩ := r
    cases r2 with
    | nil => cases h2; exact h1
    | cons a l =>
      simp only [pureBack] at h2
      revert h2
      cases (ann.out f && _) <;> intro h2
      · cases h2
      · simp at h2
end Go.Proofs.YtkeoalhglkfbkaaDoor

/-
  How a program of blocks is read as an argument, and what all its laws' rows and cards share. No conditions.
-/
namespace Go.Proofs.YtkeoalhglkfbkaaDoor
open Go Hk

theorem mainIs : Tryd.pinned.checked.prog.mainIs = some (true, "7c8527047ffb63bdbc7985bab493d381175d25fc55ed6eef943fa30bf11f58b5".toList) := by kernel_rfl
theorem looksUp : true = Tryd.pinned.checked.prog.looks [] := by kernel_rfl
theorem and_mk {a b : Bool} (h : a = true) (g : b = true) : (a && b) = true := by rw [h, g]; rfl
theorem own : ownKnob Tryd.prog.godebug = none := by kernel_rfl
theorem laidOut : laidOutB Tryd.prog = true := by kernel_rfl
theorem follows : Tryd.prog.follows .mixedOrders = true := by kernel_rfl

theorem extOk : ExtOk Tryd.prog ann := by
  refine ⟨fun f hf => ?_, fun f hf => (by cases hf), fun f g hf => by cases hf⟩
  have : f = 72 := by
    unfold ann at hf
    simpa using hf
  subst this
  exact sortedOk

/-! ### The one table -/
theorem gBru : Tryd.prog.globalNamed "math/bits.deBruijn64tab" = some 1 := by kernel_rfl
theorem tBru : (Tryd.prog.globals[1]?).map (·.type) = some 234 := by kernel_rfl
def bruN : List Int := [0,1,56,2,57,49,28,3,61,58,42,50,38,29,17,4,62,47,59,36,45,43,51,22,53,39,33,30,24,18,12,5,63,55,48,27,60,41,37,16,46,35,44,21,52,32,23,11,54,26,40,15,34,20,31,10,25,14,19,9,13,8,7,6]
def laid1 : List (String × DataW Unit) := [("math/bits.deBruijn64tab", Rows.laid_math_bits_deBruijn64tab)]

theorem bru_laid {W : World} (h : laidMetH Tryd.prog laid1 W) : Lib.TabIs Tryd.prog W "math/bits.deBruijn64tab" .u8 bruN := by
  rw [MakeChecks.laidMetH_plain _ _ _ (by kernel_rfl)] at h
  obtain ⟨ps, ⟨g1, t1, cs1, f1, p1, q1, hg1, ht1, hv1, hd1, _, _⟩, _, _⟩ := h
  obtain rfl := Option.some.inj (gBru.symm.trans hg1)
  obtain rfl := Option.some.inj (tBru.symm.trans ht1)
  unfold Lib.TabIs
  have e : (Rows.laid_math_bits_deBruijn64tab : DataW Unit) = Lib.tabData .u8 bruN := by kernel_rfl
  rw [e] at hd1
  rw [hv1, ← Lib.cells_of_tab (k := .u8) Tryd.underlying234 Tryd.underlying5 (by kernel_rfl) (by kernel_rfl) hd1]

theorem globOk {W : World} (h : laidMetH Tryd.prog laid1 W) : GlobOk ann (gh W).H := by
  intro g cs hg
  have hg' : g = 1 ∧ cs = gBruijn := by
    unfold ann at hg
    simp only [] at hg
    split at hg
    · rename_i h0; exact ⟨h0, (Option.some.inj hg).symm⟩
    · cases hg
  obtain ⟨rfl, rfl⟩ := hg'
  have hT := bru_laid h
  have eG : gBruijn = bruN.map (AVal.int .u8) := rfl
  rw [eG]
  refine .pptr _ 1 0 (fun j => .int .u8 (bruN.getD j 0)) ?_ ?_ ?_
  · intro j v hv
    have hj : j < bruN.length := by
      have := (List.getElem?_eq_some_iff.1 hv).1
      simpa using this
    simpa [gh] using hT.cell gBru j hj
  · intro j v hv
    simp only [List.getElem?_map, Option.map_eq_some_iff] at hv
    obtain ⟨z, _, rfl⟩ := hv
    rfl
  · intro j v hv
    simp only [List.getElem?_map, Option.map_eq_some_iff] at hv
    obtain ⟨z, hz, rfl⟩ := hv
    have : bruN.getD j 0 = z := by simp [List.getD, hz]
    rw [this]
    exact .int _ _

theorem wtables (args : Array Value) (os : Os) : laidMetH Tryd.prog laid1 ((World.doorLaid Tryd.prog 600 os).forCall (fun _ _ => 0) ⟨#[], args, []⟩).memory :=
  laidMetH_of_parts3 (fuel := 8) (laidMet_of_run' 8 (by kernel_rfl) (by kernel_rfl)) (by kernel_rfl) (by kernel_rfl)
theorem wshape (args : Array Value) (os : Os) : ((World.doorLaid Tryd.prog 600 os).forCall (fun _ _ => 0) ⟨#[], args, []⟩).variablesRefB Tryd.prog = true := by kernel_rfl
theorem wrest (args : Array Value) (os : Os) : ((((World.doorLaid Tryd.prog 600 os).forCall (fun _ _ => 0) ⟨#[], args, []⟩).heap.toList.drop Tryd.prog.globals.size).take ((begin Tryd.prog (fun _ _ => 0) default).world.heap.size - Tryd.prog.globals.size)) =
      (begin Tryd.prog (fun _ _ => 0) default).world.heap.toList.drop Tryd.prog.globals.size := by kernel_rfl

end Go.Proofs.YtkeoalhglkfbkaaDoor

/-
  The shallow forms of the functions on programs of blocks, each equal to the evaluator's run of its code. No conditions.
-/
namespace Go.Proofs.YtkeoalhglkfbkaaDoor
open Go Hk
/- hauberk/live.Live -/
noncomputable def m27_l0 (K : CallO) (m : Nat) (s : List AVal × Heap) : Option R :=
  (fun x1v56 x2v57 x3v58 x4v59 x6v60 x7v61 x8v62 x9v63 x10v64 x47v65 x48v66 x49v67 h68 => (abin .lss x49v67 x48v66).bind fun t69 => acond t69 ((aindexSl 1 x47v65 x49v67).bind fun t70 => (aload false 1 h68 t70).bind fun t71 => (aindexSl 1 x6v60 t71).bind fun t72 => (aload false 1 h68 t72).bind fun t73 => bindVH (abuildSlice 1 1 [(.slice [] .nil)] [(0, t73)] h68) fun t74 h75 => bindVH (aappend 1 24 h75 x10v64 t74) fun t76 h77 => (abin .add x49v67 (.int .i64 1)).bind fun t78 => endR m .normal [x1v56, x2v57, x3v58, x4v59, x6v60, x7v61, x8v62, x9v63, t76, x47v65, x48v66, t78] h77) (endR m (.exit 4) [x1v56, x2v57, x3v58, x4v59, x6v60, x7v61, x8v62, x9v63, x10v64, x47v65, x48v66, x49v67] h68)) (List.getD s.1 0 .junk) (List.getD s.1 1 .junk) (List.getD s.1 2 .junk) (List.getD s.1 3 .junk) (List.getD s.1 4 .junk) (List.getD s.1 5 .junk) (List.getD s.1 6 .junk) (List.getD s.1 7 .junk) (List.getD s.1 8 .junk) (List.getD s.1 9 .junk) (List.getD s.1 10 .junk) (List.getD s.1 11 .junk) s.2
noncomputable def m27_l1 (K : CallO) (m : Nat) (s : List AVal × Heap) : Option R :=
  (fun x1v121 x2v122 x3v123 x4v124 x6v125 x7v126 x8v127 x9v128 x13v129 x14v130 x15v131 h132 => (abin .geq x15v131 (.int .i64 0)).bind fun t133 => acond t133 ((aindexSl 6 x14v130 x15v131).bind fun t134 => (aload true 6 h132 t134).bind fun t135 => bindRes (K 61 [t135, x13v129] h132) (fun t136 h137 => (abin .sub x15v131 (.int .i64 1)).bind fun t138 => endR m .normal [x1v121, x2v122, x3v123, x4v124, x6v125, x7v126, x8v127, x9v128, t136, x14v130, t138] h137) (fun _ _ => none)) (endR m (.exit 6) [x1v121, x2v122, x3v123, x4v124, x6v125, x7v126, x8v127, x9v128, x13v129, x14v130, x15v131] h132)) (List.getD s.1 0 .junk) (List.getD s.1 1 .junk) (List.getD s.1 2 .junk) (List.getD s.1 3 .junk) (List.getD s.1 4 .junk) (List.getD s.1 5 .junk) (List.getD s.1 6 .junk) (List.getD s.1 7 .junk) (List.getD s.1 8 .junk) (List.getD s.1 9 .junk) (List.getD s.1 10 .junk) s.2
noncomputable def m27_l2 (K : CallO) (m : Nat) (s : List AVal × Heap) : Option R :=
  (fun x1v36 x2v37 x3v38 x4v39 x6v40 x7v41 x8v42 x9v43 h44 => (abin .geq x9v43 (.int .i64 0)).bind fun t45 => acond t45 (((fun (t47 : AVal) (h46 : Heap) => (afieldAt 2 x1v36).bind fun t48 => (aload false 1 h46 t48).bind fun t49 => (aindexSl 5 t49 x9v43).bind fun t50 => (afieldAt 1 t50).bind fun t51 => (aload true 4 h46 t51).bind fun t52 => bindRes (K 58 [(AVal.untok t52)] h46) (fun t53 h54 => (alenSl t53).bind fun t55 => (lpW (m27_l0 K (List.length h54)) ([x1v36, x2v37, x3v38, x4v39, x6v40, x7v41, x8v42, x9v43, t47, t53, t55, (.int .i64 0)], h54)).bind fun r79 => (fun x1v81 x2v82 x3v83 x4v84 x6v85 x7v86 x8v87 x9v88 x10v89 x47v90 x48v91 x49v92 h93 => Ex.thenDo r79.1 none (fun e80 => Ex.inBlock 4 e80 (bindRes (K 59 [(AVal.untok x10v89)] h93) (fun t95 h96 => (aindexSl 1 x7v86 x9v88).bind fun t97 => bindVH (afreeze h96 t95) fun t98 h99 => (astore 1 h99 t97 t98).bind fun h100 => (afieldAt 2 x1v81).bind fun t101 => (aload false 1 h100 t101).bind fun t102 => (aindexSl 5 t102 x9v88).bind fun t103 => (afieldAt 1 t103).bind fun t104 => (aload true 4 h100 t104).bind fun t105 => (aindexSl 1 x7v86 x9v88).bind fun t106 => (aload false 1 h100 t106).bind fun t107 => bindVH (abuildSlice 1 1 [(.slice [] .nil)] [(0, t107)] (hide (lockIds [0, 1] [t101, t104]) h100)) fun t108 h109 => bindRes (K 59 [(AVal.untok t108)] (hide (lockIds [0, 1] [t101, t104]) (unhide (lockIds [0, 1] [t101, t104]) h100 h109))) (fun t110 h111 => bindRes (K 60 [t105, t110] (unhide (lockIds [0, 1] [t101, t104]) (unhide (lockIds [0, 1] [t101, t104]) h100 h109) h111)) (fun t112 h113 => (afieldAt 2 x1v81).bind fun t114 => (aload false 1 h113 t114).bind fun t115 => (aindexSl 5 t115 x9v88).bind fun t116 => (afieldAt 0 t116).bind fun t117 => (aload false 1 h113 t117).bind fun t118 => (alenSl t118).bind fun t119 => (abin .sub t119 (.int .i64 1)).bind fun t120 => (lpW (m27_l1 K (List.length h113)) ([x1v81, x2v82, x3v83, x4v84, x6v85, x7v86, x8v87, x9v88, t112, t118, t120], h113)).bind fun r139 => (fun x1v141 x2v142 x3v143 x4v144 x6v145 x7v146 x8v147 x9v148 x13v149 x14v150 x15v151 h152 => Ex.thenDo r139.1 none (fun e140 => Ex.inBlock 6 e140 ((aindexSl 1 x6v145 x9v148).bind fun t154 => (aload false 1 h152 t154).bind fun t155 => bindRes (K 62 [(AVal.untok x13v149), (AVal.untok t155)] h152) (fun t156 h157 => (aun .not t156).bind fun t158 => (acond t158 ((aindexSl 1 x6v145 x9v148).bind fun t159 => bindVH (afreeze h157 x13v149) fun t160 h161 => (astore 1 h161 t159 t160).bind fun h162 => some (.normal, [x1v141, x2v142, x3v143, x4v144, x6v145, x7v146, (.bool true), x9v148], h162)) (some (.normal, [x1v141, x2v142, x3v143, x4v144, x6v145, x7v146, x8v147, x9v148], h157))).bind fun r163 => (fun x1v164 x2v165 x3v166 x4v167 x6v168 x7v169 x8v170 x9v171 h172 => Ex.nrm r163.1 (some (.normal, [x1v164, x2v165, x3v166, x4v167, x6v168, x7v169, x8v170, x9v171], h172))) (List.getD r163.2.1 0 .junk) (List.getD r163.2.1 1 .junk) (List.getD r163.2.1 2 .junk) (List.getD r163.2.1 3 .junk) (List.getD r163.2.1 4 .junk) (List.getD r163.2.1 5 .junk) (List.getD r163.2.1 6 .junk) (List.getD r163.2.1 7 .junk) r163.2.2) (fun _ _ => none)) (fun e153 => some (e153, [x1v141, x2v142, x3v143, x4v144, x6v145, x7v146, x8v147, x9v148], h152)))) (List.getD r139.2.1 0 .junk) (List.getD r139.2.1 1 .junk) (List.getD r139.2.1 2 .junk) (List.getD r139.2.1 3 .junk) (List.getD r139.2.1 4 .junk) (List.getD r139.2.1 5 .junk) (List.getD r139.2.1 6 .junk) (List.getD r139.2.1 7 .junk) (List.getD r139.2.1 8 .junk) (List.getD r139.2.1 9 .junk) (List.getD r139.2.1 10 .junk) r139.2.2) (fun _ _ => none)) (fun _ _ => none)) (fun _ _ => none)) (fun e94 => some (e94, [x1v81, x2v82, x3v83, x4v84, x6v85, x7v86, x8v87, x9v88], h93)))) (List.getD r79.2.1 0 .junk) (List.getD r79.2.1 1 .junk) (List.getD r79.2.1 2 .junk) (List.getD r79.2.1 3 .junk) (List.getD r79.2.1 4 .junk) (List.getD r79.2.1 5 .junk) (List.getD r79.2.1 6 .junk) (List.getD r79.2.1 7 .junk) (List.getD r79.2.1 8 .junk) (List.getD r79.2.1 9 .junk) (List.getD r79.2.1 10 .junk) (List.getD r79.2.1 11 .junk) r79.2.2) (fun _ _ => none)) (.slice [] (.own (List.length h44))) (h44 ++ [.front 0 0])).bind fun r173 => (fun x1v174 x2v175 x3v176 x4v177 x6v178 x7v179 x8v180 x9v181 h182 => Ex.inBlock 3 r173.1 ((abin .sub x9v181 (.int .i64 1)).bind fun t184 => endR m .normal [x1v174, x2v175, x3v176, x4v177, x6v178, x7v179, x8v180, t184] h182) (fun e183 => endR m e183 [x1v174, x2v175, x3v176, x4v177, x6v178, x7v179, x8v180, x9v181] h182)) (List.getD r173.2.1 0 .junk) (List.getD r173.2.1 1 .junk) (List.getD r173.2.1 2 .junk) (List.getD r173.2.1 3 .junk) (List.getD r173.2.1 4 .junk) (List.getD r173.2.1 5 .junk) (List.getD r173.2.1 6 .junk) (List.getD r173.2.1 7 .junk) r173.2.2) (endR m (.exit 2) [x1v36, x2v37, x3v38, x4v39, x6v40, x7v41, x8v42, x9v43] h44)) (List.getD s.1 0 .junk) (List.getD s.1 1 .junk) (List.getD s.1 2 .junk) (List.getD s.1 3 .junk) (List.getD s.1 4 .junk) (List.getD s.1 5 .junk) (List.getD s.1 6 .junk) (List.getD s.1 7 .junk) s.2
noncomputable def m27_l3 (K : CallO) (m : Nat) (s : List AVal × Heap) : Option R :=
  (fun x1v24 x2v25 x3v26 x4v27 x6v28 x7v29 x8v30 h31 => acond x8v30 (((afieldAt 2 x1v24).bind fun t32 => (aload false 1 h31 t32).bind fun t33 => (alenSl t33).bind fun t34 => (abin .sub t34 (.int .i64 1)).bind fun t35 => (lpW (m27_l2 K (List.length h31)) ([x1v24, x2v25, x3v26, x4v27, x6v28, x7v29, (.bool false), t35], h31)).bind fun r185 => (fun x1v187 x2v188 x3v189 x4v190 x6v191 x7v192 x8v193 x9v194 h195 => Ex.thenDo r185.1 none (fun e186 => Ex.inBlock 2 e186 (some (.normal, [x1v187, x2v188, x3v189, x4v190, x6v191, x7v192, x8v193], h195)) (fun e196 => some (e196, [x1v187, x2v188, x3v189, x4v190, x6v191, x7v192, x8v193], h195)))) (List.getD r185.2.1 0 .junk) (List.getD r185.2.1 1 .junk) (List.getD r185.2.1 2 .junk) (List.getD r185.2.1 3 .junk) (List.getD r185.2.1 4 .junk) (List.getD r185.2.1 5 .junk) (List.getD r185.2.1 6 .junk) (List.getD r185.2.1 7 .junk) r185.2.2).bind fun r197 => (fun x1v198 x2v199 x3v200 x4v201 x6v202 x7v203 x8v204 h205 => Ex.inBlock 1 r197.1 (endR m .normal [x1v198, x2v199, x3v200, x4v201, x6v202, x7v203, x8v204] h205) (fun e206 => endR m e206 [x1v198, x2v199, x3v200, x4v201, x6v202, x7v203, x8v204] h205)) (List.getD r197.2.1 0 .junk) (List.getD r197.2.1 1 .junk) (List.getD r197.2.1 2 .junk) (List.getD r197.2.1 3 .junk) (List.getD r197.2.1 4 .junk) (List.getD r197.2.1 5 .junk) (List.getD r197.2.1 6 .junk) r197.2.2) (endR m (.exit 0) [x1v24, x2v25, x3v26, x4v27, x6v28, x7v29, x8v30] h31)) (List.getD s.1 0 .junk) (List.getD s.1 1 .junk) (List.getD s.1 2 .junk) (List.getD s.1 3 .junk) (List.getD s.1 4 .junk) (List.getD s.1 5 .junk) (List.getD s.1 6 .junk) s.2
noncomputable def m27_l4 (K : CallO) (m : Nat) (s : List AVal × Heap) : Option R :=
  (fun x2v225 x3v226 x4v227 x6v228 x7v229 x16v230 x17v231 x111v232 x112v233 h234 => (abin .lss x112v233 x111v232).bind fun t235 => acond t235 ((aindexSl 1 x6v228 x112v233).bind fun t236 => (aload false 1 h234 t236).bind fun t237 => (aindexSl 1 x7v229 x112v233).bind fun t238 => (aload false 1 h234 t238).bind fun t239 => bindRes (K 63 [(AVal.untok t237)] (hide (lockIds [0] [t238]) h234)) (fun t240 h241 => bindVH (abuildSlice 1 1 [(.slice [] .nil)] [(0, t240)] (hide (lockIds [0] [t238]) (unhide (lockIds [0] [t238]) h234 h241))) fun t242 h243 => bindVH (aappend 1 24 (hide (lockIds [0] [t238]) (unhide (lockIds [0] [t238]) (unhide (lockIds [0] [t238]) h234 h241) h243)) x16v230 t242) fun t244 h245 => bindRes (K 63 [(AVal.untok t239)] (unhide (lockIds [0] [t238]) (unhide (lockIds [0] [t238]) (unhide (lockIds [0] [t238]) h234 h241) h243) h245)) (fun t246 h247 => bindVH (abuildSlice 1 1 [(.slice [] .nil)] [(0, t246)] h247) fun t248 h249 => bindVH (aappend 1 24 h249 x17v231 t248) fun t250 h251 => (abin .add x112v233 (.int .i64 1)).bind fun t252 => endR m .normal [x2v225, x3v226, x4v227, x6v228, x7v229, t244, t250, x111v232, t252] h251) (fun _ _ => none)) (fun _ _ => none)) (endR m (.exit 8) [x2v225, x3v226, x4v227, x6v228, x7v229, x16v230, x17v231, x111v232, x112v233] h234)) (List.getD s.1 0 .junk) (List.getD s.1 1 .junk) (List.getD s.1 2 .junk) (List.getD s.1 3 .junk) (List.getD s.1 4 .junk) (List.getD s.1 5 .junk) (List.getD s.1 6 .junk) (List.getD s.1 7 .junk) (List.getD s.1 8 .junk) s.2
noncomputable def m27 (K : CallO) (a0 : AVal) (h0 : Heap) : Option (Res × Heap) :=
  (bindVH (anew 5 h0 a0) fun t0 h1 => (fun (t3 : AVal) (h2 : Heap) => (fun (t5 : AVal) (h4 : Heap) => (aload true 5 h4 t0).bind fun t6 => bindRes (K 30 [(AVal.untok t6)] h4) (fun t7 h8 => (abin .neq t7 (.int .i64 0)).bind fun t9 => acond t9 ((fun (t11 : AVal) (h10 : Heap) => (fun (t13 : AVal) (h12 : Heap) => some (.ret, [t11, t13, t7], h12)) (.slice [] (.own (List.length h10))) (h10 ++ [.front 0 0])) (.slice [] (.own (List.length h8))) (h8 ++ [.front 0 0])) ((afieldAt 2 t0).bind fun t14 => (aload false 1 h8 t14).bind fun t15 => (alenSl t15).bind fun t16 => bindVH (amakeSlice 1 24 [(.slice [] .nil)] t16 h8) fun t17 h18 => (afieldAt 2 t0).bind fun t19 => (aload false 1 h18 t19).bind fun t20 => (alenSl t20).bind fun t21 => bindVH (amakeSlice 1 24 [(.slice [] .nil)] t21 h18) fun t22 h23 => (lpW (m27_l3 K (List.length h23)) ([t0, t3, t5, (.int .i64 0), t17, t22, (.bool true)], h23)).bind fun r207 => (fun x1v209 x2v210 x3v211 x4v212 x6v213 x7v214 x8v215 h216 => Ex.thenDo r207.1 none (fun e208 => Ex.inBlock 0 e208 ((fun (t219 : AVal) (h218 : Heap) => (fun (t221 : AVal) (h220 : Heap) => (afieldAt 2 x1v209).bind fun t222 => (aload false 1 h220 t222).bind fun t223 => (alenSl t223).bind fun t224 => (lpW (m27_l4 K (List.length h220)) ([x2v210, x3v211, x4v212, x6v213, x7v214, t219, t221, t224, (.int .i64 0)], h220)).bind fun r253 => (fun x2v255 x3v256 x4v257 x6v258 x7v259 x16v260 x17v261 x111v262 x112v263 h264 => Ex.thenDo r253.1 none (fun e254 => Ex.inBlock 8 e254 (some (.ret, [x16v260, x17v261, (.int .i64 0)], h264)) (fun e265 => some (e265, [x2v255, x3v256, x4v257], h264)))) (List.getD r253.2.1 0 .junk) (List.getD r253.2.1 1 .junk) (List.getD r253.2.1 2 .junk) (List.getD r253.2.1 3 .junk) (List.getD r253.2.1 4 .junk) (List.getD r253.2.1 5 .junk) (List.getD r253.2.1 6 .junk) (List.getD r253.2.1 7 .junk) (List.getD r253.2.1 8 .junk) r253.2.2) (.slice [] (.own (List.length h218))) (h218 ++ [.front 0 0])) (.slice [] (.own (List.length h216))) (h216 ++ [.front 0 0])) (fun e217 => some (e217, [x2v210, x3v211, x4v212], h216)))) (List.getD r207.2.1 0 .junk) (List.getD r207.2.1 1 .junk) (List.getD r207.2.1 2 .junk) (List.getD r207.2.1 3 .junk) (List.getD r207.2.1 4 .junk) (List.getD r207.2.1 5 .junk) (List.getD r207.2.1 6 .junk) r207.2.2)) (fun _ _ => none)) (.slice [] (.own (List.length h2))) (h2 ++ [.front 0 0])) (.slice [] (.own (List.length h1))) (h1 ++ [.front 0 0])).bind fun r266 => (fun x2v267 x3v268 x4v269 h270 => Ex.endF r266.1 (finR (List.length h0) (.tuple [x2v267, x3v268, x4v269]) h270)) (List.getD r266.2.1 0 .junk) (List.getD r266.2.1 1 .junk) (List.getD r266.2.1 2 .junk) r266.2.2
theorem m27_eq (K : CallO) (a0 : AVal) (h0 : Heap) : evB Tryd.prog ann lpW K 27 [a0] h0 = m27 (callP ann K) a0 h0 := by kernel_rfl

/- hauberk/live.leads -/
noncomputable def m58 (K : CallO) (a0 : AVal) (h0 : Heap) : Option (Res × Heap) :=
  (bindVH (anew 4 h0 a0) fun t0 h1 => (fun (t3 : AVal) (h2 : Heap) => (fun (t5 : AVal) (h4 : Heap) => (afieldAt 0 t0).bind fun t6 => (aload false 1 h4 t6).bind fun t7 => (abin .eql t7 (.int .i64 1)).bind fun t8 => (acond t8 ((afieldAt 2 t0).bind fun t9 => (aload false 1 h4 t9).bind fun t10 => bindVH (abuildSliceV 1 1 [(.int .i64 0)] [(0, t10)] h4) fun t11 h12 => some (.normal, [t3, t11], h12)) ((abin .eql t7 (.int .i64 2)).bind fun t13 => (acond t13 ((afieldAt 2 t0).bind fun t14 => (aload false 1 h4 t14).bind fun t15 => (afieldAt 3 t0).bind fun t16 => (aload false 1 h4 t16).bind fun t17 => bindVH (abuildSliceV 2 1 [(.int .i64 0)] [(0, t15), (1, t17)] h4) fun t18 h19 => some (.normal, [t3, t18], h19)) (some (.normal, [t3, t5], h4))).bind fun r20 => (fun x2v21 x3v22 h23 => Ex.nrm r20.1 (some (.normal, [x2v21, x3v22], h23))) (List.getD r20.2.1 0 .junk) (List.getD r20.2.1 1 .junk) r20.2.2)).bind fun r24 => (fun x2v25 x3v26 h27 => Ex.nrm r24.1 (bindRes (K 120 [(AVal.untok x3v26), (AVal.untok (.func 121 [] []))] h27) (fun t28 h29 => some (.ret, [t28], h29)) (fun _ _ => none))) (List.getD r24.2.1 0 .junk) (List.getD r24.2.1 1 .junk) r24.2.2) (.slice [] (.own (List.length h2))) (h2 ++ [.front 0 0])) (.slice [] (.own (List.length h1))) (h1 ++ [.front 0 0])).bind fun r30 => (fun x2v31 h32 => Ex.endF r30.1 (finR (List.length h0) x2v31 h32)) (List.getD r30.2.1 0 .junk) r30.2.2
theorem m58_eq (K : CallO) (a0 : AVal) (h0 : Heap) : evB Tryd.prog ann lpW K 58 [a0] h0 = m58 (callP ann K) a0 h0 := by kernel_rfl

/- hauberk/live.join -/
noncomputable def m59_l0 (K : CallO) (m : Nat) (s : List AVal × Heap) : Option R :=
  (fun x2v14 x3v15 x5v16 x8v17 x9v18 x10v19 h20 => (alenSl x3v15).bind fun t21 => (alenSl x5v16).bind fun t22 => (abin .lss t21 t22).bind fun t23 => acond t23 (bindVH (abuildSlice 1 1 [(.int .u64 0)] [(0, (.int .u64 0))] h20) fun t24 h25 => bindVH (aappendV 1 8 h25 x3v15 t24) fun t26 h27 => endR m .normal [x2v14, t26, x5v16, x8v17, x9v18, x10v19] h27) (endR m (.exit 2) [x2v14, x3v15, x5v16, x8v17, x9v18, x10v19] h20)) (List.getD s.1 0 .junk) (List.getD s.1 1 .junk) (List.getD s.1 2 .junk) (List.getD s.1 3 .junk) (List.getD s.1 4 .junk) (List.getD s.1 5 .junk) s.2
noncomputable def m59_l1 (K : CallO) (m : Nat) (s : List AVal × Heap) : Option R :=
  (fun x2v39 x3v40 x8v41 x9v42 x10v43 x22v44 x23v45 x24v46 h47 => (abin .lss x24v46 x23v45).bind fun t48 => acond t48 ((aindexSl 1 x22v44 x24v46).bind fun t49 => (aload false 1 h47 t49).bind fun t50 => (aindexSl 1 x3v40 x24v46).bind fun t51 => (aload false 1 h47 t51).bind fun t52 => (abin .or t52 t50).bind fun t53 => (aindexSl 1 x3v40 x24v46).bind fun t54 => (astore 1 h47 t54 t53).bind fun h55 => (abin .add x24v46 (.int .i64 1)).bind fun t56 => endR m .normal [x2v39, x3v40, x8v41, x9v42, x10v43, x22v44, x23v45, t56] h55) (endR m (.exit 4) [x2v39, x3v40, x8v41, x9v42, x10v43, x22v44, x23v45, x24v46] h47)) (List.getD s.1 0 .junk) (List.getD s.1 1 .junk) (List.getD s.1 2 .junk) (List.getD s.1 3 .junk) (List.getD s.1 4 .junk) (List.getD s.1 5 .junk) (List.getD s.1 6 .junk) (List.getD s.1 7 .junk) s.2
noncomputable def m59_l2 (K : CallO) (m : Nat) (s : List AVal × Heap) : Option R :=
  (fun x2v5 x3v6 x8v7 x9v8 x10v9 h10 => (abin .lss x10v9 x9v8).bind fun t11 => acond t11 (((aindexSl 1 x8v7 x10v9).bind fun t12 => (aload false 1 h10 t12).bind fun t13 => (lpW (m59_l0 K (List.length h10)) ([x2v5, x3v6, t13, x8v7, x9v8, x10v9], h10)).bind fun r28 => (fun x2v30 x3v31 x5v32 x8v33 x9v34 x10v35 h36 => Ex.thenDo r28.1 none (fun e29 => Ex.inBlock 2 e29 ((alenSl x5v32).bind fun t38 => (lpW (m59_l1 K (List.length h36)) ([x2v30, x3v31, x8v33, x9v34, x10v35, x5v32, t38, (.int .i64 0)], h36)).bind fun r57 => (fun x2v59 x3v60 x8v61 x9v62 x10v63 x22v64 x23v65 x24v66 h67 => Ex.thenDo r57.1 none (fun e58 => Ex.inBlock 4 e58 (some (.normal, [x2v59, x3v60, x8v61, x9v62, x10v63], h67)) (fun e68 => some (e68, [x2v59, x3v60, x8v61, x9v62, x10v63], h67)))) (List.getD r57.2.1 0 .junk) (List.getD r57.2.1 1 .junk) (List.getD r57.2.1 2 .junk) (List.getD r57.2.1 3 .junk) (List.getD r57.2.1 4 .junk) (List.getD r57.2.1 5 .junk) (List.getD r57.2.1 6 .junk) (List.getD r57.2.1 7 .junk) r57.2.2) (fun e37 => some (e37, [x2v30, x3v31, x8v33, x9v34, x10v35], h36)))) (List.getD r28.2.1 0 .junk) (List.getD r28.2.1 1 .junk) (List.getD r28.2.1 2 .junk) (List.getD r28.2.1 3 .junk) (List.getD r28.2.1 4 .junk) (List.getD r28.2.1 5 .junk) r28.2.2).bind fun r69 => (fun x2v70 x3v71 x8v72 x9v73 x10v74 h75 => Ex.inBlock 1 r69.1 ((abin .add x10v74 (.int .i64 1)).bind fun t77 => endR m .normal [x2v70, x3v71, x8v72, x9v73, t77] h75) (fun e76 => endR m e76 [x2v70, x3v71, x8v72, x9v73, x10v74] h75)) (List.getD r69.2.1 0 .junk) (List.getD r69.2.1 1 .junk) (List.getD r69.2.1 2 .junk) (List.getD r69.2.1 3 .junk) (List.getD r69.2.1 4 .junk) r69.2.2) (endR m (.exit 0) [x2v5, x3v6, x8v7, x9v8, x10v9] h10)) (List.getD s.1 0 .junk) (List.getD s.1 1 .junk) (List.getD s.1 2 .junk) (List.getD s.1 3 .junk) (List.getD s.1 4 .junk) s.2
noncomputable def m59 (K : CallO) (a0 : AVal) (h0 : Heap) : Option (Res × Heap) :=
  ((fun (t1 : AVal) (h0 : Heap) => (fun (t3 : AVal) (h2 : Heap) => (alenSl a0).bind fun t4 => (lpW (m59_l2 K (List.length h2)) ([t1, t3, a0, t4, (.int .i64 0)], h2)).bind fun r78 => (fun x2v80 x3v81 x8v82 x9v83 x10v84 h85 => Ex.thenDo r78.1 none (fun e79 => Ex.inBlock 0 e79 (some (.ret, [x3v81], h85)) (fun e86 => some (e86, [x2v80], h85)))) (List.getD r78.2.1 0 .junk) (List.getD r78.2.1 1 .junk) (List.getD r78.2.1 2 .junk) (List.getD r78.2.1 3 .junk) (List.getD r78.2.1 4 .junk) r78.2.2) (.slice [] (.own (List.length h0))) (h0 ++ [.front 0 0])) (.slice [] (.own (List.length h0))) (h0 ++ [.front 0 0])).bind fun r87 => (fun x2v88 h89 => Ex.endF r87.1 (some (.ret x2v88, h89))) (List.getD r87.2.1 0 .junk) r87.2.2
theorem m59_eq (K : CallO) (a0 : AVal) (h0 : Heap) : evB Tryd.prog ann lpW K 59 [a0] h0 = m59 (callP ann K) a0 h0 := by kernel_rfl

/- hauberk/live.reads -/
noncomputable def m60 (K : CallO) (a0 a1 : AVal) (h0 : Heap) : Option (Res × Heap) :=
  (bindVH (anew 4 h0 a0) fun t0 h1 => (fun (t3 : AVal) (h2 : Heap) => (afieldAt 0 t0).bind fun t4 => (aload false 1 h2 t4).bind fun t5 => (abin .eql t5 (.int .i64 2)).bind fun t6 => (guardSel true t6 ((afieldAt 1 t0).bind fun t7 => kv0 t7 h2) (kv0 (.tuple []) h2)).bind (fin0 (fun t8 h9 => (guardSel true t6 ((aload false 1 h9 t8).bind fun t10 => kv0 t10 h9) (kv0 (.tuple []) h9)).bind (fin0 (fun t11 h12 => (guardSel true t6 ((abin .geq t11 (.int .i64 0)).bind fun t13 => kv0 t13 h12) (kv0 (.tuple []) h12)).bind (fin0 (fun t14 h15 => (apick t6 t14 (.bool false)).bind fun t16 => acond t16 ((afieldAt 1 t0).bind fun t17 => (aload false 1 h15 t17).bind fun t18 => bindRes (K 122 [a1, t18] h15) (fun t19 h20 => some (.ret, [t19], h20)) (fun _ _ => none)) (some (.ret, [a1], h15))) (fun _ _ => none))) (fun _ _ => none))) (fun _ _ => none))) (.slice [] (.own (List.length h1))) (h1 ++ [.front 0 0])).bind fun r21 => (fun x4v22 h23 => Ex.endF r21.1 (some (.ret x4v22, h23))) (List.getD r21.2.1 0 .junk) r21.2.2
theorem m60_eq (K : CallO) (a0 a1 : AVal) (h0 : Heap) : evB Tryd.prog ann lpW K 60 [a0, a1] h0 = m60 (callP ann K) a0 a1 h0 := by kernel_rfl

/- hauberk/live.ahead -/
noncomputable def m61_l0 (K : CallO) (m : Nat) (s : List AVal × Heap) : Option R :=
  (fun x1v30 x4v31 x19v32 x20v33 x21v34 h35 => (abin .lss x21v34 x20v33).bind fun t36 => acond t36 ((aindexSl 1 x19v32 x21v34).bind fun t37 => (aload false 1 h35 t37).bind fun t38 => (abin .geq t38 (.int .i64 0)).bind fun t39 => (acond t39 (bindRes (K 122 [x1v30, t38] h35) (fun t40 h41 => some (.normal, [t40, x4v31, x19v32, x20v33, x21v34], h41)) (fun _ _ => none)) (some (.normal, [x1v30, x4v31, x19v32, x20v33, x21v34], h35))).bind fun r42 => (fun x1v43 x4v44 x19v45 x20v46 x21v47 h48 => Ex.nrm r42.1 ((abin .add x21v47 (.int .i64 1)).bind fun t49 => endR m .normal [x1v43, x4v44, x19v45, x20v46, t49] h48)) (List.getD r42.2.1 0 .junk) (List.getD r42.2.1 1 .junk) (List.getD r42.2.1 2 .junk) (List.getD r42.2.1 3 .junk) (List.getD r42.2.1 4 .junk) r42.2.2) (endR m (.exit 0) [x1v30, x4v31, x19v32, x20v33, x21v34] h35)) (List.getD s.1 0 .junk) (List.getD s.1 1 .junk) (List.getD s.1 2 .junk) (List.getD s.1 3 .junk) (List.getD s.1 4 .junk) s.2
noncomputable def m61 (K : CallO) (a0 a1 : AVal) (h0 : Heap) : Option (Res × Heap) :=
  (bindVH (anew 6 h0 a0) fun t0 h1 => (fun (t3 : AVal) (h2 : Heap) => (aload true 6 h2 t0).bind fun t4 => bindRes (K 73 [(AVal.untok t4)] h2) (fun t5 h6 => (guardSel true t5 ((afieldAt 1 t0).bind fun t7 => kv0 t7 h6) (kv0 (.tuple []) h6)).bind (fin0 (fun t8 h9 => (guardSel true t5 ((aload false 1 h9 t8).bind fun t10 => kv0 t10 h9) (kv0 (.tuple []) h9)).bind (fin0 (fun t11 h12 => (guardSel true t5 ((abin .geq t11 (.int .i64 0)).bind fun t13 => kv0 t13 h12) (kv0 (.tuple []) h12)).bind (fin0 (fun t14 h15 => (apick t5 t14 (.bool false)).bind fun t16 => (acond t16 ((afieldAt 1 t0).bind fun t17 => (aload false 1 h15 t17).bind fun t18 => bindRes (K 123 [(AVal.untok a1), (AVal.untok t18)] h15) (fun t19 h20 => some (.normal, [a1, t0, t3], h20)) (fun _ _ => none)) (some (.normal, [a1, t0, t3], h15))).bind fun r21 => (fun x1v22 x2v23 x4v24 h25 => Ex.nrm r21.1 ((aload true 6 h25 x2v23).bind fun t26 => bindRes (K 74 [(AVal.untok t26)] h25) (fun t27 h28 => (alenSl t27).bind fun t29 => (lpW (m61_l0 K (List.length h28)) ([x1v22, x4v24, t27, t29, (.int .i64 0)], h28)).bind fun r50 => (fun x1v52 x4v53 x19v54 x20v55 x21v56 h57 => Ex.thenDo r50.1 none (fun e51 => Ex.inBlock 0 e51 (some (.ret, [x1v52], h57)) (fun e58 => some (e58, [x4v53], h57)))) (List.getD r50.2.1 0 .junk) (List.getD r50.2.1 1 .junk) (List.getD r50.2.1 2 .junk) (List.getD r50.2.1 3 .junk) (List.getD r50.2.1 4 .junk) r50.2.2) (fun _ _ => none))) (List.getD r21.2.1 0 .junk) (List.getD r21.2.1 1 .junk) (List.getD r21.2.1 2 .junk) r21.2.2) (fun _ _ => none))) (fun _ _ => none))) (fun _ _ => none))) (fun _ _ => none)) (.slice [] (.own (List.length h1))) (h1 ++ [.front 0 0])).bind fun r59 => (fun x4v60 h61 => Ex.endF r59.1 (some (.ret x4v60, h61))) (List.getD r59.2.1 0 .junk) r59.2.2
theorem m61_eq (K : CallO) (a0 a1 : AVal) (h0 : Heap) : evB Tryd.prog ann lpW K 61 [a0, a1] h0 = m61 (callP ann K) a0 a1 h0 := by kernel_rfl

/- hauberk/live.same -/
noncomputable def m62 (K : CallO) (a0 a1 : AVal) (h0 : Heap) : Option (Res × Heap) :=
  (bindRes (K 63 [(AVal.untok a0)] h0) (fun t0 h1 => bindRes (K 63 [(AVal.untok a1)] h1) (fun t2 h3 => bindRes (K 124 [(AVal.untok t0), (AVal.untok t2)] h3) (fun t4 h5 => some (.ret, [t4], h5)) (fun _ _ => none)) (fun _ _ => none)) (fun _ _ => none)).bind fun r6 => (fun x4v7 h8 => Ex.endF r6.1 (finR (List.length h0) x4v7 h8)) (List.getD r6.2.1 0 .junk) r6.2.2
theorem m62_eq (K : CallO) (a0 a1 : AVal) (h0 : Heap) : evB Tryd.prog ann lpW K 62 [a0, a1] h0 = m62 (callP ann K) a0 a1 h0 := by kernel_rfl

/- (hauberk/live.set).list -/
noncomputable def m63_l0 (K : CallO) (m : Nat) (s : List AVal × Heap) : Option R :=
  (fun x2v14 x3v15 x4v16 x5v17 x6v18 x7v19 x8v20 h21 => (abin .neq x5v17 (.int .u64 0)).bind fun t22 => acond t22 ((abin .mul (.int .i64 64) x4v16).bind fun t23 => bindRes (K 125 [(AVal.untok x5v17)] h21) (fun t24 h25 => (abin .add t23 t24).bind fun t26 => bindVH (abuildSlice 1 1 [(.int .i64 0)] [(0, t26)] h25) fun t27 h28 => bindVH (aappend 1 8 h28 x3v15 t27) fun t29 h30 => (abin .sub x5v17 (.int .u64 1)).bind fun t31 => (abin .and x5v17 t31).bind fun t32 => endR m .normal [x2v14, t29, x4v16, t32, x6v18, x7v19, x8v20] h30) (fun _ _ => none)) (endR m (.exit 2) [x2v14, x3v15, x4v16, x5v17, x6v18, x7v19, x8v20] h21)) (List.getD s.1 0 .junk) (List.getD s.1 1 .junk) (List.getD s.1 2 .junk) (List.getD s.1 3 .junk) (List.getD s.1 4 .junk) (List.getD s.1 5 .junk) (List.getD s.1 6 .junk) s.2
noncomputable def m63_l1 (K : CallO) (m : Nat) (s : List AVal × Heap) : Option R :=
  (fun x2v5 x3v6 x6v7 x7v8 x8v9 h10 => (abin .lss x8v9 x7v8).bind fun t11 => acond t11 (((aindexSl 1 x6v7 x8v9).bind fun t12 => (aload false 1 h10 t12).bind fun t13 => (lpW (m63_l0 K (List.length h10)) ([x2v5, x3v6, x8v9, t13, x6v7, x7v8, x8v9], h10)).bind fun r33 => (fun x2v35 x3v36 x4v37 x5v38 x6v39 x7v40 x8v41 h42 => Ex.thenDo r33.1 none (fun e34 => Ex.inBlock 2 e34 (some (.normal, [x2v35, x3v36, x6v39, x7v40, x8v41], h42)) (fun e43 => some (e43, [x2v35, x3v36, x6v39, x7v40, x8v41], h42)))) (List.getD r33.2.1 0 .junk) (List.getD r33.2.1 1 .junk) (List.getD r33.2.1 2 .junk) (List.getD r33.2.1 3 .junk) (List.getD r33.2.1 4 .junk) (List.getD r33.2.1 5 .junk) (List.getD r33.2.1 6 .junk) r33.2.2).bind fun r44 => (fun x2v45 x3v46 x6v47 x7v48 x8v49 h50 => Ex.inBlock 1 r44.1 ((abin .add x8v49 (.int .i64 1)).bind fun t52 => endR m .normal [x2v45, x3v46, x6v47, x7v48, t52] h50) (fun e51 => endR m e51 [x2v45, x3v46, x6v47, x7v48, x8v49] h50)) (List.getD r44.2.1 0 .junk) (List.getD r44.2.1 1 .junk) (List.getD r44.2.1 2 .junk) (List.getD r44.2.1 3 .junk) (List.getD r44.2.1 4 .junk) r44.2.2) (endR m (.exit 0) [x2v5, x3v6, x6v7, x7v8, x8v9] h10)) (List.getD s.1 0 .junk) (List.getD s.1 1 .junk) (List.getD s.1 2 .junk) (List.getD s.1 3 .junk) (List.getD s.1 4 .junk) s.2
noncomputable def m63 (K : CallO) (a0 : AVal) (h0 : Heap) : Option (Res × Heap) :=
  ((fun (t1 : AVal) (h0 : Heap) => (fun (t3 : AVal) (h2 : Heap) => (alenSl a0).bind fun t4 => (lpW (m63_l1 K (List.length h2)) ([t1, t3, a0, t4, (.int .i64 0)], h2)).bind fun r53 => (fun x2v55 x3v56 x6v57 x7v58 x8v59 h60 => Ex.thenDo r53.1 none (fun e54 => Ex.inBlock 0 e54 (some (.ret, [x3v56], h60)) (fun e61 => some (e61, [x2v55], h60)))) (List.getD r53.2.1 0 .junk) (List.getD r53.2.1 1 .junk) (List.getD r53.2.1 2 .junk) (List.getD r53.2.1 3 .junk) (List.getD r53.2.1 4 .junk) r53.2.2) (.slice [] (.own (List.length h0))) (h0 ++ [.front 0 0])) (.slice [] (.own (List.length h0))) (h0 ++ [.front 0 0])).bind fun r62 => (fun x2v63 h64 => Ex.endF r62.1 (finR (List.length h0) x2v63 h64)) (List.getD r62.2.1 0 .junk) r62.2.2
theorem m63_eq (K : CallO) (a0 : AVal) (h0 : Heap) : evB Tryd.prog ann lpW K 63 [a0] h0 = m63 (callP ann K) a0 h0 := by kernel_rfl

/- slices.DeleteFunc[[]int,int] -/
noncomputable def m120_l0 (K : CallO) (m : Nat) (s : List AVal × Heap) : Option R :=
  (fun x0v6 x1v7 x4v8 x5v9 x6v10 h11 => (alenSl x0v6).bind fun t12 => (abin .lss x6v10 t12).bind fun t13 => acond t13 ((aindexSl 1 x0v6 x6v10).bind fun t14 => (aload false 1 h11 t14).bind fun t15 => (acallee x1v7).bind fun g18 => bindRes (callE ann K g18.1 (argsFor ann g18.1 (g18.2.1 ++ [t15] ++ g18.2.2)) h11) (fun t16 h17 => (aun .not t16).bind fun t19 => (acond t19 ((aindexSl 1 x0v6 x5v9).bind fun t20 => (astore 1 h17 t20 t15).bind fun h21 => (abin .add x5v9 (.int .i64 1)).bind fun t22 => some (.normal, [x0v6, x1v7, x4v8, t22, x6v10], h21)) (some (.normal, [x0v6, x1v7, x4v8, x5v9, x6v10], h17))).bind fun r23 => (fun x0v24 x1v25 x4v26 x5v27 x6v28 h29 => Ex.nrm r23.1 ((abin .add x6v28 (.int .i64 1)).bind fun t30 => endR m .normal [x0v24, x1v25, x4v26, x5v27, t30] h29)) (List.getD r23.2.1 0 .junk) (List.getD r23.2.1 1 .junk) (List.getD r23.2.1 2 .junk) (List.getD r23.2.1 3 .junk) (List.getD r23.2.1 4 .junk) r23.2.2) (fun _ _ => none)) (endR m (.exit 0) [x0v6, x1v7, x4v8, x5v9, x6v10] h11)) (List.getD s.1 0 .junk) (List.getD s.1 1 .junk) (List.getD s.1 2 .junk) (List.getD s.1 3 .junk) (List.getD s.1 4 .junk) s.2
noncomputable def m120 (K : CallO) (a0 a1 : AVal) (h0 : Heap) : Option (Res × Heap) :=
  ((fun (t1 : AVal) (h0 : Heap) => bindRes (K 174 [(AVal.untok a0), (AVal.untok a1)] h0) (fun t2 h3 => (abin .eql t2 (.int .i64 (-1))).bind fun t4 => acond t4 (some (.ret, [a0], h3)) ((abin .add t2 (.int .i64 1)).bind fun t5 => (lpW (m120_l0 K (List.length h3)) ([a0, a1, t1, t2, t5], h3)).bind fun r31 => (fun x0v33 x1v34 x4v35 x5v36 x6v37 h38 => Ex.thenDo r31.1 none (fun e32 => Ex.inBlock 0 e32 ((asliceSl 1 x0v33 (some x5v36) none).bind fun t40 => (aclear 1 [(.int .i64 0)] h38 t40).bind fun h41 => (asliceSl 1 x0v33 none (some x5v36)).bind fun t42 => some (.ret, [t42], h41)) (fun e39 => some (e39, [x4v35], h38)))) (List.getD r31.2.1 0 .junk) (List.getD r31.2.1 1 .junk) (List.getD r31.2.1 2 .junk) (List.getD r31.2.1 3 .junk) (List.getD r31.2.1 4 .junk) r31.2.2)) (fun _ _ => none)) (.slice [] (.own (List.length h0))) (h0 ++ [.front 0 0])).bind fun r43 => (fun x4v44 h45 => Ex.endF r43.1 (finR (List.length h0) x4v44 h45)) (List.getD r43.2.1 0 .junk) r43.2.2
theorem m120_eq (K : CallO) (a0 a1 : AVal) (h0 : Heap) : evB Tryd.prog ann lpW K 120 [a0, a1] h0 = m120 (callP ann K) a0 a1 h0 := by kernel_rfl

/- hauberk/live.leads$1 -/
noncomputable def m121 (K : CallO) (a0 : AVal) (h0 : Heap) : Option (Res × Heap) :=
  ((abin .eql a0 (.int .i64 (-1))).bind fun t0 => some (.ret, [t0], h0)).bind fun r1 => (fun x2v2 h3 => Ex.endF r1.1 (finR (List.length h0) x2v2 h3)) (List.getD r1.2.1 0 .junk) r1.2.2
theorem m121_eq (K : CallO) (a0 : AVal) (h0 : Heap) : evB Tryd.prog ann lpW K 121 [a0] h0 = m121 (callP ann K) a0 h0 := by kernel_rfl

/- (hauberk/live.set).with -/
noncomputable def m122_l0 (K : CallO) (m : Nat) (s : List AVal × Heap) : Option R :=
  (fun x0v2 x1v3 x4v4 h5 => (abin .quo x1v3 (.int .i64 64)).bind fun t6 => (alenSl x0v2).bind fun t7 => (abin .geq t6 t7).bind fun t8 => acond t8 (bindVH (abuildSlice 1 1 [(.int .u64 0)] [(0, (.int .u64 0))] h5) fun t9 h10 => bindVH (aappendV 1 8 h10 x0v2 t9) fun t11 h12 => endR m .normal [t11, x1v3, x4v4] h12) (endR m (.exit 0) [x0v2, x1v3, x4v4] h5)) (List.getD s.1 0 .junk) (List.getD s.1 1 .junk) (List.getD s.1 2 .junk) s.2
noncomputable def m122 (K : CallO) (a0 a1 : AVal) (h0 : Heap) : Option (Res × Heap) :=
  ((fun (t1 : AVal) (h0 : Heap) => (lpW (m122_l0 K (List.length h0)) ([a0, a1, t1], h0)).bind fun r13 => (fun x0v15 x1v16 x4v17 h18 => Ex.thenDo r13.1 none (fun e14 => Ex.inBlock 0 e14 ((abin .quo x1v16 (.int .i64 64)).bind fun t20 => (aindexSl 1 x0v15 t20).bind fun t21 => (aload false 1 h18 t21).bind fun t22 => (abin .rem x1v16 (.int .i64 64)).bind fun t23 => (abin .shl (.int .u64 1) t23).bind fun t24 => (abin .or t22 t24).bind fun t25 => (aindexSl 1 x0v15 t20).bind fun t26 => (astore 1 h18 t26 t25).bind fun h27 => some (.ret, [x0v15], h27)) (fun e19 => some (e19, [x4v17], h18)))) (List.getD r13.2.1 0 .junk) (List.getD r13.2.1 1 .junk) (List.getD r13.2.1 2 .junk) r13.2.2) (.slice [] (.own (List.length h0))) (h0 ++ [.front 0 0])).bind fun r28 => (fun x4v29 h30 => Ex.endF r28.1 (some (.ret x4v29, h30))) (List.getD r28.2.1 0 .junk) r28.2.2
theorem m122_eq (K : CallO) (a0 a1 : AVal) (h0 : Heap) : evB Tryd.prog ann lpW K 122 [a0, a1] h0 = m122 (callP ann K) a0 a1 h0 := by kernel_rfl

/- (hauberk/live.set).without -/
noncomputable def m123 (K : CallO) (a0 a1 : AVal) (h0 : Heap) : Option (Res × Heap) :=
  ((abin .quo a1 (.int .i64 64)).bind fun t0 => (alenSl a0).bind fun t1 => (abin .lss t0 t1).bind fun t2 => (acond t2 ((abin .quo a1 (.int .i64 64)).bind fun t3 => (aindexSl 1 a0 t3).bind fun t4 => (aload false 1 h0 t4).bind fun t5 => (abin .rem a1 (.int .i64 64)).bind fun t6 => (abin .shl (.int .u64 1) t6).bind fun t7 => (abin .andNot t5 t7).bind fun t8 => (aindexSl 1 a0 t3).bind fun t9 => (astore 1 h0 t9 t8).bind fun h10 => some (.normal, [], h10)) (some (.normal, [], h0))).bind fun r11 => (fun h12 => Ex.nrm r11.1 (some (.normal, [], h12)))  r11.2.2).bind fun r13 => (fun h14 => Ex.endF r13.1 (finR (List.length h0) (.tuple []) h14))  r13.2.2
theorem m123_eq (K : CallO) (a0 a1 : AVal) (h0 : Heap) : evB Tryd.prog ann lpW K 123 [a0, a1] h0 = m123 (callP ann K) a0 a1 h0 := by kernel_rfl

/- slices.Equal[[]int,int] -/
noncomputable def m124_l0 (K : CallO) (m : Nat) (s : List AVal × Heap) : Option R :=
  (fun x0v4 x1v5 x4v6 x12v7 x13v8 h9 => (abin .lss x13v8 x12v7).bind fun t10 => acond t10 ((aindexSl 1 x0v4 x13v8).bind fun t11 => (aload false 1 h9 t11).bind fun t12 => (aindexSl 1 x1v5 x13v8).bind fun t13 => (aload false 1 h9 t13).bind fun t14 => (abin .neq t12 t14).bind fun t15 => acond t15 (endR m .ret [x0v4, x1v5, (.bool false), x12v7, x13v8] h9) ((abin .add x13v8 (.int .i64 1)).bind fun t16 => endR m .normal [x0v4, x1v5, x4v6, x12v7, t16] h9)) (endR m (.exit 0) [x0v4, x1v5, x4v6, x12v7, x13v8] h9)) (List.getD s.1 0 .junk) (List.getD s.1 1 .junk) (List.getD s.1 2 .junk) (List.getD s.1 3 .junk) (List.getD s.1 4 .junk) s.2
noncomputable def m124 (K : CallO) (a0 a1 : AVal) (h0 : Heap) : Option (Res × Heap) :=
  ((alenSl a0).bind fun t0 => (alenSl a1).bind fun t1 => (abin .neq t0 t1).bind fun t2 => acond t2 (some (.ret, [(.bool false)], h0)) ((alenSl a0).bind fun t3 => (lpW (m124_l0 K (List.length h0)) ([a0, a1, (.bool false), t3, (.int .i64 0)], h0)).bind fun r17 => (fun x0v19 x1v20 x4v21 x12v22 x13v23 h24 => Ex.thenDo r17.1 none (fun e18 => Ex.inBlock 0 e18 (some (.ret, [(.bool true)], h24)) (fun e25 => some (e25, [x4v21], h24)))) (List.getD r17.2.1 0 .junk) (List.getD r17.2.1 1 .junk) (List.getD r17.2.1 2 .junk) (List.getD r17.2.1 3 .junk) (List.getD r17.2.1 4 .junk) r17.2.2)).bind fun r26 => (fun x4v27 h28 => Ex.endF r26.1 (finR (List.length h0) x4v27 h28)) (List.getD r26.2.1 0 .junk) r26.2.2
theorem m124_eq (K : CallO) (a0 a1 : AVal) (h0 : Heap) : evB Tryd.prog ann lpW K 124 [a0, a1] h0 = m124 (callP ann K) a0 a1 h0 := by kernel_rfl

/- math/bits.TrailingZeros64 -/
noncomputable def m125 (K : CallO) (a0 : AVal) (h0 : Heap) : Option (Res × Heap) :=
  ((abin .eql a0 (.int .u64 0)).bind fun t0 => acond t0 (some (.ret, [(.int .i64 64)], h0)) ((aun .neg a0).bind fun t1 => (abin .and a0 t1).bind fun t2 => (abin .mul t2 (.int .u64 285870213051353865)).bind fun t3 => (abin .shr t3 (.int .u64 58)).bind fun t4 => (aindexAt 64 1 (.pptr gBruijn) t4).bind fun t5 => (aload false 1 h0 t5).bind fun t6 => (aconvInt .i64 t6).bind fun t7 => some (.ret, [t7], h0))).bind fun r8 => (fun x2v9 h10 => Ex.endF r8.1 (finR (List.length h0) x2v9 h10)) (List.getD r8.2.1 0 .junk) r8.2.2
theorem m125_eq (K : CallO) (a0 : AVal) (h0 : Heap) : evB Tryd.prog ann lpW K 125 [a0] h0 = m125 (callP ann K) a0 h0 := by kernel_rfl

/- slices.IndexFunc[[]int,int] -/
noncomputable def m174_l0 (K : CallO) (m : Nat) (s : List AVal × Heap) : Option R :=
  (fun x0v1 x1v2 x4v3 x7v4 x8v5 h6 => (abin .lss x8v5 x7v4).bind fun t7 => acond t7 ((aindexSl 1 x0v1 x8v5).bind fun t8 => (aload false 1 h6 t8).bind fun t9 => (acallee x1v2).bind fun g12 => bindRes (callE ann K g12.1 (argsFor ann g12.1 (g12.2.1 ++ [t9] ++ g12.2.2)) h6) (fun t10 h11 => acond t10 (endR m .ret [x0v1, x1v2, x8v5, x7v4, x8v5] h11) ((abin .add x8v5 (.int .i64 1)).bind fun t13 => endR m .normal [x0v1, x1v2, x4v3, x7v4, t13] h11)) (fun _ _ => none)) (endR m (.exit 0) [x0v1, x1v2, x4v3, x7v4, x8v5] h6)) (List.getD s.1 0 .junk) (List.getD s.1 1 .junk) (List.getD s.1 2 .junk) (List.getD s.1 3 .junk) (List.getD s.1 4 .junk) s.2
noncomputable def m174 (K : CallO) (a0 a1 : AVal) (h0 : Heap) : Option (Res × Heap) :=
  ((alenSl a0).bind fun t0 => (lpW (m174_l0 K (List.length h0)) ([a0, a1, (.int .i64 0), t0, (.int .i64 0)], h0)).bind fun r14 => (fun x0v16 x1v17 x4v18 x7v19 x8v20 h21 => Ex.thenDo r14.1 none (fun e15 => Ex.inBlock 0 e15 (some (.ret, [(.int .i64 (-1))], h21)) (fun e22 => some (e22, [x4v18], h21)))) (List.getD r14.2.1 0 .junk) (List.getD r14.2.1 1 .junk) (List.getD r14.2.1 2 .junk) (List.getD r14.2.1 3 .junk) (List.getD r14.2.1 4 .junk) r14.2.2).bind fun r23 => (fun x4v24 h25 => Ex.endF r23.1 (finR (List.length h0) x4v24 h25)) (List.getD r23.2.1 0 .junk) r23.2.2
theorem m174_eq (K : CallO) (a0 a1 : AVal) (h0 : Heap) : evB Tryd.prog ann lpW K 174 [a0, a1] h0 = m174 (callP ann K) a0 a1 h0 := by kernel_rfl

/- hauberk/hauberkref21.Live -/
noncomputable def m28_l0 (K : CallO) (m : Nat) (s : List AVal × Heap) : Option R :=
  (fun x1v34 x2v35 x3v36 x4v37 x6v38 x7v39 x8v40 x9v41 x10v42 x11v43 h44 => (afieldAt 0 x1v34).bind fun t45 => (aload false 1 h44 t45).bind fun t46 => (abin .lss x11v43 t46).bind fun t47 => acond t47 ((aload true 5 h44 x1v34).bind fun t48 => bindRes (K 65 [(AVal.untok t48), (AVal.untok x8v40), (AVal.untok x11v43)] h44) (fun t49 h50 => (acond t49 (bindVH (abuildSlice 1 1 [(.int .i64 0)] [(0, x11v43)] h50) fun t51 h52 => bindVH (aappend 1 8 h52 x9v41 t51) fun t53 h54 => some (.normal, [x1v34, x2v35, x3v36, x4v37, x6v38, x7v39, x8v40, t53, x10v42, x11v43], h54)) (some (.normal, [x1v34, x2v35, x3v36, x4v37, x6v38, x7v39, x8v40, x9v41, x10v42, x11v43], h50))).bind fun r55 => (fun x1v56 x2v57 x3v58 x4v59 x6v60 x7v61 x8v62 x9v63 x10v64 x11v65 h66 => Ex.nrm r55.1 ((aload true 5 h66 x1v56).bind fun t67 => bindRes (K 66 [(AVal.untok t67), (AVal.untok x8v62), (AVal.untok x11v65)] h66) (fun t68 h69 => (acond t68 (bindVH (abuildSlice 1 1 [(.int .i64 0)] [(0, x11v65)] h69) fun t70 h71 => bindVH (aappend 1 8 h71 x10v64 t70) fun t72 h73 => some (.normal, [x1v56, x2v57, x3v58, x4v59, x6v60, x7v61, x8v62, x9v63, t72, x11v65], h73)) (some (.normal, [x1v56, x2v57, x3v58, x4v59, x6v60, x7v61, x8v62, x9v63, x10v64, x11v65], h69))).bind fun r74 => (fun x1v75 x2v76 x3v77 x4v78 x6v79 x7v80 x8v81 x9v82 x10v83 x11v84 h85 => Ex.nrm r74.1 ((abin .add x11v84 (.int .i64 1)).bind fun t86 => endR m .normal [x1v75, x2v76, x3v77, x4v78, x6v79, x7v80, x8v81, x9v82, x10v83, t86] h85)) (List.getD r74.2.1 0 .junk) (List.getD r74.2.1 1 .junk) (List.getD r74.2.1 2 .junk) (List.getD r74.2.1 3 .junk) (List.getD r74.2.1 4 .junk) (List.getD r74.2.1 5 .junk) (List.getD r74.2.1 6 .junk) (List.getD r74.2.1 7 .junk) (List.getD r74.2.1 8 .junk) (List.getD r74.2.1 9 .junk) r74.2.2) (fun _ _ => none))) (List.getD r55.2.1 0 .junk) (List.getD r55.2.1 1 .junk) (List.getD r55.2.1 2 .junk) (List.getD r55.2.1 3 .junk) (List.getD r55.2.1 4 .junk) (List.getD r55.2.1 5 .junk) (List.getD r55.2.1 6 .junk) (List.getD r55.2.1 7 .junk) (List.getD r55.2.1 8 .junk) (List.getD r55.2.1 9 .junk) r55.2.2) (fun _ _ => none)) (endR m (.exit 2) [x1v34, x2v35, x3v36, x4v37, x6v38, x7v39, x8v40, x9v41, x10v42, x11v43] h44)) (List.getD s.1 0 .junk) (List.getD s.1 1 .junk) (List.getD s.1 2 .junk) (List.getD s.1 3 .junk) (List.getD s.1 4 .junk) (List.getD s.1 5 .junk) (List.getD s.1 6 .junk) (List.getD s.1 7 .junk) (List.getD s.1 8 .junk) (List.getD s.1 9 .junk) s.2
noncomputable def m28_l1 (K : CallO) (m : Nat) (s : List AVal × Heap) : Option R :=
  (fun x1v18 x2v19 x3v20 x4v21 x6v22 x7v23 x8v24 h25 => (afieldAt 2 x1v18).bind fun t26 => (aload false 1 h25 t26).bind fun t27 => (alenSl t27).bind fun t28 => (abin .lss x8v24 t28).bind fun t29 => acond t29 (((fun (t31 : AVal) (h30 : Heap) => (fun (t33 : AVal) (h32 : Heap) => (lpW (m28_l0 K (List.length h32)) ([x1v18, x2v19, x3v20, x4v21, x6v22, x7v23, x8v24, t31, t33, (.int .i64 0)], h32)).bind fun r87 => (fun x1v89 x2v90 x3v91 x4v92 x6v93 x7v94 x8v95 x9v96 x10v97 x11v98 h99 => Ex.thenDo r87.1 none (fun e88 => Ex.inBlock 2 e88 (bindVH (abuildSlice 1 1 [(.slice [] .nil)] [(0, x9v96)] h99) fun t101 h102 => bindVH (aappend 1 24 h102 x6v93 t101) fun t103 h104 => bindVH (abuildSlice 1 1 [(.slice [] .nil)] [(0, x10v97)] h104) fun t105 h106 => bindVH (aappend 1 24 h106 x7v94 t105) fun t107 h108 => some (.normal, [x1v89, x2v90, x3v91, x4v92, t103, t107, x8v95], h108)) (fun e100 => some (e100, [x1v89, x2v90, x3v91, x4v92, x6v93, x7v94, x8v95], h99)))) (List.getD r87.2.1 0 .junk) (List.getD r87.2.1 1 .junk) (List.getD r87.2.1 2 .junk) (List.getD r87.2.1 3 .junk) (List.getD r87.2.1 4 .junk) (List.getD r87.2.1 5 .junk) (List.getD r87.2.1 6 .junk) (List.getD r87.2.1 7 .junk) (List.getD r87.2.1 8 .junk) (List.getD r87.2.1 9 .junk) r87.2.2) (.slice [] (.own (List.length h30))) (h30 ++ [.front 0 0])) (.slice [] (.own (List.length h25))) (h25 ++ [.front 0 0])).bind fun r109 => (fun x1v110 x2v111 x3v112 x4v113 x6v114 x7v115 x8v116 h117 => Ex.inBlock 1 r109.1 ((abin .add x8v116 (.int .i64 1)).bind fun t119 => endR m .normal [x1v110, x2v111, x3v112, x4v113, x6v114, x7v115, t119] h117) (fun e118 => endR m e118 [x1v110, x2v111, x3v112, x4v113, x6v114, x7v115, x8v116] h117)) (List.getD r109.2.1 0 .junk) (List.getD r109.2.1 1 .junk) (List.getD r109.2.1 2 .junk) (List.getD r109.2.1 3 .junk) (List.getD r109.2.1 4 .junk) (List.getD r109.2.1 5 .junk) (List.getD r109.2.1 6 .junk) r109.2.2) (endR m (.exit 0) [x1v18, x2v19, x3v20, x4v21, x6v22, x7v23, x8v24] h25)) (List.getD s.1 0 .junk) (List.getD s.1 1 .junk) (List.getD s.1 2 .junk) (List.getD s.1 3 .junk) (List.getD s.1 4 .junk) (List.getD s.1 5 .junk) (List.getD s.1 6 .junk) s.2
noncomputable def m28 (K : CallO) (a0 : AVal) (h0 : Heap) : Option (Res × Heap) :=
  (bindVH (anew 5 h0 a0) fun t0 h1 => (fun (t3 : AVal) (h2 : Heap) => (fun (t5 : AVal) (h4 : Heap) => (aload true 5 h4 t0).bind fun t6 => bindRes (K 64 [(AVal.untok t6)] h4) (fun t7 h8 => (abin .neq t7 (.int .i64 0)).bind fun t9 => acond t9 ((fun (t11 : AVal) (h10 : Heap) => (fun (t13 : AVal) (h12 : Heap) => some (.ret, [t11, t13, t7], h12)) (.slice [] (.own (List.length h10))) (h10 ++ [.front 0 0])) (.slice [] (.own (List.length h8))) (h8 ++ [.front 0 0])) ((fun (t15 : AVal) (h14 : Heap) => (fun (t17 : AVal) (h16 : Heap) => (lpW (m28_l1 K (List.length h16)) ([t0, t3, t5, (.int .i64 0), t15, t17, (.int .i64 0)], h16)).bind fun r120 => (fun x1v122 x2v123 x3v124 x4v125 x6v126 x7v127 x8v128 h129 => Ex.thenDo r120.1 none (fun e121 => Ex.inBlock 0 e121 (some (.ret, [x6v126, x7v127, (.int .i64 0)], h129)) (fun e130 => some (e130, [x2v123, x3v124, x4v125], h129)))) (List.getD r120.2.1 0 .junk) (List.getD r120.2.1 1 .junk) (List.getD r120.2.1 2 .junk) (List.getD r120.2.1 3 .junk) (List.getD r120.2.1 4 .junk) (List.getD r120.2.1 5 .junk) (List.getD r120.2.1 6 .junk) r120.2.2) (.slice [] (.own (List.length h14))) (h14 ++ [.front 0 0])) (.slice [] (.own (List.length h8))) (h8 ++ [.front 0 0]))) (fun _ _ => none)) (.slice [] (.own (List.length h2))) (h2 ++ [.front 0 0])) (.slice [] (.own (List.length h1))) (h1 ++ [.front 0 0])).bind fun r131 => (fun x2v132 x3v133 x4v134 h135 => Ex.endF r131.1 (finR (List.length h0) (.tuple [x2v132, x3v133, x4v134]) h135)) (List.getD r131.2.1 0 .junk) (List.getD r131.2.1 1 .junk) (List.getD r131.2.1 2 .junk) r131.2.2
theorem m28_eq (K : CallO) (a0 : AVal) (h0 : Heap) : evB Tryd.prog ann lpW K 28 [a0] h0 = m28 (callP ann K) a0 h0 := by kernel_rfl

/- hauberk/hauberkref21.In -/
noncomputable def m65 (K : CallO) (a0 a1 a2 : AVal) (h0 : Heap) : Option (Res × Heap) :=
  (bindVH (anew 5 h0 a0) fun t0 h1 => (aload true 5 h1 t0).bind fun t2 => bindVH (abuildSlice 1 1 [(.int .i64 0)] [(0, a1)] h1) fun t3 h4 => bindRes (K 130 [(AVal.untok t2), (AVal.untok t3), (AVal.untok a2)] h4) (fun t5 h6 => some (.ret, [t5], h6)) (fun _ _ => none)).bind fun r7 => (fun x6v8 h9 => Ex.endF r7.1 (finR (List.length h0) x6v8 h9)) (List.getD r7.2.1 0 .junk) r7.2.2
theorem m65_eq (K : CallO) (a0 a1 a2 : AVal) (h0 : Heap) : evB Tryd.prog ann lpW K 65 [a0, a1, a2] h0 = m65 (callP ann K) a0 a1 a2 h0 := by kernel_rfl

/- hauberk/hauberkref21.Out -/
noncomputable def m66 (K : CallO) (a0 a1 a2 : AVal) (h0 : Heap) : Option (Res × Heap) :=
  (bindVH (anew 5 h0 a0) fun t0 h1 => (aload true 5 h1 t0).bind fun t2 => (afieldAt 2 t0).bind fun t3 => (aload false 1 h1 t3).bind fun t4 => (aindexSl 5 t4 a1).bind fun t5 => (afieldAt 1 t5).bind fun t6 => (aload true 4 h1 t6).bind fun t7 => bindRes (K 131 [(AVal.untok t7)] (hide (lockIds [0] [t0]) h1)) (fun t8 h9 => bindRes (K 130 [(AVal.untok t2), (AVal.untok t8), (AVal.untok a2)] (unhide (lockIds [0] [t0]) h1 h9)) (fun t10 h11 => some (.ret, [t10], h11)) (fun _ _ => none)) (fun _ _ => none)).bind fun r12 => (fun x6v13 h14 => Ex.endF r12.1 (finR (List.length h0) x6v13 h14)) (List.getD r12.2.1 0 .junk) r12.2.2
theorem m66_eq (K : CallO) (a0 a1 a2 : AVal) (h0 : Heap) : evB Tryd.prog ann lpW K 66 [a0, a1, a2] h0 = m66 (callP ann K) a0 a1 a2 h0 := by kernel_rfl

/- hauberk/hauberkref21.way -/
noncomputable def m130_l0 (K : CallO) (m : Nat) (s : List AVal × Heap) : Option R :=
  (fun x2v11 x3v12 x6v13 x7v14 x8v15 h16 => (alenSl x8v15).bind fun t17 => (abin .gtr t17 (.int .i64 0)).bind fun t18 => acond t18 (((alenSl x8v15).bind fun t19 => (abin .sub t19 (.int .i64 1)).bind fun t20 => (aindexSl 1 x8v15 t20).bind fun t21 => (aload false 1 h16 t21).bind fun t22 => (alenSl x8v15).bind fun t23 => (abin .sub t23 (.int .i64 1)).bind fun t24 => (asliceSl 1 x8v15 none (some t24)).bind fun t25 => (aindexSl 1 x7v14 t22).bind fun t26 => (aload false 1 h16 t26).bind fun t27 => acond t27 (some ((.exit 1), [x2v11, x3v12, x6v13, x7v14, t25], h16)) ((aindexSl 1 x7v14 t22).bind fun t28 => (astore 1 h16 t28 (.bool true)).bind fun h29 => (afieldAt 2 x3v12).bind fun t30 => (aload false 1 h29 t30).bind fun t31 => (aindexSl 5 t31 t22).bind fun t32 => (aload true 5 h29 t32).bind fun t33 => bindRes (K 158 [(AVal.untok t33), (AVal.untok (.int .i64 0)), (AVal.untok x2v11)] h29) (fun t34 h35 => (abin .eql t34 (.int .i64 1)).bind fun t36 => acond t36 (some (.ret, [x2v11, x3v12, (.bool true), x7v14, t25], h35)) ((abin .eql t34 (.int .i64 0)).bind fun t37 => (acond t37 ((afieldAt 2 x3v12).bind fun t38 => (aload false 1 h35 t38).bind fun t39 => (aindexSl 5 t39 t22).bind fun t40 => (afieldAt 1 t40).bind fun t41 => (aload true 4 h35 t41).bind fun t42 => bindRes (K 131 [(AVal.untok t42)] h35) (fun t43 h44 => bindVH (aappendV 1 8 h44 t25 t43) fun t45 h46 => some (.normal, [x2v11, x3v12, x6v13, x7v14, t45], h46)) (fun _ _ => none)) (some (.normal, [x2v11, x3v12, x6v13, x7v14, t25], h35))).bind fun r47 => (fun x2v48 x3v49 x6v50 x7v51 x8v52 h53 => Ex.nrm r47.1 (some (.normal, [x2v48, x3v49, x6v50, x7v51, x8v52], h53))) (List.getD r47.2.1 0 .junk) (List.getD r47.2.1 1 .junk) (List.getD r47.2.1 2 .junk) (List.getD r47.2.1 3 .junk) (List.getD r47.2.1 4 .junk) r47.2.2)) (fun _ _ => none))).bind fun r54 => (fun x2v55 x3v56 x6v57 x7v58 x8v59 h60 => Ex.inBlock 1 r54.1 (endR m .normal [x2v55, x3v56, x6v57, x7v58, x8v59] h60) (fun e61 => endR m e61 [x2v55, x3v56, x6v57, x7v58, x8v59] h60)) (List.getD r54.2.1 0 .junk) (List.getD r54.2.1 1 .junk) (List.getD r54.2.1 2 .junk) (List.getD r54.2.1 3 .junk) (List.getD r54.2.1 4 .junk) r54.2.2) (endR m (.exit 0) [x2v11, x3v12, x6v13, x7v14, x8v15] h16)) (List.getD s.1 0 .junk) (List.getD s.1 1 .junk) (List.getD s.1 2 .junk) (List.getD s.1 3 .junk) (List.getD s.1 4 .junk) s.2
noncomputable def m130 (K : CallO) (a0 a1 a2 : AVal) (h0 : Heap) : Option (Res × Heap) :=
  (bindVH (anew 5 h0 a0) fun t0 h1 => (afieldAt 2 t0).bind fun t2 => (aload false 1 h1 t2).bind fun t3 => (alenSl t3).bind fun t4 => bindVH (amakeSlice 1 1 [(.bool false)] t4 h1) fun t5 h6 => bindVH (abuildSliceV 0 1 [(.int .i64 0)] [] h6) fun t7 h8 => bindVH (aappendV 1 8 h8 t7 a1) fun t9 h10 => (lpW (m130_l0 K (List.length h10)) ([a2, t0, (.bool false), t5, t9], h10)).bind fun r62 => (fun x2v64 x3v65 x6v66 x7v67 x8v68 h69 => Ex.thenDo r62.1 none (fun e63 => Ex.inBlock 0 e63 (some (.ret, [(.bool false)], h69)) (fun e70 => some (e70, [x6v66], h69)))) (List.getD r62.2.1 0 .junk) (List.getD r62.2.1 1 .junk) (List.getD r62.2.1 2 .junk) (List.getD r62.2.1 3 .junk) (List.getD r62.2.1 4 .junk) r62.2.2).bind fun r71 => (fun x6v72 h73 => Ex.endF r71.1 (finR (List.length h0) x6v72 h73)) (List.getD r71.2.1 0 .junk) r71.2.2
theorem m130_eq (K : CallO) (a0 a1 a2 : AVal) (h0 : Heap) : evB Tryd.prog ann lpW K 130 [a0, a1, a2] h0 = m130 (callP ann K) a0 a1 a2 h0 := by kernel_rfl

/- hauberk/hauberkref21.leads -/
noncomputable def m131 (K : CallO) (a0 : AVal) (h0 : Heap) : Option (Res × Heap) :=
  (bindVH (anew 4 h0 a0) fun t0 h1 => (fun (t3 : AVal) (h2 : Heap) => (fun (t5 : AVal) (h4 : Heap) => (afieldAt 0 t0).bind fun t6 => (aload false 1 h4 t6).bind fun t7 => (abin .eql t7 (.int .i64 1)).bind fun t8 => (guardSel false t8 ((afieldAt 0 t0).bind fun t9 => kv0 t9 h4) (kv0 (.tuple []) h4)).bind (fin0 (fun t10 h11 => (guardSel false t8 ((aload false 1 h11 t10).bind fun t12 => kv0 t12 h11) (kv0 (.tuple []) h11)).bind (fin0 (fun t13 h14 => (guardSel false t8 ((abin .eql t13 (.int .i64 2)).bind fun t15 => kv0 t15 h14) (kv0 (.tuple []) h14)).bind (fin0 (fun t16 h17 => (apick t8 (.bool true) t16).bind fun t18 => (guardSel true t18 ((afieldAt 2 t0).bind fun t19 => kv0 t19 h17) (kv0 (.tuple []) h17)).bind (fin0 (fun t20 h21 => (guardSel true t18 ((aload false 1 h21 t20).bind fun t22 => kv0 t22 h21) (kv0 (.tuple []) h21)).bind (fin0 (fun t23 h24 => (guardSel true t18 ((abin .geq t23 (.int .i64 0)).bind fun t25 => kv0 t25 h24) (kv0 (.tuple []) h24)).bind (fin0 (fun t26 h27 => (apick t18 t26 (.bool false)).bind fun t28 => (acond t28 ((afieldAt 2 t0).bind fun t29 => (aload false 1 h27 t29).bind fun t30 => bindVH (abuildSlice 1 1 [(.int .i64 0)] [(0, t30)] h27) fun t31 h32 => bindVH (aappend 1 8 h32 t5 t31) fun t33 h34 => some (.normal, [t0, t3, t33], h34)) (some (.normal, [t0, t3, t5], h27))).bind fun r35 => (fun x1v36 x2v37 x3v38 h39 => Ex.nrm r35.1 ((afieldAt 0 x1v36).bind fun t40 => (aload false 1 h39 t40).bind fun t41 => (abin .eql t41 (.int .i64 2)).bind fun t42 => (guardSel true t42 ((afieldAt 3 x1v36).bind fun t43 => kv0 t43 h39) (kv0 (.tuple []) h39)).bind (fin0 (fun t44 h45 => (guardSel true t42 ((aload false 1 h45 t44).bind fun t46 => kv0 t46 h45) (kv0 (.tuple []) h45)).bind (fin0 (fun t47 h48 => (guardSel true t42 ((abin .geq t47 (.int .i64 0)).bind fun t49 => kv0 t49 h48) (kv0 (.tuple []) h48)).bind (fin0 (fun t50 h51 => (apick t42 t50 (.bool false)).bind fun t52 => (acond t52 ((afieldAt 3 x1v36).bind fun t53 => (aload false 1 h51 t53).bind fun t54 => bindVH (abuildSlice 1 1 [(.int .i64 0)] [(0, t54)] h51) fun t55 h56 => bindVH (aappend 1 8 h56 x3v38 t55) fun t57 h58 => some (.normal, [x2v37, t57], h58)) (some (.normal, [x2v37, x3v38], h51))).bind fun r59 => (fun x2v60 x3v61 h62 => Ex.nrm r59.1 (some (.ret, [x3v61], h62))) (List.getD r59.2.1 0 .junk) (List.getD r59.2.1 1 .junk) r59.2.2) (fun _ _ => none))) (fun _ _ => none))) (fun _ _ => none)))) (List.getD r35.2.1 0 .junk) (List.getD r35.2.1 1 .junk) (List.getD r35.2.1 2 .junk) r35.2.2) (fun _ _ => none))) (fun _ _ => none))) (fun _ _ => none))) (fun _ _ => none))) (fun _ _ => none))) (fun _ _ => none))) (.slice [] (.own (List.length h2))) (h2 ++ [.front 0 0])) (.slice [] (.own (List.length h1))) (h1 ++ [.front 0 0])).bind fun r63 => (fun x2v64 h65 => Ex.endF r63.1 (finR (List.length h0) x2v64 h65)) (List.getD r63.2.1 0 .junk) r63.2.2
theorem m131_eq (K : CallO) (a0 : AVal) (h0 : Heap) : evB Tryd.prog ann lpW K 131 [a0] h0 = m131 (callP ann K) a0 h0 := by kernel_rfl

/- hauberk/hauberkref21.Fate -/
noncomputable def m158_l0 (K : CallO) (m : Nat) (s : List AVal × Heap) : Option R :=
  (fun x2v17 x3v18 x6v19 x7v20 x8v21 x9v22 h23 => (alenSl x8v21).bind fun t24 => (abin .lss x9v22 t24).bind fun t25 => acond t25 ((aindexSl 1 x8v21 x9v22).bind fun t26 => (aload false 1 h23 t26).bind fun t27 => (abin .eql t27 x2v17).bind fun t28 => acond t28 (endR m .ret [x2v17, x3v18, (.int .i64 1), x7v20, x8v21, x9v22] h23) ((abin .add x9v22 (.int .i64 1)).bind fun t29 => endR m .normal [x2v17, x3v18, x6v19, x7v20, x8v21, t29] h23)) (endR m (.exit 2) [x2v17, x3v18, x6v19, x7v20, x8v21, x9v22] h23)) (List.getD s.1 0 .junk) (List.getD s.1 1 .junk) (List.getD s.1 2 .junk) (List.getD s.1 3 .junk) (List.getD s.1 4 .junk) (List.getD s.1 5 .junk) s.2
noncomputable def m158_l1 (K : CallO) (m : Nat) (s : List AVal × Heap) : Option R :=
  (fun x2v2 x3v3 x6v4 x7v5 h6 => (afieldAt 0 x3v3).bind fun t7 => (aload false 1 h6 t7).bind fun t8 => (alenSl t8).bind fun t9 => (abin .lss x7v5 t9).bind fun t10 => acond t10 (((afieldAt 0 x3v3).bind fun t11 => (aload false 1 h6 t11).bind fun t12 => (aindexSl 6 t12 x7v5).bind fun t13 => (aload true 6 h6 t13).bind fun t14 => bindRes (K 100 [(AVal.untok t14)] h6) (fun t15 h16 => (lpW (m158_l0 K (List.length h16)) ([x2v2, x3v3, x6v4, x7v5, t15, (.int .i64 0)], h16)).bind fun r30 => (fun x2v32 x3v33 x6v34 x7v35 x8v36 x9v37 h38 => Ex.thenDo r30.1 none (fun e31 => Ex.inBlock 2 e31 ((afieldAt 0 x3v33).bind fun t40 => (aload false 1 h38 t40).bind fun t41 => (aindexSl 6 t41 x7v35).bind fun t42 => (aload true 6 h38 t42).bind fun t43 => bindRes (K 101 [(AVal.untok t43)] h38) (fun t44 h45 => (guardSel true t44 ((afieldAt 0 x3v33).bind fun t46 => kv0 t46 h45) (kv0 (.tuple []) h45)).bind (fin0 (fun t47 h48 => (guardSel true t44 ((aload false 1 h48 t47).bind fun t49 => kv0 t49 h48) (kv0 (.tuple []) h48)).bind (fin0 (fun t50 h51 => (guardSel true t44 (kv0 x7v35 h51) (kv0 (.tuple []) h51)).bind (fin0 (fun t52 h53 => (guardSel true t44 ((aindexSl 6 t50 t52).bind fun t54 => kv0 t54 h53) (kv0 (.tuple []) h53)).bind (fin0 (fun t55 h56 => (guardSel true t44 ((afieldAt 1 t55).bind fun t57 => kv0 t57 h56) (kv0 (.tuple []) h56)).bind (fin0 (fun t58 h59 => (guardSel true t44 ((aload false 1 h59 t58).bind fun t60 => kv0 t60 h59) (kv0 (.tuple []) h59)).bind (fin0 (fun t61 h62 => (guardSel true t44 (kv0 x2v32 h62) (kv0 (.tuple []) h62)).bind (fin0 (fun t63 h64 => (guardSel true t44 ((abin .eql t61 t63).bind fun t65 => kv0 t65 h64) (kv0 (.tuple []) h64)).bind (fin0 (fun t66 h67 => (apick t44 t66 (.bool false)).bind fun t68 => acond t68 (some (.ret, [x2v32, x3v33, (.int .i64 2), x7v35], h67)) (some (.normal, [x2v32, x3v33, x6v34, x7v35], h67))) (fun _ _ => none))) (fun _ _ => none))) (fun _ _ => none))) (fun _ _ => none))) (fun _ _ => none))) (fun _ _ => none))) (fun _ _ => none))) (fun _ _ => none))) (fun _ _ => none)) (fun e39 => some (e39, [x2v32, x3v33, x6v34, x7v35], h38)))) (List.getD r30.2.1 0 .junk) (List.getD r30.2.1 1 .junk) (List.getD r30.2.1 2 .junk) (List.getD r30.2.1 3 .junk) (List.getD r30.2.1 4 .junk) (List.getD r30.2.1 5 .junk) r30.2.2) (fun _ _ => none)).bind fun r69 => (fun x2v70 x3v71 x6v72 x7v73 h74 => Ex.inBlock 1 r69.1 ((abin .add x7v73 (.int .i64 1)).bind fun t76 => endR m .normal [x2v70, x3v71, x6v72, t76] h74) (fun e75 => endR m e75 [x2v70, x3v71, x6v72, x7v73] h74)) (List.getD r69.2.1 0 .junk) (List.getD r69.2.1 1 .junk) (List.getD r69.2.1 2 .junk) (List.getD r69.2.1 3 .junk) r69.2.2) (endR m (.exit 0) [x2v2, x3v3, x6v4, x7v5] h6)) (List.getD s.1 0 .junk) (List.getD s.1 1 .junk) (List.getD s.1 2 .junk) (List.getD s.1 3 .junk) s.2
noncomputable def m158 (K : CallO) (a0 a1 a2 : AVal) (h0 : Heap) : Option (Res × Heap) :=
  (bindVH (anew 5 h0 a0) fun t0 h1 => (lpW (m158_l1 K (List.length h1)) ([a2, t0, (.int .i64 0), a1], h1)).bind fun r77 => (fun x2v79 x3v80 x6v81 x7v82 h83 => Ex.thenDo r77.1 none (fun e78 => Ex.inBlock 0 e78 ((afieldAt 1 x3v80).bind fun t85 => (afieldAt 0 t85).bind fun t86 => (aload false 1 h83 t86).bind fun t87 => (abin .eql t87 (.int .i64 2)).bind fun t88 => (guardSel true t88 ((afieldAt 1 x3v80).bind fun t89 => kv0 t89 h83) (kv0 (.tuple []) h83)).bind (fin0 (fun t90 h91 => (guardSel true t88 ((afieldAt 1 t90).bind fun t92 => kv0 t92 h91) (kv0 (.tuple []) h91)).bind (fin0 (fun t93 h94 => (guardSel true t88 ((aload false 1 h94 t93).bind fun t95 => kv0 t95 h94) (kv0 (.tuple []) h94)).bind (fin0 (fun t96 h97 => (guardSel true t88 (kv0 x2v79 h97) (kv0 (.tuple []) h97)).bind (fin0 (fun t98 h99 => (guardSel true t88 ((abin .eql t96 t98).bind fun t100 => kv0 t100 h99) (kv0 (.tuple []) h99)).bind (fin0 (fun t101 h102 => (apick t88 t101 (.bool false)).bind fun t103 => acond t103 (some (.ret, [(.int .i64 1)], h102)) (some (.ret, [(.int .i64 0)], h102))) (fun _ _ => none))) (fun _ _ => none))) (fun _ _ => none))) (fun _ _ => none))) (fun _ _ => none))) (fun e84 => some (e84, [x6v81], h83)))) (List.getD r77.2.1 0 .junk) (List.getD r77.2.1 1 .junk) (List.getD r77.2.1 2 .junk) (List.getD r77.2.1 3 .junk) r77.2.2).bind fun r104 => (fun x6v105 h106 => Ex.endF r104.1 (finR (List.length h0) x6v105 h106)) (List.getD r104.2.1 0 .junk) r104.2.2
theorem m158_eq (K : CallO) (a0 a1 a2 : AVal) (h0 : Heap) : evB Tryd.prog ann lpW K 158 [a0, a1, a2] h0 = m158 (callP ann K) a0 a1 a2 h0 := by kernel_rfl

/- hauberk/hauberklaw21.few -/
noncomputable def m25_l0 (K : CallO) (m : Nat) (s : List AVal × Heap) : Option R :=
  (fun x1v2 x2v3 x3v4 x4v5 h6 => (afieldAt 2 x1v2).bind fun t7 => (aload false 1 h6 t7).bind fun t8 => (alenSl t8).bind fun t9 => (abin .lss x4v5 t9).bind fun t10 => (guardSel true t10 (kv0 x3v4 h6) (kv0 (.tuple []) h6)).bind (fin0 (fun t11 h12 => (guardSel true t10 ((abin .leq t11 (.int .i64 300)).bind fun t13 => kv0 t13 h12) (kv0 (.tuple []) h12)).bind (fin0 (fun t14 h15 => (apick t10 t14 (.bool false)).bind fun t16 => acond t16 ((abin .add x3v4 (.int .i64 1)).bind fun t17 => (afieldAt 2 x1v2).bind fun t18 => (aload false 1 h15 t18).bind fun t19 => (aindexSl 5 t19 x4v5).bind fun t20 => (afieldAt 0 t20).bind fun t21 => (aload false 1 h15 t21).bind fun t22 => (alenSl t22).bind fun t23 => (amin2 t23 (.int .i64 500)).bind fun t24 => (abin .add t17 t24).bind fun t25 => (abin .add x4v5 (.int .i64 1)).bind fun t26 => endR m .normal [x1v2, x2v3, t25, t26] h15) (endR m (.exit 0) [x1v2, x2v3, x3v4, x4v5] h15)) (fun _ _ => none))) (fun _ _ => none))) (List.getD s.1 0 .junk) (List.getD s.1 1 .junk) (List.getD s.1 2 .junk) (List.getD s.1 3 .junk) s.2
noncomputable def m25 (K : CallO) (a0 : AVal) (h0 : Heap) : Option (Res × Heap) :=
  (bindVH (anew 5 h0 a0) fun t0 h1 => (lpW (m25_l0 K (List.length h1)) ([t0, (.bool false), (.int .i64 0), (.int .i64 0)], h1)).bind fun r27 => (fun x1v29 x2v30 x3v31 x4v32 h33 => Ex.thenDo r27.1 none (fun e28 => Ex.inBlock 0 e28 ((abin .leq x3v31 (.int .i64 300)).bind fun t35 => (guardSel true t35 ((afieldAt 0 x1v29).bind fun t36 => kv0 t36 h33) (kv0 (.tuple []) h33)).bind (fin0 (fun t37 h38 => (guardSel true t35 ((aload false 1 h38 t37).bind fun t39 => kv0 t39 h38) (kv0 (.tuple []) h38)).bind (fin0 (fun t40 h41 => (guardSel true t35 ((abin .leq t40 (.int .i64 60)).bind fun t42 => kv0 t42 h41) (kv0 (.tuple []) h41)).bind (fin0 (fun t43 h44 => (apick t35 t43 (.bool false)).bind fun t45 => some (.ret, [t45], h44)) (fun _ _ => none))) (fun _ _ => none))) (fun _ _ => none))) (fun e34 => some (e34, [x2v30], h33)))) (List.getD r27.2.1 0 .junk) (List.getD r27.2.1 1 .junk) (List.getD r27.2.1 2 .junk) (List.getD r27.2.1 3 .junk) r27.2.2).bind fun r46 => (fun x2v47 h48 => Ex.endF r46.1 (finR (List.length h0) x2v47 h48)) (List.getD r46.2.1 0 .junk) r46.2.2
theorem m25_eq (K : CallO) (a0 : AVal) (h0 : Heap) : evB Tryd.prog ann lpW K 25 [a0] h0 = m25 (callP ann K) a0 h0 := by kernel_rfl

/- (hauberk/hauberklaw21.Lists).Same -/
noncomputable def m29_l0 (K : CallO) (m : Nat) (s : List AVal × Heap) : Option R :=
  (fun x0v17 x1v18 x4v19 x5v20 x6v21 h22 => (aindexSl 1 x0v17 x5v20).bind fun t23 => (aload false 1 h22 t23).bind fun t24 => (alenSl t24).bind fun t25 => (abin .lss x6v21 t25).bind fun t26 => acond t26 ((aindexSl 1 x0v17 x5v20).bind fun t27 => (aload false 1 h22 t27).bind fun t28 => (aindexSl 1 t28 x6v21).bind fun t29 => (aload false 1 h22 t29).bind fun t30 => (aindexSl 1 x1v18 x5v20).bind fun t31 => (aload false 1 h22 t31).bind fun t32 => (aindexSl 1 t32 x6v21).bind fun t33 => (aload false 1 h22 t33).bind fun t34 => (abin .neq t30 t34).bind fun t35 => acond t35 (endR m .ret [x0v17, x1v18, (.bool false), x5v20, x6v21] h22) ((abin .add x6v21 (.int .i64 1)).bind fun t36 => endR m .normal [x0v17, x1v18, x4v19, x5v20, t36] h22)) (endR m (.exit 2) [x0v17, x1v18, x4v19, x5v20, x6v21] h22)) (List.getD s.1 0 .junk) (List.getD s.1 1 .junk) (List.getD s.1 2 .junk) (List.getD s.1 3 .junk) (List.getD s.1 4 .junk) s.2
noncomputable def m29_l1 (K : CallO) (m : Nat) (s : List AVal × Heap) : Option R :=
  (fun x0v3 x1v4 x4v5 x5v6 h7 => (alenSl x0v3).bind fun t8 => (abin .lss x5v6 t8).bind fun t9 => acond t9 (((aindexSl 1 x0v3 x5v6).bind fun t10 => (aload false 1 h7 t10).bind fun t11 => (alenSl t11).bind fun t12 => (aindexSl 1 x1v4 x5v6).bind fun t13 => (aload false 1 h7 t13).bind fun t14 => (alenSl t14).bind fun t15 => (abin .neq t12 t15).bind fun t16 => acond t16 (some (.ret, [x0v3, x1v4, (.bool false), x5v6], h7)) ((lpW (m29_l0 K (List.length h7)) ([x0v3, x1v4, x4v5, x5v6, (.int .i64 0)], h7)).bind fun r37 => (fun x0v39 x1v40 x4v41 x5v42 x6v43 h44 => Ex.thenDo r37.1 none (fun e38 => Ex.inBlock 2 e38 (some (.normal, [x0v39, x1v40, x4v41, x5v42], h44)) (fun e45 => some (e45, [x0v39, x1v40, x4v41, x5v42], h44)))) (List.getD r37.2.1 0 .junk) (List.getD r37.2.1 1 .junk) (List.getD r37.2.1 2 .junk) (List.getD r37.2.1 3 .junk) (List.getD r37.2.1 4 .junk) r37.2.2)).bind fun r46 => (fun x0v47 x1v48 x4v49 x5v50 h51 => Ex.inBlock 1 r46.1 ((abin .add x5v50 (.int .i64 1)).bind fun t53 => endR m .normal [x0v47, x1v48, x4v49, t53] h51) (fun e52 => endR m e52 [x0v47, x1v48, x4v49, x5v50] h51)) (List.getD r46.2.1 0 .junk) (List.getD r46.2.1 1 .junk) (List.getD r46.2.1 2 .junk) (List.getD r46.2.1 3 .junk) r46.2.2) (endR m (.exit 0) [x0v3, x1v4, x4v5, x5v6] h7)) (List.getD s.1 0 .junk) (List.getD s.1 1 .junk) (List.getD s.1 2 .junk) (List.getD s.1 3 .junk) s.2
noncomputable def m29 (K : CallO) (a0 a1 : AVal) (h0 : Heap) : Option (Res × Heap) :=
  ((alenSl a0).bind fun t0 => (alenSl a1).bind fun t1 => (abin .neq t0 t1).bind fun t2 => acond t2 (some (.ret, [(.bool false)], h0)) ((lpW (m29_l1 K (List.length h0)) ([a0, a1, (.bool false), (.int .i64 0)], h0)).bind fun r54 => (fun x0v56 x1v57 x4v58 x5v59 h60 => Ex.thenDo r54.1 none (fun e55 => Ex.inBlock 0 e55 (some (.ret, [(.bool true)], h60)) (fun e61 => some (e61, [x4v58], h60)))) (List.getD r54.2.1 0 .junk) (List.getD r54.2.1 1 .junk) (List.getD r54.2.1 2 .junk) (List.getD r54.2.1 3 .junk) r54.2.2)).bind fun r62 => (fun x4v63 h64 => Ex.endF r62.1 (finR (List.length h0) x4v63 h64)) (List.getD r62.2.1 0 .junk) r62.2.2
theorem m29_eq (K : CallO) (a0 a1 : AVal) (h0 : Heap) : evB Tryd.prog ann lpW K 29 [a0, a1] h0 = m29 (callP ann K) a0 a1 h0 := by kernel_rfl

/- hauberk/hauberklaw21.LiveTells -/
noncomputable def m6 (K : CallO) (a0 : AVal) (h0 : Heap) : Option (Res × Heap) :=
  (bindVH (anew 5 h0 a0) fun t0 h1 => (aload true 5 h1 t0).bind fun t2 => bindRes (K 25 [(AVal.untok t2)] h1) (fun t3 h4 => (aun .not t3).bind fun t5 => acond t5 (bindRes (K 26 [] h4) (fun t6 h7 => some (.ret, [t6], h7)) (fun _ _ => none)) ((aload true 5 h4 t0).bind fun t8 => bindRes (K 27 [(AVal.untok t8)] h4) (fun t9 h10 => (aextract 0 t9).bind fun t11 => (aextract 1 t9).bind fun t12 => (aextract 2 t9).bind fun t13 => (aload true 5 h10 t0).bind fun t14 => bindRes (K 28 [(AVal.untok t14)] h10) (fun t15 h16 => (aextract 0 t15).bind fun t17 => (aextract 1 t15).bind fun t18 => (aextract 2 t15).bind fun t19 => bindRes (K 29 [(AVal.untok t11), (AVal.untok t17)] h16) (fun t20 h21 => (guardSel true t20 (kv0 t12 h21) (kv0 (.tuple []) h21)).bind (fin0 (fun t22 h23 => (guardSel true t20 (kv0 t18 h23) (kv0 (.tuple []) h23)).bind (fin0 (fun t24 h25 => (guardSel true t20 (bindRes (K 29 [(AVal.untok t22), (AVal.untok t24)] h25) (fun t26 h27 => kv0 t26 h27) kp0) (kv0 (.tuple []) h25)).bind (fin0 (fun t28 h29 => (apick t20 t28 (.bool false)).bind fun t30 => (guardSel true t30 (kv0 t13 h29) (kv0 (.tuple []) h29)).bind (fin0 (fun t31 h32 => (guardSel true t30 (kv0 t19 h32) (kv0 (.tuple []) h32)).bind (fin0 (fun t33 h34 => (guardSel true t30 ((abin .eql t31 t33).bind fun t35 => kv0 t35 h34) (kv0 (.tuple []) h34)).bind (fin0 (fun t36 h37 => (apick t30 t36 (.bool false)).bind fun t38 => (guardSel true t38 (bindRes (K 26 [] h37) (fun t39 h40 => kv0 t39 h40) kp0) (kv0 (.tuple []) h37)).bind (fin0 (fun t41 h42 => (apick t38 t41 (.bool false)).bind fun t43 => some (.ret, [t43], h42)) (fun _ _ => none))) (fun _ _ => none))) (fun _ _ => none))) (fun _ _ => none))) (fun _ _ => none))) (fun _ _ => none))) (fun _ _ => none))) (fun _ _ => none)) (fun _ _ => none)) (fun _ _ => none))) (fun _ _ => none)).bind fun r44 => (fun x2v45 h46 => Ex.endF r44.1 (finR (List.length h0) x2v45 h46)) (List.getD r44.2.1 0 .junk) r44.2.2
theorem m6_eq (K : CallO) (a0 : AVal) (h0 : Heap) : evB Tryd.prog ann lpW K 6 [a0] h0 = m6 (callP ann K) a0 h0 := by kernel_rfl

end Go.Proofs.YtkeoalhglkfbkaaDoor

/-
  Programs of blocks that are not too great. No conditions.
-/
namespace Go.Proofs.YtkeoalhglkfbkaaDoor
open Go Hk

theorem wrapS {a : Nat} (h : a ≤ 9223372036854775806) : IntKind.wrap .i64 ((a : Int) + 1) = (a : Int) + 1 := by rw [wrap64] <;> omega

def opsS : List Blk → Int
  | [] => 0
  | b :: r => (b.ops.length : Int) + opsS r
theorem opsS_nn : ∀ l, 0 ≤ opsS l
  | [] => Int.le_refl _
  | b :: r => by have := opsS_nn r; simp only [opsS]; omega
def railS (x : Arr) : Int := if shapedS x = true ∧ x.kind = 0 then upS (x.elem * x.len) else 0
theorem shaped_mul {x : Arr} (h : shapedS x = true) : 1 ≤ x.elem * x.len ∧ x.elem * x.len ≤ 65536 := by
  simp only [shapedS, Bool.and_eq_true, Bool.or_eq_true, decide_eq_true_eq] at h
  obtain ⟨h1, h2, h3⟩ := h
  rcases h1 with h1 | h1 <;> rw [h1] <;> omega
theorem rail_le (x : Arr) : 0 ≤ railS x ∧ railS x ≤ 65536 := by
  unfold railS
  split
  · rename_i h
    have := shaped_mul h.1
    unfold upS; omega
  · omega
def railsS : List Arr → Int
  | [] => 0
  | x :: r => railS x + railsS r
theorem railsS_nn : ∀ l, 0 ≤ railsS l
  | [] => Int.le_refl _
  | x :: r => by have := railsS_nn r; have := rail_le x; simp only [railsS]; omega
/-- Is a program not too great? -/
def limitedS (p : IR) : Bool := decide (p.temps ≤ 1048576) && decide ((p.arrays.length : Int) ≤ 1048576) && decide ((p.blocks.length : Int) ≤ 1048576) && decide (opsS p.blocks ≤ 1048576) && decide (max p.out 0 + railsS p.arrays ≤ 65536)

theorem m67_loop0 (B : List Blk) (hB : B.length ≤ 1048576) (P : List AVal) (by_ : Int) (hh : ∀ C, trunc 1 (.cells P :: C) = some [.cells P]) : ∀ (n i : Nat) (acc : Int), B.length < i + n → i ≤ B.length → 0 ≤ acc → acc ≤ 1048576 →
    ∃ (e : Ex) (acc' : Int) (j : Int), lpW (m67_l0 KK 1) ([.ptr 0 0, .bool false, .int .i64 acc, .int .i64 by_, .slice (B.map Blk.cells) .no, .int .i64 (B.length : Int), .int .i64 (i : Int)], [.cells P]) =
      some (e, [.ptr 0 0, .bool false, .int .i64 acc', .int .i64 by_, .slice (B.map Blk.cells) .no, .int .i64 (B.length : Int), .int .i64 j], [.cells P]) ∧
      (e = .ret ∧ ¬ acc + opsS (B.drop i) ≤ 1048576 ∨ e = .exit 0 ∧ acc + opsS (B.drop i) ≤ 1048576) := by
  have q0 : ∀ h, AVal.san1 1 h (.ptr 0 0) = .ptr 0 0 := fun h => san1_ptr (by omega)
  intro n
  induction n with
  | zero => intro i acc a1 a2; omega
  | succ n ih =>
    intro i acc a1 a2 h1 h2
    rw [lpW_step]
    by_cases hi : i < B.length
    · have hi' : (i : Int) < B.length := by omega
      have hx : B[i]? = some B[i] := List.getElem?_eq_getElem hi
      have w1 := wrapS (a := i) (by omega)
      rw [List.drop_eq_getElem_cons hi]
      generalize B[i] = y at *
      have w2 : IntKind.i64.wrap (1048576 - acc) = 1048576 - acc := by rw [wrap64] <;> omega
      have hnn := opsS_nn (B.drop (i + 1))
      by_cases hg : 1048576 - acc < (y.ops.length : Int)
      · refine ⟨.ret, acc, i, ?_, .inl ⟨rfl, by simp only [opsS]; omega⟩⟩
        simp [m67_l0, hi', hx, Blk.cells, w2, hg, endR, hh, q0]
      · have w3 : IntKind.i64.wrap (acc + (y.ops.length : Int)) = acc + (y.ops.length : Int) := by rw [wrap64] <;> omega
        obtain ⟨e, acc', j, g1, g2⟩ := ih (i + 1) (acc + y.ops.length) (by omega) hi (by omega) (by omega)
        refine ⟨e, acc', j, ?_, ?_⟩
        · simp only [Int.natCast_add, Int.cast_ofNat_Int] at g1
          rw [← g1]
          simp [m67_l0, hi', hx, Blk.cells, w1, w2, w3, hg, endR, hh, q0]
        · simpa [opsS, Int.add_assoc] using g2
    · have hi' : ¬ (i : Int) < B.length := by omega
      have : B.drop i = [] := List.drop_eq_nil_of_le (by omega)
      rw [this]
      refine ⟨.exit 0, acc, i, ?_, .inr ⟨rfl, by simp only [opsS]; omega⟩⟩
      simp [m67_l0, hi', endR, hh, q0]

theorem m67_loop1 (A : List Arr) (hA : A.length ≤ 1048576) (P : List AVal) (hh : ∀ C, trunc 1 (.cells P :: C) = some [.cells P]) : ∀ (n i : Nat) (acc : Int), A.length < i + n → i ≤ A.length → 0 ≤ acc → acc ≤ 65537 →
    ∃ (e : Ex) (acc' : Int) (j : Int), lpW (m67_l1 KK 1) ([.bool false, .int .i64 acc, .slice (A.map Arr.cells) .no, .int .i64 (A.length : Int), .int .i64 (i : Int)], [.cells P]) =
      some (e, [.bool false, .int .i64 acc', .slice (A.map Arr.cells) .no, .int .i64 (A.length : Int), .int .i64 j], [.cells P]) ∧
      (e = .ret ∧ ¬ acc + railsS (A.drop i) ≤ 65536 ∨ e = .exit 2 ∧ acc' = acc + railsS (A.drop i)) := by
  intro n
  induction n with
  | zero => intro i acc a1 a2; omega
  | succ n ih =>
    intro i acc a1 a2 h1 h2
    rw [lpW_step]
    by_cases hi : i < A.length
    · have hi' : (i : Int) < A.length := by omega
      have hx : A[i]? = some A[i] := List.getElem?_eq_getElem hi
      have w1 := wrapS (a := i) (by omega)
      rw [List.drop_eq_getElem_cons hi]
      generalize A[i] = y at *
      have hnn := railsS_nn (A.drop (i + 1))
      have hr := rail_le y
      have h132 := c132 y
      have step : ∃ acc1, acc1 = acc + railS y ∧ (¬ acc1 ≤ 65536 → m67_l1 KK 1 ([.bool false, .int .i64 acc, .slice (A.map Arr.cells) .no, .int .i64 (A.length : Int), .int .i64 (i : Int)], [.cells P]) = some (.ret, [.bool false, .int .i64 acc1, .slice (A.map Arr.cells) .no, .int .i64 (A.length : Int), .int .i64 (i : Int)], [.cells P])) ∧
          (acc1 ≤ 65536 → m67_l1 KK 1 ([.bool false, .int .i64 acc, .slice (A.map Arr.cells) .no, .int .i64 (A.length : Int), .int .i64 (i : Int)], [.cells P]) = some (.normal, [.bool false, .int .i64 acc1, .slice (A.map Arr.cells) .no, .int .i64 (A.length : Int), .int .i64 ((i : Int) + 1)], [.cells P])) := by
        refine ⟨_, rfl, ?_, ?_⟩ <;> intro hle <;> cases hs : shapedS y
        · have e0 : railS y = 0 := by simp [railS, hs]
          rw [e0, Int.add_zero] at hle ⊢
          have hg : 65536 < acc := by omega
          simp only [hs, Arr.cells] at h132
          simp [m67_l1, hi', hx, Arr.cells, h132, hg, endR, hh]
        · have hm := shaped_mul hs
          simp only [hs, Arr.cells] at h132
          by_cases hk : y.kind = 0
          · have e0 : railS y = upS (y.elem * y.len) := by simp [railS, hs, hk]
            rw [hk] at h132
            have h133 := c133 (y.elem * y.len) (by omega) (by omega)
            have hu : 0 ≤ upS (y.elem * y.len) ∧ upS (y.elem * y.len) ≤ 65536 := by rw [← e0]; exact hr
            have w2 : IntKind.i64.wrap (y.elem * y.len) = y.elem * y.len := by rw [wrap64] <;> omega
            rw [e0] at hle ⊢
            generalize upS (y.elem * y.len) = u at *
            have w3 : IntKind.i64.wrap (acc + u) = acc + u := by rw [wrap64] <;> omega
            have hg : 65536 < acc + u := by omega
            simp [m67_l1, hi', hx, Arr.cells, h132, h133, hk, w2, w3, hg, endR, hh]
          · have e0 : railS y = 0 := by simp [railS, hk]
            rw [e0, Int.add_zero] at hle ⊢
            have hg : 65536 < acc := by omega
            simp [m67_l1, hi', hx, Arr.cells, h132, hk, hg, endR, hh]
        · have e0 : railS y = 0 := by simp [railS, hs]
          rw [e0, Int.add_zero] at hle ⊢
          have hg : ¬ 65536 < acc := by omega
          simp only [hs, Arr.cells] at h132
          simp [m67_l1, hi', hx, Arr.cells, h132, hg, endR, hh, w1]
        · have hm := shaped_mul hs
          simp only [hs, Arr.cells] at h132
          by_cases hk : y.kind = 0
          · have e0 : railS y = upS (y.elem * y.len) := by simp [railS, hs, hk]
            rw [hk] at h132
            have h133 := c133 (y.elem * y.len) (by omega) (by omega)
            have hu : 0 ≤ upS (y.elem * y.len) ∧ upS (y.elem * y.len) ≤ 65536 := by rw [← e0]; exact hr
            have w2 : IntKind.i64.wrap (y.elem * y.len) = y.elem * y.len := by rw [wrap64] <;> omega
            rw [e0] at hle ⊢
            generalize upS (y.elem * y.len) = u at *
            have w3 : IntKind.i64.wrap (acc + u) = acc + u := by rw [wrap64] <;> omega
            have hg : ¬ 65536 < acc + u := by omega
            simp [m67_l1, hi', hx, Arr.cells, h132, h133, hk, w2, w3, hg, endR, hh, w1]
          · have e0 : railS y = 0 := by simp [railS, hk]
            rw [e0, Int.add_zero] at hle ⊢
            have hg : ¬ 65536 < acc := by omega
            simp [m67_l1, hi', hx, Arr.cells, h132, hk, hg, endR, hh, w1]
      obtain ⟨acc1, ha, s1, s2⟩ := step
      by_cases hg : acc1 ≤ 65536
      · obtain ⟨e, acc', j, g1, g2⟩ := ih (i + 1) acc1 (by omega) hi (by omega) (by omega)
        refine ⟨e, acc', j, ?_, ?_⟩
        · simp only [Int.natCast_add, Int.cast_ofNat_Int] at g1
          rw [s2 hg, ← g1]
          rfl
        · rw [ha] at g2
          simpa [railsS, Int.add_assoc] using g2
      · refine ⟨.ret, acc1, i, ?_, .inl ⟨rfl, by simp only [railsS]; omega⟩⟩
        rw [s1 hg]
        rfl
    · have hi' : ¬ (i : Int) < A.length := by omega
      have : A.drop i = [] := List.drop_eq_nil_of_le (by omega)
      rw [this]
      refine ⟨.exit 2, acc, i, ?_, .inr ⟨rfl, by simp [railsS]⟩⟩
      simp [m67_l1, hi', endR, hh]

theorem c67 (p : IR) (h : Heap) : KK 67 [.agg p.cells] h = some (.ret (.bool (limitedS p)), h) := by
  refine callP_pure rfl rfl (evW_by (m67_eq _ _ _) ?_)
  by_cases h1 : p.temps ≤ 1048576
  · have h1' : ¬ 1048576 < p.temps := by omega
    by_cases h2 : (p.arrays.length : Int) ≤ 1048576
    · have h2' : ¬ 1048576 < (p.arrays.length : Int) := by omega
      by_cases h3 : (p.blocks.length : Int) ≤ 1048576
      · have h3' : ¬ 1048576 < (p.blocks.length : Int) := by omega
        have hh : ∀ C, trunc 1 (.cells p.cells :: C) = some [.cells p.cells] := fun C => by simp [trunc, IR.cells]
        obtain ⟨e, acc', j, g1, g2⟩ := m67_loop0 p.blocks (by omega) p.cells (min (max p.out 0) 65537) hh (p.blocks.length + 1) 0 0 (by omega) (Nat.zero_le _) (by omega) (by omega)
        obtain ⟨e', acc'', j', g3, g4⟩ := m67_loop1 p.arrays (by omega) p.cells hh (p.arrays.length + 1) 0 (min (max p.out 0) 65537) (by omega) (Nat.zero_le _) (by omega) (by omega)
        have hr := railsS_nn p.arrays
        simp only [List.drop_zero, Int.zero_add, Int.cast_ofNat_Int, IR.cells] at g1 g2 g3 g4
        rcases g2 with ⟨rfl, g2⟩ | ⟨rfl, g2⟩
        · have hl : limitedS p = false := by simp [limitedS, g2]
          rw [hl]
          simp [m67, IR.cells, h1', h2', h3', g1, finR_zero]
        · rcases g4 with ⟨rfl, g4⟩ | ⟨rfl, g4⟩
          · have hl : limitedS p = false := by
              simp only [limitedS, Bool.and_eq_false_iff, decide_eq_false_iff_not]
              right; omega
            rw [hl]
            simp [m67, IR.cells, h1', h2', h3', g1, g3, finR_zero]
          · have hl : limitedS p = decide (acc'' ≤ 65536) := by
              have : (max p.out 0 + railsS p.arrays ≤ 65536) ↔ acc'' ≤ 65536 := by omega
              simp [limitedS, h1, h2, h3, g2, this]
            rw [hl]
            simp [m67, IR.cells, h1', h2', h3', g1, g3, finR_zero]
      · have h3' : 1048576 < (p.blocks.length : Int) := by omega
        have hl : limitedS p = false := by simp [limitedS, h3]
        rw [hl]
        simp [m67, IR.cells, h1', h2', h3', finR_zero]
    · have h2' : 1048576 < (p.arrays.length : Int) := by omega
      have hl : limitedS p = false := by simp [limitedS, h2]
      rw [hl]
      simp [m67, IR.cells, h1', h2', finR_zero]
  · have h1' : 1048576 < p.temps := by omega
    have hl : limitedS p = false := by simp [limitedS, h1]
    rw [hl]
    simp [m67, IR.cells, h1', finR_zero]
end Go.Proofs.YtkeoalhglkfbkaaDoor

/-
  A heap with one object in it: what lies ahead of it, itself, and what lies behind. No conditions.
-/
namespace Go.Proofs.YtkeoalhglkfbkaaDoor
open Go Hk

/-- Blocks that stay when what lies from n on is dropped. -/
def KBn (n : Nat) (C : List ABlk) : Prop := ∀ m h, n ≤ m → sanBlks m h C = some C
def CBn (n : Nat) (cs : List AVal) : Prop := ∀ m h, n ≤ m → sanCells m h cs = some cs
section
variable {n : Nat}
theorem KBn.mono {k : Nat} {C : List ABlk} (h : KBn n C) (hk : n ≤ k) : KBn k C := fun m x hm => h m x (Nat.le_trans hk hm)
theorem sanBlks_app {m : Nat} {h : Heap} : ∀ {B C : List ABlk}, sanBlks m h B = some B → sanBlks m h C = some C → sanBlks m h (B ++ C) = some (B ++ C)
  | [], _, _, h2 => h2
  | b :: r, C, h1, h2 => by
    simp only [sanBlks] at h1
    split at h1
    · rename_i b' r' e1 e2
      simp only [Option.some.injEq, List.cons.injEq] at h1
      obtain ⟨rfl, rfl⟩ := h1
      simp only [List.cons_append, sanBlks, e1, sanBlks_app e2 h2]
    · cases h1
theorem KBn_app {B C : List ABlk} (h1 : KBn n B) (h2 : KBn n C) : KBn n (B ++ C) := fun m h hm => sanBlks_app (h1 m h hm) (h2 m h hm)
theorem KBn_nil : KBn n [] := fun _ _ _ => rfl
theorem KBn_front {i j : Nat} {C : List ABlk} (h : KBn n C) : KBn n (.front i j :: C) := fun m x hm => by simp [h m x hm]
theorem KBn_cells {cs : List AVal} {C : List ABlk} (h1 : CBn n cs) (h : KBn n C) : KBn n (.cells cs :: C) := fun m x hm => by simp [h m x hm, h1 m x hm]
theorem CBn_nil : CBn n [] := fun _ _ _ => rfl
theorem CBn_int {k : IntKind} {z : Int} {cs : List AVal} (h : CBn n cs) : CBn n (.int k z :: cs) := fun m x hm => by simp [h m x hm]
theorem CBn_slice {rows : List (List AVal)} {cs : List AVal} (h : CBn n cs) : CBn n (.slice rows .no :: cs) := fun m x hm => by simp [h m x hm]
end

section
variable {n : Nat}
theorem KBn_front_iff {i j : Nat} {C : List ABlk} : KBn n (.front i j :: C) ↔ KBn n C := ⟨fun h m x hm => by
  have := h m x hm
  simp only [sanBlks_cons, sanBlk_front, Option.bind_some, Option.map_eq_some_iff] at this
  obtain ⟨r, h1, h2⟩ := this
  cases h2; exact h1, KBn_front⟩
theorem KBn_gone_iff {C : List ABlk} : KBn n (.gone :: C) ↔ KBn n C := ⟨fun h m x hm => by
  have := h m x hm
  have e : sanBlk m x .gone = some .gone := rfl
  simp only [sanBlks_cons, e, Option.bind_some, Option.map_eq_some_iff] at this
  obtain ⟨r, h1, h2⟩ := this
  cases h2; exact h1, fun h m x hm => by
  have e : sanBlk m x .gone = some .gone := rfl
  simp only [sanBlks_cons, e, Option.bind_some, h m x hm, Option.map_some]⟩
theorem KBn_cells_iff {cs : List AVal} {C : List ABlk} : KBn n (.cells cs :: C) ↔ CBn n cs ∧ KBn n C := ⟨fun h => by
  have key : ∀ m x, n ≤ m → sanCells m x cs = some cs ∧ sanBlks m x C = some C := fun m x hm => by
    have := h m x hm
    simp only [sanBlks_cons, sanBlk_cells, Option.bind_eq_some_iff, Option.map_eq_some_iff] at this
    obtain ⟨b, ⟨c, h1, h2⟩, r, h3, h4⟩ := this
    cases h2; cases h4; exact ⟨h1, h3⟩
  exact ⟨fun m x hm => (key m x hm).1, fun m x hm => (key m x hm).2⟩, fun h => KBn_cells h.1 h.2⟩
theorem CBn_any {v : AVal} {cs : List AVal} (hv : ∀ m x, n ≤ m → v.san1 m x = v) (hc : v.cellOk = true) : CBn n (v :: cs) ↔ CBn n cs := by
  constructor
  · intro h m x hm
    have := h m x hm
    simp only [sanCells_cons, hv m x hm, hc, cond_true, Option.map_eq_some_iff] at this
    obtain ⟨r, h1, h2⟩ := this
    cases h2; exact h1
  · intro h m x hm
    simp only [sanCells_cons, hv m x hm, hc, cond_true, h m x hm, Option.map_some]
theorem CBn_int_iff {k : IntKind} {z : Int} {cs : List AVal} : CBn n (.int k z :: cs) ↔ CBn n cs := CBn_any (fun _ _ _ => rfl) rfl
theorem CBn_str_iff {z : List UInt8} {cs : List AVal} : CBn n (.str z :: cs) ↔ CBn n cs := CBn_any (fun _ _ _ => rfl) rfl
theorem CBn_bool_iff {z : Bool} {cs : List AVal} : CBn n (.bool z :: cs) ↔ CBn n cs := CBn_any (fun _ _ _ => rfl) rfl
theorem CBn_slice_iff {rows : List (List AVal)} {cs : List AVal} : CBn n (.slice rows .no :: cs) ↔ CBn n cs := CBn_any (fun _ _ _ => rfl) rfl
theorem CBn_own_iff {rows : List (List AVal)} {id : Nat} {cs : List AVal} : CBn n (.slice rows (.own id) :: cs) ↔ id < n ∧ CBn n cs := by
  have key : ∀ hi : id < n, CBn n (.slice rows (.own id) :: cs) ↔ CBn n cs := fun hi => CBn_any (fun m x hm => by
    have : id < m := by omega
    simp [this]) rfl
  constructor
  · intro h
    have hi : id < n := by
      have := h n [] (Nat.le_refl _)
      by_cases hi : id < n
      · exact hi
      · exfalso
        simp only [sanCells_cons, san1_own, decide_eq_false hi, cond_false, cellOk_slice, cond_true, Option.map_eq_some_iff] at this
        obtain ⟨r, h1, h2⟩ := this
        cases h2
    exact ⟨hi, (key hi).1 h⟩
  · rintro ⟨hi, h⟩
    exact (key hi).2 h
theorem CBn_ptr_iff {id o : Nat} {cs : List AVal} : CBn n (.ptr id o :: cs) ↔ id < n ∧ CBn n cs := by
  have key : ∀ hi : id < n, CBn n (.ptr id o :: cs) ↔ CBn n cs := fun hi => CBn_any (fun m x hm => by
    have : id < m := by omega
    simp [san1_ptr this]) rfl
  constructor
  · intro h
    have hi : id < n := by
      have := h n [] (Nat.le_refl _)
      by_cases hi : id < n
      · exact hi
      · exfalso
        have e : (AVal.ptr id o).san1 n [] = .junk := by simp [AVal.san1, hi]
        simp [sanCells_cons, e, AVal.cellOk] at this
    exact ⟨hi, (key hi).1 h⟩
  · rintro ⟨hi, h⟩
    exact (key hi).2 h
end

/-- The heap: the object X has the place A.length. -/
def OQ (A : List ABlk) (X : ABlk) (B : List ABlk) : Heap := A ++ X :: B
/-- The object holds nothing that may go. -/
def XOk (X : ABlk) : Prop := ∀ m h, sanBlk m h X = some X
/-- Where what comes next lies. -/
def HN (A B : List ABlk) : Nat := A.length + 1 + B.length
structure KB (A B : List ABlk) : Prop where
  a : ∀ n, HN A B ≤ n → KBn n A
  b : ∀ n, HN A B ≤ n → KBn n B

section
variable {A B C : List ABlk} {X Y Z : ABlk} {k : Nat}

theorem HN_app : HN A (B ++ C) = HN A B + C.length := by simp [HN]; omega
theorem KB.app (h : KB A B) (hC : KBn (HN A B + C.length) C) : KB A (B ++ C) := by
  refine ⟨fun n hn => ?_, fun n hn => ?_⟩
  · rw [HN_app] at hn
    exact (h.a (HN A B) (Nat.le_refl _)).mono (by omega)
  · rw [HN_app] at hn
    exact KBn_app ((h.b (HN A B) (Nat.le_refl _)).mono (by omega)) (hC.mono hn)
theorem OQ_app : OQ A X B ++ C = OQ A X (B ++ C) := by simp [OQ]
theorem OQ_len : (OQ A X B).length = HN A B := by simp [OQ, HN]; omega
theorem OQ_p {cs : List AVal} : getBlk (OQ A (.cells cs) B) A.length = some cs := by simp [OQ, getBlk]
theorem OQ_put : List.set (OQ A X B) A.length Y = OQ A Y B := by
  unfold OQ; rw [List.set_append_right _ _ (Nat.le_refl _), Nat.sub_self]; rfl
theorem OQ_at : (OQ A X (B ++ C))[HN A B + k]? = C[k]? := by
  unfold OQ HN
  rw [List.getElem?_append_right (by omega), show A.length + 1 + B.length + k - A.length = B.length + k + 1 by omega, List.getElem?_cons_succ, List.getElem?_append_right (by omega), show B.length + k - B.length = k by omega]
theorem OQ_at0 : (OQ A X (B ++ C))[HN A B]? = C[0]? := OQ_at (k := 0)
theorem OQ_get : getBlk (OQ A X (B ++ C)) (HN A B + k) = getBlk C k := by unfold getBlk; rw [OQ_at]
theorem OQ_get0 : getBlk (OQ A X (B ++ C)) (HN A B) = getBlk C 0 := OQ_get (k := 0)
theorem OQ_fresh : isFresh (OQ A X (B ++ C)) (HN A B + k) = isFresh C k := by unfold isFresh; rw [OQ_at]
theorem OQ_fresh0 : isFresh (OQ A X (B ++ C)) (HN A B) = isFresh C 0 := OQ_fresh (k := 0)
theorem OQ_set {x : ABlk} : List.set (OQ A X (B ++ C)) (HN A B + k) x = OQ A X (B ++ C.set k x) := by
  unfold OQ HN
  rw [List.set_append_right _ _ (by omega), show A.length + 1 + B.length + k - A.length = B.length + k + 1 by omega, List.set_cons_succ, List.set_append_right _ _ (by omega), show B.length + k - B.length = k by omega]
theorem OQ_set0 {x : ABlk} : List.set (OQ A X (B ++ C)) (HN A B) x = OQ A X (B ++ C.set 0 x) := OQ_set (k := 0)
theorem OQ_hide {cs : List AVal} : hide1 (OQ A (.cells cs) B) A.length = OQ A .gone B := by
  unfold hide1
  have : (OQ A (.cells cs) B)[A.length]? = some (.cells cs) := by unfold OQ; rw [List.getElem?_append_right (Nat.le_refl _), Nat.sub_self]; rfl
  rw [this]; exact OQ_put
theorem OQ_hideG : hide1 (OQ A .gone B) A.length = OQ A .gone B := by
  unfold hide1
  have : (OQ A .gone B)[A.length]? = some .gone := by unfold OQ; rw [List.getElem?_append_right (Nat.le_refl _), Nat.sub_self]; rfl
  rw [this]
theorem OQ_unhide {cs : List AVal} : unhide1 (OQ A (.cells cs) B) (OQ A Y C) A.length = OQ A (.cells cs) C := by
  unfold unhide1
  have : (OQ A (.cells cs) B)[A.length]? = some (.cells cs) := by unfold OQ; rw [List.getElem?_append_right (Nat.le_refl _), Nat.sub_self]; rfl
  rw [this]; exact OQ_put
theorem hide1_cells {cs : List AVal} {C : List ABlk} : hide1 (.cells cs :: C) 0 = .gone :: C := (rfl)
theorem hide1_gone {C : List ABlk} : hide1 (.gone :: C) 0 = .gone :: C := (rfl)
theorem hide1_succ {b : ABlk} {C : List ABlk} {k : Nat} : hide1 (b :: C) (k + 1) = b :: hide1 C k := by
  unfold hide1
  simp only [List.getElem?_cons_succ]
  cases C[k]? with
  | none => rfl
  | some b => cases b <;> rfl
theorem unhide1_cells {cs : List AVal} {b : ABlk} {C C' : List ABlk} : unhide1 (.cells cs :: C) (b :: C') 0 = .cells cs :: C' := (rfl)
theorem unhide1_succ {b b' : ABlk} {C C' : List ABlk} {k : Nat} : unhide1 (b :: C) (b' :: C') (k + 1) = b' :: unhide1 C C' k := by
  unfold unhide1
  simp only [List.getElem?_cons_succ]
  cases C[k]? with
  | none => rfl
  | some b => cases b <;> rfl
theorem hide_nil {h : Heap} : hide [] h = h := (rfl)
theorem hide_cons {h : Heap} {i : Nat} {ids : List Nat} : hide (i :: ids) h = hide ids (hide1 h i) := (rfl)
theorem unhide_nil {h h' : Heap} : unhide [] h h' = h' := (rfl)
theorem unhide_cons {h h' : Heap} {i : Nat} {ids : List Nat} : unhide (i :: ids) h h' = unhide ids h (unhide1 h h' i) := (rfl)
theorem addrId_ptr {i o : Nat} : addrId (.ptr i o) = some i := (rfl)
theorem addrId_pptr {cs : List AVal} : addrId (.pptr cs) = none := (rfl)
theorem OQ_trunc (h : KB A B) (hX : XOk X) : trunc (HN A B) (OQ A X (B ++ C)) = some (OQ A X B) := by
  have e : OQ A X (B ++ C) = OQ A X B ++ C := OQ_app.symm
  unfold Hk.trunc
  rw [e, ← OQ_len (X := X), List.take_left, OQ_len]
  exact sanBlks_app (h.a _ (Nat.le_refl _) _ _ (Nat.le_refl _)) (by
    have := hX (HN A B) (OQ A X B ++ C)
    simp only [sanBlks, this, h.b _ (Nat.le_refl _) _ _ (Nat.le_refl _)])
theorem OQ_trunc0 (h : KB A B) (hX : XOk X) : trunc (HN A B) (OQ A X B) = some (OQ A X B) := by
  have := OQ_trunc (C := []) h hX
  rwa [List.append_nil] at this
theorem OQ_finR {v : AVal} (h : KB A B) (hX : XOk X) : finR (HN A B) v (OQ A X (B ++ C)) = some (.ret (v.san (HN A B) (OQ A X (B ++ C))).untok, OQ A X B) := by simp [finR, OQ_trunc h hX]
theorem OQ_finR0 {v : AVal} (h : KB A B) (hX : XOk X) : finR (HN A B) v (OQ A X B) = some (.ret (v.san (HN A B) (OQ A X B)).untok, OQ A X B) := by simp [finR, OQ_trunc0 h hX]
theorem OQ_truncK (h : KB A (B ++ C.take k)) (hX : XOk X) (hk : k ≤ C.length) : trunc (HN A B + k) (OQ A X (B ++ C)) = some (OQ A X (B ++ C.take k)) := by
  have := OQ_trunc (X := X) (C := C.drop k) h hX
  rw [HN_app, List.append_assoc, List.take_append_drop, List.length_take, Nat.min_eq_left hk] at this
  exact this
theorem A_lt : A.length < HN A B + k := by simp [HN]; omega
theorem A_lt0 : A.length < HN A B := A_lt (k := 0)
attribute [simp] OQ_app OQ_len OQ_p OQ_put OQ_at OQ_at0 OQ_get OQ_get0 OQ_fresh OQ_fresh0 OQ_set OQ_set0 OQ_hide OQ_hideG OQ_unhide OQ_finR OQ_finR0 HN_app
attribute [simp] hide1_cells hide1_gone hide1_succ unhide1_cells unhide1_succ hide_nil hide_cons unhide_nil unhide_cons addrId_ptr addrId_pptr lockIds
attribute [simp] KB.app KBn_nil KBn_front_iff KBn_gone_iff KBn_cells_iff CBn_nil CBn_int_iff CBn_str_iff CBn_bool_iff CBn_slice_iff CBn_own_iff CBn_ptr_iff
end
end Go.Proofs.YtkeoalhglkfbkaaDoor

/-
  The checker's methods on temps, labels, arrays and ends. No conditions.
-/
namespace Go.Proofs.YtkeoalhglkfbkaaDoor
open Go Hk

/-- The checker. -/
def ck (p : IR) (e : Int) : ABlk := .cells [.int .i64 p.temps, .slice (p.arrays.map Arr.cells) .no, .slice (p.blocks.map Blk.cells) .no, .int .i64 p.inn, .int .i64 p.out, .int .i64 e]
theorem ck_ok {p : IR} {e : Int} : XOk (ck p e) := fun _ _ => rfl
/-- Bounds that 'Check' looks at first. -/
structure Lim (p : IR) : Prop where
  t0 : 0 ≤ p.temps
  t1 : p.temps ≤ 1048576
  a1 : (p.arrays.length : Int) ≤ 1048576
  b1 : (p.blocks.length : Int) ≤ 1048576
  i0 : 0 ≤ p.inn
  i1 : p.inn ≤ 65536
  o0 : 0 ≤ p.out
  o1 : p.out ≤ 65536

section
variable {p : IR} (hp : Lim p) {A B : List ABlk} {e : Int} (hB : KB A B)
include hp hB
theorem c135 (t : Int) : KK 135 [.ptr A.length 0, .int .i64 t] (OQ A (ck p e) B) = some (.ret (.bool (between t 0 (p.temps - 1))), OQ A (ck p e) B) := by
  refine evW_by (m135_eq _ _ _ _) ?_
  have h0 := hp.t0
  have h1 := hp.t1
  have w1 : IntKind.i64.wrap (p.temps - 1) = p.temps - 1 := by rw [wrap64] <;> omega
  have hX := ck_ok (p := p) (e := e)
  simp only [ck] at hX ⊢
  simp -implicitDefEqProofs [m135, hB, hX, w1, c68]
theorem c136 (t : Int) : KK 136 [.ptr A.length 0, .int .i64 t] (OQ A (ck p e) B) = some (.ret (.bool (between t (-1) ((p.blocks.length : Int) - 1))), OQ A (ck p e) B) := by
  refine evW_by (m136_eq _ _ _ _) ?_
  have h1 := hp.b1
  have w1 : IntKind.i64.wrap ((p.blocks.length : Int) - 1) = (p.blocks.length : Int) - 1 := by rw [wrap64] <;> omega
  have hX := ck_ok (p := p) (e := e)
  simp only [ck] at hX ⊢
  simp -implicitDefEqProofs [m136, hB, hX, w1, c68]

/-- May an array be, and where does the last output end then? -/
def arrS (inn out e : Int) (x : Arr) : Bool × Int :=
  if shapedS x = true then
    (if x.kind = 0 then (decide (x.off = 0), e)
     else if x.kind = 1 then (between x.off 0 (inn - x.elem * x.len) && decide (x.off.tmod 4 = 0), e)
     else if x.kind = 2 then (if between x.off e (out - x.elem * x.len) = true ∧ x.off.tmod 4 = 0 then (true, upS (x.off + x.elem * x.len)) else (false, e))
     else (false, e))
  else (false, e)

theorem c69 (x : Arr) (he : 0 ≤ e) : KK 69 [.ptr A.length 0, .agg x.cells] (OQ A (ck p e) B) = some (.ret (.bool (arrS p.inn p.out e x).1), OQ A (ck p (arrS p.inn p.out e x).2) B) := by
  refine evW_by (m69_eq _ _ _ _) ?_
  have h132 := c132 x
  have hX := fun e => ck_ok (p := p) (e := e)
  have i0 := hp.i0
  have i1 := hp.i1
  have o0 := hp.o0
  have o1 := hp.o1
  cases hs : shapedS x
  · simp only [hs, Arr.cells, ck, arrS, Bool.false_eq_true, if_false] at h132 hX ⊢
    simp -implicitDefEqProofs [m69, hB, hX, h132]
  · have hm := shaped_mul hs
    have w0 : IntKind.i64.wrap (x.elem * x.len) = x.elem * x.len := by rw [wrap64] <;> omega
    simp only [hs, Arr.cells, ck, arrS, if_true] at h132 hX ⊢
    by_cases k0 : x.kind = 0
    · rw [k0] at h132 ⊢
      simp -implicitDefEqProofs [m69, hB, hX, h132, k0, w0]
    by_cases k1 : x.kind = 1
    · rw [k1] at h132 ⊢
      have w1 : IntKind.i64.wrap (p.inn - x.elem * x.len) = p.inn - x.elem * x.len := by rw [wrap64] <;> omega
      cases hb : between x.off 0 (p.inn - x.elem * x.len) <;> simp -implicitDefEqProofs [m69, hB, hX, h132, k1, w0, w1, c68, hb, abin_rem]
    by_cases k2 : x.kind = 2
    · rw [k2] at h132 ⊢
      have w1 : IntKind.i64.wrap (p.out - x.elem * x.len) = p.out - x.elem * x.len := by rw [wrap64] <;> omega
      cases hb : between x.off e (p.out - x.elem * x.len)
      · simp -implicitDefEqProofs [m69, hB, hX, h132, k2, w0, w1, c68, hb, abin_rem]
      · by_cases hr : x.off.tmod 4 = 0
        · have hbb : e ≤ x.off ∧ x.off ≤ p.out - x.elem * x.len := by simpa [between] using hb
          have w2 : IntKind.i64.wrap (x.off + x.elem * x.len) = x.off + x.elem * x.len := by rw [wrap64] <;> omega
          have h133 := c133 (x.off + x.elem * x.len) (by omega) (by omega)
          simp -implicitDefEqProofs [m69, hB, hX, h132, k2, w0, w1, w2, c68, hb, hr, h133, abin_rem]
        · simp -implicitDefEqProofs [m69, hB, hX, h132, k2, w0, w1, c68, hb, hr, abin_rem]
    · simp -implicitDefEqProofs [m69, hB, hX, h132, k0, k1, k2, w0]

/-- May a block's end be? -/
def termS (t : Term) : Bool :=
  if t.kind = 1 then decide (t.a = 0 ∧ t.no = 0) && between t.yes (-1) ((p.blocks.length : Int) - 1)
  else if t.kind = 2 then between t.a 0 (p.temps - 1) && (between t.yes (-1) ((p.blocks.length : Int) - 1) && between t.no (-1) ((p.blocks.length : Int) - 1))
  else decide (t = ⟨3, 0, 0, 0⟩)
end
end Go.Proofs.YtkeoalhglkfbkaaDoor

/-
  The checker's method on a block's end; the forms of operations. No conditions.
-/
namespace Go.Proofs.YtkeoalhglkfbkaaDoor
open Go Hk

section
variable {p : IR} (hp : Lim p) {A B : List ABlk} {e : Int} (hB : KB A B)
include hp hB
theorem c71 (t : Term) : KK 71 [.ptr A.length 0, .agg t.cells] (OQ A (ck p e) B) = some (.ret (.bool (termS (p := p) t)), OQ A (ck p e) B) := by
  refine evW_by (m71_eq _ _ _ _) ?_
  have hX := ck_ok (p := p) (e := e)
  have hC : KB A (B ++ [.cells t.cells]) := hB.app (by simp [Term.cells])
  have h135 := fun z => c135 (e := e) hp hC z
  have h136 := fun z => c136 (e := e) hp hC z
  obtain ⟨k, a, y, n⟩ := t
  simp only [Term.cells, termS] at h135 h136 ⊢
  by_cases k1 : k = 1
  · subst k1
    by_cases ha : a = 0
    · subst ha
      by_cases hn : n = 0
      · subst hn
        simp -implicitDefEqProofs [m71, hB, hX, h136, aeqAgg, aeqAll, aeqK, A_lt, A_lt0]
      · have hb := beq_false_of_ne hn
        simp -implicitDefEqProofs [m71, hB, hX, h136, aeqAgg, aeqAll, aeqK, hn, hb, A_lt, A_lt0]
    · have hb := beq_false_of_ne ha
      simp -implicitDefEqProofs [m71, hB, hX, h136, aeqAgg, aeqAll, aeqK, ha, hb, A_lt, A_lt0]
  by_cases k2 : k = 2
  · subst k2
    cases h1 : between a 0 (p.temps - 1) <;> cases h2 : between y (-1) ((p.blocks.length : Int) - 1) <;>
      simp -implicitDefEqProofs [m71, hB, hX, h135, h136, h1, h2, A_lt, A_lt0]
  · have hr : decide ((⟨k, a, y, n⟩ : Term) = ⟨3, 0, 0, 0⟩) = (k == 3 && (a == 0 && (y == 0 && n == 0))) := by
      by_cases h3 : k = 3 <;> by_cases ha : a = 0 <;> by_cases hy : y = 0 <;> by_cases hn : n = 0 <;> simp [h3, ha, hy, hn]
    have hbd : ∀ x y : Int, (x == y) = decide (x = y) := fun x y => by by_cases h : x = y <;> simp [h]
    simp -implicitDefEqProofs [m71, hB, hX, k1, k2, hr, hbd, aeqAgg, aeqAll, aeqK, Bool.and_assoc]
end

/-- An operation's form: whether it makes a temp, how many temps it reads, and its number's bounds. -/
structure Form where
  dst : Bool
  src : Nat
  most : Int
  ok : Bool
def formS (k : Int) : Form :=
  if k = 1 then ⟨true, 0, 4294967295, true⟩
  else if k = 2 ∨ k = 10 then ⟨true, 1, 0, true⟩
  else if 3 ≤ k ∧ k ≤ 9 ∨ 14 ≤ k ∧ k ≤ 16 then ⟨true, 2, 0, true⟩
  else if 11 ≤ k ∧ k ≤ 13 then ⟨true, 1, 31, true⟩
  else if k = 17 then ⟨true, 3, 0, true⟩
  else if k = 18 then ⟨true, 1, 1048576, true⟩
  else if k = 19 then ⟨false, 2, 1048576, true⟩
  else ⟨false, 0, 0, false⟩
def Form.cells (f : Form) : List AVal := [.bool f.dst, .int .i64 (f.src : Int), .int .i64 0, .int .i64 f.most, .bool f.ok]
theorem c134 (k : Int) (h : Heap) : KK 134 [.int .i64 k] h = some (.ret (.agg (formS k).cells), h) := by
  refine callP_pure rfl rfl (evW_by (m134_eq _ _ _) ?_)
  by_cases hk : 1 ≤ k ∧ k ≤ 19
  · have : k = 1 ∨ k = 2 ∨ k = 3 ∨ k = 4 ∨ k = 5 ∨ k = 6 ∨ k = 7 ∨ k = 8 ∨ k = 9 ∨ k = 10 ∨ k = 11 ∨ k = 12 ∨ k = 13 ∨ k = 14 ∨ k = 15 ∨ k = 16 ∨ k = 17 ∨ k = 18 ∨ k = 19 := by omega
    rcases this with rfl | rfl | rfl | rfl | rfl | rfl | rfl | rfl | rfl | rfl | rfl | rfl | rfl | rfl | rfl | rfl | rfl | rfl | rfl <;>
      simp -implicitDefEqProofs [m134, formS, Form.cells, finR_zero]
  · have n1 : ¬ k = 1 := by omega
    have n2 : ¬ k = 2 := by omega
    have n3 : ¬ k = 3 := by omega
    have n4 : ¬ k = 4 := by omega
    have n5 : ¬ k = 5 := by omega
    have n6 : ¬ k = 6 := by omega
    have n7 : ¬ k = 7 := by omega
    have n8 : ¬ k = 8 := by omega
    have n9 : ¬ k = 9 := by omega
    have n10 : ¬ k = 10 := by omega
    have n11 : ¬ k = 11 := by omega
    have n12 : ¬ k = 12 := by omega
    have n13 : ¬ k = 13 := by omega
    have n14 : ¬ k = 14 := by omega
    have n15 : ¬ k = 15 := by omega
    have n16 : ¬ k = 16 := by omega
    have n17 : ¬ k = 17 := by omega
    have n18 : ¬ k = 18 := by omega
    have n19 : ¬ k = 19 := by omega
    have e : formS k = ⟨false, 0, 0, false⟩ := by
      unfold formS
      rw [if_neg n1, if_neg (by omega), if_neg (by omega), if_neg (by omega), if_neg n17, if_neg n18, if_neg n19]
    rw [e]
    simp -implicitDefEqProofs [m134, Form.cells, finR_zero, n1, n2, n3, n4, n5, n6, n7, n8, n9, n10, n11, n12, n13, n14, n15, n16, n17, n18, n19]

theorem c73 (o : Op) (h : Heap) : KK 73 [.agg o.cells] h = some (.ret (.bool (formS o.kind).dst), h) := by
  refine callP_pure rfl rfl (evW_by (m73_eq _ _ _) ?_)
  have h134 := c134 o.kind
  simp only [Form.cells] at h134
  simp -implicitDefEqProofs [m73, Op.cells, h134, finR_zero]

/-- The temps that an operation reads. -/
def usesS (o : Op) : List Int := [o.a, o.b, o.c].take (formS o.kind).src
theorem c74 (o : Op) (h : Heap) : KK 74 [.agg o.cells] h = some (.ret (.slice ((usesS o).map fun z => [.int .i64 z]) .no), h) := by
  refine callP_pure rfl rfl (evW_by (m74_eq _ _ _) ?_)
  have h134 := c134 o.kind
  have hs : (formS o.kind).src = 0 ∨ (formS o.kind).src = 1 ∨ (formS o.kind).src = 2 ∨ (formS o.kind).src = 3 := by
    unfold formS; (repeat' split) <;> simp
  simp only [Form.cells] at h134
  unfold usesS
  rcases hs with hs | hs | hs | hs <;> rw [hs] at h134 ⊢ <;>
    simp -implicitDefEqProofs [m74, Op.cells, h134, abuildSlice, abuildRow, pureRow, AVal.pure1, rowsOf, asliceSl, abound, finR_zero]
end Go.Proofs.YtkeoalhglkfbkaaDoor
