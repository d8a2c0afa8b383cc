/-
  The texts SX.M2, SX.A, SX.P, SX.G, SX.H, SX.I, SX.J, SX.K, SX.N, SX.O, SX.Q, SX.R, SX.S, SX.T, SX.U, SX.V, SX.W, SX.X, one behind another. No conditions.
-/
import Derived.Test.YtkeoalhglkfbkaaDoorLx2
import Derived.Test.YtkeoalhglkfbkaaDoorSx1
import Derived.Test.YtkeoalhglkfbkaaDoorLx3
set_option linter.unusedVariables false
set_option linter.unusedSimpArgs false
/-
  Shallow forms of further functions. No conditions.
-/
namespace Go.Proofs.YtkeoalhglkfbkaaDoor
open Go Hk
/- hauberk/hauberklaw12.SyntaxParses -/
noncomputable def m8 (K : CallO) (a0 : AVal) (h0 : Heap) : Option (Res × Heap) :=
  (bindRes (K 33 [(AVal.untok a0)] h0) (fun t0 h1 => (aextract 0 t0).bind fun t2 => (aextract 1 t0).bind fun t3 => bindVH (anew 1 h1 (.agg [(.slice [] .nil)])) fun t4 h5 => bindVH (anew 2 h5 (.agg [(.int .i64 0), (.int .i64 0)])) fun t6 h7 => (astore 1 h7 t4 t2).bind fun h8 => (astore 2 h8 t6 t3).bind fun h9 => bindRes (K 34 [(AVal.untok a0)] h9) (fun t10 h11 => (aextract 0 t10).bind fun t12 => (aextract 1 t10).bind fun t13 => bindVH (anew 1 h11 (.agg [(.slice [] .nil)])) fun t14 h15 => bindVH (anew 2 h15 (.agg [(.int .i64 0), (.int .i64 0)])) fun t16 h17 => (astore 1 h17 t14 t12).bind fun h18 => (astore 2 h18 t16 t13).bind fun h19 => (aload true 1 h19 t4).bind fun t20 => (aload true 1 h19 t14).bind fun t21 => bindRes (K 35 [(AVal.untok t20), (AVal.untok t21), (AVal.untok (.bool true))] h19) (fun t22 h23 => (guardSel true t22 ((afieldAt 0 t6).bind fun t24 => kv0 t24 h23) (kv0 (.tuple []) h23)).bind (fin0 (fun t25 h26 => (guardSel true t22 ((aload false 1 h26 t25).bind fun t27 => kv0 t27 h26) (kv0 (.tuple []) h26)).bind (fin0 (fun t28 h29 => (guardSel true t22 ((afieldAt 0 t16).bind fun t30 => kv0 t30 h29) (kv0 (.tuple []) h29)).bind (fin0 (fun t31 h32 => (guardSel true t22 ((aload false 1 h32 t31).bind fun t33 => kv0 t33 h32) (kv0 (.tuple []) h32)).bind (fin0 (fun t34 h35 => (guardSel true t22 ((abin .eql t28 t34).bind fun t36 => kv0 t36 h35) (kv0 (.tuple []) h35)).bind (fin0 (fun t37 h38 => (apick t22 t37 (.bool false)).bind fun t39 => (guardSel true t39 ((afieldAt 1 t6).bind fun t40 => kv0 t40 h38) (kv0 (.tuple []) h38)).bind (fin0 (fun t41 h42 => (guardSel true t39 ((aload false 1 h42 t41).bind fun t43 => kv0 t43 h42) (kv0 (.tuple []) h42)).bind (fin0 (fun t44 h45 => (guardSel true t39 ((afieldAt 1 t16).bind fun t46 => kv0 t46 h45) (kv0 (.tuple []) h45)).bind (fin0 (fun t47 h48 => (guardSel true t39 ((aload false 1 h48 t47).bind fun t49 => kv0 t49 h48) (kv0 (.tuple []) h48)).bind (fin0 (fun t50 h51 => (guardSel true t39 ((abin .eql t44 t50).bind fun t52 => kv0 t52 h51) (kv0 (.tuple []) h51)).bind (fin0 (fun t53 h54 => (apick t39 t53 (.bool false)).bind fun t55 => (guardSel true t55 (bindRes (K 36 [] h54) (fun t56 h57 => kv0 t56 h57) kp0) (kv0 (.tuple []) h54)).bind (fin0 (fun t58 h59 => (apick t55 t58 (.bool false)).bind fun t60 => some (.ret, [t60], h59)) (fun _ _ => none))) (fun _ _ => none))) (fun _ _ => none))) (fun _ _ => none))) (fun _ _ => none))) (fun _ _ => none))) (fun _ _ => none))) (fun _ _ => none))) (fun _ _ => none))) (fun _ _ => none))) (fun _ _ => none))) (fun _ _ => none)) (fun _ _ => none)) (fun _ _ => none)).bind fun r61 => (fun x2v62 h63 => Ex.endF r61.1 (finR (List.length h0) x2v62 h63)) (List.getD r61.2.1 0 .junk) r61.2.2
theorem m8_eq (K : CallO) (a0 : AVal) (h0 : Heap) : evB Tryd.prog ann lpW K 8 [a0] h0 = m8 (callP ann K) a0 h0 := by kernel_rfl

/- hauberk/hauberkref12.Parse -/
noncomputable def m34_l0 (K : CallO) (m : Nat) (s : List AVal × Heap) : Option R :=
  (fun x2v23 x3v24 x6v25 x7v26 h27 => (anilCheck x6v25).bind fun t28 => (afieldAt 3 t28).bind fun t29 => (afieldAt 0 t29).bind fun t30 => (aload false 1 h27 t30).bind fun t31 => (abin .eql t31 (.int .i64 0)).bind fun t32 => (guardSel true t32 (kv0 x6v25 h27) (kv0 (.tuple []) h27)).bind (fin0 (fun t33 h34 => (guardSel true t32 ((anilCheck t33).bind fun t35 => kv0 t35 h34) (kv0 (.tuple []) h34)).bind (fin0 (fun t36 h37 => (guardSel true t32 ((afieldAt 0 t36).bind fun t38 => kv0 t38 h37) (kv0 (.tuple []) h37)).bind (fin0 (fun t39 h40 => (guardSel true t32 ((aload false 1 h40 t39).bind fun t41 => kv0 t41 h40) (kv0 (.tuple []) h40)).bind (fin0 (fun t42 h43 => (guardSel true t32 (kv0 x6v25 h43) (kv0 (.tuple []) h43)).bind (fin0 (fun t44 h45 => (guardSel true t32 ((anilCheck t44).bind fun t46 => kv0 t46 h45) (kv0 (.tuple []) h45)).bind (fin0 (fun t47 h48 => (guardSel true t32 ((afieldAt 1 t47).bind fun t49 => kv0 t49 h48) (kv0 (.tuple []) h48)).bind (fin0 (fun t50 h51 => (guardSel true t32 ((aload false 1 h51 t50).bind fun t52 => kv0 t52 h51) (kv0 (.tuple []) h51)).bind (fin0 (fun t53 h54 => (guardSel true t32 ((aindexSl 4 t42 t53).bind fun t55 => kv0 t55 h54) (kv0 (.tuple []) h54)).bind (fin0 (fun t56 h57 => (guardSel true t32 ((afieldAt 0 t56).bind fun t58 => kv0 t58 h57) (kv0 (.tuple []) h57)).bind (fin0 (fun t59 h60 => (guardSel true t32 ((aload false 1 h60 t59).bind fun t61 => kv0 t61 h60) (kv0 (.tuple []) h60)).bind (fin0 (fun t62 h63 => (guardSel true t32 ((abin .neq t62 (.int .i64 0)).bind fun t64 => kv0 t64 h63) (kv0 (.tuple []) h63)).bind (fin0 (fun t65 h66 => (apick t32 t65 (.bool false)).bind fun t67 => acond t67 (bindRes (K 78 [(AVal.untok x6v25)] h66) (fun t68 h69 => bindVH (anew 8 h69 (.agg [(.int .i64 0), (.str []), (.slice [] .nil), (.bool false), (.int .i64 0), (.int .i64 0), (.int .i64 0), (.slice [] .nil)])) fun t70 h71 => (astore 8 h71 t70 t68).bind fun h72 => (afieldAt 0 x7v26).bind fun t73 => (aload false 1 h72 t73).bind fun t74 => (aload true 8 h72 t70).bind fun t75 => bindVH (abuildSlice 1 8 [(.int .i64 0), (.str []), (.slice [] .nil), (.bool false), (.int .i64 0), (.int .i64 0), (.int .i64 0), (.slice [] .nil)] [(0, t75)] h72) fun t76 h77 => bindVH (aappend 8 104 h77 t74 t76) fun t78 h79 => (afieldAt 0 x7v26).bind fun t80 => (astore 1 h79 t80 t78).bind fun h81 => endR m .normal [x2v23, x3v24, x6v25, x7v26] h81) (fun _ _ => none)) (endR m (.exit 0) [x2v23, x3v24, x6v25, x7v26] h66)) (fun _ _ => none))) (fun _ _ => none))) (fun _ _ => none))) (fun _ _ => none))) (fun _ _ => none))) (fun _ _ => none))) (fun _ _ => none))) (fun _ _ => none))) (fun _ _ => none))) (fun _ _ => none))) (fun _ _ => none))) (fun _ _ => none))) (List.getD s.1 0 .junk) (List.getD s.1 1 .junk) (List.getD s.1 2 .junk) (List.getD s.1 3 .junk) s.2
noncomputable def m34 (K : CallO) (a0 : AVal) (h0 : Heap) : Option (Res × Heap) :=
  (bindVH (anew 1 h0 (.agg [(.slice [] .nil)])) fun t0 h1 => bindVH (anew 2 h1 (.agg [(.int .i64 0), (.int .i64 0)])) fun t2 h3 => bindRes (K 21 [(AVal.untok a0)] h3) (fun t4 h5 => (aextract 0 t4).bind fun t6 => (aextract 1 t4).bind fun t7 => bindVH (anew 2 h5 (.agg [(.int .i64 0), (.int .i64 0)])) fun t8 h9 => (astore 2 h9 t8 t7).bind fun h10 => (afieldAt 0 t8).bind fun t11 => (aload false 1 h10 t11).bind fun t12 => (abin .neq t12 (.int .i64 0)).bind fun t13 => acond t13 ((abuild [(.slice [] .nil)] [(0, 1)] []).bind fun t14 => (aload true 2 h10 t8).bind fun t15 => (astore 1 (hide (lockIds [0] [t8]) h10) t0 t14).bind fun h16 => (astore 2 (unhide (lockIds [0] [t8]) h10 h16) t2 t15).bind fun h17 => some (.ret, [t0, t2], h17)) ((abuild [(.slice [] .nil), (.int .i64 0), (.int .i64 0), (.int .i64 0), (.int .i64 0)] [(0, 1), (1, 1), (2, 1), (3, 2)] [(0, t6)]).bind fun t18 => bindVH (anew 5 h10 t18) fun t19 h20 => bindVH (anew 1 h20 (.agg [(.slice [] .nil)])) fun t21 h22 => (lpW (m34_l0 K (List.length h22)) ([t0, t2, t19, t21], h22)).bind fun r82 => (fun x2v84 x3v85 x6v86 x7v87 h88 => Ex.thenDo r82.1 none (fun e83 => Ex.inBlock 0 e83 ((anilCheck x6v86).bind fun t90 => (afieldAt 3 t90).bind fun t91 => (afieldAt 0 t91).bind fun t92 => (aload false 1 h88 t92).bind fun t93 => (abin .neq t93 (.int .i64 0)).bind fun t94 => acond t94 ((abuild [(.slice [] .nil)] [(0, 1)] []).bind fun t95 => (anilCheck x6v86).bind fun t96 => (afieldAt 3 t96).bind fun t97 => (aload true 2 h88 t97).bind fun t98 => (astore 1 (hide (lockIds [0] [t97]) h88) x2v84 t95).bind fun h99 => (astore 2 (unhide (lockIds [0] [t97]) h88 h99) x3v85 t98).bind fun h100 => some (.ret, [x2v84, x3v85], h100)) ((aload true 1 h88 x7v87).bind fun t101 => (abuild [(.int .i64 0), (.int .i64 0)] [(0, 1), (1, 1)] []).bind fun t102 => (astore 1 h88 x2v84 t101).bind fun h103 => (astore 2 h103 x3v85 t102).bind fun h104 => some (.ret, [x2v84, x3v85], h104))) (fun e89 => some (e89, [x2v84, x3v85], h88)))) (List.getD r82.2.1 0 .junk) (List.getD r82.2.1 1 .junk) (List.getD r82.2.1 2 .junk) (List.getD r82.2.1 3 .junk) r82.2.2)) (fun _ _ => none)).bind fun r105 => (fun x2v106 x3v107 h108 => Ex.endF r105.1 ((aload true 1 h108 x2v106).bind fun t109 => (aload true 2 h108 x3v107).bind fun t110 => finR (List.length h0) (.tuple [t109, t110]) h108)) (List.getD r105.2.1 0 .junk) (List.getD r105.2.1 1 .junk) r105.2.2
theorem m34_eq (K : CallO) (a0 : AVal) (h0 : Heap) : evB Tryd.prog ann lpW K 34 [a0] h0 = m34 (callP ann K) a0 h0 := by kernel_rfl

/- hauberk/hauberkref12.Same -/
noncomputable def m35_l0 (K : CallO) (m : Nat) (s : List AVal × Heap) : Option R :=
  (fun x3v17 x4v18 x6v19 x7v20 x8v21 h22 => (afieldAt 0 x3v17).bind fun t23 => (aload false 1 h22 t23).bind fun t24 => (alenSl t24).bind fun t25 => (abin .lss x8v21 t25).bind fun t26 => acond t26 ((afieldAt 0 x3v17).bind fun t27 => (aload false 1 h22 t27).bind fun t28 => (aindexSl 8 t28 x8v21).bind fun t29 => (aload true 8 h22 t29).bind fun t30 => (afieldAt 0 x4v18).bind fun t31 => (aload false 1 h22 t31).bind fun t32 => (aindexSl 8 t32 x8v21).bind fun t33 => (aload true 8 h22 t33).bind fun t34 => bindRes (K 37 [(AVal.untok t30), (AVal.untok t34), (AVal.untok x7v20)] h22) (fun t35 h36 => (aun .not t35).bind fun t37 => acond t37 (endR m .ret [x3v17, x4v18, (.bool false), x7v20, x8v21] h36) ((abin .add x8v21 (.int .i64 1)).bind fun t38 => endR m .normal [x3v17, x4v18, x6v19, x7v20, t38] h36)) (fun _ _ => none)) (endR m (.exit 0) [x3v17, x4v18, x6v19, x7v20, x8v21] h22)) (List.getD s.1 0 .junk) (List.getD s.1 1 .junk) (List.getD s.1 2 .junk) (List.getD s.1 3 .junk) (List.getD s.1 4 .junk) s.2
noncomputable def m35 (K : CallO) (a0 a1 a2 : AVal) (h0 : Heap) : Option (Res × Heap) :=
  (bindVH (anew 1 h0 a0) fun t0 h1 => bindVH (anew 1 h1 a1) fun t2 h3 => (afieldAt 0 t0).bind fun t4 => (aload false 1 h3 t4).bind fun t5 => (alenSl t5).bind fun t6 => (afieldAt 0 t2).bind fun t7 => (aload false 1 h3 t7).bind fun t8 => (alenSl t8).bind fun t9 => (abin .neq t6 t9).bind fun t10 => acond t10 (some (.ret, [(.bool false)], h3)) ((acond a2 (some (.normal, [t0, t2, (.bool false), (.int .i64 0)], h3)) (some (.normal, [t0, t2, (.bool false), (.int .i64 (-1))], h3))).bind fun r11 => (fun x3v12 x4v13 x6v14 x7v15 h16 => Ex.nrm r11.1 ((lpW (m35_l0 K (List.length h16)) ([x3v12, x4v13, x6v14, x7v15, (.int .i64 0)], h16)).bind fun r39 => (fun x3v41 x4v42 x6v43 x7v44 x8v45 h46 => Ex.thenDo r39.1 none (fun e40 => Ex.inBlock 0 e40 (some (.ret, [(.bool true)], h46)) (fun e47 => some (e47, [x6v43], h46)))) (List.getD r39.2.1 0 .junk) (List.getD r39.2.1 1 .junk) (List.getD r39.2.1 2 .junk) (List.getD r39.2.1 3 .junk) (List.getD r39.2.1 4 .junk) r39.2.2)) (List.getD r11.2.1 0 .junk) (List.getD r11.2.1 1 .junk) (List.getD r11.2.1 2 .junk) (List.getD r11.2.1 3 .junk) r11.2.2)).bind fun r48 => (fun x6v49 h50 => Ex.endF r48.1 (finR (List.length h0) x6v49 h50)) (List.getD r48.2.1 0 .junk) r48.2.2
theorem m35_eq (K : CallO) (a0 a1 a2 : AVal) (h0 : Heap) : evB Tryd.prog ann lpW K 35 [a0, a1, a2] h0 = m35 (callP ann K) a0 a1 a2 h0 := by kernel_rfl

/- hauberk/hauberklaw12.lives -/
noncomputable def m36 (K : CallO) (h0 : Heap) : Option (Res × Heap) :=
  (bindRes (K 33 [(AVal.untok (.str [102, 110, 32, 102, 40, 41, 32, 123, 32, 120, 32, 61, 32, 49, 32, 43, 32, 50, 32, 42, 32, 121, 59, 32, 125]))] h0) (fun t0 h1 => (aextract 0 t0).bind fun t2 => (aextract 1 t0).bind fun t3 => bindVH (anew 1 h1 (.agg [(.slice [] .nil)])) fun t4 h5 => bindVH (anew 2 h5 (.agg [(.int .i64 0), (.int .i64 0)])) fun t6 h7 => (astore 1 h7 t4 t2).bind fun h8 => (astore 2 h8 t6 t3).bind fun h9 => bindRes (K 33 [(AVal.untok (.str [102, 110, 32, 102, 40, 41, 32, 123, 32, 120, 32, 61, 32, 97, 32, 60, 32, 98, 32, 60, 32, 99, 59, 32, 125]))] h9) (fun t10 h11 => (aextract 0 t10).bind fun t12 => (aextract 1 t10).bind fun t13 => bindVH (anew 1 h11 (.agg [(.slice [] .nil)])) fun t14 h15 => bindVH (anew 2 h15 (.agg [(.int .i64 0), (.int .i64 0)])) fun t16 h17 => (astore 1 h17 t14 t12).bind fun h18 => (astore 2 h18 t16 t13).bind fun h19 => (aload true 2 h19 t6).bind fun t20 => (abuild [(.int .i64 0), (.int .i64 0)] [(0, 1), (1, 1)] []).bind fun t21 => (aeqAgg [.i, .i] t20 t21).bind fun t22 => (guardSel false (.bool (!t22)) ((afieldAt 0 t4).bind fun t23 => kv0 t23 h19) (kv0 (.tuple []) h19)).bind (fin0 (fun t24 h25 => (guardSel false (.bool (!t22)) ((aload false 1 h25 t24).bind fun t26 => kv0 t26 h25) (kv0 (.tuple []) h25)).bind (fin0 (fun t27 h28 => (guardSel false (.bool (!t22)) ((alenSl t27).bind fun t29 => kv0 t29 h28) (kv0 (.tuple []) h28)).bind (fin0 (fun t30 h31 => (guardSel false (.bool (!t22)) ((abin .neq t30 (.int .i64 1)).bind fun t32 => kv0 t32 h31) (kv0 (.tuple []) h31)).bind (fin0 (fun t33 h34 => (apick (.bool (!t22)) (.bool true) t33).bind fun t35 => (guardSel false t35 ((afieldAt 0 t4).bind fun t36 => kv0 t36 h34) (kv0 (.tuple []) h34)).bind (fin0 (fun t37 h38 => (guardSel false t35 ((aload false 1 h38 t37).bind fun t39 => kv0 t39 h38) (kv0 (.tuple []) h38)).bind (fin0 (fun t40 h41 => (guardSel false t35 ((aindexSl 8 t40 (.int .i64 0)).bind fun t42 => kv0 t42 h41) (kv0 (.tuple []) h41)).bind (fin0 (fun t43 h44 => (guardSel false t35 ((afieldAt 7 t43).bind fun t45 => kv0 t45 h44) (kv0 (.tuple []) h44)).bind (fin0 (fun t46 h47 => (guardSel false t35 ((aload false 1 h47 t46).bind fun t48 => kv0 t48 h47) (kv0 (.tuple []) h47)).bind (fin0 (fun t49 h50 => (guardSel false t35 ((alenSl t49).bind fun t51 => kv0 t51 h50) (kv0 (.tuple []) h50)).bind (fin0 (fun t52 h53 => (guardSel false t35 ((abin .neq t52 (.int .i64 1)).bind fun t54 => kv0 t54 h53) (kv0 (.tuple []) h53)).bind (fin0 (fun t55 h56 => (apick t35 (.bool true) t55).bind fun t57 => (guardSel false t57 ((afieldAt 0 t4).bind fun t58 => kv0 t58 h56) (kv0 (.tuple []) h56)).bind (fin0 (fun t59 h60 => (guardSel false t57 ((aload false 1 h60 t59).bind fun t61 => kv0 t61 h60) (kv0 (.tuple []) h60)).bind (fin0 (fun t62 h63 => (guardSel false t57 ((aindexSl 8 t62 (.int .i64 0)).bind fun t64 => kv0 t64 h63) (kv0 (.tuple []) h63)).bind (fin0 (fun t65 h66 => (guardSel false t57 ((afieldAt 7 t65).bind fun t67 => kv0 t67 h66) (kv0 (.tuple []) h66)).bind (fin0 (fun t68 h69 => (guardSel false t57 ((aload false 1 h69 t68).bind fun t70 => kv0 t70 h69) (kv0 (.tuple []) h69)).bind (fin0 (fun t71 h72 => (guardSel false t57 ((aindexSl 11 t71 (.int .i64 0)).bind fun t73 => kv0 t73 h72) (kv0 (.tuple []) h72)).bind (fin0 (fun t74 h75 => (guardSel false t57 ((afieldAt 7 t74).bind fun t76 => kv0 t76 h75) (kv0 (.tuple []) h75)).bind (fin0 (fun t77 h78 => (guardSel false t57 ((aload false 1 h78 t77).bind fun t79 => kv0 t79 h78) (kv0 (.tuple []) h78)).bind (fin0 (fun t80 h81 => (guardSel false t57 ((alenSl t80).bind fun t82 => kv0 t82 h81) (kv0 (.tuple []) h81)).bind (fin0 (fun t83 h84 => (guardSel false t57 ((abin .neq t83 (.int .i64 1)).bind fun t85 => kv0 t85 h84) (kv0 (.tuple []) h84)).bind (fin0 (fun t86 h87 => (apick t57 (.bool true) t86).bind fun t88 => acond t88 (some (.ret, [(.bool false)], h87)) ((afieldAt 0 t4).bind fun t89 => (aload false 1 h87 t89).bind fun t90 => (aindexSl 8 t90 (.int .i64 0)).bind fun t91 => (afieldAt 7 t91).bind fun t92 => (aload false 1 h87 t92).bind fun t93 => (aindexSl 11 t93 (.int .i64 0)).bind fun t94 => (afieldAt 7 t94).bind fun t95 => (aload false 1 h87 t95).bind fun t96 => (aindexSl 5 t96 (.int .i64 0)).bind fun t97 => (aload true 5 h87 t97).bind fun t98 => bindVH (anew 5 h87 (.agg [(.int .i64 0), (.int .i64 0), (.int .i64 0), (.str []), (.slice [] .nil)])) fun t99 h100 => (astore 5 h100 t99 t98).bind fun h101 => (afieldAt 0 t99).bind fun t102 => (aload false 1 h101 t102).bind fun t103 => (abin .eql t103 (.int .i64 8)).bind fun t104 => (guardSel true t104 ((afieldAt 1 t99).bind fun t105 => kv0 t105 h101) (kv0 (.tuple []) h101)).bind (fin0 (fun t106 h107 => (guardSel true t104 ((aload false 1 h107 t106).bind fun t108 => kv0 t108 h107) (kv0 (.tuple []) h107)).bind (fin0 (fun t109 h110 => (guardSel true t104 ((abin .eql t109 (.int .i64 15)).bind fun t111 => kv0 t111 h110) (kv0 (.tuple []) h110)).bind (fin0 (fun t112 h113 => (apick t104 t112 (.bool false)).bind fun t114 => (guardSel true t114 ((afieldAt 4 t99).bind fun t115 => kv0 t115 h113) (kv0 (.tuple []) h113)).bind (fin0 (fun t116 h117 => (guardSel true t114 ((aload false 1 h117 t116).bind fun t118 => kv0 t118 h117) (kv0 (.tuple []) h117)).bind (fin0 (fun t119 h120 => (guardSel true t114 ((alenSl t119).bind fun t121 => kv0 t121 h120) (kv0 (.tuple []) h120)).bind (fin0 (fun t122 h123 => (guardSel true t114 ((abin .eql t122 (.int .i64 2)).bind fun t124 => kv0 t124 h123) (kv0 (.tuple []) h123)).bind (fin0 (fun t125 h126 => (apick t114 t125 (.bool false)).bind fun t127 => (guardSel true t127 ((afieldAt 4 t99).bind fun t128 => kv0 t128 h126) (kv0 (.tuple []) h126)).bind (fin0 (fun t129 h130 => (guardSel true t127 ((aload false 1 h130 t129).bind fun t131 => kv0 t131 h130) (kv0 (.tuple []) h130)).bind (fin0 (fun t132 h133 => (guardSel true t127 ((aindexSl 5 t132 (.int .i64 1)).bind fun t134 => kv0 t134 h133) (kv0 (.tuple []) h133)).bind (fin0 (fun t135 h136 => (guardSel true t127 ((afieldAt 0 t135).bind fun t137 => kv0 t137 h136) (kv0 (.tuple []) h136)).bind (fin0 (fun t138 h139 => (guardSel true t127 ((aload false 1 h139 t138).bind fun t140 => kv0 t140 h139) (kv0 (.tuple []) h139)).bind (fin0 (fun t141 h142 => (guardSel true t127 ((abin .eql t141 (.int .i64 10)).bind fun t143 => kv0 t143 h142) (kv0 (.tuple []) h142)).bind (fin0 (fun t144 h145 => (apick t127 t144 (.bool false)).bind fun t146 => (guardSel true t146 ((aload true 2 h145 t16).bind fun t147 => kv0 t147 h145) (kv0 (.tuple []) h145)).bind (fin0 (fun t148 h149 => (guardSel true t146 ((abuild [(.int .i64 0), (.int .i64 0)] [(0, 1), (1, 1)] [(0, (.int .i64 10)), (1, (.int .i64 19))]).bind fun t150 => kv0 t150 h149) (kv0 (.tuple []) h149)).bind (fin0 (fun t151 h152 => (guardSel true t146 ((aeqAgg [.i, .i] t148 t151).bind fun t153 => kv0 (.bool t153) h152) (kv0 (.tuple []) h152)).bind (fin0 (fun t154 h155 => (apick t146 t154 (.bool false)).bind fun t156 => some (.ret, [t156], h155)) (fun _ _ => none))) (fun _ _ => none))) (fun _ _ => none))) (fun _ _ => none))) (fun _ _ => none))) (fun _ _ => none))) (fun _ _ => none))) (fun _ _ => none))) (fun _ _ => none))) (fun _ _ => none))) (fun _ _ => none))) (fun _ _ => none))) (fun _ _ => none))) (fun _ _ => none))) (fun _ _ => none))) (fun _ _ => none)))) (fun _ _ => none))) (fun _ _ => none))) (fun _ _ => none))) (fun _ _ => none))) (fun _ _ => none))) (fun _ _ => none))) (fun _ _ => none))) (fun _ _ => none))) (fun _ _ => none))) (fun _ _ => none))) (fun _ _ => none))) (fun _ _ => none))) (fun _ _ => none))) (fun _ _ => none))) (fun _ _ => none))) (fun _ _ => none))) (fun _ _ => none))) (fun _ _ => none))) (fun _ _ => none))) (fun _ _ => none))) (fun _ _ => none))) (fun _ _ => none)) (fun _ _ => none)).bind fun r157 => (fun x0v158 h159 => Ex.endF r157.1 (finR (List.length h0) x0v158 h159)) (List.getD r157.2.1 0 .junk) r157.2.2
theorem m36_eq (K : CallO) (h0 : Heap) : evB Tryd.prog ann lpW K 36 [] h0 = m36 (callP ann K) h0 := by kernel_rfl

/- hauberk/hauberkref12.SameFunc -/
noncomputable def m37_l0 (K : CallO) (m : Nat) (s : List AVal × Heap) : Option R :=
  (fun x2v96 x3v97 x4v98 x6v99 x7v100 h101 => (afieldAt 2 x3v97).bind fun t102 => (aload false 1 h101 t102).bind fun t103 => (alenSl t103).bind fun t104 => (abin .lss x7v100 t104).bind fun t105 => acond t105 ((afieldAt 2 x3v97).bind fun t106 => (aload false 1 (h101 ++ [.free, .free]) t106).bind fun t107 => (aindexSl 6 t107 x7v100).bind fun t108 => (aload true 6 (h101 ++ [.free, .free]) t108).bind fun t109 => (afieldAt 2 x4v98).bind fun t110 => (aload false 1 (h101 ++ [.free, .free]) t110).bind fun t111 => (aindexSl 6 t111 x7v100).bind fun t112 => (aload true 6 (h101 ++ [.free, .free]) t112).bind fun t113 => bindVH (anewAt ((List.length h101) + 0) 6 (h101 ++ [.free, .free]) (.agg [(.int .i64 0), (.str []), (.int .i64 0), (.int .i64 0), (.int .i64 0), (.bool false)])) fun t114 h115 => bindVH (anewAt ((List.length h101) + 1) 6 h115 (.agg [(.int .i64 0), (.str []), (.int .i64 0), (.int .i64 0), (.int .i64 0), (.bool false)])) fun t116 h117 => (astore 6 (hide (lockIds [0, 1] [t110, t112]) h117) t114 t109).bind fun h118 => (astore 6 (unhide (lockIds [0, 1] [t110, t112]) h117 h118) t116 t113).bind fun h119 => (abin .geq x2v96 (.int .i64 0)).bind fun t120 => (guardSel true t120 ((afieldAt 0 t114).bind fun t121 => kv0 t121 h119) (kv0 (.tuple []) h119)).bind (fin0 (fun t122 h123 => (guardSel true t120 ((aload false 1 h123 t122).bind fun t124 => kv0 t124 h123) (kv0 (.tuple []) h123)).bind (fin0 (fun t125 h126 => (guardSel true t120 ((afieldAt 0 t116).bind fun t127 => kv0 t127 h126) (kv0 (.tuple []) h126)).bind (fin0 (fun t128 h129 => (guardSel true t120 ((aload false 1 h129 t128).bind fun t130 => kv0 t130 h129) (kv0 (.tuple []) h129)).bind (fin0 (fun t131 h132 => (guardSel true t120 (kv0 x2v96 h132) (kv0 (.tuple []) h132)).bind (fin0 (fun t133 h134 => (guardSel true t120 ((abin .add t131 t133).bind fun t135 => kv0 t135 h134) (kv0 (.tuple []) h134)).bind (fin0 (fun t136 h137 => (guardSel true t120 ((abin .neq t125 t136).bind fun t138 => kv0 t138 h137) (kv0 (.tuple []) h137)).bind (fin0 (fun t139 h140 => (apick t120 t139 (.bool false)).bind fun t141 => (guardSel false t141 ((afieldAt 1 t114).bind fun t142 => kv0 t142 h140) (kv0 (.tuple []) h140)).bind (fin0 (fun t143 h144 => (guardSel false t141 ((aload false 1 h144 t143).bind fun t145 => kv0 t145 h144) (kv0 (.tuple []) h144)).bind (fin0 (fun t146 h147 => (guardSel false t141 ((afieldAt 1 t116).bind fun t148 => kv0 t148 h147) (kv0 (.tuple []) h147)).bind (fin0 (fun t149 h150 => (guardSel false t141 ((aload false 1 h150 t149).bind fun t151 => kv0 t151 h150) (kv0 (.tuple []) h150)).bind (fin0 (fun t152 h153 => (guardSel false t141 ((abin .neq t146 t152).bind fun t154 => kv0 t154 h153) (kv0 (.tuple []) h153)).bind (fin0 (fun t155 h156 => (apick t141 (.bool true) t155).bind fun t157 => (guardSel false t157 ((afieldAt 2 t114).bind fun t158 => kv0 t158 h156) (kv0 (.tuple []) h156)).bind (fin0 (fun t159 h160 => (guardSel false t157 ((aload true 3 h160 t159).bind fun t161 => kv0 t161 h160) (kv0 (.tuple []) h160)).bind (fin0 (fun t162 h163 => (guardSel false t157 ((afieldAt 2 t116).bind fun t164 => kv0 t164 h163) (kv0 (.tuple []) h163)).bind (fin0 (fun t165 h166 => (guardSel false t157 ((aload true 3 h166 t165).bind fun t167 => kv0 t167 h166) (kv0 (.tuple []) h166)).bind (fin0 (fun t168 h169 => (guardSel false t157 ((aeqAgg [.i, .i, .i] t162 t168).bind fun t170 => kv0 (.bool (!t170)) h169) (kv0 (.tuple []) h169)).bind (fin0 (fun t171 h172 => (apick t157 (.bool true) t171).bind fun t173 => (guardSel false t173 ((afieldAt 5 t114).bind fun t174 => kv0 t174 h172) (kv0 (.tuple []) h172)).bind (fin0 (fun t175 h176 => (guardSel false t173 ((aload false 1 h176 t175).bind fun t177 => kv0 t177 h176) (kv0 (.tuple []) h176)).bind (fin0 (fun t178 h179 => (guardSel false t173 ((afieldAt 5 t116).bind fun t180 => kv0 t180 h179) (kv0 (.tuple []) h179)).bind (fin0 (fun t181 h182 => (guardSel false t173 ((aload false 1 h182 t181).bind fun t183 => kv0 t183 h182) (kv0 (.tuple []) h182)).bind (fin0 (fun t184 h185 => (guardSel false t173 ((abinB .neq t178 t184).bind fun t186 => kv0 t186 h185) (kv0 (.tuple []) h185)).bind (fin0 (fun t187 h188 => (apick t173 (.bool true) t187).bind fun t189 => acond t189 (endR m .ret [x2v96, x3v97, x4v98, (.bool false), x7v100] h188) ((abin .add x7v100 (.int .i64 1)).bind fun t190 => endR m .normal [x2v96, x3v97, x4v98, x6v99, t190] h188)) (fun _ _ => none))) (fun _ _ => none))) (fun _ _ => none))) (fun _ _ => none))) (fun _ _ => none))) (fun _ _ => none))) (fun _ _ => none))) (fun _ _ => none))) (fun _ _ => none))) (fun _ _ => none))) (fun _ _ => none))) (fun _ _ => none))) (fun _ _ => none))) (fun _ _ => none))) (fun _ _ => none))) (fun _ _ => none))) (fun _ _ => none))) (fun _ _ => none))) (fun _ _ => none))) (fun _ _ => none))) (fun _ _ => none))) (fun _ _ => none))) (endR m (.exit 0) [x2v96, x3v97, x4v98, x6v99, x7v100] h101)) (List.getD s.1 0 .junk) (List.getD s.1 1 .junk) (List.getD s.1 2 .junk) (List.getD s.1 3 .junk) (List.getD s.1 4 .junk) s.2
noncomputable def m37 (K : CallO) (a0 a1 a2 : AVal) (h0 : Heap) : Option (Res × Heap) :=
  (bindVH (anew 8 h0 a0) fun t0 h1 => bindVH (anew 8 h1 a1) fun t2 h3 => (abin .geq a2 (.int .i64 0)).bind fun t4 => (guardSel true t4 ((afieldAt 0 t0).bind fun t5 => kv0 t5 h3) (kv0 (.tuple []) h3)).bind (fin0 (fun t6 h7 => (guardSel true t4 ((aload false 1 h7 t6).bind fun t8 => kv0 t8 h7) (kv0 (.tuple []) h7)).bind (fin0 (fun t9 h10 => (guardSel true t4 ((afieldAt 0 t2).bind fun t11 => kv0 t11 h10) (kv0 (.tuple []) h10)).bind (fin0 (fun t12 h13 => (guardSel true t4 ((aload false 1 h13 t12).bind fun t14 => kv0 t14 h13) (kv0 (.tuple []) h13)).bind (fin0 (fun t15 h16 => (guardSel true t4 (kv0 a2 h16) (kv0 (.tuple []) h16)).bind (fin0 (fun t17 h18 => (guardSel true t4 ((abin .add t15 t17).bind fun t19 => kv0 t19 h18) (kv0 (.tuple []) h18)).bind (fin0 (fun t20 h21 => (guardSel true t4 ((abin .neq t9 t20).bind fun t22 => kv0 t22 h21) (kv0 (.tuple []) h21)).bind (fin0 (fun t23 h24 => (apick t4 t23 (.bool false)).bind fun t25 => (guardSel false t25 ((afieldAt 1 t0).bind fun t26 => kv0 t26 h24) (kv0 (.tuple []) h24)).bind (fin0 (fun t27 h28 => (guardSel false t25 ((aload false 1 h28 t27).bind fun t29 => kv0 t29 h28) (kv0 (.tuple []) h28)).bind (fin0 (fun t30 h31 => (guardSel false t25 ((afieldAt 1 t2).bind fun t32 => kv0 t32 h31) (kv0 (.tuple []) h31)).bind (fin0 (fun t33 h34 => (guardSel false t25 ((aload false 1 h34 t33).bind fun t35 => kv0 t35 h34) (kv0 (.tuple []) h34)).bind (fin0 (fun t36 h37 => (guardSel false t25 ((abin .neq t30 t36).bind fun t38 => kv0 t38 h37) (kv0 (.tuple []) h37)).bind (fin0 (fun t39 h40 => (apick t25 (.bool true) t39).bind fun t41 => (guardSel false t41 ((afieldAt 3 t0).bind fun t42 => kv0 t42 h40) (kv0 (.tuple []) h40)).bind (fin0 (fun t43 h44 => (guardSel false t41 ((aload false 1 h44 t43).bind fun t45 => kv0 t45 h44) (kv0 (.tuple []) h44)).bind (fin0 (fun t46 h47 => (guardSel false t41 ((afieldAt 3 t2).bind fun t48 => kv0 t48 h47) (kv0 (.tuple []) h47)).bind (fin0 (fun t49 h50 => (guardSel false t41 ((aload false 1 h50 t49).bind fun t51 => kv0 t51 h50) (kv0 (.tuple []) h50)).bind (fin0 (fun t52 h53 => (guardSel false t41 ((abinB .neq t46 t52).bind fun t54 => kv0 t54 h53) (kv0 (.tuple []) h53)).bind (fin0 (fun t55 h56 => (apick t41 (.bool true) t55).bind fun t57 => (guardSel false t57 ((afieldAt 4 t0).bind fun t58 => kv0 t58 h56) (kv0 (.tuple []) h56)).bind (fin0 (fun t59 h60 => (guardSel false t57 ((aload true 3 h60 t59).bind fun t61 => kv0 t61 h60) (kv0 (.tuple []) h60)).bind (fin0 (fun t62 h63 => (guardSel false t57 ((afieldAt 4 t2).bind fun t64 => kv0 t64 h63) (kv0 (.tuple []) h63)).bind (fin0 (fun t65 h66 => (guardSel false t57 ((aload true 3 h66 t65).bind fun t67 => kv0 t67 h66) (kv0 (.tuple []) h66)).bind (fin0 (fun t68 h69 => (guardSel false t57 ((aeqAgg [.i, .i, .i] t62 t68).bind fun t70 => kv0 (.bool (!t70)) h69) (kv0 (.tuple []) h69)).bind (fin0 (fun t71 h72 => (apick t57 (.bool true) t71).bind fun t73 => (guardSel false t73 ((afieldAt 2 t0).bind fun t74 => kv0 t74 h72) (kv0 (.tuple []) h72)).bind (fin0 (fun t75 h76 => (guardSel false t73 ((aload false 1 h76 t75).bind fun t77 => kv0 t77 h76) (kv0 (.tuple []) h76)).bind (fin0 (fun t78 h79 => (guardSel false t73 ((alenSl t78).bind fun t80 => kv0 t80 h79) (kv0 (.tuple []) h79)).bind (fin0 (fun t81 h82 => (guardSel false t73 ((afieldAt 2 t2).bind fun t83 => kv0 t83 h82) (kv0 (.tuple []) h82)).bind (fin0 (fun t84 h85 => (guardSel false t73 ((aload false 1 h85 t84).bind fun t86 => kv0 t86 h85) (kv0 (.tuple []) h85)).bind (fin0 (fun t87 h88 => (guardSel false t73 ((alenSl t87).bind fun t89 => kv0 t89 h88) (kv0 (.tuple []) h88)).bind (fin0 (fun t90 h91 => (guardSel false t73 ((abin .neq t81 t90).bind fun t92 => kv0 t92 h91) (kv0 (.tuple []) h91)).bind (fin0 (fun t93 h94 => (apick t73 (.bool true) t93).bind fun t95 => acond t95 (some (.ret, [(.bool false)], h94)) ((lpW (m37_l0 K (List.length h94)) ([a2, t0, t2, (.bool false), (.int .i64 0)], h94)).bind fun r191 => (fun x2v193 x3v194 x4v195 x6v196 x7v197 h198 => Ex.thenDo r191.1 none (fun e192 => Ex.inBlock 0 e192 ((afieldAt 7 x3v194).bind fun t200 => (aload false 1 h198 t200).bind fun t201 => (afieldAt 7 x4v195).bind fun t202 => (aload false 1 h198 t202).bind fun t203 => bindRes (K 79 [(AVal.untok t201), (AVal.untok t203), (AVal.untok x2v193)] h198) (fun t204 h205 => some (.ret, [t204], h205)) (fun _ _ => none)) (fun e199 => some (e199, [x6v196], h198)))) (List.getD r191.2.1 0 .junk) (List.getD r191.2.1 1 .junk) (List.getD r191.2.1 2 .junk) (List.getD r191.2.1 3 .junk) (List.getD r191.2.1 4 .junk) r191.2.2)) (fun _ _ => none))) (fun _ _ => none))) (fun _ _ => none))) (fun _ _ => none))) (fun _ _ => none))) (fun _ _ => none))) (fun _ _ => none))) (fun _ _ => none))) (fun _ _ => none))) (fun _ _ => none))) (fun _ _ => none))) (fun _ _ => none))) (fun _ _ => none))) (fun _ _ => none))) (fun _ _ => none))) (fun _ _ => none))) (fun _ _ => none))) (fun _ _ => none))) (fun _ _ => none))) (fun _ _ => none))) (fun _ _ => none))) (fun _ _ => none))) (fun _ _ => none))) (fun _ _ => none))) (fun _ _ => none))) (fun _ _ => none))) (fun _ _ => none))) (fun _ _ => none))) (fun _ _ => none))).bind fun r206 => (fun x6v207 h208 => Ex.endF r206.1 (finR (List.length h0) x6v207 h208)) (List.getD r206.2.1 0 .junk) r206.2.2
theorem m37_eq (K : CallO) (a0 a1 a2 : AVal) (h0 : Heap) : evB Tryd.prog ann lpW K 37 [a0, a1, a2] h0 = m37 (callP ann K) a0 a1 a2 h0 := by kernel_rfl

/- hauberk/hauberkref12.SameStmts -/
noncomputable def m79_l0 (K : CallO) (m : Nat) (s : List AVal × Heap) : Option R :=
  (fun x0v3 x1v4 x2v5 x6v6 x7v7 h8 => (alenSl x0v3).bind fun t9 => (abin .lss x7v7 t9).bind fun t10 => acond t10 ((aindexSl 11 x0v3 x7v7).bind fun t11 => (afieldAt 0 t11).bind fun t12 => (aload false 1 h8 t12).bind fun t13 => (aindexSl 11 x1v4 x7v7).bind fun t14 => (afieldAt 0 t14).bind fun t15 => (aload false 1 h8 t15).bind fun t16 => (abin .neq t13 t16).bind fun t17 => (guardSel false t17 (kv0 x2v5 h8) (kv0 (.tuple []) h8)).bind (fin0 (fun t18 h19 => (guardSel false t17 ((abin .geq t18 (.int .i64 0)).bind fun t20 => kv0 t20 h19) (kv0 (.tuple []) h19)).bind (fin0 (fun t21 h22 => (guardSel false t17 (kv0 t21 h22) (kv0 (.tuple []) h22)).bind (fin0 (fun t23 h24 => (guardSel true t23 (kv0 x0v3 h24) (kv0 (.tuple []) h24)).bind (fin0 (fun t25 h26 => (guardSel true t23 (kv0 x7v7 h26) (kv0 (.tuple []) h26)).bind (fin0 (fun t27 h28 => (guardSel true t23 ((aindexSl 11 t25 t27).bind fun t29 => kv0 t29 h28) (kv0 (.tuple []) h28)).bind (fin0 (fun t30 h31 => (guardSel true t23 ((afieldAt 1 t30).bind fun t32 => kv0 t32 h31) (kv0 (.tuple []) h31)).bind (fin0 (fun t33 h34 => (guardSel true t23 ((aload false 1 h34 t33).bind fun t35 => kv0 t35 h34) (kv0 (.tuple []) h34)).bind (fin0 (fun t36 h37 => (guardSel true t23 (kv0 x1v4 h37) (kv0 (.tuple []) h37)).bind (fin0 (fun t38 h39 => (guardSel true t23 (kv0 x7v7 h39) (kv0 (.tuple []) h39)).bind (fin0 (fun t40 h41 => (guardSel true t23 ((aindexSl 11 t38 t40).bind fun t42 => kv0 t42 h41) (kv0 (.tuple []) h41)).bind (fin0 (fun t43 h44 => (guardSel true t23 ((afieldAt 1 t43).bind fun t45 => kv0 t45 h44) (kv0 (.tuple []) h44)).bind (fin0 (fun t46 h47 => (guardSel true t23 ((aload false 1 h47 t46).bind fun t48 => kv0 t48 h47) (kv0 (.tuple []) h47)).bind (fin0 (fun t49 h50 => (guardSel true t23 (kv0 x2v5 h50) (kv0 (.tuple []) h50)).bind (fin0 (fun t51 h52 => (guardSel true t23 ((abin .add t49 t51).bind fun t53 => kv0 t53 h52) (kv0 (.tuple []) h52)).bind (fin0 (fun t54 h55 => (guardSel true t23 ((abin .neq t36 t54).bind fun t56 => kv0 t56 h55) (kv0 (.tuple []) h55)).bind (fin0 (fun t57 h58 => (guardSel false t17 ((apick t23 t57 (.bool false)).bind fun t59 => kv0 t59 h58) (kv0 (.tuple []) h58)).bind (fin0 (fun t60 h61 => (apick t17 (.bool true) t60).bind fun t62 => (guardSel false t62 (kv0 x0v3 h61) (kv0 (.tuple []) h61)).bind (fin0 (fun t63 h64 => (guardSel false t62 (kv0 x7v7 h64) (kv0 (.tuple []) h64)).bind (fin0 (fun t65 h66 => (guardSel false t62 ((aindexSl 11 t63 t65).bind fun t67 => kv0 t67 h66) (kv0 (.tuple []) h66)).bind (fin0 (fun t68 h69 => (guardSel false t62 ((afieldAt 2 t68).bind fun t70 => kv0 t70 h69) (kv0 (.tuple []) h69)).bind (fin0 (fun t71 h72 => (guardSel false t62 ((aload false 1 h72 t71).bind fun t73 => kv0 t73 h72) (kv0 (.tuple []) h72)).bind (fin0 (fun t74 h75 => (guardSel false t62 (kv0 x1v4 h75) (kv0 (.tuple []) h75)).bind (fin0 (fun t76 h77 => (guardSel false t62 (kv0 x7v7 h77) (kv0 (.tuple []) h77)).bind (fin0 (fun t78 h79 => (guardSel false t62 ((aindexSl 11 t76 t78).bind fun t80 => kv0 t80 h79) (kv0 (.tuple []) h79)).bind (fin0 (fun t81 h82 => (guardSel false t62 ((afieldAt 2 t81).bind fun t83 => kv0 t83 h82) (kv0 (.tuple []) h82)).bind (fin0 (fun t84 h85 => (guardSel false t62 ((aload false 1 h85 t84).bind fun t86 => kv0 t86 h85) (kv0 (.tuple []) h85)).bind (fin0 (fun t87 h88 => (guardSel false t62 ((abin .neq t74 t87).bind fun t89 => kv0 t89 h88) (kv0 (.tuple []) h88)).bind (fin0 (fun t90 h91 => (apick t62 (.bool true) t90).bind fun t92 => (guardSel false t92 (kv0 x0v3 h91) (kv0 (.tuple []) h91)).bind (fin0 (fun t93 h94 => (guardSel false t92 (kv0 x7v7 h94) (kv0 (.tuple []) h94)).bind (fin0 (fun t95 h96 => (guardSel false t92 ((aindexSl 11 t93 t95).bind fun t97 => kv0 t97 h96) (kv0 (.tuple []) h96)).bind (fin0 (fun t98 h99 => (guardSel false t92 ((afieldAt 3 t98).bind fun t100 => kv0 t100 h99) (kv0 (.tuple []) h99)).bind (fin0 (fun t101 h102 => (guardSel false t92 ((aload false 1 h102 t101).bind fun t103 => kv0 t103 h102) (kv0 (.tuple []) h102)).bind (fin0 (fun t104 h105 => (guardSel false t92 (kv0 x1v4 h105) (kv0 (.tuple []) h105)).bind (fin0 (fun t106 h107 => (guardSel false t92 (kv0 x7v7 h107) (kv0 (.tuple []) h107)).bind (fin0 (fun t108 h109 => (guardSel false t92 ((aindexSl 11 t106 t108).bind fun t110 => kv0 t110 h109) (kv0 (.tuple []) h109)).bind (fin0 (fun t111 h112 => (guardSel false t92 ((afieldAt 3 t111).bind fun t113 => kv0 t113 h112) (kv0 (.tuple []) h112)).bind (fin0 (fun t114 h115 => (guardSel false t92 ((aload false 1 h115 t114).bind fun t116 => kv0 t116 h115) (kv0 (.tuple []) h115)).bind (fin0 (fun t117 h118 => (guardSel false t92 ((abin .neq t104 t117).bind fun t119 => kv0 t119 h118) (kv0 (.tuple []) h118)).bind (fin0 (fun t120 h121 => (apick t92 (.bool true) t120).bind fun t122 => (guardSel false t122 (kv0 x0v3 h121) (kv0 (.tuple []) h121)).bind (fin0 (fun t123 h124 => (guardSel false t122 (kv0 x7v7 h124) (kv0 (.tuple []) h124)).bind (fin0 (fun t125 h126 => (guardSel false t122 ((aindexSl 11 t123 t125).bind fun t127 => kv0 t127 h126) (kv0 (.tuple []) h126)).bind (fin0 (fun t128 h129 => (guardSel false t122 ((afieldAt 4 t128).bind fun t130 => kv0 t130 h129) (kv0 (.tuple []) h129)).bind (fin0 (fun t131 h132 => (guardSel false t122 ((aload true 3 h132 t131).bind fun t133 => kv0 t133 h132) (kv0 (.tuple []) h132)).bind (fin0 (fun t134 h135 => (guardSel false t122 (kv0 x1v4 h135) (kv0 (.tuple []) h135)).bind (fin0 (fun t136 h137 => (guardSel false t122 (kv0 x7v7 h137) (kv0 (.tuple []) h137)).bind (fin0 (fun t138 h139 => (guardSel false t122 ((aindexSl 11 t136 t138).bind fun t140 => kv0 t140 h139) (kv0 (.tuple []) h139)).bind (fin0 (fun t141 h142 => (guardSel false t122 ((afieldAt 4 t141).bind fun t143 => kv0 t143 h142) (kv0 (.tuple []) h142)).bind (fin0 (fun t144 h145 => (guardSel false t122 ((aload true 3 h145 t144).bind fun t146 => kv0 t146 h145) (kv0 (.tuple []) h145)).bind (fin0 (fun t147 h148 => (guardSel false t122 ((aeqAgg [.i, .i, .i] t134 t147).bind fun t149 => kv0 (.bool (!t149)) h148) (kv0 (.tuple []) h148)).bind (fin0 (fun t150 h151 => (apick t122 (.bool true) t150).bind fun t152 => (guardSel false t152 (kv0 x0v3 h151) (kv0 (.tuple []) h151)).bind (fin0 (fun t153 h154 => (guardSel false t152 (kv0 x7v7 h154) (kv0 (.tuple []) h154)).bind (fin0 (fun t155 h156 => (guardSel false t152 ((aindexSl 11 t153 t155).bind fun t157 => kv0 t157 h156) (kv0 (.tuple []) h156)).bind (fin0 (fun t158 h159 => (guardSel false t152 ((afieldAt 10 t158).bind fun t160 => kv0 t160 h159) (kv0 (.tuple []) h159)).bind (fin0 (fun t161 h162 => (guardSel false t152 ((aload false 1 h162 t161).bind fun t163 => kv0 t163 h162) (kv0 (.tuple []) h162)).bind (fin0 (fun t164 h165 => (guardSel false t152 (kv0 x1v4 h165) (kv0 (.tuple []) h165)).bind (fin0 (fun t166 h167 => (guardSel false t152 (kv0 x7v7 h167) (kv0 (.tuple []) h167)).bind (fin0 (fun t168 h169 => (guardSel false t152 ((aindexSl 11 t166 t168).bind fun t170 => kv0 t170 h169) (kv0 (.tuple []) h169)).bind (fin0 (fun t171 h172 => (guardSel false t152 ((afieldAt 10 t171).bind fun t173 => kv0 t173 h172) (kv0 (.tuple []) h172)).bind (fin0 (fun t174 h175 => (guardSel false t152 ((aload false 1 h175 t174).bind fun t176 => kv0 t176 h175) (kv0 (.tuple []) h175)).bind (fin0 (fun t177 h178 => (guardSel false t152 ((abinB .neq t164 t177).bind fun t179 => kv0 t179 h178) (kv0 (.tuple []) h178)).bind (fin0 (fun t180 h181 => (apick t152 (.bool true) t180).bind fun t182 => acond t182 (endR m .ret [x0v3, x1v4, x2v5, (.bool false), x7v7] h181) ((aindexSl 11 x0v3 x7v7).bind fun t183 => (afieldAt 7 t183).bind fun t184 => (aload false 1 h181 t184).bind fun t185 => (aindexSl 11 x1v4 x7v7).bind fun t186 => (afieldAt 7 t186).bind fun t187 => (aload false 1 h181 t187).bind fun t188 => bindRes (K 155 [(AVal.untok t185), (AVal.untok t188), (AVal.untok x2v5)] h181) (fun t189 h190 => (aun .not t189).bind fun t191 => (guardSel false t191 (kv0 x0v3 h190) (kv0 (.tuple []) h190)).bind (fin0 (fun t192 h193 => (guardSel false t191 (kv0 x7v7 h193) (kv0 (.tuple []) h193)).bind (fin0 (fun t194 h195 => (guardSel false t191 ((aindexSl 11 t192 t194).bind fun t196 => kv0 t196 h195) (kv0 (.tuple []) h195)).bind (fin0 (fun t197 h198 => (guardSel false t191 ((afieldAt 8 t197).bind fun t199 => kv0 t199 h198) (kv0 (.tuple []) h198)).bind (fin0 (fun t200 h201 => (guardSel false t191 ((aload false 1 h201 t200).bind fun t202 => kv0 t202 h201) (kv0 (.tuple []) h201)).bind (fin0 (fun t203 h204 => (guardSel false t191 (kv0 x1v4 h204) (kv0 (.tuple []) h204)).bind (fin0 (fun t205 h206 => (guardSel false t191 (kv0 x7v7 h206) (kv0 (.tuple []) h206)).bind (fin0 (fun t207 h208 => (guardSel false t191 ((aindexSl 11 t205 t207).bind fun t209 => kv0 t209 h208) (kv0 (.tuple []) h208)).bind (fin0 (fun t210 h211 => (guardSel false t191 ((afieldAt 8 t210).bind fun t212 => kv0 t212 h211) (kv0 (.tuple []) h211)).bind (fin0 (fun t213 h214 => (guardSel false t191 ((aload false 1 h214 t213).bind fun t215 => kv0 t215 h214) (kv0 (.tuple []) h214)).bind (fin0 (fun t216 h217 => (guardSel false t191 (kv0 x2v5 h217) (kv0 (.tuple []) h217)).bind (fin0 (fun t218 h219 => (guardSel false t191 (bindRes (K 79 [(AVal.untok t203), (AVal.untok t216), (AVal.untok t218)] h219) (fun t220 h221 => kv0 t220 h221) kp0) (kv0 (.tuple []) h219)).bind (fin0 (fun t222 h223 => (guardSel false t191 ((aun .not t222).bind fun t224 => kv0 t224 h223) (kv0 (.tuple []) h223)).bind (fin0 (fun t225 h226 => (apick t191 (.bool true) t225).bind fun t227 => (guardSel false t227 (kv0 x0v3 h226) (kv0 (.tuple []) h226)).bind (fin0 (fun t228 h229 => (guardSel false t227 (kv0 x7v7 h229) (kv0 (.tuple []) h229)).bind (fin0 (fun t230 h231 => (guardSel false t227 ((aindexSl 11 t228 t230).bind fun t232 => kv0 t232 h231) (kv0 (.tuple []) h231)).bind (fin0 (fun t233 h234 => (guardSel false t227 ((afieldAt 9 t233).bind fun t235 => kv0 t235 h234) (kv0 (.tuple []) h234)).bind (fin0 (fun t236 h237 => (guardSel false t227 ((aload false 1 h237 t236).bind fun t238 => kv0 t238 h237) (kv0 (.tuple []) h237)).bind (fin0 (fun t239 h240 => (guardSel false t227 (kv0 x1v4 h240) (kv0 (.tuple []) h240)).bind (fin0 (fun t241 h242 => (guardSel false t227 (kv0 x7v7 h242) (kv0 (.tuple []) h242)).bind (fin0 (fun t243 h244 => (guardSel false t227 ((aindexSl 11 t241 t243).bind fun t245 => kv0 t245 h244) (kv0 (.tuple []) h244)).bind (fin0 (fun t246 h247 => (guardSel false t227 ((afieldAt 9 t246).bind fun t248 => kv0 t248 h247) (kv0 (.tuple []) h247)).bind (fin0 (fun t249 h250 => (guardSel false t227 ((aload false 1 h250 t249).bind fun t251 => kv0 t251 h250) (kv0 (.tuple []) h250)).bind (fin0 (fun t252 h253 => (guardSel false t227 (kv0 x2v5 h253) (kv0 (.tuple []) h253)).bind (fin0 (fun t254 h255 => (guardSel false t227 (bindRes (K 79 [(AVal.untok t239), (AVal.untok t252), (AVal.untok t254)] h255) (fun t256 h257 => kv0 t256 h257) kp0) (kv0 (.tuple []) h255)).bind (fin0 (fun t258 h259 => (guardSel false t227 ((aun .not t258).bind fun t260 => kv0 t260 h259) (kv0 (.tuple []) h259)).bind (fin0 (fun t261 h262 => (apick t227 (.bool true) t261).bind fun t263 => acond t263 (endR m .ret [x0v3, x1v4, x2v5, (.bool false), x7v7] h262) ((abin .add x7v7 (.int .i64 1)).bind fun t264 => endR m .normal [x0v3, x1v4, x2v5, x6v6, t264] h262)) (fun _ _ => none))) (fun _ _ => none))) (fun _ _ => none))) (fun _ _ => none))) (fun _ _ => none))) (fun _ _ => none))) (fun _ _ => none))) (fun _ _ => none))) (fun _ _ => none))) (fun _ _ => none))) (fun _ _ => none))) (fun _ _ => none))) (fun _ _ => none))) (fun _ _ => none))) (fun _ _ => none))) (fun _ _ => none))) (fun _ _ => none))) (fun _ _ => none))) (fun _ _ => none))) (fun _ _ => none))) (fun _ _ => none))) (fun _ _ => none))) (fun _ _ => none))) (fun _ _ => none))) (fun _ _ => none))) (fun _ _ => none))) (fun _ _ => none))) (fun _ _ => none))) (fun _ _ => none))) (fun _ _ => none))) (fun _ _ => none))) (fun _ _ => none))) (fun _ _ => none))) (fun _ _ => none))) (fun _ _ => none))) (fun _ _ => none))) (fun _ _ => none))) (fun _ _ => none))) (fun _ _ => none))) (fun _ _ => none))) (fun _ _ => none))) (fun _ _ => none))) (fun _ _ => none))) (fun _ _ => none))) (fun _ _ => none))) (fun _ _ => none))) (fun _ _ => none))) (fun _ _ => none))) (fun _ _ => none))) (fun _ _ => none))) (fun _ _ => none))) (fun _ _ => none))) (fun _ _ => none))) (fun _ _ => none))) (fun _ _ => none))) (fun _ _ => none))) (fun _ _ => none))) (fun _ _ => none))) (fun _ _ => none))) (fun _ _ => none))) (fun _ _ => none))) (fun _ _ => none))) (fun _ _ => none))) (fun _ _ => none))) (fun _ _ => none))) (fun _ _ => none))) (fun _ _ => none))) (fun _ _ => none))) (fun _ _ => none))) (fun _ _ => none))) (fun _ _ => none))) (fun _ _ => none))) (fun _ _ => none))) (fun _ _ => none))) (fun _ _ => none))) (fun _ _ => none))) (fun _ _ => none))) (fun _ _ => none))) (fun _ _ => none))) (fun _ _ => none))) (fun _ _ => none))) (fun _ _ => none))) (fun _ _ => none))) (fun _ _ => none))) (fun _ _ => none))) (fun _ _ => none))) (fun _ _ => none))) (fun _ _ => none))) (endR m (.exit 0) [x0v3, x1v4, x2v5, x6v6, x7v7] h8)) (List.getD s.1 0 .junk) (List.getD s.1 1 .junk) (List.getD s.1 2 .junk) (List.getD s.1 3 .junk) (List.getD s.1 4 .junk) s.2
noncomputable def m79 (K : CallO) (a0 a1 a2 : AVal) (h0 : Heap) : Option (Res × Heap) :=
  ((alenSl a0).bind fun t0 => (alenSl a1).bind fun t1 => (abin .neq t0 t1).bind fun t2 => acond t2 (some (.ret, [(.bool false)], h0)) ((lpW (m79_l0 K (List.length h0)) ([a0, a1, a2, (.bool false), (.int .i64 0)], h0)).bind fun r265 => (fun x0v267 x1v268 x2v269 x6v270 x7v271 h272 => Ex.thenDo r265.1 none (fun e266 => Ex.inBlock 0 e266 (some (.ret, [(.bool true)], h272)) (fun e273 => some (e273, [x6v270], h272)))) (List.getD r265.2.1 0 .junk) (List.getD r265.2.1 1 .junk) (List.getD r265.2.1 2 .junk) (List.getD r265.2.1 3 .junk) (List.getD r265.2.1 4 .junk) r265.2.2)).bind fun r274 => (fun x6v275 h276 => Ex.endF r274.1 (finR (List.length h0) x6v275 h276)) (List.getD r274.2.1 0 .junk) r274.2.2
theorem m79_eq (K : CallO) (a0 a1 a2 : AVal) (h0 : Heap) : evB Tryd.prog ann lpW K 79 [a0, a1, a2] h0 = m79 (callP ann K) a0 a1 a2 h0 := by kernel_rfl

/- hauberk/hauberkref12.SameExprs -/
noncomputable def m155_l0 (K : CallO) (m : Nat) (s : List AVal × Heap) : Option R :=
  (fun x0v3 x1v4 x2v5 x6v6 x7v7 h8 => (alenSl x0v3).bind fun t9 => (abin .lss x7v7 t9).bind fun t10 => acond t10 ((aindexSl 5 x0v3 x7v7).bind fun t11 => (afieldAt 0 t11).bind fun t12 => (aload false 1 h8 t12).bind fun t13 => (aindexSl 5 x1v4 x7v7).bind fun t14 => (afieldAt 0 t14).bind fun t15 => (aload false 1 h8 t15).bind fun t16 => (abin .neq t13 t16).bind fun t17 => (guardSel false t17 (kv0 x2v5 h8) (kv0 (.tuple []) h8)).bind (fin0 (fun t18 h19 => (guardSel false t17 ((abin .geq t18 (.int .i64 0)).bind fun t20 => kv0 t20 h19) (kv0 (.tuple []) h19)).bind (fin0 (fun t21 h22 => (guardSel false t17 (kv0 t21 h22) (kv0 (.tuple []) h22)).bind (fin0 (fun t23 h24 => (guardSel true t23 (kv0 x0v3 h24) (kv0 (.tuple []) h24)).bind (fin0 (fun t25 h26 => (guardSel true t23 (kv0 x7v7 h26) (kv0 (.tuple []) h26)).bind (fin0 (fun t27 h28 => (guardSel true t23 ((aindexSl 5 t25 t27).bind fun t29 => kv0 t29 h28) (kv0 (.tuple []) h28)).bind (fin0 (fun t30 h31 => (guardSel true t23 ((afieldAt 1 t30).bind fun t32 => kv0 t32 h31) (kv0 (.tuple []) h31)).bind (fin0 (fun t33 h34 => (guardSel true t23 ((aload false 1 h34 t33).bind fun t35 => kv0 t35 h34) (kv0 (.tuple []) h34)).bind (fin0 (fun t36 h37 => (guardSel true t23 (kv0 x1v4 h37) (kv0 (.tuple []) h37)).bind (fin0 (fun t38 h39 => (guardSel true t23 (kv0 x7v7 h39) (kv0 (.tuple []) h39)).bind (fin0 (fun t40 h41 => (guardSel true t23 ((aindexSl 5 t38 t40).bind fun t42 => kv0 t42 h41) (kv0 (.tuple []) h41)).bind (fin0 (fun t43 h44 => (guardSel true t23 ((afieldAt 1 t43).bind fun t45 => kv0 t45 h44) (kv0 (.tuple []) h44)).bind (fin0 (fun t46 h47 => (guardSel true t23 ((aload false 1 h47 t46).bind fun t48 => kv0 t48 h47) (kv0 (.tuple []) h47)).bind (fin0 (fun t49 h50 => (guardSel true t23 (kv0 x2v5 h50) (kv0 (.tuple []) h50)).bind (fin0 (fun t51 h52 => (guardSel true t23 ((abin .add t49 t51).bind fun t53 => kv0 t53 h52) (kv0 (.tuple []) h52)).bind (fin0 (fun t54 h55 => (guardSel true t23 ((abin .neq t36 t54).bind fun t56 => kv0 t56 h55) (kv0 (.tuple []) h55)).bind (fin0 (fun t57 h58 => (guardSel false t17 ((apick t23 t57 (.bool false)).bind fun t59 => kv0 t59 h58) (kv0 (.tuple []) h58)).bind (fin0 (fun t60 h61 => (apick t17 (.bool true) t60).bind fun t62 => (guardSel false t62 (kv0 x0v3 h61) (kv0 (.tuple []) h61)).bind (fin0 (fun t63 h64 => (guardSel false t62 (kv0 x7v7 h64) (kv0 (.tuple []) h64)).bind (fin0 (fun t65 h66 => (guardSel false t62 ((aindexSl 5 t63 t65).bind fun t67 => kv0 t67 h66) (kv0 (.tuple []) h66)).bind (fin0 (fun t68 h69 => (guardSel false t62 ((afieldAt 2 t68).bind fun t70 => kv0 t70 h69) (kv0 (.tuple []) h69)).bind (fin0 (fun t71 h72 => (guardSel false t62 ((aload false 1 h72 t71).bind fun t73 => kv0 t73 h72) (kv0 (.tuple []) h72)).bind (fin0 (fun t74 h75 => (guardSel false t62 (kv0 x1v4 h75) (kv0 (.tuple []) h75)).bind (fin0 (fun t76 h77 => (guardSel false t62 (kv0 x7v7 h77) (kv0 (.tuple []) h77)).bind (fin0 (fun t78 h79 => (guardSel false t62 ((aindexSl 5 t76 t78).bind fun t80 => kv0 t80 h79) (kv0 (.tuple []) h79)).bind (fin0 (fun t81 h82 => (guardSel false t62 ((afieldAt 2 t81).bind fun t83 => kv0 t83 h82) (kv0 (.tuple []) h82)).bind (fin0 (fun t84 h85 => (guardSel false t62 ((aload false 1 h85 t84).bind fun t86 => kv0 t86 h85) (kv0 (.tuple []) h85)).bind (fin0 (fun t87 h88 => (guardSel false t62 ((abin .neq t74 t87).bind fun t89 => kv0 t89 h88) (kv0 (.tuple []) h88)).bind (fin0 (fun t90 h91 => (apick t62 (.bool true) t90).bind fun t92 => (guardSel false t92 (kv0 x0v3 h91) (kv0 (.tuple []) h91)).bind (fin0 (fun t93 h94 => (guardSel false t92 (kv0 x7v7 h94) (kv0 (.tuple []) h94)).bind (fin0 (fun t95 h96 => (guardSel false t92 ((aindexSl 5 t93 t95).bind fun t97 => kv0 t97 h96) (kv0 (.tuple []) h96)).bind (fin0 (fun t98 h99 => (guardSel false t92 ((afieldAt 3 t98).bind fun t100 => kv0 t100 h99) (kv0 (.tuple []) h99)).bind (fin0 (fun t101 h102 => (guardSel false t92 ((aload false 1 h102 t101).bind fun t103 => kv0 t103 h102) (kv0 (.tuple []) h102)).bind (fin0 (fun t104 h105 => (guardSel false t92 (kv0 x1v4 h105) (kv0 (.tuple []) h105)).bind (fin0 (fun t106 h107 => (guardSel false t92 (kv0 x7v7 h107) (kv0 (.tuple []) h107)).bind (fin0 (fun t108 h109 => (guardSel false t92 ((aindexSl 5 t106 t108).bind fun t110 => kv0 t110 h109) (kv0 (.tuple []) h109)).bind (fin0 (fun t111 h112 => (guardSel false t92 ((afieldAt 3 t111).bind fun t113 => kv0 t113 h112) (kv0 (.tuple []) h112)).bind (fin0 (fun t114 h115 => (guardSel false t92 ((aload false 1 h115 t114).bind fun t116 => kv0 t116 h115) (kv0 (.tuple []) h115)).bind (fin0 (fun t117 h118 => (guardSel false t92 ((abin .neq t104 t117).bind fun t119 => kv0 t119 h118) (kv0 (.tuple []) h118)).bind (fin0 (fun t120 h121 => (apick t92 (.bool true) t120).bind fun t122 => (guardSel false t122 (kv0 x0v3 h121) (kv0 (.tuple []) h121)).bind (fin0 (fun t123 h124 => (guardSel false t122 (kv0 x7v7 h124) (kv0 (.tuple []) h124)).bind (fin0 (fun t125 h126 => (guardSel false t122 ((aindexSl 5 t123 t125).bind fun t127 => kv0 t127 h126) (kv0 (.tuple []) h126)).bind (fin0 (fun t128 h129 => (guardSel false t122 ((afieldAt 4 t128).bind fun t130 => kv0 t130 h129) (kv0 (.tuple []) h129)).bind (fin0 (fun t131 h132 => (guardSel false t122 ((aload false 1 h132 t131).bind fun t133 => kv0 t133 h132) (kv0 (.tuple []) h132)).bind (fin0 (fun t134 h135 => (guardSel false t122 (kv0 x1v4 h135) (kv0 (.tuple []) h135)).bind (fin0 (fun t136 h137 => (guardSel false t122 (kv0 x7v7 h137) (kv0 (.tuple []) h137)).bind (fin0 (fun t138 h139 => (guardSel false t122 ((aindexSl 5 t136 t138).bind fun t140 => kv0 t140 h139) (kv0 (.tuple []) h139)).bind (fin0 (fun t141 h142 => (guardSel false t122 ((afieldAt 4 t141).bind fun t143 => kv0 t143 h142) (kv0 (.tuple []) h142)).bind (fin0 (fun t144 h145 => (guardSel false t122 ((aload false 1 h145 t144).bind fun t146 => kv0 t146 h145) (kv0 (.tuple []) h145)).bind (fin0 (fun t147 h148 => (guardSel false t122 (kv0 x2v5 h148) (kv0 (.tuple []) h148)).bind (fin0 (fun t149 h150 => (guardSel false t122 (bindRes (K 155 [(AVal.untok t134), (AVal.untok t147), (AVal.untok t149)] h150) (fun t151 h152 => kv0 t151 h152) kp0) (kv0 (.tuple []) h150)).bind (fin0 (fun t153 h154 => (guardSel false t122 ((aun .not t153).bind fun t155 => kv0 t155 h154) (kv0 (.tuple []) h154)).bind (fin0 (fun t156 h157 => (apick t122 (.bool true) t156).bind fun t158 => acond t158 (endR m .ret [x0v3, x1v4, x2v5, (.bool false), x7v7] h157) ((abin .add x7v7 (.int .i64 1)).bind fun t159 => endR m .normal [x0v3, x1v4, x2v5, x6v6, t159] h157)) (fun _ _ => none))) (fun _ _ => none))) (fun _ _ => none))) (fun _ _ => none))) (fun _ _ => none))) (fun _ _ => none))) (fun _ _ => none))) (fun _ _ => none))) (fun _ _ => none))) (fun _ _ => none))) (fun _ _ => none))) (fun _ _ => none))) (fun _ _ => none))) (fun _ _ => none))) (fun _ _ => none))) (fun _ _ => none))) (fun _ _ => none))) (fun _ _ => none))) (fun _ _ => none))) (fun _ _ => none))) (fun _ _ => none))) (fun _ _ => none))) (fun _ _ => none))) (fun _ _ => none))) (fun _ _ => none))) (fun _ _ => none))) (fun _ _ => none))) (fun _ _ => none))) (fun _ _ => none))) (fun _ _ => none))) (fun _ _ => none))) (fun _ _ => none))) (fun _ _ => none))) (fun _ _ => none))) (fun _ _ => none))) (fun _ _ => none))) (fun _ _ => none))) (fun _ _ => none))) (fun _ _ => none))) (fun _ _ => none))) (fun _ _ => none))) (fun _ _ => none))) (fun _ _ => none))) (fun _ _ => none))) (fun _ _ => none))) (fun _ _ => none))) (fun _ _ => none))) (fun _ _ => none))) (fun _ _ => none))) (fun _ _ => none))) (fun _ _ => none))) (fun _ _ => none))) (endR m (.exit 0) [x0v3, x1v4, x2v5, x6v6, x7v7] h8)) (List.getD s.1 0 .junk) (List.getD s.1 1 .junk) (List.getD s.1 2 .junk) (List.getD s.1 3 .junk) (List.getD s.1 4 .junk) s.2
noncomputable def m155 (K : CallO) (a0 a1 a2 : AVal) (h0 : Heap) : Option (Res × Heap) :=
  ((alenSl a0).bind fun t0 => (alenSl a1).bind fun t1 => (abin .neq t0 t1).bind fun t2 => acond t2 (some (.ret, [(.bool false)], h0)) ((lpW (m155_l0 K (List.length h0)) ([a0, a1, a2, (.bool false), (.int .i64 0)], h0)).bind fun r160 => (fun x0v162 x1v163 x2v164 x6v165 x7v166 h167 => Ex.thenDo r160.1 none (fun e161 => Ex.inBlock 0 e161 (some (.ret, [(.bool true)], h167)) (fun e168 => some (e168, [x6v165], h167)))) (List.getD r160.2.1 0 .junk) (List.getD r160.2.1 1 .junk) (List.getD r160.2.1 2 .junk) (List.getD r160.2.1 3 .junk) (List.getD r160.2.1 4 .junk) r160.2.2)).bind fun r169 => (fun x6v170 h171 => Ex.endF r169.1 (finR (List.length h0) x6v170 h171)) (List.getD r169.2.1 0 .junk) r169.2.2
theorem m155_eq (K : CallO) (a0 a1 a2 : AVal) (h0 : Heap) : evB Tryd.prog ann lpW K 155 [a0, a1, a2] h0 = m155 (callP ann K) a0 a1 a2 h0 := by kernel_rfl

end Go.Proofs.YtkeoalhglkfbkaaDoor

/-
  The parser's block, its tokens and its panics: definitions and tools. No conditions.
-/
namespace Go.Proofs.YtkeoalhglkfbkaaDoor
open Go Hk

def PB (L : List Token) (at_ deep : Nat) : ABlk := .cells [.slice (L.map Token.cells) .no, .int .i64 (at_ : Int), .int .i64 (deep : Int)]

theorem tok_ok (t : Token) : ∀ x ∈ t.cells, x.cellOk = true := by intro x hx; simp [Token.cells] at hx; rcases hx with rfl | rfl | rfl | rfl <;> rfl
theorem tok_ok2 (t : Token) : (∀ x, x ∈ t.cells → x.cellOk = true) = True := eq_true (tok_ok t)
theorem keep_tok (t : Token) (m : Nat) (h : Heap) : t.cells.map (AVal.untok1 ∘ fun x => AVal.san1 m h x) = t.cells := (rfl)
theorem san_tok (t : Token) (m : Nat) (h : Heap) : AVal.san m h (.agg t.cells) = .agg t.cells := rfl
theorem untok_tok (t : Token) : AVal.untok (.agg t.cells) = .agg t.cells := rfl
@[simp] theorem tok_nonil (t : Token) (h : Heap) (os : List AVal) : keepTok h os t.cells = t.cells := keepTok_none (by intro c hc; simp [Token.cells] at hc; rcases hc with rfl | rfl | rfl | rfl <;> rfl)

/-- Is a word or sign next? -/
def isS (t : Token) (w : List UInt8) : Bool := (decide (t.kind = 3) || decide (t.kind = 4)) && decide (t.text = w)

def wrongV (e pos : Nat) : AVal := .iface 137 (.agg [.int .i64 (e : Int), .int .i64 (pos : Int)])
theorem wrong_keep {m : Nat} {h : Heap} {e p : Int} : (AVal.san m h (.iface 137 (.agg [.int .i64 e, .int .i64 p]))).untok = .iface 137 (.agg [.int .i64 e, .int .i64 p]) := (rfl)
def secS : List UInt8 := [115, 101, 99]
def pubS : List UInt8 := [112, 117, 98]
def maskS : List UInt8 := [109, 97, 115, 107]
def u32S : List UInt8 := [117, 51, 50]
theorem int3_keep {m : Nat} {h : Heap} {x y z : Int} : (AVal.san m h (.agg [.int .i64 x, .int .i64 y, .int .i64 z])).untok = .agg [.int .i64 x, .int .i64 y, .int .i64 z] := (rfl)
end Go.Proofs.YtkeoalhglkfbkaaDoor

/-
  The parser as a plain function: what it answers, at which token it stands, and how deep it is. No conditions.
-/
namespace Go.Proofs.YtkeoalhglkfbkaaDoor
open Go Hk

structure Ty where
  elem : Nat
  len : Nat
  label : Nat
  deriving DecidableEq
structure XP where
  pos : Nat
  name : List UInt8
  ty : Ty
  out : Bool
inductive XE where
  | mk (kind pos num : Nat) (name : List UInt8) (args : List XE)
inductive XS where
  | mk (kind pos most : Nat) (name : List UInt8) (ty : Ty) (args : List XE) (body els : List XS) (has : Bool)
structure XF where
  pos : Nat
  name : List UInt8
  params : List XP
  has : Bool
  result : Ty
  body : List XS

/-- How a piece of parsing ends: an answer, or an error at a place; at which token, and how deep. -/
inductive Out (α : Type) where
  | ok (v : α) (at_ deep : Nat)
  | bad (e pos at_ deep : Nat)

def PM (α : Type) : Type := Nat → Nat → Out α
def PM.bind {α β : Type} (x : PM α) (f : α → PM β) : PM β := fun a d => match x a d with
  | .ok v a' d' => f v a' d'
  | .bad e p a' d' => .bad e p a' d'
instance : Monad PM where
  pure v := fun a d => .ok v a d
  bind := PM.bind

theorem pm_bind {α β : Type} {x : PM α} {f : α → PM β} : x >>= f = PM.bind x f := rfl
theorem pm_pure {α : Type} {v : α} {a d : Nat} : (pure v : PM α) a d = .ok v a d := rfl

def tk (L : List Token) (a : Nat) : Token := (L[a]?).getD ⟨0, 0, 0, []⟩

section
variable (L : List Token)

def pFail {α : Type} (e : Nat) : PM α := fun a d => .bad e (tk L a).pos a d
def pHere : PM Token := fun a d => .ok (tk L a) a d
def pNext : PM Unit := fun a d => .ok () (a + 1) d
def pUp : PM Unit := fun a d => .ok () a (d - 1)
def pIs (w : List UInt8) : PM Bool := fun a d => .ok (isS (tk L a) w) a d
def pMaybe (w : List UInt8) : PM Bool := fun a d => .ok (isS (tk L a) w) (if isS (tk L a) w then a + 1 else a) d
def pTake (w : List UInt8) : PM Unit := fun a d => if isS (tk L a) w then .ok () (a + 1) d else .bad 10 (tk L a).pos a d
def pKind (k : Nat) : PM Token := fun a d => if (tk L a).kind = k then .ok (tk L a) (a + 1) d else .bad 10 (tk L a).pos a d
def pOpen (w : List UInt8) : PM Unit := fun a d =>
  if isS (tk L a) w then (if d = 64 then .bad 11 (tk L a).pos a d else .ok () (a + 1) (d + 1)) else .bad 10 (tk L a).pos a d
def pShut (w : List UInt8) : PM Unit := fun a d => if isS (tk L a) w then .ok () (a + 1) (d - 1) else .bad 10 (tk L a).pos a d

def pLabel : PM Nat := fun a d =>
  if isS (tk L a) secS then .ok 1 (a + 1) d else if isS (tk L a) pubS then .ok 0 (a + 1) d else .bad 10 (tk L a).pos a d
def pScalar (l : Nat) : PM Ty := fun a d =>
  if isS (tk L a) maskS then .ok ⟨1, 0, l⟩ (a + 1) d else if isS (tk L a) u32S then .ok ⟨0, 0, l⟩ (a + 1) d else .bad 10 (tk L a).pos a d
def pMany : PM Nat := do
  pTake L [91]
  let t ← pHere L
  if t.kind = 2 ∧ t.num = 0 then pFail L 10
  else
    let n ← pKind L 2
    pTake L [93]
    return n.num
def pKinds (l : Nat) : PM Ty := do
  if ← pMaybe L [117, 56] then
    let n ← pMany L
    return ⟨2, n, l⟩
  else
    let t ← pScalar L l
    if t.elem = 0 then
      if ← pIs L [91] then
        let n ← pMany L
        return { t with len := n }
      else return t
    else return t
def pParam : PM XP := do
  let out ← pMaybe L [111, 117, 116]
  let l ← pLabel L
  let name ← pKind L 1
  pTake L [58]
  let ty ← pKinds L l
  return ⟨name.pos, name.text, ty, out⟩

/-- A list's rest: so many at most. -/
def pMore {α : Type} (one : PM α) : Nat → List α → PM (List α)
  | 0, _ => pFail L 99
  | n + 1, l => do
    let x ← one
    if ← pMaybe L [44] then pMore one n (l ++ [x]) else return l ++ [x]
def pList {α : Type} (end_ : List UInt8) (one : PM α) : PM (List α) := do
  if ← pIs L end_ then return [] else pMore L one 131073 []

/-! ### Expressions -/

/-- The level and the kind of a sign between two. -/
def levelOf (w : List UInt8) : Option (Nat × Nat) :=
  if w = [61, 61] then some (0, 17) else if w = [33, 61] then some (0, 18) else if w = [60] then some (0, 19) else if w = [60, 61] then some (0, 20)
  else if w = [62] then some (0, 21) else if w = [62, 61] then some (0, 22) else if w = [124] then some (1, 12) else if w = [94] then some (2, 13)
  else if w = [38] then some (3, 11) else if w = [60, 60] then some (4, 14) else if w = [62, 62] then some (4, 15) else if w = [43] then some (5, 8)
  else if w = [45] then some (5, 9) else if w = [42] then some (6, 10) else none
def signOf (t : Token) (k : Nat) : Option Nat :=
  if t.kind = 4 then match levelOf t.text with
    | some (n, kind) => if n = k then some kind else none
    | none => none
  else none

section
variable (expr unary : PM XE)

def pIndex : PM (List XE) := do
  pOpen L [91]
  let x ← expr
  pShut L [93]
  return [x]
def pCall (name : Token) : PM XE := do
  pOpen L [40]
  let l ← pList L [41] expr
  pShut L [41]
  return .mk 4 name.pos 0 name.text l
def pArgs : Nat → Bool → List XE → PM (List XE)
  | 0, _, l => pure l
  | n + 1, first, l => do
    if !first then pTake L [44]
    let x ← expr
    pArgs n false (l ++ [x])
def pMade (kind many : Nat) (number : Bool) : PM XE := do
  let t ← pHere L
  pNext
  pOpen L [40]
  let l ← pArgs L expr many true []
  if number then
    pTake L [44]
    let n ← pKind L 2
    pShut L [41]
    return .mk kind t.pos n.num [] l
  else
    pShut L [41]
    return .mk kind t.pos 0 [] l
def pPrimary : PM XE := do
  let t ← pHere L
  if t.kind = 2 then
    pNext
    return .mk 1 t.pos t.num [] []
  else if isS t [40] then
    pOpen L [40]
    let x ← expr
    pShut L [41]
    return x
  else if isS t [109, 117, 108, 104, 105] then pMade L expr 23 2 false
  else if isS t [99, 97, 114, 114, 121] then pMade L expr 24 2 false
  else if isS t [115, 101, 108, 101, 99, 116] then pMade L expr 25 3 false
  else if isS t [119, 111, 114, 100] then pMade L expr 26 1 false
  else if isS t [114, 111, 114] then pMade L expr 16 1 true
  else
    let _ ← pKind L 1
    if ← pIs L [40] then pCall L expr t
    else if ← pIs L [91] then
      let l ← pIndex L expr
      return .mk 3 t.pos 0 t.text l
    else return .mk 2 t.pos 0 t.text []
def pSign (kind : Nat) : PM XE := do
  let t ← pHere L
  pOpen L t.text
  let x ← unary
  pUp
  return .mk kind t.pos 0 [] [x]
def pUnary : PM XE := do
  let t ← pHere L
  if isS t [126] then pSign L unary 5
  else if isS t [45] then pSign L unary 6
  else if isS t [33] then pSign L unary 7
  else pPrimary L expr
end

/-- What is joined by signs of a level: the rest, so many at most. -/
def pJoin (next : PM XE) (k : Nat) : Nat → XE → PM XE
  | 0, _ => pFail L 99
  | n + 1, x => do
    let t ← pHere L
    match signOf t k with
    | none => return x
    | some kind =>
      pNext
      if kind = 14 ∨ kind = 15 then
        let c ← pKind L 2
        pJoin next k n (.mk kind t.pos c.num [] [x])
      else
        let y ← next
        pJoin next k n (.mk kind t.pos 0 [] [x, y])
/-- The chain of level 7 - j. -/
def pChain (un : PM XE) : Nat → PM XE
  | 0 => un
  | j + 1 => do
    let x ← pChain un j
    pJoin L (pChain un j) (6 - j) 131073 x
def pExpr (un : PM XE) : PM XE := do
  let x ← pChain L un 6
  let t ← pHere L
  match signOf t 0 with
  | none => return x
  | some kind =>
    pNext
    let y ← pChain L un 6
    return .mk kind t.pos 0 [] [x, y]

/-- What has so many nests left, and one. -/
def pUn : Nat → PM XE
  | 0 => pFail L 99
  | n + 1 => pUnary L (pExpr L (pUn n)) (pUn n)
def pEx (n : Nat) : PM XE := pExpr L (pUn L n)

/-! ### Statements -/

def pEnd (n : Nat) : PM (List XE) := do
  let x ← pEx L n
  pTake L [59]
  return [x]
def pNamed (n pos : Nat) : PM XS := do
  let name ← pKind L 1
  if ← pIs L [40] then
    let c ← pCall L (pEx L (n - 1)) name
    pTake L [59]
    return .mk 7 pos 0 [] ⟨0, 0, 0⟩ [c] [] [] false
  else if ← pIs L [91] then
    let i ← pIndex L (pEx L (n - 1))
    pTake L [61]
    let l ← pEnd L n
    return .mk 4 pos 0 name.text ⟨0, 0, 0⟩ (i ++ l) [] [] false
  else
    pTake L [61]
    let l ← pEnd L n
    return .mk 3 pos 0 name.text ⟨0, 0, 0⟩ l [] [] false
def pStmt (block : PM (List XS)) (n : Nat) : PM XS := do
  let t ← pHere L
  if ← pMaybe L [108, 101, 116] then
    let name ← pKind L 1
    pTake L [61]
    let l ← pEnd L n
    return .mk 1 t.pos 0 name.text ⟨0, 0, 0⟩ l [] [] false
  else if ← pMaybe L [118, 97, 114] then
    let lab ← pLabel L
    let name ← pKind L 1
    pTake L [58]
    let ty ← pKinds L lab
    pTake L [59]
    return .mk 2 t.pos 0 name.text ty [] [] [] false
  else if ← pMaybe L [105, 102] then
    let x ← pEx L n
    let b ← block
    if ← pMaybe L [101, 108, 115, 101] then
      let e ← block
      return .mk 5 t.pos 0 [] ⟨0, 0, 0⟩ [x] b e true
    else return .mk 5 t.pos 0 [] ⟨0, 0, 0⟩ [x] b [] false
  else if ← pMaybe L [102, 111, 114] then
    let name ← pKind L 1
    pTake L [60]
    let x ← pEx L n
    pTake L [109, 97, 120]
    let m ← pKind L 2
    let b ← block
    return .mk 6 t.pos m.num name.text ⟨0, 0, 0⟩ [x] b [] false
  else if ← pMaybe L [114, 101, 116, 117, 114, 110] then
    let l ← pEnd L n
    return .mk 8 t.pos 0 [] ⟨0, 0, 0⟩ l [] [] false
  else pNamed L n t.pos
def pStmts (stmt : PM XS) : Nat → List XS → PM (List XS)
  | 0, _ => pFail L 99
  | m + 1, l => do
    if ← pIs L [125] then return l
    else
      let s ← stmt
      pStmts stmt m (l ++ [s])
def pBlock : Nat → PM (List XS)
  | 0 => pFail L 99
  | n + 1 => do
    pOpen L [123]
    let l ← pStmts L (pStmt L (pBlock n) n) 131073 []
    pShut L [125]
    return l
def pFunc : PM XF := do
  pTake L [102, 110]
  let name ← pKind L 1
  pTake L [40]
  let ps ← pList L [41] (pParam L)
  pTake L [41]
  if ← pMaybe L [58] then
    let l ← pLabel L
    let ty ← pScalar L l
    let b ← pBlock L 65
    return ⟨name.pos, name.text, ps, true, ty, b⟩
  else
    let b ← pBlock L 65
    return ⟨name.pos, name.text, ps, false, ⟨0, 0, 0⟩, b⟩
def pFuncs : Nat → List XF → PM (List XF)
  | 0, _ => pFail L 99
  | m + 1, l => do
    let t ← pHere L
    if t.kind = 0 then return l
    else
      let f ← pFunc L
      pFuncs m (l ++ [f])
end

/-- The program of a text, or its error and place. -/
def parseS (s : List UInt8) : List XF × Nat × Nat :=
  if (lexS s).2.1 = 0 then match pFuncs (lexS s).1 131073 [] 0 0 with
    | .ok l _ _ => (l, 0, 0)
    | .bad e p _ _ => ([], e, p)
  else ([], (lexS s).2.1, (lexS s).2.2)
end Go.Proofs.YtkeoalhglkfbkaaDoor

/-
  How far the parser goes: never past the last token, and as deep as before. No conditions.
-/
namespace Go.Proofs.YtkeoalhglkfbkaaDoor
open Go Hk

/-- The last token alone is the end. -/
def TokOk (L : List Token) : Prop := ∀ (i : Nat) (t : Token), L[i]? = some t → t.kind ≠ 0 → i + 1 < L.length

/-- Goes on by s tokens at least, and changes how deep it is by k. -/
def PGood (L : List Token) {α : Type} (s : Nat) (k : Nat → Nat) (x : PM α) : Prop :=
  ∀ a d v a' d', x a d = .ok v a' d' → a < L.length → a + s ≤ a' ∧ a' < L.length ∧ d' = k d

section
variable {L : List Token} {α β : Type}

theorem tk_some {a : Nat} (h : a < L.length) : L[a]? = some (tk L a) := by simp [tk, h]

theorem PGood.mono {s s' : Nat} {k k' : Nat → Nat} {x : PM α} (hx : PGood L s k x) (hs : s' ≤ s) (hk : ∀ d, k d = k' d) : PGood L s' k' x := by
  intro a d v a' d' h ha
  obtain ⟨h1, h2, h3⟩ := hx a d v a' d' h ha
  exact ⟨by omega, h2, by rw [h3, hk]⟩
theorem PGood.bind {s s' : Nat} {k k' : Nat → Nat} {x : PM α} {f : α → PM β} (hx : PGood L s k x) (hf : ∀ v, PGood L s' k' (f v)) : PGood L (s + s') (fun d => k' (k d)) (x >>= f) := by
  intro a d v a' d' h ha
  rw [pm_bind] at h
  unfold PM.bind at h
  cases hx1 : x a d with
  | bad e p a1 d1 => rw [hx1] at h; cases h
  | ok v1 a1 d1 =>
    rw [hx1] at h
    obtain ⟨h1, h2, h3⟩ := hx a d v1 a1 d1 hx1 ha
    obtain ⟨h4, h5, h6⟩ := hf v1 a1 d1 v a' d' h h2
    exact ⟨by omega, h5, by rw [h6, h3]⟩
theorem PGood.pure {v : α} : PGood L 0 (fun d => d) (Pure.pure v : PM α) := by
  intro a d v' a' d' h ha
  cases h
  exact ⟨Nat.le_refl _, ha, rfl⟩
theorem PGood.fail {e : Nat} {s : Nat} {k : Nat → Nat} : PGood L s k (pFail L e : PM α) := by
  intro a d v a' d' h; cases h
theorem PGood.ite {c : Prop} [Decidable c] {s : Nat} {k : Nat → Nat} {x y : PM α} (hx : PGood L s k x) (hy : PGood L s k y) : PGood L s k (if c then x else y) := by
  split
  · exact hx
  · exact hy

variable (hL : TokOk L)
include hL

theorem isS_lt {a : Nat} {w : List UInt8} (ha : a < L.length) (h : isS (tk L a) w = true) : a + 1 < L.length := by
  refine hL a _ (tk_some ha) fun h0 => ?_
  simp [isS, h0] at h
theorem kind_lt {a k : Nat} (ha : a < L.length) (hk : k ≠ 0) (h : (tk L a).kind = k) : a + 1 < L.length := hL a _ (tk_some ha) (by omega)

omit hL in
theorem g_here : PGood L 0 (fun d => d) (pHere L) := by
  intro a d v a' d' h ha; cases h; exact ⟨Nat.le_refl _, ha, rfl⟩
omit hL in
theorem g_is {w : List UInt8} : PGood L 0 (fun d => d) (pIs L w) := by
  intro a d v a' d' h ha; cases h; exact ⟨Nat.le_refl _, ha, rfl⟩
theorem g_maybe {w : List UInt8} : PGood L 0 (fun d => d) (pMaybe L w) := by
  intro a d v a' d' h ha
  unfold pMaybe at h
  cases h
  split
  · rename_i hs; exact ⟨by omega, isS_lt hL ha hs, rfl⟩
  · exact ⟨by omega, ha, rfl⟩
theorem g_take {w : List UInt8} : PGood L 1 (fun d => d) (pTake L w) := by
  intro a d v a' d' h ha
  unfold pTake at h
  split at h
  · rename_i hs; cases h; exact ⟨by omega, isS_lt hL ha hs, rfl⟩
  · cases h
theorem g_kind {k : Nat} (hk : k ≠ 0) : PGood L 1 (fun d => d) (pKind L k) := by
  intro a d v a' d' h ha
  unfold pKind at h
  split at h
  · rename_i hs; cases h; exact ⟨by omega, kind_lt hL ha hk hs, rfl⟩
  · cases h
theorem g_open {w : List UInt8} : PGood L 1 (fun d => d + 1) (pOpen L w) := by
  intro a d v a' d' h ha
  unfold pOpen at h
  split at h
  · rename_i hs
    split at h
    · cases h
    · cases h; exact ⟨by omega, isS_lt hL ha hs, rfl⟩
  · cases h
theorem g_shut {w : List UInt8} : PGood L 1 (fun d => d - 1) (pShut L w) := by
  intro a d v a' d' h ha
  unfold pShut at h
  split at h
  · rename_i hs; cases h; exact ⟨by omega, isS_lt hL ha hs, rfl⟩
  · cases h
theorem g_label : PGood L 1 (fun d => d) (pLabel L) := by
  intro a d v a' d' h ha
  unfold pLabel at h
  split at h
  · rename_i hs; cases h; exact ⟨by omega, isS_lt hL ha hs, rfl⟩
  · split at h
    · rename_i hs; cases h; exact ⟨by omega, isS_lt hL ha hs, rfl⟩
    · cases h
theorem g_scalar {l : Nat} : PGood L 1 (fun d => d) (pScalar L l) := by
  intro a d v a' d' h ha
  unfold pScalar at h
  split at h
  · rename_i hs; cases h; exact ⟨by omega, isS_lt hL ha hs, rfl⟩
  · split at h
    · rename_i hs; cases h; exact ⟨by omega, isS_lt hL ha hs, rfl⟩
    · cases h
theorem g_many : PGood L 1 (fun d => d) (pMany L) := by
  unfold pMany
  refine ((g_take hL).bind fun _ => g_here.bind fun t => (PGood.ite PGood.fail ?_ : PGood L 0 (fun d => d) _)).mono (by omega) fun _ => rfl
  exact ((g_kind hL (by decide)).bind fun _ => (g_take hL).bind fun _ => PGood.pure).mono (Nat.zero_le _) fun _ => rfl
theorem g_kinds {l : Nat} : PGood L 1 (fun d => d) (pKinds L l) := by
  unfold pKinds
  refine ((g_maybe hL).bind (s' := 1) (k' := fun d => d) fun b => PGood.ite ?_ ?_).mono (by omega) fun _ => rfl
  · exact ((g_many hL).bind fun _ => PGood.pure).mono (by omega) fun _ => rfl
  · refine ((g_scalar hL).bind (s' := 0) (k' := fun d => d) fun t => PGood.ite ?_ PGood.pure).mono (by omega) fun _ => rfl
    refine (g_is.bind (s' := 0) (k' := fun d => d) fun _ => PGood.ite ?_ PGood.pure).mono (by omega) fun _ => rfl
    exact ((g_many hL).bind fun _ => PGood.pure).mono (by omega) fun _ => rfl
theorem g_param : PGood L 1 (fun d => d) (pParam L) := by
  unfold pParam
  exact ((g_maybe hL).bind fun _ => (g_label hL).bind fun _ => (g_kind hL (by omega)).bind fun _ => (g_take hL).bind fun _ => (g_kinds hL).bind fun _ => PGood.pure).mono (by omega) fun _ => rfl
theorem g_more {one : PM α} (h1 : PGood L 1 (fun d => d) one) : ∀ (n : Nat) (l : List α), PGood L 1 (fun d => d) (pMore L one n l)
  | 0, _ => PGood.fail
  | n + 1, l => (h1.bind (s' := 0) (k' := fun d => d) fun x => ((g_maybe hL).bind (s' := 0) (k' := fun d => d) fun b => PGood.ite ((g_more h1 n _).mono (by omega) fun _ => rfl) PGood.pure).mono (by omega) fun _ => rfl).mono (by omega) fun _ => rfl
theorem g_list {one : PM α} {w : List UInt8} (h1 : PGood L 1 (fun d => d) one) : PGood L 0 (fun d => d) (pList L w one) := by
  unfold pList
  exact (g_is.bind (s' := 0) (k' := fun d => d) fun b => PGood.ite PGood.pure ((g_more hL h1 _ _).mono (by omega) fun _ => rfl)).mono (by omega) fun _ => rfl

section
variable {ex un : PM XE} (he : PGood L 1 (fun d => d) ex) (hu : PGood L 1 (fun d => d) un)
include he
theorem g_index : PGood L 1 (fun d => d) (pIndex L ex) := by
  unfold pIndex
  exact ((g_open hL).bind fun _ => he.bind fun _ => (g_shut hL).bind fun _ => PGood.pure).mono (by omega) fun _ => Nat.add_sub_cancel _ _
theorem g_call {t : Token} : PGood L 1 (fun d => d) (pCall L ex t) := by
  unfold pCall
  exact ((g_open hL).bind fun _ => (g_list hL he).bind fun _ => (g_shut hL).bind fun _ => PGood.pure).mono (by omega) fun _ => Nat.add_sub_cancel _ _
theorem g_args : ∀ (n : Nat) (b : Bool) (l : List XE), PGood L 0 (fun d => d) (pArgs L ex n b l)
  | 0, _, _ => PGood.pure
  | n + 1, b, l => by
    unfold pArgs
    have h1 : PGood L 0 (fun d => d) (do let x ← ex; pArgs L ex n false (l ++ [x]) : PM (List XE)) := (he.bind fun _ => g_args n _ _).mono (by omega) fun _ => rfl
    cases b
    · exact ((g_take hL).bind fun _ => h1).mono (by omega) fun _ => rfl
    · exact ((PGood.pure (v := PUnit.unit)).bind fun _ => h1).mono (by omega) fun _ => rfl
end

/-! ### Where the token at hand is looked at first -/
omit hL
def GoodAt (L : List Token) {α : Type} (s : Nat) (k : Nat → Nat) (x : PM α) (a : Nat) : Prop :=
  ∀ d v a' d', x a d = .ok v a' d' → a + s ≤ a' ∧ a' < L.length ∧ d' = k d
theorem PGood.at {s : Nat} {k : Nat → Nat} {x : PM α} (h : PGood L s k x) {a : Nat} (ha : a < L.length) : GoodAt L s k x a := fun d v a' d' hx => h a d v a' d' hx ha
theorem GoodAt.all {s : Nat} {k : Nat → Nat} {x : PM α} (h : ∀ a, a < L.length → GoodAt L s k x a) : PGood L s k x := fun a d v a' d' hx ha => h a ha d v a' d' hx
theorem GoodAt.here {s : Nat} {k : Nat → Nat} {f : Token → PM α} {a : Nat} (h : GoodAt L s k (f (tk L a)) a) : GoodAt L s k (pHere L >>= f) a := fun d v a' d' hx => h d v a' d' hx
theorem GoodAt.next {s : Nat} {k : Nat → Nat} {f : Unit → PM α} {a : Nat} (ha : a + 1 < L.length) (h : PGood L s k (f ())) : GoodAt L (s + 1) k (pNext >>= f) a := fun d v a' d' hx => by
  obtain ⟨h1, h2, h3⟩ := h (a + 1) d v a' d' hx ha
  exact ⟨by omega, h2, h3⟩
theorem GoodAt.mono {s s' : Nat} {k k' : Nat → Nat} {x : PM α} {a : Nat} (hx : GoodAt L s k x a) (hs : s' ≤ s) (hk : ∀ d, k d = k' d) : GoodAt L s' k' x a := by
  intro d v a' d' h
  obtain ⟨h1, h2, h3⟩ := hx d v a' d' h
  exact ⟨by omega, h2, by rw [h3, hk]⟩
theorem GoodAt.ite {c : Prop} [Decidable c] {s : Nat} {k : Nat → Nat} {x y : PM α} {a : Nat} (hx : c → GoodAt L s k x a) (hy : ¬ c → GoodAt L s k y a) : GoodAt L s k (if c then x else y) a := by
  split
  · rename_i h; exact hx h
  · rename_i h; exact hy h
theorem g_up : PGood L 0 (fun d => d - 1) pUp := by
  intro a d v a' d' h ha; cases h; exact ⟨Nat.le_refl _, ha, rfl⟩

include hL
section
variable {ex un : PM XE} (he : PGood L 1 (fun d => d) ex) (hu : PGood L 1 (fun d => d) un)
include he
theorem g_made {kind many a : Nat} {number : Bool} (ha : a + 1 < L.length) : GoodAt L 1 (fun d => d) (pMade L ex kind many number) a := by
  unfold pMade
  refine GoodAt.here ((GoodAt.next (s := 1) (k := fun d => d) ha ?_).mono (by omega) fun _ => rfl)
  refine ((g_open hL).bind (s' := 1) (k' := fun d => d - 1) fun _ => ((g_args hL he _ _ _).bind (s' := 1) (k' := fun d => d - 1) fun l => PGood.ite ?_ ?_).mono (by omega) fun _ => rfl).mono (by omega) fun _ => Nat.add_sub_cancel _ _
  · exact ((g_take hL).bind fun _ => (g_kind hL (by omega)).bind fun _ => (g_shut hL).bind fun _ => PGood.pure).mono (by omega) fun _ => rfl
  · exact ((g_shut hL).bind fun _ => PGood.pure).mono (by omega) fun _ => rfl
theorem g_primary : PGood L 1 (fun d => d) (pPrimary L ex) := by
  unfold pPrimary
  refine GoodAt.all fun a ha => GoodAt.here ?_
  refine GoodAt.ite (fun h => ?_) fun _ => GoodAt.ite (fun h => ?_) fun _ => GoodAt.ite (fun h => g_made hL he (isS_lt hL ha h)) fun _ => GoodAt.ite (fun h => g_made hL he (isS_lt hL ha h)) fun _ =>
    GoodAt.ite (fun h => g_made hL he (isS_lt hL ha h)) fun _ => GoodAt.ite (fun h => g_made hL he (isS_lt hL ha h)) fun _ => GoodAt.ite (fun h => g_made hL he (isS_lt hL ha h)) fun _ => PGood.at ?_ ha
  · exact GoodAt.next (s := 0) (k := fun d => d) (f := fun _ => pure _) (kind_lt (k := 2) hL ha (by decide) h) PGood.pure
  · refine PGood.at ?_ ha
    exact ((g_open hL).bind fun _ => he.bind fun _ => (g_shut hL).bind fun _ => PGood.pure).mono (by omega) fun _ => Nat.add_sub_cancel _ _
  · refine ((g_kind hL (by omega)).bind (s' := 0) (k' := fun d => d) fun _ => (g_is.bind (s' := 0) (k' := fun d => d) fun _ => PGood.ite ?_ ?_).mono (by omega) fun _ => rfl).mono (by omega) fun _ => rfl
    · exact (g_call hL he).mono (by omega) fun _ => rfl
    · refine (g_is.bind (s' := 0) (k' := fun d => d) fun _ => PGood.ite ?_ PGood.pure).mono (by omega) fun _ => rfl
      exact ((g_index hL he).bind fun _ => PGood.pure).mono (by omega) fun _ => rfl
include hu
theorem g_unary : PGood L 1 (fun d => d) (pUnary L ex un) := by
  have hs : ∀ kind, PGood L 1 (fun d => d) (pSign L un kind) := fun kind => by
    unfold pSign
    exact (g_here.bind fun t => (g_open hL).bind fun _ => hu.bind fun _ => g_up.bind fun _ => PGood.pure).mono (by omega) fun _ => Nat.add_sub_cancel _ _
  unfold pUnary
  exact (g_here.bind (s' := 1) (k' := fun d => d) fun t => PGood.ite (hs _) (PGood.ite (hs _) (PGood.ite (hs _) (g_primary hL he)))).mono (by omega) fun _ => rfl
end
omit hL in
theorem signOf_kind {t : Token} {k kind : Nat} (h : signOf t k = some kind) : t.kind = 4 := by
  unfold signOf at h
  split at h
  · assumption
  · cases h
theorem g_join {next : PM XE} (hn : PGood L 1 (fun d => d) next) (k : Nat) : ∀ (n : Nat) (x : XE), PGood L 0 (fun d => d) (pJoin L next k n x)
  | 0, _ => PGood.fail
  | n + 1, x => by
    unfold pJoin
    refine GoodAt.all fun a ha => GoodAt.here ?_
    cases hs : signOf (tk L a) k with
    | none => exact PGood.pure.at ha
    | some kind =>
      refine (GoodAt.next (s := 0) (k := fun d => d) (kind_lt (k := 4) hL ha (by decide) (signOf_kind hs)) (PGood.ite ?_ ?_)).mono (by omega) fun _ => rfl
      · exact ((g_kind hL (by omega)).bind fun _ => g_join hn k n _).mono (by omega) fun _ => rfl
      · exact (hn.bind fun _ => g_join hn k n _).mono (by omega) fun _ => rfl
theorem g_chain {un : PM XE} (hu : PGood L 1 (fun d => d) un) : ∀ j, PGood L 1 (fun d => d) (pChain L un j)
  | 0 => hu
  | j + 1 => ((g_chain hu j).bind fun _ => g_join hL (g_chain hu j) _ _ _).mono (by omega) fun _ => rfl
theorem g_expr {un : PM XE} (hu : PGood L 1 (fun d => d) un) : PGood L 1 (fun d => d) (pExpr L un) := by
  unfold pExpr
  refine ((g_chain hL hu 6).bind (s' := 0) (k' := fun d => d) fun x => GoodAt.all fun a ha => GoodAt.here ?_).mono (by omega) fun _ => rfl
  cases hs : signOf (tk L a) 0 with
  | none => exact PGood.pure.at ha
  | some kind =>
    refine (GoodAt.next (s := 0) (k := fun d => d) (kind_lt (k := 4) hL ha (by decide) (signOf_kind hs)) ?_).mono (by omega) fun _ => rfl
    exact ((g_chain hL hu 6).bind fun _ => PGood.pure).mono (by omega) fun _ => rfl
theorem g_un : ∀ n, PGood L 1 (fun d => d) (pUn L n)
  | 0 => PGood.fail
  | n + 1 => g_unary hL (g_expr hL (g_un n)) (g_un n)
theorem g_ex (n : Nat) : PGood L 1 (fun d => d) (pEx L n) := g_expr hL (g_un hL n)
theorem g_end (n : Nat) : PGood L 1 (fun d => d) (pEnd L n) := by
  unfold pEnd
  exact ((g_ex hL n).bind fun _ => (g_take hL).bind fun _ => PGood.pure).mono (by omega) fun _ => rfl
theorem g_named (n pos : Nat) : PGood L 1 (fun d => d) (pNamed L n pos) := by
  unfold pNamed
  refine ((g_kind hL (by omega)).bind (s' := 0) (k' := fun d => d) fun _ => (g_is.bind (s' := 0) (k' := fun d => d) fun _ => PGood.ite ?_ ?_).mono (by omega) fun _ => rfl).mono (by omega) fun _ => rfl
  · exact ((g_call hL (g_ex hL _)).bind fun _ => (g_take hL).bind fun _ => PGood.pure).mono (by omega) fun _ => rfl
  · refine (g_is.bind (s' := 0) (k' := fun d => d) fun _ => PGood.ite ?_ ?_).mono (by omega) fun _ => rfl
    · exact ((g_index hL (g_ex hL _)).bind fun _ => (g_take hL).bind fun _ => (g_end hL _).bind fun _ => PGood.pure).mono (by omega) fun _ => rfl
    · exact ((g_take hL).bind fun _ => (g_end hL _).bind fun _ => PGood.pure).mono (by omega) fun _ => rfl
theorem g_stmt {block : PM (List XS)} (hb : PGood L 1 (fun d => d) block) (n : Nat) : PGood L 1 (fun d => d) (pStmt L block n) := by
  unfold pStmt
  refine (g_here.bind (s' := 1) (k' := fun d => d) fun _ => ((g_maybe hL).bind (s' := 1) (k' := fun d => d) fun _ => PGood.ite ?_ ?_).mono (by omega) fun _ => rfl).mono (by omega) fun _ => rfl
  · exact ((g_kind hL (by omega)).bind fun _ => (g_take hL).bind fun _ => (g_end hL _).bind fun _ => PGood.pure).mono (by omega) fun _ => rfl
  refine ((g_maybe hL).bind (s' := 1) (k' := fun d => d) fun _ => PGood.ite ?_ ?_).mono (by omega) fun _ => rfl
  · exact ((g_label hL).bind fun _ => (g_kind hL (by omega)).bind fun _ => (g_take hL).bind fun _ => (g_kinds hL).bind fun _ => (g_take hL).bind fun _ => PGood.pure).mono (by omega) fun _ => rfl
  refine ((g_maybe hL).bind (s' := 1) (k' := fun d => d) fun _ => PGood.ite ?_ ?_).mono (by omega) fun _ => rfl
  · refine ((g_ex hL n).bind (s' := 1) (k' := fun d => d) fun _ => (hb.bind (s' := 0) (k' := fun d => d) fun _ => ((g_maybe hL).bind (s' := 0) (k' := fun d => d) fun _ => PGood.ite ?_ PGood.pure).mono (by omega) fun _ => rfl).mono (by omega) fun _ => rfl).mono (by omega) fun _ => rfl
    exact (hb.bind fun _ => PGood.pure).mono (by omega) fun _ => rfl
  refine ((g_maybe hL).bind (s' := 1) (k' := fun d => d) fun _ => PGood.ite ?_ ?_).mono (by omega) fun _ => rfl
  · exact ((g_kind hL (by omega)).bind fun _ => (g_take hL).bind fun _ => (g_ex hL n).bind fun _ => (g_take hL).bind fun _ => (g_kind hL (by omega)).bind fun _ => hb.bind fun _ => PGood.pure).mono (by omega) fun _ => rfl
  refine ((g_maybe hL).bind (s' := 1) (k' := fun d => d) fun _ => PGood.ite ?_ (g_named hL _ _)).mono (by omega) fun _ => rfl
  exact ((g_end hL n).bind fun _ => PGood.pure).mono (by omega) fun _ => rfl
omit hL in
theorem g_stmts {stmt : PM XS} (hs : PGood L 1 (fun d => d) stmt) : ∀ (m : Nat) (l : List XS), PGood L 0 (fun d => d) (pStmts L stmt m l)
  | 0, _ => PGood.fail
  | m + 1, l => (g_is.bind (s' := 0) (k' := fun d => d) fun _ => PGood.ite PGood.pure ((hs.bind fun _ => g_stmts hs m _).mono (by omega) fun _ => rfl)).mono (by omega) fun _ => rfl
theorem g_block : ∀ n, PGood L 1 (fun d => d) (pBlock L n)
  | 0 => PGood.fail
  | n + 1 => ((g_open hL).bind fun _ => (g_stmts (g_stmt hL (g_block n) n) _ _).bind fun _ => (g_shut hL).bind fun _ => PGood.pure).mono (by omega) fun _ => Nat.add_sub_cancel _ _
theorem g_func : PGood L 1 (fun d => d) (pFunc L) := by
  unfold pFunc
  refine ((g_take hL).bind fun _ => (g_kind hL (by omega)).bind fun _ => (g_take hL).bind fun _ => (g_list hL (g_param hL)).bind fun _ => (g_take hL).bind fun _ => ((g_maybe hL).bind (s' := 0) (k' := fun d => d) fun _ => PGood.ite ?_ ?_)).mono (by omega) fun _ => rfl
  · exact ((g_label hL).bind fun _ => (g_scalar hL).bind fun _ => (g_block hL _).bind fun _ => PGood.pure).mono (by omega) fun _ => rfl
  · exact ((g_block hL _).bind fun _ => PGood.pure).mono (by omega) fun _ => rfl
end
end Go.Proofs.YtkeoalhglkfbkaaDoor

/-
  The parser's heap, and its least functions: by the evaluator. No conditions.
-/
namespace Go.Proofs.YtkeoalhglkfbkaaDoor
open Go Hk

/-- Blocks that stay when what lies from n on is dropped. -/
def KBn (n : Nat) (C : List ABlk) : Prop := ∀ m h, n ≤ m → sanBlks m h C = some C
def CBn (n : Nat) (cs : List AVal) : Prop := ∀ m h, n ≤ m → sanCells m h cs = some cs
section
variable {n : Nat}
theorem KBn.mono {k : Nat} {C : List ABlk} (h : KBn n C) (hk : n ≤ k) : KBn k C := fun m x hm => h m x (Nat.le_trans hk hm)
theorem sanBlks_app {m : Nat} {h : Heap} : ∀ {B C : List ABlk}, sanBlks m h B = some B → sanBlks m h C = some C → sanBlks m h (B ++ C) = some (B ++ C)
  | [], _, _, h2 => h2
  | b :: r, C, h1, h2 => by
    simp only [sanBlks] at h1
    split at h1
    · rename_i b' r' e1 e2
      simp only [Option.some.injEq, List.cons.injEq] at h1
      obtain ⟨rfl, rfl⟩ := h1
      simp only [List.cons_append, sanBlks, e1, sanBlks_app e2 h2]
    · cases h1
theorem KBn_app {B C : List ABlk} (h1 : KBn n B) (h2 : KBn n C) : KBn n (B ++ C) := fun m h hm => sanBlks_app (h1 m h hm) (h2 m h hm)
theorem KBn_nil : KBn n [] := fun _ _ _ => rfl
theorem KBn_front {i j : Nat} {C : List ABlk} (h : KBn n C) : KBn n (.front i j :: C) := fun m x hm => by simp [h m x hm]
theorem KBn_cells {cs : List AVal} {C : List ABlk} (h1 : CBn n cs) (h : KBn n C) : KBn n (.cells cs :: C) := fun m x hm => by simp [h m x hm, h1 m x hm]
theorem CBn_nil : CBn n [] := fun _ _ _ => rfl
theorem CBn_int {k : IntKind} {z : Int} {cs : List AVal} (h : CBn n cs) : CBn n (.int k z :: cs) := fun m x hm => by simp [h m x hm]
theorem CBn_str {z : List UInt8} {cs : List AVal} (h : CBn n cs) : CBn n (.str z :: cs) := fun m x hm => by simp [h m x hm]
end

section
variable {n : Nat}
theorem KBn_front_iff {i j : Nat} {C : List ABlk} : KBn n (.front i j :: C) ↔ KBn n C := ⟨fun h m x hm => by
  have := h m x hm
  simp only [sanBlks_cons, sanBlk_front, Option.bind_some, Option.map_eq_some_iff] at this
  obtain ⟨r, h1, h2⟩ := this
  cases h2; exact h1, KBn_front⟩
theorem KBn_gone_iff {C : List ABlk} : KBn n (.gone :: C) ↔ KBn n C := ⟨fun h m x hm => by
  have := h m x hm
  have e : sanBlk m x .gone = some .gone := rfl
  simp only [sanBlks_cons, e, Option.bind_some, Option.map_eq_some_iff] at this
  obtain ⟨r, h1, h2⟩ := this
  cases h2; exact h1, fun h m x hm => by
  have e : sanBlk m x .gone = some .gone := rfl
  simp only [sanBlks_cons, e, Option.bind_some, h m x hm, Option.map_some]⟩
theorem KBn_cells_iff {cs : List AVal} {C : List ABlk} : KBn n (.cells cs :: C) ↔ CBn n cs ∧ KBn n C := ⟨fun h => by
  have key : ∀ m x, n ≤ m → sanCells m x cs = some cs ∧ sanBlks m x C = some C := fun m x hm => by
    have := h m x hm
    simp only [sanBlks_cons, sanBlk_cells, Option.bind_eq_some_iff, Option.map_eq_some_iff] at this
    obtain ⟨b, ⟨c, h1, h2⟩, r, h3, h4⟩ := this
    cases h2; cases h4; exact ⟨h1, h3⟩
  exact ⟨fun m x hm => (key m x hm).1, fun m x hm => (key m x hm).2⟩, fun h => KBn_cells h.1 h.2⟩
theorem CBn_any {v : AVal} {cs : List AVal} (hv : ∀ m x, n ≤ m → v.san1 m x = v) (hc : v.cellOk = true) : CBn n (v :: cs) ↔ CBn n cs := by
  constructor
  · intro h m x hm
    have := h m x hm
    simp only [sanCells_cons, hv m x hm, hc, cond_true, Option.map_eq_some_iff] at this
    obtain ⟨r, h1, h2⟩ := this
    cases h2; exact h1
  · intro h m x hm
    simp only [sanCells_cons, hv m x hm, hc, cond_true, h m x hm, Option.map_some]
theorem CBn_int_iff {k : IntKind} {z : Int} {cs : List AVal} : CBn n (.int k z :: cs) ↔ CBn n cs := CBn_any (fun _ _ _ => rfl) rfl
theorem CBn_str_iff {z : List UInt8} {cs : List AVal} : CBn n (.str z :: cs) ↔ CBn n cs := CBn_any (fun _ _ _ => rfl) rfl
theorem CBn_bool_iff {z : Bool} {cs : List AVal} : CBn n (.bool z :: cs) ↔ CBn n cs := CBn_any (fun _ _ _ => rfl) rfl
theorem CBn_slice_iff {rows : List (List AVal)} {cs : List AVal} : CBn n (.slice rows .no :: cs) ↔ CBn n cs := CBn_any (fun _ _ _ => rfl) rfl
theorem CBn_own_iff {rows : List (List AVal)} {id : Nat} {cs : List AVal} : CBn n (.slice rows (.own id) :: cs) ↔ id < n ∧ CBn n cs := by
  have key : ∀ hi : id < n, CBn n (.slice rows (.own id) :: cs) ↔ CBn n cs := fun hi => CBn_any (fun m x hm => by
    have : id < m := by omega
    simp [this]) rfl
  constructor
  · intro h
    have hi : id < n := by
      have := h n [] (Nat.le_refl _)
      by_cases hi : id < n
      · exact hi
      · exfalso
        simp only [sanCells_cons, san1_own, decide_eq_false hi, cond_false, cellOk_slice, cond_true, Option.map_eq_some_iff] at this
        obtain ⟨r, h1, h2⟩ := this
        cases h2
    exact ⟨hi, (key hi).1 h⟩
  · rintro ⟨hi, h⟩
    exact (key hi).2 h
theorem CBn_ptr_iff {id o : Nat} {cs : List AVal} : CBn n (.ptr id o :: cs) ↔ id < n ∧ CBn n cs := by
  have key : ∀ hi : id < n, CBn n (.ptr id o :: cs) ↔ CBn n cs := fun hi => CBn_any (fun m x hm => by
    have : id < m := by omega
    simp [san1_ptr this]) rfl
  constructor
  · intro h
    have hi : id < n := by
      have := h n [] (Nat.le_refl _)
      by_cases hi : id < n
      · exact hi
      · exfalso
        have e : (AVal.ptr id o).san1 n [] = .junk := by simp [AVal.san1, hi]
        simp [sanCells_cons, e, AVal.cellOk] at this
    exact ⟨hi, (key hi).1 h⟩
  · rintro ⟨hi, h⟩
    exact (key hi).2 h
theorem CBn_toks {t : Token} : CBn n t.cells := CBn_int (CBn_int (CBn_int (CBn_str CBn_nil)))
end

/-- The heap of a parser: what lies ahead of it, itself, and what lies behind. -/
def HQ (A : List ABlk) (L : List Token) (a d : Nat) (B : List ABlk) : Heap := A ++ PB L a d :: B
/-- Where what comes next lies. -/
def HN (A B : List ABlk) : Nat := A.length + 1 + B.length
structure KB (A B : List ABlk) : Prop where
  a : ∀ n, HN A B ≤ n → KBn n A
  b : ∀ n, HN A B ≤ n → KBn n B

section
variable {A B C : List ABlk} {L : List Token} {a d k : Nat}

theorem HN_app : HN A (B ++ C) = HN A B + C.length := by simp [HN]; omega
theorem KB.app (h : KB A B) (hC : KBn (HN A B + C.length) C) : KB A (B ++ C) := by
  refine ⟨fun n hn => ?_, fun n hn => ?_⟩
  · rw [HN_app] at hn
    exact (h.a (HN A B) (Nat.le_refl _)).mono (by omega)
  · rw [HN_app] at hn
    exact KBn_app ((h.b (HN A B) (Nat.le_refl _)).mono (by omega)) (hC.mono hn)
theorem HQ_app : HQ A L a d B ++ C = HQ A L a d (B ++ C) := by simp [HQ]
theorem HQ_len : (HQ A L a d B).length = HN A B := by simp [HQ, HN]; omega
theorem HQ_p : getBlk (HQ A L a d B) A.length = some [.slice (L.map Token.cells) .no, .int .i64 (a : Int), .int .i64 (d : Int)] := by simp [HQ, getBlk, PB]
theorem HQ_get : getBlk (HQ A L a d (B ++ C)) (HN A B + k) = getBlk C k := by
  unfold getBlk HQ HN
  rw [List.getElem?_append_right (by omega), show A.length + 1 + B.length + k - A.length = B.length + k + 1 by omega, List.getElem?_cons_succ, List.getElem?_append_right (by omega), show B.length + k - B.length = k by omega]
theorem HQ_get0 : getBlk (HQ A L a d (B ++ C)) (HN A B) = getBlk C 0 := HQ_get (k := 0)
theorem HQ_at : (HQ A L a d (B ++ C))[HN A B + k]? = C[k]? := by
  unfold HQ HN
  rw [List.getElem?_append_right (by omega), show A.length + 1 + B.length + k - A.length = B.length + k + 1 by omega, List.getElem?_cons_succ, List.getElem?_append_right (by omega), show B.length + k - B.length = k by omega]
theorem HQ_at0 : (HQ A L a d (B ++ C))[HN A B]? = C[0]? := HQ_at (k := 0)
theorem HQ_fresh : isFresh (HQ A L a d (B ++ C)) (HN A B + k) = isFresh C k := by unfold isFresh; rw [HQ_at]
theorem HQ_fresh0 : isFresh (HQ A L a d (B ++ C)) (HN A B) = isFresh C 0 := HQ_fresh (k := 0)
theorem HQ_set {x : ABlk} : List.set (HQ A L a d (B ++ C)) (HN A B + k) x = HQ A L a d (B ++ C.set k x) := by
  unfold HQ HN
  rw [List.set_append_right _ _ (by omega), show A.length + 1 + B.length + k - A.length = B.length + k + 1 by omega, List.set_cons_succ, List.set_append_right _ _ (by omega), show B.length + k - B.length = k by omega]
theorem HQ_set0 {x : ABlk} : List.set (HQ A L a d (B ++ C)) (HN A B) x = HQ A L a d (B ++ C.set 0 x) := HQ_set (k := 0)
theorem HQ_next : List.set (HQ A L a d B) A.length (.cells [.slice (L.map Token.cells) .no, .int .i64 ((a : Int) + 1), .int .i64 (d : Int)]) = HQ A L (a + 1) d B := by
  unfold HQ; rw [List.set_append_right _ _ (Nat.le_refl _), Nat.sub_self]; rfl
theorem HQ_deep {d' : Nat} : List.set (HQ A L a d B) A.length (.cells [.slice (L.map Token.cells) .no, .int .i64 (a : Int), .int .i64 (d' : Int)]) = HQ A L a d' B := by
  unfold HQ; rw [List.set_append_right _ _ (Nat.le_refl _), Nat.sub_self]; rfl
theorem HQ_deep1 : List.set (HQ A L a d B) A.length (.cells [.slice (L.map Token.cells) .no, .int .i64 (a : Int), .int .i64 ((d : Int) + 1)]) = HQ A L a (d + 1) B := HQ_deep (d' := d + 1)
theorem HQ_hide1 : hide1 (HQ A L a d (B ++ C)) (HN A B + k) = HQ A L a d (B ++ hide1 C k) := by
  unfold hide1
  rw [HQ_at]
  cases C[k]? with
  | none => rfl
  | some b => cases b <;> first | rfl | exact HQ_set
theorem HQ_hide10 : hide1 (HQ A L a d (B ++ C)) (HN A B) = HQ A L a d (B ++ hide1 C 0) := HQ_hide1 (k := 0)
theorem HQ_unhide1 {a' d' : Nat} {C' : List ABlk} : unhide1 (HQ A L a d (B ++ C)) (HQ A L a' d' (B ++ C')) (HN A B + k) = HQ A L a' d' (B ++ unhide1 C C' k) := by
  unfold unhide1
  rw [HQ_at]
  cases C[k]? with
  | none => rfl
  | some b => cases b <;> first | rfl | exact HQ_set
theorem HQ_unhide10 {a' d' : Nat} {C' : List ABlk} : unhide1 (HQ A L a d (B ++ C)) (HQ A L a' d' (B ++ C')) (HN A B) = HQ A L a' d' (B ++ unhide1 C C' 0) := HQ_unhide1 (k := 0)
theorem hide1_cells {cs : List AVal} {C : List ABlk} : hide1 (.cells cs :: C) 0 = .gone :: C := (rfl)
theorem hide1_gone {C : List ABlk} : hide1 (.gone :: C) 0 = .gone :: C := (rfl)
theorem hide1_succ {b : ABlk} {C : List ABlk} {k : Nat} : hide1 (b :: C) (k + 1) = b :: hide1 C k := by
  unfold hide1
  simp only [List.getElem?_cons_succ]
  cases C[k]? with
  | none => rfl
  | some b => cases b <;> rfl
theorem unhide1_cells {cs : List AVal} {b : ABlk} {C C' : List ABlk} : unhide1 (.cells cs :: C) (b :: C') 0 = .cells cs :: C' := (rfl)
theorem unhide1_succ {b b' : ABlk} {C C' : List ABlk} {k : Nat} : unhide1 (b :: C) (b' :: C') (k + 1) = b' :: unhide1 C C' k := by
  unfold unhide1
  simp only [List.getElem?_cons_succ]
  cases C[k]? with
  | none => rfl
  | some b => cases b <;> rfl
theorem hide_nil {h : Heap} : hide [] h = h := (rfl)
theorem hide_cons {h : Heap} {i : Nat} {ids : List Nat} : hide (i :: ids) h = hide ids (hide1 h i) := (rfl)
theorem unhide_nil {h h' : Heap} : unhide [] h h' = h' := (rfl)
theorem unhide_cons {h h' : Heap} {i : Nat} {ids : List Nat} : unhide (i :: ids) h h' = unhide ids h (unhide1 h h' i) := (rfl)
theorem addrId_ptr {i o : Nat} : addrId (.ptr i o) = some i := (rfl)
theorem addrId_pptr {cs : List AVal} : addrId (.pptr cs) = none := (rfl)
theorem HQ_deepS {d' : Nat} : List.set (HQ A L (a + 1) d B) A.length (.cells [.slice (L.map Token.cells) .no, .int .i64 ((a : Int) + 1), .int .i64 (d' : Int)]) = HQ A L (a + 1) d' B := HQ_deep (a := a + 1)
theorem HQ_deepS1 : List.set (HQ A L (a + 1) d B) A.length (.cells [.slice (L.map Token.cells) .no, .int .i64 ((a : Int) + 1), .int .i64 ((d : Int) + 1)]) = HQ A L (a + 1) (d + 1) B := HQ_deep1 (a := a + 1)
theorem HQ_nextS : List.set (HQ A L a (d + 1) B) A.length (.cells [.slice (L.map Token.cells) .no, .int .i64 ((a : Int) + 1), .int .i64 ((d : Int) + 1)]) = HQ A L (a + 1) (d + 1) B := HQ_next (d := d + 1)
theorem HQ_trunc (h : KB A B) : trunc (HN A B) (HQ A L a d (B ++ C)) = some (HQ A L a d B) := by
  have e : HQ A L a d (B ++ C) = HQ A L a d B ++ C := HQ_app.symm
  unfold Hk.trunc
  rw [e, ← HQ_len (L := L) (a := a) (d := d), List.take_left, HQ_len]
  exact sanBlks_app (h.a _ (Nat.le_refl _) _ _ (Nat.le_refl _)) (by
    have : sanBlk (HN A B) (HQ A L a d B ++ C) (PB L a d) = some (PB L a d) := rfl
    simp only [sanBlks, this, h.b _ (Nat.le_refl _) _ _ (Nat.le_refl _)])
theorem HQ_trunc0 (h : KB A B) : trunc (HN A B) (HQ A L a d B) = some (HQ A L a d B) := by
  have := HQ_trunc (L := L) (a := a) (d := d) (C := []) h
  rwa [List.append_nil] at this
theorem HQ_finR {v : AVal} (h : KB A B) : finR (HN A B) v (HQ A L a d (B ++ C)) = some (.ret (v.san (HN A B) (HQ A L a d (B ++ C))).untok, HQ A L a d B) := by simp [finR, HQ_trunc h]
theorem HQ_finP {v : AVal} (h : KB A B) : finP (HN A B) v (HQ A L a d (B ++ C)) = some (.pan (v.san (HN A B) (HQ A L a d (B ++ C))).untok, HQ A L a d B) := by simp [finP, HQ_trunc h]
theorem HQ_finR0 {v : AVal} (h : KB A B) : finR (HN A B) v (HQ A L a d B) = some (.ret (v.san (HN A B) (HQ A L a d B)).untok, HQ A L a d B) := by simp [finR, HQ_trunc0 h]
theorem HQ_finP0 {v : AVal} (h : KB A B) : finP (HN A B) v (HQ A L a d B) = some (.pan (v.san (HN A B) (HQ A L a d B)).untok, HQ A L a d B) := by simp [finP, HQ_trunc0 h]
end

def Out.res {α : Type} (enc : α → AVal) (A : List ABlk) (L : List Token) (B : List ABlk) : Out α → Res × Heap
  | .ok v a d => (.ret (enc v), HQ A L a d B)
  | .bad e p a d => (.pan (wrongV e p), HQ A L a d B)
section
variable {α : Type} {enc : α → AVal} {A B : List ABlk} {L : List Token} {a d e p : Nat} {v : α}
theorem res_ok : (Out.ok v a d).res enc A L B = (.ret (enc v), HQ A L a d B) := rfl
theorem res_bad : (Out.bad e p a d : Out α).res enc A L B = (.pan (wrongV e p), HQ A L a d B) := rfl
end

/-- The function, with these arguments behind the parser, does so. -/
def Does (L : List Token) (dk : Nat → Prop) (f : Nat) (args : List AVal) {α : Type} (enc : α → AVal) (x : PM α) : Prop :=
  ∀ A B a d, a < L.length → dk d → KB A B → KK f (.ptr A.length 0 :: args) (HQ A L a d B) = some ((x a d).res enc A L B)

def uEnc : Unit → AVal := fun _ => .tuple []
def bEnc : Bool → AVal := .bool
def tEnc : Token → AVal := fun t => .agg t.cells
def nEnc : Nat → AVal := fun n => .int .i64 (n : Int)

section
variable {L : List Token} (hL : L.length ≤ 131072)

attribute [simp] HQ_hide1 HQ_hide10 HQ_unhide1 HQ_unhide10 hide1_cells hide1_gone hide1_succ unhide1_cells unhide1_succ hide_nil hide_cons unhide_nil unhide_cons addrId_ptr addrId_pptr lockIds
attribute [simp] HQ_fresh HQ_fresh0 HN_app HQ_len HQ_app HQ_get HQ_get0 HQ_at HQ_at0 HQ_set HQ_set0 HQ_p HQ_next HQ_nextS HQ_deep HQ_deep1 HQ_deepS HQ_deepS1 HQ_finR HQ_finP HQ_finR0 HQ_finP0 res_ok res_bad
attribute [simp] KB.app KBn_nil KBn_front_iff KBn_gone_iff KBn_cells_iff CBn_nil CBn_int_iff CBn_str_iff CBn_bool_iff CBn_slice_iff CBn_own_iff CBn_ptr_iff CBn_toks
attribute [simp] anew tokCells putCells tok_len tok_take tok_ok2 san_tok untok_tok keep_tok tk_some abuild afield apart
theorem tk_get {L : List Token} {a : Nat} {h : a < L.length} : L[a]'h = tk L a := by simp [tk, h]
attribute [simp] tk_get
theorem wrapS {a : Nat} (h : a ≤ 9223372036854775806) : IntKind.wrap .i64 ((a : Int) + 1) = (a : Int) + 1 := by rw [wrap64] <;> omega
theorem wrapN {a : Nat} (h : a ≤ 9223372036854775807) : IntKind.wrap .i64 (a : Int) = (a : Int) := by rw [wrap64] <;> omega

theorem d76 : Does L (fun _ => True) 76 [] tEnc (pHere L) := by
  intro A B a d ha hd hB
  refine evW_by (m76_eq _ _ _) ?_
  simp -implicitDefEqProofs [m76, ha, hB, pHere, tEnc]
theorem d178 (w : List UInt8) : Does L (fun _ => True) 178 [.str w] bEnc (pIs L w) := by
  intro A B a d ha hd hB
  refine evW_by (m178_eq _ _ _ _) ?_
  have h76 := d76 (L := L)
  unfold Does at h76
  simp -implicitDefEqProofs [m178, ha, hB, h76, pHere, pIs, bEnc, tEnc]
  generalize tk L a = t
  obtain ⟨k, p, q, x⟩ := t
  by_cases h1 : k = 3
  · subst h1
    by_cases h3 : x = w <;> simp -implicitDefEqProofs [Token.cells, ha, hB, isS, h3]
  · have h1' : ¬ (k : Int) = 3 := by omega
    by_cases h2 : k = 4
    · subst h2
      by_cases h3 : x = w <;> simp -implicitDefEqProofs [Token.cells, ha, hB, isS, h3]
    · have h2' : ¬ (k : Int) = 4 := by omega
      simp -implicitDefEqProofs [Token.cells, ha, hB, isS, h1, h1', h2, h2']

include hL
theorem d143 (w : List UInt8) : Does L (fun _ => True) 143 [.str w] bEnc (pMaybe L w) := by
  intro A B a d ha hd hB
  refine evW_by (m143_eq _ _ _ _) ?_
  have h178 := d178 (L := L)
  unfold Does at h178
  have w1 := wrapS (a := a) (by omega)
  cases hs : isS (tk L a) w <;> simp -implicitDefEqProofs [m143, ha, hB, h178, pMaybe, pIs, bEnc, hs, w1]
omit hL in
theorem d179 (e : Nat) {α : Type} {enc : α → AVal} : Does L (fun _ => True) 179 [.int .i64 (e : Int)] enc (pFail L e) := by
  intro A B a d ha hd hB
  refine evW_by (m179_eq _ _ _ _) ?_
  have h76 := d76 (L := L)
  unfold Does at h76
  simp -implicitDefEqProofs [m179, ha, hB, h76, pHere, pFail, tEnc, Token.cells, apanic, wrongV, wrong_keep]
theorem d138 (w : List UInt8) : Does L (fun _ => True) 138 [.str w] uEnc (pTake L w) := by
  intro A B a d ha hd hB
  refine evW_by (m138_eq _ _ _ _) ?_
  have h178 := d178 (L := L)
  have h179 := d179 (L := L) 10 (enc := uEnc)
  unfold Does at h178 h179
  have w1 := wrapS (a := a) (by omega)
  simp only [Int.cast_ofNat_Int] at h179
  cases hs : isS (tk L a) w <;> simp -implicitDefEqProofs [m138, ha, hB, h178, h179, pTake, pIs, pFail, uEnc, bEnc, hs, w1, wrongV, wrong_keep]
theorem d139 (k : Nat) : Does L (fun _ => True) 139 [.int .i64 (k : Int)] tEnc (pKind L k) := by
  intro A B a d ha hd hB
  refine evW_by (m139_eq _ _ _ _) ?_
  have h76 := d76 (L := L)
  have h179 := d179 (L := L) 10 (enc := uEnc)
  unfold Does at h76 h179
  simp only [Int.cast_ofNat_Int] at h179
  have w1 := wrapS (a := a) (by omega)
  simp -implicitDefEqProofs [m139, ha, hB, h76, pHere, pKind, tEnc]
  by_cases hk : (tk L a).kind = k
  · simp -implicitDefEqProofs [Token.cells, ha, hB, h76, hk, tEnc, w1]
  · have hk' : ¬ ((tk L a).kind : Int) = k := by omega
    simp -implicitDefEqProofs [Token.cells, ha, hB, h76, h179, hk, hk', tEnc, w1, pFail, wrongV, wrong_keep]
theorem d181 (w : List UInt8) : Does L (fun d => d ≤ 64) 181 [.str w] uEnc (pOpen L w) := by
  intro A B a d ha hd hB
  refine evW_by (m181_eq _ _ _ _) ?_
  have h178 := d178 (L := L)
  have h138 := d138 hL w
  have h179 := d179 (L := L) 11 (enc := uEnc)
  unfold Does at h178 h179 h138
  simp only [Int.cast_ofNat_Int] at h179
  have w1 := wrapS (a := d) (by omega)
  by_cases hd64 : d = 64
  · subst hd64
    cases hs : isS (tk L a) w <;> simp -implicitDefEqProofs [m181, ha, hB, h178, h138, h179, pTake, pIs, pOpen, pFail, uEnc, bEnc, hs, w1, wrongV, wrong_keep]
  · have hd64' : ¬ (d : Int) = 64 := by omega
    cases hs : isS (tk L a) w <;> simp -implicitDefEqProofs [m181, ha, hB, h178, h138, h179, pTake, pIs, pOpen, pFail, uEnc, bEnc, hs, w1, wrongV, wrong_keep, hd64, hd64']
theorem d183 (w : List UInt8) : Does L (fun d => 1 ≤ d ∧ d ≤ 65) 183 [.str w] uEnc (pShut L w) := by
  intro A B a d ha hd hB
  obtain ⟨d, rfl⟩ : ∃ e, d = e + 1 := ⟨d - 1, by omega⟩
  refine evW_by (m183_eq _ _ _ _) ?_
  have h138 := d138 hL w
  unfold Does at h138
  have w1 := wrapN (a := d) (by omega)
  cases hs : isS (tk L a) w <;> simp -implicitDefEqProofs [m183, ha, hB, h138, pTake, pShut, uEnc, hs, w1, wrongV, wrong_keep]
theorem d145 : Does L (fun _ => True) 145 [] nEnc (pLabel L) := by
  intro A B a d ha hd hB
  refine evW_by (m145_eq _ _ _) ?_
  have h143 := d143 hL
  have h138 := d138 hL
  unfold Does at h143 h138
  cases hs : isS (tk L a) secS
  · cases hq : isS (tk L a) pubS <;> simp only [secS, pubS] at hs hq <;> simp -implicitDefEqProofs [m145, ha, hB, h143, h138, pTake, pMaybe, pLabel, nEnc, uEnc, bEnc, hs, hq, secS, pubS, wrongV, wrong_keep]
  · simp only [secS] at hs
    simp -implicitDefEqProofs [m145, ha, hB, h143, h138, pTake, pMaybe, pLabel, nEnc, uEnc, bEnc, hs, secS, wrongV, wrong_keep]
def Ty.cells (t : Ty) : List AVal := [.int .i64 (t.elem : Int), .int .i64 (t.len : Int), .int .i64 (t.label : Int)]
def tyEnc (t : Ty) : AVal := .agg t.cells
theorem d144 (l : Nat) : Does L (fun _ => True) 144 [.int .i64 (l : Int)] tyEnc (pScalar L l) := by
  intro A B a d ha hd hB
  refine evW_by (m144_eq _ _ _ _) ?_
  have h143 := d143 hL
  have h138 := d138 hL
  unfold Does at h143 h138
  cases hs : isS (tk L a) maskS
  · cases hq : isS (tk L a) u32S <;> simp only [maskS, u32S] at hs hq <;> simp -implicitDefEqProofs [m144, ha, hB, h143, h138, pTake, pMaybe, pScalar, tyEnc, Ty.cells, uEnc, bEnc, hs, hq, maskS, u32S, wrongV, wrong_keep, int3_keep]
  · simp only [maskS] at hs
    simp -implicitDefEqProofs [m144, ha, hB, h143, h138, pTake, pMaybe, pScalar, tyEnc, Ty.cells, uEnc, bEnc, hs, maskS, wrongV, wrong_keep, int3_keep]
end
end Go.Proofs.YtkeoalhglkfbkaaDoor

/-
  The parser's functions on types and parameters, by the evaluator. No conditions.
-/
namespace Go.Proofs.YtkeoalhglkfbkaaDoor
open Go Hk
attribute [simp] pm_bind PM.bind pm_pure pIs pHere pMaybe pTake pKind pFail pOpen pShut pNext pUp tEnc uEnc nEnc bEnc tyEnc Ty.cells Token.cells wrongV wrong_keep

section
variable {L : List Token} (hL : L.length ≤ 131072) (hK : TokOk L)
include hL hK

theorem d228 : Does L (fun _ => True) 228 [] nEnc (pMany L) := by
  intro A B a d ha hd hB
  refine evW_by (m228_eq _ _ _) ?_
  have h138 := d138 hL
  have h139 := d139 hL 2
  have h76 := d76 (L := L)
  have h179 := d179 (L := L) 10 (enc := uEnc)
  unfold Does at h138 h139 h76 h179
  simp only [Int.cast_ofNat_Int] at h179 h139
  cases hs : isS (tk L a) [91]
  · simp -implicitDefEqProofs [m228, ha, hB, h138, pMany, hs]
  · have ha1 := isS_lt hK ha hs
    by_cases h2 : (tk L (a + 1)).kind = 2
    · have ha2 := kind_lt (k := 2) hK ha1 (by decide) h2
      by_cases h3 : (tk L (a + 1)).num = 0
      · simp -implicitDefEqProofs [m228, ha, ha1, hB, h138, h76, h179, h139, pMany, hs, h2, h3]
      · have h3' : ¬ ((tk L (a + 1)).num : Int) = 0 := by omega
        cases hs2 : isS (tk L (a + 1 + 1)) [93] <;>
          simp -implicitDefEqProofs [m228, ha, ha1, ha2, hB, h138, h76, h179, h139, pMany, hs, hs2, h2, h3, h3']
    · have h2' : ¬ ((tk L (a + 1)).kind : Int) = 2 := by omega
      simp -implicitDefEqProofs [m228, ha, ha1, hB, h138, h76, h179, h139, pMany, hs, h2, h2']

theorem d180 (l : Nat) : Does L (fun _ => True) 180 [.int .i64 (l : Int)] tyEnc (pKinds L l) := by
  intro A B a d ha hd hB
  refine evW_by (m180_eq _ _ _ _) ?_
  have h143 := d143 hL
  have h144 := d144 hL l
  have h228 := d228 hL hK
  have h178 := d178 (L := L)
  unfold Does at h143 h144 h228 h178
  cases hs : isS (tk L a) [117, 56]
  · simp -implicitDefEqProofs [m180, ha, hB, h143, h144, pKinds, hs]
    cases h1 : pScalar L l a d with
    | bad e p a1 d1 => simp -implicitDefEqProofs [hB]
    | ok t a1 d1 =>
      obtain ⟨g1, g2, g3⟩ := g_scalar hK a d _ _ _ h1 ha
      by_cases h2 : t.elem = 0
      · simp -implicitDefEqProofs [ha, hB, g2, h178, h228, h2]
        cases h3 : isS (tk L a1) [91]
        · simp -implicitDefEqProofs [hB, h2]
        · simp -implicitDefEqProofs [hB, g2, h228]
          cases h4 : pMany L a1 d1 with
          | bad e p a2 d2 => simp -implicitDefEqProofs [hB]
          | ok n a2 d2 => simp -implicitDefEqProofs [hB, h2]
      · have h2' : ¬ (t.elem : Int) = 0 := by omega
        simp -implicitDefEqProofs [ha, hB, g2, h178, h228, h2, h2']
  · have ha1 := isS_lt hK ha hs
    simp -implicitDefEqProofs [m180, ha, ha1, hB, h143, h228, pKinds, hs]
    cases h4 : pMany L (a + 1) d with
    | bad e p a2 d2 => simp -implicitDefEqProofs [hB]
    | ok n a2 d2 => simp -implicitDefEqProofs [hB]

theorem d142 : Does L (fun _ => True) 142 [] (fun x : XP => .agg ([.int .i64 (x.pos : Int), .str x.name] ++ x.ty.cells ++ [.bool x.out])) (pParam L) := by
  intro A B a d ha hd hB
  refine evW_by (m142_eq _ _ _) ?_
  have h143 := d143 hL
  have h145 := d145 hL
  have h139 := d139 hL 1
  have h138 := d138 hL
  have h180 := d180 hL hK
  unfold Does at h143 h145 h139 h138 h180
  simp only [Int.cast_ofNat_Int] at h139
  simp -implicitDefEqProofs [m142, ha, hB, h143, pParam]
  obtain ⟨a1, d1, e1⟩ : ∃ a1 d1, a1 = (if isS (tk L a) [111, 117, 116] = true then a + 1 else a) ∧ d1 = d := ⟨_, _, rfl, rfl⟩
  obtain ⟨e1, rfl⟩ := e1
  have ha1 : a1 < L.length := by
    subst e1; split
    · rename_i h; exact isS_lt hK ha h
    · exact ha
  rw [← e1]
  simp -implicitDefEqProofs [ha1, hB, h145]
  cases h1 : pLabel L a1 d1 with
  | bad e p a2 d2 => simp -implicitDefEqProofs [hB]
  | ok l a2 d2 =>
    obtain ⟨g1, ha2, rfl⟩ := g_label hK a1 d1 _ _ _ h1 ha1
    simp -implicitDefEqProofs [ha2, hB, h139]
    by_cases h2 : (tk L a2).kind = 1
    · have ha3 := kind_lt (k := 1) hK ha2 (by decide) h2
      simp -implicitDefEqProofs [ha3, hB, h2, h138]
      cases h3 : isS (tk L (a2 + 1)) [58]
      · simp -implicitDefEqProofs [hB]
      · have ha4 := isS_lt hK ha3 h3
        simp -implicitDefEqProofs [ha4, hB, h180]
        cases h4 : pKinds L l (a2 + 1 + 1) d2 with
        | bad e p a5 d5 => simp -implicitDefEqProofs [hB]
        | ok ty a5 d5 => simp -implicitDefEqProofs [hB]
    · simp -implicitDefEqProofs [hB, h2]
end
end Go.Proofs.YtkeoalhglkfbkaaDoor

/-
  Lists with commas between: tools. No conditions.
-/
namespace Go.Proofs.YtkeoalhglkfbkaaDoor
open Go Hk

theorem lpW_post {F : List AVal × Heap → Option R} {σ : Type} (enc : σ → List AVal × Heap) (inv : σ → Prop) (μ : σ → Nat) (Post : σ → R → Prop)
    (h : ∀ s, inv s → (∃ s', F (enc s) = some (.normal, enc s') ∧ inv s' ∧ μ s' < μ s ∧ ∀ r, Post s' r → Post s r) ∨ (∃ r, F (enc s) = some r ∧ r.1 ≠ .normal ∧ Post s r)) :
    ∀ s, inv s → ∃ r, lpW F (enc s) = some r ∧ Post s r := by
  have key : ∀ n s, μ s = n → inv s → ∃ r, lpW F (enc s) = some r ∧ Post s r := by
    intro n
    induction n using Nat.strongRecOn with
    | _ n ih =>
      intro s hn hi
      rw [lpW_step]
      rcases h s hi with ⟨s', e1, e2, e3, e4⟩ | ⟨r, e1, e2, e3⟩
      · obtain ⟨r, h1, h2⟩ := ih (μ s') (by omega) s' rfl e2
        refine ⟨r, ?_, e4 r h2⟩
        rw [e1]
        simp only [Option.bind_some, thenDo_normal]
        exact h1
      · refine ⟨r, ?_, e3⟩
        rw [e1]
        obtain ⟨e, l⟩ := r
        cases e <;> first | exact absurd rfl e2 | rfl
  exact fun s hi => key (μ s) s rfl hi

@[simp] theorem wrong_san {m : Nat} {h : Heap} {e p : Int} : AVal.san m h (.iface 137 (.agg [.int .i64 e, .int .i64 p])) = .iface 137 (.agg [.int .i64 e, .int .i64 p]) := (rfl)
@[simp] theorem wrong_untok {e p : Int} : AVal.untok (.iface 137 (.agg [.int .i64 e, .int .i64 p])) = .iface 137 (.agg [.int .i64 e, .int .i64 p]) := (rfl)

@[simp] theorem cells_ptr {i o : Nat} : AVal.cells (.ptr i o) = [.ptr i o] := (rfl)
@[simp] theorem cellOk_ptr {i o : Nat} : AVal.cellOk (.ptr i o) = true := (rfl)
@[simp] theorem untok_func {f : Nat} {x y : List AVal} : AVal.untok (.func f x y) = .func f x y := (rfl)
@[simp] theorem HN_succ {A B : List ABlk} {j k : Nat} : HN A B + j + k = HN A B + (j + k) := Nat.add_assoc _ _ _
@[simp] theorem dec_lt {n k : Nat} : decide (n + k < n) = false := by simp
theorem pMore_eq {L : List Token} {α : Type} {one : PM α} {n : Nat} {l : List α} {a d : Nat} : pMore L one (n + 1) l a d = match one a d with
    | .bad e p a1 d1 => .bad e p a1 d1
    | .ok x a1 d1 => if isS (tk L a1) [44] = true then pMore L one n (l ++ [x]) (a1 + 1) d1 else .ok (l ++ [x]) a1 d1 := by
  rw [pMore]
  simp only [pm_bind, PM.bind, pMaybe]
  cases one a d with
  | bad => rfl
  | ok x a1 d1 => cases h : isS (tk L a1) [44] <;> simp [h, pm_pure]

/-- Rows of so many cells, fit for persistent memory. -/
structure RowOk {α : Type} (enc : α → List AVal) (sz : Nat) : Prop where
  len : ∀ x, (enc x).length = sz
  pure : ∀ x, pureRow (enc x) = some (enc x)
  ok : ∀ x, (enc x).all AVal.cellOk = true

theorem abuildSlice1 {cs zero : List AVal} {sz : Nat} {h : Heap} (hl : cs.length = sz) (hz : zero.length = sz) (hp : pureRow cs = some cs) (ho : cs.all AVal.cellOk = true) :
    abuildSlice 1 sz zero [(0, .agg cs)] h = some (.slice [cs] (.own h.length), h ++ [.front 1 sz]) := by
  have e1 : abuild (List.replicate 1 zero).flatten ((List.range 1).map fun i => (i * sz, sz)) [(0, .agg cs)] = some (.agg cs) := by
    simp [abuild, hl, hz, putCells, AVal.isJunk, List.range_succ]
  simp only [abuildSlice, abuildRow, e1, hp, hz, ho, and_self, if_true, rowsOf]
  rw [← hl, List.take_length]

section
variable {A B C : List ABlk} {L : List Token} {a d k : Nat}
theorem HQ_app1 {rows new : List (List AVal)} {sz by_ sz' : Nat} {t : Tok} (hc : C[k]? = some (.front rows.length sz')) (hs : sz' = sz ∨ rows.length = 0 ∧ sz' = 0) (hr : ∀ r ∈ new, r.length = sz) (hn : new ≠ [])
    (hb : (rows.length + new.length) * by_ ≤ 140737488355328) (hb2 : rows.length + new.length ≤ 140737488355328) :
    aappend sz by_ (HQ A L a d (B ++ C)) (.slice rows (.own (HN A B + k))) (.slice new t) =
      some (.slice (rows ++ new) (.own (HN A B + k)), HQ A L a d (B ++ C.set k (.front (rows.length + new.length) sz))) := by
  have h1 : (new.all fun r => r.length == sz) = true := by simpa using hr
  have h2 : ¬ new.length = 0 := by simpa using hn
  simp only [aappend, arowsS, h1, if_true, HQ_at, hc]
  rw [if_pos ⟨trivial, hs, hb, hb2⟩, if_neg h2, HQ_set]

theorem HQ_truncK (h : KB A (B ++ C.take k)) (hk : k ≤ C.length) : trunc (HN A B + k) (HQ A L a d (B ++ C)) = some (HQ A L a d (B ++ C.take k)) := by
  have := HQ_trunc (L := L) (a := a) (d := d) (C := C.drop k) h
  rw [HN_app, List.append_assoc, List.take_append_drop, List.length_take, Nat.min_eq_left hk] at this
  exact this
theorem A_lt : A.length < HN A B + k := by simp [HN]; omega
theorem A_lt0 : A.length < HN A B := A_lt (k := 0)

/-- A block that holds the parser's address. -/
def Has (A B : List ABlk) (i : Nat) : Prop := ∃ j, i = A.length + 1 + j ∧ B[j]? = some (.cells [.ptr A.length 0])
theorem Has.app {i : Nat} (h : Has A B i) : Has A (B ++ C) i := by
  obtain ⟨j, h1, h2⟩ := h
  have := (List.getElem?_eq_some_iff.1 h2).1
  exact ⟨j, h1, by rw [List.getElem?_append_left this]; exact h2⟩
theorem Has.new : Has A (B ++ .cells [.ptr A.length 0] :: C) (HN A B) := ⟨B.length, rfl, by simp⟩
theorem Has.get {i : Nat} (h : Has A B i) : getBlk (HQ A L a d B) i = some [.ptr A.length 0] := by
  obtain ⟨j, rfl, h2⟩ := h
  unfold getBlk HQ
  rw [List.getElem?_append_right (by omega), show A.length + 1 + j - A.length = j + 1 by omega, List.getElem?_cons_succ, h2]
theorem Has.lt {i : Nat} (h : Has A B i) : i < HN A B + k := by
  obtain ⟨j, rfl, h2⟩ := h
  have := (List.getElem?_eq_some_iff.1 h2).1
  simp [HN]; omega
theorem san_func1 {m f i : Nat} {h : Heap} (hi : i < m) : AVal.san m h (.func f [] [.ptr i 0]) = .func f [] [.ptr i 0] := by
  have : AVal.san m h (.func f [] [.ptr i 0]) = bif (AVal.func f [] [.ptr i 0]).shut1 m then .func f [] [.ptr i 0] else .junk := rfl
  rw [this]
  simp [AVal.shut1, AVal.shut0, refOf, hi]
end
end Go.Proofs.YtkeoalhglkfbkaaDoor

/-
  The parser reads lists, by the evaluator. No conditions.
-/
namespace Go.Proofs.YtkeoalhglkfbkaaDoor
open Go Hk
def XP.cells (x : XP) : List AVal := [.int .i64 (x.pos : Int), .str x.name, .int .i64 (x.ty.elem : Int), .int .i64 (x.ty.len : Int), .int .i64 (x.ty.label : Int), .bool x.out]
/-- The size of a slice's elements, once it has some. -/
def fsz (n sz : Nat) : Nat := if n = 0 then 0 else sz
theorem fsz_zero {sz : Nat} : fsz 0 sz = 0 := (rfl)
theorem fsz_succ {n sz : Nat} : fsz (n + 1) sz = sz := by simp [fsz]
theorem fsz_or (n sz : Nat) : fsz n sz = sz ∨ n = 0 ∧ fsz n sz = 0 := by by_cases h : n = 0 <;> simp [fsz, h]
theorem XP.row : RowOk XP.cells 6 := ⟨fun _ => rfl, fun _ => rfl, fun _ => rfl⟩
mutual
def XE.cells : XE → List AVal
  | .mk k p n name args => [.int .i64 (k : Int), .int .i64 (p : Int), .int .i64 (n : Int), .str name, .slice (XE.rows args) .no]
def XE.rows : List XE → List (List AVal)
  | [] => []
  | x :: r => x.cells :: XE.rows r
end
theorem XE.rows_eq : ∀ l : List XE, XE.rows l = l.map XE.cells
  | [] => rfl
  | x :: r => by simp [XE.rows, XE.rows_eq r]
theorem XE.row : RowOk XE.cells 5 := ⟨fun x => by cases x; simp [XE.cells], fun x => by cases x; simp [XE.cells, pureRow, AVal.pure1], fun x => by cases x; simp [XE.cells]⟩

section
variable {L : List Token} (hL : L.length ≤ 131072) (hK : TokOk L)
include hL hK

/-- A list of XP, round by round. -/
theorem d140_loop {one : PM XP} (hg : PGood L 1 (fun d => d) one) {A B : List ABlk} {i d : Nat} (hB : KB A B) (hi : Has A B i)
    (hone : ∀ (C : List ABlk) (a : Nat), a < L.length → KB A (B ++ C) → KK 141 [.ptr i 0] (HQ A L a d (B ++ C)) = some ((one a d).res (fun x => .agg (XP.cells x)) A L (B ++ C))) (n : Nat) (l : List XP) (a : Nat) (ha : a < L.length) (hn : L.length < a + n) (hl : l.length ≤ a) :
    ∃ r, lpW (m140_l0 KK (HN A B + 2)) ([.ptr A.length 0, .func 141 [] [.ptr i 0], .slice [] (.own (HN A B)), .slice (l.map XP.cells) (.own (HN A B + 1))], HQ A L a d (B ++ [.front 0 0, .front l.length (fsz l.length 6)])) = some r ∧
      match pMore L one n l a d with
      | .ok l' a' d' => r = (.ret, [.ptr A.length 0, .func 141 [] [.ptr i 0], .slice (l'.map XP.cells) (.own (HN A B + 1)), .slice (l'.map XP.cells) (.own (HN A B + 1))], HQ A L a' d' (B ++ [.front 0 0, .front l'.length 6]))
      | .bad e p a' d' => ∃ vs C, r = (.pan (wrongV e p), vs, HQ A L a' d' (B ++ C)) := by
  have h143 := d143 hL
  unfold Does at h143
  refine lpW_post (σ := List XP × Nat × Nat) (fun s => ([.ptr A.length 0, .func 141 [] [.ptr i 0], .slice [] (.own (HN A B)), .slice (s.1.map XP.cells) (.own (HN A B + 1))], HQ A L s.2.1 d (B ++ [.front 0 0, .front s.1.length (fsz s.1.length 6)])))
    (fun s => s.2.1 < L.length ∧ L.length < s.2.1 + s.2.2 ∧ s.1.length ≤ s.2.1) (fun s => s.2.2)
    (fun s r => match pMore L one s.2.2 s.1 s.2.1 d with
      | .ok l' a' d' => r = (.ret, [.ptr A.length 0, .func 141 [] [.ptr i 0], .slice (l'.map XP.cells) (.own (HN A B + 1)), .slice (l'.map XP.cells) (.own (HN A B + 1))], HQ A L a' d' (B ++ [.front 0 0, .front l'.length 6]))
      | .bad e p a' d' => ∃ vs C, r = (.pan (wrongV e p), vs, HQ A L a' d' (B ++ C))) ?_ (l, a, n) ⟨ha, hn, hl⟩
  rintro ⟨l, a, n⟩ ⟨ha, hn, hl⟩
  simp only at ha hn hl
  have hi' : i < HN A B + 2 := hi.lt
  have hsf : ∀ h, AVal.san (HN A B + 2) h (.func 141 [] [.ptr i 0]) = .func 141 [] [.ptr i 0] := fun h => san_func1 hi'
  have hsp : ∀ h, AVal.san (HN A B + 2) h (.ptr A.length 0) = .ptr A.length 0 := fun h => san_ptr_lt A_lt
  have hKB : ∀ x y, KB A (B ++ [.front 0 0, .front x y]) := fun x y => hB.app (by simp)
  have htr : ∀ a x y C, trunc (HN A B + 2) (HQ A L a d (B ++ (.front 0 0 :: .front x y :: C))) = some (HQ A L a d (B ++ [.front 0 0, .front x y])) := fun a x y C => by
    have := HQ_truncK (L := L) (a := a) (d := d) (A := A) (B := B) (C := .front 0 0 :: .front x y :: C) (k := 2) (by simpa using hKB x y) (by simp)
    simpa using this
  have htr0 : ∀ a d x y, trunc (HN A B + 2) (HQ A L a d (B ++ [.front 0 0, .front x y])) = some (HQ A L a d (B ++ [.front 0 0, .front x y])) := fun a d x y => by
    have := HQ_truncK (L := L) (a := a) (d := d) (A := A) (B := B) (C := [.front 0 0, .front x y]) (k := 2) (by simpa using hKB x y) (by simp)
    simpa using this
  obtain ⟨n, rfl⟩ : ∃ k, n = k + 1 := ⟨n - 1, by omega⟩
  have hfst : m140_l0 KK (HN A B + 2) ([.ptr A.length 0, .func 141 [] [.ptr i 0], .slice [] (.own (HN A B)), .slice (l.map XP.cells) (.own (HN A B + 1))], HQ A L a d (B ++ [.front 0 0, .front l.length (fsz l.length 6)])) =
      match one a d with
      | .bad e p a1 d1 => (trunc (HN A B + 2) (HQ A L a1 d1 (B ++ [.front 0 0, .front l.length (fsz l.length 6)]))).map fun h => (.pan (wrongV e p), [.ptr A.length 0, .func 141 [] [.ptr i 0], .slice [] (.own (HN A B)), .slice (l.map XP.cells) (.own (HN A B + 1))], h)
      | .ok x a1 d1 => if isS (tk L a1) [44] = true then some (.normal, [.ptr A.length 0, .func 141 [] [.ptr i 0], .slice [] (.own (HN A B)), .slice ((l ++ [x]).map XP.cells) (.own (HN A B + 1))], HQ A L (a1 + 1) d (B ++ [.front 0 0, .front (l ++ [x]).length 6]))
        else some (.ret, [.ptr A.length 0, .func 141 [] [.ptr i 0], .slice ((l ++ [x]).map XP.cells) (.own (HN A B + 1)), .slice ((l ++ [x]).map XP.cells) (.own (HN A B + 1))], HQ A L a1 d (B ++ [.front 0 0, .front (l ++ [x]).length 6])) := by
    have e1 := hone [.front 0 0, .front l.length (fsz l.length 6)] a ha (hKB _ _)
    have ce : callE ann KK 141 (argsFor ann 141 [.ptr i 0]) (HQ A L a d (B ++ [.front 0 0, .front l.length (fsz l.length 6)])) = some ((one a d).res (fun x => .agg (XP.cells x)) A L (B ++ [.front 0 0, .front l.length (fsz l.length 6)])) := e1
    simp -implicitDefEqProofs only [m140_l0, List.getD_cons_zero, List.getD_cons_succ, acallee, Option.bind_some, List.nil_append, List.append_nil, ce]
    cases h1 : one a d with
    | bad e p a1 d1 =>
      simp -implicitDefEqProofs [htr0, endR, hsf, hsp]
    | ok x a1 d1 =>
      obtain ⟨g1, g2, g3⟩ := hg a d _ _ _ h1 ha
      have g3 : d = d1 := g3.symm
      subst g3
      have b1 := abuildSlice1 (zero := [.int .i64 0, .str [], .int .i64 0, .int .i64 0, .int .i64 0, .bool false]) (h := HQ A L a1 d (B ++ [.front 0 0, .front l.length (fsz l.length 6)])) (XP.row.len x) rfl (XP.row.pure x) (XP.row.ok x)
      have b2 := HQ_app1 (A := A) (B := B) (L := L) (a := a1) (d := d) (C := [.front 0 0, .front l.length (fsz l.length 6), .front 1 6]) (k := 1) (rows := l.map XP.cells) (new := [XP.cells x]) (sz := 6) (by_ := 56) (sz' := fsz l.length 6) (t := .own (HN A B + 2)) (by simp) (by rw [List.length_map]; exact fsz_or _ _) (by simpa using XP.row.len x) (by simp) (by simp; omega) (by simp; omega)
      simp only [List.length_map, List.length_singleton, List.set_cons_succ, List.set_cons_zero] at b2
      simp -implicitDefEqProofs [b1, b2]
      rw [h143 [44] _ _ _ _ g2 trivial (hB.app (by simp))]
      simp -implicitDefEqProofs only [pMaybe]
      cases h2 : isS (tk L a1) [44] <;> simp -implicitDefEqProofs [htr, endR, hsf, hsp]
  rw [hfst]
  simp only [pMore_eq]
  cases h1 : one a d with
  | bad e p a1 d1 =>
    right
    exact ⟨_, (by simp only [htr0, Option.map_some]; rfl), by simp, _, _, rfl⟩
  | ok x a1 d1 =>
    obtain ⟨g1, g2, g3⟩ := hg a d _ _ _ h1 ha
    have g3 : d = d1 := g3.symm
    subst g3
    cases h2 : isS (tk L a1) [44] with
    | true =>
      left
      refine ⟨(l ++ [x], a1 + 1, n), ?_, ⟨isS_lt hK g2 h2, by simp; omega, by simp; omega⟩, by simp, ?_⟩
      · simp [h2, fsz_succ]
      · intro r hr
        simpa [h2] using hr
    | false =>
      right
      exact ⟨_, by simp only [h2]; rfl, by simp, by simp [h2]⟩

theorem d140 {one : PM XP} (w : List UInt8) (hg : PGood L 1 (fun d => d) one) {A B : List ABlk} {i a d : Nat} (ha : a < L.length) (hB : KB A B) (hi : Has A B i)
    (hone : ∀ (C : List ABlk) (a : Nat), a < L.length → KB A (B ++ C) → KK 141 [.ptr i 0] (HQ A L a d (B ++ C)) = some ((one a d).res (fun x => .agg (XP.cells x)) A L (B ++ C))) :
    KK 140 [.ptr A.length 0, .str w, .func 141 [] [.ptr i 0]] (HQ A L a d B) = some ((pList L w one a d).res (fun l => .slice (l.map XP.cells) .no) A L B) := by
  refine evW_by (m140_eq _ _ _ _ _) ?_
  have h178 := d178 (L := L)
  unfold Does at h178
  unfold pList
  cases hs : isS (tk L a) w
  · obtain ⟨r, h1, h2⟩ := d140_loop hL hK hg hB hi hone 131073 [] a ha (by omega) (Nat.zero_le _)
    simp only [List.map_nil, List.length_nil, fsz_zero] at h1
    simp -implicitDefEqProofs [m140, ha, hB, h178, hs, h1]
    cases h3 : pMore L one 131073 [] a d with
    | bad e p a' d' =>
      rw [h3] at h2
      obtain ⟨vs, C, rfl⟩ := h2
      simp -implicitDefEqProofs [hB]
    | ok l' a' d' =>
      rw [h3] at h2
      subst h2
      simp -implicitDefEqProofs [hB]
  · simp -implicitDefEqProofs [m140, ha, hB, h178, hs]

/-- A list of XE, round by round. -/
theorem d259_loop {one : PM XE} (hg : PGood L 1 (fun d => d) one) {A B : List ABlk} {i d : Nat} (hB : KB A B) (hi : Has A B i)
    (hone : ∀ (C : List ABlk) (a : Nat), a < L.length → KB A (B ++ C) → KK 260 [.ptr i 0] (HQ A L a d (B ++ C)) = some ((one a d).res (fun x => .agg (XE.cells x)) A L (B ++ C))) (n : Nat) (l : List XE) (a : Nat) (ha : a < L.length) (hn : L.length < a + n) (hl : l.length ≤ a) :
    ∃ r, lpW (m259_l0 KK (HN A B + 2)) ([.ptr A.length 0, .func 260 [] [.ptr i 0], .slice [] (.own (HN A B)), .slice (l.map XE.cells) (.own (HN A B + 1))], HQ A L a d (B ++ [.front 0 0, .front l.length (fsz l.length 5)])) = some r ∧
      match pMore L one n l a d with
      | .ok l' a' d' => r = (.ret, [.ptr A.length 0, .func 260 [] [.ptr i 0], .slice (l'.map XE.cells) (.own (HN A B + 1)), .slice (l'.map XE.cells) (.own (HN A B + 1))], HQ A L a' d' (B ++ [.front 0 0, .front l'.length 5]))
      | .bad e p a' d' => ∃ vs C, r = (.pan (wrongV e p), vs, HQ A L a' d' (B ++ C)) := by
  have h143 := d143 hL
  unfold Does at h143
  refine lpW_post (σ := List XE × Nat × Nat) (fun s => ([.ptr A.length 0, .func 260 [] [.ptr i 0], .slice [] (.own (HN A B)), .slice (s.1.map XE.cells) (.own (HN A B + 1))], HQ A L s.2.1 d (B ++ [.front 0 0, .front s.1.length (fsz s.1.length 5)])))
    (fun s => s.2.1 < L.length ∧ L.length < s.2.1 + s.2.2 ∧ s.1.length ≤ s.2.1) (fun s => s.2.2)
    (fun s r => match pMore L one s.2.2 s.1 s.2.1 d with
      | .ok l' a' d' => r = (.ret, [.ptr A.length 0, .func 260 [] [.ptr i 0], .slice (l'.map XE.cells) (.own (HN A B + 1)), .slice (l'.map XE.cells) (.own (HN A B + 1))], HQ A L a' d' (B ++ [.front 0 0, .front l'.length 5]))
      | .bad e p a' d' => ∃ vs C, r = (.pan (wrongV e p), vs, HQ A L a' d' (B ++ C))) ?_ (l, a, n) ⟨ha, hn, hl⟩
  rintro ⟨l, a, n⟩ ⟨ha, hn, hl⟩
  simp only at ha hn hl
  have hi' : i < HN A B + 2 := hi.lt
  have hsf : ∀ h, AVal.san (HN A B + 2) h (.func 260 [] [.ptr i 0]) = .func 260 [] [.ptr i 0] := fun h => san_func1 hi'
  have hsp : ∀ h, AVal.san (HN A B + 2) h (.ptr A.length 0) = .ptr A.length 0 := fun h => san_ptr_lt A_lt
  have hKB : ∀ x y, KB A (B ++ [.front 0 0, .front x y]) := fun x y => hB.app (by simp)
  have htr : ∀ a x y C, trunc (HN A B + 2) (HQ A L a d (B ++ (.front 0 0 :: .front x y :: C))) = some (HQ A L a d (B ++ [.front 0 0, .front x y])) := fun a x y C => by
    have := HQ_truncK (L := L) (a := a) (d := d) (A := A) (B := B) (C := .front 0 0 :: .front x y :: C) (k := 2) (by simpa using hKB x y) (by simp)
    simpa using this
  have htr0 : ∀ a d x y, trunc (HN A B + 2) (HQ A L a d (B ++ [.front 0 0, .front x y])) = some (HQ A L a d (B ++ [.front 0 0, .front x y])) := fun a d x y => by
    have := HQ_truncK (L := L) (a := a) (d := d) (A := A) (B := B) (C := [.front 0 0, .front x y]) (k := 2) (by simpa using hKB x y) (by simp)
    simpa using this
  obtain ⟨n, rfl⟩ : ∃ k, n = k + 1 := ⟨n - 1, by omega⟩
  have hfst : m259_l0 KK (HN A B + 2) ([.ptr A.length 0, .func 260 [] [.ptr i 0], .slice [] (.own (HN A B)), .slice (l.map XE.cells) (.own (HN A B + 1))], HQ A L a d (B ++ [.front 0 0, .front l.length (fsz l.length 5)])) =
      match one a d with
      | .bad e p a1 d1 => (trunc (HN A B + 2) (HQ A L a1 d1 (B ++ [.front 0 0, .front l.length (fsz l.length 5)]))).map fun h => (.pan (wrongV e p), [.ptr A.length 0, .func 260 [] [.ptr i 0], .slice [] (.own (HN A B)), .slice (l.map XE.cells) (.own (HN A B + 1))], h)
      | .ok x a1 d1 => if isS (tk L a1) [44] = true then some (.normal, [.ptr A.length 0, .func 260 [] [.ptr i 0], .slice [] (.own (HN A B)), .slice ((l ++ [x]).map XE.cells) (.own (HN A B + 1))], HQ A L (a1 + 1) d (B ++ [.front 0 0, .front (l ++ [x]).length 5]))
        else some (.ret, [.ptr A.length 0, .func 260 [] [.ptr i 0], .slice ((l ++ [x]).map XE.cells) (.own (HN A B + 1)), .slice ((l ++ [x]).map XE.cells) (.own (HN A B + 1))], HQ A L a1 d (B ++ [.front 0 0, .front (l ++ [x]).length 5])) := by
    have e1 := hone [.front 0 0, .front l.length (fsz l.length 5)] a ha (hKB _ _)
    have ce : callE ann KK 260 (argsFor ann 260 [.ptr i 0]) (HQ A L a d (B ++ [.front 0 0, .front l.length (fsz l.length 5)])) = some ((one a d).res (fun x => .agg (XE.cells x)) A L (B ++ [.front 0 0, .front l.length (fsz l.length 5)])) := e1
    simp -implicitDefEqProofs only [m259_l0, List.getD_cons_zero, List.getD_cons_succ, acallee, Option.bind_some, List.nil_append, List.append_nil, ce]
    cases h1 : one a d with
    | bad e p a1 d1 =>
      simp -implicitDefEqProofs [htr0, endR, hsf, hsp]
    | ok x a1 d1 =>
      obtain ⟨g1, g2, g3⟩ := hg a d _ _ _ h1 ha
      have g3 : d = d1 := g3.symm
      subst g3
      have b1 := abuildSlice1 (zero := [.int .i64 0, .int .i64 0, .int .i64 0, .str [], .slice [] .nil]) (h := HQ A L a1 d (B ++ [.front 0 0, .front l.length (fsz l.length 5)])) (XE.row.len x) rfl (XE.row.pure x) (XE.row.ok x)
      have b2 := HQ_app1 (A := A) (B := B) (L := L) (a := a1) (d := d) (C := [.front 0 0, .front l.length (fsz l.length 5), .front 1 5]) (k := 1) (rows := l.map XE.cells) (new := [XE.cells x]) (sz := 5) (by_ := 64) (sz' := fsz l.length 5) (t := .own (HN A B + 2)) (by simp) (by rw [List.length_map]; exact fsz_or _ _) (by simpa using XE.row.len x) (by simp) (by simp; omega) (by simp; omega)
      simp only [List.length_map, List.length_singleton, List.set_cons_succ, List.set_cons_zero] at b2
      simp -implicitDefEqProofs [b1, b2]
      rw [h143 [44] _ _ _ _ g2 trivial (hB.app (by simp))]
      simp -implicitDefEqProofs only [pMaybe]
      cases h2 : isS (tk L a1) [44] <;> simp -implicitDefEqProofs [htr, endR, hsf, hsp]
  rw [hfst]
  simp only [pMore_eq]
  cases h1 : one a d with
  | bad e p a1 d1 =>
    right
    exact ⟨_, (by simp only [htr0, Option.map_some]; rfl), by simp, _, _, rfl⟩
  | ok x a1 d1 =>
    obtain ⟨g1, g2, g3⟩ := hg a d _ _ _ h1 ha
    have g3 : d = d1 := g3.symm
    subst g3
    cases h2 : isS (tk L a1) [44] with
    | true =>
      left
      refine ⟨(l ++ [x], a1 + 1, n), ?_, ⟨isS_lt hK g2 h2, by simp; omega, by simp; omega⟩, by simp, ?_⟩
      · simp [h2, fsz_succ]
      · intro r hr
        simpa [h2] using hr
    | false =>
      right
      exact ⟨_, by simp only [h2]; rfl, by simp, by simp [h2]⟩

theorem d259 {one : PM XE} (w : List UInt8) (hg : PGood L 1 (fun d => d) one) {A B : List ABlk} {i a d : Nat} (ha : a < L.length) (hB : KB A B) (hi : Has A B i)
    (hone : ∀ (C : List ABlk) (a : Nat), a < L.length → KB A (B ++ C) → KK 260 [.ptr i 0] (HQ A L a d (B ++ C)) = some ((one a d).res (fun x => .agg (XE.cells x)) A L (B ++ C))) :
    KK 259 [.ptr A.length 0, .str w, .func 260 [] [.ptr i 0]] (HQ A L a d B) = some ((pList L w one a d).res (fun l => .slice (l.map XE.cells) .no) A L B) := by
  refine evW_by (m259_eq _ _ _ _ _) ?_
  have h178 := d178 (L := L)
  unfold Does at h178
  unfold pList
  cases hs : isS (tk L a) w
  · obtain ⟨r, h1, h2⟩ := d259_loop hL hK hg hB hi hone 131073 [] a ha (by omega) (Nat.zero_le _)
    simp only [List.map_nil, List.length_nil, fsz_zero] at h1
    simp -implicitDefEqProofs [m259, ha, hB, h178, hs, h1]
    cases h3 : pMore L one 131073 [] a d with
    | bad e p a' d' =>
      rw [h3] at h2
      obtain ⟨vs, C, rfl⟩ := h2
      simp -implicitDefEqProofs [hB]
    | ok l' a' d' =>
      rw [h3] at h2
      subst h2
      simp -implicitDefEqProofs [hB]
  · simp -implicitDefEqProofs [m259, ha, hB, h178, hs]
end
end Go.Proofs.YtkeoalhglkfbkaaDoor

/-
  Expressions: signs, an index, a call. By the evaluator. No conditions.
-/
namespace Go.Proofs.YtkeoalhglkfbkaaDoor
open Go Hk

section
variable {x : XE} {n m : Nat} {h : Heap}
@[simp] theorem xe_len : x.cells.length = 5 := XE.row.len x
@[simp] theorem xe_take : x.cells.take 5 = x.cells := List.take_of_length_le (by simp)
@[simp] theorem xe_take' {l : List AVal} : (x.cells ++ l).take 5 = x.cells := by rw [List.take_append_of_le_length (by simp)]; simp
theorem xe_ok : ∀ c ∈ x.cells, c.cellOk = true := by simpa using XE.row.ok x
@[simp] theorem xe_ok2 : (∀ c, c ∈ x.cells → c.cellOk = true) = True := eq_true xe_ok
@[simp] theorem xe_nonil {os : List AVal} : keepTok h os x.cells = x.cells := keepTok_none (by cases x; simp [XE.cells, AVal.isNil])
@[simp] theorem xe_keep : x.cells.map (AVal.untok1 ∘ fun c => AVal.san1 m h c) = x.cells := by cases x; simp [XE.cells]
@[simp] theorem xe_untok : (AVal.agg x.cells).untok = .agg x.cells := by cases x; simp [XE.cells]
@[simp] theorem xe_CBn : CBn n x.cells := by cases x; simp [XE.cells]
@[simp] theorem xe_build : abuildSlice 1 5 [.int .i64 0, .int .i64 0, .int .i64 0, .str [], .slice [] .nil] [(0, .agg x.cells)] h = some (.slice [x.cells] (.own h.length), h ++ [.front 1 5]) :=
  abuildSlice1 (XE.row.len x) rfl (XE.row.pure x) (XE.row.ok x)
end
def xEnc (x : XE) : AVal := .agg x.cells
def lEnc (l : List XE) : AVal := .slice (l.map XE.cells) .no
attribute [simp] xEnc lEnc

def lvEnc : Option (Nat × Nat) → AVal
  | some (n, k) => .tuple [.int .i64 (n : Int), .int .i64 (k : Int)]
  | none => .tuple [.int .i64 (-1), .int .i64 0]
set_option maxHeartbeats 1000000 in
theorem c258 (w : List UInt8) (h : Heap) : KK 258 [.str w] h = some (.ret (lvEnc (levelOf w)), h) := by
  refine callP_pure rfl rfl (evW_by (m258_eq _ _ _) ?_)
  by_cases h0 : w = [61, 61]
  · subst h0; simp -implicitDefEqProofs [m258, levelOf, lvEnc, finR_zero]
  by_cases h1 : w = [33, 61]
  · subst h1; simp -implicitDefEqProofs [m258, levelOf, lvEnc, finR_zero]
  by_cases h2 : w = [60]
  · subst h2; simp -implicitDefEqProofs [m258, levelOf, lvEnc, finR_zero]
  by_cases h3 : w = [60, 61]
  · subst h3; simp -implicitDefEqProofs [m258, levelOf, lvEnc, finR_zero]
  by_cases h4 : w = [62]
  · subst h4; simp -implicitDefEqProofs [m258, levelOf, lvEnc, finR_zero]
  by_cases h5 : w = [62, 61]
  · subst h5; simp -implicitDefEqProofs [m258, levelOf, lvEnc, finR_zero]
  by_cases h6 : w = [124]
  · subst h6; simp -implicitDefEqProofs [m258, levelOf, lvEnc, finR_zero]
  by_cases h7 : w = [94]
  · subst h7; simp -implicitDefEqProofs [m258, levelOf, lvEnc, finR_zero]
  by_cases h8 : w = [38]
  · subst h8; simp -implicitDefEqProofs [m258, levelOf, lvEnc, finR_zero]
  by_cases h9 : w = [60, 60]
  · subst h9; simp -implicitDefEqProofs [m258, levelOf, lvEnc, finR_zero]
  by_cases h10 : w = [62, 62]
  · subst h10; simp -implicitDefEqProofs [m258, levelOf, lvEnc, finR_zero]
  by_cases h11 : w = [43]
  · subst h11; simp -implicitDefEqProofs [m258, levelOf, lvEnc, finR_zero]
  by_cases h12 : w = [45]
  · subst h12; simp -implicitDefEqProofs [m258, levelOf, lvEnc, finR_zero]
  by_cases h13 : w = [42]
  · subst h13; simp -implicitDefEqProofs [m258, levelOf, lvEnc, finR_zero]
  simp -implicitDefEqProofs [m258, levelOf, lvEnc, finR_zero, h0, h1, h2, h3, h4, h5, h6, h7, h8, h9, h10, h11, h12, h13]

def sgV (t : Token) (k : Nat) : Int × Bool := if t.kind = 4 then (match levelOf t.text with | some (n, kind) => (kind, decide (n = k)) | none => (0, false)) else (0, false)
theorem sgV_none {t : Token} {k : Nat} (h : signOf t k = none) : (sgV t k).2 = false := by
  unfold signOf at h
  unfold sgV
  split at h
  · rename_i hk
    simp only [hk, if_true]
    split at h
    · rename_i n kind hl
      split at h
      · cases h
      · rename_i hn; simp [hl, hn]
    · rename_i hl; simp [hl]
  · rename_i hk; simp [hk]
theorem sgV_some {t : Token} {k kind : Nat} (h : signOf t k = some kind) : sgV t k = ((kind : Int), true) := by
  unfold signOf at h
  unfold sgV
  split at h
  · rename_i hk
    simp only [hk, if_true]
    split at h
    · rename_i n kd hl
      split at h
      · rename_i hn; cases h; simp [hl, hn]
      · cases h
    · cases h
  · cases h
section
variable {L : List Token} (hL : L.length ≤ 131072) (hK : TokOk L)

def pSgn (L : List Token) (k : Nat) : PM (Int × Bool) := fun a d => .ok (sgV (tk L a) k) a d
def sgEnc (x : Int × Bool) : AVal := .tuple [.int .i64 x.1, .bool x.2]
attribute [simp] pSgn sgEnc
theorem d249 (k : Nat) : Does L (fun _ => True) 249 [.int .i64 (k : Int)] sgEnc (pSgn L k) := by
  intro A B a d ha hd hB
  refine evW_by (m249_eq _ _ _ _) ?_
  have h76 := d76 (L := L)
  unfold Does at h76
  have h258 := c258
  simp -implicitDefEqProofs [m249, ha, hB, h76]
  by_cases hk : (tk L a).kind = 4
  · simp -implicitDefEqProofs [hk, hB, h258, sgV]
    cases hl : levelOf (tk L a).text with
    | none =>
      have : ¬ (-1 : Int) = k := by omega
      simp -implicitDefEqProofs [lvEnc, hB, this]
    | some x =>
      obtain ⟨n, kind⟩ := x
      simp -implicitDefEqProofs [lvEnc, hB]
      omega
  · have hk' : ¬ ((tk L a).kind : Int) = 4 := by omega
    simp -implicitDefEqProofs [hk', hk, hB, sgV]

/-- So many nests are left, and one. -/
def dk (n d : Nat) : Prop := d + n = 65 ∧ d ≤ 64
theorem dk.up {n d : Nat} (h : dk (n + 1) d) (hd : ¬ d = 64) : dk n (d + 1) := ⟨by have := h.1; omega, by have := h.2; omega⟩

include hL hK
theorem c141 {A B : List ABlk} {i a d : Nat} (hi : Has A B i) (ha : a < L.length) (hB : KB A B) :
    KK 141 [.ptr i 0] (HQ A L a d B) = some ((pParam L a d).res (fun x => .agg x.cells) A L B) := by
  refine evW_by (m141_eq _ _ _) ?_
  have h142 := d142 hL hK
  unfold Does at h142
  have hg : ∀ C a d, getBlk (HQ A L a d (B ++ C)) i = some [.ptr A.length 0] := fun C a d => hi.app.get
  simp -implicitDefEqProofs [m141, ha, hB, hg, h142]
  cases h1 : pParam L a d with
  | bad e p a1 d1 => simp -implicitDefEqProofs [hB]
  | ok x a1 d1 => simp -implicitDefEqProofs [hB, XP.cells]

section
variable {n : Nat} {ex : PM XE} (he : Does L (dk n) 230 [] xEnc ex) (hg : PGood L 1 (fun d => d) ex)
include he

omit hL hK in
theorem c260 {A B : List ABlk} {i a d : Nat} (hi : Has A B i) (ha : a < L.length) (hd : dk n d) (hB : KB A B) :
    KK 260 [.ptr i 0] (HQ A L a d B) = some ((ex a d).res xEnc A L B) := by
  refine evW_by (m260_eq _ _ _) ?_
  unfold Does at he
  have hg : ∀ C a d, getBlk (HQ A L a d (B ++ C)) i = some [.ptr A.length 0] := fun C a d => hi.app.get
  simp -implicitDefEqProofs [m260, ha, hB, hg, he, hd]
  cases h1 : ex a d with
  | bad e p a1 d1 => simp -implicitDefEqProofs [hB]
  | ok x a1 d1 => simp -implicitDefEqProofs [hB]

include hg
theorem c251 {A B : List ABlk} {a d : Nat} (ha : a < L.length) (hd : dk (n + 1) d) (hB : KB A B) : match pIndex L ex a d with
    | .bad e p a' d' => KK 251 [.ptr A.length 0] (HQ A L a d B) = some (.pan (wrongV e p), HQ A L a' d' B)
    | .ok l a' d' => ∃ x, l = [x] ∧ KK 251 [.ptr A.length 0] (HQ A L a d B) = some (.ret (.slice [x.cells] (.own (HN A B + 3))), HQ A L a' d' (B ++ [.front 0 0, .cells x.cells, .front 0 0, .front 1 5])) := by
  have h181 := d181 hL
  have h183 := d183 hL
  unfold Does at h181 h183 he
  have hd64 := hd.2
  have ev : ∀ r, m251 KK (.ptr A.length 0) (HQ A L a d B) = some r → KK 251 [.ptr A.length 0] (HQ A L a d B) = some r := fun r hr => evW_by (m251_eq _ _ _) hr
  unfold pIndex
  simp only [pm_bind, PM.bind, pOpen]
  cases hs : isS (tk L a) [91]
  · simp only [Bool.false_eq_true, if_false]
    refine ev _ ?_
    simp -implicitDefEqProofs [m251, ha, hB, h181, hd64, hs]
  · have ha1 := isS_lt hK ha hs
    by_cases h64 : d = 64
    · simp only [if_true, h64]
      rw [h64] at ev hd64
      refine ev _ ?_
      simp -implicitDefEqProofs [m251, ha, hB, h181, hs]
    · have hd1 := hd.up h64
      simp only [if_true, h64, if_false]
      cases h1 : ex (a + 1) (d + 1) with
      | bad e p a2 d2 =>
        refine ev _ ?_
        simp -implicitDefEqProofs [m251, ha, hB, h181, hd64, hs, h64, ha1, hd1, he, h1]
      | ok x a2 d2 =>
        obtain ⟨g1, g2, g3⟩ := hg _ _ _ _ _ h1 ha1
        have g3 : d2 = d + 1 := g3
        subst g3
        have h65 : d ≤ 64 := by omega
        simp only [pShut]
        cases h2 : isS (tk L a2) [93]
        · simp only [Bool.false_eq_true, if_false]
          refine ev _ ?_
          simp -implicitDefEqProofs [m251, ha, hB, h181, hd64, hs, h64, ha1, hd1, he, h1, g2, h183, h65, h2]
        · simp only [if_true, pm_pure]
          refine ⟨x, rfl, ev _ ?_⟩
          simp -implicitDefEqProofs [m251, ha, hB, h181, hd64, hs, h64, ha1, hd1, he, h1, g2, h183, h65, h2]

theorem d250 (t : Token) : Does L (dk (n + 1)) 250 [.agg t.cells] xEnc (pCall L ex t) := by
  intro A B a d ha hd hB
  refine evW_by (m250_eq _ _ _ _) ?_
  have h181 := d181 hL
  have h183 := d183 hL
  have h260 := fun A B i a d hi ha hd hB => c260 (A := A) (B := B) (i := i) (a := a) (d := d) he hi ha hd hB
  unfold Does at h181 h183
  have hd64 := hd.2
  have hlt : A.length < HN A B := A_lt0
  simp -implicitDefEqProofs [m250, ha, hB, h181, hd64, pCall, hlt, A_lt]
  cases hs : isS (tk L a) [40]
  · simp -implicitDefEqProofs [hB]
  · have ha1 := isS_lt hK ha hs
    by_cases h64 : d = 64
    · simp -implicitDefEqProofs [hB, h64]
    · have hd1 := hd.up h64
      have hB' : KB A (B ++ [.cells [.ptr A.length 0], .cells t.cells, .cells [.int .i64 0, .int .i64 0, .int .i64 0, .str [], .slice [] (.own (HN A B + 3))], .front 0 0]) := hB.app (by simp [A_lt])
      have h259 := d259 hL hK (one := ex) [41] hg ha1 hB' Has.new (fun C a ha hB => c260 he Has.new.app ha hd1 hB)
      simp only [Token.cells] at h259
      simp -implicitDefEqProofs [hB, h64, ha1, h259, A_lt, hlt]
      cases h1 : pList L [41] ex (a + 1) (d + 1) with
      | bad e p a2 d2 => simp -implicitDefEqProofs [hB]
      | ok l a2 d2 =>
        obtain ⟨g1, g2, g3⟩ := g_list hK hg _ _ _ _ _ h1 ha1
        have g3 : d2 = d + 1 := g3
        subst g3
        have h65 : d ≤ 64 := by omega
        simp -implicitDefEqProofs [hB, g2, h183, h65, A_lt, hlt]
        cases h2 : isS (tk L a2) [41] <;> simp -implicitDefEqProofs [hB, XE.cells, XE.rows_eq]
end
end
end Go.Proofs.YtkeoalhglkfbkaaDoor


/-
  What a word of the language is handed, and the least parts of expressions. By the evaluator. No conditions.
-/
namespace Go.Proofs.YtkeoalhglkfbkaaDoor
open Go Hk

def pArg1 (L : List Token) (ex : PM XE) (n : Nat) (l : List XE) : PM (List XE) := fun a d => match ex a d with
  | .bad e p a1 d1 => .bad e p a1 d1
  | .ok x a1 d1 => pArgs L ex n false (l ++ [x]) a1 d1
theorem pArgs_eq {L : List Token} {ex : PM XE} {n : Nat} {first : Bool} {l : List XE} {a d : Nat} : pArgs L ex (n + 1) first l a d =
    if first = true then pArg1 L ex n l a d else if isS (tk L a) [44] = true then pArg1 L ex n l (a + 1) d else .bad 10 (tk L a).pos a d := by
  unfold pArg1
  rw [pArgs]
  cases first
  · simp only [Bool.not_false, if_true, pm_bind, PM.bind, pTake, Bool.false_eq_true, if_false]
    cases h : isS (tk L a) [44]
    · simp
    · simp only [if_true]
      cases ex (a + 1) d <;> rfl
  · simp only [Bool.not_true, Bool.false_eq_true, if_false, if_true, pm_bind, PM.bind]
    cases ex a d <;> rfl

section
variable {L : List Token} (hL : L.length ≤ 131072) (hK : TokOk L)
variable {n : Nat} {ex : PM XE} (he : Does L (dk n) 230 [] xEnc ex) (hg : PGood L 1 (fun d => d) ex)
include hL hK he hg

/-- What 'made' has in its frame. -/
def mC (A B : List ABlk) (kind pos : Nat) (l : List XE) : List ABlk :=
  [.cells [.int .i64 0, .int .i64 0, .int .i64 0, .str [], .slice [] (.own (HN A B + 1))], .front 0 0,
   .cells [.int .i64 (kind : Int), .int .i64 (pos : Int), .int .i64 0, .str [], .slice (l.map XE.cells) (.own (HN A B + 3))], .front l.length (fsz l.length 5)]

theorem d263_loop {A B : List ABlk} {kind pos many d : Nat} {num : Bool} (hB : KB A B) (hd : dk n d) (hm : many ≤ 8) (rem : Nat) (l : List XE) (a : Nat) (ha : a < L.length) (hl : l.length + rem = many) :
    ∃ r, lpW (m263_l0 KK (HN A B + 4)) ([.ptr A.length 0, .bool num, .ptr (HN A B) 0, .ptr (HN A B + 2) 0, .int .i64 (many : Int), .int .i64 (l.length : Int)], HQ A L a d (B ++ mC A B kind pos l)) = some r ∧
      match pArgs L ex rem (decide (l.length = 0)) l a d with
      | .ok l' a' d' => r = (.exit 0, [.ptr A.length 0, .bool num, .ptr (HN A B) 0, .ptr (HN A B + 2) 0, .int .i64 (many : Int), .int .i64 (many : Int)], HQ A L a' d' (B ++ mC A B kind pos l'))
      | .bad e p a' d' => ∃ vs C, r = (.pan (wrongV e p), vs, HQ A L a' d' (B ++ C)) := by
  have h138 := d138 hL
  unfold Does at h138 he
  refine lpW_post (σ := List XE × Nat × Nat) (fun s => ([.ptr A.length 0, .bool num, .ptr (HN A B) 0, .ptr (HN A B + 2) 0, .int .i64 (many : Int), .int .i64 (s.1.length : Int)], HQ A L s.2.1 d (B ++ mC A B kind pos s.1)))
    (fun s => s.2.1 < L.length ∧ s.1.length + s.2.2 = many) (fun s => s.2.2)
    (fun s r => match pArgs L ex s.2.2 (decide (s.1.length = 0)) s.1 s.2.1 d with
      | .ok l' a' d' => r = (.exit 0, [.ptr A.length 0, .bool num, .ptr (HN A B) 0, .ptr (HN A B + 2) 0, .int .i64 (many : Int), .int .i64 (many : Int)], HQ A L a' d' (B ++ mC A B kind pos l'))
      | .bad e p a' d' => ∃ vs C, r = (.pan (wrongV e p), vs, HQ A L a' d' (B ++ C))) ?_ (l, a, rem) ⟨ha, hl⟩
  rintro ⟨l, a, rem⟩ ⟨ha, hl⟩
  simp only at ha hl
  have hsp : ∀ h, AVal.san (HN A B + 4) h (.ptr A.length 0) = .ptr A.length 0 := fun h => san_ptr_lt A_lt
  have hsp2 : ∀ h, AVal.san (HN A B + 4) h (.ptr (HN A B) 0) = .ptr (HN A B) 0 := fun h => san_ptr_lt (by omega)
  have hsp3 : ∀ h, AVal.san (HN A B + 4) h (.ptr (HN A B + 2) 0) = .ptr (HN A B + 2) 0 := fun h => san_ptr_lt (by omega)
  have hKB : ∀ l, KB A (B ++ mC A B kind pos l) := fun l => hB.app (by simp [mC])
  have htr : ∀ a d l C, trunc (HN A B + 4) (HQ A L a d (B ++ (mC A B kind pos l ++ C))) = some (HQ A L a d (B ++ mC A B kind pos l)) := fun a d l C => by
    have := HQ_truncK (L := L) (a := a) (d := d) (A := A) (B := B) (C := mC A B kind pos l ++ C) (k := 4) (by simpa [mC] using hKB l) (by simp [mC])
    simpa [mC] using this
  have htr0 : ∀ a d l, trunc (HN A B + 4) (HQ A L a d (B ++ mC A B kind pos l)) = some (HQ A L a d (B ++ mC A B kind pos l)) := fun a d l => by
    have := htr a d l []
    simpa using this
  cases rem with
  | zero =>
    right
    have : (l.length : Int) = many := by omega
    refine ⟨(.exit 0, [.ptr A.length 0, .bool num, .ptr (HN A B) 0, .ptr (HN A B + 2) 0, .int .i64 (many : Int), .int .i64 (many : Int)], HQ A L a d (B ++ mC A B kind pos l)), ?_, by simp, ?_⟩
    · simp -implicitDefEqProofs only [m263_l0, List.getD_cons_zero, List.getD_cons_succ, abin_lss, Option.bind_some, acond_bool, this, Int.lt_irrefl, decide_false, cond_false, endR, htr0, Option.map_some, List.map_cons, List.map_nil, hsp, hsp2, hsp3, san_int, san_bool, exsan_exit]
    · simp only [pArgs, pm_pure]
  | succ rem =>
    have hlt : (l.length : Int) < many := by omega
    have hfst0 : ∀ (hc : l = []), m263_l0 KK (HN A B + 4) ([.ptr A.length 0, .bool num, .ptr (HN A B) 0, .ptr (HN A B + 2) 0, .int .i64 (many : Int), .int .i64 (l.length : Int)], HQ A L a d (B ++ mC A B kind pos l)) =
        match ex a d with
        | .bad e p a1 d1 => some (.pan (wrongV e p), [.ptr A.length 0, .bool num, .ptr (HN A B) 0, .ptr (HN A B + 2) 0, .int .i64 (many : Int), .int .i64 (l.length : Int)], HQ A L a1 d1 (B ++ mC A B kind pos l))
        | .ok x a1 d1 => some (.normal, [.ptr A.length 0, .bool num, .ptr (HN A B) 0, .ptr (HN A B + 2) 0, .int .i64 (many : Int), .int .i64 ((l ++ [x]).length : Int)], HQ A L a1 d (B ++ mC A B kind pos (l ++ [x]))) := by
      intro hc
      have ha1 := ha
      have hc1 : ¬ 0 < l.length := by simp [hc]
      have htr1 := fun a d => htr0 a d l
      simp only [mC] at htr1
      simp -implicitDefEqProofs [m263_l0, mC, hlt, hB, ha, hc1, he, ha1, hd]
      cases h1 : ex a d with
      | bad e p a1 d1 => simp -implicitDefEqProofs [endR, htr1, hsp, hsp2, hsp3]
      | ok x a1 d1 =>
        obtain ⟨g1, g2, g3⟩ := hg _ _ _ _ _ h1 ha1
        have g3 : d = d1 := g3.symm
        subst g3
        have b2 := HQ_app1 (A := A) (B := B) (L := L) (a := a1) (d := d) (C := mC A B kind pos l ++ [.front 1 5]) (k := 3) (rows := l.map XE.cells) (new := [x.cells]) (sz := 5) (by_ := 64) (sz' := fsz l.length 5) (t := .own (HN A B + 4)) (by simp [mC]) (by rw [List.length_map]; exact fsz_or _ _) (by simp) (by simp) (by simp; omega) (by simp; omega)
        simp only [mC, List.length_map, List.length_singleton, List.cons_append, List.nil_append, List.set_cons_succ, List.set_cons_zero] at b2
        have htr2 := htr a1 d (l ++ [x]) [.front 1 5]
        simp only [mC, List.cons_append, List.nil_append, List.map_append, List.map_cons, List.map_nil, List.length_append, List.length_singleton, fsz_succ] at htr2
        have w1 := wrapS (a := l.length) (by omega)
        simp -implicitDefEqProofs [b2, endR, htr2, hsp, hsp2, hsp3, w1, fsz_succ]
    have hfst1 : ∀ (hc : l ≠ [] ∧ isS (tk L a) [44] = true), m263_l0 KK (HN A B + 4) ([.ptr A.length 0, .bool num, .ptr (HN A B) 0, .ptr (HN A B + 2) 0, .int .i64 (many : Int), .int .i64 (l.length : Int)], HQ A L a d (B ++ mC A B kind pos l)) =
        match ex (a + 1) d with
        | .bad e p a1 d1 => some (.pan (wrongV e p), [.ptr A.length 0, .bool num, .ptr (HN A B) 0, .ptr (HN A B + 2) 0, .int .i64 (many : Int), .int .i64 (l.length : Int)], HQ A L a1 d1 (B ++ mC A B kind pos l))
        | .ok x a1 d1 => some (.normal, [.ptr A.length 0, .bool num, .ptr (HN A B) 0, .ptr (HN A B + 2) 0, .int .i64 (many : Int), .int .i64 ((l ++ [x]).length : Int)], HQ A L a1 d (B ++ mC A B kind pos (l ++ [x]))) := by
      intro hc
      obtain ⟨hc, hs⟩ := hc
      have ha1 := isS_lt hK ha hs
      have hc1 : 0 < l.length := List.length_pos_iff.2 hc
      have htr1 := fun a d => htr0 a d l
      simp only [mC] at htr1
      simp -implicitDefEqProofs [m263_l0, mC, hlt, hB, ha, hc, hs, hc1, h138, he, ha1, hd]
      cases h1 : ex (a + 1) d with
      | bad e p a1 d1 => simp -implicitDefEqProofs [endR, htr1, hsp, hsp2, hsp3]
      | ok x a1 d1 =>
        obtain ⟨g1, g2, g3⟩ := hg _ _ _ _ _ h1 ha1
        have g3 : d = d1 := g3.symm
        subst g3
        have b2 := HQ_app1 (A := A) (B := B) (L := L) (a := a1) (d := d) (C := mC A B kind pos l ++ [.front 1 5]) (k := 3) (rows := l.map XE.cells) (new := [x.cells]) (sz := 5) (by_ := 64) (sz' := fsz l.length 5) (t := .own (HN A B + 4)) (by simp [mC]) (by rw [List.length_map]; exact fsz_or _ _) (by simp) (by simp) (by simp; omega) (by simp; omega)
        simp only [mC, List.length_map, List.length_singleton, List.cons_append, List.nil_append, List.set_cons_succ, List.set_cons_zero] at b2
        have htr2 := htr a1 d (l ++ [x]) [.front 1 5]
        simp only [mC, List.cons_append, List.nil_append, List.map_append, List.map_cons, List.map_nil, List.length_append, List.length_singleton, fsz_succ] at htr2
        have w1 := wrapS (a := l.length) (by omega)
        simp -implicitDefEqProofs [b2, endR, htr2, hsp, hsp2, hsp3, w1, fsz_succ]
    simp only [pArgs_eq, decide_eq_true_eq]
    by_cases hl0 : l = []
    · have hf := hfst0 hl0
      have : l.length = 0 := by simp [hl0]
      rw [hf]
      simp only [this, if_true, pArg1]
      cases h1 : ex a d with
      | bad e p a1 d1 => exact .inr ⟨_, rfl, by simp, _, _, rfl⟩
      | ok x a1 d1 =>
        obtain ⟨g1, g2, g3⟩ := hg _ _ _ _ _ h1 ha
        have g3 : d = d1 := g3.symm
        subst g3
        exact .inl ⟨(l ++ [x], a1, rem), rfl, ⟨g2, by simp; omega⟩, by simp, fun r hr => by simpa using hr⟩
    · have h0 : ¬ l.length = 0 := by simpa using hl0
      simp only [h0, if_false]
      cases hs : isS (tk L a) [44] with
      | false =>
        right
        have hc1 : 0 < l.length := by omega
        have htr1 := fun a d => htr0 a d l
        simp only [mC] at htr1
        refine ⟨(.pan (wrongV 10 (tk L a).pos), [.ptr A.length 0, .bool num, .ptr (HN A B) 0, .ptr (HN A B + 2) 0, .int .i64 (many : Int), .int .i64 (l.length : Int)], HQ A L a d (B ++ mC A B kind pos l)), ?_, by simp, ?_⟩
        · simp -implicitDefEqProofs [m263_l0, mC, hlt, hB, ha, h138, hs, hc1, endR, htr1, hsp, hsp2, hsp3]
        · simp only [Bool.false_eq_true, if_false]
          exact ⟨_, _, rfl⟩
      | true =>
        have hf := hfst1 ⟨hl0, hs⟩
        have ha1 := isS_lt hK ha hs
        rw [hf]
        simp only [if_true, pArg1]
        cases h1 : ex (a + 1) d with
        | bad e p a1 d1 => exact .inr ⟨_, rfl, by simp, _, _, rfl⟩
        | ok x a1 d1 =>
          obtain ⟨g1, g2, g3⟩ := hg _ _ _ _ _ h1 ha1
          have g3 : d = d1 := g3.symm
          subst g3
          exact .inl ⟨(l ++ [x], a1, rem), rfl, ⟨g2, by simp; omega⟩, by simp, fun r hr => by simpa using hr⟩

theorem c263 {A B : List ABlk} {a d kind many : Nat} {num : Bool} (ha : a < L.length) (ha1 : a + 1 < L.length) (hd : dk (n + 1) d) (hB : KB A B) (hm : many ≤ 8) :
    KK 263 [.ptr A.length 0, .int .i64 (kind : Int), .int .i64 (many : Int), .bool num] (HQ A L a d B) = some ((pMade L ex kind many num a d).res xEnc A L B) := by
  refine evW_by (m263_eq _ _ _ _ _ _) ?_
  have h76 := d76 (L := L)
  have h181 := d181 hL
  have h183 := d183 hL
  have h138 := d138 hL
  have h139 := d139 hL 2
  unfold Does at h76 h181 h183 h138 h139
  simp only [Int.cast_ofNat_Int] at h139
  have hd64 := hd.2
  have w1 := wrapS (a := a) (by omega)
  simp -implicitDefEqProofs [m263, ha, ha1, hB, h76, h181, hd64, w1, pMade]
  cases hs : isS (tk L (a + 1)) [40]
  · simp -implicitDefEqProofs [hB]
  · have ha2 := isS_lt hK ha1 hs
    by_cases h64 : d = 64
    · simp -implicitDefEqProofs [hB, h64]
    · have hd1 := hd.up h64
      obtain ⟨r, h1, h2⟩ := d263_loop hL hK he hg (kind := kind) (pos := (tk L a).pos) (num := num) hB hd1 hm many [] (a + 1 + 1) ha2 (by simp)
      simp only [List.map_nil, List.length_nil, fsz_zero, decide_true, mC, Int.cast_ofNat_Int] at h1 h2
      simp -implicitDefEqProofs [hB, h64, ha2, h1]
      cases h3 : pArgs L ex many true [] (a + 1 + 1) (d + 1) with
      | bad e p a3 d3 =>
        rw [h3] at h2
        obtain ⟨vs, C, rfl⟩ := h2
        simp -implicitDefEqProofs [hB]
      | ok l a3 d3 =>
        obtain ⟨g1, g2, g3⟩ := g_args hK hg _ _ _ _ _ _ _ _ h3 ha2
        have g3 : d3 = d + 1 := g3
        subst g3
        rw [h3] at h2
        subst h2
        have h65 : d ≤ 64 := by omega
        cases num with
        | false =>
          simp -implicitDefEqProofs [hB, g2, h183, h65, mC]
          cases h4 : isS (tk L a3) [41] <;> simp -implicitDefEqProofs [hB, XE.cells, XE.rows_eq]
        | true =>
          simp -implicitDefEqProofs [hB, g2, h138, mC]
          cases h4 : isS (tk L a3) [44]
          · simp -implicitDefEqProofs [hB]
          · have ha4 := isS_lt hK g2 h4
            simp -implicitDefEqProofs [hB, ha4, h139]
            by_cases h5 : (tk L (a3 + 1)).kind = 2
            · have ha5 := kind_lt (k := 2) hK ha4 (by decide) h5
              simp -implicitDefEqProofs [hB, h5, ha5, h183, h65]
              cases h6 : isS (tk L (a3 + 1 + 1)) [41] <;> simp -implicitDefEqProofs [hB, XE.cells, XE.rows_eq]
            · simp -implicitDefEqProofs [hB, h5]

theorem d262 : Does L (dk (n + 1)) 262 [] xEnc (pPrimary L ex) := by
  intro A B a d ha hd hB
  refine evW_by (m262_eq _ _ _) ?_
  have h76 := d76 (L := L)
  have h178 := d178 (L := L)
  have h181 := d181 hL
  have h183 := d183 hL
  have h139 := d139 hL 1
  have h250 := fun t => d250 hL hK he hg t
  have he' := he
  unfold Does at h76 h178 h181 h183 h139 h250 he'
  simp only [Int.cast_ofNat_Int] at h139
  have hd64 := hd.2
  have w1 := wrapS (a := a) (by omega)
  have h263 := fun B (ha1 : a + 1 < L.length) (hB : KB A B) kind many num hm => c263 hL hK he hg (A := A) (B := B) (kind := kind) (many := many) (num := num) ha ha1 hd hB hm
  simp -implicitDefEqProofs [m262, ha, hB, h76, pPrimary]
  by_cases hk : (tk L a).kind = 2
  · simp -implicitDefEqProofs [hk, ha, hB, w1, XE.cells, XE.rows]
  · have hk' : ¬ ((tk L a).kind : Int) = 2 := by omega
    simp -implicitDefEqProofs [hk, hk', ha, hB, h178]
    cases s0 : isS (tk L a) [40]
    · simp -implicitDefEqProofs [ha, hB, h178]
      cases s1 : isS (tk L a) [109, 117, 108, 104, 105]
      · simp -implicitDefEqProofs [ha, hB, h178]
        cases s2 : isS (tk L a) [99, 97, 114, 114, 121]
        · simp -implicitDefEqProofs [ha, hB, h178]
          cases s3 : isS (tk L a) [115, 101, 108, 101, 99, 116]
          · simp -implicitDefEqProofs [ha, hB, h178]
            cases s4 : isS (tk L a) [119, 111, 114, 100]
            · simp -implicitDefEqProofs [ha, hB, h178]
              cases s5 : isS (tk L a) [114, 111, 114]
              · simp -implicitDefEqProofs [ha, hB, h178, h139]
                by_cases hn : (tk L a).kind = 1
                · have ha1 := kind_lt (k := 1) hK ha (by decide) hn
                  simp -implicitDefEqProofs [hn, ha1, hB, h178]
                  cases q1 : isS (tk L (a + 1)) [40]
                  · simp -implicitDefEqProofs [ha1, hB, h178]
                    cases q2 : isS (tk L (a + 1)) [91]
                    · simp -implicitDefEqProofs [ha1, hB, XE.cells, XE.rows]
                    · have i1 := c251 hL hK he hg (A := A) (B := B ++ [.cells [.int .i64 0, .int .i64 0, .int .i64 0, .str [], .slice [] (.own (HN A B + 1))], .front 0 0, .gone]) ha1 hd (hB.app (by simp))
                      simp -implicitDefEqProofs [ha1, hB]
                      cases q3 : pIndex L ex (a + 1) d with
                      | bad e p a3 d3 =>
                        rw [q3] at i1
                        simp -implicitDefEqProofs [hB, i1]
                      | ok l a3 d3 =>
                        rw [q3] at i1
                        obtain ⟨x, rfl, i2⟩ := i1
                        simp -implicitDefEqProofs [hB, i2, XE.cells, XE.rows]
                  · have h250' := h250 (tk L a)
                    simp -implicitDefEqProofs [hn] at h250'
                    simp -implicitDefEqProofs [ha1, hB, h250', hd]
                    cases q3 : pCall L ex (tk L a) (a + 1) d with
                    | bad e p a3 d3 => simp -implicitDefEqProofs [hB]
                    | ok x a3 d3 => simp -implicitDefEqProofs [hB]
                · simp -implicitDefEqProofs [hn, hB]
              · have ha1 := isS_lt hK ha s5
                have h263' := fun B hB => h263 B ha1 hB 16 1 true (by decide)
                simp only [Int.cast_ofNat_Int] at h263'
                simp -implicitDefEqProofs [hB, h263']
                cases q3 : pMade L ex 16 1 true a d with
                | bad e p a3 d3 => simp -implicitDefEqProofs [hB]
                | ok x a3 d3 => simp -implicitDefEqProofs [hB]
            · have ha1 := isS_lt hK ha s4
              have h263' := fun B hB => h263 B ha1 hB 26 1 false (by decide)
              simp only [Int.cast_ofNat_Int] at h263'
              simp -implicitDefEqProofs [hB, h263']
              cases q3 : pMade L ex 26 1 false a d with
              | bad e p a3 d3 => simp -implicitDefEqProofs [hB]
              | ok x a3 d3 => simp -implicitDefEqProofs [hB]
          · have ha1 := isS_lt hK ha s3
            have h263' := fun B hB => h263 B ha1 hB 25 3 false (by decide)
            simp only [Int.cast_ofNat_Int] at h263'
            simp -implicitDefEqProofs [hB, h263']
            cases q3 : pMade L ex 25 3 false a d with
            | bad e p a3 d3 => simp -implicitDefEqProofs [hB]
            | ok x a3 d3 => simp -implicitDefEqProofs [hB]
        · have ha1 := isS_lt hK ha s2
          have h263' := fun B hB => h263 B ha1 hB 24 2 false (by decide)
          simp only [Int.cast_ofNat_Int] at h263'
          simp -implicitDefEqProofs [hB, h263']
          cases q3 : pMade L ex 24 2 false a d with
          | bad e p a3 d3 => simp -implicitDefEqProofs [hB]
          | ok x a3 d3 => simp -implicitDefEqProofs [hB]
      · have ha1 := isS_lt hK ha s1
        have h263' := fun B hB => h263 B ha1 hB 23 2 false (by decide)
        simp only [Int.cast_ofNat_Int] at h263'
        simp -implicitDefEqProofs [hB, h263']
        cases q3 : pMade L ex 23 2 false a d with
        | bad e p a3 d3 => simp -implicitDefEqProofs [hB]
        | ok x a3 d3 => simp -implicitDefEqProofs [hB]
    · have ha1 := isS_lt hK ha s0
      simp -implicitDefEqProofs [hB, ha, h181, hd64, s0]
      by_cases h64 : d = 64
      · simp -implicitDefEqProofs [hB, h64]
      · have hd1 := hd.up h64
        simp -implicitDefEqProofs [hB, h64, ha1, hd1, he']
        cases q1 : ex (a + 1) (d + 1) with
        | bad e p a2 d2 => simp -implicitDefEqProofs [hB]
        | ok x a2 d2 =>
          obtain ⟨g1, g2, g3⟩ := hg _ _ _ _ _ q1 ha1
          have g3 : d2 = d + 1 := g3
          subst g3
          have h65 : d ≤ 64 := by omega
          simp -implicitDefEqProofs [hB, g2, h183, h65]
          cases q2 : isS (tk L a2) [41] <;> simp -implicitDefEqProofs [hB]
end
end Go.Proofs.YtkeoalhglkfbkaaDoor

/-
  A sign ahead. By the evaluator. No conditions.
-/
namespace Go.Proofs.YtkeoalhglkfbkaaDoor
open Go Hk

section
variable {L : List Token} (hL : L.length ≤ 131072) (hK : TokOk L)
variable {n : Nat} {ex un : PM XE} (he : Does L (dk n) 230 [] xEnc ex) (hg : PGood L 1 (fun d => d) ex) (hu : Does L (dk n) 257 [] xEnc un) (hgu : PGood L 1 (fun d => d) un)
include hL hK he hg hu hgu

theorem d257 : Does L (dk (n + 1)) 257 [] xEnc (pUnary L ex un) := by
  intro A B a d ha hd hB
  refine evW_by (m257_eq _ _ _) ?_
  have h76 := d76 (L := L)
  have h178 := d178 (L := L)
  have h181 := d181 hL
  have h262 := d262 hL hK he hg
  have hu' := hu
  unfold Does at h76 h178 h181 h262 hu'
  have hd64 := hd.2
  simp -implicitDefEqProofs [m257, ha, hB, h76, h178, pUnary]
  have key : ∀ s : List UInt8, isS (tk L a) s = true → (tk L a).text = s := by
    intro s hs
    simp [isS] at hs
    exact hs.2
  cases s1 : isS (tk L a) [126]
  · simp -implicitDefEqProofs [ha, hB, h178]
    cases s2 : isS (tk L a) [45]
    · simp -implicitDefEqProofs [ha, hB, h178]
      cases s3 : isS (tk L a) [33]
      · simp -implicitDefEqProofs [ha, hB, h262, hd]
        cases q : pPrimary L ex a d with
        | bad e p a1 d1 => simp -implicitDefEqProofs [hB]
        | ok x a1 d1 => simp -implicitDefEqProofs [hB]
      · have ha1 := isS_lt hK ha s3
        have ht := key _ s3
        simp -implicitDefEqProofs [ha, hB, h181, hd64, pSign, ht, s3]
        by_cases h64 : d = 64
        · simp -implicitDefEqProofs [hB, h64]
        · have hd1 := hd.up h64
          simp -implicitDefEqProofs [hB, h64, ha1, hd1, hu']
          cases q : un (a + 1) (d + 1) with
          | bad e p a1 d1 => simp -implicitDefEqProofs [hB]
          | ok x a1 d1 =>
            obtain ⟨g1, g2, g3⟩ := hgu _ _ _ _ _ q ha1
            have g3 : d1 = d + 1 := g3
            subst g3
            have w1 := wrapN (a := d) (by omega)
            simp -implicitDefEqProofs [hB, w1, XE.cells, XE.rows]
    · have ha1 := isS_lt hK ha s2
      have ht := key _ s2
      simp -implicitDefEqProofs [ha, hB, h181, hd64, pSign, ht, s2]
      by_cases h64 : d = 64
      · simp -implicitDefEqProofs [hB, h64]
      · have hd1 := hd.up h64
        simp -implicitDefEqProofs [hB, h64, ha1, hd1, hu']
        cases q : un (a + 1) (d + 1) with
        | bad e p a1 d1 => simp -implicitDefEqProofs [hB]
        | ok x a1 d1 =>
          obtain ⟨g1, g2, g3⟩ := hgu _ _ _ _ _ q ha1
          have g3 : d1 = d + 1 := g3
          subst g3
          have w1 := wrapN (a := d) (by omega)
          simp -implicitDefEqProofs [hB, w1, XE.cells, XE.rows]
  · have ha1 := isS_lt hK ha s1
    have ht := key _ s1
    simp -implicitDefEqProofs [ha, hB, h181, hd64, pSign, ht, s1]
    by_cases h64 : d = 64
    · simp -implicitDefEqProofs [hB, h64]
    · have hd1 := hd.up h64
      simp -implicitDefEqProofs [hB, h64, ha1, hd1, hu']
      cases q : un (a + 1) (d + 1) with
      | bad e p a1 d1 => simp -implicitDefEqProofs [hB]
      | ok x a1 d1 =>
        obtain ⟨g1, g2, g3⟩ := hgu _ _ _ _ _ q ha1
        have g3 : d1 = d + 1 := g3
        subst g3
        have w1 := wrapN (a := d) (by omega)
        simp -implicitDefEqProofs [hB, w1, XE.cells, XE.rows]
end
end Go.Proofs.YtkeoalhglkfbkaaDoor

/-
  Expressions that are joined by signs. By the evaluator. No conditions.
-/
namespace Go.Proofs.YtkeoalhglkfbkaaDoor
open Go Hk

theorem pJoin_eq {L : List Token} {next : PM XE} {k n a d : Nat} {x : XE} : pJoin L next k (n + 1) x a d = match signOf (tk L a) k with
    | none => .ok x a d
    | some kind => if kind = 14 ∨ kind = 15 then (if (tk L (a + 1)).kind = 2 then pJoin L next k n (.mk kind (tk L a).pos (tk L (a + 1)).num [] [x]) (a + 1 + 1) d else .bad 10 (tk L (a + 1)).pos (a + 1) d)
        else match next (a + 1) d with
          | .bad e p a2 d2 => .bad e p a2 d2
          | .ok y a2 d2 => pJoin L next k n (.mk kind (tk L a).pos 0 [] [x, y]) a2 d2 := by
  rw [pJoin]
  simp only [pm_bind, PM.bind, pHere]
  cases signOf (tk L a) k with
  | none => rfl
  | some kind =>
    by_cases h : kind = 14 ∨ kind = 15
    · by_cases h2 : (tk L (a + 1)).kind = 2 <;> simp [h, h2]
    · simp only [h, if_false, pm_bind, PM.bind, pNext]
      cases next (a + 1) d <;> rfl

/-! ### Kept places -/
def isFree (h : Heap) (id : Nat) : Bool := match h[id]? with
  | some .free => true
  | _ => false
theorem isFree_iff {h : Heap} {id : Nat} : isFree h id = true → h[id]? = some .free := by
  unfold isFree
  split
  · rename_i e; exact fun _ => e
  · intro h; cases h
section
variable {A B C : List ABlk} {L : List Token} {a d k : Nat} {h : Heap}
@[simp] theorem isFree_zero {r : Heap} : isFree (.free :: r) 0 = true := (rfl)
@[simp] theorem isFree_succ {b : ABlk} {r : Heap} {n : Nat} : isFree (b :: r) (n + 1) = isFree r n := (rfl)
@[simp] theorem HQ_free : isFree (HQ A L a d (B ++ C)) (HN A B + k) = isFree C k := by unfold isFree; rw [HQ_at]
theorem anewAt_eq {id n : Nat} {v : AVal} (hf : isFree h id = true) : anewAt id n h v = if v.cells.length = n ∧ v.cells.all AVal.cellOk then some (.ptr id 0, h.set id (.cells v.cells)) else none := by
  unfold anewAt
  simp only [isFree_iff hf]
theorem xe_buildAt {x : XE} {id : Nat} (hf : isFree h id = true) : abuildSliceAt id 1 5 [.int .i64 0, .int .i64 0, .int .i64 0, .str [], .slice [] .nil] [(0, .agg x.cells)] h = some (.slice [x.cells] (.own id), h.set id (.front 1 5)) := by
  have := xe_build (x := x) (h := h)
  unfold abuildSlice at this
  unfold abuildSliceAt
  simp only [isFree_iff hf]
  split at this
  · rename_i rows hr
    cases this
    simp only [hr]
  · cases this
theorem HQ_take (hk : k ≤ C.length) : List.take (HN A B + k) (HQ A L a d (B ++ C)) = HQ A L a d (B ++ C.take k) := by
  have e : HQ A L a d (B ++ C) = HQ A L a d (B ++ C.take k) ++ C.drop k := by rw [HQ_app, List.append_assoc, List.take_append_drop]
  rw [e]
  have : HN A B + k = (HQ A L a d (B ++ C.take k)).length := by rw [HQ_len, HN_app, List.length_take, Nat.min_eq_left hk]
  rw [this, List.take_left]
theorem HQ_drop (hk : k ≤ C.length) : List.drop (HN A B + k) (HQ A L a d (B ++ C)) = C.drop k := by
  have e : HQ A L a d (B ++ C) = HQ A L a d (B ++ C.take k) ++ C.drop k := by rw [HQ_app, List.append_assoc, List.take_append_drop]
  rw [e]
  have : HN A B + k = (HQ A L a d (B ++ C.take k)).length := by rw [HQ_len, HN_app, List.length_take, Nat.min_eq_left hk]
  rw [this, List.drop_left]
theorem CBn_shut {n : Nat} : ∀ {cs : List AVal}, CBn n cs → cs.all (AVal.shut1 n) = true
  | [], _ => rfl
  | v :: cs, hc => by
    have key : ∀ h, (v.san1 n h).cellOk = true ∧ v.san1 n h = v ∧ sanCells n h cs = some cs := fun h => by
      have := hc n h (Nat.le_refl _)
      rw [sanCells_cons] at this
      cases he : (v.san1 n h).cellOk with
      | false => rw [he] at this; cases this
      | true =>
        rw [he] at this
        simp only [cond_true, Option.map_eq_some_iff, List.cons.injEq] at this
        obtain ⟨r, h1, h2, h3⟩ := this
        subst h3
        exact ⟨rfl, h2, h1⟩
    have hcs : CBn n cs := fun m h hm => by
      have := hc m h hm
      rw [sanCells_cons] at this
      cases he : (v.san1 m h).cellOk with
      | false => rw [he] at this; cases this
      | true =>
        rw [he] at this
        simp only [cond_true, Option.map_eq_some_iff, List.cons.injEq] at this
        obtain ⟨r, h1, h2, h3⟩ := this
        subst h3; exact h1
    rw [List.all_cons, CBn_shut hcs, Bool.and_true]
    obtain ⟨h1, h2, _⟩ := key []
    have nj : v.san1 n [] ≠ .junk := by intro e; rw [e] at h1; cases h1
    cases v with
    | slice rows t =>
      cases t with
      | own id =>
        rw [san1_own] at h2
        cases hd : decide (id < n) with
        | true => simpa [AVal.shut1, AVal.shut0, refOf] using hd
        | false => rw [hd] at h2; simp at h2
      | _ => rfl
    | ptr id off =>
      cases hd : decide (id < n) with
      | true => simpa [AVal.shut1, AVal.shut0, refOf] using hd
      | false => exact absurd (by simp [AVal.san1, hd]) nj
    | mslice id off len sz =>
      cases hd : decide (id < n) with
      | true => simpa [AVal.shut1, AVal.shut0, refOf] using hd
      | false => exact absurd (by simp [AVal.san1, hd]) nj
    | _ =>
      simp only [AVal.san1] at nj
      first
        | (cases hs : AVal.shut1 n _ with
           | true => rfl
           | false => rw [hs] at nj; exact absurd rfl nj)
        | rfl
theorem KBn_shut {n : Nat} : ∀ {C : List ABlk}, KBn n C → C.all (blkShut n) = true
  | [], _ => rfl
  | b :: C, hc => by
    have hC : KBn n C := fun m h hm => by
      have := hc m h hm
      rw [sanBlks_cons, Option.bind_eq_some_iff] at this
      obtain ⟨b', h1, h2⟩ := this
      rw [Option.map_eq_some_iff] at h2
      obtain ⟨r, h3, h4⟩ := h2
      cases h4; exact h3
    have hb : ∀ m h, n ≤ m → sanBlk m h b = some b := fun m h hm => by
      have := hc m h hm
      rw [sanBlks_cons, Option.bind_eq_some_iff] at this
      obtain ⟨b', h1, h2⟩ := this
      rw [Option.map_eq_some_iff] at h2
      obtain ⟨r, h3, h4⟩ := h2
      cases h4; exact h1
    rw [List.all_cons, KBn_shut hC, Bool.and_true]
    cases b with
    | cells cs =>
      refine CBn_shut (n := n) fun m h hm => ?_
      have := hb m h hm
      rw [sanBlk_cells, Option.map_eq_some_iff] at this
      obtain ⟨r, h1, h2⟩ := this
      cases h2; exact h1
    | map es =>
      have := hb n [] (Nat.le_refl _)
      simp only [sanBlk] at this
      cases he : es.all (fun e => e.2.shut1 n) with
      | true => exact he
      | false => rw [he] at this; cases this
    | _ => rfl
theorem HQ_shut {m : Nat} (hB : KB A B) (hm : m = HN A B) : (HQ A L a d B).all (blkShut m) = true := by
  subst hm
  unfold HQ
  rw [List.all_append, List.all_cons, KBn_shut (hB.a _ (Nat.le_refl _)), KBn_shut (hB.b _ (Nat.le_refl _))]
  rfl
theorem shutOr_ptr {m i o : Nat} (hi : i < m) : shutOr m (.ptr i o) = .ptr i o := by simp [shutOr, AVal.shut1, AVal.shut0, refOf, hi]
theorem hidK_normal {m : Nat} {kv : AVal → Heap → Option R} {v : AVal} {h' : Heap} : hidK m h kv (.normal, [v], h') = bif h'.length == m then kv v (h' ++ h.drop m) else none := (rfl)
/-- The blocks behind are dropped; what looked at them is changed. -/
theorem HQ_truncG {C1 C1' C2 : List ABlk} (hB : KB A B) (hk : k = C1.length) (hs : sanBlks (HN A B + k) (HQ A L a d (B ++ (C1 ++ C2))) C1 = some C1') :
    trunc (HN A B + k) (HQ A L a d (B ++ (C1 ++ C2))) = some (HQ A L a d (B ++ C1')) := by
  subst hk
  have e : HQ A L a d (B ++ (C1 ++ C2)) = HQ A L a d (B ++ C1) ++ C2 := by rw [HQ_app, List.append_assoc]
  have hl : HN A B + C1.length = (HQ A L a d (B ++ C1)).length := by rw [HQ_len, HN_app]
  have app : ∀ {m : Nat} {h : Heap} {X Y X' Y' : List ABlk}, sanBlks m h X = some X' → sanBlks m h Y = some Y' → sanBlks m h (X ++ Y) = some (X' ++ Y') := by
    intro m h X
    induction X with
    | nil => intro Y X' Y' h1 h2; simp [sanBlks] at h1; subst h1; exact h2
    | cons b r ih =>
      intro Y X' Y' h1 h2
      rw [sanBlks_cons, Option.bind_eq_some_iff] at h1
      obtain ⟨b', e1, e2⟩ := h1
      rw [Option.map_eq_some_iff] at e2
      obtain ⟨r', e3, rfl⟩ := e2
      rw [List.cons_append, sanBlks_cons, e1, Option.bind_some, ih e3 h2]
      rfl
  unfold Hk.trunc
  rw [show List.take (HN A B + C1.length) (HQ A L a d (B ++ (C1 ++ C2))) = HQ A L a d (B ++ C1) by rw [e, hl, List.take_left]]
  unfold HQ at hs ⊢
  have hPB : ∀ m h, sanBlk m h (PB L a d) = some (PB L a d) := fun _ _ => rfl
  refine app (hB.a _ (Nat.le_refl _) _ _ (by omega)) ?_
  rw [sanBlks_cons, hPB, Option.bind_some, app (hB.b _ (Nat.le_refl _) _ _ (by omega)) hs]
  rfl
end
end Go.Proofs.YtkeoalhglkfbkaaDoor

/-
  Chains of signs. By the evaluator. No conditions.
-/
namespace Go.Proofs.YtkeoalhglkfbkaaDoor
open Go Hk

@[simp] theorem xe_drop {x : XE} : x.cells.drop 5 = [] := List.drop_eq_nil_iff.2 (by simp)
@[simp] theorem keep5 {h : Heap} {os : List AVal} {k1 k2 k3 : IntKind} {z1 z2 z3 : Int} {w : List UInt8} {rows : List (List AVal)} {id : Nat} :
    keepTok h os [.int k1 z1, .int k2 z2, .int k3 z3, .str w, .slice rows (.own id)] = [.int k1 z1, .int k2 z2, .int k3 z3, .str w, .slice rows (.own id)] :=
  keepTok_none (by
    intro c hc
    simp only [List.mem_cons, List.not_mem_nil, or_false] at hc
    rcases hc with rfl | rfl | rfl | rfl | rfl <;> first | rfl | (cases rows <;> rfl))

/-- What 'chain' has in its frame. -/
def hC (A B : List ABlk) (x : XE) : List ABlk :=
  [.cells [.int .i64 0, .int .i64 0, .int .i64 0, .str [], .slice [] (.own (HN A B + 1))], .front 0 0, .cells x.cells, .front 0 0]

section
variable {L : List Token} (hL : L.length ≤ 131072) (hK : TokOk L)
variable {n : Nat} {next : PM XE} {k : Nat} (hn : Does L (dk n) 248 [.int .i64 ((k + 1 : Nat) : Int)] xEnc next) (hgn : PGood L 1 (fun d => d) next)
include hL hK hn hgn

theorem d248_round {A B : List ABlk} {d : Nat} (hB : KB A B) (hd : dk n d) (hk : k ≤ 6) (x : XE) (a : Nat) (ha : a < L.length) :
    m248_l0 KK (HN A B + 4) ([.ptr A.length 0, .int .i64 (k : Int), .ptr (HN A B) 0, .ptr (HN A B + 2) 0], HQ A L a d (B ++ hC A B x)) =
      match signOf (tk L a) k with
      | none => some (.ret, [.ptr A.length 0, .int .i64 (k : Int), .ptr (HN A B) 0, .ptr (HN A B + 2) 0], HQ A L a d (B ++ [.cells x.cells, .front 0 0, .cells x.cells, .front 0 0]))
      | some kind => if kind = 14 ∨ kind = 15 then (if (tk L (a + 1)).kind = 2 then
            some (.normal, [.ptr A.length 0, .int .i64 (k : Int), .ptr (HN A B) 0, .ptr (HN A B + 2) 0], HQ A L (a + 1 + 1) d (B ++ hC A B (.mk kind (tk L a).pos (tk L (a + 1)).num [] [x])))
          else some (.pan (wrongV 10 (tk L (a + 1)).pos), [.ptr A.length 0, .int .i64 (k : Int), .ptr (HN A B) 0, .ptr (HN A B + 2) 0], HQ A L (a + 1) d (B ++ hC A B x)))
        else match next (a + 1) d with
          | .bad e p a2 d2 => some (.pan (wrongV e p), [.ptr A.length 0, .int .i64 (k : Int), .ptr (HN A B) 0, .ptr (HN A B + 2) 0], HQ A L a2 d2 (B ++ hC A B x))
          | .ok y a2 d2 => some (.normal, [.ptr A.length 0, .int .i64 (k : Int), .ptr (HN A B) 0, .ptr (HN A B + 2) 0], HQ A L a2 d (B ++ hC A B (.mk kind (tk L a).pos 0 [] [x, y]))) := by
  have h249 := d249 (L := L) k
  have h76 := d76 (L := L)
  have h139 := d139 hL 2
  unfold Does at h249 h76 h139 hn
  simp only [Int.cast_ofNat_Int, Int.natCast_add, Int.cast_ofNat_Int] at h139 hn
  have hsp : ∀ h, AVal.san (HN A B + 4) h (.ptr A.length 0) = .ptr A.length 0 := fun h => san_ptr_lt A_lt
  have hsp2 : ∀ h, AVal.san (HN A B + 4) h (.ptr (HN A B) 0) = .ptr (HN A B) 0 := fun h => san_ptr_lt (by omega)
  have hsp3 : ∀ h, AVal.san (HN A B + 4) h (.ptr (HN A B + 2) 0) = .ptr (HN A B + 2) 0 := fun h => san_ptr_lt (by omega)
  have hKB : KB A (B ++ hC A B x) := hB.app (by simp [hC])
  have hKB2 : KB A (B ++ [.cells x.cells, .front 0 0, .cells x.cells, .front 0 0]) := hB.app (by simp)
  have htr : ∀ a d C, trunc (HN A B + 4) (HQ A L a d (B ++ (hC A B x ++ C))) = some (HQ A L a d (B ++ hC A B x)) := fun a d C => by
    have := HQ_truncK (L := L) (a := a) (d := d) (A := A) (B := B) (C := hC A B x ++ C) (k := 4) (by simpa [hC] using hKB) (by simp [hC])
    simpa [hC] using this
  have htr0 := fun a d => htr a d []
  have htr2 : ∀ a d C, trunc (HN A B + 4) (HQ A L a d (B ++ ([.cells x.cells, .front 0 0, .cells x.cells, .front 0 0] ++ C))) = some (HQ A L a d (B ++ [.cells x.cells, .front 0 0, .cells x.cells, .front 0 0])) := fun a d C => by
    have := HQ_truncK (L := L) (a := a) (d := d) (A := A) (B := B) (C := [.cells x.cells, .front 0 0, .cells x.cells, .front 0 0] ++ C) (k := 4) (by simpa using hKB2) (by simp)
    simpa using this
  have htr20 := fun a d => htr2 a d []
  have htrG : ∀ a d (z1 z2 z3 : Int) rows C, trunc (HN A B + 4) (HQ A L a d (B ++ (.cells [.int .i64 0, .int .i64 0, .int .i64 0, .str [], .slice [] (.own (HN A B + 1))] :: .front 0 0 :: .cells [.int .i64 z1, .int .i64 z2, .int .i64 z3, .str [], .slice rows (.own (HN A B + 4))] :: .front 0 0 :: C))) =
      some (HQ A L a d (B ++ [.cells [.int .i64 0, .int .i64 0, .int .i64 0, .str [], .slice [] (.own (HN A B + 1))], .front 0 0, .cells [.int .i64 z1, .int .i64 z2, .int .i64 z3, .str [], .slice rows .no], .front 0 0])) := fun a d z1 z2 z3 rows C =>
    HQ_truncG (C1 := [.cells [.int .i64 0, .int .i64 0, .int .i64 0, .str [], .slice [] (.own (HN A B + 1))], .front 0 0, .cells [.int .i64 z1, .int .i64 z2, .int .i64 z3, .str [], .slice rows (.own (HN A B + 4))], .front 0 0]) (C2 := C) hB rfl (by simp)
  simp only [hC, List.append_nil, List.cons_append, List.nil_append] at htr htr0 htr20
  have w1 := wrapS (a := a) (by omega)
  have w2 := wrapS (a := k) (by omega)
  cases hs : signOf (tk L a) k with
  | none =>
    have h1 := sgV_none hs
    simp -implicitDefEqProofs [m248_l0, hC, ha, hB, h249, h1, endR, htr20, hsp, hsp2, hsp3]
  | some kind =>
    have h1 := sgV_some hs
    have ha1 := kind_lt (k := 4) hK ha (by decide) (signOf_kind hs)
    simp -implicitDefEqProofs [m248_l0, hC, ha, hB, h249, h1, xe_buildAt, anewAt_eq, HQ_take, HQ_drop, HQ_shut, shutOr_ptr, A_lt, hidK_normal, h76, w1, endR, htr0, hsp, hsp2, hsp3]
    by_cases k14 : kind = 14 ∨ kind = 15
    · have k14' : (kind : Int) = 14 ∨ (kind : Int) = 15 := by omega
      have fin : ∀ b : Bool, b = true → True := fun _ _ => trivial
      by_cases h2 : (tk L (a + 1)).kind = 2
      · rcases k14 with rfl | rfl <;> simp -implicitDefEqProofs [ha1, hB, h139, h2, endR, htrG, hsp, hsp2, hsp3, XE.cells, XE.rows]
      · rcases k14 with rfl | rfl <;> simp -implicitDefEqProofs [ha1, hB, h139, h2, endR, htr, hsp, hsp2, hsp3]
    · have k14' : ¬ (kind : Int) = 14 := by omega
      have k15' : ¬ (kind : Int) = 15 := by omega
      simp -implicitDefEqProofs [ha1, hB, hn, hd, w2, k14, k14', k15']
      cases q : next (a + 1) d with
      | bad e p a2 d2 => simp -implicitDefEqProofs [hB, endR, htr, hsp, hsp2, hsp3]
      | ok y a2 d2 =>
        obtain ⟨g1, g2, g3⟩ := hgn _ _ _ _ _ q ha1
        have g3 : d = d2 := g3.symm
        subst g3
        have b2 := HQ_app1 (A := A) (B := B) (L := L) (a := a2) (d := d) (C := [.cells [.int .i64 0, .int .i64 0, .int .i64 0, .str [], .slice [] (.own (HN A B + 1))], .front 0 0, .cells x.cells, .front 0 0, .front 1 5, .cells [.int .i64 (kind : Int), .int .i64 ((tk L a).pos : Int), .int .i64 0, .str [], .slice [x.cells] (.own (HN A B + 4))], .front 1 5]) (k := 4) (rows := [x.cells]) (new := [y.cells]) (sz := 5) (by_ := 64) (sz' := 5) (t := .own (HN A B + 6)) (by simp) (.inl rfl) (by simp) (by simp) (by simp) (by simp)
        simp only [List.length_singleton, List.cons_append, List.nil_append, List.set_cons_succ, List.set_cons_zero] at b2
        simp -implicitDefEqProofs [hB, b2, endR, htrG, hsp, hsp2, hsp3, XE.cells, XE.rows]

theorem d248_loop {A B : List ABlk} {d : Nat} (hB : KB A B) (hd : dk n d) (hk : k ≤ 6) (m : Nat) (x : XE) (a : Nat) (ha : a < L.length) (hm : L.length < a + m) :
    ∃ r, lpW (m248_l0 KK (HN A B + 4)) ([.ptr A.length 0, .int .i64 (k : Int), .ptr (HN A B) 0, .ptr (HN A B + 2) 0], HQ A L a d (B ++ hC A B x)) = some r ∧
      match pJoin L next k m x a d with
      | .ok x' a' d' => r = (.ret, [.ptr A.length 0, .int .i64 (k : Int), .ptr (HN A B) 0, .ptr (HN A B + 2) 0], HQ A L a' d' (B ++ [.cells x'.cells, .front 0 0, .cells x'.cells, .front 0 0]))
      | .bad e p a' d' => ∃ vs C, r = (.pan (wrongV e p), vs, HQ A L a' d' (B ++ C)) := by
  refine lpW_post (σ := XE × Nat × Nat) (fun s => ([.ptr A.length 0, .int .i64 (k : Int), .ptr (HN A B) 0, .ptr (HN A B + 2) 0], HQ A L s.2.1 d (B ++ hC A B s.1)))
    (fun s => s.2.1 < L.length ∧ L.length < s.2.1 + s.2.2) (fun s => s.2.2)
    (fun s r => match pJoin L next k s.2.2 s.1 s.2.1 d with
      | .ok x' a' d' => r = (.ret, [.ptr A.length 0, .int .i64 (k : Int), .ptr (HN A B) 0, .ptr (HN A B + 2) 0], HQ A L a' d' (B ++ [.cells x'.cells, .front 0 0, .cells x'.cells, .front 0 0]))
      | .bad e p a' d' => ∃ vs C, r = (.pan (wrongV e p), vs, HQ A L a' d' (B ++ C))) ?_ (x, a, m) ⟨ha, hm⟩
  rintro ⟨x, a, m⟩ ⟨ha, hm⟩
  simp only at ha hm
  obtain ⟨m, rfl⟩ : ∃ j, m = j + 1 := ⟨m - 1, by omega⟩
  simp only [pJoin_eq, d248_round hL hK hn hgn hB hd hk x a ha]
  cases hs : signOf (tk L a) k with
  | none => exact .inr ⟨_, rfl, by simp, rfl⟩
  | some kind =>
    have ha1 := kind_lt (k := 4) hK ha (by decide) (signOf_kind hs)
    by_cases k14 : kind = 14 ∨ kind = 15
    · by_cases h2 : (tk L (a + 1)).kind = 2
      · left
        have ha2 := kind_lt (k := 2) hK ha1 (by decide) h2
        refine ⟨(.mk kind (tk L a).pos (tk L (a + 1)).num [] [x], a + 1 + 1, m), ?_, ⟨ha2, by simp; omega⟩, by simp, fun r hr => ?_⟩
        · simp only [k14, h2, if_true]
        · simp only [k14, h2, if_true]; exact hr
      · right
        refine ⟨(.pan (wrongV 10 (tk L (a + 1)).pos), [.ptr A.length 0, .int .i64 (k : Int), .ptr (HN A B) 0, .ptr (HN A B + 2) 0], HQ A L (a + 1) d (B ++ hC A B x)), ?_, by simp, ?_⟩
        · simp only [k14, h2, if_true, if_false]
        · simp only [k14, h2, if_true, if_false]
          exact ⟨_, _, rfl⟩
    · simp only [k14, if_false]
      cases q : next (a + 1) d with
      | bad e p a2 d2 => exact .inr ⟨_, rfl, by simp, _, _, rfl⟩
      | ok y a2 d2 =>
        obtain ⟨g1, g2, g3⟩ := hgn _ _ _ _ _ q ha1
        have g3 : d = d2 := g3.symm
        subst g3
        exact .inl ⟨(.mk kind (tk L a).pos 0 [] [x, y], a2, m), rfl, ⟨g2, by simp; omega⟩, by simp, fun r hr => hr⟩
end

section
variable {L : List Token} (hL : L.length ≤ 131072) (hK : TokOk L)
variable {n : Nat} {un : PM XE} (hu : Does L (dk n) 257 [] xEnc un) (hgu : PGood L 1 (fun d => d) un)
include hL hK hu hgu

theorem d248 : ∀ (j k : Nat), j + k = 7 → Does L (dk n) 248 [.int .i64 (k : Int)] xEnc (pChain L un j)
  | 0, k, hk => by
    intro A B a d ha hd hB
    have hk7 : k = 7 := by omega
    subst hk7
    refine evW_by (m248_eq _ _ _ _) ?_
    unfold Does at hu
    simp -implicitDefEqProofs [m248, pChain, ha, hd, hB, hu]
    cases q : un a d with
    | bad e p a1 d1 => simp -implicitDefEqProofs [hB]
    | ok x a1 d1 => simp -implicitDefEqProofs [hB]
  | j + 1, k, hk => by
    intro A B a d ha hd hB
    have ih := d248 j (k + 1) (by omega)
    have hgc := g_chain hK hgu j
    have ih' := ih
    unfold Does at ih'
    simp only [Int.natCast_add, Int.cast_ofNat_Int] at ih'
    have hk6 : k ≤ 6 := by omega
    have hj : 6 - j = k := by omega
    have hk6' : ¬ (6 : Int) < k := by omega
    have w2 := wrapS (a := k) (by omega)
    refine evW_by (m248_eq _ _ _ _) ?_
    simp only [pChain, hj]
    simp -implicitDefEqProofs [m248, ha, hd, hB, hk6', w2, ih']
    cases q : pChain L un j a d with
    | bad e p a1 d1 => simp -implicitDefEqProofs [hB]
    | ok x a1 d1 =>
      obtain ⟨g1, g2, g3⟩ := hgc _ _ _ _ _ q ha
      have g3 : d = d1 := g3.symm
      subst g3
      obtain ⟨r, h1, h2⟩ := d248_loop hL hK ih hgc hB hd hk6 131073 x a1 g2 (by omega)
      simp only [hC] at h1
      simp -implicitDefEqProofs [hB, h1]
      cases q2 : pJoin L (pChain L un j) k 131073 x a1 d with
      | bad e p a2 d2 =>
        rw [q2] at h2
        obtain ⟨vs, C, rfl⟩ := h2
        simp -implicitDefEqProofs [hB]
      | ok x' a2 d2 =>
        rw [q2] at h2
        subst h2
        simp -implicitDefEqProofs [hB]
end
end Go.Proofs.YtkeoalhglkfbkaaDoor

/-
  All expressions. By the evaluator. No conditions.
-/
namespace Go.Proofs.YtkeoalhglkfbkaaDoor
open Go Hk

theorem pureRow_app : ∀ {a b a' b' : List AVal}, pureRow a = some a' → pureRow b = some b' → pureRow (a ++ b) = some (a' ++ b')
  | [], b, a', b', h1, h2 => by simp only [pureRow, Option.some.injEq] at h1; subst h1; exact h2
  | v :: r, b, a', b', h1, h2 => by
    simp only [pureRow] at h1
    split at h1
    · rename_i x y e1 e2
      simp only [Option.some.injEq] at h1
      subst h1
      simp only [List.cons_append, pureRow, e1, pureRow_app e2 h2]
    · cases h1
@[simp] theorem xe_build2 {x y : XE} {h : Heap} : abuildSlice 2 5 [.int .i64 0, .int .i64 0, .int .i64 0, .str [], .slice [] .nil] [(0, .agg x.cells), (1, .agg y.cells)] h = some (.slice [x.cells, y.cells] (.own h.length), h ++ [.front 2 5]) := by
  have e1 : abuild (List.replicate 2 [AVal.int .i64 0, .int .i64 0, .int .i64 0, .str [], .slice [] .nil]).flatten ((List.range 2).map fun i => (i * 5, 5)) [(0, .agg x.cells), (1, .agg y.cells)] = some (.agg (x.cells ++ y.cells)) := by
    simp [abuild, putCells, AVal.isJunk, List.range_succ]
  have e2 := pureRow_app (XE.row.pure x) (XE.row.pure y)
  have e3 : (x.cells ++ y.cells).all AVal.cellOk = true := by rw [List.all_append, XE.row.ok x, XE.row.ok y]; rfl
  simp only [abuildSlice, abuildRow, e1, e2, e3, rowsOf]
  rw [if_pos ⟨rfl, trivial⟩]
  rw [List.take_append_of_le_length (by simp), xe_take, List.drop_append_of_le_length (by simp), xe_drop, List.nil_append, xe_take]

section
variable {L : List Token} (hL : L.length ≤ 131072) (hK : TokOk L)
include hL hK

theorem d230 {n : Nat} {un : PM XE} (hu : Does L (dk n) 257 [] xEnc un) (hgu : PGood L 1 (fun d => d) un) : Does L (dk n) 230 [] xEnc (pExpr L un) := by
  intro A B a d ha hd hB
  have h248 := d248 hL hK hu hgu 6 1 rfl
  have hgc := g_chain hK hgu 6
  have h249 := d249 (L := L) 0
  have h76 := d76 (L := L)
  unfold Does at h248 h249 h76
  simp only [Int.cast_ofNat_Int] at h248 h249
  refine evW_by (m230_eq _ _ _) ?_
  simp -implicitDefEqProofs [m230, pExpr, ha, hd, hB, h248]
  cases q : pChain L un 6 a d with
  | bad e p a1 d1 => simp -implicitDefEqProofs [hB]
  | ok x a1 d1 =>
    obtain ⟨g1, g2, g3⟩ := hgc _ _ _ _ _ q ha
    have g3 : d = d1 := g3.symm
    subst g3
    simp -implicitDefEqProofs [hB, g2, h249]
    cases hs : signOf (tk L a1) 0 with
    | none =>
      have h1 := sgV_none hs
      simp -implicitDefEqProofs [hB, h1]
    | some kind =>
      have h1 := sgV_some hs
      have ha1 := kind_lt (k := 4) hK g2 (by decide) (signOf_kind hs)
      have w1 := wrapS (a := a1) (by omega)
      simp -implicitDefEqProofs [hB, h1, g2, h76, w1, ha1, h248, hd]
      cases q2 : pChain L un 6 (a1 + 1) d with
      | bad e p a2 d2 => simp -implicitDefEqProofs [hB]
      | ok y a2 d2 =>
        obtain ⟨k1, k2, k3⟩ := hgc _ _ _ _ _ q2 ha1
        have k3 : d = d2 := k3.symm
        subst k3
        simp -implicitDefEqProofs [hB, XE.cells, XE.rows]

theorem un_all : ∀ n, Does L (dk n) 257 [] xEnc (pUn L n)
  | 0 => fun A B a d ha hd => by have h1 := hd.1; have h2 := hd.2; omega
  | n + 1 => d257 hL hK (d230 hL hK (un_all n) (g_un hK n)) (g_ex hK n) (un_all n) (g_un hK n)
theorem ex_all (n : Nat) : Does L (dk n) 230 [] xEnc (pEx L n) := d230 hL hK (un_all hL hK n) (g_un hK n)

theorem d229 (n : Nat) : Does L (dk n) 229 [] lEnc (pEnd L n) := by
  intro A B a d ha hd hB
  have he := ex_all hL hK n
  have hg := g_ex hK n
  have h138 := d138 hL
  unfold Does at he h138
  refine evW_by (m229_eq _ _ _) ?_
  simp -implicitDefEqProofs [m229, pEnd, ha, hd, hB, he]
  cases q : pEx L n a d with
  | bad e p a1 d1 => simp -implicitDefEqProofs [hB]
  | ok x a1 d1 =>
    obtain ⟨g1, g2, g3⟩ := hg _ _ _ _ _ q ha
    simp -implicitDefEqProofs [hB, g2, h138]
    cases hs : isS (tk L a1) [59] <;> simp -implicitDefEqProofs [hB]
end
end Go.Proofs.YtkeoalhglkfbkaaDoor

/-
  Statements that begin with a name. By the evaluator. No conditions.
-/
namespace Go.Proofs.YtkeoalhglkfbkaaDoor
open Go Hk

mutual
def XS.cells : XS → List AVal
  | .mk k p m name ty args body els has => [.int .i64 (k : Int), .int .i64 (p : Int), .int .i64 (m : Int), .str name, .int .i64 (ty.elem : Int), .int .i64 (ty.len : Int), .int .i64 (ty.label : Int),
      .slice (args.map XE.cells) .no, .slice (XS.rows body) .no, .slice (XS.rows els) .no, .bool has]
def XS.rows : List XS → List (List AVal)
  | [] => []
  | x :: r => x.cells :: XS.rows r
end
theorem XS.rows_eq : ∀ l : List XS, XS.rows l = l.map XS.cells
  | [] => rfl
  | x :: r => by simp [XS.rows, XS.rows_eq r]
theorem XS.row : RowOk XS.cells 11 := ⟨fun x => by cases x; simp [XS.cells], fun x => by cases x; simp [XS.cells, pureRow, AVal.pure1], fun x => by cases x; simp [XS.cells]⟩

/-- What 'stmt' has in its frame. -/
def sC (A B : List ABlk) (z0 pos most : Int) (name : List UInt8) (ty : Ty) (args body els : AVal) (has : Bool) : List ABlk :=
  [.cells [.int .i64 0, .int .i64 0, .int .i64 0, .str [], .int .i64 0, .int .i64 0, .int .i64 0, .slice [] (.own (HN A B + 1)), .slice [] (.own (HN A B + 2)), .slice [] (.own (HN A B + 3)), .bool false], .front 0 0, .front 0 0, .front 0 0,
   .cells [.int .i64 z0, .int .i64 pos, .int .i64 most, .str name, .int .i64 (ty.elem : Int), .int .i64 (ty.len : Int), .int .i64 (ty.label : Int), args, body, els, .bool has], .front 0 0, .front 0 0, .front 0 0]

section
variable {L : List Token} (hL : L.length ≤ 131072) (hK : TokOk L)
include hL hK

theorem c231 {n : Nat} {A B : List ABlk} {a d pos : Nat} (ha : a < L.length) (hd : dk (n + 1) d) (hB : KB A B) :
    match pNamed L (n + 1) pos a d with
    | .bad e p a' d' => ∃ C, KK 231 [.ptr A.length 0, .ptr (HN A B + 4) 0] (HQ A L a d (B ++ sC A B 0 pos 0 [] ⟨0, 0, 0⟩ (.slice [] (.own (HN A B + 5))) (.slice [] (.own (HN A B + 6))) (.slice [] (.own (HN A B + 7))) false)) = some (.pan (wrongV e p), HQ A L a' d' (B ++ C))
    | .ok s a' d' => ∃ (k : Nat) (name : List UInt8) (args : List XE), s = .mk k pos 0 name ⟨0, 0, 0⟩ args [] [] false ∧
        KK 231 [.ptr A.length 0, .ptr (HN A B + 4) 0] (HQ A L a d (B ++ sC A B 0 pos 0 [] ⟨0, 0, 0⟩ (.slice [] (.own (HN A B + 5))) (.slice [] (.own (HN A B + 6))) (.slice [] (.own (HN A B + 7))) false)) =
          some (.ret (.tuple []), HQ A L a' d' (B ++ sC A B k pos 0 name ⟨0, 0, 0⟩ (.slice (args.map XE.cells) .no) (.slice [] (.own (HN A B + 6))) (.slice [] (.own (HN A B + 7))) false)) := by
  have he := ex_all hL hK n
  have hg := g_ex hK n
  have h139 := d139 hL 1
  have h178 := d178 (L := L)
  have h138 := d138 hL
  have h250 := fun t => d250 hL hK he hg t
  have h229 := d229 hL hK (n + 1)
  unfold Does at h139 h178 h138 h250 h229
  simp only [Int.cast_ofNat_Int] at h139
  have ev : ∀ r, m231 KK (.ptr A.length 0) (.ptr (HN A B + 4) 0) (HQ A L a d (B ++ sC A B 0 pos 0 [] ⟨0, 0, 0⟩ (.slice [] (.own (HN A B + 5))) (.slice [] (.own (HN A B + 6))) (.slice [] (.own (HN A B + 7))) false)) = some r →
      KK 231 [.ptr A.length 0, .ptr (HN A B + 4) 0] (HQ A L a d (B ++ sC A B 0 pos 0 [] ⟨0, 0, 0⟩ (.slice [] (.own (HN A B + 5))) (.slice [] (.own (HN A B + 6))) (.slice [] (.own (HN A B + 7))) false)) = some r := fun r hr => evW_by (m231_eq _ _ _ _) hr
  have hKB : ∀ (z0 : Int) nm, KB A (B ++ sC A B z0 pos 0 nm ⟨0, 0, 0⟩ (.slice [] (.own (HN A B + 5))) (.slice [] (.own (HN A B + 6))) (.slice [] (.own (HN A B + 7))) false) := fun z0 nm => hB.app (by simp [sC])
  have hKB2 : ∀ (z0 : Int) nm rows, KB A (B ++ sC A B z0 pos 0 nm ⟨0, 0, 0⟩ (.slice rows .no) (.slice [] (.own (HN A B + 6))) (.slice [] (.own (HN A B + 7))) false) := fun z0 nm rows => hB.app (by simp [sC])
  have htr : ∀ a d (z0 : Int) nm C, trunc (HN A B + 8) (HQ A L a d (B ++ (sC A B z0 pos 0 nm ⟨0, 0, 0⟩ (.slice [] (.own (HN A B + 5))) (.slice [] (.own (HN A B + 6))) (.slice [] (.own (HN A B + 7))) false ++ C))) =
      some (HQ A L a d (B ++ sC A B z0 pos 0 nm ⟨0, 0, 0⟩ (.slice [] (.own (HN A B + 5))) (.slice [] (.own (HN A B + 6))) (.slice [] (.own (HN A B + 7))) false)) := fun a d z0 nm C =>
    HQ_truncG hB rfl (by simp [sC])
  have htr2 : ∀ a d (z0 : Int) nm rows C, trunc (HN A B + 8) (HQ A L a d (B ++ (sC A B z0 pos 0 nm ⟨0, 0, 0⟩ (.slice rows .no) (.slice [] (.own (HN A B + 6))) (.slice [] (.own (HN A B + 7))) false ++ C))) =
      some (HQ A L a d (B ++ sC A B z0 pos 0 nm ⟨0, 0, 0⟩ (.slice rows .no) (.slice [] (.own (HN A B + 6))) (.slice [] (.own (HN A B + 7))) false)) := fun a d z0 nm rows C =>
    HQ_truncG hB rfl (by simp [sC])
  have htr3 : ∀ a d (z0 : Int) nm rows j C, 8 ≤ j → trunc (HN A B + 8) (HQ A L a d (B ++ (sC A B z0 pos 0 nm ⟨0, 0, 0⟩ (.slice rows (.own (HN A B + j))) (.slice [] (.own (HN A B + 6))) (.slice [] (.own (HN A B + 7))) false ++ C))) =
      some (HQ A L a d (B ++ sC A B z0 pos 0 nm ⟨0, 0, 0⟩ (.slice rows .no) (.slice [] (.own (HN A B + 6))) (.slice [] (.own (HN A B + 7))) false)) := fun a d z0 nm rows j C hj =>
    HQ_truncG hB rfl (by
      have : ¬ j < 8 := by omega
      simp [sC, this])
  simp only [sC, List.cons_append, List.nil_append, Int.cast_ofNat_Int] at htr htr2 htr3
  by_cases hk : (tk L a).kind = 1
  · have ha1 := kind_lt (k := 1) hK ha (by decide) hk
    cases s1 : isS (tk L (a + 1)) [40]
    · cases s2 : isS (tk L (a + 1)) [91]
      · cases s3 : isS (tk L (a + 1)) [61]
        · rw [show pNamed L (n + 1) pos a d = .bad 10 (tk L (a + 1)).pos (a + 1) d by simp [pNamed, hk, s1, s2, s3]]
          refine ⟨sC A B 0 pos 0 (tk L a).text ⟨0, 0, 0⟩ (.slice [] (.own (HN A B + 5))) (.slice [] (.own (HN A B + 6))) (.slice [] (.own (HN A B + 7))) false, ev _ ?_⟩
          simp -implicitDefEqProofs [m231, sC, ha, hB, h139, hk, ha1, h178, h138, s1, s2, s3, finP, htr]
        · have ha2 := isS_lt hK ha1 s3
          cases q : pEnd L (n + 1) (a + 1 + 1) d with
          | bad e p a2 d2 =>
            rw [show pNamed L (n + 1) pos a d = .bad e p a2 d2 by simp [pNamed, hk, s1, s2, s3, q]]
            refine ⟨sC A B 0 pos 0 (tk L a).text ⟨0, 0, 0⟩ (.slice [] (.own (HN A B + 5))) (.slice [] (.own (HN A B + 6))) (.slice [] (.own (HN A B + 7))) false, ev _ ?_⟩
            simp -implicitDefEqProofs [m231, sC, ha, hB, h139, hk, ha1, h178, h138, s1, s2, s3, ha2, h229, hd, q, finP, htr]
          | ok l a2 d2 =>
            rw [show pNamed L (n + 1) pos a d = .ok (.mk 3 pos 0 (tk L a).text ⟨0, 0, 0⟩ l [] [] false) a2 d2 by simp [pNamed, hk, s1, s2, s3, q]]
            refine ⟨3, (tk L a).text, l, rfl, ev _ ?_⟩
            simp -implicitDefEqProofs [m231, sC, ha, hB, h139, hk, ha1, h178, h138, s1, s2, s3, ha2, h229, hd, q, finR, htr2]
      · have hB' : KB A (B ++ (sC A B 4 pos 0 (tk L a).text ⟨0, 0, 0⟩ (.slice [] (.own (HN A B + 5))) (.slice [] (.own (HN A B + 6))) (.slice [] (.own (HN A B + 7))) false ++ [.cells (tk L a).cells])) := hB.app (by simp [sC])
        have i1 := c251 hL hK he hg ha1 hd hB'
        simp only [sC, Token.cells, List.cons_append, List.nil_append, hk, Int.cast_ofNat_Int] at i1
        cases q3 : pIndex L (pEx L n) (a + 1) d with
        | bad e p a3 d3 =>
          rw [show pNamed L (n + 1) pos a d = .bad e p a3 d3 by simp [pNamed, hk, s1, s2, q3]]
          rw [q3] at i1
          refine ⟨sC A B 4 pos 0 (tk L a).text ⟨0, 0, 0⟩ (.slice [] (.own (HN A B + 5))) (.slice [] (.own (HN A B + 6))) (.slice [] (.own (HN A B + 7))) false, ev _ ?_⟩
          simp -implicitDefEqProofs [m231, sC, ha, hB, h139, hk, ha1, h178, s1, s2, i1, finP, htr]
        | ok l a3 d3 =>
          rw [q3] at i1
          obtain ⟨x, rfl, i2⟩ := i1
          obtain ⟨g1, g2, g3⟩ := (g_index hK hg) _ _ _ _ _ q3 ha1
          have g3 : d = d3 := g3.symm
          subst g3
          simp -implicitDefEqProofs only [HN_app, List.length_cons, List.length_nil, List.append_assoc, List.cons_append, List.nil_append, HN_succ] at i2
          simp at i2
          cases s3 : isS (tk L a3) [61]
          · rw [show pNamed L (n + 1) pos a d = .bad 10 (tk L a3).pos a3 d by simp [pNamed, hk, s1, s2, q3, s3]]
            refine ⟨sC A B 4 pos 0 (tk L a).text ⟨0, 0, 0⟩ (.slice [] (.own (HN A B + 5))) (.slice [] (.own (HN A B + 6))) (.slice [] (.own (HN A B + 7))) false, ev _ ?_⟩
            simp -implicitDefEqProofs [m231, sC, ha, hB, h139, hk, ha1, h178, s1, s2, i2, g2, h138, s3, finP, htr]
          · have ha4 := isS_lt hK g2 s3
            cases q : pEnd L (n + 1) (a3 + 1) d with
            | bad e p a2 d2 =>
              rw [show pNamed L (n + 1) pos a d = .bad e p a2 d2 by simp [pNamed, hk, s1, s2, q3, s3, q]]
              refine ⟨sC A B 4 pos 0 (tk L a).text ⟨0, 0, 0⟩ (.slice [] (.own (HN A B + 5))) (.slice [] (.own (HN A B + 6))) (.slice [] (.own (HN A B + 7))) false, ev _ ?_⟩
              simp -implicitDefEqProofs [m231, sC, ha, hB, h139, hk, ha1, h178, s1, s2, i2, g2, h138, s3, ha4, h229, hd, q, finP, htr]
            | ok l a2 d2 =>
              rw [show pNamed L (n + 1) pos a d = .ok (.mk 4 pos 0 (tk L a).text ⟨0, 0, 0⟩ ([x] ++ l) [] [] false) a2 d2 by simp [pNamed, hk, s1, s2, q3, s3, q]]
              refine ⟨4, (tk L a).text, [x] ++ l, rfl, ev _ ?_⟩
              have hlen : l.length = 1 := by
                revert q
                simp only [pEnd, pm_bind, PM.bind]
                cases pEx L (n + 1) (a3 + 1) d with
                | bad => intro q; cases q
                | ok y a5 d5 =>
                  simp only [pTake]
                  split
                  · rename_i v a' d' h; split at h
                    · cases h; intro q; cases q; rfl
                    · cases h
                  · intro q; cases q
              have b2 := HQ_app1 (A := A) (B := B) (L := L) (a := a2) (d := d2) (C := sC A B 4 pos 0 (tk L a).text ⟨0, 0, 0⟩ (.slice [] (.own (HN A B + 5))) (.slice [] (.own (HN A B + 6))) (.slice [] (.own (HN A B + 7))) false ++ [.cells [.int .i64 1, .int .i64 ((tk L a).pos : Int), .int .i64 ((tk L a).num : Int), .str (tk L a).text], .front 0 0, .cells x.cells, .front 0 0, .front 1 5]) (k := 12) (rows := [x.cells]) (new := l.map XE.cells) (sz := 5) (by_ := 64) (sz' := 5) (t := .no) rfl (.inl rfl) (by simp) (by intro h; simp at h; rw [h] at hlen; cases hlen) (by simp [hlen]) (by simp [hlen])
              simp only [sC, List.length_singleton, List.length_map, hlen, List.cons_append, List.nil_append, List.set_cons_succ, List.set_cons_zero, Int.cast_ofNat_Int] at b2
              simp -implicitDefEqProofs [m231, sC, ha, hB, h139, hk, ha1, h178, s1, s2, i2, g2, h138, s3, ha4, h229, hd, q, b2, finR, htr3]
    · have hB' : KB A (B ++ (sC A B 7 pos 0 [] ⟨0, 0, 0⟩ (.slice [] (.own (HN A B + 5))) (.slice [] (.own (HN A B + 6))) (.slice [] (.own (HN A B + 7))) false ++ [.cells (tk L a).cells])) := hB.app (by simp [sC])
      have i1 := h250 (tk L a) A _ (a + 1) d ha1 hd hB'
      simp only [sC, Token.cells, List.cons_append, List.nil_append, hk, Int.cast_ofNat_Int] at i1
      cases q3 : pCall L (pEx L n) (tk L a) (a + 1) d with
      | bad e p a3 d3 =>
        rw [show pNamed L (n + 1) pos a d = .bad e p a3 d3 by simp [pNamed, hk, s1, q3]]
        rw [q3] at i1
        refine ⟨sC A B 7 pos 0 [] ⟨0, 0, 0⟩ (.slice [] (.own (HN A B + 5))) (.slice [] (.own (HN A B + 6))) (.slice [] (.own (HN A B + 7))) false, ev _ ?_⟩
        simp -implicitDefEqProofs [m231, sC, ha, hB, h139, hk, ha1, h178, s1, i1, finP, htr]
      | ok x a3 d3 =>
        rw [q3] at i1
        obtain ⟨g1, g2, g3⟩ := (g_call hK hg) _ _ _ _ _ q3 ha1
        cases s3 : isS (tk L a3) [59]
        · rw [show pNamed L (n + 1) pos a d = .bad 10 (tk L a3).pos a3 d3 by simp [pNamed, hk, s1, q3, s3]]
          refine ⟨sC A B 7 pos 0 [] ⟨0, 0, 0⟩ (.slice [x.cells] .no) (.slice [] (.own (HN A B + 6))) (.slice [] (.own (HN A B + 7))) false, ev _ ?_⟩
          simp -implicitDefEqProofs [m231, sC, ha, hB, h139, hk, ha1, h178, s1, i1, g2, h138, s3, finP, htr3]
        · rw [show pNamed L (n + 1) pos a d = .ok (.mk 7 pos 0 [] ⟨0, 0, 0⟩ [x] [] [] false) (a3 + 1) d3 by simp [pNamed, hk, s1, q3, s3]]
          refine ⟨7, [], [x], rfl, ev _ ?_⟩
          simp -implicitDefEqProofs [m231, sC, ha, hB, h139, hk, ha1, h178, s1, i1, g2, h138, s3, finR, htr3]
  · rw [show pNamed L (n + 1) pos a d = .bad 10 (tk L a).pos a d by simp [pNamed, hk]]
    refine ⟨sC A B 0 pos 0 [] ⟨0, 0, 0⟩ (.slice [] (.own (HN A B + 5))) (.slice [] (.own (HN A B + 6))) (.slice [] (.own (HN A B + 7))) false, ev _ ?_⟩
    simp -implicitDefEqProofs [m231, sC, ha, hB, h139, hk, finP, htr]
end
end Go.Proofs.YtkeoalhglkfbkaaDoor

/-
  Statements. By the evaluator. No conditions.
-/
namespace Go.Proofs.YtkeoalhglkfbkaaDoor
open Go Hk

section
variable {x : XS} {n m : Nat} {h : Heap}
@[simp] theorem xs_len : x.cells.length = 11 := XS.row.len x
@[simp] theorem xs_take : x.cells.take 11 = x.cells := List.take_of_length_le (by simp)
theorem xs_ok : ∀ c ∈ x.cells, c.cellOk = true := by simpa using XS.row.ok x
@[simp] theorem xs_ok2 : (∀ c, c ∈ x.cells → c.cellOk = true) = True := eq_true xs_ok
@[simp] theorem xs_nonil {os : List AVal} : keepTok h os x.cells = x.cells := keepTok_none (by cases x; simp [XS.cells, AVal.isNil])
@[simp] theorem xs_keep : x.cells.map (AVal.untok1 ∘ fun c => AVal.san1 m h c) = x.cells := by cases x; simp [XS.cells]
@[simp] theorem xs_CBn : CBn n x.cells := by cases x; simp [XS.cells]
end
def sEnc (x : XS) : AVal := .agg x.cells
def bkEnc (l : List XS) : AVal := .slice (l.map XS.cells) .no
attribute [simp] sEnc bkEnc

section
variable {L : List Token} (hL : L.length ≤ 131072) (hK : TokOk L)
include hL hK

set_option maxHeartbeats 1000000 in
theorem d182 {n : Nat} {bl : PM (List XS)} (hb : Does L (dk (n + 1)) 146 [] bkEnc bl) (hgb : PGood L 1 (fun d => d) bl) : Does L (dk (n + 1)) 182 [] sEnc (pStmt L bl (n + 1)) := by
  intro A B a d ha hd hB
  have h230 := ex_all hL hK (n + 1)
  have hge := g_ex hK (n + 1)
  have h76 := d76 (L := L)
  have h143 := d143 hL
  have h138 := d138 hL
  have h139 := fun k => d139 hL k
  have h145 := d145 hL
  have h180 := d180 hL hK
  have h229 := d229 hL hK (n + 1)
  have hgd := g_end hK (n + 1)
  unfold Does at h230 h76 h143 h138 h139 h145 h180 h229 hb
  have h1391 := h139 1
  have h1392 := h139 2
  simp only [Int.cast_ofNat_Int] at h1391 h1392
  refine evW_by (m182_eq _ _ _) ?_
  simp -implicitDefEqProofs [m182, pStmt, ha, hB, h76, h143]
  cases s1 : isS (tk L a) [108, 101, 116]
  · simp -implicitDefEqProofs [ha, hB, h143]
    cases s2 : isS (tk L a) [118, 97, 114]
    · simp -implicitDefEqProofs [ha, hB, h143]
      cases s3 : isS (tk L a) [105, 102]
      · simp -implicitDefEqProofs [ha, hB, h143]
        cases s4 : isS (tk L a) [102, 111, 114]
        · simp -implicitDefEqProofs [ha, hB, h143]
          cases s5 : isS (tk L a) [114, 101, 116, 117, 114, 110]
          · have i1 := c231 hL hK (A := A) (B := B) (pos := (tk L a).pos) ha hd hB
            simp only [sC, Int.cast_ofNat_Int] at i1
            simp -implicitDefEqProofs [hB]
            cases q : pNamed L (n + 1) (tk L a).pos a d with
            | bad e p a1 d1 =>
              rw [q] at i1
              obtain ⟨C, i2⟩ := i1
              simp -implicitDefEqProofs [hB, i2]
            | ok s a1 d1 =>
              rw [q] at i1
              obtain ⟨k, name, args, rfl, i2⟩ := i1
              simp -implicitDefEqProofs [hB, i2, XS.cells, XS.rows]
          · have ha1 := isS_lt hK ha s5
            simp -implicitDefEqProofs [hB, ha1, hd, h229]
            cases q : pEnd L (n + 1) (a + 1) d with
            | bad e p a1 d1 => simp -implicitDefEqProofs [hB]
            | ok l a1 d1 => simp -implicitDefEqProofs [hB, XS.cells, XS.rows]
        · have ha1 := isS_lt hK ha s4
          simp -implicitDefEqProofs [hB, ha1, h1391]
          by_cases k1 : (tk L (a + 1)).kind = 1
          · have ha2 := kind_lt (k := 1) hK ha1 (by decide) k1
            simp -implicitDefEqProofs [hB, k1, ha2, h138]
            cases t1 : isS (tk L (a + 1 + 1)) [60]
            · simp -implicitDefEqProofs [hB]
            · have ha3 := isS_lt hK ha2 t1
              simp -implicitDefEqProofs [hB, ha3, h230, hd]
              cases q : pEx L (n + 1) (a + 1 + 1 + 1) d with
              | bad e p a4 d4 => simp -implicitDefEqProofs [hB]
              | ok x a4 d4 =>
                obtain ⟨g1, g2, g3⟩ := hge _ _ _ _ _ q ha3
                have g3 : d = d4 := g3.symm
                subst g3
                simp -implicitDefEqProofs [hB, g2, h138]
                cases t2 : isS (tk L a4) [109, 97, 120]
                · simp -implicitDefEqProofs [hB]
                · have ha5 := isS_lt hK g2 t2
                  simp -implicitDefEqProofs [hB, ha5, h1392]
                  by_cases k2 : (tk L (a4 + 1)).kind = 2
                  · have ha6 := kind_lt (k := 2) hK ha5 (by decide) k2
                    simp -implicitDefEqProofs [hB, k2, ha6, hb, hd]
                    cases q2 : bl (a4 + 1 + 1) d with
                    | bad e p a7 d7 => simp -implicitDefEqProofs [hB]
                    | ok l a7 d7 => simp -implicitDefEqProofs [hB, XS.cells, XS.rows, XS.rows_eq]
                  · simp -implicitDefEqProofs [hB, k2]
          · simp -implicitDefEqProofs [hB, k1]
      · have ha1 := isS_lt hK ha s3
        simp -implicitDefEqProofs [hB, ha1, h230, hd]
        cases q : pEx L (n + 1) (a + 1) d with
        | bad e p a4 d4 => simp -implicitDefEqProofs [hB]
        | ok x a4 d4 =>
          obtain ⟨g1, g2, g3⟩ := hge _ _ _ _ _ q ha1
          have g3 : d = d4 := g3.symm
          subst g3
          simp -implicitDefEqProofs [hB, g2, hb, hd]
          cases q2 : bl a4 d with
          | bad e p a5 d5 => simp -implicitDefEqProofs [hB]
          | ok l a5 d5 =>
            obtain ⟨j1, j2, j3⟩ := hgb _ _ _ _ _ q2 g2
            have j3 : d = d5 := j3.symm
            subst j3
            simp -implicitDefEqProofs [hB, j2, h143]
            cases t1 : isS (tk L a5) [101, 108, 115, 101]
            · simp -implicitDefEqProofs [hB, XS.cells, XS.rows, XS.rows_eq]
            · have ha6 := isS_lt hK j2 t1
              simp -implicitDefEqProofs [hB, ha6, hb, hd]
              cases q3 : bl (a5 + 1) d with
              | bad e p a7 d7 => simp -implicitDefEqProofs [hB]
              | ok l2 a7 d7 => simp -implicitDefEqProofs [hB, XS.cells, XS.rows, XS.rows_eq]
    · have ha1 := isS_lt hK ha s2
      simp -implicitDefEqProofs [hB, ha1, h145]
      cases q : pLabel L (a + 1) d with
      | bad e p a2 d2 => simp -implicitDefEqProofs [hB]
      | ok lab a2 d2 =>
        obtain ⟨g1, g2, g3⟩ := g_label hK _ _ _ _ _ q ha1
        have g3 : d = d2 := g3.symm
        subst g3
        simp -implicitDefEqProofs [hB, g2, h1391]
        by_cases k1 : (tk L a2).kind = 1
        · have ha3 := kind_lt (k := 1) hK g2 (by decide) k1
          simp -implicitDefEqProofs [hB, k1, ha3, h138]
          cases t1 : isS (tk L (a2 + 1)) [58]
          · simp -implicitDefEqProofs [hB]
          · have ha4 := isS_lt hK ha3 t1
            simp -implicitDefEqProofs [hB, ha4, h180]
            cases q2 : pKinds L lab (a2 + 1 + 1) d with
            | bad e p a5 d5 => simp -implicitDefEqProofs [hB]
            | ok ty a5 d5 =>
              obtain ⟨j1, j2, j3⟩ := g_kinds hK _ _ _ _ _ q2 ha4
              simp -implicitDefEqProofs [hB, j2, h138]
              cases t2 : isS (tk L a5) [59] <;> simp -implicitDefEqProofs [hB, XS.cells, XS.rows]
        · simp -implicitDefEqProofs [hB, k1]
  · have ha1 := isS_lt hK ha s1
    simp -implicitDefEqProofs [hB, ha1, h1391]
    by_cases k1 : (tk L (a + 1)).kind = 1
    · have ha2 := kind_lt (k := 1) hK ha1 (by decide) k1
      simp -implicitDefEqProofs [hB, k1, ha2, h138]
      cases t1 : isS (tk L (a + 1 + 1)) [61]
      · simp -implicitDefEqProofs [hB]
      · have ha3 := isS_lt hK ha2 t1
        simp -implicitDefEqProofs [hB, ha3, h229, hd]
        cases q : pEnd L (n + 1) (a + 1 + 1 + 1) d with
        | bad e p a4 d4 => simp -implicitDefEqProofs [hB]
        | ok l a4 d4 => simp -implicitDefEqProofs [hB, XS.cells, XS.rows]
    · simp -implicitDefEqProofs [hB, k1]
end
end Go.Proofs.YtkeoalhglkfbkaaDoor

/-
  Blocks. By the evaluator. No conditions.
-/
namespace Go.Proofs.YtkeoalhglkfbkaaDoor
open Go Hk

theorem pStmts_eq {L : List Token} {stmt : PM XS} {m a d : Nat} {l : List XS} : pStmts L stmt (m + 1) l a d = if isS (tk L a) [125] = true then .ok l a d else match stmt a d with
    | .bad e p a1 d1 => .bad e p a1 d1
    | .ok x a1 d1 => pStmts L stmt m (l ++ [x]) a1 d1 := by
  rw [pStmts]
  simp only [pm_bind, PM.bind, pIs]
  cases h : isS (tk L a) [125]
  · simp only [Bool.false_eq_true, if_false, PM.bind]
    cases stmt a d <;> rfl
  · simp [pm_pure]

section
variable {L : List Token} (hL : L.length ≤ 131072) (hK : TokOk L)
include hL hK

omit hK in
theorem d146_loop {n : Nat} {st : PM XS} (hs : Does L (dk n) 182 [] sEnc st) (hg : PGood L 1 (fun d => d) st) {A B : List ABlk} {d : Nat} (hB : KB A B) (hd : dk n d) (m : Nat) (l : List XS) (a : Nat) (ha : a < L.length) (hm : L.length < a + m) (hl : l.length ≤ a) :
    ∃ r, lpW (m146_l0 KK (HN A B + 2)) ([.ptr A.length 0, .slice [] (.own (HN A B)), .slice (l.map XS.cells) (.own (HN A B + 1))], HQ A L a d (B ++ [.front 0 0, .front l.length (fsz l.length 11)])) = some r ∧
      match pStmts L st m l a d with
      | .ok l' a' d' => r = (.exit 0, [.ptr A.length 0, .slice [] (.own (HN A B)), .slice (l'.map XS.cells) (.own (HN A B + 1))], HQ A L a' d' (B ++ [.front 0 0, .front l'.length (fsz l'.length 11)]))
      | .bad e p a' d' => ∃ vs C, r = (.pan (wrongV e p), vs, HQ A L a' d' (B ++ C)) := by
  have h178 := d178 (L := L)
  unfold Does at h178 hs
  refine lpW_post (σ := List XS × Nat × Nat) (fun s => ([.ptr A.length 0, .slice [] (.own (HN A B)), .slice (s.1.map XS.cells) (.own (HN A B + 1))], HQ A L s.2.1 d (B ++ [.front 0 0, .front s.1.length (fsz s.1.length 11)])))
    (fun s => s.2.1 < L.length ∧ L.length < s.2.1 + s.2.2 ∧ s.1.length ≤ s.2.1) (fun s => s.2.2)
    (fun s r => match pStmts L st s.2.2 s.1 s.2.1 d with
      | .ok l' a' d' => r = (.exit 0, [.ptr A.length 0, .slice [] (.own (HN A B)), .slice (l'.map XS.cells) (.own (HN A B + 1))], HQ A L a' d' (B ++ [.front 0 0, .front l'.length (fsz l'.length 11)]))
      | .bad e p a' d' => ∃ vs C, r = (.pan (wrongV e p), vs, HQ A L a' d' (B ++ C))) ?_ (l, a, m) ⟨ha, hm, hl⟩
  rintro ⟨l, a, m⟩ ⟨ha, hm, hl⟩
  simp only at ha hm hl
  obtain ⟨m, rfl⟩ : ∃ j, m = j + 1 := ⟨m - 1, by omega⟩
  have hsp : ∀ h, AVal.san (HN A B + 2) h (.ptr A.length 0) = .ptr A.length 0 := fun h => san_ptr_lt A_lt
  have hKB : ∀ x y, KB A (B ++ [.front 0 0, .front x y]) := fun x y => hB.app (by simp)
  have htr : ∀ a d x y C, trunc (HN A B + 2) (HQ A L a d (B ++ (.front 0 0 :: .front x y :: C))) = some (HQ A L a d (B ++ [.front 0 0, .front x y])) := fun a d x y C => by
    have := HQ_truncK (L := L) (a := a) (d := d) (A := A) (B := B) (C := .front 0 0 :: .front x y :: C) (k := 2) (by simpa using hKB x y) (by simp)
    simpa using this
  have hfst : m146_l0 KK (HN A B + 2) ([.ptr A.length 0, .slice [] (.own (HN A B)), .slice (l.map XS.cells) (.own (HN A B + 1))], HQ A L a d (B ++ [.front 0 0, .front l.length (fsz l.length 11)])) =
      if isS (tk L a) [125] = true then some (.exit 0, [.ptr A.length 0, .slice [] (.own (HN A B)), .slice (l.map XS.cells) (.own (HN A B + 1))], HQ A L a d (B ++ [.front 0 0, .front l.length (fsz l.length 11)]))
      else match st a d with
      | .bad e p a1 d1 => some (.pan (wrongV e p), [.ptr A.length 0, .slice [] (.own (HN A B)), .slice (l.map XS.cells) (.own (HN A B + 1))], HQ A L a1 d1 (B ++ [.front 0 0, .front l.length (fsz l.length 11)]))
      | .ok x a1 d1 => some (.normal, [.ptr A.length 0, .slice [] (.own (HN A B)), .slice ((l ++ [x]).map XS.cells) (.own (HN A B + 1))], HQ A L a1 d (B ++ [.front 0 0, .front (l ++ [x]).length 11])) := by
    simp -implicitDefEqProofs [m146_l0, ha, hB, h178]
    cases h1 : isS (tk L a) [125]
    · simp -implicitDefEqProofs [ha, hB, hs, hd]
      cases q : st a d with
      | bad e p a1 d1 => simp -implicitDefEqProofs [endR, htr, hsp]
      | ok x a1 d1 =>
        obtain ⟨g1, g2, g3⟩ := hg a d _ _ _ q ha
        have g3 : d = d1 := g3.symm
        subst g3
        have b1 := abuildSlice1 (zero := [.int .i64 0, .int .i64 0, .int .i64 0, .str [], .int .i64 0, .int .i64 0, .int .i64 0, .slice [] .nil, .slice [] .nil, .slice [] .nil, .bool false]) (h := HQ A L a1 d (B ++ [.front 0 0, .front l.length (fsz l.length 11)])) (XS.row.len x) rfl (XS.row.pure x) (XS.row.ok x)
        have b2 := HQ_app1 (A := A) (B := B) (L := L) (a := a1) (d := d) (C := [.front 0 0, .front l.length (fsz l.length 11), .front 1 11]) (k := 1) (rows := l.map XS.cells) (new := [x.cells]) (sz := 11) (by_ := 144) (sz' := fsz l.length 11) (t := .own (HN A B + 2)) (by simp) (by rw [List.length_map]; exact fsz_or _ _) (by simp) (by simp) (by simp; omega) (by simp; omega)
        simp only [List.length_map, List.length_singleton, List.set_cons_succ, List.set_cons_zero] at b2
        simp -implicitDefEqProofs [b1, b2, endR, htr, hsp]
    · simp -implicitDefEqProofs [endR, htr, hsp]
  rw [hfst]
  simp only [pStmts_eq]
  cases h1 : isS (tk L a) [125] with
  | true =>
    right
    exact ⟨_, by simp only [if_true]; rfl, by simp, by simp only [if_true]⟩
  | false =>
    simp only [Bool.false_eq_true, if_false]
    cases q : st a d with
    | bad e p a1 d1 =>
      right
      exact ⟨_, rfl, by simp, _, _, rfl⟩
    | ok x a1 d1 =>
      obtain ⟨g1, g2, g3⟩ := hg a d _ _ _ q ha
      have g3 : d = d1 := g3.symm
      subst g3
      left
      refine ⟨(l ++ [x], a1, m), ?_, ⟨g2, by simp; omega, by simp; omega⟩, by simp, fun r hr => hr⟩
      simp [fsz_succ]

theorem d146 {n : Nat} (hs : Does L (dk n) 182 [] sEnc (pStmt L (pBlock L n) n)) (hg : PGood L 1 (fun d => d) (pStmt L (pBlock L n) n)) : Does L (dk (n + 1)) 146 [] bkEnc (pBlock L (n + 1)) := by
  intro A B a d ha hd hB
  have h181 := d181 hL
  have h183 := d183 hL
  unfold Does at h181 h183
  have hd64 := hd.2
  refine evW_by (m146_eq _ _ _) ?_
  simp -implicitDefEqProofs [m146, pBlock, ha, hB, h181, hd64]
  cases s1 : isS (tk L a) [123]
  · simp -implicitDefEqProofs [hB]
  · have ha1 := isS_lt hK ha s1
    by_cases h64 : d = 64
    · simp -implicitDefEqProofs [hB, h64]
    · have hd1 := hd.up h64
      obtain ⟨r, h1, h2⟩ := d146_loop hL hs hg hB hd1 131073 [] (a + 1) ha1 (by omega) (Nat.zero_le _)
      simp only [List.map_nil, List.length_nil, fsz_zero] at h1
      simp -implicitDefEqProofs [hB, h64, h1]
      cases q : pStmts L (pStmt L (pBlock L n) n) 131073 [] (a + 1) (d + 1) with
      | bad e p a2 d2 =>
        rw [q] at h2
        obtain ⟨vs, C, rfl⟩ := h2
        simp -implicitDefEqProofs [hB]
      | ok l a2 d2 =>
        rw [q] at h2
        subst h2
        obtain ⟨g1, g2, g3⟩ := g_stmts hg _ _ _ _ _ _ _ q ha1
        have g3 : d2 = d + 1 := g3
        subst g3
        have h65 : d ≤ 64 := by omega
        simp -implicitDefEqProofs [hB, g2, h183, h65]
        cases s2 : isS (tk L a2) [125] <;> simp -implicitDefEqProofs [hB]

theorem bl_all : ∀ n, Does L (dk n) 146 [] bkEnc (pBlock L n)
  | 0 => fun A B a d ha hd => by have h1 := hd.1; have h2 := hd.2; omega
  | 1 => d146 hL hK (fun A B a d ha hd => by have h1 := hd.1; have h2 := hd.2; omega) (g_stmt hK (g_block hK 0) 0)
  | n + 2 => d146 hL hK (d182 hL hK (bl_all (n + 1)) (g_block hK (n + 1))) (g_stmt hK (g_block hK (n + 1)) (n + 1))

def XF.cells (f : XF) : List AVal := [.int .i64 (f.pos : Int), .str f.name, .slice (f.params.map XP.cells) .no, .bool f.has, .int .i64 (f.result.elem : Int), .int .i64 (f.result.len : Int), .int .i64 (f.result.label : Int), .slice (f.body.map XS.cells) .no]
def fEnc (f : XF) : AVal := .agg f.cells
attribute [simp] fEnc

omit hL hK in
theorem XF.row : RowOk XF.cells 8 := ⟨fun _ => rfl, fun _ => rfl, fun _ => rfl⟩

set_option maxHeartbeats 1000000 in
theorem d77 : Does L (fun d => d = 0) 77 [] fEnc (pFunc L) := by
  intro A B a d ha hd hB
  subst hd
  have h138 := d138 hL
  have h139 := d139 hL 1
  have h143 := d143 hL
  have h145 := d145 hL
  have h144 := fun l => d144 hL l
  have h146 := bl_all hL hK 65
  have hd0 : dk 65 0 := ⟨rfl, by omega⟩
  unfold Does at h138 h139 h143 h145 h144 h146
  simp only [Int.cast_ofNat_Int] at h139
  refine evW_by (m77_eq _ _ _) ?_
  simp -implicitDefEqProofs [m77, pFunc, ha, hB, h138, A_lt, A_lt0]
  cases s1 : isS (tk L a) [102, 110]
  · simp -implicitDefEqProofs [hB]
  · have ha1 := isS_lt hK ha s1
    simp -implicitDefEqProofs [hB, ha1, h139, A_lt, A_lt0]
    by_cases k1 : (tk L (a + 1)).kind = 1
    · have ha2 := kind_lt (k := 1) hK ha1 (by decide) k1
      simp -implicitDefEqProofs [hB, k1, ha2, h138, A_lt, A_lt0]
      cases s2 : isS (tk L (a + 1 + 1)) [40]
      · simp -implicitDefEqProofs [hB]
      · have ha3 := isS_lt hK ha2 s2
        have hB' : KB A (B ++ [.cells [.ptr A.length 0], .cells [.int .i64 0, .str [], .slice [] (.own (HN A B + 2)), .bool false, .int .i64 0, .int .i64 0, .int .i64 0, .slice [] (.own (HN A B + 3))], .front 0 0, .front 0 0,
          .cells [.int .i64 1, .int .i64 ((tk L (a + 1)).pos : Int), .int .i64 ((tk L (a + 1)).num : Int), .str (tk L (a + 1)).text],
          .cells [.int .i64 ((tk L (a + 1)).pos : Int), .str (tk L (a + 1)).text, .slice [] (.own (HN A B + 6)), .bool false, .int .i64 0, .int .i64 0, .int .i64 0, .slice [] (.own (HN A B + 7))], .front 0 0, .front 0 0]) := hB.app (by simp [A_lt])
        have h140 := d140 hL hK (one := pParam L) (d := 0) [41] (g_param hK) ha3 hB' Has.new (fun C a ha hB => c141 hL hK Has.new.app ha hB)
        simp -implicitDefEqProofs [hB, h140]
        cases q : pList L [41] (pParam L) (a + 1 + 1 + 1) 0 with
        | bad e p a4 d4 => simp -implicitDefEqProofs [hB]
        | ok ps a4 d4 =>
          obtain ⟨g1, g2, g3⟩ := g_list hK (g_param hK) _ _ _ _ _ q ha3
          have g3 : d4 = 0 := g3
          subst g3
          simp -implicitDefEqProofs [hB, g2, h138, A_lt, A_lt0]
          cases s3 : isS (tk L a4) [41]
          · simp -implicitDefEqProofs [hB]
          · have ha5 := isS_lt hK g2 s3
            simp -implicitDefEqProofs [hB, ha5, h143, A_lt, A_lt0]
            cases s4 : isS (tk L (a4 + 1)) [58]
            · simp -implicitDefEqProofs [hB, ha5, h146, hd0, A_lt, A_lt0]
              cases q2 : pBlock L 65 (a4 + 1) 0 with
              | bad e p a6 d6 => simp -implicitDefEqProofs [hB]
              | ok b a6 d6 => simp -implicitDefEqProofs [hB, XF.cells]
            · have ha6 := isS_lt hK ha5 s4
              simp -implicitDefEqProofs [hB, ha6, h145, A_lt, A_lt0]
              cases q3 : pLabel L (a4 + 1 + 1) 0 with
              | bad e p a7 d7 => simp -implicitDefEqProofs [hB]
              | ok lab a7 d7 =>
                obtain ⟨j1, j2, j3⟩ := g_label hK _ _ _ _ _ q3 ha6
                have j3 : d7 = 0 := j3
                subst j3
                simp -implicitDefEqProofs [hB, j2, h144, A_lt, A_lt0]
                cases q4 : pScalar L lab a7 0 with
                | bad e p a8 d8 => simp -implicitDefEqProofs [hB]
                | ok ty a8 d8 =>
                  obtain ⟨k1, k2, k3⟩ := g_scalar hK _ _ _ _ _ q4 j2
                  have k3 : d8 = 0 := k3
                  subst k3
                  simp -implicitDefEqProofs [hB, k2, h146, hd0, A_lt, A_lt0]
                  cases q2 : pBlock L 65 a8 0 with
                  | bad e p a6 d6 => simp -implicitDefEqProofs [hB]
                  | ok b a6 d6 => simp -implicitDefEqProofs [hB, XF.cells]
    · simp -implicitDefEqProofs [hB, k1]
end
end Go.Proofs.YtkeoalhglkfbkaaDoor

/-
  The parser: by the evaluator. No conditions.
-/
namespace Go.Proofs.YtkeoalhglkfbkaaDoor
open Go Hk

section
variable {x : XF} {n m : Nat} {h : Heap}
@[simp] theorem xf_len : x.cells.length = 8 := rfl
@[simp] theorem xf_build : abuildSlice 1 8 [.int .i64 0, .str [], .slice [] .nil, .bool false, .int .i64 0, .int .i64 0, .int .i64 0, .slice [] .nil] [(0, .agg x.cells)] h = some (.slice [x.cells] (.own h.length), h ++ [.front 1 8]) :=
  abuildSlice1 (XF.row.len x) rfl (XF.row.pure x) (XF.row.ok x)
end

/-- Parse's memory. -/
def hP (e p : Nat) (l : List XF) (n sz : Nat) (L : List Token) (a d : Nat) (C : List ABlk) : Heap :=
  .cells [.slice (l.map XF.cells) (.own 1)] :: .front n sz :: .cells [.int .i64 (e : Int), .int .i64 (p : Int)] :: PB L a d :: C

theorem pFuncs_eq {L : List Token} {m a d : Nat} {l : List XF} : pFuncs L (m + 1) l a d = if (tk L a).kind = 0 then .ok l a d else match pFunc L a d with
    | .bad e p a1 d1 => .bad e p a1 d1
    | .ok x a1 d1 => pFuncs L m (l ++ [x]) a1 d1 := by
  rw [pFuncs]
  simp only [pm_bind, PM.bind, pHere]
  by_cases h : (tk L a).kind = 0
  · simp [h, pm_pure]
  · simp only [h, if_false, PM.bind]
    cases pFunc L a d <;> rfl

section
variable {L : List Token} (hL : L.length ≤ 131072) (hK : TokOk L)
include hL hK

omit hL hK in
theorem hP_trunc {e p : Int} {rows : List (List AVal)} {n sz a d : Nat} {C : List ABlk} : trunc 4 (.cells [.slice rows (.own 1)] :: .front n sz :: .cells [.int .i64 e, .int .i64 p] :: PB L a d :: C) = some [.cells [.slice rows (.own 1)], .front n sz, .cells [.int .i64 e, .int .i64 p], PB L a d] := by
  simp [trunc, PB]

theorem d33_loop (e0 p0 : Nat) (m : Nat) (l : List XF) (a : Nat) (ha : a < L.length) (hm : L.length < a + m) (hl : l.length ≤ a) :
    ∃ r, lpW (m33_l0 KK 4) ([.ptr 0 0, .ptr 2 0, .ptr 3 0], hP e0 p0 l l.length (fsz l.length 8) L a 0 []) = some r ∧
      match pFuncs L m l a 0 with
      | .ok l' a' d' => r = (.exit 0, [.ptr 0 0, .ptr 2 0, .ptr 3 0], hP e0 p0 l' l'.length (fsz l'.length 8) L a' d' [])
      | .bad e p a' d' => ∃ l' : List XF, r = (.pan (wrongV e p), [.ptr 0 0, .ptr 2 0, .ptr 3 0], hP e0 p0 l' l'.length (fsz l'.length 8) L a' d' []) := by
  refine lpW_post (σ := List XF × Nat × Nat) (fun s => ([.ptr 0 0, .ptr 2 0, .ptr 3 0], hP e0 p0 s.1 s.1.length (fsz s.1.length 8) L s.2.1 0 []))
    (fun s => s.2.1 < L.length ∧ L.length < s.2.1 + s.2.2 ∧ s.1.length ≤ s.2.1) (fun s => s.2.2)
    (fun s r => match pFuncs L s.2.2 s.1 s.2.1 0 with
      | .ok l' a' d' => r = (.exit 0, [.ptr 0 0, .ptr 2 0, .ptr 3 0], hP e0 p0 l' l'.length (fsz l'.length 8) L a' d' [])
      | .bad e p a' d' => ∃ l' : List XF, r = (.pan (wrongV e p), [.ptr 0 0, .ptr 2 0, .ptr 3 0], hP e0 p0 l' l'.length (fsz l'.length 8) L a' d' [])) ?_ (l, a, m) ⟨ha, hm, hl⟩
  rintro ⟨l, a, m⟩ ⟨ha, hm, hl⟩
  simp only at ha hm hl
  obtain ⟨m, rfl⟩ : ∃ j, m = j + 1 := ⟨m - 1, by omega⟩
  have hKB : KB [.cells [.slice (l.map XF.cells) (.own 1)], .front l.length (fsz l.length 8), .cells [.int .i64 (e0 : Int), .int .i64 (p0 : Int)]] [] := ⟨fun n hn => by simp [HN] at hn ⊢; omega, fun n hn => by simp⟩
  have hKB2 : KB [.gone, .front l.length (fsz l.length 8), .cells [.int .i64 (e0 : Int), .int .i64 (p0 : Int)]] [] := ⟨fun n hn => by simp, fun n hn => by simp⟩
  have h76 := d76 (L := L) _ _ a 0 ha trivial hKB
  have h77 := d77 hL hK _ _ a 0 ha rfl hKB2
  simp only [pHere, res_ok, tEnc, HQ, List.length_cons, List.length_nil, List.cons_append, List.nil_append] at h76 h77
  have htr := fun e p rows n sz a d C => hP_trunc (L := L) (e := e) (p := p) (rows := rows) (n := n) (sz := sz) (a := a) (d := d) (C := C)
  have s1 : ∀ h, AVal.san 4 h (.ptr 0 0) = .ptr 0 0 := fun h => san_ptr_lt (by omega)
  have s2 : ∀ h, AVal.san 4 h (.ptr 2 0) = .ptr 2 0 := fun h => san_ptr_lt (by omega)
  have s3 : ∀ h, AVal.san 4 h (.ptr 3 0) = .ptr 3 0 := fun h => san_ptr_lt (by omega)
  have hfst : m33_l0 KK 4 ([.ptr 0 0, .ptr 2 0, .ptr 3 0], hP e0 p0 l l.length (fsz l.length 8) L a 0 []) =
      if (tk L a).kind = 0 then some (.exit 0, [.ptr 0 0, .ptr 2 0, .ptr 3 0], hP e0 p0 l l.length (fsz l.length 8) L a 0 [])
      else match pFunc L a 0 with
      | .bad e p a1 d1 => some (.pan (wrongV e p), [.ptr 0 0, .ptr 2 0, .ptr 3 0], hP e0 p0 l l.length (fsz l.length 8) L a1 d1 [])
      | .ok x a1 d1 => some (.normal, [.ptr 0 0, .ptr 2 0, .ptr 3 0], hP e0 p0 (l ++ [x]) (l ++ [x]).length 8 L a1 0 []) := by
    by_cases h0 : (tk L a).kind = 0
    · have h0' : ((tk L a).kind : Int) = 0 := by omega
      simp -implicitDefEqProofs [m33_l0, hP, h76, h0, endR, htr, s1, s2, s3]
    · have h0' : ¬ ((tk L a).kind : Int) = 0 := by omega
      simp -implicitDefEqProofs [m33_l0, hP, h76, h0, h0', h77]
      cases q : pFunc L a 0 with
      | bad e p a1 d1 => simp -implicitDefEqProofs [HQ, endR, htr, s1, s2, s3, hP]
      | ok x a1 d1 =>
        obtain ⟨g1, g2, g3⟩ := (g_func hK) _ _ _ _ _ q ha
        have g3 : d1 = 0 := g3
        subst g3
        have b2 : ∀ (u : List ABlk), aappend 8 104 (.cells [.slice (l.map XF.cells) (.own 1)] :: .front l.length (fsz l.length 8) :: u) (.slice (l.map XF.cells) (.own 1)) (.slice [x.cells] (.own 4)) =
            some (.slice (l.map XF.cells ++ [x.cells]) (.own 1), .cells [.slice (l.map XF.cells) (.own 1)] :: .front (l.length + 1) 8 :: u) := by
          intro u
          have hb1 : (l.length + 1) * 104 ≤ 140737488355328 := by omega
          have hb2 : l.length + 1 ≤ 140737488355328 := by omega
          have hf : fsz l.length 8 = 8 ∨ l = [] ∧ fsz l.length 8 = 0 := by
            rcases fsz_or l.length 8 with h | h
            · exact .inl h
            · exact .inr ⟨List.length_eq_zero_iff.1 h.1, h.2⟩
          simp [aappend, arowsS, hb1, hb2]
          exact fun h => hf.resolve_left h
        simp -implicitDefEqProofs [HQ, b2, endR, htr, s1, s2, s3, hP]
  rw [hfst]
  simp only [pFuncs_eq]
  by_cases h0 : (tk L a).kind = 0
  · right
    refine ⟨_, by simp only [h0, if_true]; rfl, by simp, ?_⟩
    simp only [h0, if_true]
  · simp only [h0, if_false]
    cases q : pFunc L a 0 with
    | bad e p a1 d1 => exact .inr ⟨_, rfl, by simp, l, rfl⟩
    | ok x a1 d1 =>
      obtain ⟨g1, g2, g3⟩ := (g_func hK) _ _ _ _ _ q ha
      have g3 : d1 = 0 := g3
      subst g3
      exact .inl ⟨(l ++ [x], a1, m), by simp [fsz_succ], ⟨g2, by simp; omega, by simp; omega⟩, by simp, fun r hr => hr⟩

omit hL hK in
/-- The call that was put off, where nothing is wrong. -/
theorem mR75_none {e0 p0 : Nat} {l : List XF} {n sz a d : Nat} {L : List Token} : mR75 KK [.ptr 0 0, .ptr 2 0] none (hP e0 p0 l n sz L a d []) = some (hP e0 p0 l n sz L a d []) := by
  simp [mR75, mR75', hP, PB, trunc, hide1, unhide1]
omit hL hK in
theorem mR75_some {e0 p0 : Nat} {l : List XF} {a d e p : Nat} {L : List Token} :
    ∃ t : Tok, (t = .nil ∨ t = .own 1) ∧ mR75 KK [.ptr 0 0, .ptr 2 0] (some (wrongV e p)) (hP e0 p0 l l.length (fsz l.length 8) L a d []) = some (.cells [.slice [] t] :: .front l.length (fsz l.length 8) :: .cells [.int .i64 (e : Int), .int .i64 (p : Int)] :: PB L a d :: []) := by
  cases l with
  | nil =>
    refine ⟨.own 1, .inr rfl, ?_⟩
    simp [mR75, mR75', hP, PB, trunc, fsz, hide1, unhide1]
  | cons x l =>
    refine ⟨.nil, .inl rfl, ?_⟩
    have hk : ∀ h r rs id, keep1 h (.slice (r :: rs) (.own id)) (.slice [] .nil) = .slice [] .nil := fun _ _ _ _ => (rfl)
    simp [mR75, mR75', hP, PB, trunc, hk, hide1, unhide1]
end

theorem lexS_ok {s : List UInt8} (h : (lexS s).2.1 = 0) : ∃ l : List Token, lexS s = (l ++ [⟨0, s.length, 0, []⟩], 0, 0) ∧ (∀ x ∈ l, Fact s x) ∧ l.Pairwise (fun x y => x.pos < y.pos) := by
  unfold lexS at h ⊢
  split at h
  · cases h
  · rename_i hs
    rw [if_neg hs]
    rcases lexFrom_facts s 0 [] with ⟨p, hp⟩ | ⟨l, hl, h1, h2⟩
    · rw [hp] at h; cases h
    · exact ⟨l, by simpa using hl, fun x hx => (h1 x hx).2, h2⟩
theorem tokOk_of {l : List Token} {n : Nat} : TokOk (l ++ [⟨0, n, 0, []⟩]) := by
  intro i t hi hk
  by_cases h : i < l.length
  · simp; omega
  · rw [List.getElem?_append_right (by omega)] at hi
    obtain ⟨h1, h2⟩ := List.getElem?_eq_some_iff.1 hi
    simp at h1
    have : i - l.length = 0 := by omega
    rw [← h2] at hk
    simp [this] at hk

theorem c33 (s : List UInt8) (h : Heap) : KK 33 [.str s] h = some (.ret (.tuple [.agg [.slice ((parseS s).1.map XF.cells) .no], .agg [.int .i64 ((parseS s).2.1 : Int), .int .i64 ((parseS s).2.2 : Int)]]), h) := by
  refine callP_pure rfl rfl (evW_by (m33_eq _ _ _) ?_)
  have h20 := c20 s
  unfold parseS
  by_cases he : (lexS s).2.1 = 0
  · have he' : (((lexS s).2.1 : Nat) : Int) = 0 := by omega
    obtain ⟨l0, hl0, _, _⟩ := lexS_ok he
    have hlen := lexS_len s
    have hL : (lexS s).1.length ≤ 131072 := by omega
    have hK : TokOk (lexS s).1 := by rw [hl0]; exact tokOk_of
    have h0 : 0 < (lexS s).1.length := by rw [hl0]; simp
    rw [if_pos he]
    obtain ⟨r, h1, h2⟩ := d33_loop hL hK 0 (lexS s).2.2 131073 [] 0 h0 (by omega) (Nat.zero_le _)
    simp only [hP, List.map_nil, List.length_nil, fsz_zero, PB, Int.cast_ofNat_Int] at h1
    simp -implicitDefEqProofs [m33, h20, he, h1]
    cases q : pFuncs (lexS s).1 131073 [] 0 0 with
    | ok l a d =>
      rw [q] at h2
      subst h2
      have h3 := mR75_none (e0 := 0) (p0 := 0) (l := l) (n := l.length) (sz := fsz l.length 8) (a := a) (d := d) (L := (lexS s).1)
      simp only [hP, PB, Int.cast_ofNat_Int] at h3
      simp -implicitDefEqProofs [hP, PB, h3, finR_zero]
    | bad e p a d =>
      rw [q] at h2
      obtain ⟨l, rfl⟩ := h2
      obtain ⟨t, ht, h3⟩ := mR75_some (e0 := 0) (p0 := (lexS s).2.2) (l := l) (a := a) (d := d) (e := e) (p := p) (L := (lexS s).1)
      simp only [hP, PB, Int.cast_ofNat_Int, wrongV] at h3
      rcases ht with rfl | rfl <;> simp -implicitDefEqProofs [hP, PB, h3, finR_zero]
  · have he' : ¬ (((lexS s).2.1 : Nat) : Int) = 0 := by omega
    rw [if_neg he]
    simp -implicitDefEqProofs [m33, h20, he, he', finR_zero]
end Go.Proofs.YtkeoalhglkfbkaaDoor
