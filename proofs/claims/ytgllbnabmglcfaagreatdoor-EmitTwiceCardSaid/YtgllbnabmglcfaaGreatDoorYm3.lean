/-
  The texts YM.C2, YM.T3, YM.P5, one behind another. No conditions.
-/
import Derived.Test.YtgllbnabmglcfaaGreatDoorYm2
import Derived.Test.YtgllbnabmglcfaaGreatDoorIm3
set_option linter.unusedVariables false
set_option linter.unusedSimpArgs false
set_option linter.all false
open List renaming getElem?_eq_getElem → ac6, getElem?_map → af7, length → aa8, range → aq5
namespace Go.Proofs.YtgllbnabmglcfaaGreatDoor
noncomputable section
open Go Hk
def abW (p:IR):Option (List (List Int)×List (List Int)×Int):=some (zH p,zI p,oR p)
theorem aqG (p:IR) (h:lD):KK 71 [.agg [.int .i64 p.temps,.slice (Rw mV.cells p.arrays) .no,.slice (Rw mF.cells p.blocks) .no,.int .i64 p.inn,.int .i64 p.out]] h=tm (abW p) fun r=>(.ret (.tuple [.slice (Rw (uN (ci .i64)) r.1) .no,.slice (Rw (uN (ci .i64)) r.2.1) .no,.int .i64 r.2.2]),h):=c71 p h
end
noncomputable section
open Go Hk
def Wg (mm:Nat) (aA:R):Option (nB×lD) :=
 (fun aB aC aD=>Ex.nR aA.1 (nJ mm (.tuple [aB,aC]) aD)) (gd aA.2.1 0) (gd aA.2.1 1) aA.2.2
theorem aiW (n:Int) (h:lD):qI 2 16 [(.int .i64 0),(.int .i64 0)] (.int .i64 n) h=tm (tmk 16 ((⟨0,0⟩:Span):Span) n) fun l=>(.vslice h.length l.length 0 l.length 2,h++[Vc Span.cells 2 l]):=yM rfl
theorem akJ (y0:Int) (y1:Int) (h:lD) (id tot j:Nat) (xs:List Span):SK 2 id h (some (Vc Span.cells 2 xs)) tot (j*2) (.agg [(.int .i64 y0),(.int .i64 y1)])=tb (xR tot xs j) fun x=>tm (FN tot xs j (⟨y0,y1⟩:Span)) fun zs=>h.set id (Vc Span.cells 2 zs):=XR (enc:=Span.cells) (⟨y0,y1⟩:Span) (fun _=>rfl) (by decide) rfl rfl
def LR (K:lN) (m:Nat) (s:List lC×lD):Option R :=
 (fun aD aE aF aG aH aC aB aA aI=>bo .lss aA aB fun aK=>lS aK ((mD [(.int .i64 0),(.int .i64 0)] [(0,1),(1,1)] [(0,(.int .i64 (-1))),(1,(.int .i64 (-1)))]).bind fun aL=>ix 2 aC aA fun aM=>(lW 2 aI aM aL).bind fun aJ=>bo .add aA (.int .i64 1) fun aN=>lX m .normal [aD,aE,aF,aG,aH,aC,aB,aN] aJ) (lX m (.exit 0) [aD,aE,aF,aG,aH,aC,aB,aA] aI)) (gd s.1 0) (gd s.1 1) (gd s.1 2) (gd s.1 3) (gd s.1 4) (gd s.1 5) (gd s.1 6) (gd s.1 7) s.2
def B8 (l38:(List Span)) (w44:Int) (s45:Int×(List Span)):Option (Ey×Int×(List Span)) :=
 tc (decide (s45.1<w44)) (tb ((MH (aa8 l38) s45.1)) fun j58=>tb ((xR (aa8 l38) s45.2 j58)) fun u60=>tb ((FN (aa8 l38) s45.2 j58 (⟨(-1),(-1)⟩:Span))) fun l61=>some (.n,((IntKind.wrap .i64 (s45.1+1)),l61))) (some ((.x 0),(s45.1,s45.2)))
theorem Zl (w40:(List (List Int))) (w41:(List (List Int))) (l38:(List Span)) (w44:Int) (p0:IR) (s45:Int×(List Span)):LR KK 3 ([(.ptr 0 0),(.slice (Rw Span.cells []) (.own 1)),(.int .i64 0),(.slice (Rw (uN (ci .i64)) w40) .no),(.slice (Rw (uN (ci .i64)) w41) .no),(.vslice 2 (aa8 l38) 0 (aa8 l38) 2),(.int .i64 w44),(.int .i64 s45.1)],([.cells [(.int .i64 p0.temps),(.slice (Rw mV.cells p0.arrays) .no),(.slice (Rw mF.cells p0.blocks) .no),(.int .i64 p0.inn),(.int .i64 p0.out)],.front 0 0,Vc Span.cells 2 s45.2]:lD))=tm (B8 l38 w44 s45) fun r=>(r.1.ex,[(.ptr 0 0),(.slice (Rw Span.cells []) (.own 1)),(.int .i64 0),(.slice (Rw (uN (ci .i64)) w40) .no),(.slice (Rw (uN (ci .i64)) w41) .no),(.vslice 2 (aa8 l38) 0 (aa8 l38) 2),(.int .i64 w44),(.int .i64 r.2.1)],([.cells [(.int .i64 p0.temps),(.slice (Rw mV.cells p0.arrays) .no),(.slice (Rw mF.cells p0.blocks) .no),(.int .i64 p0.inn),(.int .i64 p0.out)],.front 0 0,Vc Span.cells 2 r.2.2]:lD)):=by
 simp +contextual -implicitDefEqProofs (maxSteps:=2000000) [-lM,-lF,-lE,-lG,-lK,-lI,-lH,LR,B8,akJ]
theorem abF (w40:(List (List Int))) (w41:(List (List Int))) (l38:(List Span)) (w44:Int) (p0:IR) (i6:Int) (i8:(List Span)):mX (LR KK 3) ([(.ptr 0 0),(.slice (Rw Span.cells []) (.own 1)),(.int .i64 0),(.slice (Rw (uN (ci .i64)) w40) .no),(.slice (Rw (uN (ci .i64)) w41) .no),(.vslice 2 (aa8 l38) 0 (aa8 l38) 2),(.int .i64 w44),(.int .i64 i6)],([.cells [(.int .i64 p0.temps),(.slice (Rw mV.cells p0.arrays) .no),(.slice (Rw mF.cells p0.blocks) .no),(.int .i64 p0.inn),(.int .i64 p0.out)],.front 0 0,Vc Span.cells 2 i8]:lD))=tm (tY (B8 l38 w44) (i6,i8)) fun r=>(r.1.ex,[(.ptr 0 0),(.slice (Rw Span.cells []) (.own 1)),(.int .i64 0),(.slice (Rw (uN (ci .i64)) w40) .no),(.slice (Rw (uN (ci .i64)) w41) .no),(.vslice 2 (aa8 l38) 0 (aa8 l38) 2),(.int .i64 w44),(.int .i64 r.2.1)],([.cells [(.int .i64 p0.temps),(.slice (Rw mV.cells p0.arrays) .no),(.slice (Rw mF.cells p0.blocks) .no),(.int .i64 p0.inn),(.int .i64 p0.out)],.front 0 0,Vc Span.cells 2 r.2.2]:lD)):=by
 exact uP (enc:=fun s45=>([(.ptr 0 0),(.slice (Rw Span.cells []) (.own 1)),(.int .i64 0),(.slice (Rw (uN (ci .i64)) w40) .no),(.slice (Rw (uN (ci .i64)) w41) .no),(.vslice 2 (aa8 l38) 0 (aa8 l38) 2),(.int .i64 w44),(.int .i64 s45.1)],([.cells [(.int .i64 p0.temps),(.slice (Rw mV.cells p0.arrays) .no),(.slice (Rw mF.cells p0.blocks) .no),(.int .i64 p0.inn),(.int .i64 p0.out)],.front 0 0,Vc Span.cells 2 s45.2]:lD))) (fun s45=>Zl w40 w41 l38 w44 p0 s45) (i6,i8)
theorem an5 (l38:(List Span)) (w96:Int) (u107:(List Int)) (p0:IR) (w99:(List Span)) (u101:mF):KK 72 [(.vslice 2 (aa8 l38) 0 (aa8 l38) 2),(.int .i64 w96),(.slice (Rw (ci .i64) u107) .no)] ([.cells [(.int .i64 p0.temps),(.slice (Rw mV.cells p0.arrays) .no),(.slice (Rw mF.cells p0.blocks) .no),(.int .i64 p0.inn),(.int .i64 p0.out)],.front 0 0,Vc Span.cells 2 w99,.cells [(.slice (Rw Op.cells u101.ops) .no),(.int .i64 u101.term.kind),(.int .i64 u101.term.a),(.int .i64 u101.term.yes),(.int .i64 u101.term.no)],.front 0 0]:lD)=tm (Ef (aa8 l38) w96 u107 w99) fun r=>(.ret (.tuple []),([.cells [(.int .i64 p0.temps),(.slice (Rw mV.cells p0.arrays) .no),(.slice (Rw mF.cells p0.blocks) .no),(.int .i64 p0.inn),(.int .i64 p0.out)],.front 0 0,Vc Span.cells 2 r,.cells [(.slice (Rw Op.cells u101.ops) .no),(.int .i64 u101.term.kind),(.int .i64 u101.term.a),(.int .i64 u101.term.yes),(.int .i64 u101.term.no)],.front 0 0]:lD)):=by
 refine xL (ids:=[2]) rfl rfl ?_ ?_ rfl ?_ (HJ ..) (Vd (aa8 l38) w96 u107 w99) fun r=>?_
 all_goals simp
theorem an6 (l38:(List Span)) (w145:Int) (H_:(List Int)) (p0:IR) (w146:(List Span)) (u101:mF) (u134:Op):KK 72 [(.vslice 2 (aa8 l38) 0 (aa8 l38) 2),(.int .i64 w145),(.slice (Rw (ci .i64) H_) .no)] ([.cells [(.int .i64 p0.temps),(.slice (Rw mV.cells p0.arrays) .no),(.slice (Rw mF.cells p0.blocks) .no),(.int .i64 p0.inn),(.int .i64 p0.out)],.front 0 0,Vc Span.cells 2 w146,.cells [(.slice (Rw Op.cells u101.ops) .no),(.int .i64 u101.term.kind),(.int .i64 u101.term.a),(.int .i64 u101.term.yes),(.int .i64 u101.term.no)],.front 0 0,.cells [(.int .i64 u134.kind),(.int .i64 u134.dst),(.int .i64 u134.a),(.int .i64 u134.b),(.int .i64 u134.c),(.int .i64 u134.imm)]]:lD)=tm (Ef (aa8 l38) w145 H_ w146) fun r=>(.ret (.tuple []),([.cells [(.int .i64 p0.temps),(.slice (Rw mV.cells p0.arrays) .no),(.slice (Rw mF.cells p0.blocks) .no),(.int .i64 p0.inn),(.int .i64 p0.out)],.front 0 0,Vc Span.cells 2 r,.cells [(.slice (Rw Op.cells u101.ops) .no),(.int .i64 u101.term.kind),(.int .i64 u101.term.a),(.int .i64 u101.term.yes),(.int .i64 u101.term.no)],.front 0 0,.cells [(.int .i64 u134.kind),(.int .i64 u134.dst),(.int .i64 u134.a),(.int .i64 u134.b),(.int .i64 u134.c),(.int .i64 u134.imm)]]:lD)):=by
 refine xL (ids:=[2]) rfl rfl ?_ ?_ rfl ?_ (HJ ..) (Vd (aa8 l38) w145 H_ w146) fun r=>?_
 all_goals simp
theorem afL (y0:Int) (h:lD):lR 1 1 [(.int .i64 0)] [(0,(.int .i64 y0))] h=some (.slice (Rw (ci .i64) [y0]) (.own h.length),h++[oK 1 1]):=by
 rfl
theorem an7 (l38:(List Span)) (w152:Int) (w161:(List Int)) (p0:IR) (AS:(List Span)) (u101:mF) (u134:Op):KK 72 [(.vslice 2 (aa8 l38) 0 (aa8 l38) 2),(.int .i64 w152),(.slice (Rw (ci .i64) w161) .no)] ([.cells [(.int .i64 p0.temps),(.slice (Rw mV.cells p0.arrays) .no),(.slice (Rw mF.cells p0.blocks) .no),(.int .i64 p0.inn),(.int .i64 p0.out)],.front 0 0,Vc Span.cells 2 AS,.cells [(.slice (Rw Op.cells u101.ops) .no),(.int .i64 u101.term.kind),(.int .i64 u101.term.a),(.int .i64 u101.term.yes),(.int .i64 u101.term.no)],.front 0 0,.cells [(.int .i64 u134.kind),(.int .i64 u134.dst),(.int .i64 u134.a),(.int .i64 u134.b),(.int .i64 u134.c),(.int .i64 u134.imm)],oK 1 1]:lD)=tm (Ef (aa8 l38) w152 w161 AS) fun r=>(.ret (.tuple []),([.cells [(.int .i64 p0.temps),(.slice (Rw mV.cells p0.arrays) .no),(.slice (Rw mF.cells p0.blocks) .no),(.int .i64 p0.inn),(.int .i64 p0.out)],.front 0 0,Vc Span.cells 2 r,.cells [(.slice (Rw Op.cells u101.ops) .no),(.int .i64 u101.term.kind),(.int .i64 u101.term.a),(.int .i64 u101.term.yes),(.int .i64 u101.term.no)],.front 0 0,.cells [(.int .i64 u134.kind),(.int .i64 u134.dst),(.int .i64 u134.a),(.int .i64 u134.b),(.int .i64 u134.c),(.int .i64 u134.imm)],oK 1 1]:lD)):=by
 refine xL (ids:=[2]) rfl rfl ?_ ?_ rfl ?_ (HJ ..) (Vd (aa8 l38) w152 w161 AS) fun r=>?_
 all_goals simp
def Qj (K:lN) (m:Nat) (aR:lC) (t136:lC) (aO:lD) (aA:lC) (aB:lC) (aK:lC) (aL:lC) (aM:lC) (aN:lC) (aC:lC) (aD:lC) (aE:lC) (aF:lC) (aG:lC) (aH:lC) (aI:lC) (aJ:lC):Option R :=
 lS aR (fa 1 t136 fun aS=>ld false 1 aO aS fun aT=>lQ (lR 1 1 [(.int .i64 0)] [(0,aT)] aO) fun aU aP=>ca (K 72 [(lC.lL aA),(lC.lL aB),(lC.lL aU)] aP) fun aV aQ=>lX m .normal [aK,aL,aM,aN,aA,aB,aC,aD,aE,aF,aG,aH,aI,aJ] aQ) (lX m .normal [aK,aL,aM,aN,aA,aB,aC,aD,aE,aF,aG,aH,aI,aJ] aO)
def AE (r151:Bool) (AS:(List Span)) (u134:Op) (l38:(List Span)) (w152:Int):Option ((List Span)) :=
 tc r151 (tb ((Ef (aa8 l38) w152 [u134.dst] AS)) fun r162=>some r162) (some AS)
theorem abE (r151:Bool) (p0:IR) (AS:(List Span)) (u101:mF) (u134:Op) (l38:(List Span)) (w152:Int) (w78:(List (List Int))) (w79:(List (List Int))) (w97:Int) (w82:Int) (w115:Int) (w153:Int):(Qj KK 6 (.bool r151) (.ptr 5 0) ([.cells [(.int .i64 p0.temps),(.slice (Rw mV.cells p0.arrays) .no),(.slice (Rw mF.cells p0.blocks) .no),(.int .i64 p0.inn),(.int .i64 p0.out)],.front 0 0,Vc Span.cells 2 AS,.cells [(.slice (Rw Op.cells u101.ops) .no),(.int .i64 u101.term.kind),(.int .i64 u101.term.a),(.int .i64 u101.term.yes),(.int .i64 u101.term.no)],.front 0 0,.cells [(.int .i64 u134.kind),(.int .i64 u134.dst),(.int .i64 u134.a),(.int .i64 u134.b),(.int .i64 u134.c),(.int .i64 u134.imm)]]:lD) (.vslice 2 (aa8 l38) 0 (aa8 l38) 2) (.int .i64 w152) (.slice (Rw Span.cells []) (.own 1)) (.int .i64 0) (.slice (Rw (uN (ci .i64)) w78) .no) (.slice (Rw (uN (ci .i64)) w79) .no) (.int .i64 w97) (.ptr 3 0) (.slice (Rw mF.cells p0.blocks) .no) (.int .i64 w82) (.int .i64 w97) (.slice (Rw Op.cells u101.ops) .no) (.int .i64 w115) (.int .i64 w153))=tm (AE r151 AS u134 l38 w152) fun r=>(.normal,[(.slice (Rw Span.cells []) (.own 1)),(.int .i64 0),(.slice (Rw (uN (ci .i64)) w78) .no),(.slice (Rw (uN (ci .i64)) w79) .no),(.vslice 2 (aa8 l38) 0 (aa8 l38) 2),(.int .i64 w152),(.int .i64 w97),(.ptr 3 0),(.slice (Rw mF.cells p0.blocks) .no),(.int .i64 w82),(.int .i64 w97),(.slice (Rw Op.cells u101.ops) .no),(.int .i64 w115),(.int .i64 w153)],([.cells [(.int .i64 p0.temps),(.slice (Rw mV.cells p0.arrays) .no),(.slice (Rw mF.cells p0.blocks) .no),(.int .i64 p0.inn),(.int .i64 p0.out)],.front 0 0,Vc Span.cells 2 r,.cells [(.slice (Rw Op.cells u101.ops) .no),(.int .i64 u101.term.kind),(.int .i64 u101.term.a),(.int .i64 u101.term.yes),(.int .i64 u101.term.no)],.front 0 0,.cells [(.int .i64 u134.kind),(.int .i64 u134.dst),(.int .i64 u134.a),(.int .i64 u134.b),(.int .i64 u134.c),(.int .i64 u134.imm)]]:lD)):=by
 simp +contextual -implicitDefEqProofs (maxSteps:=2000000) [-lM,-lF,-lE,-lG,-lK,-lI,-lH,Qj,AE,afL,an7]
def LU (K:lN) (m:Nat) (s:List lC×lD):Option R :=
 (fun aL aM aN aO aE aF aG aH aI aJ aK aC aD aB aX=>bo .lss aB aD fun t132=>lS t132 (ix 6 aC aB fun t133=>ld true 6 aX t133 fun t135=>lQ (nA 6 aX (.agg [(.int .i64 0),(.int .i64 0),(.int .i64 0),(.int .i64 0),(.int .i64 0),(.int .i64 0)])) fun t136 bH=>(lW 6 bH t136 t135).bind fun bE=>ld true 6 bE t136 fun t139=>ca (K 36 [(lC.lL t139)] bE) fun t140 bI=>ca (K 72 [(lC.lL aE),(lC.lL aF),(lC.lL t140)] bI) fun t143 bF=>ld true 6 bF t136 fun t148=>ca (K 73 [(lC.lL t148)] bF) fun bK bG=>(Qj K (aa8 bG) bK t136 bG aE aF aL aM aN aO aG aH aI aJ aK aC aD aB).bind fun aA=>(fun aY aZ a_ bB bC bD aP aQ aR aS aT aU aV aW bJ=>Ex.qZ aA.1 (bo .add bD (.int .i64 1) fun bL=>bo .add aW (.int .i64 1) fun bM=>lX m .normal [aY,aZ,a_,bB,bC,bL,aP,aQ,aR,aS,aT,aU,aV,bM] bJ)) (gd aA.2.1 0) (gd aA.2.1 1) (gd aA.2.1 2) (gd aA.2.1 3) (gd aA.2.1 4) (gd aA.2.1 5) (gd aA.2.1 6) (gd aA.2.1 7) (gd aA.2.1 8) (gd aA.2.1 9) (gd aA.2.1 10) (gd aA.2.1 11) (gd aA.2.1 12) (gd aA.2.1 13) aA.2.2) (lX m (.exit 4) [aL,aM,aN,aO,aE,aF,aG,aH,aI,aJ,aK,aC,aD,aB] aX)) (gd s.1 0) (gd s.1 1) (gd s.1 2) (gd s.1 3) (gd s.1 4) (gd s.1 5) (gd s.1 6) (gd s.1 7) (gd s.1 8) (gd s.1 9) (gd s.1 10) (gd s.1 11) (gd s.1 12) (gd s.1 13) s.2
def AF (l38:(List Span)) (u101:mF) (w115:Int) (s116:Int×Int×(List Span)):Option (Ey×Int×Int×(List Span)) :=
 tc (decide (s116.2.1<w115)) (tb ((oV u101.ops s116.2.1)) fun u134=>tb ((Jq u134)) fun H_=>tb ((Ef (aa8 l38) s116.1 H_ s116.2.2)) fun AS=>tb ((IF u134)) fun r151=>tb (AE r151 AS u134 l38 s116.1) fun r163=>some (.n,((IntKind.wrap .i64 (s116.1+1)),(IntKind.wrap .i64 (s116.2.1+1)),r163))) (some ((.x 4),(s116.1,s116.2.1,s116.2.2)))
theorem Zm (w78:(List (List Int))) (w79:(List (List Int))) (l38:(List Span)) (w97:Int) (p0:IR) (w82:Int) (u101:mF) (w115:Int) (s116:Int×Int×(List Span)):LU KK 5 ([(.slice (Rw Span.cells []) (.own 1)),(.int .i64 0),(.slice (Rw (uN (ci .i64)) w78) .no),(.slice (Rw (uN (ci .i64)) w79) .no),(.vslice 2 (aa8 l38) 0 (aa8 l38) 2),(.int .i64 s116.1),(.int .i64 w97),(.ptr 3 0),(.slice (Rw mF.cells p0.blocks) .no),(.int .i64 w82),(.int .i64 w97),(.slice (Rw Op.cells u101.ops) .no),(.int .i64 w115),(.int .i64 s116.2.1)],([.cells [(.int .i64 p0.temps),(.slice (Rw mV.cells p0.arrays) .no),(.slice (Rw mF.cells p0.blocks) .no),(.int .i64 p0.inn),(.int .i64 p0.out)],.front 0 0,Vc Span.cells 2 s116.2.2,.cells [(.slice (Rw Op.cells u101.ops) .no),(.int .i64 u101.term.kind),(.int .i64 u101.term.a),(.int .i64 u101.term.yes),(.int .i64 u101.term.no)],.front 0 0]:lD))=tm (AF l38 u101 w115 s116) fun r=>(r.1.ex,[(.slice (Rw Span.cells []) (.own 1)),(.int .i64 0),(.slice (Rw (uN (ci .i64)) w78) .no),(.slice (Rw (uN (ci .i64)) w79) .no),(.vslice 2 (aa8 l38) 0 (aa8 l38) 2),(.int .i64 r.2.1),(.int .i64 w97),(.ptr 3 0),(.slice (Rw mF.cells p0.blocks) .no),(.int .i64 w82),(.int .i64 w97),(.slice (Rw Op.cells u101.ops) .no),(.int .i64 w115),(.int .i64 r.2.2.1)],([.cells [(.int .i64 p0.temps),(.slice (Rw mV.cells p0.arrays) .no),(.slice (Rw mF.cells p0.blocks) .no),(.int .i64 p0.inn),(.int .i64 p0.out)],.front 0 0,Vc Span.cells 2 r.2.2.2,.cells [(.slice (Rw Op.cells u101.ops) .no),(.int .i64 u101.term.kind),(.int .i64 u101.term.a),(.int .i64 u101.term.yes),(.int .i64 u101.term.no)],.front 0 0]:lD)):=by
 simp +contextual -implicitDefEqProofs (maxSteps:=2000000) [-lM,-lF,-lE,-lG,-lK,-lI,-lH,LU,AF,aqE,an6,aj6,abE]
theorem abG (w78:(List (List Int))) (w79:(List (List Int))) (l38:(List Span)) (w97:Int) (p0:IR) (w82:Int) (u101:mF) (w115:Int) (i5:Int) (i12:Int) (i14:(List Span)):mX (LU KK 5) ([(.slice (Rw Span.cells []) (.own 1)),(.int .i64 0),(.slice (Rw (uN (ci .i64)) w78) .no),(.slice (Rw (uN (ci .i64)) w79) .no),(.vslice 2 (aa8 l38) 0 (aa8 l38) 2),(.int .i64 i5),(.int .i64 w97),(.ptr 3 0),(.slice (Rw mF.cells p0.blocks) .no),(.int .i64 w82),(.int .i64 w97),(.slice (Rw Op.cells u101.ops) .no),(.int .i64 w115),(.int .i64 i12)],([.cells [(.int .i64 p0.temps),(.slice (Rw mV.cells p0.arrays) .no),(.slice (Rw mF.cells p0.blocks) .no),(.int .i64 p0.inn),(.int .i64 p0.out)],.front 0 0,Vc Span.cells 2 i14,.cells [(.slice (Rw Op.cells u101.ops) .no),(.int .i64 u101.term.kind),(.int .i64 u101.term.a),(.int .i64 u101.term.yes),(.int .i64 u101.term.no)],.front 0 0]:lD))=tm (tY (AF l38 u101 w115) (i5,i12,i14)) fun r=>(r.1.ex,[(.slice (Rw Span.cells []) (.own 1)),(.int .i64 0),(.slice (Rw (uN (ci .i64)) w78) .no),(.slice (Rw (uN (ci .i64)) w79) .no),(.vslice 2 (aa8 l38) 0 (aa8 l38) 2),(.int .i64 r.2.1),(.int .i64 w97),(.ptr 3 0),(.slice (Rw mF.cells p0.blocks) .no),(.int .i64 w82),(.int .i64 w97),(.slice (Rw Op.cells u101.ops) .no),(.int .i64 w115),(.int .i64 r.2.2.1)],([.cells [(.int .i64 p0.temps),(.slice (Rw mV.cells p0.arrays) .no),(.slice (Rw mF.cells p0.blocks) .no),(.int .i64 p0.inn),(.int .i64 p0.out)],.front 0 0,Vc Span.cells 2 r.2.2.2,.cells [(.slice (Rw Op.cells u101.ops) .no),(.int .i64 u101.term.kind),(.int .i64 u101.term.a),(.int .i64 u101.term.yes),(.int .i64 u101.term.no)],.front 0 0]:lD)):=by
 exact uP (enc:=fun s116=>([(.slice (Rw Span.cells []) (.own 1)),(.int .i64 0),(.slice (Rw (uN (ci .i64)) w78) .no),(.slice (Rw (uN (ci .i64)) w79) .no),(.vslice 2 (aa8 l38) 0 (aa8 l38) 2),(.int .i64 s116.1),(.int .i64 w97),(.ptr 3 0),(.slice (Rw mF.cells p0.blocks) .no),(.int .i64 w82),(.int .i64 w97),(.slice (Rw Op.cells u101.ops) .no),(.int .i64 w115),(.int .i64 s116.2.1)],([.cells [(.int .i64 p0.temps),(.slice (Rw mV.cells p0.arrays) .no),(.slice (Rw mF.cells p0.blocks) .no),(.int .i64 p0.inn),(.int .i64 p0.out)],.front 0 0,Vc Span.cells 2 s116.2.2,.cells [(.slice (Rw Op.cells u101.ops) .no),(.int .i64 u101.term.kind),(.int .i64 u101.term.a),(.int .i64 u101.term.yes),(.int .i64 u101.term.no)],.front 0 0]:lD))) (fun s116=>Zm w78 w79 l38 w97 p0 w82 u101 w115 s116) (i5,i12,i14)
theorem Zi (y0:Int) (h:lD):lR 1 1 [(.int .i64 0)] [(0,(.int .i64 y0))] h=some (.slice (Rw (ci .i64) [y0]) (.own h.length),h++[oK 1 1]):=by
 rfl
theorem afO (l38:(List Span)) (w203:Int) (w215:(List Int)) (p0:IR) (w207:(List Span)) (u101:mF):KK 72 [(.vslice 2 (aa8 l38) 0 (aa8 l38) 2),(.int .i64 w203),(.slice (Rw (ci .i64) w215) .no)] ([.cells [(.int .i64 p0.temps),(.slice (Rw mV.cells p0.arrays) .no),(.slice (Rw mF.cells p0.blocks) .no),(.int .i64 p0.inn),(.int .i64 p0.out)],.front 0 0,Vc Span.cells 2 w207,.cells [(.slice (Rw Op.cells u101.ops) .no),(.int .i64 u101.term.kind),(.int .i64 u101.term.a),(.int .i64 u101.term.yes),(.int .i64 u101.term.no)],.front 0 0,oK 1 1]:lD)=tm (Ef (aa8 l38) w203 w215 w207) fun r=>(.ret (.tuple []),([.cells [(.int .i64 p0.temps),(.slice (Rw mV.cells p0.arrays) .no),(.slice (Rw mF.cells p0.blocks) .no),(.int .i64 p0.inn),(.int .i64 p0.out)],.front 0 0,Vc Span.cells 2 r,.cells [(.slice (Rw Op.cells u101.ops) .no),(.int .i64 u101.term.kind),(.int .i64 u101.term.a),(.int .i64 u101.term.yes),(.int .i64 u101.term.no)],.front 0 0,oK 1 1]:lD)):=by
 refine xL (ids:=[2]) rfl rfl ?_ ?_ rfl ?_ (HJ ..) (Vd (aa8 l38) w203 w215 w207) fun r=>?_
 all_goals simp
def LQ (K:lN) (m:Nat) (aO:lC) (aK:lC) (aL:lD) (aA:lC) (aB:lC) (aG:lC) (aH:lC) (aI:lC) (aJ:lC) (aC:lC) (aD:lC) (aE:lC) (aF:lC):Option R :=
 lS aO (fa 1 aK fun aP=>fa 1 aP fun aQ=>ld false 1 aL aQ fun aR=>lQ (lR 1 1 [(.int .i64 0)] [(0,aR)] aL) fun aS aM=>ca (K 72 [(lC.lL aA),(lC.lL aB),(lC.lL aS)] aM) fun aT aN=>lX m .normal [aG,aH,aI,aJ,aA,aB,aC,aD,aE,aF] aN) (lX m .normal [aG,aH,aI,aJ,aA,aB,aC,aD,aE,aF] aL)
def zY (w206:Bool) (w207:(List Span)) (u101:mF) (l38:(List Span)) (w203:Int):Option ((List Span)) :=
 tc w206 (tb ((Ef (aa8 l38) w203 [u101.term.a] w207)) fun r216=>some r216) (some w207)
theorem Xj (w206:Bool) (p0:IR) (w207:(List Span)) (u101:mF) (l38:(List Span)) (w203:Int) (w78:(List (List Int))) (w79:(List (List Int))) (w97:Int) (w82:Int):(LQ KK 5 (.bool w206) (.ptr 3 0) ([.cells [(.int .i64 p0.temps),(.slice (Rw mV.cells p0.arrays) .no),(.slice (Rw mF.cells p0.blocks) .no),(.int .i64 p0.inn),(.int .i64 p0.out)],.front 0 0,Vc Span.cells 2 w207,.cells [(.slice (Rw Op.cells u101.ops) .no),(.int .i64 u101.term.kind),(.int .i64 u101.term.a),(.int .i64 u101.term.yes),(.int .i64 u101.term.no)],.front 0 0]:lD) (.vslice 2 (aa8 l38) 0 (aa8 l38) 2) (.int .i64 w203) (.slice (Rw Span.cells []) (.own 1)) (.int .i64 0) (.slice (Rw (uN (ci .i64)) w78) .no) (.slice (Rw (uN (ci .i64)) w79) .no) (.int .i64 w97) (.slice (Rw mF.cells p0.blocks) .no) (.int .i64 w82) (.int .i64 w97))=tm (zY w206 w207 u101 l38 w203) fun r=>(.normal,[(.slice (Rw Span.cells []) (.own 1)),(.int .i64 0),(.slice (Rw (uN (ci .i64)) w78) .no),(.slice (Rw (uN (ci .i64)) w79) .no),(.vslice 2 (aa8 l38) 0 (aa8 l38) 2),(.int .i64 w203),(.int .i64 w97),(.slice (Rw mF.cells p0.blocks) .no),(.int .i64 w82),(.int .i64 w97)],([.cells [(.int .i64 p0.temps),(.slice (Rw mV.cells p0.arrays) .no),(.slice (Rw mF.cells p0.blocks) .no),(.int .i64 p0.inn),(.int .i64 p0.out)],.front 0 0,Vc Span.cells 2 r,.cells [(.slice (Rw Op.cells u101.ops) .no),(.int .i64 u101.term.kind),(.int .i64 u101.term.a),(.int .i64 u101.term.yes),(.int .i64 u101.term.no)],.front 0 0]:lD)):=by
 simp +contextual -implicitDefEqProofs (maxSteps:=2000000) [-lM,-lF,-lE,-lG,-lK,-lI,-lH,LQ,zY,Zi,afO]
theorem afP (l38:(List Span)) (w234:Int) (u230:(List Int)) (p0:IR) (r217:(List Span)) (u101:mF):KK 72 [(.vslice 2 (aa8 l38) 0 (aa8 l38) 2),(.int .i64 w234),(.slice (Rw (ci .i64) u230) .no)] ([.cells [(.int .i64 p0.temps),(.slice (Rw mV.cells p0.arrays) .no),(.slice (Rw mF.cells p0.blocks) .no),(.int .i64 p0.inn),(.int .i64 p0.out)],.front 0 0,Vc Span.cells 2 r217,.cells [(.slice (Rw Op.cells u101.ops) .no),(.int .i64 u101.term.kind),(.int .i64 u101.term.a),(.int .i64 u101.term.yes),(.int .i64 u101.term.no)],.front 0 0]:lD)=tm (Ef (aa8 l38) w234 u230 r217) fun r=>(.ret (.tuple []),([.cells [(.int .i64 p0.temps),(.slice (Rw mV.cells p0.arrays) .no),(.slice (Rw mF.cells p0.blocks) .no),(.int .i64 p0.inn),(.int .i64 p0.out)],.front 0 0,Vc Span.cells 2 r,.cells [(.slice (Rw Op.cells u101.ops) .no),(.int .i64 u101.term.kind),(.int .i64 u101.term.a),(.int .i64 u101.term.yes),(.int .i64 u101.term.no)],.front 0 0]:lD)):=by
 refine xL (ids:=[2]) rfl rfl ?_ ?_ rfl ?_ (HJ ..) (Vd (aa8 l38) w234 u230 r217) fun r=>?_
 all_goals simp
def Qi (K:lN) (m:Nat) (aI:lC) (aC:lC) (cF:lD) (aX:lC) (aY:lC) (aZ:lC) (bJ:lC) (bK:lC) (bL:lC) (bD:lC):Option R :=
 ix 5 aI aC fun bT=>ld true 5 cF bT fun bU=>lQ (nA 5 cF (.agg [(.slice (Rw Op.cells []) .nil),(.int .i64 0),(.int .i64 0),(.int .i64 0),(.int .i64 0)])) fun bB bR=>(lW 5 bR bB bU).bind fun bG=>ix 1 aX aC fun bV=>ld false 1 bG bV fun bW=>ca (K 72 [(lC.lL aY),(lC.lL aZ),(lC.lL bW)] bG) fun cG a_=>fa 0 bB fun bX=>ld false 1 a_ bX fun bI=>ln bI fun bY=>(mX (LU K (aa8 a_)) ([bJ,bK,aX,bL,aY,aZ,aC,bB,aI,bD,aC,bI,bY,(.int .i64 0)],a_)).bind fun aA=>(fun aH aJ aK aL aN aP aS aD aE aF aG bM bN bO aR=>Ex.mO aA.1 none (fun bP=>Ex.inBlock 4 bP (fa 1 aD fun bZ=>fa 0 bZ fun b_=>ld false 1 aR b_ fun cA=>bo .eql cA (.int .i64 2) fun cB=>(LQ K (aa8 aR) cB aD aR aN aP aH aJ aK aL aS aE aF aG).bind fun aB=>(fun bC bE bF aM aO aQ aT aU aV aW bH=>Ex.qZ aB.1 (ix 1 aM aT fun cC=>ld false 1 bH cC fun cD=>ca (K 72 [(lC.lL aO),(lC.lL aQ),(lC.lL cD)] bH) fun cH bS=>bo .add aQ (.int .i64 1) fun cE=>lX m .normal [bC,bE,bF,aM,aO,cE,aU,aV,aW] bS)) (gd aB.2.1 0) (gd aB.2.1 1) (gd aB.2.1 2) (gd aB.2.1 3) (gd aB.2.1 4) (gd aB.2.1 5) (gd aB.2.1 6) (gd aB.2.1 7) (gd aB.2.1 8) (gd aB.2.1 9) aB.2.2) (fun bQ=>lX m bQ [aH,aJ,aK,aL,aN,aP,aE,aF,aG] aR))) (gd aA.2.1 0) (gd aA.2.1 1) (gd aA.2.1 2) (gd aA.2.1 3) (gd aA.2.1 4) (gd aA.2.1 5) (gd aA.2.1 6) (gd aA.2.1 7) (gd aA.2.1 8) (gd aA.2.1 9) (gd aA.2.1 10) (gd aA.2.1 11) (gd aA.2.1 12) (gd aA.2.1 13) aA.2.2
def Ee (p0:IR) (w97:Int) (w99:(List Span)) (w78:(List (List Int))) (l38:(List Span)) (w96:Int) (w79:(List (List Int))):Option (Ey×Int×(List Span)) :=
 tb ((oV p0.blocks w97)) fun u101=>tb ((oV w78 w97)) fun u107=>tb ((Ef (aa8 l38) w96 u107 w99)) fun r111=>tb (tY (AF l38 u101 ((aa8 u101.ops:Nat):Int)) (w96,0,r111)) fun r181=>xD r181.1 none fun e182=>xF 4 e182 (tb (zY (decide (u101.term.kind=2)) r181.2.2.2 u101 l38 r181.2.1) fun r217=>tb ((oV w79 w97)) fun u230=>tb ((Ef (aa8 l38) r181.2.1 u230 r217)) fun r235=>some (.n,((IntKind.wrap .i64 (r181.2.1+1)),r235))) fun e198=>some (e198,(r181.2.1,r181.2.2.2))
theorem abD (p0:IR) (w97:Int) (w99:(List Span)) (w78:(List (List Int))) (l38:(List Span)) (w96:Int) (w79:(List (List Int))) (w82:Int):(Qi KK 3 (.slice (Rw mF.cells p0.blocks) .no) (.int .i64 w97) ([.cells [(.int .i64 p0.temps),(.slice (Rw mV.cells p0.arrays) .no),(.slice (Rw mF.cells p0.blocks) .no),(.int .i64 p0.inn),(.int .i64 p0.out)],.front 0 0,Vc Span.cells 2 w99]:lD) (.slice (Rw (uN (ci .i64)) w78) .no) (.vslice 2 (aa8 l38) 0 (aa8 l38) 2) (.int .i64 w96) (.slice (Rw Span.cells []) (.own 1)) (.int .i64 0) (.slice (Rw (uN (ci .i64)) w79) .no) (.int .i64 w82))=tm (Ee p0 w97 w99 w78 l38 w96 w79) fun r=>(r.1.ex,[(.slice (Rw Span.cells []) (.own 1)),(.int .i64 0),(.slice (Rw (uN (ci .i64)) w78) .no),(.slice (Rw (uN (ci .i64)) w79) .no),(.vslice 2 (aa8 l38) 0 (aa8 l38) 2),(.int .i64 r.2.1),(.slice (Rw mF.cells p0.blocks) .no),(.int .i64 w82),(.int .i64 w97)],([.cells [(.int .i64 p0.temps),(.slice (Rw mV.cells p0.arrays) .no),(.slice (Rw mF.cells p0.blocks) .no),(.int .i64 p0.inn),(.int .i64 p0.out)],.front 0 0,Vc Span.cells 2 r.2.2]:lD)):=by
 simp +contextual -implicitDefEqProofs (maxSteps:=2000000) [-lM,-lF,-lE,-lG,-lK,-lI,-lH,Qi,Ee,an5,abG,Xj,afP]
def Gk (K:lN) (m:Nat) (s:List lC×lD):Option R :=
 (fun aN aO aP aQ aR aS aH aB aC aV=>bo .lss aC aB fun aX=>lS aX ((Qi K (aa8 aV) aH aC aV aP aR aS aN aO aQ aB).bind fun aA=>(fun aG aI aJ aK aL aM aD aE aF aT=>Ex.inBlock 3 aA.1 (bo .add aF (.int .i64 1) fun aW=>lX m .normal [aG,aI,aJ,aK,aL,aM,aD,aE,aW] aT) (fun aU=>lX m aU [aG,aI,aJ,aK,aL,aM,aD,aE,aF] aT)) (gd aA.2.1 0) (gd aA.2.1 1) (gd aA.2.1 2) (gd aA.2.1 3) (gd aA.2.1 4) (gd aA.2.1 5) (gd aA.2.1 6) (gd aA.2.1 7) (gd aA.2.1 8) aA.2.2) (lX m (.exit 2) [aN,aO,aP,aQ,aR,aS,aH,aB,aC] aV)) (gd s.1 0) (gd s.1 1) (gd s.1 2) (gd s.1 3) (gd s.1 4) (gd s.1 5) (gd s.1 6) (gd s.1 7) (gd s.1 8) s.2
def zZ (w78:(List (List Int))) (w79:(List (List Int))) (l38:(List Span)) (p0:IR) (w82:Int) (s84:Int×Int×(List Span)):Option (Ey×Int×Int×(List Span)) :=
 tc (decide (s84.2.1<w82)) (tb (Ee p0 s84.2.1 s84.2.2 w78 l38 s84.1 w79) fun r237=>xF 3 r237.1 (some (.n,(r237.2.1,(IntKind.wrap .i64 (s84.2.1+1)),r237.2.2))) fun e248=>some (e248,(r237.2.1,s84.2.1,r237.2.2))) (some ((.x 2),(s84.1,s84.2.1,s84.2.2)))
theorem U_ (w78:(List (List Int))) (w79:(List (List Int))) (l38:(List Span)) (p0:IR) (w82:Int) (s84:Int×Int×(List Span)):Gk KK 3 ([(.slice (Rw Span.cells []) (.own 1)),(.int .i64 0),(.slice (Rw (uN (ci .i64)) w78) .no),(.slice (Rw (uN (ci .i64)) w79) .no),(.vslice 2 (aa8 l38) 0 (aa8 l38) 2),(.int .i64 s84.1),(.slice (Rw mF.cells p0.blocks) .no),(.int .i64 w82),(.int .i64 s84.2.1)],([.cells [(.int .i64 p0.temps),(.slice (Rw mV.cells p0.arrays) .no),(.slice (Rw mF.cells p0.blocks) .no),(.int .i64 p0.inn),(.int .i64 p0.out)],.front 0 0,Vc Span.cells 2 s84.2.2]:lD))=tm (zZ w78 w79 l38 p0 w82 s84) fun r=>(r.1.ex,[(.slice (Rw Span.cells []) (.own 1)),(.int .i64 0),(.slice (Rw (uN (ci .i64)) w78) .no),(.slice (Rw (uN (ci .i64)) w79) .no),(.vslice 2 (aa8 l38) 0 (aa8 l38) 2),(.int .i64 r.2.1),(.slice (Rw mF.cells p0.blocks) .no),(.int .i64 w82),(.int .i64 r.2.2.1)],([.cells [(.int .i64 p0.temps),(.slice (Rw mV.cells p0.arrays) .no),(.slice (Rw mF.cells p0.blocks) .no),(.int .i64 p0.inn),(.int .i64 p0.out)],.front 0 0,Vc Span.cells 2 r.2.2.2]:lD)):=by
 simp +contextual -implicitDefEqProofs (maxSteps:=2000000) [-lM,-lF,-lE,-lG,-lK,-lI,-lH,Gk,zZ,abD]
theorem Xk (w78:(List (List Int))) (w79:(List (List Int))) (l38:(List Span)) (p0:IR) (w82:Int) (i5:Int) (i8:Int) (i10:(List Span)):mX (Gk KK 3) ([(.slice (Rw Span.cells []) (.own 1)),(.int .i64 0),(.slice (Rw (uN (ci .i64)) w78) .no),(.slice (Rw (uN (ci .i64)) w79) .no),(.vslice 2 (aa8 l38) 0 (aa8 l38) 2),(.int .i64 i5),(.slice (Rw mF.cells p0.blocks) .no),(.int .i64 w82),(.int .i64 i8)],([.cells [(.int .i64 p0.temps),(.slice (Rw mV.cells p0.arrays) .no),(.slice (Rw mF.cells p0.blocks) .no),(.int .i64 p0.inn),(.int .i64 p0.out)],.front 0 0,Vc Span.cells 2 i10]:lD))=tm (tY (zZ w78 w79 l38 p0 w82) (i5,i8,i10)) fun r=>(r.1.ex,[(.slice (Rw Span.cells []) (.own 1)),(.int .i64 0),(.slice (Rw (uN (ci .i64)) w78) .no),(.slice (Rw (uN (ci .i64)) w79) .no),(.vslice 2 (aa8 l38) 0 (aa8 l38) 2),(.int .i64 r.2.1),(.slice (Rw mF.cells p0.blocks) .no),(.int .i64 w82),(.int .i64 r.2.2.1)],([.cells [(.int .i64 p0.temps),(.slice (Rw mV.cells p0.arrays) .no),(.slice (Rw mF.cells p0.blocks) .no),(.int .i64 p0.inn),(.int .i64 p0.out)],.front 0 0,Vc Span.cells 2 r.2.2.2]:lD)):=by
 exact uP (enc:=fun s84=>([(.slice (Rw Span.cells []) (.own 1)),(.int .i64 0),(.slice (Rw (uN (ci .i64)) w78) .no),(.slice (Rw (uN (ci .i64)) w79) .no),(.vslice 2 (aa8 l38) 0 (aa8 l38) 2),(.int .i64 s84.1),(.slice (Rw mF.cells p0.blocks) .no),(.int .i64 w82),(.int .i64 s84.2.1)],([.cells [(.int .i64 p0.temps),(.slice (Rw mV.cells p0.arrays) .no),(.slice (Rw mF.cells p0.blocks) .no),(.int .i64 p0.inn),(.int .i64 p0.out)],.front 0 0,Vc Span.cells 2 s84.2.2]:lD))) (fun s84=>U_ w78 w79 l38 p0 w82 s84) (i5,i8,i10)
def m39 (K:lN) (a0:lC) (h0:lD):Option (nB×lD) :=
 (lQ (nA 5 h0 a0) fun aT a_=>(fun(t23:lC) (bB:lD)=>ld true 5 bB aT fun t24=>ca (K 71 [(lC.lL t24)] bB) fun aU aM=>(nI 0 aU).bind fun t28=>(nI 1 aU).bind fun t29=>(nI 2 aU).bind fun t30=>bo .neq t30 (.int .i64 0) fun t31=>lS t31 ((fun(bH:lC) (bG:lD)=>some (.ret,[bH,t30],bG)) (.slice (Rw Span.cells []) (.own (aa8 aM))) (aM++[.front 0 0])) (fa 0 aT fun bI=>ld false 1 aM bI fun bJ=>lQ (qI 2 16 [(.int .i64 0),(.int .i64 0)] bJ aM) fun t36 bC=>ln t36 fun bK=>(mX (LR K (aa8 bC)) ([aT,t23,(.int .i64 0),t28,t29,t36,bK,(.int .i64 0)],bC)).bind fun aB=>(fun aI aC aD aJ aK aL aV aW aN=>Ex.mO aB.1 none (fun bE=>Ex.inBlock 0 bE (fa 2 aI fun bL=>ld false 1 aN bL fun bD=>ln bD fun bM=>(mX (Gk K (aa8 aN)) ([aC,aD,aJ,aK,aL,(.int .i64 0),bD,bM,(.int .i64 0)],aN)).bind fun aA=>(fun aE aF aX aY aG aZ aO aP aQ aH=>Ex.mO aA.1 none (fun aR=>Ex.inBlock 2 aR (some (.ret,[aG,(.int .i64 0)],aH)) (fun aS=>some (aS,[aE,aF],aH)))) (gd aA.2.1 0) (gd aA.2.1 1) (gd aA.2.1 2) (gd aA.2.1 3) (gd aA.2.1 4) (gd aA.2.1 5) (gd aA.2.1 6) (gd aA.2.1 7) (gd aA.2.1 8) aA.2.2) (fun bF=>some (bF,[aC,aD],aN)))) (gd aB.2.1 0) (gd aB.2.1 1) (gd aB.2.1 2) (gd aB.2.1 3) (gd aB.2.1 4) (gd aB.2.1 5) (gd aB.2.1 6) (gd aB.2.1 7) aB.2.2)) (.slice (Rw Span.cells []) (.own (aa8 a_))) (a_++[.front 0 0])).bind (Wg (aa8 h0))
theorem ah8 (K:lN) (a0:lC) (h0:lD):qG Tryz.prog mY mX K 39 [a0] h0=m39 (mH mY K) a0 h0:=by kernel_rfl
end
section
open Go Hk
def Dr (s:Span) (a:Int):Span:=if s.first<0 then⟨a,a⟩ else⟨min s.first a,max s.last a⟩
def Cc (l:List Span) (a:Int) (t:Int):List Span:=match l[t.toNat]? with
 | some s=>l.set t.toNat (Dr s a)
 | none=>l
theorem ab2 {l:List Span}{a t:Int}:(Cc l a t).length=l.length:=by unfold Cc;split <;> simp
theorem OP {a:Int}:∀{ts:List Int}{l:List Span},(ts.foldl (Cc · a) l).length=l.length
 | [],_=>rfl
 | t::ts,l=>by rw [List.foldl_cons,OP,ab2]
theorem IE {l:List Span}{n:Nat}{a:Int}{ts:List Int}(hn:l.length=n) (ha:0≤a) (hl:ts.length≤2000000) (ht:∀t∈ts,0≤t∧t.toNat<n):Ef n a ts l=some (ts.foldl (Cc · a) l):=by
 have key:∀(d i:Nat),ts.length=i+d→tY (yH n a ts ((ts.length:Nat):Int)) ((i:Int),(ts.take i).foldl (Cc · a) l)=some (.x 0,((ts.length:Int),ts.foldl (Cc · a) l)):=by
  intro d
  induction d with
  | zero =>
   intro i hi
   obtain rfl:i=ts.length:=by omega
   rw [List.take_length]
   refine p5 ?_ (by simp)
   simp [yH]
  | succ d ih =>
   intro i hi
   rw [←ih (i+1) (by omega)]
   refine q_ ?_
   have hil:i<ts.length:=by omega
   have e1:oV ts (i:Int)=some ts[i]:=by rw [o_,ac6 hil]
   have w1:IntKind.i64.wrap ((i:Int)+1)=((i+1:Nat):Int):=by rw [wrap64 (by omega) (by omega),Int.natCast_add];rfl
   have hii:(i:Int)<(ts.length:Int):=by omega
   obtain⟨h0,h1⟩:=ht _ (List.getElem_mem hil)
   have hLl:((ts.take i).foldl (Cc · a) l).length=n:=by rw [OP,hn]
   have hstep:(ts.take (i+1)).foldl (Cc · a) l=Cc ((ts.take i).foldl (Cc · a) l) a ts[i]:=by
    rw [List.take_succ_eq_append_getElem hil,List.foldl_append];rfl
   rw [hstep]
   generalize (ts.take i).foldl (Cc · a) l=L at *
   generalize ts[i]=t at *
   have hin:MH n t=some t.toNat:=by unfold MH;rw [if_pos ⟨h0,by omega⟩]
   have hg:∀(L:List Span),L.length=n→xR n L t.toNat=L[t.toNat]?:=fun L h=>by unfold xR;rw [if_pos h]
   have hs:∀(L:List Span) (x:Span),L.length=n→FN n L t.toNat x=some (L.set t.toNat x):=fun L x h=>by unfold FN;rw [if_pos ⟨h,by omega⟩]
   have hLt:L[t.toNat]?=some L[t.toNat]:=ac6 (by omega)
   have hU:Cc L a t=L.set t.toNat (Dr L[t.toNat] a):=by unfold Cc;rw [hLt]
   rw [hU]
   generalize L[t.toNat]=s at *
   have hset:∀x:Span,(L.set t.toNat x)[t.toNat]?=some x:=fun x=>List.getElem?_set_self (by omega)
   have hlen:∀x:Span,(L.set t.toNat x).length=n:=fun x=>by rw [List.length_set];exact hLl
   by_cases hf:s.first<0
   ·have hj:AH true a n t L=some (L.set t.toNat ⟨a,a⟩):=by simp [AH,hin,hg L hLl,hLt,hs L _ hLl]
    have hE:Dr s a=⟨a,a⟩:=by unfold Dr;rw [if_pos hf]
    simp only [yH,e1,hii,decide_true,oM,mR,hin,hg L hLl,hLt,hf,hj,hg _ (hlen _),hset,hs _ _ (hlen _),List.set_set,w1,hE]
    simp
   ·have hj:AH false a n t L=some L:=by simp [AH]
    have hE:Dr s a=⟨min s.first a,max s.last a⟩:=by unfold Dr;rw [if_neg hf]
    simp only [yH,e1,hii,decide_true,oM,mR,hin,hg L hLl,hLt,hf,decide_false,hj,hs L _ hLl,hg _ (hlen _),hset,hs _ _ (hlen _),List.set_set,w1,hE]
 have:=key ts.length 0 (by omega)
 have e0:((0:Nat):Int)=0:=rfl
 rw [e0,List.take_zero,List.foldl_nil] at this
 simp [Ef,this]
def zU (m:List Bool):Span:=(m.foldl (fun(st:Nat×Span) b=>(st.1+1,if b then Dr st.2 (st.1:Int) else st.2)) (0,⟨-1,-1⟩)).2
theorem T8 (m:List Bool) (st:Nat×Span):(m.foldl (fun(st:Nat×Span) b=>(st.1+1,if b then Dr st.2 (st.1:Int) else st.2)) st).1=st.1+m.length:=by
 induction m generalizing st with
 | nil=>rfl
 | cons b m ih=>rw [List.foldl_cons,ih];simp;omega
theorem xK (m:List Bool) (b:Bool):zU (m++[b])=if b then Dr (zU m) (m.length:Int) else zU m:=by
 unfold zU
 rw [List.foldl_append]
 have:=T8 m (0,⟨-1,-1⟩)
 simp only [Nat.zero_add] at this
 simp only [List.foldl_cons,List.foldl_nil,this]
theorem Po {s:Span}{a:Int}(ha:0≤a):Dr (Dr s a) a=Dr s a:=by
 unfold Dr
 by_cases h:s.first<0
 ·simp only [h,if_true]
  rw [if_neg (by omega)]
  simp
 ·simp only [h,if_false]
  have:¬(min s.first a<0):=by omega
  rw [if_neg this]
  congr 1 <;> omega
def LS (N:Nat) (F:Nat→List Bool):List Span:=(aq5 N).map fun t=>zU (F t)
theorem Aa {N:Nat}{F:Nat→List Bool}:(LS N F).length=N:=by simp [LS]
theorem M0 {N:Nat}{F G:Nat→List Bool}(h:∀t,t<N→F t=G t):LS N F=LS N G:=by
 unfold LS
 refine List.map_congr_left fun t ht=>?_
 rw [h t (List.mem_range.1 ht)]
theorem aeN {N a:Nat}{M:Nat→List Bool}{c:Nat→Bool}(hM:∀t,(M t).length=a) (u:Int):Cc (LS N fun t=>M t++[c t]) (a:Int) u=LS N fun t=>M t++[c t || decide (t=u.toNat)]:=by
 apply List.ext_getElem?
 intro j
 unfold Cc
 by_cases hu:u.toNat<N
 ·have e:(LS N fun t=>M t++[c t])[u.toNat]?=some (zU (M u.toNat++[c u.toNat])):=by
   unfold LS;rw [af7,List.getElem?_range hu];rfl
  rw [e]
  simp only
  rw [List.getElem?_set]
  by_cases hj:u.toNat=j
  ·subst hj
   rw [if_pos rfl,if_pos (by rw [Aa];exact hu)]
   unfold LS
   rw [af7,List.getElem?_range hu]
   simp only [Option.map_some,decide_true,Bool.or_true]
   rw [xK,xK,hM]
   cases c u.toNat with
   | true=>simp [Po (Int.natCast_nonneg a)]
   | false=>simp
  ·rw [if_neg hj]
   unfold LS
   rw [af7,af7]
   by_cases hjN:j<N
   ·rw [List.getElem?_range hjN]
    have:¬j=u.toNat:=fun e=>hj e.symm
    simp [this]
   ·have:(aq5 N)[j]?=none:=by simp;omega
    rw [this];rfl
 ·have e:(LS N fun t=>M t++[c t])[u.toNat]?=none:=by
   rw [List.getElem?_eq_none_iff,Aa];omega
  rw [e]
  simp only
  unfold LS
  rw [af7,af7]
  by_cases hjN:j<N
  ·rw [List.getElem?_range hjN]
   have:¬j=u.toNat:=by omega
   simp [this]
  ·have:(aq5 N)[j]?=none:=by simp;omega
   rw [this];rfl
def wK (ts:List Int) (t:Nat):Bool:=ts.any fun u=>decide (t=u.toNat)
theorem BN {N a:Nat}{M:Nat→List Bool}(hM:∀t,(M t).length=a):∀(ts:List Int) (c:Nat→Bool),ts.foldl (Cc · (a:Int)) (LS N fun t=>M t++[c t])=LS N fun t=>M t++[c t || wK ts t]
 | [],c=>by simp [wK]
 | u::ts,c=>by
  rw [List.foldl_cons,aeN hM,BN hM ts]
  refine M0 fun t _=>?_
  simp [wK,Bool.or_assoc]
end
end Go.Proofs.YtgllbnabmglcfaaGreatDoor
