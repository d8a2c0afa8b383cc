/-
  The texts YM.C2, YM.T3, YM.P5, one behind another. No conditions.
-/
import Derived.Test.YtgllbnabmglcfaaGreatDoorYm2
import Derived.Test.YtgllbnabmglcfaaGreatDoorIm2
set_option linter.unusedVariables false
set_option linter.unusedSimpArgs false
set_option linter.all false
open List renaming getElem?_eq_getElem → ag8, getElem?_map → ak4, length → aa5, range → ar9
namespace Go.Proofs.YtgllbnabmglcfaaGreatDoor
noncomputable section
open Go Hk
def agB (p:IR):Option (List (List Int)×List (List Int)×Int):=some (Aa p,Ab p,pB p)
theorem awV (p:IR) (h:lT):KK 71 [.agg [.int .i64 p.temps,.slice (Rw nH.cells p.arrays) .no,.slice (Rw mU.cells p.blocks) .no,.int .i64 p.inn,.int .i64 p.out]] h=tm (agB p) fun r=>(.ret (.tuple [.slice (Rw (vE (ci .i64)) r.1) .no,.slice (Rw (vE (ci .i64)) r.2.1) .no,.int .i64 r.2.2]),h):=c71 p h
end
noncomputable section
open Go Hk
def Yc (mm:Nat) (aA:R):Option (nT×lT) :=
 (fun aB aC aD=>Ex.oA aA.1 (nZ mm (.tuple [aB,aC]) aD)) (gd aA.2.1 0) (gd aA.2.1 1) aA.2.2
theorem aoB (n:Int) (h:lT):p_ 2 16 [(.int .i64 0),(.int .i64 0)] (.int .i64 n) h=tm (ZD 16 ((⟨0,0⟩:Span):Span) n) fun l=>(.vslice h.length l.length 0 l.length 2,h++[Vc Span.cells 2 l]):=vS rfl
theorem ap3 (y0:Int) (y1:Int) (h:lT) (id tot j:Nat) (xs:List Span):Tg 2 id h (some (Vc Span.cells 2 xs)) tot (j*2) (.agg [(.int .i64 y0),(.int .i64 y1)])=tb (vC tot xs j) fun x=>tm (DG tot xs j (⟨y0,y1⟩:Span)) fun zs=>h.set id (Vc Span.cells 2 zs):=ZQ (enc:=Span.cells) (⟨y0,y1⟩:Span) (fun _=>rfl) (by decide) rfl rfl
def Na (K:mA) (m:Nat) (s:List lS×lT):Option R :=
 (fun aD aE aF aG aH aC aB aA aI=>bo .lss aA aB fun aK=>mH aK ((mV [(.int .i64 0),(.int .i64 0)] [(0,1),(1,1)] [(0,(.int .i64 (-1))),(1,(.int .i64 (-1)))]).bind fun aL=>ix 2 aC aA fun aM=>(mL 2 aI aM aL).bind fun aJ=>bo .add aA (.int .i64 1) fun aN=>mK m .normal [aD,aE,aF,aG,aH,aC,aB,aN] aJ) (mK m (.exit 0) [aD,aE,aF,aG,aH,aC,aB,aA] aI)) (gd s.1 0) (gd s.1 1) (gd s.1 2) (gd s.1 3) (gd s.1 4) (gd s.1 5) (gd s.1 6) (gd s.1 7) s.2
def CC (l38:(List Span)) (w44:Int) (s45:Int×(List Span)):Option (Ey×Int×(List Span)) :=
 tc (decide (s45.1<w44)) (tb ((DF (aa5 l38) s45.1)) fun j58=>tb ((vC (aa5 l38) s45.2 j58)) fun u60=>tb ((DG (aa5 l38) s45.2 j58 (⟨(-1),(-1)⟩:Span))) fun l61=>some (.n,((IntKind.wrap .i64 (s45.1+1)),l61))) (some ((.x 0),(s45.1,s45.2)))
theorem acH (w40:(List (List Int))) (w41:(List (List Int))) (l38:(List Span)) (w44:Int) (p0:IR) (s45:Int×(List Span)):Na KK 3 ([(.ptr 0 0),(.slice (Rw Span.cells []) (.own 1)),(.int .i64 0),(.slice (Rw (vE (ci .i64)) w40) .no),(.slice (Rw (vE (ci .i64)) w41) .no),(.vslice 2 (aa5 l38) 0 (aa5 l38) 2),(.int .i64 w44),(.int .i64 s45.1)],([.cells [(.int .i64 p0.temps),(.slice (Rw nH.cells p0.arrays) .no),(.slice (Rw mU.cells p0.blocks) .no),(.int .i64 p0.inn),(.int .i64 p0.out)],.front 0 0,Vc Span.cells 2 s45.2]:lT))=tm (CC l38 w44 s45) fun r=>(r.1.ex,[(.ptr 0 0),(.slice (Rw Span.cells []) (.own 1)),(.int .i64 0),(.slice (Rw (vE (ci .i64)) w40) .no),(.slice (Rw (vE (ci .i64)) w41) .no),(.vslice 2 (aa5 l38) 0 (aa5 l38) 2),(.int .i64 w44),(.int .i64 r.2.1)],([.cells [(.int .i64 p0.temps),(.slice (Rw nH.cells p0.arrays) .no),(.slice (Rw mU.cells p0.blocks) .no),(.int .i64 p0.inn),(.int .i64 p0.out)],.front 0 0,Vc Span.cells 2 r.2.2]:lT)):=by
 simp [-l9,-lV,-lU,-lW,-lZ,-lY,-lX,Na,CC,ap3]
theorem afT (w40:(List (List Int))) (w41:(List (List Int))) (l38:(List Span)) (w44:Int) (p0:IR) (i6:Int) (i8:(List Span)):nL (Na KK 3) ([(.ptr 0 0),(.slice (Rw Span.cells []) (.own 1)),(.int .i64 0),(.slice (Rw (vE (ci .i64)) w40) .no),(.slice (Rw (vE (ci .i64)) w41) .no),(.vslice 2 (aa5 l38) 0 (aa5 l38) 2),(.int .i64 w44),(.int .i64 i6)],([.cells [(.int .i64 p0.temps),(.slice (Rw nH.cells p0.arrays) .no),(.slice (Rw mU.cells p0.blocks) .no),(.int .i64 p0.inn),(.int .i64 p0.out)],.front 0 0,Vc Span.cells 2 i8]:lT))=tm (sG (CC l38 w44) (i6,i8)) fun r=>(r.1.ex,[(.ptr 0 0),(.slice (Rw Span.cells []) (.own 1)),(.int .i64 0),(.slice (Rw (vE (ci .i64)) w40) .no),(.slice (Rw (vE (ci .i64)) w41) .no),(.vslice 2 (aa5 l38) 0 (aa5 l38) 2),(.int .i64 w44),(.int .i64 r.2.1)],([.cells [(.int .i64 p0.temps),(.slice (Rw nH.cells p0.arrays) .no),(.slice (Rw mU.cells p0.blocks) .no),(.int .i64 p0.inn),(.int .i64 p0.out)],.front 0 0,Vc Span.cells 2 r.2.2]:lT)):=by
 exact s7 (enc:=fun s45=>([(.ptr 0 0),(.slice (Rw Span.cells []) (.own 1)),(.int .i64 0),(.slice (Rw (vE (ci .i64)) w40) .no),(.slice (Rw (vE (ci .i64)) w41) .no),(.vslice 2 (aa5 l38) 0 (aa5 l38) 2),(.int .i64 w44),(.int .i64 s45.1)],([.cells [(.int .i64 p0.temps),(.slice (Rw nH.cells p0.arrays) .no),(.slice (Rw mU.cells p0.blocks) .no),(.int .i64 p0.inn),(.int .i64 p0.out)],.front 0 0,Vc Span.cells 2 s45.2]:lT))) (fun s45=>acH w40 w41 l38 w44 p0 s45) (i6,i8)
theorem at7 (l38:(List Span)) (w96:Int) (u107:(List Int)) (p0:IR) (w99:(List Span)) (u101:mU):KK 72 [(.vslice 2 (aa5 l38) 0 (aa5 l38) 2),(.int .i64 w96),(.slice (Rw (ci .i64) u107) .no)] ([.cells [(.int .i64 p0.temps),(.slice (Rw nH.cells p0.arrays) .no),(.slice (Rw mU.cells p0.blocks) .no),(.int .i64 p0.inn),(.int .i64 p0.out)],.front 0 0,Vc Span.cells 2 w99,.cells [(.slice (Rw Op.cells u101.ops) .no),(.int .i64 u101.term.kind),(.int .i64 u101.term.a),(.int .i64 u101.term.yes),(.int .i64 u101.term.no)],.front 0 0]:lT)=tm (EU (aa5 l38) w96 u107 w99) fun r=>(.ret (.tuple []),([.cells [(.int .i64 p0.temps),(.slice (Rw nH.cells p0.arrays) .no),(.slice (Rw mU.cells p0.blocks) .no),(.int .i64 p0.inn),(.int .i64 p0.out)],.front 0 0,Vc Span.cells 2 r,.cells [(.slice (Rw Op.cells u101.ops) .no),(.int .i64 u101.term.kind),(.int .i64 u101.term.a),(.int .i64 u101.term.yes),(.int .i64 u101.term.no)],.front 0 0]:lT)):=by
 refine yA (ids:=[2]) rfl rfl ?_ ?_ rfl ?_ (IS ..) (WX (aa5 l38) w96 u107 w99) fun r=>?_
 all_goals simp
theorem auA (l38:(List Span)) (w145:Int) (I4:(List Int)) (p0:IR) (w146:(List Span)) (u101:mU) (u134:Op):KK 72 [(.vslice 2 (aa5 l38) 0 (aa5 l38) 2),(.int .i64 w145),(.slice (Rw (ci .i64) I4) .no)] ([.cells [(.int .i64 p0.temps),(.slice (Rw nH.cells p0.arrays) .no),(.slice (Rw mU.cells p0.blocks) .no),(.int .i64 p0.inn),(.int .i64 p0.out)],.front 0 0,Vc Span.cells 2 w146,.cells [(.slice (Rw Op.cells u101.ops) .no),(.int .i64 u101.term.kind),(.int .i64 u101.term.a),(.int .i64 u101.term.yes),(.int .i64 u101.term.no)],.front 0 0,.cells [(.int .i64 u134.kind),(.int .i64 u134.dst),(.int .i64 u134.a),(.int .i64 u134.b),(.int .i64 u134.c),(.int .i64 u134.imm)]]:lT)=tm (EU (aa5 l38) w145 I4 w146) fun r=>(.ret (.tuple []),([.cells [(.int .i64 p0.temps),(.slice (Rw nH.cells p0.arrays) .no),(.slice (Rw mU.cells p0.blocks) .no),(.int .i64 p0.inn),(.int .i64 p0.out)],.front 0 0,Vc Span.cells 2 r,.cells [(.slice (Rw Op.cells u101.ops) .no),(.int .i64 u101.term.kind),(.int .i64 u101.term.a),(.int .i64 u101.term.yes),(.int .i64 u101.term.no)],.front 0 0,.cells [(.int .i64 u134.kind),(.int .i64 u134.dst),(.int .i64 u134.a),(.int .i64 u134.b),(.int .i64 u134.c),(.int .i64 u134.imm)]]:lT)):=by
 refine yA (ids:=[2]) rfl rfl ?_ ?_ rfl ?_ (IS ..) (WX (aa5 l38) w145 I4 w146) fun r=>?_
 all_goals simp
theorem akJ (y0:Int) (h:lT):mD 1 1 [(.int .i64 0)] [(0,(.int .i64 y0))] h=some (.slice (Rw (ci .i64) [y0]) (.own h.length),h++[oR 1 1]):=by
 rfl
theorem auB (l38:(List Span)) (w152:Int) (w161:(List Int)) (p0:IR) (Bj:(List Span)) (u101:mU) (u134:Op):KK 72 [(.vslice 2 (aa5 l38) 0 (aa5 l38) 2),(.int .i64 w152),(.slice (Rw (ci .i64) w161) .no)] ([.cells [(.int .i64 p0.temps),(.slice (Rw nH.cells p0.arrays) .no),(.slice (Rw mU.cells p0.blocks) .no),(.int .i64 p0.inn),(.int .i64 p0.out)],.front 0 0,Vc Span.cells 2 Bj,.cells [(.slice (Rw Op.cells u101.ops) .no),(.int .i64 u101.term.kind),(.int .i64 u101.term.a),(.int .i64 u101.term.yes),(.int .i64 u101.term.no)],.front 0 0,.cells [(.int .i64 u134.kind),(.int .i64 u134.dst),(.int .i64 u134.a),(.int .i64 u134.b),(.int .i64 u134.c),(.int .i64 u134.imm)],oR 1 1]:lT)=tm (EU (aa5 l38) w152 w161 Bj) fun r=>(.ret (.tuple []),([.cells [(.int .i64 p0.temps),(.slice (Rw nH.cells p0.arrays) .no),(.slice (Rw mU.cells p0.blocks) .no),(.int .i64 p0.inn),(.int .i64 p0.out)],.front 0 0,Vc Span.cells 2 r,.cells [(.slice (Rw Op.cells u101.ops) .no),(.int .i64 u101.term.kind),(.int .i64 u101.term.a),(.int .i64 u101.term.yes),(.int .i64 u101.term.no)],.front 0 0,.cells [(.int .i64 u134.kind),(.int .i64 u134.dst),(.int .i64 u134.a),(.int .i64 u134.b),(.int .i64 u134.c),(.int .i64 u134.imm)],oR 1 1]:lT)):=by
 refine yA (ids:=[2]) rfl rfl ?_ ?_ rfl ?_ (IS ..) (WX (aa5 l38) w152 w161 Bj) fun r=>?_
 all_goals simp
def RT (K:mA) (m:Nat) (t149:lS) (t136:lS) (aO:lT) (aA:lS) (aB:lS) (aK:lS) (aL:lS) (aM:lS) (aN:lS) (aC:lS) (aD:lS) (aE:lS) (aF:lS) (aG:lS) (aH:lS) (aI:lS) (aJ:lS):Option R :=
 mH t149 (fa 1 t136 fun t155=>ld false 1 aO t155 fun t156=>mC (mD 1 1 [(.int .i64 0)] [(0,t156)] aO) fun t157 aP=>ca (K 72 [(lS.l_ aA),(lS.l_ aB),(lS.l_ t157)] aP) fun t159 aQ=>mK m .normal [aK,aL,aM,aN,aA,aB,aC,aD,aE,aF,aG,aH,aI,aJ] aQ) (mK m .normal [aK,aL,aM,aN,aA,aB,aC,aD,aE,aF,aG,aH,aI,aJ] aO)
def A4 (Ny:Bool) (Bj:(List Span)) (u134:Op) (l38:(List Span)) (w152:Int):Option ((List Span)) :=
 tc Ny (tb ((EU (aa5 l38) w152 [u134.dst] Bj)) fun VC=>some VC) (some Bj)
theorem afS (Ny:Bool) (p0:IR) (Bj:(List Span)) (u101:mU) (u134:Op) (l38:(List Span)) (w152:Int) (w78:(List (List Int))) (w79:(List (List Int))) (w97:Int) (w82:Int) (w115:Int) (w153:Int):(RT KK 6 (.bool Ny) (.ptr 5 0) ([.cells [(.int .i64 p0.temps),(.slice (Rw nH.cells p0.arrays) .no),(.slice (Rw mU.cells p0.blocks) .no),(.int .i64 p0.inn),(.int .i64 p0.out)],.front 0 0,Vc Span.cells 2 Bj,.cells [(.slice (Rw Op.cells u101.ops) .no),(.int .i64 u101.term.kind),(.int .i64 u101.term.a),(.int .i64 u101.term.yes),(.int .i64 u101.term.no)],.front 0 0,.cells [(.int .i64 u134.kind),(.int .i64 u134.dst),(.int .i64 u134.a),(.int .i64 u134.b),(.int .i64 u134.c),(.int .i64 u134.imm)]]:lT) (.vslice 2 (aa5 l38) 0 (aa5 l38) 2) (.int .i64 w152) (.slice (Rw Span.cells []) (.own 1)) (.int .i64 0) (.slice (Rw (vE (ci .i64)) w78) .no) (.slice (Rw (vE (ci .i64)) w79) .no) (.int .i64 w97) (.ptr 3 0) (.slice (Rw mU.cells p0.blocks) .no) (.int .i64 w82) (.int .i64 w97) (.slice (Rw Op.cells u101.ops) .no) (.int .i64 w115) (.int .i64 w153))=tm (A4 Ny Bj u134 l38 w152) fun r=>(.normal,[(.slice (Rw Span.cells []) (.own 1)),(.int .i64 0),(.slice (Rw (vE (ci .i64)) w78) .no),(.slice (Rw (vE (ci .i64)) w79) .no),(.vslice 2 (aa5 l38) 0 (aa5 l38) 2),(.int .i64 w152),(.int .i64 w97),(.ptr 3 0),(.slice (Rw mU.cells p0.blocks) .no),(.int .i64 w82),(.int .i64 w97),(.slice (Rw Op.cells u101.ops) .no),(.int .i64 w115),(.int .i64 w153)],([.cells [(.int .i64 p0.temps),(.slice (Rw nH.cells p0.arrays) .no),(.slice (Rw mU.cells p0.blocks) .no),(.int .i64 p0.inn),(.int .i64 p0.out)],.front 0 0,Vc Span.cells 2 r,.cells [(.slice (Rw Op.cells u101.ops) .no),(.int .i64 u101.term.kind),(.int .i64 u101.term.a),(.int .i64 u101.term.yes),(.int .i64 u101.term.no)],.front 0 0,.cells [(.int .i64 u134.kind),(.int .i64 u134.dst),(.int .i64 u134.a),(.int .i64 u134.b),(.int .i64 u134.c),(.int .i64 u134.imm)]]:lT)):=by
 simp [-l9,-lV,-lU,-lW,-lZ,-lY,-lX,RT,A4,akJ,auB]
def Nb (K:mA) (m:Nat) (s:List lS×lT):Option R :=
 (fun aK aL aM aN aD aE aF aG aH aI aJ aB aC aA aW=>bo .lss aA aC fun t132=>mH t132 (ix 6 aB aA fun t133=>ld true 6 aW t133 fun t135=>mC (nP 6 aW (.agg [(.int .i64 0),(.int .i64 0),(.int .i64 0),(.int .i64 0),(.int .i64 0),(.int .i64 0)])) fun t136 bG=>(mL 6 bG t136 t135).bind fun bD=>ld true 6 bD t136 fun t139=>ca (K 36 [(lS.l_ t139)] bD) fun t140 bH=>ca (K 72 [(lS.l_ aD),(lS.l_ aE),(lS.l_ t140)] bH) fun t143 bE=>ld true 6 bE t136 fun t148=>ca (K 73 [(lS.l_ t148)] bE) fun t149 bF=>(RT K (aa5 bF) t149 t136 bF aD aE aK aL aM aN aF aG aH aI aJ aB aC aA).bind fun s_=>(fun aX aY aZ a_ bB bC aO aP aQ aR aS aT aU aV bI=>Ex.rQ s_.1 (bo .add bC (.int .i64 1) fun bJ=>bo .add aV (.int .i64 1) fun bK=>mK m .normal [aX,aY,aZ,a_,bB,bJ,aO,aP,aQ,aR,aS,aT,aU,bK] bI)) (gd s_.2.1 0) (gd s_.2.1 1) (gd s_.2.1 2) (gd s_.2.1 3) (gd s_.2.1 4) (gd s_.2.1 5) (gd s_.2.1 6) (gd s_.2.1 7) (gd s_.2.1 8) (gd s_.2.1 9) (gd s_.2.1 10) (gd s_.2.1 11) (gd s_.2.1 12) (gd s_.2.1 13) s_.2.2) (mK m (.exit 4) [aK,aL,aM,aN,aD,aE,aF,aG,aH,aI,aJ,aB,aC,aA] aW)) (gd s.1 0) (gd s.1 1) (gd s.1 2) (gd s.1 3) (gd s.1 4) (gd s.1 5) (gd s.1 6) (gd s.1 7) (gd s.1 8) (gd s.1 9) (gd s.1 10) (gd s.1 11) (gd s.1 12) (gd s.1 13) s.2
def A5 (l38:(List Span)) (u101:mU) (w115:Int) (s116:Int×Int×(List Span)):Option (Ey×Int×Int×(List Span)) :=
 tc (decide (s116.2.1<w115)) (tb ((o8 u101.ops s116.2.1)) fun u134=>tb ((Kv u134)) fun I4=>tb ((EU (aa5 l38) s116.1 I4 s116.2.2)) fun Bj=>tb ((JO u134)) fun Ny=>tb (A4 Ny Bj u134 l38 s116.1) fun s_=>some (.n,((IntKind.wrap .i64 (s116.1+1)),(IntKind.wrap .i64 (s116.2.1+1)),s_))) (some ((.x 4),(s116.1,s116.2.1,s116.2.2)))
theorem acI (w78:(List (List Int))) (w79:(List (List Int))) (l38:(List Span)) (w97:Int) (p0:IR) (w82:Int) (u101:mU) (w115:Int) (s116:Int×Int×(List Span)):Nb KK 5 ([(.slice (Rw Span.cells []) (.own 1)),(.int .i64 0),(.slice (Rw (vE (ci .i64)) w78) .no),(.slice (Rw (vE (ci .i64)) w79) .no),(.vslice 2 (aa5 l38) 0 (aa5 l38) 2),(.int .i64 s116.1),(.int .i64 w97),(.ptr 3 0),(.slice (Rw mU.cells p0.blocks) .no),(.int .i64 w82),(.int .i64 w97),(.slice (Rw Op.cells u101.ops) .no),(.int .i64 w115),(.int .i64 s116.2.1)],([.cells [(.int .i64 p0.temps),(.slice (Rw nH.cells p0.arrays) .no),(.slice (Rw mU.cells p0.blocks) .no),(.int .i64 p0.inn),(.int .i64 p0.out)],.front 0 0,Vc Span.cells 2 s116.2.2,.cells [(.slice (Rw Op.cells u101.ops) .no),(.int .i64 u101.term.kind),(.int .i64 u101.term.a),(.int .i64 u101.term.yes),(.int .i64 u101.term.no)],.front 0 0]:lT))=tm (A5 l38 u101 w115 s116) fun r=>(r.1.ex,[(.slice (Rw Span.cells []) (.own 1)),(.int .i64 0),(.slice (Rw (vE (ci .i64)) w78) .no),(.slice (Rw (vE (ci .i64)) w79) .no),(.vslice 2 (aa5 l38) 0 (aa5 l38) 2),(.int .i64 r.2.1),(.int .i64 w97),(.ptr 3 0),(.slice (Rw mU.cells p0.blocks) .no),(.int .i64 w82),(.int .i64 w97),(.slice (Rw Op.cells u101.ops) .no),(.int .i64 w115),(.int .i64 r.2.2.1)],([.cells [(.int .i64 p0.temps),(.slice (Rw nH.cells p0.arrays) .no),(.slice (Rw mU.cells p0.blocks) .no),(.int .i64 p0.inn),(.int .i64 p0.out)],.front 0 0,Vc Span.cells 2 r.2.2.2,.cells [(.slice (Rw Op.cells u101.ops) .no),(.int .i64 u101.term.kind),(.int .i64 u101.term.a),(.int .i64 u101.term.yes),(.int .i64 u101.term.no)],.front 0 0]:lT)):=by
 simp [-l9,-lV,-lU,-lW,-lZ,-lY,-lX,Nb,A5,awT,auA,apQ,afS]
theorem afU (w78:(List (List Int))) (w79:(List (List Int))) (l38:(List Span)) (w97:Int) (p0:IR) (w82:Int) (u101:mU) (w115:Int) (i5:Int) (i12:Int) (i14:(List Span)):nL (Nb KK 5) ([(.slice (Rw Span.cells []) (.own 1)),(.int .i64 0),(.slice (Rw (vE (ci .i64)) w78) .no),(.slice (Rw (vE (ci .i64)) w79) .no),(.vslice 2 (aa5 l38) 0 (aa5 l38) 2),(.int .i64 i5),(.int .i64 w97),(.ptr 3 0),(.slice (Rw mU.cells p0.blocks) .no),(.int .i64 w82),(.int .i64 w97),(.slice (Rw Op.cells u101.ops) .no),(.int .i64 w115),(.int .i64 i12)],([.cells [(.int .i64 p0.temps),(.slice (Rw nH.cells p0.arrays) .no),(.slice (Rw mU.cells p0.blocks) .no),(.int .i64 p0.inn),(.int .i64 p0.out)],.front 0 0,Vc Span.cells 2 i14,.cells [(.slice (Rw Op.cells u101.ops) .no),(.int .i64 u101.term.kind),(.int .i64 u101.term.a),(.int .i64 u101.term.yes),(.int .i64 u101.term.no)],.front 0 0]:lT))=tm (sG (A5 l38 u101 w115) (i5,i12,i14)) fun r=>(r.1.ex,[(.slice (Rw Span.cells []) (.own 1)),(.int .i64 0),(.slice (Rw (vE (ci .i64)) w78) .no),(.slice (Rw (vE (ci .i64)) w79) .no),(.vslice 2 (aa5 l38) 0 (aa5 l38) 2),(.int .i64 r.2.1),(.int .i64 w97),(.ptr 3 0),(.slice (Rw mU.cells p0.blocks) .no),(.int .i64 w82),(.int .i64 w97),(.slice (Rw Op.cells u101.ops) .no),(.int .i64 w115),(.int .i64 r.2.2.1)],([.cells [(.int .i64 p0.temps),(.slice (Rw nH.cells p0.arrays) .no),(.slice (Rw mU.cells p0.blocks) .no),(.int .i64 p0.inn),(.int .i64 p0.out)],.front 0 0,Vc Span.cells 2 r.2.2.2,.cells [(.slice (Rw Op.cells u101.ops) .no),(.int .i64 u101.term.kind),(.int .i64 u101.term.a),(.int .i64 u101.term.yes),(.int .i64 u101.term.no)],.front 0 0]:lT)):=by
 exact s7 (enc:=fun s116=>([(.slice (Rw Span.cells []) (.own 1)),(.int .i64 0),(.slice (Rw (vE (ci .i64)) w78) .no),(.slice (Rw (vE (ci .i64)) w79) .no),(.vslice 2 (aa5 l38) 0 (aa5 l38) 2),(.int .i64 s116.1),(.int .i64 w97),(.ptr 3 0),(.slice (Rw mU.cells p0.blocks) .no),(.int .i64 w82),(.int .i64 w97),(.slice (Rw Op.cells u101.ops) .no),(.int .i64 w115),(.int .i64 s116.2.1)],([.cells [(.int .i64 p0.temps),(.slice (Rw nH.cells p0.arrays) .no),(.slice (Rw mU.cells p0.blocks) .no),(.int .i64 p0.inn),(.int .i64 p0.out)],.front 0 0,Vc Span.cells 2 s116.2.2,.cells [(.slice (Rw Op.cells u101.ops) .no),(.int .i64 u101.term.kind),(.int .i64 u101.term.a),(.int .i64 u101.term.yes),(.int .i64 u101.term.no)],.front 0 0]:lT))) (fun s116=>acI w78 w79 l38 w97 p0 w82 u101 w115 s116) (i5,i12,i14)
theorem acE (y0:Int) (h:lT):mD 1 1 [(.int .i64 0)] [(0,(.int .i64 y0))] h=some (.slice (Rw (ci .i64) [y0]) (.own h.length),h++[oR 1 1]):=by
 rfl
theorem akN (l38:(List Span)) (w203:Int) (w215:(List Int)) (p0:IR) (w207:(List Span)) (u101:mU):KK 72 [(.vslice 2 (aa5 l38) 0 (aa5 l38) 2),(.int .i64 w203),(.slice (Rw (ci .i64) w215) .no)] ([.cells [(.int .i64 p0.temps),(.slice (Rw nH.cells p0.arrays) .no),(.slice (Rw mU.cells p0.blocks) .no),(.int .i64 p0.inn),(.int .i64 p0.out)],.front 0 0,Vc Span.cells 2 w207,.cells [(.slice (Rw Op.cells u101.ops) .no),(.int .i64 u101.term.kind),(.int .i64 u101.term.a),(.int .i64 u101.term.yes),(.int .i64 u101.term.no)],.front 0 0,oR 1 1]:lT)=tm (EU (aa5 l38) w203 w215 w207) fun r=>(.ret (.tuple []),([.cells [(.int .i64 p0.temps),(.slice (Rw nH.cells p0.arrays) .no),(.slice (Rw mU.cells p0.blocks) .no),(.int .i64 p0.inn),(.int .i64 p0.out)],.front 0 0,Vc Span.cells 2 r,.cells [(.slice (Rw Op.cells u101.ops) .no),(.int .i64 u101.term.kind),(.int .i64 u101.term.a),(.int .i64 u101.term.yes),(.int .i64 u101.term.no)],.front 0 0,oR 1 1]:lT)):=by
 refine yA (ids:=[2]) rfl rfl ?_ ?_ rfl ?_ (IS ..) (WX (aa5 l38) w203 w215 w207) fun r=>?_
 all_goals simp
def M_ (K:mA) (m:Nat) (aO:lS) (aK:lS) (aL:lT) (aA:lS) (aB:lS) (aG:lS) (aH:lS) (aI:lS) (aJ:lS) (aC:lS) (aD:lS) (aE:lS) (aF:lS):Option R :=
 mH aO (fa 1 aK fun aP=>fa 1 aP fun aQ=>ld false 1 aL aQ fun aR=>mC (mD 1 1 [(.int .i64 0)] [(0,aR)] aL) fun aS aM=>ca (K 72 [(lS.l_ aA),(lS.l_ aB),(lS.l_ aS)] aM) fun aT aN=>mK m .normal [aG,aH,aI,aJ,aA,aB,aC,aD,aE,aF] aN) (mK m .normal [aG,aH,aI,aJ,aA,aB,aC,aD,aE,aF] aL)
def Ar (w206:Bool) (w207:(List Span)) (u101:mU) (l38:(List Span)) (w203:Int):Option ((List Span)) :=
 tc w206 (tb ((EU (aa5 l38) w203 [u101.term.a] w207)) fun r216=>some r216) (some w207)
theorem Zi (w206:Bool) (p0:IR) (w207:(List Span)) (u101:mU) (l38:(List Span)) (w203:Int) (w78:(List (List Int))) (w79:(List (List Int))) (w97:Int) (w82:Int):(M_ KK 5 (.bool w206) (.ptr 3 0) ([.cells [(.int .i64 p0.temps),(.slice (Rw nH.cells p0.arrays) .no),(.slice (Rw mU.cells p0.blocks) .no),(.int .i64 p0.inn),(.int .i64 p0.out)],.front 0 0,Vc Span.cells 2 w207,.cells [(.slice (Rw Op.cells u101.ops) .no),(.int .i64 u101.term.kind),(.int .i64 u101.term.a),(.int .i64 u101.term.yes),(.int .i64 u101.term.no)],.front 0 0]:lT) (.vslice 2 (aa5 l38) 0 (aa5 l38) 2) (.int .i64 w203) (.slice (Rw Span.cells []) (.own 1)) (.int .i64 0) (.slice (Rw (vE (ci .i64)) w78) .no) (.slice (Rw (vE (ci .i64)) w79) .no) (.int .i64 w97) (.slice (Rw mU.cells p0.blocks) .no) (.int .i64 w82) (.int .i64 w97))=tm (Ar w206 w207 u101 l38 w203) fun r=>(.normal,[(.slice (Rw Span.cells []) (.own 1)),(.int .i64 0),(.slice (Rw (vE (ci .i64)) w78) .no),(.slice (Rw (vE (ci .i64)) w79) .no),(.vslice 2 (aa5 l38) 0 (aa5 l38) 2),(.int .i64 w203),(.int .i64 w97),(.slice (Rw mU.cells p0.blocks) .no),(.int .i64 w82),(.int .i64 w97)],([.cells [(.int .i64 p0.temps),(.slice (Rw nH.cells p0.arrays) .no),(.slice (Rw mU.cells p0.blocks) .no),(.int .i64 p0.inn),(.int .i64 p0.out)],.front 0 0,Vc Span.cells 2 r,.cells [(.slice (Rw Op.cells u101.ops) .no),(.int .i64 u101.term.kind),(.int .i64 u101.term.a),(.int .i64 u101.term.yes),(.int .i64 u101.term.no)],.front 0 0]:lT)):=by
 simp [-l9,-lV,-lU,-lW,-lZ,-lY,-lX,M_,Ar,acE,akN]
theorem akO (l38:(List Span)) (w234:Int) (u230:(List Int)) (p0:IR) (r217:(List Span)) (u101:mU):KK 72 [(.vslice 2 (aa5 l38) 0 (aa5 l38) 2),(.int .i64 w234),(.slice (Rw (ci .i64) u230) .no)] ([.cells [(.int .i64 p0.temps),(.slice (Rw nH.cells p0.arrays) .no),(.slice (Rw mU.cells p0.blocks) .no),(.int .i64 p0.inn),(.int .i64 p0.out)],.front 0 0,Vc Span.cells 2 r217,.cells [(.slice (Rw Op.cells u101.ops) .no),(.int .i64 u101.term.kind),(.int .i64 u101.term.a),(.int .i64 u101.term.yes),(.int .i64 u101.term.no)],.front 0 0]:lT)=tm (EU (aa5 l38) w234 u230 r217) fun r=>(.ret (.tuple []),([.cells [(.int .i64 p0.temps),(.slice (Rw nH.cells p0.arrays) .no),(.slice (Rw mU.cells p0.blocks) .no),(.int .i64 p0.inn),(.int .i64 p0.out)],.front 0 0,Vc Span.cells 2 r,.cells [(.slice (Rw Op.cells u101.ops) .no),(.int .i64 u101.term.kind),(.int .i64 u101.term.a),(.int .i64 u101.term.yes),(.int .i64 u101.term.no)],.front 0 0]:lT)):=by
 refine yA (ids:=[2]) rfl rfl ?_ ?_ rfl ?_ (IS ..) (WX (aa5 l38) w234 u230 r217) fun r=>?_
 all_goals simp
def RS (K:mA) (m:Nat) (aI:lS) (aC:lS) (cF:lT) (aX:lS) (aY:lS) (aZ:lS) (bJ:lS) (bK:lS) (bL:lS) (bD:lS):Option R :=
 ix 5 aI aC fun bT=>ld true 5 cF bT fun bU=>mC (nP 5 cF (.agg [(.slice (Rw Op.cells []) .nil),(.int .i64 0),(.int .i64 0),(.int .i64 0),(.int .i64 0)])) fun bB bR=>(mL 5 bR bB bU).bind fun bG=>ix 1 aX aC fun bV=>ld false 1 bG bV fun bW=>ca (K 72 [(lS.l_ aY),(lS.l_ aZ),(lS.l_ bW)] bG) fun cG a_=>fa 0 bB fun bX=>ld false 1 a_ bX fun bI=>ln bI fun bY=>(nL (Nb K (aa5 a_)) ([bJ,bK,aX,bL,aY,aZ,aC,bB,aI,bD,aC,bI,bY,(.int .i64 0)],a_)).bind fun aA=>(fun aH aJ aK aL aN aP aS aD aE aF aG bM bN bO aR=>Ex.nC aA.1 none (fun bP=>Ex.inBlock 4 bP (fa 1 aD fun bZ=>fa 0 bZ fun b_=>ld false 1 aR b_ fun cA=>bo .eql cA (.int .i64 2) fun cB=>(M_ K (aa5 aR) cB aD aR aN aP aH aJ aK aL aS aE aF aG).bind fun aB=>(fun bC bE bF aM aO aQ aT aU aV aW bH=>Ex.rQ aB.1 (ix 1 aM aT fun cC=>ld false 1 bH cC fun cD=>ca (K 72 [(lS.l_ aO),(lS.l_ aQ),(lS.l_ cD)] bH) fun cH bS=>bo .add aQ (.int .i64 1) fun cE=>mK m .normal [bC,bE,bF,aM,aO,cE,aU,aV,aW] bS)) (gd aB.2.1 0) (gd aB.2.1 1) (gd aB.2.1 2) (gd aB.2.1 3) (gd aB.2.1 4) (gd aB.2.1 5) (gd aB.2.1 6) (gd aB.2.1 7) (gd aB.2.1 8) (gd aB.2.1 9) aB.2.2) (fun bQ=>mK m bQ [aH,aJ,aK,aL,aN,aP,aE,aF,aG] aR))) (gd aA.2.1 0) (gd aA.2.1 1) (gd aA.2.1 2) (gd aA.2.1 3) (gd aA.2.1 4) (gd aA.2.1 5) (gd aA.2.1 6) (gd aA.2.1 7) (gd aA.2.1 8) (gd aA.2.1 9) (gd aA.2.1 10) (gd aA.2.1 11) (gd aA.2.1 12) (gd aA.2.1 13) aA.2.2
def ET (p0:IR) (w97:Int) (w99:(List Span)) (w78:(List (List Int))) (l38:(List Span)) (w96:Int) (w79:(List (List Int))):Option (Ey×Int×(List Span)) :=
 tb ((o8 p0.blocks w97)) fun u101=>tb ((o8 w78 w97)) fun u107=>tb ((EU (aa5 l38) w96 u107 w99)) fun r111=>tb (sG (A5 l38 u101 ((aa5 u101.ops:Nat):Int)) (w96,0,r111)) fun r181=>uW r181.1 none fun e182=>vA 4 e182 (tb (Ar (decide (u101.term.kind=2)) r181.2.2.2 u101 l38 r181.2.1) fun r217=>tb ((o8 w79 w97)) fun u230=>tb ((EU (aa5 l38) r181.2.1 u230 r217)) fun r235=>some (.n,((IntKind.wrap .i64 (r181.2.1+1)),r235))) fun e198=>some (e198,(r181.2.1,r181.2.2.2))
theorem afR (p0:IR) (w97:Int) (w99:(List Span)) (w78:(List (List Int))) (l38:(List Span)) (w96:Int) (w79:(List (List Int))) (w82:Int):(RS KK 3 (.slice (Rw mU.cells p0.blocks) .no) (.int .i64 w97) ([.cells [(.int .i64 p0.temps),(.slice (Rw nH.cells p0.arrays) .no),(.slice (Rw mU.cells p0.blocks) .no),(.int .i64 p0.inn),(.int .i64 p0.out)],.front 0 0,Vc Span.cells 2 w99]:lT) (.slice (Rw (vE (ci .i64)) w78) .no) (.vslice 2 (aa5 l38) 0 (aa5 l38) 2) (.int .i64 w96) (.slice (Rw Span.cells []) (.own 1)) (.int .i64 0) (.slice (Rw (vE (ci .i64)) w79) .no) (.int .i64 w82))=tm (ET p0 w97 w99 w78 l38 w96 w79) fun r=>(r.1.ex,[(.slice (Rw Span.cells []) (.own 1)),(.int .i64 0),(.slice (Rw (vE (ci .i64)) w78) .no),(.slice (Rw (vE (ci .i64)) w79) .no),(.vslice 2 (aa5 l38) 0 (aa5 l38) 2),(.int .i64 r.2.1),(.slice (Rw mU.cells p0.blocks) .no),(.int .i64 w82),(.int .i64 w97)],([.cells [(.int .i64 p0.temps),(.slice (Rw nH.cells p0.arrays) .no),(.slice (Rw mU.cells p0.blocks) .no),(.int .i64 p0.inn),(.int .i64 p0.out)],.front 0 0,Vc Span.cells 2 r.2.2]:lT)):=by
 simp [-l9,-lV,-lU,-lW,-lZ,-lY,-lX,RS,ET,at7,afU,Zi,akO]
def G_ (K:mA) (m:Nat) (s:List lS×lT):Option R :=
 (fun aN aO aP aQ aR aS aH aB aC aV=>bo .lss aC aB fun aX=>mH aX ((RS K (aa5 aV) aH aC aV aP aR aS aN aO aQ aB).bind fun aA=>(fun aG aI aJ aK aL aM aD aE aF aT=>Ex.inBlock 3 aA.1 (bo .add aF (.int .i64 1) fun aW=>mK m .normal [aG,aI,aJ,aK,aL,aM,aD,aE,aW] aT) (fun aU=>mK m aU [aG,aI,aJ,aK,aL,aM,aD,aE,aF] aT)) (gd aA.2.1 0) (gd aA.2.1 1) (gd aA.2.1 2) (gd aA.2.1 3) (gd aA.2.1 4) (gd aA.2.1 5) (gd aA.2.1 6) (gd aA.2.1 7) (gd aA.2.1 8) aA.2.2) (mK m (.exit 2) [aN,aO,aP,aQ,aR,aS,aH,aB,aC] aV)) (gd s.1 0) (gd s.1 1) (gd s.1 2) (gd s.1 3) (gd s.1 4) (gd s.1 5) (gd s.1 6) (gd s.1 7) (gd s.1 8) s.2
def As (w78:(List (List Int))) (w79:(List (List Int))) (l38:(List Span)) (p0:IR) (w82:Int) (s84:Int×Int×(List Span)):Option (Ey×Int×Int×(List Span)) :=
 tc (decide (s84.2.1<w82)) (tb (ET p0 s84.2.1 s84.2.2 w78 l38 s84.1 w79) fun r237=>vA 3 r237.1 (some (.n,(r237.2.1,(IntKind.wrap .i64 (s84.2.1+1)),r237.2.2))) fun e248=>some (e248,(r237.2.1,s84.2.1,r237.2.2))) (some ((.x 2),(s84.1,s84.2.1,s84.2.2)))
theorem WU (w78:(List (List Int))) (w79:(List (List Int))) (l38:(List Span)) (p0:IR) (w82:Int) (s84:Int×Int×(List Span)):G_ KK 3 ([(.slice (Rw Span.cells []) (.own 1)),(.int .i64 0),(.slice (Rw (vE (ci .i64)) w78) .no),(.slice (Rw (vE (ci .i64)) w79) .no),(.vslice 2 (aa5 l38) 0 (aa5 l38) 2),(.int .i64 s84.1),(.slice (Rw mU.cells p0.blocks) .no),(.int .i64 w82),(.int .i64 s84.2.1)],([.cells [(.int .i64 p0.temps),(.slice (Rw nH.cells p0.arrays) .no),(.slice (Rw mU.cells p0.blocks) .no),(.int .i64 p0.inn),(.int .i64 p0.out)],.front 0 0,Vc Span.cells 2 s84.2.2]:lT))=tm (As w78 w79 l38 p0 w82 s84) fun r=>(r.1.ex,[(.slice (Rw Span.cells []) (.own 1)),(.int .i64 0),(.slice (Rw (vE (ci .i64)) w78) .no),(.slice (Rw (vE (ci .i64)) w79) .no),(.vslice 2 (aa5 l38) 0 (aa5 l38) 2),(.int .i64 r.2.1),(.slice (Rw mU.cells p0.blocks) .no),(.int .i64 w82),(.int .i64 r.2.2.1)],([.cells [(.int .i64 p0.temps),(.slice (Rw nH.cells p0.arrays) .no),(.slice (Rw mU.cells p0.blocks) .no),(.int .i64 p0.inn),(.int .i64 p0.out)],.front 0 0,Vc Span.cells 2 r.2.2.2]:lT)):=by
 simp [-l9,-lV,-lU,-lW,-lZ,-lY,-lX,G_,As,afR]
theorem Zj (w78:(List (List Int))) (w79:(List (List Int))) (l38:(List Span)) (p0:IR) (w82:Int) (i5:Int) (i8:Int) (i10:(List Span)):nL (G_ KK 3) ([(.slice (Rw Span.cells []) (.own 1)),(.int .i64 0),(.slice (Rw (vE (ci .i64)) w78) .no),(.slice (Rw (vE (ci .i64)) w79) .no),(.vslice 2 (aa5 l38) 0 (aa5 l38) 2),(.int .i64 i5),(.slice (Rw mU.cells p0.blocks) .no),(.int .i64 w82),(.int .i64 i8)],([.cells [(.int .i64 p0.temps),(.slice (Rw nH.cells p0.arrays) .no),(.slice (Rw mU.cells p0.blocks) .no),(.int .i64 p0.inn),(.int .i64 p0.out)],.front 0 0,Vc Span.cells 2 i10]:lT))=tm (sG (As w78 w79 l38 p0 w82) (i5,i8,i10)) fun r=>(r.1.ex,[(.slice (Rw Span.cells []) (.own 1)),(.int .i64 0),(.slice (Rw (vE (ci .i64)) w78) .no),(.slice (Rw (vE (ci .i64)) w79) .no),(.vslice 2 (aa5 l38) 0 (aa5 l38) 2),(.int .i64 r.2.1),(.slice (Rw mU.cells p0.blocks) .no),(.int .i64 w82),(.int .i64 r.2.2.1)],([.cells [(.int .i64 p0.temps),(.slice (Rw nH.cells p0.arrays) .no),(.slice (Rw mU.cells p0.blocks) .no),(.int .i64 p0.inn),(.int .i64 p0.out)],.front 0 0,Vc Span.cells 2 r.2.2.2]:lT)):=by
 exact s7 (enc:=fun s84=>([(.slice (Rw Span.cells []) (.own 1)),(.int .i64 0),(.slice (Rw (vE (ci .i64)) w78) .no),(.slice (Rw (vE (ci .i64)) w79) .no),(.vslice 2 (aa5 l38) 0 (aa5 l38) 2),(.int .i64 s84.1),(.slice (Rw mU.cells p0.blocks) .no),(.int .i64 w82),(.int .i64 s84.2.1)],([.cells [(.int .i64 p0.temps),(.slice (Rw nH.cells p0.arrays) .no),(.slice (Rw mU.cells p0.blocks) .no),(.int .i64 p0.inn),(.int .i64 p0.out)],.front 0 0,Vc Span.cells 2 s84.2.2]:lT))) (fun s84=>WU w78 w79 l38 p0 w82 s84) (i5,i8,i10)
def m39 (K:mA) (a0:lS) (h0:lT):Option (nT×lT) :=
 (mC (nP 5 h0 a0) fun aT a_=>(fun(t23:lS) (bB:lT)=>ld true 5 bB aT fun t24=>ca (K 71 [(lS.l_ t24)] bB) fun aU aM=>(nO 0 aU).bind fun t28=>(nO 1 aU).bind fun t29=>(nO 2 aU).bind fun t30=>bo .neq t30 (.int .i64 0) fun t31=>mH t31 ((fun(bH:lS) (bG:lT)=>some (.ret,[bH,t30],bG)) (.slice (Rw Span.cells []) (.own (aa5 aM))) (aM++[.front 0 0])) (fa 0 aT fun bI=>ld false 1 aM bI fun bJ=>mC (p_ 2 16 [(.int .i64 0),(.int .i64 0)] bJ aM) fun t36 bC=>ln t36 fun bK=>(nL (Na K (aa5 bC)) ([aT,t23,(.int .i64 0),t28,t29,t36,bK,(.int .i64 0)],bC)).bind fun aB=>(fun aI aC aD aJ aK aL aV aW aN=>Ex.nC aB.1 none (fun bE=>Ex.inBlock 0 bE (fa 2 aI fun bL=>ld false 1 aN bL fun bD=>ln bD fun bM=>(nL (G_ K (aa5 aN)) ([aC,aD,aJ,aK,aL,(.int .i64 0),bD,bM,(.int .i64 0)],aN)).bind fun aA=>(fun aE aF aX aY aG aZ aO aP aQ aH=>Ex.nC aA.1 none (fun aR=>Ex.inBlock 2 aR (some (.ret,[aG,(.int .i64 0)],aH)) (fun aS=>some (aS,[aE,aF],aH)))) (gd aA.2.1 0) (gd aA.2.1 1) (gd aA.2.1 2) (gd aA.2.1 3) (gd aA.2.1 4) (gd aA.2.1 5) (gd aA.2.1 6) (gd aA.2.1 7) (gd aA.2.1 8) aA.2.2) (fun bF=>some (bF,[aC,aD],aN)))) (gd aB.2.1 0) (gd aB.2.1 1) (gd aB.2.1 2) (gd aB.2.1 3) (gd aB.2.1 4) (gd aB.2.1 5) (gd aB.2.1 6) (gd aB.2.1 7) aB.2.2)) (.slice (Rw Span.cells []) (.own (aa5 a_))) (a_++[.front 0 0])).bind (Yc (aa5 h0))
theorem anN (K:mA) (a0:lS) (h0:lT):p9 Tryz.prog nM nL K 39 [a0] h0=m39 (mW nM K) a0 h0:=by kernel_rfl
end
section
open Go Hk
def D1 (s:Span) (a:Int):Span:=if s.first<0 then⟨a,a⟩ else⟨min s.first a,max s.last a⟩
def CM (l:List Span) (a:Int) (t:Int):List Span:=match l[t.toNat]? with
 | some s=>l.set t.toNat (D1 s a)
 | none=>l
theorem agH {l:List Span}{a t:Int}:(CM l a t).length=l.length:=by unfold CM;split <;> simp
theorem Qh {a:Int}:∀{ts:List Int}{l:List Span},(ts.foldl (CM · a) l).length=l.length
 | [],_=>rfl
 | t::ts,l=>by rw [List.foldl_cons,Qh,agH]
theorem JN {l:List Span}{n:Nat}{a:Int}{ts:List Int}(hn:l.length=n) (ha:0≤a) (hl:ts.length≤2000000) (ht:∀t∈ts,0≤t∧t.toNat<n):EU n a ts l=some (ts.foldl (CM · a) l):=by
 have key:∀(d i:Nat),ts.length=i+d→sG (zA n a ts ((ts.length:Nat):Int)) ((i:Int),(ts.take i).foldl (CM · a) l)=some (.x 0,((ts.length:Int),ts.foldl (CM · a) l)):=by
  intro d
  induction d with
  | zero =>
   intro i hi
   obtain rfl:i=ts.length:=by omega
   rw [List.take_length]
   refine pM ?_ (by simp)
   simp [zA]
  | succ d ih =>
   intro i hi
   rw [←ih (i+1) (by omega)]
   refine p5 ?_
   have hil:i<ts.length:=by omega
   have e1:o8 ts (i:Int)=some ts[i]:=by rw [pJ,ag8 hil]
   have w1:IntKind.i64.wrap ((i:Int)+1)=((i+1:Nat):Int):=by rw [wrap64 (by omega) (by omega),Int.natCast_add];rfl
   have hii:(i:Int)<(ts.length:Int):=by omega
   obtain⟨h0,h1⟩:=ht _ (List.getElem_mem hil)
   have hLl:((ts.take i).foldl (CM · a) l).length=n:=by rw [Qh,hn]
   have hstep:(ts.take (i+1)).foldl (CM · a) l=CM ((ts.take i).foldl (CM · a) l) a ts[i]:=by
    rw [List.take_succ_eq_append_getElem hil,List.foldl_append];rfl
   rw [hstep]
   generalize (ts.take i).foldl (CM · a) l=L at *
   generalize ts[i]=t at *
   have hin:DF n t=some t.toNat:=by unfold DF;rw [if_pos ⟨h0,by omega⟩]
   have hg:∀(L:List Span),L.length=n→vC n L t.toNat=L[t.toNat]?:=fun L h=>by unfold vC;rw [if_pos h]
   have hs:∀(L:List Span) (x:Span),L.length=n→DG n L t.toNat x=some (L.set t.toNat x):=fun L x h=>by unfold DG;rw [if_pos ⟨h,by omega⟩]
   have hLt:L[t.toNat]?=some L[t.toNat]:=ag8 (by omega)
   have hU:CM L a t=L.set t.toNat (D1 L[t.toNat] a):=by unfold CM;rw [hLt]
   rw [hU]
   generalize L[t.toNat]=s at *
   have hset:∀x:Span,(L.set t.toNat x)[t.toNat]?=some x:=fun x=>List.getElem?_set_self (by omega)
   have hlen:∀x:Span,(L.set t.toNat x).length=n:=fun x=>by rw [List.length_set];exact hLl
   by_cases hf:s.first<0
   ·have hj:A7 true a n t L=some (L.set t.toNat ⟨a,a⟩):=by simp [A7,hin,hg L hLl,hLt,hs L _ hLl]
    have hE:D1 s a=⟨a,a⟩:=by unfold D1;rw [if_pos hf]
    simp only [zA,e1,hii,decide_true,nV,mN,hin,hg L hLl,hLt,hf,hj,hg _ (hlen _),hset,hs _ _ (hlen _),List.set_set,w1,hE]
    simp
   ·have hj:A7 false a n t L=some L:=by simp [A7]
    have hE:D1 s a=⟨min s.first a,max s.last a⟩:=by unfold D1;rw [if_neg hf]
    simp only [zA,e1,hii,decide_true,nV,mN,hin,hg L hLl,hLt,hf,decide_false,hj,hs L _ hLl,hg _ (hlen _),hset,hs _ _ (hlen _),List.set_set,w1,hE]
 have:=key ts.length 0 (by omega)
 have e0:((0:Nat):Int)=0:=rfl
 rw [e0,List.take_zero,List.foldl_nil] at this
 simp [EU,this]
def Am (m:List Bool):Span:=(m.foldl (fun(st:Nat×Span) b=>(st.1+1,if b then D1 st.2 (st.1:Int) else st.2)) (0,⟨-1,-1⟩)).2
theorem VJ (m:List Bool) (st:Nat×Span):(m.foldl (fun(st:Nat×Span) b=>(st.1+1,if b then D1 st.2 (st.1:Int) else st.2)) st).1=st.1+m.length:=by
 induction m generalizing st with
 | nil=>rfl
 | cons b m ih=>rw [List.foldl_cons,ih];simp;omega
theorem x_ (m:List Bool) (b:Bool):Am (m++[b])=if b then D1 (Am m) (m.length:Int) else Am m:=by
 unfold Am
 rw [List.foldl_append]
 have:=VJ m (0,⟨-1,-1⟩)
 simp only [Nat.zero_add] at this
 simp only [List.foldl_cons,List.foldl_nil,this]
theorem QQ {s:Span}{a:Int}(ha:0≤a):D1 (D1 s a) a=D1 s a:=by
 unfold D1
 by_cases h:s.first<0
 ·simp only [h,if_true]
  rw [if_neg (by omega)]
  simp
 ·simp only [h,if_false]
  have:¬(min s.first a<0):=by omega
  rw [if_neg this]
  congr 1 <;> omega
def LS (N:Nat) (F:Nat→List Bool):List Span:=(ar9 N).map fun t=>Am (F t)
theorem Ax {N:Nat}{F:Nat→List Bool}:(LS N F).length=N:=by simp [LS]
theorem Ol {N:Nat}{F G:Nat→List Bool}(h:∀t,t<N→F t=G t):LS N F=LS N G:=by
 unfold LS
 refine List.map_congr_left fun t ht=>?_
 rw [h t (List.mem_range.1 ht)]
theorem ajK {N a:Nat}{M:Nat→List Bool}{c:Nat→Bool}(hM:∀t,(M t).length=a) (u:Int):CM (LS N fun t=>M t++[c t]) (a:Int) u=LS N fun t=>M t++[c t || decide (t=u.toNat)]:=by
 apply List.ext_getElem?
 intro j
 unfold CM
 by_cases hu:u.toNat<N
 ·have e:(LS N fun t=>M t++[c t])[u.toNat]?=some (Am (M u.toNat++[c u.toNat])):=by
   unfold LS;rw [ak4,List.getElem?_range hu];rfl
  rw [e]
  simp only
  rw [List.getElem?_set]
  by_cases hj:u.toNat=j
  ·subst hj
   rw [if_pos rfl,if_pos (by rw [Ax];exact hu)]
   unfold LS
   rw [ak4,List.getElem?_range hu]
   simp only [Option.map_some,decide_true,Bool.or_true]
   rw [x_,x_,hM]
   cases c u.toNat with
   | true=>simp [QQ (Int.natCast_nonneg a)]
   | false=>simp
  ·rw [if_neg hj]
   unfold LS
   rw [ak4,ak4]
   by_cases hjN:j<N
   ·rw [List.getElem?_range hjN]
    have:¬j=u.toNat:=fun e=>hj e.symm
    simp [this]
   ·have:(ar9 N)[j]?=none:=by simp;omega
    rw [this];rfl
 ·have e:(LS N fun t=>M t++[c t])[u.toNat]?=none:=by
   rw [List.getElem?_eq_none_iff,Ax];omega
  rw [e]
  simp only
  unfold LS
  rw [ak4,ak4]
  by_cases hjN:j<N
  ·rw [List.getElem?_range hjN]
   have:¬j=u.toNat:=by omega
   simp [this]
  ·have:(ar9 N)[j]?=none:=by simp;omega
   rw [this];rfl
def xC (ts:List Int) (t:Nat):Bool:=ts.any fun u=>decide (t=u.toNat)
theorem B_ {N a:Nat}{M:Nat→List Bool}(hM:∀t,(M t).length=a):∀(ts:List Int) (c:Nat→Bool),ts.foldl (CM · (a:Int)) (LS N fun t=>M t++[c t])=LS N fun t=>M t++[c t || xC ts t]
 | [],c=>by simp [xC]
 | u::ts,c=>by
  rw [List.foldl_cons,ajK hM,B_ hM ts]
  refine Ol fun t _=>?_
  simp [xC,Bool.or_assoc]
end
end Go.Proofs.YtgllbnabmglcfaaGreatDoor
