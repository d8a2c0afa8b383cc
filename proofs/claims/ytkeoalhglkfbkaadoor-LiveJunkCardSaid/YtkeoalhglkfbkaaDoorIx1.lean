/-
  The texts IX.M2, IX.B, IX.H, IX.C, IX.D, IX.E, IX.F, IX.G, IX.G2, IX.J1, IX.J2, IX.J3, IX.J4, IX.L1, IX.L2, IX.K1, IX.K2, IX.K3, IX.K4, IX.K5, IX.K6, IX.K7, IX.K8, IX.K9, IX.K10, IX.K11, IX.R1, IX.R2, IX.R3, IX.S1, IX.S2, IX.S3, IX.S4, IX.S5, IX.M3, IX.D1, IX.D2, IX.D3, IX.D4, IX.L44, IX.M8, IX.M9, IX.M10, IX.F43, IX.RN1, IX.RN2, one behind another. No conditions.
-/
import Derived.Test.YtkeoalhglkfbkaaDoorIxa1
import Derived.KernelRfl
import Derived.WalkKit
import Derived.Test.YtkeoalhglkfbkaaDoorIxu1
set_option linter.unusedVariables false
set_option linter.unusedSimpArgs false
set_option linter.unusedSectionVars false
set_option linter.all false

namespace Go.Proofs.YtkeoalhglkfbkaaDoor
open Go Hk
noncomputable def OM (K:lD) (m:Nat) (s:List kS×kU):Option R :=
 (fun aF aG aH aI aE aJ aK aL aD aB aC aA aM=>(lE .lss aA aC).bind fun aP=>lP aP ((kX 1 aB aA).bind fun aQ=>(kW false 1 aM aQ).bind fun aR=>(kX 1 aE aR).bind fun aS=>(kW false 1 aM aS).bind fun t73=>lK (lU 1 1 [(.slice [] .nil)] [(0,t73)] aM) fun t74 aN=>lK (nG 1 24 aN aD t74) fun aT aO=>(lE .add aA (.int .i64 1)).bind fun aU=>lJ m .normal [aF,aG,aH,aI,aE,aJ,aK,aL,aT,aB,aC,aU] aO) (lJ m (.exit 4) [aF,aG,aH,aI,aE,aJ,aK,aL,aD,aB,aC,aA] aM)) (List.getD s.1 0 .junk) (List.getD s.1 1 .junk) (List.getD s.1 2 .junk) (List.getD s.1 3 .junk) (List.getD s.1 4 .junk) (List.getD s.1 5 .junk) (List.getD s.1 6 .junk) (List.getD s.1 7 .junk) (List.getD s.1 8 .junk) (List.getD s.1 9 .junk) (List.getD s.1 10 .junk) (List.getD s.1 11 .junk) s.2
noncomputable def ON (K:lD) (m:Nat) (s:List kS×kU):Option R :=
 (fun aD aE aF aG aH aI aJ aK aC aB aA aL=>(lE .geq aA (.int .i64 0)).bind fun aN=>lP aN ((kX 6 aB aA).bind fun aO=>(kW true 6 aL aO).bind fun aP=>lL (K 61 [aP,aC] aL) (fun aQ aM=>(lE .sub aA (.int .i64 1)).bind fun aR=>lJ m .normal [aD,aE,aF,aG,aH,aI,aJ,aK,aQ,aB,aR] aM) (fun _ _=>none)) (lJ m (.exit 6) [aD,aE,aF,aG,aH,aI,aJ,aK,aC,aB,aA] aL)) (List.getD s.1 0 .junk) (List.getD s.1 1 .junk) (List.getD s.1 2 .junk) (List.getD s.1 3 .junk) (List.getD s.1 4 .junk) (List.getD s.1 5 .junk) (List.getD s.1 6 .junk) (List.getD s.1 7 .junk) (List.getD s.1 8 .junk) (List.getD s.1 9 .junk) (List.getD s.1 10 .junk) s.2
noncomputable def Hs (K:lD) (m:Nat) (s:List kS×kU):Option R :=
 (fun aT a_ bB bE bG bI bJ aP cF=>(lE .geq aP (.int .i64 0)).bind fun dJ=>lP dJ (((fun(dK:kS) (cG:kU)=>(kV 2 aT).bind fun dL=>(kW false 1 cG dL).bind fun t49=>(kX 5 t49 aP).bind fun t50=>(kV 1 t50).bind fun dM=>(kW true 4 cG dM).bind fun dN=>lL (K 58 [(kS.k8 dN)] cG) (fun dE dC=>(lS dE).bind fun dO=>(mQ (OM K (List.length dC)) ([aT,a_,bB,bE,bG,bI,bJ,aP,dK,dE,dO,(.int .i64 0)],dC)).bind fun aL=>(fun aN bA bD bF bH aO bK aF bM c_ dA dB dD=>Ex.mC aL.1 none (fun dF=>Ex.inBlock 4 dF (lL (K 59 [(kS.k8 bM)] dD) (fun t95 dH=>(kX 1 aO aF).bind fun t97=>lK (oZ dH t95) fun t98 dI=>(lT 1 dI t97 t98).bind fun aQ=>(kV 2 aN).bind fun t101=>(kW false 1 aQ t101).bind fun cH=>(kX 5 cH aF).bind fun cI=>(kV 1 cI).bind fun aR=>(kW true 4 aQ aR).bind fun cJ=>(kX 1 aO aF).bind fun cK=>(kW false 1 aQ cK).bind fun cL=>lK (lU 1 1 [(.slice [] .nil)] [(0,cL)] (rG (mY [0,1] [t101,aR]) aQ)) fun cM bV=>lL (K 59 [(kS.k8 cM)] (rG (mY [0,1] [t101,aR]) (oA (mY [0,1] [t101,aR]) aQ bV))) (fun cN cB=>lL (K 60 [cJ,cN] (oA (mY [0,1] [t101,aR]) (oA (mY [0,1] [t101,aR]) aQ bV) cB)) (fun cO a8=>(kV 2 aN).bind fun cP=>(kW false 1 a8 cP).bind fun cQ=>(kX 5 cQ aF).bind fun cR=>(kV 0 cR).bind fun cS=>(kW false 1 a8 cS).bind fun bY=>(lS bY).bind fun cT=>(lE .sub cT (.int .i64 1)).bind fun cU=>(mQ (ON K (List.length a8)) ([aN,bA,bD,bF,bH,aO,bK,aF,cO,bY,cU],a8)).bind fun aA=>(fun aG aH aI aJ aB aK aZ aC aM bZ b6 bL=>Ex.mC aA.1 none (fun b7=>Ex.inBlock 6 b7 ((kX 1 aB aC).bind fun cV=>(kW false 1 bL cV).bind fun cW=>lL (K 62 [(kS.k8 aM),(kS.k8 cW)] bL) (fun cX bW=>(xZ .not cX).bind fun cY=>(lP cY ((kX 1 aB aC).bind fun cZ=>lK (oZ bW aM) fun c8 cC=>(lT 1 cC cZ c8).bind fun cD=>some (.normal,[aG,aH,aI,aJ,aB,aK,(.bool true),aC],cD)) (some (.normal,[aG,aH,aI,aJ,aB,aK,aZ,aC],bW))).bind fun aD=>(fun bN bO bP bQ bR bS bT bU cE=>Ex.uO aD.1 (some (.normal,[bN,bO,bP,bQ,bR,bS,bT,bU],cE))) (List.getD aD.2.1 0 .junk) (List.getD aD.2.1 1 .junk) (List.getD aD.2.1 2 .junk) (List.getD aD.2.1 3 .junk) (List.getD aD.2.1 4 .junk) (List.getD aD.2.1 5 .junk) (List.getD aD.2.1 6 .junk) (List.getD aD.2.1 7 .junk) aD.2.2) (fun _ _=>none)) (fun b_=>some (b_,[aG,aH,aI,aJ,aB,aK,aZ,aC],bL)))) (List.getD aA.2.1 0 .junk) (List.getD aA.2.1 1 .junk) (List.getD aA.2.1 2 .junk) (List.getD aA.2.1 3 .junk) (List.getD aA.2.1 4 .junk) (List.getD aA.2.1 5 .junk) (List.getD aA.2.1 6 .junk) (List.getD aA.2.1 7 .junk) (List.getD aA.2.1 8 .junk) (List.getD aA.2.1 9 .junk) (List.getD aA.2.1 10 .junk) aA.2.2) (fun _ _=>none)) (fun _ _=>none)) (fun _ _=>none)) (fun dG=>some (dG,[aN,bA,bD,bF,bH,aO,bK,aF],dD)))) (List.getD aL.2.1 0 .junk) (List.getD aL.2.1 1 .junk) (List.getD aL.2.1 2 .junk) (List.getD aL.2.1 3 .junk) (List.getD aL.2.1 4 .junk) (List.getD aL.2.1 5 .junk) (List.getD aL.2.1 6 .junk) (List.getD aL.2.1 7 .junk) (List.getD aL.2.1 8 .junk) (List.getD aL.2.1 9 .junk) (List.getD aL.2.1 10 .junk) (List.getD aL.2.1 11 .junk) aL.2.2) (fun _ _=>none)) (.slice [] (.own (List.length cF))) (cF++[.front 0 0])).bind fun aE=>(fun aS aU aV aW aX aY a6 a7 bX=>Ex.inBlock 3 aE.1 ((lE .sub a7 (.int .i64 1)).bind fun c9=>lJ m .normal [aS,aU,aV,aW,aX,aY,a6,c9] bX) (fun cA=>lJ m cA [aS,aU,aV,aW,aX,aY,a6,a7] bX)) (List.getD aE.2.1 0 .junk) (List.getD aE.2.1 1 .junk) (List.getD aE.2.1 2 .junk) (List.getD aE.2.1 3 .junk) (List.getD aE.2.1 4 .junk) (List.getD aE.2.1 5 .junk) (List.getD aE.2.1 6 .junk) (List.getD aE.2.1 7 .junk) aE.2.2) (lJ m (.exit 2) [aT,a_,bB,bE,bG,bI,bJ,aP] cF)) (List.getD s.1 0 .junk) (List.getD s.1 1 .junk) (List.getD s.1 2 .junk) (List.getD s.1 3 .junk) (List.getD s.1 4 .junk) (List.getD s.1 5 .junk) (List.getD s.1 6 .junk) (List.getD s.1 7 .junk) s.2
noncomputable def OO (K:lD) (m:Nat) (s:List kS×kU):Option R :=
 (fun aE aR aS aT aU aV aW aZ=>lP aW (((kV 2 aE).bind fun bA=>(kW false 1 aZ bA).bind fun bB=>(lS bB).bind fun bD=>(lE .sub bD (.int .i64 1)).bind fun bE=>(mQ (Hs K (List.length aZ)) ([aE,aR,aS,aT,aU,aV,(.bool false),bE],aZ)).bind fun aA=>(fun aC aF aH aJ aL aN aP a_ aX=>Ex.mC aA.1 none (fun a6=>Ex.inBlock 2 a6 (some (.normal,[aC,aF,aH,aJ,aL,aN,aP],aX)) (fun a7=>some (a7,[aC,aF,aH,aJ,aL,aN,aP],aX)))) (List.getD aA.2.1 0 .junk) (List.getD aA.2.1 1 .junk) (List.getD aA.2.1 2 .junk) (List.getD aA.2.1 3 .junk) (List.getD aA.2.1 4 .junk) (List.getD aA.2.1 5 .junk) (List.getD aA.2.1 6 .junk) (List.getD aA.2.1 7 .junk) aA.2.2).bind fun aB=>(fun aD aG aI aK aM aO aQ aY=>Ex.inBlock 1 aB.1 (lJ m .normal [aD,aG,aI,aK,aM,aO,aQ] aY) (fun a8=>lJ m a8 [aD,aG,aI,aK,aM,aO,aQ] aY)) (List.getD aB.2.1 0 .junk) (List.getD aB.2.1 1 .junk) (List.getD aB.2.1 2 .junk) (List.getD aB.2.1 3 .junk) (List.getD aB.2.1 4 .junk) (List.getD aB.2.1 5 .junk) (List.getD aB.2.1 6 .junk) aB.2.2) (lJ m (.exit 0) [aE,aR,aS,aT,aU,aV,aW] aZ)) (List.getD s.1 0 .junk) (List.getD s.1 1 .junk) (List.getD s.1 2 .junk) (List.getD s.1 3 .junk) (List.getD s.1 4 .junk) (List.getD s.1 5 .junk) (List.getD s.1 6 .junk) s.2
noncomputable def OP (K:lD) (m:Nat) (s:List kS×kU):Option R :=
 (fun aI aJ aK aE aF aG aH aB aA aD=>(lE .lss aA aB).bind fun aR=>lP aR ((kX 1 aE aA).bind fun aS=>(kW false 1 aD aS).bind fun aT=>(kX 1 aF aA).bind fun aC=>(kW false 1 aD aC).bind fun aU=>lL (K 63 [(kS.k8 aT)] (rG (mY [0] [aC]) aD)) (fun t240 aL=>lK (lU 1 1 [(.slice [] .nil)] [(0,t240)] (rG (mY [0] [aC]) (oA (mY [0] [aC]) aD aL))) fun t242 aM=>lK (nG 1 24 (rG (mY [0] [aC]) (oA (mY [0] [aC]) (oA (mY [0] [aC]) aD aL) aM)) aG t242) fun aV aN=>lL (K 63 [(kS.k8 aU)] (oA (mY [0] [aC]) (oA (mY [0] [aC]) (oA (mY [0] [aC]) aD aL) aM) aN)) (fun aW aO=>lK (lU 1 1 [(.slice [] .nil)] [(0,aW)] aO) fun aX aP=>lK (nG 1 24 aP aH aX) fun aY aQ=>(lE .add aA (.int .i64 1)).bind fun aZ=>lJ m .normal [aI,aJ,aK,aE,aF,aV,aY,aB,aZ] aQ) (fun _ _=>none)) (fun _ _=>none)) (lJ m (.exit 8) [aI,aJ,aK,aE,aF,aG,aH,aB,aA] aD)) (List.getD s.1 0 .junk) (List.getD s.1 1 .junk) (List.getD s.1 2 .junk) (List.getD s.1 3 .junk) (List.getD s.1 4 .junk) (List.getD s.1 5 .junk) (List.getD s.1 6 .junk) (List.getD s.1 7 .junk) (List.getD s.1 8 .junk) s.2
noncomputable def m27 (K:lD) (a0:kS) (h0:kU):Option (nZ×kU) :=
 (lK (mH 5 h0 a0) fun t0 h1=>(fun(t3:kS) (h2:kU)=>(fun(t5:kS) (h4:kU)=>(kW true 5 h4 t0).bind fun t6=>lL (K 30 [(kS.k8 t6)] h4) (fun t7 h8=>(lE .neq t7 (.int .i64 0)).bind fun t9=>lP t9 ((fun(bK:kS) (bG:kU)=>(fun(bL:kS) (bJ:kU)=>some (.ret,[bK,bL,t7],bJ)) (.slice [] (.own (List.length bG))) (bG++[.front 0 0])) (.slice [] (.own (List.length h8))) (h8++[.front 0 0])) ((kV 2 t0).bind fun t14=>(kW false 1 h8 t14).bind fun bM=>(lS bM).bind fun bN=>lK (qO 1 24 [(.slice [] .nil)] bN h8) fun bO bH=>(kV 2 t0).bind fun bP=>(kW false 1 bH bP).bind fun bQ=>(lS bQ).bind fun bR=>lK (qO 1 24 [(.slice [] .nil)] bR bH) fun bS bI=>(mQ (OO K (List.length bI)) ([t0,t3,t5,(.int .i64 0),bO,bS,(.bool true)],bI)).bind fun H_=>(fun aJ aC aD aE aQ aR bF aH=>Ex.mC H_.1 none (fun aW=>Ex.inBlock 0 aW ((fun(a7:kS) (aS:kU)=>(fun(a8:kS) (aI:kU)=>(kV 2 aJ).bind fun a_=>(kW false 1 aI a_).bind fun bA=>(lS bA).bind fun bB=>(mQ (OP K (List.length aI)) ([aC,aD,aE,aQ,aR,a7,a8,bB,(.int .i64 0)],aI)).bind fun aA=>(fun aK aM aO bD bE aF aG aU aV aT=>Ex.mC aA.1 none (fun aY=>Ex.inBlock 8 aY (some (.ret,[aF,aG,(.int .i64 0)],aT)) (fun aZ=>some (aZ,[aK,aM,aO],aT)))) (List.getD aA.2.1 0 .junk) (List.getD aA.2.1 1 .junk) (List.getD aA.2.1 2 .junk) (List.getD aA.2.1 3 .junk) (List.getD aA.2.1 4 .junk) (List.getD aA.2.1 5 .junk) (List.getD aA.2.1 6 .junk) (List.getD aA.2.1 7 .junk) (List.getD aA.2.1 8 .junk) aA.2.2) (.slice [] (.own (List.length aS))) (aS++[.front 0 0])) (.slice [] (.own (List.length aH))) (aH++[.front 0 0])) (fun aX=>some (aX,[aC,aD,aE],aH)))) (List.getD H_.2.1 0 .junk) (List.getD H_.2.1 1 .junk) (List.getD H_.2.1 2 .junk) (List.getD H_.2.1 3 .junk) (List.getD H_.2.1 4 .junk) (List.getD H_.2.1 5 .junk) (List.getD H_.2.1 6 .junk) H_.2.2)) (fun _ _=>none)) (.slice [] (.own (List.length h2))) (h2++[.front 0 0])) (.slice [] (.own (List.length h1))) (h1++[.front 0 0])).bind fun aB=>(fun aL aN aP a6=>Ex.nK aB.1 (mX (List.length h0) (.tuple [aL,aN,aP]) a6)) (List.getD aB.2.1 0 .junk) (List.getD aB.2.1 1 .junk) (List.getD aB.2.1 2 .junk) aB.2.2
theorem apY (K:lD) (a0:kS) (h0:kU):qA Tryd.prog nA mQ K 27 [a0] h0=m27 (mP nA K) a0 h0:=by kernel_rfl
noncomputable def m58 (K:lD) (a0:kS) (h0:kU):Option (nZ×kU) :=
 (lK (mH 4 h0 a0) fun t0 h1=>(fun(t3:kS) (h2:kU)=>(fun(t5:kS) (h4:kU)=>(kV 0 t0).bind fun t6=>(kW false 1 h4 t6).bind fun t7=>(lE .eql t7 (.int .i64 1)).bind fun t8=>(lP t8 ((kV 2 t0).bind fun t9=>(kW false 1 h4 t9).bind fun aN=>lK (pU 1 1 [(.int .i64 0)] [(0,aN)] h4) fun aO aH=>some (.normal,[t3,aO],aH)) ((lE .eql t7 (.int .i64 2)).bind fun aP=>(lP aP ((kV 2 t0).bind fun t14=>(kW false 1 h4 t14).bind fun aQ=>(kV 3 t0).bind fun aR=>(kW false 1 h4 aR).bind fun aS=>lK (pU 2 1 [(.int .i64 0)] [(0,aQ),(1,aS)] h4) fun aT aI=>some (.normal,[t3,aT],aI)) (some (.normal,[t3,t5],h4))).bind fun aE=>(fun aA aC aJ=>Ex.uO aE.1 (some (.normal,[aA,aC],aJ))) (List.getD aE.2.1 0 .junk) (List.getD aE.2.1 1 .junk) aE.2.2)).bind fun aF=>(fun aG aD aK=>Ex.uO aF.1 (lL (K 120 [(kS.k8 aD),(kS.k8 (.func 121 [] []))] aK) (fun aU aL=>some (.ret,[aU],aL)) (fun _ _=>none))) (List.getD aF.2.1 0 .junk) (List.getD aF.2.1 1 .junk) aF.2.2) (.slice [] (.own (List.length h2))) (h2++[.front 0 0])) (.slice [] (.own (List.length h1))) (h1++[.front 0 0])).bind fun Ib=>(fun aB aM=>Ex.nK Ib.1 (mX (List.length h0) aB aM)) (List.getD Ib.2.1 0 .junk) Ib.2.2
theorem aqE (K:lD) (a0:kS) (h0:kU):qA Tryd.prog nA mQ K 58 [a0] h0=m58 (mP nA K) a0 h0:=by kernel_rfl
noncomputable def Hz (K:lD) (m:Nat) (s:List kS×kU):Option R :=
 (fun aD aB aC aE aF aA aG=>(lS aB).bind fun aJ=>(lS aC).bind fun aK=>(lE .lss aJ aK).bind fun aL=>lP aL (lK (lU 1 1 [(.int .u64 0)] [(0,(.int .u64 0))] aG) fun aM aH=>lK (nJ 1 8 aH aB aM) fun aN aI=>lJ m .normal [aD,aN,aC,aE,aF,aA] aI) (lJ m (.exit 2) [aD,aB,aC,aE,aF,aA] aG)) (List.getD s.1 0 .junk) (List.getD s.1 1 .junk) (List.getD s.1 2 .junk) (List.getD s.1 3 .junk) (List.getD s.1 4 .junk) (List.getD s.1 5 .junk) s.2
noncomputable def HA (K:lD) (m:Nat) (s:List kS×kU):Option R :=
 (fun aF aD aG aH aE aB aC aA aI=>(lE .lss aA aC).bind fun aK=>lP aK ((kX 1 aB aA).bind fun t49=>(kW false 1 aI t49).bind fun t50=>(kX 1 aD aA).bind fun aL=>(kW false 1 aI aL).bind fun aM=>(lE .or aM t50).bind fun aN=>(kX 1 aD aA).bind fun aO=>(lT 1 aI aO aN).bind fun aJ=>(lE .add aA (.int .i64 1)).bind fun aP=>lJ m .normal [aF,aD,aG,aH,aE,aB,aC,aP] aJ) (lJ m (.exit 4) [aF,aD,aG,aH,aE,aB,aC,aA] aI)) (List.getD s.1 0 .junk) (List.getD s.1 1 .junk) (List.getD s.1 2 .junk) (List.getD s.1 3 .junk) (List.getD s.1 4 .junk) (List.getD s.1 5 .junk) (List.getD s.1 6 .junk) (List.getD s.1 7 .junk) s.2
noncomputable def HC (K:lD) (m:Nat) (s:List kS×kU):Option R :=
 (fun aW aX aU aV aA aY=>(lE .lss aA aV).bind fun bH=>lP bH (((kX 1 aU aA).bind fun bI=>(kW false 1 aY bI).bind fun bJ=>(mQ (Hz K (List.length aY)) ([aW,aX,bJ,aU,aV,aA],aY)).bind fun aF=>(fun aG aJ aM aN aQ aB aZ=>Ex.mC aF.1 none (fun bB=>Ex.inBlock 2 bB ((lS aM).bind fun bK=>(mQ (HA K (List.length aZ)) ([aG,aJ,aN,aQ,aB,aM,bK,(.int .i64 0)],aZ)).bind fun aE=>(fun aH aK aO aR aC a6 a7 a8 a_=>Ex.mC aE.1 none (fun bE=>Ex.inBlock 4 bE (some (.normal,[aH,aK,aO,aR,aC],a_)) (fun bF=>some (bF,[aH,aK,aO,aR,aC],a_)))) (List.getD aE.2.1 0 .junk) (List.getD aE.2.1 1 .junk) (List.getD aE.2.1 2 .junk) (List.getD aE.2.1 3 .junk) (List.getD aE.2.1 4 .junk) (List.getD aE.2.1 5 .junk) (List.getD aE.2.1 6 .junk) (List.getD aE.2.1 7 .junk) aE.2.2) (fun bD=>some (bD,[aG,aJ,aN,aQ,aB],aZ)))) (List.getD aF.2.1 0 .junk) (List.getD aF.2.1 1 .junk) (List.getD aF.2.1 2 .junk) (List.getD aF.2.1 3 .junk) (List.getD aF.2.1 4 .junk) (List.getD aF.2.1 5 .junk) aF.2.2).bind fun aT=>(fun aI aL aP aS aD bA=>Ex.inBlock 1 aT.1 ((lE .add aD (.int .i64 1)).bind fun bL=>lJ m .normal [aI,aL,aP,aS,bL] bA) (fun bG=>lJ m bG [aI,aL,aP,aS,aD] bA)) (List.getD aT.2.1 0 .junk) (List.getD aT.2.1 1 .junk) (List.getD aT.2.1 2 .junk) (List.getD aT.2.1 3 .junk) (List.getD aT.2.1 4 .junk) aT.2.2) (lJ m (.exit 0) [aW,aX,aU,aV,aA] aY)) (List.getD s.1 0 .junk) (List.getD s.1 1 .junk) (List.getD s.1 2 .junk) (List.getD s.1 3 .junk) (List.getD s.1 4 .junk) s.2
noncomputable def m59 (K:lD) (a0:kS) (h0:kU):Option (nZ×kU) :=
 ((fun(t1:kS) (h0:kU)=>(fun(t3:kS) (h2:kU)=>(lS a0).bind fun t4=>(mQ (HC K (List.length h2)) ([t1,t3,a0,t4,(.int .i64 0)],h2)).bind fun aA=>(fun aB aD aH aI aF aG=>Ex.mC aA.1 none (fun aJ=>Ex.inBlock 0 aJ (some (.ret,[aD],aG)) (fun aK=>some (aK,[aB],aG)))) (List.getD aA.2.1 0 .junk) (List.getD aA.2.1 1 .junk) (List.getD aA.2.1 2 .junk) (List.getD aA.2.1 3 .junk) (List.getD aA.2.1 4 .junk) aA.2.2) (.slice [] (.own (List.length h0))) (h0++[.front 0 0])) (.slice [] (.own (List.length h0))) (h0++[.front 0 0])).bind fun aE=>(fun aC aL=>Ex.nK aE.1 (some (.ret aC,aL))) (List.getD aE.2.1 0 .junk) aE.2.2
theorem aqF (K:lD) (a0:kS) (h0:kU):qA Tryd.prog nA mQ K 59 [a0] h0=m59 (mP nA K) a0 h0:=by kernel_rfl
noncomputable def m60 (K:lD) (a0 a1:kS) (h0:kU):Option (nZ×kU) :=
 (lK (mH 4 h0 a0) fun t0 h1=>(fun(t3:kS) (h2:kU)=>(kV 0 t0).bind fun t4=>(kW false 1 h2 t4).bind fun t5=>(lE .eql t5 (.int .i64 2)).bind fun t6=>(kT true t6 ((kV 1 t0).bind fun t7=>kY t7 h2) (kY (.tuple []) h2)).bind (kZ (fun t8 h9=>(kT true t6 ((kW false 1 h9 t8).bind fun aG=>kY aG h9) (kY (.tuple []) h9)).bind (kZ (fun aH aD=>(kT true t6 ((lE .geq aH (.int .i64 0)).bind fun aI=>kY aI aD) (kY (.tuple []) aD)).bind (kZ (fun t14 aB=>(mA t6 t14 (.bool false)).bind fun aJ=>lP aJ ((kV 1 t0).bind fun aK=>(kW false 1 aB aK).bind fun aL=>lL (K 122 [a1,aL] aB) (fun aM aE=>some (.ret,[aM],aE)) (fun _ _=>none)) (some (.ret,[a1],aB))) (fun _ _=>none))) (fun _ _=>none))) (fun _ _=>none))) (.slice [] (.own (List.length h1))) (h1++[.front 0 0])).bind fun aC=>(fun aA aF=>Ex.nK aC.1 (some (.ret aA,aF))) (List.getD aC.2.1 0 .junk) aC.2.2
theorem aqG (K:lD) (a0 a1:kS) (h0:kU):qA Tryd.prog nA mQ K 60 [a0,a1] h0=m60 (mP nA K) a0 a1 h0:=by kernel_rfl
noncomputable def Fz (K:lD) (m:Nat) (s:List kS×kU):Option R :=
 (fun aD aE aB aC aA aL=>(lE .lss aA aC).bind fun aP=>lP aP ((kX 1 aB aA).bind fun aQ=>(kW false 1 aL aQ).bind fun aM=>(lE .geq aM (.int .i64 0)).bind fun t39=>(lP t39 (lL (K 122 [aD,aM] aL) (fun aR aN=>some (.normal,[aR,aE,aB,aC,aA],aN)) (fun _ _=>none)) (some (.normal,[aD,aE,aB,aC,aA],aL))).bind fun aF=>(fun aJ aK aG aH aI aO=>Ex.uO aF.1 ((lE .add aI (.int .i64 1)).bind fun t49=>lJ m .normal [aJ,aK,aG,aH,t49] aO)) (List.getD aF.2.1 0 .junk) (List.getD aF.2.1 1 .junk) (List.getD aF.2.1 2 .junk) (List.getD aF.2.1 3 .junk) (List.getD aF.2.1 4 .junk) aF.2.2) (lJ m (.exit 0) [aD,aE,aB,aC,aA] aL)) (List.getD s.1 0 .junk) (List.getD s.1 1 .junk) (List.getD s.1 2 .junk) (List.getD s.1 3 .junk) (List.getD s.1 4 .junk) s.2
noncomputable def m61 (K:lD) (a0 a1:kS) (h0:kU):Option (nZ×kU) :=
 (lK (mH 6 h0 a0) fun t0 h1=>(fun(t3:kS) (h2:kU)=>(kW true 6 h2 t0).bind fun t4=>lL (K 73 [(kS.k8 t4)] h2) (fun t5 h6=>(kT true t5 ((kV 1 t0).bind fun t7=>kY t7 h6) (kY (.tuple []) h6)).bind (kZ (fun t8 h9=>(kT true t5 ((kW false 1 h9 t8).bind fun aU=>kY aU h9) (kY (.tuple []) h9)).bind (kZ (fun aV aM=>(kT true t5 ((lE .geq aV (.int .i64 0)).bind fun aW=>kY aW aM) (kY (.tuple []) aM)).bind (kZ (fun t14 aH=>(mA t5 t14 (.bool false)).bind fun aX=>(lP aX ((kV 1 t0).bind fun aY=>(kW false 1 aH aY).bind fun aZ=>lL (K 123 [(kS.k8 a1),(kS.k8 aZ)] aH) (fun a8 aS=>some (.normal,[a1,t0,t3],aS)) (fun _ _=>none)) (some (.normal,[a1,t0,t3],aH))).bind fun aA=>(fun aB aD aE aN=>Ex.uO aA.1 ((kW true 6 aN aD).bind fun a6=>lL (K 74 [(kS.k8 a6)] aN) (fun t27 aO=>(lS t27).bind fun a7=>(mQ (Fz K (List.length aO)) ([aB,aE,t27,a7,(.int .i64 0)],aO)).bind fun T9=>(fun aC aF aJ aK aL aP=>Ex.mC T9.1 none (fun aQ=>Ex.inBlock 0 aQ (some (.ret,[aC],aP)) (fun aR=>some (aR,[aF],aP)))) (List.getD T9.2.1 0 .junk) (List.getD T9.2.1 1 .junk) (List.getD T9.2.1 2 .junk) (List.getD T9.2.1 3 .junk) (List.getD T9.2.1 4 .junk) T9.2.2) (fun _ _=>none))) (List.getD aA.2.1 0 .junk) (List.getD aA.2.1 1 .junk) (List.getD aA.2.1 2 .junk) aA.2.2) (fun _ _=>none))) (fun _ _=>none))) (fun _ _=>none))) (fun _ _=>none)) (.slice [] (.own (List.length h1))) (h1++[.front 0 0])).bind fun aI=>(fun aG aT=>Ex.nK aI.1 (some (.ret aG,aT))) (List.getD aI.2.1 0 .junk) aI.2.2
theorem aqH (K:lD) (a0 a1:kS) (h0:kU):qA Tryd.prog nA mQ K 61 [a0,a1] h0=m61 (mP nA K) a0 a1 h0:=by kernel_rfl
noncomputable def m62 (K:lD) (a0 a1:kS) (h0:kU):Option (nZ×kU) :=
 (lL (K 63 [(kS.k8 a0)] h0) (fun t0 h1=>lL (K 63 [(kS.k8 a1)] h1) (fun t2 h3=>lL (K 124 [(kS.k8 t0),(kS.k8 t2)] h3) (fun t4 h5=>some (.ret,[t4],h5)) (fun _ _=>none)) (fun _ _=>none)) (fun _ _=>none)).bind fun r6=>(fun aA h8=>Ex.nK r6.1 (mX (List.length h0) aA h8)) (List.getD r6.2.1 0 .junk) r6.2.2
theorem aqI (K:lD) (a0 a1:kS) (h0:kU):qA Tryd.prog nA mQ K 62 [a0,a1] h0=m62 (mP nA K) a0 a1 h0:=by kernel_rfl
noncomputable def HH (K:lD) (m:Nat) (s:List kS×kU):Option R :=
 (fun aC aD aB aA aE aF aG aH=>(lE .neq aA (.int .u64 0)).bind fun aL=>lP aL ((lE .mul (.int .i64 64) aB).bind fun aM=>lL (K 125 [(kS.k8 aA)] aH) (fun aN aI=>(lE .add aM aN).bind fun aO=>lK (lU 1 1 [(.int .i64 0)] [(0,aO)] aI) fun t27 aJ=>lK (nG 1 8 aJ aD t27) fun aP aK=>(lE .sub aA (.int .u64 1)).bind fun aQ=>(lE .and aA aQ).bind fun aR=>lJ m .normal [aC,aP,aB,aR,aE,aF,aG] aK) (fun _ _=>none)) (lJ m (.exit 2) [aC,aD,aB,aA,aE,aF,aG] aH)) (List.getD s.1 0 .junk) (List.getD s.1 1 .junk) (List.getD s.1 2 .junk) (List.getD s.1 3 .junk) (List.getD s.1 4 .junk) (List.getD s.1 5 .junk) (List.getD s.1 6 .junk) s.2
noncomputable def HJ (K:lD) (m:Nat) (s:List kS×kU):Option R :=
 (fun aO aP aM aN aA aQ=>(lE .lss aA aN).bind fun aY=>lP aY (((kX 1 aM aA).bind fun aZ=>(kW false 1 aQ aZ).bind fun a6=>(mQ (HH K (List.length aQ)) ([aO,aP,aA,a6,aM,aN,aA],aQ)).bind fun aB=>(fun aC aE aT aU aG aI aK aR=>Ex.mC aB.1 none (fun aV=>Ex.inBlock 2 aV (some (.normal,[aC,aE,aG,aI,aK],aR)) (fun aW=>some (aW,[aC,aE,aG,aI,aK],aR)))) (List.getD aB.2.1 0 .junk) (List.getD aB.2.1 1 .junk) (List.getD aB.2.1 2 .junk) (List.getD aB.2.1 3 .junk) (List.getD aB.2.1 4 .junk) (List.getD aB.2.1 5 .junk) (List.getD aB.2.1 6 .junk) aB.2.2).bind fun F6=>(fun aD aF aH aJ aL aS=>Ex.inBlock 1 F6.1 ((lE .add aL (.int .i64 1)).bind fun a7=>lJ m .normal [aD,aF,aH,aJ,a7] aS) (fun aX=>lJ m aX [aD,aF,aH,aJ,aL] aS)) (List.getD F6.2.1 0 .junk) (List.getD F6.2.1 1 .junk) (List.getD F6.2.1 2 .junk) (List.getD F6.2.1 3 .junk) (List.getD F6.2.1 4 .junk) F6.2.2) (lJ m (.exit 0) [aO,aP,aM,aN,aA] aQ)) (List.getD s.1 0 .junk) (List.getD s.1 1 .junk) (List.getD s.1 2 .junk) (List.getD s.1 3 .junk) (List.getD s.1 4 .junk) s.2
noncomputable def m63 (K:lD) (a0:kS) (h0:kU):Option (nZ×kU) :=
 ((fun(t1:kS) (h0:kU)=>(fun(t3:kS) (h2:kU)=>(lS a0).bind fun t4=>(mQ (HJ K (List.length h2)) ([t1,t3,a0,t4,(.int .i64 0)],h2)).bind fun aA=>(fun aB aD aG aH aI aF=>Ex.mC aA.1 none (fun aJ=>Ex.inBlock 0 aJ (some (.ret,[aD],aF)) (fun aK=>some (aK,[aB],aF)))) (List.getD aA.2.1 0 .junk) (List.getD aA.2.1 1 .junk) (List.getD aA.2.1 2 .junk) (List.getD aA.2.1 3 .junk) (List.getD aA.2.1 4 .junk) aA.2.2) (.slice [] (.own (List.length h0))) (h0++[.front 0 0])) (.slice [] (.own (List.length h0))) (h0++[.front 0 0])).bind fun aE=>(fun aC aL=>Ex.nK aE.1 (mX (List.length h0) aC aL)) (List.getD aE.2.1 0 .junk) aE.2.2
theorem aqJ (K:lD) (a0:kS) (h0:kU):qA Tryd.prog nA mQ K 63 [a0] h0=m63 (mP nA K) a0 h0:=by kernel_rfl
noncomputable def CA (K:lD) (m:Nat) (s:List kS×kU):Option R :=
 (fun aB aC aF aD aA aM=>(lS aB).bind fun aR=>(lE .lss aA aR).bind fun aS=>lP aS ((kX 1 aB aA).bind fun t14=>(kW false 1 aM t14).bind fun aO=>(sK aC).bind fun aL=>lL (zV nA K aL.1 (uS nA aL.1 (aL.2.1++[aO]++aL.2.2)) aM) (fun aT aN=>(xZ .not aT).bind fun aU=>(lP aU ((kX 1 aB aD).bind fun aV=>(lT 1 aN aV aO).bind fun aP=>(lE .add aD (.int .i64 1)).bind fun aW=>some (.normal,[aB,aC,aF,aW,aA],aP)) (some (.normal,[aB,aC,aF,aD,aA],aN))).bind fun aE=>(fun aG aH aI aJ aK aQ=>Ex.uO aE.1 ((lE .add aK (.int .i64 1)).bind fun t30=>lJ m .normal [aG,aH,aI,aJ,t30] aQ)) (List.getD aE.2.1 0 .junk) (List.getD aE.2.1 1 .junk) (List.getD aE.2.1 2 .junk) (List.getD aE.2.1 3 .junk) (List.getD aE.2.1 4 .junk) aE.2.2) (fun _ _=>none)) (lJ m (.exit 0) [aB,aC,aF,aD,aA] aM)) (List.getD s.1 0 .junk) (List.getD s.1 1 .junk) (List.getD s.1 2 .junk) (List.getD s.1 3 .junk) (List.getD s.1 4 .junk) s.2
noncomputable def agH (K:lD) (a0 a1:kS) (h0:kU):Option (nZ×kU) :=
 ((fun(t1:kS) (h0:kU)=>lL (K 174 [(kS.k8 a0),(kS.k8 a1)] h0) (fun t2 h3=>(lE .eql t2 (.int .i64 (-1))).bind fun t4=>lP t4 (some (.ret,[a0],h3)) ((lE .add t2 (.int .i64 1)).bind fun t5=>(mQ (CA K (List.length h3)) ([a0,a1,t1,t2,t5],h3)).bind fun aC=>(fun aA aH aD aB aI aG=>Ex.mC aC.1 none (fun aJ=>Ex.inBlock 0 aJ ((nX 1 aA (some aB) none).bind fun aN=>(Fg 1 [(.int .i64 0)] aG aN).bind fun aL=>(nX 1 aA none (some aB)).bind fun aO=>some (.ret,[aO],aL)) (fun aK=>some (aK,[aD],aG)))) (List.getD aC.2.1 0 .junk) (List.getD aC.2.1 1 .junk) (List.getD aC.2.1 2 .junk) (List.getD aC.2.1 3 .junk) (List.getD aC.2.1 4 .junk) aC.2.2)) (fun _ _=>none)) (.slice [] (.own (List.length h0))) (h0++[.front 0 0])).bind fun aF=>(fun aE aM=>Ex.nK aF.1 (mX (List.length h0) aE aM)) (List.getD aF.2.1 0 .junk) aF.2.2
theorem Oz (K:lD) (a0 a1:kS) (h0:kU):qA Tryd.prog nA mQ K 120 [a0,a1] h0=agH (mP nA K) a0 a1 h0:=by kernel_rfl
noncomputable def axY (K:lD) (a0:kS) (h0:kU):Option (nZ×kU) :=
 ((lE .eql a0 (.int .i64 (-1))).bind fun t0=>some (.ret,[t0],h0)).bind fun r1=>(fun aA h3=>Ex.nK r1.1 (mX (List.length h0) aA h3)) (List.getD r1.2.1 0 .junk) r1.2.2
theorem agJ (K:lD) (a0:kS) (h0:kU):qA Tryd.prog nA mQ K 121 [a0] h0=axY (mP nA K) a0 h0:=by kernel_rfl
noncomputable def Eo (K:lD) (m:Nat) (s:List kS×kU):Option R :=
 (fun aA aB aC h5=>(lE .quo aB (.int .i64 64)).bind fun t6=>(lS aA).bind fun t7=>(lE .geq t6 t7).bind fun t8=>lP t8 (lK (lU 1 1 [(.int .u64 0)] [(0,(.int .u64 0))] h5) fun t9 aD=>lK (nJ 1 8 aD aA t9) fun aF aE=>lJ m .normal [aF,aB,aC] aE) (lJ m (.exit 0) [aA,aB,aC] h5)) (List.getD s.1 0 .junk) (List.getD s.1 1 .junk) (List.getD s.1 2 .junk) s.2
noncomputable def axZ (K:lD) (a0 a1:kS) (h0:kU):Option (nZ×kU) :=
 ((fun(t1:kS) (h0:kU)=>(mQ (Eo K (List.length h0)) ([a0,a1,t1],h0)).bind fun aC=>(fun aA aB aD aF=>Ex.mC aC.1 none (fun aI=>Ex.inBlock 0 aI ((lE .quo aB (.int .i64 64)).bind fun aH=>(kX 1 aA aH).bind fun aM=>(kW false 1 aF aM).bind fun aN=>(lE .rem aB (.int .i64 64)).bind fun aO=>(lE .shl (.int .u64 1) aO).bind fun aP=>(lE .or aN aP).bind fun aQ=>(kX 1 aA aH).bind fun aR=>(lT 1 aF aR aQ).bind fun aK=>some (.ret,[aA],aK)) (fun aJ=>some (aJ,[aD],aF)))) (List.getD aC.2.1 0 .junk) (List.getD aC.2.1 1 .junk) (List.getD aC.2.1 2 .junk) aC.2.2) (.slice [] (.own (List.length h0))) (h0++[.front 0 0])).bind fun aG=>(fun aE aL=>Ex.nK aG.1 (some (.ret aE,aL))) (List.getD aG.2.1 0 .junk) aG.2.2
theorem agK (K:lD) (a0 a1:kS) (h0:kU):qA Tryd.prog nA mQ K 122 [a0,a1] h0=axZ (mP nA K) a0 a1 h0:=by kernel_rfl
noncomputable def ax0 (K:lD) (a0 a1:kS) (h0:kU):Option (nZ×kU) :=
 ((lE .quo a1 (.int .i64 64)).bind fun t0=>(lS a0).bind fun t1=>(lE .lss t0 t1).bind fun t2=>(lP t2 ((lE .quo a1 (.int .i64 64)).bind fun t3=>(kX 1 a0 t3).bind fun t4=>(kW false 1 h0 t4).bind fun t5=>(lE .rem a1 (.int .i64 64)).bind fun t6=>(lE .shl (.int .u64 1) t6).bind fun t7=>(lE .andNot t5 t7).bind fun t8=>(kX 1 a0 t3).bind fun t9=>(lT 1 h0 t9 t8).bind fun aC=>some (.normal,[],aC)) (some (.normal,[],h0))).bind fun aA=>(fun aD=>Ex.uO aA.1 (some (.normal,[],aD)))  aA.2.2).bind fun aB=>(fun aE=>Ex.nK aB.1 (mX (List.length h0) (.tuple []) aE))  aB.2.2
theorem agL (K:lD) (a0 a1:kS) (h0:kU):qA Tryd.prog nA mQ K 123 [a0,a1] h0=ax0 (mP nA K) a0 a1 h0:=by kernel_rfl
noncomputable def GB (K:lD) (m:Nat) (s:List kS×kU):Option R :=
 (fun aC aD aE aB aA h9=>(lE .lss aA aB).bind fun aF=>lP aF ((kX 1 aC aA).bind fun aG=>(kW false 1 h9 aG).bind fun aH=>(kX 1 aD aA).bind fun aI=>(kW false 1 h9 aI).bind fun t14=>(lE .neq aH t14).bind fun aJ=>lP aJ (lJ m .ret [aC,aD,(.bool false),aB,aA] h9) ((lE .add aA (.int .i64 1)).bind fun aK=>lJ m .normal [aC,aD,aE,aB,aK] h9)) (lJ m (.exit 0) [aC,aD,aE,aB,aA] h9)) (List.getD s.1 0 .junk) (List.getD s.1 1 .junk) (List.getD s.1 2 .junk) (List.getD s.1 3 .junk) (List.getD s.1 4 .junk) s.2
noncomputable def aoV (K:lD) (a0 a1:kS) (h0:kU):Option (nZ×kU) :=
 ((lS a0).bind fun t0=>(lS a1).bind fun t1=>(lE .neq t0 t1).bind fun t2=>lP t2 (some (.ret,[(.bool false)],h0)) ((lS a0).bind fun t3=>(mQ (GB K (List.length h0)) ([a0,a1,(.bool false),t3,(.int .i64 0)],h0)).bind fun aA=>(fun aG aH aB aD aE aF=>Ex.mC aA.1 none (fun aI=>Ex.inBlock 0 aI (some (.ret,[(.bool true)],aF)) (fun aJ=>some (aJ,[aB],aF)))) (List.getD aA.2.1 0 .junk) (List.getD aA.2.1 1 .junk) (List.getD aA.2.1 2 .junk) (List.getD aA.2.1 3 .junk) (List.getD aA.2.1 4 .junk) aA.2.2)).bind fun T8=>(fun aC aK=>Ex.nK T8.1 (mX (List.length h0) aC aK)) (List.getD T8.2.1 0 .junk) T8.2.2
theorem agM (K:lD) (a0 a1:kS) (h0:kU):qA Tryd.prog nA mQ K 124 [a0,a1] h0=aoV (mP nA K) a0 a1 h0:=by kernel_rfl
noncomputable def agN (K:lD) (a0:kS) (h0:kU):Option (nZ×kU) :=
 ((lE .eql a0 (.int .u64 0)).bind fun t0=>lP t0 (some (.ret,[(.int .i64 64)],h0)) ((xZ .neg a0).bind fun t1=>(lE .and a0 t1).bind fun t2=>(lE .mul t2 (.int .u64 285870213051353865)).bind fun t3=>(lE .shr t3 (.int .u64 58)).bind fun t4=>(uD 64 1 (.pptr yN) t4).bind fun t5=>(kW false 1 h0 t5).bind fun t6=>(rR .i64 t6).bind fun t7=>some (.ret,[t7],h0))).bind fun r8=>(fun aA aB=>Ex.nK r8.1 (mX (List.length h0) aA aB)) (List.getD r8.2.1 0 .junk) r8.2.2
theorem agQ (K:lD) (a0:kS) (h0:kU):qA Tryd.prog nA mQ K 125 [a0] h0=agN (mP nA K) a0 h0:=by kernel_rfl
noncomputable def Ag (K:lD) (m:Nat) (s:List kS×kU):Option R :=
 (fun aB aC aE aD aA h6=>(lE .lss aA aD).bind fun t7=>lP t7 ((kX 1 aB aA).bind fun t8=>(kW false 1 h6 t8).bind fun t9=>(sK aC).bind fun aF=>lL (zV nA K aF.1 (uS nA aF.1 (aF.2.1++[t9]++aF.2.2)) h6) (fun aH aG=>lP aH (lJ m .ret [aB,aC,aA,aD,aA] aG) ((lE .add aA (.int .i64 1)).bind fun aI=>lJ m .normal [aB,aC,aE,aD,aI] aG)) (fun _ _=>none)) (lJ m (.exit 0) [aB,aC,aE,aD,aA] h6)) (List.getD s.1 0 .junk) (List.getD s.1 1 .junk) (List.getD s.1 2 .junk) (List.getD s.1 3 .junk) (List.getD s.1 4 .junk) s.2
noncomputable def ao9 (K:lD) (a0 a1:kS) (h0:kU):Option (nZ×kU) :=
 ((lS a0).bind fun t0=>(mQ (Ag K (List.length h0)) ([a0,a1,(.int .i64 0),t0,(.int .i64 0)],h0)).bind fun aA=>(fun aF aG aB aH aI aE=>Ex.mC aA.1 none (fun aJ=>Ex.inBlock 0 aJ (some (.ret,[(.int .i64 (-1))],aE)) (fun aK=>some (aK,[aB],aE)))) (List.getD aA.2.1 0 .junk) (List.getD aA.2.1 1 .junk) (List.getD aA.2.1 2 .junk) (List.getD aA.2.1 3 .junk) (List.getD aA.2.1 4 .junk) aA.2.2).bind fun aD=>(fun aC aL=>Ex.nK aD.1 (mX (List.length h0) aC aL)) (List.getD aD.2.1 0 .junk) aD.2.2
theorem Vf (K:lD) (a0 a1:kS) (h0:kU):qA Tryd.prog nA mQ K 174 [a0,a1] h0=ao9 (mP nA K) a0 a1 h0:=by kernel_rfl
noncomputable def KX (K:lD) (m:Nat) (s:List kS×kU):Option R :=
 (fun aA aD aC aB h6=>(kV 2 aA).bind fun t7=>(kW false 1 h6 t7).bind fun t8=>(lS t8).bind fun t9=>(lE .lss aB t9).bind fun aF=>(kT true aF (kY aC h6) (kY (.tuple []) h6)).bind (kZ (fun aH aG=>(kT true aF ((lE .leq aH (.int .i64 300)).bind fun aI=>kY aI aG) (kY (.tuple []) aG)).bind (kZ (fun t14 aE=>(mA aF t14 (.bool false)).bind fun aJ=>lP aJ ((lE .add aC (.int .i64 1)).bind fun aK=>(kV 2 aA).bind fun aL=>(kW false 1 aE aL).bind fun aM=>(kX 5 aM aB).bind fun aN=>(kV 0 aN).bind fun aO=>(kW false 1 aE aO).bind fun aP=>(lS aP).bind fun aQ=>(xO aQ (.int .i64 500)).bind fun aR=>(lE .add aK aR).bind fun aS=>(lE .add aB (.int .i64 1)).bind fun aT=>lJ m .normal [aA,aD,aS,aT] aE) (lJ m (.exit 0) [aA,aD,aC,aB] aE)) (fun _ _=>none))) (fun _ _=>none))) (List.getD s.1 0 .junk) (List.getD s.1 1 .junk) (List.getD s.1 2 .junk) (List.getD s.1 3 .junk) s.2
noncomputable def m25 (K:lD) (a0:kS) (h0:kU):Option (nZ×kU) :=
 (lK (mH 5 h0 a0) fun t0 h1=>(mQ (KX K (List.length h1)) ([t0,(.bool false),(.int .i64 0),(.int .i64 0)],h1)).bind fun EW=>(fun aA aB aD aJ aF=>Ex.mC EW.1 none (fun aK=>Ex.inBlock 0 aK ((lE .leq aD (.int .i64 300)).bind fun aE=>(kT true aE ((kV 0 aA).bind fun aO=>kY aO aF) (kY (.tuple []) aF)).bind (kZ (fun aP aG=>(kT true aE ((kW false 1 aG aP).bind fun t39=>kY t39 aG) (kY (.tuple []) aG)).bind (kZ (fun aQ aI=>(kT true aE ((lE .leq aQ (.int .i64 60)).bind fun aR=>kY aR aI) (kY (.tuple []) aI)).bind (kZ (fun aS aM=>(mA aE aS (.bool false)).bind fun aT=>some (.ret,[aT],aM)) (fun _ _=>none))) (fun _ _=>none))) (fun _ _=>none))) (fun aL=>some (aL,[aB],aF)))) (List.getD EW.2.1 0 .junk) (List.getD EW.2.1 1 .junk) (List.getD EW.2.1 2 .junk) (List.getD EW.2.1 3 .junk) EW.2.2).bind fun aH=>(fun aC aN=>Ex.nK aH.1 (mX (List.length h0) aC aN)) (List.getD aH.2.1 0 .junk) aH.2.2
theorem apX (K:lD) (a0:kS) (h0:kU):qA Tryd.prog nA mQ K 25 [a0] h0=m25 (mP nA K) a0 h0:=by kernel_rfl
noncomputable def OV (K:lD) (m:Nat) (s:List kS×kU):Option R :=
 (fun aE aD aF aC aA aB aG=>(lS aD).bind fun t14=>(lE .lss aB t14).bind fun aQ=>lP aQ ((kT false aA (kY aE aG) (kY (.tuple []) aG)).bind (kZ (fun aR aJ=>(kT false aA (kY aC aJ) (kY (.tuple []) aJ)).bind (kZ (fun aS aK=>(kT false aA ((kX 1 aR aS).bind fun aT=>kY aT aK) (kY (.tuple []) aK)).bind (kZ (fun aU aH=>(kT false aA ((kW false 1 aH aU).bind fun aV=>kY aV aH) (kY (.tuple []) aH)).bind (kZ (fun aW aL=>(kT false aA (kY aD aL) (kY (.tuple []) aL)).bind (kZ (fun aX aM=>(kT false aA (kY aB aM) (kY (.tuple []) aM)).bind (kZ (fun aY aN=>(kT false aA ((kX 1 aX aY).bind fun t30=>kY t30 aN) (kY (.tuple []) aN)).bind (kZ (fun aZ aI=>(kT false aA ((kW false 1 aI aZ).bind fun a6=>kY a6 aI) (kY (.tuple []) aI)).bind (kZ (fun a7 aO=>(kT false aA ((lE .eql aW a7).bind fun a8=>kY a8 aO) (kY (.tuple []) aO)).bind (kZ (fun a_ aP=>(mA aA (.bool true) a_).bind fun t39=>(lE .add aB (.int .i64 1)).bind fun bA=>lJ m .normal [aE,aD,aF,aC,t39,bA] aP) (fun _ _=>none))) (fun _ _=>none))) (fun _ _=>none))) (fun _ _=>none))) (fun _ _=>none))) (fun _ _=>none))) (fun _ _=>none))) (fun _ _=>none))) (fun _ _=>none))) (lJ m (.exit 2) [aE,aD,aF,aC,aA,aB] aG)) (List.getD s.1 0 .junk) (List.getD s.1 1 .junk) (List.getD s.1 2 .junk) (List.getD s.1 3 .junk) (List.getD s.1 4 .junk) (List.getD s.1 5 .junk) s.2
noncomputable def Hv (K:lD) (m:Nat) (s:List kS×kU):Option R :=
 (fun aJ aM aN aK h4=>(lS aJ).bind fun t5=>(lE .lss aK t5).bind fun t6=>lP t6 (((mQ (OV K (List.length h4)) ([aJ,aM,aN,aK,(.bool false),(.int .i64 0)],h4)).bind fun aD=>(fun aA aB aG aC aO aR aP=>Ex.mC aD.1 none (fun aS=>Ex.inBlock 2 aS ((xZ .not aO).bind fun aV=>lP aV (some (.ret,[aA,aB,(.bool false),aC],aP)) (some (.normal,[aA,aB,aG,aC],aP))) (fun aT=>some (aT,[aA,aB,aG,aC],aP)))) (List.getD aD.2.1 0 .junk) (List.getD aD.2.1 1 .junk) (List.getD aD.2.1 2 .junk) (List.getD aD.2.1 3 .junk) (List.getD aD.2.1 4 .junk) (List.getD aD.2.1 5 .junk) aD.2.2).bind fun aL=>(fun aE aF aH aI aQ=>Ex.inBlock 1 aL.1 ((lE .add aI (.int .i64 1)).bind fun aW=>lJ m .normal [aE,aF,aH,aW] aQ) (fun aU=>lJ m aU [aE,aF,aH,aI] aQ)) (List.getD aL.2.1 0 .junk) (List.getD aL.2.1 1 .junk) (List.getD aL.2.1 2 .junk) (List.getD aL.2.1 3 .junk) aL.2.2) (lJ m (.exit 0) [aJ,aM,aN,aK] h4)) (List.getD s.1 0 .junk) (List.getD s.1 1 .junk) (List.getD s.1 2 .junk) (List.getD s.1 3 .junk) s.2
noncomputable def m32 (K:lD) (a0 a1:kS) (h0:kU):Option (nZ×kU) :=
 ((mQ (Hv K (List.length h0)) ([a0,a1,(.bool false),(.int .i64 0)],h0)).bind fun aA=>(fun aF aG aB aH aE=>Ex.mC aA.1 none (fun aI=>Ex.inBlock 0 aI (some (.ret,[(.bool true)],aE)) (fun aJ=>some (aJ,[aB],aE)))) (List.getD aA.2.1 0 .junk) (List.getD aA.2.1 1 .junk) (List.getD aA.2.1 2 .junk) (List.getD aA.2.1 3 .junk) aA.2.2).bind fun aD=>(fun aC aK=>Ex.nK aD.1 (mX (List.length h0) aC aK)) (List.getD aD.2.1 0 .junk) aD.2.2
theorem aaK (K:lD) (a0 a1:kS) (h0:kU):qA Tryd.prog nA mQ K 32 [a0,a1] h0=m32 (mP nA K) a0 a1 h0:=by kernel_rfl
end Go.Proofs.YtkeoalhglkfbkaaDoor


namespace Go.Proofs.YtkeoalhglkfbkaaDoor
open Go Hk
theorem zY {a:Nat}(h:a≤9223372036854775806):IntKind.wrap .i64 ((a:Int)+1)=(a:Int)+1:=by rw [wrap64] <;> omega
def vF:List lR→Int
 | []=>0
 | b::r=>(b.ops.length:Int)+vF r
theorem GM:∀l,0≤vF l
 | []=>Int.le_refl _
 | b::r=>by have:=GM r; simp only [vF]; omega
def wM (x:mL):Int:=if oR x=true∧x.kind=0 then GX (x.elem * x.len) else 0
theorem tC {x:mL}(h:oR x=true):1≤x.elem * x.len∧x.elem * x.len≤65536:=by
 simp only [oR,Bool.and_eq_true,Bool.or_eq_true,decide_eq_true_eq] at h
 obtain⟨h1,h2,h3⟩:=h
 rcases h1 with h1 | h1 <;> rw [h1] <;> omega
theorem Ps (x:mL):0≤wM x∧wM x≤65536:=by
 unfold wM
 split
 ·rename_i h
  have:=tC h.1
  unfold GX; omega
 ·omega
def vN:List mL→Int
 | []=>0
 | x::r=>wM x+vN r
theorem As:∀l,0≤vN l
 | []=>Int.le_refl _
 | x::r=>by have:=As r; have:=Ps x; simp only [vN]; omega
def pC (p:IR):Bool:=decide (p.temps≤1048576) && decide ((p.arrays.length:Int)≤1048576) && decide ((p.blocks.length:Int)≤1048576) && decide (vF p.blocks≤1048576) && decide (max p.out 0+vN p.arrays≤65536)
theorem Xg (B:List lR) (hB:B.length≤1048576) (P:List kS) (by_:Int) (hh:∀C,mS 1 (.cells P::C)=some [.cells P]):∀(n i:Nat) (acc:Int),B.length < i+n→i≤B.length→0≤acc→acc≤1048576 →
  ∃(e:Ex) (acc':Int) (j:Int),mQ (Lg KK 1) ([.ptr 0 0,.bool false,.int .i64 acc,.int .i64 by_,.slice (B.map lR.cells) .no,.int .i64 (B.length:Int),.int .i64 (i:Int)],[.cells P]) =
   some (e,[.ptr 0 0,.bool false,.int .i64 acc',.int .i64 by_,.slice (B.map lR.cells) .no,.int .i64 (B.length:Int),.int .i64 j],[.cells P]) ∧
   (e=.ret∧¬acc+vF (B.drop i)≤1048576∨e=.exit 0∧acc+vF (B.drop i)≤1048576):=by
 have q0:∀h,kS.oH 1 h (.ptr 0 0)=.ptr 0 0:=fun h=>lW (by omega)
 intro n
 induction n with
 | zero=>intro i acc a1 a2; omega
 | succ n ih =>
  intro i acc a1 a2 h1 h2
  rw [mW]
  by_cases hi:i < B.length
  ·have hi':(i:Int) < B.length:=by omega
   have hx:B[i]?=some B[i]:=List.getElem?_eq_getElem hi
   have w1:=zY (a:=i) (by omega)
   rw [List.drop_eq_getElem_cons hi]
   generalize B[i]=y at *
   have w2:IntKind.i64.wrap (1048576 - acc)=1048576 - acc:=by rw [wrap64] <;> omega
   have hnn:=GM (B.drop (i+1))
   by_cases hg:1048576 - acc < (y.ops.length:Int)
   ·refine⟨.ret,acc,i,?_,.inl ⟨rfl,by simp only [vF]; omega⟩⟩
    simp [Lg,hi',hx,lR.cells,w2,hg,lJ,hh,q0]
   ·have w3:IntKind.i64.wrap (acc+(y.ops.length:Int))=acc+(y.ops.length:Int):=by rw [wrap64] <;> omega
    obtain⟨e,acc',j,g1,g2⟩:=ih (i+1) (acc+y.ops.length) (by omega) hi (by omega) (by omega)
    refine⟨e,acc',j,?_,?_⟩
    ·simp only [Int.natCast_add,Int.cast_ofNat_Int] at g1
     rw [←g1]
     simp [Lg,hi',hx,lR.cells,w1,w2,w3,hg,lJ,hh,q0]
    ·simpa [vF,Int.add_assoc] using g2
  ·have hi':¬(i:Int) < B.length:=by omega
   have:B.drop i=[]:=List.drop_eq_nil_of_le (by omega)
   rw [this]
   refine⟨.exit 0,acc,i,?_,.inr ⟨rfl,by simp only [vF]; omega⟩⟩
   simp [Lg,hi',lJ,hh,q0]
theorem Xh (A:List mL) (hA:A.length≤1048576) (P:List kS) (hh:∀C,mS 1 (.cells P::C)=some [.cells P]):∀(n i:Nat) (acc:Int),A.length < i+n→i≤A.length→0≤acc→acc≤65537 →
  ∃(e:Ex) (acc':Int) (j:Int),mQ (AL KK 1) ([.bool false,.int .i64 acc,.slice (A.map mL.cells) .no,.int .i64 (A.length:Int),.int .i64 (i:Int)],[.cells P]) =
   some (e,[.bool false,.int .i64 acc',.slice (A.map mL.cells) .no,.int .i64 (A.length:Int),.int .i64 j],[.cells P]) ∧
   (e=.ret∧¬acc+vN (A.drop i)≤65536∨e=.exit 2∧acc'=acc+vN (A.drop i)):=by
 intro n
 induction n with
 | zero=>intro i acc a1 a2; omega
 | succ n ih =>
  intro i acc a1 a2 h1 h2
  rw [mW]
  by_cases hi:i < A.length
  ·have hi':(i:Int) < A.length:=by omega
   have hx:A[i]?=some A[i]:=List.getElem?_eq_getElem hi
   have w1:=zY (a:=i) (by omega)
   rw [List.drop_eq_getElem_cons hi]
   generalize A[i]=y at *
   have hnn:=As (A.drop (i+1))
   have hr:=Ps y
   have h132:=awL y
   have step:∃acc1,acc1=acc+wM y∧(¬acc1≤65536→AL KK 1 ([.bool false,.int .i64 acc,.slice (A.map mL.cells) .no,.int .i64 (A.length:Int),.int .i64 (i:Int)],[.cells P])=some (.ret,[.bool false,.int .i64 acc1,.slice (A.map mL.cells) .no,.int .i64 (A.length:Int),.int .i64 (i:Int)],[.cells P])) ∧
     (acc1≤65536→AL KK 1 ([.bool false,.int .i64 acc,.slice (A.map mL.cells) .no,.int .i64 (A.length:Int),.int .i64 (i:Int)],[.cells P])=some (.normal,[.bool false,.int .i64 acc1,.slice (A.map mL.cells) .no,.int .i64 (A.length:Int),.int .i64 ((i:Int)+1)],[.cells P])):=by
    refine⟨_,rfl,?_,?_⟩ <;> intro hle <;> cases hs:oR y
    ·have e0:wM y=0:=by simp [wM,hs]
     rw [e0,Int.add_zero] at hle ⊢
     have hg:65536 < acc:=by omega
     simp only [hs,mL.cells] at h132
     simp [AL,hi',hx,mL.cells,h132,hg,lJ,hh]
    ·have hm:=tC hs
     simp only [hs,mL.cells] at h132
     by_cases hk:y.kind=0
     ·have e0:wM y=GX (y.elem * y.len):=by simp [wM,hs,hk]
      rw [hk] at h132
      have h133:=anU (y.elem * y.len) (by omega) (by omega)
      have hu:0≤GX (y.elem * y.len)∧GX (y.elem * y.len)≤65536:=by rw [←e0]; exact hr
      have w2:IntKind.i64.wrap (y.elem * y.len)=y.elem * y.len:=by rw [wrap64] <;> omega
      rw [e0] at hle ⊢
      generalize GX (y.elem * y.len)=u at *
      have w3:IntKind.i64.wrap (acc+u)=acc+u:=by rw [wrap64] <;> omega
      have hg:65536 < acc+u:=by omega
      simp [AL,hi',hx,mL.cells,h132,h133,hk,w2,w3,hg,lJ,hh]
     ·have e0:wM y=0:=by simp [wM,hk]
      rw [e0,Int.add_zero] at hle ⊢
      have hg:65536 < acc:=by omega
      simp [AL,hi',hx,mL.cells,h132,hk,hg,lJ,hh]
    ·have e0:wM y=0:=by simp [wM,hs]
     rw [e0,Int.add_zero] at hle ⊢
     have hg:¬65536 < acc:=by omega
     simp only [hs,mL.cells] at h132
     simp [AL,hi',hx,mL.cells,h132,hg,lJ,hh,w1]
    ·have hm:=tC hs
     simp only [hs,mL.cells] at h132
     by_cases hk:y.kind=0
     ·have e0:wM y=GX (y.elem * y.len):=by simp [wM,hs,hk]
      rw [hk] at h132
      have h133:=anU (y.elem * y.len) (by omega) (by omega)
      have hu:0≤GX (y.elem * y.len)∧GX (y.elem * y.len)≤65536:=by rw [←e0]; exact hr
      have w2:IntKind.i64.wrap (y.elem * y.len)=y.elem * y.len:=by rw [wrap64] <;> omega
      rw [e0] at hle ⊢
      generalize GX (y.elem * y.len)=u at *
      have w3:IntKind.i64.wrap (acc+u)=acc+u:=by rw [wrap64] <;> omega
      have hg:¬65536 < acc+u:=by omega
      simp [AL,hi',hx,mL.cells,h132,h133,hk,w2,w3,hg,lJ,hh,w1]
     ·have e0:wM y=0:=by simp [wM,hk]
      rw [e0,Int.add_zero] at hle ⊢
      have hg:¬65536 < acc:=by omega
      simp [AL,hi',hx,mL.cells,h132,hk,hg,lJ,hh,w1]
   obtain⟨acc1,ha,s1,s2⟩:=step
   by_cases hg:acc1≤65536
   ·obtain⟨e,acc',j,g1,g2⟩:=ih (i+1) acc1 (by omega) hi (by omega) (by omega)
    refine⟨e,acc',j,?_,?_⟩
    ·simp only [Int.natCast_add,Int.cast_ofNat_Int] at g1
     rw [s2 hg,←g1]
     rfl
    ·rw [ha] at g2
     simpa [vN,Int.add_assoc] using g2
   ·refine⟨.ret,acc1,i,?_,.inl ⟨rfl,by simp only [vN]; omega⟩⟩
    rw [s1 hg]
    rfl
  ·have hi':¬(i:Int) < A.length:=by omega
   have:A.drop i=[]:=List.drop_eq_nil_of_le (by omega)
   rw [this]
   refine⟨.exit 2,acc,i,?_,.inr ⟨rfl,by simp [vN]⟩⟩
   simp [AL,hi',lJ,hh]
theorem c67 (p:IR) (h:kU):KK 67 [.agg p.cells] h=some (.ret (.bool (pC p)),h):=by
 refine mD rfl rfl (mR (aqO _ _ _) ?_)
 by_cases h1:p.temps≤1048576
 ·have h1':¬1048576 < p.temps:=by omega
  by_cases h2:(p.arrays.length:Int)≤1048576
  ·have h2':¬1048576 < (p.arrays.length:Int):=by omega
   by_cases h3:(p.blocks.length:Int)≤1048576
   ·have h3':¬1048576 < (p.blocks.length:Int):=by omega
    have hh:∀C,mS 1 (.cells p.cells::C)=some [.cells p.cells]:=fun C=>by simp [mS,IR.cells]
    obtain⟨e,acc',j,g1,g2⟩:=Xg p.blocks (by omega) p.cells (min (max p.out 0) 65537) hh (p.blocks.length+1) 0 0 (by omega) (Nat.zero_le _) (by omega) (by omega)
    obtain⟨e',acc'',j',g3,g4⟩:=Xh p.arrays (by omega) p.cells hh (p.arrays.length+1) 0 (min (max p.out 0) 65537) (by omega) (Nat.zero_le _) (by omega) (by omega)
    have hr:=As p.arrays
    simp only [List.drop_zero,Int.zero_add,Int.cast_ofNat_Int,IR.cells] at g1 g2 g3 g4
    rcases g2 with ⟨rfl,g2⟩ | ⟨rfl,g2⟩
    ·have hl:pC p=false:=by simp [pC,g2]
     rw [hl]
     simp [m67,IR.cells,h1',h2',h3',g1,lM]
    ·rcases g4 with ⟨rfl,g4⟩ | ⟨rfl,g4⟩
     ·have hl:pC p=false:=by
       simp only [pC,Bool.and_eq_false_iff,decide_eq_false_iff_not]
       right; omega
      rw [hl]
      simp [m67,IR.cells,h1',h2',h3',g1,g3,lM]
     ·have hl:pC p=decide (acc''≤65536):=by
       have:(max p.out 0+vN p.arrays≤65536)↔acc''≤65536:=by omega
       simp [pC,h1,h2,h3,g2,this]
      rw [hl]
      simp [m67,IR.cells,h1',h2',h3',g1,g3,lM]
   ·have h3':1048576 < (p.blocks.length:Int):=by omega
    have hl:pC p=false:=by simp [pC,h3]
    rw [hl]
    simp [m67,IR.cells,h1',h2',h3',lM]
  ·have h2':1048576 < (p.arrays.length:Int):=by omega
   have hl:pC p=false:=by simp [pC,h2]
   rw [hl]
   simp [m67,IR.cells,h1',h2',lM]
 ·have h1':1048576 < p.temps:=by omega
  have hl:pC p=false:=by simp [pC,h1]
  rw [hl]
  simp [m67,IR.cells,h1',lM]
end Go.Proofs.YtkeoalhglkfbkaaDoor


namespace Go.Proofs.YtkeoalhglkfbkaaDoor
open Go Hk
def zD (n:Nat) (C:List mI):Prop:=∀m h,n≤m→nW m h C=some C
def zT (n:Nat) (cs:List kS):Prop:=∀m h,n≤m→m_ m h cs=some cs
section
variable {n:Nat}
theorem zD.mono {k:Nat}{C:List mI}(h:zD n C) (hk:n≤k):zD k C:=fun m x hm=>h m x (Nat.le_trans hk hm)
theorem Bd {m:Nat}{h:kU}:∀{B C:List mI},nW m h B=some B→nW m h C=some C→nW m h (B++C)=some (B++C)
 | [],_,_,h2=>h2
 | b::r,C,h1,h2=>by
  simp only [nW] at h1
  split at h1
  ·rename_i b' r' e1 e2
   simp only [Option.some.injEq,List.cons.injEq] at h1
   obtain⟨rfl,rfl⟩:=h1
   simp only [List.cons_append,nW,e1,Bd e2 h2]
  ·cases h1
theorem pS {B C:List mI}(h1:zD n B) (h2:zD n C):zD n (B++C):=fun m h hm=>Bd (h1 m h hm) (h2 m h hm)
theorem oW:zD n []:=fun _ _ _=>rfl
theorem nP {i j:Nat}{C:List mI}(h:zD n C):zD n (.front i j::C):=fun m x hm=>by simp [h m x hm]
theorem nY {cs:List kS}{C:List mI}(h1:zT n cs) (h:zD n C):zD n (.cells cs::C):=fun m x hm=>by simp [h m x hm,h1 m x hm]
theorem Jp:zT n []:=fun _ _ _=>rfl
end
section
variable {n:Nat}
theorem EZ {i j:Nat}{C:List mI}:zD n (.front i j::C)↔zD n C:=⟨fun h m x hm=>by
 have:=h m x hm
 simp only [Ak,Pw,Option.bind_some,Option.map_eq_some_iff] at this
 obtain⟨r,h1,h2⟩:=this
 cases h2; exact h1,nP⟩
theorem Cm {C:List mI}:zD n (.gone::C)↔zD n C:=⟨fun h m x hm=>by
 have:=h m x hm
 have e:oQ m x .gone=some .gone:=rfl
 simp only [Ak,e,Option.bind_some,Option.map_eq_some_iff] at this
 obtain⟨r,h1,h2⟩:=this
 cases h2; exact h1,fun h m x hm=>by
 have e:oQ m x .gone=some .gone:=rfl
 simp only [Ak,e,Option.bind_some,h m x hm,Option.map_some]⟩
theorem EY {cs:List kS}{C:List mI}:zD n (.cells cs::C)↔zT n cs∧zD n C:=⟨fun h=>by
 have key:∀m x,n≤m→m_ m x cs=some cs∧nW m x C=some C:=fun m x hm=>by
  have:=h m x hm
  simp only [Ak,Pv,Option.bind_eq_some_iff,Option.map_eq_some_iff] at this
  obtain⟨b,⟨c,h1,h2⟩,r,h3,h4⟩:=this
  cases h2; cases h4; exact⟨h1,h3⟩
 exact⟨fun m x hm=>(key m x hm).1,fun m x hm=>(key m x hm).2⟩,fun h=>nY h.1 h.2⟩
theorem zZ {v:kS}{cs:List kS}(hv:∀m x,n≤m→v.oH m x=v) (hc:v.mV=true):zT n (v::cs)↔zT n cs:=by
 constructor
 ·intro h m x hm
  have:=h m x hm
  simp only [qM,hv m x hm,hc,cond_true,Option.map_eq_some_iff] at this
  obtain⟨r,h1,h2⟩:=this
  cases h2; exact h1
 ·intro h m x hm
  simp only [qM,hv m x hm,hc,cond_true,h m x hm,Option.map_some]
theorem PW {k:IntKind}{z:Int}{cs:List kS}:zT n (.int k z::cs)↔zT n cs:=zZ (fun _ _ _=>rfl) rfl
theorem PZ {z:List UInt8}{cs:List kS}:zT n (.str z::cs)↔zT n cs:=zZ (fun _ _ _=>rfl) rfl
theorem NS {z:Bool}{cs:List kS}:zT n (.bool z::cs)↔zT n cs:=zZ (fun _ _ _=>rfl) rfl
theorem Mg {rows:List (List kS)}{cs:List kS}:zT n (.slice rows .no::cs)↔zT n cs:=zZ (fun _ _ _=>rfl) rfl
theorem PX {rows:List (List kS)}{id:Nat}{cs:List kS}:zT n (.slice rows (.own id)::cs)↔id < n∧zT n cs:=by
 have key:∀hi:id < n,zT n (.slice rows (.own id)::cs)↔zT n cs:=fun hi=>zZ (fun m x hm=>by
  have:id < m:=by omega
  simp [this]) rfl
 constructor
 ·intro h
  have hi:id < n:=by
   have:=h n [] (Nat.le_refl _)
   by_cases hi:id < n
   ·exact hi
   ·exfalso
    simp only [qM,acD,decide_eq_false hi,cond_false,Oh,cond_true,Option.map_eq_some_iff] at this
    obtain⟨r,h1,h2⟩:=this
    cases h2
  exact⟨hi,(key hi).1 h⟩
 ·rintro⟨hi,h⟩
  exact(key hi).2 h
theorem PY {id o:Nat}{cs:List kS}:zT n (.ptr id o::cs)↔id < n∧zT n cs:=by
 have key:∀hi:id < n,zT n (.ptr id o::cs)↔zT n cs:=fun hi=>zZ (fun m x hm=>by
  have:id < m:=by omega
  simp [lW this]) rfl
 constructor
 ·intro h
  have hi:id < n:=by
   have:=h n [] (Nat.le_refl _)
   by_cases hi:id < n
   ·exact hi
   ·exfalso
    have e:(kS.ptr id o).oH n []=.junk:=by simp [kS.oH,hi]
    simp [qM,e,kS.mV] at this
  exact⟨hi,(key hi).1 h⟩
 ·rintro⟨hi,h⟩
  exact(key hi).2 h
end
def OQ (A:List mI) (X:mI) (B:List mI):kU:=A++X::B
def XOk (X:mI):Prop:=∀m h,oQ m h X=some X
def HN (A B:List mI):Nat:=A.length+1+B.length
structure KB (A B:List mI):Prop where
 a:∀n,HN A B≤n→zD n A
 b:∀n,HN A B≤n→zD n B
section
variable {A B C:List mI}{X Y Z:mI}{k:Nat}
theorem GY:HN A (B++C)=HN A B+C.length:=by simp [HN]; omega
theorem KB.app (h:KB A B) (hC:zD (HN A B+C.length) C):KB A (B++C):=by
 refine⟨fun n hn=>?_,fun n hn=>?_⟩
 ·rw [GY] at hn
  exact(h.a (HN A B) (Nat.le_refl _)).mono (by omega)
 ·rw [GY] at hn
  exact pS ((h.b (HN A B) (Nat.le_refl _)).mono (by omega)) (hC.mono hn)
theorem NX:OQ A X B++C=OQ A X (B++C):=by simp [OQ]
theorem zE:(OQ A X B).length=HN A B:=by simp [OQ,HN]; omega
theorem aAt {cs:List kS}:nC (OQ A (.cells cs) B) A.length=some cs:=by simp [OQ,nC]
theorem Bl:List.set (OQ A X B) A.length Y=OQ A Y B:=by
 unfold OQ; rw [List.set_append_right _ _ (Nat.le_refl _),Nat.sub_self]; rfl
theorem UK:(OQ A X (B++C))[HN A B+k]?=C[k]?:=by
 unfold OQ HN
 rw [List.getElem?_append_right (by omega),show A.length+1+B.length+k - A.length=B.length+k+1 by omega,List.getElem?_cons_succ,List.getElem?_append_right (by omega),show B.length+k - B.length=k by omega]
theorem amP:(OQ A X (B++C))[HN A B]?=C[0]?:=UK (k:=0)
theorem Yu:nC (OQ A X (B++C)) (HN A B+k)=nC C k:=by unfold nC; rw [UK]
theorem aeS:nC (OQ A X (B++C)) (HN A B)=nC C 0:=Yu (k:=0)
theorem Qb:rP (OQ A X (B++C)) (HN A B+k)=rP C k:=by unfold rP; rw [UK]
theorem VE:rP (OQ A X (B++C)) (HN A B)=rP C 0:=Qb (k:=0)
theorem Yw {x:mI}:List.set (OQ A X (B++C)) (HN A B+k) x=OQ A X (B++C.set k x):=by
 unfold OQ HN
 rw [List.set_append_right _ _ (by omega),show A.length+1+B.length+k - A.length=B.length+k+1 by omega,List.set_cons_succ,List.set_append_right _ _ (by omega),show B.length+k - B.length=k by omega]
theorem aeU {x:mI}:List.set (OQ A X (B++C)) (HN A B) x=OQ A X (B++C.set 0 x):=Yw (k:=0)
theorem aeT {cs:List kS}:uT (OQ A (.cells cs) B) A.length=OQ A .gone B:=by
 unfold uT
 have:(OQ A (.cells cs) B)[A.length]?=some (.cells cs):=by unfold OQ; rw [List.getElem?_append_right (Nat.le_refl _),Nat.sub_self]; rfl
 rw [this]; exact Bl
theorem Yv:uT (OQ A .gone B) A.length=OQ A .gone B:=by
 unfold uT
 have:(OQ A .gone B)[A.length]?=some .gone:=by unfold OQ; rw [List.getElem?_append_right (Nat.le_refl _),Nat.sub_self]; rfl
 rw [this]
theorem VG {cs:List kS}:sD (OQ A (.cells cs) B) (OQ A Y C) A.length=OQ A (.cells cs) C:=by
 unfold sD
 have:(OQ A (.cells cs) B)[A.length]?=some (.cells cs):=by unfold OQ; rw [List.getElem?_append_right (Nat.le_refl _),Nat.sub_self]; rfl
 rw [this]; exact Bl
theorem QL {cs:List kS}{C:List mI}:uT (.cells cs::C) 0=.gone::C:=(rfl)
theorem SR {C:List mI}:uT (.gone::C) 0=.gone::C:=(rfl)
theorem SS {b:mI}{C:List mI}{k:Nat}:uT (b::C) (k+1)=b::uT C k:=by
 unfold uT
 simp only [List.getElem?_cons_succ]
 cases C[k]? with
 | none=>rfl
 | some b=>cases b <;> rfl
theorem MG {cs:List kS}{b:mI}{C C':List mI}:sD (.cells cs::C) (b::C') 0=.cells cs::C':=(rfl)
theorem PJ {b b':mI}{C C':List mI}{k:Nat}:sD (b::C) (b'::C') (k+1)=b'::sD C C' k:=by
 unfold sD
 simp only [List.getElem?_cons_succ]
 cases C[k]? with
 | none=>rfl
 | some b=>cases b <;> rfl
theorem Zz {h:kU}:rG [] h=h:=(rfl)
theorem Hq {h:kU}{i:Nat}{ids:List Nat}:rG (i::ids) h=rG ids (uT h i):=(rfl)
theorem Uv {h h':kU}:oA [] h h'=h':=(rfl)
theorem DW {h h':kU}{i:Nat}{ids:List Nat}:oA (i::ids) h h'=oA ids h (sD h h' i):=(rfl)
theorem Sj {i o:Nat}:zG (.ptr i o)=some i:=(rfl)
theorem Qn {cs:List kS}:zG (.pptr cs)=none:=(rfl)
theorem vS (h:KB A B) (hX:XOk X):mS (HN A B) (OQ A X (B++C))=some (OQ A X B):=by
 have e:OQ A X (B++C)=OQ A X B++C:=NX.symm
 unfold Hk.mS
 rw [e,←zE (X:=X),List.take_left,zE]
 exact Bd (h.a _ (Nat.le_refl _) _ _ (Nat.le_refl _)) (by
  have:=hX (HN A B) (OQ A X B++C)
  simp only [nW,this,h.b _ (Nat.le_refl _) _ _ (Nat.le_refl _)])
theorem rE (h:KB A B) (hX:XOk X):mS (HN A B) (OQ A X B)=some (OQ A X B):=by
 have:=vS (C:=[]) h hX
 rwa [List.append_nil] at this
theorem aeR {v:kS}(h:KB A B) (hX:XOk X):mX (HN A B) v (OQ A X (B++C))=some (.ret (v.oL (HN A B) (OQ A X (B++C))).k8,OQ A X B):=by simp [mX,vS h hX]
theorem Yt {v:kS}(h:KB A B) (hX:XOk X):mX (HN A B) v (OQ A X B)=some (.ret (v.oL (HN A B) (OQ A X B)).k8,OQ A X B):=by simp [mX,rE h hX]
theorem VF (h:KB A (B++C.take k)) (hX:XOk X) (hk:k≤C.length):mS (HN A B+k) (OQ A X (B++C))=some (OQ A X (B++C.take k)):=by
 have:=vS (X:=X) (C:=C.drop k) h hX
 rw [GY,List.append_assoc,List.take_append_drop,List.length_take,Nat.min_eq_left hk] at this
 exact this
theorem NR:A.length < HN A B+k:=by simp [HN]; omega
theorem vH:A.length < HN A B:=NR (k:=0)
attribute [simp] NX zE aAt Bl UK amP Yu aeS Qb VE Yw aeU aeT Yv VG aeR Yt GY
attribute [simp] QL SR SS MG PJ Zz Hq Uv DW Sj Qn mY
attribute [simp] KB.app oW EZ Cm EY Jp PW PZ NS Mg PX PY
end
end Go.Proofs.YtkeoalhglkfbkaaDoor


namespace Go.Proofs.YtkeoalhglkfbkaaDoor
open Go Hk
def ck (p:IR) (e:Int):mI:=.cells [.int .i64 p.temps,.slice (p.arrays.map mL.cells) .no,.slice (p.blocks.map lR.cells) .no,.int .i64 p.inn,.int .i64 p.out,.int .i64 e]
theorem AA {p:IR}{e:Int}:XOk (ck p e):=fun _ _=>rfl
structure Ys (p:IR):Prop where
 t0:0≤p.temps
 t1:p.temps≤1048576
 a1:(p.arrays.length:Int)≤1048576
 b1:(p.blocks.length:Int)≤1048576
 i0:0≤p.inn
 i1:p.inn≤65536
 o0:0≤p.out
 o1:p.out≤65536
section
variable {p:IR}(hp:Ys p) {A B:List mI}{e:Int}(hB:KB A B)
include hp hB
theorem anW (t:Int):KK 135 [.ptr A.length 0,.int .i64 t] (OQ A (ck p e) B)=some (.ret (.bool (mO t 0 (p.temps - 1))),OQ A (ck p e) B):=by
 refine mR (ag4 _ _ _ _) ?_
 have h0:=hp.t0
 have h1:=hp.t1
 have w1:IntKind.i64.wrap (p.temps - 1)=p.temps - 1:=by rw [wrap64] <;> omega
 have hX:=AA (p:=p) (e:=e)
 simp only [ck] at hX ⊢
 simp -implicitDefEqProofs [ax3,hB,hX,w1,Fo]
theorem aA6 (t:Int):KK 136 [.ptr A.length 0,.int .i64 t] (OQ A (ck p e) B)=some (.ret (.bool (mO t (-1) ((p.blocks.length:Int) - 1))),OQ A (ck p e) B):=by
 refine mR (ag5 _ _ _ _) ?_
 have h1:=hp.b1
 have w1:IntKind.i64.wrap ((p.blocks.length:Int) - 1)=(p.blocks.length:Int) - 1:=by rw [wrap64] <;> omega
 have hX:=AA (p:=p) (e:=e)
 simp only [ck] at hX ⊢
 simp -implicitDefEqProofs [ax4,hB,hX,w1,Fo]
def BN (inn out e : Int) (x : mL) : Bool × Int :=
  if oR x = true then
    (if x.kind = 0 then (decide (x.off = 0), e)
     else if x.kind = 1 then (mO x.off 0 (inn - x.elem * x.len) && decide (x.off.tmod 4 = 0), e)
     else if x.kind = 2 then (if mO x.off e (out - x.elem * x.len) = true ∧ x.off.tmod 4 = 0 then (true, GX (x.off + x.elem * x.len)) else (false, e))
     else (false, e))
  else (false, e)
theorem c69 (x:mL) (he:0≤e):KK 69 [.ptr A.length 0,.agg x.cells] (OQ A (ck p e) B)=some (.ret (.bool (BN p.inn p.out e x).1),OQ A (ck p (BN p.inn p.out e x).2) B):=by
 refine mR (aqQ _ _ _ _) ?_
 have h132:=awL x
 have hX:=fun e=>AA (p:=p) (e:=e)
 have i0:=hp.i0
 have i1:=hp.i1
 have o0:=hp.o0
 have o1:=hp.o1
 cases hs:oR x
 ·simp only [hs,mL.cells,ck,BN,Bool.false_eq_true,if_false] at h132 hX ⊢
  simp -implicitDefEqProofs [m69,hB,hX,h132]
 ·have hm:=tC hs
  have w0:IntKind.i64.wrap (x.elem * x.len)=x.elem * x.len:=by rw [wrap64] <;> omega
  simp only [hs,mL.cells,ck,BN,if_true] at h132 hX ⊢
  by_cases k0:x.kind=0
  ·rw [k0] at h132 ⊢
   simp -implicitDefEqProofs [m69,hB,hX,h132,k0,w0]
  by_cases k1:x.kind=1
  ·rw [k1] at h132 ⊢
   have w1:IntKind.i64.wrap (p.inn - x.elem * x.len)=p.inn - x.elem * x.len:=by rw [wrap64] <;> omega
   cases hb:mO x.off 0 (p.inn - x.elem * x.len) <;> simp -implicitDefEqProofs [m69,hB,hX,h132,k1,w0,w1,Fo,hb,oK]
  by_cases k2:x.kind=2
  ·rw [k2] at h132 ⊢
   have w1:IntKind.i64.wrap (p.out - x.elem * x.len)=p.out - x.elem * x.len:=by rw [wrap64] <;> omega
   cases hb:mO x.off e (p.out - x.elem * x.len)
   ·simp -implicitDefEqProofs [m69,hB,hX,h132,k2,w0,w1,Fo,hb,oK]
   ·by_cases hr:x.off.tmod 4=0
    ·have hbb:e≤x.off∧x.off≤p.out - x.elem * x.len:=by simpa [mO] using hb
     have w2:IntKind.i64.wrap (x.off+x.elem * x.len)=x.off+x.elem * x.len:=by rw [wrap64] <;> omega
     have h133:=anU (x.off+x.elem * x.len) (by omega) (by omega)
     simp -implicitDefEqProofs [m69,hB,hX,h132,k2,w0,w1,w2,Fo,hb,hr,h133,oK]
    ·simp -implicitDefEqProofs [m69,hB,hX,h132,k2,w0,w1,Fo,hb,hr,oK]
  ·simp -implicitDefEqProofs [m69,hB,hX,h132,k0,k1,k2,w0]
def wN (t:Term):Bool :=
 if t.kind=1 then decide (t.a=0∧t.no=0) && mO t.yes (-1) ((p.blocks.length:Int) - 1)
 else if t.kind=2 then mO t.a 0 (p.temps - 1) && (mO t.yes (-1) ((p.blocks.length:Int) - 1) && mO t.no (-1) ((p.blocks.length:Int) - 1))
 else decide (t=⟨3,0,0,0⟩)
end
end Go.Proofs.YtkeoalhglkfbkaaDoor


namespace Go.Proofs.YtkeoalhglkfbkaaDoor
open Go Hk
section
variable {p:IR}(hp:Ys p) {A B:List mI}{e:Int}(hB:KB A B)
include hp hB
theorem c71 (t:Term):KK 71 [.ptr A.length 0,.agg t.cells] (OQ A (ck p e) B)=some (.ret (.bool (wN (p:=p) t)),OQ A (ck p e) B):=by
 refine mR (aqS _ _ _ _) ?_
 have hX:=AA (p:=p) (e:=e)
 have hC:KB A (B++[.cells t.cells]):=hB.app (by simp [Term.cells])
 have h135:=fun z=>anW (e:=e) hp hC z
 have h136:=fun z=>aA6 (e:=e) hp hC z
 obtain⟨k,a,y,n⟩:=t
 simp only [Term.cells,wN] at h135 h136 ⊢
 by_cases k1:k=1
 ·subst k1
  by_cases ha:a=0
  ·subst ha
   by_cases hn:n=0
   ·subst hn
    simp -implicitDefEqProofs [m71,hB,hX,h136,pH,o8,zH,NR,vH]
   ·have hb:=beq_false_of_ne hn
    simp -implicitDefEqProofs [m71,hB,hX,h136,pH,o8,zH,hn,hb,NR,vH]
  ·have hb:=beq_false_of_ne ha
   simp -implicitDefEqProofs [m71,hB,hX,h136,pH,o8,zH,ha,hb,NR,vH]
 by_cases k2:k=2
 ·subst k2
  cases h1:mO a 0 (p.temps - 1) <;> cases h2:mO y (-1) ((p.blocks.length:Int) - 1) <;>
   simp -implicitDefEqProofs [m71,hB,hX,h135,h136,h1,h2,NR,vH]
 ·have hr:decide ((⟨k,a,y,n⟩:Term)=⟨3,0,0,0⟩)=(k == 3 && (a == 0 && (y == 0 && n == 0))):=by
   by_cases h3:k=3 <;> by_cases ha:a=0 <;> by_cases hy:y=0 <;> by_cases hn:n=0 <;> simp [h3,ha,hy,hn]
  have hbd:∀x y:Int,(x == y)=decide (x=y):=fun x y=>by by_cases h:x=y <;> simp [h]
  simp -implicitDefEqProofs [m71,hB,hX,k1,k2,hr,hbd,pH,o8,zH,Bool.and_assoc]
end
structure Form where
 dst:Bool
 src:Nat
 most:Int
 ok:Bool
def mM (k:Int):Form :=
 if k=1 then⟨true,0,4294967295,true⟩
 else if k=2∨k=10 then⟨true,1,0,true⟩
 else if 3≤k∧k≤9∨14≤k∧k≤16 then⟨true,2,0,true⟩
 else if 11≤k∧k≤13 then⟨true,1,31,true⟩
 else if k=17 then⟨true,3,0,true⟩
 else if k=18 then⟨true,1,1048576,true⟩
 else if k=19 then⟨false,2,1048576,true⟩
 else⟨false,0,0,false⟩
def Form.cells (f:Form):List kS:=[.bool f.dst,.int .i64 (f.src:Int),.int .i64 0,.int .i64 f.most,.bool f.ok]
theorem anV (k:Int) (h:kU):KK 134 [.int .i64 k] h=some (.ret (.agg (mM k).cells),h):=by
 refine mD rfl rfl (mR (agZ _ _ _) ?_)
 by_cases hk:1≤k∧k≤19
 ·have:k=1∨k=2∨k=3∨k=4∨k=5∨k=6∨k=7∨k=8∨k=9∨k=10∨k=11∨k=12∨k=13∨k=14∨k=15∨k=16∨k=17∨k=18∨k=19:=by omega
  rcases this with rfl | rfl | rfl | rfl | rfl | rfl | rfl | rfl | rfl | rfl | rfl | rfl | rfl | rfl | rfl | rfl | rfl | rfl | rfl <;>
   simp -implicitDefEqProofs [aoY,mM,Form.cells,lM]
 ·have n1:¬k=1:=by omega
  have n2:¬k=2:=by omega
  have n3:¬k=3:=by omega
  have n4:¬k=4:=by omega
  have n5:¬k=5:=by omega
  have n6:¬k=6:=by omega
  have n7:¬k=7:=by omega
  have n8:¬k=8:=by omega
  have n9:¬k=9:=by omega
  have n10:¬k=10:=by omega
  have n11:¬k=11:=by omega
  have n12:¬k=12:=by omega
  have n13:¬k=13:=by omega
  have n14:¬k=14:=by omega
  have n15:¬k=15:=by omega
  have n16:¬k=16:=by omega
  have n17:¬k=17:=by omega
  have n18:¬k=18:=by omega
  have n19:¬k=19:=by omega
  have e:mM k=⟨false,0,0,false⟩:=by
   unfold mM
   rw [if_neg n1,if_neg (by omega),if_neg (by omega),if_neg (by omega),if_neg n17,if_neg n18,if_neg n19]
  rw [e]
  simp -implicitDefEqProofs [aoY,Form.cells,lM,n1,n2,n3,n4,n5,n6,n7,n8,n9,n10,n11,n12,n13,n14,n15,n16,n17,n18,n19]
theorem c73 (o:Op) (h:kU):KK 73 [.agg o.cells] h=some (.ret (.bool (mM o.kind).dst),h):=by
 refine mD rfl rfl (mR (aqT _ _ _) ?_)
 have h134:=anV o.kind
 simp only [Form.cells] at h134
 simp -implicitDefEqProofs [m73,Op.cells,h134,lM]
def mU (o:Op):List Int:=[o.a,o.b,o.c].take (mM o.kind).src
theorem c74 (o:Op) (h:kU):KK 74 [.agg o.cells] h=some (.ret (.slice ((mU o).map fun z=>[.int .i64 z]) .no),h):=by
 refine mD rfl rfl (mR (aqU _ _ _) ?_)
 have h134:=anV o.kind
 have hs:(mM o.kind).src=0∨(mM o.kind).src=1∨(mM o.kind).src=2∨(mM o.kind).src=3:=by
  unfold mM; (repeat' split) <;> simp
 simp only [Form.cells] at h134
 unfold mU
 rcases hs with hs | hs | hs | hs <;> rw [hs] at h134 ⊢ <;>
  simp -implicitDefEqProofs [m74,Op.cells,h134,lU,pD,nB,kS.uV,rowsOf,nX,pG,lM]
end Go.Proofs.YtkeoalhglkfbkaaDoor


namespace Go.Proofs.YtkeoalhglkfbkaaDoor
open Go Hk
section
variable {p:IR}(hp:Ys p) {A B:List mI}{e:Int}(hB:KB A B)
def oB (o:Op) (d a b c:Int):List mI:=[.cells o.cells,.cells (mM o.kind).cells,.cells [.int .i64 o.kind,.int .i64 d,.int .i64 a,.int .i64 b,.int .i64 c,.int .i64 o.imm]]
def oS (A B:List mI) (u:List Int) (v:Bool) (i:Int):List kS:=[.ptr A.length 0,.ptr (HN A B) 0,.bool v,.ptr (HN A B+1) 0,.ptr (HN A B+2) 0,.slice (u.map fun z=>[.int .i64 z]) .no,.int .i64 (u.length:Int),.int .i64 i]
theorem abH {o:Op}{d a b c:Int}(hB:KB A B):KB A (B++oB o d a b c):=hB.app (by simp [oB,Op.cells,Form.cells])
theorem Q7 {o:Op}{d a b c:Int}(hB:KB A B):mS (HN A B+3) (OQ A (ck p e) (B++oB o d a b c))=some (OQ A (ck p e) (B++oB o d a b c)):=by
 have:=VF (X:=ck p e) (A:=A) (B:=B) (C:=oB o d a b c) (k:=3) (by simpa [oB] using abH (o:=o) (d:=d) (a:=a) (b:=b) (c:=c) hB) AA (by simp [oB])
 simpa [oB] using this
include hp hB
theorem QW {o:Op}{u:List Int}{t d a b c:Int}{i:Nat}(hi:i < 3) (ht:u[i]?=some t) (hu:u.length≤3) :
  zN KK (HN A B+3) (oS A B u false (i:Int),OQ A (ck p e) (B++oB o d a b c))=if mO t 0 (p.temps - 1)=true then
   some (.normal,oS A B u false ((i:Int)+1),OQ A (ck p e) (B++oB o d (if i=0 then t else a) (if i=1 then t else b) (if i=2 then t else c)))
   else some (.ret,oS A B u false (i:Int),OQ A (ck p e) (B++oB o d a b c)):=by
 have h135:=anW (e:=e) hp (abH (o:=o) (d:=d) (a:=a) (b:=b) (c:=c) hB) t
 have htr:=fun d a b c=>Q7 (p:=p) (e:=e) (o:=o) (d:=d) (a:=a) (b:=b) (c:=c) hB
 have hlt:i < u.length:=(List.getElem?_eq_some_iff.1 ht).1
 have hlt':(i:Int) < u.length:=by omega
 have hti:u[i]=t:=(List.getElem?_eq_some_iff.1 ht).2
 have q0:∀h,kS.oH (HN A B+3) h (.ptr A.length 0)=.ptr A.length 0:=fun h=>lW NR
 have q1:∀h,kS.oH (HN A B+3) h (.ptr (HN A B) 0)=.ptr (HN A B) 0:=fun h=>lW (by omega)
 have q2:∀h,kS.oH (HN A B+3) h (.ptr (HN A B+1) 0)=.ptr (HN A B+1) 0:=fun h=>lW (by omega)
 have q3:∀h,kS.oH (HN A B+3) h (.ptr (HN A B+2) 0)=.ptr (HN A B+2) 0:=fun h=>lW (by omega)
 simp only [oB,oS] at h135 htr ⊢
 cases hb:mO t 0 (p.temps - 1)
 ·simp -implicitDefEqProofs [zN,hlt,hlt',ht,hti,h135,hb,lJ,htr,q0,q1,q2,q3]
 ·rcases (show i=0∨i=1∨i=2 by omega) with rfl | rfl | rfl <;>
   have hl0:(0:Int) < u.length:=by omega
  all_goals simp only [Int.cast_ofNat_Int] at hlt'
  all_goals
   simp -implicitDefEqProofs [zN,hlt,hlt',ht,hti,h135,hb,Oc,lJ,htr,q0,q1,q2,q3,wrap64]
omit hp in
theorem ah8 {o:Op}{u:List Int}{d a b c:Int}{n:Nat}(hn:u.length=n) :
  zN KK (HN A B+3) (oS A B u false (n:Int),OQ A (ck p e) (B++oB o d a b c))=some (.exit 0,oS A B u false (n:Int),OQ A (ck p e) (B++oB o d a b c)):=by
 subst hn
 have htr:=fun d a b c=>Q7 (p:=p) (e:=e) (o:=o) (d:=d) (a:=a) (b:=b) (c:=c) hB
 have q0:∀h,kS.oH (HN A B+3) h (.ptr A.length 0)=.ptr A.length 0:=fun h=>lW NR
 have q1:∀h,kS.oH (HN A B+3) h (.ptr (HN A B) 0)=.ptr (HN A B) 0:=fun h=>lW (by omega)
 have q2:∀h,kS.oH (HN A B+3) h (.ptr (HN A B+1) 0)=.ptr (HN A B+1) 0:=fun h=>lW (by omega)
 have q3:∀h,kS.oH (HN A B+3) h (.ptr (HN A B+2) 0)=.ptr (HN A B+2) 0:=fun h=>lW (by omega)
 simp only [oB,oS] at htr ⊢
 simp -implicitDefEqProofs [zN,lJ,htr,q0,q1,q2,q3]
theorem aa1 {o:Op}{d:Int}{s:Nat}(hs:s≤3) {u:List Int}(hu:u=[o.a,o.b,o.c].take s) :
  (u.all (fun t=>mO t 0 (p.temps - 1))=true→mQ (zN KK (HN A B+3)) (oS A B u false 0,OQ A (ck p e) (B++oB o d 0 0 0)) =
   some (.exit 0,oS A B u false (s:Int),OQ A (ck p e) (B++oB o d (if 1≤s then o.a else 0) (if 2≤s then o.b else 0) (if 3≤s then o.c else 0)))) ∧
  (u.all (fun t=>mO t 0 (p.temps - 1))=false→∃(i:Nat) (x y z:Int),mQ (zN KK (HN A B+3)) (oS A B u false 0,OQ A (ck p e) (B++oB o d 0 0 0)) =
   some (.ret,oS A B u false (i:Int),OQ A (ck p e) (B++oB o d x y z))):=by
 have hl:u.length=s:=by subst hu; simp; omega
 have hu3:u.length≤3:=by omega
 have st:∀(i:Nat) (t a b c:Int),i < 3→u[i]?=some t→mO t 0 (p.temps - 1)=true→mQ (zN KK (HN A B+3)) (oS A B u false (i:Int),OQ A (ck p e) (B++oB o d a b c)) =
   mQ (zN KK (HN A B+3)) (oS A B u false ((i+1:Nat):Int),OQ A (ck p e) (B++oB o d (if i=0 then t else a) (if i=1 then t else b) (if i=2 then t else c))):=by
  intro i t a b c hi ht hb
  rw [mW,QW hp hB hi ht hu3,if_pos hb]; rfl
 have no:∀(i:Nat) (t a b c:Int),i < 3→u[i]?=some t→mO t 0 (p.temps - 1)=false→mQ (zN KK (HN A B+3)) (oS A B u false (i:Int),OQ A (ck p e) (B++oB o d a b c)) =
   some (.ret,oS A B u false (i:Int),OQ A (ck p e) (B++oB o d a b c)):=by
  intro i t a b c hi ht hb
  rw [mW,QW hp hB hi ht hu3,if_neg (by rw [hb]; decide)]; rfl
 have en:∀a b c:Int,mQ (zN KK (HN A B+3)) (oS A B u false (s:Int),OQ A (ck p e) (B++oB o d a b c))=some (.exit 0,oS A B u false (s:Int),OQ A (ck p e) (B++oB o d a b c)):=by
  intro a b c
  rw [mW,ah8 hB hl]; rfl
 rcases (show s=0∨s=1∨s=2∨s=3 by omega) with rfl | rfl | rfl | rfl
 ·exact⟨fun _=>en _ _ _,fun h=>by subst hu; cases h⟩
 ·have u0:u[0]?=some o.a:=by subst hu; rfl
  cases h0:mO o.a 0 (p.temps - 1)
  ·exact⟨fun h=>by subst hu; simp [h0] at h,fun _=>⟨0,0,0,0,no 0 o.a 0 0 0 (by omega) u0 h0⟩⟩
  ·exact⟨fun _=>(st 0 o.a 0 0 0 (by omega) u0 h0).trans (en _ _ _),fun h=>by subst hu; simp [h0] at h⟩
 ·have u0:u[0]?=some o.a:=by subst hu; rfl
  have u1:u[1]?=some o.b:=by subst hu; rfl
  cases h0:mO o.a 0 (p.temps - 1)
  ·exact⟨fun h=>by subst hu; simp [h0] at h,fun _=>⟨0,0,0,0,no 0 o.a 0 0 0 (by omega) u0 h0⟩⟩
  cases h1:mO o.b 0 (p.temps - 1)
  ·exact⟨fun h=>by subst hu; simp [h0,h1] at h,fun _=>⟨1,o.a,0,0,(st 0 o.a 0 0 0 (by omega) u0 h0).trans (no 1 o.b _ _ _ (by omega) u1 h1)⟩⟩
  ·exact⟨fun _=>(st 0 o.a 0 0 0 (by omega) u0 h0).trans ((st 1 o.b _ _ _ (by omega) u1 h1).trans (en _ _ _)),fun h=>by subst hu; simp [h0,h1] at h⟩
 ·have u0:u[0]?=some o.a:=by subst hu; rfl
  have u1:u[1]?=some o.b:=by subst hu; rfl
  have u2:u[2]?=some o.c:=by subst hu; rfl
  cases h0:mO o.a 0 (p.temps - 1)
  ·exact⟨fun h=>by subst hu; simp [h0] at h,fun _=>⟨0,0,0,0,no 0 o.a 0 0 0 (by omega) u0 h0⟩⟩
  cases h1:mO o.b 0 (p.temps - 1)
  ·exact⟨fun h=>by subst hu; simp [h0,h1] at h,fun _=>⟨1,o.a,0,0,(st 0 o.a 0 0 0 (by omega) u0 h0).trans (no 1 o.b _ _ _ (by omega) u1 h1)⟩⟩
  cases h2:mO o.c 0 (p.temps - 1)
  ·exact⟨fun h=>by subst hu; simp [h0,h1,h2] at h,fun _=>⟨2,o.a,o.b,0,(st 0 o.a 0 0 0 (by omega) u0 h0).trans ((st 1 o.b _ _ _ (by omega) u1 h1).trans (no 2 o.c _ _ _ (by omega) u2 h2))⟩⟩
  ·exact⟨fun _=>(st 0 o.a 0 0 0 (by omega) u0 h0).trans ((st 1 o.b _ _ _ (by omega) u1 h1).trans ((st 2 o.c _ _ _ (by omega) u2 h2).trans (en _ _ _))),fun h=>by subst hu; simp [h0,h1,h2] at h⟩
end
end Go.Proofs.YtkeoalhglkfbkaaDoor


namespace Go.Proofs.YtkeoalhglkfbkaaDoor
open Go Hk
def Qt (p:IR) (i:Int):Int:=match p.arrays[i.toNat]? with
 | some x=>x.kind
 | none=>0
def De (p:IR) (o:Op):Bool:=if o.kind=18∨o.kind=19 then decide (o.imm < (p.arrays.length:Int)) && (decide (o.kind=18) || !decide (Qt p o.imm=1)) else true
def JB (p:IR) (o:Op):Bool :=
 (mM o.kind).ok && (mO o.imm 0 (mM o.kind).most && ((mU o).all (fun t=>mO t 0 (p.temps - 1)) &&
  (decide ((if (mM o.kind).dst=true then o.dst else 0)=o.dst∧(if 1≤(mM o.kind).src then o.a else 0)=o.a∧(if 2≤(mM o.kind).src then o.b else 0)=o.b∧(if 3≤(mM o.kind).src then o.c else 0)=o.c) &&
   ((!(mM o.kind).dst || mO o.dst 0 (p.temps - 1)) && De p o))))
theorem yY (k:Int):(mM k).src≤3:=by
 unfold mM; (repeat' split) <;> simp
theorem QP {k i:Int}(h:mO i 0 (mM k).most=true):0≤i:=by
 simp only [mO,Bool.and_eq_true,decide_eq_true_eq] at h; exact h.1
section
variable {p:IR}(hp:Ys p) {A B:List mI}{e:Int}(hB:KB A B)
include hp hB
set_option maxHeartbeats 4000000 in
theorem c70 (o:Op):KK 70 [.ptr A.length 0,.agg o.cells] (OQ A (ck p e) B)=some (.ret (.bool (JB p o)),OQ A (ck p e) B):=by
 refine mR (aqR _ _ _ _) ?_
 have hX:=AA (p:=p) (e:=e)
 have h134:=anV o.kind
 have h74:=c74 o
 have hsrc:=yY o.kind
 have hall:=fun d=>aa1 (e:=e) hp hB (o:=o) (d:=d) hsrc (u:=mU o) rfl
 have him:mO o.imm 0 (mM o.kind).most=true→0≤o.imm:=fun h=>QP h
 have hul:((mU o).length:Int)=((mM o.kind).src:Int):=by
  have:(mU o).length=(mM o.kind).src:=by unfold mU; simp; omega
  omega
 have hKB:=fun d a b c=>abH (o:=o) (d:=d) (a:=a) (b:=b) (c:=c) hB
 have h135:=fun d a b c=>anW (e:=e) hp (hKB d a b c) o.dst
 unfold JB
 unfold oB at hall h135
 generalize hu:mU o=u at *
 generalize hf:mM o.kind=f at *
 obtain⟨fd,fs,fm,fo⟩:=f
 simp only [Form.cells] at h134 hall h135
 cases fo
 ·simp only [Op.cells] at h134 ⊢
  simp -implicitDefEqProofs [QV,hB,hX,h134]
 cases hb:mO o.imm 0 fm
 ·simp only [Op.cells] at h134 ⊢
  simp -implicitDefEqProofs [QV,hB,hX,h134,Fo,hb]
 have hi0:=him hb
 obtain⟨d,hd⟩:∃d,d=if fd=true then o.dst else 0:=⟨_,rfl⟩
 obtain⟨hall1,hall2⟩:=hall d
 cases hal:u.all (fun t=>mO t 0 (p.temps - 1))
 ·obtain⟨i,x,y,z,g⟩:=hall2 hal
  simp only [oS,Op.cells,hul] at g h74 h134 ⊢
  cases fd <;> simp only [if_true,if_false,Bool.false_eq_true] at hd <;> subst hd <;>
   simp -implicitDefEqProofs [QV,hB,hX,h134,Fo,hb,h74,hul,g]
 ·have g:=hall1 hal
  have hbd:∀x y:Int,(x == y)=decide (x=y):=fun x y=>by by_cases h:x=y <;> simp [h]
  obtain⟨ra,hra⟩:∃x,x=if 1≤fs then o.a else 0:=⟨_,rfl⟩
  obtain⟨rb,hrb⟩:∃x,x=if 2≤fs then o.b else 0:=⟨_,rfl⟩
  obtain⟨rc,hrc⟩:∃x,x=if 3≤fs then o.c else 0:=⟨_,rfl⟩
  have h135:=h135 d ra rb rc
  simp only [←hra,←hrb,←hrc,←hd] at g ⊢
  have hall:decide (d=o.dst∧ra=o.a∧rb=o.b∧rc=o.c)=(d == o.dst && (ra == o.a && (rb == o.b && rc == o.c))):=by
   simp only [hbd,Bool.decide_and]
  rw [hall]
  obtain⟨ok,od,oa,ob,oc,oi⟩:=o
  simp only [oS,Op.cells,hul] at g h74 h134 h135 hd hi0 hb ⊢
  obtain⟨n,rfl⟩:=Int.eq_ofNat_of_zero_le hi0
  cases hq:(d == od && (ra == oa && (rb == ob && rc == oc)))
  ·cases fd <;> simp only [if_true,if_false,Bool.false_eq_true] at hd <;> subst hd <;> (try simp only [beq_self_eq_true,Bool.true_and] at hq) <;>
    simp -implicitDefEqProofs [QV,hB,hX,h134,Fo,hb,h74,hul,g,hq,pH,o8,zH]
  ·have hlt:A.length < HN A B+3:=NR
   simp only [ck] at hX g h135 ⊢
   by_cases hk:ok=18
   ·subst hk
    cases fd <;> simp only [if_true,if_false,Bool.false_eq_true] at hd <;> subst hd <;> (try simp only [beq_self_eq_true,Bool.true_and] at hq)
    ·by_cases hl:n < p.arrays.length
     ·have hx:p.arrays[n]?=some p.arrays[n]:=List.getElem?_eq_getElem hl
      have hl':(n:Int) < p.arrays.length:=by omega
      simp -implicitDefEqProofs [QV,hB,hX,h134,Fo,hb,h74,hul,g,hq,pH,o8,zH,De,hl,hl',hx,mL.cells,Qt]
     ·have hl':¬(n:Int) < p.arrays.length:=by omega
      simp -implicitDefEqProofs [QV,hB,hX,h134,Fo,hb,h74,hul,g,hq,pH,o8,zH,De,hl,hl']
    ·cases ht:mO d 0 (p.temps - 1) <;> rw [ht] at h135
     ·simp -implicitDefEqProofs [QV,hB,hX,h134,Fo,hb,h74,hul,g,hq,pH,o8,zH,De,h135,ht]
     ·by_cases hl:n < p.arrays.length
      ·have hx:p.arrays[n]?=some p.arrays[n]:=List.getElem?_eq_getElem hl
       have hl':(n:Int) < p.arrays.length:=by omega
       simp -implicitDefEqProofs [QV,hB,hX,h134,Fo,hb,h74,hul,g,hq,pH,o8,zH,De,h135,ht,hl,hl',hx,mL.cells,Qt]
      ·have hl':¬(n:Int) < p.arrays.length:=by omega
       simp -implicitDefEqProofs [QV,hB,hX,h134,Fo,hb,h74,hul,g,hq,pH,o8,zH,De,h135,ht,hl,hl']
   ·by_cases hk2:ok=19
    ·have hk:=hk2
     clear hk2
     subst hk
     cases fd <;> simp only [if_true,if_false,Bool.false_eq_true] at hd <;> subst hd <;> (try simp only [beq_self_eq_true,Bool.true_and] at hq)
     ·by_cases hl:n < p.arrays.length
      ·have hx:p.arrays[n]?=some p.arrays[n]:=List.getElem?_eq_getElem hl
       have hl':(n:Int) < p.arrays.length:=by omega
       simp -implicitDefEqProofs [QV,hB,hX,h134,Fo,hb,h74,hul,g,hq,pH,o8,zH,De,hl,hl',hx,mL.cells,Qt]
      ·have hl':¬(n:Int) < p.arrays.length:=by omega
       simp -implicitDefEqProofs [QV,hB,hX,h134,Fo,hb,h74,hul,g,hq,pH,o8,zH,De,hl,hl']
     ·cases ht:mO d 0 (p.temps - 1) <;> rw [ht] at h135
      ·simp -implicitDefEqProofs [QV,hB,hX,h134,Fo,hb,h74,hul,g,hq,pH,o8,zH,De,h135,ht]
      ·by_cases hl:n < p.arrays.length
       ·have hx:p.arrays[n]?=some p.arrays[n]:=List.getElem?_eq_getElem hl
        have hl':(n:Int) < p.arrays.length:=by omega
        simp -implicitDefEqProofs [QV,hB,hX,h134,Fo,hb,h74,hul,g,hq,pH,o8,zH,De,h135,ht,hl,hl',hx,mL.cells,Qt]
       ·have hl':¬(n:Int) < p.arrays.length:=by omega
        simp -implicitDefEqProofs [QV,hB,hX,h134,Fo,hb,h74,hul,g,hq,pH,o8,zH,De,h135,ht,hl,hl']
    ·cases fd <;> simp only [if_true,if_false,Bool.false_eq_true] at hd <;> subst hd <;> (try simp only [beq_self_eq_true,Bool.true_and] at hq)
     ·simp -implicitDefEqProofs [QV,hB,hX,h134,Fo,hb,h74,hul,g,hq,pH,o8,zH,De,hk,hk2]
     ·cases ht:mO d 0 (p.temps - 1) <;> rw [ht] at h135 <;>
      simp -implicitDefEqProofs [QV,hB,hX,h134,Fo,hb,h74,hul,g,hq,pH,o8,zH,De,hk,hk2,h135,ht]
end
end Go.Proofs.YtkeoalhglkfbkaaDoor


namespace Go.Proofs.YtkeoalhglkfbkaaDoor
open Go Hk
def A3 (inn out:Int):Int→List mL→Bool
 | _,[]=>true
 | e,x::r=>(BN inn out e x).1 && A3 inn out (BN inn out e x).2 r
theorem Og {inn out e:Int}{x:mL}(he:0≤e):0≤(BN inn out e x).2:=by
 unfold BN
 split
 ·rename_i hs
  have hm:=tC hs
  (repeat' split) <;> first
   | exact he
   | (rename_i h; simp only [mO,Bool.and_eq_true,decide_eq_true_eq] at h; simp only [GX]; omega)
 ·exact he
def Jh (p:IR) (b:lR):Bool:=b.ops.all (JB p) && wN (p:=p) b.term
def mN (p:IR):Int :=
 if pC p=false then 18
 else if mO p.inn 0 65536=true∧mO p.out 0 65536=true∧p.inn.tmod 4=0∧p.out.tmod 4=0∧0≤p.temps∧p.blocks≠[] then(if A3 p.inn p.out 0 p.arrays && p.blocks.all (Jh p) then 0 else 2) else 2
section
variable {p:IR}(hp:Ys p) {A B:List mI}{q:Nat}(hq:q < A.length) (hB:KB A B)
include hp hq hB
theorem WM:∀(n i:Nat) (e:Int),p.arrays.length < i+n→i≤p.arrays.length→0≤e →
  ∃(ex:Ex) (r e':Int) (j:Int),mQ (KY KK (HN A B)) ([.ptr q 0,.int .i64 0,.ptr A.length 0,.slice (p.arrays.map mL.cells) .no,.int .i64 (p.arrays.length:Int),.int .i64 (i:Int)],OQ A (ck p e) B) =
   some (ex,[.ptr q 0,.int .i64 r,.ptr A.length 0,.slice (p.arrays.map mL.cells) .no,.int .i64 (p.arrays.length:Int),.int .i64 j],OQ A (ck p e') B) ∧
   ((ex=.ret∧r=2∧A3 p.inn p.out e (p.arrays.drop i)=false)∨(ex=.exit 0∧r=0∧A3 p.inn p.out e (p.arrays.drop i)=true)):=by
 have hX:=fun e=>AA (p:=p) (e:=e)
 have q0:∀h,kS.oH (HN A B) h (.ptr q 0)=.ptr q 0:=fun h=>lW (by have:=vH (A:=A) (B:=B); omega)
 have q1:∀h,kS.oH (HN A B) h (.ptr A.length 0)=.ptr A.length 0:=fun h=>lW vH
 have ha1:=hp.a1
 intro n
 induction n with
 | zero=>intro i e a1 a2; omega
 | succ n ih =>
  intro i e a1 a2 he
  rw [mW]
  by_cases hi:i < p.arrays.length
  ·have hi':(i:Int) < p.arrays.length:=by omega
   have hx:p.arrays[i]?=some p.arrays[i]:=List.getElem?_eq_getElem hi
   have w1:=zY (a:=i) (by omega)
   rw [List.drop_eq_getElem_cons hi]
   generalize p.arrays[i]=y at *
   have hC:KB A (B++[.cells y.cells]):=hB.app (by simp [mL.cells])
   have h69:=c69 (e:=e) hp hC y he
   have htr:=fun e=>vS (X:=ck p e) (A:=A) (B:=B) (C:=[.cells y.cells]) hB AA
   simp only [A3]
   cases hs:(BN p.inn p.out e y).1
   ·refine⟨.ret,2,(BN p.inn p.out e y).2,i,?_,.inl ⟨rfl,rfl,rfl⟩⟩
    rw [hs] at h69
    simp only [mL.cells] at h69 htr hx ⊢
    simp -implicitDefEqProofs [KY,hi',hx,h69,lJ,htr,q0,q1,mL.cells]
   ·obtain⟨ex,r,e',j,g1,g2⟩:=ih (i+1) (BN p.inn p.out e y).2 (by omega) hi (Og he)
    refine⟨ex,r,e',j,?_,g2⟩
    rw [hs] at h69
    simp only [Int.natCast_add,Int.cast_ofNat_Int] at g1
    rw [←g1]
    simp only [mL.cells] at h69 htr hx ⊢
    simp -implicitDefEqProofs [KY,hi',hx,h69,lJ,htr,q0,q1,w1,mL.cells]
  ·have hi':¬(i:Int) < p.arrays.length:=by omega
   have htr:=rE (X:=ck p e) (A:=A) (B:=B) hB AA
   rw [List.drop_eq_nil_of_le (by omega)]
   refine⟨.exit 0,0,e,i,?_,.inr ⟨rfl,rfl,rfl⟩⟩
   simp -implicitDefEqProofs [KY,hi',lJ,htr,q0,q1]
theorem WN (e:Int) (b:lR) (hb:b.ops.length≤1048576) (k kk:Int):∀(n i:Nat),b.ops.length < i+n→i≤b.ops.length →
  ∃(ex:Ex) (r:Int) (j:Int),mQ (KZ KK (HN A B+2)) ([.int .i64 0,.ptr A.length 0,.ptr (HN A B) 0,.slice (p.blocks.map lR.cells) .no,.int .i64 kk,.int .i64 k,.slice (b.ops.map Op.cells) .no,.int .i64 (b.ops.length:Int),.int .i64 (i:Int)],OQ A (ck p e) (B++[.cells b.cells,.front 0 0])) =
   some (ex,[.int .i64 r,.ptr A.length 0,.ptr (HN A B) 0,.slice (p.blocks.map lR.cells) .no,.int .i64 kk,.int .i64 k,.slice (b.ops.map Op.cells) .no,.int .i64 (b.ops.length:Int),.int .i64 j],OQ A (ck p e) (B++[.cells b.cells,.front 0 0])) ∧
   ((ex=.ret∧r=2∧(b.ops.drop i).all (JB p)=false)∨(ex=.exit 4∧r=0∧(b.ops.drop i).all (JB p)=true)):=by
 have hX:=AA (p:=p) (e:=e)
 have hB2:KB A (B++[.cells b.cells,.front 0 0]):=hB.app (by simp [lR.cells])
 have q1:∀h,kS.oH (HN A B+2) h (.ptr A.length 0)=.ptr A.length 0:=fun h=>lW NR
 have q2:∀h,kS.oH (HN A B+2) h (.ptr (HN A B) 0)=.ptr (HN A B) 0:=fun h=>lW (by omega)
 have hn2:HN A (B++[.cells b.cells,.front 0 0])=HN A B+2:=by simp
 intro n
 induction n with
 | zero=>intro i a1 a2; omega
 | succ n ih =>
  intro i a1 a2
  rw [mW]
  by_cases hi:i < b.ops.length
  ·have hi':(i:Int) < b.ops.length:=by omega
   have hx:b.ops[i]?=some b.ops[i]:=List.getElem?_eq_getElem hi
   have w1:=zY (a:=i) (by omega)
   rw [List.drop_eq_getElem_cons hi]
   generalize b.ops[i]=y at *
   have hC:KB A ((B++[.cells b.cells,.front 0 0])++[.cells y.cells]):=hB2.app (by simp [Op.cells])
   have h70:=c70 (e:=e) hp hC y
   have htr:=vS (X:=ck p e) (A:=A) (B:=B++[.cells b.cells,.front 0 0]) (C:=[.cells y.cells]) hB2 AA
   rw [hn2] at htr
   simp only [List.append_assoc,List.cons_append,List.nil_append] at h70 htr
   simp only [List.all_cons]
   cases hs:JB p y
   ·refine⟨.ret,2,i,?_,.inl ⟨rfl,rfl,rfl⟩⟩
    rw [hs] at h70
    simp only [Op.cells] at h70 htr hx ⊢
    simp -implicitDefEqProofs [KZ,hi',hx,h70,lJ,htr,q1,q2,Op.cells]
   ·obtain⟨ex,r,j,g1,g2⟩:=ih (i+1) (by omega) hi
    refine⟨ex,r,j,?_,by simpa using g2⟩
    rw [hs] at h70
    simp only [Int.natCast_add,Int.cast_ofNat_Int] at g1
    rw [←g1]
    simp only [Op.cells] at h70 htr hx ⊢
    simp -implicitDefEqProofs [KZ,hi',hx,h70,lJ,htr,q1,q2,w1,Op.cells]
  ·have hi':¬(i:Int) < b.ops.length:=by omega
   have htr:=rE (X:=ck p e) (A:=A) (B:=B++[.cells b.cells,.front 0 0]) hB2 AA
   rw [hn2] at htr
   rw [List.drop_eq_nil_of_le (by omega)]
   refine⟨.exit 4,0,i,?_,.inr ⟨rfl,rfl,rfl⟩⟩
   simp -implicitDefEqProofs [KZ,hi',lJ,htr,q1,q2]
theorem WO (e:Int) (hops:∀b∈p.blocks,b.ops.length≤1048576):∀(n i:Nat),p.blocks.length < i+n→i≤p.blocks.length →
  ∃(ex:Ex) (r:Int) (j:Int),mQ (Ht KK (HN A B)) ([.int .i64 0,.ptr A.length 0,.slice (p.blocks.map lR.cells) .no,.int .i64 (p.blocks.length:Int),.int .i64 (i:Int)],OQ A (ck p e) B) =
   some (ex,[.int .i64 r,.ptr A.length 0,.slice (p.blocks.map lR.cells) .no,.int .i64 (p.blocks.length:Int),.int .i64 j],OQ A (ck p e) B) ∧
   ((ex=.ret∧r=2∧(p.blocks.drop i).all (Jh p)=false)∨(ex=.exit 2∧r=0∧(p.blocks.drop i).all (Jh p)=true)):=by
 have hX:=AA (p:=p) (e:=e)
 have q1:∀h,kS.oH (HN A B) h (.ptr A.length 0)=.ptr A.length 0:=fun h=>lW vH
 have hb1:=hp.b1
 intro n
 induction n with
 | zero=>intro i a1 a2; omega
 | succ n ih =>
  intro i a1 a2
  rw [mW]
  by_cases hi:i < p.blocks.length
  ·have hi':(i:Int) < p.blocks.length:=by omega
   have hx:p.blocks[i]?=some p.blocks[i]:=List.getElem?_eq_getElem hi
   have hm:=hops p.blocks[i] (List.getElem_mem hi)
   have w1:=zY (a:=i) (by omega)
   rw [List.drop_eq_getElem_cons hi]
   generalize p.blocks[i]=y at *
   have hB2:KB A (B++[.cells y.cells,.front 0 0]):=hB.app (by simp [lR.cells])
   have h71:=c71 (e:=e) hp hB2 y.term
   have htr:=vS (X:=ck p e) (A:=A) (B:=B) (C:=[.cells y.cells,.front 0 0]) hB AA
   obtain⟨ex,r,j,g1,g2⟩:=WN hp hq hB e y hm (i:Int) (p.blocks.length:Int) (y.ops.length+1) 0 (by omega) (Nat.zero_le _)
   simp only [List.drop_zero,Int.cast_ofNat_Int] at g1 g2
   simp only [List.all_cons,Jh]
   rcases g2 with ⟨rfl,rfl,g2⟩ | ⟨rfl,rfl,g2⟩
   ·refine⟨.ret,2,i,?_,.inl ⟨rfl,rfl,by rw [g2]; rfl⟩⟩
    simp only [lR.cells,Term.cells] at h71 htr hx g1 ⊢
    simp -implicitDefEqProofs [Ht,hi',hx,g1,h71,lJ,htr,q1,lR.cells]
   ·rw [g2]
    cases ht:wN (p:=p) y.term
    ·refine⟨.ret,2,i,?_,.inl ⟨rfl,rfl,rfl⟩⟩
     rw [ht] at h71
     simp only [lR.cells,Term.cells] at h71 htr hx g1 ⊢
     simp -implicitDefEqProofs [Ht,hi',hx,g1,h71,lJ,htr,q1,lR.cells]
    ·obtain⟨ex,r,j,g3,g4⟩:=ih (i+1) (by omega) hi
     refine⟨ex,r,j,?_,by simpa [Jh] using g4⟩
     rw [ht] at h71
     simp only [Int.natCast_add,Int.cast_ofNat_Int] at g3
     rw [←g3]
     simp only [lR.cells,Term.cells] at h71 htr hx g1 ⊢
     simp -implicitDefEqProofs [Ht,hi',hx,g1,h71,lJ,htr,q1,w1,lR.cells]
  ·have hi':¬(i:Int) < p.blocks.length:=by omega
   have htr:=rE (X:=ck p e) (A:=A) (B:=B) hB AA
   rw [List.drop_eq_nil_of_le (by omega)]
   refine⟨.exit 2,0,i,?_,.inr ⟨rfl,rfl,rfl⟩⟩
   simp -implicitDefEqProofs [Ht,hi',lJ,htr,q1]
end
end Go.Proofs.YtkeoalhglkfbkaaDoor


namespace Go.Proofs.YtkeoalhglkfbkaaDoor
open Go Hk
theorem GL {l:List lR}{b:lR}(h:b∈l):(b.ops.length:Int)≤vF l:=by
 induction l with
 | nil=>cases h
 | cons x r ih =>
  have:=GM r
  rcases List.mem_cons.1 h with rfl | h
  ·simp only [vF]; omega
  ·have:=ih h; simp only [vF]; omega
structure aeQ (p:IR):Prop where
 t1:p.temps≤1048576
 a1:(p.arrays.length:Int)≤1048576
 b1:(p.blocks.length:Int)≤1048576
 o1:vF p.blocks≤1048576
 r1:max p.out 0+vN p.arrays≤65536
theorem tV {p:IR}:pC p=true↔aeQ p:=by
 simp only [pC,Bool.and_eq_true,decide_eq_true_eq]
 exact⟨fun⟨⟨⟨⟨a,b⟩,c⟩,d⟩,e⟩=>⟨a,b,c,d,e⟩,fun h=>⟨⟨⟨⟨h.t1,h.a1⟩,h.b1⟩,h.o1⟩,h.r1⟩⟩
set_option maxHeartbeats 1000000 in
theorem c30 (p:IR) (h:kU):KK 30 [.agg p.cells] h=some (.ret (.int .i64 (mN p)),h):=by
 refine mD rfl rfl (mR (ap1 _ _ _) ?_)
 have h67:=c67 p
 unfold mN
 cases hl:pC p
 ·rw [hl] at h67
  simp only [IR.cells] at h67 ⊢
  simp [m30,h67,lM]
 rw [hl] at h67
 obtain⟨l1,l2,l3,l4,l5⟩:=tV.1 hl
 cases c1:mO p.inn 0 65536
 ·simp only [IR.cells] at h67 ⊢
  simp [m30,h67,Fo,c1,lM]
 cases c2:mO p.out 0 65536
 ·simp only [IR.cells] at h67 ⊢
  simp [m30,h67,Fo,c1,c2,lM]
 by_cases c3:p.inn.tmod 4=0
 case neg =>
  simp only [IR.cells] at h67 ⊢
  simp [m30,h67,Fo,c1,c2,c3,oK,lM]
 by_cases c4:p.out.tmod 4=0
 case neg =>
  simp only [IR.cells] at h67 ⊢
  simp [m30,h67,Fo,c1,c2,c3,c4,oK,lM]
 by_cases c5:0≤p.temps
 case neg =>
  have c5':p.temps < 0:=by omega
  simp only [IR.cells] at h67 ⊢
  simp [m30,h67,Fo,c1,c2,c3,c4,c5,c5',oK,lM]
 by_cases c6:p.blocks=[]
 ·have c5':¬p.temps < 0:=by omega
  simp only [IR.cells] at h67 ⊢
  rw [c6] at h67
  simp only [List.map_nil] at h67
  simp [m30,h67,Fo,c1,c2,c3,c4,c5,c5',c6,oK,lM]
 have c5':¬p.temps < 0:=by omega
 have c6':¬(p.blocks.length:Int)=0:=by
  have:p.blocks.length≠0:=fun e=>c6 (List.eq_nil_of_length_eq_zero e)
  omega
 have hp:Ys p:=by
  simp only [mO,Bool.and_eq_true,decide_eq_true_eq] at c1 c2
  exact⟨c5,l1,l2,l3,c1.1,c1.2,c2.1,c2.2⟩
 have hB:KB [mI.cells p.cells] []:=⟨fun n hn=>by simp [IR.cells],fun n hn=>by simp⟩
 have hq:0 < [mI.cells p.cells].length:=by simp
 obtain⟨ex,r,e',j,g1,g2⟩:=WM hp hq hB (p.arrays.length+1) 0 0 (by omega) (Nat.zero_le _) (by omega)
 obtain⟨ex2,r2,j2,g3,g4⟩:=WO hp hq hB e' (fun b hb=>by have:=GL hb; omega) (p.blocks.length+1) 0 (by omega) (Nat.zero_le _)
 simp only [List.drop_zero,Int.cast_ofNat_Int,OQ,HN,List.length_cons,List.length_nil,List.cons_append,List.nil_append,ck,IR.cells,Nat.zero_add,Nat.add_zero,Nat.reduceAdd] at g1 g2 g3 g4
 rcases g2 with ⟨rfl,rfl,g2⟩ | ⟨rfl,rfl,g2⟩
 ·simp only [IR.cells] at h67 ⊢
  simp [m30,h67,Fo,c1,c2,c3,c4,c5,c5',c6,c6',oK,lM,g1,g2]
 ·rcases g4 with ⟨rfl,rfl,g4⟩ | ⟨rfl,rfl,g4⟩
  ·simp only [IR.cells] at h67 ⊢
   simp [m30,h67,Fo,c1,c2,c3,c4,c5,c5',c6,c6',oK,lM,g1,g2,g3,g4]
  ·simp only [IR.cells] at h67 ⊢
   simp [m30,h67,Fo,c1,c2,c3,c4,c5,c5',c6,c6',oK,lM,g1,g2,g3,g4]
end Go.Proofs.YtkeoalhglkfbkaaDoor


namespace Go.Proofs.YtkeoalhglkfbkaaDoor
open Go Hk
section
variable (k:Int) (h:kU)
end
end Go.Proofs.YtkeoalhglkfbkaaDoor


namespace Go.Proofs.YtkeoalhglkfbkaaDoor
open Go Hk
end Go.Proofs.YtkeoalhglkfbkaaDoor


namespace Go.Proofs.YtkeoalhglkfbkaaDoor
open Go Hk
section
variable {p:IR}(hp:Ys p)
include hp
end
end Go.Proofs.YtkeoalhglkfbkaaDoor


namespace Go.Proofs.YtkeoalhglkfbkaaDoor
open Go Hk
section
variable {p:IR}(ha:(p.arrays.length:Int)≤1048576) (hb:(p.blocks.length:Int)≤1048576)
include hb
omit hb
include ha
end
section
variable {p:IR}(hp:Ys p)
include hp
end
end Go.Proofs.YtkeoalhglkfbkaaDoor


namespace Go.Proofs.YtkeoalhglkfbkaaDoor
open Go Hk
def adD (o:Op) (S:Int→Prop):Int→Prop:=fun t=>t∈mU o∨(S t∧¬((mM o.kind).dst=true∧o.dst=t))
def I7 (x:Term) (S:Int→Prop):Int→Prop:=fun t=>(x.kind=2∧x.a=t)∨S t
def pA (l:List Op) (x:Term) (S:Int→Prop):Int→Prop:=l.foldr adD (I7 x S)
def Ch (b:lR) (S:Int→Prop):Int→Prop:=pA b.ops b.term S
def s7:List Op→Term→Int→Int
 | [],x,t=>if x.kind=2∧x.a=t then 1 else 0
 | o::r,x,t=>if t∈mU o then 1 else if (mM o.kind).dst=true∧o.dst=t then 2 else s7 r x t
theorem rZ (l:List Op) (x:Term) (S:Int→Prop) (t:Int):pA l x S t↔s7 l x t=1∨(s7 l x t=0∧S t):=by
 induction l with
 | nil =>
  simp only [pA,List.foldr_nil,I7,s7]
  by_cases h:x.kind=2∧x.a=t <;> simp [h]
 | cons o r ih =>
  have e:pA (o::r) x S t↔t∈mU o∨(pA r x S t∧¬((mM o.kind).dst=true∧o.dst=t)):=Iff.rfl
  rw [e,ih]
  simp only [s7]
  by_cases h1:t∈mU o
  ·simp [h1]
  ·by_cases h2:(mM o.kind).dst=true∧o.dst=t
   ·simp [h1,h2]
   ·simp [h1,h2]
def pW (x:Term):List Int:=if x.kind=1 then [x.yes].filter (fun k=>decide (0≤k)) else if x.kind=2 then [x.yes,x.no].filter (fun k=>decide (0≤k)) else []
inductive Reach (bs:List lR) (t:Int):Nat→Prop
 | here {k:Nat}{b:lR}(hb:bs[k]?=some b) (hf:s7 b.ops b.term t=1):Reach bs t k
 | step {k:Nat}{b:lR}{j:Int}(hb:bs[k]?=some b) (hf:s7 b.ops b.term t=0) (hj:j∈pW b.term) (hr:Reach bs t j.toNat):Reach bs t k
def pO (bs:List lR) (t:Int) (x:Term):Prop:=∃j∈pW x,Reach bs t j.toNat
theorem yD {bs:List lR}{t:Int}{k:Nat}{b:lR}(hb:bs[k]?=some b):Reach bs t k↔Ch b (fun t=>pO bs t b.term) t:=by
 unfold Ch
 rw [rZ]
 constructor
 ·intro h
  cases h with
  | here hb' hf=>rw [hb] at hb'; cases hb'; exact .inl hf
  | step hb' hf hj hr=>rw [hb] at hb'; cases hb'; exact .inr ⟨hf,_,hj,hr⟩
 ·rintro(h | ⟨h,j,hj,hr⟩)
  ·exact .here hb h
  ·exact .step hb h hj hr
theorem uC {l:List Op}{x:Term}{S T:Int→Prop}(h:∀t,S t→T t) {t:Int}(ht:pA l x S t):pA l x T t:=by
 rw [rZ] at ht ⊢
 rcases ht with h1 | ⟨h1,h2⟩
 ·exact .inl h1
 ·exact .inr ⟨h1,h _ h2⟩
theorem Ta {bs:List lR}{W:Nat→Int→Prop}(hW:∀k t,W k t→Reach bs t k) {k:Nat}{b:lR}(hb:bs[k]?=some b) {t:Int}
  (ht:Ch b (fun t=>∃j∈pW b.term,W j.toNat t) t):Reach bs t k :=
 (yD hb).2 (uC (fun t ⟨j,hj,hw⟩=>⟨j,hj,hW _ _ hw⟩) ht)
theorem E5 {bs:List lR}{W:Nat→Int→Prop}(hfix:∀k b,bs[k]?=some b→∀t,Ch b (fun t=>∃j∈pW b.term,W j.toNat t) t→W k t) {t:Int}{k:Nat}(h:Reach bs t k):W k t:=by
 induction h with
 | here hb hf=>exact hfix _ _ hb _ (by unfold Ch; rw [rZ]; exact .inl hf)
 | step hb hf hj hr ih=>exact hfix _ _ hb _ (by unfold Ch; rw [rZ]; exact .inr ⟨hf,_,hj,ih⟩)
end Go.Proofs.YtkeoalhglkfbkaaDoor


namespace Go.Proofs.Wd
abbrev Wd:=BitVec 64
theorem abI (n:Nat) (h:0 < n):∃k m,n=2 ^ k * (2 * m+1):=by
 induction n using Nat.strongRecOn with
 | _ n ih =>
  by_cases h1:n % 2=1
  ·exact⟨0,n / 2,by omega⟩
  ·obtain⟨k,m,e⟩:=ih (n / 2) (by omega) (by omega)
   refine⟨k+1,m,?_⟩
   rw [Nat.pow_succ,Nat.mul_comm (2 ^ k) 2,Nat.mul_assoc,←e]; omega
theorem lowest (w:Wd) (h:w≠0#64):∃k,k < 64∧w.getLsbD k=true∧(∀i,i < k→w.getLsbD i=false)∧(∀i,(w - 1#64).getLsbD i=if i < k then true else if i=k then false else w.getLsbD i):=by
 have h0:w.toNat≠0:=fun e=>h (BitVec.eq_of_toNat_eq (by simpa using e))
 obtain⟨k,m,e⟩:=abI w.toNat (by omega)
 have hw:=w.isLt
 have e1:w.toNat=2 ^ (k+1) * m+2 ^ k:=by rw [e,Nat.pow_succ]; rw [Nat.mul_add,Nat.mul_one,Nat.mul_assoc]
 have hp:0 < 2 ^ k:=Nat.two_pow_pos k
 have e2:(w - 1#64).toNat=2 ^ (k+1) * m+(2 ^ k - 1):=by
  rw [BitVec.toNat_sub]
  have:(1#64).toNat=1:=rfl
  rw [this]
  have:2 ^ 64 - 1+w.toNat=(w.toNat - 1)+2 ^ 64:=by omega
  rw [this,Nat.add_mod_right,Nat.mod_eq_of_lt (by omega),e1]
  omega
 have hpk:2 ^ k < 2 ^ (k+1):=Nat.pow_lt_pow_right (by omega) (by omega)
 have b1:∀i,w.getLsbD i=if i < k+1 then decide (k=i) else m.testBit (i - (k+1)):=fun i=>by
  rw [BitVec.getLsbD,e1,Nat.testBit_two_pow_mul_add m hpk,Nat.testBit_two_pow]
 have b2:∀i,(w - 1#64).getLsbD i=if i < k+1 then decide (i < k) else m.testBit (i - (k+1)):=fun i=>by
  rw [BitVec.getLsbD,e2,Nat.testBit_two_pow_mul_add m (by omega),Nat.testBit_two_pow_sub_one]
 have hk:k < 64:=by
  rcases Nat.lt_or_ge k 64 with h1 | h1
  ·exact h1
  ·have:2 ^ 64≤2 ^ k:=Nat.pow_le_pow_right (by omega) h1
   omega
 refine⟨k,hk,by rw [b1]; simp,fun i hi=>?_,fun i=>?_⟩
 ·rw [b1,if_pos (by omega)]; simp; omega
 ·rw [b2,b1]
  by_cases h1:i < k
  ·rw [if_pos (by omega),if_pos h1]; simp [h1]
  ·rw [if_neg h1]
   by_cases h2:i=k
   ·rw [if_pos (by omega),if_pos h2]; simp [h2]
   ·rw [if_neg (by omega),if_neg h2,if_neg (by omega)]
theorem agA (w:Wd) {k:Nat}(hk:k < 64) (h1:w.getLsbD k=true) (h2:∀i,i < k→w.getLsbD i=false) (h3:∀i,(w - 1#64).getLsbD i=if i < k then true else if i=k then false else w.getLsbD i) :
  w &&& -w=BitVec.twoPow 64 k:=by
 have e:-w = ~~~(w - 1#64):=by
  rw [BitVec.neg_eq_not_add]
  apply BitVec.eq_of_toNat_eq
  rw [BitVec.toNat_add,BitVec.toNat_not,BitVec.toNat_not,BitVec.toNat_sub]
  have hw:=w.isLt
  have:(1#64).toNat=1:=rfl
  rw [this]
  omega
 apply BitVec.eq_of_getLsbD_eq
 intro i hi
 rw [BitVec.getLsbD_and,e,BitVec.getLsbD_not,h3,BitVec.getLsbD_twoPow]
 by_cases c1:i < k
 ·simp [c1,h2 i c1]; omega
 ·by_cases c2:i=k
  ·subst c2; simp [h1,hi]
  ·simp [c1,c2,hi]; omega
theorem Wm (w:Wd) {k:Nat}(h2:∀i,i < k→w.getLsbD i=false) (h3:∀i,(w - 1#64).getLsbD i=if i < k then true else if i=k then false else w.getLsbD i) (i:Nat) :
  (w &&& (w - 1#64)).getLsbD i=(w.getLsbD i && !decide (i=k)):=by
 rw [BitVec.getLsbD_and,h3]
 by_cases c1:i < k
 ·simp [c1,h2 i c1]
 ·by_cases c2:i=k
  ·subst c2; simp
  ·simp [c1,c2]
theorem Zc (w:Wd) (h:w≠0#64):(w &&& (w - 1#64)).toNat < w.toNat:=by
 have h0:w.toNat≠0:=fun e=>h (BitVec.eq_of_toNat_eq (by simpa using e))
 have hw:=w.isLt
 have e1:(w - 1#64).toNat=w.toNat - 1:=by
  rw [BitVec.toNat_sub]
  have:(1#64).toNat=1:=rfl
  rw [this]; omega
 rw [BitVec.toNat_and,e1]
 have:=Nat.and_le_right (n:=w.toNat) (m:=w.toNat - 1)
 omega
def xP (w:Wd):List Nat:=(List.range 64).filter fun i=>w.getLsbD i
theorem S_:xP 0#64=[]:=by simp [xP]
theorem S9 (w:Wd) {k:Nat}(hk:k < 64) (h1:w.getLsbD k=true) (h2:∀i,i < k→w.getLsbD i=false) (h3:∀i,(w - 1#64).getLsbD i=if i < k then true else if i=k then false else w.getLsbD i) :
  xP w=k::xP (w &&& (w - 1#64)):=by
 have er:List.range 64=List.range k++(k::List.range' (k+1) (63 - k)):=by
  have:k::List.range' (k+1) (63 - k)=List.range' k (63 - k+1):=by rw [List.range'_succ]
  rw [this,List.range_eq_range',List.range_eq_range',show 63 - k+1=64 - k by omega]
  have:=List.range'_append_1 (s:=0) (m:=k) (n:=64 - k)
  simp only [Nat.zero_add] at this
  rw [this]; congr 1; omega
 have lo:∀v:Wd,(∀i,i < k→v.getLsbD i=false)→(List.range k).filter (fun i=>v.getLsbD i)=[]:=fun v hv=>by
  rw [List.filter_eq_nil_iff]
  intro i hi
  rw [hv i (List.mem_range.1 hi)]; simp
 have hc:=Wm w h2 h3
 unfold xP
 rw [er,List.filter_append,List.filter_append,lo w h2,lo _ (fun i hi=>by rw [hc,h2 i hi]; simp),List.nil_append,List.nil_append,List.filter_cons,List.filter_cons,if_pos h1,if_neg (by rw [hc]; simp)]
 congr 1
 apply List.filter_congr
 intro i hi
 have:=List.mem_range'_1.1 hi
 rw [hc]
 have:¬i=k:=by omega
 simp [this]
def qC (ws:List Wd) (t:Nat):Bool:=(ws.getD (t / 64) 0#64).getLsbD (t % 64)
def B8 (ws:List Wd) (n:Nat):List Wd:=ws++List.replicate (n - ws.length) 0#64
theorem B_ (ws:List Wd) (n:Nat):(B8 ws n).length=max ws.length n:=by simp [B8]; omega
theorem B9 (ws:List Wd) (n i:Nat):(B8 ws n).getD i 0#64=ws.getD i 0#64:=by
 unfold B8
 rw [List.getD_eq_getElem?_getD,List.getD_eq_getElem?_getD]
 by_cases h:i < ws.length
 ·rw [List.getElem?_append_left h]
 ·rw [List.getElem?_append_right (by omega),List.getElem?_eq_none (l:=ws) (by omega),List.getElem?_replicate]
  split <;> rfl
theorem Ls {ws:List Wd}{n:Nat}(h:n≤ws.length):B8 ws n=ws:=by simp [B8,Nat.sub_eq_zero_of_le h]
theorem Ns {ws:List Wd}{n:Nat}(h:ws.length < n):B8 (ws++[0#64]) n=B8 ws n:=by
 unfold B8
 rw [List.length_append,List.length_singleton,List.append_assoc,List.singleton_append,←List.replicate_succ]
 congr 2; omega
theorem KH (ws:List Wd) (i j:Nat) (x:Wd) (h:i < ws.length):(ws.set i x).getD j 0#64=if i=j then x else ws.getD j 0#64:=by
 rw [List.getD_eq_getElem?_getD,List.getD_eq_getElem?_getD,List.getElem?_set]
 split
 ·rename_i e; subst e; simp [h]
 ·rfl
def xU (ws:List Wd) (t:Nat):List Wd:=(B8 ws (t / 64+1)).set (t / 64) ((B8 ws (t / 64+1)).getD (t / 64) 0#64 ||| BitVec.twoPow 64 (t % 64))
theorem NQ (ws:List Wd) (t:Nat):(xU ws t).length=max ws.length (t / 64+1):=by simp [xU,B_]
theorem NO (ws:List Wd) (t u:Nat):qC (xU ws t) u=(qC ws u || decide (u=t)):=by
 unfold qC xU
 rw [KH _ _ _ _ (by rw [B_]; omega)]
 by_cases h:t / 64=u / 64
 ·rw [if_pos h,B9,h,BitVec.getLsbD_or,BitVec.getLsbD_twoPow]
  have:decide (t % 64=u % 64)=decide (u=t):=by
   by_cases e:u=t
   ·simp [e]
   ·simp [e]; omega
  have h64:t % 64 < 64:=Nat.mod_lt _ (by omega)
  simp only [this]
  have:decide (t % 64 < 64)=true:=by simp [h64]
  simp [this]
 ·rw [if_neg h,B9]
  have:¬u=t:=fun e=>h (by rw [e])
  simp [this]
def vY (ws:List Wd) (t:Nat):List Wd:=if t / 64 < ws.length then ws.set (t / 64) (ws.getD (t / 64) 0#64 &&& ~~~ BitVec.twoPow 64 (t % 64)) else ws
theorem GW (ws:List Wd) (t:Nat):(vY ws t).length=ws.length:=by unfold vY; split <;> simp
theorem PL (ws:List Wd) (t u:Nat):qC (vY ws t) u=(qC ws u && !decide (u=t)):=by
 unfold vY
 split
 ·rename_i hlt
  unfold qC
  rw [KH _ _ _ _ hlt]
  have hu64:u % 64 < 64:=Nat.mod_lt _ (by omega)
  by_cases h:t / 64=u / 64
  ·rw [if_pos h,h,BitVec.getLsbD_and,BitVec.getLsbD_not,BitVec.getLsbD_twoPow]
   have:decide (t % 64=u % 64)=decide (u=t):=by
    by_cases e:u=t
    ·simp [e]
    ·simp [e]; omega
   simp only [this]
   have h64:t % 64 < 64:=Nat.mod_lt _ (by omega)
   simp [hu64,h64]
  ·rw [if_neg h]
   have:¬u=t:=fun e=>h (by rw [e])
   simp [this]
 ·rename_i hlt
  by_cases h:u=t
  ·subst h
   unfold qC
   rw [List.getD_eq_getElem?_getD,List.getElem?_eq_none (by omega)]
   simp
  ·simp [h]
def Jm (out s:List Wd):List Wd:=(B8 out s.length).mapIdx fun i w=>w ||| s.getD i 0#64
theorem Vj (out s:List Wd):(Jm out s).length=max out.length s.length:=by simp [Jm,B_]
theorem Ra (out s:List Wd) (i:Nat):(Jm out s).getD i 0#64=out.getD i 0#64 ||| s.getD i 0#64:=by
 unfold Jm
 rw [List.getD_eq_getElem?_getD,List.getElem?_mapIdx]
 have:=B9 out s.length i
 rw [List.getD_eq_getElem?_getD] at this
 cases h:(B8 out s.length)[i]? with
 | some x=>rw [h] at this; simp at this; simp [this]
 | none =>
  rw [h] at this
  have hl:=List.getElem?_eq_none_iff.1 h
  rw [B_] at hl
  clear this
  rw [List.getD_eq_getElem?_getD,List.getD_eq_getElem?_getD,List.getElem?_eq_none (l:=out) (by omega),List.getElem?_eq_none (l:=s) (by omega)]
  simp
theorem aj0 (out s:List Wd) (t:Nat):qC (Jm out s) t=(qC out t || qC s t):=by unfold qC; rw [Ra,BitVec.getLsbD_or]
def oT (ws:List Wd):List Nat:=(List.range (64 * ws.length)).filter (qC ws)
theorem EO {ws:List Wd}{t:Nat}(h:qC ws t=true):t < 64 * ws.length:=by
 unfold qC at h
 by_cases hlt:t / 64 < ws.length
 ·omega
 ·rw [List.getD_eq_getElem?_getD,List.getElem?_eq_none (by omega)] at h; simp at h
theorem Gp {p:Nat→Bool}:∀{n m:Nat},n≤m→(∀t,p t=true→t < n)→(List.range m).filter p=(List.range n).filter p:=by
 intro n m hnm hp
 obtain⟨d,rfl⟩:=Nat.exists_eq_add_of_le hnm
 rw [List.range_add,List.filter_append]
 have:(List.map (fun x=>n+x) (List.range d)).filter p=[]:=by
  rw [List.filter_eq_nil_iff]
  intro t ht
  obtain⟨i,_,rfl⟩:=List.mem_map.1 ht
  intro h
  have:=hp _ h
  omega
 rw [this,List.append_nil]
theorem Dw {ws:List Wd}{n:Nat}(h:∀t,qC ws t=true→t < n):oT ws=(List.range n).filter (qC ws):=by
 unfold oT
 rcases Nat.le_total n (64 * ws.length) with h1 | h1
 ·exact Gp h1 h
 ·exact(Gp h1 fun t ht=>EO ht).symm
theorem Nk {ws:List Wd}{t:Nat}:t∈oT ws↔qC ws t=true:=by
 unfold oT
 rw [List.mem_filter,List.mem_range]
 exact⟨fun h=>h.2,fun h=>⟨EO h,h⟩⟩
theorem Wj {a b:List Wd}:oT a=oT b↔∀t,qC a t=qC b t:=by
 constructor
 ·intro h t
  have:t∈oT a↔t∈oT b:=by rw [h]
  rw [Nk,Nk] at this
  cases ha:qC a t <;> cases hb:qC b t <;> simp_all
 ·intro h
  have ha:oT a=(List.range (64 * max a.length b.length)).filter (qC a):=Dw fun t ht=>by have:=EO ht; omega
  have hb:oT b=(List.range (64 * max a.length b.length)).filter (qC b):=Dw fun t ht=>by have:=EO ht; omega
  rw [ha,hb]
  exact List.filter_congr fun t _=>h t
def pJ (ws:List Wd) (n:Nat):List Nat:=(List.range n).flatMap fun i=>(xP (ws.getD i 0#64)).map (64 * i+·)
theorem Dx (ws:List Wd):∀n,pJ ws n=(List.range (64 * n)).filter (qC ws)
 | 0=>by simp [pJ]
 | n+1=>by
  have ih:=Dx ws n
  unfold pJ at ih ⊢
  rw [List.range_succ,List.flatMap_append,ih,Nat.mul_add,Nat.mul_one,List.range_add,List.filter_append]
  congr 1
  simp only [List.flatMap_cons,List.flatMap_nil,List.append_nil,xP,List.filter_map]
  congr 1
  apply List.filter_congr
  intro i hi
  have:=List.mem_range.1 hi
  simp only [Function.comp,qC]
  rw [show(64 * n+i) / 64=n by omega,show(64 * n+i) % 64=i by omega]
theorem S8 (ws:List Wd):oT ws=pJ ws ws.length:=(Dx ws _).symm
end Go.Proofs.Wd


namespace Go.Proofs.YtkeoalhglkfbkaaDoor
open Go Hk Go.Proofs.Wd
def wc (w:Wd):kS:=.int .u64 (w.toNat:Int)
theorem RN {n:Int}:IntKind.wrap .u64 n=n % 18446744073709551616:=by simp [IntKind.wrap,IntKind.signed,IntKind.bits]
theorem B7 (w:Wd):BitVec.ofInt 64 (w.toNat:Int)=w:=by
 apply BitVec.eq_of_toNat_eq
 rw [BitVec.toNat_ofInt]
 have:=w.isLt
 omega
theorem PN (w:Wd):IntKind.wrap .u64 (w.toNat:Int)=w.toNat:=by
 rw [RN]; have:=w.isLt; omega
theorem Ka (a b:Wd):lE .or (wc a) (wc b)=some (wc (a ||| b)):=by
 show(some (kS.int .u64 (IntKind.wrap .u64 ((BitVec.ofInt 64 (a.toNat:Int) ||| BitVec.ofInt 64 (b.toNat:Int)).toNat:Int))):Option kS)=_
 rw [B7,B7,PN]; rfl
theorem IC (a b:Wd):lE .and (wc a) (wc b)=some (wc (a &&& b)):=by
 show(some (kS.int .u64 (IntKind.wrap .u64 ((BitVec.ofInt 64 (a.toNat:Int) &&& BitVec.ofInt 64 (b.toNat:Int)).toNat:Int))):Option kS)=_
 rw [B7,B7,PN]; rfl
theorem J8 (a b:Wd):lE .andNot (wc a) (wc b)=some (wc (a &&& ~~~ b)):=by
 show(some (kS.int .u64 (IntKind.wrap .u64 ((BitVec.ofInt 64 (a.toNat:Int) &&& ~~~ BitVec.ofInt 64 (b.toNat:Int)).toNat:Int))):Option kS)=_
 rw [B7,B7,PN]; rfl
theorem ID {s:Nat}(hs:s < 64):lE .shl (.int .u64 1) (.int .i64 (s:Int))=some (wc (BitVec.twoPow 64 s)):=by
 have h0:¬(s:Int) < 0:=by omega
 simp only [lE,if_neg h0,wc,BitVec.toNat_twoPow,Int.toNat_natCast,Option.some.injEq,kS.int.injEq,true_and]
 rw [RN]
 have:min s (IntKind.bits .u64)=s:=by simp [IntKind.bits]; omega
 rw [this,Int.natCast_emod]
 simp
theorem Qj (a:Wd):lE .sub (wc a) (.int .u64 1)=some (wc (a - 1#64)):=by
 unfold wc
 rw [YP,RN,BitVec.toNat_sub]
 have:=a.isLt
 congr 2
 have e:(1#64).toNat=1:=rfl
 rw [e]
 omega
theorem ajZ (a:Wd):lE .neq (wc a) (.int .u64 0)=some (.bool (!decide (a=0#64))):=by
 unfold wc
 rw [YO]
 congr 3
 rw [decide_eq_decide]
 have:((a.toNat:Int)=0)↔a=0#64:=⟨fun h=>BitVec.eq_of_toNat_eq (by have:(0#64).toNat=0:=rfl; omega),fun h=>by subst h; rfl⟩
 exact this
theorem atP (a:Wd):lE .eql (wc a) (.int .u64 0)=some (.bool (decide (a=0#64))):=by
 unfold wc
 rw [YM]
 congr 2
 rw [decide_eq_decide]
 have:((a.toNat:Int)=0)↔a=0#64:=⟨fun h=>BitVec.eq_of_toNat_eq (by have:(0#64).toNat=0:=rfl; omega),fun h=>by subst h; rfl⟩
 exact this
theorem Sq (a:Wd):xZ .neg (wc a)=some (wc (-a)):=by
 unfold wc
 rw [ae8,RN,BitVec.toNat_neg]
 have:=a.isLt
 congr 2
 omega
theorem XZ (a:Wd):lE .mul (wc a) (.int .u64 285870213051353865)=some (wc (a * 285870213051353865#64)):=by
 unfold wc
 rw [YN,RN,BitVec.toNat_mul]
 have e:(285870213051353865#64).toNat=285870213051353865:=rfl
 rw [e]
 congr 2
theorem X6 (a:Wd):lE .shr (wc a) (.int .u64 58)=some (.int .u64 ((a.toNat >>> 58:Nat):Int)):=by
 have h0:¬(58:Int) < 0:=by omega
 simp only [lE,wc,if_neg h0,Option.some.injEq,kS.int.injEq,true_and]
 rw [Int.fdiv_eq_ediv_of_nonneg _ (by simp [IntKind.bits]),Nat.shiftRight_eq_div_pow]
 simp [IntKind.bits]
def awF:List Nat:=[0,1,56,2,57,49,28,3,61,58,42,50,38,29,17,4,62,47,59,36,45,43,51,22,53,39,33,30,24,18,12,5,63,55,48,27,60,41,37,16,46,35,44,21,52,32,23,11,54,26,40,15,34,20,31,10,25,14,19,9,13,8,7,6]
def bru (k:Nat):Nat:=2 ^ k * 285870213051353865 % 18446744073709551616 / 288230376151711744
theorem anM:(List.range 64).all (fun k=>(awF[bru k]? == some k) && decide (bru k < 64))=true:=by decide +kernel
theorem anL {k:Nat}(hk:k < 64):(BitVec.twoPow 64 k * 285870213051353865#64).toNat >>> 58=bru k:=by
 have e:(285870213051353865#64).toNat=285870213051353865:=rfl
 have h2:2 ^ k % 2 ^ 64=2 ^ k:=Nat.mod_eq_of_lt (Nat.pow_lt_pow_right (by omega) hk)
 rw [BitVec.toNat_mul,BitVec.toNat_twoPow,h2,e,Nat.shiftRight_eq_div_pow]
 rfl
theorem SM:yN=awF.map fun n=>.int .u8 (n:Int):=by rfl
attribute [irreducible] bru
theorem anN {k:Nat}(hk:k < 64):yN[bru k]?=some (.int .u8 (k:Int))∧bru k < 64:=by
 have h:=List.all_eq_true.1 anM k (List.mem_range.2 hk)
 rw [Bool.and_eq_true,beq_iff_eq,decide_eq_true_eq] at h
 rw [SM,List.getElem?_map,h.1]
 exact⟨rfl,h.2⟩
theorem YY {k j:Nat}(b1:yN[j]?=some (.int .u8 (k:Int))) (b2:j < 64):∃p,uD 64 1 (.pptr yN) (.int .u64 (j:Int))=some p∧kW false 1 [] p=some (.int .u8 (k:Int)):=by
 refine⟨.pptr (yN.drop (j * 1)),?_,?_⟩
 ·have h1:(0:Int)≤(j:Int)∧(j:Int) < ((64:Nat):Int):=by omega
  simp only [uD,if_pos h1,Int.toNat_natCast]
 ·rw [p_,List.getElem?_drop,Nat.mul_one,Nat.add_zero]; exact b1
theorem ZQ {a b c d p:kS}{j k:Nat}(hk:k < 64) (f0:lE .eql a (.int .u64 0)=some (.bool false)) (f1:xZ .neg a=some b) (f2:lE .and a b=some c)
  (f3:lE .mul c (.int .u64 285870213051353865)=some d) (f4:lE .shr d (.int .u64 58)=some (.int .u64 (j:Int))) (e1:uD 64 1 (.pptr yN) (.int .u64 (j:Int))=some p) (e2:kW false 1 [] p=some (.int .u8 (k:Int))) :
  agN KK a []=some (.ret (.int .i64 (k:Int)),[]):=by
 have hw64:IntKind.i64.wrap (k:Int)=k:=by rw [wrap64] <;> omega
 simp [agN,f0,f1,f2,f3,f4,e1,e2,hw64,lM]
theorem V4 {a:kS}{k:Nat}(ha:[a].all (kS.uY 0)=true) (hm:agN KK a []=some (.ret (.int .i64 (k:Int)),[])) (h:kU):KK 125 [a] h=some (.ret (.int .i64 (k:Int)),h) :=
 mD rfl ha (mR (agQ _ _ _) hm)
theorem aA1 (w:Wd) {k:Nat}(hk:k < 64) (h1:w.getLsbD k=true) (h2:∀i,i < k→w.getLsbD i=false) (h3:∀i,(w - 1#64).getLsbD i=if i < k then true else if i=k then false else w.getLsbD i) (h:kU) :
  KK 125 [wc w] h=some (.ret (.int .i64 (k:Int)),h):=by
 have hw:w≠0#64:=fun e=>by subst e; simp at h1
 have hl:=agA w hk h1 h2 h3
 obtain⟨b1,b2⟩:=anN hk
 have f0:lE .eql (wc w) (.int .u64 0)=some (.bool false):=by rw [atP,decide_eq_false hw]
 have f1:=Sq w
 have f2:lE .and (wc w) (wc (-w))=some (wc (BitVec.twoPow 64 k)):=by rw [IC,hl]
 have f3:=XZ (BitVec.twoPow 64 k)
 have f4:lE .shr (wc (BitVec.twoPow 64 k * 285870213051353865#64)) (.int .u64 58)=some (.int .u64 (bru k:Int)):=by rw [X6,anL hk]
 have ha:[wc w].all (kS.uY 0)=true:=rfl
 generalize bru k=j at *
 generalize wc (-w)=b at *
 generalize wc (BitVec.twoPow 64 k * 285870213051353865#64)=d at *
 generalize wc (BitVec.twoPow 64 k)=c at *
 generalize wc w=a at *
 obtain⟨p,e1,e2⟩:=YY b1 b2
 exact V4 ha (ZQ hk f0 f1 f2 f3 f4 e1 e2) h
def VS (id:Nat):List Wd→kS
 | []=>.slice [] (.own id)
 | w::r=>.vslice id (r.length+1) 0 (r.length+1) 1
def XS:List Wd→mI
 | []=>.front 0 0
 | w::r=>.vec (r.length+1) 1 ((w::r).map wc)
section
variable {A B C:List mI}{ws:List Wd}{id m i:Nat}{h:kU}{k:IntKind}
theorem JW:lS (VS id ws)=some (.int .i64 (ws.length:Int)):=by cases ws <;> rfl
theorem aeW (hi:id < m):kS.oH m h (VS id ws)=VS id ws:=by
 cases ws with
 | nil=>simp [VS,hi]
 | cons w r=>exact tX hi
theorem xW (hi:id < m):kS.oL m h (VS id ws)=VS id ws:=by
 cases ws with
 | nil=>simp [VS,hi]
 | cons w r=>exact uA hi
theorem Au:XOk (XS ws):=by
 intro m h
 cases ws with
 | nil=>rfl
 | cons w r =>
  have:m_ m h ((w::r).map wc)=some ((w::r).map wc):=yP fun c hc=>by
   obtain⟨x,_,rfl⟩:=List.mem_map.1 hc; exact⟨_,_,rfl⟩
  show(m_ m h ((w::r).map wc)).map _=_
  rw [this]; rfl
theorem F9 (hi:i < ws.length):kX 1 (VS id ws) (.int k (i:Int))=some (.vptr id ws.length i):=by
 cases ws with
 | nil=>simp at hi
 | cons w r =>
  have:i < r.length+1:=by simpa using hi
  simp [VS,this]
theorem Jq {X:mI}:(OQ A X B)[A.length]?=some X:=by
 unfold OQ; rw [List.getElem?_append_right (Nat.le_refl _),Nat.sub_self]; rfl
theorem Ei (h0:ws≠[]):mZ (OQ A (XS ws) B) A.length ws.length=some (1,ws.map wc):=by
 unfold mZ
 rw [Jq]
 cases ws with
 | nil=>exact absurd rfl h0
 | cons w r=>simp [XS]
theorem Jr (hi:i < ws.length):kW false 1 (OQ A (XS ws) B) (.vptr A.length ws.length i)=some (wc (ws.getD i 0#64)):=by
 rw [lG,Ei (by intro e; subst e; simp at hi)]
 simp [List.getD_eq_getElem?_getD,hi]
theorem JX (hi:i < ws.length) (w:Wd):lT 1 (OQ A (XS ws) B) (.vptr A.length ws.length i) (wc w)=some (OQ A (XS (ws.set i w)) B):=by
 rw [lC,Ei (by intro e; subst e; simp at hi)]
 have e1:putCells (ws.map wc) i [wc w]=(ws.set i w).map wc:=by
  unfold putCells
  rw [List.map_set,List.set_eq_take_append_cons_drop,if_pos (by simpa using hi)]
  simp
 have e2:XS (ws.set i w)=.vec ws.length 1 ((ws.set i w).map wc):=by
  cases ws with
  | nil=>simp at hi
  | cons x r=>cases i <;> simp [XS]
 simp only [Option.bind_some]
 rw [if_pos ⟨rfl,by simp; omega,rfl⟩]
 show some (List.set _ _ (mI.vec ws.length 1 (putCells (ws.map wc) i [wc w])))=_
 rw [e1,←e2,Bl]
theorem MO (hl:ws.length≤2000000) (w:Wd) {t:Hk.Tok}:nJ 1 8 (OQ A (XS ws) B) (VS A.length ws) (.slice [[wc w]] t)=some (VS A.length (ws++[w]),OQ A (XS (ws++[w])) B):=by
 have hr:xY 1 (OQ A (XS ws) B) (.slice [[wc w]] t)=some [[wc w]]:=by simp
 cases ws with
 | nil =>
  unfold nJ
  simp only [VS,hr]
  rw [Jq]
  simp [XS,VS,Bl]
 | cons x r =>
  have hg:=Ei (A:=A) (B:=B) (ws:=x::r) (by simp)
  unfold nJ
  simp only [VS,hr]
  simp only [List.length_cons] at hg hl ⊢
  rw [hg]
  simp only [List.length_nil,Nat.zero_add]
  rw [if_pos ⟨trivial,trivial,by omega,by omega⟩,if_neg (by omega),if_neg (by omega)]
  simp [XS,VS,Bl,List.take_of_length_le]
end
end Go.Proofs.YtkeoalhglkfbkaaDoor


namespace Go.Proofs.YtkeoalhglkfbkaaDoor
open Go Hk Go.Proofs.Wd
theorem YI {id:Nat}{a b:List Wd}(h:a.length=b.length):VS id a=VS id b:=by
 cases a <;> cases b <;> simp_all [VS]
theorem Vn {t:Nat}(ht:t≤2000000):lE .quo (.int .i64 (t:Int)) (.int .i64 64)=some (.int .i64 ((t / 64:Nat):Int)):=by
 rw [Qi (by omega)]
 have:((t:Int)).tdiv 64=((t / 64:Nat):Int):=by rw [Int.tdiv_eq_ediv_of_nonneg (by omega)]; omega
 rw [this,wrap64 (by omega) (by omega)]
theorem alQ {t:Nat}:lE .rem (.int .i64 (t:Int)) (.int .i64 64)=some (.int .i64 ((t % 64:Nat):Int)):=by
 rw [oK (by omega),Int.tmod_eq_emod_of_nonneg (by omega)]; rfl
theorem Q8 {h:kU}:lU 1 1 [.int .u64 0] [(0,.int .u64 0)] h=some (.slice [[wc 0#64]] (.own h.length),h++[.front 1 1]):=by rfl
section
variable {A B:List mI}
theorem Wr (hB:KB A B) {t n:Nat}(ht:t≤2000000) (hn:n=t / 64+1) {v:kS}(hv:∀h,v.oL (HN A B) h=v):∀(d:Nat) (ws:List Wd),n - ws.length=d →
  mQ (Eo KK (HN A B)) ([VS A.length ws,.int .i64 (t:Int),v],OQ A (XS ws) B)=some (.exit 0,[VS A.length (B8 ws n),.int .i64 (t:Int),v],OQ A (XS (B8 ws n)) B):=by
 intro d
 induction d with
 | zero =>
  intro ws hd
  rw [mW,Ls (by omega)]
  have hc:¬((ws.length:Int)≤((t / 64:Nat):Int)):=by omega
  have q64:=Vn ht
  clear hd
  generalize t / 64=q at *
  have htr:=rE (X:=XS ws) (A:=A) (B:=B) hB Au
  have hs:=fun h=>xW (ws:=ws) (m:=HN A B) (h:=h) vH
  have step:Eo KK (HN A B) ([VS A.length ws,.int .i64 (t:Int),v],OQ A (XS ws) B)=some (.exit 0,[VS A.length ws,.int .i64 (t:Int),v],OQ A (XS ws) B):=by
   unfold Eo
   simp only [List.getD_cons_zero,List.getD_cons_succ]
   rw [q64,JW]
   simp -implicitDefEqProofs [hc,lJ,htr,hs,hv]
  rw [step]; rfl
 | succ d ih =>
  intro ws hd
  rw [mW]
  have hc:((ws.length:Int)≤((t / 64:Nat):Int)):=by omega
  have htr:=vS (X:=XS (ws++[0#64])) (A:=A) (B:=B) (C:=[.front 1 1]) hB Au
  have hs:=fun h=>xW (ws:=ws++[0#64]) (m:=HN A B) (h:=h) vH
  have g:=ih (ws++[0#64]) (by simp; omega)
  rw [Ns (by omega)] at g
  rw [←g]
  have ha:=fun t=>MO (A:=A) (B:=B++[.front 1 1]) (ws:=ws) (by omega) 0#64 (t:=t)
  have q64:=Vn ht
  clear g ih
  have hl:ws.length≤1000000:=by omega
  clear hd hn
  generalize t / 64=q at *
  have step:Eo KK (HN A B) ([VS A.length ws,.int .i64 (t:Int),v],OQ A (XS ws) B)=some (.normal,[VS A.length (ws++[0#64]),.int .i64 (t:Int),v],OQ A (XS (ws++[0#64])) B):=by
   unfold Eo
   simp only [List.getD_cons_zero,List.getD_cons_succ]
   rw [q64,JW]
   simp -implicitDefEqProofs [hc,lJ,htr,hs,hv,Q8,ha]
  rw [step]; rfl
theorem awI (hB:KB A B) {t:Nat}(ht:t≤2000000) (ws:List Wd):KK 122 [VS A.length ws,.int .i64 (t:Int)] (OQ A (XS ws) B)=some (.ret (VS A.length (xU ws t)),OQ A (XS (xU ws t)) (B++[.front 0 0])):=by
 refine mR (agK _ _ _ _) ?_
 have hB2:KB A (B++[.front 0 0]):=hB.app (by simp)
 have g:=Wr hB2 ht rfl (v:=.slice [] (.own (HN A B))) (fun h=>by simp) _ ws rfl
 have hl:t / 64 < (B8 ws (t / 64+1)).length:=by rw [B_]; omega
 have h1:=fun k=>F9 (id:=A.length) (k:=k) hl
 have h2:=Jr (A:=A) (B:=B++[.front 0 0]) hl
 have h3:=JX (A:=A) (B:=B++[.front 0 0]) hl
 have h4:=ID (s:=t % 64) (Nat.mod_lt _ (by omega))
 simp only [GY,List.length_cons,List.length_nil,Nat.zero_add] at g
 unfold xU axZ
 simp only [zE,NX,GY,List.length_cons,List.length_nil,Nat.zero_add]
 rw [g]
 simp only [Option.bind_some,RB,Ow,BEq.rfl,beq_self_eq_true,cond_true,List.getD_cons_zero,List.getD_cons_succ]
 rw [Vn ht,Option.bind_some,h1,Option.bind_some,h2,Option.bind_some,alQ,Option.bind_some,h4,Option.bind_some,Ka,Option.bind_some,Option.bind_some,h3]
 simp only [Option.bind_some,Zi,Option.some.injEq,Prod.mk.injEq,nZ.ret.injEq,and_true,List.getD_cons_zero]
 exact YI (by simp)
theorem aAZ (hB:KB A B) {t:Nat}(ht:t≤2000000) (ws:List Wd):KK 123 [(VS A.length ws).k8,.int .i64 (t:Int)] (OQ A (XS ws) B)=some (.ret (.tuple []),OQ A (XS (vY ws t)) B):=by
 refine mR (agL _ _ _ _) ?_
 have htr:=fun ws=>rE (X:=XS ws) (A:=A) (B:=B) hB Au
 have hlen:lS (VS A.length ws).k8=some (.int .i64 (ws.length:Int)):=by cases ws <;> rfl
 unfold vY ax0
 rw [Vn ht,Option.bind_some,hlen]
 by_cases hl:t / 64 < ws.length
 ·have hl':((t / 64:Nat):Int) < (ws.length:Int):=by omega
  have e:(VS A.length ws).k8=VS A.length ws:=by cases ws with | nil=>simp at hl | cons w r=>rfl
  have h1:=fun k=>F9 (id:=A.length) (k:=k) hl
  have h2:=Jr (A:=A) (B:=B) hl
  have h3:=JX (A:=A) (B:=B) hl
  have h4:=ID (s:=t % 64) (Nat.mod_lt _ (by omega))
  rw [e,if_pos hl]
  simp only [Option.bind_some,J_,decide_eq_true hl',lQ,cond_true]
  rw [h1,Option.bind_some,h2,Option.bind_some,alQ,Option.bind_some,h4,Option.bind_some,J8,Option.bind_some,Option.bind_some,h3]
  simp -implicitDefEqProofs [mX,htr]
 ·have hl':¬((t / 64:Nat):Int) < (ws.length:Int):=by omega
  rw [if_neg hl]
  simp only [Option.bind_some,J_,decide_eq_false hl',lQ,cond_false]
  simp -implicitDefEqProofs [mX,htr]
end
end Go.Proofs.YtkeoalhglkfbkaaDoor


namespace Go.Proofs.YtkeoalhglkfbkaaDoor
open Go Hk Go.Proofs.Wd
abbrev TH (h:kU):Prop:=zD h.length h
theorem pM {h C:kU}(hK:TH h):mS h.length (h++C)=some h:=by
 unfold mS
 rw [List.take_left]
 exact hK _ _ (Nat.le_refl _)
theorem oI {h:kU}(hK:TH h):mS h.length h=some h:=by
 have:=pM (C:=[]) hK
 rwa [List.append_nil] at this
theorem Se {h C:kU}(hK:TH h) (hC:zD (h.length+C.length) C):TH (h++C):=by
 unfold TH
 rw [List.length_append]
 exact pS (hK.mono (by omega)) hC
theorem avR {A B:List mI}{X:mI}(hB:KB A B) (hX:XOk X):TH (OQ A X B):=by
 intro m h' hm
 rw [zE] at hm
 refine Bd (hB.a m hm m h' (Nat.le_refl _)) ?_
 simp only [nW,hX m h',hB.b m hm m h' (Nat.le_refl _)]
structure E0 (h:kU) (S:kS) (ws:List Wd):Prop where
 len:lS S=some (.int .i64 (ws.length:Int))
 at_:∀i,i < ws.length→∃p,kX 1 S (.int .i64 (i:Int))=some p∧∀C,kW false 1 (h++C) p=some (wc (ws.getD i 0#64))
 oL:∀m h',h.length≤m→S.oH m h'=S
def PS (ws:List Wd):kS:=.slice (ws.map fun w=>[wc w]) .no
theorem Rn {h:kU}{ws:List Wd}:E0 h (PS ws) ws:=by
 refine⟨by simp [PS],fun i hi=>⟨.pptr [wc (ws.getD i 0#64)],?_,fun C=>by simp⟩,fun m h' _=>rfl⟩
 rw [PS,k_,List.getElem?_eq_getElem hi]
 simp [List.getD_eq_getElem?_getD,hi]
theorem acF {A B:List mI}{ws:List Wd}:E0 (OQ A (XS ws) B) (VS A.length ws) ws:=by
 refine⟨JW,fun i hi=>⟨_,F9 hi,fun C=>?_⟩,fun m h' hm=>aeW (by rw [zE] at hm; have:=vH (A:=A) (B:=B); omega)⟩
 rw [NX]; exact Jr hi
theorem E0.k8 {h:kU}{A B:List mI}{ws:List Wd}(e:h=OQ A (XS ws) B):E0 h (VS A.length ws).k8 ws:=by
 subst e
 cases ws with
 | nil=>exact⟨rfl,fun i hi=>by simp at hi,fun _ _ _=>rfl⟩
 | cons w r=>exact acF
def FR (n:Nat):mI:=if n=0 then .front 0 0 else .front n 1
theorem xL {n k:Nat}:zD k [FR n]:=by
 unfold FR; split <;> exact nP oW
def zs (l:List Nat):List Int:=l.map fun k:Nat=>(k:Int)
theorem IA {l:List Nat}:(zs l).length=l.length:=by simp [zs]
def ints (l:List Int):List (List kS):=l.map fun n=>[.int .i64 n]
theorem BG {h C:kU}{l:List Int}{z:Int}(hl:l.length≤2000000) {t:Hk.Tok} :
  nG 1 8 (h++FR l.length::C) (.slice (ints l) (.own h.length)) (.slice [[.int .i64 z]] t)=some (.slice (ints (l++[z])) (.own h.length),h++FR (l.length+1)::C):=by
 have hr:∀H:kU,sR 1 H (.slice [[.int .i64 z]] t)=some [[.int .i64 z]]:=fun H=>by simp
 have hg:∀x,(h++x::C)[h.length]?=some x:=fun x=>by rw [List.getElem?_append_right (Nat.le_refl _),Nat.sub_self]; rfl
 have hs:∀x y,(h++x::C).set h.length y=h++y::C:=fun x y=>by rw [List.set_append_right _ _ (Nat.le_refl _),Nat.sub_self]; rfl
 have hi:(ints l).length=l.length:=by simp [ints]
 have e1:FR (l.length+1)=.front (l.length+1) 1:=by simp [FR]
 have e2:ints (l++[z])=ints l++[[.int .i64 z]]:=by simp [ints]
 unfold nG
 simp only [hr]
 rw [hg,e1,e2]
 by_cases h0:l.length=0
 ·have e3:FR l.length=.front 0 0:=by simp [FR,h0]
  rw [e3]
  simp only [hi,List.length_singleton,hs]
  rw [if_pos ⟨h0,.inr ⟨trivial,trivial⟩,by omega,by omega⟩,if_neg (by omega),h0]
 ·have e3:FR l.length=.front l.length 1:=by simp [FR,h0]
  rw [e3]
  simp only [hi,List.length_singleton,hs]
  rw [if_pos ⟨trivial,.inl trivial,by omega,by omega⟩,if_neg (by omega)]
section
variable {h:kU}(hK:TH h) {S:kS}{ws:List Wd}(hS:E0 h S ws) (hw:ws.length≤20000)
include hK hS hw
theorem Xc (i:Nat) (hi:i≤20000) (c:Int) {v:kS}(hv:∀h',v.oH (h.length+2) h'=v) (hv2:∀h',v.oL (h.length+2) h'=v):∀(n:Nat) (w:Wd) (l:List Int),w.toNat < n→l.length+(xP w).length≤64 * i+64 →
  mQ (HH KK (h.length+2)) ([v,.slice (ints l) (.own (h.length+1)),.int .i64 (i:Int),wc w,S,.int .i64 c,.int .i64 (i:Int)],h++[.front 0 0,FR l.length]) =
   some (.exit 2,[v,.slice (ints (l++(xP w).map fun k=>((64 * i+k:Nat):Int))) (.own (h.length+1)),.int .i64 (i:Int),wc 0#64,S,.int .i64 c,.int .i64 (i:Int)],h++[.front 0 0,FR (l++(xP w).map fun k=>((64 * i+k:Nat):Int)).length]):=by
 have hSs:∀h',S.oL (h.length+2) h'=S:=fun h'=>by
  have h1:=hS.len
  cases S with
  | slice rows t=>exact hS.oL _ h' (by omega)
  | mslice a b c d=>exact hS.oL _ h' (by omega)
  | vslice a b c d e=>exact hS.oL _ h' (by omega)
  | _=>simp [lS] at h1
 have hT:∀n,TH (h++[.front 0 0,FR n]):=fun n=>Se hK (nP xL)
 have htr:∀n C,mS (h.length+2) (h++.front 0 0::FR n::C)=some (h++[.front 0 0,FR n]):=fun n C=>by
  have:=pM (C:=C) (hT n)
  simpa using this
 have hwc:∀w h',kS.oL (h.length+2) h' (wc w)=wc w:=fun w h'=>rfl
 intro n
 induction n with
 | zero=>intro w l a1; omega
 | succ n ih =>
  intro w l a1 a2
  rw [mW]
  have f0:=ajZ w
  by_cases h0:w=0#64
  ·subst h0
   rw [S_]
   have step:HH KK (h.length+2) ([v,.slice (ints l) (.own (h.length+1)),.int .i64 (i:Int),wc 0#64,S,.int .i64 c,.int .i64 (i:Int)],h++[.front 0 0,FR l.length]) =
     some (.exit 2,[v,.slice (ints l) (.own (h.length+1)),.int .i64 (i:Int),wc 0#64,S,.int .i64 c,.int .i64 (i:Int)],h++[.front 0 0,FR l.length]):=by
    unfold HH
    simp only [List.getD_cons_zero,List.getD_cons_succ]
    rw [f0]
    simp -implicitDefEqProofs [lJ,htr,hv2,hSs,hwc]
   rw [step]; simp
  ·obtain⟨k,hk,h1,h2,h3⟩:=lowest w h0
   have hc:=Zc w h0
   have hlw:=S9 w hk h1 h2 h3
   have f1:=Qj w
   have f2:=IC w (w - 1#64)
   have f3:=fun h'=>aA1 w hk h1 h2 h3 h'
   have g:=ih (w &&& (w - 1#64)) (l++[((64 * i+k:Nat):Int)]) (by omega) (by rw [hlw] at a2; simp at a2 ⊢; omega)
   have hle:(xP w).length≤64:=by unfold xP; exact Nat.le_trans (List.length_filter_le _ _) (by simp)
   have w1:IntKind.i64.wrap (64 * (i:Int))=64 * (i:Int):=by rw [wrap64] <;> omega
   have w2:IntKind.i64.wrap (64 * (i:Int)+(k:Int))=((64 * i+k:Nat):Int):=by rw [wrap64] <;> omega
   have fa:=fun C t=>BG (h:=h++[.front 0 0]) (C:=C) (l:=l) (z:=((64 * i+k:Nat):Int)) (by omega) (t:=t)
   simp only [List.length_append,List.length_cons,List.length_nil,Nat.zero_add,List.append_assoc,List.cons_append,List.nil_append] at fa
   have fb:∀(h':kU) (z:Int),lU 1 1 [.int .i64 0] [(0,.int .i64 z)] h'=some (.slice [[.int .i64 z]] (.own h'.length),h'++[.front 1 1]):=fun h' z=>rfl
   rw [hlw]
   simp only [List.map_cons]
   have e:l++((64 * i+k:Nat):Int)::(xP (w &&& (w - 1#64))).map (fun k=>((64 * i+k:Nat):Int))=(l++[((64 * i+k:Nat):Int)])++(xP (w &&& (w - 1#64))).map (fun k=>((64 * i+k:Nat):Int)):=by simp
   rw [e,←g]
   clear g ih a2 hlw e a1 hc h1 h2 h3 hle
   generalize (64 * i+k:Nat)=z at *
   generalize w - 1#64=wm at *
   generalize w &&& wm=w' at *
   have f0':lE .neq (wc w) (.int .u64 0)=some (.bool true):=by rw [f0,decide_eq_false h0]; rfl
   have fu:kS.k8 (wc w)=wc w:=rfl
   have step:HH KK (h.length+2) ([v,.slice (ints l) (.own (h.length+1)),.int .i64 (i:Int),wc w,S,.int .i64 c,.int .i64 (i:Int)],h++[.front 0 0,FR l.length]) =
     some (.normal,[v,.slice (ints (l++[(z:Int)])) (.own (h.length+1)),.int .i64 (i:Int),wc w',S,.int .i64 c,.int .i64 (i:Int)],h++[.front 0 0,FR (l.length+1)]):=by
    clear f0
    have hw':=fun h'=>hwc w' h'
    clear hwc
    generalize wc w=a at *
    generalize wc w'=a' at *
    generalize wc wm=am at *
    unfold HH
    simp only [List.getD_cons_zero,List.getD_cons_succ]
    rw [f0']
    simp -implicitDefEqProofs [lJ,htr,hv2,hSs,w1,w2,f1,f2,f3,fa,fb,fu,hw']
   rw [step]; simp
theorem Xd {v:kS}(hv:∀h',v.oH (h.length+2) h'=v) (hv2:∀h',v.oL (h.length+2) h'=v):∀(n i:Nat),ws.length < i+n→i≤ws.length →
  ∃j:Int,mQ (HJ KK (h.length+2)) ([v,.slice (ints (zs (pJ ws i))) (.own (h.length+1)),S,.int .i64 (ws.length:Int),.int .i64 (i:Int)],h++[.front 0 0,FR (pJ ws i).length]) =
   some (.exit 0,[v,.slice (ints (zs (pJ ws ws.length))) (.own (h.length+1)),S,.int .i64 (ws.length:Int),.int .i64 j],h++[.front 0 0,FR (pJ ws ws.length).length]):=by
 have hSs:∀h',S.oL (h.length+2) h'=S:=fun h'=>by
  have h1:=hS.len
  cases S with
  | slice rows t=>exact hS.oL _ h' (by omega)
  | mslice a b c d=>exact hS.oL _ h' (by omega)
  | vslice a b c d e=>exact hS.oL _ h' (by omega)
  | _=>simp [lS] at h1
 have hT:∀n,TH (h++[.front 0 0,FR n]):=fun n=>Se hK (nP xL)
 have htr:∀n C,mS (h.length+2) (h++.front 0 0::FR n::C)=some (h++[.front 0 0,FR n]):=fun n C=>by
  have:=pM (C:=C) (hT n)
  simpa using this
 have hlu:∀i,(pJ ws i).length≤64 * i:=fun i=>by
  rw [Dx]; exact Nat.le_trans (List.length_filter_le _ _) (by simp)
 intro n
 induction n with
 | zero=>intro i a1 a2; omega
 | succ n ih =>
  intro i a1 a2
  rw [mW]
  by_cases hi:i < ws.length
  ·have hi':(i:Int) < ws.length:=by omega
   obtain⟨p,e1,e2⟩:=hS.at_ i hi
   have w1:=zY (a:=i) (by omega)
   have g0:=Xc hK hS hw i (by omega) (ws.length:Int) hv hv2 ((ws.getD i 0#64).toNat+1) (ws.getD i 0#64) (zs (pJ ws i)) (by omega) (by
    have h1:=hlu i
    have h2:(xP (ws.getD i 0#64)).length≤64:=by unfold xP; exact Nat.le_trans (List.length_filter_le _ _) (by simp)
    rw [IA]; omega)
   have eu:pJ ws (i+1)=pJ ws i++(xP (ws.getD i 0#64)).map (64 * i+·):=by
    unfold pJ; rw [List.range_succ,List.flatMap_append]; simp
   have el:(zs (pJ ws i))++(xP (ws.getD i 0#64)).map (fun k=>((64 * i+k:Nat):Int))=zs (pJ ws (i+1)):=by
    rw [eu,zs,zs,List.map_append,List.map_map]; rfl
   rw [el] at g0
   simp only [IA] at g0
   obtain⟨j,g1⟩:=ih (i+1) (by omega) hi
   refine⟨j,?_⟩
   rw [←g1]
   simp only [Int.natCast_add,Int.cast_ofNat_Int]
   have e2':=e2 [.front 0 0,FR (pJ ws i).length]
   clear g1 ih e2 eu el
   generalize wc (ws.getD i 0#64)=a at *
   have step:HJ KK (h.length+2) ([v,.slice (ints (zs (pJ ws i))) (.own (h.length+1)),S,.int .i64 (ws.length:Int),.int .i64 (i:Int)],h++[.front 0 0,FR (pJ ws i).length]) =
     some (.normal,[v,.slice (ints (zs (pJ ws (i+1)))) (.own (h.length+1)),S,.int .i64 (ws.length:Int),.int .i64 ((i:Int)+1)],h++[.front 0 0,FR (pJ ws (i+1)).length]):=by
    unfold HJ
    simp -implicitDefEqProofs [hi',e1,e2',g0,lJ,htr,hv2,hSs,w1]
   rw [step]; rfl
  ·have hi':¬(i:Int) < ws.length:=by omega
   obtain rfl:i=ws.length:=by omega
   refine⟨(ws.length:Int),?_⟩
   have step:HJ KK (h.length+2) ([v,.slice (ints (zs (pJ ws ws.length))) (.own (h.length+1)),S,.int .i64 (ws.length:Int),.int .i64 (ws.length:Int)],h++[.front 0 0,FR (pJ ws ws.length).length]) =
     some (.exit 0,[v,.slice (ints (zs (pJ ws ws.length))) (.own (h.length+1)),S,.int .i64 (ws.length:Int),.int .i64 (ws.length:Int)],h++[.front 0 0,FR (pJ ws ws.length).length]):=by
    unfold HJ
    simp -implicitDefEqProofs [lJ,htr,hv2,hSs]
   rw [step]; rfl
theorem c63:KK 63 [S] h=some (.ret (.slice (ints (zs (oT ws))) .no),h):=by
 refine mR (aqJ _ _ _) ?_
 obtain⟨j,g⟩:=Xd hK hS hw (v:=.slice [] (.own h.length)) (fun h'=>by simp) (fun h'=>by simp) (ws.length+1) 0 (by omega) (Nat.zero_le _)
 have e0:pJ ws 0=[]:=rfl
 rw [e0] at g
 have hl:=hS.len
 have htr:=fun C=>pM (C:=C) hK
 rw [S8]
 have e1:FR ([]:List Nat).length=.front 0 0:=rfl
 have e2:ints (zs [])=[]:=rfl
 rw [e1,e2] at g
 simp only [Int.cast_ofNat_Int] at g
 unfold m63
 have hd:decide (h.length+1 < h.length)=false:=by simp
 simp -implicitDefEqProofs [hl,g,mX,htr,hd]
end
theorem Ws (a b:List Int) (hab:a.length=b.length) (hl:a.length≤2000000):∀(n i:Nat),a.length < i+n→i≤a.length →
  ∃(ex:Ex) (r:Bool) (j:Int),mQ (GB KK 0) ([.slice (ints a) .no,.slice (ints b) .no,.bool false,.int .i64 (a.length:Int),.int .i64 (i:Int)],[])=some (ex,[.slice (ints a) .no,.slice (ints b) .no,.bool r,.int .i64 (a.length:Int),.int .i64 j],[]) ∧
   ((ex=.ret∧r=false∧a.drop i≠b.drop i)∨(ex=.exit 0∧a.drop i=b.drop i)):=by
 intro n
 induction n with
 | zero=>intro i a1 a2; omega
 | succ n ih =>
  intro i a1 a2
  rw [mW]
  by_cases hi:i < a.length
  ·have hi':(i:Int) < a.length:=by omega
   have hx:a[i]?=some a[i]:=List.getElem?_eq_getElem hi
   have hib:i < b.length:=by omega
   have hy:b[i]?=some b[i]:=List.getElem?_eq_getElem hib
   have w1:=zY (a:=i) (by omega)
   rw [List.drop_eq_getElem_cons hi,List.drop_eq_getElem_cons hib]
   generalize a[i]=x at *
   generalize b[i]=y at *
   by_cases he:x=y
   ·obtain⟨ex,r,j,g1,g2⟩:=ih (i+1) (by omega) hi
    refine⟨ex,r,j,?_,?_⟩
    ·simp only [Int.natCast_add,Int.cast_ofNat_Int] at g1
     rw [←g1]
     simp [GB,hi',hx,hy,ints,he,Am,w1]
    ·rw [he]; simpa using g2
   ·refine⟨.ret,false,i,?_,.inl ⟨rfl,rfl,by simp [he]⟩⟩
    simp [GB,hi',hx,hy,ints,he,Am]
  ·have hi':¬(i:Int) < a.length:=by omega
   rw [List.drop_eq_nil_of_le (by omega),List.drop_eq_nil_of_le (by omega)]
   refine⟨.exit 0,false,i,?_,.inr ⟨rfl,rfl⟩⟩
   simp [GB,hi',Am]
theorem aA0 (a b:List Int) (hl:a.length≤2000000) (h:kU):KK 124 [.slice (ints a) .no,.slice (ints b) .no] h=some (.ret (.bool (decide (a=b))),h):=by
 refine mD rfl rfl (mR (agM _ _ _ _) ?_)
 have e1:lS (.slice (ints a) .no)=some (.int .i64 (a.length:Int)):=by simp [ints]
 have e2:lS (.slice (ints b) .no)=some (.int .i64 (b.length:Int)):=by simp [ints]
 by_cases hab:a.length=b.length
 ·obtain⟨ex,r,j,g1,g2⟩:=Ws a b hab hl (a.length+1) 0 (by omega) (Nat.zero_le _)
  simp only [List.drop_zero,Int.cast_ofNat_Int] at g1 g2
  rw [←hab] at e2
  unfold aoV
  rcases g2 with ⟨rfl,rfl,g2⟩ | ⟨rfl,g2⟩
  ·simp [e1,e2,g1,g2,lM]
  ·subst g2
   simp [e1,g1,lM]
 ·have hab':¬((a.length:Int)=(b.length:Int)):=by omega
  have hne:¬a=b:=fun e=>hab (by rw [e])
  unfold aoV
  simp [e1,e2,hab,hab',hne,lM]
theorem c62 {h:kU}(hK:TH h) {S T:kS}{a b:List Wd}(hS:E0 h S.k8 a) (hT:E0 h T.k8 b) (ha:a.length≤20000) (hb:b.length≤20000) :
  KK 62 [S,T] h=some (.ret (.bool (decide (oT a=oT b))),h):=by
 refine mR (aqI _ _ _ _) ?_
 have f1:=c63 hK hS ha
 have f2:=c63 hK hT hb
 have f3:=fun h'=>aA0 (zs (oT a)) (zs (oT b)) (by
  rw [IA,oT]; exact Nat.le_trans (List.length_filter_le _ _) (by simp; omega)) h'
 have e:decide (zs (oT a)=zs (oT b))=decide (oT a=oT b):=by
  congr 1
  refine propext ⟨fun h=>?_,fun h=>by rw [h]⟩
  exact(List.map_inj_right (fun x y hxy=>Int.ofNat_inj.1 hxy)).1 h
 rw [e] at f3
 have htr:=oI hK
 simp -implicitDefEqProofs [m62,f1,f2,f3,mX,htr]
end Go.Proofs.YtkeoalhglkfbkaaDoor


namespace Go.Proofs.YtkeoalhglkfbkaaDoor
open Go Hk Go.Proofs.Wd
def rK (out s:List Wd):Nat→List Wd
 | 0=>B8 out s.length
 | i+1=>(rK out s i).set i ((rK out s i).getD i 0#64 ||| s.getD i 0#64)
theorem yC (out s:List Wd):∀i,(rK out s i).length=max out.length s.length
 | 0=>B_ _ _
 | i+1=>by simp [rK,yC out s i]
theorem IY (out s:List Wd):∀i,i≤s.length→∀j,(rK out s i).getD j 0#64=if j < i then out.getD j 0#64 ||| s.getD j 0#64 else out.getD j 0#64
 | 0,_,j=>by rw [if_neg (by omega)]; exact B9 _ _ _
 | i+1,hi,j=>by
  have ih:=IY out s i (by omega)
  rw [rK,KH _ _ _ _ (by rw [yC]; omega),ih i,ih j,if_neg (Nat.lt_irrefl _)]
  by_cases h:i=j
  ·subst h; rw [if_pos rfl,if_pos (by omega)]
  ·rw [if_neg h]
   by_cases h2:j < i
   ·rw [if_pos h2,if_pos (by omega)]
   ·rw [if_neg h2,if_neg (by omega)]
theorem Zn {a b:List Wd}(hl:a.length=b.length) (h:∀j,a.getD j 0#64=b.getD j 0#64):a=b:=by
 apply List.ext_getElem hl
 intro i h1 h2
 have:=h i
 simpa [List.getD_eq_getElem?_getD,h1,h2] using this
theorem TV (out s:List Wd):rK out s s.length=Jm out s:=by
 refine Zn (by rw [yC,Vj]) fun j=>?_
 rw [IY _ _ _ (Nat.le_refl _),Ra]
 split
 ·rfl
 ·rename_i h
  have:s.getD j 0#64=0#64:=by rw [List.getD_eq_getElem?_getD,List.getElem?_eq_none (by omega)]; rfl
  rw [this]; simp
def vU (L:List (List Wd)):List Wd:=L.foldl Jm []
theorem Iy (t:Nat):∀(L:List (List Wd)) (out:List Wd),qC (L.foldl Jm out) t=(qC out t || L.any (qC · t))
 | [],out=>by simp
 | s::r,out=>by rw [List.foldl_cons,Iy t r,aj0,List.any_cons,Bool.or_assoc]
theorem B2 (n:Nat):∀(L:List (List Wd)) (out:List Wd),out.length≤n→(∀s∈L,s.length≤n)→(L.foldl Jm out).length≤n
 | [],out,h,_=>h
 | s::r,out,h,hl=>by
  rw [List.foldl_cons]
  exact B2 n r _ (by rw [Vj]; have:=hl s (by simp); omega) fun x hx=>hl x (by simp [hx])
section
variable {A B:List mI}(hB:KB A B)
include hB
theorem W_ {s:List Wd}(hs:s.length≤20000) {v x c:kS}{i:Int}(hv:∀h,v.oL (HN A B) h=v) (hx:∀h,x.oL (HN A B) h=x) (hc:∀h,c.oL (HN A B) h=c):∀(d:Nat) (ws:List Wd),s.length - ws.length=d →
  mQ (Hz KK (HN A B)) ([v,VS A.length ws,PS s,x,c,.int .i64 i],OQ A (XS ws) B)=some (.exit 2,[v,VS A.length (B8 ws s.length),PS s,x,c,.int .i64 i],OQ A (XS (B8 ws s.length)) B):=by
 have hps:lS (PS s)=some (.int .i64 (s.length:Int)):=by simp [PS]
 have hpn:∀h,(PS s).oL (HN A B) h=PS s:=fun h=>rfl
 intro d
 induction d with
 | zero =>
  intro ws hd
  rw [mW,Ls (by omega)]
  have hcc:¬((ws.length:Int) < (s.length:Int)):=by omega
  have htr:=rE (X:=XS ws) (A:=A) (B:=B) hB Au
  have hsn:=fun h=>xW (ws:=ws) (m:=HN A B) (h:=h) vH
  have step:Hz KK (HN A B) ([v,VS A.length ws,PS s,x,c,.int .i64 i],OQ A (XS ws) B)=some (.exit 2,[v,VS A.length ws,PS s,x,c,.int .i64 i],OQ A (XS ws) B):=by
   unfold Hz
   simp only [List.getD_cons_zero,List.getD_cons_succ]
   rw [JW,hps]
   simp -implicitDefEqProofs [hcc,lJ,htr,hsn,hv,hx,hc,hpn]
  rw [step]; rfl
 | succ d ih =>
  intro ws hd
  rw [mW]
  have hcc:((ws.length:Int) < (s.length:Int)):=by omega
  have htr:=vS (X:=XS (ws++[0#64])) (A:=A) (B:=B) (C:=[.front 1 1]) hB Au
  have hsn:=fun h=>xW (ws:=ws++[0#64]) (m:=HN A B) (h:=h) vH
  have g:=ih (ws++[0#64]) (by simp; omega)
  rw [Ns (by omega)] at g
  rw [←g]
  have ha:=fun t=>MO (A:=A) (B:=B++[.front 1 1]) (ws:=ws) (by omega) 0#64 (t:=t)
  clear g ih
  have step:Hz KK (HN A B) ([v,VS A.length ws,PS s,x,c,.int .i64 i],OQ A (XS ws) B)=some (.normal,[v,VS A.length (ws++[0#64]),PS s,x,c,.int .i64 i],OQ A (XS (ws++[0#64])) B):=by
   unfold Hz
   simp only [List.getD_cons_zero,List.getD_cons_succ]
   rw [JW,hps]
   simp -implicitDefEqProofs [hcc,lJ,htr,hsn,hv,hx,hc,hpn,Q8,ha]
  rw [step]; rfl
theorem Xa {s out:List Wd}(hs:s.length≤20000) {v x c:kS}{i:Int}(hv:∀h,v.oL (HN A B) h=v) (hx:∀h,x.oL (HN A B) h=x) (hc:∀h,c.oL (HN A B) h=c):∀(d j:Nat),s.length=j+d →
  mQ (HA KK (HN A B)) ([v,VS A.length (rK out s j),x,c,.int .i64 i,PS s,.int .i64 (s.length:Int),.int .i64 (j:Int)],OQ A (XS (rK out s j)) B) =
   some (.exit 4,[v,VS A.length (Jm out s),x,c,.int .i64 i,PS s,.int .i64 (s.length:Int),.int .i64 (s.length:Int)],OQ A (XS (Jm out s)) B):=by
 have hpn:∀h,(PS s).oL (HN A B) h=PS s:=fun h=>rfl
 intro d
 induction d with
 | zero =>
  intro j hj
  obtain rfl:s.length=j:=by omega
  rw [mW,TV]
  have htr:=rE (X:=XS (Jm out s)) (A:=A) (B:=B) hB Au
  have hsn:=fun h=>xW (ws:=Jm out s) (m:=HN A B) (h:=h) vH
  have step:HA KK (HN A B) ([v,VS A.length (Jm out s),x,c,.int .i64 i,PS s,.int .i64 (s.length:Int),.int .i64 (s.length:Int)],OQ A (XS (Jm out s)) B) =
    some (.exit 4,[v,VS A.length (Jm out s),x,c,.int .i64 i,PS s,.int .i64 (s.length:Int),.int .i64 (s.length:Int)],OQ A (XS (Jm out s)) B):=by
   unfold HA
   simp -implicitDefEqProofs [lJ,htr,hsn,hv,hx,hc,hpn]
  rw [step]; rfl
 | succ d ih =>
  intro j hj
  rw [mW]
  have hcc:((j:Int) < (s.length:Int)):=by omega
  have hjl:j < (rK out s j).length:=by rw [yC]; omega
  have w1:=zY (a:=j) (by omega)
  have e1:=fun k=>F9 (id:=A.length) (k:=k) hjl
  have e2:=Jr (A:=A) (B:=B) hjl
  have e3:=JX (A:=A) (B:=B) hjl
  have e4:kX 1 (PS s) (.int .i64 (j:Int))=some (.pptr [wc (s.getD j 0#64)]):=by
   rw [PS,k_,List.getElem?_eq_getElem (by omega)]
   simp [List.getD_eq_getElem?_getD,show j < s.length by omega]
  have e5:=Ka ((rK out s j).getD j 0#64) (s.getD j 0#64)
  have eV:VS A.length (rK out s j)=VS A.length (rK out s (j+1)):=YI (by rw [yC,yC])
  have htr:=rE (X:=XS (rK out s (j+1))) (A:=A) (B:=B) hB Au
  have hsn:=fun h=>xW (ws:=rK out s (j+1)) (m:=HN A B) (h:=h) vH
  have g:=ih (j+1) (by omega)
  rw [←g]
  clear g ih
  have e3':=e3 ((rK out s j).getD j 0#64 ||| s.getD j 0#64)
  have eo:(rK out s j).set j ((rK out s j).getD j 0#64 ||| s.getD j 0#64)=rK out s (j+1):=rfl
  rw [eo] at e3'
  have w1':IntKind.i64.wrap ((j:Int)+1)=((j+1:Nat):Int):=by rw [w1]; simp
  have step:HA KK (HN A B) ([v,VS A.length (rK out s j),x,c,.int .i64 i,PS s,.int .i64 (s.length:Int),.int .i64 (j:Int)],OQ A (XS (rK out s j)) B) =
    some (.normal,[v,VS A.length (rK out s (j+1)),x,c,.int .i64 i,PS s,.int .i64 (s.length:Int),.int .i64 ((j+1:Nat):Int)],OQ A (XS (rK out s (j+1))) B):=by
   rw [←eV] at hsn ⊢
   clear e3 eo
   generalize rK out s (j+1)=o2 at *
   generalize wc ((rK out s j).getD j 0#64 ||| s.getD j 0#64)=a1 at *
   generalize wc ((rK out s j).getD j 0#64)=a2 at *
   generalize wc (s.getD j 0#64)=a3 at *
   generalize ((j+1:Nat):Int)=j1 at *
   unfold HA
   simp -implicitDefEqProofs [hcc,e1,e2,e3',e4,e5,lJ,htr,hsn,hv,hx,hc,hpn,w1']
  rw [step]; rfl
end
section
variable {A:List mI}(hB:KB A [])
include hB
theorem Xb {L:List (List Wd)}(hL:L.length≤2000000) (hl:∀s∈L,s.length≤20000) {v:kS}(hv:∀h,v.oL (HN A []) h=v):∀(d i:Nat) (out:List Wd),L.length=i+d →
  mQ (HC KK (HN A [])) ([v,VS A.length out,.slice (L.map fun s=>[PS s]) .no,.int .i64 (L.length:Int),.int .i64 (i:Int)],OQ A (XS out) []) =
   some (.exit 0,[v,VS A.length ((L.drop i).foldl Jm out),.slice (L.map fun s=>[PS s]) .no,.int .i64 (L.length:Int),.int .i64 (L.length:Int)],OQ A (XS ((L.drop i).foldl Jm out)) []):=by
 intro d
 induction d with
 | zero =>
  intro i out hi
  obtain rfl:L.length=i:=by omega
  rw [mW,List.drop_length]
  have htr:=rE (X:=XS out) (A:=A) hB Au
  have hsn:=fun h=>xW (ws:=out) (m:=HN A []) (h:=h) vH
  have step:HC KK (HN A []) ([v,VS A.length out,.slice (L.map fun s=>[PS s]) .no,.int .i64 (L.length:Int),.int .i64 (L.length:Int)],OQ A (XS out) []) =
    some (.exit 0,[v,VS A.length out,.slice (L.map fun s=>[PS s]) .no,.int .i64 (L.length:Int),.int .i64 (L.length:Int)],OQ A (XS out) []):=by
   unfold HC
   simp -implicitDefEqProofs [lJ,htr,hsn,hv]
  rw [step]; rfl
 | succ d ih =>
  intro i out hi
  rw [mW]
  have hil:i < L.length:=by omega
  have hcc:((i:Int) < (L.length:Int)):=by omega
  have hx:L[i]?=some L[i]:=List.getElem?_eq_getElem hil
  have hsl:=hl L[i] (List.getElem_mem hil)
  have w1:IntKind.i64.wrap ((i:Int)+1)=((i+1:Nat):Int):=by rw [zY (a:=i) (by omega)]; simp
  rw [List.drop_eq_getElem_cons hil]
  generalize L[i]=s at *
  have hc:∀h,(kS.int .i64 (L.length:Int)).oL (HN A []) h=.int .i64 (L.length:Int):=fun h=>rfl
  have hxx:∀h,(kS.slice (L.map fun s=>[PS s]) .no).oL (HN A []) h=.slice (L.map fun s=>[PS s]) .no:=fun h=>rfl
  have g0:=W_ hB hsl (i:=(i:Int)) hv hxx hc _ out rfl
  have g1:=Xa hB hsl (out:=out) (i:=(i:Int)) hv hxx hc s.length 0 (by omega)
  have htr:=rE (X:=XS (Jm out s)) (A:=A) hB Au
  have hsn:=fun h=>xW (ws:=Jm out s) (m:=HN A []) (h:=h) vH
  have hps:lS (PS s)=some (.int .i64 (s.length:Int)):=by simp [PS]
  have e4:kX 1 (.slice (L.map fun s=>[PS s]) .no) (.int .i64 (i:Int))=some (.pptr [PS s]):=by
   rw [k_,hx]; rfl
  simp only [rK,Int.cast_ofNat_Int] at g1
  rw [List.foldl_cons,←ih (i+1) (Jm out s) (by omega)]
  clear ih
  generalize ((i+1:Nat):Int)=i1 at *
  have step:HC KK (HN A []) ([v,VS A.length out,.slice (L.map fun s=>[PS s]) .no,.int .i64 (L.length:Int),.int .i64 (i:Int)],OQ A (XS out) []) =
    some (.normal,[v,VS A.length (Jm out s),.slice (L.map fun s=>[PS s]) .no,.int .i64 (L.length:Int),.int .i64 i1],OQ A (XS (Jm out s)) []):=by
   generalize hR:kS.slice (L.map fun s=>[PS s]) .no=R at *
   unfold HC
   simp -implicitDefEqProofs [hcc,e4,g0,hps,g1,lJ,htr,hsn,hv,hxx,w1]
  rw [step]; rfl
end
theorem c59 {h:kU}(hK:TH h) {L:List (List Wd)}(hL:L.length≤2000000) (hl:∀s∈L,s.length≤20000) :
  KK 59 [.slice (L.map fun s=>[PS s]) .no] h=some (.ret (VS (h.length+1) (vU L)),OQ (h++[.front 0 0]) (XS (vU L)) []):=by
 refine mR (aqF _ _ _) ?_
 have hB:KB (h++[.front 0 0]) []:=⟨fun n hn=>pS (hK.mono (by simp [HN] at hn; omega)) (nP oW),fun n hn=>oW⟩
 have hH:HN (h++[.front 0 0]) []=h.length+2:=by simp [HN]
 have hA:(h++[mI.front 0 0]).length=h.length+1:=by simp
 have g:=Xb hB hL hl (v:=.slice [] (.own h.length)) (fun h'=>by rw [hH]; simp) L.length 0 [] (by omega)
 have e0:OQ (h++[.front 0 0]) (XS []) []=h++[.front 0 0,.front 0 0]:=by simp [OQ,XS]
 have e1:VS (h.length+1) []=.slice [] (.own (h.length+1)):=rfl
 rw [hH,hA,e0,e1] at g
 simp only [List.drop_zero,Int.cast_ofNat_Int] at g
 unfold vU
 generalize L.foldl Jm []=J at *
 unfold m59
 simp -implicitDefEqProofs [g]
end Go.Proofs.YtkeoalhglkfbkaaDoor


namespace Go.Proofs.YtkeoalhglkfbkaaDoor
open Go Hk Go.Proofs.Wd
def vO (t:Term) (ws:List Wd):List Wd:=if t.kind=2∧0≤t.a then xU ws t.a.toNat else ws
def xC (t:Term):List mI:=.cells t.cells::.front 0 0::if t.kind=2∧0≤t.a then [.front 0 0] else []
def Bj (ws:List Wd) (l:List Int):List Wd:=l.foldl (fun ws t=>if 0≤t then xU ws t.toNat else ws) ws
def zI (o:Op) (ws:List Wd):List Wd:=Bj (if (mM o.kind).dst=true∧0≤o.dst then vY ws o.dst.toNat else ws) (mU o)
def Ob (o:Op):List mI:=[.cells o.cells,.front 0 0]
theorem Uz (t:Term) (ws:List Wd) (u:Nat):qC (vO t ws) u=true↔I7 t (fun u=>0≤u∧qC ws u.toNat=true) (u:Int):=by
 unfold vO I7
 split
 ·rename_i h
  obtain⟨n,hn⟩:=Int.eq_ofNat_of_zero_le h.2
  rw [NO,Bool.or_eq_true,decide_eq_true_eq]
  simp only [Int.toNat_natCast]
  constructor
  ·rintro(h1 | h1)
   ·exact .inr ⟨by omega,h1⟩
   ·exact .inl ⟨h.1,by omega⟩
  ·rintro(⟨_,h1⟩ | ⟨_,h1⟩)
   ·exact .inr (by omega)
   ·exact .inl h1
 ·rename_i h
  simp only [Int.toNat_natCast]
  constructor
  ·exact fun h1=>.inr ⟨by omega,h1⟩
  ·rintro(⟨h1,h2⟩ | ⟨_,h1⟩)
   ·exact absurd ⟨h1,by omega⟩ h
   ·exact h1
theorem Mb (u:Nat):∀(l:List Int) (ws:List Wd),qC (Bj ws l) u=true↔(u:Int)∈l∨qC ws u=true
 | [],ws=>by simp [Bj]
 | t::r,ws=>by
  have ih:=Mb u r (if 0≤t then xU ws t.toNat else ws)
  have e:Bj ws (t::r)=Bj (if 0≤t then xU ws t.toNat else ws) r:=rfl
  rw [e,ih,List.mem_cons]
  split
  ·rename_i h
   rw [NO,Bool.or_eq_true,decide_eq_true_eq]
   constructor
   ·rintro(h1 | h1 | h1)
    ·exact .inl (.inr h1)
    ·exact .inr h1
    ·exact .inl (.inl (by omega))
   ·rintro((h1 | h1) | h1)
    ·exact .inr (.inr (by omega))
    ·exact .inl h1
    ·exact .inr (.inl h1)
  ·rename_i h
   constructor
   ·rintro(h1 | h1)
    ·exact .inl (.inr h1)
    ·exact .inr h1
   ·rintro((h1 | h1) | h1)
    ·omega
    ·exact .inl h1
    ·exact .inr h1
theorem Uy (o:Op) (ws:List Wd) (u:Nat):qC (zI o ws) u=true↔adD o (fun u=>0≤u∧qC ws u.toNat=true) (u:Int):=by
 unfold zI adD
 rw [Mb]
 refine or_congr Iff.rfl ?_
 split
 ·rename_i h
  rw [PL,Bool.and_eq_true,Bool.not_eq_true',decide_eq_false_iff_not]
  simp only [Int.toNat_natCast,h.1,true_and]
  constructor
  ·rintro⟨h1,h2⟩; exact⟨⟨by omega,h1⟩,by omega⟩
  ·rintro⟨⟨_,h1⟩,h2⟩; exact⟨h1,by omega⟩
 ·rename_i h
  simp only [Int.toNat_natCast]
  constructor
  ·intro h1; exact⟨⟨by omega,h1⟩,fun h2=>h ⟨h2.1,by omega⟩⟩
  ·rintro⟨⟨_,h1⟩,_⟩; exact h1
theorem NP {n:Nat}:∀(l:List Int) (ws:List Wd),(∀t∈l,t < 64 * n)→ws.length≤n→(Bj ws l).length≤n
 | [],ws,_,h=>h
 | t::r,ws,hl,h=>by
  have e:Bj ws (t::r)=Bj (if 0≤t then xU ws t.toNat else ws) r:=rfl
  rw [e]
  refine NP r _ (fun x hx=>hl x (by simp [hx])) ?_
  split
  ·have:=hl t (by simp)
   rw [NQ]; omega
  ·exact h
theorem VQ {n:Nat}{o:Op}{ws:List Wd}(hu:∀t∈mU o,t < 64 * n) (h:ws.length≤n):(zI o ws).length≤n:=by
 refine NP _ _ hu ?_
 split
 ·rw [GW]; exact h
 ·exact h
theorem Xt {n:Nat}{t:Term}{ws:List Wd}(hu:t.kind=2→t.a < 64 * n) (h:ws.length≤n):(vO t ws).length≤n:=by
 unfold vO
 split
 ·rename_i h1
  have:=hu h1.1
  rw [NQ]; omega
 ·exact h
section
variable {A B:List mI}(hB:KB A B)
include hB
theorem c60 {t:Term}(ht:t.kind=2→t.a≤2000000) (ws:List Wd):KK 60 [.agg t.cells,VS A.length ws] (OQ A (XS ws) B)=some (.ret (VS A.length (vO t ws)),OQ A (XS (vO t ws)) (B++xC t)):=by
 refine mR (aqG _ _ _ _) ?_
 have hB2:KB A (B++[.cells t.cells,.front 0 0]):=hB.app (by simp [Term.cells])
 unfold vO xC
 by_cases k2:t.kind=2
 ·by_cases h0:0≤t.a
  ·obtain⟨n,hn⟩:=Int.eq_ofNat_of_zero_le h0
   have ht:=ht k2
   have g:=awI hB2 (t:=n) (by omega) ws
   rw [if_pos ⟨k2,h0⟩,if_pos ⟨k2,h0⟩,hn]
   simp only [Term.cells,List.append_assoc,List.cons_append,List.nil_append,Int.toNat_natCast] at g ⊢
   rw [hn,k2] at g
   simp -implicitDefEqProofs [m60,k2,hn,g]
  ·rw [if_neg (by omega),if_neg (by omega)]
   simp only [Term.cells]
   simp -implicitDefEqProofs [m60,k2,h0]
 ·rw [if_neg (by omega),if_neg (by omega)]
  simp only [Term.cells]
  simp -implicitDefEqProofs [m60,k2]
theorem aa0 {u:List Int}(hu:∀t∈u,t≤2000000) (hl:u.length≤10) {v:kS}(hv:∀h,v.oL (HN A B) h=v):∀(d i:Nat) (ws:List Wd),u.length=i+d →
  mQ (Fz KK (HN A B)) ([VS A.length ws,v,.slice (u.map fun z=>[.int .i64 z]) .no,.int .i64 (u.length:Int),.int .i64 (i:Int)],OQ A (XS ws) B) =
   some (.exit 0,[VS A.length (Bj ws (u.drop i)),v,.slice (u.map fun z=>[.int .i64 z]) .no,.int .i64 (u.length:Int),.int .i64 (u.length:Int)],OQ A (XS (Bj ws (u.drop i))) B):=by
 intro d
 induction d with
 | zero =>
  intro i ws hi
  obtain rfl:u.length=i:=by omega
  rw [mW,List.drop_length]
  have htr:=rE (X:=XS ws) (A:=A) hB Au
  have hsn:=fun h=>xW (ws:=ws) (m:=HN A B) (h:=h) vH
  have step:Fz KK (HN A B) ([VS A.length ws,v,.slice (u.map fun z=>[.int .i64 z]) .no,.int .i64 (u.length:Int),.int .i64 (u.length:Int)],OQ A (XS ws) B) =
    some (.exit 0,[VS A.length ws,v,.slice (u.map fun z=>[.int .i64 z]) .no,.int .i64 (u.length:Int),.int .i64 (u.length:Int)],OQ A (XS ws) B):=by
   unfold Fz
   simp -implicitDefEqProofs [lJ,htr,hsn,hv]
  rw [step]; rfl
 | succ d ih =>
  intro i ws hi
  rw [mW]
  have hil:i < u.length:=by omega
  have hcc:((i:Int) < (u.length:Int)):=by omega
  have hx:u[i]?=some u[i]:=List.getElem?_eq_getElem hil
  have hb:=hu u[i] (List.getElem_mem hil)
  have w1:IntKind.i64.wrap ((i:Int)+1)=((i+1:Nat):Int):=by rw [zY (a:=i) (by omega)]; simp
  rw [List.drop_eq_getElem_cons hil]
  generalize u[i]=t at *
  have e:Bj ws (t::u.drop (i+1))=Bj (if 0≤t then xU ws t.toNat else ws) (u.drop (i+1)):=rfl
  rw [e,←ih (i+1) _ (by omega)]
  clear ih e
  generalize ((i+1:Nat):Int)=i1 at *
  have step:Fz KK (HN A B) ([VS A.length ws,v,.slice (u.map fun z=>[.int .i64 z]) .no,.int .i64 (u.length:Int),.int .i64 (i:Int)],OQ A (XS ws) B) =
    some (.normal,[VS A.length (if 0≤t then xU ws t.toNat else ws),v,.slice (u.map fun z=>[.int .i64 z]) .no,.int .i64 (u.length:Int),.int .i64 i1],OQ A (XS (if 0≤t then xU ws t.toNat else ws)) B):=by
   by_cases h0:0≤t
   ·obtain⟨n,rfl⟩:=Int.eq_ofNat_of_zero_le h0
    have g:=awI hB (t:=n) (by omega) ws
    have htr:=vS (X:=XS (xU ws n)) (A:=A) (C:=[.front 0 0]) hB Au
    have hsn:=fun h=>xW (ws:=xU ws n) (m:=HN A B) (h:=h) vH
    rw [if_pos h0]
    simp only [Int.toNat_natCast]
    generalize xU ws n=w' at *
    unfold Fz
    simp -implicitDefEqProofs [hcc,hx,g,lJ,htr,hsn,hv,w1]
   ·have htr:=rE (X:=XS ws) (A:=A) hB Au
    have hsn:=fun h=>xW (ws:=ws) (m:=HN A B) (h:=h) vH
    rw [if_neg h0]
    unfold Fz
    simp -implicitDefEqProofs [hcc,hx,h0,lJ,htr,hsn,hv,w1]
  rw [step]; rfl
end
theorem GU (o:Op):(mU o).length≤3:=by unfold mU; simp; omega
theorem c61 {A B:List mI}(hB:KB A B) {o:Op}(hu:∀t∈mU o,t≤2000000) (hd:o.dst≤2000000) (ws:List Wd) :
  KK 61 [.agg o.cells,VS A.length ws] (OQ A (XS ws) B)=some (.ret (VS A.length (zI o ws)),OQ A (XS (zI o ws)) (B++Ob o)):=by
 refine mR (aqH _ _ _ _) ?_
 have hB2:KB A (B++[.cells o.cells,.front 0 0]):=hB.app (by simp [Op.cells])
 have hH:HN A (B++[.cells o.cells,.front 0 0])=HN A B+2:=by simp
 have g73:=c73 o
 have g74:=c74 o
 have g:=fun ws=>aa0 hB2 hu (by have:=GU o; omega) (v:=.slice [] (.own (HN A B+1))) (fun h=>by rw [hH]; simp) (mU o).length 0 ws (by omega)
 rw [hH] at g
 simp only [List.drop_zero,Int.cast_ofNat_Int] at g
 unfold zI Ob
 by_cases hc:(mM o.kind).dst=true∧0≤o.dst
 ·obtain⟨n,hn⟩:=Int.eq_ofNat_of_zero_le hc.2
  have g1:=aAZ hB2 (t:=n) (by omega) ws
  rw [if_pos hc,hn]
  rw [hc.1] at g73
  simp only [Int.toNat_natCast]
  have g2:=g (vY ws n)
  have ev:VS A.length (vY ws n)=VS A.length ws:=YI (GW _ _)
  rw [ev] at g2
  generalize Bj (vY ws n) (mU o)=w2 at *
  clear g
  simp only [Op.cells] at g73 g74 g1 g2 ⊢
  rw [hn] at g73 g74 g1 g2 ⊢
  simp -implicitDefEqProofs [m61,g73,g74,g1,g2]
 ·rw [if_neg hc]
  have g2:=g ws
  clear g
  generalize Bj ws (mU o)=w2 at *
  cases hf:(mM o.kind).dst
  ·rw [hf] at g73
   simp only [Op.cells] at g73 g74 g2 ⊢
   simp -implicitDefEqProofs [m61,g73,g74,g2]
  ·have h0:¬0≤o.dst:=fun h=>hc ⟨hf,h⟩
   rw [hf] at g73
   simp only [Op.cells] at g73 g74 g2 ⊢
   simp -implicitDefEqProofs [m61,g73,g74,g2,h0]
end Go.Proofs.YtkeoalhglkfbkaaDoor


namespace Go.Proofs.YtkeoalhglkfbkaaDoor
open Go Hk Go.Proofs.Wd
theorem aAY (k:Int) (h:kU):KK 121 [.int .i64 k] h=some (.ret (.bool (decide (k=-1))),h):=by
 refine mD rfl rfl (mR (agJ _ _ _) ?_)
 simp [axY,lM]
theorem Gk (k:Int) (h:kU):zV nA KK 121 (uS nA 121 [.int .i64 k]) h=some (.ret (.bool (decide (k=-1))),h):=aAY k h
theorem oU {F:List kS×kU→Option R}{s s':List kS×kU}(h:F s=some (.normal,s')):mQ F s=mQ F s':=by rw [mW,h]; rfl
theorem vM {F:List kS×kU→Option R}{s s':List kS×kU}(h:F s=some (.ret,s')):mQ F s=some (.ret,s'):=by rw [mW,h]; rfl
theorem nH {F:List kS×kU→Option R}{s s':List kS×kU}{i:Nat}(h:F s=some (.exit i,s')):mQ F s=some (.exit i,s'):=by rw [mW,h]; rfl
def nO (z:Int):kS:=.int .i64 z
def HL (t:Term) (l:List Int) (E:kU):kU:=.cells t.cells::.front 0 0::.front 0 0::.vec l.length 1 (l.map nO)::E
theorem MH {t:Term}{l:List Int}:TH (HL t l [.front 0 0]):=by
 intro m h hm
 have:m_ m h (l.map nO)=some (l.map nO):=yP fun c hc=>by
  obtain⟨z,_,rfl⟩:=List.mem_map.1 hc; exact⟨_,_,rfl⟩
 simp [HL,Term.cells,this]
theorem Yk {t:Term}{l:List Int}:TH (HL t l []):=by
 intro m h hm
 have:m_ m h (l.map nO)=some (l.map nO):=yP fun c hc=>by
  obtain⟨z,_,rfl⟩:=List.mem_map.1 hc; exact⟨_,_,rfl⟩
 simp [HL,Term.cells,this]
section
variable {t:Term}{l:List Int}{E:kU}
theorem Yl {i:Nat}{z:Int}(hz:l[i]?=some z):kW false 1 (HL t l E) (.vptr 3 l.length i)=some (.int .i64 z):=by
 rw [lG]
 have:mZ (HL t l E) 3 l.length=some (1,l.map nO):=by simp [HL]
 rw [this]
 simp [hz,nO]
theorem amJ {i:Nat}(hi:i < l.length) (z:Int):lT 1 (HL t l E) (.vptr 3 l.length i) (.int .i64 z)=some (HL t (l.set i z) E):=by
 rw [lC]
 have:mZ (HL t l E) 3 l.length=some (1,l.map nO):=by simp [HL]
 rw [this]
 have e1:putCells (l.map nO) i [.int .i64 z]=(l.set i z).map nO:=by
  unfold putCells
  rw [List.map_set,List.set_eq_take_append_cons_drop,if_pos (by simpa using hi)]
  simp [nO]
 simp only [Option.bind_some]
 rw [if_pos ⟨rfl,by simp; omega,rfl⟩]
 simp only [V7,e1]
 simp [HL]
def LV (l:List Int):kS:=.vslice 3 l.length 0 l.length 1
theorem Hd {i:Nat}{z:Int}(hz:l[i]?=some z) (hl:l.length≤100):Ag KK 5 ([LV l,.func 121 [] [],.int .i64 0,.int .i64 (l.length:Int),.int .i64 (i:Int)],HL t l [.front 0 0]) =
  if z=-1 then some (.ret,[LV l,.func 121 [] [],.int .i64 (i:Int),.int .i64 (l.length:Int),.int .i64 (i:Int)],HL t l [.front 0 0])
  else some (.normal,[LV l,.func 121 [] [],.int .i64 0,.int .i64 (l.length:Int),.int .i64 ((i+1:Nat):Int)],HL t l [.front 0 0]):=by
 have htr:mS 5 (HL t l [.front 0 0])=some (HL t l [.front 0 0]):=oI MH
 have hi:i < l.length:=(List.getElem?_eq_some_iff.1 hz).1
 have hi':(i:Int) < (l.length:Int):=by omega
 have w1:IntKind.i64.wrap ((i:Int)+1)=((i+1:Nat):Int):=by rw [wrap64 (by omega) (by omega),Int.natCast_add]; rfl
 have s2:∀h',kS.oL 5 h' (LV l)=LV l:=fun h'=>rfl
 have s3:∀h',kS.oL 5 h' (.func 121 [] [])=.func 121 [] []:=fun h'=>rfl
 have g:=Yl (t:=t) (E:=[.front 0 0]) hz
 have ix:kX 1 (LV l) (.int .i64 (i:Int))=some (.vptr 3 l.length i):=by simp [LV,hi]
 generalize ((i+1:Nat):Int)=i1 at *
 by_cases hc:z=-1
 ·rw [if_pos hc]
  subst hc
  unfold Ag
  simp [-lC,-lG,sK,Gk,lJ,htr,s2,s3,hi',g,ix]
 ·rw [if_neg hc]
  unfold Ag
  simp [-lC,-lG,sK,Gk,lJ,htr,s2,s3,hi',g,ix,hc,w1]
theorem Qy {z:Int}:Ag KK 5 ([LV l,.func 121 [] [],.int .i64 z,.int .i64 (l.length:Int),.int .i64 (l.length:Int)],HL t l [.front 0 0]) =
  some (.exit 0,[LV l,.func 121 [] [],.int .i64 z,.int .i64 (l.length:Int),.int .i64 (l.length:Int)],HL t l [.front 0 0]):=by
 have htr:mS 5 (HL t l [.front 0 0])=some (HL t l [.front 0 0]):=oI MH
 have s2:∀h',kS.oL 5 h' (LV l)=LV l:=fun h'=>rfl
 have s3:∀h',kS.oL 5 h' (.func 121 [] [])=.func 121 [] []:=fun h'=>rfl
 unfold Ag
 simp [lJ,htr,s2,s3]
theorem V_ {i j:Nat}{z:Int}{v:kS}(hv:∀h',v.oL 5 h'=v) (hz:l[j]?=some z) (hij:i < j) (hl:l.length≤100):CA KK 5 ([LV l,.func 121 [] [],v,.int .i64 (i:Int),.int .i64 (j:Int)],HL t l [.front 0 0]) =
  if z=-1 then some (.normal,[LV l,.func 121 [] [],v,.int .i64 (i:Int),.int .i64 ((j+1:Nat):Int)],HL t l [.front 0 0])
  else some (.normal,[LV (l.set i z),.func 121 [] [],v,.int .i64 ((i+1:Nat):Int),.int .i64 ((j+1:Nat):Int)],HL t (l.set i z) [.front 0 0]):=by
 have hj:j < l.length:=(List.getElem?_eq_some_iff.1 hz).1
 have hj':(j:Int) < (l.length:Int):=by omega
 have w1:IntKind.i64.wrap ((i:Int)+1)=((i+1:Nat):Int):=by rw [wrap64 (by omega) (by omega),Int.natCast_add]; rfl
 have w2:IntKind.i64.wrap ((j:Int)+1)=((j+1:Nat):Int):=by rw [wrap64 (by omega) (by omega),Int.natCast_add]; rfl
 have s2:∀l h',kS.oL 5 h' (LV l)=LV l:=fun l h'=>rfl
 have s3:∀h',kS.oL 5 h' (.func 121 [] [])=.func 121 [] []:=fun h'=>rfl
 have g:=Yl (t:=t) (E:=[.front 0 0]) hz
 have st:=amJ (t:=t) (E:=[.front 0 0]) (l:=l) (i:=i) (by omega) z
 have ix:kX 1 (LV l) (.int .i64 (j:Int))=some (.vptr 3 l.length j):=by simp [LV,hj]
 have ix2:kX 1 (LV l) (.int .i64 (i:Int))=some (.vptr 3 l.length i):=by simp [LV,show i < l.length by omega]
 have ll:lS (LV l)=some (.int .i64 (l.length:Int)):=rfl
 generalize ((i+1:Nat):Int)=i1 at *
 generalize ((j+1:Nat):Int)=j1 at *
 by_cases hc:z=-1
 ·rw [if_pos hc]
  subst hc
  have htr:mS 5 (HL t l [.front 0 0])=some (HL t l [.front 0 0]):=oI MH
  unfold CA
  simp [-lC,-lG,sK,Gk,lJ,htr,s2,s3,hv,hj',g,ix,ll,w2]
 ·rw [if_neg hc]
  have htr:mS 5 (HL t (l.set i z) [.front 0 0])=some (HL t (l.set i z) [.front 0 0]):=oI MH
  have el:LV (l.set i z)=LV l:=by simp [LV]
  rw [el]
  generalize HL t (l.set i z) [.front 0 0]=Hn at *
  unfold CA
  simp [-lC,-lG,sK,Gk,lJ,htr,s2,s3,hv,hj',g,ix,ix2,ll,st,hc,w1,w2]
theorem Gj {i:Int}{v:kS}(hv:∀h',v.oL 5 h'=v):CA KK 5 ([LV l,.func 121 [] [],v,.int .i64 i,.int .i64 (l.length:Int)],HL t l [.front 0 0]) =
  some (.exit 0,[LV l,.func 121 [] [],v,.int .i64 i,.int .i64 (l.length:Int)],HL t l [.front 0 0]):=by
 have htr:mS 5 (HL t l [.front 0 0])=some (HL t l [.front 0 0]):=oI MH
 have s2:∀h',kS.oL 5 h' (LV l)=LV l:=fun h'=>rfl
 have s3:∀h',kS.oL 5 h' (.func 121 [] [])=.func 121 [] []:=fun h'=>rfl
 have ll:lS (LV l)=some (.int .i64 (l.length:Int)):=rfl
 unfold CA
 simp [lJ,htr,s2,s3,hv,ll]
theorem Gf {r:Int}{e:Ex}{w:Int}{v:Int}(hg:mQ (Ag KK 5) ([LV l,.func 121 [] [],.int .i64 0,.int .i64 (l.length:Int),.int .i64 0],HL t l [.front 0 0]) =
   some (e,[LV l,.func 121 [] [],.int .i64 v,.int .i64 (l.length:Int),.int .i64 w],HL t l [.front 0 0])) (hr:(e=.ret∧r=v)∨(e=.exit 0∧r=-1)) :
  KK 174 [LV l,.func 121 [] []] (HL t l [.front 0 0])=some (.ret (.int .i64 r),HL t l [.front 0 0]):=by
 refine mR (Vf _ _ _ _) ?_
 have htr:mS 5 (HL t l [.front 0 0])=some (HL t l [.front 0 0]):=oI MH
 have ll:lS (LV l)=some (.int .i64 (l.length:Int)):=rfl
 have h5:(HL t l [.front 0 0]).length=5:=rfl
 rcases hr with ⟨rfl,rfl⟩ | ⟨rfl,rfl⟩ <;> simp [ao9,ll,h5,hg,mX,htr]
theorem MU (h174:KK 174 [LV l,.func 121 [] []] (HL t l [.front 0 0])=some (.ret (.int .i64 (-1)),HL t l [.front 0 0])):KK 120 [LV l,.func 121 [] []] (HL t l [])=some (.ret (LV l),HL t l []):=by
 refine mR (Oz _ _ _ _) ?_
 have htr:mS 4 (HL t l [.front 0 0])=some (HL t l []):=pM (C:=[.front 0 0]) Yk
 have h4:(HL t l []).length=4:=rfl
 have h5:HL t l []++[.front 0 0]=HL t l [.front 0 0]:=rfl
 have s2:∀h',kS.oL 4 h' (LV l)=LV l:=fun h'=>rfl
 have u2:(LV l).k8=LV l:=rfl
 have u3:kS.k8 (.func 121 [] [])=.func 121 [] []:=rfl
 simp [agH,h4,h5,u2,u3,h174,mX,htr,s2]
theorem Ed {l':List Int}{i k:Nat}{w:Int}(h174:KK 174 [LV l,.func 121 [] []] (HL t l [.front 0 0])=some (.ret (.int .i64 (i:Int)),HL t l [.front 0 0])) (hi:i≤100) (hl':l'.length=l.length) (hk:k≤l.length)
  (hg:mQ (CA KK 5) ([LV l,.func 121 [] [],.slice [] (.own 4),.int .i64 (i:Int),.int .i64 ((i+1:Nat):Int)],HL t l [.front 0 0])=some (.exit 0,[LV l',.func 121 [] [],.slice [] (.own 4),.int .i64 (k:Int),.int .i64 w],HL t l' [.front 0 0])) :
  KK 120 [LV l,.func 121 [] []] (HL t l [])=some (.ret (.vslice 3 l.length 0 k 1),HL t (l'.take k++List.replicate (l.length - k) 0) []):=by
 refine mR (Oz _ _ _ _) ?_
 have h4:(HL t l []).length=4:=rfl
 have h5:HL t l []++[.front 0 0]=HL t l [.front 0 0]:=rfl
 have h55:(HL t l [.front 0 0]).length=5:=rfl
 have u2:(LV l).k8=LV l:=rfl
 have u3:kS.k8 (.func 121 [] [])=.func 121 [] []:=rfl
 have w1:IntKind.i64.wrap ((i:Int)+1)=((i+1:Nat):Int):=by rw [wrap64 (by omega) (by omega),Int.natCast_add]; rfl
 have a1:pG (some (.int .i64 (k:Int))) 0=some k:=by simp [pG]
 have a2:pG (some (.int .i64 (k:Int))) l.length=some k:=by simp [pG]
 have sl2:nX 1 (LV l') none (some (.int .i64 (k:Int)))=some (.vslice 3 l.length 0 k 1):=by
  simp [nX,LV,hl',a2,AZ,hk]
 have hfin:∃S H,nX 1 (LV l') (some (.int .i64 (k:Int))) none=some S∧Fg 1 [.int .i64 0] (HL t l' [.front 0 0]) S=some H∧H=HL t (l'.take k++List.replicate (l.length - k) 0) [.front 0 0]:=by
  have hs:nX 1 (LV l') (some (.int .i64 (k:Int))) none=if k=0∨k < l.length then some (.vslice 3 l.length k (l.length - k) 1) else some (.slice [] .no):=by
   unfold nX LV
   simp only [a1,hl',AZ]
   rw [if_pos ⟨hk,Nat.le_refl _,trivial⟩]
   simp only [Nat.mul_one,Nat.zero_add]
  have hfull:k=l.length→l'.take k++List.replicate (l.length - k) 0=l':=fun hk2=>by rw [hk2,Nat.sub_self,←hl',List.take_length]; simp
  by_cases hc:k=0∨k < l.length
  ·rw [if_pos hc] at hs
   by_cases hn0:l.length - k=0
   ·exact⟨_,HL t l' [.front 0 0],hs,by unfold Fg; simp only [hn0,if_true],by rw [hfull (by omega)]⟩
   ·refine⟨_,_,hs,?_,rfl⟩
    have gv:mZ (HL t l' [.front 0 0]) 3 l.length=some (1,l'.map nO):=by simp [HL,hl']
    unfold Fg
    simp only [hn0,if_false,gv]
    rw [if_pos ⟨trivial,rfl,rfl,by simp; omega⟩]
    have e1:putCells (l'.map nO) k (List.replicate (l.length - k) [kS.int .i64 0]).flatten=(l'.take k++List.replicate (l.length - k) 0).map nO:=by
     have f:(List.replicate (l.length - k) [kS.int .i64 0]).flatten=List.replicate (l.length - k) (nO 0):=by
      simp [nO]
     rw [f]
     simp only [putCells,List.length_replicate]
     have:k+(l.length - k)=l'.length:=by omega
     rw [this,List.drop_eq_nil_of_le (by simp),List.append_nil,List.map_append,List.map_take,List.map_replicate]
    rw [e1]
    have e2:(l'.take k++List.replicate (l.length - k) 0).length=l.length:=by simp; omega
    simp only [HL,e2]
    rfl
  ·rw [if_neg hc] at hs
   exact⟨_,HL t l' [.front 0 0],hs,rfl,by rw [hfull (by omega)]⟩
 obtain⟨S,H,f1,f2,f3⟩:=hfin
 have htr:mS 4 H=some (HL t (l'.take k++List.replicate (l.length - k) 0) []):=by
  subst f3; exact pM (C:=[.front 0 0]) Yk
 have s2:∀h',kS.oL 4 h' (.vslice 3 l.length 0 k 1)=.vslice 3 l.length 0 k 1:=fun h'=>rfl
 clear f3
 generalize ((i+1:Nat):Int)=i1 at *
 simp [agH,h4,h5,h55,u2,u3,h174,w1,hg,f1,f2,sl2,mX,htr,s2]
end
section
variable {t:Term}
theorem anY {id:Nat}{h:kU}(hK:TH h):KK 174 [.slice [] .no,.func 121 [] []] h=some (.ret (.int .i64 (-1)),h):=by
 refine mR (Vf _ _ _ _) ?_
 have htr:=oI hK
 have s3:∀h',kS.oL h.length h' (.func 121 [] [])=.func 121 [] []:=fun h'=>rfl
 have st:Ag KK h.length ([.slice [] .no,.func 121 [] [],.int .i64 0,.int .i64 0,.int .i64 0],h)=some (.exit 0,([.slice [] .no,.func 121 [] [],.int .i64 0,.int .i64 0,.int .i64 0],h)):=by
  unfold Ag
  simp [lJ,htr,s3]
 have g:=nH st
 simp [ao9,g,htr,mX]
theorem anT {h:kU}(hK:TH h):KK 120 [.slice [] .no,.func 121 [] []] h=some (.ret (.slice [] .no),h):=by
 refine mR (Oz _ _ _ _) ?_
 have g:=anY (id:=0) (h:=h++[.front 0 0]) (Se hK (nP oW))
 have htr:=fun C=>pM (C:=C) hK
 have uf:kS.k8 (.func 121 [] [])=.func 121 [] []:=rfl
 simp [agH,g,uf,mX,htr]
end
def rH (t:Term):List Int:=if t.kind=1 then [t.yes].filter (fun k=>!decide (k=-1)) else if t.kind=2 then [t.yes,t.no].filter (fun k=>!decide (k=-1)) else []
theorem ZG {p:IR}{t:Term}(ht:wN (p:=p) t=true):rH t=pW t:=by
 have e:∀k:Int,-1≤k→(!decide (k=-1))=decide (0≤k):=fun k hk=>by
  by_cases h:k=-1
  ·simp [h]
  ·have:0≤k:=by omega
   simp [h,this]
 unfold rH pW
 unfold wN at ht
 by_cases k1:t.kind=1
 ·rw [if_pos k1] at ht
  rw [if_pos k1,if_pos k1]
  simp only [mO,Bool.and_eq_true,decide_eq_true_eq] at ht
  simp only [List.filter_cons,List.filter_nil,e _ ht.2.1]
 ·rw [if_neg k1,if_neg k1]
  rw [if_neg k1] at ht
  by_cases k2:t.kind=2
  ·rw [if_pos k2] at ht
   rw [if_pos k2,if_pos k2]
   simp only [mO,Bool.and_eq_true,decide_eq_true_eq] at ht
   simp only [List.filter_cons,List.filter_nil,e _ ht.2.1.1,e _ ht.2.2.1]
  ·rw [if_neg k2,if_neg k2]
theorem aw8 {t:Term}(y:Int):∃l':List Int,KK 120 [LV [y],.func 121 [] []] (HL t [y] [])=some (.ret (.vslice 3 1 0 ([y].filter fun k=>!decide (k=-1)).length 1),HL t l' [])∧l'.length=1∧l'.take ([y].filter fun k=>!decide (k=-1)).length=[y].filter fun k=>!decide (k=-1):=by
 have s1:=Hd (t:=t) (l:=[y]) (i:=0) (z:=y) rfl (by simp)
 by_cases hy:y=-1
 ·subst hy
  rw [if_pos rfl] at s1
  have g:=Gf (r:=0) (vM s1) (.inl ⟨rfl,rfl⟩)
  have e:=Gj (t:=t) (l:=[-1]) (i:=0) (v:=.slice [] (.own 4)) (fun h'=>rfl)
  exact⟨_,Ed (i:=0) (k:=0) g (by omega) rfl (by simp) (nH e),by simp,by simp⟩
 ·rw [if_neg hy] at s1
  have g:=Gf (r:=-1) ((oU s1).trans (nH Qy)) (.inr ⟨rfl,rfl⟩)
  have:=MU g
  exact⟨[y],by simpa [hy,LV] using this,rfl,by simp [hy]⟩
theorem aw9 {t:Term}(y n:Int):∃l':List Int,KK 120 [LV [y,n],.func 121 [] []] (HL t [y,n] [])=some (.ret (.vslice 3 2 0 ([y,n].filter fun k=>!decide (k=-1)).length 1),HL t l' [])∧l'.length=2∧l'.take ([y,n].filter fun k=>!decide (k=-1)).length=[y,n].filter fun k=>!decide (k=-1):=by
 have s1:=Hd (t:=t) (l:=[y,n]) (i:=0) (z:=y) rfl (by simp)
 have s2:=Hd (t:=t) (l:=[y,n]) (i:=1) (z:=n) rfl (by simp)
 have hv:∀h',kS.oL 5 h' (.slice [] (.own 4))=.slice [] (.own 4):=fun h'=>rfl
 by_cases hy:y=-1
 ·subst hy
  rw [if_pos rfl] at s1
  have g:=Gf (r:=0) (vM s1) (.inl ⟨rfl,rfl⟩)
  have d1:=V_ (t:=t) (l:=[-1,n]) (i:=0) (j:=1) (z:=n) hv rfl (by omega) (by simp)
  by_cases hn:n=-1
  ·subst hn
   rw [if_pos rfl] at d1
   have e:=Gj (t:=t) (l:=[-1,-1]) (i:=0) hv
   exact⟨_,Ed (i:=0) (k:=0) g (by omega) rfl (by simp) ((oU d1).trans (nH e)),by simp,by simp⟩
  ·rw [if_neg hn] at d1
   have e:=Gj (t:=t) (l:=[n,n]) (i:=1) hv
   have:=Ed (i:=0) (k:=1) (l':=[n,n]) g (by omega) rfl (by simp) ((oU d1).trans (nH e))
   exact⟨_,by simpa [hn] using this,by simp,by simp [hn]⟩
 ·rw [if_neg hy] at s1
  by_cases hn:n=-1
  ·subst hn
   rw [if_pos rfl] at s2
   have g:=Gf (r:=1) ((oU s1).trans (vM s2)) (.inl ⟨rfl,rfl⟩)
   have e:=Gj (t:=t) (l:=[y,-1]) (i:=1) hv
   have:=Ed (i:=1) (k:=1) (l':=[y,-1]) g (by omega) rfl (by simp) (nH e)
   exact⟨_,by simpa [hy] using this,by simp,by simp [hy]⟩
  ·rw [if_neg hn] at s2
   have g:=Gf (r:=-1) ((oU s1).trans ((oU s2).trans (nH Qy))) (.inr ⟨rfl,rfl⟩)
   have:=MU g
   exact⟨[y,n],by simpa [hy,hn,LV] using this,rfl,by simp [hy,hn]⟩
theorem Yr {t:Term}{l:List Int}{k n:Nat}(hn:l.length=n) (hk:k≤n):(kS.vslice 3 n 0 k 1).oL 0 (HL t l [])=.slice (ints (l.take k)) .no:=by
 subst hn
 have hp:nB ((l.map nO).take k)=some ((l.map nO).take k):=CI fun c hc=>by
  obtain⟨z,_,rfl⟩:=List.mem_map.1 (List.mem_of_mem_take hc); exact⟨_,_,rfl⟩
 have hl:((l.map nO).take k).length=k:=by simp; omega
 have hr:rowsOf k 1 ((l.map nO).take k)=ints (l.take k):=by
  have:=AS (l:=(l.map nO).take k)
  rw [hl] at this
  rw [this,ints,←List.map_take,List.map_map]; rfl
 show kS.oH 0 (HL t l []) (.vslice 3 l.length 0 k 1)=_
 unfold kS.oH
 simp only [Nat.not_lt_zero,decide_false,cond_false,HL,List.getElem?_cons_succ,List.getElem?_cons_zero,List.drop_zero,Nat.mul_one,hp,hr,List.length_map,Nat.zero_add]
 simp [hk]
theorem c58 (t:Term) (h:kU):KK 58 [.agg t.cells] h=some (.ret (.slice (ints (rH t)) .no),h):=by
 refine mD rfl rfl (mR (aqE _ _ _) ?_)
 have b1:∀(z:Int) (h':kU),pU 1 1 [.int .i64 0] [(0,.int .i64 z)] h'=some (.vslice h'.length 1 0 1 1,h'++[.vec 1 1 [.int .i64 z]]):=fun z h'=>rfl
 have b2:∀(y z:Int) (h':kU),pU 2 1 [.int .i64 0] [(0,.int .i64 y),(1,.int .i64 z)] h'=some (.vslice h'.length 2 0 2 1,h'++[.vec 2 1 [.int .i64 y,.int .i64 z]]):=fun y z h'=>rfl
 have uf:kS.k8 (.func 121 [] [])=.func 121 [] []:=rfl
 unfold rH
 by_cases k1:t.kind=1
 ·obtain⟨l',g,h1,h2⟩:=aw8 (t:=t) t.yes
  have hf:=Yr (t:=t) (k:=([t.yes].filter fun k=>!decide (k=-1)).length) h1 (by rw [←h1,←h2,List.length_take]; omega)
  rw [h2] at hf
  rw [if_pos k1]
  simp only [HL,LV,List.length_cons,List.length_nil,Nat.zero_add,List.map_cons,List.map_nil,nO,Term.cells] at g hf ⊢
  rw [k1] at g hf
  generalize [t.yes].filter (fun k=>!decide (k=-1))=L at *
  generalize mI.vec l'.length 1 (l'.map nO)=X at *
  simp [m58,k1,b1,g,uf,lM,hf]
 by_cases k2:t.kind=2
 ·obtain⟨l',g,h1,h2⟩:=aw9 (t:=t) t.yes t.no
  have hf:=Yr (t:=t) (k:=([t.yes,t.no].filter fun k=>!decide (k=-1)).length) h1 (by rw [←h1,←h2,List.length_take]; omega)
  rw [h2] at hf
  rw [if_neg k1,if_pos k2]
  simp only [HL,LV,List.length_cons,List.length_nil,Nat.zero_add,Nat.reduceAdd,List.map_cons,List.map_nil,nO,Term.cells] at g hf ⊢
  rw [k2] at g hf
  generalize [t.yes,t.no].filter (fun k=>!decide (k=-1))=L at *
  generalize mI.vec l'.length 1 (l'.map nO)=X at *
  simp [m58,k2,b2,g,uf,lM,hf]
 ·have g0:=anT (h:=[.cells t.cells,.front 0 0,.front 0 0]) (nY (by simp [Term.cells]) (nP (nP oW)))
  rw [if_neg k1,if_neg k2]
  simp only [Term.cells] at g0 ⊢
  simp [m58,k1,k2,g0,uf,lM,ints]
end Go.Proofs.YtkeoalhglkfbkaaDoor


namespace Go.Proofs.YtkeoalhglkfbkaaDoor
open Go Hk Go.Proofs.Wd
theorem Fa {n:Nat}:∀{cs:List kS},(∀c∈cs,(∀m h,n≤m→c.oH m h=c)∧c.mV=true)→zT n cs
 | [],_=>Jp
 | c::r,h=>(zZ (h c (by simp)).1 (h c (by simp)).2).2 (Fa fun x hx=>h x (by simp [hx]))
abbrev Cl:=Bool×List Wd
def mK (c:Cl):kS:=if c.1 then PS c.2 else .slice [] .nil
def tH (c:Cl):List Wd:=if c.1 then c.2 else []
theorem V6 (c:Cl) (h:kU):lU 1 1 [.slice [] .nil] [(0,mK c)] h=some (.slice [[PS (tH c)]] (.own h.length),h++[.front 1 1]):=by
 obtain⟨b,ws⟩:=c
 cases b <;> rfl
theorem Kt {h:kU}(c:Cl):E0 h (mK c).k8 (tH c):=by
 obtain⟨b,ws⟩:=c
 cases b
 ·exact Rn (ws:=[])
 ·exact Rn
theorem BT (c:Cl):(∀m h,(mK c).oH m h=mK c)∧(mK c).mV=true:=by
 obtain⟨b,ws⟩:=c
 cases b <;> exact⟨fun _ _=>rfl,rfl⟩
def FZ (id:Nat) (ws:List Wd):kS:=match ws with
 | []=>.slice [] (.own id)
 | _=>PS ws
def ZX (ws:List Wd):mI:=match ws with
 | []=>.front 0 0
 | _=>.gone
theorem Kj {A B:List mI}{ws:List Wd}:oZ (OQ A (XS ws) B) (VS A.length ws)=some (FZ A.length ws,OQ A (ZX ws) B):=by
 cases ws with
 | nil=>rfl
 | cons w r =>
  have g:=Ei (A:=A) (B:=B) (ws:=w::r) (by simp)
  have hp:nB (((w::r).map wc).take (r.length+1))=some ((w::r).map wc):=by
   rw [List.take_of_length_le (by simp)]
   exact CI fun c hc=>by obtain⟨x,_,rfl⟩:=List.mem_map.1 hc; exact⟨_,_,rfl⟩
  have hr:rowsOf (r.length+1) 1 ((w::r).map wc)=(w::r).map fun w=>[wc w]:=by
   have:=AS (l:=(w::r).map wc)
   rw [List.length_map,List.length_cons] at this
   rw [this,List.map_map]; rfl
  unfold oZ VS
  simp only [List.length_cons] at g
  simp only [g,List.drop_zero,Nat.mul_one,hp,hr,List.length_map,List.length_cons,Nat.zero_add,Nat.le_refl,if_true,Bl,Option.some.injEq,Prod.mk.injEq]
  exact⟨rfl,rfl⟩
theorem amI (id:Nat) (ws:List Wd) (h:kU):lU 1 1 [.slice [] .nil] [(0,FZ id ws)] h=some (.slice [[PS ws]] (.own h.length),h++[.front 1 1]):=by cases ws <;> rfl
theorem aeM {id m:Nat}{ws:List Wd}{h:kU}(hm:id < m):(FZ id ws).oH m h=FZ id ws:=by
 cases ws with
 | nil=>simp [FZ,hm]
 | cons w r=>rfl
theorem Yh {id m:Nat}{ws:List Wd}{h:kU}(hm:m≤id):(FZ id ws).oH m h=PS ws:=by
 cases ws with
 | nil=>simp [FZ,show ¬id < m by omega]; rfl
 | cons w r=>rfl
theorem Yg {id:Nat}{ws:List Wd}:(FZ id ws).mV=true:=by cases ws <;> rfl
theorem P0 {id:Nat}{ws:List Wd}:(FZ id ws).cells=[FZ id ws]:=by cases ws <;> rfl
theorem UG {id:Nat}{ws:List Wd}{h:kU}{o:kS}:qI h o (FZ id ws)=FZ id ws:=by
 cases ws with
 | nil=>simp [FZ]
 | cons w r=>simp [FZ,PS]
theorem sV {id off len sz sz':Nat}{k:IntKind}{i:Nat}:kX sz (.mslice id off len sz') (.int k (i:Int))=if i < len∧sz'=sz then some (.ptr id (off+i * sz)) else none:=by
 simp [kX]
theorem JQ {h C:kU}{rows:List (List kS)}{v:kS}{by_:Nat}(hb:by_≤24) (hl:rows.length≤2000000) {t:Hk.Tok} :
  nG 1 by_ (h++FR rows.length::C) (.slice rows (.own h.length)) (.slice [[v]] t)=some (.slice (rows++[[v]]) (.own h.length),h++FR (rows.length+1)::C):=by
 have hr:∀H:kU,sR 1 H (.slice [[v]] t)=some [[v]]:=fun H=>by simp
 have hg:∀x,(h++x::C)[h.length]?=some x:=fun x=>by rw [List.getElem?_append_right (Nat.le_refl _),Nat.sub_self]; rfl
 have hs:∀x y,(h++x::C).set h.length y=h++y::C:=fun x y=>by rw [List.set_append_right _ _ (Nat.le_refl _),Nat.sub_self]; rfl
 have e1:FR (rows.length+1)=.front (rows.length+1) 1:=by simp [FR]
 have hm:(rows.length+1) * by_≤(rows.length+1) * 24:=Nat.mul_le_mul_left _ hb
 unfold nG
 simp only [hr]
 rw [hg,e1]
 by_cases h0:rows.length=0
 ·have e3:FR rows.length=.front 0 0:=by simp [FR,h0]
  rw [e3]
  simp only [List.length_singleton,hs]
  rw [if_pos ⟨h0,.inr ⟨trivial,trivial⟩,by rw [h0] at hm; omega,by omega⟩,if_neg (by omega),h0]
 ·have e3:FR rows.length=.front rows.length 1:=by simp [FR,h0]
  rw [e3]
  simp only [List.length_singleton,hs]
  rw [if_pos ⟨trivial,.inl trivial,by omega,by omega⟩,if_neg (by omega)]
def HB (p:IR) (ic oc:List kS):kU:=[.cells p.cells,.front 0 0,.front 0 0,.cells ic,.cells oc]
theorem xV {p:IR}{n:Nat}:zT n p.cells:=by simp [IR.cells]
theorem qG {n:Nat}(l:List Cl):zT n (l.map mK):=Fa fun c hc=>by
 obtain⟨x,_,rfl⟩:=List.mem_map.1 hc
 exact⟨fun m h _=>(BT x).1 m h,(BT x).2⟩
theorem Fb {p:IR}{ic oc:List kS}{n:Nat}(h1:zT n ic) (h2:zT n oc):zD n (HB p ic oc) :=
 nY xV (nP (nP (nY h1 (nY h2 oW))))
def T1:kS:=.slice [] (.own 1)
def T2:kS:=.slice [] (.own 2)
section
variable {m:Nat}(hm:5≤m) {h:kU}{n:Nat}
include hm
theorem sP:kS.oL m h (.ptr 0 0)=.ptr 0 0:=CL (by omega)
theorem sT1:kS.oL m h T1=T1:=by simp [T1,show 1 < m by omega]
theorem sT2:kS.oL m h T2=T2:=by simp [T2,show 2 < m by omega]
theorem sMI:kS.oL m h (.mslice 3 0 n 1)=.mslice 3 0 n 1:=by
 show kS.oH m h (.mslice 3 0 n 1)=_
 simp [kS.oH,show 3 < m by omega]
theorem sMO:kS.oL m h (.mslice 4 0 n 1)=.mslice 4 0 n 1:=by
 show kS.oH m h (.mslice 4 0 n 1)=_
 simp [kS.oH,show 4 < m by omega]
end
section
variable {p:IR}{ins:List Cl}{oc:List kS}(hn:ins.length=p.blocks.length)
include hn
theorem WB (ho:zT 5 oc) {bb:Bool}{k:Int}(ld:List Int) (hld:∀j∈ld,0≤j∧j.toNat < ins.length) (hl:ld.length≤10):∀(d i:Nat) (L:List (List Wd)),ld.length=i+d→L.length=i →
  mQ (OM KK 6) ([.ptr 0 0,T1,T2,.int .i64 0,.mslice 3 0 p.blocks.length 1,.mslice 4 0 p.blocks.length 1,.bool bb,.int .i64 k,.slice (L.map fun s=>[PS s]) (.own 5),.slice (ints ld) .no,.int .i64 (ld.length:Int),.int .i64 (i:Int)],HB p (ins.map mK) oc++[FR L.length]) =
   some (.exit 4,[.ptr 0 0,T1,T2,.int .i64 0,.mslice 3 0 p.blocks.length 1,.mslice 4 0 p.blocks.length 1,.bool bb,.int .i64 k,.slice ((L++(ld.drop i).map fun j=>tH (ins.getD j.toNat (false,[]))).map fun s=>[PS s]) (.own 5),.slice (ints ld) .no,.int .i64 (ld.length:Int),.int .i64 (ld.length:Int)],
    HB p (ins.map mK) oc++[FR (L++(ld.drop i).map fun j=>tH (ins.getD j.toNat (false,[]))).length]):=by
 have hT:∀n,TH (HB p (ins.map mK) oc++[FR n]):=fun n=>pS (Fb (qG ins) (fun m h hm=>ho m h (by simp [HB] at hm; omega))) xL
 have htr:∀n C,mS 6 (HB p (ins.map mK) oc++FR n::C)=some (HB p (ins.map mK) oc++[FR n]):=fun n C=>by
  have:=pM (C:=C) (hT n)
  simpa [HB] using this
 have h5:(HB p (ins.map mK) oc).length=5:=rfl
 have sOwn:∀h rows,kS.oL 6 h (.slice rows (.own 5))=.slice rows (.own 5):=fun h rows=>by simp
 have q0:=fun h=>sP (m:=6) (h:=h) (by omega)
 have q1:=fun h=>sT1 (m:=6) (h:=h) (by omega)
 have q2:=fun h=>sT2 (m:=6) (h:=h) (by omega)
 have q3:=fun h=>sMI (m:=6) (h:=h) (n:=p.blocks.length) (by omega)
 have q4:=fun h=>sMO (m:=6) (h:=h) (n:=p.blocks.length) (by omega)
 intro d
 induction d with
 | zero =>
  intro i L hd hL
  obtain rfl:ld.length=i:=by omega
  rw [List.drop_length,List.map_nil,List.append_nil]
  refine nH ?_
  unfold OM
  simp -implicitDefEqProofs [lJ,htr,q0,q1,q2,q3,q4,sOwn]
 | succ d ih =>
  intro i L hd hL
  have hil:i < ld.length:=by omega
  have hil':(i:Int) < (ld.length:Int):=by omega
  have hx:ld[i]?=some ld[i]:=List.getElem?_eq_getElem hil
  have hj:=hld ld[i] (List.getElem_mem hil)
  have w1:IntKind.i64.wrap ((i:Int)+1)=((i+1:Nat):Int):=by rw [wrap64 (by omega) (by omega),Int.natCast_add]; rfl
  rw [List.drop_eq_getElem_cons hil]
  generalize ld[i]=j at *
  obtain⟨q,rfl⟩:=Int.eq_ofNat_of_zero_le hj.1
  have hq:q < ins.length:=by simpa using hj.2
  have hqn:q < p.blocks.length:=by omega
  have hc:ins[q]?=some ins[q]:=List.getElem?_eq_getElem hq
  have hgd:ins.getD q (false,[])=ins[q]:=by simp [List.getD_eq_getElem?_getD,hc]
  simp only [Int.toNat_natCast,List.map_cons,hgd]
  have ixl:kX 1 (.slice (ints ld) .no) (.int .i64 (i:Int))=some (.pptr [.int .i64 (q:Int)]):=by
   rw [ints,k_,hx]; rfl
  have ixm:kX 1 (.mslice 3 0 p.blocks.length 1) (.int .i64 (q:Int))=some (.ptr 3 q):=by
   rw [sV,if_pos ⟨hqn,rfl⟩]; simp
  have row:=fun h=>V6 ins[q] h
  have app:=fun C t=>JQ (h:=HB p (ins.map mK) oc) (C:=C) (rows:=L.map fun s=>[PS s]) (v:=PS (tH ins[q])) (by_:=24) (by omega) (by simp; omega) (t:=t)
  rw [h5] at app
  simp only [List.length_map] at app
  have gb:∀C,(nC (HB p (ins.map mK) oc++C) 3).bind (fun cs=>cs[q]?)=some (mK ins[q]):=fun C=>by simp [HB,nC,hc]
  have g:=ih (i+1) (L++[tH ins[q]]) (by omega) (by simp; omega)
  have e:L++tH ins[q]::(ld.drop (i+1)).map (fun j=>tH (ins.getD j.toNat (false,[])))=(L++[tH ins[q]])++(ld.drop (i+1)).map (fun j=>tH (ins.getD j.toNat (false,[]))):=by simp
  rw [e,←g]
  clear g ih e
  refine oU ?_
  have em:(L++[tH ins[q]]).map (fun s=>[PS s])=L.map (fun s=>[PS s])++[[PS (tH ins[q])]]:=by simp
  rw [em]
  have el:(L++[tH ins[q]]).length=L.length+1:=by simp
  rw [el]
  generalize ((i+1:Nat):Int)=i1 at *
  generalize L.map (fun s=>[PS s])=R at *
  generalize mK ins[q]=ca at *
  unfold OM
  simp -implicitDefEqProofs [hil',ixl,ixm,gb,row,app,w1,lJ,htr,q0,q1,q2,q3,q4,sOwn]
end
end Go.Proofs.YtkeoalhglkfbkaaDoor


namespace Go.Proofs.YtkeoalhglkfbkaaDoor
open Go Hk Go.Proofs.Wd
def Jl (l:List Op) (ws:List Wd):List Wd:=l.foldr zI ws
def anK (b:lR) (ws:List Wd):List Wd:=Jl b.ops (vO b.term ws)
structure yT (p:IR):Prop where
 use:∀b∈p.blocks,∀o∈b.ops,∀t∈mU o,0≤t∧t < p.temps
 dst:∀b∈p.blocks,∀o∈b.ops,o.dst≤2000000
 made:∀b∈p.blocks,∀o∈b.ops,(mM o.kind).dst=true→0≤o.dst∧o.dst < p.temps
 term:∀b∈p.blocks,b.term.kind=2→0≤b.term.a∧b.term.a < p.temps
 lead:∀b∈p.blocks,∀j∈rH b.term,0≤j∧j.toNat < p.blocks.length
 temps:p.temps≤1048576
 nb:p.blocks.length≤1048576
 len:∀b∈p.blocks,b.ops.length≤1048576
theorem Ft (t:Term):(rH t).length≤10:=by
 unfold rH
 split
 ·exact Nat.le_trans (List.length_filter_le _ _) (by simp)
 ·split
  ·exact Nat.le_trans (List.length_filter_le _ _) (by simp)
  ·simp
section
variable {p:IR}(hp:yT p)
include hp
theorem WC {A B:List mI}(hB:KB A B) (hm:5≤HN A B) {bb:Bool}{k:Int}{b:lR}(hb:b∈p.blocks):∀(c:Nat) (ws:List Wd),c≤b.ops.length →
  mQ (ON KK (HN A B)) ([.ptr 0 0,T1,T2,.int .i64 0,.mslice 3 0 p.blocks.length 1,.mslice 4 0 p.blocks.length 1,.bool bb,.int .i64 k,VS A.length ws,.slice (b.ops.map Op.cells) .no,.int .i64 ((c:Int) - 1)],OQ A (XS ws) B) =
   some (.exit 6,[.ptr 0 0,T1,T2,.int .i64 0,.mslice 3 0 p.blocks.length 1,.mslice 4 0 p.blocks.length 1,.bool bb,.int .i64 k,VS A.length (Jl (b.ops.take c) ws),.slice (b.ops.map Op.cells) .no,.int .i64 (-1)],OQ A (XS (Jl (b.ops.take c) ws)) B):=by
 have q0:=fun h=>sP (m:=HN A B) (h:=h) hm
 have q1:=fun h=>sT1 (m:=HN A B) (h:=h) hm
 have q2:=fun h=>sT2 (m:=HN A B) (h:=h) hm
 have q3:=fun h=>sMI (m:=HN A B) (h:=h) (n:=p.blocks.length) hm
 have q4:=fun h=>sMO (m:=HN A B) (h:=h) (n:=p.blocks.length) hm
 intro c
 induction c with
 | zero =>
  intro ws _
  have htr:=rE (X:=XS ws) (A:=A) (B:=B) hB Au
  have hsn:=fun h=>xW (ws:=ws) (m:=HN A B) (h:=h) vH
  refine nH ?_
  simp only [List.take_zero,Jl,List.foldr_nil]
  unfold ON
  simp -implicitDefEqProofs [lJ,htr,hsn,q0,q1,q2,q3,q4]
 | succ c ih =>
  intro ws hc
  have hcl:c < b.ops.length:=by omega
  have hx:b.ops[c]?=some b.ops[c]:=List.getElem?_eq_getElem hcl
  have ho:=List.getElem_mem hcl
  have e:Jl (b.ops.take (c+1)) ws=Jl (b.ops.take c) (zI b.ops[c] ws):=by
   unfold Jl
   rw [List.take_succ_eq_append_getElem hcl,List.foldr_append]; rfl
  have hlen:=hp.len b hb
  have g61:=c61 hB (o:=b.ops[c]) (fun t ht=>by have:=hp.use b hb _ ho t ht; have:=hp.temps; omega) (hp.dst b hb _ ho) ws
  have htr:=vS (X:=XS (zI b.ops[c] ws)) (A:=A) (B:=B) (C:=Ob b.ops[c]) hB Au
  have hsn:=fun h=>xW (ws:=zI b.ops[c] ws) (m:=HN A B) (h:=h) vH
  rw [e,←ih _ (by omega)]
  generalize b.ops[c]=o at *
  have w0:((c+1:Nat):Int) - 1=(c:Int):=by omega
  have w1:IntKind.i64.wrap ((c:Int) - 1)=(c:Int) - 1:=by rw [wrap64] <;> omega
  rw [w0]
  refine oU ?_
  have ix:(kX 6 (.slice (b.ops.map Op.cells) .no) (.int .i64 (c:Int))).bind (fun t=>kW true 6 (OQ A (XS ws) B) t)=some (.agg o.cells):=by
   rw [k_,hx]; simp [Op.cells]
  obtain⟨q,hq,hq2⟩:=Option.bind_eq_some_iff.1 ix
  generalize zI o ws=w' at *
  generalize kS.agg o.cells=oc at *
  generalize Ob o=og at *
  generalize VS A.length ws=V0 at *
  generalize OQ A (XS ws) B=H0 at *
  unfold ON
  simp -implicitDefEqProofs [hq,hq2,g61,w1,lJ,htr,hsn,q0,q1,q2,q3,q4]
def Df (ins:List Cl) (b:lR):List Wd:=vU ((rH b.term).map fun j=>tH (ins.getD j.toNat (false,[])))
def Ah (ins:List Cl) (b:lR):List Wd:=anK b (vU [Df ins b])
omit hp in
theorem ai8 {α:Type}{l:List α}{i:Nat}(hi:i < l.length) (x:α):(l.set i x)[i]?=some x:=by simp [hi]
omit hp in
theorem JG {m id:Nat}{h:kU}{ws:List Wd}(hm:m≤id):∀(l:List Cl) (k:Nat),k < l.length→m_ m h ((l.map mK).set k (FZ id ws))=some ((l.set k (true,ws)).map mK)
 | [],k,hk=>by simp at hk
 | c::r,0,_=>by
  have e:=qG (n:=m) r m h (Nat.le_refl _)
  simp only [List.map_cons,List.set_cons_zero,qM,Yh hm,e,Option.map_some]
  rfl
 | c::r,k+1,hk=>by
  have ih:=JG (h:=h) (ws:=ws) hm r k (by simpa using hk)
  simp only [List.map_cons,List.set_cons_succ,qM,(BT c).1 m h,(BT c).2,cond_true,ih,Option.map_some]
set_option maxHeartbeats 4000000 in
theorem WH {ins outs:List Cl}(hn:ins.length=p.blocks.length) (hno:outs.length=p.blocks.length) (hs:∀c∈ins,(tH c).length≤20000) {bb:Bool}{k:Nat}{b:lR}(hb:p.blocks[k]?=some b)
  (hw:(Ah ins b).length≤20000) :
  Hs KK 5 ([.ptr 0 0,T1,T2,.int .i64 0,.mslice 3 0 p.blocks.length 1,.mslice 4 0 p.blocks.length 1,.bool bb,.int .i64 (k:Int)],HB p (ins.map mK) (outs.map mK)) =
   some (.normal,[.ptr 0 0,T1,T2,.int .i64 0,.mslice 3 0 p.blocks.length 1,.mslice 4 0 p.blocks.length 1,.bool (if oT (Ah ins b)=oT (tH (ins.getD k (false,[]))) then bb else true),.int .i64 ((k:Int) - 1)],
    HB p ((if oT (Ah ins b)=oT (tH (ins.getD k (false,[]))) then ins else ins.set k (true,Ah ins b)).map mK) ((outs.set k (true,Df ins b)).map mK)):=by
 have hbm:b∈p.blocks:=List.mem_of_getElem? hb
 have hkl:k < p.blocks.length:=(List.getElem?_eq_some_iff.1 hb).1
 have hki:k < ins.length:=by omega
 have hko:k < outs.length:=by omega
 have hld:=hp.lead b hbm
 have hnb:=hp.nb
 have gl:=WB hn (qG outs) (bb:=bb) (k:=(k:Int)) (rH b.term) (fun j hj=>by rw [hn]; exact hld j hj) (Ft _) (rH b.term).length 0 [] (by simp) rfl
 simp only [List.nil_append,List.drop_zero,Int.cast_ofNat_Int] at gl
 have g58:=c58 b.term
 have hLl:∀s∈(rH b.term).map (fun j=>tH (ins.getD j.toNat (false,[]))),s.length≤20000:=fun s hs'=>by
  obtain⟨j,_,rfl⟩:=List.mem_map.1 hs'
  rw [List.getD_eq_getElem?_getD]
  cases hq:ins[j.toNat]? with
  | none=>simp [tH]
  | some c=>exact hs c (List.mem_of_getElem? hq)
 have hJl:(Df ins b).length≤20000:=B2 20000 _ [] (by simp) hLl
 have hTF:∀n,TH (HB p (ins.map mK) (outs.map mK)++[FR n]):=fun n=>pS (Fb (qG ins) (qG outs)) xL
 have g59:=c59 (hTF ((rH b.term).map (fun j=>tH (ins.getD j.toNat (false,[])))).length) (L:=(rH b.term).map fun j=>tH (ins.getD j.toNat (false,[]))) (by have:=Ft b.term; simp; omega) hLl
 have hout:vU ((rH b.term).map fun j=>tH (ins.getD j.toNat (false,[])))=Df ins b:=rfl
 rw [hout] at g59
 generalize ((rH b.term).map (fun j=>tH (ins.getD j.toNat (false,[]))))=L at *
 generalize hJ:Df ins b=J at *
 have gf:=Kj (A:=HB p (ins.map mK) (outs.map mK)++[FR L.length]++[.front 0 0]) (B:=[]) (ws:=J)
 have l7:(HB p (ins.map mK) (outs.map mK)++[FR L.length]++[mI.front 0 0]).length=7:=rfl
 have l6:(HB p (ins.map mK) (outs.map mK)++[FR L.length]).length=6:=rfl
 rw [l7] at gf
 rw [l6] at g59
 have hoc:zT 9 ((outs.map mK).set k (FZ 7 J)):=Fa fun c hc=>by
  rcases List.mem_or_eq_of_mem_set hc with h1 | h1
  ·obtain⟨x,_,rfl⟩:=List.mem_map.1 h1
   exact⟨fun m h _=>(BT x).1 m h,(BT x).2⟩
  ·subst h1; exact⟨fun m h hm=>aeM (by omega),Yg⟩
 have zx:∀n,zD n [ZX J]:=fun n=>by cases J <;> simp [ZX]
 have hT2:TH ([.gone,.front 0 0,.front 0 0,.cells (ins.map mK),.cells ((outs.map mK).set k (FZ 7 J)),FR L.length,.front 0 0,ZX J,.front 1 1]:kU):=by
  have e:([.gone,.front 0 0,.front 0 0,.cells (ins.map mK),.cells ((outs.map mK).set k (FZ 7 J)),FR L.length,.front 0 0,ZX J,.front 1 1]:kU) =
    [.gone,.front 0 0,.front 0 0,.cells (ins.map mK),.cells ((outs.map mK).set k (FZ 7 J))]++([FR L.length]++([.front 0 0]++([ZX J]++[.front 1 1]))):=rfl
  unfold TH
  rw [e]
  exact pS (by simp only [Cm,EZ,EY]; exact⟨qG _,hoc,oW⟩) (pS xL (pS (nP oW) (pS (zx _) (nP oW))))
 have g592:=c59 hT2 (L:=[J]) (by simp) (fun s hs=>by simp at hs; subst hs; exact hJl)
 have hJ2:(vU [J]).length≤20000:=B2 20000 _ [] (by simp) (fun s hs=>by simp at hs; subst hs; exact hJl)
 have hB0:KB ([.cells p.cells,.front 0 0,.front 0 0,.cells (ins.map mK),.cells ((outs.map mK).set k (FZ 7 J)),FR L.length,.front 0 0,ZX J,.front 1 1,.front 0 0]:kU) []:=by
  refine⟨fun n hn'=>?_,fun n _=>oW⟩
  have h9:9≤n:=by simp [HN] at hn'; omega
  have e:([.cells p.cells,.front 0 0,.front 0 0,.cells (ins.map mK),.cells ((outs.map mK).set k (FZ 7 J)),FR L.length,.front 0 0,ZX J,.front 1 1,.front 0 0]:kU) =
    HB p (ins.map mK) ((outs.map mK).set k (FZ 7 J))++([FR L.length]++([.front 0 0]++([ZX J]++[.front 1 1,.front 0 0]))):=rfl
  rw [e]
  exact pS (Fb (qG _) (fun m h hm=>hoc m h (by omega))) (pS xL (pS (nP oW) (pS (zx _) (nP (nP oW)))))
 have g60:=c60 hB0 (t:=b.term) (fun h=>by have:=hp.term b hbm h; have:=hp.temps; omega) (vU [J])
 have hBG:KB ([.cells p.cells,.front 0 0,.front 0 0,.cells (ins.map mK),.cells ((outs.map mK).set k (FZ 7 J)),FR L.length,.front 0 0,ZX J,.front 1 1,.front 0 0]:kU) ([]++xC b.term) :=
  hB0.app (by unfold xC; split <;> simp [Term.cells])
 have gl1:=WC hp hBG (by simp [HN]; omega) (bb:=bb) (k:=(k:Int)) hbm b.ops.length (vO b.term (vU [J])) (Nat.le_refl _)
 rw [List.take_length] at gl1
 have hnew:Jl b.ops (vO b.term (vU [J]))=Ah ins b:=by unfold Ah anK; rw [hJ]
 rw [hnew] at gl1
 generalize Ah ins b=N at *
 generalize hA:([.cells p.cells,.front 0 0,.front 0 0,.cells (ins.map mK),.cells ((outs.map mK).set k (FZ 7 J)),FR L.length,.front 0 0,ZX J,.front 1 1,.front 0 0]:kU)=A at *
 have hAl:A.length=10:=by rw [←hA]; rfl
 rw [hAl] at g60 gl1
 have hTN:TH (OQ A (XS N) ([]++xC b.term)):=avR hBG Au
 have hc:ins[k]?=some ins[k]:=List.getElem?_eq_getElem hki
 have hgd:ins.getD k (false,[])=ins[k]:=by simp [List.getD_eq_getElem?_getD,hc]
 have hck:=hs ins[k] (List.getElem_mem hki)
 have g62:=c62 hTN (S:=(VS A.length N).k8) (T:=(mK ins[k]).k8) (by
  have:=E0.k8 (A:=A) (B:=[]++xC b.term) (ws:=N) rfl
  rwa [show(VS A.length N).k8.k8=(VS A.length N).k8 from by cases N <;> rfl]) (by
  have:=Kt (h:=OQ A (XS N) ([]++xC b.term)) ins[k]
  rwa [show(mK ins[k]).k8.k8=(mK ins[k]).k8 from by rcases ins[k] with ⟨b,w⟩; cases b <;> rfl]) hw hck
 rw [hAl] at g62
 have gf2:=Kj (A:=A) (B:=[]++xC b.term) (ws:=N)
 rw [hAl] at gf2
 have hlen3:(OQ A (XS (vO b.term (vU [J]))) ([]++xC b.term)).length=HN A ([]++xC b.term):=zE
 have hb3:∀X B,nC (OQ A X B) 0=some p.cells:=fun X B=>by rw [←hA]; rfl
 have hi4:∀X B,nC (OQ A X B) 3=some (ins.map mK):=fun X B=>by rw [←hA]; rfl
 have hcell:(ins.map mK)[k]?=some (mK ins[k]):=by rw [List.getElem?_map,hc]; rfl
 rw [hgd]
 generalize hcA:mK ins[k]=ca at *
 have hput:∀(l:List kS) (v:kS),k < l.length→putCells l k [v]=l.set k v:=fun l v hl=>by
  unfold putCells
  rw [List.set_eq_take_append_cons_drop,if_pos hl]; simp
 have tS:mS 5 (OQ A (XS N) (xC b.term))=some (HB p (ins.map mK) ((outs.set k (true,J)).map mK)):=by
  have e1:=fun h=>JG (m:=5) (h:=h) (id:=7) (ws:=J) (by omega) outs k hko
  have e2:∀h,m_ 5 h (ins.map mK)=some (ins.map mK):=fun h=>qG (n:=5) ins 5 h (Nat.le_refl _)
  have e3:∀h,m_ 5 h p.cells=some p.cells:=fun h=>xV (n:=5) 5 h (Nat.le_refl _)
  rw [←hA]
  simp [OQ,mS,e1,e2,e3,HB]
 have tD:mS 5 (List.set (OQ A (ZX N) (xC b.term)) 3 (.cells ((ins.map mK).set k (FZ 10 N))))=some (HB p ((ins.set k (true,N)).map mK) ((outs.set k (true,J)).map mK)):=by
  have e1:=fun h=>JG (m:=5) (h:=h) (id:=7) (ws:=J) (by omega) outs k hko
  have e2:=fun h=>JG (m:=5) (h:=h) (id:=10) (ws:=N) (by omega) ins k hki
  have e3:∀h,m_ 5 h p.cells=some p.cells:=fun h=>xV (n:=5) 5 h (Nat.le_refl _)
  rw [←hA]
  simp [OQ,mS,e1,e2,e3,HB]
 have stD:lT 1 (OQ A (ZX N) (xC b.term)) (.ptr 3 k) (FZ 10 N)=some (List.set (OQ A (ZX N) (xC b.term)) 3 (.cells ((ins.map mK).set k (FZ 10 N)))):=by
  rw [lY,hi4,Option.bind_some,P0,if_pos ⟨rfl,by simp; omega,by simp [Yg]⟩]
  have:(ins.map mK).drop k=ca::(ins.map mK).drop (k+1):=by
   have hk':k < (ins.map mK).length:=by simpa using hki
   rw [List.drop_eq_getElem_cons hk']
   have:=List.getElem?_eq_getElem hk'
   rw [hcell] at this; cases this; rfl
  rw [this,Af,Cz,UG,hput _ _ (by simpa using hki)]
 have ldA:∀X B,kW false 1 (OQ A X B) (.ptr 0 2)=some (.slice (p.blocks.map lR.cells) .no):=fun X B=>by rw [lH,hb3]; rfl
 have ldI:∀X B,kW false 1 (OQ A X B) (.ptr 3 k)=some ca:=fun X B=>by rw [lH,hi4]; exact hcell
 have ixo:kX 1 (.mslice 4 0 p.blocks.length 1) (.int .i64 (k:Int))=some (.ptr 4 k):=by rw [sV,if_pos ⟨hkl,rfl⟩]; simp
 have ixi:kX 1 (.mslice 3 0 p.blocks.length 1) (.int .i64 (k:Int))=some (.ptr 3 k):=by rw [sV,if_pos ⟨hkl,rfl⟩]; simp
 have bx:kX 5 (.slice (p.blocks.map lR.cells) .no) (.int .i64 (k:Int))=some (.pptr [.slice (b.ops.map Op.cells) .no,.int .i64 b.term.kind,.int .i64 b.term.a,.int .i64 b.term.yes,.int .i64 b.term.no]):=by rw [k_,hb]; rfl
 have ld0:∀X,kW false 1 (.cells p.cells::X) (.ptr 0 2)=some (.slice (p.blocks.map lR.cells) .no):=fun X=>rfl
 have hob:=hp.len b hbm
 have w1:IntKind.i64.wrap ((b.ops.length:Int) - 1)=(b.ops.length:Int) - 1:=by rw [wrap64] <;> omega
 have w2:IntKind.i64.wrap ((k:Int) - 1)=(k:Int) - 1:=by rw [wrap64] <;> omega
 have q0:=fun h=>sP (m:=5) (h:=h) (by omega)
 have q1:=fun h=>sT1 (m:=5) (h:=h) (by omega)
 have q2:=fun h=>sT2 (m:=5) (h:=h) (by omega)
 have q3:=fun h=>sMI (m:=5) (h:=h) (n:=p.blocks.length) (by omega)
 have q4:=fun h=>sMO (m:=5) (h:=h) (n:=p.blocks.length) (by omega)
 have eA:([.cells p.cells,.front 0 0,.front 0 0,.cells (ins.map mK),.cells ((outs.map mK).set k (FZ 7 J)),FR L.length,.front 0 0,ZX J,.front 1 1,.front 0 0,XS (vU [J])]:kU)=OQ A (XS (vU [J])) []:=by rw [←hA]; rfl
 rw [←eA] at g60
 simp only [List.nil_append] at g60 gl1 g62 gf2
 have eF:FR ([]:List (List Wd)).length=.front 0 0:=rfl
 simp only [eF,List.map_nil,HB,OQ,List.cons_append,List.nil_append] at gl
 rw [show OQ (HB p (ins.map mK) (outs.map mK)++[FR L.length]++[.front 0 0]) (ZX J) []=[.cells p.cells,.front 0 0,.front 0 0,.cells (ins.map mK),.cells (outs.map mK),FR L.length,.front 0 0,ZX J] from rfl,
  show OQ (HB p (ins.map mK) (outs.map mK)++[FR L.length]++[.front 0 0]) (XS J) []=[.cells p.cells,.front 0 0,.front 0 0,.cells (ins.map mK),.cells (outs.map mK),FR L.length,.front 0 0,XS J] from rfl] at gf
 rw [show OQ (HB p (ins.map mK) (outs.map mK)++[FR L.length]++[.front 0 0]) (XS J) []=[.cells p.cells,.front 0 0,.front 0 0,.cells (ins.map mK),.cells (outs.map mK),FR L.length,.front 0 0,XS J] from rfl,
  show HB p (ins.map mK) (outs.map mK)++[FR L.length]=[.cells p.cells,.front 0 0,.front 0 0,.cells (ins.map mK),.cells (outs.map mK),FR L.length] from rfl] at g59
 have MD:lT 1 ([.cells p.cells,.front 0 0,.front 0 0,.cells (ins.map mK),.cells (outs.map mK),FR L.length,.front 0 0,ZX J]:kU) (.ptr 4 k) (FZ 7 J)=some [.cells p.cells,.front 0 0,.front 0 0,.cells (ins.map mK),.cells ((outs.map mK).set k (FZ 7 J)),FR L.length,.front 0 0,ZX J]:=by
  rw [lY]
  have hk':k < (outs.map mK).length:=by simpa using hko
  have hg4:nC ([.cells p.cells,.front 0 0,.front 0 0,.cells (ins.map mK),.cells (outs.map mK),FR L.length,.front 0 0,ZX J]:kU) 4=some (outs.map mK):=rfl
  rw [hg4,Option.bind_some,P0,if_pos ⟨rfl,by simp; omega,by simp [Yg]⟩,List.drop_eq_getElem_cons hk',Af,Cz,UG,hput _ _ hk']
  rfl
 have ldO:kW false 1 ([.cells p.cells,.front 0 0,.front 0 0,.cells (ins.map mK),.cells ((outs.map mK).set k (FZ 7 J)),FR L.length,.front 0 0,ZX J]:kU) (.ptr 4 k)=some (FZ 7 J):=by
  rw [lH]
  have hg4:nC ([.cells p.cells,.front 0 0,.front 0 0,.cells (ins.map mK),.cells ((outs.map mK).set k (FZ 7 J)),FR L.length,.front 0 0,ZX J]:kU) 4=some ((outs.map mK).set k (FZ 7 J)):=rfl
  rw [hg4,Option.bind_some]
  exact ai8 (by simpa using hko) _
 rw [show OQ ([.gone,.front 0 0,.front 0 0,.cells (ins.map mK),.cells ((outs.map mK).set k (FZ 7 J)),FR L.length,.front 0 0,ZX J,.front 1 1]++[.front 0 0]) (XS (vU [J])) [] =
   [.gone,.front 0 0,.front 0 0,.cells (ins.map mK),.cells ((outs.map mK).set k (FZ 7 J)),FR L.length,.front 0 0,ZX J,.front 1 1,.front 0 0,XS (vU [J])] from rfl] at g592
 simp only [List.map_cons,List.map_nil,List.length_cons,List.length_nil,Nat.zero_add,Nat.reduceAdd] at g592
 have row:=fun h=>amI 7 J h
 have hil:∀l:List Int,(ints l).length=l.length:=fun l=>by simp [ints]
 simp only [Nat.reduceAdd] at g59
 simp only [Term.cells] at g58 g60
 clear hb3 hi4 hput hlen3 hTN hBG hB0 hT2 zx hoc hTF hcell hgd hck hc hJl hJ2 hLl hA eA hld hnew hJ hout hs
 rw [show HB p (ins.map mK) (outs.map mK)=[.cells p.cells,.front 0 0,.front 0 0,.cells (ins.map mK),.cells (outs.map mK)] from rfl]
 by_cases hsame:oT N=oT (tH ins[k])
 ·rw [if_pos hsame,if_pos hsame]
  rw [decide_eq_true hsame] at g62
  generalize HB p (ins.map mK) ((outs.set k (true,J)).map mK)=Hend at *
  unfold Hs
  simp -implicitDefEqProofs [-lY,-lH,hil,ld0,bx,g58,gl,g59,gf,ixo,MD,ldO,row,g592,g60,ldA,w1,gl1,ixi,ldI,g62,lJ,tS,q0,q1,q2,q3,q4,w2]
 ·rw [if_neg hsame,if_neg hsame]
  rw [decide_eq_false hsame] at g62
  generalize HB p ((ins.set k (true,N)).map mK) ((outs.set k (true,J)).map mK)=Hend at *
  unfold Hs
  simp -implicitDefEqProofs [-lY,-lH,hil,ld0,bx,g58,gl,g59,gf,ixo,MD,ldO,row,g592,g60,ldA,w1,gl1,ixi,ldI,g62,gf2,stD,lJ,tD,q0,q1,q2,q3,q4,w2]
end
end Go.Proofs.YtkeoalhglkfbkaaDoor


namespace Go.Proofs.YtkeoalhglkfbkaaDoor
open Go Hk Go.Proofs.Wd
def Wk (ins:List Cl) (k:Nat):List Wd:=tH (ins.getD k (false,[]))
theorem amS {ins:List Cl}{k j:Nat}{w:List Wd}(hk:k < ins.length):Wk (ins.set k (true,w)) j=if k=j then w else Wk ins j:=by
 unfold Wk
 rw [List.getD_eq_getElem?_getD,List.getD_eq_getElem?_getD,List.getElem?_set]
 split
 ·rename_i h; subst h; simp [hk,tH]
 ·rfl
theorem adX (l:List Op) (x:Term) (ws:List Wd) (u:Nat):qC (Jl l (vO x ws)) u=true↔pA l x (fun t=>0≤t∧qC ws t.toNat=true) (u:Int):=by
 induction l with
 | nil=>exact Uz x ws u
 | cons o r ih =>
  have e:Jl (o::r) (vO x ws)=zI o (Jl r (vO x ws)):=rfl
  rw [e,Uy]
  show _↔adD o (pA r x _) (u:Int)
  unfold adD
  refine or_congr Iff.rfl (and_congr ?_ Iff.rfl)
  rw [←ih]
  simp only [Int.toNat_natCast]
  exact⟨fun h=>h.2,fun h=>⟨by omega,h⟩⟩
theorem adW (J:List Wd) (t:Nat):qC (vU [J]) t=qC J t:=by
 unfold vU; rw [Iy]; simp [qC]
theorem RL (ins:List Cl) (b:lR) (t:Nat):qC (Df ins b) t=true↔∃j∈rH b.term,qC (Wk ins j.toNat) t=true:=by
 unfold Df vU
 rw [Iy]
 have:qC [] t=false:=by simp [qC]
 rw [this,Bool.false_or,List.any_eq_true]
 constructor
 ·rintro⟨s,hs,ht⟩
  obtain⟨j,hj,rfl⟩:=List.mem_map.1 hs
  exact⟨j,hj,ht⟩
 ·rintro⟨j,hj,ht⟩
  exact⟨_,List.mem_map.2 ⟨j,hj,rfl⟩,ht⟩
def SB (ins:List Cl) (x:Term):Int→Prop:=fun t=>∃j∈rH x,0≤t∧qC (Wk ins j.toNat) t.toNat=true
theorem RD {l:List Op}{x:Term}{S T:Int→Prop}{t:Int}(h:S t↔T t):pA l x S t↔pA l x T t:=by
 rw [rZ,rZ,h]
theorem DY (ins:List Cl) (b:lR) (u:Nat):qC (Ah ins b) u=true↔Ch b (SB ins b.term) (u:Int):=by
 unfold Ah anK Ch
 rw [adX]
 refine RD ?_
 simp only [Int.toNat_natCast,adW,RL,SB]
 constructor
 ·rintro⟨h0,j,hj,ht⟩; exact⟨j,hj,h0,ht⟩
 ·rintro⟨j,hj,h0,ht⟩; exact⟨h0,j,hj,ht⟩
theorem QD {l:List Op}{x:Term}{t:Int}(h:s7 l x t=1):(∃o∈l,t∈mU o)∨(x.kind=2∧x.a=t):=by
 induction l with
 | nil =>
  simp only [s7] at h
  split at h
  ·rename_i h1; exact .inr h1
  ·cases h
 | cons o r ih =>
  simp only [s7] at h
  split at h
  ·rename_i h1; exact .inl ⟨o,by simp,h1⟩
  ·split at h
   ·cases h
   ·rcases ih h with ⟨o',h1,h2⟩ | h1
    ·exact .inl ⟨o',by simp [h1],h2⟩
    ·exact .inr h1
section
variable {p:IR}(hp:yT p)
include hp
theorem KE {b:lR}(hb:b∈p.blocks) {t:Int}(h:s7 b.ops b.term t=1):0≤t∧t < p.temps:=by
 rcases QD h with ⟨o,ho,ht⟩ | ⟨h1,h2⟩
 ·exact hp.use b hb o ho t ht
 ·have:=hp.term b hb h1; omega
theorem Bb {t:Int}{k:Nat}(h:Reach p.blocks t k):0≤t∧t < p.temps:=by
 induction h with
 | here hb hf=>exact KE hp (List.mem_of_getElem? hb) hf
 | step hb hf hj hr ih=>exact ih
structure SI (p:IR) (ins:List Cl):Prop where
 len:ins.length=p.blocks.length
 sz:∀c∈ins,(tH c).length≤20000
 sound:∀(k t:Nat),qC (Wk ins k) t=true→Reach p.blocks (t:Int) k
 pre:∀(k:Nat) (b:lR),p.blocks[k]?=some b→∀t:Nat,qC (Wk ins k) t=true→Ch b (SB ins b.term) (t:Int)
omit hp in
theorem aj4 {ins:List Cl}(hs:∀c∈ins,(tH c).length≤20000) (k:Nat):(Wk ins k).length≤20000:=by
 unfold Wk
 rw [List.getD_eq_getElem?_getD]
 cases hq:ins[k]? with
 | none=>simp [tH]
 | some c=>exact hs c (List.mem_of_getElem? hq)
theorem abF {ins:List Cl}(hs:∀c∈ins,(tH c).length≤20000) {b:lR}(hb:b∈p.blocks):(Ah ins b).length≤20000:=by
 have hJ:(Df ins b).length≤20000:=B2 20000 _ [] (by simp) fun s hs'=>by
  obtain⟨j,_,rfl⟩:=List.mem_map.1 hs'
  exact aj4 hs j.toNat
 have hJ2:(vU [Df ins b]).length≤20000:=B2 20000 _ [] (by simp) fun s hs'=>by simp at hs'; subst hs'; exact hJ
 have hR:(vO b.term (vU [Df ins b])).length≤20000:=Xt (fun h=>by have:=hp.term b hb h; have:=hp.temps; omega) hJ2
 have key:∀(l:List Op),(∀o∈l,o∈b.ops)→(Jl l (vO b.term (vU [Df ins b]))).length≤20000:=by
  intro l
  induction l with
  | nil=>exact fun _=>hR
  | cons o r ih =>
   intro hl
   exact VQ (fun t ht=>by have:=hp.use b hb o (hl o (by simp)) t ht; have:=hp.temps; omega) (ih fun x hx=>hl x (by simp [hx]))
 exact key b.ops fun o h=>h
end
def zX (ins:List Cl):Nat:=(ins.map fun c=>(oT (tH c)).length).sum
theorem Ny:∀(ins:List Cl) (k:Nat) (c:Cl),k < ins.length→zX (ins.set k c)+(oT (Wk ins k)).length=zX ins+(oT (tH c)).length
 | [],k,c,h=>by simp at h
 | x::r,0,c,_=>by
  simp only [zX,List.set_cons_zero,List.map_cons,List.sum_cons]
  have:Wk (x::r) 0=tH x:=rfl
  rw [this]; omega
 | x::r,k+1,c,h=>by
  have ih:=Ny r k c (by simpa using h)
  simp only [zX,List.set_cons_succ,List.map_cons,List.sum_cons] at ih ⊢
  have:Wk (x::r) (k+1)=Wk r k:=rfl
  rw [this]; omega
theorem Wl {ws:List Wd}(h:ws.length≤20000):(oT ws).length≤1280000:=by
 unfold oT
 exact Nat.le_trans (List.length_filter_le _ _) (by simp; omega)
theorem Rp:∀(ins:List Cl),(∀c∈ins,(tH c).length≤20000)→zX ins≤ins.length * 1280000
 | [],_=>by simp [zX]
 | x::r,h=>by
  have ih:=Rp r fun c hc=>h c (by simp [hc])
  have:=Wl (h x (by simp))
  simp only [zX,List.map_cons,List.sum_cons,List.length_cons] at ih ⊢
  omega
theorem S7 {a b:List Wd}(h:∀t,qC a t=true→qC b t=true) (hne:oT a≠oT b):(oT a).length < (oT b).length:=by
 have ha:oT a=(List.range (64 * max a.length b.length)).filter (qC a):=Dw fun t ht=>by have:=EO ht; omega
 have hb:oT b=(List.range (64 * max a.length b.length)).filter (qC b):=Dw fun t ht=>by have:=EO ht; omega
 have hsub:(oT a).Sublist (oT b):=by
  have e:oT a=(oT b).filter (qC a):=by
   rw [ha,hb,List.filter_filter]
   apply List.filter_congr
   intro t _
   cases hx:qC a t
   ·simp
   ·simp [h t hx]
  rw [e]; exact List.filter_sublist
 rcases Nat.lt_or_ge (oT a).length (oT b).length with h1 | h1
 ·exact h1
 ·exact absurd (hsub.eq_of_length (Nat.le_antisymm hsub.length_le h1)) hne
section
variable {p:IR}(hp:yT p) (hl:∀b∈p.blocks,rH b.term=pW b.term)
include hp hl
theorem SI.start:SI p (List.replicate p.blocks.length (false,[])):=by
 have hW:∀k,Wk (List.replicate p.blocks.length (false,[])) k=[]:=fun k=>by
  unfold Wk
  rw [List.getD_eq_getElem?_getD,List.getElem?_replicate]
  split <;> rfl
 refine⟨by simp,fun c hc=>by rw [(List.mem_replicate.1 hc).2]; simp [tH],fun k t h=>?_,fun k b _ t h=>?_⟩ <;>
  (rw [hW] at h; simp [qC] at h)
theorem SI.Xk {ins:List Cl}(h:SI p ins) {k:Nat}{b:lR}(hb:p.blocks[k]?=some b) {t:Nat}(ht:qC (Ah ins b) t=true):Reach p.blocks (t:Int) k:=by
 refine Ta (W:=fun j u=>0≤u∧qC (Wk ins j) u.toNat=true) (fun j u hu=>?_) hb ?_
 ·have:=h.sound j u.toNat hu.2
  rwa [Int.toNat_of_nonneg hu.1] at this
 ·rw [DY] at ht
  unfold SB at ht
  rw [hl b (List.mem_of_getElem? hb)] at ht
  exact ht
theorem SI.step {ins:List Cl}(h:SI p ins) {k:Nat}{b:lR}(hb:p.blocks[k]?=some b):SI p (ins.set k (true,Ah ins b)):=by
 have hk:k < ins.length:=by rw [h.len]; exact(List.getElem?_eq_some_iff.1 hb).1
 have hW:=fun j=>amS (ins:=ins) (j:=j) (w:=Ah ins b) hk
 have mono:∀(j t:Nat),qC (Wk ins j) t=true→qC (Wk (ins.set k (true,Ah ins b)) j) t=true:=fun j t ht=>by
  rw [hW]
  split
  ·rename_i e; subst e
   rw [DY]; exact h.pre k b hb t ht
  ·exact ht
 have smono:∀(x:Term) (t:Int),SB ins x t→SB (ins.set k (true,Ah ins b)) x t:=fun x t ⟨j,hj,h0,ht⟩=>⟨j,hj,h0,mono _ _ ht⟩
 refine⟨by simp [h.len],fun c hc=>?_,fun j t ht=>?_,fun j c hc t ht=>?_⟩
 ·rcases List.mem_or_eq_of_mem_set hc with h1 | h1
  ·exact h.sz c h1
  ·subst h1; exact abF hp h.sz (List.mem_of_getElem? hb)
 ·rw [hW] at ht
  split at ht
  ·rename_i e; subst e; exact h.Xk hp hl hb ht
  ·exact h.sound j t ht
 ·rw [hW] at ht
  split at ht
  ·rename_i e; subst e
   rw [hb] at hc; cases hc
   rw [DY] at ht
   exact uC (smono _) ht
  ·exact uC (smono _) (h.pre j c hc t ht)
def Fin (p:IR) (ins outs:List Cl):Prop:=∀(k:Nat) (b:lR),p.blocks[k]?=some b→outs.getD k (false,[])=(true,Df ins b)∧oT (Ah ins b)=oT (Wk ins k)
theorem SI.complete {ins outs:List Cl}(h:SI p ins) (hf:Fin p ins outs) (k t:Nat):qC (Wk ins k) t=true↔Reach p.blocks (t:Int) k:=by
 refine⟨h.sound k t,fun hr=>?_⟩
 have:=E5 (W:=fun j u=>0≤u∧qC (Wk ins j) u.toNat=true) (bs:=p.blocks) (fun j b hb u hu=>?_) hr
 ·simpa using this.2
 ·have hr0:0≤u:=by
   unfold Ch at hu
   rw [rZ] at hu
   rcases hu with h1 | ⟨_,j',_,h2⟩
   ·exact(KE hp (List.mem_of_getElem? hb) h1).1
   ·exact h2.1
  obtain⟨n,rfl⟩:=Int.eq_ofNat_of_zero_le hr0
  refine⟨hr0,?_⟩
  have h2:=(Wj.1 (hf j b hb).2) n
  simp only [Int.toNat_natCast]
  rw [←h2,DY]
  unfold SB
  rw [hl b (List.mem_of_getElem? hb)]
  exact hu
end
end Go.Proofs.YtkeoalhglkfbkaaDoor


namespace Go.Proofs.YtkeoalhglkfbkaaDoor
open Go Hk Go.Proofs.Wd
section
variable {p:IR}(hp:yT p) (hl:∀b∈p.blocks,rH b.term=pW b.term)
include hp hl
def lvS (p:IR) (bb:Bool):List kS:=[.ptr 0 0,T1,T2,.int .i64 0,.mslice 3 0 p.blocks.length 1,.mslice 4 0 p.blocks.length 1,.bool bb]
theorem WD:∀(c:Nat) (ins outs:List Cl) (bb:Bool),c≤p.blocks.length→SI p ins→outs.length=p.blocks.length →
  ∃(ins' outs':List Cl) (bb':Bool),mQ (Hs KK 5) (lvS p bb++[.int .i64 ((c:Int) - 1)],HB p (ins.map mK) (outs.map mK))=some (.exit 2,lvS p bb'++[.int .i64 (-1)],HB p (ins'.map mK) (outs'.map mK)) ∧
   SI p ins'∧outs'.length=p.blocks.length∧(bb=true→bb'=true)∧zX ins≤zX ins'∧(bb=false→bb'=true→zX ins < zX ins') ∧
   (bb'=false→ins'=ins∧(∀(k:Nat),c≤k→outs'.getD k (false,[])=outs.getD k (false,[])) ∧
    ∀(k:Nat) (b:lR),k < c→p.blocks[k]?=some b→outs'.getD k (false,[])=(true,Df ins b)∧oT (Ah ins b)=oT (Wk ins k)):=by
 have q0:=fun h=>sP (m:=5) (h:=h) (by omega)
 have q1:=fun h=>sT1 (m:=5) (h:=h) (by omega)
 have q2:=fun h=>sT2 (m:=5) (h:=h) (by omega)
 have q3:=fun h=>sMI (m:=5) (h:=h) (n:=p.blocks.length) (by omega)
 have q4:=fun h=>sMO (m:=5) (h:=h) (n:=p.blocks.length) (by omega)
 intro c
 induction c with
 | zero =>
  intro ins outs bb _ hI ho
  have htr:mS 5 (HB p (ins.map mK) (outs.map mK))=some (HB p (ins.map mK) (outs.map mK)):=oI (Fb (qG _) (qG _))
  refine⟨ins,outs,bb,nH ?_,hI,ho,id,Nat.le_refl _,(fun h1 h2=>absurd (h1.symm.trans h2) (by decide)),fun _=>⟨rfl,fun _ _=>rfl,fun k b hk=>by omega⟩⟩
  unfold Hs
  simp only [lvS]
  simp -implicitDefEqProofs [lJ,htr,q0,q1,q2,q3,q4]
 | succ c ih =>
  intro ins outs bb hc hI ho
  have hcl:c < p.blocks.length:=by omega
  have hb:p.blocks[c]?=some p.blocks[c]:=List.getElem?_eq_getElem hcl
  have hbm:=List.getElem_mem hcl
  generalize p.blocks[c]=b at *
  have hci:c < ins.length:=by rw [hI.len]; exact hcl
  have hw:=abF hp hI.sz hbm
  have g:=WH hp hI.len ho hI.sz (bb:=bb) hb hw
  have w0:((c+1:Nat):Int) - 1=(c:Int):=by omega
  have hWk:tH (ins.getD c (false,[]))=Wk ins c:=rfl
  rw [hWk] at g
  rw [w0]
  by_cases hsame:oT (Ah ins b)=oT (Wk ins c)
  ·rw [if_pos hsame,if_pos hsame] at g
   obtain⟨ins',outs',bb',g1,g2,g3,g4,g5,g6,g7⟩:=ih ins (outs.set c (true,Df ins b)) bb (by omega) hI (by simp [ho])
   refine⟨ins',outs',bb',?_,g2,g3,g4,g5,g6,fun hb'=>?_⟩
   ·rw [←g1]; exact oU g
   ·obtain⟨k1,k2,k3⟩:=g7 hb'
    have hset:∀k,(outs.set c (true,Df ins b)).getD k (false,[])=if c=k then(true,Df ins b) else outs.getD k (false,[]):=fun k=>by
     rw [List.getD_eq_getElem?_getD,List.getD_eq_getElem?_getD,List.getElem?_set]
     split
     ·rename_i e; subst e; simp [show c < outs.length by omega]
     ·rfl
    refine⟨k1,fun k hk=>?_,fun k b' hk hb2=>?_⟩
    ·rw [k2 k (by omega),hset,if_neg (by omega)]
    ·by_cases hkc:k=c
     ·subst hkc
      rw [hb] at hb2; cases hb2
      rw [k2 k (Nat.le_refl _),hset,if_pos rfl]
      exact⟨rfl,hsame⟩
     ·exact k3 k b' (by omega) hb2
  ·rw [if_neg hsame,if_neg hsame] at g
   have hI2:=SI.step hp hl hI hb
   obtain⟨ins',outs',bb',g1,g2,g3,g4,g5,g6,g7⟩:=ih (ins.set c (true,Ah ins b)) (outs.set c (true,Df ins b)) true (by omega) hI2 (by simp [ho])
   have hgrow:zX ins < zX (ins.set c (true,Ah ins b)):=by
    have h1:=Ny ins c (true,Ah ins b) hci
    have h2:=S7 (a:=Wk ins c) (b:=Ah ins b) (fun t ht=>by rw [DY]; exact hI.pre c b hb t ht) (fun e=>hsame e.symm)
    have h3:tH (true,Ah ins b)=Ah ins b:=rfl
    rw [h3] at h1; omega
   have hb':=g4 rfl
   refine⟨ins',outs',bb',?_,g2,g3,fun _=>hb',by omega,fun _ _=>by omega,fun h=>by rw [hb'] at h; cases h⟩
   rw [←g1]; exact oU g
theorem WE (M:Nat) (hM:∀ins,SI p ins→zX ins≤M):∀(n:Nat) (ins outs:List Cl) (bb:Bool),2 * (M - zX ins)+(bif bb then 1 else 0) < n→SI p ins→outs.length=p.blocks.length→(bb=false→Fin p ins outs) →
  ∃(ins' outs':List Cl),mQ (OO KK 5) (lvS p bb,HB p (ins.map mK) (outs.map mK))=some (.exit 0,lvS p false,HB p (ins'.map mK) (outs'.map mK))∧SI p ins'∧outs'.length=p.blocks.length∧Fin p ins' outs':=by
 have q0:=fun h=>sP (m:=5) (h:=h) (by omega)
 have q1:=fun h=>sT1 (m:=5) (h:=h) (by omega)
 have q2:=fun h=>sT2 (m:=5) (h:=h) (by omega)
 have q3:=fun h=>sMI (m:=5) (h:=h) (n:=p.blocks.length) (by omega)
 have q4:=fun h=>sMO (m:=5) (h:=h) (n:=p.blocks.length) (by omega)
 have hnb:=hp.nb
 intro n
 induction n with
 | zero=>intro ins outs bb h; omega
 | succ n ih =>
  intro ins outs bb hn hI ho hf
  have htr:∀i o:List Cl,mS 5 (HB p (i.map mK) (o.map mK))=some (HB p (i.map mK) (o.map mK)):=fun i o=>oI (Fb (qG _) (qG _))
  have h5:∀i o:List Cl,(HB p (i.map mK) (o.map mK)).length=5:=fun _ _=>rfl
  cases bb with
  | false =>
   refine⟨ins,outs,nH ?_,hI,ho,hf rfl⟩
   unfold OO
   simp only [lvS]
   simp -implicitDefEqProofs [lJ,htr,q0,q1,q2,q3,q4]
  | true =>
   obtain⟨ins',outs',bb',g1,g2,g3,g4,g5,g6,g7⟩:=WD hp hl p.blocks.length ins outs false (Nat.le_refl _) hI ho
   have hle:=hM ins' g2
   obtain⟨ins2,outs2,k1,k2,k3,k4⟩:=ih ins' outs' bb' (by
    cases bb' with
    | false=>simp only [cond_true,cond_false] at hn ⊢; omega
    | true=>have:=g6 rfl rfl; simp only [cond_true] at hn ⊢; omega) g2 g3 (fun hb=>by
     obtain⟨e1,_,e3⟩:=g7 hb
     intro k b hb'
     rw [e1]
     exact e3 k b (List.getElem?_eq_some_iff.1 hb').1 hb')
   refine⟨ins2,outs2,?_,k2,k3,k4⟩
   rw [←k1]
   refine oU ?_
   have ldA:∀i o:List Cl,kW false 1 (HB p (i.map mK) (o.map mK)) (.ptr 0 2)=some (.slice (p.blocks.map lR.cells) .no):=fun i o=>rfl
   have w1:IntKind.i64.wrap ((p.blocks.length:Int) - 1)=(p.blocks.length:Int) - 1:=by rw [wrap64] <;> omega
   simp only [lvS,List.cons_append,List.nil_append] at g1 ⊢
   unfold OO
   simp -implicitDefEqProofs [-lH,ldA,h5,w1,g1,lJ,htr,q0,q1,q2,q3,q4]
end
end Go.Proofs.YtkeoalhglkfbkaaDoor


namespace Go.Proofs.YtkeoalhglkfbkaaDoor
open Go Hk Go.Proofs.Wd
theorem n_ {p:IR}(h:mN p=0):aeQ p∧Ys p∧p.blocks≠[]∧A3 p.inn p.out 0 p.arrays=true∧∀b∈p.blocks,(∀o∈b.ops,JB p o=true)∧wN (p:=p) b.term=true:=by
 unfold mN at h
 cases hl:pC p
 ·rw [hl,if_pos rfl] at h; exact absurd h (by decide)
 ·rw [hl,if_neg (by decide)] at h
  have l:=tV.1 hl
  split at h
  ·rename_i hc
   obtain⟨c1,c2,c3,c4,c5,c6⟩:=hc
   simp only [mO,Bool.and_eq_true,decide_eq_true_eq] at c1 c2
   split at h
   ·rename_i h2
    simp only [Bool.and_eq_true,List.all_eq_true] at h2
    refine⟨l,⟨c5,l.t1,l.a1,l.b1,c1.1,c1.2,c2.1,c2.2⟩,c6,h2.1,fun b hb=>?_⟩
    have:=h2.2 b hb
    simp only [Jh,Bool.and_eq_true,List.all_eq_true] at this
    exact this
   ·exact absurd h (by decide)
  ·exact absurd h (by decide)
theorem qJ {p:IR}(h:mN p=0):yT p∧∀b∈p.blocks,rH b.term=pW b.term:=by
 obtain⟨l,lp,hne,_,hb⟩:=n_ h
 have ht0:=lp.t0
 have ht1:=lp.t1
 have hu:∀b∈p.blocks,∀o∈b.ops,(∀t∈mU o,0≤t∧t < p.temps)∧o.dst≤2000000∧((mM o.kind).dst=true→0≤o.dst∧o.dst < p.temps):=by
  intro b hbm o ho
  have h1:=(hb b hbm).1 o ho
  unfold JB at h1
  simp only [Bool.and_eq_true,List.all_eq_true,decide_eq_true_eq,Bool.or_eq_true,Bool.not_eq_true',mO] at h1
  obtain⟨_,_,h2,⟨h3,_⟩,h4,_⟩:=h1
  refine⟨fun t ht=>by have:=h2 t ht; omega,?_,fun hd=>?_⟩
  ·rcases h4 with h4 | h4
   ·rw [h4] at h3; simp at h3; omega
   ·omega
  ·rcases h4 with h4 | h4
   ·rw [hd] at h4; cases h4
   ·omega
 have hlead:∀b∈p.blocks,∀j∈rH b.term,0≤j∧j.toNat < p.blocks.length:=by
  intro b hbm j hj
  have h1:=(hb b hbm).2
  unfold wN at h1
  unfold rH at hj
  by_cases k1:b.term.kind=1
  ·rw [if_pos k1] at h1 hj
   simp only [Bool.and_eq_true,decide_eq_true_eq,mO] at h1
   have:=List.mem_filter.1 hj
   simp at this
   omega
  ·rw [if_neg k1] at h1 hj
   by_cases k2:b.term.kind=2
   ·rw [if_pos k2] at h1 hj
    simp only [Bool.and_eq_true,decide_eq_true_eq,mO] at h1
    have:=List.mem_filter.1 hj
    simp at this
    omega
   ·rw [if_neg k2] at hj; simp at hj
 refine⟨⟨fun b hb o ho=>(hu b hb o ho).1,fun b hb o ho=>(hu b hb o ho).2.1,fun b hb o ho=>(hu b hb o ho).2.2,fun b hbm k2=>?_,hlead,ht1,by have:=lp.b1; omega,fun b hb=>by have:=GL hb; have:=l.o1; omega⟩,fun b hbm=>ZG (hb b hbm).2⟩
 have h1:=(hb b hbm).2
 unfold wN at h1
 rw [if_neg (by omega),if_pos k2] at h1
 simp only [Bool.and_eq_true,decide_eq_true_eq,mO] at h1
 omega
def slW (ws:List Wd):kS:=.slice (ints (zs (oT ws))) .no
def uX (l:List Cl) (i:Nat):List (List kS):=(List.range i).map fun k=>[slW (Wk l k)]
theorem Ii {l:List Cl}{i:Nat}:(uX l i).length=i:=by simp [uX]
theorem LD {l:List Cl}{i:Nat}:uX l (i+1)=uX l i++[[slW (Wk l i)]]:=by simp [uX,List.range_succ]
section
variable {p:IR}(hp:yT p) {ins outs:List Cl}(hi:ins.length=p.blocks.length) (ho:outs.length=p.blocks.length) (hsi:∀c∈ins,(tH c).length≤20000) (hso:∀c∈outs,(tH c).length≤20000)
include hp hi ho hsi hso
theorem WG:∀(d i:Nat),p.blocks.length=i+d →
  mQ (OP KK 7) ([T1,T2,.int .i64 0,.mslice 3 0 p.blocks.length 1,.mslice 4 0 p.blocks.length 1,.slice (uX ins i) (.own 5),.slice (uX outs i) (.own 6),.int .i64 (p.blocks.length:Int),.int .i64 (i:Int)],HB p (ins.map mK) (outs.map mK)++[FR i,FR i]) =
   some (.exit 8,[T1,T2,.int .i64 0,.mslice 3 0 p.blocks.length 1,.mslice 4 0 p.blocks.length 1,.slice (uX ins p.blocks.length) (.own 5),.slice (uX outs p.blocks.length) (.own 6),.int .i64 (p.blocks.length:Int),.int .i64 (p.blocks.length:Int)],
    HB p (ins.map mK) (outs.map mK)++[FR p.blocks.length,FR p.blocks.length]):=by
 have q1:=fun h=>sT1 (m:=7) (h:=h) (by omega)
 have q2:=fun h=>sT2 (m:=7) (h:=h) (by omega)
 have q3:=fun h=>sMI (m:=7) (h:=h) (n:=p.blocks.length) (by omega)
 have q4:=fun h=>sMO (m:=7) (h:=h) (n:=p.blocks.length) (by omega)
 have q5:∀h rows,kS.oL 7 h (.slice rows (.own 5))=.slice rows (.own 5):=fun h rows=>by simp
 have q6:∀h rows,kS.oL 7 h (.slice rows (.own 6))=.slice rows (.own 6):=fun h rows=>by simp
 have hnb:=hp.nb
 have hT:∀n k:Nat,TH (HB p (ins.map mK) (outs.map mK)++[FR n,FR k]):=fun n k=>by
  have e:HB p (ins.map mK) (outs.map mK)++[FR n,FR k]=HB p (ins.map mK) (outs.map mK)++([FR n]++[FR k]):=rfl
  unfold TH; rw [e]
  exact pS (Fb (qG _) (qG _)) (pS xL xL)
 have htr:∀n k C,mS 7 (.cells p.cells::.front 0 0::.front 0 0::.cells (ins.map mK)::.cells (outs.map mK)::FR n::FR k::C)=some [.cells p.cells,.front 0 0,.front 0 0,.cells (ins.map mK),.cells (outs.map mK),FR n,FR k]:=fun n k C=>pM (C:=C) (hT n k)
 intro d
 induction d with
 | zero =>
  intro i hd
  obtain rfl:p.blocks.length=i:=by omega
  refine nH ?_
  simp only [HB,List.cons_append,List.nil_append]
  unfold OP
  simp -implicitDefEqProofs [lJ,htr,q1,q2,q3,q4,q5,q6]
 | succ d ih =>
  intro i hd
  have hil:i < p.blocks.length:=by omega
  have hil':(i:Int) < (p.blocks.length:Int):=by omega
  rw [←ih (i+1) (by omega)]
  refine oU ?_
  have hci:ins[i]?=some ins[i]:=List.getElem?_eq_getElem (by omega)
  have hco:outs[i]?=some outs[i]:=List.getElem?_eq_getElem (by omega)
  have hWi:tH ins[i]=Wk ins i:=by unfold Wk; rw [List.getD_eq_getElem?_getD,hci]; rfl
  have hWo:tH outs[i]=Wk outs i:=by unfold Wk; rw [List.getD_eq_getElem?_getD,hco]; rfl
  have ixi:kX 1 (.mslice 3 0 p.blocks.length 1) (.int .i64 (i:Int))=some (.ptr 3 i):=by rw [sV,if_pos ⟨hil,rfl⟩]; simp
  have ixo:kX 1 (.mslice 4 0 p.blocks.length 1) (.int .i64 (i:Int))=some (.ptr 4 i):=by rw [sV,if_pos ⟨hil,rfl⟩]; simp
  have ldi:∀X Y Z W C,kW false 1 (X::Y::Z::.cells (ins.map mK)::W::C) (.ptr 3 i)=some (mK ins[i]):=fun X Y Z W C=>by
   rw [lH]
   have:nC (X::Y::Z::.cells (ins.map mK)::W::C) 3=some (ins.map mK):=rfl
   rw [this,Option.bind_some,List.getElem?_map,hci]; rfl
  have ldo:∀X Y Z W C,kW false 1 (X::Y::Z::W::.cells (outs.map mK)::C) (.ptr 4 i)=some (mK outs[i]):=fun X Y Z W C=>by
   rw [lH]
   have:nC (X::Y::Z::W::.cells (outs.map mK)::C) 4=some (outs.map mK):=rfl
   rw [this,Option.bind_some,List.getElem?_map,hco]; rfl
  have hTh:TH ([.cells p.cells,.front 0 0,.front 0 0,.cells (ins.map mK),.gone,FR i,FR i]:kU):=by
   have e:([.cells p.cells,.front 0 0,.front 0 0,.cells (ins.map mK),.gone,FR i,FR i]:kU)=[.cells p.cells,.front 0 0,.front 0 0,.cells (ins.map mK),.gone]++([FR i]++[FR i]):=rfl
   unfold TH; rw [e]
   exact pS (nY xV (nP (nP (nY (qG _) (Cm.2 oW))))) (pS xL xL)
  have g1:=c63 hTh (Kt ins[i]) (hsi _ (List.getElem_mem _))
  rw [hWi] at g1
  have hT2:TH ([.cells p.cells,.front 0 0,.front 0 0,.cells (ins.map mK),.cells (outs.map mK),FR (i+1),FR i,.front 1 1]:kU):=by
   have e:([.cells p.cells,.front 0 0,.front 0 0,.cells (ins.map mK),.cells (outs.map mK),FR (i+1),FR i,.front 1 1]:kU)=HB p (ins.map mK) (outs.map mK)++([FR (i+1)]++([FR i]++[.front 1 1])):=rfl
   unfold TH; rw [e]
   exact pS (Fb (qG _) (qG _)) (pS xL (pS xL (nP oW)))
  have g2:=c63 hT2 (Kt outs[i]) (hso _ (List.getElem_mem _))
  rw [hWo] at g2
  have w1:IntKind.i64.wrap ((i:Int)+1)=((i+1:Nat):Int):=by rw [wrap64 (by omega) (by omega),Int.natCast_add]; rfl
  have row:∀(z:List Int) (h:kU),lU 1 1 [.slice [] .nil] [(0,.slice (ints z) .no)] h=some (.slice [[.slice (ints z) .no]] (.own h.length),h++[.front 1 1]):=fun z h=>rfl
  have a1:=fun t=>JQ (h:=[.cells p.cells,.front 0 0,.front 0 0,.cells (ins.map mK),.gone]) (C:=[FR i,.front 1 1]) (rows:=uX ins i) (v:=.slice (ints (zs (oT (Wk ins i)))) .no) (by_:=24) (by omega) (by rw [Ii]; omega) (t:=t)
  have a2:=fun t=>JQ (h:=[.cells p.cells,.front 0 0,.front 0 0,.cells (ins.map mK),.cells (outs.map mK),FR (i+1)]) (C:=[.front 1 1,.front 1 1]) (rows:=uX outs i) (v:=.slice (ints (zs (oT (Wk outs i)))) .no) (by_:=24) (by omega) (by rw [Ii]; omega) (t:=t)
  have r1:uX ins i++[[.slice (ints (zs (oT (Wk ins i)))) .no]]=uX ins (i+1):=LD.symm
  have r2:uX outs i++[[.slice (ints (zs (oT (Wk outs i)))) .no]]=uX outs (i+1):=LD.symm
  simp only [Ii,r1,r2,List.length_cons,List.length_nil,Nat.zero_add,Nat.reduceAdd,List.cons_append,List.nil_append] at a1 a2
  simp only [HB,List.cons_append,List.nil_append]
  generalize ((i+1:Nat):Int)=i1 at *
  generalize uX ins (i+1)=R1 at *
  generalize uX outs (i+1)=R2 at *
  generalize uX ins i=R3 at *
  generalize uX outs i=R4 at *
  generalize zs (oT (Wk ins i))=z1 at *
  generalize zs (oT (Wk outs i))=z2 at *
  generalize mK ins[i]=c1 at *
  generalize mK outs[i]=c2 at *
  unfold OP
  simp -implicitDefEqProofs [-lH,hil',ixi,ixo,ldi,ldo,g1,g2,row,a1,a2,w1,lJ,htr,q1,q2,q3,q4,q5,q6]
end
open Classical in
noncomputable def rI (p:IR) (k:Nat):List Int:=zs ((List.range p.temps.toNat).filter fun t=>decide (Reach p.blocks (t:Int) k))
open Classical in
noncomputable def pT (p:IR) (k:Nat):List Int:=zs ((List.range p.temps.toNat).filter fun t=>decide (∃b,p.blocks[k]?=some b∧pO p.blocks (t:Int) b.term))
noncomputable def qW (p:IR):List (List Int):=if mN p=0 then(List.range p.blocks.length).map (rI p) else []
noncomputable def rN (p:IR):List (List Int):=if mN p=0 then(List.range p.blocks.length).map (pT p) else []
def nD (l:List (List Int)):kS:=.slice (l.map fun z=>[.slice (ints z) .no]) .no
theorem IU {ws:List Wd}{n:Nat}{P:Nat→Prop} [DecidablePred P] (h:∀t,qC ws t=true↔P t) (hn:∀t,P t→t < n):oT ws=(List.range n).filter fun t=>decide (P t):=by
 rw [Dw fun t ht=>hn t ((h t).1 ht)]
 apply List.filter_congr
 intro t _
 cases hx:qC ws t
 ·have:¬P t:=fun hp=>by rw [(h t).2 hp] at hx; cases hx
  simp [this]
 ·simp [(h t).1 hx]
theorem c27 (p:IR) (h:kU):KK 27 [.agg p.cells] h=some (.ret (.tuple [nD (qW p),nD (rN p),.int .i64 (mN p)]),h):=by
 classical
 refine mD rfl rfl (mR (apY _ _ _) ?_)
 have g30:=c30 p
 by_cases h0:mN p=0
 ·obtain⟨hp,hl⟩:=qJ h0
  obtain⟨_,lp,_⟩:=n_ h0
  have hM:∀ins,SI p ins→zX ins≤p.blocks.length * 1280000:=fun ins hI=>by have:=Rp ins hI.sz; rwa [hI.len] at this
  obtain⟨ins,outs,g1,g2,g3,g4⟩:=WE hp hl _ hM _ (List.replicate p.blocks.length (false,[])) (List.replicate p.blocks.length (false,[])) true (Nat.lt_succ_self _) (SI.start hp hl) (by simp) (fun h=>by cases h)
  have hso:∀c∈outs,(tH c).length≤20000:=fun c hc=>by
   obtain⟨k,hk⟩:=List.getElem?_of_mem hc
   have hkl:k < p.blocks.length:=by rw [←g3]; exact(List.getElem?_eq_some_iff.1 hk).1
   have:=(g4 k _ (List.getElem?_eq_getElem hkl)).1
   rw [List.getD_eq_getElem?_getD,hk] at this
   simp at this
   rw [this]
   exact B2 20000 _ [] (by simp) fun s hs'=>by
    obtain⟨j,_,rfl⟩:=List.mem_map.1 hs'
    exact aj4 g2.sz j.toNat
  have g5:=WG hp g2.len g3 g2.sz hso p.blocks.length 0 (by omega)
  have e1:uX ins p.blocks.length=(qW p).map fun z=>[.slice (ints z) .no]:=by
   unfold uX qW
   rw [if_pos h0,List.map_map]
   apply List.map_congr_left
   intro k hk
   simp only [Function.comp,slW,rI]
   rw [IU (n:=p.temps.toNat) (P:=fun t:Nat=>Reach p.blocks (t:Int) k) (fun t=>SI.complete hp hl g2 g4 k t) (fun t ht=>by have:=(Bb hp ht).2; omega)]
  have e2:uX outs p.blocks.length=(rN p).map fun z=>[.slice (ints z) .no]:=by
   unfold uX rN
   rw [if_pos h0,List.map_map]
   apply List.map_congr_left
   intro k hk
   have hkl:=List.mem_range.1 hk
   have hb:p.blocks[k]?=some p.blocks[k]:=List.getElem?_eq_getElem hkl
   have hbm:=List.getElem_mem hkl
   have hw:Wk outs k=Df ins p.blocks[k]:=by unfold Wk; rw [(g4 k _ hb).1]; rfl
   simp only [Function.comp,slW,pT]
   rw [hw,IU (n:=p.temps.toNat) (P:=fun t:Nat=>∃b,p.blocks[k]?=some b∧pO p.blocks (t:Int) b.term) (fun t=>?_) (fun t ht=>?_)]
   ·rw [RL]
    constructor
    ·rintro⟨j,hj,ht⟩
     rw [hl _ hbm] at hj
     exact⟨_,hb,j,hj,(SI.complete hp hl g2 g4 _ _).1 ht⟩
    ·rintro⟨b,hb',j,hj,hr⟩
     rw [hb] at hb'; cases hb'
     rw [←hl _ hbm] at hj
     exact⟨j,hj,(SI.complete hp hl g2 g4 _ _).2 hr⟩
   ·obtain⟨b,_,j,_,hr⟩:=ht
    have:=(Bb hp hr).2; omega
  rw [e1,e2] at g5
  have e0:∀l:List Cl,uX l 0=[]:=fun l=>rfl
  have eF:FR 0=.front 0 0:=rfl
  have er:(List.replicate p.blocks.length (false,[])).map mK=List.replicate p.blocks.length (.slice [] .nil):=by rw [List.map_replicate]; rfl
  simp only [e0,eF,Int.cast_ofNat_Int] at g5
  rw [er] at g1
  have mk:∀(h:kU),qO 1 24 [.slice [] .nil] (.int .i64 (p.blocks.length:Int)) h=some (.mslice h.length 0 p.blocks.length 1,h++[.cells (List.replicate p.blocks.length (.slice [] .nil))]):=fun h=>by
   have hnb:=hp.nb
   simp only [qO]
   rw [if_pos ⟨by omega,by simp; omega,by omega⟩]
   simp
  rw [h0] at g30 ⊢
  have st:∀(r1 r2:List (List kS)) (h:kU),kS.k8 (kS.oL 0 h (.tuple [.slice r1 (.own 5),.slice r2 (.own 6),.int .i64 0]))=.tuple [.slice r1 .no,.slice r2 .no,.int .i64 0]:=fun _ _ _=>rfl
  unfold nD
  generalize (qW p).map (fun z=>[kS.slice (ints z) .no])=R1 at *
  generalize (rN p).map (fun z=>[kS.slice (ints z) .no])=R2 at *
  generalize ins.map mK=ci at *
  generalize outs.map mK=co at *
  simp only [lvS,HB,T1,T2,List.cons_append,List.nil_append,IR.cells] at g1 g5 g30 ⊢
  generalize List.replicate p.blocks.length (kS.slice [] .nil)=c0 at *
  simp -implicitDefEqProofs [m27,g30,mk,g1,g5,mX,st]
 ·have e1:qW p=[]:=if_neg h0
  have e2:rN p=[]:=if_neg h0
  rw [e1,e2]
  generalize mN p=e at *
  have st:∀(h:kU),kS.k8 (kS.oL 0 h (.tuple [.slice [] (.own 3),.slice [] (.own 4),.int .i64 e]))=.tuple [.slice [] .no,.slice [] .no,.int .i64 e]:=fun _=>rfl
  simp only [IR.cells] at g30 ⊢
  simp -implicitDefEqProofs [m27,g30,h0,mX,st,nD]
end Go.Proofs.YtkeoalhglkfbkaaDoor


namespace Go.Proofs.YtkeoalhglkfbkaaDoor
open Go Hk Go.Proofs.Wd
section
variable {A B C:List mI}{ws:List Int}{id m i:Nat}{h:kU}{k:IntKind}
end
end Go.Proofs.YtkeoalhglkfbkaaDoor


namespace Go.Proofs.YtkeoalhglkfbkaaDoor
open Go Hk Go.Proofs.Wd
section
variable {p:IR}(hp:yT p) (hl:∀b∈p.blocks,rH b.term=pW b.term) (t:Int) {src:List Int}(hsrc:∀f∈src,0≤f)
include hp hl hsrc
omit hsrc
end
end Go.Proofs.YtkeoalhglkfbkaaDoor


namespace Go.Proofs.YtkeoalhglkfbkaaDoor
open Go Hk Go.Proofs.Wd
section
variable {p:IR}(hp:yT p) (hl:∀b∈p.blocks,rH b.term=pW b.term)
include hp hl
end
end Go.Proofs.YtkeoalhglkfbkaaDoor


namespace Go.Proofs.YtkeoalhglkfbkaaDoor
open Go Hk Go.Proofs.Wd
end Go.Proofs.YtkeoalhglkfbkaaDoor


namespace Go.Proofs.YtkeoalhglkfbkaaDoor
open Go Hk Go.Proofs.Wd
section
variable {b:lR}{L:List Int}{E:kU}
end
end Go.Proofs.YtkeoalhglkfbkaaDoor


namespace Go.Proofs.YtkeoalhglkfbkaaDoor
open Go Hk Go.Proofs.Wd
end Go.Proofs.YtkeoalhglkfbkaaDoor


namespace Go.Proofs.YtkeoalhglkfbkaaDoor
open Go Hk Go.Proofs.Wd
theorem aaI {p:IR}:∀(d i:Nat) (n:Int),i≤n→n≤801→801 - n.toNat < d→∃(n':Int) (i':Int),
  mQ (KX KK 1) ([.ptr 0 0,.bool false,.int .i64 n,.int .i64 (i:Int)],[.cells p.cells])=some (.exit 0,[.ptr 0 0,.bool false,.int .i64 n',.int .i64 i'],[.cells p.cells])∧(n'≤300→vF (p.blocks.drop i)+n≤300):=by
 intro d
 have htr:mS 1 [.cells p.cells]=some [.cells p.cells]:=by simp [mS,IR.cells]
 have ag:kV 2 (.ptr 0 0)=some (.ptr 0 2):=rfl
 have l1:kW false 1 [.cells p.cells] (.ptr 0 2)=some (.slice (p.blocks.map lR.cells) .no):=by simp [IR.cells]
 have lenB:lS (.slice (p.blocks.map lR.cells) .no)=some (.int .i64 (p.blocks.length:Int)):=by simp
 induction d with
 | zero=>intro i n _ _ h; omega
 | succ d ih =>
  intro i n hi hn hd
  by_cases h1:i < p.blocks.length
  ·by_cases h2:n≤300
   ·have hb:=List.getElem?_eq_getElem h1
    generalize p.blocks[i]=b at hb
    obtain⟨n',i',hr,hs⟩:=ih (i+1) (n+1+min (b.ops.length:Int) 500) (by omega) (by omega) (by omega)
    refine⟨n',i',?_,fun h=>?_⟩
    rotate_left
    ·have hs:=hs h
     have hnn:=GM (p.blocks.drop (i+1))
     rw [List.drop_eq_getElem_cons h1]
     have hbe:p.blocks[i]=b:=by rw [List.getElem?_eq_getElem h1] at hb; exact Option.some.inj hb
     rw [hbe]
     simp only [vF]
     omega
    rw [←hr]
    refine oU ?_
    have hl:(i:Int) < (p.blocks.length:Int):=by omega
    have ix:kX 5 (.slice (p.blocks.map lR.cells) .no) (.int .i64 (i:Int))=some (.pptr b.cells):=by simp [hb,lR.cells]
    have ag1:kV 0 (.pptr b.cells)=some (.pptr b.cells):=by simp [kV]
    have l2:kW false 1 [.cells p.cells] (.pptr b.cells)=some (.slice (b.ops.map Op.cells) .no):=by simp [lR.cells]
    have lenO:lS (.slice (b.ops.map Op.cells) .no)=some (.int .i64 (b.ops.length:Int)):=by simp
    have mn:xO (.int .i64 (b.ops.length:Int)) (.int .i64 500)=some (.int .i64 (min (b.ops.length:Int) 500)):=by
     simp [xO]
     try (split <;> omega)
    have w0:IntKind.i64.wrap (n+1)=n+1:=wrap64 (by omega) (by omega)
    have w1:IntKind.i64.wrap (n+1+min (b.ops.length:Int) 500)=n+1+min (b.ops.length:Int) 500:=wrap64 (by omega) (by omega)
    have w2:IntKind.i64.wrap ((i:Int)+1)=((i+1:Nat):Int):=by rw [wrap64 (by omega) (by omega),Int.natCast_add]; rfl
    generalize ((i+1:Nat):Int)=i1 at *
    unfold KX
    simp -implicitDefEqProofs [-lH,lJ,htr,ag,l1,lenB,hl,h2,ix,ag1,l2,lenO,mn,w0,w1,w2,lW]
   ·refine⟨n,i,nH ?_,fun h=>absurd h h2⟩
    have hl:(i:Int) < (p.blocks.length:Int):=by omega
    unfold KX
    simp -implicitDefEqProofs [-lH,lJ,htr,ag,l1,lenB,hl,h2,lW]
  ·refine⟨n,i,nH ?_,fun h=>by rw [List.drop_eq_nil_of_le (by omega)]; simp only [vF]; omega⟩
   have hl:¬(i:Int) < (p.blocks.length:Int):=by omega
   unfold KX
   simp -implicitDefEqProofs [-lH,lJ,htr,ag,l1,lenB,hl,lW]
theorem awO (p:IR):∃b:Bool,(b=true→p.temps≤60∧vF p.blocks≤300)∧∀h,KK 25 [.agg p.cells] h=some (.ret (.bool b),h):=by
 obtain⟨n,i,g,gs⟩:=aaI (p:=p) 1000 0 0 (by omega) (by omega) (by omega)
 have e0:((0:Nat):Int)=0:=rfl
 rw [e0] at g
 refine⟨decide (n≤300) && decide (p.temps≤60),fun hb=>by
  simp only [Bool.and_eq_true,decide_eq_true_eq] at hb
  have:=gs hb.1
  rw [List.drop_zero] at this
  exact⟨hb.2,by omega⟩,fun h=>mD rfl rfl (mR (apX _ _ _) ?_)⟩
 have an:mH 5 [] (.agg p.cells)=some (.ptr 0 0,[.cells p.cells]):=by simp [IR.cells]
 have ag:kV 0 (.ptr 0 0)=some (.ptr 0 0):=rfl
 have l1:kW false 1 [.cells p.cells] (.ptr 0 0)=some (.int .i64 p.temps):=by simp [IR.cells]
 by_cases h2:n≤300
 ·by_cases h3:p.temps≤60 <;> simp -implicitDefEqProofs [m25,-lH,-mH,an,g,ag,l1,h2,h3,lM]
 ·simp -implicitDefEqProofs [m25,-lH,-mH,an,g,ag,l1,h2,lM]
theorem BD {n:Nat}{f:Nat→Bool}:(zs ((List.range n).filter f)).length≤n:=by
 rw [IA]
 exact Nat.le_trans (List.length_filter_le _ _) (by simp)
theorem Em (p:IR):(∀z∈qW p,z.length≤2000000)∧(qW p).length≤2000000:=by
 unfold qW
 split
 ·rename_i h
  have lp:=(qJ h).1
  have h1:=lp.temps
  have h2:=lp.nb
  refine⟨fun z hz=>?_,by simp; omega⟩
  obtain⟨k,_,rfl⟩:=List.mem_map.1 hz
  exact Nat.le_trans BD (by omega)
 ·simp
end Go.Proofs.YtkeoalhglkfbkaaDoor


namespace Go.Proofs.YtkeoalhglkfbkaaDoor
open Go Hk Go.Proofs.Wd
theorem Nh {a b:List Int}{i:Nat}{x:Int}(hx:a[i]?=some x) (hb:b.length≤4000000):∀(d k:Nat) (f:Bool),b.length=k+d →
  mQ (OV KK 0) ([.slice (ints a) .no,.slice (ints b) .no,.bool false,.int .i64 (i:Int),.bool f,.int .i64 (k:Int)],[]) =
  some (.exit 2,[.slice (ints a) .no,.slice (ints b) .no,.bool false,.int .i64 (i:Int),.bool (f || (b.drop k).any fun y=>decide (x=y)),.int .i64 (b.length:Int)],[]):=by
 have ix:kX 1 (.slice (ints a) .no) (.int .i64 (i:Int))=some (.pptr [.int .i64 x]):=by simp [ints,hx]
 have lenb:lS (.slice (ints b) .no)=some (.int .i64 (b.length:Int)):=by simp [ints]
 intro d
 induction d with
 | zero =>
  intro k f hk
  obtain rfl:k=b.length:=by omega
  rw [List.drop_length]
  refine nH ?_
  unfold OV
  simp -implicitDefEqProofs [lenb,lJ,mS]
 | succ d ih =>
  intro k f hk
  have hk':k < b.length:=by omega
  obtain⟨y,hy⟩:∃y,b[k]=y:=⟨_,rfl⟩
  have ed:b.drop k=y::b.drop (k+1):=by rw [List.drop_eq_getElem_cons hk',hy]
  rw [ed,List.any_cons,←Bool.or_assoc,←ih (k+1) (f || decide (x=y)) (by omega)]
  refine oU ?_
  have hki:(k:Int) < (b.length:Int):=by omega
  have ix2:kX 1 (.slice (ints b) .no) (.int .i64 (k:Int))=some (.pptr [.int .i64 y]):=by simp [ints,hk',hy]
  have w2:IntKind.i64.wrap ((k:Int)+1)=((k+1:Nat):Int):=by rw [wrap64 (by omega) (by omega),Int.natCast_add]; rfl
  generalize ((k+1:Nat):Int)=k1 at *
  unfold OV
  cases f <;> simp -implicitDefEqProofs [ix,lenb,ix2,hki,w2,lJ,mS]
theorem WU {a b:List Int}(ha:a.length≤4000000) (hb:b.length≤4000000) (hab:∀x∈a,x∈b):∀(d i:Nat),a.length=i+d →
  mQ (Hv KK 0) ([.slice (ints a) .no,.slice (ints b) .no,.bool false,.int .i64 (i:Int)],[])=some (.exit 0,[.slice (ints a) .no,.slice (ints b) .no,.bool false,.int .i64 (a.length:Int)],[]):=by
 have lena:lS (.slice (ints a) .no)=some (.int .i64 (a.length:Int)):=by simp [ints]
 intro d
 induction d with
 | zero =>
  intro i hi
  obtain rfl:i=a.length:=by omega
  refine nH ?_
  unfold Hv
  simp -implicitDefEqProofs [lena,lJ,mS]
 | succ d ih =>
  intro i hi
  rw [←ih (i+1) (by omega)]
  refine oU ?_
  have hil:i < a.length:=by omega
  have hii:(i:Int) < (a.length:Int):=by omega
  have hx:=List.getElem?_eq_getElem hil
  generalize a[i]=x at hx
  have g:=Nh hx hb b.length 0 false (by omega)
  have e0:((0:Nat):Int)=0:=rfl
  have e1:(b.drop 0).any (fun y=>decide (x=y))=true:=by
   rw [List.drop_zero,List.any_eq_true]
   exact⟨x,hab x (List.mem_of_getElem? hx),by simp⟩
  rw [e0,e1] at g
  have w2:IntKind.i64.wrap ((i:Int)+1)=((i+1:Nat):Int):=by rw [wrap64 (by omega) (by omega),Int.natCast_add]; rfl
  generalize ((i+1:Nat):Int)=k1 at *
  unfold Hv
  simp -implicitDefEqProofs [lena,g,hii,w2,lJ,mS]
theorem c32 {a b:List Int}(ha:a.length≤4000000) (hb:b.length≤4000000) (hab:∀x∈a,x∈b) (h:kU):KK 32 [.slice (ints a) .no,.slice (ints b) .no] h=some (.ret (.bool true),h):=by
 refine mD rfl rfl (mR (aaK _ _ _ _) ?_)
 have g:=WU ha hb hab a.length 0 (by omega)
 have e0:((0:Nat):Int)=0:=rfl
 rw [e0] at g
 simp -implicitDefEqProofs [m32,g,lM]
theorem aBh {x:Int}{b:List Int}(hb:b.length≤4000000) (h:kU):KK 32 [.slice (ints [x]) .no,.slice (ints b) .no] h=some (.ret (.bool (decide (x∈b))),h):=by
 by_cases hx:x∈b
 ·rw [decide_eq_true hx]
  exact c32 (show [x].length≤4000000 by simp) hb (fun y hy=>by simp only [List.mem_singleton] at hy; subst hy; exact hx) h
 ·rw [decide_eq_false hx]
  refine mD rfl rfl (mR (aaK _ _ _ _) ?_)
  have g:=Nh (a:=[x]) (i:=0) (x:=x) rfl hb b.length 0 false (by omega)
  have e0:((0:Nat):Int)=0:=rfl
  have e1:(b.drop 0).any (fun y=>decide (x=y))=false:=by
   rw [List.drop_zero,List.any_eq_false]
   intro y hy h
   exact hx (by rw [of_decide_eq_true h]; exact hy)
  rw [e0,e1] at g
  have lena:lS (.slice (ints [x]) .no)=some (.int .i64 1):=by simp [ints]
  have gl:mQ (Hv KK 0) ([.slice (ints [x]) .no,.slice (ints b) .no,.bool false,.int .i64 0],[])=some (.ret,[.slice (ints [x]) .no,.slice (ints b) .no,.bool false,.int .i64 0],[]):=by
   refine vM ?_
   unfold Hv
   simp -implicitDefEqProofs [lena,g,lJ,mS]
  simp -implicitDefEqProofs [m32,gl,lM]
theorem ad0 {n:Nat}{P:Nat→Prop} [DecidablePred P] {t:Int}:t∈zs ((List.range n).filter fun t=>decide (P t))↔0≤t∧t.toNat < n∧P t.toNat:=by
 unfold zs
 simp only [List.mem_map,List.mem_filter,List.mem_range,decide_eq_true_eq]
 constructor
 ·rintro⟨a,⟨h1,h2⟩,rfl⟩
  exact⟨by omega,by simpa using h1,by simpa using h2⟩
 ·rintro⟨h1,h2,h3⟩
  exact⟨t.toNat,⟨h2,h3⟩,by omega⟩
theorem AK {p:IR}{k:Nat}{t:Int}:t∈rI p k↔0≤t∧t < p.temps∧Reach p.blocks t k:=by
 classical
 unfold rI
 rw [ad0]
 constructor
 ·rintro⟨h1,h2,h3⟩
  rw [show((t.toNat:Nat):Int)=t by omega] at h3
  exact⟨h1,by omega,h3⟩
 ·rintro⟨h1,h2,h3⟩
  rw [show((t.toNat:Nat):Int)=t by omega]
  exact⟨h1,by omega,h3⟩
end Go.Proofs.YtkeoalhglkfbkaaDoor


namespace Go.Proofs.YtkeoalhglkfbkaaDoor
open Go Hk
end Go.Proofs.YtkeoalhglkfbkaaDoor


namespace Go.Proofs.YtkeoalhglkfbkaaDoor
open Go Hk
def nN (bs:List lR) (x:Term):Int→Prop:=fun t=>pO bs t x
theorem rL (o:Op) (r:List Op) (x:Term) (S:Int→Prop) (t:Int):pA (o::r) x S t↔t∈mU o∨(pA r x S t∧¬((mM o.kind).dst=true∧o.dst=t)):=Iff.rfl
end Go.Proofs.YtkeoalhglkfbkaaDoor


namespace Go.Proofs.YtkeoalhglkfbkaaDoor
open Go Hk Go.Proofs.Wd
end Go.Proofs.YtkeoalhglkfbkaaDoor


namespace Go.Proofs.YtkeoalhglkfbkaaDoor
open Go Hk Go.Proofs.Wd
end Go.Proofs.YtkeoalhglkfbkaaDoor


namespace Go.Proofs.YtkeoalhglkfbkaaDoor
open Go Hk Go.Proofs.Wd
end Go.Proofs.YtkeoalhglkfbkaaDoor


namespace Go.Proofs.YtkeoalhglkfbkaaDoor
open Go Hk
end Go.Proofs.YtkeoalhglkfbkaaDoor


namespace Go.Proofs.YtkeoalhglkfbkaaDoor
open Go Hk
end Go.Proofs.YtkeoalhglkfbkaaDoor


namespace Go.Proofs.YtkeoalhglkfbkaaDoor
open Go Hk
end Go.Proofs.YtkeoalhglkfbkaaDoor


namespace Go.Proofs.YtkeoalhglkfbkaaDoor
open Go Hk
end Go.Proofs.YtkeoalhglkfbkaaDoor


namespace Go.Proofs.YtkeoalhglkfbkaaDoor
open Go Hk Go.Proofs.Wd
end Go.Proofs.YtkeoalhglkfbkaaDoor


namespace Go.Proofs.YtkeoalhglkfbkaaDoor
open Go Hk
structure Sx where
 temps:List Int
 arrs:List (List Int)
inductive Out where
 | budget | trap | done (arrs:List (List Int))
def mk8 (b:Int):Int:=IntKind.wrap .i64 (((BitVec.ofInt 64 b &&& BitVec.ofInt 64 255).toNat:Nat):Int)
def tg (l:List Int) (t:Int):Int:=l.getD t.toNat 0
def rV (l:List Int) (t v:Int):List Int:=l.set t.toNat v
theorem Iv {l:List Int}{t u v:Int}(ht:0≤t) (hu:0≤u) (hl:t.toNat < l.length):tg (rV l t v) u=if u=t then v else tg l u:=by
 unfold tg rV
 by_cases h:u=t
 ·subst h
  rw [if_pos rfl,List.getD_eq_getElem?_getD,List.getElem?_set_self hl]; rfl
 ·rw [if_neg h,List.getD_eq_getElem?_getD,List.getElem?_set_ne (by omega),List.getD_eq_getElem?_getD]
section
variable (val:Op→Int→Int→Int→Option Int)
def pQ (l:List Int) (o:Op) (i:Nat):Int:=match (mU o)[i]? with
 | some t=>tg l t
 | none=>0
def xF (arrays:List mL) (o:Op) (s:Sx):Option Sx :=
 match val o (pQ s.temps o 0) (pQ s.temps o 1) (pQ s.temps o 2) with
 | some v=>some ⟨rV s.temps o.dst v,s.arrs⟩
 | none =>
  if ((s.arrs.getD o.imm.toNat []).length:Int)≤pQ s.temps o 0 then none
  else if o.kind=18 then some ⟨rV s.temps o.dst (tg (s.arrs.getD o.imm.toNat []) (pQ s.temps o 0)),s.arrs⟩
  else some ⟨s.temps,s.arrs.set o.imm.toNat (rV (s.arrs.getD o.imm.toNat []) (pQ s.temps o 0) (if (arrays[o.imm.toNat]?).map (·.elem)=some 1 then mk8 (pQ s.temps o 1) else pQ s.temps o 1))⟩
def rS (x:Term) (l:List Int):Int:=if x.kind=1 then x.yes else if tg l x.a=4294967295 then x.yes else if tg l x.a=0 then x.no else -1
def C8 (arrays:List mL) (bs:List lR):Nat→Term→List Op→Sx→Out
 | 0,_,_,_=>.budget
 | n+1,x,o::r,s=>match xF val arrays o s with
  | some s'=>C8 arrays bs n x r s'
  | none=>.trap
 | n+1,x,[],s=>if x.kind=3 then .done s.arrs else
  if rS x s.temps < 0 then .trap else match bs[(rS x s.temps).toNat]? with
  | some b=>C8 arrays bs n b.term b.ops s
  | none=>.trap
end
def aiF (n:Int) (o:Op):Prop:=(∀t∈mU o,0≤t∧t < n)∧((mM o.kind).dst=true→0≤o.dst∧o.dst < n)
def HT (n:Int) (m:Nat) (x:Term):Prop:=(x.kind=1∧x.yes < m∨x.kind=2∧0≤x.a∧x.a < n∧x.yes < m∧x.no < m∨x.kind=3)
def abN (n:Int) (m:Nat) (b:lR):Prop:=(∀o∈b.ops,aiF n o)∧HT n m b.term
section
variable {val:Op→Int→Int→Int→Option Int}
structure YJ (val:Op→Int→Int→Int→Option Int):Prop where
 makes:∀o a b c v,val o a b c=some v→(mM o.kind).dst=true
 loads:∀o a b c,val o a b c=none→o.kind=18∨o.kind=19∨(mM o.kind).ok=false
theorem SL:(mM 18).dst=true:=by decide
theorem Zt:(mM 19).dst=false:=by decide
def xE (σ:Int→Int) (o:Op):Op :=
 ⟨o.kind,if (mM o.kind).dst=true then σ o.dst else o.dst,if 1≤(mM o.kind).src then σ o.a else o.a,if 2≤(mM o.kind).src then σ o.b else o.b,if 3≤(mM o.kind).src then σ o.c else o.c,o.imm⟩
def Jn (σ:Int→Int) (x:Term):Term:=if x.kind=2 then⟨x.kind,σ x.a,x.yes,x.no⟩ else x
def Ie (σ:Int→Int) (b:lR):lR:=⟨b.ops.map (xE σ),Jn σ b.term⟩
theorem NM {σ:Int→Int}{o:Op}:mU (xE σ o)=(mU o).map σ:=by
 have:=yY o.kind
 unfold mU xE
 generalize (mM o.kind).src=n at *
 rcases (show n=0∨n=1∨n=2∨n=3 by omega) with rfl | rfl | rfl | rfl <;> simp
theorem adK {σ:Int→Int}{o:Op}{l l':List Int}(h:∀t∈mU o,tg l' (σ t)=tg l t) (i:Nat):pQ l' (xE σ o) i=pQ l o i:=by
 unfold pQ
 rw [NM,List.getElem?_map]
 cases ht:(mU o)[i]? with
 | none=>rfl
 | some t=>exact h t (List.mem_of_getElem? ht)
def YK (val:Op→Int→Int→Int→Option Int):Prop:=∀(σ:Int→Int) o a b c,val (xE σ o) a b c=val o a b c
def Yd (σ:Int→Int) (bs:List lR):Prop:=∀(i:Nat) (b:lR) (pre:List Op) (o:Op) (post:List Op),bs[i]?=some b→b.ops=pre++o::post→(mM o.kind).dst=true→∀t,0≤t→pA post b.term (nN bs b.term) t→t≠o.dst→σ t≠σ o.dst
def R_ (σ:Int→Int) (n:Int) (n':Nat) (bs:List lR):Prop:=(∀(i:Nat) (b:lR),bs[i]?=some b→∀t,0≤t→t < n→pA b.ops b.term (nN bs b.term) t→0≤σ t) ∧
 ∀(i:Nat) (b:lR),bs[i]?=some b→∀o∈b.ops,(mM o.kind).dst=true→0≤σ o.dst∧(σ o.dst).toNat < n'
theorem IH {bs:List lR}{x:Term}{l:List Int}{b:lR}{m:Nat}{n:Int}(hx:HT n m x) (h3:x.kind≠3) (hn:¬rS x l < 0) (hb:bs[(rS x l).toNat]?=some b) {t:Int}(ht:pA b.ops b.term (nN bs b.term) t):nN bs x t:=by
 refine⟨rS x l,?_,(yD hb).2 ht⟩
 unfold pW
 unfold rS at hn ⊢
 rcases hx with ⟨h1,_⟩ | ⟨h1,_⟩ | h1
 ·simp only [h1,if_true] at hn ⊢
  exact List.mem_filter.2 ⟨List.mem_singleton.2 rfl,decide_eq_true (by omega)⟩
 ·have e1:¬x.kind=1:=by omega
  simp only [e1,if_false,h1,if_true] at hn ⊢
  refine List.mem_filter.2 ?_
  by_cases hc:tg l x.a=4294967295
  ·rw [if_pos hc] at hn ⊢
   exact⟨by simp,decide_eq_true (by omega)⟩
  ·rw [if_neg hc] at hn ⊢
   by_cases hd:tg l x.a=0
   ·rw [if_pos hd] at hn ⊢
    exact⟨by simp,decide_eq_true (by omega)⟩
   ·rw [if_neg hd] at hn
    omega
 ·exact absurd h1 h3
theorem Zv (hv:YJ val) (hr:YK val) {arrays:List mL}{bs:List lR}{σ:Int→Int}{n:Int}{n':Nat}(hap:Yd σ bs) (hpl:R_ σ n n' bs) (hok:∀b∈bs,abN n bs.length b)
  (hnn:∀(i:Nat) (b:lR),bs[i]?=some b→∀(pre post:List Op),b.ops=pre++post→∀t,pA post b.term (nN bs b.term) t→0≤t∧t < n∧0≤σ t) :
  ∀(k:Nat) (i:Nat) (b:lR) (pre post:List Op) (s s':Sx),bs[i]?=some b→b.ops=pre++post→s.arrs=s'.arrs→(s.temps.length:Int)=n→s'.temps.length=n' →
   (∀t,pA post b.term (nN bs b.term) t→tg s'.temps (σ t)=tg s.temps t) →
   C8 val arrays (bs.map (Ie σ)) k (Jn σ b.term) (post.map (xE σ)) s'=C8 val arrays bs k b.term post s:=by
 intro k
 induction k with
 | zero=>intros; rfl
 | succ k ih =>
  intro i b pre post s s' hb hops harr hl hl' heq
  have hmb:=hok b (List.mem_of_getElem? hb)
  cases post with
  | nil =>
   have hk:(Jn σ b.term).kind=b.term.kind:=by unfold Jn; split <;> rfl
   have hnx:b.term.kind≠3→rS (Jn σ b.term) s'.temps=rS b.term s.temps:=by
    intro h3
    unfold rS Jn
    by_cases h2:b.term.kind=2
    ·have:=heq b.term.a (by unfold pA I7; exact .inl ⟨h2,rfl⟩)
     simp only [h2,if_true,this]
    ·simp only [h2,if_false]
     rcases hmb.2 with ⟨h1,_⟩ | ⟨h1,_⟩ | h1
     ·simp [h1]
     ·exact absurd h1 h2
     ·exact absurd h1 h3
   simp only [List.map_nil,C8,hk]
   by_cases h3:b.term.kind=3
   ·simp [h3,harr]
   ·simp only [h3,if_false]
    rw [hnx h3]
    by_cases hn:rS b.term s.temps < 0
    ·simp [hn]
    ·simp only [hn,if_false,List.getElem?_map]
     cases hb2:bs[(rS b.term s.temps).toNat]? with
     | none=>rfl
     | some b2 =>
      simp only [Option.map_some]
      have:=ih _ b2 [] b2.ops s s' hb2 rfl harr hl hl' (fun t ht=>heq t (by unfold pA I7; exact .inr (IH hmb.2 h3 hn hb2 ht)))
      exact this
  | cons o post =>
   have hu:∀t∈mU o,tg s'.temps (σ t)=tg s.temps t:=fun t ht=>heq t ((rL o post b.term _ t).2 (.inl ht))
   have hV:=adK (l:=s.temps) (l':=s'.temps) hu
   have ho:aiF n o:=hmb.1 o (by rw [hops]; simp)
   have hmem:o∈b.ops:=by rw [hops]; simp
   have hops':b.ops=(pre++[o])++post:=by rw [hops]; simp
   simp only [List.map_cons,C8,xF]
   rw [hV,hV,hV,hr]
   have himm:(xE σ o).imm=o.imm:=rfl
   have hkind:(xE σ o).kind=o.kind:=rfl
   have made:∀v,(mM o.kind).dst=true→∀t,pA post b.term (nN bs b.term) t→tg (rV s'.temps (xE σ o).dst v) (σ t)=tg (rV s.temps o.dst v) t:=by
    intro v hd t ht
    have e1:(xE σ o).dst=σ o.dst:=by unfold xE; simp [hd]
    obtain⟨d0,d1⟩:=hpl.2 i b hb o hmem hd
    obtain⟨t0,t1,t2⟩:=hnn i b hb (pre++[o]) post hops' t ht
    obtain⟨g0,g1⟩:=ho.2 hd
    rw [e1,Iv d0 t2 (by omega),Iv g0 t0 (by omega)]
    by_cases hte:t=o.dst
    ·subst hte; simp
    ·rw [if_neg hte,if_neg (hap i b pre o post hb hops hd t t0 ht hte)]
     exact heq t ((rL o post b.term _ t).2 (.inr ⟨ht,fun⟨_,h⟩=>hte h.symm⟩))
   cases hval:val o (pQ s.temps o 0) (pQ s.temps o 1) (pQ s.temps o 2) with
   | some v =>
    simp only
    exact ih i b (pre++[o]) post _ _ hb hops' harr (by simpa [rV] using hl) (by simpa [rV] using hl') (made v (hv.makes _ _ _ _ _ hval))
   | none =>
    simp only [himm,hkind,←harr]
    by_cases hc:((s.arrs.getD o.imm.toNat []).length:Int)≤pQ s.temps o 0
    ·simp only [hc,if_true]
    ·simp only [hc,if_false]
     by_cases h18:o.kind=18
     ·simp only [h18,if_true]
      have hd:(mM o.kind).dst=true:=by rw [h18]; exact SL
      exact ih i b (pre++[o]) post _ _ hb hops' rfl (by simpa [rV] using hl) (by simpa [rV] using hl') (made _ hd)
     ·simp only [h18,if_false]
      refine ih i b (pre++[o]) post _ _ hb hops' rfl hl hl' (fun t ht=>heq t ((rL o post b.term _ t).2 (.inr ⟨ht,fun⟨hd,_⟩=>?_⟩)))
      rcases hv.loads _ _ _ _ hval with h1 | h1 | h1
      ·exact h18 h1
      ·rw [h1,Zt] at hd; cases hd
      ·have:(mM o.kind).dst=true→(mM o.kind).ok=true:=by
        unfold mM; (repeat' split) <;> simp
       rw [this hd] at h1; cases h1
end
end Go.Proofs.YtkeoalhglkfbkaaDoor


namespace Go.Proofs.YtkeoalhglkfbkaaDoor
open Go Hk
section
variable {val:Op→Int→Int→Int→Option Int}
end
end Go.Proofs.YtkeoalhglkfbkaaDoor
