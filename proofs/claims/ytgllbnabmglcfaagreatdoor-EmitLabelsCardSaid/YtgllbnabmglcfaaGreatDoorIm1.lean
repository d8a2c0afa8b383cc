/-
  The texts IM.M, IM.A, IM.B, IM.H, IM.C, IM.D, IM.E, IM.F, IM.G, IM.G2, IM.J1, IM.J2, IM.M2, IM.J3, IM.J4, IM.L1, IM.L2, IM.K1, IM.K2, IM.K3, IM.K4, IM.K5, IM.K6, IM.K7, IM.K8, IM.K9, IM.K10, IM.K11, IM.R1, one behind another. No conditions.
-/
import Derived.Test.YtgllbnabmglcfaaGreatDoorProg
import Derived.Test.YtgllbnabmglcfaaGreatDoorVk3
import Derived.KernelRfl
import Derived.WalkKit
set_option linter.unusedVariables false
set_option linter.unusedSimpArgs false
set_option linter.all false
open Bool renaming and_eq_true → aq1
open Int renaming cast_ofNat_Int → aw6, natCast_add → ax3, toNat_natCast → av8
open List renaming all_eq_true → aq5, append_assoc → aw8, cons_append → ax4, drop_eq_getElem_cons → ar7, getD → ac5, getD_eq_getElem?_getD → ah6, getElem?_append_right → ak0, getElem?_eq_getElem → ag8, getElem?_eq_some_iff → ag0, getElem?_map → ak4, getElem_mem → ax5, length → aa5, length_append → au9, length_cons → ar8, length_map → au7, length_nil → ay5, length_take → ar6, map_cons → as6, mem_map → au6, mem_of_getElem? → aj8, nil_append → av6, range → ar9, replicate → ak7
open Nat renaming le_refl → ak5, le_trans → ax9, zero_add → av7
open Option renaming bind_eq_some_iff → ac6, bind_some → ak6, map_eq_some_iff → ah7
open Option.some renaming injEq → ah5
namespace Go.Proofs.YtgllbnabmglcfaaGreatDoor
noncomputable section
open Go Hk
def aoK:List Nat:=[]
def acS:List Nat:=[18,19,20,37,38,46,47,48,49,51,52,85,98,99,81,82,83,84,96,107,72,40,41,44,45,74,86,87,88,89,90,91,92,93,102,103,105,106,108,54,55,56,57,58,59,61,62,65,66,68,69,77,78,79]
def avN:List Nat:=[71,9,21,80,81,82,83,84,85,16,17,18,19,20,73,36,44,45,46,47,48,49,96,97,98,99,100,101,33,34,35,37,38,76,107]
def vY:List lS:=[0,1,56,2,57,49,28,3,61,58,42,50,38,29,17,4,62,47,59,36,45,43,51,22,53,39,33,30,24,18,12,5,63,55,48,27,60,41,37,16,46,35,44,21,52,32,23,11,54,26,40,15,34,20,31,10,25,14,19,9,13,8,7,6].map (.int .u8)
def nM:xO:={ srf:=fun f=>if f=40 then some 41 else none,prm:=fun f=>none,frz:=fun f=>f == 71,esc:=fun f=>f == 98 || f == 81 || f == 82 || f == 83,grow:=fun f=>f == 98 || f == 82 || f == 83,vlit:=fun f=>f == 80,sub:=fun f=>f == 52 || f == 51 || f == 72 || f == 46 || f == 47 || f == 48 || f == 49,out:=fun f=>f == 60 || f == 129 || f == 131 || f == 126 || f == 151 || f == 165 || f == 163 || f == 157 || f == 160,vec:=fun f=>f == 98 || f == 81 || f == 21 || f == 46 || f == 49,glob:=fun g=>if g=0 then some vY else none,pure:=fun f=>!(acS.contains f),pan:=fun f=>aoK.contains f,vmk:=fun f=>!(avN.contains f),jt:=fun f=>!(avN.contains f) }
def Pa (K:mA) (m:Nat) (s:St):Option R :=
 uq6 s fun aE aF aD aB aC aA aG=>aq .lss aA aC ((mI 4 aB aA).bind fun aL=>(mF true 4 aG aL).bind fun aM=>mC (nP 4 aG (.agg [(iq 0),(iq 0),(iq 0),(iq 0)])) fun aJ aK=>(mL 4 aK aJ aM).bind fun aH=>(mF true 4 aH aJ).bind fun aN=>kq2 K 18 aD aN aH fun aO aI=>(yD .not aO).bind fun aP=>mH aP (mK m .ret [aE,(iq 2),aD,aB,aC,aA] aI) ((mP .add aA (iq 1)).bind fun aQ=>mK m .normal [aE,aF,aD,aB,aC,aQ] aI)) (mK m (.exit 0) [aE,aF,aD,aB,aC,aA] aG)
def Pb (K:mA) (m:Nat) (s:St):Option R :=
 uq9 s fun aI aD aH aE aF aG aB aC aA aJ=>aq .lss aA aC ((mI 6 aB aA).bind fun t138=>(mF true 6 aJ t138).bind fun t139=>mC (nP 6 aJ (.agg [(iq 0),(iq 0),(iq 0),(iq 0),(iq 0),(iq 0)])) fun t140 aM=>(mL 6 aM t140 t139).bind fun aK=>(mF true 6 aK t140).bind fun t143=>kq2 K 19 aD t143 aK fun t144 aL=>(yD .not t144).bind fun t146=>mH t146 (mK m .ret [(iq 2),aD,aH,aE,aF,aG,aB,aC,aA] aL) ((mP .add aA (iq 1)).bind fun t147=>mK m .normal [aI,aD,aH,aE,aF,aG,aB,aC,t147] aL)) (mK m (.exit 4) [aI,aD,aH,aE,aF,aG,aB,aC,aA] aJ)
def KU (K:mA) (m:Nat) (s:St):Option R :=
 uq5 s fun aK aN aC aE aA aP=>aq .lss aA aE (((mI 5 aC aA).bind fun bD=>(mF true 5 aP bD).bind fun bE=>mC (nP 5 aP (.agg [(.slice [] .nil),(iq 0),(iq 0),(iq 0),(iq 0)])) fun aS bC=>(mL 5 bC aS bE).bind fun aQ=>fq 0 aS aQ fun t125=>(nK t125).bind fun t126=>(nL (Pb K (aa5 aQ)) ([aK,aN,aS,aC,aE,aA,t125,t126,(iq 0)],aQ)).bind fun afD=>uq9 afD.2 fun aL aB aT aD aF aG aW aX aY aR=>Ex.nC afD.1 none (fun aZ=>Ex.inBlock 4 aZ ((mG 1 aT).bind fun t161=>(mF true 4 aR t161).bind fun t162=>kq2 K 20 aB t162 aR fun t163 aU=>(yD .not t163).bind fun t165=>mH t165 (some (.ret,[(iq 2),aB,aD,aF,aG],aU)) (some (.normal,[aL,aB,aD,aF,aG],aU))) (fun a_=>some (a_,[aL,aB,aD,aF,aG],aR)))).bind fun Py=>uq5 Py.2 fun aM aO aH aI aJ aV=>Ex.inBlock 3 Py.1 ((mP .add aJ (iq 1)).bind fun bF=>mK m .normal [aM,aO,aH,aI,bF] aV) (fun bB=>mK m bB [aM,aO,aH,aI,aJ] aV)) (mK m (.exit 2) [aK,aN,aC,aE,aA] aP)
def m9 (K:mA) (a0:lS) (h0:lT):OH :=
 (mC (nP 5 h0 a0) fun t0 h1=>(mF true 5 h1 t0).bind fun t2=>kq1 K 16 t2 h1 fun t3 h4=>(yD .not t3).bind fun t5=>mH t5 (some (.ret,[(iq 18)],h4)) ((mF true 5 h4 t0).bind fun t6=>(mV [(iq 0),(.slice [] .nil),(.slice [] .nil),(iq 0),(iq 0),(iq 0)] [(0,5),(5,1)] [(0,t6)]).bind fun t7=>mC (nP 6 h4 t7) fun t8 h9=>fq 3 t0 h9 fun bX=>kq3 K 17 bX (iq 0) (iq 65536) h9 fun t12 bJ=>(yD .not t12).bind fun t14=>rH false t14 (mG 4 t0) bJ fun bY bB=>rH false t14 (mF false 1 bB bY) bB fun bZ bC=>gq false t14 (mR (uk3 K 17 bZ (iq 0) (iq 65536) bC) (fun b_ bK=>mM b_ bK) Gk) bC fun t23 bL=>rH false t14 (yD .not t23) bL fun t26 bM=>(nA t14 (.bool true) t26).bind fun t28=>rH false t28 (mG 3 t0) bM fun t30 bD=>rH false t28 (mF false 1 bD t30) bD fun cA bN=>rH false t28 (mP .rem cA (iq 4)) bN fun t36 bO=>rH false t28 (mP .neq t36 (iq 0)) bO fun cB bP=>(nA t28 (.bool true) cB).bind fun aK=>rH false aK (mG 4 t0) bP fun cC bE=>rH false aK (mF false 1 bE cC) bE fun cD bQ=>rH false aK (mP .rem cD (iq 4)) bQ fun cE bR=>rH false aK (mP .neq cE (iq 0)) bR fun cF bS=>(nA aK (.bool true) cF).bind fun aN=>rH false aN (mG 0 t0) bS fun cG bF=>rH false aN (mF false 1 bF cG) bF fun cH bT=>rH false aN (mP .lss cH (iq 0)) bT fun cI bU=>(nA aN (.bool true) cI).bind fun aL=>rH false aL (mG 2 t0) bU fun cJ bG=>rH false aL (mF false 1 bG cJ) bG fun cK bV=>rH false aL (nK cK) bV fun cL bW=>rH false aL (mP .eql cL (iq 0)) bW fun cM aM=>(nA aL (.bool true) cM).bind fun cN=>mH cN (some (.ret,[(iq 2)],aM)) (fq 1 t0 aM fun bI=>(nK bI).bind fun cO=>(nL (Pa K (aa5 aM)) ([t0,(iq 0),t8,bI,cO,(iq 0)],aM)).bind fun bH=>uq6 bH.2 fun aC aA aF aO aP aQ aB=>Ex.nC bH.1 none (fun aU=>Ex.inBlock 0 aU (fq 2 aC aB fun aJ=>(nK aJ).bind fun aZ=>(nL (KU K (aa5 aB)) ([aA,aF,aJ,aZ,(iq 0)],aB)).bind fun aH=>uq5 aH.2 fun aD a_ aR aS aT aG=>Ex.nC aH.1 none (fun aW=>Ex.inBlock 2 aW (some (.ret,[(iq 0)],aG)) (fun aX=>some (aX,[aD],aG)))) (fun aV=>some (aV,[aA],aB)))))).bind fun aI=>Ut aI.2 fun aE aY=>Ex.oA aI.1 (nZ (aa5 h0) aE aY)
theorem avH K a0 h0:p9 Tryz.prog nM nL K 9 [a0] h0=m9 (mW nM K) a0 h0:=by kernel_rfl
def IN (K:mA) (m:Nat) (s:St):Option R :=
 uq7 s fun aE aG aD aF aB aC aA aI=>aq .lss aA aC ((mI 5 aB aA).bind fun aL=>(mF true 5 aI aL).bind fun aM=>mC (nP 5 aI (.agg [(.slice [] .nil),(iq 0),(iq 0),(iq 0),(iq 0)])) fun aJ aK=>(mL 5 aK aJ aM).bind fun aH=>fq 0 aJ aH fun t53=>(nK t53).bind fun aN=>(mP .sub (iq 1048576) aD).bind fun aO=>aq .gtr aN aO (mK m .ret [aE,(.bool false),aD,aF,aB,aC,aA] aH) (fq 0 aJ aH fun aP=>(nK aP).bind fun aQ=>(mP .add aD aQ).bind fun t60=>(mP .add aA (iq 1)).bind fun aR=>mK m .normal [aE,aG,t60,aF,aB,aC,aR] aH)) (mK m (.exit 0) [aE,aG,aD,aF,aB,aC,aA] aI)
def x5 (K:mA) (m:Nat) (s:St):Option R :=
 uq5 s fun aH aI aB aC aA aQ=>aq .lss aA aC ((mI 4 aB aA).bind fun bD=>(mF true 4 aQ bD).bind fun bE=>mC (nP 4 aQ (.agg [(iq 0),(iq 0),(iq 0),(iq 0)])) fun aM a_=>(mL 4 a_ aM bE).bind fun aY=>(mF true 4 aY aM).bind fun bF=>kq1 K 33 bF aY fun aO bB=>rH true aO (mG 2 aM) bB fun bG aZ=>rH true aO (mF false 1 aZ bG) aZ fun bH bC=>rH true aO (mP .eql bH (iq 0)) bC fun bI aN=>(nA aO bI (.bool false)).bind fun aR=>(mH aR (fq 0 aM aN fun aS=>fq 1 aM aN fun aT=>(mP .mul aS aT).bind fun aU=>kq1 K 34 aU aN fun aV aP=>(mP .add aI aV).bind fun aW=>some (.normal,[aH,aW,aB,aC,aA],aP)) (some (.normal,[aH,aI,aB,aC,aA],aN))).bind fun aL=>uq5 aL.2 fun aJ aD aE aF aG aK=>Ex.rQ aL.1 (aq .gtr aD (iq 65536) (mK m .ret [(.bool false),aD,aE,aF,aG] aK) ((mP .add aG (iq 1)).bind fun aX=>mK m .normal [aJ,aD,aE,aF,aX] aK))) (mK m (.exit 2) [aH,aI,aB,aC,aA] aQ)
def m16 (K:mA) (a0:lS) (h0:lT):OH :=
 (mC (nP 5 h0 a0) fun t0 h1=>fq 0 t0 h1 fun t3=>(mP .gtr t3 (iq 1048576)).bind fun t4=>rH false t4 (mG 1 t0) h1 fun t6 h7=>rH false t4 (mF false 1 h7 t6) h7 fun t9 a_=>rH false t4 (nK t9) a_ fun t12 bB=>rH false t4 (mP .gtr t12 (iq 1048576)) bB fun t15 bC=>(nA t4 (.bool true) t15).bind fun aH=>rH false aH (mG 2 t0) bC fun bF aU=>rH false aH (mF false 1 aU bF) aU fun bG bD=>rH false aH (nK bG) bD fun bH bE=>rH false aH (mP .gtr bH (iq 1048576)) bE fun t28 aF=>(nA aH (.bool true) t28).bind fun t30=>mH t30 (some (.ret,[(.bool false)],aF)) (fq 4 t0 aF fun t32=>(DR t32 (iq 0)).bind fun bI=>(CS bI (iq 65537)).bind fun bJ=>fq 2 t0 aF fun t36=>(nK t36).bind fun bK=>(nL (IN K (aa5 aF)) ([t0,(.bool false),(iq 0),bJ,t36,bK,(iq 0)],aF)).bind fun aV=>uq7 aV.2 fun aI aA aX aJ aR aS aT aK=>Ex.nC aV.1 none (fun aY=>Ex.inBlock 0 aY (fq 1 aI aK fun aW=>(nK aW).bind fun bL=>(nL (x5 K (aa5 aK)) ([aA,aJ,aW,bL,(iq 0)],aK)).bind fun aG=>uq5 aG.2 fun aB aD aL aM aN aE=>Ex.nC aG.1 none (fun aO=>Ex.inBlock 2 aO ((mP .leq aD (iq 65536)).bind fun t127=>some (.ret,[t127],aE)) (fun aP=>some (aP,[aB],aE)))) (fun aZ=>some (aZ,[aA],aK))))).bind fun x7=>Ut x7.2 fun aC aQ=>Ex.oA x7.1 (nZ (aa5 h0) aC aQ)
theorem am2 K a0 h0:p9 Tryz.prog nM nL K 16 [a0] h0=m16 (mW nM K) a0 h0:=by kernel_rfl
def m17 (K:mA) (a0 a1 a2:lS) (h0:lT):OH :=
 ((mP .geq a0 a1).bind fun t0=>rH true t0 (some a0) h0 fun t1 h2=>rH true t0 (some a2) h2 fun t3 h4=>rH true t0 (mP .leq t1 t3) h4 fun t6 h7=>(nA t0 t6 (.bool false)).bind fun t8=>some (.ret,[t8],h7)).bind fun r9=>Ut r9.2 fun aA aB=>Ex.oA r9.1 (nZ (aa5 h0) aA aB)
theorem am3 K a0 a1 a2 h0:p9 Tryz.prog nM nL K 17 [a0,a1,a2] h0=m17 (mW nM K) a0 a1 a2 h0:=by kernel_rfl
def m18 (K:mA) (a0 a1:lS) (h0:lT):OH :=
 (mC (nP 4 h0 a1) fun t0 h1=>(mF true 4 h1 t0).bind fun t2=>kq1 K 33 t2 h1 fun t3 h4=>(yD .not t3).bind fun t5=>mH t5 (some (.ret,[(.bool false)],h4)) (fq 0 t0 h4 fun t7=>fq 1 t0 h4 fun t9=>(mP .mul t7 t9).bind fun aD=>fq 2 t0 h4 fun t12=>aq .eql t12 (iq 0) (fq 3 t0 h4 fun t15=>(mP .eql t15 (iq 0)).bind fun aR=>some (.ret,[aR],h4)) (aq .eql t12 (iq 1) (fq 3 t0 h4 fun aS=>(mO a0).bind fun aT=>(mG 0 aT).bind fun aU=>fq 3 aU h4 fun t23=>(mP .sub t23 aD).bind fun t24=>kq3 K 17 aS (iq 0) t24 h4 fun aA aH=>rH true aA (mG 3 t0) aH fun t28 aE=>rH true aA (mF false 1 aE t28) aE fun t31 aI=>rH true aA (mP .rem t31 (iq 4)) aI fun aV aJ=>rH true aA (mP .eql aV (iq 0)) aJ fun aW aK=>(nA aA aW (.bool false)).bind fun aX=>some (.ret,[aX],aK)) (aq .eql t12 (iq 2) (fq 3 t0 h4 fun aY=>(mO a0).bind fun aZ=>fq 5 aZ h4 fun a_=>(mO a0).bind fun bB=>(mG 0 bB).bind fun bC=>fq 4 bC h4 fun bD=>(mP .sub bD aD).bind fun bE=>kq3 K 17 aY a_ bE h4 fun bF aL=>(yD .not bF).bind fun t53=>rH false t53 (mG 3 t0) aL fun bG aF=>rH false t53 (mF false 1 aF bG) aF fun bH aM=>rH false t53 (mP .rem bH (iq 4)) aM fun bI aN=>rH false t53 (mP .neq bI (iq 0)) aN fun bJ aC=>(nA t53 (.bool true) bJ).bind fun bK=>mH bK (some (.ret,[(.bool false)],aC)) (fq 3 t0 aC fun bL=>(mP .add bL aD).bind fun bM=>kq1 K 34 bM aC fun t70 aO=>(mO a0).bind fun bN=>(mG 5 bN).bind fun t73=>(mL 1 aO t73 t70).bind fun aP=>some (.ret,[(.bool true)],aP))) (some (.ret,[(.bool false)],h4)))))).bind fun aG=>Ut aG.2 fun aB aQ=>Ex.oA aG.1 (nZ (aa5 h0) aB aQ)
theorem am4 K a0 a1 h0:p9 Tryz.prog nM nL K 18 [a0,a1] h0=m18 (mW nM K) a0 a1 h0:=by kernel_rfl
def wO (K:mA) (m:Nat) (s:St):Option R :=
 uq8 s fun aE aF aH aG aD aB aC aA bL=>aq .lss aA aC ((mI 1 aB aA).bind fun t73=>(mF false 1 bL t73).bind fun bI=>kq2 K 37 aE bI bL fun bT aZ=>(yD .not bT).bind fun bU=>mH bU (mK m .ret [aE,aF,(.bool false),aG,aD,aB,aC,aA] aZ) ((mP .eql aA (iq 0)).bind fun bV=>(mH bV ((mG 2 aD).bind fun bW=>(mL 1 aZ bW bI).bind fun bP=>some (.normal,[aE,aF,aH,aG,aD,aB,aC,aA],bP)) ((mP .eql aA (iq 1)).bind fun bX=>(mH bX ((mG 3 aD).bind fun bY=>(mL 1 aZ bY bI).bind fun bQ=>some (.normal,[aE,aF,aH,aG,aD,aB,aC,aA],bQ)) ((mP .eql aA (iq 2)).bind fun bZ=>(mH bZ ((mG 4 aD).bind fun b_=>(mL 1 aZ b_ bI).bind fun bR=>some (.normal,[aE,aF,aH,aG,aD,aB,aC,aA],bR)) (some (.normal,[aE,aF,aH,aG,aD,aB,aC,aA],aZ))).bind fun bN=>uq8 bN.2 fun bB bD bF bG bH aP aQ aR bS=>Ex.rQ bN.1 (some (.normal,[bB,bD,bF,bG,bH,aP,aQ,aR],bS)))).bind fun bO=>uq8 bO.2 fun bC bE aT aV aX aI aK aM bJ=>Ex.rQ bO.1 (some (.normal,[bC,bE,aT,aV,aX,aI,aK,aM],bJ)))).bind fun a_=>uq8 a_.2 fun aO aS aU aW aY aJ aL aN bK=>Ex.rQ a_.1 ((mP .add aN (iq 1)).bind fun bM=>mK m .normal [aO,aS,aU,aW,aY,aJ,aL,bM] bK))) (mK m (.exit 0) [aE,aF,aH,aG,aD,aB,aC,aA] bL)
def m19 (K:mA) (a0 a1:lS) (h0:lT):OH :=
 (mC (nP 6 h0 a1) fun t0 h1=>fq 0 t0 h1 fun t3=>kq1 K 35 t3 h1 fun t4 h5=>mC (nP 5 h5 (.agg [(.bool false),(iq 0),(iq 0),(iq 0),(.bool false)])) fun t6 h7=>(mL 5 h7 t6 t4).bind fun h8=>fq 4 t6 h8 fun dK=>(yD .not dK).bind fun aG=>rH false aG (mG 5 t0) h8 fun t13 c7=>rH false aG (mF false 1 c7 t13) c7 fun dL dE=>rH false aG (mG 2 t6) dE fun dM c8=>rH false aG (mF false 1 c8 dM) c8 fun dN dF=>rH false aG (mG 3 t6) dF fun dO c_=>rH false aG (mF false 1 c_ dO) c_ fun t28 dA=>gq false aG (mR (uk3 K 17 dL dN t28 dA) (fun t30 dG=>mM t30 dG) Gk) dA fun t32 dH=>rH false aG (yD .not t32) dH fun dP bB=>(nA aG (.bool true) dP).bind fun dQ=>mH dQ (some (.ret,[(.bool false)],bB)) (fq 0 t0 bB fun dR=>fq 5 t0 bB fun dS=>(mV [(iq 0),(iq 0),(iq 0),(iq 0),(iq 0),(iq 0)] [(0,1),(1,1),(2,1),(3,1),(4,1),(5,1)] [(0,dR),(5,dS)]).bind fun dU=>mC (nP 6 bB (.agg [(iq 0),(iq 0),(iq 0),(iq 0),(iq 0),(iq 0)])) fun bD dI=>(mL 6 dI bD dU).bind fun bC=>fq 0 t6 bC fun dV=>(mH dV (fq 1 t0 bC fun dW=>(mG 1 bD).bind fun dX=>(mL 1 bC dX dW).bind fun dJ=>some (.normal,[a0,t0,(.bool false),t6,bD],dJ)) (some (.normal,[a0,t0,(.bool false),t6,bD],bC))).bind fun dD=>uq5 dD.2 fun aX aH aY aZ a_ dB=>Ex.rQ dD.1 ((mF true 6 dB aH).bind fun dY=>kq1 K 36 dY dB fun t60 dC=>(nK t60).bind fun dZ=>(nL (wO K (aa5 dC)) ([aX,aH,aY,aZ,a_,t60,dZ,(iq 0)],dC)).bind fun aV=>uq8 aV.2 fun aC aA aJ aL aM bE bF bG aE=>Ex.nC aV.1 none (fun bH=>Ex.inBlock 0 bH ((mF true 6 aE aM).bind fun t130=>(mF true 6 aE aA).bind fun t131=>(qD [.i,.i,.i,.i,.i,.i] t130 t131).bind fun t132=>rH false (.bool (!t132)) (mG 0 aL) aE fun t134 aN=>rH false (.bool (!t132)) (mF false 1 aN t134) aN fun t137 bJ=>rH false (.bool (!t132)) (some t137) bJ fun t139 bK=>rH true t139 (some aC) bK fun t141 bL=>rH true t139 (mG 1 aA) bL fun t144 aO=>rH true t139 (mF false 1 aO t144) aO fun t147 aP=>gq true t139 (mR (uk2 K 37 t141 t147 aP) (fun t149 bM=>mM t149 bM) Gk) aP fun t151 bN=>rH true t139 (yD .not t151) bN fun t154 bO=>rH false (.bool (!t132)) (nA t139 t154 (.bool false)) bO fun t157 aI=>(nA (.bool (!t132)) (.bool true) t157).bind fun t159=>mH t159 (some (.ret,[(.bool false)],aI)) (fq 0 aA aI fun t161=>(mP .eql t161 (iq 18)).bind fun t162=>rH false t162 (mG 0 aA) aI fun t164 aQ=>rH false t162 (mF false 1 aQ t164) aQ fun cC bP=>rH false t162 (mP .eql cC (iq 19)) bP fun cD aF=>(nA t162 (.bool true) cD).bind fun cE=>mH cE (fq 5 aA aF fun cF=>(mO aC).bind fun cG=>(mG 0 cG).bind fun cH=>fq 1 cH aF fun cI=>(nK cI).bind fun cJ=>(mP .lss cF cJ).bind fun aD=>rH true aD (mG 0 aA) aF fun cK aR=>rH true aD (mF false 1 aR cK) aR fun cL bQ=>rH true aD (mP .eql cL (iq 18)) bQ fun cM bR=>rH true aD (some cM) bR fun aB bS=>rH false aB (some aC) bS fun cN bT=>rH false aB (mO cN) bT fun cO bU=>rH false aB (mG 0 cO) bU fun cP bV=>rH false aB (mG 1 cP) bV fun cQ aS=>rH false aB (mF false 1 aS cQ) aS fun cR bW=>rH false aB (mG 5 aA) bW fun cS aT=>rH false aB (mF false 1 aT cS) aT fun cT bX=>rH false aB (mI 4 cR cT) bX fun cU bY=>rH false aB (mG 2 cU) bY fun cV aU=>rH false aB (mF false 1 aU cV) aU fun cW bZ=>rH false aB (mP .neq cW (iq 1)) bZ fun cX b_=>rH true aD (nA aB (.bool true) cX) b_ fun cY cA=>(nA aD cY (.bool false)).bind fun cZ=>some (.ret,[cZ],cA)) (some (.ret,[(.bool true)],aF)))) (fun bI=>some (bI,[aJ],aE)))))).bind fun aW=>Ut aW.2 fun aK cB=>Ex.oA aW.1 (nZ (aa5 h0) aK cB)
theorem am5 K a0 a1 h0:p9 Tryz.prog nM nL K 19 [a0,a1] h0=m19 (mW nM K) a0 a1 h0:=by kernel_rfl
def m20 (K:mA) (a0 a1:lS) (h0:lT):OH :=
 (mC (nP 4 h0 a1) fun t0 h1=>fq 0 t0 h1 fun t3=>aq .eql t3 (iq 1) ((mF true 4 h1 t0).bind fun t5=>fq 2 t0 h1 fun t7=>(mV [(iq 0),(iq 0),(iq 0),(iq 0)] [(0,1),(1,1),(2,1),(3,1)] [(0,(iq 1)),(2,t7)]).bind fun t8=>(qD [.i,.i,.i,.i] t5 t8).bind fun t9=>rH true (.bool t9) (some a0) h1 fun aU aJ=>rH true (.bool t9) (mG 2 t0) aJ fun t13 aC=>rH true (.bool t9) (mF false 1 aC t13) aC fun aV aD=>gq true (.bool t9) (mR (uk2 K 38 aU aV aD) (fun aW aK=>mM aW aK) Gk) aD fun aX aL=>(nA (.bool t9) aX (.bool false)).bind fun aY=>some (.ret,[aY],aL)) (aq .eql t3 (iq 2) (fq 1 t0 h1 fun aZ=>kq2 K 37 a0 aZ h1 fun t26 aM=>rH true t26 (some a0) aM fun t28 aN=>rH true t26 (mG 2 t0) aN fun t31 aE=>rH true t26 (mF false 1 aE t31) aE fun a_ aF=>gq true t26 (mR (uk2 K 38 t28 a_ aF) (fun t36 aO=>mM t36 aO) Gk) aF fun bB aP=>(nA t26 bB (.bool false)).bind fun aA=>rH true aA (some a0) aP fun bC aQ=>rH true aA (mG 3 t0) aQ fun bD aG=>rH true aA (mF false 1 aG bD) aG fun bE aH=>gq true aA (mR (uk2 K 38 bC bE aH) (fun bF aR=>mM bF aR) Gk) aH fun bG aS=>(nA aA bG (.bool false)).bind fun t53=>some (.ret,[t53],aS)) ((mF true 4 h1 t0).bind fun bH=>(mV [(iq 0),(iq 0),(iq 0),(iq 0)] [(0,1),(1,1),(2,1),(3,1)] [(0,(iq 3))]).bind fun bI=>(qD [.i,.i,.i,.i] bH bI).bind fun bJ=>some (.ret,[(.bool bJ)],h1)))).bind fun aI=>Ut aI.2 fun aB aT=>Ex.oA aI.1 (nZ (aa5 h0) aB aT)
theorem am6 K a0 a1 h0:p9 Tryz.prog nM nL K 20 [a0,a1] h0=m20 (mW nM K) a0 a1 h0:=by kernel_rfl
def m33 (K:mA) (a0:lS) (h0:lT):OH :=
 (mC (nP 4 h0 a0) fun t0 h1=>fq 0 t0 h1 fun t3=>(mP .eql t3 (iq 1)).bind fun t4=>rH false t4 (mG 0 t0) h1 fun t6 h7=>rH false t4 (mF false 1 h7 t6) h7 fun t9 aE=>rH false t4 (mP .eql t9 (iq 4)) aE fun t12 aF=>(nA t4 (.bool true) t12).bind fun t14=>rH true t14 (mG 1 t0) aF fun aL aB=>rH true t14 (mF false 1 aB aL) aB fun aM aG=>rH true t14 (mP .geq aM (iq 1)) aG fun aN aH=>(nA t14 aN (.bool false)).bind fun t24=>rH true t24 (mG 1 t0) aH fun t26 aC=>rH true t24 (mF false 1 aC t26) aC fun t29 aI=>rH true t24 (mP .leq t29 (iq 16384)) aI fun t32 aJ=>(nA t24 t32 (.bool false)).bind fun aO=>some (.ret,[aO],aJ)).bind fun aD=>Ut aD.2 fun aA aK=>Ex.oA aD.1 (nZ (aa5 h0) aA aK)
theorem anH K a0 h0:p9 Tryz.prog nM nL K 33 [a0] h0=m33 (mW nM K) a0 h0:=by kernel_rfl
def m34 (K:mA) (a0:lS) (h0:lT):OH :=
 ((mP .add a0 (iq 4)).bind fun t0=>(mP .sub t0 (iq 1)).bind fun t1=>(mP .quo t1 (iq 4)).bind fun t2=>(mP .mul t2 (iq 4)).bind fun t3=>some (.ret,[t3],h0)).bind fun r4=>Ut r4.2 fun aA h6=>Ex.oA r4.1 (nZ (aa5 h0) aA h6)
theorem anI K a0 h0:p9 Tryz.prog nM nL K 34 [a0] h0=m34 (mW nM K) a0 h0:=by kernel_rfl
def m35 (K:mA) (a0:lS) (h0:lT):OH :=
 (mC (nP 5 h0 (.agg [(.bool false),(iq 0),(iq 0),(iq 0),(.bool false)])) fun t0 h1=>aq .eql a0 (iq 1) ((mV [(.bool false),(iq 0),(iq 0),(iq 0),(.bool false)] [(0,1),(1,1),(2,1),(3,1),(4,1)] [(0,(.bool true)),(1,(iq 0)),(2,(iq 0)),(3,(iq 4294967295)),(4,(.bool true))]).bind fun t3=>(mL 5 h1 t0 t3).bind fun h4=>some (.ret,[t0],h4)) ((mP .eql a0 (iq 2)).bind fun t5=>(mH t5 (some (.normal,[t0,a0,t5],h1)) ((mP .eql a0 (iq 10)).bind fun t6=>some (.normal,[t0,a0,t6],h1))).bind fun r7=>V6 r7.2 fun aC aA bM aF=>Ex.rQ r7.1 (mH bM ((mV [(.bool false),(iq 0),(iq 0),(iq 0),(.bool false)] [(0,1),(1,1),(2,1),(3,1),(4,1)] [(0,(.bool true)),(1,(iq 1)),(2,(iq 0)),(3,(iq 0)),(4,(.bool true))]).bind fun t12=>(mL 5 aF aC t12).bind fun cI=>some (.ret,[aC],cI)) ((mP .eql aA (iq 3)).bind fun t14=>(mH t14 (some (.normal,[aC,aA,t14],aF)) ((mP .eql aA (iq 4)).bind fun t15=>(mH t15 (some (.normal,[aC,aA,t15],aF)) ((mP .eql aA (iq 5)).bind fun b_=>(mH b_ (some (.normal,[aC,aA,b_],aF)) ((mP .eql aA (iq 6)).bind fun cA=>(mH cA (some (.normal,[aC,aA,cA],aF)) ((mP .eql aA (iq 7)).bind fun cB=>(mH cB (some (.normal,[aC,aA,cB],aF)) ((mP .eql aA (iq 8)).bind fun cC=>(mH cC (some (.normal,[aC,aA,cC],aF)) ((mP .eql aA (iq 9)).bind fun cD=>(mH cD (some (.normal,[aC,aA,cD],aF)) ((mP .eql aA (iq 14)).bind fun cE=>(mH cE (some (.normal,[aC,aA,cE],aF)) ((mP .eql aA (iq 15)).bind fun cF=>(mH cF (some (.normal,[aC,aA,cF],aF)) ((mP .eql aA (iq 16)).bind fun t23=>some (.normal,[aC,aA,t23],aF))).bind fun yE=>V6 yE.2 fun aT bD aH cJ=>Ex.rQ yE.1 (some (.normal,[aT,bD,aH],cJ)))).bind fun CX=>V6 CX.2 fun aU bE aI cK=>Ex.rQ CX.1 (some (.normal,[aU,bE,aI],cK)))).bind fun bQ=>V6 bQ.2 fun aV bF aJ cL=>Ex.rQ bQ.1 (some (.normal,[aV,bF,aJ],cL)))).bind fun bR=>V6 bR.2 fun aW bG aK cM=>Ex.rQ bR.1 (some (.normal,[aW,bG,aK],cM)))).bind fun bS=>V6 bS.2 fun aX bH aL cN=>Ex.rQ bS.1 (some (.normal,[aX,bH,aL],cN)))).bind fun bT=>V6 bT.2 fun aY bI aM cO=>Ex.rQ bT.1 (some (.normal,[aY,bI,aM],cO)))).bind fun bU=>V6 bU.2 fun aZ bJ aN cP=>Ex.rQ bU.1 (some (.normal,[aZ,bJ,aN],cP)))).bind fun bV=>V6 bV.2 fun a_ bK aO cQ=>Ex.rQ bV.1 (some (.normal,[a_,bK,aO],cQ)))).bind fun bW=>V6 bW.2 fun aE aD aP bN=>Ex.rQ bW.1 (mH aP ((mV [(.bool false),(iq 0),(iq 0),(iq 0),(.bool false)] [(0,1),(1,1),(2,1),(3,1),(4,1)] [(0,(.bool true)),(1,(iq 2)),(2,(iq 0)),(3,(iq 0)),(4,(.bool true))]).bind fun cY=>(mL 5 bN aE cY).bind fun cR=>some (.ret,[aE],cR)) ((mP .eql aD (iq 11)).bind fun cG=>(mH cG (some (.normal,[aE,aD,cG],bN)) ((mP .eql aD (iq 12)).bind fun cH=>(mH cH (some (.normal,[aE,aD,cH],bN)) ((mP .eql aD (iq 13)).bind fun t73=>some (.normal,[aE,aD,t73],bN))).bind fun bX=>V6 bX.2 fun bB bL aQ cS=>Ex.rQ bX.1 (some (.normal,[bB,bL,aQ],cS)))).bind fun bY=>V6 bY.2 fun aB aG aR aS=>Ex.rQ bY.1 (mH aR ((mV [(.bool false),(iq 0),(iq 0),(iq 0),(.bool false)] [(0,1),(1,1),(2,1),(3,1),(4,1)] [(0,(.bool true)),(1,(iq 1)),(2,(iq 0)),(3,(iq 31)),(4,(.bool true))]).bind fun cZ=>(mL 5 aS aB cZ).bind fun cT=>some (.ret,[aB],cT)) (aq .eql aG (iq 17) ((mV [(.bool false),(iq 0),(iq 0),(iq 0),(.bool false)] [(0,1),(1,1),(2,1),(3,1),(4,1)] [(0,(.bool true)),(1,(iq 3)),(2,(iq 0)),(3,(iq 0)),(4,(.bool true))]).bind fun c7=>(mL 5 aS aB c7).bind fun cU=>some (.ret,[aB],cU)) (aq .eql aG (iq 18) ((mV [(.bool false),(iq 0),(iq 0),(iq 0),(.bool false)] [(0,1),(1,1),(2,1),(3,1),(4,1)] [(0,(.bool true)),(1,(iq 1)),(2,(iq 0)),(3,(iq 1048576)),(4,(.bool true))]).bind fun c8=>(mL 5 aS aB c8).bind fun cV=>some (.ret,[aB],cV)) (aq .eql aG (iq 19) ((mV [(.bool false),(iq 0),(iq 0),(iq 0),(.bool false)] [(0,1),(1,1),(2,1),(3,1),(4,1)] [(0,(.bool false)),(1,(iq 2)),(2,(iq 0)),(3,(iq 1048576)),(4,(.bool true))]).bind fun c_=>(mL 5 aS aB c_).bind fun cW=>some (.ret,[aB],cW)) ((mV [(.bool false),(iq 0),(iq 0),(iq 0),(.bool false)] [(0,1),(1,1),(2,1),(3,1),(4,1)] []).bind fun dA=>(mL 5 aS aB dA).bind fun cX=>some (.ret,[aB],cX)))))))))))).bind fun bZ=>Ut bZ.2 fun bC bP=>Ex.oA bZ.1 ((mF true 5 bP bC).bind fun bO=>nZ (aa5 h0) bO bP)
theorem anJ K a0 h0:p9 Tryz.prog nM nL K 35 [a0] h0=m35 (mW nM K) a0 h0:=by kernel_rfl
def m37 (K:mA) (a0 a1:lS) (h0:lT):OH :=
 ((mO a0).bind fun t0=>(mG 0 t0).bind fun t1=>fq 0 t1 h0 fun t3=>(mP .sub t3 (iq 1)).bind fun t4=>kq3 K 17 a1 (iq 0) t4 h0 fun t5 h6=>some (.ret,[t5],h6)).bind fun r7=>Ut r7.2 fun aA h9=>Ex.oA r7.1 (nZ (aa5 h0) aA h9)
theorem anL K a0 a1 h0:p9 Tryz.prog nM nL K 37 [a0,a1] h0=m37 (mW nM K) a0 a1 h0:=by kernel_rfl
def m38 (K:mA) (a0 a1:lS) (h0:lT):OH :=
 ((mO a0).bind fun t0=>(mG 0 t0).bind fun t1=>fq 2 t1 h0 fun t3=>(nK t3).bind fun t4=>(mP .sub t4 (iq 1)).bind fun t5=>kq3 K 17 a1 (.int .i64 (-1)) t5 h0 fun t6 h7=>some (.ret,[t6],h7)).bind fun r8=>Ut r8.2 fun aA aB=>Ex.oA r8.1 (nZ (aa5 h0) aA aB)
theorem anM K a0 a1 h0:p9 Tryz.prog nM nL K 38 [a0,a1] h0=m38 (mW nM K) a0 a1 h0:=by kernel_rfl
def m73 (K:mA) (a0:lS) (h0:lT):OH :=
 (mC (nP 6 h0 a0) fun t0 h1=>fq 0 t0 h1 fun t3=>kq1 K 35 t3 h1 fun t4 h5=>(Bp false 1 0 t4).bind fun t6=>some (.ret,[t6],h5)).bind fun r7=>Ut r7.2 fun aA h9=>Ex.oA r7.1 (nZ (aa5 h0) aA h9)
theorem an0 K a0 h0:p9 Tryz.prog nM nL K 73 [a0] h0=m73 (mW nM K) a0 h0:=by kernel_rfl
def m36 (K:mA) (a0:lS) (h0:lT):OH :=
 (mC (nP 6 h0 a0) fun t0 h1=>(fun(t3:lS) (h2:lT)=>fq 2 t0 h2 fun t5=>fq 3 t0 h2 fun t7=>fq 4 t0 h2 fun t9=>mC (mD 3 1 [(iq 0)] [(0,t5),(1,t7),(2,t9)] h2) fun aF aB=>fq 0 t0 aB fun t13=>kq1 K 35 t13 aB fun t14 aD=>(Bp false 1 1 t14).bind fun aG=>(pF 1 aF none (some aG)).bind fun aH=>some (.ret,[aH],aD)) (.slice [] (.own (aa5 h1))) (h1++[.front 0 0])).bind fun aC=>Ut aC.2 fun aA aE=>Ex.oA aC.1 (nZ (aa5 h0) aA aE)
theorem anK K a0 h0:p9 Tryz.prog nM nL K 36 [a0] h0=m36 (mW nM K) a0 h0:=by kernel_rfl
end
section
open Go Hk
noncomputable abbrev KK:mA:=mW nM (Iq Tryz.prog nM)
structure Op where
 kind:Int
 dst:Int
 a:Int
 b:Int
 c:Int
 imm:Int
 deriving DecidableEq
structure Term where
 kind:Int
 a:Int
 yes:Int
 no:Int
 deriving DecidableEq
structure nH where
 elem:Int
 len:Int
 kind:Int
 off:Int
 deriving DecidableEq
structure mU where
 ops:List Op
 term:Term
structure IR where
 temps:Int
 arrays:List nH
 blocks:List mU
 inn:Int
 out:Int
def Op.cells (o:Op):List lS:=[.int .i64 o.kind,.int .i64 o.dst,.int .i64 o.a,.int .i64 o.b,.int .i64 o.c,.int .i64 o.imm]
def Term.cells (t:Term):List lS:=[.int .i64 t.kind,.int .i64 t.a,.int .i64 t.yes,.int .i64 t.no]
def nH.cells (x:nH):List lS:=[.int .i64 x.elem,.int .i64 x.len,.int .i64 x.kind,.int .i64 x.off]
def mU.cells (b:mU):List lS:=[.slice (b.ops.map Op.cells) .no,.int .i64 b.term.kind,.int .i64 b.term.a,.int .i64 b.term.yes,.int .i64 b.term.no]
def IR.cells (p:IR):List lS:=[.int .i64 p.temps,.slice (p.arrays.map nH.cells) .no,.slice (p.blocks.map mU.cells) .no,.int .i64 p.inn,.int .i64 p.out]
attribute [simp] nP nX putCells mV Bp apart
theorem Ov {k:IntKind}{a b:Int}(hb:b≠0):mP .quo (.int k a) (.int k b)=some (.int k (k.wrap (a.tdiv b))):=by simp [mP,hb]
theorem sI {k:IntKind}{a b:Int}(hb:b≠0):mP .rem (.int k a) (.int k b)=some (.int k (a.tmod b)):=by simp [mP,hb]
def nJ (n l m:Int):Bool:=decide (l≤n)&&decide (n≤m)
theorem DD (n l m:Int) (h:lT):KK 17 [.int .i64 n,.int .i64 l,.int .i64 m] h=some (.ret (.bool (nJ n l m)),h):=by
 refine nN rfl rfl (oN (am3 _ _ _ _ _) ?_)
 by_cases h1:l≤n <;> by_cases h2:n≤m <;> simp [m17,nJ,h1,h2,nE]
def uB (x:nH):Bool:=(decide (x.elem=1) || decide (x.elem=4))&&(decide (1≤x.len)&&decide (x.len≤16384))
theorem c33 (x:nH) (h:lT):KK 33 [.agg x.cells] h=some (.ret (.bool (uB x)),h):=by
 refine nN rfl rfl (oN (anH _ _ _) ?_)
 by_cases h1:x.elem=1
 ·by_cases h3:1≤x.len <;> by_cases h4:x.len≤16384 <;> simp [m33,uB,nH.cells,h1,h3,h4,nE]
 ·by_cases h2:x.elem=4 <;> by_cases h3:1≤x.len <;> by_cases h4:x.len≤16384 <;> simp [m33,uB,nH.cells,h1,h2,h3,h4,nE]
def Lx (n:Int):Int:=(n+3)/4*4
theorem c34 (n:Int) (hn:0≤n) (hn2:n≤1000000000) (h:lT):KK 34 [.int .i64 n] h=some (.ret (.int .i64 (Lx n)),h):=by
 refine nN rfl rfl (oN (anI _ _ _) ?_)
 have w1:IntKind.i64.wrap (n+4)=n+4:=by rw [wrap64] <;> omega
 have w2:IntKind.i64.wrap (n+4-1)=n+3:=by rw [wrap64] <;> omega
 have w3:(n+3).tdiv 4=(n+3)/4:=Int.tdiv_eq_ediv_of_nonneg (by omega)
 have w4:IntKind.i64.wrap ((n+3)/4)=(n+3)/4:=by rw [wrap64] <;> omega
 have w5:IntKind.i64.wrap ((n+3)/4*4)=(n+3)/4*4:=by rw [wrap64] <;> omega
 simp [m34,Ov,Lx,w1,w2,w3,w4,w5,nE]
end
section
open Go Hk
theorem C4 {a:Nat}(h:a≤9223372036854775806):IntKind.wrap .i64 ((a:Int)+1)=(a:Int)+1:=by rw [wrap64] <;> omega
def Fx:List mU→Int
 | []=>0
 | b::r=>(b.ops.length:Int)+Fx r
theorem Np:∀l,0≤Fx l
 | []=>Int.le_refl _
 | b::r=>by have:=Np r;simp only [Fx];omega
def u7 (x:nH):Int:=if uB x=true∧x.kind=0 then Lx (x.elem*x.len) else 0
theorem uF {x:nH}(h:uB x=true):1≤x.elem*x.len∧x.elem*x.len≤65536:=by
 simp only [uB,aq1,Bool.or_eq_true,decide_eq_true_eq] at h
 obtain⟨h1,h2,h3⟩:=h
 rcases h1 with h1 | h1 <;> rw [h1] <;> omega
theorem Uk (x:nH):0≤u7 x∧u7 x≤65536:=by
 unfold u7
 split
 ·rename_i h
  have:=uF h.1
  unfold Lx;omega
 ·omega
def x8:List nH→Int
 | []=>0
 | x::r=>u7 x+x8 r
theorem FB:∀l,0≤x8 l
 | []=>Int.le_refl _
 | x::r=>by have:=FB r;have:=Uk x;simp only [x8];omega
def pV (p:IR):Bool:=decide (p.temps≤1048576)&&decide ((p.arrays.length:Int)≤1048576)&&decide ((p.blocks.length:Int)≤1048576)&&decide (Fx p.blocks≤1048576)&&decide (max p.out 0+x8 p.arrays≤65536)
theorem Vf (B:List mU) (hB:B.length≤1048576) (P:List lS) (by_:Int) (hh:∀C,o_ 1 (.cells P::C)=some [.cells P]):∀(n i:Nat) (acc:Int),B.length<i+n→i≤B.length→0≤acc→acc≤1048576 →
  ∃(e:Ex) (acc':Int) (j:Int),nL (IN KK 1) ([.ptr 0 0,.bool false,.int .i64 acc,.int .i64 by_,.slice (B.map mU.cells) .no,.int .i64 (B.length:Int),.int .i64 (i:Int)],[.cells P]) =
   some (e,[.ptr 0 0,.bool false,.int .i64 acc',.int .i64 by_,.slice (B.map mU.cells) .no,.int .i64 (B.length:Int),.int .i64 j],[.cells P]) ∧
   (e=.ret∧¬acc+Fx (B.drop i)≤1048576∨e=.exit 0∧acc+Fx (B.drop i)≤1048576):=by
 have q0:∀h,lS.oL 1 h (.ptr 0 0)=.ptr 0 0:=fun h=>qG (by omega)
 intro n
 induction n with
 | zero=>intro i acc a1 a2;omega
 | succ n ih =>
  intro i acc a1 a2 h1 h2
  rw [nW]
  by_cases hi:i<B.length
  ·have hi':(i:Int)<B.length:=by omega
   have hx:B[i]?=some B[i]:=ag8 hi
   have w1:=C4 (a:=i) (by omega)
   rw [ar7 hi]
   generalize B[i]=y at *
   have w2:IntKind.i64.wrap (1048576-acc)=1048576-acc:=by rw [wrap64] <;> omega
   have hnn:=Np (B.drop (i+1))
   by_cases hg:1048576-acc<(y.ops.length:Int)
   ·refine⟨.ret,acc,i,?_,.inl ⟨rfl,by simp only [Fx];omega⟩⟩
    simp [IN,hi',hx,mU.cells,w2,hg,mK,hh,q0]
   ·have w3:IntKind.i64.wrap (acc+(y.ops.length:Int))=acc+(y.ops.length:Int):=by rw [wrap64] <;> omega
    obtain⟨e,acc',j,g1,g2⟩:=ih (i+1) (acc+y.ops.length) (by omega) hi (by omega) (by omega)
    refine⟨e,acc',j,?_,?_⟩
    ·simp only [ax3,aw6] at g1
     rw [←g1]
     simp [IN,hi',hx,mU.cells,w1,w2,w3,hg,mK,hh,q0]
    ·simpa [Fx,Int.add_assoc] using g2
  ·have hi':¬(i:Int)<B.length:=by omega
   have:B.drop i=[]:=List.drop_eq_nil_of_le (by omega)
   rw [this]
   refine⟨.exit 0,acc,i,?_,.inr ⟨rfl,by simp only [Fx];omega⟩⟩
   simp [IN,hi',mK,hh,q0]
theorem Vg (A:List nH) (hA:A.length≤1048576) (P:List lS) (hh:∀C,o_ 1 (.cells P::C)=some [.cells P]):∀(n i:Nat) (acc:Int),A.length<i+n→i≤A.length→0≤acc→acc≤65537 →
  ∃(e:Ex) (acc':Int) (j:Int),nL (x5 KK 1) ([.bool false,.int .i64 acc,.slice (A.map nH.cells) .no,.int .i64 (A.length:Int),.int .i64 (i:Int)],[.cells P]) =
   some (e,[.bool false,.int .i64 acc',.slice (A.map nH.cells) .no,.int .i64 (A.length:Int),.int .i64 j],[.cells P]) ∧
   (e=.ret∧¬acc+x8 (A.drop i)≤65536∨e=.exit 2∧acc'=acc+x8 (A.drop i)):=by
 intro n
 induction n with
 | zero=>intro i acc a1 a2;omega
 | succ n ih =>
  intro i acc a1 a2 h1 h2
  rw [nW]
  by_cases hi:i<A.length
  ·have hi':(i:Int)<A.length:=by omega
   have hx:A[i]?=some A[i]:=ag8 hi
   have w1:=C4 (a:=i) (by omega)
   rw [ar7 hi]
   generalize A[i]=y at *
   have hnn:=FB (A.drop (i+1))
   have hr:=Uk y
   have h132:=c33 y
   have step:∃acc1,acc1=acc+u7 y∧(¬acc1≤65536→x5 KK 1 ([.bool false,.int .i64 acc,.slice (A.map nH.cells) .no,.int .i64 (A.length:Int),.int .i64 (i:Int)],[.cells P])=some (.ret,[.bool false,.int .i64 acc1,.slice (A.map nH.cells) .no,.int .i64 (A.length:Int),.int .i64 (i:Int)],[.cells P])) ∧
     (acc1≤65536→x5 KK 1 ([.bool false,.int .i64 acc,.slice (A.map nH.cells) .no,.int .i64 (A.length:Int),.int .i64 (i:Int)],[.cells P])=some (.normal,[.bool false,.int .i64 acc1,.slice (A.map nH.cells) .no,.int .i64 (A.length:Int),.int .i64 ((i:Int)+1)],[.cells P])):=by
    refine⟨_,rfl,?_,?_⟩ <;> intro hle <;> cases hs:uB y
    ·have e0:u7 y=0:=by simp [u7,hs]
     rw [e0,Int.add_zero] at hle ⊢
     have hg:65536<acc:=by omega
     simp only [hs,nH.cells] at h132
     simp [x5,hi',hx,nH.cells,h132,hg,mK,hh]
    ·have hm:=uF hs
     simp only [hs,nH.cells] at h132
     by_cases hk:y.kind=0
     ·have e0:u7 y=Lx (y.elem*y.len):=by simp [u7,hs,hk]
      rw [hk] at h132
      have h133:=c34 (y.elem*y.len) (by omega) (by omega)
      have hu:0≤Lx (y.elem*y.len)∧Lx (y.elem*y.len)≤65536:=by rw [←e0];exact hr
      have w2:IntKind.i64.wrap (y.elem*y.len)=y.elem*y.len:=by rw [wrap64] <;> omega
      rw [e0] at hle ⊢
      generalize Lx (y.elem*y.len)=u at *
      have w3:IntKind.i64.wrap (acc+u)=acc+u:=by rw [wrap64] <;> omega
      have hg:65536<acc+u:=by omega
      simp [x5,hi',hx,nH.cells,h132,h133,hk,w2,w3,hg,mK,hh]
     ·have e0:u7 y=0:=by simp [u7,hk]
      rw [e0,Int.add_zero] at hle ⊢
      have hg:65536<acc:=by omega
      simp [x5,hi',hx,nH.cells,h132,hk,hg,mK,hh]
    ·have e0:u7 y=0:=by simp [u7,hs]
     rw [e0,Int.add_zero] at hle ⊢
     have hg:¬65536<acc:=by omega
     simp only [hs,nH.cells] at h132
     simp [x5,hi',hx,nH.cells,h132,hg,mK,hh,w1]
    ·have hm:=uF hs
     simp only [hs,nH.cells] at h132
     by_cases hk:y.kind=0
     ·have e0:u7 y=Lx (y.elem*y.len):=by simp [u7,hs,hk]
      rw [hk] at h132
      have h133:=c34 (y.elem*y.len) (by omega) (by omega)
      have hu:0≤Lx (y.elem*y.len)∧Lx (y.elem*y.len)≤65536:=by rw [←e0];exact hr
      have w2:IntKind.i64.wrap (y.elem*y.len)=y.elem*y.len:=by rw [wrap64] <;> omega
      rw [e0] at hle ⊢
      generalize Lx (y.elem*y.len)=u at *
      have w3:IntKind.i64.wrap (acc+u)=acc+u:=by rw [wrap64] <;> omega
      have hg:¬65536<acc+u:=by omega
      simp [x5,hi',hx,nH.cells,h132,h133,hk,w2,w3,hg,mK,hh,w1]
     ·have e0:u7 y=0:=by simp [u7,hk]
      rw [e0,Int.add_zero] at hle ⊢
      have hg:¬65536<acc:=by omega
      simp [x5,hi',hx,nH.cells,h132,hk,hg,mK,hh,w1]
   obtain⟨acc1,ha,s1,s2⟩:=step
   by_cases hg:acc1≤65536
   ·obtain⟨e,acc',j,g1,g2⟩:=ih (i+1) acc1 (by omega) hi (by omega) (by omega)
    refine⟨e,acc',j,?_,?_⟩
    ·simp only [ax3,aw6] at g1
     rw [s2 hg,←g1]
     rfl
    ·rw [ha] at g2
     simpa [x8,Int.add_assoc] using g2
   ·refine⟨.ret,acc1,i,?_,.inl ⟨rfl,by simp only [x8];omega⟩⟩
    rw [s1 hg]
    rfl
  ·have hi':¬(i:Int)<A.length:=by omega
   have:A.drop i=[]:=List.drop_eq_nil_of_le (by omega)
   rw [this]
   refine⟨.exit 2,acc,i,?_,.inr ⟨rfl,by simp [x8]⟩⟩
   simp [x5,hi',mK,hh]
theorem c16 (p:IR) (h:lT):KK 16 [.agg p.cells] h=some (.ret (.bool (pV p)),h):=by
 refine nN rfl rfl (oN (am2 _ _ _) ?_)
 by_cases h1:p.temps≤1048576
 ·have h1':¬1048576<p.temps:=by omega
  by_cases h2:(p.arrays.length:Int)≤1048576
  ·have h2':¬1048576<(p.arrays.length:Int):=by omega
   by_cases h3:(p.blocks.length:Int)≤1048576
   ·have h3':¬1048576<(p.blocks.length:Int):=by omega
    have hh:∀C,o_ 1 (.cells p.cells::C)=some [.cells p.cells]:=fun C=>by simp [o_,IR.cells]
    obtain⟨e,acc',j,g1,g2⟩:=Vf p.blocks (by omega) p.cells (min (max p.out 0) 65537) hh (p.blocks.length+1) 0 0 (by omega) (Nat.zero_le _) (by omega) (by omega)
    obtain⟨e',acc'',j',g3,g4⟩:=Vg p.arrays (by omega) p.cells hh (p.arrays.length+1) 0 (min (max p.out 0) 65537) (by omega) (Nat.zero_le _) (by omega) (by omega)
    have hr:=FB p.arrays
    simp only [List.drop_zero,Int.zero_add,aw6,IR.cells] at g1 g2 g3 g4
    rcases g2 with ⟨rfl,g2⟩ | ⟨rfl,g2⟩
    ·have hl:pV p=false:=by simp [pV,g2]
     rw [hl]
     simp [m16,IR.cells,h1',h2',h3',g1,nE]
    ·rcases g4 with ⟨rfl,g4⟩ | ⟨rfl,g4⟩
     ·have hl:pV p=false:=by
       simp only [pV,Bool.and_eq_false_iff,decide_eq_false_iff_not]
       right;omega
      rw [hl]
      simp [m16,IR.cells,h1',h2',h3',g1,g3,nE]
     ·have hl:pV p=decide (acc''≤65536):=by
       have:(max p.out 0+x8 p.arrays≤65536)↔acc''≤65536:=by omega
       simp [pV,h1,h2,h3,g2,this]
      rw [hl]
      simp [m16,IR.cells,h1',h2',h3',g1,g3,nE]
   ·have h3':1048576<(p.blocks.length:Int):=by omega
    have hl:pV p=false:=by simp [pV,h3]
    rw [hl]
    simp [m16,IR.cells,h1',h2',h3',nE]
  ·have h2':1048576<(p.arrays.length:Int):=by omega
   have hl:pV p=false:=by simp [pV,h2]
   rw [hl]
   simp [m16,IR.cells,h1',h2',nE]
 ·have h1':1048576<p.temps:=by omega
  have hl:pV p=false:=by simp [pV,h1]
  rw [hl]
  simp [m16,IR.cells,h1',nE]
end
section
open Go Hk
def CN (n:Nat) (C:List mT):Prop:=∀m h,n≤m→pC m h C=some C
def yF (n:Nat) (cs:List lS):Prop:=∀m h,n≤m→nQ m h cs=some cs
section
variable {n:Nat}
theorem CN.mono {k:Nat}{C:List mT}(h:CN n C) (hk:n≤k):CN k C:=fun m x hm=>h m x (ax9 hk hm)
theorem yU {m:Nat}{h:lT}:∀{B C:List mT},pC m h B=some B→pC m h C=some C→pC m h (B++C)=some (B++C)
 | [],_,_,h2=>h2
 | b::r,C,h1,h2=>by
  simp only [pC] at h1
  split at h1
  ·rename_i b' r' e1 e2
   simp only [ah5,List.cons.injEq] at h1
   obtain⟨rfl,rfl⟩:=h1
   simp only [ax4,pC,e1,yU e2 h2]
  ·cases h1
theorem qP {B C:List mT}(h1:CN n B) (h2:CN n C):CN n (B++C):=fun m h hm=>yU (h1 m h hm) (h2 m h hm)
theorem rW:CN n []:=fun _ _ _=>rfl
theorem pL {i j:Nat}{C:List mT}(h:CN n C):CN n (.front i j::C):=fun m x hm=>by simp [h m x hm]
theorem sN {cs:List lS}{C:List mT}(h1:yF n cs) (h:CN n C):CN n (.cells cs::C):=fun m x hm=>by simp [h m x hm,h1 m x hm]
theorem Tk:yF n []:=fun _ _ _=>rfl
end
section
variable {n:Nat}
theorem CP {i j:Nat}{C:List mT}:CN n (.front i j::C)↔CN n C:=⟨fun h m x hm=>by
 have:=h m x hm
 simp only [xG,NH,ak6,ah7] at this
 obtain⟨r,h1,h2⟩:=this
 cases h2;exact h1,pL⟩
theorem Aw {C:List mT}:CN n (.gone::C)↔CN n C:=⟨fun h m x hm=>by
 have:=h m x hm
 have e:pX m x .gone=some .gone:=rfl
 simp only [xG,e,ak6,ah7] at this
 obtain⟨r,h1,h2⟩:=this
 cases h2;exact h1,fun h m x hm=>by
 have e:pX m x .gone=some .gone:=rfl
 simp only [xG,e,ak6,h m x hm,Option.map_some]⟩
theorem CO {cs:List lS}{C:List mT}:CN n (.cells cs::C)↔yF n cs∧CN n C:=⟨fun h=>by
 have key:∀m x,n≤m→nQ m x cs=some cs∧pC m x C=some C:=fun m x hm=>by
  have:=h m x hm
  simp only [xG,NG,ac6,ah7] at this
  obtain⟨b,⟨c,h1,h2⟩,r,h3,h4⟩:=this
  cases h2;cases h4;exact⟨h1,h3⟩
 exact⟨fun m x hm=>(key m x hm).1,fun m x hm=>(key m x hm).2⟩,fun h=>sN h.1 h.2⟩
theorem Av {v:lS}{cs:List lS}(hv:∀m x,n≤m→v.oL m x=v) (hc:v.mZ=true):yF n (v::cs)↔yF n cs:=by
 constructor
 ·intro h m x hm
  have:=h m x hm
  simp only [pY,hv m x hm,hc,cond_true,ah7] at this
  obtain⟨r,h1,h2⟩:=this
  cases h2;exact h1
 ·intro h m x hm
  simp only [pY,hv m x hm,hc,cond_true,h m x hm,Option.map_some]
theorem Oe {k:IntKind}{z:Int}{cs:List lS}:yF n (.int k z::cs)↔yF n cs:=Av (fun _ _ _=>rfl) rfl
theorem Oh {z:List UInt8}{cs:List lS}:yF n (.str z::cs)↔yF n cs:=Av (fun _ _ _=>rfl) rfl
theorem LF {z:Bool}{cs:List lS}:yF n (.bool z::cs)↔yF n cs:=Av (fun _ _ _=>rfl) rfl
theorem JW {rows:List (List lS)}{cs:List lS}:yF n (.slice rows .no::cs)↔yF n cs:=Av (fun _ _ _=>rfl) rfl
theorem Of {rows:List (List lS)}{id:Nat}{cs:List lS}:yF n (.slice rows (.own id)::cs)↔id<n∧yF n cs:=by
 have key:∀hi:id<n,yF n (.slice rows (.own id)::cs)↔yF n cs:=fun hi=>Av (fun m x hm=>by
  have:id<m:=by omega
  simp [this]) rfl
 constructor
 ·intro h
  have hi:id<n:=by
   have:=h n [] (ak5 _)
   by_cases hi:id<n
   ·exact hi
   ·exfalso
    simp only [pY,Zl,decide_eq_false hi,cond_false,Mf,cond_true,ah7] at this
    obtain⟨r,h1,h2⟩:=this
    cases h2
  exact⟨hi,(key hi).1 h⟩
 ·rintro⟨hi,h⟩
  exact(key hi).2 h
theorem Og {id o:Nat}{cs:List lS}:yF n (.ptr id o::cs)↔id<n∧yF n cs:=by
 have key:∀hi:id<n,yF n (.ptr id o::cs)↔yF n cs:=fun hi=>Av (fun m x hm=>by
  have:id<m:=by omega
  simp [qG this]) rfl
 constructor
 ·intro h
  have hi:id<n:=by
   have:=h n [] (ak5 _)
   by_cases hi:id<n
   ·exact hi
   ·exfalso
    have e:(lS.ptr id o).oL n []=.junk:=by simp [lS.oL,hi]
    simp [pY,e,lS.mZ] at this
  exact⟨hi,(key hi).1 h⟩
 ·rintro⟨hi,h⟩
  exact(key hi).2 h
end
def OQ (A:List mT) (X:mT) (B:List mT):lT:=A++X::B
def XOk (X:mT):Prop:=∀m h,pX m h X=some X
def HN (A B:List mT):Nat:=A.length+1+B.length
structure KB (A B:List mT):Prop where
 a:∀n,HN A B≤n→CN n A
 b:∀n,HN A B≤n→CN n B
section
variable {A B C:List mT}{X Y Z:mT}{k:Nat}
theorem EZ:HN A (B++C)=HN A B+C.length:=by simp [HN];omega
theorem KB.app (h:KB A B) (hC:CN (HN A B+C.length) C):KB A (B++C):=by
 refine⟨fun n hn=>?_,fun n hn=>?_⟩
 ·rw [EZ] at hn
  exact(h.a (HN A B) (ak5 _)).mono (by omega)
 ·rw [EZ] at hn
  exact qP ((h.b (HN A B) (ak5 _)).mono (by omega)) (hC.mono hn)
theorem LJ:OQ A X B++C=OQ A X (B++C):=by simp [OQ]
theorem C7:(OQ A X B).length=HN A B:=by simp [OQ,HN];omega
theorem azK {cs:List lS}:oX (OQ A (.cells cs) B) A.length=some cs:=by simp [OQ,oX]
theorem zD:List.set (OQ A X B) A.length Y=OQ A Y B:=by
 unfold OQ;rw [List.set_append_right _ _ (ak5 _),Nat.sub_self];rfl
theorem Tq:(OQ A X (B++C))[HN A B+k]?=C[k]?:=by
 unfold OQ HN
 rw [ak0 (by omega),show A.length+1+B.length+k-A.length=B.length+k+1 by omega,List.getElem?_cons_succ,ak0 (by omega),show B.length+k-B.length=k by omega]
theorem ajL:(OQ A X (B++C))[HN A B]?=C[0]?:=Tq (k:=0)
theorem Wt:oX (OQ A X (B++C)) (HN A B+k)=oX C k:=by unfold oX;rw [Tq]
theorem aaN:oX (OQ A X (B++C)) (HN A B)=oX C 0:=Wt (k:=0)
theorem On:sW (OQ A X (B++C)) (HN A B+k)=sW C k:=by unfold sW;rw [Tq]
theorem Uy:sW (OQ A X (B++C)) (HN A B)=sW C 0:=On (k:=0)
theorem Wv {x:mT}:List.set (OQ A X (B++C)) (HN A B+k) x=OQ A X (B++C.set k x):=by
 unfold OQ HN
 rw [List.set_append_right _ _ (by omega),show A.length+1+B.length+k-A.length=B.length+k+1 by omega,List.set_cons_succ,List.set_append_right _ _ (by omega),show B.length+k-B.length=k by omega]
theorem aaP {x:mT}:List.set (OQ A X (B++C)) (HN A B) x=OQ A X (B++C.set 0 x):=Wv (k:=0)
theorem aaO {cs:List lS}:uM (OQ A (.cells cs) B) A.length=OQ A .gone B:=by
 unfold uM
 have:(OQ A (.cells cs) B)[A.length]?=some (.cells cs):=by unfold OQ;rw [ak0 (ak5 _),Nat.sub_self];rfl
 rw [this];exact zD
theorem Wu:uM (OQ A .gone B) A.length=OQ A .gone B:=by
 unfold uM
 have:(OQ A .gone B)[A.length]?=some .gone:=by unfold OQ;rw [ak0 (ak5 _),Nat.sub_self];rfl
 rw [this]
theorem UA {cs:List lS}:rR (OQ A (.cells cs) B) (OQ A Y C) A.length=OQ A (.cells cs) C:=by
 unfold rR
 have:(OQ A (.cells cs) B)[A.length]?=some (.cells cs):=by unfold OQ;rw [ak0 (ak5 _),Nat.sub_self];rfl
 rw [this];exact zD
theorem O2 {cs:List lS}{C:List mT}:uM (.cells cs::C) 0=.gone::C:=(rfl)
theorem QW {C:List mT}:uM (.gone::C) 0=.gone::C:=(rfl)
theorem QX {b:mT}{C:List mT}{k:Nat}:uM (b::C) (k+1)=b::uM C k:=by
 unfold uM
 simp only [List.getElem?_cons_succ]
 cases C[k]? with
 | none=>rfl
 | some b=>cases b <;> rfl
theorem Kw {cs:List lS}{b:mT}{C C':List mT}:rR (.cells cs::C) (b::C') 0=.cells cs::C':=(rfl)
theorem N4 {b b':mT}{C C':List mT}{k:Nat}:rR (b::C) (b'::C') (k+1)=b'::rR C C' k:=by
 unfold rR
 simp only [List.getElem?_cons_succ]
 cases C[k]? with
 | none=>rfl
 | some b=>cases b <;> rfl
theorem Xo {h:lT}:rZ [] h=h:=(rfl)
theorem U6 {h:lT}{i:Nat}{ids:List Nat}:rZ (i::ids) h=rZ ids (uM h i):=(rfl)
theorem Tf {h h':lT}:oD [] h h'=h':=(rfl)
theorem Qg {h h':lT}{i:Nat}{ids:List Nat}:oD (i::ids) h h'=oD ids h (rR h h' i):=(rfl)
theorem QB {i o:Nat}:xR (.ptr i o)=some i:=(rfl)
theorem OA {cs:List lS}:xR (.pptr cs)=none:=(rfl)
theorem tQ (h:KB A B) (hX:XOk X):o_ (HN A B) (OQ A X (B++C))=some (OQ A X B):=by
 have e:OQ A X (B++C)=OQ A X B++C:=LJ.symm
 unfold Hk.o_
 rw [e,←C7 (X:=X),List.take_left,C7]
 exact yU (h.a _ (ak5 _) _ _ (ak5 _)) (by
  have:=hX (HN A B) (OQ A X B++C)
  simp only [pC,this,h.b _ (ak5 _) _ _ (ak5 _)])
theorem qQ (h:KB A B) (hX:XOk X):o_ (HN A B) (OQ A X B)=some (OQ A X B):=by
 have:=tQ (C:=[]) h hX
 rwa [List.append_nil] at this
theorem aaM {v:lS}(h:KB A B) (hX:XOk X):nZ (HN A B) v (OQ A X (B++C))=some (.ret (v.qJ (HN A B) (OQ A X (B++C))).l_,OQ A X B):=by simp [nZ,tQ h hX]
theorem Ws {v:lS}(h:KB A B) (hX:XOk X):nZ (HN A B) v (OQ A X B)=some (.ret (v.qJ (HN A B) (OQ A X B)).l_,OQ A X B):=by simp [nZ,qQ h hX]
theorem Uz (h:KB A (B++C.take k)) (hX:XOk X) (hk:k≤C.length):o_ (HN A B+k) (OQ A X (B++C))=some (OQ A X (B++C.take k)):=by
 have:=tQ (X:=X) (C:=C.drop k) h hX
 rw [EZ,aw8,List.take_append_drop,ar6,Nat.min_eq_left hk] at this
 exact this
theorem LC:A.length<HN A B+k:=by simp [HN];omega
theorem tP:A.length<HN A B:=LC (k:=0)
attribute [simp] LJ C7 azK zD Tq ajL Wt aaN On Uy Wv aaP aaO Wu UA aaM Ws EZ
attribute [simp] O2 QW QX Kw N4 Xo U6 Tf Qg QB OA mX
attribute [simp] KB.app rW CP Aw CO Tk Oe Oh LF JW Of Og
end
end
section
open Go Hk
def ck (p:IR) (e:Int):mT:=.cells [.int .i64 p.temps,.slice (p.arrays.map nH.cells) .no,.slice (p.blocks.map mU.cells) .no,.int .i64 p.inn,.int .i64 p.out,.int .i64 e]
theorem xW {p:IR}{e:Int}:XOk (ck p e):=fun _ _=>rfl
structure ZU (p:IR):Prop where
 t0:0≤p.temps
 t1:p.temps≤1048576
 a1:(p.arrays.length:Int)≤1048576
 b1:(p.blocks.length:Int)≤1048576
 i0:0≤p.inn
 i1:p.inn≤65536
 o0:0≤p.out
 o1:p.out≤65536
section
variable {p:IR}(hp:ZU p) {A B:List mT}{e:Int}(hB:KB A B)
include hp hB
theorem c37 (t:Int):KK 37 [.ptr A.length 0,.int .i64 t] (OQ A (ck p e) B)=some (.ret (.bool (nJ t 0 (p.temps-1))),OQ A (ck p e) B):=by
 refine oN (anL _ _ _ _) ?_
 have h0:=hp.t0
 have h1:=hp.t1
 have w1:IntKind.i64.wrap (p.temps-1)=p.temps-1:=by rw [wrap64] <;> omega
 have hX:=xW (p:=p) (e:=e)
 simp only [ck] at hX ⊢
 simp -implicitDefEqProofs [m37,hB,hX,w1,DD]
theorem c38 (t:Int):KK 38 [.ptr A.length 0,.int .i64 t] (OQ A (ck p e) B)=some (.ret (.bool (nJ t (-1) ((p.blocks.length:Int)-1))),OQ A (ck p e) B):=by
 refine oN (anM _ _ _ _) ?_
 have h1:=hp.b1
 have w1:IntKind.i64.wrap ((p.blocks.length:Int)-1)=(p.blocks.length:Int)-1:=by rw [wrap64] <;> omega
 have hX:=xW (p:=p) (e:=e)
 simp only [ck] at hX ⊢
 simp -implicitDefEqProofs [m38,hB,hX,w1,DD]
def Bg (inn out e : Int) (x : nH) : Bool × Int :=
  if uB x = true then
    (if x.kind = 0 then (decide (x.off = 0), e)
     else if x.kind = 1 then (nJ x.off 0 (inn - x.elem * x.len) && decide (x.off.tmod 4 = 0), e)
     else if x.kind = 2 then (if nJ x.off e (out - x.elem * x.len) = true ∧ x.off.tmod 4 = 0 then (true, Lx (x.off + x.elem * x.len)) else (false, e))
     else (false, e))
  else (false, e)
theorem c18 (x:nH) (he:0≤e):KK 18 [.ptr A.length 0,.agg x.cells] (OQ A (ck p e) B)=some (.ret (.bool (Bg p.inn p.out e x).1),OQ A (ck p (Bg p.inn p.out e x).2) B):=by
 refine oN (am4 _ _ _ _) ?_
 have h132:=c33 x
 have hX:=fun e=>xW (p:=p) (e:=e)
 have i0:=hp.i0
 have i1:=hp.i1
 have o0:=hp.o0
 have o1:=hp.o1
 cases hs:uB x
 ·simp only [hs,nH.cells,ck,Bg,Bool.false_eq_true,if_false] at h132 hX ⊢
  simp -implicitDefEqProofs [m18,hB,hX,h132]
 ·have hm:=uF hs
  have w0:IntKind.i64.wrap (x.elem*x.len)=x.elem*x.len:=by rw [wrap64] <;> omega
  simp only [hs,nH.cells,ck,Bg,if_true] at h132 hX ⊢
  by_cases k0:x.kind=0
  ·rw [k0] at h132 ⊢
   simp -implicitDefEqProofs [m18,hB,hX,h132,k0,w0]
  by_cases k1:x.kind=1
  ·rw [k1] at h132 ⊢
   have w1:IntKind.i64.wrap (p.inn-x.elem*x.len)=p.inn-x.elem*x.len:=by rw [wrap64] <;> omega
   cases hb:nJ x.off 0 (p.inn-x.elem*x.len) <;> simp -implicitDefEqProofs [m18,hB,hX,h132,k1,w0,w1,DD,hb,sI]
  by_cases k2:x.kind=2
  ·rw [k2] at h132 ⊢
   have w1:IntKind.i64.wrap (p.out-x.elem*x.len)=p.out-x.elem*x.len:=by rw [wrap64] <;> omega
   cases hb:nJ x.off e (p.out-x.elem*x.len)
   ·simp -implicitDefEqProofs [m18,hB,hX,h132,k2,w0,w1,DD,hb,sI]
   ·by_cases hr:x.off.tmod 4=0
    ·have hbb:e≤x.off∧x.off≤p.out-x.elem*x.len:=by simpa [nJ] using hb
     have w2:IntKind.i64.wrap (x.off+x.elem*x.len)=x.off+x.elem*x.len:=by rw [wrap64] <;> omega
     have h133:=c34 (x.off+x.elem*x.len) (by omega) (by omega)
     simp -implicitDefEqProofs [m18,hB,hX,h132,k2,w0,w1,w2,DD,hb,hr,h133,sI]
    ·simp -implicitDefEqProofs [m18,hB,hX,h132,k2,w0,w1,DD,hb,hr,sI]
  ·simp -implicitDefEqProofs [m18,hB,hX,h132,k0,k1,k2,w0]
def C1 (t:Term):Bool :=
 if t.kind=1 then decide (t.a=0∧t.no=0)&&nJ t.yes (-1) ((p.blocks.length:Int)-1)
 else if t.kind=2 then nJ t.a 0 (p.temps-1)&&(nJ t.yes (-1) ((p.blocks.length:Int)-1)&&nJ t.no (-1) ((p.blocks.length:Int)-1))
 else decide (t=⟨3,0,0,0⟩)
end
end
section
open Go Hk
section
variable {p:IR}(hp:ZU p) {A B:List mT}{e:Int}(hB:KB A B)
include hp hB
theorem c20 (t:Term):KK 20 [.ptr A.length 0,.agg t.cells] (OQ A (ck p e) B)=some (.ret (.bool (C1 (p:=p) t)),OQ A (ck p e) B):=by
 refine oN (am6 _ _ _ _) ?_
 have hX:=xW (p:=p) (e:=e)
 have hC:KB A (B++[.cells t.cells]):=hB.app (by simp [Term.cells])
 have h135:=fun z=>c37 (e:=e) hp hC z
 have h136:=fun z=>c38 (e:=e) hp hC z
 obtain⟨k,a,y,n⟩:=t
 simp only [Term.cells,C1] at h135 h136 ⊢
 by_cases k1:k=1
 ·subst k1
  by_cases ha:a=0
  ·subst ha
   by_cases hn:n=0
   ·subst hn
    simp -implicitDefEqProofs [m20,hB,hX,h136,qD,pE,yG,LC,tP]
   ·have hb:=beq_false_of_ne hn
    simp -implicitDefEqProofs [m20,hB,hX,h136,qD,pE,yG,hn,hb,LC,tP]
  ·have hb:=beq_false_of_ne ha
   simp -implicitDefEqProofs [m20,hB,hX,h136,qD,pE,yG,ha,hb,LC,tP]
 by_cases k2:k=2
 ·subst k2
  cases h1:nJ a 0 (p.temps-1) <;> cases h2:nJ y (-1) ((p.blocks.length:Int)-1) <;>
   simp -implicitDefEqProofs [m20,hB,hX,h135,h136,h1,h2,LC,tP]
 ·have hr:decide ((⟨k,a,y,n⟩:Term)=⟨3,0,0,0⟩)=(k == 3&&(a == 0&&(y == 0&&n == 0))):=by
   by_cases h3:k=3 <;> by_cases ha:a=0 <;> by_cases hy:y=0 <;> by_cases hn:n=0 <;> simp [h3,ha,hy,hn]
  have hbd:∀x y:Int,(x == y)=decide (x=y):=fun x y=>by by_cases h:x=y <;> simp [h]
  simp -implicitDefEqProofs [m20,hB,hX,k1,k2,hr,hbd,qD,pE,yG,Bool.and_assoc]
end
structure Form where
 dst:Bool
 src:Nat
 most:Int
 ok:Bool
def oH (k:Int):Form :=
 if k=1 then⟨true,0,4294967295,true⟩
 else if k=2∨k=10 then⟨true,1,0,true⟩
 else if 3≤k∧k≤9∨14≤k∧k≤16 then⟨true,2,0,true⟩
 else if 11≤k∧k≤13 then⟨true,1,31,true⟩
 else if k=17 then⟨true,3,0,true⟩
 else if k=18 then⟨true,1,1048576,true⟩
 else if k=19 then⟨false,2,1048576,true⟩
 else⟨false,0,0,false⟩
def Form.cells (f:Form):List lS:=[.bool f.dst,.int .i64 (f.src:Int),.int .i64 0,.int .i64 f.most,.bool f.ok]
theorem c35 (k:Int) (h:lT):KK 35 [.int .i64 k] h=some (.ret (.agg (oH k).cells),h):=by
 refine nN rfl rfl (oN (anJ _ _ _) ?_)
 by_cases hk:1≤k∧k≤19
 ·have:k=1∨k=2∨k=3∨k=4∨k=5∨k=6∨k=7∨k=8∨k=9∨k=10∨k=11∨k=12∨k=13∨k=14∨k=15∨k=16∨k=17∨k=18∨k=19:=by omega
  rcases this with rfl | rfl | rfl | rfl | rfl | rfl | rfl | rfl | rfl | rfl | rfl | rfl | rfl | rfl | rfl | rfl | rfl | rfl | rfl <;>
   simp -implicitDefEqProofs [m35,oH,Form.cells,nE]
 ·have n1:¬k=1:=by omega
  have n2:¬k=2:=by omega
  have n3:¬k=3:=by omega
  have n4:¬k=4:=by omega
  have n5:¬k=5:=by omega
  have n6:¬k=6:=by omega
  have n7:¬k=7:=by omega
  have n8:¬k=8:=by omega
  have n9:¬k=9:=by omega
  have n10:¬k=10:=by omega
  have n11:¬k=11:=by omega
  have n12:¬k=12:=by omega
  have n13:¬k=13:=by omega
  have n14:¬k=14:=by omega
  have n15:¬k=15:=by omega
  have n16:¬k=16:=by omega
  have n17:¬k=17:=by omega
  have n18:¬k=18:=by omega
  have n19:¬k=19:=by omega
  have e:oH k=⟨false,0,0,false⟩:=by
   unfold oH
   rw [if_neg n1,if_neg (by omega),if_neg (by omega),if_neg (by omega),if_neg n17,if_neg n18,if_neg n19]
  rw [e]
  simp -implicitDefEqProofs [m35,Form.cells,nE,n1,n2,n3,n4,n5,n6,n7,n8,n9,n10,n11,n12,n13,n14,n15,n16,n17,n18,n19]
theorem c73 (o:Op) (h:lT):KK 73 [.agg o.cells] h=some (.ret (.bool (oH o.kind).dst),h):=by
 refine nN rfl rfl (oN (an0 _ _ _) ?_)
 have h134:=c35 o.kind
 simp only [Form.cells] at h134
 simp -implicitDefEqProofs [m73,Op.cells,h134,nE]
def pK (o:Op):List Int:=[o.a,o.b,o.c].take (oH o.kind).src
theorem c36 (o:Op) (h:lT):KK 36 [.agg o.cells] h=some (.ret (.slice ((pK o).map fun z=>[.int .i64 z]) .no),h):=by
 refine nN rfl rfl (oN (anK _ _ _) ?_)
 have h134:=c35 o.kind
 have hs:(oH o.kind).src=0∨(oH o.kind).src=1∨(oH o.kind).src=2∨(oH o.kind).src=3:=by
  unfold oH;(repeat' split) <;> simp
 simp only [Form.cells] at h134
 unfold pK
 rcases hs with hs | hs | hs | hs <;> rw [hs] at h134 ⊢ <;>
  simp -implicitDefEqProofs [m36,Op.cells,h134,mD,rX,oM,lS.Bc,rowsOf,pF,pZ,nE]
end
section
open Go Hk
section
variable {p:IR}(hp:ZU p) {A B:List mT}{e:Int}(hB:KB A B)
def oB (o:Op) (d a b c:Int):List mT:=[.cells o.cells,.cells (oH o.kind).cells,.cells [.int .i64 o.kind,.int .i64 d,.int .i64 a,.int .i64 b,.int .i64 c,.int .i64 o.imm]]
def oS (A B:List mT) (u:List Int) (v:Bool) (i:Int):List lS:=[.ptr A.length 0,.ptr (HN A B) 0,.bool v,.ptr (HN A B+1) 0,.ptr (HN A B+2) 0,.slice (u.map fun z=>[.int .i64 z]) .no,.int .i64 (u.length:Int),.int .i64 i]
theorem YR {o:Op}{d a b c:Int}(hB:KB A B):KB A (B++oB o d a b c):=hB.app (by simp [oB,Op.cells,Form.cells])
theorem Pg {o:Op}{d a b c:Int}(hB:KB A B):o_ (HN A B+3) (OQ A (ck p e) (B++oB o d a b c))=some (OQ A (ck p e) (B++oB o d a b c)):=by
 have:=Uz (X:=ck p e) (A:=A) (B:=B) (C:=oB o d a b c) (k:=3) (by simpa [oB] using YR (o:=o) (d:=d) (a:=a) (b:=b) (c:=c) hB) xW (by simp [oB])
 simpa [oB] using this
include hp hB
theorem O_ {o:Op}{u:List Int}{t d a b c:Int}{i:Nat}(hi:i<3) (ht:u[i]?=some t) (hu:u.length≤3) :
  wO KK (HN A B+3) (oS A B u false (i:Int),OQ A (ck p e) (B++oB o d a b c))=if nJ t 0 (p.temps-1)=true then
   some (.normal,oS A B u false ((i:Int)+1),OQ A (ck p e) (B++oB o d (if i=0 then t else a) (if i=1 then t else b) (if i=2 then t else c)))
   else some (.ret,oS A B u false (i:Int),OQ A (ck p e) (B++oB o d a b c)):=by
 have h135:=c37 (e:=e) hp (YR (o:=o) (d:=d) (a:=a) (b:=b) (c:=c) hB) t
 have htr:=fun d a b c=>Pg (p:=p) (e:=e) (o:=o) (d:=d) (a:=a) (b:=b) (c:=c) hB
 have hlt:i<u.length:=(ag0.1 ht).1
 have hlt':(i:Int)<u.length:=by omega
 have hti:u[i]=t:=(ag0.1 ht).2
 have q0:∀h,lS.oL (HN A B+3) h (.ptr A.length 0)=.ptr A.length 0:=fun h=>qG LC
 have q1:∀h,lS.oL (HN A B+3) h (.ptr (HN A B) 0)=.ptr (HN A B) 0:=fun h=>qG (by omega)
 have q2:∀h,lS.oL (HN A B+3) h (.ptr (HN A B+1) 0)=.ptr (HN A B+1) 0:=fun h=>qG (by omega)
 have q3:∀h,lS.oL (HN A B+3) h (.ptr (HN A B+2) 0)=.ptr (HN A B+2) 0:=fun h=>qG (by omega)
 simp only [oB,oS] at h135 htr ⊢
 cases hb:nJ t 0 (p.temps-1)
 ·simp -implicitDefEqProofs [wO,hlt,hlt',ht,hti,h135,hb,mK,htr,q0,q1,q2,q3]
 ·rcases (show i=0∨i=1∨i=2 by omega) with rfl | rfl | rfl <;>
   have hl0:(0:Int)<u.length:=by omega
  all_goals simp only [aw6] at hlt'
  all_goals
   simp -implicitDefEqProofs [wO,hlt,hlt',ht,hti,h135,hb,LZ,mK,htr,q0,q1,q2,q3,wrap64]
omit hp in
theorem aeL {o:Op}{u:List Int}{d a b c:Int}{n:Nat}(hn:u.length=n) :
  wO KK (HN A B+3) (oS A B u false (n:Int),OQ A (ck p e) (B++oB o d a b c))=some (.exit 0,oS A B u false (n:Int),OQ A (ck p e) (B++oB o d a b c)):=by
 subst hn
 have htr:=fun d a b c=>Pg (p:=p) (e:=e) (o:=o) (d:=d) (a:=a) (b:=b) (c:=c) hB
 have q0:∀h,lS.oL (HN A B+3) h (.ptr A.length 0)=.ptr A.length 0:=fun h=>qG LC
 have q1:∀h,lS.oL (HN A B+3) h (.ptr (HN A B) 0)=.ptr (HN A B) 0:=fun h=>qG (by omega)
 have q2:∀h,lS.oL (HN A B+3) h (.ptr (HN A B+1) 0)=.ptr (HN A B+1) 0:=fun h=>qG (by omega)
 have q3:∀h,lS.oL (HN A B+3) h (.ptr (HN A B+2) 0)=.ptr (HN A B+2) 0:=fun h=>qG (by omega)
 simp only [oB,oS] at htr ⊢
 simp -implicitDefEqProofs [wO,mK,htr,q0,q1,q2,q3]
theorem Yb {o:Op}{d:Int}{s:Nat}(hs:s≤3) {u:List Int}(hu:u=[o.a,o.b,o.c].take s) :
  (u.all (fun t=>nJ t 0 (p.temps-1))=true→nL (wO KK (HN A B+3)) (oS A B u false 0,OQ A (ck p e) (B++oB o d 0 0 0)) =
   some (.exit 0,oS A B u false (s:Int),OQ A (ck p e) (B++oB o d (if 1≤s then o.a else 0) (if 2≤s then o.b else 0) (if 3≤s then o.c else 0)))) ∧
  (u.all (fun t=>nJ t 0 (p.temps-1))=false→∃(i:Nat) (x y z:Int),nL (wO KK (HN A B+3)) (oS A B u false 0,OQ A (ck p e) (B++oB o d 0 0 0)) =
   some (.ret,oS A B u false (i:Int),OQ A (ck p e) (B++oB o d x y z))):=by
 have hl:u.length=s:=by subst hu;simp;omega
 have hu3:u.length≤3:=by omega
 have st:∀(i:Nat) (t a b c:Int),i<3→u[i]?=some t→nJ t 0 (p.temps-1)=true→nL (wO KK (HN A B+3)) (oS A B u false (i:Int),OQ A (ck p e) (B++oB o d a b c)) =
   nL (wO KK (HN A B+3)) (oS A B u false ((i+1:Nat):Int),OQ A (ck p e) (B++oB o d (if i=0 then t else a) (if i=1 then t else b) (if i=2 then t else c))):=by
  intro i t a b c hi ht hb
  rw [nW,O_ hp hB hi ht hu3,if_pos hb];rfl
 have no:∀(i:Nat) (t a b c:Int),i<3→u[i]?=some t→nJ t 0 (p.temps-1)=false→nL (wO KK (HN A B+3)) (oS A B u false (i:Int),OQ A (ck p e) (B++oB o d a b c)) =
   some (.ret,oS A B u false (i:Int),OQ A (ck p e) (B++oB o d a b c)):=by
  intro i t a b c hi ht hb
  rw [nW,O_ hp hB hi ht hu3,if_neg (by rw [hb];decide)];rfl
 have en:∀a b c:Int,nL (wO KK (HN A B+3)) (oS A B u false (s:Int),OQ A (ck p e) (B++oB o d a b c))=some (.exit 0,oS A B u false (s:Int),OQ A (ck p e) (B++oB o d a b c)):=by
  intro a b c
  rw [nW,aeL hB hl];rfl
 rcases (show s=0∨s=1∨s=2∨s=3 by omega) with rfl | rfl | rfl | rfl
 ·exact⟨fun _=>en _ _ _,fun h=>by subst hu;cases h⟩
 ·have u0:u[0]?=some o.a:=by subst hu;rfl
  cases h0:nJ o.a 0 (p.temps-1)
  ·exact⟨fun h=>by subst hu;simp [h0] at h,fun _=>⟨0,0,0,0,no 0 o.a 0 0 0 (by omega) u0 h0⟩⟩
  ·exact⟨fun _=>(st 0 o.a 0 0 0 (by omega) u0 h0).trans (en _ _ _),fun h=>by subst hu;simp [h0] at h⟩
 ·have u0:u[0]?=some o.a:=by subst hu;rfl
  have u1:u[1]?=some o.b:=by subst hu;rfl
  cases h0:nJ o.a 0 (p.temps-1)
  ·exact⟨fun h=>by subst hu;simp [h0] at h,fun _=>⟨0,0,0,0,no 0 o.a 0 0 0 (by omega) u0 h0⟩⟩
  cases h1:nJ o.b 0 (p.temps-1)
  ·exact⟨fun h=>by subst hu;simp [h0,h1] at h,fun _=>⟨1,o.a,0,0,(st 0 o.a 0 0 0 (by omega) u0 h0).trans (no 1 o.b _ _ _ (by omega) u1 h1)⟩⟩
  ·exact⟨fun _=>(st 0 o.a 0 0 0 (by omega) u0 h0).trans ((st 1 o.b _ _ _ (by omega) u1 h1).trans (en _ _ _)),fun h=>by subst hu;simp [h0,h1] at h⟩
 ·have u0:u[0]?=some o.a:=by subst hu;rfl
  have u1:u[1]?=some o.b:=by subst hu;rfl
  have u2:u[2]?=some o.c:=by subst hu;rfl
  cases h0:nJ o.a 0 (p.temps-1)
  ·exact⟨fun h=>by subst hu;simp [h0] at h,fun _=>⟨0,0,0,0,no 0 o.a 0 0 0 (by omega) u0 h0⟩⟩
  cases h1:nJ o.b 0 (p.temps-1)
  ·exact⟨fun h=>by subst hu;simp [h0,h1] at h,fun _=>⟨1,o.a,0,0,(st 0 o.a 0 0 0 (by omega) u0 h0).trans (no 1 o.b _ _ _ (by omega) u1 h1)⟩⟩
  cases h2:nJ o.c 0 (p.temps-1)
  ·exact⟨fun h=>by subst hu;simp [h0,h1,h2] at h,fun _=>⟨2,o.a,o.b,0,(st 0 o.a 0 0 0 (by omega) u0 h0).trans ((st 1 o.b _ _ _ (by omega) u1 h1).trans (no 2 o.c _ _ _ (by omega) u2 h2))⟩⟩
  ·exact⟨fun _=>(st 0 o.a 0 0 0 (by omega) u0 h0).trans ((st 1 o.b _ _ _ (by omega) u1 h1).trans ((st 2 o.c _ _ _ (by omega) u2 h2).trans (en _ _ _))),fun h=>by subst hu;simp [h0,h1,h2] at h⟩
end
end
section
open Go Hk
def UL (p:IR) (i:Int):Int:=match p.arrays[i.toNat]? with
 | some x=>x.kind
 | none=>0
def Ed (p:IR) (o:Op):Bool:=if o.kind=18∨o.kind=19 then decide (o.imm<(p.arrays.length:Int))&&(decide (o.kind=18) || !decide (UL p o.imm=1)) else true
def YW (p:IR) (o:Op):Bool :=
 (oH o.kind).ok&&(nJ o.imm 0 (oH o.kind).most&&((pK o).all (fun t=>nJ t 0 (p.temps-1)) &&
  (decide ((if (oH o.kind).dst=true then o.dst else 0)=o.dst∧(if 1≤(oH o.kind).src then o.a else 0)=o.a∧(if 2≤(oH o.kind).src then o.b else 0)=o.b∧(if 3≤(oH o.kind).src then o.c else 0)=o.c) &&
   ((!(oH o.kind).dst || nJ o.dst 0 (p.temps-1))&&Ed p o))))
theorem OX (k:Int):(oH k).src≤3:=by
 unfold oH;(repeat' split) <;> simp
theorem Xp {k i:Int}(h:nJ i 0 (oH k).most=true):0≤i:=by
 simp only [nJ,aq1,decide_eq_true_eq] at h;exact h.1
section
variable {p:IR}(hp:ZU p) {A B:List mT}{e:Int}(hB:KB A B)
include hp hB
set_option maxRecDepth 10000 in
set_option maxHeartbeats 4000000 in
theorem c19 (o:Op):KK 19 [.ptr A.length 0,.agg o.cells] (OQ A (ck p e) B)=some (.ret (.bool (YW p o)),OQ A (ck p e) B):=by
 refine oN (am5 _ _ _ _) ?_
 have hX:=xW (p:=p) (e:=e)
 have h134:=c35 o.kind
 have h74:=c36 o
 have hsrc:=OX o.kind
 have hall:=fun d=>Yb (e:=e) hp hB (o:=o) (d:=d) hsrc (u:=pK o) rfl
 have him:nJ o.imm 0 (oH o.kind).most=true→0≤o.imm:=fun h=>Xp h
 have hul:((pK o).length:Int)=((oH o.kind).src:Int):=by
  have:(pK o).length=(oH o.kind).src:=by unfold pK;simp;omega
  omega
 have hKB:=fun d a b c=>YR (o:=o) (d:=d) (a:=a) (b:=b) (c:=c) hB
 have h135:=fun d a b c=>c37 (e:=e) hp (hKB d a b c) o.dst
 unfold YW
 unfold oB at hall h135
 generalize hu:pK o=u at *
 generalize hf:oH o.kind=f at *
 obtain⟨fd,fs,fm,fo⟩:=f
 simp only [Form.cells] at h134 hall h135
 cases fo
 ·simp only [Op.cells] at h134 ⊢
  simp -implicitDefEqProofs [m19,hB,hX,h134]
 cases hb:nJ o.imm 0 fm
 ·simp only [Op.cells] at h134 ⊢
  simp -implicitDefEqProofs [m19,hB,hX,h134,DD,hb]
 have hi0:=him hb
 obtain⟨d,hd⟩:∃d,d=if fd=true then o.dst else 0:=⟨_,rfl⟩
 obtain⟨hall1,hall2⟩:=hall d
 cases hal:u.all (fun t=>nJ t 0 (p.temps-1))
 ·obtain⟨i,x,y,z,g⟩:=hall2 hal
  simp only [oS,Op.cells,hul] at g h74 h134 ⊢
  cases fd <;> simp only [if_true,if_false,Bool.false_eq_true] at hd <;> subst hd <;>
   simp -implicitDefEqProofs [m19,hB,hX,h134,DD,hb,h74,hul,g]
 ·have g:=hall1 hal
  have hbd:∀x y:Int,(x == y)=decide (x=y):=fun x y=>by by_cases h:x=y <;> simp [h]
  obtain⟨ra,hra⟩:∃x,x=if 1≤fs then o.a else 0:=⟨_,rfl⟩
  obtain⟨rb,hrb⟩:∃x,x=if 2≤fs then o.b else 0:=⟨_,rfl⟩
  obtain⟨rc,hrc⟩:∃x,x=if 3≤fs then o.c else 0:=⟨_,rfl⟩
  have h135:=h135 d ra rb rc
  simp only [←hra,←hrb,←hrc,←hd] at g ⊢
  have hall:decide (d=o.dst∧ra=o.a∧rb=o.b∧rc=o.c)=(d == o.dst&&(ra == o.a&&(rb == o.b&&rc == o.c))):=by
   simp only [hbd,Bool.decide_and]
  rw [hall]
  obtain⟨ok,od,oa,ob,oc,oi⟩:=o
  simp only [oS,Op.cells,hul] at g h74 h134 h135 hd hi0 hb ⊢
  obtain⟨n,rfl⟩:=Int.eq_ofNat_of_zero_le hi0
  cases hq:(d == od&&(ra == oa&&(rb == ob&&rc == oc)))
  ·cases fd <;> simp only [if_true,if_false,Bool.false_eq_true] at hd <;> subst hd <;> (try simp only [beq_self_eq_true,Bool.true_and] at hq) <;>
    simp -implicitDefEqProofs [m19,hB,hX,h134,DD,hb,h74,hul,g,hq,qD,pE,yG]
  ·have hlt:A.length<HN A B+3:=LC
   simp only [ck] at hX g h135 ⊢
   by_cases hk:ok=18
   ·subst hk
    cases fd <;> simp only [if_true,if_false,Bool.false_eq_true] at hd <;> subst hd <;> (try simp only [beq_self_eq_true,Bool.true_and] at hq)
    ·by_cases hl:n<p.arrays.length
     ·have hx:p.arrays[n]?=some p.arrays[n]:=ag8 hl
      have hl':(n:Int)<p.arrays.length:=by omega
      simp -implicitDefEqProofs [m19,hB,hX,h134,DD,hb,h74,hul,g,hq,qD,pE,yG,Ed,hl,hl',hx,nH.cells,UL]
     ·have hl':¬(n:Int)<p.arrays.length:=by omega
      simp -implicitDefEqProofs [m19,hB,hX,h134,DD,hb,h74,hul,g,hq,qD,pE,yG,Ed,hl,hl']
    ·cases ht:nJ d 0 (p.temps-1) <;> rw [ht] at h135
     ·simp -implicitDefEqProofs [m19,hB,hX,h134,DD,hb,h74,hul,g,hq,qD,pE,yG,Ed,h135,ht]
     ·by_cases hl:n<p.arrays.length
      ·have hx:p.arrays[n]?=some p.arrays[n]:=ag8 hl
       have hl':(n:Int)<p.arrays.length:=by omega
       simp -implicitDefEqProofs [m19,hB,hX,h134,DD,hb,h74,hul,g,hq,qD,pE,yG,Ed,h135,ht,hl,hl',hx,nH.cells,UL]
      ·have hl':¬(n:Int)<p.arrays.length:=by omega
       simp -implicitDefEqProofs [m19,hB,hX,h134,DD,hb,h74,hul,g,hq,qD,pE,yG,Ed,h135,ht,hl,hl']
   ·by_cases hk2:ok=19
    ·have hk:=hk2
     clear hk2
     subst hk
     cases fd <;> simp only [if_true,if_false,Bool.false_eq_true] at hd <;> subst hd <;> (try simp only [beq_self_eq_true,Bool.true_and] at hq)
     ·by_cases hl:n<p.arrays.length
      ·have hx:p.arrays[n]?=some p.arrays[n]:=ag8 hl
       have hl':(n:Int)<p.arrays.length:=by omega
       simp -implicitDefEqProofs [m19,hB,hX,h134,DD,hb,h74,hul,g,hq,qD,pE,yG,Ed,hl,hl',hx,nH.cells,UL]
      ·have hl':¬(n:Int)<p.arrays.length:=by omega
       simp -implicitDefEqProofs [m19,hB,hX,h134,DD,hb,h74,hul,g,hq,qD,pE,yG,Ed,hl,hl']
     ·cases ht:nJ d 0 (p.temps-1) <;> rw [ht] at h135
      ·simp -implicitDefEqProofs [m19,hB,hX,h134,DD,hb,h74,hul,g,hq,qD,pE,yG,Ed,h135,ht]
      ·by_cases hl:n<p.arrays.length
       ·have hx:p.arrays[n]?=some p.arrays[n]:=ag8 hl
        have hl':(n:Int)<p.arrays.length:=by omega
        simp -implicitDefEqProofs [m19,hB,hX,h134,DD,hb,h74,hul,g,hq,qD,pE,yG,Ed,h135,ht,hl,hl',hx,nH.cells,UL]
       ·have hl':¬(n:Int)<p.arrays.length:=by omega
        simp -implicitDefEqProofs [m19,hB,hX,h134,DD,hb,h74,hul,g,hq,qD,pE,yG,Ed,h135,ht,hl,hl']
    ·cases fd <;> simp only [if_true,if_false,Bool.false_eq_true] at hd <;> subst hd <;> (try simp only [beq_self_eq_true,Bool.true_and] at hq)
     ·simp -implicitDefEqProofs [m19,hB,hX,h134,DD,hb,h74,hul,g,hq,qD,pE,yG,Ed,hk,hk2]
     ·cases ht:nJ d 0 (p.temps-1) <;> rw [ht] at h135 <;>
      simp -implicitDefEqProofs [m19,hB,hX,h134,DD,hb,h74,hul,g,hq,qD,pE,yG,Ed,hk,hk2,h135,ht]
end
end
section
open Go Hk
def KF (inn out:Int):Int→List nH→Bool
 | _,[]=>true
 | e,x::r=>(Bg inn out e x).1&&KF inn out (Bg inn out e x).2 r
theorem aa4 {inn out e:Int}{x:nH}(he:0≤e):0≤(Bg inn out e x).2:=by
 unfold Bg
 split
 ·rename_i hs
  have hm:=uF hs
  (repeat' split) <;> first
   | exact he
   | (rename_i h;simp only [nJ,aq1,decide_eq_true_eq] at h;simp only [Lx];omega)
 ·exact he
def UQ (p:IR) (b:mU):Bool:=b.ops.all (YW p)&&C1 (p:=p) b.term
def pB (p:IR):Int :=
 if pV p=false then 18
 else if nJ p.inn 0 65536=true∧nJ p.out 0 65536=true∧p.inn.tmod 4=0∧p.out.tmod 4=0∧0≤p.temps∧p.blocks≠[] then(if KF p.inn p.out 0 p.arrays&&p.blocks.all (UQ p) then 0 else 2) else 2
section
variable {p:IR}(hp:ZU p) {A B:List mT}{q:Nat}(hq:q<A.length) (hB:KB A B)
include hp hq hB
theorem YH:∀(n i:Nat) (e:Int),p.arrays.length<i+n→i≤p.arrays.length→0≤e →
  ∃(ex:Ex) (r e':Int) (j:Int),nL (Pa KK (HN A B)) ([.ptr q 0,.int .i64 0,.ptr A.length 0,.slice (p.arrays.map nH.cells) .no,.int .i64 (p.arrays.length:Int),.int .i64 (i:Int)],OQ A (ck p e) B) =
   some (ex,[.ptr q 0,.int .i64 r,.ptr A.length 0,.slice (p.arrays.map nH.cells) .no,.int .i64 (p.arrays.length:Int),.int .i64 j],OQ A (ck p e') B) ∧
   ((ex=.ret∧r=2∧KF p.inn p.out e (p.arrays.drop i)=false)∨(ex=.exit 0∧r=0∧KF p.inn p.out e (p.arrays.drop i)=true)):=by
 have hX:=fun e=>xW (p:=p) (e:=e)
 have q0:∀h,lS.oL (HN A B) h (.ptr q 0)=.ptr q 0:=fun h=>qG (by have:=tP (A:=A) (B:=B);omega)
 have q1:∀h,lS.oL (HN A B) h (.ptr A.length 0)=.ptr A.length 0:=fun h=>qG tP
 have ha1:=hp.a1
 intro n
 induction n with
 | zero=>intro i e a1 a2;omega
 | succ n ih =>
  intro i e a1 a2 he
  rw [nW]
  by_cases hi:i<p.arrays.length
  ·have hi':(i:Int)<p.arrays.length:=by omega
   have hx:p.arrays[i]?=some p.arrays[i]:=ag8 hi
   have w1:=C4 (a:=i) (by omega)
   rw [ar7 hi]
   generalize p.arrays[i]=y at *
   have hC:KB A (B++[.cells y.cells]):=hB.app (by simp [nH.cells])
   have h69:=c18 (e:=e) hp hC y he
   have htr:=fun e=>tQ (X:=ck p e) (A:=A) (B:=B) (C:=[.cells y.cells]) hB xW
   simp only [KF]
   cases hs:(Bg p.inn p.out e y).1
   ·refine⟨.ret,2,(Bg p.inn p.out e y).2,i,?_,.inl ⟨rfl,rfl,rfl⟩⟩
    rw [hs] at h69
    simp only [nH.cells] at h69 htr hx ⊢
    simp -implicitDefEqProofs [Pa,hi',hx,h69,mK,htr,q0,q1,nH.cells]
   ·obtain⟨ex,r,e',j,g1,g2⟩:=ih (i+1) (Bg p.inn p.out e y).2 (by omega) hi (aa4 he)
    refine⟨ex,r,e',j,?_,g2⟩
    rw [hs] at h69
    simp only [ax3,aw6] at g1
    rw [←g1]
    simp only [nH.cells] at h69 htr hx ⊢
    simp -implicitDefEqProofs [Pa,hi',hx,h69,mK,htr,q0,q1,w1,nH.cells]
  ·have hi':¬(i:Int)<p.arrays.length:=by omega
   have htr:=qQ (X:=ck p e) (A:=A) (B:=B) hB xW
   rw [List.drop_eq_nil_of_le (by omega)]
   refine⟨.exit 0,0,e,i,?_,.inr ⟨rfl,rfl,rfl⟩⟩
   simp -implicitDefEqProofs [Pa,hi',mK,htr,q0,q1]
theorem YI (e:Int) (b:mU) (hb:b.ops.length≤1048576) (k kk:Int):∀(n i:Nat),b.ops.length<i+n→i≤b.ops.length →
  ∃(ex:Ex) (r:Int) (j:Int),nL (Pb KK (HN A B+2)) ([.int .i64 0,.ptr A.length 0,.ptr (HN A B) 0,.slice (p.blocks.map mU.cells) .no,.int .i64 kk,.int .i64 k,.slice (b.ops.map Op.cells) .no,.int .i64 (b.ops.length:Int),.int .i64 (i:Int)],OQ A (ck p e) (B++[.cells b.cells,.front 0 0])) =
   some (ex,[.int .i64 r,.ptr A.length 0,.ptr (HN A B) 0,.slice (p.blocks.map mU.cells) .no,.int .i64 kk,.int .i64 k,.slice (b.ops.map Op.cells) .no,.int .i64 (b.ops.length:Int),.int .i64 j],OQ A (ck p e) (B++[.cells b.cells,.front 0 0])) ∧
   ((ex=.ret∧r=2∧(b.ops.drop i).all (YW p)=false)∨(ex=.exit 4∧r=0∧(b.ops.drop i).all (YW p)=true)):=by
 have hX:=xW (p:=p) (e:=e)
 have hB2:KB A (B++[.cells b.cells,.front 0 0]):=hB.app (by simp [mU.cells])
 have q1:∀h,lS.oL (HN A B+2) h (.ptr A.length 0)=.ptr A.length 0:=fun h=>qG LC
 have q2:∀h,lS.oL (HN A B+2) h (.ptr (HN A B) 0)=.ptr (HN A B) 0:=fun h=>qG (by omega)
 have hn2:HN A (B++[.cells b.cells,.front 0 0])=HN A B+2:=by simp
 intro n
 induction n with
 | zero=>intro i a1 a2;omega
 | succ n ih =>
  intro i a1 a2
  rw [nW]
  by_cases hi:i<b.ops.length
  ·have hi':(i:Int)<b.ops.length:=by omega
   have hx:b.ops[i]?=some b.ops[i]:=ag8 hi
   have w1:=C4 (a:=i) (by omega)
   rw [ar7 hi]
   generalize b.ops[i]=y at *
   have hC:KB A ((B++[.cells b.cells,.front 0 0])++[.cells y.cells]):=hB2.app (by simp [Op.cells])
   have h70:=c19 (e:=e) hp hC y
   have htr:=tQ (X:=ck p e) (A:=A) (B:=B++[.cells b.cells,.front 0 0]) (C:=[.cells y.cells]) hB2 xW
   rw [hn2] at htr
   simp only [aw8,ax4,av6] at h70 htr
   simp only [List.all_cons]
   cases hs:YW p y
   ·refine⟨.ret,2,i,?_,.inl ⟨rfl,rfl,rfl⟩⟩
    rw [hs] at h70
    simp only [Op.cells] at h70 htr hx ⊢
    simp -implicitDefEqProofs [Pb,hi',hx,h70,mK,htr,q1,q2,Op.cells]
   ·obtain⟨ex,r,j,g1,g2⟩:=ih (i+1) (by omega) hi
    refine⟨ex,r,j,?_,by simpa using g2⟩
    rw [hs] at h70
    simp only [ax3,aw6] at g1
    rw [←g1]
    simp only [Op.cells] at h70 htr hx ⊢
    simp -implicitDefEqProofs [Pb,hi',hx,h70,mK,htr,q1,q2,w1,Op.cells]
  ·have hi':¬(i:Int)<b.ops.length:=by omega
   have htr:=qQ (X:=ck p e) (A:=A) (B:=B++[.cells b.cells,.front 0 0]) hB2 xW
   rw [hn2] at htr
   rw [List.drop_eq_nil_of_le (by omega)]
   refine⟨.exit 4,0,i,?_,.inr ⟨rfl,rfl,rfl⟩⟩
   simp -implicitDefEqProofs [Pb,hi',mK,htr,q1,q2]
theorem YJ (e:Int) (hops:∀b∈p.blocks,b.ops.length≤1048576):∀(n i:Nat),p.blocks.length<i+n→i≤p.blocks.length →
  ∃(ex:Ex) (r:Int) (j:Int),nL (KU KK (HN A B)) ([.int .i64 0,.ptr A.length 0,.slice (p.blocks.map mU.cells) .no,.int .i64 (p.blocks.length:Int),.int .i64 (i:Int)],OQ A (ck p e) B) =
   some (ex,[.int .i64 r,.ptr A.length 0,.slice (p.blocks.map mU.cells) .no,.int .i64 (p.blocks.length:Int),.int .i64 j],OQ A (ck p e) B) ∧
   ((ex=.ret∧r=2∧(p.blocks.drop i).all (UQ p)=false)∨(ex=.exit 2∧r=0∧(p.blocks.drop i).all (UQ p)=true)):=by
 have hX:=xW (p:=p) (e:=e)
 have q1:∀h,lS.oL (HN A B) h (.ptr A.length 0)=.ptr A.length 0:=fun h=>qG tP
 have hb1:=hp.b1
 intro n
 induction n with
 | zero=>intro i a1 a2;omega
 | succ n ih =>
  intro i a1 a2
  rw [nW]
  by_cases hi:i<p.blocks.length
  ·have hi':(i:Int)<p.blocks.length:=by omega
   have hx:p.blocks[i]?=some p.blocks[i]:=ag8 hi
   have hm:=hops p.blocks[i] (ax5 hi)
   have w1:=C4 (a:=i) (by omega)
   rw [ar7 hi]
   generalize p.blocks[i]=y at *
   have hB2:KB A (B++[.cells y.cells,.front 0 0]):=hB.app (by simp [mU.cells])
   have h71:=c20 (e:=e) hp hB2 y.term
   have htr:=tQ (X:=ck p e) (A:=A) (B:=B) (C:=[.cells y.cells,.front 0 0]) hB xW
   obtain⟨ex,r,j,g1,g2⟩:=YI hp hq hB e y hm (i:Int) (p.blocks.length:Int) (y.ops.length+1) 0 (by omega) (Nat.zero_le _)
   simp only [List.drop_zero,aw6] at g1 g2
   simp only [List.all_cons,UQ]
   rcases g2 with ⟨rfl,rfl,g2⟩ | ⟨rfl,rfl,g2⟩
   ·refine⟨.ret,2,i,?_,.inl ⟨rfl,rfl,by rw [g2];rfl⟩⟩
    simp only [mU.cells,Term.cells] at h71 htr hx g1 ⊢
    simp -implicitDefEqProofs [KU,hi',hx,g1,h71,mK,htr,q1,mU.cells]
   ·rw [g2]
    cases ht:C1 (p:=p) y.term
    ·refine⟨.ret,2,i,?_,.inl ⟨rfl,rfl,rfl⟩⟩
     rw [ht] at h71
     simp only [mU.cells,Term.cells] at h71 htr hx g1 ⊢
     simp -implicitDefEqProofs [KU,hi',hx,g1,h71,mK,htr,q1,mU.cells]
    ·obtain⟨ex,r,j,g3,g4⟩:=ih (i+1) (by omega) hi
     refine⟨ex,r,j,?_,by simpa [UQ] using g4⟩
     rw [ht] at h71
     simp only [ax3,aw6] at g3
     rw [←g3]
     simp only [mU.cells,Term.cells] at h71 htr hx g1 ⊢
     simp -implicitDefEqProofs [KU,hi',hx,g1,h71,mK,htr,q1,w1,mU.cells]
  ·have hi':¬(i:Int)<p.blocks.length:=by omega
   have htr:=qQ (X:=ck p e) (A:=A) (B:=B) hB xW
   rw [List.drop_eq_nil_of_le (by omega)]
   refine⟨.exit 2,0,i,?_,.inr ⟨rfl,rfl,rfl⟩⟩
   simp -implicitDefEqProofs [KU,hi',mK,htr,q1]
end
end
section
open Go Hk
theorem Pj {l:List mU}{b:mU}(h:b∈l):(b.ops.length:Int)≤Fx l:=by
 induction l with
 | nil=>cases h
 | cons x r ih =>
  have:=Np r
  rcases List.mem_cons.1 h with rfl | h
  ·simp only [Fx];omega
  ·have:=ih h;simp only [Fx];omega
structure atA (p:IR):Prop where
 t1:p.temps≤1048576
 a1:(p.arrays.length:Int)≤1048576
 b1:(p.blocks.length:Int)≤1048576
 o1:Fx p.blocks≤1048576
 r1:max p.out 0+x8 p.arrays≤65536
theorem Bz {p:IR}:pV p=true↔atA p:=by
 simp only [pV,aq1,decide_eq_true_eq]
 exact⟨fun⟨⟨⟨⟨a,b⟩,c⟩,d⟩,e⟩=>⟨a,b,c,d,e⟩,fun h=>⟨⟨⟨⟨h.t1,h.a1⟩,h.b1⟩,h.o1⟩,h.r1⟩⟩
set_option maxHeartbeats 1000000 in
theorem c9 (p:IR) (h:lT):KK 9 [.agg p.cells] h=some (.ret (.int .i64 (pB p)),h):=by
 refine nN rfl rfl (oN (avH _ _ _) ?_)
 have h67:=c16 p
 unfold pB
 cases hl:pV p
 ·rw [hl] at h67
  simp only [IR.cells] at h67 ⊢
  simp [m9,h67,nE]
 rw [hl] at h67
 obtain⟨l1,l2,l3,l4,l5⟩:=Bz.1 hl
 cases c1:nJ p.inn 0 65536
 ·simp only [IR.cells] at h67 ⊢
  simp [m9,h67,DD,c1,nE]
 cases c2:nJ p.out 0 65536
 ·simp only [IR.cells] at h67 ⊢
  simp [m9,h67,DD,c1,c2,nE]
 by_cases c3:p.inn.tmod 4=0
 case neg =>
  simp only [IR.cells] at h67 ⊢
  simp [m9,h67,DD,c1,c2,c3,sI,nE]
 by_cases c4:p.out.tmod 4=0
 case neg =>
  simp only [IR.cells] at h67 ⊢
  simp [m9,h67,DD,c1,c2,c3,c4,sI,nE]
 by_cases c5:0≤p.temps
 case neg =>
  have c5':p.temps<0:=by omega
  simp only [IR.cells] at h67 ⊢
  simp [m9,h67,DD,c1,c2,c3,c4,c5,c5',sI,nE]
 by_cases c6:p.blocks=[]
 ·have c5':¬p.temps<0:=by omega
  simp only [IR.cells] at h67 ⊢
  rw [c6] at h67
  simp only [List.map_nil] at h67
  simp [m9,h67,DD,c1,c2,c3,c4,c5,c5',c6,sI,nE]
 have c5':¬p.temps<0:=by omega
 have c6':¬(p.blocks.length:Int)=0:=by
  have:p.blocks.length≠0:=fun e=>c6 (List.eq_nil_of_length_eq_zero e)
  omega
 have hp:ZU p:=by
  simp only [nJ,aq1,decide_eq_true_eq] at c1 c2
  exact⟨c5,l1,l2,l3,c1.1,c1.2,c2.1,c2.2⟩
 have hB:KB [mT.cells p.cells] []:=⟨fun n hn=>by simp [IR.cells],fun n hn=>by simp⟩
 have hq:0 < [mT.cells p.cells].length:=by simp
 obtain⟨ex,r,e',j,g1,g2⟩:=YH hp hq hB (p.arrays.length+1) 0 0 (by omega) (Nat.zero_le _) (by omega)
 obtain⟨ex2,r2,j2,g3,g4⟩:=YJ hp hq hB e' (fun b hb=>by have:=Pj hb;omega) (p.blocks.length+1) 0 (by omega) (Nat.zero_le _)
 simp only [List.drop_zero,aw6,OQ,HN,ar8,ay5,ax4,av6,ck,IR.cells,av7,Nat.add_zero,Nat.reduceAdd] at g1 g2 g3 g4
 rcases g2 with ⟨rfl,rfl,g2⟩ | ⟨rfl,rfl,g2⟩
 ·simp only [IR.cells] at h67 ⊢
  simp [m9,h67,DD,c1,c2,c3,c4,c5,c5',c6,c6',sI,nE,g1,g2]
 ·rcases g4 with ⟨rfl,rfl,g4⟩ | ⟨rfl,rfl,g4⟩
  ·simp only [IR.cells] at h67 ⊢
   simp [m9,h67,DD,c1,c2,c3,c4,c5,c5',c6,c6',sI,nE,g1,g2,g3,g4]
  ·simp only [IR.cells] at h67 ⊢
   simp [m9,h67,DD,c1,c2,c3,c4,c5,c5',c6,c6',sI,nE,g1,g2,g3,g4]
end
section
open Go Hk
section
variable (k:Int) (h:lT)
end
end
section
open Go Hk

end
noncomputable section
open Go Hk
def Ng (K:mA) (m:Nat) (s:List lS×lT):Option R :=
 (fun aF aG aH aI aE aJ aK aL aD aB aC aA aM=>(mP .lss aA aC).bind fun aP=>mH aP ((mI 1 aB aA).bind fun t70=>(mF false 1 aM t70).bind fun aQ=>(mI 1 aE aQ).bind fun aR=>(mF false 1 aM aR).bind fun t73=>mC (mD 1 1 [(.slice [] .nil)] [(0,t73)] aM) fun aS aN=>mC (nD 1 24 aN aD aS) fun aT aO=>(mP .add aA (.int .i64 1)).bind fun aU=>mK m .normal [aF,aG,aH,aI,aE,aJ,aK,aL,aT,aB,aC,aU] aO) (mK m (.exit 4) [aF,aG,aH,aI,aE,aJ,aK,aL,aD,aB,aC,aA] aM)) (ac5 s.1 0 .junk) (ac5 s.1 1 .junk) (ac5 s.1 2 .junk) (ac5 s.1 3 .junk) (ac5 s.1 4 .junk) (ac5 s.1 5 .junk) (ac5 s.1 6 .junk) (ac5 s.1 7 .junk) (ac5 s.1 8 .junk) (ac5 s.1 9 .junk) (ac5 s.1 10 .junk) (ac5 s.1 11 .junk) s.2
def Nh (K:mA) (m:Nat) (s:List lS×lT):Option R :=
 (fun aD aE aF aG aH aI aJ aK aC aB aA aL=>(mP .geq aA (.int .i64 0)).bind fun t133=>mH t133 ((mI 6 aB aA).bind fun t134=>(mF true 6 aL t134).bind fun t135=>mR (K 83 [t135,aC] aL) (fun t136 aM=>(mP .sub aA (.int .i64 1)).bind fun t138=>mK m .normal [aD,aE,aF,aG,aH,aI,aJ,aK,t136,aB,t138] aM) (fun _ _=>none)) (mK m (.exit 6) [aD,aE,aF,aG,aH,aI,aJ,aK,aC,aB,aA] aL)) (ac5 s.1 0 .junk) (ac5 s.1 1 .junk) (ac5 s.1 2 .junk) (ac5 s.1 3 .junk) (ac5 s.1 4 .junk) (ac5 s.1 5 .junk) (ac5 s.1 6 .junk) (ac5 s.1 7 .junk) (ac5 s.1 8 .junk) (ac5 s.1 9 .junk) (ac5 s.1 10 .junk) s.2
def Fo (K:mA) (m:Nat) (s:List lS×lT):Option R :=
 (fun aS bC bE bG bI bK bL aN cJ=>(mP .geq aN (.int .i64 0)).bind fun dH=>mH dH (((fun(dI:lS) (cK:lT)=>(mG 2 aS).bind fun dJ=>(mF false 1 cK dJ).bind fun dK=>(mI 5 dK aN).bind fun dL=>(mG 1 dL).bind fun dM=>(mF true 4 cK dM).bind fun dN=>mR (K 80 [(lS.l_ dN)] cK) (fun t53 dB=>(nK t53).bind fun dO=>(nL (Ng K (aa5 dB)) ([aS,bC,bE,bG,bI,bK,bL,aN,dI,t53,dO,(.int .i64 0)],dB)).bind fun aJ=>(fun aL bD bF bH bJ aM bM aD bO c8 c_ dA dC=>Ex.nC aJ.1 none (fun dD=>Ex.inBlock 4 dD (mR (K 81 [(lS.l_ bO)] dC) (fun dP dF=>(mI 1 aM aD).bind fun dQ=>mC (sU dF dP) fun dR dG=>(mL 1 dG dQ dR).bind fun aO=>(mG 2 aL).bind fun aP=>(mF false 1 aO aP).bind fun cL=>(mI 5 cL aD).bind fun cM=>(mG 1 cM).bind fun aQ=>(mF true 4 aO aQ).bind fun cN=>(mI 1 aM aD).bind fun cO=>(mF false 1 aO cO).bind fun cP=>mC (mD 1 1 [(.slice [] .nil)] [(0,cP)] (rZ (mX [0,1] [aP,aQ]) aO)) fun cQ bX=>mR (K 81 [(lS.l_ cQ)] (rZ (mX [0,1] [aP,aQ]) (oD (mX [0,1] [aP,aQ]) aO bX))) (fun cR cF=>mR (K 82 [cN,cR] (oD (mX [0,1] [aP,aQ]) (oD (mX [0,1] [aP,aQ]) aO bX) cF)) (fun cS bB=>(mG 2 aL).bind fun cT=>(mF false 1 bB cT).bind fun cU=>(mI 5 cU aD).bind fun cV=>(mG 0 cV).bind fun cW=>(mF false 1 bB cW).bind fun b_=>(nK b_).bind fun cX=>(mP .sub cX (.int .i64 1)).bind fun cY=>(nL (Nh K (aa5 bB)) ([aL,bD,bF,bH,bJ,aM,bM,aD,cS,b_,cY],bB)).bind fun CL=>(fun aE aF aG aH aA aI aY aB aK cA cB bN=>Ex.nC CL.1 none (fun cC=>Ex.inBlock 6 cC ((mI 1 aA aB).bind fun t154=>(mF false 1 bN t154).bind fun t155=>mR (K 84 [(lS.l_ aK),(lS.l_ t155)] bN) (fun t156 bY=>(yD .not t156).bind fun cZ=>(mH cZ ((mI 1 aA aB).bind fun t159=>mC (sU bY aK) fun t160 cG=>(mL 1 cG t159 t160).bind fun cH=>some (.normal,[aE,aF,aG,aH,aA,aI,(.bool true),aB],cH)) (some (.normal,[aE,aF,aG,aH,aA,aI,aY,aB],bY))).bind fun s_=>(fun bP bQ bR bS bT bU bV bW cI=>Ex.rQ s_.1 (some (.normal,[bP,bQ,bR,bS,bT,bU,bV,bW],cI))) (ac5 s_.2.1 0 .junk) (ac5 s_.2.1 1 .junk) (ac5 s_.2.1 2 .junk) (ac5 s_.2.1 3 .junk) (ac5 s_.2.1 4 .junk) (ac5 s_.2.1 5 .junk) (ac5 s_.2.1 6 .junk) (ac5 s_.2.1 7 .junk) s_.2.2) (fun _ _=>none)) (fun cD=>some (cD,[aE,aF,aG,aH,aA,aI,aY,aB],bN)))) (ac5 CL.2.1 0 .junk) (ac5 CL.2.1 1 .junk) (ac5 CL.2.1 2 .junk) (ac5 CL.2.1 3 .junk) (ac5 CL.2.1 4 .junk) (ac5 CL.2.1 5 .junk) (ac5 CL.2.1 6 .junk) (ac5 CL.2.1 7 .junk) (ac5 CL.2.1 8 .junk) (ac5 CL.2.1 9 .junk) (ac5 CL.2.1 10 .junk) CL.2.2) (fun _ _=>none)) (fun _ _=>none)) (fun _ _=>none)) (fun dE=>some (dE,[aL,bD,bF,bH,bJ,aM,bM,aD],dC)))) (ac5 aJ.2.1 0 .junk) (ac5 aJ.2.1 1 .junk) (ac5 aJ.2.1 2 .junk) (ac5 aJ.2.1 3 .junk) (ac5 aJ.2.1 4 .junk) (ac5 aJ.2.1 5 .junk) (ac5 aJ.2.1 6 .junk) (ac5 aJ.2.1 7 .junk) (ac5 aJ.2.1 8 .junk) (ac5 aJ.2.1 9 .junk) (ac5 aJ.2.1 10 .junk) (ac5 aJ.2.1 11 .junk) aJ.2.2) (fun _ _=>none)) (.slice [] (.own (aa5 cJ))) (cJ++[.front 0 0])).bind fun aC=>(fun aR aT aU aV aW aX aZ a_ bZ=>Ex.inBlock 3 aC.1 ((mP .sub a_ (.int .i64 1)).bind fun c7=>mK m .normal [aR,aT,aU,aV,aW,aX,aZ,c7] bZ) (fun cE=>mK m cE [aR,aT,aU,aV,aW,aX,aZ,a_] bZ)) (ac5 aC.2.1 0 .junk) (ac5 aC.2.1 1 .junk) (ac5 aC.2.1 2 .junk) (ac5 aC.2.1 3 .junk) (ac5 aC.2.1 4 .junk) (ac5 aC.2.1 5 .junk) (ac5 aC.2.1 6 .junk) (ac5 aC.2.1 7 .junk) aC.2.2) (mK m (.exit 2) [aS,bC,bE,bG,bI,bK,bL,aN] cJ)) (ac5 s.1 0 .junk) (ac5 s.1 1 .junk) (ac5 s.1 2 .junk) (ac5 s.1 3 .junk) (ac5 s.1 4 .junk) (ac5 s.1 5 .junk) (ac5 s.1 6 .junk) (ac5 s.1 7 .junk) s.2
def Ni (K:mA) (m:Nat) (s:List lS×lT):Option R :=
 (fun aE aR aS aT aU aV aW aZ=>mH aW (((mG 2 aE).bind fun t32=>(mF false 1 aZ t32).bind fun bE=>(nK bE).bind fun bF=>(mP .sub bF (.int .i64 1)).bind fun bG=>(nL (Fo K (aa5 aZ)) ([aE,aR,aS,aT,aU,aV,(.bool false),bG],aZ)).bind fun aA=>(fun aC aF aH aJ aL aN aP bD aX=>Ex.nC aA.1 none (fun a_=>Ex.inBlock 2 a_ (some (.normal,[aC,aF,aH,aJ,aL,aN,aP],aX)) (fun bB=>some (bB,[aC,aF,aH,aJ,aL,aN,aP],aX)))) (ac5 aA.2.1 0 .junk) (ac5 aA.2.1 1 .junk) (ac5 aA.2.1 2 .junk) (ac5 aA.2.1 3 .junk) (ac5 aA.2.1 4 .junk) (ac5 aA.2.1 5 .junk) (ac5 aA.2.1 6 .junk) (ac5 aA.2.1 7 .junk) aA.2.2).bind fun aB=>(fun aD aG aI aK aM aO aQ aY=>Ex.inBlock 1 aB.1 (mK m .normal [aD,aG,aI,aK,aM,aO,aQ] aY) (fun bC=>mK m bC [aD,aG,aI,aK,aM,aO,aQ] aY)) (ac5 aB.2.1 0 .junk) (ac5 aB.2.1 1 .junk) (ac5 aB.2.1 2 .junk) (ac5 aB.2.1 3 .junk) (ac5 aB.2.1 4 .junk) (ac5 aB.2.1 5 .junk) (ac5 aB.2.1 6 .junk) aB.2.2) (mK m (.exit 0) [aE,aR,aS,aT,aU,aV,aW] aZ)) (ac5 s.1 0 .junk) (ac5 s.1 1 .junk) (ac5 s.1 2 .junk) (ac5 s.1 3 .junk) (ac5 s.1 4 .junk) (ac5 s.1 5 .junk) (ac5 s.1 6 .junk) s.2
def Nj (K:mA) (m:Nat) (s:List lS×lT):Option R :=
 (fun aI aJ aK aE aF aG aH aB aA aD=>(mP .lss aA aB).bind fun aR=>mH aR ((mI 1 aE aA).bind fun aS=>(mF false 1 aD aS).bind fun aT=>(mI 1 aF aA).bind fun aC=>(mF false 1 aD aC).bind fun aU=>mR (K 85 [(lS.l_ aT)] (rZ (mX [0] [aC]) aD)) (fun aV aL=>mC (mD 1 1 [(.slice [] .nil)] [(0,aV)] (rZ (mX [0] [aC]) (oD (mX [0] [aC]) aD aL))) fun aW aM=>mC (nD 1 24 (rZ (mX [0] [aC]) (oD (mX [0] [aC]) (oD (mX [0] [aC]) aD aL) aM)) aG aW) fun aX aN=>mR (K 85 [(lS.l_ aU)] (oD (mX [0] [aC]) (oD (mX [0] [aC]) (oD (mX [0] [aC]) aD aL) aM) aN)) (fun aY aO=>mC (mD 1 1 [(.slice [] .nil)] [(0,aY)] aO) fun aZ aP=>mC (nD 1 24 aP aH aZ) fun a_ aQ=>(mP .add aA (.int .i64 1)).bind fun bB=>mK m .normal [aI,aJ,aK,aE,aF,aX,a_,aB,bB] aQ) (fun _ _=>none)) (fun _ _=>none)) (mK m (.exit 8) [aI,aJ,aK,aE,aF,aG,aH,aB,aA] aD)) (ac5 s.1 0 .junk) (ac5 s.1 1 .junk) (ac5 s.1 2 .junk) (ac5 s.1 3 .junk) (ac5 s.1 4 .junk) (ac5 s.1 5 .junk) (ac5 s.1 6 .junk) (ac5 s.1 7 .junk) (ac5 s.1 8 .junk) s.2
def m71 (K:mA) (a0:lS) (h0:lT):Option (nT×lT) :=
 (mC (nP 5 h0 a0) fun t0 h1=>(fun(t3:lS) (h2:lT)=>(fun(t5:lS) (h4:lT)=>(mF true 5 h4 t0).bind fun t6=>mR (K 9 [(lS.l_ t6)] h4) (fun t7 h8=>(mP .neq t7 (.int .i64 0)).bind fun t9=>mH t9 ((fun(bO:lS) (bK:lT)=>(fun(t13:lS) (bN:lT)=>some (.ret,[bO,t13,t7],bN)) (.slice [] (.own (aa5 bK))) (bK++[.front 0 0])) (.slice [] (.own (aa5 h8))) (h8++[.front 0 0])) ((mG 2 t0).bind fun t14=>(mF false 1 h8 t14).bind fun t15=>(nK t15).bind fun bP=>mC (rB 1 24 [(.slice [] .nil)] bP h8) fun bQ bL=>(mG 2 t0).bind fun bR=>(mF false 1 bL bR).bind fun bS=>(nK bS).bind fun bT=>mC (rB 1 24 [(.slice [] .nil)] bT bL) fun bU bM=>(nL (Ni K (aa5 bM)) ([t0,t3,t5,(.int .i64 0),bQ,bU,(.bool true)],bM)).bind fun aB=>(fun aK aD aE aF aR aS bJ aI=>Ex.nC aB.1 none (fun aX=>Ex.inBlock 0 aX ((fun(bC:lS) (aT:lT)=>(fun(bD:lS) (aJ:lT)=>(mG 2 aK).bind fun bE=>(mF false 1 aJ bE).bind fun bF=>(nK bF).bind fun bG=>(nL (Nj K (aa5 aJ)) ([aD,aE,aF,aR,aS,bC,bD,bG,(.int .i64 0)],aJ)).bind fun aA=>(fun aL aN aP bH bI aG aH aV aW aU=>Ex.nC aA.1 none (fun aZ=>Ex.inBlock 8 aZ (some (.ret,[aG,aH,(.int .i64 0)],aU)) (fun a_=>some (a_,[aL,aN,aP],aU)))) (ac5 aA.2.1 0 .junk) (ac5 aA.2.1 1 .junk) (ac5 aA.2.1 2 .junk) (ac5 aA.2.1 3 .junk) (ac5 aA.2.1 4 .junk) (ac5 aA.2.1 5 .junk) (ac5 aA.2.1 6 .junk) (ac5 aA.2.1 7 .junk) (ac5 aA.2.1 8 .junk) aA.2.2) (.slice [] (.own (aa5 aT))) (aT++[.front 0 0])) (.slice [] (.own (aa5 aI))) (aI++[.front 0 0])) (fun aY=>some (aY,[aD,aE,aF],aI)))) (ac5 aB.2.1 0 .junk) (ac5 aB.2.1 1 .junk) (ac5 aB.2.1 2 .junk) (ac5 aB.2.1 3 .junk) (ac5 aB.2.1 4 .junk) (ac5 aB.2.1 5 .junk) (ac5 aB.2.1 6 .junk) aB.2.2)) (fun _ _=>none)) (.slice [] (.own (aa5 h2))) (h2++[.front 0 0])) (.slice [] (.own (aa5 h1))) (h1++[.front 0 0])).bind fun aC=>(fun aM aO aQ bB=>Ex.oA aC.1 (nZ (aa5 h0) (.tuple [aM,aO,aQ]) bB)) (ac5 aC.2.1 0 .junk) (ac5 aC.2.1 1 .junk) (ac5 aC.2.1 2 .junk) aC.2.2
theorem anZ (K:mA) (a0:lS) (h0:lT):p9 Tryz.prog nM nL K 71 [a0] h0=m71 (mW nM K) a0 h0:=by kernel_rfl
def m80 (K:mA) (a0:lS) (h0:lT):Option (nT×lT) :=
 (mC (nP 4 h0 a0) fun t0 h1=>(fun(t3:lS) (h2:lT)=>(fun(t5:lS) (h4:lT)=>(mG 0 t0).bind fun t6=>(mF false 1 h4 t6).bind fun t7=>(mP .eql t7 (.int .i64 1)).bind fun t8=>(mH t8 ((mG 2 t0).bind fun t9=>(mF false 1 h4 t9).bind fun aM=>mC (sD 1 1 [(.int .i64 0)] [(0,aM)] h4) fun aN aG=>some (.normal,[t3,aN],aG)) ((mP .eql t7 (.int .i64 2)).bind fun t13=>(mH t13 ((mG 2 t0).bind fun t14=>(mF false 1 h4 t14).bind fun t15=>(mG 3 t0).bind fun aO=>(mF false 1 h4 aO).bind fun aP=>mC (sD 2 1 [(.int .i64 0)] [(0,t15),(1,aP)] h4) fun aQ aH=>some (.normal,[t3,aQ],aH)) (some (.normal,[t3,t5],h4))).bind fun aE=>(fun aA aC aI=>Ex.rQ aE.1 (some (.normal,[aA,aC],aI))) (ac5 aE.2.1 0 .junk) (ac5 aE.2.1 1 .junk) aE.2.2)).bind fun yE=>(fun aF aD aJ=>Ex.rQ yE.1 (mR (K 96 [(lS.l_ aD),(lS.l_ (.func 97 [] []))] aJ) (fun t28 aK=>some (.ret,[t28],aK)) (fun _ _=>none))) (ac5 yE.2.1 0 .junk) (ac5 yE.2.1 1 .junk) yE.2.2) (.slice [] (.own (aa5 h2))) (h2++[.front 0 0])) (.slice [] (.own (aa5 h1))) (h1++[.front 0 0])).bind fun AM=>(fun aB aL=>Ex.oA AM.1 (nZ (aa5 h0) aB aL)) (ac5 AM.2.1 0 .junk) AM.2.2
theorem an1 (K:mA) (a0:lS) (h0:lT):p9 Tryz.prog nM nL K 80 [a0] h0=m80 (mW nM K) a0 h0:=by kernel_rfl
def Fp (K:mA) (m:Nat) (s:List lS×lT):Option R :=
 (fun aD aB aC aE aF aA aG=>(nK aB).bind fun aJ=>(nK aC).bind fun aK=>(mP .lss aJ aK).bind fun t23=>mH t23 (mC (mD 1 1 [(.int .u64 0)] [(0,(.int .u64 0))] aG) fun t24 aH=>mC (oY 1 8 aH aB t24) fun t26 aI=>mK m .normal [aD,t26,aC,aE,aF,aA] aI) (mK m (.exit 2) [aD,aB,aC,aE,aF,aA] aG)) (ac5 s.1 0 .junk) (ac5 s.1 1 .junk) (ac5 s.1 2 .junk) (ac5 s.1 3 .junk) (ac5 s.1 4 .junk) (ac5 s.1 5 .junk) s.2
def Fq (K:mA) (m:Nat) (s:List lS×lT):Option R :=
 (fun aF aD aG aH aE aB aC aA aI=>(mP .lss aA aC).bind fun aK=>mH aK ((mI 1 aB aA).bind fun aL=>(mF false 1 aI aL).bind fun aM=>(mI 1 aD aA).bind fun aN=>(mF false 1 aI aN).bind fun aO=>(mP .or aO aM).bind fun t53=>(mI 1 aD aA).bind fun aP=>(mL 1 aI aP t53).bind fun aJ=>(mP .add aA (.int .i64 1)).bind fun aQ=>mK m .normal [aF,aD,aG,aH,aE,aB,aC,aQ] aJ) (mK m (.exit 4) [aF,aD,aG,aH,aE,aB,aC,aA] aI)) (ac5 s.1 0 .junk) (ac5 s.1 1 .junk) (ac5 s.1 2 .junk) (ac5 s.1 3 .junk) (ac5 s.1 4 .junk) (ac5 s.1 5 .junk) (ac5 s.1 6 .junk) (ac5 s.1 7 .junk) s.2
def Fs (K:mA) (m:Nat) (s:List lS×lT):Option R :=
 (fun aV aW aT aU aA aX=>(mP .lss aA aU).bind fun bJ=>mH bJ (((mI 1 aT aA).bind fun t12=>(mF false 1 aX t12).bind fun t13=>(nL (Fp K (aa5 aX)) ([aV,aW,t13,aT,aU,aA],aX)).bind fun Bd=>(fun aF aI aL aM aP aB aY=>Ex.nC Bd.1 none (fun bE=>Ex.inBlock 2 bE ((nK aL).bind fun bK=>(nL (Fq K (aa5 aY)) ([aF,aI,aM,aP,aB,aL,bK,(.int .i64 0)],aY)).bind fun aE=>(fun aG aJ aN aQ aC aZ a_ bB bC=>Ex.nC aE.1 none (fun bG=>Ex.inBlock 4 bG (some (.normal,[aG,aJ,aN,aQ,aC],bC)) (fun bH=>some (bH,[aG,aJ,aN,aQ,aC],bC)))) (ac5 aE.2.1 0 .junk) (ac5 aE.2.1 1 .junk) (ac5 aE.2.1 2 .junk) (ac5 aE.2.1 3 .junk) (ac5 aE.2.1 4 .junk) (ac5 aE.2.1 5 .junk) (ac5 aE.2.1 6 .junk) (ac5 aE.2.1 7 .junk) aE.2.2) (fun bF=>some (bF,[aF,aI,aM,aP,aB],aY)))) (ac5 Bd.2.1 0 .junk) (ac5 Bd.2.1 1 .junk) (ac5 Bd.2.1 2 .junk) (ac5 Bd.2.1 3 .junk) (ac5 Bd.2.1 4 .junk) (ac5 Bd.2.1 5 .junk) Bd.2.2).bind fun aS=>(fun aH aK aO aR aD bD=>Ex.inBlock 1 aS.1 ((mP .add aD (.int .i64 1)).bind fun bL=>mK m .normal [aH,aK,aO,aR,bL] bD) (fun bI=>mK m bI [aH,aK,aO,aR,aD] bD)) (ac5 aS.2.1 0 .junk) (ac5 aS.2.1 1 .junk) (ac5 aS.2.1 2 .junk) (ac5 aS.2.1 3 .junk) (ac5 aS.2.1 4 .junk) aS.2.2) (mK m (.exit 0) [aV,aW,aT,aU,aA] aX)) (ac5 s.1 0 .junk) (ac5 s.1 1 .junk) (ac5 s.1 2 .junk) (ac5 s.1 3 .junk) (ac5 s.1 4 .junk) s.2
def m81 (K:mA) (a0:lS) (h0:lT):Option (nT×lT) :=
 ((fun(t1:lS) (h0:lT)=>(fun(t3:lS) (h2:lT)=>(nK a0).bind fun t4=>(nL (Fs K (aa5 h2)) ([t1,t3,a0,t4,(.int .i64 0)],h2)).bind fun aA=>(fun aB aD aH aI aF aG=>Ex.nC aA.1 none (fun aJ=>Ex.inBlock 0 aJ (some (.ret,[aD],aG)) (fun aK=>some (aK,[aB],aG)))) (ac5 aA.2.1 0 .junk) (ac5 aA.2.1 1 .junk) (ac5 aA.2.1 2 .junk) (ac5 aA.2.1 3 .junk) (ac5 aA.2.1 4 .junk) aA.2.2) (.slice [] (.own (aa5 h0))) (h0++[.front 0 0])) (.slice [] (.own (aa5 h0))) (h0++[.front 0 0])).bind fun aE=>(fun aC aL=>Ex.oA aE.1 (some (.ret aC,aL))) (ac5 aE.2.1 0 .junk) aE.2.2
theorem an2 (K:mA) (a0:lS) (h0:lT):p9 Tryz.prog nM nL K 81 [a0] h0=m81 (mW nM K) a0 h0:=by kernel_rfl
def m82 (K:mA) (a0 a1:lS) (h0:lT):Option (nT×lT) :=
 (mC (nP 4 h0 a0) fun t0 h1=>(fun(t3:lS) (h2:lT)=>(mG 0 t0).bind fun t4=>(mF false 1 h2 t4).bind fun t5=>(mP .eql t5 (.int .i64 2)).bind fun t6=>(mE true t6 ((mG 1 t0).bind fun t7=>mM t7 h2) (mM (.tuple []) h2)).bind (mY (fun t8 h9=>(mE true t6 ((mF false 1 h9 t8).bind fun aG=>mM aG h9) (mM (.tuple []) h9)).bind (mY (fun aH aD=>(mE true t6 ((mP .geq aH (.int .i64 0)).bind fun t13=>mM t13 aD) (mM (.tuple []) aD)).bind (mY (fun t14 aB=>(nA t6 t14 (.bool false)).bind fun aI=>mH aI ((mG 1 t0).bind fun aJ=>(mF false 1 aB aJ).bind fun aK=>mR (K 98 [a1,aK] aB) (fun aL aE=>some (.ret,[aL],aE)) (fun _ _=>none)) (some (.ret,[a1],aB))) (fun _ _=>none))) (fun _ _=>none))) (fun _ _=>none))) (.slice [] (.own (aa5 h1))) (h1++[.front 0 0])).bind fun aC=>(fun aA aF=>Ex.oA aC.1 (some (.ret aA,aF))) (ac5 aC.2.1 0 .junk) aC.2.2
theorem an3 (K:mA) (a0 a1:lS) (h0:lT):p9 Tryz.prog nM nL K 82 [a0,a1] h0=m82 (mW nM K) a0 a1 h0:=by kernel_rfl
def Dn (K:mA) (m:Nat) (s:List lS×lT):Option R :=
 (fun aD aE aB aC aA aL=>(mP .lss aA aC).bind fun t36=>mH t36 ((mI 1 aB aA).bind fun aP=>(mF false 1 aL aP).bind fun aM=>(mP .geq aM (.int .i64 0)).bind fun aQ=>(mH aQ (mR (K 98 [aD,aM] aL) (fun aR aN=>some (.normal,[aR,aE,aB,aC,aA],aN)) (fun _ _=>none)) (some (.normal,[aD,aE,aB,aC,aA],aL))).bind fun aF=>(fun aJ aK aG aH aI aO=>Ex.rQ aF.1 ((mP .add aI (.int .i64 1)).bind fun aS=>mK m .normal [aJ,aK,aG,aH,aS] aO)) (ac5 aF.2.1 0 .junk) (ac5 aF.2.1 1 .junk) (ac5 aF.2.1 2 .junk) (ac5 aF.2.1 3 .junk) (ac5 aF.2.1 4 .junk) aF.2.2) (mK m (.exit 0) [aD,aE,aB,aC,aA] aL)) (ac5 s.1 0 .junk) (ac5 s.1 1 .junk) (ac5 s.1 2 .junk) (ac5 s.1 3 .junk) (ac5 s.1 4 .junk) s.2
def m83 (K:mA) (a0 a1:lS) (h0:lT):Option (nT×lT) :=
 (mC (nP 6 h0 a0) fun t0 h1=>(fun(t3:lS) (h2:lT)=>(mF true 6 h2 t0).bind fun t4=>mR (K 73 [(lS.l_ t4)] h2) (fun t5 h6=>(mE true t5 ((mG 1 t0).bind fun t7=>mM t7 h6) (mM (.tuple []) h6)).bind (mY (fun t8 h9=>(mE true t5 ((mF false 1 h9 t8).bind fun aW=>mM aW h9) (mM (.tuple []) h9)).bind (mY (fun aX aN=>(mE true t5 ((mP .geq aX (.int .i64 0)).bind fun t13=>mM t13 aN) (mM (.tuple []) aN)).bind (mY (fun t14 aI=>(nA t5 t14 (.bool false)).bind fun aY=>(mH aY ((mG 1 t0).bind fun aZ=>(mF false 1 aI aZ).bind fun a_=>mR (K 99 [(lS.l_ a1),(lS.l_ a_)] aI) (fun bB aU=>some (.normal,[a1,t0,t3],aU)) (fun _ _=>none)) (some (.normal,[a1,t0,t3],aI))).bind fun aB=>(fun aC aE aF aO=>Ex.rQ aB.1 ((mF true 6 aO aE).bind fun t26=>mR (K 36 [(lS.l_ t26)] aO) (fun aR aP=>(nK aR).bind fun t29=>(nL (Dn K (aa5 aP)) ([aC,aF,aR,t29,(.int .i64 0)],aP)).bind fun aA=>(fun aD aG aK aL aM aQ=>Ex.nC aA.1 none (fun aS=>Ex.inBlock 0 aS (some (.ret,[aD],aQ)) (fun aT=>some (aT,[aG],aQ)))) (ac5 aA.2.1 0 .junk) (ac5 aA.2.1 1 .junk) (ac5 aA.2.1 2 .junk) (ac5 aA.2.1 3 .junk) (ac5 aA.2.1 4 .junk) aA.2.2) (fun _ _=>none))) (ac5 aB.2.1 0 .junk) (ac5 aB.2.1 1 .junk) (ac5 aB.2.1 2 .junk) aB.2.2) (fun _ _=>none))) (fun _ _=>none))) (fun _ _=>none))) (fun _ _=>none)) (.slice [] (.own (aa5 h1))) (h1++[.front 0 0])).bind fun aJ=>(fun aH aV=>Ex.oA aJ.1 (some (.ret aH,aV))) (ac5 aJ.2.1 0 .junk) aJ.2.2
theorem an4 (K:mA) (a0 a1:lS) (h0:lT):p9 Tryz.prog nM nL K 83 [a0,a1] h0=m83 (mW nM K) a0 a1 h0:=by kernel_rfl
def m84 (K:mA) (a0 a1:lS) (h0:lT):Option (nT×lT) :=
 (mR (K 85 [(lS.l_ a0)] h0) (fun t0 h1=>mR (K 85 [(lS.l_ a1)] h1) (fun t2 h3=>mR (K 100 [(lS.l_ t0),(lS.l_ t2)] h3) (fun t4 h5=>some (.ret,[t4],h5)) (fun _ _=>none)) (fun _ _=>none)) (fun _ _=>none)).bind fun r6=>(fun aA h8=>Ex.oA r6.1 (nZ (aa5 h0) aA h8)) (ac5 r6.2.1 0 .junk) r6.2.2
theorem an5 (K:mA) (a0 a1:lS) (h0:lT):p9 Tryz.prog nM nL K 84 [a0,a1] h0=m84 (mW nM K) a0 a1 h0:=by kernel_rfl
def Ft (K:mA) (m:Nat) (s:List lS×lT):Option R :=
 (fun aC aD aB aA aE aF aG aH=>(mP .neq aA (.int .u64 0)).bind fun aL=>mH aL ((mP .mul (.int .i64 64) aB).bind fun t23=>mR (K 101 [(lS.l_ aA)] aH) (fun t24 aI=>(mP .add t23 t24).bind fun t26=>mC (mD 1 1 [(.int .i64 0)] [(0,t26)] aI) fun aM aJ=>mC (nD 1 8 aJ aD aM) fun t29 aK=>(mP .sub aA (.int .u64 1)).bind fun t31=>(mP .and aA t31).bind fun t32=>mK m .normal [aC,t29,aB,t32,aE,aF,aG] aK) (fun _ _=>none)) (mK m (.exit 2) [aC,aD,aB,aA,aE,aF,aG] aH)) (ac5 s.1 0 .junk) (ac5 s.1 1 .junk) (ac5 s.1 2 .junk) (ac5 s.1 3 .junk) (ac5 s.1 4 .junk) (ac5 s.1 5 .junk) (ac5 s.1 6 .junk) s.2
def Fu (K:mA) (m:Nat) (s:List lS×lT):Option R :=
 (fun aP aQ aN aO aA aR=>(mP .lss aA aO).bind fun aZ=>mH aZ (((mI 1 aN aA).bind fun t12=>(mF false 1 aR t12).bind fun t13=>(nL (Ft K (aa5 aR)) ([aP,aQ,aA,t13,aN,aO,aA],aR)).bind fun aB=>(fun aC aE aU aV aG aI aK aS=>Ex.nC aB.1 none (fun aW=>Ex.inBlock 2 aW (some (.normal,[aC,aE,aG,aI,aK],aS)) (fun aX=>some (aX,[aC,aE,aG,aI,aK],aS)))) (ac5 aB.2.1 0 .junk) (ac5 aB.2.1 1 .junk) (ac5 aB.2.1 2 .junk) (ac5 aB.2.1 3 .junk) (ac5 aB.2.1 4 .junk) (ac5 aB.2.1 5 .junk) (ac5 aB.2.1 6 .junk) aB.2.2).bind fun aM=>(fun aD aF aH aJ aL aT=>Ex.inBlock 1 aM.1 ((mP .add aL (.int .i64 1)).bind fun a_=>mK m .normal [aD,aF,aH,aJ,a_] aT) (fun aY=>mK m aY [aD,aF,aH,aJ,aL] aT)) (ac5 aM.2.1 0 .junk) (ac5 aM.2.1 1 .junk) (ac5 aM.2.1 2 .junk) (ac5 aM.2.1 3 .junk) (ac5 aM.2.1 4 .junk) aM.2.2) (mK m (.exit 0) [aP,aQ,aN,aO,aA] aR)) (ac5 s.1 0 .junk) (ac5 s.1 1 .junk) (ac5 s.1 2 .junk) (ac5 s.1 3 .junk) (ac5 s.1 4 .junk) s.2
def m85 (K:mA) (a0:lS) (h0:lT):Option (nT×lT) :=
 ((fun(t1:lS) (h0:lT)=>(fun(t3:lS) (h2:lT)=>(nK a0).bind fun t4=>(nL (Fu K (aa5 h2)) ([t1,t3,a0,t4,(.int .i64 0)],h2)).bind fun NC=>(fun aA aC aF aG aH aE=>Ex.nC NC.1 none (fun aI=>Ex.inBlock 0 aI (some (.ret,[aC],aE)) (fun aJ=>some (aJ,[aA],aE)))) (ac5 NC.2.1 0 .junk) (ac5 NC.2.1 1 .junk) (ac5 NC.2.1 2 .junk) (ac5 NC.2.1 3 .junk) (ac5 NC.2.1 4 .junk) NC.2.2) (.slice [] (.own (aa5 h0))) (h0++[.front 0 0])) (.slice [] (.own (aa5 h0))) (h0++[.front 0 0])).bind fun aD=>(fun aB aK=>Ex.oA aD.1 (nZ (aa5 h0) aB aK)) (ac5 aD.2.1 0 .junk) aD.2.2
theorem an6 (K:mA) (a0:lS) (h0:lT):p9 Tryz.prog nM nL K 85 [a0] h0=m85 (mW nM K) a0 h0:=by kernel_rfl
def Dp (K:mA) (m:Nat) (s:List lS×lT):Option R :=
 (fun aB aC aE aD aA aL=>(nK aB).bind fun t12=>(mP .lss aA t12).bind fun t13=>mH t13 ((mI 1 aB aA).bind fun t14=>(mF false 1 aL t14).bind fun t15=>(rF aC).bind fun aK=>mR (rI nM K aK.1 (pO nM aK.1 (aK.2.1++[t15]++aK.2.2)) aL) (fun aP aM=>(yD .not aP).bind fun aQ=>(mH aQ ((mI 1 aB aD).bind fun aR=>(mL 1 aM aR t15).bind fun aN=>(mP .add aD (.int .i64 1)).bind fun aS=>some (.normal,[aB,aC,aE,aS,aA],aN)) (some (.normal,[aB,aC,aE,aD,aA],aM))).bind fun Ui=>(fun aF aG aH aI aJ aO=>Ex.rQ Ui.1 ((mP .add aJ (.int .i64 1)).bind fun t30=>mK m .normal [aF,aG,aH,aI,t30] aO)) (ac5 Ui.2.1 0 .junk) (ac5 Ui.2.1 1 .junk) (ac5 Ui.2.1 2 .junk) (ac5 Ui.2.1 3 .junk) (ac5 Ui.2.1 4 .junk) Ui.2.2) (fun _ _=>none)) (mK m (.exit 0) [aB,aC,aE,aD,aA] aL)) (ac5 s.1 0 .junk) (ac5 s.1 1 .junk) (ac5 s.1 2 .junk) (ac5 s.1 3 .junk) (ac5 s.1 4 .junk) s.2
def m96 (K:mA) (a0 a1:lS) (h0:lT):Option (nT×lT) :=
 ((fun(t1:lS) (h0:lT)=>mR (K 107 [(lS.l_ a0),(lS.l_ a1)] h0) (fun t2 h3=>(mP .eql t2 (.int .i64 (-1))).bind fun t4=>mH t4 (some (.ret,[a0],h3)) ((mP .add t2 (.int .i64 1)).bind fun t5=>(nL (Dp K (aa5 h3)) ([a0,a1,t1,t2,t5],h3)).bind fun Bk=>(fun aA aG aC aB aH aF=>Ex.nC Bk.1 none (fun aI=>Ex.inBlock 0 aI ((pF 1 aA (some aB) none).bind fun aM=>(C_ 1 [(.int .i64 0)] aF aM).bind fun aK=>(pF 1 aA none (some aB)).bind fun aN=>some (.ret,[aN],aK)) (fun aJ=>some (aJ,[aC],aF)))) (ac5 Bk.2.1 0 .junk) (ac5 Bk.2.1 1 .junk) (ac5 Bk.2.1 2 .junk) (ac5 Bk.2.1 3 .junk) (ac5 Bk.2.1 4 .junk) Bk.2.2)) (fun _ _=>none)) (.slice [] (.own (aa5 h0))) (h0++[.front 0 0])).bind fun aE=>(fun aD aL=>Ex.oA aE.1 (nZ (aa5 h0) aD aL)) (ac5 aE.2.1 0 .junk) aE.2.2
theorem Sq (K:mA) (a0 a1:lS) (h0:lT):p9 Tryz.prog nM nL K 96 [a0,a1] h0=m96 (mW nM K) a0 a1 h0:=by kernel_rfl
def m97 (K:mA) (a0:lS) (h0:lT):Option (nT×lT) :=
 ((mP .eql a0 (.int .i64 (-1))).bind fun t0=>some (.ret,[t0],h0)).bind fun r1=>(fun aA h3=>Ex.oA r1.1 (nZ (aa5 h0) aA h3)) (ac5 r1.2.1 0 .junk) r1.2.2
theorem an7 (K:mA) (a0:lS) (h0:lT):p9 Tryz.prog nM nL K 97 [a0] h0=m97 (mW nM K) a0 h0:=by kernel_rfl
def Fv (K:mA) (m:Nat) (s:List lS×lT):Option R :=
 (fun aA aB aC h5=>(mP .quo aB (.int .i64 64)).bind fun t6=>(nK aA).bind fun t7=>(mP .geq t6 t7).bind fun t8=>mH t8 (mC (mD 1 1 [(.int .u64 0)] [(0,(.int .u64 0))] h5) fun t9 aD=>mC (oY 1 8 aD aA t9) fun aF aE=>mK m .normal [aF,aB,aC] aE) (mK m (.exit 0) [aA,aB,aC] h5)) (ac5 s.1 0 .junk) (ac5 s.1 1 .junk) (ac5 s.1 2 .junk) s.2
def m98 (K:mA) (a0 a1:lS) (h0:lT):Option (nT×lT) :=
 ((fun(t1:lS) (h0:lT)=>(nL (Fv K (aa5 h0)) ([a0,a1,t1],h0)).bind fun Ud=>(fun aA aB aC aE=>Ex.nC Ud.1 none (fun aG=>Ex.inBlock 0 aG ((mP .quo aB (.int .i64 64)).bind fun aF=>(mI 1 aA aF).bind fun aK=>(mF false 1 aE aK).bind fun aL=>(mP .rem aB (.int .i64 64)).bind fun t23=>(mP .shl (.int .u64 1) t23).bind fun t24=>(mP .or aL t24).bind fun aM=>(mI 1 aA aF).bind fun t26=>(mL 1 aE t26 aM).bind fun aI=>some (.ret,[aA],aI)) (fun aH=>some (aH,[aC],aE)))) (ac5 Ud.2.1 0 .junk) (ac5 Ud.2.1 1 .junk) (ac5 Ud.2.1 2 .junk) Ud.2.2) (.slice [] (.own (aa5 h0))) (h0++[.front 0 0])).bind fun Bd=>(fun aD aJ=>Ex.oA Bd.1 (some (.ret aD,aJ))) (ac5 Bd.2.1 0 .junk) Bd.2.2
theorem an8 (K:mA) (a0 a1:lS) (h0:lT):p9 Tryz.prog nM nL K 98 [a0,a1] h0=m98 (mW nM K) a0 a1 h0:=by kernel_rfl
def m99 (K:mA) (a0 a1:lS) (h0:lT):Option (nT×lT) :=
 ((mP .quo a1 (.int .i64 64)).bind fun t0=>(nK a0).bind fun t1=>(mP .lss t0 t1).bind fun t2=>(mH t2 ((mP .quo a1 (.int .i64 64)).bind fun t3=>(mI 1 a0 t3).bind fun t4=>(mF false 1 h0 t4).bind fun t5=>(mP .rem a1 (.int .i64 64)).bind fun t6=>(mP .shl (.int .u64 1) t6).bind fun t7=>(mP .andNot t5 t7).bind fun t8=>(mI 1 a0 t3).bind fun t9=>(mL 1 h0 t9 t8).bind fun aB=>some (.normal,[],aB)) (some (.normal,[],h0))).bind fun aA=>(fun aC=>Ex.rQ aA.1 (some (.normal,[],aC)))  aA.2.2).bind fun Ud=>(fun aD=>Ex.oA Ud.1 (nZ (aa5 h0) (.tuple []) aD))  Ud.2.2
theorem an9 (K:mA) (a0 a1:lS) (h0:lT):p9 Tryz.prog nM nL K 99 [a0,a1] h0=m99 (mW nM K) a0 a1 h0:=by kernel_rfl
def Ec (K:mA) (m:Nat) (s:List lS×lT):Option R :=
 (fun aC aD aE aB aA h9=>(mP .lss aA aB).bind fun aF=>mH aF ((mI 1 aC aA).bind fun aG=>(mF false 1 h9 aG).bind fun t12=>(mI 1 aD aA).bind fun t13=>(mF false 1 h9 t13).bind fun t14=>(mP .neq t12 t14).bind fun t15=>mH t15 (mK m .ret [aC,aD,(.bool false),aB,aA] h9) ((mP .add aA (.int .i64 1)).bind fun aH=>mK m .normal [aC,aD,aE,aB,aH] h9)) (mK m (.exit 0) [aC,aD,aE,aB,aA] h9)) (ac5 s.1 0 .junk) (ac5 s.1 1 .junk) (ac5 s.1 2 .junk) (ac5 s.1 3 .junk) (ac5 s.1 4 .junk) s.2
def alP (K:mA) (a0 a1:lS) (h0:lT):Option (nT×lT) :=
 ((nK a0).bind fun t0=>(nK a1).bind fun t1=>(mP .neq t0 t1).bind fun t2=>mH t2 (some (.ret,[(.bool false)],h0)) ((nK a0).bind fun t3=>(nL (Ec K (aa5 h0)) ([a0,a1,(.bool false),t3,(.int .i64 0)],h0)).bind fun aA=>(fun aG aH aB aD aE aF=>Ex.nC aA.1 none (fun aI=>Ex.inBlock 0 aI (some (.ret,[(.bool true)],aF)) (fun aJ=>some (aJ,[aB],aF)))) (ac5 aA.2.1 0 .junk) (ac5 aA.2.1 1 .junk) (ac5 aA.2.1 2 .junk) (ac5 aA.2.1 3 .junk) (ac5 aA.2.1 4 .junk) aA.2.2)).bind fun EW=>(fun aC aK=>Ex.oA EW.1 (nZ (aa5 h0) aC aK)) (ac5 EW.2.1 0 .junk) EW.2.2
theorem adB (K:mA) (a0 a1:lS) (h0:lT):p9 Tryz.prog nM nL K 100 [a0,a1] h0=alP (mW nM K) a0 a1 h0:=by kernel_rfl
def adC (K:mA) (a0:lS) (h0:lT):Option (nT×lT) :=
 ((mP .eql a0 (.int .u64 0)).bind fun t0=>mH t0 (some (.ret,[(.int .i64 64)],h0)) ((yD .neg a0).bind fun t1=>(mP .and a0 t1).bind fun t2=>(mP .mul t2 (.int .u64 285870213051353865)).bind fun t3=>(mP .shr t3 (.int .u64 58)).bind fun t4=>(xT 64 1 (.pptr vY) t4).bind fun t5=>(mF false 1 h0 t5).bind fun t6=>(Bo .i64 t6).bind fun t7=>some (.ret,[t7],h0))).bind fun r8=>(fun aA aB=>Ex.oA r8.1 (nZ (aa5 h0) aA aB)) (ac5 r8.2.1 0 .junk) r8.2.2
theorem adD (K:mA) (a0:lS) (h0:lT):p9 Tryz.prog nM nL K 101 [a0] h0=adC (mW nM K) a0 h0:=by kernel_rfl
def xD (K:mA) (m:Nat) (s:List lS×lT):Option R :=
 (fun aB aC aE aD aA h6=>(mP .lss aA aD).bind fun t7=>mH t7 ((mI 1 aB aA).bind fun t8=>(mF false 1 h6 t8).bind fun t9=>(rF aC).bind fun aF=>mR (rI nM K aF.1 (pO nM aF.1 (aF.2.1++[t9]++aF.2.2)) h6) (fun aH aG=>mH aH (mK m .ret [aB,aC,aA,aD,aA] aG) ((mP .add aA (.int .i64 1)).bind fun t13=>mK m .normal [aB,aC,aE,aD,t13] aG)) (fun _ _=>none)) (mK m (.exit 0) [aB,aC,aE,aD,aA] h6)) (ac5 s.1 0 .junk) (ac5 s.1 1 .junk) (ac5 s.1 2 .junk) (ac5 s.1 3 .junk) (ac5 s.1 4 .junk) s.2
def alQ (K:mA) (a0 a1:lS) (h0:lT):Option (nT×lT) :=
 ((nK a0).bind fun t0=>(nL (xD K (aa5 h0)) ([a0,a1,(.int .i64 0),t0,(.int .i64 0)],h0)).bind fun Qo=>(fun aD aE aA aF aG aC=>Ex.nC Qo.1 none (fun aH=>Ex.inBlock 0 aH (some (.ret,[(.int .i64 (-1))],aC)) (fun aI=>some (aI,[aA],aC)))) (ac5 Qo.2.1 0 .junk) (ac5 Qo.2.1 1 .junk) (ac5 Qo.2.1 2 .junk) (ac5 Qo.2.1 3 .junk) (ac5 Qo.2.1 4 .junk) Qo.2.2).bind fun Ui=>(fun aB aJ=>Ex.oA Ui.1 (nZ (aa5 h0) aB aJ)) (ac5 Ui.2.1 0 .junk) Ui.2.2
theorem TV (K:mA) (a0 a1:lS) (h0:lT):p9 Tryz.prog nM nL K 107 [a0,a1] h0=alQ (mW nM K) a0 a1 h0:=by kernel_rfl
end
section
open Go Hk
section
variable {p:IR}(hp:ZU p)
include hp
end
end
section
open Go Hk
section
variable {p:IR}(ha:(p.arrays.length:Int)≤1048576) (hb:(p.blocks.length:Int)≤1048576)
include hb
end
section
variable {p:IR}(hp:ZU p)
include hp
end
end
section
open Go Hk
def ZH (o:Op) (S:Int→Prop):Int→Prop:=fun t=>t∈pK o∨(S t∧¬((oH o.kind).dst=true∧o.dst=t))
def Uq (x:Term) (S:Int→Prop):Int→Prop:=fun t=>(x.kind=2∧x.a=t)∨S t
def Ap (l:List Op) (x:Term) (S:Int→Prop):Int→Prop:=l.foldr ZH (Uq x S)
def B5 (b:mU) (S:Int→Prop):Int→Prop:=Ap b.ops b.term S
def tT:List Op→Term→Int→Int
 | [],x,t=>if x.kind=2∧x.a=t then 1 else 0
 | o::r,x,t=>if t∈pK o then 1 else if (oH o.kind).dst=true∧o.dst=t then 2 else tT r x t
theorem sF (l:List Op) (x:Term) (S:Int→Prop) (t:Int):Ap l x S t↔tT l x t=1∨(tT l x t=0∧S t):=by
 induction l with
 | nil =>
  simp only [Ap,List.foldr_nil,Uq,tT]
  by_cases h:x.kind=2∧x.a=t <;> simp [h]
 | cons o r ih =>
  have e:Ap (o::r) x S t↔t∈pK o∨(Ap r x S t∧¬((oH o.kind).dst=true∧o.dst=t)):=Iff.rfl
  rw [e,ih]
  simp only [tT]
  by_cases h1:t∈pK o
  ·simp [h1]
  ·by_cases h2:(oH o.kind).dst=true∧o.dst=t
   ·simp [h1,h2]
   ·simp [h1,h2]
def uE (x:Term):List Int:=if x.kind=1 then [x.yes].filter (fun k=>decide (0≤k)) else if x.kind=2 then [x.yes,x.no].filter (fun k=>decide (0≤k)) else []
inductive Reach (bs:List mU) (t:Int):Nat→Prop
 | here {k:Nat}{b:mU}(hb:bs[k]?=some b) (hf:tT b.ops b.term t=1):Reach bs t k
 | step {k:Nat}{b:mU}{j:Int}(hb:bs[k]?=some b) (hf:tT b.ops b.term t=0) (hj:j∈uE b.term) (hr:Reach bs t j.toNat):Reach bs t k
def EX (bs:List mU) (t:Int) (x:Term):Prop:=∃j∈uE x,Reach bs t j.toNat
theorem K_ {bs:List mU}{t:Int}{k:Nat}{b:mU}(hb:bs[k]?=some b):Reach bs t k↔B5 b (fun t=>EX bs t b.term) t:=by
 unfold B5
 rw [sF]
 constructor
 ·intro h
  cases h with
  | here hb' hf=>rw [hb] at hb';cases hb';exact .inl hf
  | step hb' hf hj hr=>rw [hb] at hb';cases hb';exact .inr ⟨hf,_,hj,hr⟩
 ·rintro(h | ⟨h,j,hj,hr⟩)
  ·exact .here hb h
  ·exact .step hb h hj hr
theorem A1 {l:List Op}{x:Term}{S T:Int→Prop}(h:∀t,S t→T t) {t:Int}(ht:Ap l x S t):Ap l x T t:=by
 rw [sF] at ht ⊢
 rcases ht with h1 | ⟨h1,h2⟩
 ·exact .inl h1
 ·exact .inr ⟨h1,h _ h2⟩
theorem Q7 {bs:List mU}{W:Nat→Int→Prop}(hW:∀k t,W k t→Reach bs t k) {k:Nat}{b:mU}(hb:bs[k]?=some b) {t:Int}
  (ht:B5 b (fun t=>∃j∈uE b.term,W j.toNat t) t):Reach bs t k :=
 (K_ hb).2 (A1 (fun t ⟨j,hj,hw⟩=>⟨j,hj,hW _ _ hw⟩) ht)
theorem Kl {bs:List mU}{W:Nat→Int→Prop}(hfix:∀k b,bs[k]?=some b→∀t,B5 b (fun t=>∃j∈uE b.term,W j.toNat t) t→W k t) {t:Int}{k:Nat}(h:Reach bs t k):W k t:=by
 induction h with
 | here hb hf=>exact hfix _ _ hb _ (by unfold B5;rw [sF];exact .inl hf)
 | step hb hf hj hr ih=>exact hfix _ _ hb _ (by unfold B5;rw [sF];exact .inr ⟨hf,_,hj,ih⟩)
end
end Go.Proofs.YtgllbnabmglcfaaGreatDoor
namespace Go.Proofs.Wd
section
abbrev Wd:=BitVec 64
theorem YS (n:Nat) (h:0<n):∃k m,n=2^k*(2*m+1):=by
 induction n using Nat.strongRecOn with
 | _ n ih =>
  by_cases h1:n%2=1
  ·exact⟨0,n/2,by omega⟩
  ·obtain⟨k,m,e⟩:=ih (n/2) (by omega) (by omega)
   refine⟨k+1,m,?_⟩
   rw [Nat.pow_succ,Nat.mul_comm (2^k) 2,Nat.mul_assoc,←e];omega
theorem lowest (w:Wd) (h:w≠0#64):∃k,k<64∧w.getLsbD k=true∧(∀i,i<k→w.getLsbD i=false)∧(∀i,(w-1#64).getLsbD i=if i<k then true else if i=k then false else w.getLsbD i):=by
 have h0:w.toNat≠0:=fun e=>h (BitVec.eq_of_toNat_eq (by simpa using e))
 obtain⟨k,m,e⟩:=YS w.toNat (by omega)
 have hw:=w.isLt
 have e1:w.toNat=2^(k+1)*m+2^k:=by rw [e,Nat.pow_succ];rw [Nat.mul_add,Nat.mul_one,Nat.mul_assoc]
 have hp:0<2^k:=Nat.two_pow_pos k
 have e2:(w-1#64).toNat=2^(k+1)*m+(2^k-1):=by
  rw [BitVec.toNat_sub]
  have:(1#64).toNat=1:=rfl
  rw [this]
  have:2^64-1+w.toNat=(w.toNat-1)+2^64:=by omega
  rw [this,Nat.add_mod_right,Nat.mod_eq_of_lt (by omega),e1]
  omega
 have hpk:2^k<2^(k+1):=Nat.pow_lt_pow_right (by omega) (by omega)
 have b1:∀i,w.getLsbD i=if i<k+1 then decide (k=i) else m.testBit (i-(k+1)):=fun i=>by
  rw [BitVec.getLsbD,e1,Nat.testBit_two_pow_mul_add m hpk,Nat.testBit_two_pow]
 have b2:∀i,(w-1#64).getLsbD i=if i<k+1 then decide (i<k) else m.testBit (i-(k+1)):=fun i=>by
  rw [BitVec.getLsbD,e2,Nat.testBit_two_pow_mul_add m (by omega),Nat.testBit_two_pow_sub_one]
 have hk:k<64:=by
  rcases Nat.lt_or_ge k 64 with h1 | h1
  ·exact h1
  ·have:2^64≤2^k:=Nat.pow_le_pow_right (by omega) h1
   omega
 refine⟨k,hk,by rw [b1];simp,fun i hi=>?_,fun i=>?_⟩
 ·rw [b1,if_pos (by omega)];simp;omega
 ·rw [b2,b1]
  by_cases h1:i<k
  ·rw [if_pos (by omega),if_pos h1];simp [h1]
  ·rw [if_neg h1]
   by_cases h2:i=k
   ·rw [if_pos (by omega),if_pos h2];simp [h2]
   ·rw [if_neg (by omega),if_neg h2,if_neg (by omega)]
theorem ac9 (w:Wd) {k:Nat}(hk:k<64) (h1:w.getLsbD k=true) (h2:∀i,i<k→w.getLsbD i=false) (h3:∀i,(w-1#64).getLsbD i=if i<k then true else if i=k then false else w.getLsbD i) :
  w &&& -w=BitVec.twoPow 64 k:=by
 have e:-w = ~~~(w-1#64):=by
  rw [BitVec.neg_eq_not_add]
  apply BitVec.eq_of_toNat_eq
  rw [BitVec.toNat_add,BitVec.toNat_not,BitVec.toNat_not,BitVec.toNat_sub]
  have hw:=w.isLt
  have:(1#64).toNat=1:=rfl
  rw [this]
  omega
 apply BitVec.eq_of_getLsbD_eq
 intro i hi
 rw [BitVec.getLsbD_and,e,BitVec.getLsbD_not,h3,BitVec.getLsbD_twoPow]
 by_cases c1:i<k
 ·simp [c1,h2 i c1];omega
 ·by_cases c2:i=k
  ·subst c2;simp [h1,hi]
  ·simp [c1,c2,hi];omega
theorem Vd (w:Wd) {k:Nat}(h2:∀i,i<k→w.getLsbD i=false) (h3:∀i,(w-1#64).getLsbD i=if i<k then true else if i=k then false else w.getLsbD i) (i:Nat) :
  (w &&& (w-1#64)).getLsbD i=(w.getLsbD i&&!decide (i=k)):=by
 rw [BitVec.getLsbD_and,h3]
 by_cases c1:i<k
 ·simp [c1,h2 i c1]
 ·by_cases c2:i=k
  ·subst c2;simp
  ·simp [c1,c2]
theorem WZ (w:Wd) (h:w≠0#64):(w &&& (w-1#64)).toNat<w.toNat:=by
 have h0:w.toNat≠0:=fun e=>h (BitVec.eq_of_toNat_eq (by simpa using e))
 have hw:=w.isLt
 have e1:(w-1#64).toNat=w.toNat-1:=by
  rw [BitVec.toNat_sub]
  have:(1#64).toNat=1:=rfl
  rw [this];omega
 rw [BitVec.toNat_and,e1]
 have:=Nat.and_le_right (n:=w.toNat) (m:=w.toNat-1)
 omega
def vF (w:Wd):List Nat:=(ar9 64).filter fun i=>w.getLsbD i
theorem Q6:vF 0#64=[]:=by simp [vF]
theorem Q5 (w:Wd) {k:Nat}(hk:k<64) (h1:w.getLsbD k=true) (h2:∀i,i<k→w.getLsbD i=false) (h3:∀i,(w-1#64).getLsbD i=if i<k then true else if i=k then false else w.getLsbD i) :
  vF w=k::vF (w &&& (w-1#64)):=by
 have er:ar9 64=ar9 k++(k::List.range' (k+1) (63-k)):=by
  have:k::List.range' (k+1) (63-k)=List.range' k (63-k+1):=by rw [List.range'_succ]
  rw [this,List.range_eq_range',List.range_eq_range',show 63-k+1=64-k by omega]
  have:=List.range'_append_1 (s:=0) (m:=k) (n:=64-k)
  simp only [av7] at this
  rw [this];congr 1;omega
 have lo:∀v:Wd,(∀i,i<k→v.getLsbD i=false)→(ar9 k).filter (fun i=>v.getLsbD i)=[]:=fun v hv=>by
  rw [List.filter_eq_nil_iff]
  intro i hi
  rw [hv i (List.mem_range.1 hi)];simp
 have hc:=Vd w h2 h3
 unfold vF
 rw [er,List.filter_append,List.filter_append,lo w h2,lo _ (fun i hi=>by rw [hc,h2 i hi];simp),av6,av6,List.filter_cons,List.filter_cons,if_pos h1,if_neg (by rw [hc];simp)]
 congr 1
 apply List.filter_congr
 intro i hi
 have:=List.mem_range'_1.1 hi
 rw [hc]
 have:¬i=k:=by omega
 simp [this]
def pR (ws:List Wd) (t:Nat):Bool:=(ws.getD (t/64) 0#64).getLsbD (t%64)
def Af (ws:List Wd) (n:Nat):List Wd:=ws++ak7 (n-ws.length) 0#64
theorem Ah (ws:List Wd) (n:Nat):(Af ws n).length=max ws.length n:=by simp [Af];omega
theorem Ag (ws:List Wd) (n i:Nat):(Af ws n).getD i 0#64=ws.getD i 0#64:=by
 unfold Af
 rw [ah6,ah6]
 by_cases h:i<ws.length
 ·rw [List.getElem?_append_left h]
 ·rw [ak0 (by omega),List.getElem?_eq_none (l:=ws) (by omega),List.getElem?_replicate]
  split <;> rfl
theorem IW {ws:List Wd}{n:Nat}(h:n≤ws.length):Af ws n=ws:=by simp [Af,Nat.sub_eq_zero_of_le h]
theorem KZ {ws:List Wd}{n:Nat}(h:ws.length<n):Af (ws++[0#64]) n=Af ws n:=by
 unfold Af
 rw [au9,List.length_singleton,aw8,List.singleton_append,←List.replicate_succ]
 congr 2;omega
theorem ID (ws:List Wd) (i j:Nat) (x:Wd) (h:i<ws.length):(ws.set i x).getD j 0#64=if i=j then x else ws.getD j 0#64:=by
 rw [ah6,ah6,List.getElem?_set]
 split
 ·rename_i e;subst e;simp [h]
 ·rfl
def vI (ws:List Wd) (t:Nat):List Wd:=(Af ws (t/64+1)).set (t/64) ((Af ws (t/64+1)).getD (t/64) 0#64 ||| BitVec.twoPow 64 (t%64))
theorem LB (ws:List Wd) (t:Nat):(vI ws t).length=max ws.length (t/64+1):=by simp [vI,Ah]
theorem Lz (ws:List Wd) (t u:Nat):pR (vI ws t) u=(pR ws u || decide (u=t)):=by
 unfold pR vI
 rw [ID _ _ _ _ (by rw [Ah];omega)]
 by_cases h:t/64=u/64
 ·rw [if_pos h,Ag,h,BitVec.getLsbD_or,BitVec.getLsbD_twoPow]
  have:decide (t%64=u%64)=decide (u=t):=by
   by_cases e:u=t
   ·simp [e]
   ·simp [e];omega
  have h64:t%64<64:=Nat.mod_lt _ (by omega)
  simp only [this]
  have:decide (t%64<64)=true:=by simp [h64]
  simp [this]
 ·rw [if_neg h,Ag]
  have:¬u=t:=fun e=>h (by rw [e])
  simp [this]
def tY (ws:List Wd) (t:Nat):List Wd:=if t/64<ws.length then ws.set (t/64) (ws.getD (t/64) 0#64 &&& ~~~ BitVec.twoPow 64 (t%64)) else ws
theorem EV (ws:List Wd) (t:Nat):(tY ws t).length=ws.length:=by unfold tY;split <;> simp
theorem N8 (ws:List Wd) (t u:Nat):pR (tY ws t) u=(pR ws u&&!decide (u=t)):=by
 unfold tY
 split
 ·rename_i hlt
  unfold pR
  rw [ID _ _ _ _ hlt]
  have hu64:u%64<64:=Nat.mod_lt _ (by omega)
  by_cases h:t/64=u/64
  ·rw [if_pos h,h,BitVec.getLsbD_and,BitVec.getLsbD_not,BitVec.getLsbD_twoPow]
   have:decide (t%64=u%64)=decide (u=t):=by
    by_cases e:u=t
    ·simp [e]
    ·simp [e];omega
   simp only [this]
   have h64:t%64<64:=Nat.mod_lt _ (by omega)
   simp [hu64,h64]
  ·rw [if_neg h]
   have:¬u=t:=fun e=>h (by rw [e])
   simp [this]
 ·rename_i hlt
  by_cases h:u=t
  ·subst h
   unfold pR
   rw [ah6,List.getElem?_eq_none (by omega)]
   simp
  ·simp [h]
def GQ (out s:List Wd):List Wd:=(Af out s.length).mapIdx fun i w=>w ||| s.getD i 0#64
theorem T9 (out s:List Wd):(GQ out s).length=max out.length s.length:=by simp [GQ,Ah]
theorem Pl (out s:List Wd) (i:Nat):(GQ out s).getD i 0#64=out.getD i 0#64 ||| s.getD i 0#64:=by
 unfold GQ
 rw [ah6,List.getElem?_mapIdx]
 have:=Ag out s.length i
 rw [ah6] at this
 cases h:(Af out s.length)[i]? with
 | some x=>rw [h] at this;simp at this;simp [this]
 | none =>
  rw [h] at this
  have hl:=List.getElem?_eq_none_iff.1 h
  rw [Ah] at hl
  clear this
  rw [ah6,ah6,List.getElem?_eq_none (l:=out) (by omega),List.getElem?_eq_none (l:=s) (by omega)]
  simp
theorem agL (out s:List Wd) (t:Nat):pR (GQ out s) t=(pR out t || pR s t):=by unfold pR;rw [Pl,BitVec.getLsbD_or]
def oT (ws:List Wd):List Nat:=(ar9 (64*ws.length)).filter (pR ws)
theorem CF {ws:List Wd}{t:Nat}(h:pR ws t=true):t<64*ws.length:=by
 unfold pR at h
 by_cases hlt:t/64<ws.length
 ·omega
 ·rw [ah6,List.getElem?_eq_none (by omega)] at h;simp at h
theorem D2 {p:Nat→Bool}:∀{n m:Nat},n≤m→(∀t,p t=true→t<n)→(ar9 m).filter p=(ar9 n).filter p:=by
 intro n m hnm hp
 obtain⟨d,rfl⟩:=Nat.exists_eq_add_of_le hnm
 rw [List.range_add,List.filter_append]
 have:(List.map (fun x=>n+x) (ar9 d)).filter p=[]:=by
  rw [List.filter_eq_nil_iff]
  intro t ht
  obtain⟨i,_,rfl⟩:=au6.1 ht
  intro h
  have:=hp _ h
  omega
 rw [this,List.append_nil]
theorem BA {ws:List Wd}{n:Nat}(h:∀t,pR ws t=true→t<n):oT ws=(ar9 n).filter (pR ws):=by
 unfold oT
 rcases Nat.le_total n (64*ws.length) with h1 | h1
 ·exact D2 h1 h
 ·exact(D2 h1 fun t ht=>CF ht).symm
theorem KW {ws:List Wd}{t:Nat}:t∈oT ws↔pR ws t=true:=by
 unfold oT
 rw [List.mem_filter,List.mem_range]
 exact⟨fun h=>h.2,fun h=>⟨CF h,h⟩⟩
theorem U8 {a b:List Wd}:oT a=oT b↔∀t,pR a t=pR b t:=by
 constructor
 ·intro h t
  have:t∈oT a↔t∈oT b:=by rw [h]
  rw [KW,KW] at this
  cases ha:pR a t <;> cases hb:pR b t <;> simp_all
 ·intro h
  have ha:oT a=(ar9 (64*max a.length b.length)).filter (pR a):=BA fun t ht=>by have:=CF ht;omega
  have hb:oT b=(ar9 (64*max a.length b.length)).filter (pR b):=BA fun t ht=>by have:=CF ht;omega
  rw [ha,hb]
  exact List.filter_congr fun t _=>h t
def pG (ws:List Wd) (n:Nat):List Nat:=(ar9 n).flatMap fun i=>(vF (ws.getD i 0#64)).map (64*i+·)
theorem BC (ws:List Wd):∀n,pG ws n=(ar9 (64*n)).filter (pR ws)
 | 0=>by simp [pG]
 | n+1=>by
  have ih:=BC ws n
  unfold pG at ih ⊢
  rw [List.range_succ,List.flatMap_append,ih,Nat.mul_add,Nat.mul_one,List.range_add,List.filter_append]
  congr 1
  simp only [List.flatMap_cons,List.flatMap_nil,List.append_nil,vF,List.filter_map]
  congr 1
  apply List.filter_congr
  intro i hi
  have:=List.mem_range.1 hi
  simp only [Function.comp,pR]
  rw [show(64*n+i)/64=n by omega,show(64*n+i)%64=i by omega]
theorem Q4 (ws:List Wd):oT ws=pG ws ws.length:=(BC ws _).symm
end
end Go.Proofs.Wd
namespace Go.Proofs.YtgllbnabmglcfaaGreatDoor
section
open Go Hk Go.Proofs.Wd
def wc (w:Wd):lS:=.int .u64 (w.toNat:Int)
theorem Qn {n:Int}:IntKind.wrap .u64 n=n%18446744073709551616:=by simp [IntKind.wrap,IntKind.signed,IntKind.bits]
theorem Ad (w:Wd):BitVec.ofInt 64 (w.toNat:Int)=w:=by
 apply BitVec.eq_of_toNat_eq
 rw [BitVec.toNat_ofInt]
 have:=w.isLt
 omega
theorem N9 (w:Wd):IntKind.wrap .u64 (w.toNat:Int)=w.toNat:=by
 rw [Qn];have:=w.isLt;omega
theorem HH (a b:Wd):mP .or (wc a) (wc b)=some (wc (a ||| b)):=by
 show(some (lS.int .u64 (IntKind.wrap .u64 ((BitVec.ofInt 64 (a.toNat:Int) ||| BitVec.ofInt 64 (b.toNat:Int)).toNat:Int))):Option lS)=_
 rw [Ad,Ad,N9];rfl
theorem FY (a b:Wd):mP .and (wc a) (wc b)=some (wc (a &&& b)):=by
 show(some (lS.int .u64 (IntKind.wrap .u64 ((BitVec.ofInt 64 (a.toNat:Int) &&& BitVec.ofInt 64 (b.toNat:Int)).toNat:Int))):Option lS)=_
 rw [Ad,Ad,N9];rfl
theorem HE (a b:Wd):mP .andNot (wc a) (wc b)=some (wc (a &&& ~~~ b)):=by
 show(some (lS.int .u64 (IntKind.wrap .u64 ((BitVec.ofInt 64 (a.toNat:Int) &&& ~~~ BitVec.ofInt 64 (b.toNat:Int)).toNat:Int))):Option lS)=_
 rw [Ad,Ad,N9];rfl
theorem F0 {s:Nat}(hs:s<64):mP .shl (.int .u64 1) (.int .i64 (s:Int))=some (wc (BitVec.twoPow 64 s)):=by
 have h0:¬(s:Int)<0:=by omega
 simp only [mP,if_neg h0,wc,BitVec.toNat_twoPow,av8,ah5,lS.int.injEq,true_and]
 rw [Qn]
 have:min s (IntKind.bits .u64)=s:=by simp [IntKind.bits];omega
 rw [this,Int.natCast_emod]
 simp
theorem Ow (a:Wd):mP .sub (wc a) (.int .u64 1)=some (wc (a-1#64)):=by
 unfold wc
 rw [WI,Qn,BitVec.toNat_sub]
 have:=a.isLt
 congr 2
 have e:(1#64).toNat=1:=rfl
 rw [e]
 omega
theorem agK (a:Wd):mP .neq (wc a) (.int .u64 0)=some (.bool (!decide (a=0#64))):=by
 unfold wc
 rw [WH]
 congr 3
 rw [decide_eq_decide]
 have:((a.toNat:Int)=0)↔a=0#64:=⟨fun h=>BitVec.eq_of_toNat_eq (by have:(0#64).toNat=0:=rfl;omega),fun h=>by subst h;rfl⟩
 exact this
theorem aqZ (a:Wd):mP .eql (wc a) (.int .u64 0)=some (.bool (decide (a=0#64))):=by
 unfold wc
 rw [WE]
 congr 2
 rw [decide_eq_decide]
 have:((a.toNat:Int)=0)↔a=0#64:=⟨fun h=>BitVec.eq_of_toNat_eq (by have:(0#64).toNat=0:=rfl;omega),fun h=>by subst h;rfl⟩
 exact this
theorem QF (a:Wd):yD .neg (wc a)=some (wc (-a)):=by
 unfold wc
 rw [aa9,Qn,BitVec.toNat_neg]
 have:=a.isLt
 congr 2
 omega
theorem V7 (a:Wd):mP .mul (wc a) (.int .u64 285870213051353865)=some (wc (a*285870213051353865#64)):=by
 unfold wc
 rw [WG,Qn,BitVec.toNat_mul]
 have e:(285870213051353865#64).toNat=285870213051353865:=rfl
 rw [e]
 congr 2
theorem V8 (a:Wd):mP .shr (wc a) (.int .u64 58)=some (.int .u64 ((a.toNat >>> 58:Nat):Int)):=by
 have h0:¬(58:Int)<0:=by omega
 simp only [mP,wc,if_neg h0,ah5,lS.int.injEq,true_and]
 rw [Int.fdiv_eq_ediv_of_nonneg _ (by simp [IntKind.bits]),Nat.shiftRight_eq_div_pow]
 simp [IntKind.bits]
def at4:List Nat:=[0,1,56,2,57,49,28,3,61,58,42,50,38,29,17,4,62,47,59,36,45,43,51,22,53,39,33,30,24,18,12,5,63,55,48,27,60,41,37,16,46,35,44,21,52,32,23,11,54,26,40,15,34,20,31,10,25,14,19,9,13,8,7,6]
def bru (k:Nat):Nat:=2^k*285870213051353865%18446744073709551616/288230376151711744
theorem akA:(ar9 64).all (fun k=>(at4[bru k]? == some k)&&decide (bru k<64))=true:=by decide +kernel
theorem aj9 {k:Nat}(hk:k<64):(BitVec.twoPow 64 k*285870213051353865#64).toNat >>> 58=bru k:=by
 have e:(285870213051353865#64).toNat=285870213051353865:=rfl
 have h2:2^k%2^64=2^k:=Nat.mod_eq_of_lt (Nat.pow_lt_pow_right (by omega) hk)
 rw [BitVec.toNat_mul,BitVec.toNat_twoPow,h2,e,Nat.shiftRight_eq_div_pow]
 rfl
theorem QS:vY=at4.map fun n=>.int .u8 (n:Int):=by rfl
attribute [irreducible] bru
theorem akB {k:Nat}(hk:k<64):vY[bru k]?=some (.int .u8 (k:Int))∧bru k<64:=by
 have h:=aq5.1 akA k (List.mem_range.2 hk)
 rw [aq1,beq_iff_eq,decide_eq_true_eq] at h
 rw [QS,ak4,h.1]
 exact⟨rfl,h.2⟩
theorem WS {k j:Nat}(b1:vY[j]?=some (.int .u8 (k:Int))) (b2:j<64):∃p,xT 64 1 (.pptr vY) (.int .u64 (j:Int))=some p∧mF false 1 [] p=some (.int .u8 (k:Int)):=by
 refine⟨.pptr (vY.drop (j*1)),?_,?_⟩
 ·have h1:(0:Int)≤(j:Int)∧(j:Int)<((64:Nat):Int):=by omega
  simp only [xT,if_pos h1,av8]
 ·rw [OF,List.getElem?_drop,Nat.mul_one,Nat.add_zero];exact b1
theorem XA {a b c d p:lS}{j k:Nat}(hk:k<64) (f0:mP .eql a (.int .u64 0)=some (.bool false)) (f1:yD .neg a=some b) (f2:mP .and a b=some c)
  (f3:mP .mul c (.int .u64 285870213051353865)=some d) (f4:mP .shr d (.int .u64 58)=some (.int .u64 (j:Int))) (e1:xT 64 1 (.pptr vY) (.int .u64 (j:Int))=some p) (e2:mF false 1 [] p=some (.int .u8 (k:Int))) :
  adC KK a []=some (.ret (.int .i64 (k:Int)),[]):=by
 have hw64:IntKind.i64.wrap (k:Int)=k:=by rw [wrap64] <;> omega
 simp [adC,f0,f1,f2,f3,f4,e1,e2,hw64,nE]
theorem UT {a:lS}{k:Nat}(ha:[a].all (lS.sM 0)=true) (hm:adC KK a []=some (.ret (.int .i64 (k:Int)),[])) (h:lT):KK 101 [a] h=some (.ret (.int .i64 (k:Int)),h) :=
 nN rfl ha (oN (adD _ _ _) hm)
theorem aAK (w:Wd) {k:Nat}(hk:k<64) (h1:w.getLsbD k=true) (h2:∀i,i<k→w.getLsbD i=false) (h3:∀i,(w-1#64).getLsbD i=if i<k then true else if i=k then false else w.getLsbD i) (h:lT) :
  KK 101 [wc w] h=some (.ret (.int .i64 (k:Int)),h):=by
 have hw:w≠0#64:=fun e=>by subst e;simp at h1
 have hl:=ac9 w hk h1 h2 h3
 obtain⟨b1,b2⟩:=akB hk
 have f0:mP .eql (wc w) (.int .u64 0)=some (.bool false):=by rw [aqZ,decide_eq_false hw]
 have f1:=QF w
 have f2:mP .and (wc w) (wc (-w))=some (wc (BitVec.twoPow 64 k)):=by rw [FY,hl]
 have f3:=V7 (BitVec.twoPow 64 k)
 have f4:mP .shr (wc (BitVec.twoPow 64 k*285870213051353865#64)) (.int .u64 58)=some (.int .u64 (bru k:Int)):=by rw [V8,aj9 hk]
 have ha:[wc w].all (lS.sM 0)=true:=rfl
 generalize bru k=j at *
 generalize wc (-w)=b at *
 generalize wc (BitVec.twoPow 64 k*285870213051353865#64)=d at *
 generalize wc (BitVec.twoPow 64 k)=c at *
 generalize wc w=a at *
 obtain⟨p,e1,e2⟩:=WS b1 b2
 exact UT ha (XA hk f0 f1 f2 f3 f4 e1 e2) h
def VS (id:Nat):List Wd→lS
 | []=>.slice [] (.own id)
 | w::r=>.vslice id (r.length+1) 0 (r.length+1) 1
def XS:List Wd→mT
 | []=>.front 0 0
 | w::r=>.vec (r.length+1) 1 ((w::r).map wc)
section
variable {A B C:List mT}{ws:List Wd}{id m i:Nat}{h:lT}{k:IntKind}
theorem Hx:nK (VS id ws)=some (.int .i64 (ws.length:Int)):=by cases ws <;> rfl
theorem aaS (hi:id<m):lS.oL m h (VS id ws)=VS id ws:=by
 cases ws with
 | nil=>simp [VS,hi]
 | cons w r=>exact yT hi
theorem vJ (hi:id<m):lS.qJ m h (VS id ws)=VS id ws:=by
 cases ws with
 | nil=>simp [VS,hi]
 | cons w r=>exact Dw hi
theorem xQ:XOk (XS ws):=by
 intro m h
 cases ws with
 | nil=>rfl
 | cons w r =>
  have:nQ m h ((w::r).map wc)=some ((w::r).map wc):=v8 fun c hc=>by
   obtain⟨x,_,rfl⟩:=au6.1 hc;exact⟨_,_,rfl⟩
  show(nQ m h ((w::r).map wc)).map _=_
  rw [this];rfl
theorem DI (hi:i<ws.length):mI 1 (VS id ws) (.int k (i:Int))=some (.vptr id ws.length i):=by
 cases ws with
 | nil=>simp at hi
 | cons w r =>
  have:i<r.length+1:=by simpa using hi
  simp [VS,this]
theorem GU {X:mT}:(OQ A X B)[A.length]?=some X:=by
 unfold OQ;rw [ak0 (ak5 _),Nat.sub_self];rfl
theorem Ce (h0:ws≠[]):oQ (OQ A (XS ws) B) A.length ws.length=some (1,ws.map wc):=by
 unfold oQ
 rw [GU]
 cases ws with
 | nil=>exact absurd rfl h0
 | cons w r=>simp [XS]
theorem GV (hi:i<ws.length):mF false 1 (OQ A (XS ws) B) (.vptr A.length ws.length i)=some (wc (ws.getD i 0#64)):=by
 rw [lZ,Ce (by intro e;subst e;simp at hi)]
 simp [ah6,hi]
theorem Hy (hi:i<ws.length) (w:Wd):mL 1 (OQ A (XS ws) B) (.vptr A.length ws.length i) (wc w)=some (OQ A (XS (ws.set i w)) B):=by
 rw [lX,Ce (by intro e;subst e;simp at hi)]
 have e1:putCells (ws.map wc) i [wc w]=(ws.set i w).map wc:=by
  unfold putCells
  rw [List.map_set,List.set_eq_take_append_cons_drop,if_pos (by simpa using hi)]
  simp
 have e2:XS (ws.set i w)=.vec ws.length 1 ((ws.set i w).map wc):=by
  cases ws with
  | nil=>simp at hi
  | cons x r=>cases i <;> simp [XS]
 simp only [ak6]
 rw [if_pos ⟨rfl,by simp;omega,rfl⟩]
 show some (List.set _ _ (mT.vec ws.length 1 (putCells (ws.map wc) i [wc w])))=_
 rw [e1,←e2,zD]
theorem KC (hl:ws.length≤2000000) (w:Wd) {t:Hk.Tok}:oY 1 8 (OQ A (XS ws) B) (VS A.length ws) (.slice [[wc w]] t)=some (VS A.length (ws++[w]),OQ A (XS (ws++[w])) B):=by
 have hr:xU 1 (OQ A (XS ws) B) (.slice [[wc w]] t)=some [[wc w]]:=by simp
 cases ws with
 | nil =>
  unfold oY
  simp only [VS,hr]
  rw [GU]
  simp [XS,VS,zD]
 | cons x r =>
  have hg:=Ce (A:=A) (B:=B) (ws:=x::r) (by simp)
  unfold oY
  simp only [VS,hr]
  simp only [ar8] at hg hl ⊢
  rw [hg]
  simp only [ay5,av7]
  rw [if_pos ⟨trivial,trivial,by omega,by omega⟩,if_neg (by omega),if_neg (by omega)]
  simp [XS,VS,zD,List.take_of_length_le]
end
end
section
open Go Hk Go.Proofs.Wd
theorem WB {id:Nat}{a b:List Wd}(h:a.length=b.length):VS id a=VS id b:=by
 cases a <;> cases b <;> simp_all [VS]
theorem Uc {t:Nat}(ht:t≤2000000):mP .quo (.int .i64 (t:Int)) (.int .i64 64)=some (.int .i64 ((t/64:Nat):Int)):=by
 rw [Ov (by omega)]
 have:((t:Int)).tdiv 64=((t/64:Nat):Int):=by rw [Int.tdiv_eq_ediv_of_nonneg (by omega)];omega
 rw [this,wrap64 (by omega) (by omega)]
theorem aiY {t:Nat}:mP .rem (.int .i64 (t:Int)) (.int .i64 64)=some (.int .i64 ((t%64:Nat):Int)):=by
 rw [sI (by omega),Int.tmod_eq_emod_of_nonneg (by omega)];rfl
theorem Ph {h:lT}:mD 1 1 [.int .u64 0] [(0,.int .u64 0)] h=some (.slice [[wc 0#64]] (.own h.length),h++[.front 1 1]):=by rfl
section
variable {A B:List mT}
theorem YG (hB:KB A B) {t n:Nat}(ht:t≤2000000) (hn:n=t/64+1) {v:lS}(hv:∀h,v.qJ (HN A B) h=v):∀(d:Nat) (ws:List Wd),n-ws.length=d →
  nL (Fv KK (HN A B)) ([VS A.length ws,.int .i64 (t:Int),v],OQ A (XS ws) B)=some (.exit 0,[VS A.length (Af ws n),.int .i64 (t:Int),v],OQ A (XS (Af ws n)) B):=by
 intro d
 induction d with
 | zero =>
  intro ws hd
  rw [nW,IW (by omega)]
  have hc:¬((ws.length:Int)≤((t/64:Nat):Int)):=by omega
  have q64:=Uc ht
  clear hd
  generalize t/64=q at *
  have htr:=qQ (X:=XS ws) (A:=A) (B:=B) hB xQ
  have hs:=fun h=>vJ (ws:=ws) (m:=HN A B) (h:=h) tP
  have step:Fv KK (HN A B) ([VS A.length ws,.int .i64 (t:Int),v],OQ A (XS ws) B)=some (.exit 0,[VS A.length ws,.int .i64 (t:Int),v],OQ A (XS ws) B):=by
   unfold Fv
   simp only [List.getD_cons_zero,List.getD_cons_succ]
   rw [q64,Hx]
   simp -implicitDefEqProofs [hc,mK,htr,hs,hv]
  rw [step];rfl
 | succ d ih =>
  intro ws hd
  rw [nW]
  have hc:((ws.length:Int)≤((t/64:Nat):Int)):=by omega
  have htr:=tQ (X:=XS (ws++[0#64])) (A:=A) (B:=B) (C:=[.front 1 1]) hB xQ
  have hs:=fun h=>vJ (ws:=ws++[0#64]) (m:=HN A B) (h:=h) tP
  have g:=ih (ws++[0#64]) (by simp;omega)
  rw [KZ (by omega)] at g
  rw [←g]
  have ha:=fun t=>KC (A:=A) (B:=B++[.front 1 1]) (ws:=ws) (by omega) 0#64 (t:=t)
  have q64:=Uc ht
  clear g ih
  have hl:ws.length≤1000000:=by omega
  clear hd hn
  generalize t/64=q at *
  have step:Fv KK (HN A B) ([VS A.length ws,.int .i64 (t:Int),v],OQ A (XS ws) B)=some (.normal,[VS A.length (ws++[0#64]),.int .i64 (t:Int),v],OQ A (XS (ws++[0#64])) B):=by
   unfold Fv
   simp only [List.getD_cons_zero,List.getD_cons_succ]
   rw [q64,Hx]
   simp -implicitDefEqProofs [hc,mK,htr,hs,hv,Ph,ha]
  rw [step];rfl
theorem c98 (hB:KB A B) {t:Nat}(ht:t≤2000000) (ws:List Wd):KK 98 [VS A.length ws,.int .i64 (t:Int)] (OQ A (XS ws) B)=some (.ret (VS A.length (vI ws t)),OQ A (XS (vI ws t)) (B++[.front 0 0])):=by
 refine oN (an8 _ _ _ _) ?_
 have hB2:KB A (B++[.front 0 0]):=hB.app (by simp)
 have g:=YG hB2 ht rfl (v:=.slice [] (.own (HN A B))) (fun h=>by simp) _ ws rfl
 have hl:t/64<(Af ws (t/64+1)).length:=by rw [Ah];omega
 have h1:=fun k=>DI (id:=A.length) (k:=k) hl
 have h2:=GV (A:=A) (B:=B++[.front 0 0]) hl
 have h3:=Hy (A:=A) (B:=B++[.front 0 0]) hl
 have h4:=F0 (s:=t%64) (Nat.mod_lt _ (by omega))
 simp only [EZ,ar8,ay5,av7] at g
 unfold vI m98
 simp only [C7,LJ,EZ,ar8,ay5,av7]
 rw [g]
 simp only [ak6,Qd,Mr,BEq.rfl,beq_self_eq_true,cond_true,List.getD_cons_zero,List.getD_cons_succ]
 rw [Uc ht,ak6,h1,ak6,h2,ak6,aiY,ak6,h4,ak6,HH,ak6,ak6,h3]
 simp only [ak6,W9,ah5,Prod.mk.injEq,nT.ret.injEq,and_true,List.getD_cons_zero]
 exact WB (by simp)
theorem c99 (hB:KB A B) {t:Nat}(ht:t≤2000000) (ws:List Wd):KK 99 [(VS A.length ws).l_,.int .i64 (t:Int)] (OQ A (XS ws) B)=some (.ret (.tuple []),OQ A (XS (tY ws t)) B):=by
 refine oN (an9 _ _ _ _) ?_
 have htr:=fun ws=>qQ (X:=XS ws) (A:=A) (B:=B) hB xQ
 have hlen:nK (VS A.length ws).l_=some (.int .i64 (ws.length:Int)):=by cases ws <;> rfl
 unfold tY m99
 rw [Uc ht,ak6,hlen]
 by_cases hl:t/64<ws.length
 ·have hl':((t/64:Nat):Int)<(ws.length:Int):=by omega
  have e:(VS A.length ws).l_=VS A.length ws:=by cases ws with | nil=>simp at hl | cons w r=>rfl
  have h1:=fun k=>DI (id:=A.length) (k:=k) hl
  have h2:=GV (A:=A) (B:=B) hl
  have h3:=Hy (A:=A) (B:=B) hl
  have h4:=F0 (s:=t%64) (Nat.mod_lt _ (by omega))
  rw [e,if_pos hl]
  simp only [ak6,HF,decide_eq_true hl',l9,cond_true]
  rw [h1,ak6,h2,ak6,aiY,ak6,h4,ak6,HE,ak6,ak6,h3]
  simp -implicitDefEqProofs [nZ,htr]
 ·have hl':¬((t/64:Nat):Int)<(ws.length:Int):=by omega
  rw [if_neg hl]
  simp only [ak6,HF,decide_eq_false hl',l9,cond_false]
  simp -implicitDefEqProofs [nZ,htr]
end
end
section
open Go Hk Go.Proofs.Wd
abbrev TH (h:lT):Prop:=CN h.length h
theorem tJ {h C:lT}(hK:TH h):o_ h.length (h++C)=some h:=by
 unfold o_
 rw [List.take_left]
 exact hK _ _ (ak5 _)
theorem rU {h:lT}(hK:TH h):o_ h.length h=some h:=by
 have:=tJ (C:=[]) hK
 rwa [List.append_nil] at this
theorem Qu {h C:lT}(hK:TH h) (hC:CN (h.length+C.length) C):TH (h++C):=by
 unfold TH
 rw [au9]
 exact qP (hK.mono (by omega)) hC
theorem atB {A B:List mT}{X:mT}(hB:KB A B) (hX:XOk X):TH (OQ A X B):=by
 intro m h' hm
 rw [C7] at hm
 refine yU (hB.a m hm m h' (ak5 _)) ?_
 simp only [pC,hX m h',hB.b m hm m h' (ak5 _)]
structure CQ (h:lT) (S:lS) (ws:List Wd):Prop where
 len:nK S=some (.int .i64 (ws.length:Int))
 at_:∀i,i<ws.length→∃p,mI 1 S (.int .i64 (i:Int))=some p∧∀C,mF false 1 (h++C) p=some (wc (ws.getD i 0#64))
 qJ:∀m h',h.length≤m→S.oL m h'=S
def PS (ws:List Wd):lS:=.slice (ws.map fun w=>[wc w]) .no
theorem PL {h:lT}{ws:List Wd}:CQ h (PS ws) ws:=by
 refine⟨by simp [PS],fun i hi=>⟨.pptr [wc (ws.getD i 0#64)],?_,fun C=>by simp⟩,fun m h' _=>rfl⟩
 rw [PS,lW,ag8 hi]
 simp [ah6,hi]
theorem Zm {A B:List mT}{ws:List Wd}:CQ (OQ A (XS ws) B) (VS A.length ws) ws:=by
 refine⟨Hx,fun i hi=>⟨_,DI hi,fun C=>?_⟩,fun m h' hm=>aaS (by rw [C7] at hm;have:=tP (A:=A) (B:=B);omega)⟩
 rw [LJ];exact GV hi
theorem CQ.l_ {h:lT}{A B:List mT}{ws:List Wd}(e:h=OQ A (XS ws) B):CQ h (VS A.length ws).l_ ws:=by
 subst e
 cases ws with
 | nil=>exact⟨rfl,fun i hi=>by simp at hi,fun _ _ _=>rfl⟩
 | cons w r=>exact Zm
def FR (n:Nat):mT:=if n=0 then .front 0 0 else .front n 1
theorem A9 {n k:Nat}:CN k [FR n]:=by
 unfold FR;split <;> exact pL rW
def zs (l:List Nat):List Int:=l.map fun k:Nat=>(k:Int)
theorem Ob {l:List Nat}:(zs l).length=l.length:=by simp [zs]
def ints (l:List Int):List (List lS):=l.map fun n=>[.int .i64 n]
theorem Ux {h C:lT}{l:List Int}{z:Int}(hl:l.length≤2000000) {t:Hk.Tok} :
  nD 1 8 (h++FR l.length::C) (.slice (ints l) (.own h.length)) (.slice [[.int .i64 z]] t)=some (.slice (ints (l++[z])) (.own h.length),h++FR (l.length+1)::C):=by
 have hr:∀H:lT,sR 1 H (.slice [[.int .i64 z]] t)=some [[.int .i64 z]]:=fun H=>by simp
 have hg:∀x,(h++x::C)[h.length]?=some x:=fun x=>by rw [ak0 (ak5 _),Nat.sub_self];rfl
 have hs:∀x y,(h++x::C).set h.length y=h++y::C:=fun x y=>by rw [List.set_append_right _ _ (ak5 _),Nat.sub_self];rfl
 have hi:(ints l).length=l.length:=by simp [ints]
 have e1:FR (l.length+1)=.front (l.length+1) 1:=by simp [FR]
 have e2:ints (l++[z])=ints l++[[.int .i64 z]]:=by simp [ints]
 unfold nD
 simp only [hr]
 rw [hg,e1,e2]
 by_cases h0:l.length=0
 ·have e3:FR l.length=.front 0 0:=by simp [FR,h0]
  rw [e3]
  simp only [hi,List.length_singleton,hs]
  rw [if_pos ⟨h0,.inr ⟨trivial,trivial⟩,by omega,by omega⟩,if_neg (by omega),h0]
 ·have e3:FR l.length=.front l.length 1:=by simp [FR,h0]
  rw [e3]
  simp only [hi,List.length_singleton,hs]
  rw [if_pos ⟨trivial,.inl trivial,by omega,by omega⟩,if_neg (by omega)]
section
variable {h:lT}(hK:TH h) {S:lS}{ws:List Wd}(hS:CQ h S ws) (hw:ws.length≤20000)
include hK hS hw
theorem Vr (i:Nat) (hi:i≤20000) (c:Int) {v:lS}(hv:∀h',v.oL (h.length+2) h'=v) (hv2:∀h',v.qJ (h.length+2) h'=v):∀(n:Nat) (w:Wd) (l:List Int),w.toNat<n→l.length+(vF w).length≤64*i+64 →
  nL (Ft KK (h.length+2)) ([v,.slice (ints l) (.own (h.length+1)),.int .i64 (i:Int),wc w,S,.int .i64 c,.int .i64 (i:Int)],h++[.front 0 0,FR l.length]) =
   some (.exit 2,[v,.slice (ints (l++(vF w).map fun k=>((64*i+k:Nat):Int))) (.own (h.length+1)),.int .i64 (i:Int),wc 0#64,S,.int .i64 c,.int .i64 (i:Int)],h++[.front 0 0,FR (l++(vF w).map fun k=>((64*i+k:Nat):Int)).length]):=by
 have hSs:∀h',S.qJ (h.length+2) h'=S:=fun h'=>by
  have h1:=hS.len
  cases S with
  | slice rows t=>exact hS.qJ _ h' (by omega)
  | mslice a b c d=>exact hS.qJ _ h' (by omega)
  | vslice a b c d e=>exact hS.qJ _ h' (by omega)
  | _=>simp [nK] at h1
 have hT:∀n,TH (h++[.front 0 0,FR n]):=fun n=>Qu hK (pL A9)
 have htr:∀n C,o_ (h.length+2) (h++.front 0 0::FR n::C)=some (h++[.front 0 0,FR n]):=fun n C=>by
  have:=tJ (C:=C) (hT n)
  simpa using this
 have hwc:∀w h',lS.qJ (h.length+2) h' (wc w)=wc w:=fun w h'=>rfl
 intro n
 induction n with
 | zero=>intro w l a1;omega
 | succ n ih =>
  intro w l a1 a2
  rw [nW]
  have f0:=agK w
  by_cases h0:w=0#64
  ·subst h0
   rw [Q6]
   have step:Ft KK (h.length+2) ([v,.slice (ints l) (.own (h.length+1)),.int .i64 (i:Int),wc 0#64,S,.int .i64 c,.int .i64 (i:Int)],h++[.front 0 0,FR l.length]) =
     some (.exit 2,[v,.slice (ints l) (.own (h.length+1)),.int .i64 (i:Int),wc 0#64,S,.int .i64 c,.int .i64 (i:Int)],h++[.front 0 0,FR l.length]):=by
    unfold Ft
    simp only [List.getD_cons_zero,List.getD_cons_succ]
    rw [f0]
    simp -implicitDefEqProofs [mK,htr,hv2,hSs,hwc]
   rw [step];simp
  ·obtain⟨k,hk,h1,h2,h3⟩:=lowest w h0
   have hc:=WZ w h0
   have hlw:=Q5 w hk h1 h2 h3
   have f1:=Ow w
   have f2:=FY w (w-1#64)
   have f3:=fun h'=>aAK w hk h1 h2 h3 h'
   have g:=ih (w &&& (w-1#64)) (l++[((64*i+k:Nat):Int)]) (by omega) (by rw [hlw] at a2;simp at a2 ⊢;omega)
   have hle:(vF w).length≤64:=by unfold vF;exact ax9 (List.length_filter_le _ _) (by simp)
   have w1:IntKind.i64.wrap (64*(i:Int))=64*(i:Int):=by rw [wrap64] <;> omega
   have w2:IntKind.i64.wrap (64*(i:Int)+(k:Int))=((64*i+k:Nat):Int):=by rw [wrap64] <;> omega
   have fa:=fun C t=>Ux (h:=h++[.front 0 0]) (C:=C) (l:=l) (z:=((64*i+k:Nat):Int)) (by omega) (t:=t)
   simp only [au9,ar8,ay5,av7,aw8,ax4,av6] at fa
   have fb:∀(h':lT) (z:Int),mD 1 1 [.int .i64 0] [(0,.int .i64 z)] h'=some (.slice [[.int .i64 z]] (.own h'.length),h'++[.front 1 1]):=fun h' z=>rfl
   rw [hlw]
   simp only [as6]
   have e:l++((64*i+k:Nat):Int)::(vF (w &&& (w-1#64))).map (fun k=>((64*i+k:Nat):Int))=(l++[((64*i+k:Nat):Int)])++(vF (w &&& (w-1#64))).map (fun k=>((64*i+k:Nat):Int)):=by simp
   rw [e,←g]
   clear g ih a2 hlw e a1 hc h1 h2 h3 hle
   generalize (64*i+k:Nat)=z at *
   generalize w-1#64=wm at *
   generalize w &&& wm=w' at *
   have f0':mP .neq (wc w) (.int .u64 0)=some (.bool true):=by rw [f0,decide_eq_false h0];rfl
   have fu:lS.l_ (wc w)=wc w:=rfl
   have step:Ft KK (h.length+2) ([v,.slice (ints l) (.own (h.length+1)),.int .i64 (i:Int),wc w,S,.int .i64 c,.int .i64 (i:Int)],h++[.front 0 0,FR l.length]) =
     some (.normal,[v,.slice (ints (l++[(z:Int)])) (.own (h.length+1)),.int .i64 (i:Int),wc w',S,.int .i64 c,.int .i64 (i:Int)],h++[.front 0 0,FR (l.length+1)]):=by
    clear f0
    have hw':=fun h'=>hwc w' h'
    clear hwc
    generalize wc w=a at *
    generalize wc w'=a' at *
    generalize wc wm=am at *
    unfold Ft
    simp only [List.getD_cons_zero,List.getD_cons_succ]
    rw [f0']
    simp -implicitDefEqProofs [mK,htr,hv2,hSs,w1,w2,f1,f2,f3,fa,fb,fu,hw']
   rw [step];simp
theorem Vt {v:lS}(hv:∀h',v.oL (h.length+2) h'=v) (hv2:∀h',v.qJ (h.length+2) h'=v):∀(n i:Nat),ws.length<i+n→i≤ws.length →
  ∃j:Int,nL (Fu KK (h.length+2)) ([v,.slice (ints (zs (pG ws i))) (.own (h.length+1)),S,.int .i64 (ws.length:Int),.int .i64 (i:Int)],h++[.front 0 0,FR (pG ws i).length]) =
   some (.exit 0,[v,.slice (ints (zs (pG ws ws.length))) (.own (h.length+1)),S,.int .i64 (ws.length:Int),.int .i64 j],h++[.front 0 0,FR (pG ws ws.length).length]):=by
 have hSs:∀h',S.qJ (h.length+2) h'=S:=fun h'=>by
  have h1:=hS.len
  cases S with
  | slice rows t=>exact hS.qJ _ h' (by omega)
  | mslice a b c d=>exact hS.qJ _ h' (by omega)
  | vslice a b c d e=>exact hS.qJ _ h' (by omega)
  | _=>simp [nK] at h1
 have hT:∀n,TH (h++[.front 0 0,FR n]):=fun n=>Qu hK (pL A9)
 have htr:∀n C,o_ (h.length+2) (h++.front 0 0::FR n::C)=some (h++[.front 0 0,FR n]):=fun n C=>by
  have:=tJ (C:=C) (hT n)
  simpa using this
 have hlu:∀i,(pG ws i).length≤64*i:=fun i=>by
  rw [BC];exact ax9 (List.length_filter_le _ _) (by simp)
 intro n
 induction n with
 | zero=>intro i a1 a2;omega
 | succ n ih =>
  intro i a1 a2
  rw [nW]
  by_cases hi:i<ws.length
  ·have hi':(i:Int)<ws.length:=by omega
   obtain⟨p,e1,e2⟩:=hS.at_ i hi
   have w1:=C4 (a:=i) (by omega)
   have g0:=Vr hK hS hw i (by omega) (ws.length:Int) hv hv2 ((ws.getD i 0#64).toNat+1) (ws.getD i 0#64) (zs (pG ws i)) (by omega) (by
    have h1:=hlu i
    have h2:(vF (ws.getD i 0#64)).length≤64:=by unfold vF;exact ax9 (List.length_filter_le _ _) (by simp)
    rw [Ob];omega)
   have eu:pG ws (i+1)=pG ws i++(vF (ws.getD i 0#64)).map (64*i+·):=by
    unfold pG;rw [List.range_succ,List.flatMap_append];simp
   have el:(zs (pG ws i))++(vF (ws.getD i 0#64)).map (fun k=>((64*i+k:Nat):Int))=zs (pG ws (i+1)):=by
    rw [eu,zs,zs,List.map_append,List.map_map];rfl
   rw [el] at g0
   simp only [Ob] at g0
   obtain⟨j,g1⟩:=ih (i+1) (by omega) hi
   refine⟨j,?_⟩
   rw [←g1]
   simp only [ax3,aw6]
   have e2':=e2 [.front 0 0,FR (pG ws i).length]
   clear g1 ih e2 eu el
   generalize wc (ws.getD i 0#64)=a at *
   have step:Fu KK (h.length+2) ([v,.slice (ints (zs (pG ws i))) (.own (h.length+1)),S,.int .i64 (ws.length:Int),.int .i64 (i:Int)],h++[.front 0 0,FR (pG ws i).length]) =
     some (.normal,[v,.slice (ints (zs (pG ws (i+1)))) (.own (h.length+1)),S,.int .i64 (ws.length:Int),.int .i64 ((i:Int)+1)],h++[.front 0 0,FR (pG ws (i+1)).length]):=by
    unfold Fu
    simp -implicitDefEqProofs [hi',e1,e2',g0,mK,htr,hv2,hSs,w1]
   rw [step];rfl
  ·have hi':¬(i:Int)<ws.length:=by omega
   obtain rfl:i=ws.length:=by omega
   refine⟨(ws.length:Int),?_⟩
   have step:Fu KK (h.length+2) ([v,.slice (ints (zs (pG ws ws.length))) (.own (h.length+1)),S,.int .i64 (ws.length:Int),.int .i64 (ws.length:Int)],h++[.front 0 0,FR (pG ws ws.length).length]) =
     some (.exit 0,[v,.slice (ints (zs (pG ws ws.length))) (.own (h.length+1)),S,.int .i64 (ws.length:Int),.int .i64 (ws.length:Int)],h++[.front 0 0,FR (pG ws ws.length).length]):=by
    unfold Fu
    simp -implicitDefEqProofs [mK,htr,hv2,hSs]
   rw [step];rfl
theorem c85:KK 85 [S] h=some (.ret (.slice (ints (zs (oT ws))) .no),h):=by
 refine oN (an6 _ _ _) ?_
 obtain⟨j,g⟩:=Vt hK hS hw (v:=.slice [] (.own h.length)) (fun h'=>by simp) (fun h'=>by simp) (ws.length+1) 0 (by omega) (Nat.zero_le _)
 have e0:pG ws 0=[]:=rfl
 rw [e0] at g
 have hl:=hS.len
 have htr:=fun C=>tJ (C:=C) hK
 rw [Q4]
 have e1:FR ([]:List Nat).length=.front 0 0:=rfl
 have e2:ints (zs [])=[]:=rfl
 rw [e1,e2] at g
 simp only [aw6] at g
 unfold m85
 have hd:decide (h.length+1<h.length)=false:=by simp
 simp -implicitDefEqProofs [hl,g,nZ,htr,hd]
end
theorem Ve (a b:List Int) (hab:a.length=b.length) (hl:a.length≤2000000):∀(n i:Nat),a.length<i+n→i≤a.length →
  ∃(ex:Ex) (r:Bool) (j:Int),nL (Ec KK 0) ([.slice (ints a) .no,.slice (ints b) .no,.bool false,.int .i64 (a.length:Int),.int .i64 (i:Int)],[])=some (ex,[.slice (ints a) .no,.slice (ints b) .no,.bool r,.int .i64 (a.length:Int),.int .i64 j],[]) ∧
   ((ex=.ret∧r=false∧a.drop i≠b.drop i)∨(ex=.exit 0∧a.drop i=b.drop i)):=by
 intro n
 induction n with
 | zero=>intro i a1 a2;omega
 | succ n ih =>
  intro i a1 a2
  rw [nW]
  by_cases hi:i<a.length
  ·have hi':(i:Int)<a.length:=by omega
   have hx:a[i]?=some a[i]:=ag8 hi
   have hib:i<b.length:=by omega
   have hy:b[i]?=some b[i]:=ag8 hib
   have w1:=C4 (a:=i) (by omega)
   rw [ar7 hi,ar7 hib]
   generalize a[i]=x at *
   generalize b[i]=y at *
   by_cases he:x=y
   ·obtain⟨ex,r,j,g1,g2⟩:=ih (i+1) (by omega) hi
    refine⟨ex,r,j,?_,?_⟩
    ·simp only [ax3,aw6] at g1
     rw [←g1]
     simp [Ec,hi',hx,hy,ints,he,Fb,w1]
    ·rw [he];simpa using g2
   ·refine⟨.ret,false,i,?_,.inl ⟨rfl,rfl,by simp [he]⟩⟩
    simp [Ec,hi',hx,hy,ints,he,Fb]
  ·have hi':¬(i:Int)<a.length:=by omega
   rw [List.drop_eq_nil_of_le (by omega),List.drop_eq_nil_of_le (by omega)]
   refine⟨.exit 0,false,i,?_,.inr ⟨rfl,rfl⟩⟩
   simp [Ec,hi',Fb]
theorem aAJ (a b:List Int) (hl:a.length≤2000000) (h:lT):KK 100 [.slice (ints a) .no,.slice (ints b) .no] h=some (.ret (.bool (decide (a=b))),h):=by
 refine nN rfl rfl (oN (adB _ _ _ _) ?_)
 have e1:nK (.slice (ints a) .no)=some (.int .i64 (a.length:Int)):=by simp [ints]
 have e2:nK (.slice (ints b) .no)=some (.int .i64 (b.length:Int)):=by simp [ints]
 by_cases hab:a.length=b.length
 ·obtain⟨ex,r,j,g1,g2⟩:=Ve a b hab hl (a.length+1) 0 (by omega) (Nat.zero_le _)
  simp only [List.drop_zero,aw6] at g1 g2
  rw [←hab] at e2
  unfold alP
  rcases g2 with ⟨rfl,rfl,g2⟩ | ⟨rfl,g2⟩
  ·simp [e1,e2,g1,g2,nE]
  ·subst g2
   simp [e1,g1,nE]
 ·have hab':¬((a.length:Int)=(b.length:Int)):=by omega
  have hne:¬a=b:=fun e=>hab (by rw [e])
  unfold alP
  simp [e1,e2,hab,hab',hne,nE]
theorem c84 {h:lT}(hK:TH h) {S T:lS}{a b:List Wd}(hS:CQ h S.l_ a) (hT:CQ h T.l_ b) (ha:a.length≤20000) (hb:b.length≤20000) :
  KK 84 [S,T] h=some (.ret (.bool (decide (oT a=oT b))),h):=by
 refine oN (an5 _ _ _ _) ?_
 have f1:=c85 hK hS ha
 have f2:=c85 hK hT hb
 have f3:=fun h'=>aAJ (zs (oT a)) (zs (oT b)) (by
  rw [Ob,oT];exact ax9 (List.length_filter_le _ _) (by simp;omega)) h'
 have e:decide (zs (oT a)=zs (oT b))=decide (oT a=oT b):=by
  congr 1
  refine propext ⟨fun h=>?_,fun h=>by rw [h]⟩
  exact(List.map_inj_right (fun x y hxy=>Int.ofNat_inj.1 hxy)).1 h
 rw [e] at f3
 have htr:=rU hK
 simp -implicitDefEqProofs [m84,f1,f2,f3,nZ,htr]
end
section
open Go Hk Go.Proofs.Wd
def qI (out s:List Wd):Nat→List Wd
 | 0=>Af out s.length
 | i+1=>(qI out s i).set i ((qI out s i).getD i 0#64 ||| s.getD i 0#64)
theorem vQ (out s:List Wd):∀i,(qI out s i).length=max out.length s.length
 | 0=>Ah _ _
 | i+1=>by simp [qI,vQ out s i]
theorem Gq (out s:List Wd):∀i,i≤s.length→∀j,(qI out s i).getD j 0#64=if j<i then out.getD j 0#64 ||| s.getD j 0#64 else out.getD j 0#64
 | 0,_,j=>by rw [if_neg (by omega)];exact Ag _ _ _
 | i+1,hi,j=>by
  have ih:=Gq out s i (by omega)
  rw [qI,ID _ _ _ _ (by rw [vQ];omega),ih i,ih j,if_neg (Nat.lt_irrefl _)]
  by_cases h:i=j
  ·subst h;rw [if_pos rfl,if_pos (by omega)]
  ·rw [if_neg h]
   by_cases h2:j<i
   ·rw [if_pos h2,if_pos (by omega)]
   ·rw [if_neg h2,if_neg (by omega)]
theorem Xc {a b:List Wd}(hl:a.length=b.length) (h:∀j,a.getD j 0#64=b.getD j 0#64):a=b:=by
 apply List.ext_getElem hl
 intro i h1 h2
 have:=h i
 simpa [ah6,h1,h2] using this
theorem Sv (out s:List Wd):qI out s s.length=GQ out s:=by
 refine Xc (by rw [vQ,T9]) fun j=>?_
 rw [Gq _ _ _ (ak5 _),Pl]
 split
 ·rfl
 ·rename_i h
  have:s.getD j 0#64=0#64:=by rw [ah6,List.getElem?_eq_none (by omega)];rfl
  rw [this];simp
def tU (L:List (List Wd)):List Wd:=L.foldl GQ []
theorem FW (t:Nat):∀(L:List (List Wd)) (out:List Wd),pR (L.foldl GQ out) t=(pR out t || L.any (pR · t))
 | [],out=>by simp
 | s::r,out=>by rw [List.foldl_cons,FW t r,agL,List.any_cons,Bool.or_assoc]
theorem z6 (n:Nat):∀(L:List (List Wd)) (out:List Wd),out.length≤n→(∀s∈L,s.length≤n)→(L.foldl GQ out).length≤n
 | [],out,h,_=>h
 | s::r,out,h,hl=>by
  rw [List.foldl_cons]
  exact z6 n r _ (by rw [T9];have:=hl s (by simp);omega) fun x hx=>hl x (by simp [hx])
section
variable {A B:List mT}(hB:KB A B)
include hB
theorem Vo {s:List Wd}(hs:s.length≤20000) {v x c:lS}{i:Int}(hv:∀h,v.qJ (HN A B) h=v) (hx:∀h,x.qJ (HN A B) h=x) (hc:∀h,c.qJ (HN A B) h=c):∀(d:Nat) (ws:List Wd),s.length-ws.length=d →
  nL (Fp KK (HN A B)) ([v,VS A.length ws,PS s,x,c,.int .i64 i],OQ A (XS ws) B)=some (.exit 2,[v,VS A.length (Af ws s.length),PS s,x,c,.int .i64 i],OQ A (XS (Af ws s.length)) B):=by
 have hps:nK (PS s)=some (.int .i64 (s.length:Int)):=by simp [PS]
 have hpn:∀h,(PS s).qJ (HN A B) h=PS s:=fun h=>rfl
 intro d
 induction d with
 | zero =>
  intro ws hd
  rw [nW,IW (by omega)]
  have hcc:¬((ws.length:Int)<(s.length:Int)):=by omega
  have htr:=qQ (X:=XS ws) (A:=A) (B:=B) hB xQ
  have hsn:=fun h=>vJ (ws:=ws) (m:=HN A B) (h:=h) tP
  have step:Fp KK (HN A B) ([v,VS A.length ws,PS s,x,c,.int .i64 i],OQ A (XS ws) B)=some (.exit 2,[v,VS A.length ws,PS s,x,c,.int .i64 i],OQ A (XS ws) B):=by
   unfold Fp
   simp only [List.getD_cons_zero,List.getD_cons_succ]
   rw [Hx,hps]
   simp -implicitDefEqProofs [hcc,mK,htr,hsn,hv,hx,hc,hpn]
  rw [step];rfl
 | succ d ih =>
  intro ws hd
  rw [nW]
  have hcc:((ws.length:Int)<(s.length:Int)):=by omega
  have htr:=tQ (X:=XS (ws++[0#64])) (A:=A) (B:=B) (C:=[.front 1 1]) hB xQ
  have hsn:=fun h=>vJ (ws:=ws++[0#64]) (m:=HN A B) (h:=h) tP
  have g:=ih (ws++[0#64]) (by simp;omega)
  rw [KZ (by omega)] at g
  rw [←g]
  have ha:=fun t=>KC (A:=A) (B:=B++[.front 1 1]) (ws:=ws) (by omega) 0#64 (t:=t)
  clear g ih
  have step:Fp KK (HN A B) ([v,VS A.length ws,PS s,x,c,.int .i64 i],OQ A (XS ws) B)=some (.normal,[v,VS A.length (ws++[0#64]),PS s,x,c,.int .i64 i],OQ A (XS (ws++[0#64])) B):=by
   unfold Fp
   simp only [List.getD_cons_zero,List.getD_cons_succ]
   rw [Hx,hps]
   simp -implicitDefEqProofs [hcc,mK,htr,hsn,hv,hx,hc,hpn,Ph,ha]
  rw [step];rfl
theorem Vp {s out:List Wd}(hs:s.length≤20000) {v x c:lS}{i:Int}(hv:∀h,v.qJ (HN A B) h=v) (hx:∀h,x.qJ (HN A B) h=x) (hc:∀h,c.qJ (HN A B) h=c):∀(d j:Nat),s.length=j+d →
  nL (Fq KK (HN A B)) ([v,VS A.length (qI out s j),x,c,.int .i64 i,PS s,.int .i64 (s.length:Int),.int .i64 (j:Int)],OQ A (XS (qI out s j)) B) =
   some (.exit 4,[v,VS A.length (GQ out s),x,c,.int .i64 i,PS s,.int .i64 (s.length:Int),.int .i64 (s.length:Int)],OQ A (XS (GQ out s)) B):=by
 have hpn:∀h,(PS s).qJ (HN A B) h=PS s:=fun h=>rfl
 intro d
 induction d with
 | zero =>
  intro j hj
  obtain rfl:s.length=j:=by omega
  rw [nW,Sv]
  have htr:=qQ (X:=XS (GQ out s)) (A:=A) (B:=B) hB xQ
  have hsn:=fun h=>vJ (ws:=GQ out s) (m:=HN A B) (h:=h) tP
  have step:Fq KK (HN A B) ([v,VS A.length (GQ out s),x,c,.int .i64 i,PS s,.int .i64 (s.length:Int),.int .i64 (s.length:Int)],OQ A (XS (GQ out s)) B) =
    some (.exit 4,[v,VS A.length (GQ out s),x,c,.int .i64 i,PS s,.int .i64 (s.length:Int),.int .i64 (s.length:Int)],OQ A (XS (GQ out s)) B):=by
   unfold Fq
   simp -implicitDefEqProofs [mK,htr,hsn,hv,hx,hc,hpn]
  rw [step];rfl
 | succ d ih =>
  intro j hj
  rw [nW]
  have hcc:((j:Int)<(s.length:Int)):=by omega
  have hjl:j<(qI out s j).length:=by rw [vQ];omega
  have w1:=C4 (a:=j) (by omega)
  have e1:=fun k=>DI (id:=A.length) (k:=k) hjl
  have e2:=GV (A:=A) (B:=B) hjl
  have e3:=Hy (A:=A) (B:=B) hjl
  have e4:mI 1 (PS s) (.int .i64 (j:Int))=some (.pptr [wc (s.getD j 0#64)]):=by
   rw [PS,lW,ag8 (by omega)]
   simp [ah6,show j<s.length by omega]
  have e5:=HH ((qI out s j).getD j 0#64) (s.getD j 0#64)
  have eV:VS A.length (qI out s j)=VS A.length (qI out s (j+1)):=WB (by rw [vQ,vQ])
  have htr:=qQ (X:=XS (qI out s (j+1))) (A:=A) (B:=B) hB xQ
  have hsn:=fun h=>vJ (ws:=qI out s (j+1)) (m:=HN A B) (h:=h) tP
  have g:=ih (j+1) (by omega)
  rw [←g]
  clear g ih
  have e3':=e3 ((qI out s j).getD j 0#64 ||| s.getD j 0#64)
  have eo:(qI out s j).set j ((qI out s j).getD j 0#64 ||| s.getD j 0#64)=qI out s (j+1):=rfl
  rw [eo] at e3'
  have w1':IntKind.i64.wrap ((j:Int)+1)=((j+1:Nat):Int):=by rw [w1];simp
  have step:Fq KK (HN A B) ([v,VS A.length (qI out s j),x,c,.int .i64 i,PS s,.int .i64 (s.length:Int),.int .i64 (j:Int)],OQ A (XS (qI out s j)) B) =
    some (.normal,[v,VS A.length (qI out s (j+1)),x,c,.int .i64 i,PS s,.int .i64 (s.length:Int),.int .i64 ((j+1:Nat):Int)],OQ A (XS (qI out s (j+1))) B):=by
   rw [←eV] at hsn ⊢
   clear e3 eo
   generalize qI out s (j+1)=o2 at *
   generalize wc ((qI out s j).getD j 0#64 ||| s.getD j 0#64)=a1 at *
   generalize wc ((qI out s j).getD j 0#64)=a2 at *
   generalize wc (s.getD j 0#64)=a3 at *
   generalize ((j+1:Nat):Int)=j1 at *
   unfold Fq
   simp -implicitDefEqProofs [hcc,e1,e2,e3',e4,e5,mK,htr,hsn,hv,hx,hc,hpn,w1']
  rw [step];rfl
end
section
variable {A:List mT}(hB:KB A [])
include hB
theorem Vq {L:List (List Wd)}(hL:L.length≤2000000) (hl:∀s∈L,s.length≤20000) {v:lS}(hv:∀h,v.qJ (HN A []) h=v):∀(d i:Nat) (out:List Wd),L.length=i+d →
  nL (Fs KK (HN A [])) ([v,VS A.length out,.slice (L.map fun s=>[PS s]) .no,.int .i64 (L.length:Int),.int .i64 (i:Int)],OQ A (XS out) []) =
   some (.exit 0,[v,VS A.length ((L.drop i).foldl GQ out),.slice (L.map fun s=>[PS s]) .no,.int .i64 (L.length:Int),.int .i64 (L.length:Int)],OQ A (XS ((L.drop i).foldl GQ out)) []):=by
 intro d
 induction d with
 | zero =>
  intro i out hi
  obtain rfl:L.length=i:=by omega
  rw [nW,List.drop_length]
  have htr:=qQ (X:=XS out) (A:=A) hB xQ
  have hsn:=fun h=>vJ (ws:=out) (m:=HN A []) (h:=h) tP
  have step:Fs KK (HN A []) ([v,VS A.length out,.slice (L.map fun s=>[PS s]) .no,.int .i64 (L.length:Int),.int .i64 (L.length:Int)],OQ A (XS out) []) =
    some (.exit 0,[v,VS A.length out,.slice (L.map fun s=>[PS s]) .no,.int .i64 (L.length:Int),.int .i64 (L.length:Int)],OQ A (XS out) []):=by
   unfold Fs
   simp -implicitDefEqProofs [mK,htr,hsn,hv]
  rw [step];rfl
 | succ d ih =>
  intro i out hi
  rw [nW]
  have hil:i<L.length:=by omega
  have hcc:((i:Int)<(L.length:Int)):=by omega
  have hx:L[i]?=some L[i]:=ag8 hil
  have hsl:=hl L[i] (ax5 hil)
  have w1:IntKind.i64.wrap ((i:Int)+1)=((i+1:Nat):Int):=by rw [C4 (a:=i) (by omega)];simp
  rw [ar7 hil]
  generalize L[i]=s at *
  have hc:∀h,(lS.int .i64 (L.length:Int)).qJ (HN A []) h=.int .i64 (L.length:Int):=fun h=>rfl
  have hxx:∀h,(lS.slice (L.map fun s=>[PS s]) .no).qJ (HN A []) h=.slice (L.map fun s=>[PS s]) .no:=fun h=>rfl
  have g0:=Vo hB hsl (i:=(i:Int)) hv hxx hc _ out rfl
  have g1:=Vp hB hsl (out:=out) (i:=(i:Int)) hv hxx hc s.length 0 (by omega)
  have htr:=qQ (X:=XS (GQ out s)) (A:=A) hB xQ
  have hsn:=fun h=>vJ (ws:=GQ out s) (m:=HN A []) (h:=h) tP
  have hps:nK (PS s)=some (.int .i64 (s.length:Int)):=by simp [PS]
  have e4:mI 1 (.slice (L.map fun s=>[PS s]) .no) (.int .i64 (i:Int))=some (.pptr [PS s]):=by
   rw [lW,hx];rfl
  simp only [qI,aw6] at g1
  rw [List.foldl_cons,←ih (i+1) (GQ out s) (by omega)]
  clear ih
  generalize ((i+1:Nat):Int)=i1 at *
  have step:Fs KK (HN A []) ([v,VS A.length out,.slice (L.map fun s=>[PS s]) .no,.int .i64 (L.length:Int),.int .i64 (i:Int)],OQ A (XS out) []) =
    some (.normal,[v,VS A.length (GQ out s),.slice (L.map fun s=>[PS s]) .no,.int .i64 (L.length:Int),.int .i64 i1],OQ A (XS (GQ out s)) []):=by
   generalize hR:lS.slice (L.map fun s=>[PS s]) .no=R at *
   unfold Fs
   simp -implicitDefEqProofs [hcc,e4,g0,hps,g1,mK,htr,hsn,hv,hxx,w1]
  rw [step];rfl
end
theorem c81 {h:lT}(hK:TH h) {L:List (List Wd)}(hL:L.length≤2000000) (hl:∀s∈L,s.length≤20000) :
  KK 81 [.slice (L.map fun s=>[PS s]) .no] h=some (.ret (VS (h.length+1) (tU L)),OQ (h++[.front 0 0]) (XS (tU L)) []):=by
 refine oN (an2 _ _ _) ?_
 have hB:KB (h++[.front 0 0]) []:=⟨fun n hn=>qP (hK.mono (by simp [HN] at hn;omega)) (pL rW),fun n hn=>rW⟩
 have hH:HN (h++[.front 0 0]) []=h.length+2:=by simp [HN]
 have hA:(h++[mT.front 0 0]).length=h.length+1:=by simp
 have g:=Vq hB hL hl (v:=.slice [] (.own h.length)) (fun h'=>by rw [hH];simp) L.length 0 [] (by omega)
 have e0:OQ (h++[.front 0 0]) (XS []) []=h++[.front 0 0,.front 0 0]:=by simp [OQ,XS]
 have e1:VS (h.length+1) []=.slice [] (.own (h.length+1)):=rfl
 rw [hH,hA,e0,e1] at g
 simp only [List.drop_zero,aw6] at g
 unfold tU
 generalize L.foldl GQ []=J at *
 unfold m81
 simp -implicitDefEqProofs [g]
end
section
open Go Hk Go.Proofs.Wd
def tO (t:Term) (ws:List Wd):List Wd:=if t.kind=2∧0≤t.a then vI ws t.a.toNat else ws
def u9 (t:Term):List mT:=.cells t.cells::.front 0 0::if t.kind=2∧0≤t.a then [.front 0 0] else []
def zC (ws:List Wd) (l:List Int):List Wd:=l.foldl (fun ws t=>if 0≤t then vI ws t.toNat else ws) ws
def wJ (o:Op) (ws:List Wd):List Wd:=zC (if (oH o.kind).dst=true∧0≤o.dst then tY ws o.dst.toNat else ws) (pK o)
def LY (o:Op):List mT:=[.cells o.cells,.front 0 0]
theorem Tj (t:Term) (ws:List Wd) (u:Nat):pR (tO t ws) u=true↔Uq t (fun u=>0≤u∧pR ws u.toNat=true) (u:Int):=by
 unfold tO Uq
 split
 ·rename_i h
  obtain⟨n,hn⟩:=Int.eq_ofNat_of_zero_le h.2
  rw [Lz,Bool.or_eq_true,decide_eq_true_eq]
  simp only [av8]
  constructor
  ·rintro(h1 | h1)
   ·exact .inr ⟨by omega,h1⟩
   ·exact .inl ⟨h.1,by omega⟩
  ·rintro(⟨_,h1⟩ | ⟨_,h1⟩)
   ·exact .inr (by omega)
   ·exact .inl h1
 ·rename_i h
  simp only [av8]
  constructor
  ·exact fun h1=>.inr ⟨by omega,h1⟩
  ·rintro(⟨h1,h2⟩ | ⟨_,h1⟩)
   ·exact absurd ⟨h1,by omega⟩ h
   ·exact h1
theorem JR (u:Nat):∀(l:List Int) (ws:List Wd),pR (zC ws l) u=true↔(u:Int)∈l∨pR ws u=true
 | [],ws=>by simp [zC]
 | t::r,ws=>by
  have ih:=JR u r (if 0≤t then vI ws t.toNat else ws)
  have e:zC ws (t::r)=zC (if 0≤t then vI ws t.toNat else ws) r:=rfl
  rw [e,ih,List.mem_cons]
  split
  ·rename_i h
   rw [Lz,Bool.or_eq_true,decide_eq_true_eq]
   constructor
   ·rintro(h1 | h1 | h1)
    ·exact .inl (.inr h1)
    ·exact .inr h1
    ·exact .inl (.inl (by omega))
   ·rintro((h1 | h1) | h1)
    ·exact .inr (.inr (by omega))
    ·exact .inl h1
    ·exact .inr (.inl h1)
  ·rename_i h
   constructor
   ·rintro(h1 | h1)
    ·exact .inl (.inr h1)
    ·exact .inr h1
   ·rintro((h1 | h1) | h1)
    ·omega
    ·exact .inl h1
    ·exact .inr h1
theorem Ti (o:Op) (ws:List Wd) (u:Nat):pR (wJ o ws) u=true↔ZH o (fun u=>0≤u∧pR ws u.toNat=true) (u:Int):=by
 unfold wJ ZH
 rw [JR]
 refine or_congr Iff.rfl ?_
 split
 ·rename_i h
  rw [N8,aq1,Bool.not_eq_true',decide_eq_false_iff_not]
  simp only [av8,h.1,true_and]
  constructor
  ·rintro⟨h1,h2⟩;exact⟨⟨by omega,h1⟩,by omega⟩
  ·rintro⟨⟨_,h1⟩,h2⟩;exact⟨h1,by omega⟩
 ·rename_i h
  simp only [av8]
  constructor
  ·intro h1;exact⟨⟨by omega,h1⟩,fun h2=>h ⟨h2.1,by omega⟩⟩
  ·rintro⟨⟨_,h1⟩,_⟩;exact h1
theorem LA {n:Nat}:∀(l:List Int) (ws:List Wd),(∀t∈l,t<64*n)→ws.length≤n→(zC ws l).length≤n
 | [],ws,_,h=>h
 | t::r,ws,hl,h=>by
  have e:zC ws (t::r)=zC (if 0≤t then vI ws t.toNat else ws) r:=rfl
  rw [e]
  refine LA r _ (fun x hx=>hl x (by simp [hx])) ?_
  split
  ·have:=hl t (by simp)
   rw [LB];omega
  ·exact h
theorem UF {n:Nat}{o:Op}{ws:List Wd}(hu:∀t∈pK o,t<64*n) (h:ws.length≤n):(wJ o ws).length≤n:=by
 refine LA _ _ hu ?_
 split
 ·rw [EV];exact h
 ·exact h
theorem VD {n:Nat}{t:Term}{ws:List Wd}(hu:t.kind=2→t.a<64*n) (h:ws.length≤n):(tO t ws).length≤n:=by
 unfold tO
 split
 ·rename_i h1
  have:=hu h1.1
  rw [LB];omega
 ·exact h
section
variable {A B:List mT}(hB:KB A B)
include hB
theorem c82 {t:Term}(ht:t.kind=2→t.a≤2000000) (ws:List Wd):KK 82 [.agg t.cells,VS A.length ws] (OQ A (XS ws) B)=some (.ret (VS A.length (tO t ws)),OQ A (XS (tO t ws)) (B++u9 t)):=by
 refine oN (an3 _ _ _ _) ?_
 have hB2:KB A (B++[.cells t.cells,.front 0 0]):=hB.app (by simp [Term.cells])
 unfold tO u9
 by_cases k2:t.kind=2
 ·by_cases h0:0≤t.a
  ·obtain⟨n,hn⟩:=Int.eq_ofNat_of_zero_le h0
   have ht:=ht k2
   have g:=c98 hB2 (t:=n) (by omega) ws
   rw [if_pos ⟨k2,h0⟩,if_pos ⟨k2,h0⟩,hn]
   simp only [Term.cells,aw8,ax4,av6,av8] at g ⊢
   rw [hn,k2] at g
   simp -implicitDefEqProofs [m82,k2,hn,g]
  ·rw [if_neg (by omega),if_neg (by omega)]
   simp only [Term.cells]
   simp -implicitDefEqProofs [m82,k2,h0]
 ·rw [if_neg (by omega),if_neg (by omega)]
  simp only [Term.cells]
  simp -implicitDefEqProofs [m82,k2]
theorem Yv {u:List Int}(hu:∀t∈u,t≤2000000) (hl:u.length≤10) {v:lS}(hv:∀h,v.qJ (HN A B) h=v):∀(d i:Nat) (ws:List Wd),u.length=i+d →
  nL (Dn KK (HN A B)) ([VS A.length ws,v,.slice (u.map fun z=>[.int .i64 z]) .no,.int .i64 (u.length:Int),.int .i64 (i:Int)],OQ A (XS ws) B) =
   some (.exit 0,[VS A.length (zC ws (u.drop i)),v,.slice (u.map fun z=>[.int .i64 z]) .no,.int .i64 (u.length:Int),.int .i64 (u.length:Int)],OQ A (XS (zC ws (u.drop i))) B):=by
 intro d
 induction d with
 | zero =>
  intro i ws hi
  obtain rfl:u.length=i:=by omega
  rw [nW,List.drop_length]
  have htr:=qQ (X:=XS ws) (A:=A) hB xQ
  have hsn:=fun h=>vJ (ws:=ws) (m:=HN A B) (h:=h) tP
  have step:Dn KK (HN A B) ([VS A.length ws,v,.slice (u.map fun z=>[.int .i64 z]) .no,.int .i64 (u.length:Int),.int .i64 (u.length:Int)],OQ A (XS ws) B) =
    some (.exit 0,[VS A.length ws,v,.slice (u.map fun z=>[.int .i64 z]) .no,.int .i64 (u.length:Int),.int .i64 (u.length:Int)],OQ A (XS ws) B):=by
   unfold Dn
   simp -implicitDefEqProofs [mK,htr,hsn,hv]
  rw [step];rfl
 | succ d ih =>
  intro i ws hi
  rw [nW]
  have hil:i<u.length:=by omega
  have hcc:((i:Int)<(u.length:Int)):=by omega
  have hx:u[i]?=some u[i]:=ag8 hil
  have hb:=hu u[i] (ax5 hil)
  have w1:IntKind.i64.wrap ((i:Int)+1)=((i+1:Nat):Int):=by rw [C4 (a:=i) (by omega)];simp
  rw [ar7 hil]
  generalize u[i]=t at *
  have e:zC ws (t::u.drop (i+1))=zC (if 0≤t then vI ws t.toNat else ws) (u.drop (i+1)):=rfl
  rw [e,←ih (i+1) _ (by omega)]
  clear ih e
  generalize ((i+1:Nat):Int)=i1 at *
  have step:Dn KK (HN A B) ([VS A.length ws,v,.slice (u.map fun z=>[.int .i64 z]) .no,.int .i64 (u.length:Int),.int .i64 (i:Int)],OQ A (XS ws) B) =
    some (.normal,[VS A.length (if 0≤t then vI ws t.toNat else ws),v,.slice (u.map fun z=>[.int .i64 z]) .no,.int .i64 (u.length:Int),.int .i64 i1],OQ A (XS (if 0≤t then vI ws t.toNat else ws)) B):=by
   by_cases h0:0≤t
   ·obtain⟨n,rfl⟩:=Int.eq_ofNat_of_zero_le h0
    have g:=c98 hB (t:=n) (by omega) ws
    have htr:=tQ (X:=XS (vI ws n)) (A:=A) (C:=[.front 0 0]) hB xQ
    have hsn:=fun h=>vJ (ws:=vI ws n) (m:=HN A B) (h:=h) tP
    rw [if_pos h0]
    simp only [av8]
    generalize vI ws n=w' at *
    unfold Dn
    simp -implicitDefEqProofs [hcc,hx,g,mK,htr,hsn,hv,w1]
   ·have htr:=qQ (X:=XS ws) (A:=A) hB xQ
    have hsn:=fun h=>vJ (ws:=ws) (m:=HN A B) (h:=h) tP
    rw [if_neg h0]
    unfold Dn
    simp -implicitDefEqProofs [hcc,hx,h0,mK,htr,hsn,hv,w1]
  rw [step];rfl
end
theorem ZP (o:Op):(pK o).length≤3:=by unfold pK;simp;omega
theorem c83 {A B:List mT}(hB:KB A B) {o:Op}(hu:∀t∈pK o,t≤2000000) (hd:o.dst≤2000000) (ws:List Wd) :
  KK 83 [.agg o.cells,VS A.length ws] (OQ A (XS ws) B)=some (.ret (VS A.length (wJ o ws)),OQ A (XS (wJ o ws)) (B++LY o)):=by
 refine oN (an4 _ _ _ _) ?_
 have hB2:KB A (B++[.cells o.cells,.front 0 0]):=hB.app (by simp [Op.cells])
 have hH:HN A (B++[.cells o.cells,.front 0 0])=HN A B+2:=by simp
 have g73:=c73 o
 have g74:=c36 o
 have g:=fun ws=>Yv hB2 hu (by have:=ZP o;omega) (v:=.slice [] (.own (HN A B+1))) (fun h=>by rw [hH];simp) (pK o).length 0 ws (by omega)
 rw [hH] at g
 simp only [List.drop_zero,aw6] at g
 unfold wJ LY
 by_cases hc:(oH o.kind).dst=true∧0≤o.dst
 ·obtain⟨n,hn⟩:=Int.eq_ofNat_of_zero_le hc.2
  have g1:=c99 hB2 (t:=n) (by omega) ws
  rw [if_pos hc,hn]
  rw [hc.1] at g73
  simp only [av8]
  have g2:=g (tY ws n)
  have ev:VS A.length (tY ws n)=VS A.length ws:=WB (EV _ _)
  rw [ev] at g2
  generalize zC (tY ws n) (pK o)=w2 at *
  clear g
  simp only [Op.cells] at g73 g74 g1 g2 ⊢
  rw [hn] at g73 g74 g1 g2 ⊢
  simp -implicitDefEqProofs [m83,g73,g74,g1,g2]
 ·rw [if_neg hc]
  have g2:=g ws
  clear g
  generalize zC ws (pK o)=w2 at *
  cases hf:(oH o.kind).dst
  ·rw [hf] at g73
   simp only [Op.cells] at g73 g74 g2 ⊢
   simp -implicitDefEqProofs [m83,g73,g74,g2]
  ·have h0:¬0≤o.dst:=fun h=>hc ⟨hf,h⟩
   rw [hf] at g73
   simp only [Op.cells] at g73 g74 g2 ⊢
   simp -implicitDefEqProofs [m83,g73,g74,g2,h0]
end
section
open Go Hk Go.Proofs.Wd
theorem c97 (k:Int) (h:lT):KK 97 [.int .i64 k] h=some (.ret (.bool (decide (k=-1))),h):=by
 refine nN rfl rfl (oN (an7 _ _ _) ?_)
 simp [m97,nE]
theorem e97 (k:Int) (h:lT):rI nM KK 97 (pO nM 97 [.int .i64 k]) h=some (.ret (.bool (decide (k=-1))),h):=c97 k h
theorem Bb {F:List lS×lT→Option R}{s s':List lS×lT}(h:F s=some (.normal,s')):nL F s=nL F s':=by rw [nW,h];rfl
theorem Q_ {F:List lS×lT→Option R}{s s':List lS×lT}(h:F s=some (.ret,s')):nL F s=some (.ret,s'):=by rw [nW,h];rfl
theorem uA {F:List lS×lT→Option R}{s s':List lS×lT}{i:Nat}(h:F s=some (.exit i,s')):nL F s=some (.exit i,s'):=by rw [nW,h];rfl
def n_ (z:Int):lS:=.int .i64 z
def HL (t:Term) (l:List Int) (E:lT):lT:=.cells t.cells::.front 0 0::.front 0 0::.vec l.length 1 (l.map n_)::E
theorem Kx {t:Term}{l:List Int}:TH (HL t l [.front 0 0]):=by
 intro m h hm
 have:nQ m h (l.map n_)=some (l.map n_):=v8 fun c hc=>by
  obtain⟨z,_,rfl⟩:=au6.1 hc;exact⟨_,_,rfl⟩
 simp [HL,Term.cells,this]
theorem Wi {t:Term}{l:List Int}:TH (HL t l []):=by
 intro m h hm
 have:nQ m h (l.map n_)=some (l.map n_):=v8 fun c hc=>by
  obtain⟨z,_,rfl⟩:=au6.1 hc;exact⟨_,_,rfl⟩
 simp [HL,Term.cells,this]
section
variable {t:Term}{l:List Int}{E:lT}
theorem Wj {i:Nat}{z:Int}(hz:l[i]?=some z):mF false 1 (HL t l E) (.vptr 3 l.length i)=some (.int .i64 z):=by
 rw [lZ]
 have:oQ (HL t l E) 3 l.length=some (1,l.map n_):=by simp [HL]
 rw [this]
 simp [hz,n_]
theorem ajJ {i:Nat}(hi:i<l.length) (z:Int):mL 1 (HL t l E) (.vptr 3 l.length i) (.int .i64 z)=some (HL t (l.set i z) E):=by
 rw [lX]
 have:oQ (HL t l E) 3 l.length=some (1,l.map n_):=by simp [HL]
 rw [this]
 have e1:putCells (l.map n_) i [.int .i64 z]=(l.set i z).map n_:=by
  unfold putCells
  rw [List.map_set,List.set_eq_take_append_cons_drop,if_pos (by simpa using hi)]
  simp [n_]
 simp only [ak6]
 rw [if_pos ⟨rfl,by simp;omega,rfl⟩]
 simp only [UX,e1]
 simp [HL]
def LV (l:List Int):lS:=.vslice 3 l.length 0 l.length 1
theorem Fa {i:Nat}{z:Int}(hz:l[i]?=some z) (hl:l.length≤100):xD KK 5 ([LV l,.func 97 [] [],.int .i64 0,.int .i64 (l.length:Int),.int .i64 (i:Int)],HL t l [.front 0 0]) =
  if z=-1 then some (.ret,[LV l,.func 97 [] [],.int .i64 (i:Int),.int .i64 (l.length:Int),.int .i64 (i:Int)],HL t l [.front 0 0])
  else some (.normal,[LV l,.func 97 [] [],.int .i64 0,.int .i64 (l.length:Int),.int .i64 ((i+1:Nat):Int)],HL t l [.front 0 0]):=by
 have htr:o_ 5 (HL t l [.front 0 0])=some (HL t l [.front 0 0]):=rU Kx
 have hi:i<l.length:=(ag0.1 hz).1
 have hi':(i:Int)<(l.length:Int):=by omega
 have w1:IntKind.i64.wrap ((i:Int)+1)=((i+1:Nat):Int):=by rw [wrap64 (by omega) (by omega),ax3];rfl
 have s2:∀h',lS.qJ 5 h' (LV l)=LV l:=fun h'=>rfl
 have s3:∀h',lS.qJ 5 h' (.func 97 [] [])=.func 97 [] []:=fun h'=>rfl
 have g:=Wj (t:=t) (E:=[.front 0 0]) hz
 have ix:mI 1 (LV l) (.int .i64 (i:Int))=some (.vptr 3 l.length i):=by simp [LV,hi]
 generalize ((i+1:Nat):Int)=i1 at *
 by_cases hc:z=-1
 ·rw [if_pos hc]
  subst hc
  unfold xD
  simp [-lX,-lZ,rF,e97,mK,htr,s2,s3,hi',g,ix]
 ·rw [if_neg hc]
  unfold xD
  simp [-lX,-lZ,rF,e97,mK,htr,s2,s3,hi',g,ix,hc,w1]
theorem OS {z:Int}:xD KK 5 ([LV l,.func 97 [] [],.int .i64 z,.int .i64 (l.length:Int),.int .i64 (l.length:Int)],HL t l [.front 0 0]) =
  some (.exit 0,[LV l,.func 97 [] [],.int .i64 z,.int .i64 (l.length:Int),.int .i64 (l.length:Int)],HL t l [.front 0 0]):=by
 have htr:o_ 5 (HL t l [.front 0 0])=some (HL t l [.front 0 0]):=rU Kx
 have s2:∀h',lS.qJ 5 h' (LV l)=LV l:=fun h'=>rfl
 have s3:∀h',lS.qJ 5 h' (.func 97 [] [])=.func 97 [] []:=fun h'=>rfl
 unfold xD
 simp [mK,htr,s2,s3]
theorem W7 {i j:Nat}{z:Int}{v:lS}(hv:∀h',v.qJ 5 h'=v) (hz:l[j]?=some z) (hij:i<j) (hl:l.length≤100):Dp KK 5 ([LV l,.func 97 [] [],v,.int .i64 (i:Int),.int .i64 (j:Int)],HL t l [.front 0 0]) =
  if z=-1 then some (.normal,[LV l,.func 97 [] [],v,.int .i64 (i:Int),.int .i64 ((j+1:Nat):Int)],HL t l [.front 0 0])
  else some (.normal,[LV (l.set i z),.func 97 [] [],v,.int .i64 ((i+1:Nat):Int),.int .i64 ((j+1:Nat):Int)],HL t (l.set i z) [.front 0 0]):=by
 have hj:j<l.length:=(ag0.1 hz).1
 have hj':(j:Int)<(l.length:Int):=by omega
 have w1:IntKind.i64.wrap ((i:Int)+1)=((i+1:Nat):Int):=by rw [wrap64 (by omega) (by omega),ax3];rfl
 have w2:IntKind.i64.wrap ((j:Int)+1)=((j+1:Nat):Int):=by rw [wrap64 (by omega) (by omega),ax3];rfl
 have s2:∀l h',lS.qJ 5 h' (LV l)=LV l:=fun l h'=>rfl
 have s3:∀h',lS.qJ 5 h' (.func 97 [] [])=.func 97 [] []:=fun h'=>rfl
 have g:=Wj (t:=t) (E:=[.front 0 0]) hz
 have st:=ajJ (t:=t) (E:=[.front 0 0]) (l:=l) (i:=i) (by omega) z
 have ix:mI 1 (LV l) (.int .i64 (j:Int))=some (.vptr 3 l.length j):=by simp [LV,hj]
 have ix2:mI 1 (LV l) (.int .i64 (i:Int))=some (.vptr 3 l.length i):=by simp [LV,show i<l.length by omega]
 have ll:nK (LV l)=some (.int .i64 (l.length:Int)):=rfl
 generalize ((i+1:Nat):Int)=i1 at *
 generalize ((j+1:Nat):Int)=j1 at *
 by_cases hc:z=-1
 ·rw [if_pos hc]
  subst hc
  have htr:o_ 5 (HL t l [.front 0 0])=some (HL t l [.front 0 0]):=rU Kx
  unfold Dp
  simp [-lX,-lZ,rF,e97,mK,htr,s2,s3,hv,hj',g,ix,ll,w2]
 ·rw [if_neg hc]
  have htr:o_ 5 (HL t (l.set i z) [.front 0 0])=some (HL t (l.set i z) [.front 0 0]):=rU Kx
  have el:LV (l.set i z)=LV l:=by simp [LV]
  rw [el]
  generalize HL t (l.set i z) [.front 0 0]=Hn at *
  unfold Dp
  simp [-lX,-lZ,rF,e97,mK,htr,s2,s3,hv,hj',g,ix,ix2,ll,st,hc,w1,w2]
theorem GX {i:Int}{v:lS}(hv:∀h',v.qJ 5 h'=v):Dp KK 5 ([LV l,.func 97 [] [],v,.int .i64 i,.int .i64 (l.length:Int)],HL t l [.front 0 0]) =
  some (.exit 0,[LV l,.func 97 [] [],v,.int .i64 i,.int .i64 (l.length:Int)],HL t l [.front 0 0]):=by
 have htr:o_ 5 (HL t l [.front 0 0])=some (HL t l [.front 0 0]):=rU Kx
 have s2:∀h',lS.qJ 5 h' (LV l)=LV l:=fun h'=>rfl
 have s3:∀h',lS.qJ 5 h' (.func 97 [] [])=.func 97 [] []:=fun h'=>rfl
 have ll:nK (LV l)=some (.int .i64 (l.length:Int)):=rfl
 unfold Dp
 simp [mK,htr,s2,s3,hv,ll]
theorem DV {r:Int}{e:Ex}{w:Int}{v:Int}(hg:nL (xD KK 5) ([LV l,.func 97 [] [],.int .i64 0,.int .i64 (l.length:Int),.int .i64 0],HL t l [.front 0 0]) =
   some (e,[LV l,.func 97 [] [],.int .i64 v,.int .i64 (l.length:Int),.int .i64 w],HL t l [.front 0 0])) (hr:(e=.ret∧r=v)∨(e=.exit 0∧r=-1)) :
  KK 107 [LV l,.func 97 [] []] (HL t l [.front 0 0])=some (.ret (.int .i64 r),HL t l [.front 0 0]):=by
 refine oN (TV _ _ _ _) ?_
 have htr:o_ 5 (HL t l [.front 0 0])=some (HL t l [.front 0 0]):=rU Kx
 have ll:nK (LV l)=some (.int .i64 (l.length:Int)):=rfl
 have h5:(HL t l [.front 0 0]).length=5:=rfl
 rcases hr with ⟨rfl,rfl⟩ | ⟨rfl,rfl⟩ <;> simp [alQ,ll,h5,hg,nZ,htr]
theorem OM (h174:KK 107 [LV l,.func 97 [] []] (HL t l [.front 0 0])=some (.ret (.int .i64 (-1)),HL t l [.front 0 0])):KK 96 [LV l,.func 97 [] []] (HL t l [])=some (.ret (LV l),HL t l []):=by
 refine oN (Sq _ _ _ _) ?_
 have htr:o_ 4 (HL t l [.front 0 0])=some (HL t l []):=tJ (C:=[.front 0 0]) Wi
 have h4:(HL t l []).length=4:=rfl
 have h5:HL t l []++[.front 0 0]=HL t l [.front 0 0]:=rfl
 have s2:∀h',lS.qJ 4 h' (LV l)=LV l:=fun h'=>rfl
 have u2:(LV l).l_=LV l:=rfl
 have u3:lS.l_ (.func 97 [] [])=.func 97 [] []:=rfl
 simp [m96,h4,h5,u2,u3,h174,nZ,htr,s2]
theorem DW {l':List Int}{i k:Nat}{w:Int}(h174:KK 107 [LV l,.func 97 [] []] (HL t l [.front 0 0])=some (.ret (.int .i64 (i:Int)),HL t l [.front 0 0])) (hi:i≤100) (hl':l'.length=l.length) (hk:k≤l.length)
  (hg:nL (Dp KK 5) ([LV l,.func 97 [] [],.slice [] (.own 4),.int .i64 (i:Int),.int .i64 ((i+1:Nat):Int)],HL t l [.front 0 0])=some (.exit 0,[LV l',.func 97 [] [],.slice [] (.own 4),.int .i64 (k:Int),.int .i64 w],HL t l' [.front 0 0])) :
  KK 96 [LV l,.func 97 [] []] (HL t l [])=some (.ret (.vslice 3 l.length 0 k 1),HL t (l'.take k++ak7 (l.length-k) 0) []):=by
 refine oN (Sq _ _ _ _) ?_
 have h4:(HL t l []).length=4:=rfl
 have h5:HL t l []++[.front 0 0]=HL t l [.front 0 0]:=rfl
 have h55:(HL t l [.front 0 0]).length=5:=rfl
 have u2:(LV l).l_=LV l:=rfl
 have u3:lS.l_ (.func 97 [] [])=.func 97 [] []:=rfl
 have w1:IntKind.i64.wrap ((i:Int)+1)=((i+1:Nat):Int):=by rw [wrap64 (by omega) (by omega),ax3];rfl
 have a1:pZ (some (.int .i64 (k:Int))) 0=some k:=by simp [pZ]
 have a2:pZ (some (.int .i64 (k:Int))) l.length=some k:=by simp [pZ]
 have sl2:pF 1 (LV l') none (some (.int .i64 (k:Int)))=some (.vslice 3 l.length 0 k 1):=by
  simp [pF,LV,hl',a2,F1,hk]
 have hfin:∃S H,pF 1 (LV l') (some (.int .i64 (k:Int))) none=some S∧C_ 1 [.int .i64 0] (HL t l' [.front 0 0]) S=some H∧H=HL t (l'.take k++ak7 (l.length-k) 0) [.front 0 0]:=by
  have hs:pF 1 (LV l') (some (.int .i64 (k:Int))) none=if k=0∨k<l.length then some (.vslice 3 l.length k (l.length-k) 1) else some (.slice [] .no):=by
   unfold pF LV
   simp only [a1,hl',F1]
   rw [if_pos ⟨hk,ak5 _,trivial⟩]
   simp only [Nat.mul_one,av7]
  have hfull:k=l.length→l'.take k++ak7 (l.length-k) 0=l':=fun hk2=>by rw [hk2,Nat.sub_self,←hl',List.take_length];simp
  by_cases hc:k=0∨k<l.length
  ·rw [if_pos hc] at hs
   by_cases hn0:l.length-k=0
   ·exact⟨_,HL t l' [.front 0 0],hs,by unfold C_;simp only [hn0,if_true],by rw [hfull (by omega)]⟩
   ·refine⟨_,_,hs,?_,rfl⟩
    have gv:oQ (HL t l' [.front 0 0]) 3 l.length=some (1,l'.map n_):=by simp [HL,hl']
    unfold C_
    simp only [hn0,if_false,gv]
    rw [if_pos ⟨trivial,rfl,rfl,by simp;omega⟩]
    have e1:putCells (l'.map n_) k (ak7 (l.length-k) [lS.int .i64 0]).flatten=(l'.take k++ak7 (l.length-k) 0).map n_:=by
     have f:(ak7 (l.length-k) [lS.int .i64 0]).flatten=ak7 (l.length-k) (n_ 0):=by
      simp [n_]
     rw [f]
     simp only [putCells,List.length_replicate]
     have:k+(l.length-k)=l'.length:=by omega
     rw [this,List.drop_eq_nil_of_le (by simp),List.append_nil,List.map_append,List.map_take,List.map_replicate]
    rw [e1]
    have e2:(l'.take k++ak7 (l.length-k) 0).length=l.length:=by simp;omega
    simp only [HL,e2]
    rfl
  ·rw [if_neg hc] at hs
   exact⟨_,HL t l' [.front 0 0],hs,rfl,by rw [hfull (by omega)]⟩
 obtain⟨S,H,f1,f2,f3⟩:=hfin
 have htr:o_ 4 H=some (HL t (l'.take k++ak7 (l.length-k) 0) []):=by
  subst f3;exact tJ (C:=[.front 0 0]) Wi
 have s2:∀h',lS.qJ 4 h' (.vslice 3 l.length 0 k 1)=.vslice 3 l.length 0 k 1:=fun h'=>rfl
 clear f3
 generalize ((i+1:Nat):Int)=i1 at *
 simp [m96,h4,h5,h55,u2,u3,h174,w1,hg,f1,f2,sl2,nZ,htr,s2]
end
section
variable {t:Term}
theorem akL {id:Nat}{h:lT}(hK:TH h):KK 107 [.slice [] .no,.func 97 [] []] h=some (.ret (.int .i64 (-1)),h):=by
 refine oN (TV _ _ _ _) ?_
 have htr:=rU hK
 have s3:∀h',lS.qJ h.length h' (.func 97 [] [])=.func 97 [] []:=fun h'=>rfl
 have st:xD KK h.length ([.slice [] .no,.func 97 [] [],.int .i64 0,.int .i64 0,.int .i64 0],h)=some (.exit 0,([.slice [] .no,.func 97 [] [],.int .i64 0,.int .i64 0,.int .i64 0],h)):=by
  unfold xD
  simp [mK,htr,s3]
 have g:=uA st
 simp [alQ,g,htr,nZ]
theorem auI {h:lT}(hK:TH h):KK 96 [.slice [] .no,.func 97 [] []] h=some (.ret (.slice [] .no),h):=by
 refine oN (Sq _ _ _ _) ?_
 have g:=akL (id:=0) (h:=h++[.front 0 0]) (Qu hK (pL rW))
 have htr:=fun C=>tJ (C:=C) hK
 have uf:lS.l_ (.func 97 [] [])=.func 97 [] []:=rfl
 simp [m96,g,uf,nZ,htr]
end
def qZ (t:Term):List Int:=if t.kind=1 then [t.yes].filter (fun k=>!decide (k=-1)) else if t.kind=2 then [t.yes,t.no].filter (fun k=>!decide (k=-1)) else []
theorem Xv {p:IR}{t:Term}(ht:C1 (p:=p) t=true):qZ t=uE t:=by
 have e:∀k:Int,-1≤k→(!decide (k=-1))=decide (0≤k):=fun k hk=>by
  by_cases h:k=-1
  ·simp [h]
  ·have:0≤k:=by omega
   simp [h,this]
 unfold qZ uE
 unfold C1 at ht
 by_cases k1:t.kind=1
 ·rw [if_pos k1] at ht
  rw [if_pos k1,if_pos k1]
  simp only [nJ,aq1,decide_eq_true_eq] at ht
  simp only [List.filter_cons,List.filter_nil,e _ ht.2.1]
 ·rw [if_neg k1,if_neg k1]
  rw [if_neg k1] at ht
  by_cases k2:t.kind=2
  ·rw [if_pos k2] at ht
   rw [if_pos k2,if_pos k2]
   simp only [nJ,aq1,decide_eq_true_eq] at ht
   simp only [List.filter_cons,List.filter_nil,e _ ht.2.1.1,e _ ht.2.2.1]
  ·rw [if_neg k2,if_neg k2]
theorem auM {t:Term}(y:Int):∃l':List Int,KK 96 [LV [y],.func 97 [] []] (HL t [y] [])=some (.ret (.vslice 3 1 0 ([y].filter fun k=>!decide (k=-1)).length 1),HL t l' [])∧l'.length=1∧l'.take ([y].filter fun k=>!decide (k=-1)).length=[y].filter fun k=>!decide (k=-1):=by
 have s1:=Fa (t:=t) (l:=[y]) (i:=0) (z:=y) rfl (by simp)
 by_cases hy:y=-1
 ·subst hy
  rw [if_pos rfl] at s1
  have g:=DV (r:=0) (Q_ s1) (.inl ⟨rfl,rfl⟩)
  have e:=GX (t:=t) (l:=[-1]) (i:=0) (v:=.slice [] (.own 4)) (fun h'=>rfl)
  exact⟨_,DW (i:=0) (k:=0) g (by omega) rfl (by simp) (uA e),by simp,by simp⟩
 ·rw [if_neg hy] at s1
  have g:=DV (r:=-1) ((Bb s1).trans (uA OS)) (.inr ⟨rfl,rfl⟩)
  have:=OM g
  exact⟨[y],by simpa [hy,LV] using this,rfl,by simp [hy]⟩
theorem auN {t:Term}(y n:Int):∃l':List Int,KK 96 [LV [y,n],.func 97 [] []] (HL t [y,n] [])=some (.ret (.vslice 3 2 0 ([y,n].filter fun k=>!decide (k=-1)).length 1),HL t l' [])∧l'.length=2∧l'.take ([y,n].filter fun k=>!decide (k=-1)).length=[y,n].filter fun k=>!decide (k=-1):=by
 have s1:=Fa (t:=t) (l:=[y,n]) (i:=0) (z:=y) rfl (by simp)
 have s2:=Fa (t:=t) (l:=[y,n]) (i:=1) (z:=n) rfl (by simp)
 have hv:∀h',lS.qJ 5 h' (.slice [] (.own 4))=.slice [] (.own 4):=fun h'=>rfl
 by_cases hy:y=-1
 ·subst hy
  rw [if_pos rfl] at s1
  have g:=DV (r:=0) (Q_ s1) (.inl ⟨rfl,rfl⟩)
  have d1:=W7 (t:=t) (l:=[-1,n]) (i:=0) (j:=1) (z:=n) hv rfl (by omega) (by simp)
  by_cases hn:n=-1
  ·subst hn
   rw [if_pos rfl] at d1
   have e:=GX (t:=t) (l:=[-1,-1]) (i:=0) hv
   exact⟨_,DW (i:=0) (k:=0) g (by omega) rfl (by simp) ((Bb d1).trans (uA e)),by simp,by simp⟩
  ·rw [if_neg hn] at d1
   have e:=GX (t:=t) (l:=[n,n]) (i:=1) hv
   have:=DW (i:=0) (k:=1) (l':=[n,n]) g (by omega) rfl (by simp) ((Bb d1).trans (uA e))
   exact⟨_,by simpa [hn] using this,by simp,by simp [hn]⟩
 ·rw [if_neg hy] at s1
  by_cases hn:n=-1
  ·subst hn
   rw [if_pos rfl] at s2
   have g:=DV (r:=1) ((Bb s1).trans (Q_ s2)) (.inl ⟨rfl,rfl⟩)
   have e:=GX (t:=t) (l:=[y,-1]) (i:=1) hv
   have:=DW (i:=1) (k:=1) (l':=[y,-1]) g (by omega) rfl (by simp) (uA e)
   exact⟨_,by simpa [hy] using this,by simp,by simp [hy]⟩
  ·rw [if_neg hn] at s2
   have g:=DV (r:=-1) ((Bb s1).trans ((Bb s2).trans (uA OS))) (.inr ⟨rfl,rfl⟩)
   have:=OM g
   exact⟨[y,n],by simpa [hy,hn,LV] using this,rfl,by simp [hy,hn]⟩
theorem Wr {t:Term}{l:List Int}{k n:Nat}(hn:l.length=n) (hk:k≤n):(lS.vslice 3 n 0 k 1).qJ 0 (HL t l [])=.slice (ints (l.take k)) .no:=by
 subst hn
 have hp:oM ((l.map n_).take k)=some ((l.map n_).take k):=Eh fun c hc=>by
  obtain⟨z,_,rfl⟩:=au6.1 (List.mem_of_mem_take hc);exact⟨_,_,rfl⟩
 have hl:((l.map n_).take k).length=k:=by simp;omega
 have hr:rowsOf k 1 ((l.map n_).take k)=ints (l.take k):=by
  have:=Du (l:=(l.map n_).take k)
  rw [hl] at this
  rw [this,ints,←List.map_take,List.map_map];rfl
 show lS.oL 0 (HL t l []) (.vslice 3 l.length 0 k 1)=_
 unfold lS.oL
 simp only [Nat.not_lt_zero,decide_false,cond_false,HL,List.getElem?_cons_succ,List.getElem?_cons_zero,List.drop_zero,Nat.mul_one,hp,hr,au7,av7]
 simp [hk]
theorem c80 (t:Term) (h:lT):KK 80 [.agg t.cells] h=some (.ret (.slice (ints (qZ t)) .no),h):=by
 refine nN rfl rfl (oN (an1 _ _ _) ?_)
 have b1:∀(z:Int) (h':lT),sD 1 1 [.int .i64 0] [(0,.int .i64 z)] h'=some (.vslice h'.length 1 0 1 1,h'++[.vec 1 1 [.int .i64 z]]):=fun z h'=>rfl
 have b2:∀(y z:Int) (h':lT),sD 2 1 [.int .i64 0] [(0,.int .i64 y),(1,.int .i64 z)] h'=some (.vslice h'.length 2 0 2 1,h'++[.vec 2 1 [.int .i64 y,.int .i64 z]]):=fun y z h'=>rfl
 have uf:lS.l_ (.func 97 [] [])=.func 97 [] []:=rfl
 unfold qZ
 by_cases k1:t.kind=1
 ·obtain⟨l',g,h1,h2⟩:=auM (t:=t) t.yes
  have hf:=Wr (t:=t) (k:=([t.yes].filter fun k=>!decide (k=-1)).length) h1 (by rw [←h1,←h2,ar6];omega)
  rw [h2] at hf
  rw [if_pos k1]
  simp only [HL,LV,ar8,ay5,av7,as6,List.map_nil,n_,Term.cells] at g hf ⊢
  rw [k1] at g hf
  generalize [t.yes].filter (fun k=>!decide (k=-1))=L at *
  generalize mT.vec l'.length 1 (l'.map n_)=X at *
  simp [m80,k1,b1,g,uf,nE,hf]
 by_cases k2:t.kind=2
 ·obtain⟨l',g,h1,h2⟩:=auN (t:=t) t.yes t.no
  have hf:=Wr (t:=t) (k:=([t.yes,t.no].filter fun k=>!decide (k=-1)).length) h1 (by rw [←h1,←h2,ar6];omega)
  rw [h2] at hf
  rw [if_neg k1,if_pos k2]
  simp only [HL,LV,ar8,ay5,av7,Nat.reduceAdd,as6,List.map_nil,n_,Term.cells] at g hf ⊢
  rw [k2] at g hf
  generalize [t.yes,t.no].filter (fun k=>!decide (k=-1))=L at *
  generalize mT.vec l'.length 1 (l'.map n_)=X at *
  simp [m80,k2,b2,g,uf,nE,hf]
 ·have g0:=auI (h:=[.cells t.cells,.front 0 0,.front 0 0]) (sN (by simp [Term.cells]) (pL (pL rW)))
  rw [if_neg k1,if_neg k2]
  simp only [Term.cells] at g0 ⊢
  simp [m80,k1,k2,g0,uf,nE,ints]
end
section
open Go Hk Go.Proofs.Wd
theorem EY {n:Nat}:∀{cs:List lS},(∀c∈cs,(∀m h,n≤m→c.oL m h=c)∧c.mZ=true)→yF n cs
 | [],_=>Tk
 | c::r,h=>(Av (h c (by simp)).1 (h c (by simp)).2).2 (EY fun x hx=>h x (by simp [hx]))
abbrev Cl:=Bool×List Wd
def mQ (c:Cl):lS:=if c.1 then PS c.2 else .slice [] .nil
def rV (c:Cl):List Wd:=if c.1 then c.2 else []
theorem UW (c:Cl) (h:lT):mD 1 1 [.slice [] .nil] [(0,mQ c)] h=some (.slice [[PS (rV c)]] (.own h.length),h++[.front 1 1]):=by
 obtain⟨b,ws⟩:=c
 cases b <;> rfl
theorem Ih {h:lT}(c:Cl):CQ h (mQ c).l_ (rV c):=by
 obtain⟨b,ws⟩:=c
 cases b
 ·exact PL (ws:=[])
 ·exact PL
theorem zU (c:Cl):(∀m h,(mQ c).oL m h=mQ c)∧(mQ c).mZ=true:=by
 obtain⟨b,ws⟩:=c
 cases b <;> exact⟨fun _ _=>rfl,rfl⟩
def FZ (id:Nat) (ws:List Wd):lS:=match ws with
 | []=>.slice [] (.own id)
 | _=>PS ws
def ZX (ws:List Wd):mT:=match ws with
 | []=>.front 0 0
 | _=>.gone
theorem HX {A B:List mT}{ws:List Wd}:sU (OQ A (XS ws) B) (VS A.length ws)=some (FZ A.length ws,OQ A (ZX ws) B):=by
 cases ws with
 | nil=>rfl
 | cons w r =>
  have g:=Ce (A:=A) (B:=B) (ws:=w::r) (by simp)
  have hp:oM (((w::r).map wc).take (r.length+1))=some ((w::r).map wc):=by
   rw [List.take_of_length_le (by simp)]
   exact Eh fun c hc=>by obtain⟨x,_,rfl⟩:=au6.1 hc;exact⟨_,_,rfl⟩
  have hr:rowsOf (r.length+1) 1 ((w::r).map wc)=(w::r).map fun w=>[wc w]:=by
   have:=Du (l:=(w::r).map wc)
   rw [au7,ar8] at this
   rw [this,List.map_map];rfl
  unfold sU VS
  simp only [ar8] at g
  simp only [g,List.drop_zero,Nat.mul_one,hp,hr,au7,ar8,av7,ak5,if_true,zD,ah5,Prod.mk.injEq]
  exact⟨rfl,rfl⟩
theorem ajI (id:Nat) (ws:List Wd) (h:lT):mD 1 1 [.slice [] .nil] [(0,FZ id ws)] h=some (.slice [[PS ws]] (.own h.length),h++[.front 1 1]):=by cases ws <;> rfl
theorem aaH {id m:Nat}{ws:List Wd}{h:lT}(hm:id<m):(FZ id ws).oL m h=FZ id ws:=by
 cases ws with
 | nil=>simp [FZ,hm]
 | cons w r=>rfl
theorem Wh {id m:Nat}{ws:List Wd}{h:lT}(hm:m≤id):(FZ id ws).oL m h=PS ws:=by
 cases ws with
 | nil=>simp [FZ,show ¬id<m by omega];rfl
 | cons w r=>rfl
theorem Wg {id:Nat}{ws:List Wd}:(FZ id ws).mZ=true:=by cases ws <;> rfl
theorem Oi {id:Nat}{ws:List Wd}:(FZ id ws).cells=[FZ id ws]:=by cases ws <;> rfl
theorem Tp {id:Nat}{ws:List Wd}{h:lT}{o:lS}:tL h o (FZ id ws)=FZ id ws:=by
 cases ws with
 | nil=>simp [FZ]
 | cons w r=>simp [FZ,PS]
theorem sJ {id off len sz sz':Nat}{k:IntKind}{i:Nat}:mI sz (.mslice id off len sz') (.int k (i:Int))=if i<len∧sz'=sz then some (.ptr id (off+i*sz)) else none:=by
 simp [mI]
theorem Qp {h C:lT}{rows:List (List lS)}{v:lS}{by_:Nat}(hb:by_≤24) (hl:rows.length≤2000000) {t:Hk.Tok} :
  nD 1 by_ (h++FR rows.length::C) (.slice rows (.own h.length)) (.slice [[v]] t)=some (.slice (rows++[[v]]) (.own h.length),h++FR (rows.length+1)::C):=by
 have hr:∀H:lT,sR 1 H (.slice [[v]] t)=some [[v]]:=fun H=>by simp
 have hg:∀x,(h++x::C)[h.length]?=some x:=fun x=>by rw [ak0 (ak5 _),Nat.sub_self];rfl
 have hs:∀x y,(h++x::C).set h.length y=h++y::C:=fun x y=>by rw [List.set_append_right _ _ (ak5 _),Nat.sub_self];rfl
 have e1:FR (rows.length+1)=.front (rows.length+1) 1:=by simp [FR]
 have hm:(rows.length+1)*by_≤(rows.length+1)*24:=Nat.mul_le_mul_left _ hb
 unfold nD
 simp only [hr]
 rw [hg,e1]
 by_cases h0:rows.length=0
 ·have e3:FR rows.length=.front 0 0:=by simp [FR,h0]
  rw [e3]
  simp only [List.length_singleton,hs]
  rw [if_pos ⟨h0,.inr ⟨trivial,trivial⟩,by rw [h0] at hm;omega,by omega⟩,if_neg (by omega),h0]
 ·have e3:FR rows.length=.front rows.length 1:=by simp [FR,h0]
  rw [e3]
  simp only [List.length_singleton,hs]
  rw [if_pos ⟨trivial,.inl trivial,by omega,by omega⟩,if_neg (by omega)]
def HB (p:IR) (ic oc:List lS):lT:=[.cells p.cells,.front 0 0,.front 0 0,.cells ic,.cells oc]
theorem Hv {p:IR}{n:Nat}:yF n p.cells:=by simp [IR.cells]
theorem pT {n:Nat}(l:List Cl):yF n (l.map mQ):=EY fun c hc=>by
 obtain⟨x,_,rfl⟩:=au6.1 hc
 exact⟨fun m h _=>(zU x).1 m h,(zU x).2⟩
theorem C6 {p:IR}{ic oc:List lS}{n:Nat}(h1:yF n ic) (h2:yF n oc):CN n (HB p ic oc) :=
 sN Hv (pL (pL (sN h1 (sN h2 rW))))
def T1:lS:=.slice [] (.own 1)
def T2:lS:=.slice [] (.own 2)
section
variable {m:Nat}(hm:5≤m) {h:lT}{n:Nat}
include hm
theorem sP:lS.qJ m h (.ptr 0 0)=.ptr 0 0:=SP (by omega)
theorem sT1:lS.qJ m h T1=T1:=by simp [T1,show 1<m by omega]
theorem sT2:lS.qJ m h T2=T2:=by simp [T2,show 2<m by omega]
theorem sMI:lS.qJ m h (.mslice 3 0 n 1)=.mslice 3 0 n 1:=by
 show lS.oL m h (.mslice 3 0 n 1)=_
 simp [lS.oL,show 3<m by omega]
theorem sMO:lS.qJ m h (.mslice 4 0 n 1)=.mslice 4 0 n 1:=by
 show lS.oL m h (.mslice 4 0 n 1)=_
 simp [lS.oL,show 4<m by omega]
end
section
variable {p:IR}{ins:List Cl}{oc:List lS}(hn:ins.length=p.blocks.length)
include hn
theorem Vh (ho:yF 5 oc) {bb:Bool}{k:Int}(ld:List Int) (hld:∀j∈ld,0≤j∧j.toNat<ins.length) (hl:ld.length≤10):∀(d i:Nat) (L:List (List Wd)),ld.length=i+d→L.length=i →
  nL (Ng KK 6) ([.ptr 0 0,T1,T2,.int .i64 0,.mslice 3 0 p.blocks.length 1,.mslice 4 0 p.blocks.length 1,.bool bb,.int .i64 k,.slice (L.map fun s=>[PS s]) (.own 5),.slice (ints ld) .no,.int .i64 (ld.length:Int),.int .i64 (i:Int)],HB p (ins.map mQ) oc++[FR L.length]) =
   some (.exit 4,[.ptr 0 0,T1,T2,.int .i64 0,.mslice 3 0 p.blocks.length 1,.mslice 4 0 p.blocks.length 1,.bool bb,.int .i64 k,.slice ((L++(ld.drop i).map fun j=>rV (ins.getD j.toNat (false,[]))).map fun s=>[PS s]) (.own 5),.slice (ints ld) .no,.int .i64 (ld.length:Int),.int .i64 (ld.length:Int)],
    HB p (ins.map mQ) oc++[FR (L++(ld.drop i).map fun j=>rV (ins.getD j.toNat (false,[]))).length]):=by
 have hT:∀n,TH (HB p (ins.map mQ) oc++[FR n]):=fun n=>qP (C6 (pT ins) (fun m h hm=>ho m h (by simp [HB] at hm;omega))) A9
 have htr:∀n C,o_ 6 (HB p (ins.map mQ) oc++FR n::C)=some (HB p (ins.map mQ) oc++[FR n]):=fun n C=>by
  have:=tJ (C:=C) (hT n)
  simpa [HB] using this
 have h5:(HB p (ins.map mQ) oc).length=5:=rfl
 have sOwn:∀h rows,lS.qJ 6 h (.slice rows (.own 5))=.slice rows (.own 5):=fun h rows=>by simp
 have q0:=fun h=>sP (m:=6) (h:=h) (by omega)
 have q1:=fun h=>sT1 (m:=6) (h:=h) (by omega)
 have q2:=fun h=>sT2 (m:=6) (h:=h) (by omega)
 have q3:=fun h=>sMI (m:=6) (h:=h) (n:=p.blocks.length) (by omega)
 have q4:=fun h=>sMO (m:=6) (h:=h) (n:=p.blocks.length) (by omega)
 intro d
 induction d with
 | zero =>
  intro i L hd hL
  obtain rfl:ld.length=i:=by omega
  rw [List.drop_length,List.map_nil,List.append_nil]
  refine uA ?_
  unfold Ng
  simp -implicitDefEqProofs [mK,htr,q0,q1,q2,q3,q4,sOwn]
 | succ d ih =>
  intro i L hd hL
  have hil:i<ld.length:=by omega
  have hil':(i:Int)<(ld.length:Int):=by omega
  have hx:ld[i]?=some ld[i]:=ag8 hil
  have hj:=hld ld[i] (ax5 hil)
  have w1:IntKind.i64.wrap ((i:Int)+1)=((i+1:Nat):Int):=by rw [wrap64 (by omega) (by omega),ax3];rfl
  rw [ar7 hil]
  generalize ld[i]=j at *
  obtain⟨q,rfl⟩:=Int.eq_ofNat_of_zero_le hj.1
  have hq:q<ins.length:=by simpa using hj.2
  have hqn:q<p.blocks.length:=by omega
  have hc:ins[q]?=some ins[q]:=ag8 hq
  have hgd:ins.getD q (false,[])=ins[q]:=by simp [ah6,hc]
  simp only [av8,as6,hgd]
  have ixl:mI 1 (.slice (ints ld) .no) (.int .i64 (i:Int))=some (.pptr [.int .i64 (q:Int)]):=by
   rw [ints,lW,hx];rfl
  have ixm:mI 1 (.mslice 3 0 p.blocks.length 1) (.int .i64 (q:Int))=some (.ptr 3 q):=by
   rw [sJ,if_pos ⟨hqn,rfl⟩];simp
  have row:=fun h=>UW ins[q] h
  have app:=fun C t=>Qp (h:=HB p (ins.map mQ) oc) (C:=C) (rows:=L.map fun s=>[PS s]) (v:=PS (rV ins[q])) (by_:=24) (by omega) (by simp;omega) (t:=t)
  rw [h5] at app
  simp only [au7] at app
  have gb:∀C,(oX (HB p (ins.map mQ) oc++C) 3).bind (fun cs=>cs[q]?)=some (mQ ins[q]):=fun C=>by simp [HB,oX,hc]
  have g:=ih (i+1) (L++[rV ins[q]]) (by omega) (by simp;omega)
  have e:L++rV ins[q]::(ld.drop (i+1)).map (fun j=>rV (ins.getD j.toNat (false,[])))=(L++[rV ins[q]])++(ld.drop (i+1)).map (fun j=>rV (ins.getD j.toNat (false,[]))):=by simp
  rw [e,←g]
  clear g ih e
  refine Bb ?_
  have em:(L++[rV ins[q]]).map (fun s=>[PS s])=L.map (fun s=>[PS s])++[[PS (rV ins[q])]]:=by simp
  rw [em]
  have el:(L++[rV ins[q]]).length=L.length+1:=by simp
  rw [el]
  generalize ((i+1:Nat):Int)=i1 at *
  generalize L.map (fun s=>[PS s])=R at *
  generalize mQ ins[q]=ca at *
  unfold Ng
  simp -implicitDefEqProofs [hil',ixl,ixm,gb,row,app,w1,mK,htr,q0,q1,q2,q3,q4,sOwn]
end
end
section
open Go Hk Go.Proofs.Wd
def GP (l:List Op) (ws:List Wd):List Wd:=l.foldr wJ ws
def aj7 (b:mU) (ws:List Wd):List Wd:=GP b.ops (tO b.term ws)
structure A_ (p:IR):Prop where
 use:∀b∈p.blocks,∀o∈b.ops,∀t∈pK o,0≤t∧t<p.temps
 dst:∀b∈p.blocks,∀o∈b.ops,o.dst≤2000000
 made:∀b∈p.blocks,∀o∈b.ops,(oH o.kind).dst=true→0≤o.dst∧o.dst<p.temps
 term:∀b∈p.blocks,b.term.kind=2→0≤b.term.a∧b.term.a<p.temps
 lead:∀b∈p.blocks,∀j∈qZ b.term,0≤j∧j.toNat<p.blocks.length
 temps:p.temps≤1048576
 nb:p.blocks.length≤1048576
 len:∀b∈p.blocks,b.ops.length≤1048576
theorem IJ (t:Term):(qZ t).length≤10:=by
 unfold qZ
 split
 ·exact ax9 (List.length_filter_le _ _) (by simp)
 ·split
  ·exact ax9 (List.length_filter_le _ _) (by simp)
  ·simp
section
variable {p:IR}(hp:A_ p)
include hp
theorem Vi {A B:List mT}(hB:KB A B) (hm:5≤HN A B) {bb:Bool}{k:Int}{b:mU}(hb:b∈p.blocks):∀(c:Nat) (ws:List Wd),c≤b.ops.length →
  nL (Nh KK (HN A B)) ([.ptr 0 0,T1,T2,.int .i64 0,.mslice 3 0 p.blocks.length 1,.mslice 4 0 p.blocks.length 1,.bool bb,.int .i64 k,VS A.length ws,.slice (b.ops.map Op.cells) .no,.int .i64 ((c:Int)-1)],OQ A (XS ws) B) =
   some (.exit 6,[.ptr 0 0,T1,T2,.int .i64 0,.mslice 3 0 p.blocks.length 1,.mslice 4 0 p.blocks.length 1,.bool bb,.int .i64 k,VS A.length (GP (b.ops.take c) ws),.slice (b.ops.map Op.cells) .no,.int .i64 (-1)],OQ A (XS (GP (b.ops.take c) ws)) B):=by
 have q0:=fun h=>sP (m:=HN A B) (h:=h) hm
 have q1:=fun h=>sT1 (m:=HN A B) (h:=h) hm
 have q2:=fun h=>sT2 (m:=HN A B) (h:=h) hm
 have q3:=fun h=>sMI (m:=HN A B) (h:=h) (n:=p.blocks.length) hm
 have q4:=fun h=>sMO (m:=HN A B) (h:=h) (n:=p.blocks.length) hm
 intro c
 induction c with
 | zero =>
  intro ws _
  have htr:=qQ (X:=XS ws) (A:=A) (B:=B) hB xQ
  have hsn:=fun h=>vJ (ws:=ws) (m:=HN A B) (h:=h) tP
  refine uA ?_
  simp only [List.take_zero,GP,List.foldr_nil]
  unfold Nh
  simp -implicitDefEqProofs [mK,htr,hsn,q0,q1,q2,q3,q4]
 | succ c ih =>
  intro ws hc
  have hcl:c<b.ops.length:=by omega
  have hx:b.ops[c]?=some b.ops[c]:=ag8 hcl
  have ho:=ax5 hcl
  have e:GP (b.ops.take (c+1)) ws=GP (b.ops.take c) (wJ b.ops[c] ws):=by
   unfold GP
   rw [List.take_succ_eq_append_getElem hcl,List.foldr_append];rfl
  have hlen:=hp.len b hb
  have g61:=c83 hB (o:=b.ops[c]) (fun t ht=>by have:=hp.use b hb _ ho t ht;have:=hp.temps;omega) (hp.dst b hb _ ho) ws
  have htr:=tQ (X:=XS (wJ b.ops[c] ws)) (A:=A) (B:=B) (C:=LY b.ops[c]) hB xQ
  have hsn:=fun h=>vJ (ws:=wJ b.ops[c] ws) (m:=HN A B) (h:=h) tP
  rw [e,←ih _ (by omega)]
  generalize b.ops[c]=o at *
  have w0:((c+1:Nat):Int)-1=(c:Int):=by omega
  have w1:IntKind.i64.wrap ((c:Int)-1)=(c:Int)-1:=by rw [wrap64] <;> omega
  rw [w0]
  refine Bb ?_
  have ix:(mI 6 (.slice (b.ops.map Op.cells) .no) (.int .i64 (c:Int))).bind (fun t=>mF true 6 (OQ A (XS ws) B) t)=some (.agg o.cells):=by
   rw [lW,hx];simp [Op.cells]
  obtain⟨q,hq,hq2⟩:=ac6.1 ix
  generalize wJ o ws=w' at *
  generalize lS.agg o.cells=oc at *
  generalize LY o=og at *
  generalize VS A.length ws=V0 at *
  generalize OQ A (XS ws) B=H0 at *
  unfold Nh
  simp -implicitDefEqProofs [hq,hq2,g61,w1,mK,htr,hsn,q0,q1,q2,q3,q4]
def Bi (ins:List Cl) (b:mU):List Wd:=tU ((qZ b.term).map fun j=>rV (ins.getD j.toNat (false,[])))
def xE (ins:List Cl) (b:mU):List Wd:=aj7 b (tU [Bi ins b])
omit hp in
theorem af7 {α:Type}{l:List α}{i:Nat}(hi:i<l.length) (x:α):(l.set i x)[i]?=some x:=by simp [hi]
omit hp in
theorem Hg {m id:Nat}{h:lT}{ws:List Wd}(hm:m≤id):∀(l:List Cl) (k:Nat),k<l.length→nQ m h ((l.map mQ).set k (FZ id ws))=some ((l.set k (true,ws)).map mQ)
 | [],k,hk=>by simp at hk
 | c::r,0,_=>by
  have e:=pT (n:=m) r m h (ak5 _)
  simp only [as6,List.set_cons_zero,pY,Wh hm,e,Option.map_some]
  rfl
 | c::r,k+1,hk=>by
  have ih:=Hg (h:=h) (ws:=ws) hm r k (by simpa using hk)
  simp only [as6,List.set_cons_succ,pY,(zU c).1 m h,(zU c).2,cond_true,ih,Option.map_some]
set_option maxHeartbeats 4000000 in
theorem Vn {ins outs:List Cl}(hn:ins.length=p.blocks.length) (hno:outs.length=p.blocks.length) (hs:∀c∈ins,(rV c).length≤20000) {bb:Bool}{k:Nat}{b:mU}(hb:p.blocks[k]?=some b)
  (hw:(xE ins b).length≤20000) :
  Fo KK 5 ([.ptr 0 0,T1,T2,.int .i64 0,.mslice 3 0 p.blocks.length 1,.mslice 4 0 p.blocks.length 1,.bool bb,.int .i64 (k:Int)],HB p (ins.map mQ) (outs.map mQ)) =
   some (.normal,[.ptr 0 0,T1,T2,.int .i64 0,.mslice 3 0 p.blocks.length 1,.mslice 4 0 p.blocks.length 1,.bool (if oT (xE ins b)=oT (rV (ins.getD k (false,[]))) then bb else true),.int .i64 ((k:Int)-1)],
    HB p ((if oT (xE ins b)=oT (rV (ins.getD k (false,[]))) then ins else ins.set k (true,xE ins b)).map mQ) ((outs.set k (true,Bi ins b)).map mQ)):=by
 have hbm:b∈p.blocks:=aj8 hb
 have hkl:k<p.blocks.length:=(ag0.1 hb).1
 have hki:k<ins.length:=by omega
 have hko:k<outs.length:=by omega
 have hld:=hp.lead b hbm
 have hnb:=hp.nb
 have gl:=Vh hn (pT outs) (bb:=bb) (k:=(k:Int)) (qZ b.term) (fun j hj=>by rw [hn];exact hld j hj) (IJ _) (qZ b.term).length 0 [] (by simp) rfl
 simp only [av6,List.drop_zero,aw6] at gl
 have g58:=c80 b.term
 have hLl:∀s∈(qZ b.term).map (fun j=>rV (ins.getD j.toNat (false,[]))),s.length≤20000:=fun s hs'=>by
  obtain⟨j,_,rfl⟩:=au6.1 hs'
  rw [ah6]
  cases hq:ins[j.toNat]? with
  | none=>simp [rV]
  | some c=>exact hs c (aj8 hq)
 have hJl:(Bi ins b).length≤20000:=z6 20000 _ [] (by simp) hLl
 have hTF:∀n,TH (HB p (ins.map mQ) (outs.map mQ)++[FR n]):=fun n=>qP (C6 (pT ins) (pT outs)) A9
 have g59:=c81 (hTF ((qZ b.term).map (fun j=>rV (ins.getD j.toNat (false,[])))).length) (L:=(qZ b.term).map fun j=>rV (ins.getD j.toNat (false,[]))) (by have:=IJ b.term;simp;omega) hLl
 have hout:tU ((qZ b.term).map fun j=>rV (ins.getD j.toNat (false,[])))=Bi ins b:=rfl
 rw [hout] at g59
 generalize ((qZ b.term).map (fun j=>rV (ins.getD j.toNat (false,[]))))=L at *
 generalize hJ:Bi ins b=J at *
 have gf:=HX (A:=HB p (ins.map mQ) (outs.map mQ)++[FR L.length]++[.front 0 0]) (B:=[]) (ws:=J)
 have l7:(HB p (ins.map mQ) (outs.map mQ)++[FR L.length]++[mT.front 0 0]).length=7:=rfl
 have l6:(HB p (ins.map mQ) (outs.map mQ)++[FR L.length]).length=6:=rfl
 rw [l7] at gf
 rw [l6] at g59
 have hoc:yF 9 ((outs.map mQ).set k (FZ 7 J)):=EY fun c hc=>by
  rcases List.mem_or_eq_of_mem_set hc with h1 | h1
  ·obtain⟨x,_,rfl⟩:=au6.1 h1
   exact⟨fun m h _=>(zU x).1 m h,(zU x).2⟩
  ·subst h1;exact⟨fun m h hm=>aaH (by omega),Wg⟩
 have zx:∀n,CN n [ZX J]:=fun n=>by cases J <;> simp [ZX]
 have hT2:TH ([.gone,.front 0 0,.front 0 0,.cells (ins.map mQ),.cells ((outs.map mQ).set k (FZ 7 J)),FR L.length,.front 0 0,ZX J,.front 1 1]:lT):=by
  have e:([.gone,.front 0 0,.front 0 0,.cells (ins.map mQ),.cells ((outs.map mQ).set k (FZ 7 J)),FR L.length,.front 0 0,ZX J,.front 1 1]:lT) =
    [.gone,.front 0 0,.front 0 0,.cells (ins.map mQ),.cells ((outs.map mQ).set k (FZ 7 J))]++([FR L.length]++([.front 0 0]++([ZX J]++[.front 1 1]))):=rfl
  unfold TH
  rw [e]
  exact qP (by simp only [Aw,CP,CO];exact⟨pT _,hoc,rW⟩) (qP A9 (qP (pL rW) (qP (zx _) (pL rW))))
 have g592:=c81 hT2 (L:=[J]) (by simp) (fun s hs=>by simp at hs;subst hs;exact hJl)
 have hJ2:(tU [J]).length≤20000:=z6 20000 _ [] (by simp) (fun s hs=>by simp at hs;subst hs;exact hJl)
 have hB0:KB ([.cells p.cells,.front 0 0,.front 0 0,.cells (ins.map mQ),.cells ((outs.map mQ).set k (FZ 7 J)),FR L.length,.front 0 0,ZX J,.front 1 1,.front 0 0]:lT) []:=by
  refine⟨fun n hn'=>?_,fun n _=>rW⟩
  have h9:9≤n:=by simp [HN] at hn';omega
  have e:([.cells p.cells,.front 0 0,.front 0 0,.cells (ins.map mQ),.cells ((outs.map mQ).set k (FZ 7 J)),FR L.length,.front 0 0,ZX J,.front 1 1,.front 0 0]:lT) =
    HB p (ins.map mQ) ((outs.map mQ).set k (FZ 7 J))++([FR L.length]++([.front 0 0]++([ZX J]++[.front 1 1,.front 0 0]))):=rfl
  rw [e]
  exact qP (C6 (pT _) (fun m h hm=>hoc m h (by omega))) (qP A9 (qP (pL rW) (qP (zx _) (pL (pL rW)))))
 have g60:=c82 hB0 (t:=b.term) (fun h=>by have:=hp.term b hbm h;have:=hp.temps;omega) (tU [J])
 have hBG:KB ([.cells p.cells,.front 0 0,.front 0 0,.cells (ins.map mQ),.cells ((outs.map mQ).set k (FZ 7 J)),FR L.length,.front 0 0,ZX J,.front 1 1,.front 0 0]:lT) ([]++u9 b.term) :=
  hB0.app (by unfold u9;split <;> simp [Term.cells])
 have gl1:=Vi hp hBG (by simp [HN];omega) (bb:=bb) (k:=(k:Int)) hbm b.ops.length (tO b.term (tU [J])) (ak5 _)
 rw [List.take_length] at gl1
 have hnew:GP b.ops (tO b.term (tU [J]))=xE ins b:=by unfold xE aj7;rw [hJ]
 rw [hnew] at gl1
 generalize xE ins b=N at *
 generalize hA:([.cells p.cells,.front 0 0,.front 0 0,.cells (ins.map mQ),.cells ((outs.map mQ).set k (FZ 7 J)),FR L.length,.front 0 0,ZX J,.front 1 1,.front 0 0]:lT)=A at *
 have hAl:A.length=10:=by rw [←hA];rfl
 rw [hAl] at g60 gl1
 have hTN:TH (OQ A (XS N) ([]++u9 b.term)):=atB hBG xQ
 have hc:ins[k]?=some ins[k]:=ag8 hki
 have hgd:ins.getD k (false,[])=ins[k]:=by simp [ah6,hc]
 have hck:=hs ins[k] (ax5 hki)
 have g62:=c84 hTN (S:=(VS A.length N).l_) (T:=(mQ ins[k]).l_) (by
  have:=CQ.l_ (A:=A) (B:=[]++u9 b.term) (ws:=N) rfl
  rwa [show(VS A.length N).l_.l_=(VS A.length N).l_ from by cases N <;> rfl]) (by
  have:=Ih (h:=OQ A (XS N) ([]++u9 b.term)) ins[k]
  rwa [show(mQ ins[k]).l_.l_=(mQ ins[k]).l_ from by rcases ins[k] with ⟨b,w⟩;cases b <;> rfl]) hw hck
 rw [hAl] at g62
 have gf2:=HX (A:=A) (B:=[]++u9 b.term) (ws:=N)
 rw [hAl] at gf2
 have hlen3:(OQ A (XS (tO b.term (tU [J]))) ([]++u9 b.term)).length=HN A ([]++u9 b.term):=C7
 have hb3:∀X B,oX (OQ A X B) 0=some p.cells:=fun X B=>by rw [←hA];rfl
 have hi4:∀X B,oX (OQ A X B) 3=some (ins.map mQ):=fun X B=>by rw [←hA];rfl
 have hcell:(ins.map mQ)[k]?=some (mQ ins[k]):=by rw [ak4,hc];rfl
 rw [hgd]
 generalize hcA:mQ ins[k]=ca at *
 have hput:∀(l:List lS) (v:lS),k<l.length→putCells l k [v]=l.set k v:=fun l v hl=>by
  unfold putCells
  rw [List.set_eq_take_append_cons_drop,if_pos hl];simp
 have tS:o_ 5 (OQ A (XS N) (u9 b.term))=some (HB p (ins.map mQ) ((outs.set k (true,J)).map mQ)):=by
  have e1:=fun h=>Hg (m:=5) (h:=h) (id:=7) (ws:=J) (by omega) outs k hko
  have e2:∀h,nQ 5 h (ins.map mQ)=some (ins.map mQ):=fun h=>pT (n:=5) ins 5 h (ak5 _)
  have e3:∀h,nQ 5 h p.cells=some p.cells:=fun h=>Hv (n:=5) 5 h (ak5 _)
  rw [←hA]
  simp [OQ,o_,e1,e2,e3,HB]
 have tD:o_ 5 (List.set (OQ A (ZX N) (u9 b.term)) 3 (.cells ((ins.map mQ).set k (FZ 10 N))))=some (HB p ((ins.set k (true,N)).map mQ) ((outs.set k (true,J)).map mQ)):=by
  have e1:=fun h=>Hg (m:=5) (h:=h) (id:=7) (ws:=J) (by omega) outs k hko
  have e2:=fun h=>Hg (m:=5) (h:=h) (id:=10) (ws:=N) (by omega) ins k hki
  have e3:∀h,nQ 5 h p.cells=some p.cells:=fun h=>Hv (n:=5) 5 h (ak5 _)
  rw [←hA]
  simp [OQ,o_,e1,e2,e3,HB]
 have stD:mL 1 (OQ A (ZX N) (u9 b.term)) (.ptr 3 k) (FZ 10 N)=some (List.set (OQ A (ZX N) (u9 b.term)) 3 (.cells ((ins.map mQ).set k (FZ 10 N)))):=by
  rw [s4,hi4,ak6,Oi,if_pos ⟨rfl,by simp;omega,by simp [Wg]⟩]
  have:(ins.map mQ).drop k=ca::(ins.map mQ).drop (k+1):=by
   have hk':k<(ins.map mQ).length:=by simpa using hki
   rw [ar7 hk']
   have:=ag8 hk'
   rw [hcell] at this;cases this;rfl
  rw [this,AG,D8,Tp,hput _ _ (by simpa using hki)]
 have ldA:∀X B,mF false 1 (OQ A X B) (.ptr 0 2)=some (.slice (p.blocks.map mU.cells) .no):=fun X B=>by rw [q_,hb3];rfl
 have ldI:∀X B,mF false 1 (OQ A X B) (.ptr 3 k)=some ca:=fun X B=>by rw [q_,hi4];exact hcell
 have ixo:mI 1 (.mslice 4 0 p.blocks.length 1) (.int .i64 (k:Int))=some (.ptr 4 k):=by rw [sJ,if_pos ⟨hkl,rfl⟩];simp
 have ixi:mI 1 (.mslice 3 0 p.blocks.length 1) (.int .i64 (k:Int))=some (.ptr 3 k):=by rw [sJ,if_pos ⟨hkl,rfl⟩];simp
 have bx:mI 5 (.slice (p.blocks.map mU.cells) .no) (.int .i64 (k:Int))=some (.pptr [.slice (b.ops.map Op.cells) .no,.int .i64 b.term.kind,.int .i64 b.term.a,.int .i64 b.term.yes,.int .i64 b.term.no]):=by rw [lW,hb];rfl
 have ld0:∀X,mF false 1 (.cells p.cells::X) (.ptr 0 2)=some (.slice (p.blocks.map mU.cells) .no):=fun X=>rfl
 have hob:=hp.len b hbm
 have w1:IntKind.i64.wrap ((b.ops.length:Int)-1)=(b.ops.length:Int)-1:=by rw [wrap64] <;> omega
 have w2:IntKind.i64.wrap ((k:Int)-1)=(k:Int)-1:=by rw [wrap64] <;> omega
 have q0:=fun h=>sP (m:=5) (h:=h) (by omega)
 have q1:=fun h=>sT1 (m:=5) (h:=h) (by omega)
 have q2:=fun h=>sT2 (m:=5) (h:=h) (by omega)
 have q3:=fun h=>sMI (m:=5) (h:=h) (n:=p.blocks.length) (by omega)
 have q4:=fun h=>sMO (m:=5) (h:=h) (n:=p.blocks.length) (by omega)
 have eA:([.cells p.cells,.front 0 0,.front 0 0,.cells (ins.map mQ),.cells ((outs.map mQ).set k (FZ 7 J)),FR L.length,.front 0 0,ZX J,.front 1 1,.front 0 0,XS (tU [J])]:lT)=OQ A (XS (tU [J])) []:=by rw [←hA];rfl
 rw [←eA] at g60
 simp only [av6] at g60 gl1 g62 gf2
 have eF:FR ([]:List (List Wd)).length=.front 0 0:=rfl
 simp only [eF,List.map_nil,HB,OQ,ax4,av6] at gl
 rw [show OQ (HB p (ins.map mQ) (outs.map mQ)++[FR L.length]++[.front 0 0]) (ZX J) []=[.cells p.cells,.front 0 0,.front 0 0,.cells (ins.map mQ),.cells (outs.map mQ),FR L.length,.front 0 0,ZX J] from rfl,
  show OQ (HB p (ins.map mQ) (outs.map mQ)++[FR L.length]++[.front 0 0]) (XS J) []=[.cells p.cells,.front 0 0,.front 0 0,.cells (ins.map mQ),.cells (outs.map mQ),FR L.length,.front 0 0,XS J] from rfl] at gf
 rw [show OQ (HB p (ins.map mQ) (outs.map mQ)++[FR L.length]++[.front 0 0]) (XS J) []=[.cells p.cells,.front 0 0,.front 0 0,.cells (ins.map mQ),.cells (outs.map mQ),FR L.length,.front 0 0,XS J] from rfl,
  show HB p (ins.map mQ) (outs.map mQ)++[FR L.length]=[.cells p.cells,.front 0 0,.front 0 0,.cells (ins.map mQ),.cells (outs.map mQ),FR L.length] from rfl] at g59
 have stO:mL 1 ([.cells p.cells,.front 0 0,.front 0 0,.cells (ins.map mQ),.cells (outs.map mQ),FR L.length,.front 0 0,ZX J]:lT) (.ptr 4 k) (FZ 7 J)=some [.cells p.cells,.front 0 0,.front 0 0,.cells (ins.map mQ),.cells ((outs.map mQ).set k (FZ 7 J)),FR L.length,.front 0 0,ZX J]:=by
  rw [s4]
  have hk':k<(outs.map mQ).length:=by simpa using hko
  have hg4:oX ([.cells p.cells,.front 0 0,.front 0 0,.cells (ins.map mQ),.cells (outs.map mQ),FR L.length,.front 0 0,ZX J]:lT) 4=some (outs.map mQ):=rfl
  rw [hg4,ak6,Oi,if_pos ⟨rfl,by simp;omega,by simp [Wg]⟩,ar7 hk',AG,D8,Tp,hput _ _ hk']
  rfl
 have ldO:mF false 1 ([.cells p.cells,.front 0 0,.front 0 0,.cells (ins.map mQ),.cells ((outs.map mQ).set k (FZ 7 J)),FR L.length,.front 0 0,ZX J]:lT) (.ptr 4 k)=some (FZ 7 J):=by
  rw [q_]
  have hg4:oX ([.cells p.cells,.front 0 0,.front 0 0,.cells (ins.map mQ),.cells ((outs.map mQ).set k (FZ 7 J)),FR L.length,.front 0 0,ZX J]:lT) 4=some ((outs.map mQ).set k (FZ 7 J)):=rfl
  rw [hg4,ak6]
  exact af7 (by simpa using hko) _
 rw [show OQ ([.gone,.front 0 0,.front 0 0,.cells (ins.map mQ),.cells ((outs.map mQ).set k (FZ 7 J)),FR L.length,.front 0 0,ZX J,.front 1 1]++[.front 0 0]) (XS (tU [J])) [] =
   [.gone,.front 0 0,.front 0 0,.cells (ins.map mQ),.cells ((outs.map mQ).set k (FZ 7 J)),FR L.length,.front 0 0,ZX J,.front 1 1,.front 0 0,XS (tU [J])] from rfl] at g592
 simp only [as6,List.map_nil,ar8,ay5,av7,Nat.reduceAdd] at g592
 have row:=fun h=>ajI 7 J h
 have hil:∀l:List Int,(ints l).length=l.length:=fun l=>by simp [ints]
 simp only [Nat.reduceAdd] at g59
 simp only [Term.cells] at g58 g60
 clear hb3 hi4 hput hlen3 hTN hBG hB0 hT2 zx hoc hTF hcell hgd hck hc hJl hJ2 hLl hA eA hld hnew hJ hout hs
 rw [show HB p (ins.map mQ) (outs.map mQ)=[.cells p.cells,.front 0 0,.front 0 0,.cells (ins.map mQ),.cells (outs.map mQ)] from rfl]
 by_cases hsame:oT N=oT (rV ins[k])
 ·rw [if_pos hsame,if_pos hsame]
  rw [decide_eq_true hsame] at g62
  generalize HB p (ins.map mQ) ((outs.set k (true,J)).map mQ)=Hend at *
  unfold Fo
  simp -implicitDefEqProofs [-s4,-q_,hil,ld0,bx,g58,gl,g59,gf,ixo,stO,ldO,row,g592,g60,ldA,w1,gl1,ixi,ldI,g62,mK,tS,q0,q1,q2,q3,q4,w2]
 ·rw [if_neg hsame,if_neg hsame]
  rw [decide_eq_false hsame] at g62
  generalize HB p ((ins.set k (true,N)).map mQ) ((outs.set k (true,J)).map mQ)=Hend at *
  unfold Fo
  simp -implicitDefEqProofs [-s4,-q_,hil,ld0,bx,g58,gl,g59,gf,ixo,stO,ldO,row,g592,g60,ldA,w1,gl1,ixi,ldI,g62,gf2,stD,mK,tD,q0,q1,q2,q3,q4,w2]
end
end
section
open Go Hk Go.Proofs.Wd
def Wk (ins:List Cl) (k:Nat):List Wd:=rV (ins.getD k (false,[]))
theorem ajM {ins:List Cl}{k j:Nat}{w:List Wd}(hk:k<ins.length):Wk (ins.set k (true,w)) j=if k=j then w else Wk ins j:=by
 unfold Wk
 rw [ah6,ah6,List.getElem?_set]
 split
 ·rename_i h;subst h;simp [hk,rV]
 ·rfl
theorem ZS (l:List Op) (x:Term) (ws:List Wd) (u:Nat):pR (GP l (tO x ws)) u=true↔Ap l x (fun t=>0≤t∧pR ws t.toNat=true) (u:Int):=by
 induction l with
 | nil=>exact Tj x ws u
 | cons o r ih =>
  have e:GP (o::r) (tO x ws)=wJ o (GP r (tO x ws)):=rfl
  rw [e,Ti]
  show _↔ZH o (Ap r x _) (u:Int)
  unfold ZH
  refine or_congr Iff.rfl (and_congr ?_ Iff.rfl)
  rw [←ih]
  simp only [av8]
  exact⟨fun h=>h.2,fun h=>⟨by omega,h⟩⟩
theorem ZR (J:List Wd) (t:Nat):pR (tU [J]) t=pR J t:=by
 unfold tU;rw [FW];simp [pR]
theorem Qj (ins:List Cl) (b:mU) (t:Nat):pR (Bi ins b) t=true↔∃j∈qZ b.term,pR (Wk ins j.toNat) t=true:=by
 unfold Bi tU
 rw [FW]
 have:pR [] t=false:=by simp [pR]
 rw [this,Bool.false_or,List.any_eq_true]
 constructor
 ·rintro⟨s,hs,ht⟩
  obtain⟨j,hj,rfl⟩:=au6.1 hs
  exact⟨j,hj,ht⟩
 ·rintro⟨j,hj,ht⟩
  exact⟨_,au6.2 ⟨j,hj,rfl⟩,ht⟩
def SB (ins:List Cl) (x:Term):Int→Prop:=fun t=>∃j∈qZ x,0≤t∧pR (Wk ins j.toNat) t.toNat=true
theorem Qe {l:List Op}{x:Term}{S T:Int→Prop}{t:Int}(h:S t↔T t):Ap l x S t↔Ap l x T t:=by
 rw [sF,sF,h]
theorem B8 (ins:List Cl) (b:mU) (u:Nat):pR (xE ins b) u=true↔B5 b (SB ins b.term) (u:Int):=by
 unfold xE aj7 B5
 rw [ZS]
 refine Qe ?_
 simp only [av8,ZR,Qj,SB]
 constructor
 ·rintro⟨h0,j,hj,ht⟩;exact⟨j,hj,h0,ht⟩
 ·rintro⟨j,hj,h0,ht⟩;exact⟨h0,j,hj,ht⟩
theorem Xd {l:List Op}{x:Term}{t:Int}(h:tT l x t=1):(∃o∈l,t∈pK o)∨(x.kind=2∧x.a=t):=by
 induction l with
 | nil =>
  simp only [tT] at h
  split at h
  ·rename_i h1;exact .inr h1
  ·cases h
 | cons o r ih =>
  simp only [tT] at h
  split at h
  ·rename_i h1;exact .inl ⟨o,by simp,h1⟩
  ·split at h
   ·cases h
   ·rcases ih h with ⟨o',h1,h2⟩ | h1
    ·exact .inl ⟨o',by simp [h1],h2⟩
    ·exact .inr h1
section
variable {p:IR}(hp:A_ p)
include hp
theorem Ix {b:mU}(hb:b∈p.blocks) {t:Int}(h:tT b.ops b.term t=1):0≤t∧t<p.temps:=by
 rcases Xd h with ⟨o,ho,ht⟩ | ⟨h1,h2⟩
 ·exact hp.use b hb o ho t ht
 ·have:=hp.term b hb h1;omega
theorem Gw {t:Int}{k:Nat}(h:Reach p.blocks t k):0≤t∧t<p.temps:=by
 induction h with
 | here hb hf=>exact Ix hp (aj8 hb) hf
 | step hb hf hj hr ih=>exact ih
structure SI (p:IR) (ins:List Cl):Prop where
 len:ins.length=p.blocks.length
 sz:∀c∈ins,(rV c).length≤20000
 sound:∀(k t:Nat),pR (Wk ins k) t=true→Reach p.blocks (t:Int) k
 pre:∀(k:Nat) (b:mU),p.blocks[k]?=some b→∀t:Nat,pR (Wk ins k) t=true→B5 b (SB ins b.term) (t:Int)
omit hp in
theorem agU {ins:List Cl}(hs:∀c∈ins,(rV c).length≤20000) (k:Nat):(Wk ins k).length≤20000:=by
 unfold Wk
 rw [ah6]
 cases hq:ins[k]? with
 | none=>simp [rV]
 | some c=>exact hs c (aj8 hq)
theorem YP {ins:List Cl}(hs:∀c∈ins,(rV c).length≤20000) {b:mU}(hb:b∈p.blocks):(xE ins b).length≤20000:=by
 have hJ:(Bi ins b).length≤20000:=z6 20000 _ [] (by simp) fun s hs'=>by
  obtain⟨j,_,rfl⟩:=au6.1 hs'
  exact agU hs j.toNat
 have hJ2:(tU [Bi ins b]).length≤20000:=z6 20000 _ [] (by simp) fun s hs'=>by simp at hs';subst hs';exact hJ
 have hR:(tO b.term (tU [Bi ins b])).length≤20000:=VD (fun h=>by have:=hp.term b hb h;have:=hp.temps;omega) hJ2
 have key:∀(l:List Op),(∀o∈l,o∈b.ops)→(GP l (tO b.term (tU [Bi ins b]))).length≤20000:=by
  intro l
  induction l with
  | nil=>exact fun _=>hR
  | cons o r ih =>
   intro hl
   exact UF (fun t ht=>by have:=hp.use b hb o (hl o (by simp)) t ht;have:=hp.temps;omega) (ih fun x hx=>hl x (by simp [hx]))
 exact key b.ops fun o h=>h
end
def wW (ins:List Cl):Nat:=(ins.map fun c=>(oT (rV c)).length).sum
theorem Lc:∀(ins:List Cl) (k:Nat) (c:Cl),k<ins.length→wW (ins.set k c)+(oT (Wk ins k)).length=wW ins+(oT (rV c)).length
 | [],k,c,h=>by simp at h
 | x::r,0,c,_=>by
  simp only [wW,List.set_cons_zero,as6,List.sum_cons]
  have:Wk (x::r) 0=rV x:=rfl
  rw [this];omega
 | x::r,k+1,c,h=>by
  have ih:=Lc r k c (by simpa using h)
  simp only [wW,List.set_cons_succ,as6,List.sum_cons] at ih ⊢
  have:Wk (x::r) (k+1)=Wk r k:=rfl
  rw [this];omega
theorem U9 {ws:List Wd}(h:ws.length≤20000):(oT ws).length≤1280000:=by
 unfold oT
 exact ax9 (List.length_filter_le _ _) (by simp;omega)
theorem PM:∀(ins:List Cl),(∀c∈ins,(rV c).length≤20000)→wW ins≤ins.length*1280000
 | [],_=>by simp [wW]
 | x::r,h=>by
  have ih:=PM r fun c hc=>h c (by simp [hc])
  have:=U9 (h x (by simp))
  simp only [wW,as6,List.sum_cons,ar8] at ih ⊢
  omega
theorem Q0 {a b:List Wd}(h:∀t,pR a t=true→pR b t=true) (hne:oT a≠oT b):(oT a).length<(oT b).length:=by
 have ha:oT a=(ar9 (64*max a.length b.length)).filter (pR a):=BA fun t ht=>by have:=CF ht;omega
 have hb:oT b=(ar9 (64*max a.length b.length)).filter (pR b):=BA fun t ht=>by have:=CF ht;omega
 have hsub:(oT a).Sublist (oT b):=by
  have e:oT a=(oT b).filter (pR a):=by
   rw [ha,hb,List.filter_filter]
   apply List.filter_congr
   intro t _
   cases hx:pR a t
   ·simp
   ·simp [h t hx]
  rw [e];exact List.filter_sublist
 rcases Nat.lt_or_ge (oT a).length (oT b).length with h1 | h1
 ·exact h1
 ·exact absurd (hsub.eq_of_length (Nat.le_antisymm hsub.length_le h1)) hne
section
variable {p:IR}(hp:A_ p) (hl:∀b∈p.blocks,qZ b.term=uE b.term)
include hp hl
theorem SI.start:SI p (ak7 p.blocks.length (false,[])):=by
 have hW:∀k,Wk (ak7 p.blocks.length (false,[])) k=[]:=fun k=>by
  unfold Wk
  rw [ah6,List.getElem?_replicate]
  split <;> rfl
 refine⟨by simp,fun c hc=>by rw [(List.mem_replicate.1 hc).2];simp [rV],fun k t h=>?_,fun k b _ t h=>?_⟩ <;>
  (rw [hW] at h;simp [pR] at h)
theorem SI.Vu {ins:List Cl}(h:SI p ins) {k:Nat}{b:mU}(hb:p.blocks[k]?=some b) {t:Nat}(ht:pR (xE ins b) t=true):Reach p.blocks (t:Int) k:=by
 refine Q7 (W:=fun j u=>0≤u∧pR (Wk ins j) u.toNat=true) (fun j u hu=>?_) hb ?_
 ·have:=h.sound j u.toNat hu.2
  rwa [Int.toNat_of_nonneg hu.1] at this
 ·rw [B8] at ht
  unfold SB at ht
  rw [hl b (aj8 hb)] at ht
  exact ht
theorem SI.step {ins:List Cl}(h:SI p ins) {k:Nat}{b:mU}(hb:p.blocks[k]?=some b):SI p (ins.set k (true,xE ins b)):=by
 have hk:k<ins.length:=by rw [h.len];exact(ag0.1 hb).1
 have hW:=fun j=>ajM (ins:=ins) (j:=j) (w:=xE ins b) hk
 have mono:∀(j t:Nat),pR (Wk ins j) t=true→pR (Wk (ins.set k (true,xE ins b)) j) t=true:=fun j t ht=>by
  rw [hW]
  split
  ·rename_i e;subst e
   rw [B8];exact h.pre k b hb t ht
  ·exact ht
 have smono:∀(x:Term) (t:Int),SB ins x t→SB (ins.set k (true,xE ins b)) x t:=fun x t ⟨j,hj,h0,ht⟩=>⟨j,hj,h0,mono _ _ ht⟩
 refine⟨by simp [h.len],fun c hc=>?_,fun j t ht=>?_,fun j c hc t ht=>?_⟩
 ·rcases List.mem_or_eq_of_mem_set hc with h1 | h1
  ·exact h.sz c h1
  ·subst h1;exact YP hp h.sz (aj8 hb)
 ·rw [hW] at ht
  split at ht
  ·rename_i e;subst e;exact h.Vu hp hl hb ht
  ·exact h.sound j t ht
 ·rw [hW] at ht
  split at ht
  ·rename_i e;subst e
   rw [hb] at hc;cases hc
   rw [B8] at ht
   exact A1 (smono _) ht
  ·exact A1 (smono _) (h.pre j c hc t ht)
def Fin (p:IR) (ins outs:List Cl):Prop:=∀(k:Nat) (b:mU),p.blocks[k]?=some b→outs.getD k (false,[])=(true,Bi ins b)∧oT (xE ins b)=oT (Wk ins k)
theorem SI.complete {ins outs:List Cl}(h:SI p ins) (hf:Fin p ins outs) (k t:Nat):pR (Wk ins k) t=true↔Reach p.blocks (t:Int) k:=by
 refine⟨h.sound k t,fun hr=>?_⟩
 have:=Kl (W:=fun j u=>0≤u∧pR (Wk ins j) u.toNat=true) (bs:=p.blocks) (fun j b hb u hu=>?_) hr
 ·simpa using this.2
 ·have hr0:0≤u:=by
   unfold B5 at hu
   rw [sF] at hu
   rcases hu with h1 | ⟨_,j',_,h2⟩
   ·exact(Ix hp (aj8 hb) h1).1
   ·exact h2.1
  obtain⟨n,rfl⟩:=Int.eq_ofNat_of_zero_le hr0
  refine⟨hr0,?_⟩
  have h2:=(U8.1 (hf j b hb).2) n
  simp only [av8]
  rw [←h2,B8]
  unfold SB
  rw [hl b (aj8 hb)]
  exact hu
end
end
section
open Go Hk Go.Proofs.Wd
section
variable {p:IR}(hp:A_ p) (hl:∀b∈p.blocks,qZ b.term=uE b.term)
include hp hl
def lvS (p:IR) (bb:Bool):List lS:=[.ptr 0 0,T1,T2,.int .i64 0,.mslice 3 0 p.blocks.length 1,.mslice 4 0 p.blocks.length 1,.bool bb]
theorem Vj:∀(c:Nat) (ins outs:List Cl) (bb:Bool),c≤p.blocks.length→SI p ins→outs.length=p.blocks.length →
  ∃(ins' outs':List Cl) (bb':Bool),nL (Fo KK 5) (lvS p bb++[.int .i64 ((c:Int)-1)],HB p (ins.map mQ) (outs.map mQ))=some (.exit 2,lvS p bb'++[.int .i64 (-1)],HB p (ins'.map mQ) (outs'.map mQ)) ∧
   SI p ins'∧outs'.length=p.blocks.length∧(bb=true→bb'=true)∧wW ins≤wW ins'∧(bb=false→bb'=true→wW ins<wW ins') ∧
   (bb'=false→ins'=ins∧(∀(k:Nat),c≤k→outs'.getD k (false,[])=outs.getD k (false,[])) ∧
    ∀(k:Nat) (b:mU),k<c→p.blocks[k]?=some b→outs'.getD k (false,[])=(true,Bi ins b)∧oT (xE ins b)=oT (Wk ins k)):=by
 have q0:=fun h=>sP (m:=5) (h:=h) (by omega)
 have q1:=fun h=>sT1 (m:=5) (h:=h) (by omega)
 have q2:=fun h=>sT2 (m:=5) (h:=h) (by omega)
 have q3:=fun h=>sMI (m:=5) (h:=h) (n:=p.blocks.length) (by omega)
 have q4:=fun h=>sMO (m:=5) (h:=h) (n:=p.blocks.length) (by omega)
 intro c
 induction c with
 | zero =>
  intro ins outs bb _ hI ho
  have htr:o_ 5 (HB p (ins.map mQ) (outs.map mQ))=some (HB p (ins.map mQ) (outs.map mQ)):=rU (C6 (pT _) (pT _))
  refine⟨ins,outs,bb,uA ?_,hI,ho,id,ak5 _,(fun h1 h2=>absurd (h1.symm.trans h2) (by decide)),fun _=>⟨rfl,fun _ _=>rfl,fun k b hk=>by omega⟩⟩
  unfold Fo
  simp only [lvS]
  simp -implicitDefEqProofs [mK,htr,q0,q1,q2,q3,q4]
 | succ c ih =>
  intro ins outs bb hc hI ho
  have hcl:c<p.blocks.length:=by omega
  have hb:p.blocks[c]?=some p.blocks[c]:=ag8 hcl
  have hbm:=ax5 hcl
  generalize p.blocks[c]=b at *
  have hci:c<ins.length:=by rw [hI.len];exact hcl
  have hw:=YP hp hI.sz hbm
  have g:=Vn hp hI.len ho hI.sz (bb:=bb) hb hw
  have w0:((c+1:Nat):Int)-1=(c:Int):=by omega
  have hWk:rV (ins.getD c (false,[]))=Wk ins c:=rfl
  rw [hWk] at g
  rw [w0]
  by_cases hsame:oT (xE ins b)=oT (Wk ins c)
  ·rw [if_pos hsame,if_pos hsame] at g
   obtain⟨ins',outs',bb',g1,g2,g3,g4,g5,g6,g7⟩:=ih ins (outs.set c (true,Bi ins b)) bb (by omega) hI (by simp [ho])
   refine⟨ins',outs',bb',?_,g2,g3,g4,g5,g6,fun hb'=>?_⟩
   ·rw [←g1];exact Bb g
   ·obtain⟨k1,k2,k3⟩:=g7 hb'
    have hset:∀k,(outs.set c (true,Bi ins b)).getD k (false,[])=if c=k then(true,Bi ins b) else outs.getD k (false,[]):=fun k=>by
     rw [ah6,ah6,List.getElem?_set]
     split
     ·rename_i e;subst e;simp [show c<outs.length by omega]
     ·rfl
    refine⟨k1,fun k hk=>?_,fun k b' hk hb2=>?_⟩
    ·rw [k2 k (by omega),hset,if_neg (by omega)]
    ·by_cases hkc:k=c
     ·subst hkc
      rw [hb] at hb2;cases hb2
      rw [k2 k (ak5 _),hset,if_pos rfl]
      exact⟨rfl,hsame⟩
     ·exact k3 k b' (by omega) hb2
  ·rw [if_neg hsame,if_neg hsame] at g
   have hI2:=SI.step hp hl hI hb
   obtain⟨ins',outs',bb',g1,g2,g3,g4,g5,g6,g7⟩:=ih (ins.set c (true,xE ins b)) (outs.set c (true,Bi ins b)) true (by omega) hI2 (by simp [ho])
   have hgrow:wW ins<wW (ins.set c (true,xE ins b)):=by
    have h1:=Lc ins c (true,xE ins b) hci
    have h2:=Q0 (a:=Wk ins c) (b:=xE ins b) (fun t ht=>by rw [B8];exact hI.pre c b hb t ht) (fun e=>hsame e.symm)
    have h3:rV (true,xE ins b)=xE ins b:=rfl
    rw [h3] at h1;omega
   have hb':=g4 rfl
   refine⟨ins',outs',bb',?_,g2,g3,fun _=>hb',by omega,fun _ _=>by omega,fun h=>by rw [hb'] at h;cases h⟩
   rw [←g1];exact Bb g
theorem Vl (M:Nat) (hM:∀ins,SI p ins→wW ins≤M):∀(n:Nat) (ins outs:List Cl) (bb:Bool),2*(M-wW ins)+(bif bb then 1 else 0)<n→SI p ins→outs.length=p.blocks.length→(bb=false→Fin p ins outs) →
  ∃(ins' outs':List Cl),nL (Ni KK 5) (lvS p bb,HB p (ins.map mQ) (outs.map mQ))=some (.exit 0,lvS p false,HB p (ins'.map mQ) (outs'.map mQ))∧SI p ins'∧outs'.length=p.blocks.length∧Fin p ins' outs':=by
 have q0:=fun h=>sP (m:=5) (h:=h) (by omega)
 have q1:=fun h=>sT1 (m:=5) (h:=h) (by omega)
 have q2:=fun h=>sT2 (m:=5) (h:=h) (by omega)
 have q3:=fun h=>sMI (m:=5) (h:=h) (n:=p.blocks.length) (by omega)
 have q4:=fun h=>sMO (m:=5) (h:=h) (n:=p.blocks.length) (by omega)
 have hnb:=hp.nb
 intro n
 induction n with
 | zero=>intro ins outs bb h;omega
 | succ n ih =>
  intro ins outs bb hn hI ho hf
  have htr:∀i o:List Cl,o_ 5 (HB p (i.map mQ) (o.map mQ))=some (HB p (i.map mQ) (o.map mQ)):=fun i o=>rU (C6 (pT _) (pT _))
  have h5:∀i o:List Cl,(HB p (i.map mQ) (o.map mQ)).length=5:=fun _ _=>rfl
  cases bb with
  | false =>
   refine⟨ins,outs,uA ?_,hI,ho,hf rfl⟩
   unfold Ni
   simp only [lvS]
   simp -implicitDefEqProofs [mK,htr,q0,q1,q2,q3,q4]
  | true =>
   obtain⟨ins',outs',bb',g1,g2,g3,g4,g5,g6,g7⟩:=Vj hp hl p.blocks.length ins outs false (ak5 _) hI ho
   have hle:=hM ins' g2
   obtain⟨ins2,outs2,k1,k2,k3,k4⟩:=ih ins' outs' bb' (by
    cases bb' with
    | false=>simp only [cond_true,cond_false] at hn ⊢;omega
    | true=>have:=g6 rfl rfl;simp only [cond_true] at hn ⊢;omega) g2 g3 (fun hb=>by
     obtain⟨e1,_,e3⟩:=g7 hb
     intro k b hb'
     rw [e1]
     exact e3 k b (ag0.1 hb').1 hb')
   refine⟨ins2,outs2,?_,k2,k3,k4⟩
   rw [←k1]
   refine Bb ?_
   have ldA:∀i o:List Cl,mF false 1 (HB p (i.map mQ) (o.map mQ)) (.ptr 0 2)=some (.slice (p.blocks.map mU.cells) .no):=fun i o=>rfl
   have w1:IntKind.i64.wrap ((p.blocks.length:Int)-1)=(p.blocks.length:Int)-1:=by rw [wrap64] <;> omega
   simp only [lvS,ax4,av6] at g1 ⊢
   unfold Ni
   simp -implicitDefEqProofs [-q_,ldA,h5,w1,g1,mK,htr,q0,q1,q2,q3,q4]
end
end
noncomputable section
open Go Hk Go.Proofs.Wd
theorem uK {p:IR}(h:pB p=0):atA p∧ZU p∧p.blocks≠[]∧KF p.inn p.out 0 p.arrays=true∧∀b∈p.blocks,(∀o∈b.ops,YW p o=true)∧C1 (p:=p) b.term=true:=by
 unfold pB at h
 cases hl:pV p
 ·rw [hl,if_pos rfl] at h;exact absurd h (by decide)
 ·rw [hl,if_neg (by decide)] at h
  have l:=Bz.1 hl
  split at h
  ·rename_i hc
   obtain⟨c1,c2,c3,c4,c5,c6⟩:=hc
   simp only [nJ,aq1,decide_eq_true_eq] at c1 c2
   split at h
   ·rename_i h2
    simp only [aq1,aq5] at h2
    refine⟨l,⟨c5,l.t1,l.a1,l.b1,c1.1,c1.2,c2.1,c2.2⟩,c6,h2.1,fun b hb=>?_⟩
    have:=h2.2 b hb
    simp only [UQ,aq1,aq5] at this
    exact this
   ·exact absurd h (by decide)
  ·exact absurd h (by decide)
theorem Ae {p:IR}(h:pB p=0):A_ p∧∀b∈p.blocks,qZ b.term=uE b.term:=by
 obtain⟨l,lp,hne,_,hb⟩:=uK h
 have ht0:=lp.t0
 have ht1:=lp.t1
 have hu:∀b∈p.blocks,∀o∈b.ops,(∀t∈pK o,0≤t∧t<p.temps)∧o.dst≤2000000∧((oH o.kind).dst=true→0≤o.dst∧o.dst<p.temps):=by
  intro b hbm o ho
  have h1:=(hb b hbm).1 o ho
  unfold YW at h1
  simp only [aq1,aq5,decide_eq_true_eq,Bool.or_eq_true,Bool.not_eq_true',nJ] at h1
  obtain⟨_,_,h2,⟨h3,_⟩,h4,_⟩:=h1
  refine⟨fun t ht=>by have:=h2 t ht;omega,?_,fun hd=>?_⟩
  ·rcases h4 with h4 | h4
   ·rw [h4] at h3;simp at h3;omega
   ·omega
  ·rcases h4 with h4 | h4
   ·rw [hd] at h4;cases h4
   ·omega
 have hlead:∀b∈p.blocks,∀j∈qZ b.term,0≤j∧j.toNat<p.blocks.length:=by
  intro b hbm j hj
  have h1:=(hb b hbm).2
  unfold C1 at h1
  unfold qZ at hj
  by_cases k1:b.term.kind=1
  ·rw [if_pos k1] at h1 hj
   simp only [aq1,decide_eq_true_eq,nJ] at h1
   have:=List.mem_filter.1 hj
   simp at this
   omega
  ·rw [if_neg k1] at h1 hj
   by_cases k2:b.term.kind=2
   ·rw [if_pos k2] at h1 hj
    simp only [aq1,decide_eq_true_eq,nJ] at h1
    have:=List.mem_filter.1 hj
    simp at this
    omega
   ·rw [if_neg k2] at hj;simp at hj
 refine⟨⟨fun b hb o ho=>(hu b hb o ho).1,fun b hb o ho=>(hu b hb o ho).2.1,fun b hb o ho=>(hu b hb o ho).2.2,fun b hbm k2=>?_,hlead,ht1,by have:=lp.b1;omega,fun b hb=>by have:=Pj hb;have:=l.o1;omega⟩,fun b hbm=>Xv (hb b hbm).2⟩
 have h1:=(hb b hbm).2
 unfold C1 at h1
 rw [if_neg (by omega),if_pos k2] at h1
 simp only [aq1,decide_eq_true_eq,nJ] at h1
 omega
def slW (ws:List Wd):lS:=.slice (ints (zs (oT ws))) .no
def sY (l:List Cl) (i:Nat):List (List lS):=(ar9 i).map fun k=>[slW (Wk l k)]
theorem FE {l:List Cl}{i:Nat}:(sY l i).length=i:=by simp [sY]
theorem Jb {l:List Cl}{i:Nat}:sY l (i+1)=sY l i++[[slW (Wk l i)]]:=by simp [sY,List.range_succ]
section
variable {p:IR}(hp:A_ p) {ins outs:List Cl}(hi:ins.length=p.blocks.length) (ho:outs.length=p.blocks.length) (hsi:∀c∈ins,(rV c).length≤20000) (hso:∀c∈outs,(rV c).length≤20000)
include hp hi ho hsi hso
theorem Vm:∀(d i:Nat),p.blocks.length=i+d →
  nL (Nj KK 7) ([T1,T2,.int .i64 0,.mslice 3 0 p.blocks.length 1,.mslice 4 0 p.blocks.length 1,.slice (sY ins i) (.own 5),.slice (sY outs i) (.own 6),.int .i64 (p.blocks.length:Int),.int .i64 (i:Int)],HB p (ins.map mQ) (outs.map mQ)++[FR i,FR i]) =
   some (.exit 8,[T1,T2,.int .i64 0,.mslice 3 0 p.blocks.length 1,.mslice 4 0 p.blocks.length 1,.slice (sY ins p.blocks.length) (.own 5),.slice (sY outs p.blocks.length) (.own 6),.int .i64 (p.blocks.length:Int),.int .i64 (p.blocks.length:Int)],
    HB p (ins.map mQ) (outs.map mQ)++[FR p.blocks.length,FR p.blocks.length]):=by
 have q1:=fun h=>sT1 (m:=7) (h:=h) (by omega)
 have q2:=fun h=>sT2 (m:=7) (h:=h) (by omega)
 have q3:=fun h=>sMI (m:=7) (h:=h) (n:=p.blocks.length) (by omega)
 have q4:=fun h=>sMO (m:=7) (h:=h) (n:=p.blocks.length) (by omega)
 have q5:∀h rows,lS.qJ 7 h (.slice rows (.own 5))=.slice rows (.own 5):=fun h rows=>by simp
 have q6:∀h rows,lS.qJ 7 h (.slice rows (.own 6))=.slice rows (.own 6):=fun h rows=>by simp
 have hnb:=hp.nb
 have hT:∀n k:Nat,TH (HB p (ins.map mQ) (outs.map mQ)++[FR n,FR k]):=fun n k=>by
  have e:HB p (ins.map mQ) (outs.map mQ)++[FR n,FR k]=HB p (ins.map mQ) (outs.map mQ)++([FR n]++[FR k]):=rfl
  unfold TH;rw [e]
  exact qP (C6 (pT _) (pT _)) (qP A9 A9)
 have htr:∀n k C,o_ 7 (.cells p.cells::.front 0 0::.front 0 0::.cells (ins.map mQ)::.cells (outs.map mQ)::FR n::FR k::C)=some [.cells p.cells,.front 0 0,.front 0 0,.cells (ins.map mQ),.cells (outs.map mQ),FR n,FR k]:=fun n k C=>tJ (C:=C) (hT n k)
 intro d
 induction d with
 | zero =>
  intro i hd
  obtain rfl:p.blocks.length=i:=by omega
  refine uA ?_
  simp only [HB,ax4,av6]
  unfold Nj
  simp -implicitDefEqProofs [mK,htr,q1,q2,q3,q4,q5,q6]
 | succ d ih =>
  intro i hd
  have hil:i<p.blocks.length:=by omega
  have hil':(i:Int)<(p.blocks.length:Int):=by omega
  rw [←ih (i+1) (by omega)]
  refine Bb ?_
  have hci:ins[i]?=some ins[i]:=ag8 (by omega)
  have hco:outs[i]?=some outs[i]:=ag8 (by omega)
  have hWi:rV ins[i]=Wk ins i:=by unfold Wk;rw [ah6,hci];rfl
  have hWo:rV outs[i]=Wk outs i:=by unfold Wk;rw [ah6,hco];rfl
  have ixi:mI 1 (.mslice 3 0 p.blocks.length 1) (.int .i64 (i:Int))=some (.ptr 3 i):=by rw [sJ,if_pos ⟨hil,rfl⟩];simp
  have ixo:mI 1 (.mslice 4 0 p.blocks.length 1) (.int .i64 (i:Int))=some (.ptr 4 i):=by rw [sJ,if_pos ⟨hil,rfl⟩];simp
  have ldi:∀X Y Z W C,mF false 1 (X::Y::Z::.cells (ins.map mQ)::W::C) (.ptr 3 i)=some (mQ ins[i]):=fun X Y Z W C=>by
   rw [q_]
   have:oX (X::Y::Z::.cells (ins.map mQ)::W::C) 3=some (ins.map mQ):=rfl
   rw [this,ak6,ak4,hci];rfl
  have ldo:∀X Y Z W C,mF false 1 (X::Y::Z::W::.cells (outs.map mQ)::C) (.ptr 4 i)=some (mQ outs[i]):=fun X Y Z W C=>by
   rw [q_]
   have:oX (X::Y::Z::W::.cells (outs.map mQ)::C) 4=some (outs.map mQ):=rfl
   rw [this,ak6,ak4,hco];rfl
  have hTh:TH ([.cells p.cells,.front 0 0,.front 0 0,.cells (ins.map mQ),.gone,FR i,FR i]:lT):=by
   have e:([.cells p.cells,.front 0 0,.front 0 0,.cells (ins.map mQ),.gone,FR i,FR i]:lT)=[.cells p.cells,.front 0 0,.front 0 0,.cells (ins.map mQ),.gone]++([FR i]++[FR i]):=rfl
   unfold TH;rw [e]
   exact qP (sN Hv (pL (pL (sN (pT _) (Aw.2 rW))))) (qP A9 A9)
  have g1:=c85 hTh (Ih ins[i]) (hsi _ (ax5 _))
  rw [hWi] at g1
  have hT2:TH ([.cells p.cells,.front 0 0,.front 0 0,.cells (ins.map mQ),.cells (outs.map mQ),FR (i+1),FR i,.front 1 1]:lT):=by
   have e:([.cells p.cells,.front 0 0,.front 0 0,.cells (ins.map mQ),.cells (outs.map mQ),FR (i+1),FR i,.front 1 1]:lT)=HB p (ins.map mQ) (outs.map mQ)++([FR (i+1)]++([FR i]++[.front 1 1])):=rfl
   unfold TH;rw [e]
   exact qP (C6 (pT _) (pT _)) (qP A9 (qP A9 (pL rW)))
  have g2:=c85 hT2 (Ih outs[i]) (hso _ (ax5 _))
  rw [hWo] at g2
  have w1:IntKind.i64.wrap ((i:Int)+1)=((i+1:Nat):Int):=by rw [wrap64 (by omega) (by omega),ax3];rfl
  have row:∀(z:List Int) (h:lT),mD 1 1 [.slice [] .nil] [(0,.slice (ints z) .no)] h=some (.slice [[.slice (ints z) .no]] (.own h.length),h++[.front 1 1]):=fun z h=>rfl
  have a1:=fun t=>Qp (h:=[.cells p.cells,.front 0 0,.front 0 0,.cells (ins.map mQ),.gone]) (C:=[FR i,.front 1 1]) (rows:=sY ins i) (v:=.slice (ints (zs (oT (Wk ins i)))) .no) (by_:=24) (by omega) (by rw [FE];omega) (t:=t)
  have a2:=fun t=>Qp (h:=[.cells p.cells,.front 0 0,.front 0 0,.cells (ins.map mQ),.cells (outs.map mQ),FR (i+1)]) (C:=[.front 1 1,.front 1 1]) (rows:=sY outs i) (v:=.slice (ints (zs (oT (Wk outs i)))) .no) (by_:=24) (by omega) (by rw [FE];omega) (t:=t)
  have r1:sY ins i++[[.slice (ints (zs (oT (Wk ins i)))) .no]]=sY ins (i+1):=Jb.symm
  have r2:sY outs i++[[.slice (ints (zs (oT (Wk outs i)))) .no]]=sY outs (i+1):=Jb.symm
  simp only [FE,r1,r2,ar8,ay5,av7,Nat.reduceAdd,ax4,av6] at a1 a2
  simp only [HB,ax4,av6]
  generalize ((i+1:Nat):Int)=i1 at *
  generalize sY ins (i+1)=R1 at *
  generalize sY outs (i+1)=R2 at *
  generalize sY ins i=R3 at *
  generalize sY outs i=R4 at *
  generalize zs (oT (Wk ins i))=z1 at *
  generalize zs (oT (Wk outs i))=z2 at *
  generalize mQ ins[i]=c1 at *
  generalize mQ outs[i]=c2 at *
  unfold Nj
  simp -implicitDefEqProofs [-q_,hil',ixi,ixo,ldi,ldo,g1,g2,row,a1,a2,w1,mK,htr,q1,q2,q3,q4,q5,q6]
end
open Classical in
def wN (p:IR) (k:Nat):List Int:=zs ((ar9 p.temps.toNat).filter fun t=>decide (Reach p.blocks (t:Int) k))
open Classical in
def sE (p:IR) (k:Nat):List Int:=zs ((ar9 p.temps.toNat).filter fun t=>decide (∃b,p.blocks[k]?=some b∧EX p.blocks (t:Int) b.term))
def Aa (p:IR):List (List Int):=if pB p=0 then(ar9 p.blocks.length).map (wN p) else []
def Ab (p:IR):List (List Int):=if pB p=0 then(ar9 p.blocks.length).map (sE p) else []
def Fk (l:List (List Int)):lS:=.slice (l.map fun z=>[.slice (ints z) .no]) .no
theorem Gl {ws:List Wd}{n:Nat}{P:Nat→Prop} [DecidablePred P] (h:∀t,pR ws t=true↔P t) (hn:∀t,P t→t<n):oT ws=(ar9 n).filter fun t=>decide (P t):=by
 rw [BA fun t ht=>hn t ((h t).1 ht)]
 apply List.filter_congr
 intro t _
 cases hx:pR ws t
 ·have:¬P t:=fun hp=>by rw [(h t).2 hp] at hx;cases hx
  simp [this]
 ·simp [(h t).1 hx]
theorem c71 (p:IR) (h:lT):KK 71 [.agg p.cells] h=some (.ret (.tuple [Fk (Aa p),Fk (Ab p),.int .i64 (pB p)]),h):=by
 classical
 refine nN rfl rfl (oN (anZ _ _ _) ?_)
 have g30:=c9 p
 by_cases h0:pB p=0
 ·obtain⟨hp,hl⟩:=Ae h0
  obtain⟨_,lp,_⟩:=uK h0
  have hM:∀ins,SI p ins→wW ins≤p.blocks.length*1280000:=fun ins hI=>by have:=PM ins hI.sz;rwa [hI.len] at this
  obtain⟨ins,outs,g1,g2,g3,g4⟩:=Vl hp hl _ hM _ (ak7 p.blocks.length (false,[])) (ak7 p.blocks.length (false,[])) true (Nat.lt_succ_self _) (SI.start hp hl) (by simp) (fun h=>by cases h)
  have hso:∀c∈outs,(rV c).length≤20000:=fun c hc=>by
   obtain⟨k,hk⟩:=List.getElem?_of_mem hc
   have hkl:k<p.blocks.length:=by rw [←g3];exact(ag0.1 hk).1
   have:=(g4 k _ (ag8 hkl)).1
   rw [ah6,hk] at this
   simp at this
   rw [this]
   exact z6 20000 _ [] (by simp) fun s hs'=>by
    obtain⟨j,_,rfl⟩:=au6.1 hs'
    exact agU g2.sz j.toNat
  have g5:=Vm hp g2.len g3 g2.sz hso p.blocks.length 0 (by omega)
  have e1:sY ins p.blocks.length=(Aa p).map fun z=>[.slice (ints z) .no]:=by
   unfold sY Aa
   rw [if_pos h0,List.map_map]
   apply List.map_congr_left
   intro k hk
   simp only [Function.comp,slW,wN]
   rw [Gl (n:=p.temps.toNat) (P:=fun t:Nat=>Reach p.blocks (t:Int) k) (fun t=>SI.complete hp hl g2 g4 k t) (fun t ht=>by have:=(Gw hp ht).2;omega)]
  have e2:sY outs p.blocks.length=(Ab p).map fun z=>[.slice (ints z) .no]:=by
   unfold sY Ab
   rw [if_pos h0,List.map_map]
   apply List.map_congr_left
   intro k hk
   have hkl:=List.mem_range.1 hk
   have hb:p.blocks[k]?=some p.blocks[k]:=ag8 hkl
   have hbm:=ax5 hkl
   have hw:Wk outs k=Bi ins p.blocks[k]:=by unfold Wk;rw [(g4 k _ hb).1];rfl
   simp only [Function.comp,slW,sE]
   rw [hw,Gl (n:=p.temps.toNat) (P:=fun t:Nat=>∃b,p.blocks[k]?=some b∧EX p.blocks (t:Int) b.term) (fun t=>?_) (fun t ht=>?_)]
   ·rw [Qj]
    constructor
    ·rintro⟨j,hj,ht⟩
     rw [hl _ hbm] at hj
     exact⟨_,hb,j,hj,(SI.complete hp hl g2 g4 _ _).1 ht⟩
    ·rintro⟨b,hb',j,hj,hr⟩
     rw [hb] at hb';cases hb'
     rw [←hl _ hbm] at hj
     exact⟨j,hj,(SI.complete hp hl g2 g4 _ _).2 hr⟩
   ·obtain⟨b,_,j,_,hr⟩:=ht
    have:=(Gw hp hr).2;omega
  rw [e1,e2] at g5
  have e0:∀l:List Cl,sY l 0=[]:=fun l=>rfl
  have eF:FR 0=.front 0 0:=rfl
  have er:(ak7 p.blocks.length (false,[])).map mQ=ak7 p.blocks.length (.slice [] .nil):=by rw [List.map_replicate];rfl
  simp only [e0,eF,aw6] at g5
  rw [er] at g1
  have mk:∀(h:lT),rB 1 24 [.slice [] .nil] (.int .i64 (p.blocks.length:Int)) h=some (.mslice h.length 0 p.blocks.length 1,h++[.cells (ak7 p.blocks.length (.slice [] .nil))]):=fun h=>by
   have hnb:=hp.nb
   simp only [rB]
   rw [if_pos ⟨by omega,by simp;omega,by omega⟩]
   simp
  rw [h0] at g30 ⊢
  have st:∀(r1 r2:List (List lS)) (h:lT),lS.l_ (lS.qJ 0 h (.tuple [.slice r1 (.own 5),.slice r2 (.own 6),.int .i64 0]))=.tuple [.slice r1 .no,.slice r2 .no,.int .i64 0]:=fun _ _ _=>rfl
  unfold Fk
  generalize (Aa p).map (fun z=>[lS.slice (ints z) .no])=R1 at *
  generalize (Ab p).map (fun z=>[lS.slice (ints z) .no])=R2 at *
  generalize ins.map mQ=ci at *
  generalize outs.map mQ=co at *
  simp only [lvS,HB,T1,T2,ax4,av6,IR.cells] at g1 g5 g30 ⊢
  generalize ak7 p.blocks.length (lS.slice [] .nil)=c0 at *
  simp -implicitDefEqProofs [m71,g30,mk,g1,g5,nZ,st]
 ·have e1:Aa p=[]:=if_neg h0
  have e2:Ab p=[]:=if_neg h0
  rw [e1,e2]
  generalize pB p=e at *
  have st:∀(h:lT),lS.l_ (lS.qJ 0 h (.tuple [.slice [] (.own 3),.slice [] (.own 4),.int .i64 e]))=.tuple [.slice [] .no,.slice [] .no,.int .i64 e]:=fun _=>rfl
  simp only [IR.cells] at g30 ⊢
  simp -implicitDefEqProofs [m71,g30,h0,nZ,st,Fk]
end
section
open Go Hk Go.Proofs.Wd
section
variable {A B C:List mT}{ws:List Int}{id m i:Nat}{h:lT}{k:IntKind}
end
end
end Go.Proofs.YtgllbnabmglcfaaGreatDoor
