/-
  The texts LG.M, LG.A, LG.B, LG.C, LG.D, LG.E, LG.F, LG.G, LG.H, LG.I, LG.J, LG.K, LG.N, LG.O, LG.P, LG.Q, LG.R, LG.S, LG.U, LG.V, one behind another. No conditions.
-/
import Derived.Test.YtlddmnojanpdoaaGreatDoorProg
import Derived.Test.YtlddmnojanpdoaaGreatDoorPVk3
import Derived.KernelRfl
set_option linter.unusedVariables false
set_option linter.unusedSimpArgs false
set_option linter.all false
open Int renaming cast_ofNat_Int → ac7, natCast_add → ag1
open List renaming cons_append → af2, drop_eq_getElem_cons → af5, getElem?_eq_getElem → ac0, getElem?_eq_some_iff → ab1, length → aa0, length_cons → ac8, length_drop → al3, length_map → al0, length_nil → ad0, map_nil → al1, nil_append → ah4, takeWhile_cons → ak2
open Nat renaming le_refl → ac5, mul_le_mul_right → aj0, zero_add → al6, zero_le → ah9
open Option renaming bind_some → af4
open Option.some renaming injEq → ab0
open Prod.mk renaming injEq → af8
namespace Go.Proofs.YtlddmnojanpdoaaGreatDoor
noncomputable section
open Go Hk
def Wk:List Int:=[0,0,0,0,0,0,0,0,0,1,1,1,1,1,0,0,0,0,0,0,0,0,0,0,0,0,0,0,0,0,0,0,1,0,0,0,0,0,0,0,0,0,0,0,0,0,0,0,0,0,0,0,0,0,0,0,0,0,0,0,0,0,0,0,0,0,0,0,0,0,0,0,0,0,0,0,0,0,0,0,0,0,0,0,0,0,0,0,0,0,0,0,0,0,0,0,0,0,0,0,0,0,0,0,0,0,0,0,0,0,0,0,0,0,0,0,0,0,0,0,0,0,0,0,0,0,0,0,0,0,0,0,0,0,0,0,0,0,0,0,0,0,0,0,0,0,0,0,0,0,0,0,0,0,0,0,0,0,0,0,0,0,0,0,0,0,0,0,0,0,0,0,0,0,0,0,0,0,0,0,0,0,0,0,0,0,0,0,0,0,0,0,0,0,0,0,0,0,0,0,0,0,0,0,0,0,0,0,0,0,0,0,0,0,0,0,0,0,0,0,0,0,0,0,0,0,0,0,0,0,0,0,0,0,0,0,0,0,0,0,0,0,0,0,0,0,0,0,0,0,0,0,0,0,0,0]
def MZ:List kM:=Wk.map (.int .u8)
def ac4:List Int:=[1,10,100,1000,10000,100000,1000000,10000000,100000000,1000000000,10000000000,100000000000,1000000000000,10000000000000,100000000000000,1000000000000000,10000000000000000,100000000000000000,1000000000000000000,10000000000000000000]
def ao9:List kM:=ac4.map (.int .u64)
def aBN:List Nat:=[52,102,103,104,105,106,108,109,110,151,152,153,154,155,180,181,182,183,205,207,208,220,222,223,227,228,92,93,131,132,133,164,165,167,168,169,170,195,197]
def apJ:List Nat:=[51,52,102,103,104,105,106,107,108,109,110,150,151,152,153,154,155,180,181,182,183,205,206,207,208,220,222,223,227,228,29,57,58,59,60,61,62,63,64,118,119,120,121,122,157,158,159,184,186,209,50,100,101,147,98,32,33,37,68,69,70,71,83,84,85,86,87,88,124,125,126,129,72,161,92,93,131,132,133,164,165,167,168,169,170,195,197,91,134,135,171]
def aFV:List Nat:=[49,28,90,98,99,100,101,55,56,142,143,144,145,146,147,148,149,112,113,114,115,116,117,176,177,178,179,204,25,205,51,102,103,104,105,106,107,108,109,110,150,151,152,153,154,155,180,181,182,183,206,207,208,220,221,222,223,227,228,52,12,26,53,111,156,29,57,58,59,60,61,62,63,64,118,119,120,121,122,157,158,159,184,185,186,209,50]
def tbs:List Nat:=[32,33,37,68,69,70,71,83,84,85,86,87,88,124,125,126,129,14,17]
def mJ:CF:={ kp:=fun f=>f == 92,lkp:=fun f=>f == 45,ck:=fun f=>f == 92,vecT:=fun f t=>f == 13 && t == 42,frz:=fun f=>f == 13,tb:=fun f=>tbs.contains f,tbt:=fun t=>t == 86,bld:=fun t o n=>t == 86 && o == 0 && n == 5,prm:=fun f=>if f=161 then some (.copyCheck) else if f=72 then some (.bldString 5) else if f=89 then some (.fn UD) else if f=162 then some (.fn aj4) else none,glob:=fun g=>if g=0 then some MZ else if g=2 then some ao9 else none,gsz:=fun g=>if g=2 then some 20 else none,esc:=fun f=>f == 98 || f == 208 || f == 186 || f == 92,grow:=fun f=>f == 157 || f == 159,dfr:=fun f=>f == 25 || f == 45,pure:=fun f=>!(apJ.contains f),pan:=fun f=>aBN.contains f,vmk:=fun f=>!(aFV.contains f),jt:=fun f=>!(aFV.contains f),ext:=fun f=>if f=203 then some .indexByte else none }
def Jj (K:lB) (m:Nat) (s:St):Option R :=
 B9 s fun aB aE aC aA aH=>qX K 100 aA aH fun bC aF=>(kZ aA).bind fun aN=>fq 1 aN aF fun aO=>(nQ aB).bind fun aP=>aq .eql aO aP ((kZ aA).bind fun aQ=>fq 4 aQ aF fun aR=>(nQ aB).bind fun aS=>(lS [(iq 0),(iq 0),(iq 0),(.str [])] [(0,1),(1,1),(2,1),(3,1)] [(0,(iq 0)),(1,aS)]).bind fun aT=>kQ (kW 1 4 [(iq 0),(iq 0),(iq 0),(.str [])] [(0,aT)] aF) fun aU aI=>kQ (mG 4 40 aI aR aU) fun aV aJ=>(lS [(iq 0),(iq 0)] [(0,1),(1,1)] []).bind fun aW=>(kR 2 aJ aC aW).bind fun aK=>kS m .ret [aB,aV,aC,aA] aK) (qX K 101 aA aF fun aX aD=>(vT .not aX).bind fun aY=>lF aY ((kZ aA).bind fun aZ=>(kO 1 aZ).bind fun aG=>(kT false 1 aD aG).bind fun a_=>(lS [(iq 0),(iq 0)] [(0,1),(1,1)] [(0,(iq 9)),(1,a_)]).bind fun bA=>(fun(bB:kM) (aL:kP)=>(kR 2 (lP (kY [0] [aG]) aD aL) aC bA).bind fun aM=>kS m .ret [aB,bB,aC,aA] aM) (.slice [] (.own (aa0 (nL (kY [0] [aG]) aD)))) ((nL (kY [0] [aG]) aD)++[.front 0 0])) (kS m .normal [aB,aE,aC,aA] aD))
def m49 (K:lB) (a0:kM) (h0:kP):OH :=
 ((fun(t1:kM) (h0:kP)=>kQ (lK 2 h0 (.agg [(iq 0),(iq 0)])) fun t2 h3=>(nQ a0).bind fun t4=>aq .gtr t4 (iq 65536) ((lS [(iq 0),(iq 0)] [(0,1),(1,1)] [(0,(iq 5))]).bind fun t6=>(fun(t8:kM) (h7:kP)=>(kR 2 h7 t2 t6).bind fun h9=>some (.ret,[t8,t2],h9)) (.slice [] (.own (aa0 h3))) (h3++[.front 0 0])) (kq0 K 98 h3 fun aP aN=>kq0 K 99 aN fun aQ aO=>(lS [(.str []),(iq 0),.nilmap,(.slice [] .nil),(.slice [] .nil)] [(0,1),(1,1),(2,1),(3,1),(4,1)] [(0,a0),(2,aP),(3,aQ)]).bind fun aR=>kQ (lK 5 aO aR) fun aS aE=>(mI (Jj K (aa0 aE)) ([a0,t1,t2,aS],aE)).bind fun aH=>B9 aH.2 fun aJ aA aB aK aF=>Ex.lV aH.1 none (fun aL=>Ex.inBlock 0 aL (some (.normal,[aA,aB],aF)) (fun aM=>some (aM,[aA,aB],aF))))) (.slice [] (.own (aa0 h0))) (h0++[.front 0 0])).bind fun aI=>wN aI.2 fun aC aD aG=>Ex.nA aI.1 ((kT true 2 aG aD).bind fun aT=>lY (aa0 h0) (.tuple [aC,aT]) aG)
theorem aA4 K a0 h0:o6 Tryz.prog mJ mI K 49 [a0] h0=m49 (lT mJ K) a0 h0:=by kernel_rfl
def GN (K:lB) (m:Nat) (s:St):Option R :=
 EB s fun aA aE aC aD aB aG=>(nQ aA).bind fun aR=>aq .lss aB aR (o_ K 56 aA aB aG fun aH aK=>(lH 0 aH).bind fun aS=>(lH 1 aH).bind fun aI=>kQ (lK 4 aK (.agg [(iq 0),(iq 0),(iq 0),(.str [])])) fun aJ aL=>(kR 4 aL aJ aS).bind fun aF=>aq .eql aI (iq 0) ((lS [(iq 0),(iq 0)] [(0,1),(1,1)] [(0,(iq 9)),(1,aB)]).bind fun aT=>(fun(aU:kM) (aM:kP)=>(kR 2 aM aC aT).bind fun aN=>kS m .ret [aA,aU,aC,aD,aB] aN) (.slice [] (.own (aa0 aF))) (aF++[.front 0 0])) ((kT true 4 aF aJ).bind fun aV=>kQ (kW 1 4 [(iq 0),(iq 0),(iq 0),(.str [])] [(0,aV)] aF) fun aW aO=>kQ (mG 4 40 aO aD aW) fun aX aP=>(kV .add aB aI).bind fun aY=>o_ K 55 aA aY aP fun aZ aQ=>kS m .normal [aA,aE,aC,aX,aZ] aQ)) (kS m (.exit 0) [aA,aE,aC,aD,aB] aG)
def m28 (K:lB) (a0:kM) (h0:kP):OH :=
 ((fun(t1:kM) (h0:kP)=>kQ (lK 2 h0 (.agg [(iq 0),(iq 0)])) fun t2 h3=>(nQ a0).bind fun t4=>aq .gtr t4 (iq 65536) ((lS [(iq 0),(iq 0)] [(0,1),(1,1)] [(0,(iq 5)),(1,(iq 0))]).bind fun t6=>(fun(t8:kM) (h7:kP)=>(kR 2 h7 t2 t6).bind fun h9=>some (.ret,[t8,t2],h9)) (.slice [] (.own (aa0 h3))) (h3++[.front 0 0])) ((fun(aS:kM) (aO:kP)=>o_ K 55 a0 (iq 0) aO fun aT aG=>(mI (GN K (aa0 aG)) ([a0,t1,t2,aS,aT],aG)).bind fun aJ=>EB aJ.2 fun aB aC aA aF aL aH=>Ex.lV aJ.1 none (fun aM=>Ex.inBlock 0 aM ((nQ aB).bind fun aU=>(lS [(iq 0),(iq 0),(iq 0),(.str [])] [(0,1),(1,1),(2,1),(3,1)] [(1,aU)]).bind fun aV=>kQ (kW 1 4 [(iq 0),(iq 0),(iq 0),(.str [])] [(0,aV)] aH) fun aW aP=>kQ (mG 4 40 aP aF aW) fun aX aQ=>(lS [(iq 0),(iq 0)] [(0,1),(1,1)] []).bind fun aY=>(kR 2 aQ aA aY).bind fun aR=>some (.ret,[aX,aA],aR)) (fun aN=>some (aN,[aC,aA],aH)))) (.slice [] (.own (aa0 h3))) (h3++[.front 0 0]))) (.slice [] (.own (aa0 h0))) (h0++[.front 0 0])).bind fun aK=>wN aK.2 fun aD aE aI=>Ex.nA aK.1 ((kT true 2 aI aE).bind fun aZ=>lY (aa0 h0) (.tuple [aD,aZ]) aI)
theorem aAP K a0 h0:o6 Tryz.prog mJ mI K 28 [a0] h0=m28 (lT mJ K) a0 h0:=by kernel_rfl
def BX (K:lB) (m:Nat) (s:St):Option R :=
 sM s fun aA h1=>(kZ aA).bind fun t2=>fq 1 t2 h1 fun t4=>(kZ aA).bind fun t5=>fq 0 t5 h1 fun t7=>(nQ t7).bind fun t8=>aq .lss t4 t8 ((((kZ aA).bind fun aX=>fq 0 aX h1 fun aY=>(kZ aA).bind fun aZ=>fq 1 aZ h1 fun a_=>(m_ aY a_).bind fun bA=>qX K 143 bA h1 fun bB aF=>(lF bB ((kZ aA).bind fun bC=>fq 1 bC aF fun bD=>(kV .add bD (iq 1)).bind fun bE=>(kZ aA).bind fun bF=>(kO 1 bF).bind fun bG=>(kR 1 aF bG bE).bind fun aV=>some (.normal,[aA],aV)) ((kZ aA).bind fun bH=>fq 0 bH aF fun bI=>(kZ aA).bind fun bJ=>fq 1 bJ aF fun bK=>(oK bI (some bK) none).bind fun bL=>o_ K 144 bL (.str [47,47]) aF fun bM aH=>lF bM ((kZ aA).bind fun bN=>fq 0 bN aH fun bO=>(kZ aA).bind fun bP=>fq 1 bP aH fun bQ=>(oK bO (some bQ) none).bind fun bR=>o_ K 145 bR (.int .u8 10) aH fun aR aI=>(kV .lss aR (iq 0)).bind fun bS=>(lF bS ((kZ aA).bind fun bT=>fq 0 bT aI fun bU=>(nQ bU).bind fun bV=>(kZ aA).bind fun bW=>fq 1 bW aI fun bX=>(kV .sub bV bX).bind fun bY=>some (.normal,[aA,bY],aI)) (some (.normal,[aA,aR],aI))).bind fun aN=>wN aN.2 fun aB aG aJ=>Ex.uC aN.1 ((kZ aB).bind fun bZ=>fq 1 bZ aJ fun b8=>(kV .add b8 aG).bind fun b9=>(kZ aB).bind fun b_=>(kO 1 b_).bind fun cA=>(kR 1 aJ cA b9).bind fun aW=>some (.normal,[aB],aW))) (some (.ret,[aA],aH)))).bind fun aO=>sM aO.2 fun aC aK=>Ex.lV aO.1 (some (.normal,[aC],aK)) (fun aS=>some (aS,[aC],aK))).bind fun aP=>sM aP.2 fun aD aL=>Ex.inBlock 2 aP.1 (some (.normal,[aD],aL)) (fun aT=>some (aT,[aD],aL))).bind fun aQ=>sM aQ.2 fun aE aM=>Ex.inBlock 1 aQ.1 (kS m .normal [aE] aM) (fun aU=>kS m aU [aE] aM)) (kS m (.exit 0) [aA] h1)
def aFa (K:lB) (a0:kM) (h0:kP):OH :=
 ((mI (BX K (aa0 h0)) ([a0],h0)).bind fun aB=>sM aB.2 fun aD aA=>Ex.lV aB.1 none (fun aE=>Ex.inBlock 0 aE (some (.normal,([]:List kM),aA)) (fun aF=>some (aF,([]:List kM),aA)))).bind fun aC=>(fun aG=>Ex.nA aC.1 (lY (aa0 h0) (.tuple []) aG))  aC.2.2
theorem ap4 K a0 h0:o6 Tryz.prog mJ mI K 100 [a0] h0=aFa (lT mJ K) a0 h0:=by kernel_rfl
def FF (K:lB) (m:Nat) (s:St):Option R :=
 BE s fun aD aF aE aB aC aA aG=>aq .lss aA aC ((kX 1 aB aA).bind fun aK=>(kT false 1 aG aK).bind fun aI=>(kZ aD).bind fun aL=>fq 0 aL aG fun aM=>(kZ aD).bind fun aN=>fq 1 aN aG fun aO=>(oK aM (some aO) none).bind fun aP=>o_ K 144 aP aI aG fun aQ aH=>lF aQ ((kO 3 aE).bind fun aR=>(kR 1 aH aR aI).bind fun aJ=>kS m (.exit 1) [aD,aF,aE,aB,aC,aA] aJ) ((kV .add aA (iq 1)).bind fun aS=>kS m .normal [aD,aF,aE,aB,aC,aS] aH)) (kS m (.exit 1) [aD,aF,aE,aB,aC,aA] aG)
def Sa (K:lB) (a0:kM) (h0:kP):OH :=
 ((kZ a0).bind fun t0=>fq 1 t0 h0 fun t2=>(lS [(iq 0),(iq 0),(iq 0),(.str [])] [(0,1),(1,1),(2,1),(3,1)] [(1,t2)]).bind fun t3=>kQ (lK 4 h0 (.agg [(iq 0),(iq 0),(iq 0),(.str [])])) fun t4 h5=>(kR 4 h5 t4 t3).bind fun h6=>(kZ a0).bind fun t7=>fq 0 t7 h6 fun t9=>(kZ a0).bind fun cT=>fq 1 cT h6 fun cU=>(m_ t9 cU).bind fun cG=>(qX K 146 cG h6 fun cV cA=>(lF cV (qX K 147 a0 cA fun cW cM=>(kO 3 t4).bind fun cX=>(kR 1 cM cX cW).bind fun cN=>(kO 0 t4).bind fun cY=>(kR 1 cN cY (iq 1)).bind fun aU=>(kZ a0).bind fun cZ=>fq 2 cZ aU fun c6=>fq 3 t4 aU fun cH=>bif oL .string cH then(q7 (iq 0) true aU c6 cH).bind fun cI=>(lH 0 cI).bind fun d_=>(lH 1 cI).bind fun c7=>(lF c7 ((kO 0 t4).bind fun c_=>(kR 1 aU c_ (iq 3)).bind fun cO=>some (.normal,[a0,(.bool false),t4],cO)) (some (.normal,[a0,(.bool false),t4],aU))).bind fun cF=>(AE cF.2 fun aC a_ aD aV=>Ex.uC cF.1 (fq 3 aD aV fun dA=>(nQ dA).bind fun dB=>aq .gtr dB (iq 40) (some (.ret,[aC,(.bool false),aD],aV)) ((kZ aC).bind fun dC=>fq 1 dC aV fun dD=>fq 3 aD aV fun dE=>(nQ dE).bind fun dF=>(kV .add dD dF).bind fun dG=>(kZ aC).bind fun dH=>(kO 1 dH).bind fun dI=>(kR 1 aV dI dG).bind fun cP=>some (.normal,[aC,a_,aD],cP)))) else none) (qX K 148 cG cA fun dJ cB=>(lF dJ (qX K 147 a0 cB fun cJ cQ=>qX K 149 cJ cQ fun cK cD=>(lH 0 cK).bind fun dK=>(lH 1 cK).bind fun dL=>(vT .not dL).bind fun dM=>lF dM (some (.ret,[a0,(.bool false),t4],cD)) ((kO 0 t4).bind fun dN=>(kR 1 cD dN (iq 2)).bind fun cR=>(kO 2 t4).bind fun dO=>(kR 1 cR dO dK).bind fun cE=>(kZ a0).bind fun dP=>fq 1 dP cE fun dQ=>(nQ cJ).bind fun dR=>(kV .add dQ dR).bind fun dU=>(kZ a0).bind fun dV=>(kO 1 dV).bind fun dW=>(kR 1 cE dW dU).bind fun cS=>some (.normal,[a0,(.bool false),t4],cS))) ((kO 0 t4).bind fun dX=>(kR 1 cB dX (iq 4)).bind fun bN=>(kZ a0).bind fun dY=>fq 3 dY bN fun cL=>(mN cL).bind fun dZ=>(mI (FF K (aa0 bN)) ([a0,(.bool false),t4,cL,dZ,(iq 0)],bN)).bind fun aW=>BE aW.2 fun aA aJ aB bA bB bC aE=>Ex.lV aW.1 none (fun bD=>Ex.inBlock 1 bD (fq 3 aB aE fun bO=>aq .eql bO (.str []) (some (.ret,[aA,(.bool false),aB],aE)) ((kZ aA).bind fun bP=>fq 1 bP aE fun bQ=>fq 3 aB aE fun bR=>(nQ bR).bind fun bS=>(kV .add bQ bS).bind fun bT=>(kZ aA).bind fun bU=>(kO 1 bU).bind fun bV=>(kR 1 aE bV bT).bind fun bI=>some (.normal,[aA,aJ,aB],bI))) (fun bE=>some (bE,[aA,aJ,aB],aE))))).bind fun aX=>AE aX.2 fun aG aK aM aS=>Ex.lV aX.1 (some (.normal,[aG,aK,aM],aS)) (fun bF=>some (bF,[aG,aK,aM],aS)))).bind fun aY=>AE aY.2 fun aH aL aN aT=>Ex.lV aY.1 (some (.normal,[aH,aL,aN],aT)) (fun bG=>some (bG,[aH,aL,aN],aT))).bind fun aZ=>AE aZ.2 fun aI aP aR aF=>Ex.inBlock 0 aZ.1 ((kZ aI).bind fun bW=>(kO 4 bW).bind fun aO=>(kT false 1 aF aO).bind fun bX=>(kT true 4 aF aR).bind fun bY=>kQ (kW 1 4 [(iq 0),(iq 0),(iq 0),(.str [])] [(0,bY)] (nL (kY [0] [aO]) aF)) fun bZ bJ=>kQ (mG 4 40 (lP (kY [0] [aO]) aF bJ) bX bZ) fun b8 bK=>(kZ aI).bind fun b9=>(kO 4 b9).bind fun b_=>(kR 1 bK b_ b8).bind fun bL=>some (.ret,[(.bool true)],bL)) (fun bH=>some (bH,[aP],aF))).bind fun Xr=>sM Xr.2 fun aQ bM=>Ex.nA Xr.1 (lY (aa0 h0) aQ bM)
theorem ap5 K a0 h0:o6 Tryz.prog mJ mI K 101 [a0] h0=Sa (lT mJ K) a0 h0:=by kernel_rfl
def Jk (K:lB) (m:Nat) (s:St):Option R :=
 AE s fun aA aB aC aF=>(nQ aA).bind fun aJ=>(kV .lss aB aJ).bind fun aD=>lG true aD (some aA) aF fun aK aG=>lG true aD (some aB) aG fun aL aH=>lG true aD (m_ aK aL) aH fun aM aI=>lG true aD (kV .neq aM (.int .u8 10)) aI fun aN aE=>(lN aD aN (.bool false)).bind fun aO=>lF aO ((kV .add aB (iq 1)).bind fun aP=>kS m .normal [aA,aP,aC] aE) (kS m (.exit 2) [aA,aB,aC] aE)
def Dl (K:lB) (m:Nat) (s:St):Option R :=
 AE s fun aB aA aL h3=>(nQ aB).bind fun t4=>aq .lss aA t4 (((kV .add aA (iq 1)).bind fun t6=>(nQ aB).bind fun t7=>(kV .lss t6 t7).bind fun t8=>lG true t8 (some aB) h3 fun t9 aZ=>lG true t8 (some aA) aZ fun bG a_=>lG true t8 (m_ t9 bG) a_ fun bH bA=>lG true t8 (kV .eql bH (.int .u8 47)) bA fun bI bB=>(lN t8 bI (.bool false)).bind fun aM=>lG true aM (some aB) bB fun bJ bC=>lG true aM (some aA) bC fun bK bD=>lG true aM (kV .add bK (iq 1)) bD fun bL bE=>lG true aM (m_ bJ bL) bE fun bM bF=>lG true aM (kV .eql bM (.int .u8 47)) bF fun bN aN=>(lN aM bN (.bool false)).bind fun bO=>(lF bO ((mI (Jk K (aa0 aN)) ([aB,aA,aL],aN)).bind fun aS=>AE aS.2 fun aC aF aI aO=>Ex.lV aS.1 none (fun aV=>Ex.inBlock 2 aV (some (.normal,[aC,aF,aI],aO)) (fun aW=>some (aW,[aC,aF,aI],aO)))) ((m_ aB aA).bind fun bP=>qX K 112 bP aN fun bQ aP=>lF bQ ((kV .add aA (iq 1)).bind fun bR=>some (.normal,[aB,bR,aL],aP)) (some (.ret,[aB,aA,aA],aP)))).bind fun aT=>AE aT.2 fun aD aG aJ aQ=>Ex.lV aT.1 (some (.normal,[aD,aG,aJ],aQ)) (fun aX=>some (aX,[aD,aG,aJ],aQ))).bind fun aU=>AE aU.2 fun aE aH aK aR=>Ex.inBlock 1 aU.1 (kS m .normal [aE,aH,aK] aR) (fun aY=>kS m aY [aE,aH,aK] aR)) (kS m (.exit 0) [aB,aA,aL] h3)
def m55 (K:lB) (a0 a1:kM) (h0:kP):OH :=
 ((mI (Dl K (aa0 h0)) ([a0,a1,(iq 0)],h0)).bind fun aE=>AE aE.2 fun aG aA aB aD=>Ex.lV aE.1 none (fun aH=>Ex.inBlock 0 aH (some (.ret,[aA],aD)) (fun aI=>some (aI,[aB],aD)))).bind fun aF=>sM aF.2 fun aC aJ=>Ex.nA aF.1 (lY (aa0 h0) aC aJ)
theorem aA8 K a0 a1 h0:o6 Tryz.prog mJ mI K 55 [a0,a1] h0=m55 (lT mJ K) a0 a1 h0:=by kernel_rfl
def Jl (K:lB) (m:Nat) (s:St):Option R :=
 BE s fun aA aC aD aE aF aB aL=>(nQ aA).bind fun aV=>(kV .lss aB aV).bind fun aG=>lG true aG (some aA) aL fun aW aM=>lG true aG (some aB) aM fun aX aN=>lG true aG (m_ aW aX) aN fun aY aI=>gq true aG (kU (yK K 113 aY aI) (fun aZ aO=>nM aZ aO) yS) aI fun a_ aP=>lG true aG (some a_) aP fun aH aQ=>lG false aH (some aA) aQ fun bA aR=>lG false aH (some aB) aR fun bB aS=>lG false aH (m_ bA bB) aS fun bC aJ=>gq false aH (kU (yK K 114 bC aJ) (fun bD aT=>nM bD aT) yS) aJ fun bE aU=>lG true aG (lN aH (.bool true) bE) aU fun bF aK=>(lN aG bF (.bool false)).bind fun bG=>lF bG ((kV .add aB (iq 1)).bind fun bH=>kS m .normal [aA,aC,aD,aE,aF,bH] aK) (kS m (.exit 0) [aA,aC,aD,aE,aF,aB] aK)
def m56 (K:lB) (a0 a1:kM) (h0:kP):OH :=
 (kQ (lK 4 h0 (.agg [(iq 0),(iq 0),(iq 0),(.str [])])) fun t0 h1=>(lS [(iq 0),(iq 0),(iq 0),(.str [])] [(0,1),(1,1),(2,1),(3,1)] [(1,a1)]).bind fun t2=>kQ (lK 4 h1 (.agg [(iq 0),(iq 0),(iq 0),(.str [])])) fun t3 h4=>(kR 4 h4 t3 t2).bind fun h5=>(m_ a0 a1).bind fun t6=>qX K 113 t6 h5 fun t7 h8=>(vT .not t7).bind fun t9=>lG true t9 (some a0) h8 fun b_ bS=>lG true t9 (some a1) bS fun cA bT=>lG true t9 (m_ b_ cA) bT fun cB bM=>gq true t9 (kU (yK K 114 cB bM) (fun cD bU=>nM cD bU) yS) bM fun cE bV=>lG true t9 (vT .not cE) bV fun cF aZ=>(lN t9 cF (.bool false)).bind fun cG=>lF cG ((kO 0 t3).bind fun cH=>(kR 1 aZ cH (iq 4)).bind fun bW=>o_ K 115 a0 a1 bW fun cI bX=>(kO 3 t3).bind fun cJ=>(kR 1 bX cJ cI).bind fun aS=>(kT true 4 aS t3).bind fun cK=>(kO 3 t3).bind fun bJ=>(kT false 1 aS bJ).bind fun cL=>(nQ cL).bind fun cM=>(kR 4 (nL (kY [0] [bJ]) aS) t0 cK).bind fun bY=>some (.ret,[t0,cM],(lP (kY [0] [bJ]) aS bY))) ((mI (Jl K (aa0 aZ)) ([a0,a1,t0,(iq 0),t3,a1],aZ)).bind fun bP=>BE bP.2 fun aK aD aB aG aA aE bN=>Ex.lV bP.1 none (fun bQ=>Ex.inBlock 0 bQ ((oK aK (some aD) (some aE)).bind fun bK=>(m_ aK aD).bind fun cN=>qX K 114 cN bN fun cO bO=>lF cO ((kO 0 aA).bind fun cP=>(kR 1 bO cP (iq 2)).bind fun bZ=>qX K 116 bK bZ fun cQ b8=>(kO 2 aA).bind fun cR=>(kR 1 b8 cR cQ).bind fun aP=>fq 2 aA aP fun cS=>aq .lss cS (iq 0) ((kT true 4 aP aA).bind fun cT=>(kR 4 aP aB cT).bind fun b9=>some (.ret,[aB,(iq 0)],b9)) ((kT true 4 aP aA).bind fun cU=>(kV .sub aE aD).bind fun a_=>(kR 4 aP aB cU).bind fun aT=>some (.ret,[aB,a_],aT))) ((kO 0 aA).bind fun bA=>(kR 1 bO bA (iq 1)).bind fun aU=>(kO 3 aA).bind fun bB=>(kR 1 aU bB bK).bind fun aV=>o_ K 117 (.str [32,102,110,32,112,117,98,32,115,101,99,32,111,117,116,32,108,101,116,32,118,97,114,32,105,102,32,101,108,115,101,32,102,111,114,32,109,97,120,32,114,101,116,117,114,110,32,117,51,50,32,117,56,32,109,97,115,107,32,109,117,108,104,105,32,99,97,114,114,121,32,115,101,108,101,99,116,32,119,111,114,100,32,114,111,114,32]) bK aV fun bC aN=>(lF bC ((kO 0 aA).bind fun bD=>(kR 1 aN bD (iq 3)).bind fun aW=>some (.normal,[aD,aB,aG,aA,aE],aW)) (some (.normal,[aD,aB,aG,aA,aE],aN))).bind fun aQ=>EB aQ.2 fun aF aC bL aH aI aJ=>Ex.uC aQ.1 ((kV .sub aI aF).bind fun bE=>aq .gtr bE (iq 40) ((kT true 4 aJ aH).bind fun bF=>(kR 4 aJ aC bF).bind fun aX=>some (.ret,[aC,(iq 0)],aX)) ((kT true 4 aJ aH).bind fun bG=>(kV .sub aI aF).bind fun bH=>(kR 4 aJ aC bG).bind fun aY=>some (.ret,[aC,bH],aY))))) (fun bR=>some (bR,[aB,aG],bN))))).bind fun aR=>wN aR.2 fun aL aM aO=>Ex.nA aR.1 ((kT true 4 aO aL).bind fun bI=>lY (aa0 h0) (.tuple [bI,aM]) aO)
theorem NH K a0 a1 h0:o6 Tryz.prog mJ mI K 56 [a0,a1] h0=m56 (lT mJ K) a0 a1 h0:=by kernel_rfl
def aAr (K:lB) (a0:kM) (h0:kP):OH :=
 ((kV .eql a0 (.int .u8 32)).bind fun t0=>lG false t0 (some a0) h0 fun t1 h2=>lG false t0 (kV .eql t1 (.int .u8 9)) h2 fun t4 h5=>(lN t0 (.bool true) t4).bind fun t6=>lG false t6 (some a0) h5 fun t7 h8=>lG false t6 (kV .eql t7 (.int .u8 10)) h8 fun aH aD=>(lN t6 (.bool true) aH).bind fun aB=>lG false aB (some a0) aD fun aI aE=>lG false aB (kV .eql aI (.int .u8 13)) aE fun aJ aF=>(lN aB (.bool true) aJ).bind fun aK=>some (.ret,[aK],aF)).bind fun aC=>sM aC.2 fun aA aG=>Ex.nA aC.1 (lY (aa0 h0) aA aG)
theorem aqZ K a0 h0:o6 Tryz.prog mJ mI K 143 [a0] h0=aAr (lT mJ K) a0 h0:=by kernel_rfl
def aFn (K:lB) (a0 a1:kM) (h0:kP):OH :=
 (o_ K 176 a0 a1 h0 fun t0 h1=>some (.ret,[t0],h1)).bind fun r2=>sM r2.2 fun aA h4=>Ex.nA r2.1 (lY (aa0 h0) aA h4)
theorem aq0 K a0 a1 h0:o6 Tryz.prog mJ mI K 144 [a0,a1] h0=aFn (lT mJ K) a0 a1 h0:=by kernel_rfl
def aFo (K:lB) (a0 a1:kM) (h0:kP):OH :=
 (o_ K 177 a0 a1 h0 fun t0 h1=>some (.ret,[t0],h1)).bind fun r2=>sM r2.2 fun aA h4=>Ex.nA r2.1 (lY (aa0 h0) aA h4)
theorem aq1 K a0 a1 h0:o6 Tryz.prog mJ mI K 145 [a0,a1] h0=aFo (lT mJ K) a0 a1 h0:=by kernel_rfl
def aAs (K:lB) (a0:kM) (h0:kP):OH :=
 ((kV .geq a0 (.int .u8 97)).bind fun t0=>lG true t0 (some a0) h0 fun t1 h2=>lG true t0 (kV .leq t1 (.int .u8 122)) h2 fun t4 h5=>(lN t0 t4 (.bool false)).bind fun t6=>lG false t6 (some a0) h5 fun t7 h8=>lG false t6 (kV .geq t7 (.int .u8 65)) h8 fun aM aE=>lG false t6 (some aM) aE fun aB aF=>lG true aB (some a0) aF fun aN aG=>lG true aB (kV .leq aN (.int .u8 90)) aG fun aO aH=>lG false t6 (lN aB aO (.bool false)) aH fun aP aI=>(lN t6 (.bool true) aP).bind fun aC=>lG false aC (some a0) aI fun aQ aJ=>lG false aC (kV .eql aQ (.int .u8 95)) aJ fun aR aK=>(lN aC (.bool true) aR).bind fun aS=>some (.ret,[aS],aK)).bind fun aD=>sM aD.2 fun aA aL=>Ex.nA aD.1 (lY (aa0 h0) aA aL)
theorem aq2 K a0 h0:o6 Tryz.prog mJ mI K 146 [a0] h0=aAs (lT mJ K) a0 h0:=by kernel_rfl
def FG (K:lB) (m:Nat) (s:St):Option R :=
 AE s fun aA aE aB h6=>(kZ aA).bind fun t7=>fq 0 t7 h6 fun t9=>(nQ t9).bind fun aX=>(kV .lss aB aX).bind fun aC=>lG true aC (some aA) h6 fun aY aK=>lG true aC (kZ aY) aK fun aZ aL=>lG true aC (kO 0 aZ) aL fun a_ aF=>lG true aC (kT false 1 aF a_) aF fun bA aM=>lG true aC (some aB) aM fun bB aN=>lG true aC (m_ bA bB) aN fun bC aG=>gq true aC (kU (yK K 146 bC aG) (fun bD aO=>nM bD aO) yS) aG fun bE aP=>lG true aC (some bE) aP fun aD aQ=>lG false aD (some aA) aQ fun bF aR=>lG false aD (kZ bF) aR fun bG aS=>lG false aD (kO 0 bG) aS fun bH aH=>lG false aD (kT false 1 aH bH) aH fun bI aT=>lG false aD (some aB) aT fun bJ aU=>lG false aD (m_ bI bJ) aU fun bK aI=>gq false aD (kU (yK K 148 bK aI) (fun bL aV=>nM bL aV) yS) aI fun bM aW=>lG true aC (lN aD (.bool true) bM) aW fun bN aJ=>(lN aC bN (.bool false)).bind fun bO=>lF bO ((kV .add aB (iq 1)).bind fun bP=>kS m .normal [aA,aE,bP] aJ) (kS m (.exit 0) [aA,aE,aB] aJ)
def aFp (K:lB) (a0:kM) (h0:kP):OH :=
 ((kZ a0).bind fun t0=>fq 1 t0 h0 fun t2=>(mI (FG K (aa0 h0)) ([a0,(.str []),t2],h0)).bind fun aF=>AE aF.2 fun aA aB aD aE=>Ex.lV aF.1 none (fun aH=>Ex.inBlock 0 aH ((kZ aA).bind fun aK=>fq 0 aK aE fun aL=>(kZ aA).bind fun aM=>fq 1 aM aE fun aN=>(oK aL (some aN) (some aD)).bind fun aO=>some (.ret,[aO],aE)) (fun aI=>some (aI,[aB],aE)))).bind fun aG=>sM aG.2 fun aC aJ=>Ex.nA aG.1 (lY (aa0 h0) aC aJ)
theorem aq3 K a0 h0:o6 Tryz.prog mJ mI K 147 [a0] h0=aFp (lT mJ K) a0 h0:=by kernel_rfl
def aAt (K:lB) (a0:kM) (h0:kP):OH :=
 ((kV .geq a0 (.int .u8 48)).bind fun t0=>lG true t0 (some a0) h0 fun t1 h2=>lG true t0 (kV .leq t1 (.int .u8 57)) h2 fun t4 h5=>(lN t0 t4 (.bool false)).bind fun t6=>some (.ret,[t6],h5)).bind fun r7=>sM r7.2 fun aA h9=>Ex.nA r7.1 (lY (aa0 h0) aA h9)
theorem aq4 K a0 h0:o6 Tryz.prog mJ mI K 148 [a0] h0=aAt (lT mJ K) a0 h0:=by kernel_rfl
def Ed (K:lB) (m:Nat) (s:St):Option R :=
 uq7 s fun aD aF aG aC aE aB aA aJ=>aq .lss aA aB ((m_ aD aA).bind fun aL=>o_ K 179 aL aC aJ fun aK aH=>(lH 0 aK).bind fun aM=>(lH 1 aK).bind fun aN=>(vT .not aN).bind fun aO=>lF aO (kS m .ret [aD,(iq 0),(.bool false),aC,aE,aB,aA] aH) ((kV .mul aC aE).bind fun aP=>(kV .add aP aM).bind fun aI=>aq .gtr aI (iq 4294967295) (kS m .ret [aD,(iq 0),(.bool false),aC,aI,aB,aA] aH) ((kV .add aA (iq 1)).bind fun aQ=>kS m .normal [aD,aF,aG,aC,aI,aB,aQ] aH))) (kS m (.exit 0) [aD,aF,aG,aC,aE,aB,aA] aJ)
def Sb (K:lB) (a0:kM) (h0:kP):OH :=
 (o_ K 178 a0 (.str [48,120]) h0 fun t0 h1=>(lH 0 t0).bind fun t2=>(lH 1 t0).bind fun t3=>(lF t3 ((kV .eql t2 (.str [])).bind fun t4=>lG false t4 (some t2) h1 fun t5 h6=>lG false t4 (nQ t5) h6 fun t8 h9=>lG false t4 (kV .gtr t8 (iq 8)) h9 fun a_ aN=>(lN t4 (.bool true) a_).bind fun bA=>lF bA (some (.ret,[a0,(iq 0),(.bool false),(iq 10)],aN)) (some (.normal,[t2,(iq 0),(.bool false),(iq 16)],aN))) ((m_ a0 (iq 0)).bind fun bB=>(kV .eql bB (.int .u8 48)).bind fun aK=>lG true aK (some a0) h1 fun bC aY=>lG true aK (kV .neq bC (.str [48])) aY fun bD aO=>(lN aK bD (.bool false)).bind fun bE=>lF bE (some (.ret,[a0,(iq 0),(.bool false),(iq 10)],aO)) (some (.normal,[a0,(iq 0),(.bool false),(iq 10)],aO)))).bind fun aQ=>B9 aQ.2 fun aA aB aC aH aJ=>Ex.lV aQ.1 ((nQ aA).bind fun bF=>(mI (Ed K (aa0 aJ)) ([aA,aB,aC,aH,(iq 0),bF,(iq 0)],aJ)).bind fun aR=>uq7 aR.2 fun aT aD aF aU aI aL aM aP=>Ex.lV aR.1 none (fun aW=>Ex.inBlock 0 aW (some (.ret,[aI,(.bool true)],aP)) (fun aX=>some (aX,[aD,aF],aP)))) (fun aV=>some (aV,[aB,aC],aJ))).bind fun aS=>wN aS.2 fun aE aG aZ=>Ex.nA aS.1 (lY (aa0 h0) (.tuple [aE,aG]) aZ)
theorem aq5 K a0 h0:o6 Tryz.prog mJ mI K 149 [a0] h0=Sb (lT mJ K) a0 h0:=by kernel_rfl
def aKg (K:lB) (a0:kM) (h0:kP):OH :=
 ((kV .eql a0 (.int .u8 32)).bind fun t0=>lG false t0 (some a0) h0 fun t1 h2=>lG false t0 (kV .eql t1 (.int .u8 9)) h2 fun t4 h5=>(lN t0 (.bool true) t4).bind fun t6=>lG false t6 (some a0) h5 fun t7 h8=>lG false t6 (kV .eql t7 (.int .u8 10)) h8 fun aH aD=>(lN t6 (.bool true) aH).bind fun aB=>lG false aB (some a0) aD fun aI aE=>lG false aB (kV .eql aI (.int .u8 13)) aE fun aJ aF=>(lN aB (.bool true) aJ).bind fun aK=>some (.ret,[aK],aF)).bind fun aC=>sM aC.2 fun aA aG=>Ex.nA aC.1 (lY (aa0 h0) aA aG)
theorem aqH K a0 h0:o6 Tryz.prog mJ mI K 112 [a0] h0=aKg (lT mJ K) a0 h0:=by kernel_rfl
def aKh (K:lB) (a0:kM) (h0:kP):OH :=
 ((kV .geq a0 (.int .u8 97)).bind fun t0=>lG true t0 (some a0) h0 fun t1 h2=>lG true t0 (kV .leq t1 (.int .u8 122)) h2 fun t4 h5=>(lN t0 t4 (.bool false)).bind fun t6=>lG false t6 (some a0) h5 fun t7 h8=>lG false t6 (kV .geq t7 (.int .u8 65)) h8 fun aM aE=>lG false t6 (some aM) aE fun aB aF=>lG true aB (some a0) aF fun aN aG=>lG true aB (kV .leq aN (.int .u8 90)) aG fun aO aH=>lG false t6 (lN aB aO (.bool false)) aH fun aP aI=>(lN t6 (.bool true) aP).bind fun aC=>lG false aC (some a0) aI fun aQ aJ=>lG false aC (kV .eql aQ (.int .u8 95)) aJ fun aR aK=>(lN aC (.bool true) aR).bind fun aS=>some (.ret,[aS],aK)).bind fun aD=>sM aD.2 fun aA aL=>Ex.nA aD.1 (lY (aa0 h0) aA aL)
theorem aqI K a0 h0:o6 Tryz.prog mJ mI K 113 [a0] h0=aKh (lT mJ K) a0 h0:=by kernel_rfl
def aKi (K:lB) (a0:kM) (h0:kP):OH :=
 ((kV .geq a0 (.int .u8 48)).bind fun t0=>lG true t0 (some a0) h0 fun t1 h2=>lG true t0 (kV .leq t1 (.int .u8 57)) h2 fun t4 h5=>(lN t0 t4 (.bool false)).bind fun t6=>some (.ret,[t6],h5)).bind fun r7=>sM r7.2 fun aA h9=>Ex.nA r7.1 (lY (aa0 h0) aA h9)
theorem aqJ K a0 h0:o6 Tryz.prog mJ mI K 114 [a0] h0=aKi (lT mJ K) a0 h0:=by kernel_rfl
def ab5 (K:lB) (a0 a1:kM) (h0:kP):OH :=
 ((kV .add a1 (iq 2)).bind fun t0=>(nQ a0).bind fun t1=>(kV .leq t0 t1).bind fun t2=>lG true t2 (some a0) h0 fun t3 h4=>lG true t2 (some a1) h4 fun t5 h6=>lG true t2 (some a1) h6 fun t7 h8=>lG true t2 (kV .add t7 (iq 2)) h8 fun aI aF=>lG true t2 (oK t3 (some t5) (some aI)) aF fun aJ aB=>gq true t2 (kU (rR K 117 (.str [32,60,60,32,62,62,32,61,61,32,33,61,32,60,61,32,62,61,32]) aJ aB) (fun aK aG=>nM aK aG) yS) aB fun aL aC=>(lN t2 aL (.bool false)).bind fun aM=>lF aM ((kV .add a1 (iq 2)).bind fun aN=>(oK a0 (some a1) (some aN)).bind fun aO=>some (.ret,[aO],aC)) ((kV .add a1 (iq 1)).bind fun aP=>(oK a0 (some a1) (some aP)).bind fun aQ=>o_ K 117 (.str [32,40,32,41,32,123,32,125,32,91,32,93,32,44,32,59,32,58,32,61,32,43,32,45,32,42,32,38,32,124,32,94,32,126,32,33,32,60,32,62,32]) aQ aC fun aR aD=>lF aR ((kV .add a1 (iq 1)).bind fun aS=>(oK a0 (some a1) (some aS)).bind fun aT=>some (.ret,[aT],aD)) (some (.ret,[(.str [])],aD)))).bind fun aE=>sM aE.2 fun aA aH=>Ex.nA aE.1 (lY (aa0 h0) aA aH)
theorem aqK K a0 a1 h0:o6 Tryz.prog mJ mI K 115 [a0,a1] h0=ab5 (lT mJ K) a0 a1 h0:=by kernel_rfl
def C3 (K:lB) (m:Nat) (s:St):Option R :=
 EB s fun aA aE aC aD aB aV=>(nQ aA).bind fun bH=>aq .lss aB bH (((m_ aA aB).bind fun bI=>(vR .i64 bI).bind fun bJ=>(kV .sub bJ (iq 48)).bind fun bA=>(m_ aA aB).bind fun bK=>(kV .geq bK (.int .u8 97)).bind fun aQ=>lG true aQ (some aA) aV fun bL bC=>lG true aQ (some aB) bC fun bM bD=>lG true aQ (m_ bL bM) bD fun bN bE=>lG true aQ (kV .leq bN (.int .u8 102)) bE fun bO bF=>(lN aQ bO (.bool false)).bind fun aU=>lG true aU (some aC) bF fun bP bG=>lG true aU (kV .eql bP (iq 16)) bG fun bQ aW=>(lN aU bQ (.bool false)).bind fun bR=>(lF bR ((m_ aA aB).bind fun bS=>(vR .i64 bS).bind fun bT=>(kV .sub bT (iq 97)).bind fun bU=>(kV .add bU (iq 10)).bind fun bV=>some (.normal,[aA,aE,aC,aD,aB,bV],aW)) ((m_ aA aB).bind fun bW=>qX K 114 bW aW fun bX aX=>(vT .not bX).bind fun bY=>lF bY (some (.ret,[aA,(.int .i64 (-1)),aC,aD,aB,bA],aX)) (some (.normal,[aA,aE,aC,aD,aB,bA],aX)))).bind fun aZ=>BE aZ.2 fun aG aI aF aL aN aR aY=>Ex.lV aZ.1 ((kV .mul aL aF).bind fun bZ=>(kV .add bZ aR).bind fun b8=>some (.normal,[aG,aI,aF,b8,aN],aY)) (fun bB=>some (bB,[aG,aI,aF,aL,aN],aY))).bind fun a_=>EB a_.2 fun aH aJ aK aM aO aP=>Ex.inBlock 1 a_.1 ((kV .add aO (iq 1)).bind fun aT=>kS m .normal [aH,aJ,aK,aM,aT] aP) (fun aS=>kS m aS [aH,aJ,aK,aM,aO] aP)) (kS m (.exit 0) [aA,aE,aC,aD,aB] aV)
def GI (K:lB) (a0:kM) (h0:kP):OH :=
 ((nQ a0).bind fun t0=>(kV .geq t0 (iq 2)).bind fun t1=>lG true t1 (some a0) h0 fun t2 h3=>lG true t1 (oK t2 none (some (iq 2))) h3 fun t5 h6=>lG true t1 (kV .eql t5 (.str [48,120])) h6 fun t8 h9=>(lN t1 t8 (.bool false)).bind fun bC=>(lF bC ((oK a0 (some (iq 2)) none).bind fun aP=>(nQ aP).bind fun bD=>aq .gtr bD (iq 8) (some (.ret,[aP,(.int .i64 (-1)),(iq 16)],h9)) (some (.normal,[aP,(iq 0),(iq 16)],h9))) ((nQ a0).bind fun bE=>(kV .gtr bE (iq 10)).bind fun aG=>lG false aG (some a0) h9 fun bF aW=>lG false aG (nQ bF) aW fun bG aX=>lG false aG (kV .gtr bG (iq 1)) aX fun bH aY=>lG false aG (some bH) aY fun aL aZ=>lG true aL (some a0) aZ fun bI a_=>lG true aL (m_ bI (iq 0)) a_ fun bJ bA=>lG true aL (kV .eql bJ (.int .u8 48)) bA fun bK bB=>lG false aG (lN aL bK (.bool false)) bB fun bL aT=>(lN aG (.bool true) bL).bind fun bM=>lF bM (some (.ret,[a0,(.int .i64 (-1)),(iq 10)],aT)) (some (.normal,[a0,(iq 0),(iq 10)],aT)))).bind fun aU=>AE aU.2 fun aB aC aJ aK=>Ex.lV aU.1 (aq .eql aB (.str []) (some (.ret,[(.int .i64 (-1))],aK)) ((mI (C3 K (aa0 aK)) ([aB,aC,aJ,(iq 0),(iq 0)],aK)).bind fun aH=>EB aH.2 fun aQ aE aR aA aS aD=>Ex.lV aH.1 none (fun aM=>Ex.inBlock 0 aM (aq .geq aA (iq 4294967296) (some (.ret,[(.int .i64 (-1))],aD)) (some (.ret,[aA],aD))) (fun aN=>some (aN,[aE],aD))))) (fun aV=>some (aV,[aC],aK))).bind fun aI=>sM aI.2 fun aF aO=>Ex.nA aI.1 (lY (aa0 h0) aF aO)
theorem aqL K a0 h0:o6 Tryz.prog mJ mI K 116 [a0] h0=GI (lT mJ K) a0 h0:=by kernel_rfl
def Ea (K:lB) (m:Nat) (s:St):Option R :=
 B9 s fun aC aD aA aB h6=>(nQ aA).bind fun t7=>(kV .add aB t7).bind fun t8=>(nQ aC).bind fun t9=>aq .leq t8 t9 ((nQ aA).bind fun aE=>(kV .add aB aE).bind fun aF=>(oK aC (some aB) (some aF)).bind fun aG=>aq .eql aG aA (kS m .ret [aC,(.bool true),aA,aB] h6) ((kV .add aB (iq 1)).bind fun aH=>kS m .normal [aC,aD,aA,aH] h6)) (kS m (.exit 0) [aC,aD,aA,aB] h6)
def aAl (K:lB) (a0 a1:kM) (h0:kP):OH :=
 ((kV .add (.str [32]) a1).bind fun t0=>(kV .add t0 (.str [32])).bind fun t1=>(mI (Ea K (aa0 h0)) ([a0,(.bool false),t1,(iq 0)],h0)).bind fun aD=>B9 aD.2 fun aF aA aG aH aC=>Ex.lV aD.1 none (fun aI=>Ex.inBlock 0 aI (some (.ret,[(.bool false)],aC)) (fun aJ=>some (aJ,[aA],aC)))).bind fun aE=>sM aE.2 fun aB aK=>Ex.nA aE.1 (lY (aa0 h0) aB aK)
theorem aqM K a0 a1 h0:o6 Tryz.prog mJ mI K 117 [a0,a1] h0=aAl (lT mJ K) a0 a1 h0:=by kernel_rfl
def arN (K:lB) (a0 a1:kM) (h0:kP):OH :=
 ((nQ a0).bind fun t0=>(nQ a1).bind fun t1=>(kV .geq t0 t1).bind fun t2=>lG true t2 (some a0) h0 fun t3 h4=>lG true t2 (some a1) h4 fun t5 h6=>lG true t2 (nQ t5) h6 fun t8 h9=>lG true t2 (oK t3 none (some t8)) h9 fun aG aC=>lG true t2 (some a1) aC fun aH aD=>lG true t2 (kV .eql aG aH) aD fun aI aE=>(lN t2 aI (.bool false)).bind fun aJ=>some (.ret,[aJ],aE)).bind fun aB=>sM aB.2 fun aA aF=>Ex.nA aB.1 (lY (aa0 h0) aA aF)
theorem arO K a0 a1 h0:o6 Tryz.prog mJ mI K 176 [a0,a1] h0=arN (lT mJ K) a0 a1 h0:=by kernel_rfl
def aFw (K:lB) (a0 a1:kM) (h0:kP):OH :=
 (kU (agR .indexByte [(kM.mV a0),(kM.mV a1)] h0) (fun t0 h1=>some (.ret,[t0],h1)) (fun _ _=>none)).bind fun r2=>sM r2.2 fun aA h4=>Ex.nA r2.1 (lY (aa0 h0) aA h4)
theorem arP K a0 a1 h0:o6 Tryz.prog mJ mI K 177 [a0,a1] h0=aFw (lT mJ K) a0 a1 h0:=by kernel_rfl
def aFx (K:lB) (a0 a1:kM) (h0:kP):OH :=
 (o_ K 204 a0 a1 h0 fun t0 h1=>(lH 0 t0).bind fun t2=>(lH 1 t0).bind fun t3=>some (.ret,[t2,t3],h1)).bind fun r4=>wN r4.2 fun aA aB h7=>Ex.nA r4.1 (lY (aa0 h0) (.tuple [aA,aB]) h7)
theorem arQ K a0 a1 h0:o6 Tryz.prog mJ mI K 178 [a0,a1] h0=aFx (lT mJ K) a0 a1 h0:=by kernel_rfl
def ah7 (K:lB) (a0 a1:kM) (h0:kP):OH :=
 (qX K 148 a0 h0 fun t0 h1=>lF t0 ((kV .sub a0 (.int .u8 48)).bind fun t2=>(vR .i64 t2).bind fun t3=>some (.ret,[t3,(.bool true)],h1)) ((kV .gtr a1 (iq 10)).bind fun t4=>lG true t4 (some a0) h1 fun t5 h6=>lG true t4 (kV .geq t5 (.int .u8 97)) h6 fun t8 h9=>(lN t4 t8 (.bool false)).bind fun aC=>lG true aC (some a0) h9 fun aH aF=>lG true aC (kV .leq aH (.int .u8 102)) aF fun aI aD=>(lN aC aI (.bool false)).bind fun aJ=>lF aJ ((kV .sub a0 (.int .u8 97)).bind fun aK=>(vR .i64 aK).bind fun aL=>(kV .add aL (iq 10)).bind fun aM=>some (.ret,[aM,(.bool true)],aD)) (some (.ret,[(iq 0),(.bool false)],aD)))).bind fun aE=>wN aE.2 fun aA aB aG=>Ex.nA aE.1 (lY (aa0 h0) (.tuple [aA,aB]) aG)
theorem arR K a0 a1 h0:o6 Tryz.prog mJ mI K 179 [a0,a1] h0=ah7 (lT mJ K) a0 a1 h0:=by kernel_rfl
def aAG (K:lB) (a0 a1:kM) (h0:kP):OH :=
 (o_ K 176 a0 a1 h0 fun t0 h1=>(vT .not t0).bind fun t2=>lF t2 (some (.ret,[a0,(.bool false)],h1)) ((nQ a1).bind fun t3=>(oK a0 (some t3) none).bind fun t4=>some (.ret,[t4,(.bool true)],h1))).bind fun r5=>wN r5.2 fun aA aB h8=>Ex.nA r5.1 (lY (aa0 h0) (.tuple [aA,aB]) h8)
theorem ar2 K a0 a1 h0:o6 Tryz.prog mJ mI K 204 [a0,a1] h0=aAG (lT mJ K) a0 a1 h0:=by kernel_rfl
end
section
open Go Hk
noncomputable abbrev KK:lB:=lT mJ (MO Tryz.prog mJ)
abbrev by8 (b:UInt8):kM:=.int .u8 (b.toNat:Int)
def isDigit (b:UInt8):Bool:=decide (48≤b.toNat) && decide (b.toNat≤57)
def pI (b:UInt8):Bool:=decide (97≤b.toNat) && decide (b.toNat≤122) || decide (65≤b.toNat) && decide (b.toNat≤90) || decide (b.toNat=95)
def qN (b:UInt8):Bool:=decide (b.toNat=32) || decide (b.toNat=9) || decide (b.toNat=10) || decide (b.toNat=13)
theorem Qs (K:lB) (b:UInt8):aAt K (by8 b) []=some (.ret (.bool (isDigit b)),[]):=by
 by_cases h1:48≤b.toNat <;> by_cases h2:b.toNat≤57
 all_goals
  have h1':((48:Int)≤b.toNat)↔48≤b.toNat:=by omega
  have h2':((b.toNat:Int)≤57)↔b.toNat≤57:=by omega
  simp [aAt,isDigit,h1,h2,h1',h2',kN]
theorem Pl (b:UInt8) (h:kP):KK 148 [by8 b] h=some (.ret (.bool (isDigit b)),h):=lA rfl rfl (k9 (aq4 _ _ _) (Qs KK b))
theorem Pj (b:UInt8) (h:kP):KK 114 [by8 b] h=some (.ret (.bool (isDigit b)),h):=lA rfl rfl (k9 (aqJ _ _ _) (Qs KK b))
theorem Qr (K:lB) (b:UInt8):aAs K (by8 b) []=some (.ret (.bool (pI b)),[]):=by
 have e1:((97:Int)≤b.toNat)↔97≤b.toNat:=by omega
 have e2:((b.toNat:Int)≤122)↔b.toNat≤122:=by omega
 have e3:((65:Int)≤b.toNat)↔65≤b.toNat:=by omega
 have e4:((b.toNat:Int)≤90)↔b.toNat≤90:=by omega
 have e5:((b.toNat:Int)=95)↔b.toNat=95:=by omega
 by_cases h1:97≤b.toNat <;> by_cases h2:b.toNat≤122 <;> by_cases h3:65≤b.toNat <;> by_cases h4:b.toNat≤90 <;> by_cases h5:b.toNat=95 <;>
  simp [aAs,pI,e1,e2,e3,e4,e5,h1,h2,h3,h4,h5,kN]
theorem Pk (b:UInt8) (h:kP):KK 146 [by8 b] h=some (.ret (.bool (pI b)),h):=lA rfl rfl (k9 (aq2 _ _ _) (Qr KK b))
theorem Wn (b:UInt8) (h:kP):KK 113 [by8 b] h=some (.ret (.bool (pI b)),h):=lA rfl rfl (k9 (aqI _ _ _) (Qr KK b))
theorem Qq (K:lB) (b:UInt8):aAr K (by8 b) []=some (.ret (.bool (qN b)),[]):=by
 have e1:((b.toNat:Int)=32)↔b.toNat=32:=by omega
 have e2:((b.toNat:Int)=9)↔b.toNat=9:=by omega
 have e3:((b.toNat:Int)=10)↔b.toNat=10:=by omega
 have e4:((b.toNat:Int)=13)↔b.toNat=13:=by omega
 by_cases h1:b.toNat=32 <;> by_cases h2:b.toNat=9 <;> by_cases h3:b.toNat=10 <;> by_cases h4:b.toNat=13 <;>
  simp [aAr,qN,e1,e2,e3,e4,h1,h2,h3,h4,kN]
theorem aoM (b:UInt8) (h:kP):KK 143 [by8 b] h=some (.ret (.bool (qN b)),h):=lA rfl rfl (k9 (aqZ _ _ _) (Qq KK b))
theorem ayK (b:UInt8) (h:kP):KK 112 [by8 b] h=some (.ret (.bool (qN b)),h):=lA rfl rfl (k9 (aqH _ _ _) (Qq KK b))
theorem acF (K:lB) (s t:List UInt8):arN K (.str s) (.str t) []=some (.ret (.bool (decide (s.take t.length=t))),[]):=by
 by_cases h:t.length≤s.length
 ·have h':(t.length:Int)≤s.length:=by omega
  have:=qH (s:=s) (lo:=none) (hi:=some (.int .i64 (t.length:Int))) xZ p7 (ah9 _) h
  simp [arN,h',this,kN]
 ·have h':¬(t.length:Int)≤s.length:=by omega
  have h2:¬s.take t.length=t:=fun e=>h (by have:=congrArg aa0 e; simp at this; omega)
  simp [arN,h',h2,kN]
theorem ay1 (s t:List UInt8) (h:kP):KK 176 [.str s,.str t] h=some (.ret (.bool (decide (s.take t.length=t))),h):=lA rfl rfl (k9 (arO _ _ _ _) (acF _ s t))
theorem afW (s t:List UInt8) (h:kP):KK 144 [.str s,.str t] h=some (.ret (.bool (decide (s.take t.length=t))),h) :=
 lA rfl rfl (k9 (aq0 _ _ _ _) (by simp [aFn,ay1,kN]))
theorem aJm (s:List UInt8) (b:UInt8) (h:kP):KK 177 [.str s,by8 b] h=some (.ret (.int .i64 (tC s b)),h) :=
 lA rfl rfl (k9 (arP _ _ _ _) (by simp [aFw,agR,azM,kN]))
theorem aJe (s:List UInt8) (b:UInt8) (h:kP):KK 145 [.str s,by8 b] h=some (.ret (.int .i64 (tC s b)),h) :=
 lA rfl rfl (k9 (aq1 _ _ _ _) (by simp [aFo,aJm,kN]))
def xG (s t:List UInt8):List UInt8×Bool:=if s.take t.length=t then(s.drop t.length,true) else(s,false)
theorem aJt (s t:List UInt8) (h:kP):KK 204 [.str s,.str t] h=some (.ret (.tuple [.str (xG s t).1,.bool (xG s t).2]),h) :=
 lA rfl rfl (k9 (ar2 _ _ _ _) (by
  by_cases hp:s.take t.length=t
  ·have hl:t.length≤s.length:=by have:=congrArg aa0 hp; simp at this; omega
   have:=qH (s:=s) (lo:=some (.int .i64 (t.length:Int))) (hi:=none) p7 xZ hl (ac5 _)
   have e:(s.drop t.length).take (s.length - t.length)=s.drop t.length:=List.take_of_length_le (by simp)
   simp [aAG,ay1,hp,this,xG,e,kN]
  ·simp [aAG,ay1,hp,xG,kN]))
theorem aJn (s t:List UInt8) (h:kP):KK 178 [.str s,.str t] h=some (.ret (.tuple [.str (xG s t).1,.bool (xG s t).2]),h) :=
 lA rfl rfl (k9 (arQ _ _ _ _) (by simp [aFx,aJt,kN]))
end
section
open Go Hk
def mZ (l:List UInt8):Nat:=(l.takeWhile fun b=>!decide (b=10)).length
theorem zD (l:List UInt8):mZ l≤l.length:=by
 unfold mZ; exact(List.takeWhile_prefix _).length_le
theorem K5 (l:List UInt8):tC l 10=if mZ l < l.length then(mZ l:Int) else -1:=by
 induction l with
 | nil=>simp [tC,mZ]
 | cons b l ih =>
  have hlen:=zD l
  by_cases hb:b=10
  ·subst hb; simp [tC,mZ]
  ·have e:mZ (b::l)=mZ l+1:=by simp [mZ,ak2,hb]
   rw [e]
   simp only [tC,ih,beq_iff_eq,hb,if_false,ac8]
   by_cases h:mZ l < l.length
   ·have h2:mZ l+1 < l.length+1:=Nat.succ_lt_succ h
    have:¬((mZ l:Int)=-1):=by omega
    simp [h,this]
   ·have h2:¬mZ l+1 < l.length+1:=fun h2=>h (Nat.lt_of_succ_lt_succ h2)
    simp [h]
def lU (s:List UInt8) (at_:Nat):Nat :=
 if h:at_ < s.length then
  if qN s[at_] then lU s (at_+1)
  else if (s.drop at_).take 2=[47,47] then lU s (at_+max 1 (mZ (s.drop at_))) else at_
 else at_
termination_by s.length - at_
theorem wC (s:List UInt8) (at_:Nat):at_≤lU s at_:=by
 fun_induction lU s at_ <;> omega
theorem QR (s:List UInt8) (at_:Nat) (h:at_≤s.length):lU s at_≤s.length:=by
 fun_induction lU s at_ with
 | case1 at_ h1 h2 ih=>exact ih (by omega)
 | case2 at_ h1 h2 h3 ih =>
  apply ih
  have:=zD (s.drop at_)
  simp at this
  omega
 | case3=>omega
 | case4=>omega
theorem E2 {l:List UInt8}(h:l.take 2=[47,47]):2≤mZ l:=by
 match l,h with
 | a::b::r,h =>
  simp at h
  obtain⟨rfl,rfl⟩:=h
  simp [mZ,ak2]
 | [a],h=>simp at h
 | [],h=>simp at h
def w8:List (List kM)→Nat
 | []=>0
 | _=>4
def HL (W:List (kM×kM)) (sg:List (List kM)) (s:List UInt8) (at_:Int) (out:List (List kM)):kP :=
 [.front 0 0,.cells [.int .i64 0,.int .i64 0],.map W,.cells [.str s,.int .i64 at_,.map 2,.slice sg .no,.slice out (.own 4)],.front out.length (w8 out)]
theorem DT {W:List (kM×kM)}{sg:List (List kM)}{s:List UInt8}{at_:Int}{out:List (List kM)}(hW:W.all (fun e=>e.2.nP 5)=true) :
  l9 5 [.front 0 0,.cells [.int .i64 0,.int .i64 0],.map W,.cells [.str s,.int .i64 at_,.map 2,.slice sg .no,.slice out (.own 4)],.front out.length (w8 out)] =
   some [.front 0 0,.cells [.int .i64 0,.int .i64 0],.map W,.cells [.str s,.int .i64 at_,.map 2,.slice sg .no,.slice out (.own 4)],.front out.length (w8 out)]:=by
 simp [l9,pF,hW]
theorem Ue {s:List UInt8}{at_:Nat}(h:at_ < s.length):oK (.str s) (some (.int .i64 (at_:Int))) none=some (.str (s.drop at_)):=by
 have:=qH (s:=s) (lo:=some (.int .i64 (at_:Int))) (hi:=none) p7 xZ (Nat.le_of_lt h) (ac5 _)
 rw [this,List.take_of_length_le (by simp)]
theorem avK (s:List UInt8) (h:kP):KK 145 [.str s,.int .u8 10] h=some (.ret (.int .i64 (tC s 10)),h):=aJe s 10 h
theorem ab3 (W:List (kM×kM)) (sg:List (List kM)) (s:List UInt8) (out:List (List kM)) (hW:W.all (fun e=>e.2.nP 5)=true) (hs:s.length≤65536) (at_:Nat) (ha:at_≤s.length) :
  ∃e:Ex,(e=.exit 0∨e=.ret)∧mI (BX KK 5) ([.ptr 3 0],HL W sg s (at_:Nat) out)=some (e,[.ptr 3 0],HL W sg s (lU s at_:Nat) out):=by
 induction hn:s.length - at_ using Nat.strongRecOn generalizing at_ with
 | _ n ih =>
  rw [lZ]
  rw [lU]
  by_cases h:at_ < s.length
  ·have hi:s[at_]?=some s[at_]:=ac0 h
   have h':(at_:Int) < s.length:=by omega
   by_cases hb:qN s[at_]=true
   ·have w:IntKind.wrap .i64 ((at_:Int)+1)=(at_:Int)+1:=by rw [wrap64] <;> omega
    have step:BX KK 5 ([.ptr 3 0],HL W sg s (at_:Nat) out)=some (.normal,[.ptr 3 0],HL W sg s (at_+1:Nat) out):=by
     simp [BX,HL,h',hi,aoM,hb,w,putCells,kS,DT hW,lC]
    rw [step]
    simp only [af4,oA,h,dite_true,hb,if_true]
    exact ih (s.length - (at_+1)) (by omega) (at_+1) (by omega) rfl
   ·have hd:=Ue h
    have hbf:qN s[at_]=false:=by simpa using hb
    simp only [h,dite_true,hbf,Bool.false_eq_true,if_false]
    by_cases hr:(s.drop at_).take 2=[47,47]
    ·have h2:=E2 hr
     have hll:=zD (s.drop at_)
     have hdl:(s.drop at_).length=s.length - at_:=by simp
     have hix:=K5 (s.drop at_)
     have w:IntKind.wrap .i64 ((at_:Int)+mZ (s.drop at_))=(at_:Int)+mZ (s.drop at_):=by rw [wrap64] <;> omega
     have step:BX KK 5 ([.ptr 3 0],HL W sg s (at_:Nat) out)=some (.normal,[.ptr 3 0],HL W sg s (at_+mZ (s.drop at_):Nat) out):=by
      by_cases hlt:mZ (s.drop at_) < (s.drop at_).length
      ·rw [if_pos hlt] at hix
       have hneg:¬(mZ (s.drop at_):Int) < 0:=by omega
       simp [BX,HL,h',hi,aoM,hbf,hd,afW,hr,avK,hix,hneg,w,putCells,kS,DT hW,lC]
      ·rw [if_neg hlt] at hix
       have e:mZ (s.drop at_)=s.length - at_:=by omega
       have w1:IntKind.wrap .i64 ((s.length:Int) - at_)=(s.length:Int) - at_:=by rw [wrap64] <;> omega
       have w2:IntKind.wrap .i64 ((at_:Int)+((s.length:Int) - at_))=s.length:=by rw [wrap64] <;> omega
       have e2:(at_:Int)+(mZ (s.drop at_):Nat)=s.length:=by omega
       simp [BX,HL,h',hi,aoM,hbf,hd,afW,hr,avK,hix,w1,w2,putCells,kS,DT hW,lC,e2]
     rw [step]
     simp only [af4,oA,hr,if_true]
     rw [show max 1 (mZ (s.drop at_))=mZ (s.drop at_) by omega]
     exact ih (s.length - (at_+mZ (s.drop at_))) (by omega) (at_+mZ (s.drop at_)) (by omega) rfl
    ·refine⟨.ret,.inr rfl,?_⟩
     simp [BX,HL,h',hi,aoM,hbf,hd,afW,hr,kS,DT hW,lC]
  ·refine⟨.exit 0,.inl rfl,?_⟩
   have h':¬(at_:Int) < s.length:=by omega
   simp [BX,HL,h',h,kS,DT hW,lC]
theorem aI0 (W:List (kM×kM)) (sg:List (List kM)) (s:List UInt8) (out:List (List kM)) (hW:W.all (fun e=>e.2.nP 5)=true) (hs:s.length≤65536) (at_:Nat) (ha:at_≤s.length) :
  KK 100 [.ptr 3 0] (HL W sg s (at_:Nat) out)=some (.ret (.tuple []),HL W sg s (lU s at_:Nat) out):=by
 refine k9 (ap4 _ _ _) ?_
 obtain⟨e,he,hl⟩:=ab3 W sg s out hW hs at_ ha
 have hlen:(HL W sg s (at_:Nat) out).length=5:=rfl
 simp only [aFa,Nb,hlen,hl,af4]
 rcases he with rfl | rfl <;> simp [lY,HL,DT hW]
end
section
open Go Hk
def isWord (b:UInt8):Bool:=pI b || isDigit b
def nR (l:List UInt8):List UInt8:=l.takeWhile isWord
theorem Ij (l:List UInt8):(nR l).length≤l.length:=(List.takeWhile_prefix _).length_le
theorem OB (l:List UInt8):l.take (nR l).length=nR l:=by
 unfold nR
 induction l with
 | nil=>rfl
 | cons b l ih=>by_cases h:isWord b=true <;> simp [ak2,h,ih]
theorem AY {s:List UInt8}{n:Nat}(h:n < s.length):nR (s.drop n)=if isWord s[n] then s[n]::nR (s.drop (n+1)) else []:=by
 rw [af5 h]; simp only [nR,ak2]
def HT (W:List (kM×kM)) (sg:List (List kM)) (s:List UInt8) (at_:Int) (out:List (List kM)) (k p n:Int) (t:List UInt8):kP :=
 [.front 0 0,.cells [.int .i64 0,.int .i64 0],.map W,.cells [.str s,.int .i64 at_,.map 2,.slice sg .no,.slice out (.own 4)],.front out.length (w8 out),.cells [.int .i64 k,.int .i64 p,.int .i64 n,.str t]]
theorem Fm {W:List (kM×kM)}{sg:List (List kM)}{s:List UInt8}{at_:Int}{out:List (List kM)}{k p n:Int}{t:List UInt8}(hW:W.all (fun e=>e.2.nP 6)=true) :
  l9 6 [.front 0 0,.cells [.int .i64 0,.int .i64 0],.map W,.cells [.str s,.int .i64 at_,.map 2,.slice sg .no,.slice out (.own 4)],.front out.length (w8 out),.cells [.int .i64 k,.int .i64 p,.int .i64 n,.str t]] =
   some [.front 0 0,.cells [.int .i64 0,.int .i64 0],.map W,.cells [.str s,.int .i64 at_,.map 2,.slice sg .no,.slice out (.own 4)],.front out.length (w8 out),.cells [.int .i64 k,.int .i64 p,.int .i64 n,.str t]]:=by
 simp [l9,pF,hW]
section
variable (W:List (kM×kM)) (sg:List (List kM)) (s:List UInt8) (out:List (List kM)) (k p q:Int) (t:List UInt8)
theorem ab7 (hW:W.all (fun e=>e.2.nP 6)=true) (hs:s.length≤65536) (at_ n:Nat) (hn:n≤s.length) :
  mI (FG KK 6) ([.ptr 3 0,.str [],.int .i64 (n:Nat)],HT W sg s (at_:Nat) out k p q t)=some (.exit 0,[.ptr 3 0,.str [],.int .i64 (n+(nR (s.drop n)).length:Nat)],HT W sg s (at_:Nat) out k p q t):=by
 induction hm:s.length - n using Nat.strongRecOn generalizing n with
 | _ m ih =>
  rw [lZ]
  by_cases h:n < s.length
  ·have hi:s[n]?=some s[n]:=ac0 h
   have h':(n:Int) < s.length:=by omega
   by_cases hw:isWord s[n]=true
   ·have w:IntKind.wrap .i64 ((n:Int)+1)=(n:Int)+1:=by rw [wrap64] <;> omega
    have step:FG KK 6 ([.ptr 3 0,.str [],.int .i64 (n:Nat)],HT W sg s (at_:Nat) out k p q t)=some (.normal,[.ptr 3 0,.str [],.int .i64 (n+1:Nat)],HT W sg s (at_:Nat) out k p q t):=by
     cases hl:pI s[n] <;> cases hd:isDigit s[n] <;> simp [isWord,hl,hd] at hw <;>
      simp [FG,HT,h',hi,Pk,Pl,hl,hd,w,kS,Fm hW,lC]
    rw [step]
    simp only [af4,oA]
    rw [ih (s.length - (n+1)) (by omega) (n+1) (by omega) rfl,AY h,hw]
    simp; omega
   ·have hwf:isWord s[n]=false:=by simpa using hw
    have hl:pI s[n]=false:=by simp [isWord] at hwf; exact hwf.1
    have hd:isDigit s[n]=false:=by simp [isWord] at hwf; exact hwf.2
    rw [AY h,hwf]
    simp [FG,HT,h',hi,Pk,Pl,hl,hd,kS,Fm hW,lC]
  ·have h':¬(n:Int) < s.length:=by omega
   have:s.drop n=[]:=List.drop_eq_nil_of_le (by omega)
   simp [FG,HT,h',this,nR,kS,Fm hW,lC]
theorem aJf (hW:W.all (fun e=>e.2.nP 6)=true) (hs:s.length≤65536) (at_:Nat) (ha:at_≤s.length) :
  KK 147 [.ptr 3 0] (HT W sg s (at_:Nat) out k p q t)=some (.ret (.str (nR (s.drop at_))),HT W sg s (at_:Nat) out k p q t):=by
 refine k9 (aq3 _ _ _) ?_
 have hl:=ab7 W sg s out k p q t hW hs at_ at_ ha
 have hrl:=Ij (s.drop at_)
 simp at hrl
 have hsl:=qH (s:=s) (lo:=some (.int .i64 (at_:Int))) (hi:=some (.int .i64 ((at_+(nR (s.drop at_)).length:Nat):Int))) p7 p7 (by omega) (by omega)
 rw [show at_+(nR (s.drop at_)).length - at_=(nR (s.drop at_)).length by omega,OB] at hsl
 simp only [HT,ag1] at hl hsl
 simp [aFp,HT,hl,hsl,lY,Fm hW]
end
def sR (hex:Bool) (b:UInt8):Option Nat :=
 if isDigit b then some (b.toNat - 48) else if hex && (decide (97≤b.toNat) && decide (b.toNat≤102)) then some (b.toNat - 87) else none
theorem alQ {n:Int}(h1:0≤n) (h2:n≤255):IntKind.wrap .u8 n=n:=by
 simp [IntKind.wrap,IntKind.signed,IntKind.bits]; omega
theorem aw7 (b:UInt8):b.toNat < 256:=b.toNat_lt
def mQ (hex:Bool):Nat:=if hex then 16 else 10
theorem ay2 (hex:Bool) (b:UInt8) (h:kP):KK 179 [by8 b,.int .i64 (mQ hex:Nat)] h=some (.ret (.tuple [.int .i64 ((sR hex b).getD 0:Nat),.bool (sR hex b).isSome]),h):=by
 refine lA rfl rfl (k9 (arR _ _ _ _) ?_)
 have hb:=aw7 b
 by_cases hd:isDigit b=true
 ·have hr:48≤b.toNat∧b.toNat≤57:=by simpa [isDigit] using hd
  have w1:IntKind.wrap .u8 ((b.toNat:Int) - 48)=(b.toNat:Int) - 48:=alQ (by omega) (by omega)
  have w2:IntKind.wrap .i64 ((b.toNat:Int) - 48)=((b.toNat - 48:Nat):Int):=by rw [wrap64] <;> omega
  simp [ah7,Pl,hd,w1,w2,sR,kN]
 ·have hdf:isDigit b=false:=by simpa using hd
  have e1:((97:Int)≤b.toNat)↔97≤b.toNat:=by omega
  have e2:((b.toNat:Int)≤102)↔b.toNat≤102:=by omega
  cases hex with
  | false=>simp [ah7,Pl,hdf,mQ,sR,kN]
  | true =>
   by_cases h1:97≤b.toNat <;> by_cases h2:b.toNat≤102
   ·have w1:IntKind.wrap .u8 ((b.toNat:Int) - 97)=(b.toNat:Int) - 97:=alQ (by omega) (by omega)
    have w2:IntKind.wrap .i64 ((b.toNat:Int) - 97)=(b.toNat:Int) - 97:=by rw [wrap64] <;> omega
    have w3:IntKind.wrap .i64 ((b.toNat:Int) - 97+10)=((b.toNat - 87:Nat):Int):=by rw [wrap64] <;> omega
    simp [ah7,Pl,hdf,mQ,sR,e1,e2,h1,h2,w1,w2,w3,kN]
   all_goals simp [ah7,Pl,hdf,mQ,sR,e1,e2,h1,h2,kN]
def oG (hex:Bool):List UInt8→Nat→Option Nat
 | [],n=>some n
 | b::r,n=>match sR hex b with
  | none=>none
  | some v=>if 4294967295 < mQ hex * n+v then none else oG hex r (mQ hex * n+v)
theorem adP {hex:Bool}{b:UInt8}{v:Nat}(h:sR hex b=some v):v≤15:=by
 unfold sR at h
 split at h
 ·rename_i hd; cases h; simp [isDigit] at hd; omega
 ·split at h
  ·rename_i hd; cases h; simp at hd; omega
  ·cases h
theorem Qt (hex:Bool) (s:List UInt8) (hs:s.length≤65536) (i n:Nat) (hi:i≤s.length) (hn:n≤4294967295) :
  ∃n' j:Nat,mI (Ed KK 0) ([.str s,.int .i64 0,.bool false,.int .i64 (mQ hex:Nat),.int .i64 (n:Nat),.int .i64 (s.length:Nat),.int .i64 (i:Nat)],[]) =
   some (match oG hex (s.drop i) n with
    | some r=>(.exit 0,[.str s,.int .i64 0,.bool false,.int .i64 (mQ hex:Nat),.int .i64 (r:Nat),.int .i64 (s.length:Nat),.int .i64 (j:Nat)],[])
    | none=>(.ret,[.str s,.int .i64 0,.bool false,.int .i64 (mQ hex:Nat),.int .i64 (n':Nat),.int .i64 (s.length:Nat),.int .i64 (j:Nat)],[])):=by
 induction hm:s.length - i using Nat.strongRecOn generalizing i n with
 | _ m ih =>
  rw [lZ]
  by_cases h:i < s.length
  ·have hx:s[i]?=some s[i]:=ac0 h
   have h':(i:Int) < s.length:=by omega
   have hb:mQ hex≤16:=by cases hex <;> simp [mQ]
   rw [af5 h]
   cases hv:sR hex s[i] with
   | none =>
    refine⟨n,i,?_⟩
    simp [Ed,h',hx,ay2,hv,oG,nS]
   | some v =>
    have hvl:=adP hv
    have hprod:mQ hex * n≤16 * 4294967295:=Nat.mul_le_mul hb hn
    have w1:IntKind.wrap .i64 ((mQ hex:Int) * n)=(mQ hex:Int) * n:=by
     rw [wrap64]
     ·have:=Int.natCast_nonneg (mQ hex * n); rw [Int.natCast_mul] at this; omega
     ·have:((mQ hex * n:Nat):Int)≤16 * 4294967295:=by omega
      rw [Int.natCast_mul] at this; omega
    have w2:IntKind.wrap .i64 ((mQ hex:Int) * n+v)=(mQ hex:Int) * n+v:=by
     rw [wrap64]
     ·have:=Int.natCast_nonneg (mQ hex * n); rw [Int.natCast_mul] at this; omega
     ·have:((mQ hex * n:Nat):Int)≤16 * 4294967295:=by omega
      rw [Int.natCast_mul] at this; omega
    have w3:IntKind.wrap .i64 ((i:Int)+1)=(i:Int)+1:=by rw [wrap64] <;> omega
    by_cases hbig:4294967295 < mQ hex * n+v
    ·have hbig':(4294967295:Int) < (mQ hex:Int) * n+v:=by
      have:(4294967295:Int) < ((mQ hex * n+v:Nat):Int):=by omega
      rwa [ag1,Int.natCast_mul] at this
     refine⟨mQ hex * n+v,i,?_⟩
     simp [Ed,h',hx,ay2,hv,oG,hbig,hbig',w1,w2,nS]
    ·have hbig':¬(4294967295:Int) < (mQ hex:Int) * n+v:=by
      have:¬(4294967295:Int) < ((mQ hex * n+v:Nat):Int):=by omega
      rwa [ag1,Int.natCast_mul] at this
     obtain⟨n',j,hl⟩:=ih (s.length - (i+1)) (by omega) (i+1) (mQ hex * n+v) (by omega) (by omega) rfl
     refine⟨n',j,?_⟩
     have step:Ed KK 0 ([.str s,.int .i64 0,.bool false,.int .i64 (mQ hex:Nat),.int .i64 (n:Nat),.int .i64 (s.length:Nat),.int .i64 (i:Nat)],[]) =
       some (.normal,[.str s,.int .i64 0,.bool false,.int .i64 (mQ hex:Nat),.int .i64 (mQ hex * n+v:Nat),.int .i64 (s.length:Nat),.int .i64 (i+1:Nat)],[]):=by
      simp [Ed,h',hx,ay2,hv,hbig',w1,w2,w3,nS]
     rw [step]
     simp only [af4,oA]
     rw [hl]
     simp only [oG,hv,hbig,if_false]
  ·have h':¬(i:Int) < s.length:=by omega
   have:s.drop i=[]:=List.drop_eq_nil_of_le (by omega)
   refine⟨n,i,?_⟩
   simp [Ed,h',this,oG,nS]
def rT (s:List UInt8):Option Nat :=
 if s.take 2=[48,120] then(if s.drop 2=[]∨8 < (s.drop 2).length then none else oG true (s.drop 2) 0)
 else if s[0]?=some 48∧s≠[48] then none else oG false s 0
theorem aJg (s:List UInt8) (hs:s.length≤65536) (h0:s≠[]) (h:kP):KK 149 [.str s] h=some (.ret (.tuple [.int .i64 ((rT s).getD 0:Nat),.bool (rT s).isSome]),h):=by
 refine lA rfl rfl (k9 (aq5 _ _ _) ?_)
 have cut:=aJn s [48,120] []
 by_cases hp:s.take 2=[48,120]
 ·have hcp:xG s [48,120]=(s.drop 2,true):=by simp [xG,hp]
  rw [hcp] at cut
  have hn:rT s=if s.drop 2=[]∨8 < (s.drop 2).length then none else oG true (s.drop 2) 0:=by simp only [rT,hp,if_true]
  have hrl:(s.drop 2).length≤65536:=by simp; omega
  rw [hn]
  simp only [] at cut
  generalize s.drop 2=r at *
  by_cases he:r=[]
  ·subst he
   simp [Sb,cut,kN]
  ·by_cases hl:8 < r.length
   ·have hl':(8:Int) < r.length:=by omega
    simp [Sb,cut,he,hl,hl',kN]
   ·have hl':¬(8:Int) < r.length:=by omega
    obtain⟨n',j,hloop⟩:=Qt true r hrl 0 0 (by omega) (by omega)
    simp only [mQ,if_true,List.drop_zero,Int.ofNat_eq_natCast,ac7] at hloop
    cases hd:oG true r 0 with
    | none=>rw [hd] at hloop; simp [Sb,cut,he,hl,hl',hloop,hd,kN]
    | some v=>rw [hd] at hloop; simp [Sb,cut,he,hl,hl',hloop,hd,kN]
 ·have hcp:xG s [48,120]=(s,false):=by simp [xG,hp]
  rw [hcp] at cut
  simp only [] at cut
  obtain⟨b,r,hbr⟩:∃b r,s=b::r:=by cases s with | nil=>exact absurd rfl h0 | cons b r=>exact⟨b,r,rfl⟩
  have hs0:s[0]?=some b:=by rw [hbr]; rfl
  have hn:rT s=if s[0]?=some 48∧s≠[48] then none else oG false s 0:=by simp only [rT,hp,if_false]
  obtain⟨n',j,hloop⟩:=Qt false s hs 0 0 (by omega) (by omega)
  simp only [mQ,Bool.false_eq_true,if_false,List.drop_zero,Int.ofNat_eq_natCast,ac7] at hloop
  by_cases hb:b=48
  ·subst hb
   by_cases h1:s=[48]
   ·have hn2:rT s=oG false s 0:=by rw [hn,if_neg (by simp [h1])]
    rw [hn2]
    have ht:((48:UInt8).toNat:Int)=48:=rfl
    have hd:oG false [48] 0=some 0:=by decide
    subst h1
    rw [hd] at hloop ⊢
    simp only [ac8,ad0] at hloop
    simp at hloop
    simp [Sb,cut,ht,hloop,kN]
   ·have hn2:rT s=none:=by rw [hn,if_pos ⟨hs0,h1⟩]
    rw [hn2]
    have ht:((48:UInt8).toNat:Int)=48:=rfl
    simp [Sb,cut,hs0,h1,ht,kN]
  ·have hb':¬((b.toNat:Int)=48):=fun h=>hb (UInt8.toNat_inj.1 (by simpa using (by omega:b.toNat=48)))
   have hn2:rT s=oG false s 0:=by rw [hn,if_neg (by simp [hs0,hb])]
   rw [hn2]
   cases hd:oG false s 0 with
   | none=>rw [hd] at hloop; simp [Sb,cut,hs0,hb',hloop,kN]
   | some v=>rw [hd] at hloop; simp [Sb,cut,hs0,hb',hloop,kN]
end
section
open Go Hk
def uI:List (List UInt8):=[[102,110],[112,117,98],[115,101,99],[111,117,116],[108,101,116],[118,97,114],[105,102],[101,108,115,101],[102,111,114],[109,97,120],[114,101,116,117,114,110],[117,51,50],[117,56],[109,97,115,107],[109,117,108,104,105],[99,97,114,114,121],[115,101,108,101,99,116],[119,111,114,100],[114,111,114]]
def nY:List (List UInt8):=[[60,60],[62,62],[61,61],[33,61],[60,61],[62,61],[40],[41],[123],[125],[91],[93],[44],[59],[58],[61],[43],[45],[42],[38],[124],[94],[126],[33],[60],[62]]
def uW:List (kM×kM):=(uI.zip (List.range' 1 19)).map fun p=>(.str p.1,.int .i64 p.2)
def wA:List (List kM):=nY.map fun t=>[.str t]
set_option maxRecDepth 100000 in
theorem aGA:Tg Tryz.prog mJ (tW 200) 3 99 [] []=some (.ret (.slice wA .no),[]):=by kernel_rfl
theorem c99 (h:kP):KK 99 [] h=some (.ret (.slice wA .no),h):=lA rfl rfl (Rz 200 3 99 [] [] _ aGA)
set_option maxRecDepth 100000 in
theorem aGz:Tg Tryz.prog mJ (tW 200) 3 98 [] [.front 0 0,.cells [.int .i64 0,.int .i64 0]]=some (.ret (.map 2),[.front 0 0,.cells [.int .i64 0,.int .i64 0],.map uW]):=by kernel_rfl
theorem c98:KK 98 [] [.front 0 0,.cells [.int .i64 0,.int .i64 0]]=some (.ret (.map 2),[.front 0 0,.cells [.int .i64 0,.int .i64 0],.map uW]):=Rz 200 3 98 [] _ _ aGz
theorem Db (m:Nat):uW.all (fun e=>e.2.nP m)=true:=rfl
end
section
open Go Hk
structure Token where
 kind:Nat
 pos:Nat
 num:Nat
 text:List UInt8
 deriving DecidableEq
def Token.cells (t:Token):List kM:=[.int .i64 (t.kind:Int),.int .i64 (t.pos:Int),.int .i64 (t.num:Int),.str t.text]
def oW (ts:List (List UInt8)) (l:List UInt8):List UInt8:=(ts.find? fun x=>decide (l.take x.length=x)).getD []
def uP (l:List UInt8) (at_:Nat):Option (Token×Nat) :=
 match l with
 | []=>none
 | b::_ =>
  if pI b then(if 40 < (nR l).length then none else some (⟨if nR l∈uI then 3 else 1,at_,0,nR l⟩,(nR l).length))
  else if isDigit b then(match rT (nR l) with | none=>none | some n=>some (⟨2,at_,n,[]⟩,(nR l).length))
  else if oW nY l=[] then none else some (⟨4,at_,0,oW nY l⟩,(oW nY l).length)
theorem PZ (r:List UInt8):∀(ws:List (List UInt8)) (ns:List Nat),ws.length=ns.length →
  ∃v:Option Int,CQ (.str r) ((ws.zip ns).map fun p=>(.str p.1,.int .i64 (p.2:Int)))=some (v.map (.int .i64))∧(v.isSome=true↔r∈ws)
 | [],[],_=>⟨none,rfl,by simp⟩
 | w::ws,n::ns,hl=>by
  obtain⟨v,h1,h2⟩:=PZ r ws ns (by simpa using hl)
  by_cases h:r=w
  ·subst h
   exact⟨some n,by simp [CQ,F9],by simp⟩
  ·refine⟨v,?_,by simp [h,h2]⟩
   have hb:(r == w)=false:=by simp [h]
   simp only [List.zip_cons_cons,List.map_cons,CQ,F9,hb]
   exact h1
 | [],_::_,hl=>by simp at hl
 | _::_,[],hl=>by simp at hl
theorem UO (r:List UInt8):∃v:Int,∀{h:kP},h[2]?=some (.map uW)→q7 (.int .i64 0) true h (.map 2) (.str r)=some (.tuple [.int .i64 v,.bool (decide (r∈uI))]):=by
 obtain⟨v,h1,h2⟩:=PZ r uI (List.range' 1 19) rfl
 refine⟨v.getD 0,fun {h} hh=>?_⟩
 have h1':CQ (.str r) uW=some (v.map (.int .i64)):=h1
 simp only [q7,zC,hh,h1']
 cases v with
 | none =>
  have:¬r∈uI:=fun hm=>by have:=h2.2 hm; simp at this
  simp [this]
 | some v =>
  have:r∈uI:=h2.1 rfl
  simp [this]
theorem EV (out:List (List kM)) (c:List kM):w8 (out++[c])=4:=by cases out <;> rfl
theorem ao4 (out:List (List kM)):w8 out=4∨out=[]∧w8 out=0:=by cases out <;> simp [w8]
section
variable (s:List UInt8) (out:List (List kM))
theorem ab4 (hs:s.length≤65536) (at_:Nat) (ha:at_ < s.length) (k p q:Int) (t:List UInt8) (i:Nat) (hi:i≤nY.length) :
  ∃j:Int,mI (FF KK 6) ([.ptr 3 0,.bool false,.ptr 5 0,.slice (nY.map fun t=>[.str t]) .no,.int .i64 (nY.length:Nat),.int .i64 (i:Nat)],HT uW wA s (at_:Nat) out k p q t) =
   some (.exit 1,[.ptr 3 0,.bool false,.ptr 5 0,.slice (nY.map fun t=>[.str t]) .no,.int .i64 (nY.length:Nat),.int .i64 j],
    HT uW wA s (at_:Nat) out k p q (((nY.drop i).find? fun x=>decide ((s.drop at_).take x.length=x)).getD t)):=by
 have hd:=Ue ha
 have hsl:nY.length=26:=rfl
 have tr:=fun t=>Fm (W:=uW) (sg:=wA) (s:=s) (at_:=(at_:Nat)) (out:=out) (k:=k) (p:=p) (n:=q) (t:=t) (Db 6)
 generalize hW:uW=W at *
 generalize wA=sg at *
 generalize hT:nY=T at *
 induction hm:T.length - i using Nat.strongRecOn generalizing i with
 | _ m ih =>
  rw [lZ]
  by_cases h:i < T.length
  ·have hx:T[i]?=some T[i]:=ac0 h
   have h':(i:Int) < T.length:=by omega
   have hf:(T.drop i).find? (fun x=>decide ((s.drop at_).take x.length=x))=if (s.drop at_).take T[i].length=T[i] then some T[i] else(T.drop (i+1)).find? (fun x=>decide ((s.drop at_).take x.length=x)):=by
    rw [af5 h,List.find?_cons]
    by_cases hp:(s.drop at_).take T[i].length=T[i] <;> simp only [hp,decide_true,decide_false,if_true,if_false]
   rw [hf]
   by_cases hp:(s.drop at_).take T[i].length=T[i]
   ·refine⟨i,?_⟩
    simp [FF,HT,h',hx,hd,afW,hp,putCells,kS,tr,lC]
   ·have w:IntKind.wrap .i64 ((i:Int)+1)=(i:Int)+1:=by rw [wrap64] <;> omega
    obtain⟨j,hl⟩:=ih (T.length - (i+1)) (by omega) (i+1) (by omega) rfl
    refine⟨j,?_⟩
    have step:FF KK 6 ([.ptr 3 0,.bool false,.ptr 5 0,.slice (T.map fun t=>[.str t]) .no,.int .i64 (T.length:Nat),.int .i64 (i:Nat)],HT W sg s (at_:Nat) out k p q t) =
      some (.normal,[.ptr 3 0,.bool false,.ptr 5 0,.slice (T.map fun t=>[.str t]) .no,.int .i64 (T.length:Nat),.int .i64 (i+1:Nat)],HT W sg s (at_:Nat) out k p q t):=by
     simp [FF,HT,h',hx,hd,afW,hp,w,kS,tr,lC]
    rw [step]
    simp only [af4,oA]
    rw [hl,if_neg hp]
  ·have h':¬(i:Int) < T.length:=by omega
   have:T.drop i=[]:=List.drop_eq_nil_of_le (by omega)
   refine⟨i,?_⟩
   simp [FF,HT,h',this,kS,tr,lC]
theorem z6 {W:List (kM×kM)}{sg:List (List kM)}{s:List UInt8}{at_:Int}{out:List (List kM)}{n sz:Nat}{bs:kP}(hW:W.all (fun e=>e.2.nP 5)=true) :
  l9 5 (.front 0 0::.cells [.int .i64 0,.int .i64 0]::.map W::.cells [.str s,.int .i64 at_,.map 2,.slice sg .no,.slice out (.own 4)]::.front n sz::bs) =
   some [.front 0 0,.cells [.int .i64 0,.int .i64 0],.map W,.cells [.str s,.int .i64 at_,.map 2,.slice sg .no,.slice out (.own 4)],.front n sz]:=by
 simp [l9,pF,hW]
theorem aI1 (hs:s.length≤65536) (at_:Nat) (ha:at_ < s.length) (ho:out.length≤65536) :
  KK 101 [.ptr 3 0] (HL uW wA s (at_:Nat) out)=some (match uP (s.drop at_) at_ with
   | some (t,n)=>(.ret (.bool true),HL uW wA s (at_+n:Nat) (out++[t.cells]))
   | none=>(.ret (.bool false),HL uW wA s (at_:Nat) out)):=by
 refine k9 (ap5 _ _ _) ?_
 have hi:s[at_]?=some s[at_]:=ac0 ha
 have hcons:=af5 ha
 have hW4:=Db 5
 have hW5:=Db 6
 have hrun:=fun k p q t=>aJf uW wA s out k p q t hW5 hs at_ (Nat.le_of_lt ha)
 have hrl:=Ij (s.drop at_)
 simp only [al3] at hrl
 obtain⟨v,hlook⟩:=UO (nR (s.drop at_))
 have hfr:=ao4 out
 have hsz:((out.length:Int)+1) * 40≤140737488355328:=by omega
 have hone:uP (s.drop at_) at_=if pI s[at_] then(if 40 < (nR (s.drop at_)).length then none else some (⟨if nR (s.drop at_)∈uI then 3 else 1,at_,0,nR (s.drop at_)⟩,(nR (s.drop at_)).length))
  else if isDigit s[at_] then(match rT (nR (s.drop at_)) with | none=>none | some n=>some (⟨2,at_,n,[]⟩,(nR (s.drop at_)).length))
  else if oW nY (s.drop at_)=[] then none else some (⟨4,at_,0,oW nY (s.drop at_)⟩,(oW nY (s.drop at_)).length):=by
  rw [hcons]; rfl
 rw [hone]
 generalize hW:uW=W at *
 generalize hsg:wA=sg at *
 simp only [HT] at hrun
 generalize hR:nR (s.drop at_)=r at *
 have hw:IntKind.wrap .i64 ((at_:Int)+r.length)=(at_:Int)+r.length:=by rw [wrap64] <;> omega
 have happ:∀(a:Int) (c:List kM) (hc:c.length=4),mG 4 40 [.front 0 0,.cells [.int .i64 0,.int .i64 0],.map W,.cells [.str s,.int .i64 a,.map 2,.slice sg .no,.slice out (.own 4)],.front out.length (w8 out),.cells c,.front 1 4] (.slice out (.own 4)) (.slice [c] (.own 6)) =
   some (.slice (out++[c]) (.own 4),[.front 0 0,.cells [.int .i64 0,.int .i64 0],.map W,.cells [.str s,.int .i64 a,.map 2,.slice sg .no,.slice out (.own 4)],.front (out.length+1) 4,.cells c,.front 1 4]):=by
  intro a c hc
  have h1:(out.length+1) * 40≤140737488355328:=by omega
  have h2:out.length+1≤140737488355328:=by omega
  have h3:w8 out=4∨out.length=0∧w8 out=0:=by
   rcases hfr with h | ⟨h,h'⟩
   ·exact .inl h
   ·exact .inr ⟨by simp [h],h'⟩
  have hall:[c].all (fun r=>r.length == 4)=true:=by simp [hc]
  have hget:([.front 0 0,.cells [.int .i64 0,.int .i64 0],.map W,.cells [.str s,.int .i64 a,.map 2,.slice sg .no,.slice out (.own 4)],.front out.length (w8 out),.cells c,.front 1 4]:kP)[4]?=some (.front out.length (w8 out)):=rfl
  simp only [mG,pY,hall,if_true,hget,ac8,ad0,al6,h1,h2,h3,and_self]
  rfl
 by_cases hl:pI s[at_]=true
 ·by_cases h40:40 < r.length
  ·have h40':(40:Int) < r.length:=by omega
   by_cases hm:r∈uI
   ·simp [Sa,HL,hi,lS,lK,lD,putCells,Pk,hl,hrun,oL,hlook,hm,h40,h40',lY,z6 hW4]
   ·simp [Sa,HL,hi,lS,lK,lD,putCells,Pk,hl,hrun,oL,hlook,hm,h40,h40',lY,z6 hW4]
  ·have h40':¬(40:Int) < r.length:=by omega
   by_cases hm:r∈uI
   ·have hap:=happ ((at_:Int)+r.length) [.int .i64 3,.int .i64 at_,.int .i64 0,.str r] rfl
    simp [Sa,HL,hi,lS,lK,lD,putCells,Pk,hl,hrun,oL,hlook,hm,h40,h40',hw,nL,oB,kY,pK,lP,mL,kW,tS,n_,kM.C8,rowsOf,hap,lY,z6 hW4,Token.cells,EV]
   ·have hap:=happ ((at_:Int)+r.length) [.int .i64 1,.int .i64 at_,.int .i64 0,.str r] rfl
    simp [Sa,HL,hi,lS,lK,lD,putCells,Pk,hl,hrun,oL,hlook,hm,h40,h40',hw,nL,oB,kY,pK,lP,mL,kW,tS,n_,kM.C8,rowsOf,hap,lY,z6 hW4,Token.cells,EV]
 ·have hlf:pI s[at_]=false:=by simpa using hl
  by_cases hd:isDigit s[at_]=true
  ·have hr0:r≠[]:=by
    rw [←hR,AY ha]; simp [isWord,hd]
   have hnum:=aJg r (by omega) hr0
   cases hn:rT r with
   | none =>
    rw [hn] at hnum
    simp at hnum
    simp [Sa,HL,hi,lS,lK,lD,putCells,Pk,hlf,Pl,hd,hrun,hnum,lY,z6 hW4]
   | some n =>
    rw [hn] at hnum
    simp at hnum
    have hap:=happ ((at_:Int)+r.length) [.int .i64 2,.int .i64 at_,.int .i64 n,.str []] rfl
    simp [Sa,HL,hi,lS,lK,lD,putCells,Pk,hlf,Pl,hd,hrun,hnum,hw,nL,oB,kY,pK,lP,mL,kW,tS,n_,kM.C8,rowsOf,hap,lY,z6 hW4,Token.cells,EV]
  ·have hdf:isDigit s[at_]=false:=by simpa using hd
   obtain⟨j,hloop⟩:=ab4 s out hs at_ ha 4 at_ 0 [] 0 (ah9 _)
   rw [hW,hsg] at hloop
   have hsl:nY.length=26:=rfl
   have hsgm:sg=nY.map fun t=>[.str t]:=by rw [←hsg]; rfl
   rw [←hsgm] at hloop
   have hsglen:sg.length=26:=by rw [hsgm]; rfl
   simp only [List.drop_zero,hsl,HT,Int.ofNat_eq_natCast,ac7] at hloop
   generalize hx:oW nY (s.drop at_)=x at *
   have hx':((nY.find? fun x=>decide ((s.drop at_).take x.length=x)).getD [])=x:=hx
   rw [hx'] at hloop
   have hxl:x.length≤65536:=by
    rw [←hx]
    unfold oW
    cases hf:nY.find? fun x=>decide ((s.drop at_).take x.length=x) with
    | none=>simp
    | some y =>
     have:=List.find?_some hf
     simp only [decide_eq_true_eq] at this
     have:=congrArg aa0 this
     simp at this ⊢
     omega
   have hwx:IntKind.wrap .i64 ((at_:Int)+x.length)=(at_:Int)+x.length:=by rw [wrap64] <;> omega
   by_cases hx0:x=[]
   ·simp [Sa,HL,hi,lS,lK,lD,putCells,Pk,hlf,Pl,hdf,hsglen,hloop,hx0,lY,z6 hW4]
   ·have hap:=happ ((at_:Int)+x.length) [.int .i64 4,.int .i64 at_,.int .i64 0,.str x] rfl
    simp [Sa,HL,hi,lS,lK,lD,putCells,Pk,hlf,Pl,hdf,hsglen,hloop,hx0,hwx,nL,oB,kY,pK,lP,mL,kW,tS,n_,kM.C8,rowsOf,hap,lY,z6 hW4,Token.cells,EV]
end
end
section
open Go Hk
theorem DN {l:List UInt8}{a n:Nat}{t:Token}(h:uP l a=some (t,n)):1≤n∧n≤l.length:=by
 unfold uP at h
 split at h
 ·cases h
 ·rename_i b r
  have hrl:=Ij (b::r)
  split at h
  ·rename_i hl
   split at h
   ·cases h
   ·simp only [ab0,af8] at h
    obtain⟨_,rfl⟩:=h
    refine⟨?_,hrl⟩
    simp [nR,ak2,isWord,hl]
  ·split at h
   ·rename_i hl hd
    split at h
    ·cases h
    ·simp only [ab0,af8] at h
     obtain⟨_,rfl⟩:=h
     refine⟨?_,hrl⟩
     simp [nR,ak2,isWord,hd]
   ·split at h
    ·cases h
    ·rename_i hx
     simp only [ab0,af8] at h
     obtain⟨_,rfl⟩:=h
     refine⟨List.length_pos_iff.2 hx,?_⟩
     unfold oW
     cases hf:nY.find? fun x=>decide ((b::r).take x.length=x) with
     | none=>simp
     | some y =>
      have:=List.find?_some hf
      simp only [decide_eq_true_eq] at this
      have:=congrArg aa0 this
      simp only [List.length_take] at this
      simp only [Option.getD_some]
      omega
def lexFrom (s:List UInt8) (at_:Nat) (out:List Token):List Token×Nat×Nat :=
 if h:lU s at_ < s.length then
  match uP (s.drop (lU s at_)) (lU s at_) with
  | none=>([],9,lU s at_)
  | some (t,n)=>lexFrom s (lU s at_+max 1 n) (out++[t])
 else(out++[⟨0,s.length,0,[]⟩],0,0)
termination_by s.length - at_
decreasing_by
 have:=wC s at_
 omega
def oI (s:List UInt8):List Token×Nat×Nat:=if 65536 < s.length then([],5,0) else lexFrom s 0 []
def HE (W:List (kM×kM)) (sg:List (List kM)) (s:List UInt8) (e p:Int) (at_:Int) (out:List (List kM)) (n sz:Nat):kP :=
 [.front 0 0,.cells [.int .i64 e,.int .i64 p],.map W,.cells [.str s,.int .i64 at_,.map 2,.slice sg .no,.slice out (.own 4)],.front n sz]
theorem SZ {W:List (kM×kM)}{sg:List (List kM)}{s:List UInt8}{e p at_:Int}{out:List (List kM)}{n sz:Nat}{bs:kP}(hW:W.all (fun e=>e.2.nP 5)=true) :
  l9 5 (.front 0 0::.cells [.int .i64 e,.int .i64 p]::.map W::.cells [.str s,.int .i64 at_,.map 2,.slice sg .no,.slice out (.own 4)]::.front n sz::bs) =
   some (HE W sg s e p at_ out n sz):=by
 simp [HE,l9,pF,hW]
theorem aiL (s:List UInt8) (hs:s.length≤65536) (at_:Nat) (ha:at_≤s.length) (out:List Token) (ho:out.length≤at_) (t0:kM) (ht0:t0=.slice [] (.own 0)) :
  ∃(tok:Tok) (at':Int) (out':List (List kM)) (n sz:Nat),mI (Jj KK 5) ([.str s,t0,.ptr 1 0,.ptr 3 0],HL uW wA s (at_:Nat) (out.map Token.cells)) =
   some (.ret,[.str s,.slice ((lexFrom s at_ out).1.map Token.cells) tok,.ptr 1 0,.ptr 3 0],HE uW wA s (lexFrom s at_ out).2.1 (lexFrom s at_ out).2.2 at' out' n sz):=by
 have hW5:=Db 5
 induction hn:s.length - at_ using Nat.strongRecOn generalizing at_ out with
 | _ n ih =>
  rw [lZ]
  have hge:=wC s at_
  have hle:=QR s at_ ha
  have h54:=aI0 uW wA s (out.map Token.cells) hW5 hs at_ ha
  rw [lexFrom]
  by_cases h:lU s at_ < s.length
  ·have hne:¬((lU s at_:Int)=s.length):=by omega
   have h55:=aI1 s (out.map Token.cells) hs (lU s at_) h (by simp; omega)
   simp only [h,dite_true]
   cases hone:uP (s.drop (lU s at_)) (lU s at_) with
   | none =>
    rw [hone] at h55
    refine⟨.no,(lU s at_:Nat),out.map Token.cells,(out.map Token.cells).length,w8 (out.map Token.cells),?_⟩
    generalize uW=W at *
    generalize wA=sg at *
    simp only [HL,al0] at h54 h55
    simp only [HL]
    simp [Jj,h54,h55,hne,lS,putCells,nL,oB,kY,pK,lP,mL,kS,SZ hW5,lC]
   | some tn =>
    obtain⟨t,k⟩:=tn
    rw [hone] at h55
    obtain⟨hk1,hk2⟩:=DN hone
    simp only [al3] at hk2
    have hmax:max 1 k=k:=by omega
    have step:Jj KK 5 ([.str s,t0,.ptr 1 0,.ptr 3 0],HL uW wA s (at_:Nat) (out.map Token.cells)) =
      some (.normal,[.str s,t0,.ptr 1 0,.ptr 3 0],HL uW wA s (lU s at_+k:Nat) ((out++[t]).map Token.cells)):=by
     subst ht0
     generalize uW=W at *
     generalize wA=sg at *
     simp only [HL,al0] at h54 h55
     simp only [HL]
     simp [Jj,h54,h55,hne,kS,SZ hW5,lC,HE]
    rw [step]
    simp only [af4,oA,hmax]
    exact ih (s.length - (lU s at_+k)) (by omega) (lU s at_+k) (by omega) (out++[t]) (by simp; omega) rfl
  ·have heq:lU s at_=s.length:=by omega
   simp only [h,dite_false]
   refine⟨.own 4,(s.length:Nat),out.map Token.cells,out.length+1,4,?_⟩
   have h1:(out.length+1) * 40≤140737488355328:=by omega
   have h2:out.length+1≤140737488355328:=by omega
   have h3:w8 (out.map Token.cells)=4∨(out.map Token.cells).length=0∧w8 (out.map Token.cells)=0:=by cases out <;> simp [w8]
   rw [heq] at h54
   generalize hm:out.map Token.cells=o at *
   have hol:o.length=out.length:=by rw [←hm]; simp
   generalize uW=W at *
   generalize wA=sg at *
   simp only [HL] at h54
   simp only [HL]
   have hap:mG 4 40 [.front 0 0,.cells [.int .i64 0,.int .i64 0],.map W,.cells [.str s,.int .i64 (s.length:Nat),.map 2,.slice sg .no,.slice o (.own 4)],.front o.length (w8 o),.front 1 4] (.slice o (.own 4)) (.slice [[.int .i64 0,.int .i64 (s.length:Nat),.int .i64 0,.str []]] (.own 5)) =
     some (.slice (o++[[.int .i64 0,.int .i64 (s.length:Nat),.int .i64 0,.str []]]) (.own 4),[.front 0 0,.cells [.int .i64 0,.int .i64 0],.map W,.cells [.str s,.int .i64 (s.length:Nat),.map 2,.slice sg .no,.slice o (.own 4)],.front (o.length+1) 4,.front 1 4]):=by
    have hget:([.front 0 0,.cells [.int .i64 0,.int .i64 0],.map W,.cells [.str s,.int .i64 (s.length:Nat),.map 2,.slice sg .no,.slice o (.own 4)],.front o.length (w8 o),.front 1 4]:kP)[4]?=some (.front o.length (w8 o)):=rfl
    have hall:([[.int .i64 0,.int .i64 (s.length:Nat),.int .i64 0,.str []]]:List (List kM)).all (fun r=>r.length == 4)=true:=rfl
    have h1':(o.length+1) * 40≤140737488355328:=by omega
    have h2':o.length+1≤140737488355328:=by omega
    simp only [mG,pY,hall,if_true,hget,ac8,ad0,al6,h1',h2',h3,and_self]
    rfl
   simp [Jj,h54,lS,putCells,kW,tS,n_,kM.C8,rowsOf,hap,kS,SZ hW5,lC]
   simp [HE,Token.cells,←hm]
theorem c49 (s:List UInt8) (h:kP):KK 49 [.str s] h=some (.ret (.tuple [.slice ((oI s).1.map Token.cells) .no,.agg [.int .i64 ((oI s).2.1:Nat),.int .i64 ((oI s).2.2:Nat)]]),h):=by
 refine lA rfl rfl (k9 (aA4 _ _ _) ?_)
 by_cases hs:65536 < s.length
 ·have hs':(65536:Int) < s.length:=by omega
  simp [m49,lK,lD,lS,putCells,hs',oI,hs,kN]
 ·have hs':¬(65536:Int) < s.length:=by omega
  obtain⟨tok,at',out',n,sz,hl⟩:=aiL s (by omega) 0 (ah9 _) [] (ah9 _) _ rfl
  have hlex:oI s=lexFrom s 0 []:=by simp [oI,hs]
  rw [hlex]
  have h52:=c98
  have h53:=c99
  generalize uW=W at *
  generalize wA=sg at *
  simp only [HL,HE,al1,Int.ofNat_eq_natCast,ac7,ad0,w8] at hl
  simp [m49,lK,lD,lS,putCells,hs',h52,h53,hl,kN]
  cases tok <;> rfl
end
section
open Go Hk
theorem R7 {s:List UInt8}{n:Nat}(h:n < s.length):mZ (s.drop n)=if s[n]=10 then 0 else mZ (s.drop (n+1))+1:=by
 rw [af5 h]; simp only [mZ,ak2]
 by_cases hb:s[n]=10 <;> simp [hb]
theorem Rm (b:UInt8) (n:Nat) (hn:n < 256):((b.toNat:Int)=n)↔b=UInt8.ofNat n:=by
 constructor
 ·intro h
  have:b.toNat=n:=by omega
  rw [←this]; simp
 ·intro h
  subst h
  simp; omega
theorem aiN (s:List UInt8) (hs:s.length≤65536) (n:Nat) (hn:n≤s.length) (x:Int) :
  mI (Jk KK 0) ([.str s,.int .i64 (n:Nat),.int .i64 x],[])=some (.exit 2,[.str s,.int .i64 (n+mZ (s.drop n):Nat),.int .i64 x],[]):=by
 induction hm:s.length - n using Nat.strongRecOn generalizing n with
 | _ m ih =>
  rw [lZ]
  by_cases h:n < s.length
  ·have hi:s[n]?=some s[n]:=ac0 h
   have h':(n:Int) < s.length:=by omega
   have hb:=Rm s[n] 10 (by omega)
   rw [R7 h]
   by_cases hc:s[n]=10
   ·have hb':(s[n].toNat:Int)=10:=hb.2 hc
    simp [Jk,h',hi,hb',hc,nS]
   ·have hb':¬(s[n].toNat:Int)=10:=fun e=>hc (hb.1 e)
    have w:IntKind.wrap .i64 ((n:Int)+1)=(n:Int)+1:=by rw [wrap64] <;> omega
    have step:Jk KK 0 ([.str s,.int .i64 (n:Nat),.int .i64 x],[])=some (.normal,[.str s,.int .i64 (n+1:Nat),.int .i64 x],[]):=by
     simp [Jk,h',hi,hb',w,nS]
    rw [step]
    simp only [af4,oA]
    rw [ih (s.length - (n+1)) (by omega) (n+1) (by omega) rfl,if_neg hc]
    rw [show n+1+mZ (s.drop (n+1))=n+(mZ (s.drop (n+1))+1) by omega]
  ·have h':¬(n:Int) < s.length:=by omega
   have:s.drop n=[]:=List.drop_eq_nil_of_le (by omega)
   simp [Jk,h',this,mZ,nS]
theorem VF {s:List UInt8}{n:Nat}(h:n < s.length):(s.drop n).take 2=[47,47]↔s[n]=47∧s[n+1]?=some 47:=by
 rw [af5 h]
 by_cases h2:n+1 < s.length
 ·rw [af5 h2,List.take_succ_cons,List.take_succ_cons,List.take_zero,ac0 h2]
  simp only [List.cons.injEq,and_true,ab0]
 ·rw [List.drop_eq_nil_of_le (by omega),List.getElem?_eq_none (show s.length≤n+1 by omega)]; simp
theorem aiO (s:List UInt8) (hs:s.length≤65536) (at_:Nat) (ha:at_≤s.length) :
  mI (Dl KK 0) ([.str s,.int .i64 (at_:Nat),.int .i64 0],[])=some (.ret,[.str s,.int .i64 (lU s at_:Nat),.int .i64 (lU s at_:Nat)],[]) ∨
  mI (Dl KK 0) ([.str s,.int .i64 (at_:Nat),.int .i64 0],[])=some (.exit 0,[.str s,.int .i64 (lU s at_:Nat),.int .i64 0],[]):=by
 induction hm:s.length - at_ using Nat.strongRecOn generalizing at_ with
 | _ m ih =>
  rw [lZ,lU]
  by_cases h:at_ < s.length
  ·have hi:s[at_]?=some s[at_]:=ac0 h
   have h':(at_:Int) < s.length:=by omega
   have w:IntKind.wrap .i64 ((at_:Int)+1)=((at_+1:Nat):Int):=by rw [wrap64] <;> omega
   have hb:=Rm s[at_] 47 (by omega)
   have t2:=VF h
   by_cases hr:(s.drop at_).take 2=[47,47]
   ·obtain⟨e1,e2⟩:=t2.1 hr
    have h2:at_+1 < s.length:=by
     have:=(ab1.1 e2).1; exact this
    have h2':((at_+1:Nat):Int) < s.length:=by omega
    have e1':(s[at_].toNat:Int)=47:=hb.2 e1
    have hbl:qN s[at_]=false:=by rw [e1]; decide
    have hline:=aiN s hs at_ ha 0
    have hll:=zD (s.drop at_)
    have htw:=E2 hr
    simp only [al3] at hll
    have step:Dl KK 0 ([.str s,.int .i64 (at_:Nat),.int .i64 0],[])=some (.normal,[.str s,.int .i64 (at_+mZ (s.drop at_):Nat),.int .i64 0],[]):=by
     have hi2:m_ (.str s) (.int .i64 ((at_:Int)+1))=some (.int .u8 47):=by
      have:=Gf (s:=s) (k:=.i64) (i:=at_+1)
      rw [e2] at this; simpa using this
     simp only [ag1,ac7] at w h2'
     simp [Dl,h',w,h2',hi,e1',hi2,hline,nS]
    rw [step]
    simp only [af4,oA,h,dite_true,hbl,Bool.false_eq_true,if_false,hr,if_true]
    rw [show max 1 (mZ (s.drop at_))=mZ (s.drop at_) by omega]
    exact ih (s.length - (at_+mZ (s.drop at_))) (by omega) (at_+mZ (s.drop at_)) (by omega) rfl
   ·-- no remark
    have body:Dl KK 0 ([.str s,.int .i64 (at_:Nat),.int .i64 0],[])=if qN s[at_] then some (.normal,[.str s,.int .i64 (at_+1:Nat),.int .i64 0],[]) else some (.ret,[.str s,.int .i64 (at_:Nat),.int .i64 (at_:Nat)],[]):=by
     simp only [ag1,ac7] at w
     by_cases h2:at_+1 < s.length
     ·have h2':((at_:Int)+1) < s.length:=by omega
      by_cases e1:s[at_]=47
      ·have e1':(s[at_].toNat:Int)=47:=hb.2 e1
       have e2:¬s[at_+1]=47:=fun e=>hr (t2.2 ⟨e1,by rw [ac0 h2,e]⟩)
       have e2':¬(s[at_+1].toNat:Int)=47:=fun e=>e2 ((Rm s[at_+1] 47 (by omega)).1 e)
       have hi2:m_ (.str s) (.int .i64 ((at_:Int)+1))=some (by8 s[at_+1]):=by
        have:=Gf (s:=s) (k:=.i64) (i:=at_+1)
        rw [ac0 h2] at this; simpa using this
       have hbl:qN s[at_]=false:=by rw [e1]; decide
       have c47:∀h,KK 112 [.int .u8 47] h=some (.ret (.bool false),h):=fun h=>ayK 47 h
       simp [Dl,h',w,h2',hi,e1',hi2,e2',c47,hbl,nS]
      ·have e1':¬(s[at_].toNat:Int)=47:=fun e=>e1 (hb.1 e)
       cases hbl:qN s[at_] <;> simp [Dl,h',w,h2',hi,e1',ayK,hbl,nS]
     ·have h2':¬((at_:Int)+1) < s.length:=by omega
      cases hbl:qN s[at_] <;> simp [Dl,h',w,h2',hi,ayK,hbl,nS]
    rw [body]
    simp only [h,dite_true,hr,if_false]
    cases hbl:qN s[at_] with
    | true =>
     simp only [if_true,af4,oA]
     exact ih (s.length - (at_+1)) (by omega) (at_+1) (by omega) rfl
    | false=>left; simp
  ·right
   have h':¬(at_:Int) < s.length:=by omega
   simp [Dl,h',h,nS]
theorem c55 (s:List UInt8) (hs:s.length≤65536) (at_:Nat) (ha:at_≤s.length) (h:kP):KK 55 [.str s,.int .i64 (at_:Nat)] h=some (.ret (.int .i64 (lU s at_:Nat)),h):=by
 refine lA rfl rfl (k9 (aA8 _ _ _ _) ?_)
 simp only [m55,Nb,ad0]
 rcases aiO s hs at_ ha with hl | hl <;> rw [hl] <;> simp [kN]
def Lm (t:List UInt8):List UInt8→Bool
 | []=>t.isPrefixOf []
 | b::l=>t.isPrefixOf (b::l) || Lm t l
def Ky:List (List UInt8)→List UInt8
 | []=>[32]
 | w::ws=>32::(w++Ky ws)
theorem QL:∀(r w:List UInt8) (J:List UInt8),32 ∉ r→32 ∉ w→((r++[32]).isPrefixOf (w++32::J)=decide (r=w))
 | [],[],J,_,_=>by simp
 | [],b::w,J,_,hw=>by
  have:¬(32:UInt8)=b:=fun e=>hw (by simp [e])
  simp [List.isPrefixOf,this]
 | a::r,[],J,hr,_=>by
  have:¬a=(32:UInt8):=fun e=>hr (by simp [e])
  simp [List.isPrefixOf,this]
 | a::r,b::w,J,hr,hw=>by
  have ih:=QL r w J (fun h=>hr (by simp [h])) (fun h=>hw (by simp [h]))
  by_cases hab:a=b
  ·subst hab; simp [List.isPrefixOf,ih]
  ·simp [List.isPrefixOf,hab]
theorem WR (ws:List (List UInt8)):∃J,Ky ws=32::J:=by cases ws <;> exact⟨_,rfl⟩
theorem UB (t:List UInt8):∀(w J:List UInt8),32 ∉ w→Lm (32::t) (w++J)=Lm (32::t) J
 | [],J,_=>rfl
 | b::w,J,hw=>by
  have:¬(32:UInt8)=b:=fun e=>hw (by simp [e])
  have hb:((32:UInt8) == b)=false:=by simp [this]
  simp only [af2,Lm,List.isPrefixOf,hb,Bool.false_and,Bool.false_or]
  exact UB t w J (fun h=>hw (by simp [h]))
theorem HH (r:List UInt8) (hr:32 ∉ r):∀(ws:List (List UInt8)),(∀w∈ws,32 ∉ w)→Lm (32::(r++[32])) (Ky ws)=decide (r∈ws)
 | [],_=>by cases r <;> simp [Ky,Lm,List.isPrefixOf]
 | w::ws,hw=>by
  obtain⟨J,hJ⟩:=WR ws
  have ih:=HH r hr ws (fun w h=>hw w (by simp [h]))
  have hp:=QL r w J hr (hw w (by simp))
  simp only [Ky,Lm,List.isPrefixOf,beq_self_eq_true,Bool.true_and]
  rw [UB _ w _ (hw w (by simp)),ih,hJ,hp]
  simp [List.mem_cons]
theorem UA (t q:List UInt8) (b:UInt8) (r:List UInt8) (h:q=b::r):Lm t q=(t.isPrefixOf q || Lm t r):=by subst h; rfl
theorem ab6 (l t:List UInt8) (hl:l.length≤65536) (ht:t.length≤131072) (h1:1≤t.length) (i:Nat) (hi:i≤l.length) :
  (Lm t (l.drop i)=true∧∃j:Int,mI (Ea KK 0) ([.str l,.bool false,.str t,.int .i64 (i:Nat)],[])=some (.ret,[.str l,.bool true,.str t,.int .i64 j],[])) ∨
  (Lm t (l.drop i)=false∧∃j:Int,mI (Ea KK 0) ([.str l,.bool false,.str t,.int .i64 (i:Nat)],[])=some (.exit 0,[.str l,.bool false,.str t,.int .i64 j],[])):=by
 induction hm:l.length - i using Nat.strongRecOn generalizing i with
 | _ m ih =>
  rw [lZ]
  have w1:IntKind.wrap .i64 ((i:Int)+t.length)=((i+t.length:Nat):Int):=by rw [wrap64] <;> omega
  have w2:IntKind.wrap .i64 ((i:Int)+1)=(i:Int)+1:=by rw [wrap64] <;> omega
  by_cases h:i+t.length≤l.length
  ·have h':((i+t.length:Nat):Int)≤l.length:=by omega
   have hsl:=qH (s:=l) (lo:=some (.int .i64 (i:Int))) (hi:=some (.int .i64 ((i+t.length:Nat):Int))) p7 p7 (by omega) h
   rw [show i+t.length - i=t.length by omega] at hsl
   have hil:i < l.length:=by omega
   have hcons:=af5 hil
   have hpre:t.isPrefixOf (l.drop i)=decide ((l.drop i).take t.length=t):=by
    rw [Bool.eq_iff_iff]
    simp only [List.isPrefixOf_iff_prefix,decide_eq_true_eq]
    constructor
    ·intro hp; exact(List.prefix_iff_eq_take.1 hp).symm
    ·intro hp; exact List.prefix_iff_eq_take.2 hp.symm
   simp only [ag1] at w1 h' hsl
   by_cases hp:(l.drop i).take t.length=t
   ·left
    refine⟨?_,i,?_⟩
    ·rw [UA t _ _ _ hcons,hpre,decide_eq_true hp]; rfl
    ·simp [Ea,w1,h',hsl,hp,nS]
   ·have hin:Lm t (l.drop i)=Lm t (l.drop (i+1)):=by
     rw [UA t _ _ _ hcons,hpre,decide_eq_false hp]; rfl
    have step:Ea KK 0 ([.str l,.bool false,.str t,.int .i64 (i:Nat)],[])=some (.normal,[.str l,.bool false,.str t,.int .i64 (i+1:Nat)],[]):=by
     simp [Ea,w1,w2,h',hsl,hp,nS]
    rw [step,hin]
    simp only [af4,oA]
    exact ih (l.length - (i+1)) (by omega) (i+1) (by omega) rfl
  ·right
   have h':¬((i:Int)+t.length)≤l.length:=by omega
   simp only [ag1] at w1
   refine⟨?_,i,?_⟩
   ·have:∀(q:List UInt8),q.length < t.length→Lm t q=false:=by
     intro q
     induction q with
     | nil=>intro hq; cases t with | nil=>simp at h1 | cons a b=>rfl
     | cons b q ihq =>
      intro hq
      have hnp:t.isPrefixOf (b::q)=false:=by
       rw [Bool.eq_false_iff]
       intro hp
       have:=(List.isPrefixOf_iff_prefix.1 hp).length_le
       omega
      simp only [Lm,hnp,Bool.false_or]
      exact ihq (by simp at hq; omega)
    exact this _ (by simp; omega)
   ·simp [Ea,w1,h',nS]
theorem ayL (l s:List UInt8) (hl:l.length≤65536) (hs:s.length≤65536) (h:kP):KK 117 [.str l,.str s] h=some (.ret (.bool (Lm (32::(s++[32])) l)),h):=by
 refine lA rfl rfl (k9 (aqM _ _ _ _) ?_)
 have e1:1+s.length≤4611686018427387904:=by omega
 have e2:s.length+1+1≤4611686018427387904:=by omega
 have hloop:=ab6 l (32::(s++[32])) hl (by simp; omega) (by simp) 0 (ah9 _)
 simp only [List.drop_zero,Int.ofNat_eq_natCast,ac7] at hloop
 rcases hloop with ⟨hi,j,hlp⟩ | ⟨hi,j,hlp⟩
 ·rw [hi]; simp [aAl,e1,e2,hlp,kN]
 ·rw [hi]; simp [aAl,e1,e2,hlp,kN]
end
section
open Go Hk
def sL (hex:Bool):List UInt8→Nat→Option Nat
 | [],n=>some n
 | b::r,n=>match sR hex b with
  | none=>none
  | some v=>sL hex r (n * mQ hex+v)
theorem Xt (hex:Bool):∀(l:List UInt8) (n r:Nat),sL hex l n=some r→n * mQ hex ^ l.length≤r
 | [],n,r,h=>by simp [sL] at h; simp [h]
 | b::l,n,r,h=>by
  simp only [sL] at h
  cases hv:sR hex b with
  | none=>rw [hv] at h; cases h
  | some v =>
   rw [hv] at h
   have:=Xt hex l _ r h
   rw [ac8,Nat.pow_succ,Nat.mul_comm (mQ hex ^ l.length),←Nat.mul_assoc]
   exact Nat.le_trans (aj0 _ (Nat.le_add_right _ _)) this
theorem T4 (hex:Bool) (k:Nat):1≤mQ hex ^ k:=Nat.one_le_pow _ _ (by cases hex <;> decide)
theorem LV (hex:Bool):∀(l:List UInt8) (n:Nat),n≤4294967295→oG hex l n=match sL hex l n with | some r=>if r≤4294967295 then some r else none | none=>none
 | [],n,h=>by simp [oG,sL,h]
 | b::l,n,h=>by
  simp only [oG,sL]
  cases hv:sR hex b with
  | none=>rfl
  | some v =>
   simp only []
   rw [Nat.mul_comm (mQ hex) n]
   by_cases hb:4294967295 < n * mQ hex+v
   ·rw [if_pos hb]
    cases hr:sL hex l (n * mQ hex+v) with
    | none=>rfl
    | some r =>
     have:=Xt hex l _ r hr
     have h1:=T4 hex l.length
     have:n * mQ hex+v≤r:=Nat.le_trans (Nat.le_mul_of_pos_right _ h1) this
     simp only []
     rw [if_neg (by omega)]
   ·rw [if_neg hb]
    exact LV hex l _ (by omega)
theorem adQ {hex:Bool}{b:UInt8}{v:Nat}(h:sR hex b=some v):v+1≤mQ hex:=by
 unfold sR at h
 split at h
 ·rename_i hd; cases h; simp [isDigit] at hd; cases hex <;> simp [mQ] <;> omega
 ·split at h
  ·rename_i hd; cases h; simp at hd; obtain⟨h1,h2,h3⟩:=hd; subst h1; simp [mQ]; omega
  ·cases h
theorem Qp (hex:Bool) (s:List UInt8) (hs:s.length≤65536) (i n:Nat) (hi:i≤s.length) (hb:(n+1) * mQ hex ^ (s.length - i)≤2199023255552) :
  ∃(n' j:Int),mI (C3 KK 0) ([.str s,.int .i64 0,.int .i64 (mQ hex:Nat),.int .i64 (n:Nat),.int .i64 (i:Nat)],[]) =
   some (match sL hex (s.drop i) n with
    | some r=>(.exit 0,[.str s,.int .i64 0,.int .i64 (mQ hex:Nat),.int .i64 (r:Nat),.int .i64 j],[])
    | none=>(.ret,[.str s,.int .i64 (-1),.int .i64 (mQ hex:Nat),.int .i64 n',.int .i64 j],[])):=by
 induction hm:s.length - i using Nat.strongRecOn generalizing i n with
 | _ m ih =>
  rw [lZ]
  by_cases h:i < s.length
  ·have hx:s[i]?=some s[i]:=ac0 h
   have h':(i:Int) < s.length:=by omega
   have hdrop:=af5 h
   rw [hdrop]
   generalize hc:s[i]=b at *
   have hb8:=aw7 b
   have e1:((97:Int)≤b.toNat)↔97≤b.toNat:=by omega
   have e2:((b.toNat:Int)≤102)↔b.toNat≤102:=by omega
   have w0:IntKind.wrap .i64 (b.toNat:Int)=b.toNat:=by rw [wrap64] <;> omega
   have w1:IntKind.wrap .i64 ((b.toNat:Int) - 48)=(b.toNat:Int) - 48:=by rw [wrap64] <;> omega
   have w2:IntKind.wrap .i64 ((b.toNat:Int) - 97)=(b.toNat:Int) - 97:=by rw [wrap64] <;> omega
   have w3:IntKind.wrap .i64 ((b.toNat:Int) - 97+10)=(b.toNat:Int) - 97+10:=by rw [wrap64] <;> omega
   have wi:IntKind.wrap .i64 ((i:Int)+1)=(i:Int)+1:=by rw [wrap64] <;> omega
   cases hv:sR hex b with
   | none =>
    refine⟨n,i,?_⟩
    have hd:isDigit b=false:=by
     cases hd:isDigit b with
     | false=>rfl
     | true=>simp [sR,hd] at hv
    simp only [sL,hv]
    cases hex with
    | true =>
     by_cases h1:97≤b.toNat <;> by_cases h2:b.toNat≤102
     ·simp [sR,hd,h1,h2] at hv
     all_goals simp [C3,h',hx,w0,w1,Pj,hd,e1,e2,h1,h2,mQ,nS]
    | false =>
     by_cases h1:97≤b.toNat <;> by_cases h2:b.toNat≤102 <;> simp [C3,h',hx,w0,w1,Pj,hd,e1,e2,h1,h2,mQ,nS]
   | some v =>
    have hvl:=adQ hv
    have hpow:mQ hex ^ (s.length - i)=mQ hex ^ (s.length - (i+1)) * mQ hex:=by rw [←Nat.pow_succ]; congr 1; omega
    have hb2:(n * mQ hex+v+1) * mQ hex ^ (s.length - (i+1))≤2199023255552:=by
     refine Nat.le_trans ?_ hb
     rw [hpow,Nat.mul_comm (mQ hex ^ _) (mQ hex),←Nat.mul_assoc,Nat.add_mul n 1,Nat.one_mul]
     exact aj0 _ (by omega)
    have hsmall:n * mQ hex+v+1≤2199023255552:=Nat.le_trans (Nat.le_mul_of_pos_right _ (T4 hex _)) hb2
    have hmul0:(0:Int)≤(n:Int) * (mQ hex:Nat):=by have:=Int.natCast_nonneg (n * mQ hex); rwa [Int.natCast_mul] at this
    have hmul1:(n:Int) * (mQ hex:Nat)+v+1≤2199023255552:=by
     have:((n * mQ hex+v+1:Nat):Int)≤2199023255552:=by omega
     simpa [ag1,Int.natCast_mul] using this
    have w4:IntKind.wrap .i64 ((n:Int) * (mQ hex:Nat))=(n:Int) * (mQ hex:Nat):=by rw [wrap64] <;> omega
    have w5:IntKind.wrap .i64 ((n:Int) * (mQ hex:Nat)+v)=(n:Int) * (mQ hex:Nat)+v:=by rw [wrap64] <;> omega
    obtain⟨n',j,hl⟩:=ih (s.length - (i+1)) (by omega) (i+1) (n * mQ hex+v) (by omega) hb2 rfl
    refine⟨n',j,?_⟩
    have step:C3 KK 0 ([.str s,.int .i64 0,.int .i64 (mQ hex:Nat),.int .i64 (n:Nat),.int .i64 (i:Nat)],[]) =
      some (.normal,[.str s,.int .i64 0,.int .i64 (mQ hex:Nat),.int .i64 (n * mQ hex+v:Nat),.int .i64 (i+1:Nat)],[]):=by
     cases hd:isDigit b with
     | true =>
      have hr:48≤b.toNat∧b.toNat≤57:=by simpa [isDigit] using hd
      have hvv:v=b.toNat - 48:=by simp [sR,hd] at hv; exact hv.symm
      have hvi:(b.toNat:Int) - 48=v:=by omega
      rw [hvi] at w1
      have h1:¬97≤b.toNat:=by omega
      simp [C3,h',hx,w0,hvi,w1,Pj,hd,e1,h1,w4,w5,wi,nS]
     | false =>
      cases hex with
      | false=>simp [sR,hd] at hv
      | true =>
       by_cases h1:97≤b.toNat
       ·by_cases h2:b.toNat≤102
        ·have hvv:v=b.toNat - 87:=by simp [sR,hd,h1,h2] at hv; exact hv.symm
         have hvi:(b.toNat:Int) - 97+10=v:=by omega
         rw [hvi] at w3
         simp only [mQ,if_true,ac7] at w4 w5
         simp [C3,h',hx,w0,w1,w2,hvi,w3,e1,e2,h1,h2,mQ,w4,w5,wi,nS]
        ·simp [sR,hd,h1,h2] at hv
       ·simp [sR,hd,h1] at hv
    rw [step]
    simp only [af4,oA]
    rw [hl]
    simp only [sL,hv]
  ·have h':¬(i:Int) < s.length:=by omega
   have:s.drop i=[]:=List.drop_eq_nil_of_le (by omega)
   refine⟨n,i,?_⟩
   simp [C3,h',this,sL,nS]
def Xj (s:List UInt8):Int:=match rT s with | some n=>n | none=>-1
theorem aI5 (s:List UInt8) (hs:s.length≤65536) (h0:s≠[]) (h:kP):KK 116 [.str s] h=some (.ret (.int .i64 (Xj s)),h):=by
 refine lA rfl rfl (k9 (aqL _ _ _) ?_)
 by_cases hp:s.take 2=[48,120]
 ·have hl2:2≤s.length:=by have:=congrArg aa0 hp; simp at this; omega
  have hl2':(2:Int)≤s.length:=by omega
  have s1:=qH (s:=s) (lo:=none) (hi:=some (.int .i64 ((2:Nat):Int))) xZ p7 (by omega) hl2
  have s2:=qH (s:=s) (lo:=some (.int .i64 ((2:Nat):Int))) (hi:=none) p7 xZ hl2 (ac5 _)
  have e:(s.drop 2).take (s.length - 2)=s.drop 2:=List.take_of_length_le (by simp)
  rw [e] at s2
  simp only [ac7,List.drop_zero,Nat.sub_zero,hp] at s1 s2
  have hn:rT s=if s.drop 2=[]∨8 < (s.drop 2).length then none else oG true (s.drop 2) 0:=by simp only [rT,hp,if_true]
  have hrl:(s.drop 2).length≤65536:=by simp; omega
  unfold Xj
  rw [hn]
  generalize s.drop 2=r at *
  by_cases hl:8 < r.length
  ·have hl':(8:Int) < r.length:=by omega
   simp [GI,hl2',s1,s2,hl,hl',kN]
  ·have hl':¬(8:Int) < r.length:=by omega
   by_cases he:r=[]
   ·subst he
    simp [GI,hl2',s1,s2,kN]
   ·have hpw:(0+1) * mQ true ^ (r.length - 0)≤2199023255552:=by
     have:mQ true ^ r.length≤16 ^ 8:=Nat.pow_le_pow_right (by decide) (by omega)
     simp only [Nat.sub_zero,al6,Nat.one_mul]; omega
    obtain⟨n',j,hloop⟩:=Qp true r hrl 0 0 (ah9 _) hpw
    simp only [mQ,if_true,List.drop_zero,Int.ofNat_eq_natCast,ac7] at hloop
    rw [if_neg (by simp [he,hl]),LV true r 0 (by omega)]
    cases hd:sL true r 0 with
    | none=>rw [hd] at hloop; simp [GI,hl2',s1,s2,he,hl',hloop,kN]
    | some v =>
     rw [hd] at hloop
     by_cases hv:v≤4294967295
     ·have hv':¬(4294967296:Int)≤v:=by omega
      simp [GI,hl2',s1,s2,he,hl',hloop,hv,hv',kN]
     ·have hv':(4294967296:Int)≤v:=by omega
      simp [GI,hl2',s1,s2,he,hl',hloop,hv,hv',kN]
 ·-- no '0x' ahead: the test of the first two bytes fails,whatever the length
  have hn:rT s=if s[0]?=some 48∧s≠[48] then none else oG false s 0:=by simp only [rT,hp,if_false]
  obtain⟨b,r,hbr⟩:∃b r,s=b::r:=by cases s with | nil=>exact absurd rfl h0 | cons b r=>exact⟨b,r,rfl⟩
  have hs0:s[0]?=some b:=by rw [hbr]; rfl
  have hlen:s.length=r.length+1:=by rw [hbr]; rfl
  have ht:((48:UInt8).toNat:Int)=48:=rfl
  have hb48:((b.toNat:Int)=48)↔b=48:=by
   constructor
   ·intro h; exact UInt8.toNat_inj.1 (by simpa using (by omega:b.toNat=48))
   ·intro h; rw [h]; rfl
  unfold Xj
  rw [hn]
  have key:∀(X:Option (vG×kP)),(∀(hten:10 < s.length∨(1 < s.length∧b=48)),X=some (.ret (.int .i64 (-1)),[])) →
    (∀(hten:¬(10 < s.length∨(1 < s.length∧b=48))),X=some (.ret (.int .i64 (match oG false s 0 with | some n=>(n:Int) | none=>-1)),[])) →
    X=some (.ret (.int .i64 (match (if s[0]?=some 48∧s≠[48] then none else oG false s 0) with | some n=>(n:Int) | none=>-1)),[]):=by
   intro X h1 h2
   by_cases hten:10 < s.length∨(1 < s.length∧b=48)
   ·rw [h1 hten]
    by_cases hz:s[0]?=some 48∧s≠[48]
    ·rw [if_pos hz]
    ·rw [if_neg hz]
     have hb:b≠48:=by
      intro hb
      refine hz ⟨by rw [hs0,hb],fun e=>?_⟩
      rw [e] at hten
      simp at hten
     have h10:10 < s.length:=by
      rcases hten with h | ⟨_,h⟩
      ·exact h
      ·exact absurd h hb
     have:oG false s 0=none:=by
      rw [LV false s 0 (by omega)]
      cases hr:sL false s 0 with
      | none=>rfl
      | some v =>
       rw [hbr] at hr
       simp only [sL] at hr
       cases hv:sR false b with
       | none=>rw [hv] at hr; cases hr
       | some d =>
        rw [hv] at hr
        have hd:isDigit b=true:=by
         cases hd:isDigit b with
         | true=>rfl
         | false=>simp [sR,hd] at hv
        have hdr:48≤b.toNat∧b.toNat≤57:=by simpa [isDigit] using hd
        have hdv:d=b.toNat - 48:=by simp [sR,hd] at hv; exact hv.symm
        have hb':b.toNat≠48:=fun e=>hb (hb48.1 (by omega))
        have hge:=Xt false r _ v hr
        have hp10:(10:Nat) ^ 10≤10 ^ r.length:=Nat.pow_le_pow_right (by decide) (by omega)
        have h1d:1≤0 * mQ false+d:=by omega
        have:1 * 10 ^ r.length≤(0 * mQ false+d) * mQ false ^ r.length:=aj0 _ h1d
        simp only []
        rw [if_neg (by omega)]
     rw [this]
   ·rw [h2 hten]
    by_cases hz:s[0]?=some 48∧s≠[48]
    ·exfalso
     obtain⟨z1,z2⟩:=hz
     rw [hs0] at z1
     cases z1
     refine hten (.inr ⟨?_,rfl⟩)
     cases r with
     | nil=>exact absurd hbr z2
     | cons c r=>rw [hlen]; simp
    ·rw [if_neg hz]
  refine key _ (fun hten=>?_) (fun hten=>?_)
  ·by_cases hl2:2≤s.length
   ·have hl2':(2:Int)≤s.length:=by omega
    have s1:=qH (s:=s) (lo:=none) (hi:=some (.int .i64 ((2:Nat):Int))) xZ p7 (by omega) hl2
    simp only [ac7,List.drop_zero,Nat.sub_zero] at s1
    by_cases h10:10 < s.length
    ·have h10':(10:Int) < s.length:=by omega
     simp [GI,hl2',s1,hp,h10',kN]
    ·have h10':¬(10:Int) < s.length:=by omega
     have hb:=(hten.resolve_left h10).2
     have h1':(1:Int) < s.length:=by omega
     have hbt:=hb48.2 hb
     simp [GI,hl2',s1,hp,h10',h1',hs0,hbt,kN]
   ·omega
  ·have h10':¬(10:Int) < s.length:=by omega
   have hpw:(0+1) * mQ false ^ (s.length - 0)≤2199023255552:=by
    have:mQ false ^ s.length≤10 ^ 10:=Nat.pow_le_pow_right (by decide) (by omega)
    simp only [Nat.sub_zero,al6,Nat.one_mul]; omega
   obtain⟨n',j,hloop⟩:=Qp false s hs 0 0 (ah9 _) hpw
   simp only [mQ,Bool.false_eq_true,if_false,List.drop_zero,Int.ofNat_eq_natCast,ac7] at hloop
   rw [LV false s 0 (by omega)]
   have ahead:∀v,sL false s 0=v→GI KK (.str s) []=some (.ret (.int .i64 (match (match v with | some r=>if r≤4294967295 then some r else none | none=>none) with | some n=>(n:Int) | none=>-1)),[]):=by
    intro v hv
    rw [hv] at hloop
    have fin:∀(r:Nat),(4294967296:Int)≤r∨¬(4294967296:Int)≤r:=fun r=>Classical.em _
    by_cases hl2:2≤s.length
    ·have hl2':(2:Int)≤s.length:=by omega
     have s1:=qH (s:=s) (lo:=none) (hi:=some (.int .i64 ((2:Nat):Int))) xZ p7 (by omega) hl2
     simp only [ac7,List.drop_zero,Nat.sub_zero] at s1
     have h1':(1:Int) < s.length:=by omega
     have hbt:¬((b.toNat:Int)=48):=fun e=>hten (.inr ⟨by omega,hb48.1 e⟩)
     cases v with
     | none=>simp [GI,hl2',s1,hp,h10',h1',hs0,hbt,h0,hloop,kN]
     | some r =>
      by_cases hv:r≤4294967295
      ·have hv':¬(4294967296:Int)≤r:=by omega
       simp [GI,hl2',s1,hp,h10',h1',hs0,hbt,h0,hloop,hv,hv',kN]
      ·have hv':(4294967296:Int)≤r:=by omega
       simp [GI,hl2',s1,hp,h10',h1',hs0,hbt,h0,hloop,hv,hv',kN]
    ·have hl2':¬(2:Int)≤s.length:=by omega
     have h1':¬(1:Int) < s.length:=by omega
     cases v with
     | none=>simp [GI,hl2',h10',h1',h0,hloop,kN]
     | some r =>
      by_cases hv:r≤4294967295
      ·have hv':¬(4294967296:Int)≤r:=by omega
       simp [GI,hl2',h10',h1',h0,hloop,hv,hv',kN]
      ·have hv':(4294967296:Int)≤r:=by omega
       simp [GI,hl2',h10',h1',h0,hloop,hv,hv',kN]
   exact ahead _ rfl
end
section
open Go Hk
def wM:List (List UInt8):=nY.take 6
def Cr:List (List UInt8):=nY.drop 6
def Ql:List UInt8:=[32,60,60,32,62,62,32,61,61,32,33,61,32,60,61,32,62,61,32]
def Y0:List UInt8:=[32,40,32,41,32,123,32,125,32,91,32,93,32,44,32,59,32,58,32,61,32,43,32,45,32,42,32,38,32,124,32,94,32,126,32,33,32,60,32,62,32]
def Qm:List UInt8:=[32,102,110,32,112,117,98,32,115,101,99,32,111,117,116,32,108,101,116,32,118,97,114,32,105,102,32,101,108,115,101,32,102,111,114,32,109,97,120,32,114,101,116,117,114,110,32,117,51,50,32,117,56,32,109,97,115,107,32,109,117,108,104,105,32,99,97,114,114,121,32,115,101,108,101,99,116,32,119,111,114,100,32,114,111,114,32]
theorem W2:Ql=Ky wM:=by decide
theorem W1:Y0=Ky Cr:=by decide
theorem W3:Qm=Ky uI:=by decide
theorem az0 (a b:UInt8) (ha:a≠32):Lm (32::([a,b]++[32])) Ql=decide ([a,b]∈wM):=by
 by_cases hb:b=32
 ·subst hb
  have h1:Lm (32::([a,32]++[32])) Ql=false:=by simp [Lm,Ql,List.isPrefixOf]
  have h2:¬[a,32]∈wM:=by simp [wM,nY]
  rw [h1,decide_eq_false h2]
 ·rw [W2]
  refine HH [a,b] (by simp [Ne.symm ha,Ne.symm hb]) wM (by decide)
theorem azZ (a:UInt8) (ha:a≠32):Lm (32::([a]++[32])) Y0=decide ([a]∈Cr):=by
 rw [W1]
 exact HH [a] (by simp [Ne.symm ha]) Cr (by decide)
theorem apI (r:List UInt8) (hr:32 ∉ r):Lm (32::(r++[32])) Qm=decide (r∈uI):=by
 rw [W3]
 exact HH r hr uI (by decide)
theorem MV (l:List UInt8) (k:Nat):∀(T:List (List UInt8)),(∀x∈T,x.length=k)→T.find? (fun x=>decide (l.take x.length=x))=if l.take k∈T then some (l.take k) else none
 | [],_=>by simp
 | x::T,h=>by
  have hx:=h x (by simp)
  have ih:=MV l k T (fun y hy=>h y (by simp [hy]))
  rw [List.find?_cons,hx]
  by_cases he:l.take k=x
  ·simp [he]
  ·simp only [he,decide_false,ih,List.mem_cons,false_or]
theorem zY (l:List UInt8):oW nY l=if l.take 2∈wM then l.take 2 else if l.take 1∈Cr then l.take 1 else []:=by
 have h2:=MV l 2 wM (by decide)
 have h1:=MV l 1 Cr (by decide)
 have hs:nY=wM++Cr:=by decide
 unfold oW
 rw [hs,List.find?_append,h2,h1]
 by_cases e2:l.take 2∈wM <;> by_cases e1:l.take 1∈Cr <;> simp [e2,e1]
theorem Wo (s:List UInt8) (hs:s.length≤65536) (h:kP):KK 117 [.str [32,60,60,32,62,62,32,61,61,32,33,61,32,60,61,32,62,61,32],.str s] h=some (.ret (.bool (Lm (32::(s++[32])) Ql)),h):=ayL Ql s (by decide) hs h
theorem Rn (s:List UInt8) (hs:s.length≤65536) (h:kP):KK 117 [.str [32,40,32,41,32,123,32,125,32,91,32,93,32,44,32,59,32,58,32,61,32,43,32,45,32,42,32,38,32,124,32,94,32,126,32,33,32,60,32,62,32],.str s] h=some (.ret (.bool (Lm (32::(s++[32])) Y0)),h):=ayL Y0 s (by decide) hs h
theorem ayM (s:List UInt8) (hs:s.length≤65536) (h:kP):KK 117 [.str Qm,.str s] h=some (.ret (.bool (Lm (32::(s++[32])) Qm)),h):=ayL Qm s (by decide) hs h
theorem aI4 (s:List UInt8) (hs:s.length≤65536) (at_:Nat) (ha:at_ < s.length) (hb:s[at_]≠32) (h:kP):KK 115 [.str s,.int .i64 (at_:Nat)] h=some (.ret (.str (oW nY (s.drop at_))),h):=by
 refine lA rfl rfl (k9 (aqK _ _ _ _) ?_)
 rw [zY]
 have w2:IntKind.wrap .i64 ((at_:Int)+2)=((at_+2:Nat):Int):=by rw [wrap64] <;> omega
 have w1:IntKind.wrap .i64 ((at_:Int)+1)=((at_+1:Nat):Int):=by rw [wrap64] <;> omega
 have s1:=qH (s:=s) (lo:=some (.int .i64 (at_:Int))) (hi:=some (.int .i64 ((at_+1:Nat):Int))) p7 p7 (by omega) (by omega)
 rw [show at_+1 - at_=1 by omega] at s1
 have t1:(s.drop at_).take 1=[s[at_]]:=by rw [af5 ha]; rfl
 have i1:=azZ s[at_] hb
 rw [←t1] at i1
 have l1:((s.drop at_).take 1).length≤65536:=by rw [t1]; simp
 by_cases h2:at_+2≤s.length
 ·have h2':((at_+2:Nat):Int)≤s.length:=by omega
  have s2:=qH (s:=s) (lo:=some (.int .i64 (at_:Int))) (hi:=some (.int .i64 ((at_+2:Nat):Int))) p7 p7 (by omega) h2
  rw [show at_+2 - at_=2 by omega] at s2
  have h3:at_+1 < s.length:=by omega
  have t2:(s.drop at_).take 2=[s[at_],s[at_+1]]:=by rw [af5 ha,af5 h3]; rfl
  have i2:=az0 s[at_] s[at_+1] hb
  rw [←t2] at i2
  have l2:((s.drop at_).take 2).length≤65536:=by rw [t2]; simp
  generalize (s.drop at_).take 2=x2 at *
  generalize (s.drop at_).take 1=x1 at *
  simp only [ag1,ac7] at w1 w2 s1 s2 h2'
  by_cases e2:x2∈wM
  ·simp [ab5,w1,w2,h2',s2,Wo _ l2,i2,e2,kN]
  ·by_cases e1:x1∈Cr
   ·simp [ab5,w1,w2,h2',s1,s2,Wo _ l2,i2,e2,Rn _ l1,i1,e1,kN]
   ·simp [ab5,w1,w2,h2',s1,s2,Wo _ l2,i2,e2,Rn _ l1,i1,e1,kN]
 ·have h2':¬((at_+2:Nat):Int)≤s.length:=by omega
  have e2:¬(s.drop at_).take 2∈wM:=by
   have hlen:((s.drop at_).take 2).length=1:=by simp; omega
   intro hm
   have:∀x∈wM,x.length=2:=by decide
   have:=this _ hm
   omega
  rw [if_neg e2]
  generalize (s.drop at_).take 1=x1 at *
  simp only [ag1,ac7] at w1 w2 s1 h2'
  by_cases e1:x1∈Cr
  ·simp [ab5,w1,w2,h2',s1,Rn _ l1,i1,e1,kN]
  ·simp [ab5,w1,w2,h2',s1,Rn _ l1,i1,e1,kN]
def H2 (k p q:Int) (t:List UInt8):kP:=[.cells [.int .i64 0,.int .i64 0,.int .i64 0,.str []],.cells [.int .i64 k,.int .i64 p,.int .i64 q,.str t]]
theorem OF {k p q:Int}{t:List UInt8}:l9 2 [.cells [.int .i64 0,.int .i64 0,.int .i64 0,.str []],.cells [.int .i64 k,.int .i64 p,.int .i64 q,.str t]] =
  some [.cells [.int .i64 0,.int .i64 0,.int .i64 0,.str []],.cells [.int .i64 k,.int .i64 p,.int .i64 q,.str t]]:=by simp [l9]
theorem aiP (s:List UInt8) (hs:s.length≤65536) (at_ n:Nat) (hn:n≤s.length) (k p q:Int) (t:List UInt8) :
  mI (Jl KK 2) ([.str s,.int .i64 (at_:Nat),.ptr 0 0,.int .i64 0,.ptr 1 0,.int .i64 (n:Nat)],H2 k p q t) =
   some (.exit 0,[.str s,.int .i64 (at_:Nat),.ptr 0 0,.int .i64 0,.ptr 1 0,.int .i64 (n+(nR (s.drop n)).length:Nat)],H2 k p q t):=by
 induction hm:s.length - n using Nat.strongRecOn generalizing n with
 | _ m ih =>
  rw [lZ]
  by_cases h:n < s.length
  ·have hi:s[n]?=some s[n]:=ac0 h
   have h':(n:Int) < s.length:=by omega
   by_cases hw:isWord s[n]=true
   ·have w:IntKind.wrap .i64 ((n:Int)+1)=(n:Int)+1:=by rw [wrap64] <;> omega
    have step:Jl KK 2 ([.str s,.int .i64 (at_:Nat),.ptr 0 0,.int .i64 0,.ptr 1 0,.int .i64 (n:Nat)],H2 k p q t) =
      some (.normal,[.str s,.int .i64 (at_:Nat),.ptr 0 0,.int .i64 0,.ptr 1 0,.int .i64 (n+1:Nat)],H2 k p q t):=by
     cases hl:pI s[n] <;> cases hd:isDigit s[n] <;> simp [isWord,hl,hd] at hw <;>
      simp [Jl,H2,h',hi,Wn,Pj,hl,hd,w,kS,OF,lC]
    rw [step]
    simp only [af4,oA]
    rw [ih (s.length - (n+1)) (by omega) (n+1) (by omega) rfl,AY h,hw]
    simp; omega
   ·have hwf:isWord s[n]=false:=by simpa using hw
    have hl:pI s[n]=false:=by simp [isWord] at hwf; exact hwf.1
    have hd:isDigit s[n]=false:=by simp [isWord] at hwf; exact hwf.2
    rw [AY h,hwf]
    simp [Jl,H2,h',hi,Wn,Pj,hl,hd,kS,OF,lC]
  ·have h':¬(n:Int) < s.length:=by omega
   have:s.drop n=[]:=List.drop_eq_nil_of_le (by omega)
   simp [Jl,H2,h',this,nR,kS,OF,lC]
theorem Jx (l:List UInt8):∀b∈nR l,isWord b=true:=by
 unfold nR
 induction l with
 | nil=>simp
 | cons c l ih =>
  intro b hb
  by_cases hc:isWord c=true
  ·rw [ak2,hc] at hb
   rcases List.mem_cons.1 hb with rfl | hb
   ·exact hc
   ·exact ih b hb
  ·rw [ak2] at hb; simp [hc] at hb
theorem SH (l:List UInt8):(32:UInt8) ∉ nR l:=fun h=>by
 have:=Jx l 32 h
 simp [isWord,pI,isDigit] at this
theorem Eu {b:UInt8}(h:isDigit b=true):pI b=false:=by
 simp [isDigit] at h
 simp [pI]
 omega
theorem c56 (s:List UInt8) (hs:s.length≤65536) (at_:Nat) (ha:at_ < s.length) (hb:s[at_]≠32) :
  ∃(k p q:Int) (t:List UInt8) (n:Nat),(∀h,KK 56 [.str s,.int .i64 (at_:Nat)] h=some (.ret (.tuple [.agg [.int .i64 k,.int .i64 p,.int .i64 q,.str t],.int .i64 (n:Nat)]),h)) ∧
   match uP (s.drop at_) at_ with
   | some (u,m)=>[kM.int .i64 k,.int .i64 p,.int .i64 q,.str t]=u.cells∧n=m
   | none=>n=0:=by
 have hi:s[at_]?=some s[at_]:=ac0 ha
 have hcons:=af5 ha
 have hrl:=Ij (s.drop at_)
 simp only [al3] at hrl
 have hone:uP (s.drop at_) at_=if pI s[at_] then(if 40 < (nR (s.drop at_)).length then none else some (⟨if nR (s.drop at_)∈uI then 3 else 1,at_,0,nR (s.drop at_)⟩,(nR (s.drop at_)).length))
  else if isDigit s[at_] then(match rT (nR (s.drop at_)) with | none=>none | some n=>some (⟨2,at_,n,[]⟩,(nR (s.drop at_)).length))
  else if oW nY (s.drop at_)=[] then none else some (⟨4,at_,0,oW nY (s.drop at_)⟩,(oW nY (s.drop at_)).length):=by
  rw [hcons]; rfl
 rw [hone]
 have hloop:=fun k p q t=>aiP s hs at_ at_ (Nat.le_of_lt ha) k p q t
 have hsl:=qH (s:=s) (lo:=some (.int .i64 (at_:Int))) (hi:=some (.int .i64 ((at_+(nR (s.drop at_)).length:Nat):Int))) p7 p7 (by omega) (by omega)
 rw [show at_+(nR (s.drop at_)).length - at_=(nR (s.drop at_)).length by omega,OB] at hsl
 have hW:=ayM (nR (s.drop at_)) (by omega)
 rw [apI _ (SH _)] at hW
 have hnum:=aI5 (nR (s.drop at_)) (by omega)
 have hr0:isWord s[at_]=true→nR (s.drop at_)≠[]:=fun h=>by rw [AY ha,h]; simp
 have h117:=aI4 s hs at_ ha hb
 generalize nR (s.drop at_)=r at *
 generalize oW nY (s.drop at_)=x at *
 have ws:IntKind.wrap .i64 ((at_:Int)+r.length - at_)=r.length:=by rw [wrap64] <;> omega
 simp only [H2,ag1] at hloop hsl
 simp only [Qm] at hW
 by_cases hl:pI s[at_]=true
 ·have hd:isDigit s[at_]=false:=by
   cases hd:isDigit s[at_] with
   | false=>rfl
   | true=>rw [Eu hd] at hl; cases hl
  by_cases h40:40 < r.length
  ·have h40':(40:Int) < r.length:=by omega
   refine⟨if r∈uI then 3 else 1,at_,0,r,0,fun h=>lA rfl rfl (k9 (NH _ _ _ _) ?_),by simp [hl,h40]⟩
   by_cases hm:r∈uI <;>
    simp [m56,hi,lS,lK,lD,putCells,Wn,Pj,hl,hd,hloop,hsl,hW,hm,ws,h40',nL,oB,kY,pK,lP,mL,kN]
  ·have h40':¬(40:Int) < r.length:=by omega
   refine⟨if r∈uI then 3 else 1,at_,0,r,r.length,fun h=>lA rfl rfl (k9 (NH _ _ _ _) ?_),?_⟩
   ·by_cases hm:r∈uI <;>
     simp [m56,hi,lS,lK,lD,putCells,Wn,Pj,hl,hd,hloop,hsl,hW,hm,ws,h40',nL,oB,kY,pK,lP,mL,kN]
   ·by_cases hm:r∈uI <;> simp [hl,h40,hm,Token.cells]
 ·have hlf:pI s[at_]=false:=by simpa using hl
  by_cases hd:isDigit s[at_]=true
  ·have hr:=hr0 (by simp [isWord,hd])
   have hn:=hnum hr
   cases hv:rT r with
   | none =>
    have hnI:Xj r=-1:=by simp [Xj,hv]
    rw [hnI] at hn
    refine⟨2,at_,-1,[],0,fun h=>lA rfl rfl (k9 (NH _ _ _ _) ?_),by simp [hlf,hd]⟩
    simp [m56,hi,lS,lK,lD,putCells,Wn,Pj,hlf,hd,hloop,hsl,hn,nL,oB,kY,pK,lP,mL,kN]
   | some v =>
    have hnI:Xj r=v:=by simp [Xj,hv]
    rw [hnI] at hn
    have hneg:¬(v:Int) < 0:=by omega
    refine⟨2,at_,v,[],r.length,fun h=>lA rfl rfl (k9 (NH _ _ _ _) ?_),by simp [hlf,hd,Token.cells]⟩
    simp [m56,hi,lS,lK,lD,putCells,Wn,Pj,hlf,hd,hloop,hsl,hn,hneg,ws,nL,oB,kY,pK,lP,mL,kN]
  ·have hdf:isDigit s[at_]=false:=by simpa using hd
   refine⟨4,at_,0,x,x.length,fun h=>lA rfl rfl (k9 (NH _ _ _ _) ?_),?_⟩
   ·simp [m56,hi,lS,lK,lD,putCells,Wn,Pj,hlf,hdf,h117,nL,oB,kY,pK,lP,mL,kN]
   ·by_cases hx:x=[]
    ·simp [hlf,hdf,hx]
    ·simp [hlf,hdf,hx,Token.cells]
end
section
open Go Hk
theorem J2 (s:List UInt8) (a:Nat) (h:lU s a < s.length):qN s[lU s a]=false:=by
 fun_induction lU s a with
 | case1 a h1 h2 ih=>exact ih h
 | case2 a h1 h2 h3 ih=>exact ih h
 | case3 a h1 h2 h3=>simpa using h2
 | case4 a h1=>exact absurd h h1
theorem Sw {b:UInt8}(h:qN b=false):b≠32:=by
 intro e; subst e; simp [qN] at h
def HR (e p:Int) (n sz:Nat):kP:=[.front 0 0,.cells [.int .i64 e,.int .i64 p],.front n sz]
theorem OG {e p:Int}{n sz:Nat}{bs:kP}:l9 3 (.front 0 0::.cells [.int .i64 e,.int .i64 p]::.front n sz::bs)=some [.front 0 0,.cells [.int .i64 e,.int .i64 p],.front n sz]:=by simp [l9]
theorem aiD (s:List UInt8) (hs:s.length≤65536) (a0:Nat) (ha:a0≤s.length) (out:List Token) (ho:out.length≤a0) :
  (∃(l:List Token) (n sz:Nat),n=l.length∧l.length≤65536∧(sz=4∨l=[]∧sz=0)∧lexFrom s a0 out=(l++[⟨0,s.length,0,[]⟩],0,0) ∧
   mI (GN KK 3) ([.str s,.slice [] (.own 0),.ptr 1 0,.slice (out.map Token.cells) (.own 2),.int .i64 (lU s a0:Nat)],HR 0 0 out.length (w8 (out.map Token.cells))) =
    some (.exit 0,[.str s,.slice [] (.own 0),.ptr 1 0,.slice (l.map Token.cells) (.own 2),.int .i64 (s.length:Nat)],HR 0 0 n sz)) ∨
  (∃(p:Nat) (v:kM) (at':Int) (n sz:Nat),lexFrom s a0 out=([],9,p) ∧
   mI (GN KK 3) ([.str s,.slice [] (.own 0),.ptr 1 0,.slice (out.map Token.cells) (.own 2),.int .i64 (lU s a0:Nat)],HR 0 0 out.length (w8 (out.map Token.cells))) =
    some (.ret,[.str s,.slice [] .no,.ptr 1 0,v,.int .i64 at'],HR 9 p n sz)):=by
 induction hn:s.length - a0 using Nat.strongRecOn generalizing a0 out with
 | _ n ih =>
  rw [lZ]
  have hge:=wC s a0
  have hle:=QR s a0 ha
  rw [lexFrom]
  by_cases h:lU s a0 < s.length
  ·have h':(lU s a0:Int) < s.length:=by omega
   obtain⟨k,p,q,t,m,hc,hm⟩:=c56 s hs (lU s a0) h (Sw (J2 s a0 h))
   simp only [h,dite_true]
   cases hone:uP (s.drop (lU s a0)) (lU s a0) with
   | none =>
    rw [hone] at hm
    simp only [] at hm
    subst hm
    right
    refine⟨lU s a0,.slice (out.map Token.cells) (.own 2),(lU s a0:Nat),out.length,w8 (out.map Token.cells),rfl,?_⟩
    simp only [Int.ofNat_eq_natCast,ac7] at hc
    simp [GN,HR,h',hc,lK,lD,lS,putCells,kS,OG,lC]
   | some tn =>
    obtain⟨u,m'⟩:=tn
    rw [hone] at hm
    obtain⟨hcell,rfl⟩:=hm
    obtain⟨hk1,hk2⟩:=DN hone
    simp only [al3] at hk2
    have hmax:max 1 m=m:=by omega
    have w:IntKind.wrap .i64 ((lU s a0:Int)+m)=(lU s a0:Int)+m:=by rw [wrap64] <;> omega
    have h56:=c55 s hs (lU s a0+m) (by omega)
    have hm0:¬((m:Int)=0):=by omega
    have hm1:¬m=0:=by omega
    rw [hcell] at hc
    have step:GN KK 3 ([.str s,.slice [] (.own 0),.ptr 1 0,.slice (out.map Token.cells) (.own 2),.int .i64 (lU s a0:Nat)],HR 0 0 out.length (w8 (out.map Token.cells))) =
      some (.normal,[.str s,.slice [] (.own 0),.ptr 1 0,.slice ((out++[u]).map Token.cells) (.own 2),.int .i64 (lU s (lU s a0+m):Nat)],HR 0 0 (out++[u]).length (w8 ((out++[u]).map Token.cells))):=by
     have h1:(out.length+1) * 40≤140737488355328:=by omega
     have h2:out.length+1≤140737488355328:=by omega
     have h3:w8 (out.map Token.cells)=4∨out.length=0∧w8 (out.map Token.cells)=0:=by cases out <;> simp [w8]
     have hap:mG 4 40 [.front 0 0,.cells [.int .i64 0,.int .i64 0],.front out.length (w8 (out.map Token.cells)),.cells u.cells,.front 1 4] (.slice (out.map Token.cells) (.own 2)) (.slice [u.cells] (.own 4)) =
       some (.slice (out.map Token.cells++[u.cells]) (.own 2),[.front 0 0,.cells [.int .i64 0,.int .i64 0],.front (out.length+1) 4,.cells u.cells,.front 1 4]):=by
      have hall:[u.cells].all (fun r=>r.length == 4)=true:=rfl
      have hget:([.front 0 0,.cells [.int .i64 0,.int .i64 0],.front out.length (w8 (out.map Token.cells)),.cells u.cells,.front 1 4]:kP)[2]?=some (.front out.length (w8 (out.map Token.cells))):=rfl
      simp only [mG,pY,hall,if_true,hget,al0,ac8,ad0,al6,h1,h2,h3,and_self]
      rfl
     simp only [ag1] at h56
     simp only [Token.cells] at hap
     have hfr:=EV (out.map Token.cells) u.cells
     simp only [Token.cells] at hfr
     simp [GN,HR,h',hc,Token.cells,lK,lD,lS,putCells,hm0,hm1,kW,tS,n_,kM.C8,rowsOf,hap,w,h56,kS,OG,lC,hfr]
    rw [step]
    simp only [af4,oA,hmax]
    exact ih (s.length - (lU s a0+m)) (by omega) (lU s a0+m) (by omega) (out++[u]) (by simp; omega) rfl
  ·have heq:lU s a0=s.length:=by omega
   left
   simp only [h,dite_false]
   refine⟨out,out.length,w8 (out.map Token.cells),rfl,by omega,by cases out <;> simp [w8],rfl,?_⟩
   rw [heq]
   simp [GN,HR,kS,OG,lC]
theorem c28 (s:List UInt8) (h:kP):KK 28 [.str s] h=some (.ret (.tuple [.slice ((oI s).1.map Token.cells) .no,.agg [.int .i64 ((oI s).2.1:Nat),.int .i64 ((oI s).2.2:Nat)]]),h):=by
 refine lA rfl rfl (k9 (aAP _ _ _) ?_)
 by_cases hs:65536 < s.length
 ·have hs':(65536:Int) < s.length:=by omega
  simp [m28,lK,lD,lS,putCells,hs',oI,hs,kN]
 ·have hs':¬(65536:Int) < s.length:=by omega
  have hlex:oI s=lexFrom s 0 []:=by simp [oI,hs]
  have h56:=c55 s (by omega) 0 (ah9 _)
  simp only [Int.ofNat_eq_natCast,ac7] at h56
  rw [hlex]
  rcases aiD s (by omega) 0 (ah9 _) [] (ah9 _) with ⟨l,n,sz,hn,hl,hsz,hlx,hlp⟩ | ⟨p,v,at',n,sz,hlx,hlp⟩
  ·rw [hlx]
   subst hn
   simp only [HR,al1,ad0,w8] at hlp
   have h1:(l.length+1) * 40≤140737488355328:=by omega
   have h2:l.length+1≤140737488355328:=by omega
   have h3:sz=4∨l.length=0∧sz=0:=by
    rcases hsz with h | ⟨h,h'⟩
    ·exact .inl h
    ·exact .inr ⟨by simp [h],h'⟩
   have hap:mG 4 40 [.front 0 0,.cells [.int .i64 0,.int .i64 0],.front l.length sz,.front 1 4] (.slice (l.map Token.cells) (.own 2)) (.slice [[.int .i64 0,.int .i64 (s.length:Nat),.int .i64 0,.str []]] (.own 3)) =
     some (.slice (l.map Token.cells++[[.int .i64 0,.int .i64 (s.length:Nat),.int .i64 0,.str []]]) (.own 2),[.front 0 0,.cells [.int .i64 0,.int .i64 0],.front (l.length+1) 4,.front 1 4]):=by
    have hget:([.front 0 0,.cells [.int .i64 0,.int .i64 0],.front l.length sz,.front 1 4]:kP)[2]?=some (.front l.length sz):=rfl
    have hall:([[.int .i64 0,.int .i64 (s.length:Nat),.int .i64 0,.str []]]:List (List kM)).all (fun r=>r.length == 4)=true:=rfl
    simp only [mG,pY,hall,if_true,hget,al0,ac8,ad0,al6,h1,h2,h3,and_self]
    rfl
   simp [m28,lK,lD,lS,putCells,hs',h56,hlp,kW,tS,n_,kM.C8,rowsOf,hap,kN,Token.cells]
  ·rw [hlx]
   simp only [HR,al1,ad0,w8] at hlp
   simp [m28,lK,lD,lS,putCells,hs',h56,hlp,kN]
end
section
open Go Hk
theorem auC (t:Token):t.cells.length=4:=rfl
theorem ak5 (t:Token):t.cells.take 4=t.cells:=rfl
theorem KE (s:List UInt8) (a:Nat) (out:List Token) (ha:a≤s.length):(lexFrom s a out).1.length≤out.length+(s.length - a)+1:=by
 fun_induction lexFrom s a out with
 | case1 a out h h1=>simp
 | case2 a out h t n h1 ih =>
  have:=DN h1
  simp only [al3] at this
  have hge:=wC s a
  have:=ih (by omega)
  simp at this
  omega
 | case3 a out h=>simp
theorem Nr (s:List UInt8):(oI s).1.length≤65537:=by
 unfold oI
 split
 ·simp
 ·have:=KE s 0 [] (ah9 _)
  simp at this
  omega
theorem rI {s:List UInt8}{a a' n:Nat}{out:List Token}{t:Token}(h1:lU s a=a') (h2:a' < s.length) (h3:uP (s.drop a') a'=some (t,n)) {a2:Nat}(h4:a'+max 1 n=a2):lexFrom s a out=lexFrom s a2 (out++[t]):=by
 subst h1; subst h4
 rw [lexFrom,dif_pos h2,h3]
theorem CZ {s:List UInt8}{a a':Nat}{out:List Token}(h1:lU s a=a') (h2:a' < s.length) (h3:uP (s.drop a') a'=none):lexFrom s a out=([],9,a'):=by
 subst h1
 rw [lexFrom,dif_pos h2,h3]
theorem BU {s:List UInt8}{a:Nat}{out:List Token}(h1:¬lU s a < s.length):lexFrom s a out=(out++[⟨0,s.length,0,[]⟩],0,0):=by
 rw [lexFrom,dif_neg h1]
theorem zZ {s:List UInt8}{a:Nat}{b:UInt8}(h:s[a]?=some b) (hb:qN b=false) (h2:b≠47):lU s a=a:=by
 obtain⟨hlt,he⟩:=ab1.1 h
 rw [lU,dif_pos hlt,he,hb]
 simp only [Bool.false_eq_true,if_false]
 rw [if_neg]
 intro ht
 have:=(VF hlt).1 ht
 rw [he] at this
 exact h2 this.1
end
section
open Go Hk
theorem I2 {s t:List UInt8}{a:Nat}(ha:a≤s.length):(s++10::t).drop a=s.drop a++10::t:=List.drop_append_of_le_length ha
theorem get_join {s t:List UInt8}{a:Nat}(ha:a < s.length) (hb:a < (s++10::t).length):(s++10::t)[a]=s[a]:=List.getElem_append_left ha
theorem HK (t:List UInt8):∀d:List UInt8,mZ (d++10::t)=mZ d
 | []=>by simp [mZ,ak2]
 | b::d=>by
  have ih:=HK t d
  unfold mZ at ih ⊢
  by_cases h:b=10
  ·subst h; simp [ak2]
  ·simp [ak2,h,ih]
theorem Ob (t:List UInt8):∀d:List UInt8,nR (d++10::t)=nR d
 | []=>by
  have:isWord 10=false:=by decide
  simp [nR,ak2,this]
 | b::d=>by
  have ih:=Ob t d
  unfold nR at ih ⊢
  by_cases h:isWord b=true
  ·simp [ak2,h,ih]
  ·simp [ak2,h]
theorem ak7 {d t:List UInt8}{x y:UInt8}(hd:d≠[]) (hy:y≠10):(d++10::t).take 2=[x,y]↔d.take 2=[x,y]:=by
 match d,hd with
 | [b],_=>simp [Ne.symm hy]
 | b::c::r,_=>simp
theorem adE {d t:List UInt8}(hd:d≠[]):oW nY (d++10::t)=oW nY d:=by
 rw [zY,zY]
 match d,hd with
 | [b],_ =>
  have h1:¬[b,10]∈wM:=by simp [wM,nY]
  have h2:¬[b]∈wM:=by simp [wM,nY]
  by_cases h3:[b]∈Cr <;> simp [h1,h2,h3]
 | b::c::r,_=>by_cases h1:[b,c]∈wM <;> by_cases h3:[b]∈Cr <;> simp [h1,h3]
theorem acW {d t:List UInt8}(hd:d≠[]) (a:Nat):uP (d++10::t) a=uP d a:=by
 have h1:=Ob t d
 have h2:=adE (t:=t) hd
 match d,hd with
 | b::r,_ =>
  simp only [af2] at h1 h2 ⊢
  simp only [uP,h1,h2]
def xP (k:Nat) (t:Token):Token:={ t with pos:=t.pos+k }
theorem Xl (l:List UInt8) (a k:Nat):uP l (k+a)=(uP l a).map fun x=>(xP k x.1,x.2):=by
 unfold uP
 cases l with
 | nil=>rfl
 | cons b r =>
  simp only []
  by_cases h1:pI b=true
  ·by_cases h2:40 < (nR (b::r)).length <;> simp [h1,h2,xP,Nat.add_comm]
  ·by_cases h2:isDigit b=true
   ·cases h3:rT (nR (b::r)) <;> simp [h1,h2,xP,Nat.add_comm]
   ·by_cases h3:oW nY (b::r)=[] <;> simp [h1,h2,h3,xP,Nat.add_comm]
theorem adH (s t:List UInt8) (a:Nat) (ha:a≤s.length) :
  (lU s a < s.length→lU (s++10::t) a=lU s a)∧(¬lU s a < s.length→lU (s++10::t) a=lU (s++10::t) (s.length+1)):=by
 induction hm:s.length - a using Nat.strongRecOn generalizing a with
 | _ m ih =>
  have hlen:(s++10::t).length=s.length+(t.length+1):=by simp
  by_cases hlt:a < s.length
  ·have hb:a < (s++10::t).length:=by omega
   rw [lU,dif_pos hlt,lU.eq_1 (s++10::t) a,dif_pos hb,get_join hlt hb]
   have hd:s.drop a≠[]:=by intro h; have:=congrArg aa0 h; simp at this; omega
   have h2:((s++10::t).drop a).take 2=[47,47]↔(s.drop a).take 2=[47,47]:=by
    rw [I2 ha]; exact ak7 hd (by decide)
   by_cases h1:qN s[a]=true
   ·rw [if_pos h1,if_pos h1]
    exact ih (s.length - (a+1)) (by omega) (a+1) (by omega) rfl
   ·rw [if_neg h1,if_neg h1]
    by_cases h3:(s.drop a).take 2=[47,47]
    ·rw [if_pos h3,if_pos (h2.2 h3),I2 ha,HK]
     have h4:=zD (s.drop a)
     have h5:=E2 h3
     simp only [al3] at h4
     exact ih (s.length - (a+max 1 (mZ (s.drop a)))) (by omega) _ (by omega) rfl
    ·rw [if_neg h3,if_neg (fun h=>h3 (h2.1 h))]
     exact⟨fun _=>rfl,fun h=>absurd hlt h⟩
  ·have he:a=s.length:=by omega
   subst he
   have h0:lU s s.length=s.length:=by rw [lU,dif_neg hlt]
   rw [h0]
   refine⟨fun h=>absurd h (by omega),fun _=>?_⟩
   have hb:s.length < (s++10::t).length:=by omega
   rw [lU,dif_pos hb]
   have hg:(s++10::t)[s.length]=10:=by simp
   rw [hg,if_pos (by decide)]
theorem XB (s t:List UInt8) (a:Nat) (ha:a≤t.length):lU (s++10::t) (s.length+1+a)=s.length+1+lU t a:=by
 induction hm:t.length - a using Nat.strongRecOn generalizing a with
 | _ m ih =>
  have hlen:(s++10::t).length=s.length+(t.length+1):=by simp
  have hd:(s++10::t).drop (s.length+1+a)=t.drop a:=by
   have e:s++10::t=(s++[10])++t:=by simp
   rw [e,List.drop_append]
   have e2:s.length+1+a - (s++[10]).length=a:=by simp
   rw [e2,List.drop_of_length_le (by simp),ah4]
  by_cases hlt:a < t.length
  ·have hb:s.length+1+a < (s++10::t).length:=by omega
   have hg:(s++10::t)[s.length+1+a]=t[a]:=by
    have h1:=af5 hb
    have h2:=af5 hlt
    rw [hd,h2] at h1
    exact((List.cons.inj h1).1).symm
   rw [lU,dif_pos hb,hg,lU.eq_1 t a,dif_pos hlt,hd]
   by_cases h1:qN t[a]=true
   ·rw [if_pos h1,if_pos h1]
    exact ih (t.length - (a+1)) (by omega) (a+1) (by omega) rfl
   ·rw [if_neg h1,if_neg h1]
    by_cases h3:(t.drop a).take 2=[47,47]
    ·rw [if_pos h3,if_pos h3]
     have h4:=zD (t.drop a)
     have h5:=E2 h3
     simp only [al3] at h4
     have:=ih (t.length - (a+max 1 (mZ (t.drop a)))) (by omega) (a+max 1 (mZ (t.drop a))) (by omega) rfl
     rw [←this]; congr 1; omega
    ·rw [if_neg h3,if_neg h3]
  ·rw [lU,dif_neg (by omega),lU.eq_1 t a,dif_neg hlt]
theorem abY (s t:List UInt8) (a:Nat) (ha:a≤s.length) :
  (∃p,∀out,lexFrom s a out=([],9,p)∧lexFrom (s++10::t) a out=([],9,p)) ∨
  (∃l,∀out,lexFrom s a out=(out++l++[⟨0,s.length,0,[]⟩],0,0)∧lexFrom (s++10::t) a out=lexFrom (s++10::t) (s.length+1) (out++l)):=by
 induction hm:s.length - a using Nat.strongRecOn generalizing a with
 | _ m ih =>
  have hlen:(s++10::t).length=s.length+(t.length+1):=by simp
  obtain⟨k1,k2⟩:=adH s t a ha
  have hge:=wC s a
  by_cases hlt:lU s a < s.length
  ·have hS:=k1 hlt
   have hd:s.drop (lU s a)≠[]:=by intro h; have:=congrArg aa0 h; simp at this; omega
   have ho:uP ((s++10::t).drop (lU s a)) (lU s a)=uP (s.drop (lU s a)) (lU s a):=by rw [I2 (Nat.le_of_lt hlt)]; exact acW hd _
   cases h3:uP (s.drop (lU s a)) (lU s a) with
   | none =>
    left
    exact⟨lU s a,fun out=>⟨CZ rfl hlt h3,CZ hS (by omega) (ho.trans h3)⟩⟩
   | some x =>
    obtain⟨y,n⟩:=x
    have hp:=DN h3
    simp only [al3] at hp
    rcases ih (s.length - (lU s a+max 1 n)) (by omega) (lU s a+max 1 n) (by omega) rfl with ⟨p,h⟩ | ⟨l,h⟩
    ·left
     exact⟨p,fun out=>⟨(rI rfl hlt h3 rfl).trans (h _).1,(rI hS (by omega) (ho.trans h3) rfl).trans (h _).2⟩⟩
    ·right
     refine⟨y::l,fun out=>⟨(rI rfl hlt h3 rfl).trans ((h _).1.trans (by simp)),(rI hS (by omega) (ho.trans h3) rfl).trans ((h _).2.trans (by simp))⟩⟩
  ·right
   refine⟨[],fun out=>⟨(BU hlt).trans (by simp),?_⟩⟩
   rw [lexFrom.eq_1 _ a,lexFrom.eq_1 _ (s.length+1)]
   simp only [k2 hlt,List.append_nil]
theorem W0 (s t:List UInt8) (a:Nat) (ha:a≤t.length) :
  (∃p,∀out,lexFrom t a out=([],9,p)∧lexFrom (s++10::t) (s.length+1+a) out=([],9,s.length+1+p)) ∨
  (∃l,∀out,lexFrom t a out=(out++l,0,0)∧lexFrom (s++10::t) (s.length+1+a) out=(out++l.map (xP (s.length+1)),0,0)):=by
 induction hm:t.length - a using Nat.strongRecOn generalizing a with
 | _ m ih =>
  have hlen:(s++10::t).length=s.length+1+t.length:=by simp; omega
  have hS:=XB s t a ha
  have hge:=wC t a
  have hd:∀b,(s++10::t).drop (s.length+1+b)=t.drop b:=fun b=>by
   have e:s++10::t=(s++[10])++t:=by simp
   rw [e,List.drop_append]
   have e2:s.length+1+b - (s++[10]).length=b:=by simp
   rw [e2,List.drop_of_length_le (by simp),ah4]
  by_cases hlt:lU t a < t.length
  ·have ho:uP ((s++10::t).drop (s.length+1+lU t a)) (s.length+1+lU t a)=(uP (t.drop (lU t a)) (lU t a)).map fun x=>(xP (s.length+1) x.1,x.2):=by rw [hd]; exact Xl _ _ _
   cases h3:uP (t.drop (lU t a)) (lU t a) with
   | none =>
    rw [h3] at ho
    left
    exact⟨lU t a,fun out=>⟨CZ rfl hlt h3,CZ hS (by omega) ho⟩⟩
   | some x =>
    obtain⟨y,n⟩:=x
    rw [h3] at ho
    have hp:=DN h3
    simp only [al3] at hp
    rcases ih (t.length - (lU t a+max 1 n)) (by omega) (lU t a+max 1 n) (by omega) rfl with ⟨p,h⟩ | ⟨l,h⟩
    ·left
     exact⟨p,fun out=>⟨(rI rfl hlt h3 rfl).trans (h _).1,(rI hS (by omega) ho (by omega)).trans (h _).2⟩⟩
    ·right
     refine⟨y::l,fun out=>⟨(rI rfl hlt h3 rfl).trans ((h _).1.trans (by simp)),(rI hS (by omega) ho (by omega)).trans ((h _).2.trans (by simp))⟩⟩
  ·right
   refine⟨[⟨0,t.length,0,[]⟩],fun out=>⟨BU hlt,?_⟩⟩
   rw [BU (by omega),hlen]
   simp [xP,Nat.add_comm]
theorem Qj (s t:List UInt8) (hst:s.length+1+t.length≤65536) :
  (∃p,oI s=([],9,p)∧oI (s++10::t)=([],9,p)) ∨
  (∃l,oI s=(l++[⟨0,s.length,0,[]⟩],0,0) ∧
   ((∃p,oI t=([],9,p)∧oI (s++10::t)=([],9,s.length+1+p))∨(∃r,oI t=(r,0,0)∧oI (s++10::t)=(l++r.map (xP (s.length+1)),0,0)))):=by
 have hlen:(s++10::t).length=s.length+1+t.length:=by simp; omega
 unfold oI
 rw [if_neg (by omega),if_neg (by omega),if_neg (by omega)]
 rcases abY s t 0 (by omega) with ⟨p,h⟩ | ⟨l,h⟩
 ·exact .inl ⟨p,h []⟩
 ·refine .inr ⟨l,by simpa using (h []).1,?_⟩
  have h2:lexFrom (s++10::t) 0 []=lexFrom (s++10::t) (s.length+1+0) l:=by simpa using (h []).2
  rcases W0 s t 0 (by omega) with ⟨p,g⟩ | ⟨r,g⟩
  ·exact .inl ⟨p,(g []).1,h2.trans (g l).2⟩
  ·exact .inr ⟨r,by simpa using (g []).1,h2.trans (g l).2⟩
end
section
open Go Hk
theorem Zv {l:List UInt8}{a n:Nat}{t:Token}(h:uP l a=some (t,n)):t.pos=a:=by
 unfold uP at h
 cases l with
 | nil=>cases h
 | cons b r =>
  simp only [] at h
  split at h
  ·split at h
   ·cases h
   ·simp only [ab0,af8] at h; rw [←h.1]
  ·split at h
   ·split at h
    ·cases h
    ·simp only [ab0,af8] at h; rw [←h.1]
   ·split at h
    ·cases h
    ·simp only [ab0,af8] at h; rw [←h.1]
theorem UI (s:List UInt8) (a:Nat) (out:List Token) (ho:∀x∈out,x.pos≤s.length):∀x∈(lexFrom s a out).1,x.pos≤s.length:=by
 fun_induction lexFrom s a out with
 | case1=>simp
 | case2 a out h t n h3 ih =>
  apply ih
  intro x hx
  rcases List.mem_append.1 hx with hx | hx
  ·exact ho x hx
  ·obtain rfl:x=t:=by simpa using hx
   have:=Zv h3
   omega
 | case3 a out h =>
  intro x hx
  rcases List.mem_append.1 hx with hx | hx
  ·exact ho x hx
  ·obtain rfl:x=⟨0,s.length,0,[]⟩:=by simpa using hx
   exact ac5 _
theorem UK (s:List UInt8):∀x∈(oI s).1,x.pos≤s.length:=by
 unfold oI
 split
 ·simp
 ·exact UI s 0 [] (by simp)
section
variable (s:List UInt8) (A B C:List Token) (L:Nat) (e p f q g o:Int)
end
end
section
open Go Hk
section
variable (s t:List UInt8)
end
end
section
open Go Hk
def CH (n:Nat) (acc:List UInt8):List UInt8:=if n=0 then acc else CH (n / 10) (UInt8.ofNat (48+n % 10)::acc)
termination_by n
decreasing_by omega
def EA (n:Nat):List UInt8:=if n=0 then [48] else CH n []
theorem I1 (n:Nat):(UInt8.ofNat (48+n % 10)).toNat=48+n % 10:=by
 rw [UInt8.toNat_ofNat']; omega
theorem agE (n:Nat):isDigit (UInt8.ofNat (48+n % 10))=true:=by
 unfold isDigit; rw [I1]; simp; omega
theorem aoY (n:Nat):sR false (UInt8.ofNat (48+n % 10))=some (n % 10):=by
 unfold sR; rw [if_pos (agE n),I1]; congr 1; omega
theorem agJ (n:Nat):∀acc,n≤4294967295→oG false (CH n acc) 0=oG false acc n:=by
 induction n using Nat.strongRecOn with
 | _ n ih =>
  intro acc hn
  rw [CH]
  by_cases h:n=0
  ·rw [if_pos h,h]
  ·rw [if_neg h,ih (n / 10) (by omega) _ (by omega)]
   simp only [oG,aoY]
   have e:mQ false * (n / 10)+n % 10=n:=by simp only [mQ]; simp; omega
   rw [e,if_neg (by omega)]
theorem agG (n:Nat):∀acc,(∀b∈acc,isDigit b=true)→∀b∈CH n acc,isDigit b=true:=by
 induction n using Nat.strongRecOn with
 | _ n ih =>
  intro acc ha
  rw [CH]
  by_cases h:n=0
  ·rw [if_pos h]; exact ha
  ·rw [if_neg h]
   refine ih (n / 10) (by omega) _ ?_
   intro b hb
   rcases List.mem_cons.1 hb with rfl | hb
   ·exact agE n
   ·exact ha b hb
theorem P8 (n:Nat):∀acc,n≠0→∃c r,CH n acc=c::r∧c≠48:=by
 induction n using Nat.strongRecOn with
 | _ n ih =>
  intro acc h
  rw [CH,if_neg h]
  by_cases h2:n / 10=0
  ·rw [CH,if_pos h2]
   refine⟨_,_,rfl,fun e=>?_⟩
   have:=congrArg UInt8.toNat e
   rw [I1] at this
   simp at this
   omega
  ·exact ih (n / 10) (by omega) _ h2
theorem Ht (n:Nat):∀b∈EA n,isDigit b=true:=by
 unfold EA
 split
 ·intro b hb
  obtain rfl:b=48:=(by simpa using hb)
  decide
 ·exact agG n [] (by simp)
theorem Rt (n:Nat):∃c r,EA n=c::r:=by
 unfold EA
 split
 ·exact⟨_,_,rfl⟩
 ·obtain⟨c,r,h,_⟩:=P8 n [] (by assumption); exact⟨c,r,h⟩
theorem abB:isDigit 120=false:=by decide
theorem U2 (n:Nat) (hn:n≤4294967295):rT (EA n)=some n:=by
 have hall:=Ht n
 have h2:¬(EA n).take 2=[48,120]:=by
  intro h
  have:(120:UInt8)∈(EA n).take 2:=by rw [h]; simp
  have:=hall _ (List.mem_of_mem_take this)
  rw [abB] at this; cases this
 unfold rT
 rw [if_neg h2]
 unfold EA
 by_cases h:n=0
 ·rw [if_pos h,if_neg (by simp),h]; decide
 ·rw [if_neg h]
  obtain⟨c,r,e,hc⟩:=P8 n [] h
  rw [if_neg (by rw [e]; simp [hc]),agJ n [] hn]
  rfl
theorem Oc:∀(d r:List UInt8),(∀b∈d,isDigit b=true)→nR (d++32::r)=d
 | [],r,_=>by
  have:isWord 32=false:=by decide
  simp [nR,ak2,this]
 | b::d,r,h=>by
  have hb:isWord b=true:=by simp [isWord,h b (by simp)]
  have ih:=Oc d r (fun x hx=>h x (by simp [hx]))
  unfold nR at ih ⊢
  simp [ak2,hb,ih]
theorem Oe:∀(d r:List UInt8),(∀b∈d,isWord b=true)→nR (d++32::r)=d
 | [],r,_=>by
  have:isWord 32=false:=by decide
  simp [nR,ak2,this]
 | b::d,r,h=>by
  have ih:=Oe d r (fun x hx=>h x (by simp [hx]))
  unfold nR at ih ⊢
  simp [ak2,h b (by simp),ih]
theorem XU (hex:Bool):∀(l:List UInt8) (n r:Nat),n≤4294967295→oG hex l n=some r→r≤4294967295
 | [],n,r,hn,h=>by simp only [oG,ab0] at h; omega
 | b::l,n,r,hn,h=>by
  simp only [oG] at h
  split at h
  ·cases h
  ·split at h
   ·cases h
   ·exact XU hex l _ r (by omega) h
theorem Xk {l:List UInt8}{n:Nat}(h:rT l=some n):n≤4294967295:=by
 unfold rT at h
 split at h
 ·split at h
  ·cases h
  ·exact XU true _ 0 n (by omega) h
 ·split at h
  ·cases h
  ·exact XU false _ 0 n (by omega) h
def written (x:Token):List UInt8:=if x.kind=2 then EA x.num else x.text
def H7 (x:Token) (p:Nat):Token:={ x with pos:=p }
def Good (x:Token):Prop:=x.kind≠0∧x.num≤4294967295∧x.text.length≤65536∧(∃b r,written x=b::r∧qN b=false∧b≠47)∧∀rest p,uP (written x++32::rest) p=some (H7 x p,(written x).length)
theorem Qi {b:UInt8}(h:pI b=true):qN b=false∧b≠47:=by
 constructor
 ·simp [pI,qN] at h ⊢; omega
 ·rintro rfl; revert h; decide
theorem agF {b:UInt8}(h:isDigit b=true):qN b=false∧b≠47:=by
 constructor
 ·simp [isDigit,qN] at h ⊢; omega
 ·rintro rfl; revert h; decide
theorem adF:∀x∈nY,x.length≤2∧∃b r,x=b::r∧qN b=false∧b≠47∧pI b=false∧isDigit b=false:=by
 intro x hx
 have:nY.all (fun x=>decide (x.length≤2) && (match x with | []=>false | b::_=>!qN b && decide (b≠47) && !pI b && !isDigit b))=true:=by decide
 have h:=List.all_eq_true.1 this x hx
 cases x with
 | nil=>simp at h
 | cons b r =>
  simp only [Bool.and_eq_true,decide_eq_true_eq,Bool.not_eq_true'] at h
  exact⟨h.1,b,r,rfl,h.2.1.1.1,h.2.1.1.2,h.2.1.2,h.2.2⟩
theorem akM {l:List UInt8}(h:oW nY l≠[]):oW nY l∈nY∧l.take (oW nY l).length=oW nY l:=by
 unfold oW at h ⊢
 cases hf:nY.find? (fun x=>decide (l.take x.length=x)) with
 | none=>rw [hf] at h; exact absurd rfl h
 | some x =>
  simp only [Option.getD_some]
  exact⟨List.mem_of_find?_eq_some hf,by simpa using List.find?_some hf⟩
theorem XA {x:List UInt8}(hx:x∈nY) (rest:List UInt8):oW nY (x++32::rest)=x:=by
 rw [zY]
 have hs:nY=wM++Cr:=by decide
 rw [hs] at hx
 rcases List.mem_append.1 hx with h | h
 ·have hl:x.length=2:=(by decide:∀y∈wM,y.length=2) x h
  have e:(x++32::rest).take 2=x:=by rw [←hl]; simp
  rw [e,if_pos h]
 ·have hl:x.length=1:=(by decide:∀y∈Cr,y.length=1) x h
  have e:(x++32::rest).take 1=x:=by rw [←hl]; simp
  have e2:(x++32::rest).take 2=x++[32]:=by
   match x,hl with
   | [b],_=>rfl
  have h2:¬x++[32]∈wM:=by
   intro h3
   have:=(by decide:∀y∈wM,(32:UInt8) ∉ y) _ h3
   simp at this
  rw [e,e2,if_neg h2,if_pos h]
theorem YN {d:List UInt8}{a n:Nat}{x:Token}(h:uP d a=some (x,n)):Good x∧(x.kind≠2→d.take x.text.length=x.text):=by
 unfold uP at h
 cases d with
 | nil=>cases h
 | cons b r =>
  simp only [] at h
  by_cases h1:pI b=true
  ·rw [if_pos h1] at h
   have hrun:nR (b::r)=b::nR r:=by simp [nR,ak2,isWord,h1]
   have hw:=Jx (b::r)
   have htk:=OB (b::r)
   split at h
   ·cases h
   ·rename_i h40
    simp only [ab0,af8] at h
    obtain⟨rfl,_⟩:=h
    have hk2:¬(if nR (b::r)∈uI then 3 else 1)=2:=by split <;> omega
    have hwr:written ⟨if nR (b::r)∈uI then 3 else 1,a,0,nR (b::r)⟩=nR (b::r):=by unfold written; rw [if_neg hk2]
    obtain⟨o1,o2⟩:=Qi h1
    refine⟨⟨by show(if _ then _ else _)≠_; split <;> omega,ah9 _,by show(nR (b::r)).length≤_; omega,⟨b,nR r,by rw [hwr,hrun],o1,o2⟩,fun rest p=>?_⟩,fun _=>htk⟩
    rw [hwr]
    have hag:=Oe (nR (b::r)) rest hw
    generalize nR (b::r)=w at *
    subst hrun
    unfold uP
    simp only [af2] at hag ⊢
    rw [if_pos h1]
    simp only [hag]
    rw [if_neg h40]
    rfl
  ·rw [if_neg h1] at h
   by_cases h2:isDigit b=true
   ·rw [if_pos h2] at h
    split at h
    ·cases h
    ·rename_i m hm
     simp only [ab0,af8] at h
     obtain⟨rfl,_⟩:=h
     have hm':=Xk hm
     have hwr:written ⟨2,a,m,[]⟩=EA m:=by unfold written; rw [if_pos rfl]
     obtain⟨c,q,hc⟩:=Rt m
     have hcd:isDigit c=true:=Ht m c (by rw [hc]; simp)
     obtain⟨o1,o2⟩:=agF hcd
     refine⟨⟨by show(2:Nat)≠0; decide,hm',by simp,⟨c,q,by rw [hwr,hc],o1,o2⟩,fun rest p=>?_⟩,fun hk=>absurd rfl hk⟩
     rw [hwr]
     have hag:=Oc (EA m) rest (Ht m)
     have hnum:=U2 m hm'
     rw [hc] at hag hnum ⊢
     unfold uP
     simp only [af2] at hag ⊢
     rw [if_neg (by rw [Eu hcd]; decide),if_pos hcd,hag,hnum]
     rfl
   ·rw [if_neg h2] at h
    split at h
    ·cases h
    ·rename_i h3
     simp only [ab0,af8] at h
     obtain⟨rfl,_⟩:=h
     obtain⟨hm,htk⟩:=akM h3
     obtain⟨hl,c,q,hc,o1,o2,o3,o4⟩:=adF _ hm
     have hwr:written ⟨4,a,0,oW nY (b::r)⟩=oW nY (b::r):=by unfold written; rw [if_neg (by show ¬(4:Nat)=2; decide)]
     refine⟨⟨by show(4:Nat)≠0; decide,ah9 _,by show(oW nY (b::r)).length≤_; omega,⟨c,q,by rw [hwr,hc],o1,o2⟩,fun rest p=>?_⟩,fun _=>htk⟩
     rw [hwr]
     have hag:=XA hm rest
     generalize oW nY (b::r)=w at *
     subst hc
     unfold uP
     simp only [af2] at hag ⊢
     rw [if_neg (by rw [o3]; decide),if_neg (by rw [o4]; decide),hag,if_neg (by simp)]
     rfl
end
section
open Go Hk

end
section
open Go Hk
section
variable (s:List UInt8) (A:List Token) (L:Nat) (T:List UInt8) (ps:List Nat) (sz i:Nat) (x:Token)
end
end
section
open Go Hk
def Fact (s:List UInt8) (x:Token):Prop:=x.pos < s.length∧Good x∧(x.kind≠2→(s.drop x.pos).take x.text.length=x.text)
theorem Di (s:List UInt8) (a:Nat) (out:List Token):(∃p,lexFrom s a out=([],9,p)) ∨
  ∃l,lexFrom s a out=(out++l++[⟨0,s.length,0,[]⟩],0,0)∧(∀x∈l,a≤x.pos∧Fact s x)∧l.Pairwise (fun x y=>x.pos < y.pos):=by
 induction hm:s.length - a using Nat.strongRecOn generalizing a out with
 | _ m ih =>
  have hge:=wC s a
  by_cases hlt:lU s a < s.length
  ·cases h3:uP (s.drop (lU s a)) (lU s a) with
   | none=>exact .inl ⟨_,CZ rfl hlt h3⟩
   | some x =>
    obtain⟨y,n⟩:=x
    have hy:=Zv h3
    have hgood:=YN h3
    rcases ih (s.length - (lU s a+max 1 n)) (by omega) (lU s a+max 1 n) (out++[y]) rfl with ⟨p,h⟩ | ⟨l,h,h1,h2⟩
    ·exact .inl ⟨p,(rI rfl hlt h3 rfl).trans h⟩
    ·refine .inr ⟨y::l,(rI rfl hlt h3 rfl).trans (h.trans (by simp)),?_,?_⟩
     ·intro z hz
      rcases List.mem_cons.1 hz with rfl | hz
      ·exact⟨by omega,by omega,hgood.1,by rw [hy]; exact hgood.2⟩
      ·exact⟨by have:=(h1 z hz).1; omega,(h1 z hz).2⟩
     ·refine List.pairwise_cons.2 ⟨fun z hz=>?_,h2⟩
      have:=(h1 z hz).1
      omega
  ·exact .inr ⟨[],(BU hlt).trans (by simp),by simp,List.Pairwise.nil⟩
section
variable (s:List UInt8) (l:List Token)
end
end
section
open Go Hk
section
variable (s:List UInt8)
end
end
end Go.Proofs.YtlddmnojanpdoaaGreatDoor
