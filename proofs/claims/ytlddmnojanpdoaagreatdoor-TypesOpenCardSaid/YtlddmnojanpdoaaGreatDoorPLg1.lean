/-
  The texts LG.M, LG.A, LG.B, LG.C, LG.D, LG.E, LG.F, LG.G, LG.H, LG.I, LG.J, LG.K, LG.N, LG.O, LG.P, LG.Q, LG.R, LG.S, LG.U, LG.V, one behind another. No conditions.
-/
import Derived.Test.YtlddmnojanpdoaaGreatDoorProg
import Derived.Test.YtlddmnojanpdoaaGreatDoorPVk3
import Derived.KernelRfl
set_option linter.unusedVariables false
set_option linter.unusedSimpArgs false
set_option linter.all false
open Bool renaming false_eq_true → al9
open Int renaming cast_ofNat_Int → ab9, natCast_add → af8
open List renaming cons_append → ae7, drop_eq_getElem_cons → ae6, drop_eq_nil_of_le → aj0, getElem?_eq_getElem → ab3, getElem?_eq_some_iff → ab0, length → aa1, length_cons → ac1, length_drop → am4, length_map → aj1, length_nil → ac6, map_nil → al1, takeWhile_cons → al8
open Nat renaming le_refl → ab6, mul_le_mul_right → ai9, zero_add → al6, zero_le → ah8
open Option renaming bind_some → ad9
open Option.some renaming injEq → ab1
open Prod.mk renaming injEq → ah1
namespace Go.Proofs.YtlddmnojanpdoaaGreatDoor
noncomputable section
open Go Hk
def V_:List Int:=[0,0,0,0,0,0,0,0,0,1,1,1,1,1,0,0,0,0,0,0,0,0,0,0,0,0,0,0,0,0,0,0,1,0,0,0,0,0,0,0,0,0,0,0,0,0,0,0,0,0,0,0,0,0,0,0,0,0,0,0,0,0,0,0,0,0,0,0,0,0,0,0,0,0,0,0,0,0,0,0,0,0,0,0,0,0,0,0,0,0,0,0,0,0,0,0,0,0,0,0,0,0,0,0,0,0,0,0,0,0,0,0,0,0,0,0,0,0,0,0,0,0,0,0,0,0,0,0,0,0,0,0,0,0,0,0,0,0,0,0,0,0,0,0,0,0,0,0,0,0,0,0,0,0,0,0,0,0,0,0,0,0,0,0,0,0,0,0,0,0,0,0,0,0,0,0,0,0,0,0,0,0,0,0,0,0,0,0,0,0,0,0,0,0,0,0,0,0,0,0,0,0,0,0,0,0,0,0,0,0,0,0,0,0,0,0,0,0,0,0,0,0,0,0,0,0,0,0,0,0,0,0,0,0,0,0,0,0,0,0,0,0,0,0,0,0,0,0,0,0,0,0,0,0,0,0]
def MV:List kM:=V_.map (.int .u8)
def acT:List Int:=[1,10,100,1000,10000,100000,1000000,10000000,100000000,1000000000,10000000000,100000000000,1000000000000,10000000000000,100000000000000,1000000000000000,10000000000000000,100000000000000000,1000000000000000000,10000000000000000000]
def aoX:List kM:=acT.map (.int .u64)
def aBB:List Nat:=[52,102,103,104,105,106,108,109,110,151,152,153,154,155,180,181,182,183,205,207,208,220,222,223,227,228,92,93,131,132,133,164,165,167,168,169,170,195,197]
def ao7:List Nat:=[51,52,102,103,104,105,106,107,108,109,110,150,151,152,153,154,155,180,181,182,183,205,206,207,208,220,222,223,227,228,29,57,58,59,60,61,62,63,64,118,119,120,121,122,157,158,159,184,186,209,50,100,101,147,98,32,33,37,68,69,70,71,83,84,85,86,87,88,124,125,126,129,72,161,92,93,131,132,133,164,165,167,168,169,170,195,197,91,134,135,171]
def aFJ:List Nat:=[49,28,90,98,99,100,101,55,56,142,143,144,145,146,147,148,149,112,113,114,115,116,117,176,177,178,179,204,25,205,51,102,103,104,105,106,107,108,109,110,150,151,152,153,154,155,180,181,182,183,206,207,208,220,221,222,223,227,228,52,12,26,53,111,156,29,57,58,59,60,61,62,63,64,118,119,120,121,122,157,158,159,184,185,186,209,50]
def tbs:List Nat:=[32,33,37,68,69,70,71,83,84,85,86,87,88,124,125,126,129,14,17]
def mK:Cy:={ kp:=fun f=>f == 92,lkp:=fun f=>f == 45,ck:=fun f=>f == 92,vecT:=fun f t=>f == 13 && t == 42,frz:=fun f=>f == 13,tb:=fun f=>tbs.contains f,tbt:=fun t=>t == 86,bld:=fun t o n=>t == 86 && o == 0 && n == 5,prm:=fun f=>if f=161 then some (.copyCheck) else if f=72 then some (.bldString 5) else if f=89 then some (.fn Us) else if f=162 then some (.fn ajT) else none,glob:=fun g=>if g=0 then some MV else if g=2 then some aoX else none,gsz:=fun g=>if g=2 then some 20 else none,esc:=fun f=>f == 98 || f == 208 || f == 186 || f == 92,grow:=fun f=>f == 157 || f == 159,dfr:=fun f=>f == 25 || f == 45,pure:=fun f=>!(ao7.contains f),pan:=fun f=>aBB.contains f,vmk:=fun f=>!(aFJ.contains f),jt:=fun f=>!(aFJ.contains f),ext:=fun f=>if f=203 then some .indexByte else none }
def Jf (K:kW) (m:Nat) (s:List kM×kP):Option R :=
 B5 s fun aB aE aC aA aH=>qX K 100 aA aH fun bC aF=>(k_ aA).bind fun aN=>fq 1 aN aF fun aO=>(nQ aB).bind fun aP=>aq .eql aO aP ((k_ aA).bind fun aQ=>fq 4 aQ aF fun aR=>(nQ aB).bind fun aS=>(lT [(.int .i64 0),(.int .i64 0),(.int .i64 0),(.str [])] [(0,1),(1,1),(2,1),(3,1)] [(0,(.int .i64 0)),(1,aS)]).bind fun aT=>kR (kY 1 4 [(.int .i64 0),(.int .i64 0),(.int .i64 0),(.str [])] [(0,aT)] aF) fun aU aI=>kR (mH 4 40 aI aR aU) fun aV aJ=>(lT [(.int .i64 0),(.int .i64 0)] [(0,1),(1,1)] []).bind fun aW=>(kS 2 aJ aC aW).bind fun aK=>kT m .ret [aB,aV,aC,aA] aK) (qX K 101 aA aF fun aX aD=>(vR .not aX).bind fun aY=>lH aY ((k_ aA).bind fun aZ=>(kO 1 aZ).bind fun aG=>(kU false 1 aD aG).bind fun a_=>(lT [(.int .i64 0),(.int .i64 0)] [(0,1),(1,1)] [(0,(.int .i64 9)),(1,a_)]).bind fun bA=>(fun(bB:kM) (aL:kP)=>(kS 2 (lQ (k9 [0] [aG]) aD aL) aC bA).bind fun aM=>kT m .ret [aB,bB,aC,aA] aM) (.slice [] (.own (aa1 (nL (k9 [0] [aG]) aD)))) ((nL (k9 [0] [aG]) aD)++[.front 0 0])) (kT m .normal [aB,aE,aC,aA] aD))
def m49 (K:kW) (a0:kM) (h0:kP):Option (nO×kP) :=
 ((fun(t1:kM) (h0:kP)=>kR (lL 2 h0 (.agg [(.int .i64 0),(.int .i64 0)])) fun t2 h3=>(nQ a0).bind fun t4=>aq .gtr t4 (.int .i64 65536) ((lT [(.int .i64 0),(.int .i64 0)] [(0,1),(1,1)] [(0,(.int .i64 5))]).bind fun t6=>(fun(t8:kM) (h7:kP)=>(kS 2 h7 t2 t6).bind fun h9=>some (.ret,[t8,t2],h9)) (.slice [] (.own (aa1 h3))) (h3++[.front 0 0])) (kq0 K 98 h3 fun aP aN=>kq0 K 99 aN fun aQ aO=>(lT [(.str []),(.int .i64 0),.nilmap,(.slice [] .nil),(.slice [] .nil)] [(0,1),(1,1),(2,1),(3,1),(4,1)] [(0,a0),(2,aP),(3,aQ)]).bind fun aR=>kR (lL 5 aO aR) fun aS aE=>(mJ (Jf K (aa1 aE)) ([a0,t1,t2,aS],aE)).bind fun aH=>B5 aH.2 fun aJ aA aB aK aF=>Ex.lW aH.1 none (fun aL=>Ex.inBlock 0 aL (some (.normal,[aA,aB],aF)) (fun aM=>some (aM,[aA,aB],aF))))) (.slice [] (.own (aa1 h0))) (h0++[.front 0 0])).bind fun aI=>wL aI.2 fun aC aD aG=>Ex.nA aI.1 ((kU true 2 aG aD).bind fun aT=>lZ (aa1 h0) (.tuple [aC,aT]) aG)
theorem aAS (K:kW) (a0:kM) (h0:kP):o6 Tryz.prog mK mJ K 49 [a0] h0=m49 (lU mK K) a0 h0:=by kernel_rfl
def GJ (K:kW) (m:Nat) (s:List kM×kP):Option R :=
 Eu s fun aA aE aC aD aB aG=>(nQ aA).bind fun aR=>aq .lss aB aR (o_ K 56 aA aB aG fun aH aK=>(lI 0 aH).bind fun aS=>(lI 1 aH).bind fun aI=>kR (lL 4 aK (.agg [(.int .i64 0),(.int .i64 0),(.int .i64 0),(.str [])])) fun aJ aL=>(kS 4 aL aJ aS).bind fun aF=>aq .eql aI (.int .i64 0) ((lT [(.int .i64 0),(.int .i64 0)] [(0,1),(1,1)] [(0,(.int .i64 9)),(1,aB)]).bind fun aT=>(fun(aU:kM) (aM:kP)=>(kS 2 aM aC aT).bind fun aN=>kT m .ret [aA,aU,aC,aD,aB] aN) (.slice [] (.own (aa1 aF))) (aF++[.front 0 0])) ((kU true 4 aF aJ).bind fun aV=>kR (kY 1 4 [(.int .i64 0),(.int .i64 0),(.int .i64 0),(.str [])] [(0,aV)] aF) fun aW aO=>kR (mH 4 40 aO aD aW) fun aX aP=>(kX .add aB aI).bind fun aY=>o_ K 55 aA aY aP fun aZ aQ=>kT m .normal [aA,aE,aC,aX,aZ] aQ)) (kT m (.exit 0) [aA,aE,aC,aD,aB] aG)
def m28 (K:kW) (a0:kM) (h0:kP):Option (nO×kP) :=
 ((fun(t1:kM) (h0:kP)=>kR (lL 2 h0 (.agg [(.int .i64 0),(.int .i64 0)])) fun t2 h3=>(nQ a0).bind fun t4=>aq .gtr t4 (.int .i64 65536) ((lT [(.int .i64 0),(.int .i64 0)] [(0,1),(1,1)] [(0,(.int .i64 5)),(1,(.int .i64 0))]).bind fun t6=>(fun(t8:kM) (h7:kP)=>(kS 2 h7 t2 t6).bind fun h9=>some (.ret,[t8,t2],h9)) (.slice [] (.own (aa1 h3))) (h3++[.front 0 0])) ((fun(aS:kM) (aO:kP)=>o_ K 55 a0 (.int .i64 0) aO fun aT aG=>(mJ (GJ K (aa1 aG)) ([a0,t1,t2,aS,aT],aG)).bind fun aJ=>Eu aJ.2 fun aB aC aA aF aL aH=>Ex.lW aJ.1 none (fun aM=>Ex.inBlock 0 aM ((nQ aB).bind fun aU=>(lT [(.int .i64 0),(.int .i64 0),(.int .i64 0),(.str [])] [(0,1),(1,1),(2,1),(3,1)] [(1,aU)]).bind fun aV=>kR (kY 1 4 [(.int .i64 0),(.int .i64 0),(.int .i64 0),(.str [])] [(0,aV)] aH) fun aW aP=>kR (mH 4 40 aP aF aW) fun aX aQ=>(lT [(.int .i64 0),(.int .i64 0)] [(0,1),(1,1)] []).bind fun aY=>(kS 2 aQ aA aY).bind fun aR=>some (.ret,[aX,aA],aR)) (fun aN=>some (aN,[aC,aA],aH)))) (.slice [] (.own (aa1 h3))) (h3++[.front 0 0]))) (.slice [] (.own (aa1 h0))) (h0++[.front 0 0])).bind fun aK=>wL aK.2 fun aD aE aI=>Ex.nA aK.1 ((kU true 2 aI aE).bind fun aZ=>lZ (aa1 h0) (.tuple [aD,aZ]) aI)
theorem aAD (K:kW) (a0:kM) (h0:kP):o6 Tryz.prog mK mJ K 28 [a0] h0=m28 (lU mK K) a0 h0:=by kernel_rfl
def BQ (K:kW) (m:Nat) (s:List kM×kP):Option R :=
 sL s fun aA h1=>(k_ aA).bind fun t2=>fq 1 t2 h1 fun t4=>(k_ aA).bind fun t5=>fq 0 t5 h1 fun t7=>(nQ t7).bind fun t8=>aq .lss t4 t8 ((((k_ aA).bind fun aX=>fq 0 aX h1 fun aY=>(k_ aA).bind fun aZ=>fq 1 aZ h1 fun a_=>(m_ aY a_).bind fun bA=>qX K 143 bA h1 fun bB aF=>(lH bB ((k_ aA).bind fun bC=>fq 1 bC aF fun bD=>(kX .add bD (.int .i64 1)).bind fun bE=>(k_ aA).bind fun bF=>(kO 1 bF).bind fun bG=>(kS 1 aF bG bE).bind fun aV=>some (.normal,[aA],aV)) ((k_ aA).bind fun bH=>fq 0 bH aF fun bI=>(k_ aA).bind fun bJ=>fq 1 bJ aF fun bK=>(oK bI (some bK) none).bind fun bL=>o_ K 144 bL (.str [47,47]) aF fun bM aH=>lH bM ((k_ aA).bind fun bN=>fq 0 bN aH fun bO=>(k_ aA).bind fun bP=>fq 1 bP aH fun bQ=>(oK bO (some bQ) none).bind fun bR=>o_ K 145 bR (.int .u8 10) aH fun aR aI=>(kX .lss aR (.int .i64 0)).bind fun bS=>(lH bS ((k_ aA).bind fun bT=>fq 0 bT aI fun bU=>(nQ bU).bind fun bV=>(k_ aA).bind fun bW=>fq 1 bW aI fun bX=>(kX .sub bV bX).bind fun bY=>some (.normal,[aA,bY],aI)) (some (.normal,[aA,aR],aI))).bind fun aN=>wL aN.2 fun aB aG aJ=>Ex.uB aN.1 ((k_ aB).bind fun bZ=>fq 1 bZ aJ fun b8=>(kX .add b8 aG).bind fun b9=>(k_ aB).bind fun b_=>(kO 1 b_).bind fun cA=>(kS 1 aJ cA b9).bind fun aW=>some (.normal,[aB],aW))) (some (.ret,[aA],aH)))).bind fun aO=>sL aO.2 fun aC aK=>Ex.lW aO.1 (some (.normal,[aC],aK)) (fun aS=>some (aS,[aC],aK))).bind fun aP=>sL aP.2 fun aD aL=>Ex.inBlock 2 aP.1 (some (.normal,[aD],aL)) (fun aT=>some (aT,[aD],aL))).bind fun aQ=>sL aQ.2 fun aE aM=>Ex.inBlock 1 aQ.1 (kT m .normal [aE] aM) (fun aU=>kT m aU [aE] aM)) (kT m (.exit 0) [aA] h1)
def aEY (K:kW) (a0:kM) (h0:kP):Option (nO×kP) :=
 ((mJ (BQ K (aa1 h0)) ([a0],h0)).bind fun aB=>sL aB.2 fun aD aA=>Ex.lW aB.1 none (fun aE=>Ex.inBlock 0 aE (some (.normal,([]:List kM),aA)) (fun aF=>some (aF,([]:List kM),aA)))).bind fun aC=>(fun aG=>Ex.nA aC.1 (lZ (aa1 h0) (.tuple []) aG))  aC.2.2
theorem apS (K:kW) (a0:kM) (h0:kP):o6 Tryz.prog mK mJ K 100 [a0] h0=aEY (lU mK K) a0 h0:=by kernel_rfl
def FB (K:kW) (m:Nat) (s:List kM×kP):Option R :=
 Bx s fun aD aF aE aB aC aA aG=>aq .lss aA aC ((kZ 1 aB aA).bind fun aK=>(kU false 1 aG aK).bind fun aI=>(k_ aD).bind fun aL=>fq 0 aL aG fun aM=>(k_ aD).bind fun aN=>fq 1 aN aG fun aO=>(oK aM (some aO) none).bind fun aP=>o_ K 144 aP aI aG fun aQ aH=>lH aQ ((kO 3 aE).bind fun aR=>(kS 1 aH aR aI).bind fun aJ=>kT m (.exit 1) [aD,aF,aE,aB,aC,aA] aJ) ((kX .add aA (.int .i64 1)).bind fun aS=>kT m .normal [aD,aF,aE,aB,aC,aS] aH)) (kT m (.exit 1) [aD,aF,aE,aB,aC,aA] aG)
def R1 (K:kW) (a0:kM) (h0:kP):Option (nO×kP) :=
 ((k_ a0).bind fun t0=>fq 1 t0 h0 fun t2=>(lT [(.int .i64 0),(.int .i64 0),(.int .i64 0),(.str [])] [(0,1),(1,1),(2,1),(3,1)] [(1,t2)]).bind fun t3=>kR (lL 4 h0 (.agg [(.int .i64 0),(.int .i64 0),(.int .i64 0),(.str [])])) fun t4 h5=>(kS 4 h5 t4 t3).bind fun h6=>(k_ a0).bind fun t7=>fq 0 t7 h6 fun t9=>(k_ a0).bind fun cT=>fq 1 cT h6 fun cU=>(m_ t9 cU).bind fun cG=>(qX K 146 cG h6 fun cV cA=>(lH cV (qX K 147 a0 cA fun cW cM=>(kO 3 t4).bind fun cX=>(kS 1 cM cX cW).bind fun cN=>(kO 0 t4).bind fun cY=>(kS 1 cN cY (.int .i64 1)).bind fun aU=>(k_ a0).bind fun cZ=>fq 2 cZ aU fun c6=>fq 3 t4 aU fun cH=>bif oL .string cH then(q7 (.int .i64 0) true aU c6 cH).bind fun cI=>(lI 0 cI).bind fun d_=>(lI 1 cI).bind fun c7=>(lH c7 ((kO 0 t4).bind fun c_=>(kS 1 aU c_ (.int .i64 3)).bind fun cO=>some (.normal,[a0,(.bool false),t4],cO)) (some (.normal,[a0,(.bool false),t4],aU))).bind fun cF=>(AA cF.2 fun aC a_ aD aV=>Ex.uB cF.1 (fq 3 aD aV fun dA=>(nQ dA).bind fun dB=>aq .gtr dB (.int .i64 40) (some (.ret,[aC,(.bool false),aD],aV)) ((k_ aC).bind fun dC=>fq 1 dC aV fun dD=>fq 3 aD aV fun dE=>(nQ dE).bind fun dF=>(kX .add dD dF).bind fun dG=>(k_ aC).bind fun dH=>(kO 1 dH).bind fun dI=>(kS 1 aV dI dG).bind fun cP=>some (.normal,[aC,a_,aD],cP)))) else none) (qX K 148 cG cA fun dJ cB=>(lH dJ (qX K 147 a0 cB fun cJ cQ=>qX K 149 cJ cQ fun cK cD=>(lI 0 cK).bind fun dK=>(lI 1 cK).bind fun dL=>(vR .not dL).bind fun dM=>lH dM (some (.ret,[a0,(.bool false),t4],cD)) ((kO 0 t4).bind fun dN=>(kS 1 cD dN (.int .i64 2)).bind fun cR=>(kO 2 t4).bind fun dO=>(kS 1 cR dO dK).bind fun cE=>(k_ a0).bind fun dP=>fq 1 dP cE fun dQ=>(nQ cJ).bind fun dR=>(kX .add dQ dR).bind fun dU=>(k_ a0).bind fun dV=>(kO 1 dV).bind fun dW=>(kS 1 cE dW dU).bind fun cS=>some (.normal,[a0,(.bool false),t4],cS))) ((kO 0 t4).bind fun dX=>(kS 1 cB dX (.int .i64 4)).bind fun bN=>(k_ a0).bind fun dY=>fq 3 dY bN fun cL=>(mO cL).bind fun dZ=>(mJ (FB K (aa1 bN)) ([a0,(.bool false),t4,cL,dZ,(.int .i64 0)],bN)).bind fun aW=>Bx aW.2 fun aA aJ aB bA bB bC aE=>Ex.lW aW.1 none (fun bD=>Ex.inBlock 1 bD (fq 3 aB aE fun bO=>aq .eql bO (.str []) (some (.ret,[aA,(.bool false),aB],aE)) ((k_ aA).bind fun bP=>fq 1 bP aE fun bQ=>fq 3 aB aE fun bR=>(nQ bR).bind fun bS=>(kX .add bQ bS).bind fun bT=>(k_ aA).bind fun bU=>(kO 1 bU).bind fun bV=>(kS 1 aE bV bT).bind fun bI=>some (.normal,[aA,aJ,aB],bI))) (fun bE=>some (bE,[aA,aJ,aB],aE))))).bind fun aX=>AA aX.2 fun aG aK aM aS=>Ex.lW aX.1 (some (.normal,[aG,aK,aM],aS)) (fun bF=>some (bF,[aG,aK,aM],aS)))).bind fun aY=>AA aY.2 fun aH aL aN aT=>Ex.lW aY.1 (some (.normal,[aH,aL,aN],aT)) (fun bG=>some (bG,[aH,aL,aN],aT))).bind fun aZ=>AA aZ.2 fun aI aP aR aF=>Ex.inBlock 0 aZ.1 ((k_ aI).bind fun bW=>(kO 4 bW).bind fun aO=>(kU false 1 aF aO).bind fun bX=>(kU true 4 aF aR).bind fun bY=>kR (kY 1 4 [(.int .i64 0),(.int .i64 0),(.int .i64 0),(.str [])] [(0,bY)] (nL (k9 [0] [aO]) aF)) fun bZ bJ=>kR (mH 4 40 (lQ (k9 [0] [aO]) aF bJ) bX bZ) fun b8 bK=>(k_ aI).bind fun b9=>(kO 4 b9).bind fun b_=>(kS 1 bK b_ b8).bind fun bL=>some (.ret,[(.bool true)],bL)) (fun bH=>some (bH,[aP],aF))).bind fun Xg=>sL Xg.2 fun aQ bM=>Ex.nA Xg.1 (lZ (aa1 h0) aQ bM)
theorem apT (K:kW) (a0:kM) (h0:kP):o6 Tryz.prog mK mJ K 101 [a0] h0=R1 (lU mK K) a0 h0:=by kernel_rfl
def Jg (K:kW) (m:Nat) (s:List kM×kP):Option R :=
 AA s fun aA aB aC aE=>(nQ aA).bind fun aJ=>(kX .lss aB aJ).bind fun aD=>gq true aD (lC aA aE) aE fun aK aF=>gq true aD (lC aB aF) aF fun aL aG=>gq true aD ((m_ aK aL).bind fun aM=>lC aM aG) aG fun aN aH=>gq true aD ((kX .neq aN (.int .u8 10)).bind fun aO=>lC aO aH) aH fun aP aI=>(lO aD aP (.bool false)).bind fun aQ=>lH aQ ((kX .add aB (.int .i64 1)).bind fun aR=>kT m .normal [aA,aR,aC] aI) (kT m (.exit 2) [aA,aB,aC] aI)
def Dh (K:kW) (m:Nat) (s:List kM×kP):Option R :=
 AA s fun aB aA aL h3=>(nQ aB).bind fun t4=>aq .lss aA t4 (((kX .add aA (.int .i64 1)).bind fun t6=>(nQ aB).bind fun t7=>(kX .lss t6 t7).bind fun t8=>gq true t8 (lC aB h3) h3 fun t9 aO=>gq true t8 (lC aA aO) aO fun bG aP=>gq true t8 ((m_ t9 bG).bind fun bH=>lC bH aP) aP fun bI aQ=>gq true t8 ((kX .eql bI (.int .u8 47)).bind fun bJ=>lC bJ aQ) aQ fun bK aR=>(lO t8 bK (.bool false)).bind fun aM=>gq true aM (lC aB aR) aR fun bL aS=>gq true aM (lC aA aS) aS fun bM aT=>gq true aM ((kX .add bM (.int .i64 1)).bind fun bN=>lC bN aT) aT fun bO aU=>gq true aM ((m_ bL bO).bind fun bP=>lC bP aU) aU fun bQ aV=>gq true aM ((kX .eql bQ (.int .u8 47)).bind fun bR=>lC bR aV) aV fun bS aN=>(lO aM bS (.bool false)).bind fun bT=>(lH bT ((mJ (Jg K (aa1 aN)) ([aB,aA,aL],aN)).bind fun a_=>AA a_.2 fun aC aF aI aW=>Ex.lW a_.1 none (fun bC=>Ex.inBlock 2 bC (some (.normal,[aC,aF,aI],aW)) (fun bD=>some (bD,[aC,aF,aI],aW)))) ((m_ aB aA).bind fun bU=>qX K 112 bU aN fun bV aX=>lH bV ((kX .add aA (.int .i64 1)).bind fun bW=>some (.normal,[aB,bW,aL],aX)) (some (.ret,[aB,aA,aA],aX)))).bind fun bA=>AA bA.2 fun aD aG aJ aY=>Ex.lW bA.1 (some (.normal,[aD,aG,aJ],aY)) (fun bE=>some (bE,[aD,aG,aJ],aY))).bind fun bB=>AA bB.2 fun aE aH aK aZ=>Ex.inBlock 1 bB.1 (kT m .normal [aE,aH,aK] aZ) (fun bF=>kT m bF [aE,aH,aK] aZ)) (kT m (.exit 0) [aB,aA,aL] h3)
def m55 (K:kW) (a0 a1:kM) (h0:kP):Option (nO×kP) :=
 ((mJ (Dh K (aa1 h0)) ([a0,a1,(.int .i64 0)],h0)).bind fun aE=>AA aE.2 fun aG aA aB aD=>Ex.lW aE.1 none (fun aH=>Ex.inBlock 0 aH (some (.ret,[aA],aD)) (fun aI=>some (aI,[aB],aD)))).bind fun aF=>sL aF.2 fun aC aJ=>Ex.nA aF.1 (lZ (aa1 h0) aC aJ)
theorem aAW (K:kW) (a0 a1:kM) (h0:kP):o6 Tryz.prog mK mJ K 55 [a0,a1] h0=m55 (lU mK K) a0 a1 h0:=by kernel_rfl
def Jh (K:kW) (m:Nat) (s:List kM×kP):Option R :=
 Bx s fun aA aC aD aE aF aB aI=>(nQ aA).bind fun aV=>(kX .lss aB aV).bind fun aG=>gq true aG (lC aA aI) aI fun aW aJ=>gq true aG (lC aB aJ) aJ fun aX aK=>gq true aG ((m_ aW aX).bind fun aY=>lC aY aK) aK fun aZ aL=>gq true aG (kV (K 113 [(kM.kQ aZ)] aL) (fun a_ aT=>lC a_ aT) yP) aL fun bA aM=>gq true aG (lC bA aM) aM fun aH aN=>gq false aH (lC aA aN) aN fun bB aO=>gq false aH (lC aB aO) aO fun bC aP=>gq false aH ((m_ bB bC).bind fun bD=>lC bD aP) aP fun bE aQ=>gq false aH (kV (K 114 [(kM.kQ bE)] aQ) (fun bF aU=>lC bF aU) yP) aQ fun bG aR=>gq true aG ((lO aH (.bool true) bG).bind fun bH=>lC bH aR) aR fun bI aS=>(lO aG bI (.bool false)).bind fun bJ=>lH bJ ((kX .add aB (.int .i64 1)).bind fun bK=>kT m .normal [aA,aC,aD,aE,aF,bK] aS) (kT m (.exit 0) [aA,aC,aD,aE,aF,aB] aS)
def m56 (K:kW) (a0 a1:kM) (h0:kP):Option (nO×kP) :=
 (kR (lL 4 h0 (.agg [(.int .i64 0),(.int .i64 0),(.int .i64 0),(.str [])])) fun t0 h1=>(lT [(.int .i64 0),(.int .i64 0),(.int .i64 0),(.str [])] [(0,1),(1,1),(2,1),(3,1)] [(1,a1)]).bind fun t2=>kR (lL 4 h1 (.agg [(.int .i64 0),(.int .i64 0),(.int .i64 0),(.str [])])) fun t3 h4=>(kS 4 h4 t3 t2).bind fun h5=>(m_ a0 a1).bind fun t6=>qX K 113 t6 h5 fun t7 h8=>(vR .not t7).bind fun t9=>gq true t9 (lC a0 h8) h8 fun b_ bM=>gq true t9 (lC a1 bM) bM fun cA bN=>gq true t9 ((m_ b_ cA).bind fun cB=>lC cB bN) bN fun cD bO=>gq true t9 (kV (K 114 [(kM.kQ cD)] bO) (fun cE bV=>lC cE bV) yP) bO fun cF bP=>gq true t9 ((vR .not cF).bind fun cG=>lC cG bP) bP fun cH aZ=>(lO t9 cH (.bool false)).bind fun cI=>lH cI ((kO 0 t3).bind fun cJ=>(kS 1 aZ cJ (.int .i64 4)).bind fun bW=>o_ K 115 a0 a1 bW fun cK bX=>(kO 3 t3).bind fun cL=>(kS 1 bX cL cK).bind fun aS=>(kU true 4 aS t3).bind fun cM=>(kO 3 t3).bind fun bJ=>(kU false 1 aS bJ).bind fun cN=>(nQ cN).bind fun cO=>(kS 4 (nL (k9 [0] [bJ]) aS) t0 cM).bind fun bY=>some (.ret,[t0,cO],(lQ (k9 [0] [bJ]) aS bY))) ((mJ (Jh K (aa1 aZ)) ([a0,a1,t0,(.int .i64 0),t3,a1],aZ)).bind fun bS=>Bx bS.2 fun aK aD aB aG aA aE bQ=>Ex.lW bS.1 none (fun bT=>Ex.inBlock 0 bT ((oK aK (some aD) (some aE)).bind fun bK=>(m_ aK aD).bind fun cP=>qX K 114 cP bQ fun cQ bR=>lH cQ ((kO 0 aA).bind fun cR=>(kS 1 bR cR (.int .i64 2)).bind fun bZ=>qX K 116 bK bZ fun cS b8=>(kO 2 aA).bind fun cT=>(kS 1 b8 cT cS).bind fun aP=>fq 2 aA aP fun cU=>aq .lss cU (.int .i64 0) ((kU true 4 aP aA).bind fun cV=>(kS 4 aP aB cV).bind fun b9=>some (.ret,[aB,(.int .i64 0)],b9)) ((kU true 4 aP aA).bind fun cW=>(kX .sub aE aD).bind fun a_=>(kS 4 aP aB cW).bind fun aT=>some (.ret,[aB,a_],aT))) ((kO 0 aA).bind fun bA=>(kS 1 bR bA (.int .i64 1)).bind fun aU=>(kO 3 aA).bind fun bB=>(kS 1 aU bB bK).bind fun aV=>o_ K 117 (.str [32,102,110,32,112,117,98,32,115,101,99,32,111,117,116,32,108,101,116,32,118,97,114,32,105,102,32,101,108,115,101,32,102,111,114,32,109,97,120,32,114,101,116,117,114,110,32,117,51,50,32,117,56,32,109,97,115,107,32,109,117,108,104,105,32,99,97,114,114,121,32,115,101,108,101,99,116,32,119,111,114,100,32,114,111,114,32]) bK aV fun bC aN=>(lH bC ((kO 0 aA).bind fun bD=>(kS 1 aN bD (.int .i64 3)).bind fun aW=>some (.normal,[aD,aB,aG,aA,aE],aW)) (some (.normal,[aD,aB,aG,aA,aE],aN))).bind fun aQ=>Eu aQ.2 fun aF aC bL aH aI aJ=>Ex.uB aQ.1 ((kX .sub aI aF).bind fun bE=>aq .gtr bE (.int .i64 40) ((kU true 4 aJ aH).bind fun bF=>(kS 4 aJ aC bF).bind fun aX=>some (.ret,[aC,(.int .i64 0)],aX)) ((kU true 4 aJ aH).bind fun bG=>(kX .sub aI aF).bind fun bH=>(kS 4 aJ aC bG).bind fun aY=>some (.ret,[aC,bH],aY))))) (fun bU=>some (bU,[aB,aG],bQ))))).bind fun aR=>wL aR.2 fun aL aM aO=>Ex.nA aR.1 ((kU true 4 aO aL).bind fun bI=>lZ (aa1 h0) (.tuple [bI,aM]) aO)
theorem NA (K:kW) (a0 a1:kM) (h0:kP):o6 Tryz.prog mK mJ K 56 [a0,a1] h0=m56 (lU mK K) a0 a1 h0:=by kernel_rfl
def aAf (K:kW) (a0:kM) (h0:kP):Option (nO×kP) :=
 ((kX .eql a0 (.int .u8 32)).bind fun t0=>gq false t0 (lC a0 h0) h0 fun t1 h2=>gq false t0 ((kX .eql t1 (.int .u8 9)).bind fun t3=>lC t3 h2) h2 fun t4 h5=>(lO t0 (.bool true) t4).bind fun t6=>gq false t6 (lC a0 h5) h5 fun t7 h8=>gq false t6 ((kX .eql t7 (.int .u8 10)).bind fun t9=>lC t9 h8) h8 fun aH aC=>(lO t6 (.bool true) aH).bind fun aB=>gq false aB (lC a0 aC) aC fun aI aD=>gq false aB ((kX .eql aI (.int .u8 13)).bind fun aJ=>lC aJ aD) aD fun aK aF=>(lO aB (.bool true) aK).bind fun aL=>some (.ret,[aL],aF)).bind fun aE=>sL aE.2 fun aA aG=>Ex.nA aE.1 (lZ (aa1 h0) aA aG)
theorem aqN (K:kW) (a0:kM) (h0:kP):o6 Tryz.prog mK mJ K 143 [a0] h0=aAf (lU mK K) a0 h0:=by kernel_rfl
def aFb (K:kW) (a0 a1:kM) (h0:kP):Option (nO×kP) :=
 (o_ K 176 a0 a1 h0 fun t0 h1=>some (.ret,[t0],h1)).bind fun r2=>sL r2.2 fun aA h4=>Ex.nA r2.1 (lZ (aa1 h0) aA h4)
theorem aqO (K:kW) (a0 a1:kM) (h0:kP):o6 Tryz.prog mK mJ K 144 [a0,a1] h0=aFb (lU mK K) a0 a1 h0:=by kernel_rfl
def aFc (K:kW) (a0 a1:kM) (h0:kP):Option (nO×kP) :=
 (o_ K 177 a0 a1 h0 fun t0 h1=>some (.ret,[t0],h1)).bind fun r2=>sL r2.2 fun aA h4=>Ex.nA r2.1 (lZ (aa1 h0) aA h4)
theorem aqP (K:kW) (a0 a1:kM) (h0:kP):o6 Tryz.prog mK mJ K 145 [a0,a1] h0=aFc (lU mK K) a0 a1 h0:=by kernel_rfl
def aAg (K:kW) (a0:kM) (h0:kP):Option (nO×kP) :=
 ((kX .geq a0 (.int .u8 97)).bind fun t0=>gq true t0 (lC a0 h0) h0 fun t1 h2=>gq true t0 ((kX .leq t1 (.int .u8 122)).bind fun t3=>lC t3 h2) h2 fun t4 h5=>(lO t0 t4 (.bool false)).bind fun t6=>gq false t6 (lC a0 h5) h5 fun t7 h8=>gq false t6 ((kX .geq t7 (.int .u8 65)).bind fun t9=>lC t9 h8) h8 fun aM aD=>gq false t6 (lC aM aD) aD fun aB aE=>gq true aB (lC a0 aE) aE fun aN aF=>gq true aB ((kX .leq aN (.int .u8 90)).bind fun aO=>lC aO aF) aF fun aP aG=>gq false t6 ((lO aB aP (.bool false)).bind fun aQ=>lC aQ aG) aG fun aR aH=>(lO t6 (.bool true) aR).bind fun aC=>gq false aC (lC a0 aH) aH fun aS aI=>gq false aC ((kX .eql aS (.int .u8 95)).bind fun aT=>lC aT aI) aI fun aU aK=>(lO aC (.bool true) aU).bind fun aV=>some (.ret,[aV],aK)).bind fun aJ=>sL aJ.2 fun aA aL=>Ex.nA aJ.1 (lZ (aa1 h0) aA aL)
theorem aqQ (K:kW) (a0:kM) (h0:kP):o6 Tryz.prog mK mJ K 146 [a0] h0=aAg (lU mK K) a0 h0:=by kernel_rfl
def FC (K:kW) (m:Nat) (s:List kM×kP):Option R :=
 AA s fun aA aE aB h6=>(k_ aA).bind fun t7=>fq 0 t7 h6 fun t9=>(nQ t9).bind fun aX=>(kX .lss aB aX).bind fun aC=>gq true aC (lC aA h6) h6 fun aY aH=>gq true aC ((k_ aY).bind fun aZ=>lC aZ aH) aH fun a_ aI=>gq true aC ((kO 0 a_).bind fun bA=>lC bA aI) aI fun bB aF=>gq true aC ((kU false 1 aF bB).bind fun bC=>lC bC aF) aF fun bD aJ=>gq true aC (lC aB aJ) aJ fun bE aK=>gq true aC ((m_ bD bE).bind fun bF=>lC bF aK) aK fun bG aL=>gq true aC (kV (K 146 [(kM.kQ bG)] aL) (fun bH aV=>lC bH aV) yP) aL fun bI aM=>gq true aC (lC bI aM) aM fun aD aN=>gq false aD (lC aA aN) aN fun bJ aO=>gq false aD ((k_ bJ).bind fun bK=>lC bK aO) aO fun bL aP=>gq false aD ((kO 0 bL).bind fun bM=>lC bM aP) aP fun bN aG=>gq false aD ((kU false 1 aG bN).bind fun bO=>lC bO aG) aG fun bP aQ=>gq false aD (lC aB aQ) aQ fun bQ aR=>gq false aD ((m_ bP bQ).bind fun bR=>lC bR aR) aR fun bS aS=>gq false aD (kV (K 148 [(kM.kQ bS)] aS) (fun bT aW=>lC bT aW) yP) aS fun bU aT=>gq true aC ((lO aD (.bool true) bU).bind fun bV=>lC bV aT) aT fun bW aU=>(lO aC bW (.bool false)).bind fun bX=>lH bX ((kX .add aB (.int .i64 1)).bind fun bY=>kT m .normal [aA,aE,bY] aU) (kT m (.exit 0) [aA,aE,aB] aU)
def aFd (K:kW) (a0:kM) (h0:kP):Option (nO×kP) :=
 ((k_ a0).bind fun t0=>fq 1 t0 h0 fun t2=>(mJ (FC K (aa1 h0)) ([a0,(.str []),t2],h0)).bind fun aF=>AA aF.2 fun aA aB aD aE=>Ex.lW aF.1 none (fun aH=>Ex.inBlock 0 aH ((k_ aA).bind fun aK=>fq 0 aK aE fun aL=>(k_ aA).bind fun aM=>fq 1 aM aE fun aN=>(oK aL (some aN) (some aD)).bind fun aO=>some (.ret,[aO],aE)) (fun aI=>some (aI,[aB],aE)))).bind fun aG=>sL aG.2 fun aC aJ=>Ex.nA aG.1 (lZ (aa1 h0) aC aJ)
theorem aqR (K:kW) (a0:kM) (h0:kP):o6 Tryz.prog mK mJ K 147 [a0] h0=aFd (lU mK K) a0 h0:=by kernel_rfl
def aAh (K:kW) (a0:kM) (h0:kP):Option (nO×kP) :=
 ((kX .geq a0 (.int .u8 48)).bind fun t0=>gq true t0 (lC a0 h0) h0 fun t1 h2=>gq true t0 ((kX .leq t1 (.int .u8 57)).bind fun t3=>lC t3 h2) h2 fun t4 h5=>(lO t0 t4 (.bool false)).bind fun t6=>some (.ret,[t6],h5)).bind fun r7=>sL r7.2 fun aA h9=>Ex.nA r7.1 (lZ (aa1 h0) aA h9)
theorem aqS (K:kW) (a0:kM) (h0:kP):o6 Tryz.prog mK mJ K 148 [a0] h0=aAh (lU mK K) a0 h0:=by kernel_rfl
def D_ (K:kW) (m:Nat) (s:List kM×kP):Option R :=
 uq7 s fun aD aF aG aC aE aB aA aJ=>aq .lss aA aB ((m_ aD aA).bind fun aL=>o_ K 179 aL aC aJ fun aK aH=>(lI 0 aK).bind fun aM=>(lI 1 aK).bind fun aN=>(vR .not aN).bind fun aO=>lH aO (kT m .ret [aD,(.int .i64 0),(.bool false),aC,aE,aB,aA] aH) ((kX .mul aC aE).bind fun aP=>(kX .add aP aM).bind fun aI=>aq .gtr aI (.int .i64 4294967295) (kT m .ret [aD,(.int .i64 0),(.bool false),aC,aI,aB,aA] aH) ((kX .add aA (.int .i64 1)).bind fun aQ=>kT m .normal [aD,aF,aG,aC,aI,aB,aQ] aH))) (kT m (.exit 0) [aD,aF,aG,aC,aE,aB,aA] aJ)
def R2 (K:kW) (a0:kM) (h0:kP):Option (nO×kP) :=
 (o_ K 178 a0 (.str [48,120]) h0 fun t0 h1=>(lI 0 t0).bind fun t2=>(lI 1 t0).bind fun t3=>(lH t3 ((kX .eql t2 (.str [])).bind fun t4=>gq false t4 (lC t2 h1) h1 fun t5 h6=>gq false t4 ((nQ t5).bind fun t7=>lC t7 h6) h6 fun t8 h9=>gq false t4 ((kX .gtr t8 (.int .i64 8)).bind fun a_=>lC a_ h9) h9 fun bA aN=>(lO t4 (.bool true) bA).bind fun bB=>lH bB (some (.ret,[a0,(.int .i64 0),(.bool false),(.int .i64 10)],aN)) (some (.normal,[t2,(.int .i64 0),(.bool false),(.int .i64 16)],aN))) ((m_ a0 (.int .i64 0)).bind fun bC=>(kX .eql bC (.int .u8 48)).bind fun aK=>gq true aK (lC a0 h1) h1 fun bD aO=>gq true aK ((kX .neq bD (.str [48])).bind fun bE=>lC bE aO) aO fun bF aP=>(lO aK bF (.bool false)).bind fun bG=>lH bG (some (.ret,[a0,(.int .i64 0),(.bool false),(.int .i64 10)],aP)) (some (.normal,[a0,(.int .i64 0),(.bool false),(.int .i64 10)],aP)))).bind fun aR=>B5 aR.2 fun aA aB aC aH aJ=>Ex.lW aR.1 ((nQ aA).bind fun bH=>(mJ (D_ K (aa1 aJ)) ([aA,aB,aC,aH,(.int .i64 0),bH,(.int .i64 0)],aJ)).bind fun aS=>uq7 aS.2 fun aU aD aF aV aI aL aM aQ=>Ex.lW aS.1 none (fun aX=>Ex.inBlock 0 aX (some (.ret,[aI,(.bool true)],aQ)) (fun aY=>some (aY,[aD,aF],aQ)))) (fun aW=>some (aW,[aB,aC],aJ))).bind fun aT=>wL aT.2 fun aE aG aZ=>Ex.nA aT.1 (lZ (aa1 h0) (.tuple [aE,aG]) aZ)
theorem aqT (K:kW) (a0:kM) (h0:kP):o6 Tryz.prog mK mJ K 149 [a0] h0=R2 (lU mK K) a0 h0:=by kernel_rfl
def aJ4 (K:kW) (a0:kM) (h0:kP):Option (nO×kP) :=
 ((kX .eql a0 (.int .u8 32)).bind fun t0=>gq false t0 (lC a0 h0) h0 fun t1 h2=>gq false t0 ((kX .eql t1 (.int .u8 9)).bind fun t3=>lC t3 h2) h2 fun t4 h5=>(lO t0 (.bool true) t4).bind fun t6=>gq false t6 (lC a0 h5) h5 fun t7 h8=>gq false t6 ((kX .eql t7 (.int .u8 10)).bind fun t9=>lC t9 h8) h8 fun aH aC=>(lO t6 (.bool true) aH).bind fun aB=>gq false aB (lC a0 aC) aC fun aI aD=>gq false aB ((kX .eql aI (.int .u8 13)).bind fun aJ=>lC aJ aD) aD fun aK aF=>(lO aB (.bool true) aK).bind fun aL=>some (.ret,[aL],aF)).bind fun aE=>sL aE.2 fun aA aG=>Ex.nA aE.1 (lZ (aa1 h0) aA aG)
theorem ap4 (K:kW) (a0:kM) (h0:kP):o6 Tryz.prog mK mJ K 112 [a0] h0=aJ4 (lU mK K) a0 h0:=by kernel_rfl
def aJ5 (K:kW) (a0:kM) (h0:kP):Option (nO×kP) :=
 ((kX .geq a0 (.int .u8 97)).bind fun t0=>gq true t0 (lC a0 h0) h0 fun t1 h2=>gq true t0 ((kX .leq t1 (.int .u8 122)).bind fun t3=>lC t3 h2) h2 fun t4 h5=>(lO t0 t4 (.bool false)).bind fun t6=>gq false t6 (lC a0 h5) h5 fun t7 h8=>gq false t6 ((kX .geq t7 (.int .u8 65)).bind fun t9=>lC t9 h8) h8 fun aM aD=>gq false t6 (lC aM aD) aD fun aB aE=>gq true aB (lC a0 aE) aE fun aN aF=>gq true aB ((kX .leq aN (.int .u8 90)).bind fun aO=>lC aO aF) aF fun aP aG=>gq false t6 ((lO aB aP (.bool false)).bind fun aQ=>lC aQ aG) aG fun aR aH=>(lO t6 (.bool true) aR).bind fun aC=>gq false aC (lC a0 aH) aH fun aS aI=>gq false aC ((kX .eql aS (.int .u8 95)).bind fun aT=>lC aT aI) aI fun aU aK=>(lO aC (.bool true) aU).bind fun aV=>some (.ret,[aV],aK)).bind fun aJ=>sL aJ.2 fun aA aL=>Ex.nA aJ.1 (lZ (aa1 h0) aA aL)
theorem ap5 (K:kW) (a0:kM) (h0:kP):o6 Tryz.prog mK mJ K 113 [a0] h0=aJ5 (lU mK K) a0 h0:=by kernel_rfl
def aJ6 (K:kW) (a0:kM) (h0:kP):Option (nO×kP) :=
 ((kX .geq a0 (.int .u8 48)).bind fun t0=>gq true t0 (lC a0 h0) h0 fun t1 h2=>gq true t0 ((kX .leq t1 (.int .u8 57)).bind fun t3=>lC t3 h2) h2 fun t4 h5=>(lO t0 t4 (.bool false)).bind fun t6=>some (.ret,[t6],h5)).bind fun r7=>sL r7.2 fun aA h9=>Ex.nA r7.1 (lZ (aa1 h0) aA h9)
theorem ap7 (K:kW) (a0:kM) (h0:kP):o6 Tryz.prog mK mJ K 114 [a0] h0=aJ6 (lU mK K) a0 h0:=by kernel_rfl
def abT (K:kW) (a0 a1:kM) (h0:kP):Option (nO×kP) :=
 ((kX .add a1 (.int .i64 2)).bind fun t0=>(nQ a0).bind fun t1=>(kX .leq t0 t1).bind fun t2=>gq true t2 (lC a0 h0) h0 fun t3 h4=>gq true t2 (lC a1 h4) h4 fun t5 h6=>gq true t2 (lC a1 h6) h6 fun t7 h8=>gq true t2 ((kX .add t7 (.int .i64 2)).bind fun t9=>lC t9 h8) h8 fun aI aB=>gq true t2 ((oK t3 (some t5) (some aI)).bind fun aJ=>lC aJ aB) aB fun aK aC=>gq true t2 (kV (K 117 [(kM.kQ (.str [32,60,60,32,62,62,32,61,61,32,33,61,32,60,61,32,62,61,32])),(kM.kQ aK)] aC) (fun aL aG=>lC aL aG) yP) aC fun aM aD=>(lO t2 aM (.bool false)).bind fun aN=>lH aN ((kX .add a1 (.int .i64 2)).bind fun aO=>(oK a0 (some a1) (some aO)).bind fun aP=>some (.ret,[aP],aD)) ((kX .add a1 (.int .i64 1)).bind fun aQ=>(oK a0 (some a1) (some aQ)).bind fun aR=>o_ K 117 (.str [32,40,32,41,32,123,32,125,32,91,32,93,32,44,32,59,32,58,32,61,32,43,32,45,32,42,32,38,32,124,32,94,32,126,32,33,32,60,32,62,32]) aR aD fun aS aE=>lH aS ((kX .add a1 (.int .i64 1)).bind fun aT=>(oK a0 (some a1) (some aT)).bind fun aU=>some (.ret,[aU],aE)) (some (.ret,[(.str [])],aE)))).bind fun aF=>sL aF.2 fun aA aH=>Ex.nA aF.1 (lZ (aa1 h0) aA aH)
theorem ap8 (K:kW) (a0 a1:kM) (h0:kP):o6 Tryz.prog mK mJ K 115 [a0,a1] h0=abT (lU mK K) a0 a1 h0:=by kernel_rfl
def CX (K:kW) (m:Nat) (s:List kM×kP):Option R :=
 Eu s fun aA aE aC aD aB aT=>(nQ aA).bind fun bH=>aq .lss aB bH (((m_ aA aB).bind fun bI=>(vP .i64 bI).bind fun bJ=>(kX .sub bJ (.int .i64 48)).bind fun bF=>(m_ aA aB).bind fun bK=>(kX .geq bK (.int .u8 97)).bind fun aQ=>gq true aQ (lC aA aT) aT fun bL aW=>gq true aQ (lC aB aW) aW fun bM aX=>gq true aQ ((m_ bL bM).bind fun bN=>lC bN aX) aX fun bO aY=>gq true aQ ((kX .leq bO (.int .u8 102)).bind fun bP=>lC bP aY) aY fun bQ aZ=>(lO aQ bQ (.bool false)).bind fun aV=>gq true aV (lC aC aZ) aZ fun bR a_=>gq true aV ((kX .eql bR (.int .i64 16)).bind fun bS=>lC bS a_) a_ fun bT bA=>(lO aV bT (.bool false)).bind fun bU=>(lH bU ((m_ aA aB).bind fun bV=>(vP .i64 bV).bind fun bW=>(kX .sub bW (.int .i64 97)).bind fun bX=>(kX .add bX (.int .i64 10)).bind fun bY=>some (.normal,[aA,aE,aC,aD,aB,bY],bA)) ((m_ aA aB).bind fun bZ=>qX K 114 bZ bA fun b8 bB=>(vR .not b8).bind fun b9=>lH b9 (some (.ret,[aA,(.int .i64 (-1)),aC,aD,aB,bF],bB)) (some (.normal,[aA,aE,aC,aD,aB,bF],bB)))).bind fun bD=>Bx bD.2 fun aG aI aF aL aN aR bC=>Ex.lW bD.1 ((kX .mul aL aF).bind fun b_=>(kX .add b_ aR).bind fun cA=>some (.normal,[aG,aI,aF,cA,aN],bC)) (fun bG=>some (bG,[aG,aI,aF,aL,aN],bC))).bind fun bE=>Eu bE.2 fun aH aJ aK aM aO aP=>Ex.inBlock 1 bE.1 ((kX .add aO (.int .i64 1)).bind fun aU=>kT m .normal [aH,aJ,aK,aM,aU] aP) (fun aS=>kT m aS [aH,aJ,aK,aM,aO] aP)) (kT m (.exit 0) [aA,aE,aC,aD,aB] aT)
def GC (K:kW) (a0:kM) (h0:kP):Option (nO×kP) :=
 ((nQ a0).bind fun t0=>(kX .geq t0 (.int .i64 2)).bind fun t1=>gq true t1 (lC a0 h0) h0 fun t2 h3=>gq true t1 ((oK t2 none (some (.int .i64 2))).bind fun t4=>lC t4 h3) h3 fun t5 h6=>gq true t1 ((kX .eql t5 (.str [48,120])).bind fun t7=>lC t7 h6) h6 fun t8 h9=>(lO t1 t8 (.bool false)).bind fun bC=>(lH bC ((oK a0 (some (.int .i64 2)) none).bind fun aP=>(nQ aP).bind fun bD=>aq .gtr bD (.int .i64 8) (some (.ret,[aP,(.int .i64 (-1)),(.int .i64 16)],h9)) (some (.normal,[aP,(.int .i64 0),(.int .i64 16)],h9))) ((nQ a0).bind fun bE=>(kX .gtr bE (.int .i64 10)).bind fun aG=>gq false aG (lC a0 h9) h9 fun bF aT=>gq false aG ((nQ bF).bind fun bG=>lC bG aT) aT fun bH aU=>gq false aG ((kX .gtr bH (.int .i64 1)).bind fun bI=>lC bI aU) aU fun bJ aV=>gq false aG (lC bJ aV) aV fun aL aW=>gq true aL (lC a0 aW) aW fun bK aX=>gq true aL ((m_ bK (.int .i64 0)).bind fun bL=>lC bL aX) aX fun bM aY=>gq true aL ((kX .eql bM (.int .u8 48)).bind fun bN=>lC bN aY) aY fun bO aZ=>gq false aG ((lO aL bO (.bool false)).bind fun bP=>lC bP aZ) aZ fun bQ a_=>(lO aG (.bool true) bQ).bind fun bR=>lH bR (some (.ret,[a0,(.int .i64 (-1)),(.int .i64 10)],a_)) (some (.normal,[a0,(.int .i64 0),(.int .i64 10)],a_)))).bind fun bA=>AA bA.2 fun aB aC aJ aK=>Ex.lW bA.1 (aq .eql aB (.str []) (some (.ret,[(.int .i64 (-1))],aK)) ((mJ (CX K (aa1 aK)) ([aB,aC,aJ,(.int .i64 0),(.int .i64 0)],aK)).bind fun aH=>Eu aH.2 fun aQ aE aR aA aS aD=>Ex.lW aH.1 none (fun aM=>Ex.inBlock 0 aM (aq .geq aA (.int .i64 4294967296) (some (.ret,[(.int .i64 (-1))],aD)) (some (.ret,[aA],aD))) (fun aN=>some (aN,[aE],aD))))) (fun bB=>some (bB,[aC],aK))).bind fun aI=>sL aI.2 fun aF aO=>Ex.nA aI.1 (lZ (aa1 h0) aF aO)
theorem ap9 (K:kW) (a0:kM) (h0:kP):o6 Tryz.prog mK mJ K 116 [a0] h0=GC (lU mK K) a0 h0:=by kernel_rfl
def D7 (K:kW) (m:Nat) (s:List kM×kP):Option R :=
 B5 s fun aC aD aA aB h6=>(nQ aA).bind fun t7=>(kX .add aB t7).bind fun t8=>(nQ aC).bind fun t9=>aq .leq t8 t9 ((nQ aA).bind fun aE=>(kX .add aB aE).bind fun aF=>(oK aC (some aB) (some aF)).bind fun aG=>aq .eql aG aA (kT m .ret [aC,(.bool true),aA,aB] h6) ((kX .add aB (.int .i64 1)).bind fun aH=>kT m .normal [aC,aD,aA,aH] h6)) (kT m (.exit 0) [aC,aD,aA,aB] h6)
def az9 (K:kW) (a0 a1:kM) (h0:kP):Option (nO×kP) :=
 ((kX .add (.str [32]) a1).bind fun t0=>(kX .add t0 (.str [32])).bind fun t1=>(mJ (D7 K (aa1 h0)) ([a0,(.bool false),t1,(.int .i64 0)],h0)).bind fun aD=>B5 aD.2 fun aF aA aG aH aC=>Ex.lW aD.1 none (fun aI=>Ex.inBlock 0 aI (some (.ret,[(.bool false)],aC)) (fun aJ=>some (aJ,[aA],aC)))).bind fun aE=>sL aE.2 fun aB aK=>Ex.nA aE.1 (lZ (aa1 h0) aB aK)
theorem aqA (K:kW) (a0 a1:kM) (h0:kP):o6 Tryz.prog mK mJ K 117 [a0,a1] h0=az9 (lU mK K) a0 a1 h0:=by kernel_rfl
def arB (K:kW) (a0 a1:kM) (h0:kP):Option (nO×kP) :=
 ((nQ a0).bind fun t0=>(nQ a1).bind fun t1=>(kX .geq t0 t1).bind fun t2=>gq true t2 (lC a0 h0) h0 fun t3 h4=>gq true t2 (lC a1 h4) h4 fun t5 h6=>gq true t2 ((nQ t5).bind fun t7=>lC t7 h6) h6 fun t8 h9=>gq true t2 ((oK t3 none (some t8)).bind fun aG=>lC aG h9) h9 fun aH aB=>gq true t2 (lC a1 aB) aB fun aI aC=>gq true t2 ((kX .eql aH aI).bind fun aJ=>lC aJ aC) aC fun aK aE=>(lO t2 aK (.bool false)).bind fun aL=>some (.ret,[aL],aE)).bind fun aD=>sL aD.2 fun aA aF=>Ex.nA aD.1 (lZ (aa1 h0) aA aF)
theorem arC (K:kW) (a0 a1:kM) (h0:kP):o6 Tryz.prog mK mJ K 176 [a0,a1] h0=arB (lU mK K) a0 a1 h0:=by kernel_rfl
def aFk (K:kW) (a0 a1:kM) (h0:kP):Option (nO×kP) :=
 (kV (agD .indexByte [(kM.kQ a0),(kM.kQ a1)] h0) (fun t0 h1=>some (.ret,[t0],h1)) (fun _ _=>none)).bind fun r2=>sL r2.2 fun aA h4=>Ex.nA r2.1 (lZ (aa1 h0) aA h4)
theorem arD (K:kW) (a0 a1:kM) (h0:kP):o6 Tryz.prog mK mJ K 177 [a0,a1] h0=aFk (lU mK K) a0 a1 h0:=by kernel_rfl
def aFl (K:kW) (a0 a1:kM) (h0:kP):Option (nO×kP) :=
 (o_ K 204 a0 a1 h0 fun t0 h1=>(lI 0 t0).bind fun t2=>(lI 1 t0).bind fun t3=>some (.ret,[t2,t3],h1)).bind fun r4=>wL r4.2 fun aA aB h7=>Ex.nA r4.1 (lZ (aa1 h0) (.tuple [aA,aB]) h7)
theorem arE (K:kW) (a0 a1:kM) (h0:kP):o6 Tryz.prog mK mJ K 178 [a0,a1] h0=aFl (lU mK K) a0 a1 h0:=by kernel_rfl
def ahW (K:kW) (a0 a1:kM) (h0:kP):Option (nO×kP) :=
 (qX K 148 a0 h0 fun t0 h1=>lH t0 ((kX .sub a0 (.int .u8 48)).bind fun t2=>(vP .i64 t2).bind fun t3=>some (.ret,[t3,(.bool true)],h1)) ((kX .gtr a1 (.int .i64 10)).bind fun t4=>gq true t4 (lC a0 h1) h1 fun t5 h6=>gq true t4 ((kX .geq t5 (.int .u8 97)).bind fun t7=>lC t7 h6) h6 fun t8 h9=>(lO t4 t8 (.bool false)).bind fun aC=>gq true aC (lC a0 h9) h9 fun aH aD=>gq true aC ((kX .leq aH (.int .u8 102)).bind fun aI=>lC aI aD) aD fun aJ aE=>(lO aC aJ (.bool false)).bind fun aK=>lH aK ((kX .sub a0 (.int .u8 97)).bind fun aL=>(vP .i64 aL).bind fun aM=>(kX .add aM (.int .i64 10)).bind fun aN=>some (.ret,[aN,(.bool true)],aE)) (some (.ret,[(.int .i64 0),(.bool false)],aE)))).bind fun aF=>wL aF.2 fun aA aB aG=>Ex.nA aF.1 (lZ (aa1 h0) (.tuple [aA,aB]) aG)
theorem arF (K:kW) (a0 a1:kM) (h0:kP):o6 Tryz.prog mK mJ K 179 [a0,a1] h0=ahW (lU mK K) a0 a1 h0:=by kernel_rfl
def aAu (K:kW) (a0 a1:kM) (h0:kP):Option (nO×kP) :=
 (o_ K 176 a0 a1 h0 fun t0 h1=>(vR .not t0).bind fun t2=>lH t2 (some (.ret,[a0,(.bool false)],h1)) ((nQ a1).bind fun t3=>(oK a0 (some t3) none).bind fun t4=>some (.ret,[t4,(.bool true)],h1))).bind fun r5=>wL r5.2 fun aA aB h8=>Ex.nA r5.1 (lZ (aa1 h0) (.tuple [aA,aB]) h8)
theorem arQ (K:kW) (a0 a1:kM) (h0:kP):o6 Tryz.prog mK mJ K 204 [a0,a1] h0=aAu (lU mK K) a0 a1 h0:=by kernel_rfl
end
section
open Go Hk
noncomputable abbrev KK:kW:=lU mK (MK Tryz.prog mK)
abbrev by8 (b:UInt8):kM:=.int .u8 (b.toNat:Int)
def isDigit (b:UInt8):Bool:=decide (48≤b.toNat) && decide (b.toNat≤57)
def pI (b:UInt8):Bool:=decide (97≤b.toNat) && decide (b.toNat≤122) || decide (65≤b.toNat) && decide (b.toNat≤90) || decide (b.toNat=95)
def qN (b:UInt8):Bool:=decide (b.toNat=32) || decide (b.toNat=9) || decide (b.toNat=10) || decide (b.toNat=13)
theorem Qi (K:kW) (b:UInt8):aAh K (by8 b) []=some (.ret (.bool (isDigit b)),[]):=by
 by_cases h1:48≤b.toNat <;> by_cases h2:b.toNat≤57
 all_goals
  have h1':((48:Int)≤b.toNat)↔48≤b.toNat:=by omega
  have h2':((b.toNat:Int)≤57)↔b.toNat≤57:=by omega
  simp [aAh,isDigit,h1,h2,h1',h2',kN]
theorem Pa (b:UInt8) (h:kP):KK 148 [by8 b] h=some (.ret (.bool (isDigit b)),h):=lD rfl rfl (lA (aqS _ _ _) (Qi KK b))
theorem O9 (b:UInt8) (h:kP):KK 114 [by8 b] h=some (.ret (.bool (isDigit b)),h):=lD rfl rfl (lA (ap7 _ _ _) (Qi KK b))
theorem Qh (K:kW) (b:UInt8):aAg K (by8 b) []=some (.ret (.bool (pI b)),[]):=by
 have e1:((97:Int)≤b.toNat)↔97≤b.toNat:=by omega
 have e2:((b.toNat:Int)≤122)↔b.toNat≤122:=by omega
 have e3:((65:Int)≤b.toNat)↔65≤b.toNat:=by omega
 have e4:((b.toNat:Int)≤90)↔b.toNat≤90:=by omega
 have e5:((b.toNat:Int)=95)↔b.toNat=95:=by omega
 by_cases h1:97≤b.toNat <;> by_cases h2:b.toNat≤122 <;> by_cases h3:65≤b.toNat <;> by_cases h4:b.toNat≤90 <;> by_cases h5:b.toNat=95 <;>
  simp [aAg,pI,e1,e2,e3,e4,e5,h1,h2,h3,h4,h5,kN]
theorem O_ (b:UInt8) (h:kP):KK 146 [by8 b] h=some (.ret (.bool (pI b)),h):=lD rfl rfl (lA (aqQ _ _ _) (Qh KK b))
theorem Wc (b:UInt8) (h:kP):KK 113 [by8 b] h=some (.ret (.bool (pI b)),h):=lD rfl rfl (lA (ap5 _ _ _) (Qh KK b))
theorem Qg (K:kW) (b:UInt8):aAf K (by8 b) []=some (.ret (.bool (qN b)),[]):=by
 have e1:((b.toNat:Int)=32)↔b.toNat=32:=by omega
 have e2:((b.toNat:Int)=9)↔b.toNat=9:=by omega
 have e3:((b.toNat:Int)=10)↔b.toNat=10:=by omega
 have e4:((b.toNat:Int)=13)↔b.toNat=13:=by omega
 by_cases h1:b.toNat=32 <;> by_cases h2:b.toNat=9 <;> by_cases h3:b.toNat=10 <;> by_cases h4:b.toNat=13 <;>
  simp [aAf,qN,e1,e2,e3,e4,h1,h2,h3,h4,kN]
theorem aoA (b:UInt8) (h:kP):KK 143 [by8 b] h=some (.ret (.bool (qN b)),h):=lD rfl rfl (lA (aqN _ _ _) (Qg KK b))
theorem ax8 (b:UInt8) (h:kP):KK 112 [by8 b] h=some (.ret (.bool (qN b)),h):=lD rfl rfl (lA (ap4 _ _ _) (Qg KK b))
theorem ab4 (K:kW) (s t:List UInt8):arB K (.str s) (.str t) []=some (.ret (.bool (decide (s.take t.length=t))),[]):=by
 by_cases h:t.length≤s.length
 ·have h':(t.length:Int)≤s.length:=by omega
  have:=qH (s:=s) (lo:=none) (hi:=some (.int .i64 (t.length:Int))) xX p7 (ah8 _) h
  simp [arB,h',this,kN]
 ·have h':¬(t.length:Int)≤s.length:=by omega
  have h2:¬s.take t.length=t:=fun e=>h (by have:=congrArg aa1 e; simp at this; omega)
  simp [arB,h',h2,kN]
theorem ayP (s t:List UInt8) (h:kP):KK 176 [.str s,.str t] h=some (.ret (.bool (decide (s.take t.length=t))),h):=lD rfl rfl (lA (arC _ _ _ _) (ab4 _ s t))
theorem afL (s t:List UInt8) (h:kP):KK 144 [.str s,.str t] h=some (.ret (.bool (decide (s.take t.length=t))),h) :=
 lD rfl rfl (lA (aqO _ _ _ _) (by simp [aFb,ayP,kN]))
theorem aJa (s:List UInt8) (b:UInt8) (h:kP):KK 177 [.str s,by8 b] h=some (.ret (.int .i64 (tB s b)),h) :=
 lD rfl rfl (lA (arD _ _ _ _) (by simp [aFk,agD,azA,kN]))
theorem aI2 (s:List UInt8) (b:UInt8) (h:kP):KK 145 [.str s,by8 b] h=some (.ret (.int .i64 (tB s b)),h) :=
 lD rfl rfl (lA (aqP _ _ _ _) (by simp [aFc,aJa,kN]))
def xE (s t:List UInt8):List UInt8×Bool:=if s.take t.length=t then(s.drop t.length,true) else(s,false)
theorem aJh (s t:List UInt8) (h:kP):KK 204 [.str s,.str t] h=some (.ret (.tuple [.str (xE s t).1,.bool (xE s t).2]),h) :=
 lD rfl rfl (lA (arQ _ _ _ _) (by
  by_cases hp:s.take t.length=t
  ·have hl:t.length≤s.length:=by have:=congrArg aa1 hp; simp at this; omega
   have:=qH (s:=s) (lo:=some (.int .i64 (t.length:Int))) (hi:=none) p7 xX hl (ab6 _)
   have e:(s.drop t.length).take (s.length - t.length)=s.drop t.length:=List.take_of_length_le (by simp)
   simp [aAu,ayP,hp,this,xE,e,kN]
  ·simp [aAu,ayP,hp,xE,kN]))
theorem aJb (s t:List UInt8) (h:kP):KK 178 [.str s,.str t] h=some (.ret (.tuple [.str (xE s t).1,.bool (xE s t).2]),h) :=
 lD rfl rfl (lA (arE _ _ _ _) (by simp [aFl,aJh,kN]))
end
section
open Go Hk
def mZ (l:List UInt8):Nat:=(l.takeWhile fun b=>!decide (b=10)).length
theorem zA (l:List UInt8):mZ l≤l.length:=by
 unfold mZ; exact(List.takeWhile_prefix _).length_le
theorem KZ (l:List UInt8):tB l 10=if mZ l < l.length then(mZ l:Int) else -1:=by
 induction l with
 | nil=>simp [tB,mZ]
 | cons b l ih =>
  have hlen:=zA l
  by_cases hb:b=10
  ·subst hb; simp [tB,mZ]
  ·have e:mZ (b::l)=mZ l+1:=by simp [mZ,al8,hb]
   rw [e]
   simp only [tB,ih,beq_iff_eq,hb,if_false,ac1]
   by_cases h:mZ l < l.length
   ·have h2:mZ l+1 < l.length+1:=Nat.succ_lt_succ h
    have:¬((mZ l:Int)=-1):=by omega
    simp [h,this]
   ·have h2:¬mZ l+1 < l.length+1:=fun h2=>h (Nat.lt_of_succ_lt_succ h2)
    simp [h]
def lV (s:List UInt8) (at_:Nat):Nat :=
 if h:at_ < s.length then
  if qN s[at_] then lV s (at_+1)
  else if (s.drop at_).take 2=[47,47] then lV s (at_+max 1 (mZ (s.drop at_))) else at_
 else at_
termination_by s.length - at_
theorem v_ (s:List UInt8) (at_:Nat):at_≤lV s at_:=by
 fun_induction lV s at_ <;> omega
theorem QH (s:List UInt8) (at_:Nat) (h:at_≤s.length):lV s at_≤s.length:=by
 fun_induction lV s at_ with
 | case1 at_ h1 h2 ih=>exact ih (by omega)
 | case2 at_ h1 h2 h3 ih =>
  apply ih
  have:=zA (s.drop at_)
  simp at this
  omega
 | case3=>omega
 | case4=>omega
theorem EX {l:List UInt8}(h:l.take 2=[47,47]):2≤mZ l:=by
 match l,h with
 | a::b::r,h =>
  simp at h
  obtain⟨rfl,rfl⟩:=h
  simp [mZ,al8]
 | [a],h=>simp at h
 | [],h=>simp at h
def wZ:List (List kM)→Nat
 | []=>0
 | _=>4
def HL (W:List (kM×kM)) (sg:List (List kM)) (s:List UInt8) (at_:Int) (out:List (List kM)):kP :=
 [.front 0 0,.cells [.int .i64 0,.int .i64 0],.map W,.cells [.str s,.int .i64 at_,.map 2,.slice sg .no,.slice out (.own 4)],.front out.length (wZ out)]
theorem DO {W:List (kM×kM)}{sg:List (List kM)}{s:List UInt8}{at_:Int}{out:List (List kM)}(hW:W.all (fun e=>e.2.nP 5)=true) :
  l_ 5 [.front 0 0,.cells [.int .i64 0,.int .i64 0],.map W,.cells [.str s,.int .i64 at_,.map 2,.slice sg .no,.slice out (.own 4)],.front out.length (wZ out)] =
   some [.front 0 0,.cells [.int .i64 0,.int .i64 0],.map W,.cells [.str s,.int .i64 at_,.map 2,.slice sg .no,.slice out (.own 4)],.front out.length (wZ out)]:=by
 simp [l_,pF,hW]
theorem T4 {s:List UInt8}{at_:Nat}(h:at_ < s.length):oK (.str s) (some (.int .i64 (at_:Int))) none=some (.str (s.drop at_)):=by
 have:=qH (s:=s) (lo:=some (.int .i64 (at_:Int))) (hi:=none) p7 xX (Nat.le_of_lt h) (ab6 _)
 rw [this,List.take_of_length_le (by simp)]
theorem au8 (s:List UInt8) (h:kP):KK 145 [.str s,.int .u8 10] h=some (.ret (.int .i64 (tB s 10)),h):=aI2 s 10 h
theorem abR (W:List (kM×kM)) (sg:List (List kM)) (s:List UInt8) (out:List (List kM)) (hW:W.all (fun e=>e.2.nP 5)=true) (hs:s.length≤65536) (at_:Nat) (ha:at_≤s.length) :
  ∃e:Ex,(e=.exit 0∨e=.ret)∧mJ (BQ KK 5) ([.ptr 3 0],HL W sg s (at_:Nat) out)=some (e,[.ptr 3 0],HL W sg s (lV s at_:Nat) out):=by
 induction hn:s.length - at_ using Nat.strongRecOn generalizing at_ with
 | _ n ih =>
  rw [l9]
  rw [lV]
  by_cases h:at_ < s.length
  ·have hi:s[at_]?=some s[at_]:=ab3 h
   have h':(at_:Int) < s.length:=by omega
   by_cases hb:qN s[at_]=true
   ·have w:IntKind.wrap .i64 ((at_:Int)+1)=(at_:Int)+1:=by rw [wrap64] <;> omega
    have step:BQ KK 5 ([.ptr 3 0],HL W sg s (at_:Nat) out)=some (.normal,[.ptr 3 0],HL W sg s (at_+1:Nat) out):=by
     simp [BQ,HL,h',hi,aoA,hb,w,putCells,kT,DO hW,lE]
    rw [step]
    simp only [ad9,oA,h,dite_true,hb,if_true]
    exact ih (s.length - (at_+1)) (by omega) (at_+1) (by omega) rfl
   ·have hd:=T4 h
    have hbf:qN s[at_]=false:=by simpa using hb
    simp only [h,dite_true,hbf,al9,if_false]
    by_cases hr:(s.drop at_).take 2=[47,47]
    ·have h2:=EX hr
     have hll:=zA (s.drop at_)
     have hdl:(s.drop at_).length=s.length - at_:=by simp
     have hix:=KZ (s.drop at_)
     have w:IntKind.wrap .i64 ((at_:Int)+mZ (s.drop at_))=(at_:Int)+mZ (s.drop at_):=by rw [wrap64] <;> omega
     have step:BQ KK 5 ([.ptr 3 0],HL W sg s (at_:Nat) out)=some (.normal,[.ptr 3 0],HL W sg s (at_+mZ (s.drop at_):Nat) out):=by
      by_cases hlt:mZ (s.drop at_) < (s.drop at_).length
      ·rw [if_pos hlt] at hix
       have hneg:¬(mZ (s.drop at_):Int) < 0:=by omega
       simp [BQ,HL,h',hi,aoA,hbf,hd,afL,hr,au8,hix,hneg,w,putCells,kT,DO hW,lE]
      ·rw [if_neg hlt] at hix
       have e:mZ (s.drop at_)=s.length - at_:=by omega
       have w1:IntKind.wrap .i64 ((s.length:Int) - at_)=(s.length:Int) - at_:=by rw [wrap64] <;> omega
       have w2:IntKind.wrap .i64 ((at_:Int)+((s.length:Int) - at_))=s.length:=by rw [wrap64] <;> omega
       have e2:(at_:Int)+(mZ (s.drop at_):Nat)=s.length:=by omega
       simp [BQ,HL,h',hi,aoA,hbf,hd,afL,hr,au8,hix,w1,w2,putCells,kT,DO hW,lE,e2]
     rw [step]
     simp only [ad9,oA,hr,if_true]
     rw [show max 1 (mZ (s.drop at_))=mZ (s.drop at_) by omega]
     exact ih (s.length - (at_+mZ (s.drop at_))) (by omega) (at_+mZ (s.drop at_)) (by omega) rfl
    ·refine⟨.ret,.inr rfl,?_⟩
     simp [BQ,HL,h',hi,aoA,hbf,hd,afL,hr,kT,DO hW,lE]
  ·refine⟨.exit 0,.inl rfl,?_⟩
   have h':¬(at_:Int) < s.length:=by omega
   simp [BQ,HL,h',h,kT,DO hW,lE]
theorem aIO (W:List (kM×kM)) (sg:List (List kM)) (s:List UInt8) (out:List (List kM)) (hW:W.all (fun e=>e.2.nP 5)=true) (hs:s.length≤65536) (at_:Nat) (ha:at_≤s.length) :
  KK 100 [.ptr 3 0] (HL W sg s (at_:Nat) out)=some (.ret (.tuple []),HL W sg s (lV s at_:Nat) out):=by
 refine lA (apS _ _ _) ?_
 obtain⟨e,he,hl⟩:=abR W sg s out hW hs at_ ha
 have hlen:(HL W sg s (at_:Nat) out).length=5:=rfl
 simp only [aEY,hlen,hl,ad9]
 rcases he with rfl | rfl <;> simp [lZ,HL,DO hW]
end
section
open Go Hk
def isWord (b:UInt8):Bool:=pI b || isDigit b
def nR (l:List UInt8):List UInt8:=l.takeWhile isWord
theorem Ie (l:List UInt8):(nR l).length≤l.length:=(List.takeWhile_prefix _).length_le
theorem Ov (l:List UInt8):l.take (nR l).length=nR l:=by
 unfold nR
 induction l with
 | nil=>rfl
 | cons b l ih=>by_cases h:isWord b=true <;> simp [al8,h,ih]
theorem AV {s:List UInt8}{n:Nat}(h:n < s.length):nR (s.drop n)=if isWord s[n] then s[n]::nR (s.drop (n+1)) else []:=by
 rw [ae6 h]; simp only [nR,al8]
def HT (W:List (kM×kM)) (sg:List (List kM)) (s:List UInt8) (at_:Int) (out:List (List kM)) (k p n:Int) (t:List UInt8):kP :=
 [.front 0 0,.cells [.int .i64 0,.int .i64 0],.map W,.cells [.str s,.int .i64 at_,.map 2,.slice sg .no,.slice out (.own 4)],.front out.length (wZ out),.cells [.int .i64 k,.int .i64 p,.int .i64 n,.str t]]
theorem Fi {W:List (kM×kM)}{sg:List (List kM)}{s:List UInt8}{at_:Int}{out:List (List kM)}{k p n:Int}{t:List UInt8}(hW:W.all (fun e=>e.2.nP 6)=true) :
  l_ 6 [.front 0 0,.cells [.int .i64 0,.int .i64 0],.map W,.cells [.str s,.int .i64 at_,.map 2,.slice sg .no,.slice out (.own 4)],.front out.length (wZ out),.cells [.int .i64 k,.int .i64 p,.int .i64 n,.str t]] =
   some [.front 0 0,.cells [.int .i64 0,.int .i64 0],.map W,.cells [.str s,.int .i64 at_,.map 2,.slice sg .no,.slice out (.own 4)],.front out.length (wZ out),.cells [.int .i64 k,.int .i64 p,.int .i64 n,.str t]]:=by
 simp [l_,pF,hW]
section
variable (W:List (kM×kM)) (sg:List (List kM)) (s:List UInt8) (out:List (List kM)) (k p q:Int) (t:List UInt8)
theorem abV (hW:W.all (fun e=>e.2.nP 6)=true) (hs:s.length≤65536) (at_ n:Nat) (hn:n≤s.length) :
  mJ (FC KK 6) ([.ptr 3 0,.str [],.int .i64 (n:Nat)],HT W sg s (at_:Nat) out k p q t)=some (.exit 0,[.ptr 3 0,.str [],.int .i64 (n+(nR (s.drop n)).length:Nat)],HT W sg s (at_:Nat) out k p q t):=by
 induction hm:s.length - n using Nat.strongRecOn generalizing n with
 | _ m ih =>
  rw [l9]
  by_cases h:n < s.length
  ·have hi:s[n]?=some s[n]:=ab3 h
   have h':(n:Int) < s.length:=by omega
   by_cases hw:isWord s[n]=true
   ·have w:IntKind.wrap .i64 ((n:Int)+1)=(n:Int)+1:=by rw [wrap64] <;> omega
    have step:FC KK 6 ([.ptr 3 0,.str [],.int .i64 (n:Nat)],HT W sg s (at_:Nat) out k p q t)=some (.normal,[.ptr 3 0,.str [],.int .i64 (n+1:Nat)],HT W sg s (at_:Nat) out k p q t):=by
     cases hl:pI s[n] <;> cases hd:isDigit s[n] <;> simp [isWord,hl,hd] at hw <;>
      simp [FC,HT,h',hi,O_,Pa,hl,hd,w,kT,Fi hW,lE]
    rw [step]
    simp only [ad9,oA]
    rw [ih (s.length - (n+1)) (by omega) (n+1) (by omega) rfl,AV h,hw]
    simp; omega
   ·have hwf:isWord s[n]=false:=by simpa using hw
    have hl:pI s[n]=false:=by simp [isWord] at hwf; exact hwf.1
    have hd:isDigit s[n]=false:=by simp [isWord] at hwf; exact hwf.2
    rw [AV h,hwf]
    simp [FC,HT,h',hi,O_,Pa,hl,hd,kT,Fi hW,lE]
  ·have h':¬(n:Int) < s.length:=by omega
   have:s.drop n=[]:=aj0 (by omega)
   simp [FC,HT,h',this,nR,kT,Fi hW,lE]
theorem aI3 (hW:W.all (fun e=>e.2.nP 6)=true) (hs:s.length≤65536) (at_:Nat) (ha:at_≤s.length) :
  KK 147 [.ptr 3 0] (HT W sg s (at_:Nat) out k p q t)=some (.ret (.str (nR (s.drop at_))),HT W sg s (at_:Nat) out k p q t):=by
 refine lA (aqR _ _ _) ?_
 have hl:=abV W sg s out k p q t hW hs at_ at_ ha
 have hrl:=Ie (s.drop at_)
 simp at hrl
 have hsl:=qH (s:=s) (lo:=some (.int .i64 (at_:Int))) (hi:=some (.int .i64 ((at_+(nR (s.drop at_)).length:Nat):Int))) p7 p7 (by omega) (by omega)
 rw [show at_+(nR (s.drop at_)).length - at_=(nR (s.drop at_)).length by omega,Ov] at hsl
 simp only [HT,af8] at hl hsl
 simp [aFd,HT,hl,hsl,lZ,Fi hW]
end
def sQ (hex:Bool) (b:UInt8):Option Nat :=
 if isDigit b then some (b.toNat - 48) else if hex && (decide (97≤b.toNat) && decide (b.toNat≤102)) then some (b.toNat - 87) else none
theorem alE {n:Int}(h1:0≤n) (h2:n≤255):IntKind.wrap .u8 n=n:=by
 simp [IntKind.wrap,IntKind.signed,IntKind.bits]; omega
theorem awV (b:UInt8):b.toNat < 256:=b.toNat_lt
def mR (hex:Bool):Nat:=if hex then 16 else 10
theorem ayQ (hex:Bool) (b:UInt8) (h:kP):KK 179 [by8 b,.int .i64 (mR hex:Nat)] h=some (.ret (.tuple [.int .i64 ((sQ hex b).getD 0:Nat),.bool (sQ hex b).isSome]),h):=by
 refine lD rfl rfl (lA (arF _ _ _ _) ?_)
 have hb:=awV b
 by_cases hd:isDigit b=true
 ·have hr:48≤b.toNat∧b.toNat≤57:=by simpa [isDigit] using hd
  have w1:IntKind.wrap .u8 ((b.toNat:Int) - 48)=(b.toNat:Int) - 48:=alE (by omega) (by omega)
  have w2:IntKind.wrap .i64 ((b.toNat:Int) - 48)=((b.toNat - 48:Nat):Int):=by rw [wrap64] <;> omega
  simp [ahW,Pa,hd,w1,w2,sQ,kN]
 ·have hdf:isDigit b=false:=by simpa using hd
  have e1:((97:Int)≤b.toNat)↔97≤b.toNat:=by omega
  have e2:((b.toNat:Int)≤102)↔b.toNat≤102:=by omega
  cases hex with
  | false=>simp [ahW,Pa,hdf,mR,sQ,kN]
  | true =>
   by_cases h1:97≤b.toNat <;> by_cases h2:b.toNat≤102
   ·have w1:IntKind.wrap .u8 ((b.toNat:Int) - 97)=(b.toNat:Int) - 97:=alE (by omega) (by omega)
    have w2:IntKind.wrap .i64 ((b.toNat:Int) - 97)=(b.toNat:Int) - 97:=by rw [wrap64] <;> omega
    have w3:IntKind.wrap .i64 ((b.toNat:Int) - 97+10)=((b.toNat - 87:Nat):Int):=by rw [wrap64] <;> omega
    simp [ahW,Pa,hdf,mR,sQ,e1,e2,h1,h2,w1,w2,w3,kN]
   all_goals simp [ahW,Pa,hdf,mR,sQ,e1,e2,h1,h2,kN]
def oG (hex:Bool):List UInt8→Nat→Option Nat
 | [],n=>some n
 | b::r,n=>match sQ hex b with
  | none=>none
  | some v=>if 4294967295 < mR hex * n+v then none else oG hex r (mR hex * n+v)
theorem adE {hex:Bool}{b:UInt8}{v:Nat}(h:sQ hex b=some v):v≤15:=by
 unfold sQ at h
 split at h
 ·rename_i hd; cases h; simp [isDigit] at hd; omega
 ·split at h
  ·rename_i hd; cases h; simp at hd; omega
  ·cases h
theorem Qj (hex:Bool) (s:List UInt8) (hs:s.length≤65536) (i n:Nat) (hi:i≤s.length) (hn:n≤4294967295) :
  ∃n' j:Nat,mJ (D_ KK 0) ([.str s,.int .i64 0,.bool false,.int .i64 (mR hex:Nat),.int .i64 (n:Nat),.int .i64 (s.length:Nat),.int .i64 (i:Nat)],[]) =
   some (match oG hex (s.drop i) n with
    | some r=>(.exit 0,[.str s,.int .i64 0,.bool false,.int .i64 (mR hex:Nat),.int .i64 (r:Nat),.int .i64 (s.length:Nat),.int .i64 (j:Nat)],[])
    | none=>(.ret,[.str s,.int .i64 0,.bool false,.int .i64 (mR hex:Nat),.int .i64 (n':Nat),.int .i64 (s.length:Nat),.int .i64 (j:Nat)],[])):=by
 induction hm:s.length - i using Nat.strongRecOn generalizing i n with
 | _ m ih =>
  rw [l9]
  by_cases h:i < s.length
  ·have hx:s[i]?=some s[i]:=ab3 h
   have h':(i:Int) < s.length:=by omega
   have hb:mR hex≤16:=by cases hex <;> simp [mR]
   rw [ae6 h]
   cases hv:sQ hex s[i] with
   | none =>
    refine⟨n,i,?_⟩
    simp [D_,h',hx,ayQ,hv,oG,nS]
   | some v =>
    have hvl:=adE hv
    have hprod:mR hex * n≤16 * 4294967295:=Nat.mul_le_mul hb hn
    have w1:IntKind.wrap .i64 ((mR hex:Int) * n)=(mR hex:Int) * n:=by
     rw [wrap64]
     ·have:=Int.natCast_nonneg (mR hex * n); rw [Int.natCast_mul] at this; omega
     ·have:((mR hex * n:Nat):Int)≤16 * 4294967295:=by omega
      rw [Int.natCast_mul] at this; omega
    have w2:IntKind.wrap .i64 ((mR hex:Int) * n+v)=(mR hex:Int) * n+v:=by
     rw [wrap64]
     ·have:=Int.natCast_nonneg (mR hex * n); rw [Int.natCast_mul] at this; omega
     ·have:((mR hex * n:Nat):Int)≤16 * 4294967295:=by omega
      rw [Int.natCast_mul] at this; omega
    have w3:IntKind.wrap .i64 ((i:Int)+1)=(i:Int)+1:=by rw [wrap64] <;> omega
    by_cases hbig:4294967295 < mR hex * n+v
    ·have hbig':(4294967295:Int) < (mR hex:Int) * n+v:=by
      have:(4294967295:Int) < ((mR hex * n+v:Nat):Int):=by omega
      rwa [af8,Int.natCast_mul] at this
     refine⟨mR hex * n+v,i,?_⟩
     simp [D_,h',hx,ayQ,hv,oG,hbig,hbig',w1,w2,nS]
    ·have hbig':¬(4294967295:Int) < (mR hex:Int) * n+v:=by
      have:¬(4294967295:Int) < ((mR hex * n+v:Nat):Int):=by omega
      rwa [af8,Int.natCast_mul] at this
     obtain⟨n',j,hl⟩:=ih (s.length - (i+1)) (by omega) (i+1) (mR hex * n+v) (by omega) (by omega) rfl
     refine⟨n',j,?_⟩
     have step:D_ KK 0 ([.str s,.int .i64 0,.bool false,.int .i64 (mR hex:Nat),.int .i64 (n:Nat),.int .i64 (s.length:Nat),.int .i64 (i:Nat)],[]) =
       some (.normal,[.str s,.int .i64 0,.bool false,.int .i64 (mR hex:Nat),.int .i64 (mR hex * n+v:Nat),.int .i64 (s.length:Nat),.int .i64 (i+1:Nat)],[]):=by
      simp [D_,h',hx,ayQ,hv,hbig',w1,w2,w3,nS]
     rw [step]
     simp only [ad9,oA]
     rw [hl]
     simp only [oG,hv,hbig,if_false]
  ·have h':¬(i:Int) < s.length:=by omega
   have:s.drop i=[]:=aj0 (by omega)
   refine⟨n,i,?_⟩
   simp [D_,h',this,oG,nS]
def rS (s:List UInt8):Option Nat :=
 if s.take 2=[48,120] then(if s.drop 2=[]∨8 < (s.drop 2).length then none else oG true (s.drop 2) 0)
 else if s[0]?=some 48∧s≠[48] then none else oG false s 0
theorem aI4 (s:List UInt8) (hs:s.length≤65536) (h0:s≠[]) (h:kP):KK 149 [.str s] h=some (.ret (.tuple [.int .i64 ((rS s).getD 0:Nat),.bool (rS s).isSome]),h):=by
 refine lD rfl rfl (lA (aqT _ _ _) ?_)
 have cut:=aJb s [48,120] []
 by_cases hp:s.take 2=[48,120]
 ·have hcp:xE s [48,120]=(s.drop 2,true):=by simp [xE,hp]
  rw [hcp] at cut
  have hn:rS s=if s.drop 2=[]∨8 < (s.drop 2).length then none else oG true (s.drop 2) 0:=by simp only [rS,hp,if_true]
  have hrl:(s.drop 2).length≤65536:=by simp; omega
  rw [hn]
  simp only [] at cut
  generalize s.drop 2=r at *
  by_cases he:r=[]
  ·subst he
   simp [R2,cut,kN]
  ·by_cases hl:8 < r.length
   ·have hl':(8:Int) < r.length:=by omega
    simp [R2,cut,he,hl,hl',kN]
   ·have hl':¬(8:Int) < r.length:=by omega
    obtain⟨n',j,hloop⟩:=Qj true r hrl 0 0 (by omega) (by omega)
    simp only [mR,if_true,List.drop_zero,Int.ofNat_eq_natCast,ab9] at hloop
    cases hd:oG true r 0 with
    | none=>rw [hd] at hloop; simp [R2,cut,he,hl,hl',hloop,hd,kN]
    | some v=>rw [hd] at hloop; simp [R2,cut,he,hl,hl',hloop,hd,kN]
 ·have hcp:xE s [48,120]=(s,false):=by simp [xE,hp]
  rw [hcp] at cut
  simp only [] at cut
  obtain⟨b,r,hbr⟩:∃b r,s=b::r:=by cases s with | nil=>exact absurd rfl h0 | cons b r=>exact⟨b,r,rfl⟩
  have hs0:s[0]?=some b:=by rw [hbr]; rfl
  have hn:rS s=if s[0]?=some 48∧s≠[48] then none else oG false s 0:=by simp only [rS,hp,if_false]
  obtain⟨n',j,hloop⟩:=Qj false s hs 0 0 (by omega) (by omega)
  simp only [mR,al9,if_false,List.drop_zero,Int.ofNat_eq_natCast,ab9] at hloop
  by_cases hb:b=48
  ·subst hb
   by_cases h1:s=[48]
   ·have hn2:rS s=oG false s 0:=by rw [hn,if_neg (by simp [h1])]
    rw [hn2]
    have ht:((48:UInt8).toNat:Int)=48:=rfl
    have hd:oG false [48] 0=some 0:=by decide
    subst h1
    rw [hd] at hloop ⊢
    simp only [ac1,ac6] at hloop
    simp at hloop
    simp [R2,cut,ht,hloop,kN]
   ·have hn2:rS s=none:=by rw [hn,if_pos ⟨hs0,h1⟩]
    rw [hn2]
    have ht:((48:UInt8).toNat:Int)=48:=rfl
    simp [R2,cut,hs0,h1,ht,kN]
  ·have hb':¬((b.toNat:Int)=48):=fun h=>hb (UInt8.toNat_inj.1 (by simpa using (by omega:b.toNat=48)))
   have hn2:rS s=oG false s 0:=by rw [hn,if_neg (by simp [hs0,hb])]
   rw [hn2]
   cases hd:oG false s 0 with
   | none=>rw [hd] at hloop; simp [R2,cut,hs0,hb',hloop,kN]
   | some v=>rw [hd] at hloop; simp [R2,cut,hs0,hb',hloop,kN]
end
section
open Go Hk
def uH:List (List UInt8):=[[102,110],[112,117,98],[115,101,99],[111,117,116],[108,101,116],[118,97,114],[105,102],[101,108,115,101],[102,111,114],[109,97,120],[114,101,116,117,114,110],[117,51,50],[117,56],[109,97,115,107],[109,117,108,104,105],[99,97,114,114,121],[115,101,108,101,99,116],[119,111,114,100],[114,111,114]]
def nY:List (List UInt8):=[[60,60],[62,62],[61,61],[33,61],[60,61],[62,61],[40],[41],[123],[125],[91],[93],[44],[59],[58],[61],[43],[45],[42],[38],[124],[94],[126],[33],[60],[62]]
def uV:List (kM×kM):=(uH.zip (List.range' 1 19)).map fun p=>(.str p.1,.int .i64 p.2)
def vZ:List (List kM):=nY.map fun t=>[.str t]
set_option maxRecDepth 100000 in
theorem aGo:S6 Tryz.prog mK (tV 200) 3 99 [] []=some (.ret (.slice vZ .no),[]):=by kernel_rfl
theorem c99 (h:kP):KK 99 [] h=some (.ret (.slice vZ .no),h):=lD rfl rfl (Ro 200 3 99 [] [] _ aGo)
set_option maxRecDepth 100000 in
theorem aGn:S6 Tryz.prog mK (tV 200) 3 98 [] [.front 0 0,.cells [.int .i64 0,.int .i64 0]]=some (.ret (.map 2),[.front 0 0,.cells [.int .i64 0,.int .i64 0],.map uV]):=by kernel_rfl
theorem c98:KK 98 [] [.front 0 0,.cells [.int .i64 0,.int .i64 0]]=some (.ret (.map 2),[.front 0 0,.cells [.int .i64 0,.int .i64 0],.map uV]):=Ro 200 3 98 [] _ _ aGn
theorem C8 (m:Nat):uV.all (fun e=>e.2.nP m)=true:=rfl
end
section
open Go Hk
structure Token where
 kind:Nat
 pos:Nat
 num:Nat
 text:List UInt8
 deriving DecidableEq
def Token.cells (t:Token):List kM:=[.int .i64 (t.kind:Int),.int .i64 (t.pos:Int),.int .i64 (t.num:Int),.str t.text]
def oW (ts:List (List UInt8)) (l:List UInt8):List UInt8:=(ts.find? fun x=>decide (l.take x.length=x)).getD []
def uO (l:List UInt8) (at_:Nat):Option (Token×Nat) :=
 match l with
 | []=>none
 | b::_ =>
  if pI b then(if 40 < (nR l).length then none else some (⟨if nR l∈uH then 3 else 1,at_,0,nR l⟩,(nR l).length))
  else if isDigit b then(match rS (nR l) with | none=>none | some n=>some (⟨2,at_,n,[]⟩,(nR l).length))
  else if oW nY l=[] then none else some (⟨4,at_,0,oW nY l⟩,(oW nY l).length)
theorem PI (r:List UInt8):∀(ws:List (List UInt8)) (ns:List Nat),ws.length=ns.length →
  ∃v:Option Int,CM (.str r) ((ws.zip ns).map fun p=>(.str p.1,.int .i64 (p.2:Int)))=some (v.map (.int .i64))∧(v.isSome=true↔r∈ws)
 | [],[],_=>⟨none,rfl,by simp⟩
 | w::ws,n::ns,hl=>by
  obtain⟨v,h1,h2⟩:=PI r ws ns (by simpa using hl)
  by_cases h:r=w
  ·subst h
   exact⟨some n,by simp [CM,F5],by simp⟩
  ·refine⟨v,?_,by simp [h,h2]⟩
   have hb:(r == w)=false:=by simp [h]
   simp only [List.zip_cons_cons,List.map_cons,CM,F5,hb]
   exact h1
 | [],_::_,hl=>by simp at hl
 | _::_,[],hl=>by simp at hl
theorem UD (r:List UInt8):∃v:Int,∀{h:kP},h[2]?=some (.map uV)→q7 (.int .i64 0) true h (.map 2) (.str r)=some (.tuple [.int .i64 v,.bool (decide (r∈uH))]):=by
 obtain⟨v,h1,h2⟩:=PI r uH (List.range' 1 19) rfl
 refine⟨v.getD 0,fun {h} hh=>?_⟩
 have h1':CM (.str r) uV=some (v.map (.int .i64)):=h1
 simp only [q7,y_,hh,h1']
 cases v with
 | none =>
  have:¬r∈uH:=fun hm=>by have:=h2.2 hm; simp at this
  simp [this]
 | some v =>
  have:r∈uH:=h2.1 rfl
  simp [this]
theorem ER (out:List (List kM)) (c:List kM):wZ (out++[c])=4:=by cases out <;> rfl
theorem aoS (out:List (List kM)):wZ out=4∨out=[]∧wZ out=0:=by cases out <;> simp [wZ]
section
variable (s:List UInt8) (out:List (List kM))
theorem abS (hs:s.length≤65536) (at_:Nat) (ha:at_ < s.length) (k p q:Int) (t:List UInt8) (i:Nat) (hi:i≤nY.length) :
  ∃j:Int,mJ (FB KK 6) ([.ptr 3 0,.bool false,.ptr 5 0,.slice (nY.map fun t=>[.str t]) .no,.int .i64 (nY.length:Nat),.int .i64 (i:Nat)],HT uV vZ s (at_:Nat) out k p q t) =
   some (.exit 1,[.ptr 3 0,.bool false,.ptr 5 0,.slice (nY.map fun t=>[.str t]) .no,.int .i64 (nY.length:Nat),.int .i64 j],
    HT uV vZ s (at_:Nat) out k p q (((nY.drop i).find? fun x=>decide ((s.drop at_).take x.length=x)).getD t)):=by
 have hd:=T4 ha
 have hsl:nY.length=26:=rfl
 have tr:=fun t=>Fi (W:=uV) (sg:=vZ) (s:=s) (at_:=(at_:Nat)) (out:=out) (k:=k) (p:=p) (n:=q) (t:=t) (C8 6)
 generalize hW:uV=W at *
 generalize vZ=sg at *
 generalize hT:nY=T at *
 induction hm:T.length - i using Nat.strongRecOn generalizing i with
 | _ m ih =>
  rw [l9]
  by_cases h:i < T.length
  ·have hx:T[i]?=some T[i]:=ab3 h
   have h':(i:Int) < T.length:=by omega
   have hf:(T.drop i).find? (fun x=>decide ((s.drop at_).take x.length=x))=if (s.drop at_).take T[i].length=T[i] then some T[i] else(T.drop (i+1)).find? (fun x=>decide ((s.drop at_).take x.length=x)):=by
    rw [ae6 h,List.find?_cons]
    by_cases hp:(s.drop at_).take T[i].length=T[i] <;> simp only [hp,decide_true,decide_false,if_true,if_false]
   rw [hf]
   by_cases hp:(s.drop at_).take T[i].length=T[i]
   ·refine⟨i,?_⟩
    simp [FB,HT,h',hx,hd,afL,hp,putCells,kT,tr,lE]
   ·have w:IntKind.wrap .i64 ((i:Int)+1)=(i:Int)+1:=by rw [wrap64] <;> omega
    obtain⟨j,hl⟩:=ih (T.length - (i+1)) (by omega) (i+1) (by omega) rfl
    refine⟨j,?_⟩
    have step:FB KK 6 ([.ptr 3 0,.bool false,.ptr 5 0,.slice (T.map fun t=>[.str t]) .no,.int .i64 (T.length:Nat),.int .i64 (i:Nat)],HT W sg s (at_:Nat) out k p q t) =
      some (.normal,[.ptr 3 0,.bool false,.ptr 5 0,.slice (T.map fun t=>[.str t]) .no,.int .i64 (T.length:Nat),.int .i64 (i+1:Nat)],HT W sg s (at_:Nat) out k p q t):=by
     simp [FB,HT,h',hx,hd,afL,hp,w,kT,tr,lE]
    rw [step]
    simp only [ad9,oA]
    rw [hl,if_neg hp]
  ·have h':¬(i:Int) < T.length:=by omega
   have:T.drop i=[]:=aj0 (by omega)
   refine⟨i,?_⟩
   simp [FB,HT,h',this,kT,tr,lE]
theorem zX {W:List (kM×kM)}{sg:List (List kM)}{s:List UInt8}{at_:Int}{out:List (List kM)}{n sz:Nat}{bs:kP}(hW:W.all (fun e=>e.2.nP 5)=true) :
  l_ 5 (.front 0 0::.cells [.int .i64 0,.int .i64 0]::.map W::.cells [.str s,.int .i64 at_,.map 2,.slice sg .no,.slice out (.own 4)]::.front n sz::bs) =
   some [.front 0 0,.cells [.int .i64 0,.int .i64 0],.map W,.cells [.str s,.int .i64 at_,.map 2,.slice sg .no,.slice out (.own 4)],.front n sz]:=by
 simp [l_,pF,hW]
theorem aIP (hs:s.length≤65536) (at_:Nat) (ha:at_ < s.length) (ho:out.length≤65536) :
  KK 101 [.ptr 3 0] (HL uV vZ s (at_:Nat) out)=some (match uO (s.drop at_) at_ with
   | some (t,n)=>(.ret (.bool true),HL uV vZ s (at_+n:Nat) (out++[t.cells]))
   | none=>(.ret (.bool false),HL uV vZ s (at_:Nat) out)):=by
 refine lA (apT _ _ _) ?_
 have hi:s[at_]?=some s[at_]:=ab3 ha
 have hcons:=ae6 ha
 have hW4:=C8 5
 have hW5:=C8 6
 have hrun:=fun k p q t=>aI3 uV vZ s out k p q t hW5 hs at_ (Nat.le_of_lt ha)
 have hrl:=Ie (s.drop at_)
 simp only [am4] at hrl
 obtain⟨v,hlook⟩:=UD (nR (s.drop at_))
 have hfr:=aoS out
 have hsz:((out.length:Int)+1) * 40≤140737488355328:=by omega
 have hone:uO (s.drop at_) at_=if pI s[at_] then(if 40 < (nR (s.drop at_)).length then none else some (⟨if nR (s.drop at_)∈uH then 3 else 1,at_,0,nR (s.drop at_)⟩,(nR (s.drop at_)).length))
  else if isDigit s[at_] then(match rS (nR (s.drop at_)) with | none=>none | some n=>some (⟨2,at_,n,[]⟩,(nR (s.drop at_)).length))
  else if oW nY (s.drop at_)=[] then none else some (⟨4,at_,0,oW nY (s.drop at_)⟩,(oW nY (s.drop at_)).length):=by
  rw [hcons]; rfl
 rw [hone]
 generalize hW:uV=W at *
 generalize hsg:vZ=sg at *
 simp only [HT] at hrun
 generalize hR:nR (s.drop at_)=r at *
 have hw:IntKind.wrap .i64 ((at_:Int)+r.length)=(at_:Int)+r.length:=by rw [wrap64] <;> omega
 have happ:∀(a:Int) (c:List kM) (hc:c.length=4),mH 4 40 [.front 0 0,.cells [.int .i64 0,.int .i64 0],.map W,.cells [.str s,.int .i64 a,.map 2,.slice sg .no,.slice out (.own 4)],.front out.length (wZ out),.cells c,.front 1 4] (.slice out (.own 4)) (.slice [c] (.own 6)) =
   some (.slice (out++[c]) (.own 4),[.front 0 0,.cells [.int .i64 0,.int .i64 0],.map W,.cells [.str s,.int .i64 a,.map 2,.slice sg .no,.slice out (.own 4)],.front (out.length+1) 4,.cells c,.front 1 4]):=by
  intro a c hc
  have h1:(out.length+1) * 40≤140737488355328:=by omega
  have h2:out.length+1≤140737488355328:=by omega
  have h3:wZ out=4∨out.length=0∧wZ out=0:=by
   rcases hfr with h | ⟨h,h'⟩
   ·exact .inl h
   ·exact .inr ⟨by simp [h],h'⟩
  have hall:[c].all (fun r=>r.length == 4)=true:=by simp [hc]
  have hget:([.front 0 0,.cells [.int .i64 0,.int .i64 0],.map W,.cells [.str s,.int .i64 a,.map 2,.slice sg .no,.slice out (.own 4)],.front out.length (wZ out),.cells c,.front 1 4]:kP)[4]?=some (.front out.length (wZ out)):=rfl
  simp only [mH,pY,hall,if_true,hget,ac1,ac6,al6,h1,h2,h3,and_self]
  rfl
 by_cases hl:pI s[at_]=true
 ·by_cases h40:40 < r.length
  ·have h40':(40:Int) < r.length:=by omega
   by_cases hm:r∈uH
   ·simp [R1,HL,hi,lT,lL,lF,putCells,O_,hl,hrun,oL,hlook,hm,h40,h40',lZ,zX hW4]
   ·simp [R1,HL,hi,lT,lL,lF,putCells,O_,hl,hrun,oL,hlook,hm,h40,h40',lZ,zX hW4]
  ·have h40':¬(40:Int) < r.length:=by omega
   by_cases hm:r∈uH
   ·have hap:=happ ((at_:Int)+r.length) [.int .i64 3,.int .i64 at_,.int .i64 0,.str r] rfl
    simp [R1,HL,hi,lT,lL,lF,putCells,O_,hl,hrun,oL,hlook,hm,h40,h40',hw,nL,oB,k9,pK,lQ,mM,kY,tR,n_,kM.C4,rowsOf,hap,lZ,zX hW4,Token.cells,ER]
   ·have hap:=happ ((at_:Int)+r.length) [.int .i64 1,.int .i64 at_,.int .i64 0,.str r] rfl
    simp [R1,HL,hi,lT,lL,lF,putCells,O_,hl,hrun,oL,hlook,hm,h40,h40',hw,nL,oB,k9,pK,lQ,mM,kY,tR,n_,kM.C4,rowsOf,hap,lZ,zX hW4,Token.cells,ER]
 ·have hlf:pI s[at_]=false:=by simpa using hl
  by_cases hd:isDigit s[at_]=true
  ·have hr0:r≠[]:=by
    rw [←hR,AV ha]; simp [isWord,hd]
   have hnum:=aI4 r (by omega) hr0
   cases hn:rS r with
   | none =>
    rw [hn] at hnum
    simp at hnum
    simp [R1,HL,hi,lT,lL,lF,putCells,O_,hlf,Pa,hd,hrun,hnum,lZ,zX hW4]
   | some n =>
    rw [hn] at hnum
    simp at hnum
    have hap:=happ ((at_:Int)+r.length) [.int .i64 2,.int .i64 at_,.int .i64 n,.str []] rfl
    simp [R1,HL,hi,lT,lL,lF,putCells,O_,hlf,Pa,hd,hrun,hnum,hw,nL,oB,k9,pK,lQ,mM,kY,tR,n_,kM.C4,rowsOf,hap,lZ,zX hW4,Token.cells,ER]
  ·have hdf:isDigit s[at_]=false:=by simpa using hd
   obtain⟨j,hloop⟩:=abS s out hs at_ ha 4 at_ 0 [] 0 (ah8 _)
   rw [hW,hsg] at hloop
   have hsl:nY.length=26:=rfl
   have hsgm:sg=nY.map fun t=>[.str t]:=by rw [←hsg]; rfl
   rw [←hsgm] at hloop
   have hsglen:sg.length=26:=by rw [hsgm]; rfl
   simp only [List.drop_zero,hsl,HT,Int.ofNat_eq_natCast,ab9] at hloop
   generalize hx:oW nY (s.drop at_)=x at *
   have hx':((nY.find? fun x=>decide ((s.drop at_).take x.length=x)).getD [])=x:=hx
   rw [hx'] at hloop
   have hxl:x.length≤65536:=by
    rw [←hx]
    unfold oW
    cases hf:nY.find? fun x=>decide ((s.drop at_).take x.length=x) with
    | none=>simp
    | some y =>
     have:=List.find?_some hf
     simp only [decide_eq_true_eq] at this
     have:=congrArg aa1 this
     simp at this ⊢
     omega
   have hwx:IntKind.wrap .i64 ((at_:Int)+x.length)=(at_:Int)+x.length:=by rw [wrap64] <;> omega
   by_cases hx0:x=[]
   ·simp [R1,HL,hi,lT,lL,lF,putCells,O_,hlf,Pa,hdf,hsglen,hloop,hx0,lZ,zX hW4]
   ·have hap:=happ ((at_:Int)+x.length) [.int .i64 4,.int .i64 at_,.int .i64 0,.str x] rfl
    simp [R1,HL,hi,lT,lL,lF,putCells,O_,hlf,Pa,hdf,hsglen,hloop,hx0,hwx,nL,oB,k9,pK,lQ,mM,kY,tR,n_,kM.C4,rowsOf,hap,lZ,zX hW4,Token.cells,ER]
end
end
section
open Go Hk
theorem DJ {l:List UInt8}{a n:Nat}{t:Token}(h:uO l a=some (t,n)):1≤n∧n≤l.length:=by
 unfold uO at h
 split at h
 ·cases h
 ·rename_i b r
  have hrl:=Ie (b::r)
  split at h
  ·rename_i hl
   split at h
   ·cases h
   ·simp only [ab1,ah1] at h
    obtain⟨_,rfl⟩:=h
    refine⟨?_,hrl⟩
    simp [nR,al8,isWord,hl]
  ·split at h
   ·rename_i hl hd
    split at h
    ·cases h
    ·simp only [ab1,ah1] at h
     obtain⟨_,rfl⟩:=h
     refine⟨?_,hrl⟩
     simp [nR,al8,isWord,hd]
   ·split at h
    ·cases h
    ·rename_i hx
     simp only [ab1,ah1] at h
     obtain⟨_,rfl⟩:=h
     refine⟨List.length_pos_iff.2 hx,?_⟩
     unfold oW
     cases hf:nY.find? fun x=>decide ((b::r).take x.length=x) with
     | none=>simp
     | some y =>
      have:=List.find?_some hf
      simp only [decide_eq_true_eq] at this
      have:=congrArg aa1 this
      simp only [List.length_take] at this
      simp only [Option.getD_some]
      omega
def lexFrom (s:List UInt8) (at_:Nat) (out:List Token):List Token×Nat×Nat :=
 if h:lV s at_ < s.length then
  match uO (s.drop (lV s at_)) (lV s at_) with
  | none=>([],9,lV s at_)
  | some (t,n)=>lexFrom s (lV s at_+max 1 n) (out++[t])
 else(out++[⟨0,s.length,0,[]⟩],0,0)
termination_by s.length - at_
decreasing_by
 have:=v_ s at_
 omega
def oI (s:List UInt8):List Token×Nat×Nat:=if 65536 < s.length then([],5,0) else lexFrom s 0 []
def HE (W:List (kM×kM)) (sg:List (List kM)) (s:List UInt8) (e p:Int) (at_:Int) (out:List (List kM)) (n sz:Nat):kP :=
 [.front 0 0,.cells [.int .i64 e,.int .i64 p],.map W,.cells [.str s,.int .i64 at_,.map 2,.slice sg .no,.slice out (.own 4)],.front n sz]
theorem SK {W:List (kM×kM)}{sg:List (List kM)}{s:List UInt8}{e p at_:Int}{out:List (List kM)}{n sz:Nat}{bs:kP}(hW:W.all (fun e=>e.2.nP 5)=true) :
  l_ 5 (.front 0 0::.cells [.int .i64 e,.int .i64 p]::.map W::.cells [.str s,.int .i64 at_,.map 2,.slice sg .no,.slice out (.own 4)]::.front n sz::bs) =
   some (HE W sg s e p at_ out n sz):=by
 simp [HE,l_,pF,hW]
theorem aiA (s:List UInt8) (hs:s.length≤65536) (at_:Nat) (ha:at_≤s.length) (out:List Token) (ho:out.length≤at_) (t0:kM) (ht0:t0=.slice [] (.own 0)) :
  ∃(tok:Tok) (at':Int) (out':List (List kM)) (n sz:Nat),mJ (Jf KK 5) ([.str s,t0,.ptr 1 0,.ptr 3 0],HL uV vZ s (at_:Nat) (out.map Token.cells)) =
   some (.ret,[.str s,.slice ((lexFrom s at_ out).1.map Token.cells) tok,.ptr 1 0,.ptr 3 0],HE uV vZ s (lexFrom s at_ out).2.1 (lexFrom s at_ out).2.2 at' out' n sz):=by
 have hW5:=C8 5
 induction hn:s.length - at_ using Nat.strongRecOn generalizing at_ out with
 | _ n ih =>
  rw [l9]
  have hge:=v_ s at_
  have hle:=QH s at_ ha
  have h54:=aIO uV vZ s (out.map Token.cells) hW5 hs at_ ha
  rw [lexFrom]
  by_cases h:lV s at_ < s.length
  ·have hne:¬((lV s at_:Int)=s.length):=by omega
   have h55:=aIP s (out.map Token.cells) hs (lV s at_) h (by simp; omega)
   simp only [h,dite_true]
   cases hone:uO (s.drop (lV s at_)) (lV s at_) with
   | none =>
    rw [hone] at h55
    refine⟨.no,(lV s at_:Nat),out.map Token.cells,(out.map Token.cells).length,wZ (out.map Token.cells),?_⟩
    generalize uV=W at *
    generalize vZ=sg at *
    simp only [HL,aj1] at h54 h55
    simp only [HL]
    simp [Jf,h54,h55,hne,lT,putCells,nL,oB,k9,pK,lQ,mM,kT,SK hW5,lE]
   | some tn =>
    obtain⟨t,k⟩:=tn
    rw [hone] at h55
    obtain⟨hk1,hk2⟩:=DJ hone
    simp only [am4] at hk2
    have hmax:max 1 k=k:=by omega
    have step:Jf KK 5 ([.str s,t0,.ptr 1 0,.ptr 3 0],HL uV vZ s (at_:Nat) (out.map Token.cells)) =
      some (.normal,[.str s,t0,.ptr 1 0,.ptr 3 0],HL uV vZ s (lV s at_+k:Nat) ((out++[t]).map Token.cells)):=by
     subst ht0
     generalize uV=W at *
     generalize vZ=sg at *
     simp only [HL,aj1] at h54 h55
     simp only [HL]
     simp [Jf,h54,h55,hne,kT,SK hW5,lE,HE]
    rw [step]
    simp only [ad9,oA,hmax]
    exact ih (s.length - (lV s at_+k)) (by omega) (lV s at_+k) (by omega) (out++[t]) (by simp; omega) rfl
  ·have heq:lV s at_=s.length:=by omega
   simp only [h,dite_false]
   refine⟨.own 4,(s.length:Nat),out.map Token.cells,out.length+1,4,?_⟩
   have h1:(out.length+1) * 40≤140737488355328:=by omega
   have h2:out.length+1≤140737488355328:=by omega
   have h3:wZ (out.map Token.cells)=4∨(out.map Token.cells).length=0∧wZ (out.map Token.cells)=0:=by cases out <;> simp [wZ]
   rw [heq] at h54
   generalize hm:out.map Token.cells=o at *
   have hol:o.length=out.length:=by rw [←hm]; simp
   generalize uV=W at *
   generalize vZ=sg at *
   simp only [HL] at h54
   simp only [HL]
   have hap:mH 4 40 [.front 0 0,.cells [.int .i64 0,.int .i64 0],.map W,.cells [.str s,.int .i64 (s.length:Nat),.map 2,.slice sg .no,.slice o (.own 4)],.front o.length (wZ o),.front 1 4] (.slice o (.own 4)) (.slice [[.int .i64 0,.int .i64 (s.length:Nat),.int .i64 0,.str []]] (.own 5)) =
     some (.slice (o++[[.int .i64 0,.int .i64 (s.length:Nat),.int .i64 0,.str []]]) (.own 4),[.front 0 0,.cells [.int .i64 0,.int .i64 0],.map W,.cells [.str s,.int .i64 (s.length:Nat),.map 2,.slice sg .no,.slice o (.own 4)],.front (o.length+1) 4,.front 1 4]):=by
    have hget:([.front 0 0,.cells [.int .i64 0,.int .i64 0],.map W,.cells [.str s,.int .i64 (s.length:Nat),.map 2,.slice sg .no,.slice o (.own 4)],.front o.length (wZ o),.front 1 4]:kP)[4]?=some (.front o.length (wZ o)):=rfl
    have hall:([[.int .i64 0,.int .i64 (s.length:Nat),.int .i64 0,.str []]]:List (List kM)).all (fun r=>r.length == 4)=true:=rfl
    have h1':(o.length+1) * 40≤140737488355328:=by omega
    have h2':o.length+1≤140737488355328:=by omega
    simp only [mH,pY,hall,if_true,hget,ac1,ac6,al6,h1',h2',h3,and_self]
    rfl
   simp [Jf,h54,lT,putCells,kY,tR,n_,kM.C4,rowsOf,hap,kT,SK hW5,lE]
   simp [HE,Token.cells,←hm]
theorem c49 (s:List UInt8) (h:kP):KK 49 [.str s] h=some (.ret (.tuple [.slice ((oI s).1.map Token.cells) .no,.agg [.int .i64 ((oI s).2.1:Nat),.int .i64 ((oI s).2.2:Nat)]]),h):=by
 refine lD rfl rfl (lA (aAS _ _ _) ?_)
 by_cases hs:65536 < s.length
 ·have hs':(65536:Int) < s.length:=by omega
  simp [m49,lL,lF,lT,putCells,hs',oI,hs,kN]
 ·have hs':¬(65536:Int) < s.length:=by omega
  obtain⟨tok,at',out',n,sz,hl⟩:=aiA s (by omega) 0 (ah8 _) [] (ah8 _) _ rfl
  have hlex:oI s=lexFrom s 0 []:=by simp [oI,hs]
  rw [hlex]
  have h52:=c98
  have h53:=c99
  generalize uV=W at *
  generalize vZ=sg at *
  simp only [HL,HE,al1,Int.ofNat_eq_natCast,ab9,ac6,wZ] at hl
  simp [m49,lL,lF,lT,putCells,hs',h52,h53,hl,kN]
  cases tok <;> rfl
end
section
open Go Hk
theorem RX {s:List UInt8}{n:Nat}(h:n < s.length):mZ (s.drop n)=if s[n]=10 then 0 else mZ (s.drop (n+1))+1:=by
 rw [ae6 h]; simp only [mZ,al8]
 by_cases hb:s[n]=10 <;> simp [hb]
theorem Rb (b:UInt8) (n:Nat) (hn:n < 256):((b.toNat:Int)=n)↔b=UInt8.ofNat n:=by
 constructor
 ·intro h
  have:b.toNat=n:=by omega
  rw [←this]; simp
 ·intro h
  subst h
  simp; omega
theorem aiC (s:List UInt8) (hs:s.length≤65536) (n:Nat) (hn:n≤s.length) (x:Int) :
  mJ (Jg KK 0) ([.str s,.int .i64 (n:Nat),.int .i64 x],[])=some (.exit 2,[.str s,.int .i64 (n+mZ (s.drop n):Nat),.int .i64 x],[]):=by
 induction hm:s.length - n using Nat.strongRecOn generalizing n with
 | _ m ih =>
  rw [l9]
  by_cases h:n < s.length
  ·have hi:s[n]?=some s[n]:=ab3 h
   have h':(n:Int) < s.length:=by omega
   have hb:=Rb s[n] 10 (by omega)
   rw [RX h]
   by_cases hc:s[n]=10
   ·have hb':(s[n].toNat:Int)=10:=hb.2 hc
    simp [Jg,h',hi,hb',hc,nS]
   ·have hb':¬(s[n].toNat:Int)=10:=fun e=>hc (hb.1 e)
    have w:IntKind.wrap .i64 ((n:Int)+1)=(n:Int)+1:=by rw [wrap64] <;> omega
    have step:Jg KK 0 ([.str s,.int .i64 (n:Nat),.int .i64 x],[])=some (.normal,[.str s,.int .i64 (n+1:Nat),.int .i64 x],[]):=by
     simp [Jg,h',hi,hb',w,nS]
    rw [step]
    simp only [ad9,oA]
    rw [ih (s.length - (n+1)) (by omega) (n+1) (by omega) rfl,if_neg hc]
    rw [show n+1+mZ (s.drop (n+1))=n+(mZ (s.drop (n+1))+1) by omega]
  ·have h':¬(n:Int) < s.length:=by omega
   have:s.drop n=[]:=aj0 (by omega)
   simp [Jg,h',this,mZ,nS]
theorem Vt {s:List UInt8}{n:Nat}(h:n < s.length):(s.drop n).take 2=[47,47]↔s[n]=47∧s[n+1]?=some 47:=by
 rw [ae6 h]
 by_cases h2:n+1 < s.length
 ·rw [ae6 h2,List.take_succ_cons,List.take_succ_cons,List.take_zero,ab3 h2]
  simp only [List.cons.injEq,and_true,ab1]
 ·rw [aj0 (by omega),List.getElem?_eq_none (show s.length≤n+1 by omega)]; simp
theorem aiD (s:List UInt8) (hs:s.length≤65536) (at_:Nat) (ha:at_≤s.length) :
  mJ (Dh KK 0) ([.str s,.int .i64 (at_:Nat),.int .i64 0],[])=some (.ret,[.str s,.int .i64 (lV s at_:Nat),.int .i64 (lV s at_:Nat)],[]) ∨
  mJ (Dh KK 0) ([.str s,.int .i64 (at_:Nat),.int .i64 0],[])=some (.exit 0,[.str s,.int .i64 (lV s at_:Nat),.int .i64 0],[]):=by
 induction hm:s.length - at_ using Nat.strongRecOn generalizing at_ with
 | _ m ih =>
  rw [l9,lV]
  by_cases h:at_ < s.length
  ·have hi:s[at_]?=some s[at_]:=ab3 h
   have h':(at_:Int) < s.length:=by omega
   have w:IntKind.wrap .i64 ((at_:Int)+1)=((at_+1:Nat):Int):=by rw [wrap64] <;> omega
   have hb:=Rb s[at_] 47 (by omega)
   have t2:=Vt h
   by_cases hr:(s.drop at_).take 2=[47,47]
   ·obtain⟨e1,e2⟩:=t2.1 hr
    have h2:at_+1 < s.length:=by
     have:=(ab0.1 e2).1; exact this
    have h2':((at_+1:Nat):Int) < s.length:=by omega
    have e1':(s[at_].toNat:Int)=47:=hb.2 e1
    have hbl:qN s[at_]=false:=by rw [e1]; decide
    have hline:=aiC s hs at_ ha 0
    have hll:=zA (s.drop at_)
    have htw:=EX hr
    simp only [am4] at hll
    have step:Dh KK 0 ([.str s,.int .i64 (at_:Nat),.int .i64 0],[])=some (.normal,[.str s,.int .i64 (at_+mZ (s.drop at_):Nat),.int .i64 0],[]):=by
     have hi2:m_ (.str s) (.int .i64 ((at_:Int)+1))=some (.int .u8 47):=by
      have:=Gb (s:=s) (k:=.i64) (i:=at_+1)
      rw [e2] at this; simpa using this
     simp only [af8,ab9] at w h2'
     simp [Dh,h',w,h2',hi,e1',hi2,hline,nS]
    rw [step]
    simp only [ad9,oA,h,dite_true,hbl,al9,if_false,hr,if_true]
    rw [show max 1 (mZ (s.drop at_))=mZ (s.drop at_) by omega]
    exact ih (s.length - (at_+mZ (s.drop at_))) (by omega) (at_+mZ (s.drop at_)) (by omega) rfl
   ·-- no remark
    have body:Dh KK 0 ([.str s,.int .i64 (at_:Nat),.int .i64 0],[])=if qN s[at_] then some (.normal,[.str s,.int .i64 (at_+1:Nat),.int .i64 0],[]) else some (.ret,[.str s,.int .i64 (at_:Nat),.int .i64 (at_:Nat)],[]):=by
     simp only [af8,ab9] at w
     by_cases h2:at_+1 < s.length
     ·have h2':((at_:Int)+1) < s.length:=by omega
      by_cases e1:s[at_]=47
      ·have e1':(s[at_].toNat:Int)=47:=hb.2 e1
       have e2:¬s[at_+1]=47:=fun e=>hr (t2.2 ⟨e1,by rw [ab3 h2,e]⟩)
       have e2':¬(s[at_+1].toNat:Int)=47:=fun e=>e2 ((Rb s[at_+1] 47 (by omega)).1 e)
       have hi2:m_ (.str s) (.int .i64 ((at_:Int)+1))=some (by8 s[at_+1]):=by
        have:=Gb (s:=s) (k:=.i64) (i:=at_+1)
        rw [ab3 h2] at this; simpa using this
       have hbl:qN s[at_]=false:=by rw [e1]; decide
       have c47:∀h,KK 112 [.int .u8 47] h=some (.ret (.bool false),h):=fun h=>ax8 47 h
       simp [Dh,h',w,h2',hi,e1',hi2,e2',c47,hbl,nS]
      ·have e1':¬(s[at_].toNat:Int)=47:=fun e=>e1 (hb.1 e)
       cases hbl:qN s[at_] <;> simp [Dh,h',w,h2',hi,e1',ax8,hbl,nS]
     ·have h2':¬((at_:Int)+1) < s.length:=by omega
      cases hbl:qN s[at_] <;> simp [Dh,h',w,h2',hi,ax8,hbl,nS]
    rw [body]
    simp only [h,dite_true,hr,if_false]
    cases hbl:qN s[at_] with
    | true =>
     simp only [if_true,ad9,oA]
     exact ih (s.length - (at_+1)) (by omega) (at_+1) (by omega) rfl
    | false=>left; simp
  ·right
   have h':¬(at_:Int) < s.length:=by omega
   simp [Dh,h',h,nS]
theorem c55 (s:List UInt8) (hs:s.length≤65536) (at_:Nat) (ha:at_≤s.length) (h:kP):KK 55 [.str s,.int .i64 (at_:Nat)] h=some (.ret (.int .i64 (lV s at_:Nat)),h):=by
 refine lD rfl rfl (lA (aAW _ _ _ _) ?_)
 simp only [m55,ac6]
 rcases aiD s hs at_ ha with hl | hl <;> rw [hl] <;> simp [kN]
def Li (t:List UInt8):List UInt8→Bool
 | []=>t.isPrefixOf []
 | b::l=>t.isPrefixOf (b::l) || Li t l
def Ku:List (List UInt8)→List UInt8
 | []=>[32]
 | w::ws=>32::(w++Ku ws)
theorem QB:∀(r w:List UInt8) (J:List UInt8),32 ∉ r→32 ∉ w→((r++[32]).isPrefixOf (w++32::J)=decide (r=w))
 | [],[],J,_,_=>by simp
 | [],b::w,J,_,hw=>by
  have:¬(32:UInt8)=b:=fun e=>hw (by simp [e])
  simp [List.isPrefixOf,this]
 | a::r,[],J,hr,_=>by
  have:¬a=(32:UInt8):=fun e=>hr (by simp [e])
  simp [List.isPrefixOf,this]
 | a::r,b::w,J,hr,hw=>by
  have ih:=QB r w J (fun h=>hr (by simp [h])) (fun h=>hw (by simp [h]))
  by_cases hab:a=b
  ·subst hab; simp [List.isPrefixOf,ih]
  ·simp [List.isPrefixOf,hab]
theorem WC (ws:List (List UInt8)):∃J,Ku ws=32::J:=by cases ws <;> exact⟨_,rfl⟩
theorem Uq (t:List UInt8):∀(w J:List UInt8),32 ∉ w→Li (32::t) (w++J)=Li (32::t) J
 | [],J,_=>rfl
 | b::w,J,hw=>by
  have:¬(32:UInt8)=b:=fun e=>hw (by simp [e])
  have hb:((32:UInt8) == b)=false:=by simp [this]
  simp only [ae7,Li,List.isPrefixOf,hb,Bool.false_and,Bool.false_or]
  exact Uq t w J (fun h=>hw (by simp [h]))
theorem HC (r:List UInt8) (hr:32 ∉ r):∀(ws:List (List UInt8)),(∀w∈ws,32 ∉ w)→Li (32::(r++[32])) (Ku ws)=decide (r∈ws)
 | [],_=>by cases r <;> simp [Ku,Li,List.isPrefixOf]
 | w::ws,hw=>by
  obtain⟨J,hJ⟩:=WC ws
  have ih:=HC r hr ws (fun w h=>hw w (by simp [h]))
  have hp:=QB r w J hr (hw w (by simp))
  simp only [Ku,Li,List.isPrefixOf,beq_self_eq_true,Bool.true_and]
  rw [Uq _ w _ (hw w (by simp)),ih,hJ,hp]
  simp [List.mem_cons]
theorem Up (t q:List UInt8) (b:UInt8) (r:List UInt8) (h:q=b::r):Li t q=(t.isPrefixOf q || Li t r):=by subst h; rfl
theorem abU (l t:List UInt8) (hl:l.length≤65536) (ht:t.length≤131072) (h1:1≤t.length) (i:Nat) (hi:i≤l.length) :
  (Li t (l.drop i)=true∧∃j:Int,mJ (D7 KK 0) ([.str l,.bool false,.str t,.int .i64 (i:Nat)],[])=some (.ret,[.str l,.bool true,.str t,.int .i64 j],[])) ∨
  (Li t (l.drop i)=false∧∃j:Int,mJ (D7 KK 0) ([.str l,.bool false,.str t,.int .i64 (i:Nat)],[])=some (.exit 0,[.str l,.bool false,.str t,.int .i64 j],[])):=by
 induction hm:l.length - i using Nat.strongRecOn generalizing i with
 | _ m ih =>
  rw [l9]
  have w1:IntKind.wrap .i64 ((i:Int)+t.length)=((i+t.length:Nat):Int):=by rw [wrap64] <;> omega
  have w2:IntKind.wrap .i64 ((i:Int)+1)=(i:Int)+1:=by rw [wrap64] <;> omega
  by_cases h:i+t.length≤l.length
  ·have h':((i+t.length:Nat):Int)≤l.length:=by omega
   have hsl:=qH (s:=l) (lo:=some (.int .i64 (i:Int))) (hi:=some (.int .i64 ((i+t.length:Nat):Int))) p7 p7 (by omega) h
   rw [show i+t.length - i=t.length by omega] at hsl
   have hil:i < l.length:=by omega
   have hcons:=ae6 hil
   have hpre:t.isPrefixOf (l.drop i)=decide ((l.drop i).take t.length=t):=by
    rw [Bool.eq_iff_iff]
    simp only [List.isPrefixOf_iff_prefix,decide_eq_true_eq]
    constructor
    ·intro hp; exact(List.prefix_iff_eq_take.1 hp).symm
    ·intro hp; exact List.prefix_iff_eq_take.2 hp.symm
   simp only [af8] at w1 h' hsl
   by_cases hp:(l.drop i).take t.length=t
   ·left
    refine⟨?_,i,?_⟩
    ·rw [Up t _ _ _ hcons,hpre,decide_eq_true hp]; rfl
    ·simp [D7,w1,h',hsl,hp,nS]
   ·have hin:Li t (l.drop i)=Li t (l.drop (i+1)):=by
     rw [Up t _ _ _ hcons,hpre,decide_eq_false hp]; rfl
    have step:D7 KK 0 ([.str l,.bool false,.str t,.int .i64 (i:Nat)],[])=some (.normal,[.str l,.bool false,.str t,.int .i64 (i+1:Nat)],[]):=by
     simp [D7,w1,w2,h',hsl,hp,nS]
    rw [step,hin]
    simp only [ad9,oA]
    exact ih (l.length - (i+1)) (by omega) (i+1) (by omega) rfl
  ·right
   have h':¬((i:Int)+t.length)≤l.length:=by omega
   simp only [af8] at w1
   refine⟨?_,i,?_⟩
   ·have:∀(q:List UInt8),q.length < t.length→Li t q=false:=by
     intro q
     induction q with
     | nil=>intro hq; cases t with | nil=>simp at h1 | cons a b=>rfl
     | cons b q ihq =>
      intro hq
      have hnp:t.isPrefixOf (b::q)=false:=by
       rw [Bool.eq_false_iff]
       intro hp
       have:=(List.isPrefixOf_iff_prefix.1 hp).length_le
       omega
      simp only [Li,hnp,Bool.false_or]
      exact ihq (by simp at hq; omega)
    exact this _ (by simp; omega)
   ·simp [D7,w1,h',nS]
theorem ax9 (l s:List UInt8) (hl:l.length≤65536) (hs:s.length≤65536) (h:kP):KK 117 [.str l,.str s] h=some (.ret (.bool (Li (32::(s++[32])) l)),h):=by
 refine lD rfl rfl (lA (aqA _ _ _ _) ?_)
 have e1:1+s.length≤4611686018427387904:=by omega
 have e2:s.length+1+1≤4611686018427387904:=by omega
 have hloop:=abU l (32::(s++[32])) hl (by simp; omega) (by simp) 0 (ah8 _)
 simp only [List.drop_zero,Int.ofNat_eq_natCast,ab9] at hloop
 rcases hloop with ⟨hi,j,hlp⟩ | ⟨hi,j,hlp⟩
 ·rw [hi]; simp [az9,e1,e2,hlp,kN]
 ·rw [hi]; simp [az9,e1,e2,hlp,kN]
end
section
open Go Hk
def sK (hex:Bool):List UInt8→Nat→Option Nat
 | [],n=>some n
 | b::r,n=>match sQ hex b with
  | none=>none
  | some v=>sK hex r (n * mR hex+v)
theorem Xh (hex:Bool):∀(l:List UInt8) (n r:Nat),sK hex l n=some r→n * mR hex ^ l.length≤r
 | [],n,r,h=>by simp [sK] at h; simp [h]
 | b::l,n,r,h=>by
  simp only [sK] at h
  cases hv:sQ hex b with
  | none=>rw [hv] at h; cases h
  | some v =>
   rw [hv] at h
   have:=Xh hex l _ r h
   rw [ac1,Nat.pow_succ,Nat.mul_comm (mR hex ^ l.length),←Nat.mul_assoc]
   exact Nat.le_trans (ai9 _ (Nat.le_add_right _ _)) this
theorem TS (hex:Bool) (k:Nat):1≤mR hex ^ k:=Nat.one_le_pow _ _ (by cases hex <;> decide)
theorem LQ (hex:Bool):∀(l:List UInt8) (n:Nat),n≤4294967295→oG hex l n=match sK hex l n with | some r=>if r≤4294967295 then some r else none | none=>none
 | [],n,h=>by simp [oG,sK,h]
 | b::l,n,h=>by
  simp only [oG,sK]
  cases hv:sQ hex b with
  | none=>rfl
  | some v =>
   simp only []
   rw [Nat.mul_comm (mR hex) n]
   by_cases hb:4294967295 < n * mR hex+v
   ·rw [if_pos hb]
    cases hr:sK hex l (n * mR hex+v) with
    | none=>rfl
    | some r =>
     have:=Xh hex l _ r hr
     have h1:=TS hex l.length
     have:n * mR hex+v≤r:=Nat.le_trans (Nat.le_mul_of_pos_right _ h1) this
     simp only []
     rw [if_neg (by omega)]
   ·rw [if_neg hb]
    exact LQ hex l _ (by omega)
theorem adF {hex:Bool}{b:UInt8}{v:Nat}(h:sQ hex b=some v):v+1≤mR hex:=by
 unfold sQ at h
 split at h
 ·rename_i hd; cases h; simp [isDigit] at hd; cases hex <;> simp [mR] <;> omega
 ·split at h
  ·rename_i hd; cases h; simp at hd; obtain⟨h1,h2,h3⟩:=hd; subst h1; simp [mR]; omega
  ·cases h
theorem Qf (hex:Bool) (s:List UInt8) (hs:s.length≤65536) (i n:Nat) (hi:i≤s.length) (hb:(n+1) * mR hex ^ (s.length - i)≤2199023255552) :
  ∃(n' j:Int),mJ (CX KK 0) ([.str s,.int .i64 0,.int .i64 (mR hex:Nat),.int .i64 (n:Nat),.int .i64 (i:Nat)],[]) =
   some (match sK hex (s.drop i) n with
    | some r=>(.exit 0,[.str s,.int .i64 0,.int .i64 (mR hex:Nat),.int .i64 (r:Nat),.int .i64 j],[])
    | none=>(.ret,[.str s,.int .i64 (-1),.int .i64 (mR hex:Nat),.int .i64 n',.int .i64 j],[])):=by
 induction hm:s.length - i using Nat.strongRecOn generalizing i n with
 | _ m ih =>
  rw [l9]
  by_cases h:i < s.length
  ·have hx:s[i]?=some s[i]:=ab3 h
   have h':(i:Int) < s.length:=by omega
   have hdrop:=ae6 h
   rw [hdrop]
   generalize hc:s[i]=b at *
   have hb8:=awV b
   have e1:((97:Int)≤b.toNat)↔97≤b.toNat:=by omega
   have e2:((b.toNat:Int)≤102)↔b.toNat≤102:=by omega
   have w0:IntKind.wrap .i64 (b.toNat:Int)=b.toNat:=by rw [wrap64] <;> omega
   have w1:IntKind.wrap .i64 ((b.toNat:Int) - 48)=(b.toNat:Int) - 48:=by rw [wrap64] <;> omega
   have w2:IntKind.wrap .i64 ((b.toNat:Int) - 97)=(b.toNat:Int) - 97:=by rw [wrap64] <;> omega
   have w3:IntKind.wrap .i64 ((b.toNat:Int) - 97+10)=(b.toNat:Int) - 97+10:=by rw [wrap64] <;> omega
   have wi:IntKind.wrap .i64 ((i:Int)+1)=(i:Int)+1:=by rw [wrap64] <;> omega
   cases hv:sQ hex b with
   | none =>
    refine⟨n,i,?_⟩
    have hd:isDigit b=false:=by
     cases hd:isDigit b with
     | false=>rfl
     | true=>simp [sQ,hd] at hv
    simp only [sK,hv]
    cases hex with
    | true =>
     by_cases h1:97≤b.toNat <;> by_cases h2:b.toNat≤102
     ·simp [sQ,hd,h1,h2] at hv
     all_goals simp [CX,h',hx,w0,w1,O9,hd,e1,e2,h1,h2,mR,nS]
    | false =>
     by_cases h1:97≤b.toNat <;> by_cases h2:b.toNat≤102 <;> simp [CX,h',hx,w0,w1,O9,hd,e1,e2,h1,h2,mR,nS]
   | some v =>
    have hvl:=adF hv
    have hpow:mR hex ^ (s.length - i)=mR hex ^ (s.length - (i+1)) * mR hex:=by rw [←Nat.pow_succ]; congr 1; omega
    have hb2:(n * mR hex+v+1) * mR hex ^ (s.length - (i+1))≤2199023255552:=by
     refine Nat.le_trans ?_ hb
     rw [hpow,Nat.mul_comm (mR hex ^ _) (mR hex),←Nat.mul_assoc,Nat.add_mul n 1,Nat.one_mul]
     exact ai9 _ (by omega)
    have hsmall:n * mR hex+v+1≤2199023255552:=Nat.le_trans (Nat.le_mul_of_pos_right _ (TS hex _)) hb2
    have hmul0:(0:Int)≤(n:Int) * (mR hex:Nat):=by have:=Int.natCast_nonneg (n * mR hex); rwa [Int.natCast_mul] at this
    have hmul1:(n:Int) * (mR hex:Nat)+v+1≤2199023255552:=by
     have:((n * mR hex+v+1:Nat):Int)≤2199023255552:=by omega
     simpa [af8,Int.natCast_mul] using this
    have w4:IntKind.wrap .i64 ((n:Int) * (mR hex:Nat))=(n:Int) * (mR hex:Nat):=by rw [wrap64] <;> omega
    have w5:IntKind.wrap .i64 ((n:Int) * (mR hex:Nat)+v)=(n:Int) * (mR hex:Nat)+v:=by rw [wrap64] <;> omega
    obtain⟨n',j,hl⟩:=ih (s.length - (i+1)) (by omega) (i+1) (n * mR hex+v) (by omega) hb2 rfl
    refine⟨n',j,?_⟩
    have step:CX KK 0 ([.str s,.int .i64 0,.int .i64 (mR hex:Nat),.int .i64 (n:Nat),.int .i64 (i:Nat)],[]) =
      some (.normal,[.str s,.int .i64 0,.int .i64 (mR hex:Nat),.int .i64 (n * mR hex+v:Nat),.int .i64 (i+1:Nat)],[]):=by
     cases hd:isDigit b with
     | true =>
      have hr:48≤b.toNat∧b.toNat≤57:=by simpa [isDigit] using hd
      have hvv:v=b.toNat - 48:=by simp [sQ,hd] at hv; exact hv.symm
      have hvi:(b.toNat:Int) - 48=v:=by omega
      rw [hvi] at w1
      have h1:¬97≤b.toNat:=by omega
      simp [CX,h',hx,w0,hvi,w1,O9,hd,e1,h1,w4,w5,wi,nS]
     | false =>
      cases hex with
      | false=>simp [sQ,hd] at hv
      | true =>
       by_cases h1:97≤b.toNat
       ·by_cases h2:b.toNat≤102
        ·have hvv:v=b.toNat - 87:=by simp [sQ,hd,h1,h2] at hv; exact hv.symm
         have hvi:(b.toNat:Int) - 97+10=v:=by omega
         rw [hvi] at w3
         simp only [mR,if_true,ab9] at w4 w5
         simp [CX,h',hx,w0,w1,w2,hvi,w3,e1,e2,h1,h2,mR,w4,w5,wi,nS]
        ·simp [sQ,hd,h1,h2] at hv
       ·simp [sQ,hd,h1] at hv
    rw [step]
    simp only [ad9,oA]
    rw [hl]
    simp only [sK,hv]
  ·have h':¬(i:Int) < s.length:=by omega
   have:s.drop i=[]:=aj0 (by omega)
   refine⟨n,i,?_⟩
   simp [CX,h',this,sK,nS]
def W8 (s:List UInt8):Int:=match rS s with | some n=>n | none=>-1
theorem aIT (s:List UInt8) (hs:s.length≤65536) (h0:s≠[]) (h:kP):KK 116 [.str s] h=some (.ret (.int .i64 (W8 s)),h):=by
 refine lD rfl rfl (lA (ap9 _ _ _) ?_)
 by_cases hp:s.take 2=[48,120]
 ·have hl2:2≤s.length:=by have:=congrArg aa1 hp; simp at this; omega
  have hl2':(2:Int)≤s.length:=by omega
  have s1:=qH (s:=s) (lo:=none) (hi:=some (.int .i64 ((2:Nat):Int))) xX p7 (by omega) hl2
  have s2:=qH (s:=s) (lo:=some (.int .i64 ((2:Nat):Int))) (hi:=none) p7 xX hl2 (ab6 _)
  have e:(s.drop 2).take (s.length - 2)=s.drop 2:=List.take_of_length_le (by simp)
  rw [e] at s2
  simp only [ab9,List.drop_zero,Nat.sub_zero,hp] at s1 s2
  have hn:rS s=if s.drop 2=[]∨8 < (s.drop 2).length then none else oG true (s.drop 2) 0:=by simp only [rS,hp,if_true]
  have hrl:(s.drop 2).length≤65536:=by simp; omega
  unfold W8
  rw [hn]
  generalize s.drop 2=r at *
  by_cases hl:8 < r.length
  ·have hl':(8:Int) < r.length:=by omega
   simp [GC,hl2',s1,s2,hl,hl',kN]
  ·have hl':¬(8:Int) < r.length:=by omega
   by_cases he:r=[]
   ·subst he
    simp [GC,hl2',s1,s2,kN]
   ·have hpw:(0+1) * mR true ^ (r.length - 0)≤2199023255552:=by
     have:mR true ^ r.length≤16 ^ 8:=Nat.pow_le_pow_right (by decide) (by omega)
     simp only [Nat.sub_zero,al6,Nat.one_mul]; omega
    obtain⟨n',j,hloop⟩:=Qf true r hrl 0 0 (ah8 _) hpw
    simp only [mR,if_true,List.drop_zero,Int.ofNat_eq_natCast,ab9] at hloop
    rw [if_neg (by simp [he,hl]),LQ true r 0 (by omega)]
    cases hd:sK true r 0 with
    | none=>rw [hd] at hloop; simp [GC,hl2',s1,s2,he,hl',hloop,kN]
    | some v =>
     rw [hd] at hloop
     by_cases hv:v≤4294967295
     ·have hv':¬(4294967296:Int)≤v:=by omega
      simp [GC,hl2',s1,s2,he,hl',hloop,hv,hv',kN]
     ·have hv':(4294967296:Int)≤v:=by omega
      simp [GC,hl2',s1,s2,he,hl',hloop,hv,hv',kN]
 ·-- no '0x' ahead: the test of the first two bytes fails,whatever the length
  have hn:rS s=if s[0]?=some 48∧s≠[48] then none else oG false s 0:=by simp only [rS,hp,if_false]
  obtain⟨b,r,hbr⟩:∃b r,s=b::r:=by cases s with | nil=>exact absurd rfl h0 | cons b r=>exact⟨b,r,rfl⟩
  have hs0:s[0]?=some b:=by rw [hbr]; rfl
  have hlen:s.length=r.length+1:=by rw [hbr]; rfl
  have ht:((48:UInt8).toNat:Int)=48:=rfl
  have hb48:((b.toNat:Int)=48)↔b=48:=by
   constructor
   ·intro h; exact UInt8.toNat_inj.1 (by simpa using (by omega:b.toNat=48))
   ·intro h; rw [h]; rfl
  unfold W8
  rw [hn]
  have key:∀(X:Option (nO×kP)),(∀(hten:10 < s.length∨(1 < s.length∧b=48)),X=some (.ret (.int .i64 (-1)),[])) →
    (∀(hten:¬(10 < s.length∨(1 < s.length∧b=48))),X=some (.ret (.int .i64 (match oG false s 0 with | some n=>(n:Int) | none=>-1)),[])) →
    X=some (.ret (.int .i64 (match (if s[0]?=some 48∧s≠[48] then none else oG false s 0) with | some n=>(n:Int) | none=>-1)),[]):=by
   intro X h1 h2
   by_cases hten:10 < s.length∨(1 < s.length∧b=48)
   ·rw [h1 hten]
    by_cases hz:s[0]?=some 48∧s≠[48]
    ·rw [if_pos hz]
    ·rw [if_neg hz]
     have hb:b≠48:=by
      intro hb
      refine hz ⟨by rw [hs0,hb],fun e=>?_⟩
      rw [e] at hten
      simp at hten
     have h10:10 < s.length:=by
      rcases hten with h | ⟨_,h⟩
      ·exact h
      ·exact absurd h hb
     have:oG false s 0=none:=by
      rw [LQ false s 0 (by omega)]
      cases hr:sK false s 0 with
      | none=>rfl
      | some v =>
       rw [hbr] at hr
       simp only [sK] at hr
       cases hv:sQ false b with
       | none=>rw [hv] at hr; cases hr
       | some d =>
        rw [hv] at hr
        have hd:isDigit b=true:=by
         cases hd:isDigit b with
         | true=>rfl
         | false=>simp [sQ,hd] at hv
        have hdr:48≤b.toNat∧b.toNat≤57:=by simpa [isDigit] using hd
        have hdv:d=b.toNat - 48:=by simp [sQ,hd] at hv; exact hv.symm
        have hb':b.toNat≠48:=fun e=>hb (hb48.1 (by omega))
        have hge:=Xh false r _ v hr
        have hp10:(10:Nat) ^ 10≤10 ^ r.length:=Nat.pow_le_pow_right (by decide) (by omega)
        have h1d:1≤0 * mR false+d:=by omega
        have:1 * 10 ^ r.length≤(0 * mR false+d) * mR false ^ r.length:=ai9 _ h1d
        simp only []
        rw [if_neg (by omega)]
     rw [this]
   ·rw [h2 hten]
    by_cases hz:s[0]?=some 48∧s≠[48]
    ·exfalso
     obtain⟨z1,z2⟩:=hz
     rw [hs0] at z1
     cases z1
     refine hten (.inr ⟨?_,rfl⟩)
     cases r with
     | nil=>exact absurd hbr z2
     | cons c r=>rw [hlen]; simp
    ·rw [if_neg hz]
  refine key _ (fun hten=>?_) (fun hten=>?_)
  ·by_cases hl2:2≤s.length
   ·have hl2':(2:Int)≤s.length:=by omega
    have s1:=qH (s:=s) (lo:=none) (hi:=some (.int .i64 ((2:Nat):Int))) xX p7 (by omega) hl2
    simp only [ab9,List.drop_zero,Nat.sub_zero] at s1
    by_cases h10:10 < s.length
    ·have h10':(10:Int) < s.length:=by omega
     simp [GC,hl2',s1,hp,h10',kN]
    ·have h10':¬(10:Int) < s.length:=by omega
     have hb:=(hten.resolve_left h10).2
     have h1':(1:Int) < s.length:=by omega
     have hbt:=hb48.2 hb
     simp [GC,hl2',s1,hp,h10',h1',hs0,hbt,kN]
   ·omega
  ·have h10':¬(10:Int) < s.length:=by omega
   have hpw:(0+1) * mR false ^ (s.length - 0)≤2199023255552:=by
    have:mR false ^ s.length≤10 ^ 10:=Nat.pow_le_pow_right (by decide) (by omega)
    simp only [Nat.sub_zero,al6,Nat.one_mul]; omega
   obtain⟨n',j,hloop⟩:=Qf false s hs 0 0 (ah8 _) hpw
   simp only [mR,al9,if_false,List.drop_zero,Int.ofNat_eq_natCast,ab9] at hloop
   rw [LQ false s 0 (by omega)]
   have ahead:∀v,sK false s 0=v→GC KK (.str s) []=some (.ret (.int .i64 (match (match v with | some r=>if r≤4294967295 then some r else none | none=>none) with | some n=>(n:Int) | none=>-1)),[]):=by
    intro v hv
    rw [hv] at hloop
    have fin:∀(r:Nat),(4294967296:Int)≤r∨¬(4294967296:Int)≤r:=fun r=>Classical.em _
    by_cases hl2:2≤s.length
    ·have hl2':(2:Int)≤s.length:=by omega
     have s1:=qH (s:=s) (lo:=none) (hi:=some (.int .i64 ((2:Nat):Int))) xX p7 (by omega) hl2
     simp only [ab9,List.drop_zero,Nat.sub_zero] at s1
     have h1':(1:Int) < s.length:=by omega
     have hbt:¬((b.toNat:Int)=48):=fun e=>hten (.inr ⟨by omega,hb48.1 e⟩)
     cases v with
     | none=>simp [GC,hl2',s1,hp,h10',h1',hs0,hbt,h0,hloop,kN]
     | some r =>
      by_cases hv:r≤4294967295
      ·have hv':¬(4294967296:Int)≤r:=by omega
       simp [GC,hl2',s1,hp,h10',h1',hs0,hbt,h0,hloop,hv,hv',kN]
      ·have hv':(4294967296:Int)≤r:=by omega
       simp [GC,hl2',s1,hp,h10',h1',hs0,hbt,h0,hloop,hv,hv',kN]
    ·have hl2':¬(2:Int)≤s.length:=by omega
     have h1':¬(1:Int) < s.length:=by omega
     cases v with
     | none=>simp [GC,hl2',h10',h1',h0,hloop,kN]
     | some r =>
      by_cases hv:r≤4294967295
      ·have hv':¬(4294967296:Int)≤r:=by omega
       simp [GC,hl2',h10',h1',h0,hloop,hv,hv',kN]
      ·have hv':(4294967296:Int)≤r:=by omega
       simp [GC,hl2',h10',h1',h0,hloop,hv,hv',kN]
   exact ahead _ rfl
end
section
open Go Hk
def wK:List (List UInt8):=nY.take 6
def Cm:List (List UInt8):=nY.drop 6
def Qb:List UInt8:=[32,60,60,32,62,62,32,61,61,32,33,61,32,60,61,32,62,61,32]
def YP:List UInt8:=[32,40,32,41,32,123,32,125,32,91,32,93,32,44,32,59,32,58,32,61,32,43,32,45,32,42,32,38,32,124,32,94,32,126,32,33,32,60,32,62,32]
def Qc:List UInt8:=[32,102,110,32,112,117,98,32,115,101,99,32,111,117,116,32,108,101,116,32,118,97,114,32,105,102,32,101,108,115,101,32,102,111,114,32,109,97,120,32,114,101,116,117,114,110,32,117,51,50,32,117,56,32,109,97,115,107,32,109,117,108,104,105,32,99,97,114,114,121,32,115,101,108,101,99,116,32,119,111,114,100,32,114,111,114,32]
theorem WQ:Qb=Ku wK:=by decide
theorem WO:YP=Ku Cm:=by decide
theorem WR:Qc=Ku uH:=by decide
theorem azO (a b:UInt8) (ha:a≠32):Li (32::([a,b]++[32])) Qb=decide ([a,b]∈wK):=by
 by_cases hb:b=32
 ·subst hb
  have h1:Li (32::([a,32]++[32])) Qb=false:=by simp [Li,Qb,List.isPrefixOf]
  have h2:¬[a,32]∈wK:=by simp [wK,nY]
  rw [h1,decide_eq_false h2]
 ·rw [WQ]
  refine HC [a,b] (by simp [Ne.symm ha,Ne.symm hb]) wK (by decide)
theorem azN (a:UInt8) (ha:a≠32):Li (32::([a]++[32])) YP=decide ([a]∈Cm):=by
 rw [WO]
 exact HC [a] (by simp [Ne.symm ha]) Cm (by decide)
theorem ao6 (r:List UInt8) (hr:32 ∉ r):Li (32::(r++[32])) Qc=decide (r∈uH):=by
 rw [WR]
 exact HC r hr uH (by decide)
theorem MR (l:List UInt8) (k:Nat):∀(T:List (List UInt8)),(∀x∈T,x.length=k)→T.find? (fun x=>decide (l.take x.length=x))=if l.take k∈T then some (l.take k) else none
 | [],_=>by simp
 | x::T,h=>by
  have hx:=h x (by simp)
  have ih:=MR l k T (fun y hy=>h y (by simp [hy]))
  rw [List.find?_cons,hx]
  by_cases he:l.take k=x
  ·simp [he]
  ·simp only [he,decide_false,ih,List.mem_cons,false_or]
theorem zV (l:List UInt8):oW nY l=if l.take 2∈wK then l.take 2 else if l.take 1∈Cm then l.take 1 else []:=by
 have h2:=MR l 2 wK (by decide)
 have h1:=MR l 1 Cm (by decide)
 have hs:nY=wK++Cm:=by decide
 unfold oW
 rw [hs,List.find?_append,h2,h1]
 by_cases e2:l.take 2∈wK <;> by_cases e1:l.take 1∈Cm <;> simp [e2,e1]
theorem Wd (s:List UInt8) (hs:s.length≤65536) (h:kP):KK 117 [.str [32,60,60,32,62,62,32,61,61,32,33,61,32,60,61,32,62,61,32],.str s] h=some (.ret (.bool (Li (32::(s++[32])) Qb)),h):=ax9 Qb s (by decide) hs h
theorem Rc (s:List UInt8) (hs:s.length≤65536) (h:kP):KK 117 [.str [32,40,32,41,32,123,32,125,32,91,32,93,32,44,32,59,32,58,32,61,32,43,32,45,32,42,32,38,32,124,32,94,32,126,32,33,32,60,32,62,32],.str s] h=some (.ret (.bool (Li (32::(s++[32])) YP)),h):=ax9 YP s (by decide) hs h
theorem ayA (s:List UInt8) (hs:s.length≤65536) (h:kP):KK 117 [.str Qc,.str s] h=some (.ret (.bool (Li (32::(s++[32])) Qc)),h):=ax9 Qc s (by decide) hs h
theorem aIS (s:List UInt8) (hs:s.length≤65536) (at_:Nat) (ha:at_ < s.length) (hb:s[at_]≠32) (h:kP):KK 115 [.str s,.int .i64 (at_:Nat)] h=some (.ret (.str (oW nY (s.drop at_))),h):=by
 refine lD rfl rfl (lA (ap8 _ _ _ _) ?_)
 rw [zV]
 have w2:IntKind.wrap .i64 ((at_:Int)+2)=((at_+2:Nat):Int):=by rw [wrap64] <;> omega
 have w1:IntKind.wrap .i64 ((at_:Int)+1)=((at_+1:Nat):Int):=by rw [wrap64] <;> omega
 have s1:=qH (s:=s) (lo:=some (.int .i64 (at_:Int))) (hi:=some (.int .i64 ((at_+1:Nat):Int))) p7 p7 (by omega) (by omega)
 rw [show at_+1 - at_=1 by omega] at s1
 have t1:(s.drop at_).take 1=[s[at_]]:=by rw [ae6 ha]; rfl
 have i1:=azN s[at_] hb
 rw [←t1] at i1
 have l1:((s.drop at_).take 1).length≤65536:=by rw [t1]; simp
 by_cases h2:at_+2≤s.length
 ·have h2':((at_+2:Nat):Int)≤s.length:=by omega
  have s2:=qH (s:=s) (lo:=some (.int .i64 (at_:Int))) (hi:=some (.int .i64 ((at_+2:Nat):Int))) p7 p7 (by omega) h2
  rw [show at_+2 - at_=2 by omega] at s2
  have h3:at_+1 < s.length:=by omega
  have t2:(s.drop at_).take 2=[s[at_],s[at_+1]]:=by rw [ae6 ha,ae6 h3]; rfl
  have i2:=azO s[at_] s[at_+1] hb
  rw [←t2] at i2
  have l2:((s.drop at_).take 2).length≤65536:=by rw [t2]; simp
  generalize (s.drop at_).take 2=x2 at *
  generalize (s.drop at_).take 1=x1 at *
  simp only [af8,ab9] at w1 w2 s1 s2 h2'
  by_cases e2:x2∈wK
  ·simp [abT,w1,w2,h2',s2,Wd _ l2,i2,e2,kN]
  ·by_cases e1:x1∈Cm
   ·simp [abT,w1,w2,h2',s1,s2,Wd _ l2,i2,e2,Rc _ l1,i1,e1,kN]
   ·simp [abT,w1,w2,h2',s1,s2,Wd _ l2,i2,e2,Rc _ l1,i1,e1,kN]
 ·have h2':¬((at_+2:Nat):Int)≤s.length:=by omega
  have e2:¬(s.drop at_).take 2∈wK:=by
   have hlen:((s.drop at_).take 2).length=1:=by simp; omega
   intro hm
   have:∀x∈wK,x.length=2:=by decide
   have:=this _ hm
   omega
  rw [if_neg e2]
  generalize (s.drop at_).take 1=x1 at *
  simp only [af8,ab9] at w1 w2 s1 h2'
  by_cases e1:x1∈Cm
  ·simp [abT,w1,w2,h2',s1,Rc _ l1,i1,e1,kN]
  ·simp [abT,w1,w2,h2',s1,Rc _ l1,i1,e1,kN]
def H2 (k p q:Int) (t:List UInt8):kP:=[.cells [.int .i64 0,.int .i64 0,.int .i64 0,.str []],.cells [.int .i64 k,.int .i64 p,.int .i64 q,.str t]]
theorem Oz {k p q:Int}{t:List UInt8}:l_ 2 [.cells [.int .i64 0,.int .i64 0,.int .i64 0,.str []],.cells [.int .i64 k,.int .i64 p,.int .i64 q,.str t]] =
  some [.cells [.int .i64 0,.int .i64 0,.int .i64 0,.str []],.cells [.int .i64 k,.int .i64 p,.int .i64 q,.str t]]:=by simp [l_]
theorem aiE (s:List UInt8) (hs:s.length≤65536) (at_ n:Nat) (hn:n≤s.length) (k p q:Int) (t:List UInt8) :
  mJ (Jh KK 2) ([.str s,.int .i64 (at_:Nat),.ptr 0 0,.int .i64 0,.ptr 1 0,.int .i64 (n:Nat)],H2 k p q t) =
   some (.exit 0,[.str s,.int .i64 (at_:Nat),.ptr 0 0,.int .i64 0,.ptr 1 0,.int .i64 (n+(nR (s.drop n)).length:Nat)],H2 k p q t):=by
 induction hm:s.length - n using Nat.strongRecOn generalizing n with
 | _ m ih =>
  rw [l9]
  by_cases h:n < s.length
  ·have hi:s[n]?=some s[n]:=ab3 h
   have h':(n:Int) < s.length:=by omega
   by_cases hw:isWord s[n]=true
   ·have w:IntKind.wrap .i64 ((n:Int)+1)=(n:Int)+1:=by rw [wrap64] <;> omega
    have step:Jh KK 2 ([.str s,.int .i64 (at_:Nat),.ptr 0 0,.int .i64 0,.ptr 1 0,.int .i64 (n:Nat)],H2 k p q t) =
      some (.normal,[.str s,.int .i64 (at_:Nat),.ptr 0 0,.int .i64 0,.ptr 1 0,.int .i64 (n+1:Nat)],H2 k p q t):=by
     cases hl:pI s[n] <;> cases hd:isDigit s[n] <;> simp [isWord,hl,hd] at hw <;>
      simp [Jh,H2,h',hi,Wc,O9,hl,hd,w,kT,Oz,lE]
    rw [step]
    simp only [ad9,oA]
    rw [ih (s.length - (n+1)) (by omega) (n+1) (by omega) rfl,AV h,hw]
    simp; omega
   ·have hwf:isWord s[n]=false:=by simpa using hw
    have hl:pI s[n]=false:=by simp [isWord] at hwf; exact hwf.1
    have hd:isDigit s[n]=false:=by simp [isWord] at hwf; exact hwf.2
    rw [AV h,hwf]
    simp [Jh,H2,h',hi,Wc,O9,hl,hd,kT,Oz,lE]
  ·have h':¬(n:Int) < s.length:=by omega
   have:s.drop n=[]:=aj0 (by omega)
   simp [Jh,H2,h',this,nR,kT,Oz,lE]
theorem Jt (l:List UInt8):∀b∈nR l,isWord b=true:=by
 unfold nR
 induction l with
 | nil=>simp
 | cons c l ih =>
  intro b hb
  by_cases hc:isWord c=true
  ·rw [al8,hc] at hb
   rcases List.mem_cons.1 hb with rfl | hb
   ·exact hc
   ·exact ih b hb
  ·rw [al8] at hb; simp [hc] at hb
theorem Sv (l:List UInt8):(32:UInt8) ∉ nR l:=fun h=>by
 have:=Jt l 32 h
 simp [isWord,pI,isDigit] at this
theorem Ep {b:UInt8}(h:isDigit b=true):pI b=false:=by
 simp [isDigit] at h
 simp [pI]
 omega
theorem c56 (s:List UInt8) (hs:s.length≤65536) (at_:Nat) (ha:at_ < s.length) (hb:s[at_]≠32) :
  ∃(k p q:Int) (t:List UInt8) (n:Nat),(∀h,KK 56 [.str s,.int .i64 (at_:Nat)] h=some (.ret (.tuple [.agg [.int .i64 k,.int .i64 p,.int .i64 q,.str t],.int .i64 (n:Nat)]),h)) ∧
   match uO (s.drop at_) at_ with
   | some (u,m)=>[kM.int .i64 k,.int .i64 p,.int .i64 q,.str t]=u.cells∧n=m
   | none=>n=0:=by
 have hi:s[at_]?=some s[at_]:=ab3 ha
 have hcons:=ae6 ha
 have hrl:=Ie (s.drop at_)
 simp only [am4] at hrl
 have hone:uO (s.drop at_) at_=if pI s[at_] then(if 40 < (nR (s.drop at_)).length then none else some (⟨if nR (s.drop at_)∈uH then 3 else 1,at_,0,nR (s.drop at_)⟩,(nR (s.drop at_)).length))
  else if isDigit s[at_] then(match rS (nR (s.drop at_)) with | none=>none | some n=>some (⟨2,at_,n,[]⟩,(nR (s.drop at_)).length))
  else if oW nY (s.drop at_)=[] then none else some (⟨4,at_,0,oW nY (s.drop at_)⟩,(oW nY (s.drop at_)).length):=by
  rw [hcons]; rfl
 rw [hone]
 have hloop:=fun k p q t=>aiE s hs at_ at_ (Nat.le_of_lt ha) k p q t
 have hsl:=qH (s:=s) (lo:=some (.int .i64 (at_:Int))) (hi:=some (.int .i64 ((at_+(nR (s.drop at_)).length:Nat):Int))) p7 p7 (by omega) (by omega)
 rw [show at_+(nR (s.drop at_)).length - at_=(nR (s.drop at_)).length by omega,Ov] at hsl
 have hW:=ayA (nR (s.drop at_)) (by omega)
 rw [ao6 _ (Sv _)] at hW
 have hnum:=aIT (nR (s.drop at_)) (by omega)
 have hr0:isWord s[at_]=true→nR (s.drop at_)≠[]:=fun h=>by rw [AV ha,h]; simp
 have h117:=aIS s hs at_ ha hb
 generalize nR (s.drop at_)=r at *
 generalize oW nY (s.drop at_)=x at *
 have ws:IntKind.wrap .i64 ((at_:Int)+r.length - at_)=r.length:=by rw [wrap64] <;> omega
 simp only [H2,af8] at hloop hsl
 simp only [Qc] at hW
 by_cases hl:pI s[at_]=true
 ·have hd:isDigit s[at_]=false:=by
   cases hd:isDigit s[at_] with
   | false=>rfl
   | true=>rw [Ep hd] at hl; cases hl
  by_cases h40:40 < r.length
  ·have h40':(40:Int) < r.length:=by omega
   refine⟨if r∈uH then 3 else 1,at_,0,r,0,fun h=>lD rfl rfl (lA (NA _ _ _ _) ?_),by simp [hl,h40]⟩
   by_cases hm:r∈uH <;>
    simp [m56,hi,lT,lL,lF,putCells,Wc,O9,hl,hd,hloop,hsl,hW,hm,ws,h40',nL,oB,k9,pK,lQ,mM,kN]
  ·have h40':¬(40:Int) < r.length:=by omega
   refine⟨if r∈uH then 3 else 1,at_,0,r,r.length,fun h=>lD rfl rfl (lA (NA _ _ _ _) ?_),?_⟩
   ·by_cases hm:r∈uH <;>
     simp [m56,hi,lT,lL,lF,putCells,Wc,O9,hl,hd,hloop,hsl,hW,hm,ws,h40',nL,oB,k9,pK,lQ,mM,kN]
   ·by_cases hm:r∈uH <;> simp [hl,h40,hm,Token.cells]
 ·have hlf:pI s[at_]=false:=by simpa using hl
  by_cases hd:isDigit s[at_]=true
  ·have hr:=hr0 (by simp [isWord,hd])
   have hn:=hnum hr
   cases hv:rS r with
   | none =>
    have hnI:W8 r=-1:=by simp [W8,hv]
    rw [hnI] at hn
    refine⟨2,at_,-1,[],0,fun h=>lD rfl rfl (lA (NA _ _ _ _) ?_),by simp [hlf,hd]⟩
    simp [m56,hi,lT,lL,lF,putCells,Wc,O9,hlf,hd,hloop,hsl,hn,nL,oB,k9,pK,lQ,mM,kN]
   | some v =>
    have hnI:W8 r=v:=by simp [W8,hv]
    rw [hnI] at hn
    have hneg:¬(v:Int) < 0:=by omega
    refine⟨2,at_,v,[],r.length,fun h=>lD rfl rfl (lA (NA _ _ _ _) ?_),by simp [hlf,hd,Token.cells]⟩
    simp [m56,hi,lT,lL,lF,putCells,Wc,O9,hlf,hd,hloop,hsl,hn,hneg,ws,nL,oB,k9,pK,lQ,mM,kN]
  ·have hdf:isDigit s[at_]=false:=by simpa using hd
   refine⟨4,at_,0,x,x.length,fun h=>lD rfl rfl (lA (NA _ _ _ _) ?_),?_⟩
   ·simp [m56,hi,lT,lL,lF,putCells,Wc,O9,hlf,hdf,h117,nL,oB,k9,pK,lQ,mM,kN]
   ·by_cases hx:x=[]
    ·simp [hlf,hdf,hx]
    ·simp [hlf,hdf,hx,Token.cells]
end
section
open Go Hk
theorem JQ (s:List UInt8) (a:Nat) (h:lV s a < s.length):qN s[lV s a]=false:=by
 fun_induction lV s a with
 | case1 a h1 h2 ih=>exact ih h
 | case2 a h1 h2 h3 ih=>exact ih h
 | case3 a h1 h2 h3=>simpa using h2
 | case4 a h1=>exact absurd h h1
theorem Sk {b:UInt8}(h:qN b=false):b≠32:=by
 intro e; subst e; simp [qN] at h
def HR (e p:Int) (n sz:Nat):kP:=[.front 0 0,.cells [.int .i64 e,.int .i64 p],.front n sz]
theorem OA {e p:Int}{n sz:Nat}{bs:kP}:l_ 3 (.front 0 0::.cells [.int .i64 e,.int .i64 p]::.front n sz::bs)=some [.front 0 0,.cells [.int .i64 e,.int .i64 p],.front n sz]:=by simp [l_]
theorem ah2 (s:List UInt8) (hs:s.length≤65536) (a0:Nat) (ha:a0≤s.length) (out:List Token) (ho:out.length≤a0) :
  (∃(l:List Token) (n sz:Nat),n=l.length∧l.length≤65536∧(sz=4∨l=[]∧sz=0)∧lexFrom s a0 out=(l++[⟨0,s.length,0,[]⟩],0,0) ∧
   mJ (GJ KK 3) ([.str s,.slice [] (.own 0),.ptr 1 0,.slice (out.map Token.cells) (.own 2),.int .i64 (lV s a0:Nat)],HR 0 0 out.length (wZ (out.map Token.cells))) =
    some (.exit 0,[.str s,.slice [] (.own 0),.ptr 1 0,.slice (l.map Token.cells) (.own 2),.int .i64 (s.length:Nat)],HR 0 0 n sz)) ∨
  (∃(p:Nat) (v:kM) (at':Int) (n sz:Nat),lexFrom s a0 out=([],9,p) ∧
   mJ (GJ KK 3) ([.str s,.slice [] (.own 0),.ptr 1 0,.slice (out.map Token.cells) (.own 2),.int .i64 (lV s a0:Nat)],HR 0 0 out.length (wZ (out.map Token.cells))) =
    some (.ret,[.str s,.slice [] .no,.ptr 1 0,v,.int .i64 at'],HR 9 p n sz)):=by
 induction hn:s.length - a0 using Nat.strongRecOn generalizing a0 out with
 | _ n ih =>
  rw [l9]
  have hge:=v_ s a0
  have hle:=QH s a0 ha
  rw [lexFrom]
  by_cases h:lV s a0 < s.length
  ·have h':(lV s a0:Int) < s.length:=by omega
   obtain⟨k,p,q,t,m,hc,hm⟩:=c56 s hs (lV s a0) h (Sk (JQ s a0 h))
   simp only [h,dite_true]
   cases hone:uO (s.drop (lV s a0)) (lV s a0) with
   | none =>
    rw [hone] at hm
    simp only [] at hm
    subst hm
    right
    refine⟨lV s a0,.slice (out.map Token.cells) (.own 2),(lV s a0:Nat),out.length,wZ (out.map Token.cells),rfl,?_⟩
    simp only [Int.ofNat_eq_natCast,ab9] at hc
    simp [GJ,HR,h',hc,lL,lF,lT,putCells,kT,OA,lE]
   | some tn =>
    obtain⟨u,m'⟩:=tn
    rw [hone] at hm
    obtain⟨hcell,rfl⟩:=hm
    obtain⟨hk1,hk2⟩:=DJ hone
    simp only [am4] at hk2
    have hmax:max 1 m=m:=by omega
    have w:IntKind.wrap .i64 ((lV s a0:Int)+m)=(lV s a0:Int)+m:=by rw [wrap64] <;> omega
    have h56:=c55 s hs (lV s a0+m) (by omega)
    have hm0:¬((m:Int)=0):=by omega
    have hm1:¬m=0:=by omega
    rw [hcell] at hc
    have step:GJ KK 3 ([.str s,.slice [] (.own 0),.ptr 1 0,.slice (out.map Token.cells) (.own 2),.int .i64 (lV s a0:Nat)],HR 0 0 out.length (wZ (out.map Token.cells))) =
      some (.normal,[.str s,.slice [] (.own 0),.ptr 1 0,.slice ((out++[u]).map Token.cells) (.own 2),.int .i64 (lV s (lV s a0+m):Nat)],HR 0 0 (out++[u]).length (wZ ((out++[u]).map Token.cells))):=by
     have h1:(out.length+1) * 40≤140737488355328:=by omega
     have h2:out.length+1≤140737488355328:=by omega
     have h3:wZ (out.map Token.cells)=4∨out.length=0∧wZ (out.map Token.cells)=0:=by cases out <;> simp [wZ]
     have hap:mH 4 40 [.front 0 0,.cells [.int .i64 0,.int .i64 0],.front out.length (wZ (out.map Token.cells)),.cells u.cells,.front 1 4] (.slice (out.map Token.cells) (.own 2)) (.slice [u.cells] (.own 4)) =
       some (.slice (out.map Token.cells++[u.cells]) (.own 2),[.front 0 0,.cells [.int .i64 0,.int .i64 0],.front (out.length+1) 4,.cells u.cells,.front 1 4]):=by
      have hall:[u.cells].all (fun r=>r.length == 4)=true:=rfl
      have hget:([.front 0 0,.cells [.int .i64 0,.int .i64 0],.front out.length (wZ (out.map Token.cells)),.cells u.cells,.front 1 4]:kP)[2]?=some (.front out.length (wZ (out.map Token.cells))):=rfl
      simp only [mH,pY,hall,if_true,hget,aj1,ac1,ac6,al6,h1,h2,h3,and_self]
      rfl
     simp only [af8] at h56
     simp only [Token.cells] at hap
     have hfr:=ER (out.map Token.cells) u.cells
     simp only [Token.cells] at hfr
     simp [GJ,HR,h',hc,Token.cells,lL,lF,lT,putCells,hm0,hm1,kY,tR,n_,kM.C4,rowsOf,hap,w,h56,kT,OA,lE,hfr]
    rw [step]
    simp only [ad9,oA,hmax]
    exact ih (s.length - (lV s a0+m)) (by omega) (lV s a0+m) (by omega) (out++[u]) (by simp; omega) rfl
  ·have heq:lV s a0=s.length:=by omega
   left
   simp only [h,dite_false]
   refine⟨out,out.length,wZ (out.map Token.cells),rfl,by omega,by cases out <;> simp [wZ],rfl,?_⟩
   rw [heq]
   simp [GJ,HR,kT,OA,lE]
theorem c28 (s:List UInt8) (h:kP):KK 28 [.str s] h=some (.ret (.tuple [.slice ((oI s).1.map Token.cells) .no,.agg [.int .i64 ((oI s).2.1:Nat),.int .i64 ((oI s).2.2:Nat)]]),h):=by
 refine lD rfl rfl (lA (aAD _ _ _) ?_)
 by_cases hs:65536 < s.length
 ·have hs':(65536:Int) < s.length:=by omega
  simp [m28,lL,lF,lT,putCells,hs',oI,hs,kN]
 ·have hs':¬(65536:Int) < s.length:=by omega
  have hlex:oI s=lexFrom s 0 []:=by simp [oI,hs]
  have h56:=c55 s (by omega) 0 (ah8 _)
  simp only [Int.ofNat_eq_natCast,ab9] at h56
  rw [hlex]
  rcases ah2 s (by omega) 0 (ah8 _) [] (ah8 _) with ⟨l,n,sz,hn,hl,hsz,hlx,hlp⟩ | ⟨p,v,at',n,sz,hlx,hlp⟩
  ·rw [hlx]
   subst hn
   simp only [HR,al1,ac6,wZ] at hlp
   have h1:(l.length+1) * 40≤140737488355328:=by omega
   have h2:l.length+1≤140737488355328:=by omega
   have h3:sz=4∨l.length=0∧sz=0:=by
    rcases hsz with h | ⟨h,h'⟩
    ·exact .inl h
    ·exact .inr ⟨by simp [h],h'⟩
   have hap:mH 4 40 [.front 0 0,.cells [.int .i64 0,.int .i64 0],.front l.length sz,.front 1 4] (.slice (l.map Token.cells) (.own 2)) (.slice [[.int .i64 0,.int .i64 (s.length:Nat),.int .i64 0,.str []]] (.own 3)) =
     some (.slice (l.map Token.cells++[[.int .i64 0,.int .i64 (s.length:Nat),.int .i64 0,.str []]]) (.own 2),[.front 0 0,.cells [.int .i64 0,.int .i64 0],.front (l.length+1) 4,.front 1 4]):=by
    have hget:([.front 0 0,.cells [.int .i64 0,.int .i64 0],.front l.length sz,.front 1 4]:kP)[2]?=some (.front l.length sz):=rfl
    have hall:([[.int .i64 0,.int .i64 (s.length:Nat),.int .i64 0,.str []]]:List (List kM)).all (fun r=>r.length == 4)=true:=rfl
    simp only [mH,pY,hall,if_true,hget,aj1,ac1,ac6,al6,h1,h2,h3,and_self]
    rfl
   simp [m28,lL,lF,lT,putCells,hs',h56,hlp,kY,tR,n_,kM.C4,rowsOf,hap,kN,Token.cells]
  ·rw [hlx]
   simp only [HR,al1,ac6,wZ] at hlp
   simp [m28,lL,lF,lT,putCells,hs',h56,hlp,kN]
end
section
open Go Hk
theorem atY (t:Token):t.cells.length=4:=rfl
theorem akU (t:Token):t.cells.take 4=t.cells:=rfl
theorem Kx (s:List UInt8) (a:Nat) (out:List Token) (ha:a≤s.length):(lexFrom s a out).1.length≤out.length+(s.length - a)+1:=by
 fun_induction lexFrom s a out with
 | case1 a out h h1=>simp
 | case2 a out h t n h1 ih =>
  have:=DJ h1
  simp only [am4] at this
  have hge:=v_ s a
  have:=ih (by omega)
  simp at this
  omega
 | case3 a out h=>simp
theorem Nj (s:List UInt8):(oI s).1.length≤65537:=by
 unfold oI
 split
 ·simp
 ·have:=Kx s 0 [] (ah8 _)
  simp at this
  omega
theorem rI {s:List UInt8}{a a' n:Nat}{out:List Token}{t:Token}(h1:lV s a=a') (h2:a' < s.length) (h3:uO (s.drop a') a'=some (t,n)) {a2:Nat}(h4:a'+max 1 n=a2):lexFrom s a out=lexFrom s a2 (out++[t]):=by
 subst h1; subst h4
 rw [lexFrom,dif_pos h2,h3]
theorem CU {s:List UInt8}{a a':Nat}{out:List Token}(h1:lV s a=a') (h2:a' < s.length) (h3:uO (s.drop a') a'=none):lexFrom s a out=([],9,a'):=by
 subst h1
 rw [lexFrom,dif_pos h2,h3]
theorem BP {s:List UInt8}{a:Nat}{out:List Token}(h1:¬lV s a < s.length):lexFrom s a out=(out++[⟨0,s.length,0,[]⟩],0,0):=by
 rw [lexFrom,dif_neg h1]
theorem zW {s:List UInt8}{a:Nat}{b:UInt8}(h:s[a]?=some b) (hb:qN b=false) (h2:b≠47):lV s a=a:=by
 obtain⟨hlt,he⟩:=ab0.1 h
 rw [lV,dif_pos hlt,he,hb]
 simp only [al9,if_false]
 rw [if_neg]
 intro ht
 have:=(Vt hlt).1 ht
 rw [he] at this
 exact h2 this.1
end
section
open Go Hk

end
section
open Go Hk
theorem Zk {l:List UInt8}{a n:Nat}{t:Token}(h:uO l a=some (t,n)):t.pos=a:=by
 unfold uO at h
 cases l with
 | nil=>cases h
 | cons b r =>
  simp only [] at h
  split at h
  ·split at h
   ·cases h
   ·simp only [ab1,ah1] at h; rw [←h.1]
  ·split at h
   ·split at h
    ·cases h
    ·simp only [ab1,ah1] at h; rw [←h.1]
   ·split at h
    ·cases h
    ·simp only [ab1,ah1] at h; rw [←h.1]
section
variable (s:List UInt8) (A B C:List Token) (L:Nat) (e p f q g o:Int)
end
end
section
open Go Hk
section
variable (s t:List UInt8)
end
end
section
open Go Hk
def CD (n:Nat) (acc:List UInt8):List UInt8:=if n=0 then acc else CD (n / 10) (UInt8.ofNat (48+n % 10)::acc)
termination_by n
decreasing_by omega
def Et (n:Nat):List UInt8:=if n=0 then [48] else CD n []
theorem IX (n:Nat):(UInt8.ofNat (48+n % 10)).toNat=48+n % 10:=by
 rw [UInt8.toNat_ofNat']; omega
theorem af3 (n:Nat):isDigit (UInt8.ofNat (48+n % 10))=true:=by
 unfold isDigit; rw [IX]; simp; omega
theorem aoM (n:Nat):sQ false (UInt8.ofNat (48+n % 10))=some (n % 10):=by
 unfold sQ; rw [if_pos (af3 n),IX]; congr 1; omega
theorem af7 (n:Nat):∀acc,n≤4294967295→oG false (CD n acc) 0=oG false acc n:=by
 induction n using Nat.strongRecOn with
 | _ n ih =>
  intro acc hn
  rw [CD]
  by_cases h:n=0
  ·rw [if_pos h,h]
  ·rw [if_neg h,ih (n / 10) (by omega) _ (by omega)]
   simp only [oG,aoM]
   have e:mR false * (n / 10)+n % 10=n:=by simp only [mR]; simp; omega
   rw [e,if_neg (by omega)]
theorem af5 (n:Nat):∀acc,(∀b∈acc,isDigit b=true)→∀b∈CD n acc,isDigit b=true:=by
 induction n using Nat.strongRecOn with
 | _ n ih =>
  intro acc ha
  rw [CD]
  by_cases h:n=0
  ·rw [if_pos h]; exact ha
  ·rw [if_neg h]
   refine ih (n / 10) (by omega) _ ?_
   intro b hb
   rcases List.mem_cons.1 hb with rfl | hb
   ·exact af3 n
   ·exact ha b hb
theorem PT (n:Nat):∀acc,n≠0→∃c r,CD n acc=c::r∧c≠48:=by
 induction n using Nat.strongRecOn with
 | _ n ih =>
  intro acc h
  rw [CD,if_neg h]
  by_cases h2:n / 10=0
  ·rw [CD,if_pos h2]
   refine⟨_,_,rfl,fun e=>?_⟩
   have:=congrArg UInt8.toNat e
   rw [IX] at this
   simp at this
   omega
  ·exact ih (n / 10) (by omega) _ h2
theorem Hp (n:Nat):∀b∈Et n,isDigit b=true:=by
 unfold Et
 split
 ·intro b hb
  obtain rfl:b=48:=(by simpa using hb)
  decide
 ·exact af5 n [] (by simp)
theorem Rj (n:Nat):∃c r,Et n=c::r:=by
 unfold Et
 split
 ·exact⟨_,_,rfl⟩
 ·obtain⟨c,r,h,_⟩:=PT n [] (by assumption); exact⟨c,r,h⟩
theorem aa0:isDigit 120=false:=by decide
theorem UQ (n:Nat) (hn:n≤4294967295):rS (Et n)=some n:=by
 have hall:=Hp n
 have h2:¬(Et n).take 2=[48,120]:=by
  intro h
  have:(120:UInt8)∈(Et n).take 2:=by rw [h]; simp
  have:=hall _ (List.mem_of_mem_take this)
  rw [aa0] at this; cases this
 unfold rS
 rw [if_neg h2]
 unfold Et
 by_cases h:n=0
 ·rw [if_pos h,if_neg (by simp),h]; decide
 ·rw [if_neg h]
  obtain⟨c,r,e,hc⟩:=PT n [] h
  rw [if_neg (by rw [e]; simp [hc]),af7 n [] hn]
  rfl
theorem N7:∀(d r:List UInt8),(∀b∈d,isDigit b=true)→nR (d++32::r)=d
 | [],r,_=>by
  have:isWord 32=false:=by decide
  simp [nR,al8,this]
 | b::d,r,h=>by
  have hb:isWord b=true:=by simp [isWord,h b (by simp)]
  have ih:=N7 d r (fun x hx=>h x (by simp [hx]))
  unfold nR at ih ⊢
  simp [al8,hb,ih]
theorem N9:∀(d r:List UInt8),(∀b∈d,isWord b=true)→nR (d++32::r)=d
 | [],r,_=>by
  have:isWord 32=false:=by decide
  simp [nR,al8,this]
 | b::d,r,h=>by
  have ih:=N9 d r (fun x hx=>h x (by simp [hx]))
  unfold nR at ih ⊢
  simp [al8,h b (by simp),ih]
theorem XH (hex:Bool):∀(l:List UInt8) (n r:Nat),n≤4294967295→oG hex l n=some r→r≤4294967295
 | [],n,r,hn,h=>by simp only [oG,ab1] at h; omega
 | b::l,n,r,hn,h=>by
  simp only [oG] at h
  split at h
  ·cases h
  ·split at h
   ·cases h
   ·exact XH hex l _ r (by omega) h
theorem W_ {l:List UInt8}{n:Nat}(h:rS l=some n):n≤4294967295:=by
 unfold rS at h
 split at h
 ·split at h
  ·cases h
  ·exact XH true _ 0 n (by omega) h
 ·split at h
  ·cases h
  ·exact XH false _ 0 n (by omega) h
def written (x:Token):List UInt8:=if x.kind=2 then Et x.num else x.text
def HZ (x:Token) (p:Nat):Token:={ x with pos:=p }
def Good (x:Token):Prop:=x.kind≠0∧x.num≤4294967295∧x.text.length≤65536∧(∃b r,written x=b::r∧qN b=false∧b≠47)∧∀rest p,uO (written x++32::rest) p=some (HZ x p,(written x).length)
theorem P9 {b:UInt8}(h:pI b=true):qN b=false∧b≠47:=by
 constructor
 ·simp [pI,qN] at h ⊢; omega
 ·rintro rfl; revert h; decide
theorem af4 {b:UInt8}(h:isDigit b=true):qN b=false∧b≠47:=by
 constructor
 ·simp [isDigit,qN] at h ⊢; omega
 ·rintro rfl; revert h; decide
theorem ac4:∀x∈nY,x.length≤2∧∃b r,x=b::r∧qN b=false∧b≠47∧pI b=false∧isDigit b=false:=by
 intro x hx
 have:nY.all (fun x=>decide (x.length≤2) && (match x with | []=>false | b::_=>!qN b && decide (b≠47) && !pI b && !isDigit b))=true:=by decide
 have h:=List.all_eq_true.1 this x hx
 cases x with
 | nil=>simp at h
 | cons b r =>
  simp only [Bool.and_eq_true,decide_eq_true_eq,Bool.not_eq_true'] at h
  exact⟨h.1,b,r,rfl,h.2.1.1.1,h.2.1.1.2,h.2.1.2,h.2.2⟩
theorem akB {l:List UInt8}(h:oW nY l≠[]):oW nY l∈nY∧l.take (oW nY l).length=oW nY l:=by
 unfold oW at h ⊢
 cases hf:nY.find? (fun x=>decide (l.take x.length=x)) with
 | none=>rw [hf] at h; exact absurd rfl h
 | some x =>
  simp only [Option.getD_some]
  exact⟨List.mem_of_find?_eq_some hf,by simpa using List.find?_some hf⟩
theorem Xo {x:List UInt8}(hx:x∈nY) (rest:List UInt8):oW nY (x++32::rest)=x:=by
 rw [zV]
 have hs:nY=wK++Cm:=by decide
 rw [hs] at hx
 rcases List.mem_append.1 hx with h | h
 ·have hl:x.length=2:=(by decide:∀y∈wK,y.length=2) x h
  have e:(x++32::rest).take 2=x:=by rw [←hl]; simp
  rw [e,if_pos h]
 ·have hl:x.length=1:=(by decide:∀y∈Cm,y.length=1) x h
  have e:(x++32::rest).take 1=x:=by rw [←hl]; simp
  have e2:(x++32::rest).take 2=x++[32]:=by
   match x,hl with
   | [b],_=>rfl
  have h2:¬x++[32]∈wK:=by
   intro h3
   have:=(by decide:∀y∈wK,(32:UInt8) ∉ y) _ h3
   simp at this
  rw [e,e2,if_neg h2,if_pos h]
theorem YC {d:List UInt8}{a n:Nat}{x:Token}(h:uO d a=some (x,n)):Good x∧(x.kind≠2→d.take x.text.length=x.text):=by
 unfold uO at h
 cases d with
 | nil=>cases h
 | cons b r =>
  simp only [] at h
  by_cases h1:pI b=true
  ·rw [if_pos h1] at h
   have hrun:nR (b::r)=b::nR r:=by simp [nR,al8,isWord,h1]
   have hw:=Jt (b::r)
   have htk:=Ov (b::r)
   split at h
   ·cases h
   ·rename_i h40
    simp only [ab1,ah1] at h
    obtain⟨rfl,_⟩:=h
    have hk2:¬(if nR (b::r)∈uH then 3 else 1)=2:=by split <;> omega
    have hwr:written ⟨if nR (b::r)∈uH then 3 else 1,a,0,nR (b::r)⟩=nR (b::r):=by unfold written; rw [if_neg hk2]
    obtain⟨o1,o2⟩:=P9 h1
    refine⟨⟨by show(if _ then _ else _)≠_; split <;> omega,ah8 _,by show(nR (b::r)).length≤_; omega,⟨b,nR r,by rw [hwr,hrun],o1,o2⟩,fun rest p=>?_⟩,fun _=>htk⟩
    rw [hwr]
    have hag:=N9 (nR (b::r)) rest hw
    generalize nR (b::r)=w at *
    subst hrun
    unfold uO
    simp only [ae7] at hag ⊢
    rw [if_pos h1]
    simp only [hag]
    rw [if_neg h40]
    rfl
  ·rw [if_neg h1] at h
   by_cases h2:isDigit b=true
   ·rw [if_pos h2] at h
    split at h
    ·cases h
    ·rename_i m hm
     simp only [ab1,ah1] at h
     obtain⟨rfl,_⟩:=h
     have hm':=W_ hm
     have hwr:written ⟨2,a,m,[]⟩=Et m:=by unfold written; rw [if_pos rfl]
     obtain⟨c,q,hc⟩:=Rj m
     have hcd:isDigit c=true:=Hp m c (by rw [hc]; simp)
     obtain⟨o1,o2⟩:=af4 hcd
     refine⟨⟨by show(2:Nat)≠0; decide,hm',by simp,⟨c,q,by rw [hwr,hc],o1,o2⟩,fun rest p=>?_⟩,fun hk=>absurd rfl hk⟩
     rw [hwr]
     have hag:=N7 (Et m) rest (Hp m)
     have hnum:=UQ m hm'
     rw [hc] at hag hnum ⊢
     unfold uO
     simp only [ae7] at hag ⊢
     rw [if_neg (by rw [Ep hcd]; decide),if_pos hcd,hag,hnum]
     rfl
   ·rw [if_neg h2] at h
    split at h
    ·cases h
    ·rename_i h3
     simp only [ab1,ah1] at h
     obtain⟨rfl,_⟩:=h
     obtain⟨hm,htk⟩:=akB h3
     obtain⟨hl,c,q,hc,o1,o2,o3,o4⟩:=ac4 _ hm
     have hwr:written ⟨4,a,0,oW nY (b::r)⟩=oW nY (b::r):=by unfold written; rw [if_neg (by show ¬(4:Nat)=2; decide)]
     refine⟨⟨by show(4:Nat)≠0; decide,ah8 _,by show(oW nY (b::r)).length≤_; omega,⟨c,q,by rw [hwr,hc],o1,o2⟩,fun rest p=>?_⟩,fun _=>htk⟩
     rw [hwr]
     have hag:=Xo hm rest
     generalize oW nY (b::r)=w at *
     subst hc
     unfold uO
     simp only [ae7] at hag ⊢
     rw [if_neg (by rw [o3]; decide),if_neg (by rw [o4]; decide),hag,if_neg (by simp)]
     rfl
end
section
open Go Hk

end
section
open Go Hk
section
variable (s:List UInt8) (A:List Token) (L:Nat) (T:List UInt8) (ps:List Nat) (sz i:Nat) (x:Token)
end
end
section
open Go Hk
def Fact (s:List UInt8) (x:Token):Prop:=x.pos < s.length∧Good x∧(x.kind≠2→(s.drop x.pos).take x.text.length=x.text)
theorem De (s:List UInt8) (a:Nat) (out:List Token):(∃p,lexFrom s a out=([],9,p)) ∨
  ∃l,lexFrom s a out=(out++l++[⟨0,s.length,0,[]⟩],0,0)∧(∀x∈l,a≤x.pos∧Fact s x)∧l.Pairwise (fun x y=>x.pos < y.pos):=by
 induction hm:s.length - a using Nat.strongRecOn generalizing a out with
 | _ m ih =>
  have hge:=v_ s a
  by_cases hlt:lV s a < s.length
  ·cases h3:uO (s.drop (lV s a)) (lV s a) with
   | none=>exact .inl ⟨_,CU rfl hlt h3⟩
   | some x =>
    obtain⟨y,n⟩:=x
    have hy:=Zk h3
    have hgood:=YC h3
    rcases ih (s.length - (lV s a+max 1 n)) (by omega) (lV s a+max 1 n) (out++[y]) rfl with ⟨p,h⟩ | ⟨l,h,h1,h2⟩
    ·exact .inl ⟨p,(rI rfl hlt h3 rfl).trans h⟩
    ·refine .inr ⟨y::l,(rI rfl hlt h3 rfl).trans (h.trans (by simp)),?_,?_⟩
     ·intro z hz
      rcases List.mem_cons.1 hz with rfl | hz
      ·exact⟨by omega,by omega,hgood.1,by rw [hy]; exact hgood.2⟩
      ·exact⟨by have:=(h1 z hz).1; omega,(h1 z hz).2⟩
     ·refine List.pairwise_cons.2 ⟨fun z hz=>?_,h2⟩
      have:=(h1 z hz).1
      omega
  ·exact .inr ⟨[],(BP hlt).trans (by simp),by simp,List.Pairwise.nil⟩
section
variable (s:List UInt8) (l:List Token)
end
end
section
open Go Hk
section
variable (s:List UInt8)
end
end
end Go.Proofs.YtlddmnojanpdoaaGreatDoor
