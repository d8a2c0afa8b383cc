/-
  The texts LG.M, LG.A, LG.B, LG.C, LG.D, LG.E, LG.F, LG.G, LG.H, LG.I, LG.J, LG.K, LG.N, LG.O, LG.P, LG.Q, LG.R, LG.S, LG.U, LG.V, one behind another. No conditions.
-/
import Derived.Test.YtlddmnojanpdoaaGreatDoorProg
import Derived.Test.YtlddmnojanpdoaaGreatDoorVk3
import Derived.KernelRfl
set_option linter.unusedVariables false
set_option linter.unusedSimpArgs false
set_option linter.all false
open Bool renaming false_eq_true → ac1
open Int renaming cast_ofNat_Int → ad3, natCast_add → ad5
open List renaming cons_append → ae8, drop_eq_getElem_cons → ag8, getD → aa5, getElem?_eq_getElem → ab8, length → aa7, length_cons → ab0, length_drop → am1, length_map → al2, length_nil → ab3, map_nil → al1
open Nat renaming le_refl → ac8, mul_le_mul_right → af2, strongRecOn → am6, zero_add → al0, zero_le → al7
open Option renaming bind_some → ae3
open Option.some renaming injEq → ab1
open Prod.mk renaming injEq → ae5
open UInt8 renaming ofNat → am7
namespace Go.Proofs.YtlddmnojanpdoaaGreatDoor
noncomputable section
open Go Hk
def Pk:List Int:=[0,0,0,0,0,0,0,0,0,1,1,1,1,1,0,0,0,0,0,0,0,0,0,0,0,0,0,0,0,0,0,0,1,0,0,0,0,0,0,0,0,0,0,0,0,0,0,0,0,0,0,0,0,0,0,0,0,0,0,0,0,0,0,0,0,0,0,0,0,0,0,0,0,0,0,0,0,0,0,0,0,0,0,0,0,0,0,0,0,0,0,0,0,0,0,0,0,0,0,0,0,0,0,0,0,0,0,0,0,0,0,0,0,0,0,0,0,0,0,0,0,0,0,0,0,0,0,0,0,0,0,0,0,0,0,0,0,0,0,0,0,0,0,0,0,0,0,0,0,0,0,0,0,0,0,0,0,0,0,0,0,0,0,0,0,0,0,0,0,0,0,0,0,0,0,0,0,0,0,0,0,0,0,0,0,0,0,0,0,0,0,0,0,0,0,0,0,0,0,0,0,0,0,0,0,0,0,0,0,0,0,0,0,0,0,0,0,0,0,0,0,0,0,0,0,0,0,0,0,0,0,0,0,0,0,0,0,0,0,0,0,0,0,0,0,0,0,0,0,0,0,0,0,0,0,0]
def IH:List kH:=Pk.map (.int .u8)
def TI:List Int:=[1,10,100,1000,10000,100000,1000000,10000000,100000000,1000000000,10000000000,100000000000,1000000000000,10000000000000,100000000000000,1000000000000000,10000000000000000,100000000000000000,1000000000000000000,10000000000000000000]
def Zn:List kH:=TI.map (.int .u64)
def akJ:List Nat:=[52,102,103,104,105,106,108,109,110,151,152,153,154,155,180,181,182,183,205,207,208,220,222,223,227,228]
def Zy:List Nat:=[51,52,102,103,104,105,106,107,108,109,110,150,151,152,153,154,155,180,181,182,183,205,206,207,208,220,222,223,227,228,29,57,58,59,60,61,62,63,64,118,119,120,121,122,157,158,159,184,186,209,50,100,101,147,98,32,33,37,68,69,70,71,83,84,85,86,87,88,124,125,126,129,72,161]
def aqQ:List Nat:=[49,28,90,98,99,100,101,55,56,142,143,144,145,146,147,148,149,112,113,114,115,116,117,176,177,178,179,204,25,205,51,102,103,104,105,106,107,108,109,110,150,151,152,153,154,155,180,181,182,183,206,207,208,220,221,222,223,227,228,52,12,26,53,111,156,29,57,58,59,60,61,62,63,64,118,119,120,121,122,157,158,159,184,185,186,209,50]
def tbs:List Nat:=[32,33,37,68,69,70,71,83,84,85,86,87,88,124,125,126,129,14,17]
def mK:AO:={ vecT:=fun f t=>f == 13 && t == 42,frz:=fun f=>f == 13,tb:=fun f=>tbs.contains f,tbt:=fun t=>t == 86,bld:=fun t o n=>t == 86 && o == 0 && n == 5,prm:=fun f=>if f=161 then some (.copyCheck) else if f=72 then some (.bldString 5) else if f=89 then some (.fn N6) else if f=162 then some (.fn W7) else none,glob:=fun g=>if g=0 then some IH else if g=2 then some Zn else none,gsz:=fun g=>if g=2 then some 20 else none,esc:=fun f=>f == 98 || f == 208 || f == 186,grow:=fun f=>f == 157 || f == 159,dfr:=fun f=>f == 25,pure:=fun f=>!(Zy.contains f),pan:=fun f=>akJ.contains f,vmk:=fun f=>!(aqQ.contains f),jt:=fun f=>!(aqQ.contains f),ext:=fun f=>if f=203 then some .indexByte else none }
def FY (K:kX) (m:Nat) (s:List kH×kL):Option R :=
 (fun aB aE aC aA aH=>kM (K 100 [(kH.kN aA)] aH) (fun bF aF=>(kY aA).bind fun aN=>(kJ 1 aN).bind fun aO=>(kO false 1 aF aO).bind fun aP=>(m_ aB).bind fun aQ=>(kR .eql aP aQ).bind fun aR=>kV aR ((kY aA).bind fun aS=>(kJ 4 aS).bind fun aT=>(kO false 1 aF aT).bind fun aU=>(m_ aB).bind fun aV=>(lR [(.int .i64 0),(.int .i64 0),(.int .i64 0),(.str [])] [(0,1),(1,1),(2,1),(3,1)] [(0,(.int .i64 0)),(1,aV)]).bind fun aW=>kS (kU 1 4 [(.int .i64 0),(.int .i64 0),(.int .i64 0),(.str [])] [(0,aW)] aF) fun aX aI=>kS (mB 4 40 aI aU aX) fun aY aJ=>(lR [(.int .i64 0),(.int .i64 0)] [(0,1),(1,1)] []).bind fun aZ=>(kT 2 aJ aC aZ).bind fun aK=>kW m .ret [aB,aY,aC,aA] aK) (kM (K 101 [(kH.kN aA)] aF) (fun a_ aD=>(vS .not a_).bind fun bA=>kV bA ((kY aA).bind fun bB=>(kJ 1 bB).bind fun aG=>(kO false 1 aD aG).bind fun bC=>(lR [(.int .i64 0),(.int .i64 0)] [(0,1),(1,1)] [(0,(.int .i64 9)),(1,bC)]).bind fun bD=>(fun(bE:kH) (aL:kL)=>(kT 2 (lM (k_ [0] [aG]) aD aL) aC bD).bind fun aM=>kW m .ret [aB,bE,aC,aA] aM) (.slice [] (.own (aa7 (nB (k_ [0] [aG]) aD)))) ((nB (k_ [0] [aG]) aD)++[.front 0 0])) (kW m .normal [aB,aE,aC,aA] aD)) (fun _ _=>none))) (fun _ _=>none)) (aa5 s.1 0 .junk) (aa5 s.1 1 .junk) (aa5 s.1 2 .junk) (aa5 s.1 3 .junk) s.2
def m49 (K:kX) (a0:kH) (h0:kL):Option (nH×kL) :=
 ((fun(t1:kH) (h0:kL)=>kS (lO 2 h0 (.agg [(.int .i64 0),(.int .i64 0)])) fun t2 h3=>(m_ a0).bind fun t4=>(kR .gtr t4 (.int .i64 65536)).bind fun t5=>kV t5 ((lR [(.int .i64 0),(.int .i64 0)] [(0,1),(1,1)] [(0,(.int .i64 5))]).bind fun t6=>(fun(t8:kH) (h7:kL)=>(kT 2 h7 t2 t6).bind fun h9=>some (.ret,[t8,t2],h9)) (.slice [] (.own (aa7 h3))) (h3++[.front 0 0])) (kM (K 98 [] h3) (fun aP aN=>kM (K 99 [] aN) (fun aQ aO=>(lR [(.str []),(.int .i64 0),.nilmap,(.slice [] .nil),(.slice [] .nil)] [(0,1),(1,1),(2,1),(3,1),(4,1)] [(0,a0),(2,aP),(3,aQ)]).bind fun aR=>kS (lO 5 aO aR) fun aS aG=>(mL (FY K (aa7 aG)) ([a0,t1,t2,aS],aG)).bind fun aC=>(fun aJ aA aB aK aH=>Ex.lW aC.1 none (fun aL=>Ex.inBlock 0 aL (some (.normal,[aA,aB],aH)) (fun aM=>some (aM,[aA,aB],aH)))) (aa5 aC.2.1 0 .junk) (aa5 aC.2.1 1 .junk) (aa5 aC.2.1 2 .junk) (aa5 aC.2.1 3 .junk) aC.2.2) (fun _ _=>none)) (fun _ _=>none))) (.slice [] (.own (aa7 h0))) (h0++[.front 0 0])).bind fun aF=>(fun aD aE aI=>Ex.mX aF.1 ((kO true 2 aI aE).bind fun aT=>lZ (aa7 h0) (.tuple [aD,aT]) aI)) (aa5 aF.2.1 0 .junk) (aa5 aF.2.1 1 .junk) aF.2.2
theorem ajG (K:kX) (a0:kH) (h0:kL):pD Tryz.prog mK mL K 49 [a0] h0=m49 (lT mK K) a0 h0:=by kernel_rfl
def Ee (K:kX) (m:Nat) (s:List kH×kL):Option R :=
 (fun aA aE aC aD aB aG=>(m_ aA).bind fun aR=>(kR .lss aB aR).bind fun aS=>kV aS (kM (K 56 [(kH.kN aA),(kH.kN aB)] aG) (fun aH aK=>(lK 0 aH).bind fun aT=>(lK 1 aH).bind fun aI=>kS (lO 4 aK (.agg [(.int .i64 0),(.int .i64 0),(.int .i64 0),(.str [])])) fun aJ aL=>(kT 4 aL aJ aT).bind fun aF=>(kR .eql aI (.int .i64 0)).bind fun aU=>kV aU ((lR [(.int .i64 0),(.int .i64 0)] [(0,1),(1,1)] [(0,(.int .i64 9)),(1,aB)]).bind fun aV=>(fun(aW:kH) (aM:kL)=>(kT 2 aM aC aV).bind fun aN=>kW m .ret [aA,aW,aC,aD,aB] aN) (.slice [] (.own (aa7 aF))) (aF++[.front 0 0])) ((kO true 4 aF aJ).bind fun aX=>kS (kU 1 4 [(.int .i64 0),(.int .i64 0),(.int .i64 0),(.str [])] [(0,aX)] aF) fun aY aO=>kS (mB 4 40 aO aD aY) fun aZ aP=>(kR .add aB aI).bind fun a_=>kM (K 55 [(kH.kN aA),(kH.kN a_)] aP) (fun bA aQ=>kW m .normal [aA,aE,aC,aZ,bA] aQ) (fun _ _=>none))) (fun _ _=>none)) (kW m (.exit 0) [aA,aE,aC,aD,aB] aG)) (aa5 s.1 0 .junk) (aa5 s.1 1 .junk) (aa5 s.1 2 .junk) (aa5 s.1 3 .junk) (aa5 s.1 4 .junk) s.2
def m28 (K:kX) (a0:kH) (h0:kL):Option (nH×kL) :=
 ((fun(t1:kH) (h0:kL)=>kS (lO 2 h0 (.agg [(.int .i64 0),(.int .i64 0)])) fun t2 h3=>(m_ a0).bind fun t4=>(kR .gtr t4 (.int .i64 65536)).bind fun t5=>kV t5 ((lR [(.int .i64 0),(.int .i64 0)] [(0,1),(1,1)] [(0,(.int .i64 5)),(1,(.int .i64 0))]).bind fun t6=>(fun(t8:kH) (h7:kL)=>(kT 2 h7 t2 t6).bind fun h9=>some (.ret,[t8,t2],h9)) (.slice [] (.own (aa7 h3))) (h3++[.front 0 0])) ((fun(aS:kH) (aO:kL)=>kM (K 55 [(kH.kN a0),(kH.kN (.int .i64 0))] aO) (fun aT aI=>(mL (Ee K (aa7 aI)) ([a0,t1,t2,aS,aT],aI)).bind fun aB=>(fun aC aD aA aG aL aJ=>Ex.lW aB.1 none (fun aM=>Ex.inBlock 0 aM ((m_ aC).bind fun aU=>(lR [(.int .i64 0),(.int .i64 0),(.int .i64 0),(.str [])] [(0,1),(1,1),(2,1),(3,1)] [(1,aU)]).bind fun aV=>kS (kU 1 4 [(.int .i64 0),(.int .i64 0),(.int .i64 0),(.str [])] [(0,aV)] aJ) fun aW aP=>kS (mB 4 40 aP aG aW) fun aX aQ=>(lR [(.int .i64 0),(.int .i64 0)] [(0,1),(1,1)] []).bind fun aY=>(kT 2 aQ aA aY).bind fun aR=>some (.ret,[aX,aA],aR)) (fun aN=>some (aN,[aD,aA],aJ)))) (aa5 aB.2.1 0 .junk) (aa5 aB.2.1 1 .junk) (aa5 aB.2.1 2 .junk) (aa5 aB.2.1 3 .junk) (aa5 aB.2.1 4 .junk) aB.2.2) (fun _ _=>none)) (.slice [] (.own (aa7 h3))) (h3++[.front 0 0]))) (.slice [] (.own (aa7 h0))) (h0++[.front 0 0])).bind fun aH=>(fun aE aF aK=>Ex.mX aH.1 ((kO true 2 aK aF).bind fun aZ=>lZ (aa7 h0) (.tuple [aE,aZ]) aK)) (aa5 aH.2.1 0 .junk) (aa5 aH.2.1 1 .junk) aH.2.2
theorem ai2 (K:kX) (a0:kH) (h0:kL):pD Tryz.prog mK mL K 28 [a0] h0=m28 (lT mK K) a0 h0:=by kernel_rfl
def I8 (K:kX) (m:Nat) (s:List kH×kL):Option R :=
 (fun aB aC aA aD=>(kR .gtr aA (.int .i64 0)).bind fun aF=>kV aF ((kR .rem aA (.int .i64 10)).bind fun aG=>(kR .add (.int .i64 48) aG).bind fun aH=>(tZ .u8 aH).bind fun aI=>kS (kU 1 1 [(.int .u8 0)] [(0,aI)] aD) fun aJ aE=>(uZ aJ).bind fun aK=>(kR .add aK aC).bind fun aL=>(kR .quo aA (.int .i64 10)).bind fun aM=>kW m .normal [aB,aL,aM] aE) (kW m (.exit 0) [aB,aC,aA] aD)) (aa5 s.1 0 .junk) (aa5 s.1 1 .junk) (aa5 s.1 2 .junk) s.2
def m90 (K:kX) (a0:kH) (h0:kL):Option (nH×kL) :=
 (kS (lO 4 h0 a0) fun t0 h1=>(kJ 0 t0).bind fun t2=>(kO false 1 h1 t2).bind fun t3=>(kR .neq t3 (.int .i64 2)).bind fun t4=>kV t4 ((kJ 3 t0).bind fun t5=>(kO false 1 h1 t5).bind fun t6=>some (.ret,[t6],h1)) ((kJ 2 t0).bind fun t7=>(kO false 1 h1 t7).bind fun t8=>(kR .leq t8 (.int .i64 0)).bind fun t9=>kV t9 (some (.ret,[(.str [48])],h1)) ((kJ 2 t0).bind fun aK=>(kO false 1 h1 aK).bind fun aL=>(mL (I8 K (aa7 h1)) ([(.str []),(.str []),aL],h1)).bind fun aA=>(fun aB aD aG aF=>Ex.lW aA.1 none (fun aH=>Ex.inBlock 0 aH (some (.ret,[aD],aF)) (fun aI=>some (aI,[aB],aF)))) (aa5 aA.2.1 0 .junk) (aa5 aA.2.1 1 .junk) (aa5 aA.2.1 2 .junk) aA.2.2))).bind fun aE=>(fun aC aJ=>Ex.mX aE.1 (lZ (aa7 h0) aC aJ)) (aa5 aE.2.1 0 .junk) aE.2.2
theorem akA (K:kX) (a0:kH) (h0:kL):pD Tryz.prog mK mL K 90 [a0] h0=m90 (lT mK K) a0 h0:=by kernel_rfl
def Ad (K:kX) (m:Nat) (s:List kH×kL):Option R :=
 (fun aA h1=>(kY aA).bind fun t2=>(kJ 1 t2).bind fun t3=>(kO false 1 h1 t3).bind fun t4=>(kY aA).bind fun t5=>(kJ 0 t5).bind fun t6=>(kO false 1 h1 t6).bind fun t7=>(m_ t7).bind fun t8=>(kR .lss t4 t8).bind fun t9=>kV t9 ((((kY aA).bind fun aX=>(kJ 0 aX).bind fun aY=>(kO false 1 h1 aY).bind fun aZ=>(kY aA).bind fun a_=>(kJ 1 a_).bind fun bA=>(kO false 1 h1 bA).bind fun bB=>(mN aZ bB).bind fun bC=>kM (K 143 [(kH.kN bC)] h1) (fun bD aF=>(kV bD ((kY aA).bind fun bE=>(kJ 1 bE).bind fun bF=>(kO false 1 aF bF).bind fun bG=>(kR .add bG (.int .i64 1)).bind fun bH=>(kY aA).bind fun bI=>(kJ 1 bI).bind fun bJ=>(kT 1 aF bJ bH).bind fun aV=>some (.normal,[aA],aV)) ((kY aA).bind fun bK=>(kJ 0 bK).bind fun bL=>(kO false 1 aF bL).bind fun bM=>(kY aA).bind fun bN=>(kJ 1 bN).bind fun bO=>(kO false 1 aF bO).bind fun bP=>(nV bM (some bP) none).bind fun bQ=>kM (K 144 [(kH.kN bQ),(kH.kN (.str [47,47]))] aF) (fun bR aH=>kV bR ((kY aA).bind fun bS=>(kJ 0 bS).bind fun bT=>(kO false 1 aH bT).bind fun bU=>(kY aA).bind fun bV=>(kJ 1 bV).bind fun bW=>(kO false 1 aH bW).bind fun bX=>(nV bU (some bX) none).bind fun bY=>kM (K 145 [(kH.kN bY),(kH.kN (.int .u8 10))] aH) (fun aR aI=>(kR .lss aR (.int .i64 0)).bind fun bZ=>(kV bZ ((kY aA).bind fun b7=>(kJ 0 b7).bind fun b8=>(kO false 1 aI b8).bind fun b9=>(m_ b9).bind fun b_=>(kY aA).bind fun cA=>(kJ 1 cA).bind fun cB=>(kO false 1 aI cB).bind fun cC=>(kR .sub b_ cC).bind fun cD=>some (.normal,[aA,cD],aI)) (some (.normal,[aA,aR],aI))).bind fun aJ=>(fun aB aG aN=>Ex.sO aJ.1 ((kY aB).bind fun cE=>(kJ 1 cE).bind fun cF=>(kO false 1 aN cF).bind fun cG=>(kR .add cG aG).bind fun cH=>(kY aB).bind fun cI=>(kJ 1 cI).bind fun cJ=>(kT 1 aN cJ cH).bind fun aW=>some (.normal,[aB],aW))) (aa5 aJ.2.1 0 .junk) (aa5 aJ.2.1 1 .junk) aJ.2.2) (fun _ _=>none)) (some (.ret,[aA],aH))) (fun _ _=>none))).bind fun aK=>(fun aC aO=>Ex.lW aK.1 (some (.normal,[aC],aO)) (fun aS=>some (aS,[aC],aO))) (aa5 aK.2.1 0 .junk) aK.2.2) (fun _ _=>none)).bind fun aL=>(fun aD aP=>Ex.inBlock 2 aL.1 (some (.normal,[aD],aP)) (fun aT=>some (aT,[aD],aP))) (aa5 aL.2.1 0 .junk) aL.2.2).bind fun aM=>(fun aE aQ=>Ex.inBlock 1 aM.1 (kW m .normal [aE] aQ) (fun aU=>kW m aU [aE] aQ)) (aa5 aM.2.1 0 .junk) aM.2.2) (kW m (.exit 0) [aA] h1)) (aa5 s.1 0 .junk) s.2
def apK (K:kX) (a0:kH) (h0:kL):Option (nH×kL) :=
 ((mL (Ad K (aa7 h0)) ([a0],h0)).bind fun aA=>(fun aD aB=>Ex.lW aA.1 none (fun aE=>Ex.inBlock 0 aE (some (.normal,([]:List kH),aB)) (fun aF=>some (aF,([]:List kH),aB)))) (aa5 aA.2.1 0 .junk) aA.2.2).bind fun aC=>(fun aG=>Ex.mX aC.1 (lZ (aa7 h0) (.tuple []) aG))  aC.2.2
theorem ZV (K:kX) (a0:kH) (h0:kL):pD Tryz.prog mK mL K 100 [a0] h0=apK (lT mK K) a0 h0:=by kernel_rfl
def Dt (K:kX) (m:Nat) (s:List kH×kL):Option R :=
 (fun aD aF aE aB aC aA aG=>(kR .lss aA aC).bind fun aK=>kV aK ((k9 1 aB aA).bind fun aL=>(kO false 1 aG aL).bind fun aI=>(kY aD).bind fun aM=>(kJ 0 aM).bind fun aN=>(kO false 1 aG aN).bind fun aO=>(kY aD).bind fun aP=>(kJ 1 aP).bind fun aQ=>(kO false 1 aG aQ).bind fun aR=>(nV aO (some aR) none).bind fun aS=>kM (K 144 [(kH.kN aS),(kH.kN aI)] aG) (fun aT aH=>kV aT ((kJ 3 aE).bind fun aU=>(kT 1 aH aU aI).bind fun aJ=>kW m (.exit 1) [aD,aF,aE,aB,aC,aA] aJ) ((kR .add aA (.int .i64 1)).bind fun aV=>kW m .normal [aD,aF,aE,aB,aC,aV] aH)) (fun _ _=>none)) (kW m (.exit 1) [aD,aF,aE,aB,aC,aA] aG)) (aa5 s.1 0 .junk) (aa5 s.1 1 .junk) (aa5 s.1 2 .junk) (aa5 s.1 3 .junk) (aa5 s.1 4 .junk) (aa5 s.1 5 .junk) s.2
def Mn (K:kX) (a0:kH) (h0:kL):Option (nH×kL) :=
 ((kY a0).bind fun t0=>(kJ 1 t0).bind fun t1=>(kO false 1 h0 t1).bind fun t2=>(lR [(.int .i64 0),(.int .i64 0),(.int .i64 0),(.str [])] [(0,1),(1,1),(2,1),(3,1)] [(1,t2)]).bind fun t3=>kS (lO 4 h0 (.agg [(.int .i64 0),(.int .i64 0),(.int .i64 0),(.str [])])) fun t4 h5=>(kT 4 h5 t4 t3).bind fun h6=>(kY a0).bind fun t7=>(kJ 0 t7).bind fun t8=>(kO false 1 h6 t8).bind fun t9=>(kY a0).bind fun cV=>(kJ 1 cV).bind fun cW=>(kO false 1 h6 cW).bind fun cX=>(mN t9 cX).bind fun cI=>(kM (K 146 [(kH.kN cI)] h6) (fun cY cE=>(kV cY (kM (K 147 [(kH.kN a0)] cE) (fun cZ cO=>(kJ 3 t4).bind fun c6=>(kT 1 cO c6 cZ).bind fun cP=>(kJ 0 t4).bind fun c7=>(kT 1 cP c7 (.int .i64 1)).bind fun aY=>(kY a0).bind fun c8=>(kJ 2 c8).bind fun c9=>(kO false 1 aY c9).bind fun c_=>(kJ 3 t4).bind fun dA=>(kO false 1 aY dA).bind fun cJ=>bif pN .string cJ then(zA (.int .i64 0) true aY c_ cJ).bind fun cK=>(lK 0 cK).bind fun eI=>(lK 1 cK).bind fun dB=>(kV dB ((kJ 0 t4).bind fun dC=>(kT 1 aY dC (.int .i64 3)).bind fun cQ=>some (.normal,[a0,(.bool false),t4],cQ)) (some (.normal,[a0,(.bool false),t4],aY))).bind fun a_=>(fun aD bA aE aZ=>Ex.sO a_.1 ((kJ 3 aE).bind fun dD=>(kO false 1 aZ dD).bind fun dE=>(m_ dE).bind fun dF=>(kR .gtr dF (.int .i64 40)).bind fun dG=>kV dG (some (.ret,[aD,(.bool false),aE],aZ)) ((kY aD).bind fun dH=>(kJ 1 dH).bind fun dI=>(kO false 1 aZ dI).bind fun dJ=>(kJ 3 aE).bind fun dK=>(kO false 1 aZ dK).bind fun dL=>(m_ dL).bind fun dM=>(kR .add dJ dM).bind fun dN=>(kY aD).bind fun dO=>(kJ 1 dO).bind fun dP=>(kT 1 aZ dP dN).bind fun cR=>some (.normal,[aD,bA,aE],cR)))) (aa5 a_.2.1 0 .junk) (aa5 a_.2.1 1 .junk) (aa5 a_.2.1 2 .junk) a_.2.2 else none) (fun _ _=>none)) (kM (K 148 [(kH.kN cI)] cE) (fun dQ cF=>(kV dQ (kM (K 147 [(kH.kN a0)] cF) (fun cL cS=>kM (K 149 [(kH.kN cL)] cS) (fun cM cG=>(lK 0 cM).bind fun dR=>(lK 1 cM).bind fun dU=>(vS .not dU).bind fun dV=>kV dV (some (.ret,[a0,(.bool false),t4],cG)) ((kJ 0 t4).bind fun dW=>(kT 1 cG dW (.int .i64 2)).bind fun cT=>(kJ 2 t4).bind fun dX=>(kT 1 cT dX dR).bind fun cH=>(kY a0).bind fun dY=>(kJ 1 dY).bind fun dZ=>(kO false 1 cH dZ).bind fun d_=>(m_ cL).bind fun eA=>(kR .add d_ eA).bind fun eB=>(kY a0).bind fun eC=>(kJ 1 eC).bind fun eD=>(kT 1 cH eD eB).bind fun cU=>some (.normal,[a0,(.bool false),t4],cU))) (fun _ _=>none)) (fun _ _=>none)) ((kJ 0 t4).bind fun eE=>(kT 1 cF eE (.int .i64 4)).bind fun bO=>(kY a0).bind fun eF=>(kJ 3 eF).bind fun eG=>(kO false 1 bO eG).bind fun cN=>(mS cN).bind fun eH=>(mL (Dt K (aa7 bO)) ([a0,(.bool false),t4,cN,eH,(.int .i64 0)],bO)).bind fun aC=>(fun aA aN aB bB bC bD aF=>Ex.lW aC.1 none (fun bE=>Ex.inBlock 1 bE ((kJ 3 aB).bind fun bP=>(kO false 1 aF bP).bind fun bQ=>(kR .eql bQ (.str [])).bind fun bR=>kV bR (some (.ret,[aA,(.bool false),aB],aF)) ((kY aA).bind fun bS=>(kJ 1 bS).bind fun bT=>(kO false 1 aF bT).bind fun bU=>(kJ 3 aB).bind fun bV=>(kO false 1 aF bV).bind fun bW=>(m_ bW).bind fun bX=>(kR .add bU bX).bind fun bY=>(kY aA).bind fun bZ=>(kJ 1 bZ).bind fun b7=>(kT 1 aF b7 bY).bind fun bJ=>some (.normal,[aA,aN,aB],bJ))) (fun bF=>some (bF,[aA,aN,aB],aF)))) (aa5 aC.2.1 0 .junk) (aa5 aC.2.1 1 .junk) (aa5 aC.2.1 2 .junk) (aa5 aC.2.1 3 .junk) (aa5 aC.2.1 4 .junk) (aa5 aC.2.1 5 .junk) aC.2.2)).bind fun aH=>(fun aK aO aQ aW=>Ex.lW aH.1 (some (.normal,[aK,aO,aQ],aW)) (fun bG=>some (bG,[aK,aO,aQ],aW))) (aa5 aH.2.1 0 .junk) (aa5 aH.2.1 1 .junk) (aa5 aH.2.1 2 .junk) aH.2.2) (fun _ _=>none))).bind fun aI=>(fun aL aP aR aX=>Ex.lW aI.1 (some (.normal,[aL,aP,aR],aX)) (fun bH=>some (bH,[aL,aP,aR],aX))) (aa5 aI.2.1 0 .junk) (aa5 aI.2.1 1 .junk) (aa5 aI.2.1 2 .junk) aI.2.2) (fun _ _=>none)).bind fun aJ=>(fun aM aT aV aG=>Ex.inBlock 0 aJ.1 ((kY aM).bind fun b8=>(kJ 4 b8).bind fun aS=>(kO false 1 aG aS).bind fun b9=>(kO true 4 aG aV).bind fun b_=>kS (kU 1 4 [(.int .i64 0),(.int .i64 0),(.int .i64 0),(.str [])] [(0,b_)] (nB (k_ [0] [aS]) aG)) fun cA bK=>kS (mB 4 40 (lM (k_ [0] [aS]) aG bK) b9 cA) fun cB bL=>(kY aM).bind fun cC=>(kJ 4 cC).bind fun cD=>(kT 1 bL cD cB).bind fun bM=>some (.ret,[(.bool true)],bM)) (fun bI=>some (bI,[aT],aG))) (aa5 aJ.2.1 0 .junk) (aa5 aJ.2.1 1 .junk) (aa5 aJ.2.1 2 .junk) aJ.2.2).bind fun OE=>(fun aU bN=>Ex.mX OE.1 (lZ (aa7 h0) aU bN)) (aa5 OE.2.1 0 .junk) OE.2.2
theorem ZW (K:kX) (a0:kH) (h0:kL):pD Tryz.prog mK mL K 101 [a0] h0=Mn (lT mK K) a0 h0:=by kernel_rfl
def FZ (K:kX) (m:Nat) (s:List kH×kL):Option R :=
 (fun aA aB aC aE=>(m_ aA).bind fun aJ=>(kR .lss aB aJ).bind fun aD=>(kI true aD (kQ aA aE) (kQ (.tuple []) aE)).bind (kP (fun aK aF=>(kI true aD (kQ aB aF) (kQ (.tuple []) aF)).bind (kP (fun aL aG=>(kI true aD ((mN aK aL).bind fun aM=>kQ aM aG) (kQ (.tuple []) aG)).bind (kP (fun aN aH=>(kI true aD ((kR .neq aN (.int .u8 10)).bind fun aO=>kQ aO aH) (kQ (.tuple []) aH)).bind (kP (fun aP aI=>(lL aD aP (.bool false)).bind fun aQ=>kV aQ ((kR .add aB (.int .i64 1)).bind fun aR=>kW m .normal [aA,aR,aC] aI) (kW m (.exit 2) [aA,aB,aC] aI)) (fun _ _=>none))) (fun _ _=>none))) (fun _ _=>none))) (fun _ _=>none))) (aa5 s.1 0 .junk) (aa5 s.1 1 .junk) (aa5 s.1 2 .junk) s.2
def Bp (K:kX) (m:Nat) (s:List kH×kL):Option R :=
 (fun aB aA aL h3=>(m_ aB).bind fun t4=>(kR .lss aA t4).bind fun t5=>kV t5 (((kR .add aA (.int .i64 1)).bind fun t6=>(m_ aB).bind fun t7=>(kR .lss t6 t7).bind fun t8=>(kI true t8 (kQ aB h3) (kQ (.tuple []) h3)).bind (kP (fun t9 aR=>(kI true t8 (kQ aA aR) (kQ (.tuple []) aR)).bind (kP (fun bG aS=>(kI true t8 ((mN t9 bG).bind fun bH=>kQ bH aS) (kQ (.tuple []) aS)).bind (kP (fun bI aT=>(kI true t8 ((kR .eql bI (.int .u8 47)).bind fun bJ=>kQ bJ aT) (kQ (.tuple []) aT)).bind (kP (fun bK aU=>(lL t8 bK (.bool false)).bind fun aM=>(kI true aM (kQ aB aU) (kQ (.tuple []) aU)).bind (kP (fun bL aV=>(kI true aM (kQ aA aV) (kQ (.tuple []) aV)).bind (kP (fun bM aW=>(kI true aM ((kR .add bM (.int .i64 1)).bind fun bN=>kQ bN aW) (kQ (.tuple []) aW)).bind (kP (fun bO aX=>(kI true aM ((mN bL bO).bind fun bP=>kQ bP aX) (kQ (.tuple []) aX)).bind (kP (fun bQ aY=>(kI true aM ((kR .eql bQ (.int .u8 47)).bind fun bR=>kQ bR aY) (kQ (.tuple []) aY)).bind (kP (fun bS aQ=>(lL aM bS (.bool false)).bind fun bT=>(kV bT ((mL (FZ K (aa7 aQ)) ([aB,aA,aL],aQ)).bind fun aN=>(fun aC aF aI aZ=>Ex.lW aN.1 none (fun bC=>Ex.inBlock 2 bC (some (.normal,[aC,aF,aI],aZ)) (fun bD=>some (bD,[aC,aF,aI],aZ)))) (aa5 aN.2.1 0 .junk) (aa5 aN.2.1 1 .junk) (aa5 aN.2.1 2 .junk) aN.2.2) ((mN aB aA).bind fun bU=>kM (K 112 [(kH.kN bU)] aQ) (fun bV a_=>kV bV ((kR .add aA (.int .i64 1)).bind fun bW=>some (.normal,[aB,bW,aL],a_)) (some (.ret,[aB,aA,aA],a_))) (fun _ _=>none))).bind fun aO=>(fun aD aG aJ bA=>Ex.lW aO.1 (some (.normal,[aD,aG,aJ],bA)) (fun bE=>some (bE,[aD,aG,aJ],bA))) (aa5 aO.2.1 0 .junk) (aa5 aO.2.1 1 .junk) (aa5 aO.2.1 2 .junk) aO.2.2) (fun _ _=>none))) (fun _ _=>none))) (fun _ _=>none))) (fun _ _=>none))) (fun _ _=>none))) (fun _ _=>none))) (fun _ _=>none))) (fun _ _=>none))) (fun _ _=>none))).bind fun aP=>(fun aE aH aK bB=>Ex.inBlock 1 aP.1 (kW m .normal [aE,aH,aK] bB) (fun bF=>kW m bF [aE,aH,aK] bB)) (aa5 aP.2.1 0 .junk) (aa5 aP.2.1 1 .junk) (aa5 aP.2.1 2 .junk) aP.2.2) (kW m (.exit 0) [aB,aA,aL] h3)) (aa5 s.1 0 .junk) (aa5 s.1 1 .junk) (aa5 s.1 2 .junk) s.2
def m55 (K:kX) (a0 a1:kH) (h0:kL):Option (nH×kL) :=
 ((mL (Bp K (aa7 h0)) ([a0,a1,(.int .i64 0)],h0)).bind fun aA=>(fun aG aB aC aF=>Ex.lW aA.1 none (fun aH=>Ex.inBlock 0 aH (some (.ret,[aB],aF)) (fun aI=>some (aI,[aC],aF)))) (aa5 aA.2.1 0 .junk) (aa5 aA.2.1 1 .junk) (aa5 aA.2.1 2 .junk) aA.2.2).bind fun aE=>(fun aD aJ=>Ex.mX aE.1 (lZ (aa7 h0) aD aJ)) (aa5 aE.2.1 0 .junk) aE.2.2
theorem ajK (K:kX) (a0 a1:kH) (h0:kL):pD Tryz.prog mK mL K 55 [a0,a1] h0=m55 (lT mK K) a0 a1 h0:=by kernel_rfl
def F0 (K:kX) (m:Nat) (s:List kH×kL):Option R :=
 (fun aA aC aD aE aF aB aI=>(m_ aA).bind fun aV=>(kR .lss aB aV).bind fun aG=>(kI true aG (kQ aA aI) (kQ (.tuple []) aI)).bind (kP (fun aW aJ=>(kI true aG (kQ aB aJ) (kQ (.tuple []) aJ)).bind (kP (fun aX aK=>(kI true aG ((mN aW aX).bind fun aY=>kQ aY aK) (kQ (.tuple []) aK)).bind (kP (fun aZ aL=>(kI true aG (kM (K 113 [(kH.kN aZ)] aL) (fun a_ aT=>kQ a_ aT) zG) (kQ (.tuple []) aL)).bind (kP (fun bA aM=>(kI true aG (kQ bA aM) (kQ (.tuple []) aM)).bind (kP (fun aH aN=>(kI false aH (kQ aA aN) (kQ (.tuple []) aN)).bind (kP (fun bB aO=>(kI false aH (kQ aB aO) (kQ (.tuple []) aO)).bind (kP (fun bC aP=>(kI false aH ((mN bB bC).bind fun bD=>kQ bD aP) (kQ (.tuple []) aP)).bind (kP (fun bE aQ=>(kI false aH (kM (K 114 [(kH.kN bE)] aQ) (fun bF aU=>kQ bF aU) zG) (kQ (.tuple []) aQ)).bind (kP (fun bG aR=>(kI true aG ((lL aH (.bool true) bG).bind fun bH=>kQ bH aR) (kQ (.tuple []) aR)).bind (kP (fun bI aS=>(lL aG bI (.bool false)).bind fun bJ=>kV bJ ((kR .add aB (.int .i64 1)).bind fun bK=>kW m .normal [aA,aC,aD,aE,aF,bK] aS) (kW m (.exit 0) [aA,aC,aD,aE,aF,aB] aS)) (fun _ _=>none))) (fun _ _=>none))) (fun _ _=>none))) (fun _ _=>none))) (fun _ _=>none))) (fun _ _=>none))) (fun _ _=>none))) (fun _ _=>none))) (fun _ _=>none))) (fun _ _=>none))) (aa5 s.1 0 .junk) (aa5 s.1 1 .junk) (aa5 s.1 2 .junk) (aa5 s.1 3 .junk) (aa5 s.1 4 .junk) (aa5 s.1 5 .junk) s.2
def m56 (K:kX) (a0 a1:kH) (h0:kL):Option (nH×kL) :=
 (kS (lO 4 h0 (.agg [(.int .i64 0),(.int .i64 0),(.int .i64 0),(.str [])])) fun t0 h1=>(lR [(.int .i64 0),(.int .i64 0),(.int .i64 0),(.str [])] [(0,1),(1,1),(2,1),(3,1)] [(1,a1)]).bind fun t2=>kS (lO 4 h1 (.agg [(.int .i64 0),(.int .i64 0),(.int .i64 0),(.str [])])) fun t3 h4=>(kT 4 h4 t3 t2).bind fun h5=>(mN a0 a1).bind fun t6=>kM (K 113 [(kH.kN t6)] h5) (fun t7 h8=>(vS .not t7).bind fun t9=>(kI true t9 (kQ a0 h8) (kQ (.tuple []) h8)).bind (kP (fun b_ bO=>(kI true t9 (kQ a1 bO) (kQ (.tuple []) bO)).bind (kP (fun cA bP=>(kI true t9 ((mN b_ cA).bind fun cB=>kQ cB bP) (kQ (.tuple []) bP)).bind (kP (fun cC bQ=>(kI true t9 (kM (K 114 [(kH.kN cC)] bQ) (fun cD bW=>kQ cD bW) zG) (kQ (.tuple []) bQ)).bind (kP (fun cE bR=>(kI true t9 ((vS .not cE).bind fun cF=>kQ cF bR) (kQ (.tuple []) bR)).bind (kP (fun cG a_=>(lL t9 cG (.bool false)).bind fun cH=>kV cH ((kJ 0 t3).bind fun cI=>(kT 1 a_ cI (.int .i64 4)).bind fun bX=>kM (K 115 [(kH.kN a0),(kH.kN a1)] bX) (fun cJ bY=>(kJ 3 t3).bind fun cK=>(kT 1 bY cK cJ).bind fun aT=>(kO true 4 aT t3).bind fun cL=>(kJ 3 t3).bind fun bL=>(kO false 1 aT bL).bind fun cM=>(m_ cM).bind fun cN=>(kT 4 (nB (k_ [0] [bL]) aT) t0 cL).bind fun bZ=>some (.ret,[t0,cN],(lM (k_ [0] [bL]) aT bZ))) (fun _ _=>none)) ((mL (F0 K (aa7 a_)) ([a0,a1,t0,(.int .i64 0),t3,a1],a_)).bind fun aM=>(fun aN aD aB aH aA aF bS=>Ex.lW aM.1 none (fun bU=>Ex.inBlock 0 bU ((nV aN (some aD) (some aF)).bind fun bM=>(mN aN aD).bind fun cO=>kM (K 114 [(kH.kN cO)] bS) (fun cP bT=>kV cP ((kJ 0 aA).bind fun cQ=>(kT 1 bT cQ (.int .i64 2)).bind fun b7=>kM (K 116 [(kH.kN bM)] b7) (fun cR b8=>(kJ 2 aA).bind fun cS=>(kT 1 b8 cS cR).bind fun aS=>(kJ 2 aA).bind fun cT=>(kO false 1 aS cT).bind fun cU=>(kR .lss cU (.int .i64 0)).bind fun cV=>kV cV ((kO true 4 aS aA).bind fun cW=>(kT 4 aS aB cW).bind fun b9=>some (.ret,[aB,(.int .i64 0)],b9)) ((kO true 4 aS aA).bind fun cX=>(kR .sub aF aD).bind fun bA=>(kT 4 aS aB cX).bind fun aU=>some (.ret,[aB,bA],aU))) (fun _ _=>none)) ((kJ 0 aA).bind fun bB=>(kT 1 bT bB (.int .i64 1)).bind fun aV=>(kJ 3 aA).bind fun bC=>(kT 1 aV bC bM).bind fun aW=>kM (K 117 [(kH.kN (.str [32,102,110,32,112,117,98,32,115,101,99,32,111,117,116,32,108,101,116,32,118,97,114,32,105,102,32,101,108,115,101,32,102,111,114,32,109,97,120,32,114,101,116,117,114,110,32,117,51,50,32,117,56,32,109,97,115,107,32,109,117,108,104,105,32,99,97,114,114,121,32,115,101,108,101,99,116,32,119,111,114,100,32,114,111,114,32])),(kH.kN bM)] aW) (fun bD aQ=>(kV bD ((kJ 0 aA).bind fun bE=>(kT 1 aQ bE (.int .i64 3)).bind fun aX=>some (.normal,[aD,aB,aH,aA,aF],aX)) (some (.normal,[aD,aB,aH,aA,aF],aQ))).bind fun aE=>(fun aG aC bN aI aJ aK=>Ex.sO aE.1 ((kR .sub aJ aG).bind fun bF=>(kR .gtr bF (.int .i64 40)).bind fun bG=>kV bG ((kO true 4 aK aI).bind fun bH=>(kT 4 aK aC bH).bind fun aY=>some (.ret,[aC,(.int .i64 0)],aY)) ((kO true 4 aK aI).bind fun bI=>(kR .sub aJ aG).bind fun bJ=>(kT 4 aK aC bI).bind fun aZ=>some (.ret,[aC,bJ],aZ)))) (aa5 aE.2.1 0 .junk) (aa5 aE.2.1 1 .junk) (aa5 aE.2.1 2 .junk) (aa5 aE.2.1 3 .junk) (aa5 aE.2.1 4 .junk) aE.2.2) (fun _ _=>none))) (fun _ _=>none)) (fun bV=>some (bV,[aB,aH],bS)))) (aa5 aM.2.1 0 .junk) (aa5 aM.2.1 1 .junk) (aa5 aM.2.1 2 .junk) (aa5 aM.2.1 3 .junk) (aa5 aM.2.1 4 .junk) (aa5 aM.2.1 5 .junk) aM.2.2)) (fun _ _=>none))) (fun _ _=>none))) (fun _ _=>none))) (fun _ _=>none))) (fun _ _=>none))) (fun _ _=>none)).bind fun aL=>(fun aO aP aR=>Ex.mX aL.1 ((kO true 4 aR aO).bind fun bK=>lZ (aa7 h0) (.tuple [bK,aP]) aR)) (aa5 aL.2.1 0 .junk) (aa5 aL.2.1 1 .junk) aL.2.2
theorem I6 (K:kX) (a0 a1:kH) (h0:kL):pD Tryz.prog mK mL K 56 [a0,a1] h0=m56 (lT mK K) a0 a1 h0:=by kernel_rfl
def aiM (K:kX) (a0:kH) (h0:kL):Option (nH×kL) :=
 ((kR .eql a0 (.int .u8 32)).bind fun t0=>(kI false t0 (kQ a0 h0) (kQ (.tuple []) h0)).bind (kP (fun t1 h2=>(kI false t0 ((kR .eql t1 (.int .u8 9)).bind fun t3=>kQ t3 h2) (kQ (.tuple []) h2)).bind (kP (fun t4 h5=>(lL t0 (.bool true) t4).bind fun t6=>(kI false t6 (kQ a0 h5) (kQ (.tuple []) h5)).bind (kP (fun t7 h8=>(kI false t6 ((kR .eql t7 (.int .u8 10)).bind fun t9=>kQ t9 h8) (kQ (.tuple []) h8)).bind (kP (fun aH aD=>(lL t6 (.bool true) aH).bind fun aC=>(kI false aC (kQ a0 aD) (kQ (.tuple []) aD)).bind (kP (fun aI aE=>(kI false aC ((kR .eql aI (.int .u8 13)).bind fun aJ=>kQ aJ aE) (kQ (.tuple []) aE)).bind (kP (fun aK aF=>(lL aC (.bool true) aK).bind fun aL=>some (.ret,[aL],aF)) (fun _ _=>none))) (fun _ _=>none))) (fun _ _=>none))) (fun _ _=>none))) (fun _ _=>none))) (fun _ _=>none))).bind fun aB=>(fun aA aG=>Ex.mX aB.1 (lZ (aa7 h0) aA aG)) (aa5 aB.2.1 0 .junk) aB.2.2
theorem aaK (K:kX) (a0:kH) (h0:kL):pD Tryz.prog mK mL K 143 [a0] h0=aiM (lT mK K) a0 h0:=by kernel_rfl
def apW (K:kX) (a0 a1:kH) (h0:kL):Option (nH×kL) :=
 (kM (K 176 [(kH.kN a0),(kH.kN a1)] h0) (fun t0 h1=>some (.ret,[t0],h1)) (fun _ _=>none)).bind fun r2=>(fun aA h4=>Ex.mX r2.1 (lZ (aa7 h0) aA h4)) (aa5 r2.2.1 0 .junk) r2.2.2
theorem aaL (K:kX) (a0 a1:kH) (h0:kL):pD Tryz.prog mK mL K 144 [a0,a1] h0=apW (lT mK K) a0 a1 h0:=by kernel_rfl
def apX (K:kX) (a0 a1:kH) (h0:kL):Option (nH×kL) :=
 (kM (K 177 [(kH.kN a0),(kH.kN a1)] h0) (fun t0 h1=>some (.ret,[t0],h1)) (fun _ _=>none)).bind fun r2=>(fun aA h4=>Ex.mX r2.1 (lZ (aa7 h0) aA h4)) (aa5 r2.2.1 0 .junk) r2.2.2
theorem aaM (K:kX) (a0 a1:kH) (h0:kL):pD Tryz.prog mK mL K 145 [a0,a1] h0=apX (lT mK K) a0 a1 h0:=by kernel_rfl
def aiN (K:kX) (a0:kH) (h0:kL):Option (nH×kL) :=
 ((kR .geq a0 (.int .u8 97)).bind fun t0=>(kI true t0 (kQ a0 h0) (kQ (.tuple []) h0)).bind (kP (fun t1 h2=>(kI true t0 ((kR .leq t1 (.int .u8 122)).bind fun t3=>kQ t3 h2) (kQ (.tuple []) h2)).bind (kP (fun t4 h5=>(lL t0 t4 (.bool false)).bind fun t6=>(kI false t6 (kQ a0 h5) (kQ (.tuple []) h5)).bind (kP (fun t7 h8=>(kI false t6 ((kR .geq t7 (.int .u8 65)).bind fun t9=>kQ t9 h8) (kQ (.tuple []) h8)).bind (kP (fun aM aE=>(kI false t6 (kQ aM aE) (kQ (.tuple []) aE)).bind (kP (fun aC aF=>(kI true aC (kQ a0 aF) (kQ (.tuple []) aF)).bind (kP (fun aN aG=>(kI true aC ((kR .leq aN (.int .u8 90)).bind fun aO=>kQ aO aG) (kQ (.tuple []) aG)).bind (kP (fun aP aH=>(kI false t6 ((lL aC aP (.bool false)).bind fun aQ=>kQ aQ aH) (kQ (.tuple []) aH)).bind (kP (fun aR aI=>(lL t6 (.bool true) aR).bind fun aD=>(kI false aD (kQ a0 aI) (kQ (.tuple []) aI)).bind (kP (fun aS aJ=>(kI false aD ((kR .eql aS (.int .u8 95)).bind fun aT=>kQ aT aJ) (kQ (.tuple []) aJ)).bind (kP (fun aU aK=>(lL aD (.bool true) aU).bind fun aV=>some (.ret,[aV],aK)) (fun _ _=>none))) (fun _ _=>none))) (fun _ _=>none))) (fun _ _=>none))) (fun _ _=>none))) (fun _ _=>none))) (fun _ _=>none))) (fun _ _=>none))) (fun _ _=>none))) (fun _ _=>none))).bind fun aB=>(fun aA aL=>Ex.mX aB.1 (lZ (aa7 h0) aA aL)) (aa5 aB.2.1 0 .junk) aB.2.2
theorem aaN (K:kX) (a0:kH) (h0:kL):pD Tryz.prog mK mL K 146 [a0] h0=aiN (lT mK K) a0 h0:=by kernel_rfl
def Du (K:kX) (m:Nat) (s:List kH×kL):Option R :=
 (fun aA aE aB h6=>(kY aA).bind fun t7=>(kJ 0 t7).bind fun t8=>(kO false 1 h6 t8).bind fun t9=>(m_ t9).bind fun aX=>(kR .lss aB aX).bind fun aC=>(kI true aC (kQ aA h6) (kQ (.tuple []) h6)).bind (kP (fun aY aH=>(kI true aC ((kY aY).bind fun aZ=>kQ aZ aH) (kQ (.tuple []) aH)).bind (kP (fun a_ aI=>(kI true aC ((kJ 0 a_).bind fun bA=>kQ bA aI) (kQ (.tuple []) aI)).bind (kP (fun bB aF=>(kI true aC ((kO false 1 aF bB).bind fun bC=>kQ bC aF) (kQ (.tuple []) aF)).bind (kP (fun bD aJ=>(kI true aC (kQ aB aJ) (kQ (.tuple []) aJ)).bind (kP (fun bE aK=>(kI true aC ((mN bD bE).bind fun bF=>kQ bF aK) (kQ (.tuple []) aK)).bind (kP (fun bG aL=>(kI true aC (kM (K 146 [(kH.kN bG)] aL) (fun bH aV=>kQ bH aV) zG) (kQ (.tuple []) aL)).bind (kP (fun bI aM=>(kI true aC (kQ bI aM) (kQ (.tuple []) aM)).bind (kP (fun aD aN=>(kI false aD (kQ aA aN) (kQ (.tuple []) aN)).bind (kP (fun bJ aO=>(kI false aD ((kY bJ).bind fun bK=>kQ bK aO) (kQ (.tuple []) aO)).bind (kP (fun bL aP=>(kI false aD ((kJ 0 bL).bind fun bM=>kQ bM aP) (kQ (.tuple []) aP)).bind (kP (fun bN aG=>(kI false aD ((kO false 1 aG bN).bind fun bO=>kQ bO aG) (kQ (.tuple []) aG)).bind (kP (fun bP aQ=>(kI false aD (kQ aB aQ) (kQ (.tuple []) aQ)).bind (kP (fun bQ aR=>(kI false aD ((mN bP bQ).bind fun bR=>kQ bR aR) (kQ (.tuple []) aR)).bind (kP (fun bS aS=>(kI false aD (kM (K 148 [(kH.kN bS)] aS) (fun bT aW=>kQ bT aW) zG) (kQ (.tuple []) aS)).bind (kP (fun bU aT=>(kI true aC ((lL aD (.bool true) bU).bind fun bV=>kQ bV aT) (kQ (.tuple []) aT)).bind (kP (fun bW aU=>(lL aC bW (.bool false)).bind fun bX=>kV bX ((kR .add aB (.int .i64 1)).bind fun bY=>kW m .normal [aA,aE,bY] aU) (kW m (.exit 0) [aA,aE,aB] aU)) (fun _ _=>none))) (fun _ _=>none))) (fun _ _=>none))) (fun _ _=>none))) (fun _ _=>none))) (fun _ _=>none))) (fun _ _=>none))) (fun _ _=>none))) (fun _ _=>none))) (fun _ _=>none))) (fun _ _=>none))) (fun _ _=>none))) (fun _ _=>none))) (fun _ _=>none))) (fun _ _=>none))) (fun _ _=>none))) (aa5 s.1 0 .junk) (aa5 s.1 1 .junk) (aa5 s.1 2 .junk) s.2
def apY (K:kX) (a0:kH) (h0:kL):Option (nH×kL) :=
 ((kY a0).bind fun t0=>(kJ 1 t0).bind fun t1=>(kO false 1 h0 t1).bind fun t2=>(mL (Du K (aa7 h0)) ([a0,(.str []),t2],h0)).bind fun aB=>(fun aA aC aE aF=>Ex.lW aB.1 none (fun aH=>Ex.inBlock 0 aH ((kY aA).bind fun aK=>(kJ 0 aK).bind fun aL=>(kO false 1 aF aL).bind fun aM=>(kY aA).bind fun aN=>(kJ 1 aN).bind fun aO=>(kO false 1 aF aO).bind fun aP=>(nV aM (some aP) (some aE)).bind fun aQ=>some (.ret,[aQ],aF)) (fun aI=>some (aI,[aC],aF)))) (aa5 aB.2.1 0 .junk) (aa5 aB.2.1 1 .junk) (aa5 aB.2.1 2 .junk) aB.2.2).bind fun aG=>(fun aD aJ=>Ex.mX aG.1 (lZ (aa7 h0) aD aJ)) (aa5 aG.2.1 0 .junk) aG.2.2
theorem aaO (K:kX) (a0:kH) (h0:kL):pD Tryz.prog mK mL K 147 [a0] h0=apY (lT mK K) a0 h0:=by kernel_rfl
def aiO (K:kX) (a0:kH) (h0:kL):Option (nH×kL) :=
 ((kR .geq a0 (.int .u8 48)).bind fun t0=>(kI true t0 (kQ a0 h0) (kQ (.tuple []) h0)).bind (kP (fun t1 h2=>(kI true t0 ((kR .leq t1 (.int .u8 57)).bind fun t3=>kQ t3 h2) (kQ (.tuple []) h2)).bind (kP (fun t4 h5=>(lL t0 t4 (.bool false)).bind fun t6=>some (.ret,[t6],h5)) (fun _ _=>none))) (fun _ _=>none))).bind fun r7=>(fun aA h9=>Ex.mX r7.1 (lZ (aa7 h0) aA h9)) (aa5 r7.2.1 0 .junk) r7.2.2
theorem aaP (K:kX) (a0:kH) (h0:kL):pD Tryz.prog mK mL K 148 [a0] h0=aiO (lT mK K) a0 h0:=by kernel_rfl
def Cd (K:kX) (m:Nat) (s:List kH×kL):Option R :=
 (fun aD aF aG aC aE aB aA aJ=>(kR .lss aA aB).bind fun aL=>kV aL ((mN aD aA).bind fun aM=>kM (K 179 [(kH.kN aM),(kH.kN aC)] aJ) (fun aK aH=>(lK 0 aK).bind fun aN=>(lK 1 aK).bind fun aO=>(vS .not aO).bind fun aP=>kV aP (kW m .ret [aD,(.int .i64 0),(.bool false),aC,aE,aB,aA] aH) ((kR .mul aC aE).bind fun aQ=>(kR .add aQ aN).bind fun aI=>(kR .gtr aI (.int .i64 4294967295)).bind fun aR=>kV aR (kW m .ret [aD,(.int .i64 0),(.bool false),aC,aI,aB,aA] aH) ((kR .add aA (.int .i64 1)).bind fun aS=>kW m .normal [aD,aF,aG,aC,aI,aB,aS] aH))) (fun _ _=>none)) (kW m (.exit 0) [aD,aF,aG,aC,aE,aB,aA] aJ)) (aa5 s.1 0 .junk) (aa5 s.1 1 .junk) (aa5 s.1 2 .junk) (aa5 s.1 3 .junk) (aa5 s.1 4 .junk) (aa5 s.1 5 .junk) (aa5 s.1 6 .junk) s.2
def Mo (K:kX) (a0:kH) (h0:kL):Option (nH×kL) :=
 (kM (K 178 [(kH.kN a0),(kH.kN (.str [48,120]))] h0) (fun t0 h1=>(lK 0 t0).bind fun t2=>(lK 1 t0).bind fun t3=>(kV t3 ((kR .eql t2 (.str [])).bind fun t4=>(kI false t4 (kQ t2 h1) (kQ (.tuple []) h1)).bind (kP (fun t5 h6=>(kI false t4 ((m_ t5).bind fun t7=>kQ t7 h6) (kQ (.tuple []) h6)).bind (kP (fun t8 h9=>(kI false t4 ((kR .gtr t8 (.int .i64 8)).bind fun a_=>kQ a_ h9) (kQ (.tuple []) h9)).bind (kP (fun bA aQ=>(lL t4 (.bool true) bA).bind fun bB=>kV bB (some (.ret,[a0,(.int .i64 0),(.bool false),(.int .i64 10)],aQ)) (some (.normal,[t2,(.int .i64 0),(.bool false),(.int .i64 16)],aQ))) (fun _ _=>none))) (fun _ _=>none))) (fun _ _=>none))) ((mN a0 (.int .i64 0)).bind fun bC=>(kR .eql bC (.int .u8 48)).bind fun aN=>(kI true aN (kQ a0 h1) (kQ (.tuple []) h1)).bind (kP (fun bD aR=>(kI true aN ((kR .neq bD (.str [48])).bind fun bE=>kQ bE aR) (kQ (.tuple []) aR)).bind (kP (fun bF aS=>(lL aN bF (.bool false)).bind fun bG=>kV bG (some (.ret,[a0,(.int .i64 0),(.bool false),(.int .i64 10)],aS)) (some (.normal,[a0,(.int .i64 0),(.bool false),(.int .i64 10)],aS))) (fun _ _=>none))) (fun _ _=>none)))).bind fun aE=>(fun aB aC aD aJ aM=>Ex.lW aE.1 ((m_ aB).bind fun bH=>(mL (Cd K (aa7 aM)) ([aB,aC,aD,aJ,(.int .i64 0),bH,(.int .i64 0)],aM)).bind fun aA=>(fun aU aF aH aV aK aO aP aT=>Ex.lW aA.1 none (fun aX=>Ex.inBlock 0 aX (some (.ret,[aK,(.bool true)],aT)) (fun aY=>some (aY,[aF,aH],aT)))) (aa5 aA.2.1 0 .junk) (aa5 aA.2.1 1 .junk) (aa5 aA.2.1 2 .junk) (aa5 aA.2.1 3 .junk) (aa5 aA.2.1 4 .junk) (aa5 aA.2.1 5 .junk) (aa5 aA.2.1 6 .junk) aA.2.2) (fun aW=>some (aW,[aC,aD],aM))) (aa5 aE.2.1 0 .junk) (aa5 aE.2.1 1 .junk) (aa5 aE.2.1 2 .junk) (aa5 aE.2.1 3 .junk) aE.2.2) (fun _ _=>none)).bind fun aL=>(fun aG aI aZ=>Ex.mX aL.1 (lZ (aa7 h0) (.tuple [aG,aI]) aZ)) (aa5 aL.2.1 0 .junk) (aa5 aL.2.1 1 .junk) aL.2.2
theorem aaQ (K:kX) (a0:kH) (h0:kL):pD Tryz.prog mK mL K 149 [a0] h0=Mo (lT mK K) a0 h0:=by kernel_rfl
def aw8 (K:kX) (a0:kH) (h0:kL):Option (nH×kL) :=
 ((kR .eql a0 (.int .u8 32)).bind fun t0=>(kI false t0 (kQ a0 h0) (kQ (.tuple []) h0)).bind (kP (fun t1 h2=>(kI false t0 ((kR .eql t1 (.int .u8 9)).bind fun t3=>kQ t3 h2) (kQ (.tuple []) h2)).bind (kP (fun t4 h5=>(lL t0 (.bool true) t4).bind fun t6=>(kI false t6 (kQ a0 h5) (kQ (.tuple []) h5)).bind (kP (fun t7 h8=>(kI false t6 ((kR .eql t7 (.int .u8 10)).bind fun t9=>kQ t9 h8) (kQ (.tuple []) h8)).bind (kP (fun aH aD=>(lL t6 (.bool true) aH).bind fun aC=>(kI false aC (kQ a0 aD) (kQ (.tuple []) aD)).bind (kP (fun aI aE=>(kI false aC ((kR .eql aI (.int .u8 13)).bind fun aJ=>kQ aJ aE) (kQ (.tuple []) aE)).bind (kP (fun aK aF=>(lL aC (.bool true) aK).bind fun aL=>some (.ret,[aL],aF)) (fun _ _=>none))) (fun _ _=>none))) (fun _ _=>none))) (fun _ _=>none))) (fun _ _=>none))) (fun _ _=>none))).bind fun aB=>(fun aA aG=>Ex.mX aB.1 (lZ (aa7 h0) aA aG)) (aa5 aB.2.1 0 .junk) aB.2.2
theorem Z7 (K:kX) (a0:kH) (h0:kL):pD Tryz.prog mK mL K 112 [a0] h0=aw8 (lT mK K) a0 h0:=by kernel_rfl
def aw9 (K:kX) (a0:kH) (h0:kL):Option (nH×kL) :=
 ((kR .geq a0 (.int .u8 97)).bind fun t0=>(kI true t0 (kQ a0 h0) (kQ (.tuple []) h0)).bind (kP (fun t1 h2=>(kI true t0 ((kR .leq t1 (.int .u8 122)).bind fun t3=>kQ t3 h2) (kQ (.tuple []) h2)).bind (kP (fun t4 h5=>(lL t0 t4 (.bool false)).bind fun t6=>(kI false t6 (kQ a0 h5) (kQ (.tuple []) h5)).bind (kP (fun t7 h8=>(kI false t6 ((kR .geq t7 (.int .u8 65)).bind fun t9=>kQ t9 h8) (kQ (.tuple []) h8)).bind (kP (fun aM aE=>(kI false t6 (kQ aM aE) (kQ (.tuple []) aE)).bind (kP (fun aC aF=>(kI true aC (kQ a0 aF) (kQ (.tuple []) aF)).bind (kP (fun aN aG=>(kI true aC ((kR .leq aN (.int .u8 90)).bind fun aO=>kQ aO aG) (kQ (.tuple []) aG)).bind (kP (fun aP aH=>(kI false t6 ((lL aC aP (.bool false)).bind fun aQ=>kQ aQ aH) (kQ (.tuple []) aH)).bind (kP (fun aR aI=>(lL t6 (.bool true) aR).bind fun aD=>(kI false aD (kQ a0 aI) (kQ (.tuple []) aI)).bind (kP (fun aS aJ=>(kI false aD ((kR .eql aS (.int .u8 95)).bind fun aT=>kQ aT aJ) (kQ (.tuple []) aJ)).bind (kP (fun aU aK=>(lL aD (.bool true) aU).bind fun aV=>some (.ret,[aV],aK)) (fun _ _=>none))) (fun _ _=>none))) (fun _ _=>none))) (fun _ _=>none))) (fun _ _=>none))) (fun _ _=>none))) (fun _ _=>none))) (fun _ _=>none))) (fun _ _=>none))) (fun _ _=>none))).bind fun aB=>(fun aA aL=>Ex.mX aB.1 (lZ (aa7 h0) aA aL)) (aa5 aB.2.1 0 .junk) aB.2.2
theorem Z8 (K:kX) (a0:kH) (h0:kL):pD Tryz.prog mK mL K 113 [a0] h0=aw9 (lT mK K) a0 h0:=by kernel_rfl
def axA (K:kX) (a0:kH) (h0:kL):Option (nH×kL) :=
 ((kR .geq a0 (.int .u8 48)).bind fun t0=>(kI true t0 (kQ a0 h0) (kQ (.tuple []) h0)).bind (kP (fun t1 h2=>(kI true t0 ((kR .leq t1 (.int .u8 57)).bind fun t3=>kQ t3 h2) (kQ (.tuple []) h2)).bind (kP (fun t4 h5=>(lL t0 t4 (.bool false)).bind fun t6=>some (.ret,[t6],h5)) (fun _ _=>none))) (fun _ _=>none))).bind fun r7=>(fun aA h9=>Ex.mX r7.1 (lZ (aa7 h0) aA h9)) (aa5 r7.2.1 0 .junk) r7.2.2
theorem Z9 (K:kX) (a0:kH) (h0:kL):pD Tryz.prog mK mL K 114 [a0] h0=axA (lT mK K) a0 h0:=by kernel_rfl
def Tg (K:kX) (a0 a1:kH) (h0:kL):Option (nH×kL) :=
 ((kR .add a1 (.int .i64 2)).bind fun t0=>(m_ a0).bind fun t1=>(kR .leq t0 t1).bind fun t2=>(kI true t2 (kQ a0 h0) (kQ (.tuple []) h0)).bind (kP (fun t3 h4=>(kI true t2 (kQ a1 h4) (kQ (.tuple []) h4)).bind (kP (fun t5 h6=>(kI true t2 (kQ a1 h6) (kQ (.tuple []) h6)).bind (kP (fun t7 h8=>(kI true t2 ((kR .add t7 (.int .i64 2)).bind fun t9=>kQ t9 h8) (kQ (.tuple []) h8)).bind (kP (fun aI aC=>(kI true t2 ((nV t3 (some t5) (some aI)).bind fun aJ=>kQ aJ aC) (kQ (.tuple []) aC)).bind (kP (fun aK aD=>(kI true t2 (kM (K 117 [(kH.kN (.str [32,60,60,32,62,62,32,61,61,32,33,61,32,60,61,32,62,61,32])),(kH.kN aK)] aD) (fun aL aG=>kQ aL aG) zG) (kQ (.tuple []) aD)).bind (kP (fun aM aE=>(lL t2 aM (.bool false)).bind fun aN=>kV aN ((kR .add a1 (.int .i64 2)).bind fun aO=>(nV a0 (some a1) (some aO)).bind fun aP=>some (.ret,[aP],aE)) ((kR .add a1 (.int .i64 1)).bind fun aQ=>(nV a0 (some a1) (some aQ)).bind fun aR=>kM (K 117 [(kH.kN (.str [32,40,32,41,32,123,32,125,32,91,32,93,32,44,32,59,32,58,32,61,32,43,32,45,32,42,32,38,32,124,32,94,32,126,32,33,32,60,32,62,32])),(kH.kN aR)] aE) (fun aS aF=>kV aS ((kR .add a1 (.int .i64 1)).bind fun aT=>(nV a0 (some a1) (some aT)).bind fun aU=>some (.ret,[aU],aF)) (some (.ret,[(.str [])],aF))) (fun _ _=>none))) (fun _ _=>none))) (fun _ _=>none))) (fun _ _=>none))) (fun _ _=>none))) (fun _ _=>none))) (fun _ _=>none))).bind fun aB=>(fun aA aH=>Ex.mX aB.1 (lZ (aa7 h0) aA aH)) (aa5 aB.2.1 0 .junk) aB.2.2
theorem Z_ (K:kX) (a0 a1:kH) (h0:kL):pD Tryz.prog mK mL K 115 [a0,a1] h0=Tg (lT mK K) a0 a1 h0:=by kernel_rfl
def A4 (K:kX) (m:Nat) (s:List kH×kL):Option R :=
 (fun aA aE aC aD aB aV=>(m_ aA).bind fun bH=>(kR .lss aB bH).bind fun bI=>kV bI (((mN aA aB).bind fun bJ=>(tZ .i64 bJ).bind fun bK=>(kR .sub bK (.int .i64 48)).bind fun bF=>(mN aA aB).bind fun bL=>(kR .geq bL (.int .u8 97)).bind fun aS=>(kI true aS (kQ aA aV) (kQ (.tuple []) aV)).bind (kP (fun bM aY=>(kI true aS (kQ aB aY) (kQ (.tuple []) aY)).bind (kP (fun bN aZ=>(kI true aS ((mN bM bN).bind fun bO=>kQ bO aZ) (kQ (.tuple []) aZ)).bind (kP (fun bP a_=>(kI true aS ((kR .leq bP (.int .u8 102)).bind fun bQ=>kQ bQ a_) (kQ (.tuple []) a_)).bind (kP (fun bR bA=>(lL aS bR (.bool false)).bind fun aX=>(kI true aX (kQ aC bA) (kQ (.tuple []) bA)).bind (kP (fun bS bB=>(kI true aX ((kR .eql bS (.int .i64 16)).bind fun bT=>kQ bT bB) (kQ (.tuple []) bB)).bind (kP (fun bU bC=>(lL aX bU (.bool false)).bind fun bV=>(kV bV ((mN aA aB).bind fun bW=>(tZ .i64 bW).bind fun bX=>(kR .sub bX (.int .i64 97)).bind fun bY=>(kR .add bY (.int .i64 10)).bind fun bZ=>some (.normal,[aA,aE,aC,aD,aB,bZ],bC)) ((mN aA aB).bind fun b7=>kM (K 114 [(kH.kN b7)] bC) (fun b8 bD=>(vS .not b8).bind fun b9=>kV b9 (some (.ret,[aA,(.int .i64 (-1)),aC,aD,aB,bF],bD)) (some (.normal,[aA,aE,aC,aD,aB,bF],bD))) (fun _ _=>none))).bind fun aG=>(fun aH aJ aF aM aO aT bE=>Ex.lW aG.1 ((kR .mul aM aF).bind fun b_=>(kR .add b_ aT).bind fun cA=>some (.normal,[aH,aJ,aF,cA,aO],bE)) (fun bG=>some (bG,[aH,aJ,aF,aM,aO],bE))) (aa5 aG.2.1 0 .junk) (aa5 aG.2.1 1 .junk) (aa5 aG.2.1 2 .junk) (aa5 aG.2.1 3 .junk) (aa5 aG.2.1 4 .junk) (aa5 aG.2.1 5 .junk) aG.2.2) (fun _ _=>none))) (fun _ _=>none))) (fun _ _=>none))) (fun _ _=>none))) (fun _ _=>none))) (fun _ _=>none))).bind fun aQ=>(fun aI aK aL aN aP aR=>Ex.inBlock 1 aQ.1 ((kR .add aP (.int .i64 1)).bind fun aW=>kW m .normal [aI,aK,aL,aN,aW] aR) (fun aU=>kW m aU [aI,aK,aL,aN,aP] aR)) (aa5 aQ.2.1 0 .junk) (aa5 aQ.2.1 1 .junk) (aa5 aQ.2.1 2 .junk) (aa5 aQ.2.1 3 .junk) (aa5 aQ.2.1 4 .junk) aQ.2.2) (kW m (.exit 0) [aA,aE,aC,aD,aB] aV)) (aa5 s.1 0 .junk) (aa5 s.1 1 .junk) (aa5 s.1 2 .junk) (aa5 s.1 3 .junk) (aa5 s.1 4 .junk) s.2
def D_ (K:kX) (a0:kH) (h0:kL):Option (nH×kL) :=
 ((m_ a0).bind fun t0=>(kR .geq t0 (.int .i64 2)).bind fun t1=>(kI true t1 (kQ a0 h0) (kQ (.tuple []) h0)).bind (kP (fun t2 h3=>(kI true t1 ((nV t2 none (some (.int .i64 2))).bind fun t4=>kQ t4 h3) (kQ (.tuple []) h3)).bind (kP (fun t5 h6=>(kI true t1 ((kR .eql t5 (.str [48,120])).bind fun t7=>kQ t7 h6) (kQ (.tuple []) h6)).bind (kP (fun t8 h9=>(lL t1 t8 (.bool false)).bind fun bD=>(kV bD ((nV a0 (some (.int .i64 2)) none).bind fun aQ=>(m_ aQ).bind fun bE=>(kR .gtr bE (.int .i64 8)).bind fun bF=>kV bF (some (.ret,[aQ,(.int .i64 (-1)),(.int .i64 16)],h9)) (some (.normal,[aQ,(.int .i64 0),(.int .i64 16)],h9))) ((m_ a0).bind fun bG=>(kR .gtr bG (.int .i64 10)).bind fun aI=>(kI false aI (kQ a0 h9) (kQ (.tuple []) h9)).bind (kP (fun bH aV=>(kI false aI ((m_ bH).bind fun bI=>kQ bI aV) (kQ (.tuple []) aV)).bind (kP (fun bJ aW=>(kI false aI ((kR .gtr bJ (.int .i64 1)).bind fun bK=>kQ bK aW) (kQ (.tuple []) aW)).bind (kP (fun bL aX=>(kI false aI (kQ bL aX) (kQ (.tuple []) aX)).bind (kP (fun aM aY=>(kI true aM (kQ a0 aY) (kQ (.tuple []) aY)).bind (kP (fun bM aZ=>(kI true aM ((mN bM (.int .i64 0)).bind fun bN=>kQ bN aZ) (kQ (.tuple []) aZ)).bind (kP (fun bO a_=>(kI true aM ((kR .eql bO (.int .u8 48)).bind fun bP=>kQ bP a_) (kQ (.tuple []) a_)).bind (kP (fun bQ bA=>(kI false aI ((lL aM bQ (.bool false)).bind fun bR=>kQ bR bA) (kQ (.tuple []) bA)).bind (kP (fun bS bB=>(lL aI (.bool true) bS).bind fun bT=>kV bT (some (.ret,[a0,(.int .i64 (-1)),(.int .i64 10)],bB)) (some (.normal,[a0,(.int .i64 0),(.int .i64 10)],bB))) (fun _ _=>none))) (fun _ _=>none))) (fun _ _=>none))) (fun _ _=>none))) (fun _ _=>none))) (fun _ _=>none))) (fun _ _=>none))) (fun _ _=>none)))).bind fun aJ=>(fun aC aD aK aL=>Ex.lW aJ.1 ((kR .eql aC (.str [])).bind fun bU=>kV bU (some (.ret,[(.int .i64 (-1))],aL)) ((mL (A4 K (aa7 aL)) ([aC,aD,aK,(.int .i64 0),(.int .i64 0)],aL)).bind fun aA=>(fun aS aG aT aB aU aE=>Ex.lW aA.1 none (fun aN=>Ex.inBlock 0 aN ((kR .geq aB (.int .i64 4294967296)).bind fun aR=>kV aR (some (.ret,[(.int .i64 (-1))],aE)) (some (.ret,[aB],aE))) (fun aO=>some (aO,[aG],aE)))) (aa5 aA.2.1 0 .junk) (aa5 aA.2.1 1 .junk) (aa5 aA.2.1 2 .junk) (aa5 aA.2.1 3 .junk) (aa5 aA.2.1 4 .junk) aA.2.2)) (fun bC=>some (bC,[aD],aL))) (aa5 aJ.2.1 0 .junk) (aa5 aJ.2.1 1 .junk) (aa5 aJ.2.1 2 .junk) aJ.2.2) (fun _ _=>none))) (fun _ _=>none))) (fun _ _=>none))).bind fun aF=>(fun aH aP=>Ex.mX aF.1 (lZ (aa7 h0) aH aP)) (aa5 aF.2.1 0 .junk) aF.2.2
theorem aaA (K:kX) (a0:kH) (h0:kL):pD Tryz.prog mK mL K 116 [a0] h0=D_ (lT mK K) a0 h0:=by kernel_rfl
def Ca (K:kX) (m:Nat) (s:List kH×kL):Option R :=
 (fun aC aD aA aB h6=>(m_ aA).bind fun t7=>(kR .add aB t7).bind fun t8=>(m_ aC).bind fun t9=>(kR .leq t8 t9).bind fun aE=>kV aE ((m_ aA).bind fun aF=>(kR .add aB aF).bind fun aG=>(nV aC (some aB) (some aG)).bind fun aH=>(kR .eql aH aA).bind fun aI=>kV aI (kW m .ret [aC,(.bool true),aA,aB] h6) ((kR .add aB (.int .i64 1)).bind fun aJ=>kW m .normal [aC,aD,aA,aJ] h6)) (kW m (.exit 0) [aC,aD,aA,aB] h6)) (aa5 s.1 0 .junk) (aa5 s.1 1 .junk) (aa5 s.1 2 .junk) (aa5 s.1 3 .junk) s.2
def aiG (K:kX) (a0 a1:kH) (h0:kL):Option (nH×kL) :=
 ((kR .add (.str [32]) a1).bind fun t0=>(kR .add t0 (.str [32])).bind fun t1=>(mL (Ca K (aa7 h0)) ([a0,(.bool false),t1,(.int .i64 0)],h0)).bind fun aA=>(fun aF aB aG aH aE=>Ex.lW aA.1 none (fun aI=>Ex.inBlock 0 aI (some (.ret,[(.bool false)],aE)) (fun aJ=>some (aJ,[aB],aE)))) (aa5 aA.2.1 0 .junk) (aa5 aA.2.1 1 .junk) (aa5 aA.2.1 2 .junk) (aa5 aA.2.1 3 .junk) aA.2.2).bind fun aD=>(fun aC aK=>Ex.mX aD.1 (lZ (aa7 h0) aC aK)) (aa5 aD.2.1 0 .junk) aD.2.2
theorem aaB (K:kX) (a0 a1:kH) (h0:kL):pD Tryz.prog mK mL K 117 [a0,a1] h0=aiG (lT mK K) a0 a1 h0:=by kernel_rfl
def aa0 (K:kX) (a0 a1:kH) (h0:kL):Option (nH×kL) :=
 ((m_ a0).bind fun t0=>(m_ a1).bind fun t1=>(kR .geq t0 t1).bind fun t2=>(kI true t2 (kQ a0 h0) (kQ (.tuple []) h0)).bind (kP (fun t3 h4=>(kI true t2 (kQ a1 h4) (kQ (.tuple []) h4)).bind (kP (fun t5 h6=>(kI true t2 ((m_ t5).bind fun t7=>kQ t7 h6) (kQ (.tuple []) h6)).bind (kP (fun t8 h9=>(kI true t2 ((nV t3 none (some t8)).bind fun aG=>kQ aG h9) (kQ (.tuple []) h9)).bind (kP (fun aH aC=>(kI true t2 (kQ a1 aC) (kQ (.tuple []) aC)).bind (kP (fun aI aD=>(kI true t2 ((kR .eql aH aI).bind fun aJ=>kQ aJ aD) (kQ (.tuple []) aD)).bind (kP (fun aK aE=>(lL t2 aK (.bool false)).bind fun aL=>some (.ret,[aL],aE)) (fun _ _=>none))) (fun _ _=>none))) (fun _ _=>none))) (fun _ _=>none))) (fun _ _=>none))) (fun _ _=>none))).bind fun aB=>(fun aA aF=>Ex.mX aB.1 (lZ (aa7 h0) aA aF)) (aa5 aB.2.1 0 .junk) aB.2.2
theorem aa1 (K:kX) (a0 a1:kH) (h0:kL):pD Tryz.prog mK mL K 176 [a0,a1] h0=aa0 (lT mK K) a0 a1 h0:=by kernel_rfl
def ap5 (K:kX) (a0 a1:kH) (h0:kL):Option (nH×kL) :=
 (kM (Vh .indexByte [(kH.kN a0),(kH.kN a1)] h0) (fun t0 h1=>some (.ret,[t0],h1)) (fun _ _=>none)).bind fun r2=>(fun aA h4=>Ex.mX r2.1 (lZ (aa7 h0) aA h4)) (aa5 r2.2.1 0 .junk) r2.2.2
theorem aa2 (K:kX) (a0 a1:kH) (h0:kL):pD Tryz.prog mK mL K 177 [a0,a1] h0=ap5 (lT mK K) a0 a1 h0:=by kernel_rfl
def ap7 (K:kX) (a0 a1:kH) (h0:kL):Option (nH×kL) :=
 (kM (K 204 [(kH.kN a0),(kH.kN a1)] h0) (fun t0 h1=>(lK 0 t0).bind fun t2=>(lK 1 t0).bind fun t3=>some (.ret,[t2,t3],h1)) (fun _ _=>none)).bind fun r4=>(fun aA aB h7=>Ex.mX r4.1 (lZ (aa7 h0) (.tuple [aA,aB]) h7)) (aa5 r4.2.1 0 .junk) (aa5 r4.2.1 1 .junk) r4.2.2
theorem aa3 (K:kX) (a0 a1:kH) (h0:kL):pD Tryz.prog mK mL K 178 [a0,a1] h0=ap7 (lT mK K) a0 a1 h0:=by kernel_rfl
def V9 (K:kX) (a0 a1:kH) (h0:kL):Option (nH×kL) :=
 (kM (K 148 [(kH.kN a0)] h0) (fun t0 h1=>kV t0 ((kR .sub a0 (.int .u8 48)).bind fun t2=>(tZ .i64 t2).bind fun t3=>some (.ret,[t3,(.bool true)],h1)) ((kR .gtr a1 (.int .i64 10)).bind fun t4=>(kI true t4 (kQ a0 h1) (kQ (.tuple []) h1)).bind (kP (fun t5 h6=>(kI true t4 ((kR .geq t5 (.int .u8 97)).bind fun t7=>kQ t7 h6) (kQ (.tuple []) h6)).bind (kP (fun t8 h9=>(lL t4 t8 (.bool false)).bind fun aD=>(kI true aD (kQ a0 h9) (kQ (.tuple []) h9)).bind (kP (fun aH aE=>(kI true aD ((kR .leq aH (.int .u8 102)).bind fun aI=>kQ aI aE) (kQ (.tuple []) aE)).bind (kP (fun aJ aF=>(lL aD aJ (.bool false)).bind fun aK=>kV aK ((kR .sub a0 (.int .u8 97)).bind fun aL=>(tZ .i64 aL).bind fun aM=>(kR .add aM (.int .i64 10)).bind fun aN=>some (.ret,[aN,(.bool true)],aF)) (some (.ret,[(.int .i64 0),(.bool false)],aF))) (fun _ _=>none))) (fun _ _=>none))) (fun _ _=>none))) (fun _ _=>none)))) (fun _ _=>none)).bind fun aC=>(fun aA aB aG=>Ex.mX aC.1 (lZ (aa7 h0) (.tuple [aA,aB]) aG)) (aa5 aC.2.1 0 .junk) (aa5 aC.2.1 1 .junk) aC.2.2
theorem aa4 (K:kX) (a0 a1:kH) (h0:kL):pD Tryz.prog mK mL K 179 [a0,a1] h0=V9 (lT mK K) a0 a1 h0:=by kernel_rfl
def aiX (K:kX) (a0 a1:kH) (h0:kL):Option (nH×kL) :=
 (kM (K 176 [(kH.kN a0),(kH.kN a1)] h0) (fun t0 h1=>(vS .not t0).bind fun t2=>kV t2 (some (.ret,[a0,(.bool false)],h1)) ((m_ a1).bind fun t3=>(nV a0 (some t3) none).bind fun t4=>some (.ret,[t4,(.bool true)],h1))) (fun _ _=>none)).bind fun r5=>(fun aA aB h8=>Ex.mX r5.1 (lZ (aa7 h0) (.tuple [aA,aB]) h8)) (aa5 r5.2.1 0 .junk) (aa5 r5.2.1 1 .junk) r5.2.2
theorem abB (K:kX) (a0 a1:kH) (h0:kL):pD Tryz.prog mK mL K 204 [a0,a1] h0=aiX (lT mK K) a0 a1 h0:=by kernel_rfl
end
section
open Go Hk
noncomputable abbrev KK:kX:=lT mK (Iv Tryz.prog mK)
abbrev Sw (b:UInt8):kH:=.int .u8 (b.toNat:Int)
def isDigit (b:UInt8):Bool:=decide (48≤b.toNat) && decide (b.toNat≤57)
def pF (b:UInt8):Bool:=decide (97≤b.toNat) && decide (b.toNat≤122) || decide (65≤b.toNat) && decide (b.toNat≤90) || decide (b.toNat=95)
def pO (b:UInt8):Bool:=decide (b.toNat=32) || decide (b.toNat=9) || decide (b.toNat=10) || decide (b.toNat=13)
theorem K6 (K:kX) (b:UInt8):aiO K (Sw b) []=some (.ret (.bool (isDigit b)),[]):=by
 by_cases h1:48≤b.toNat <;> by_cases h2:b.toNat≤57
 all_goals
  have h1':((48:Int)≤b.toNat)↔48≤b.toNat:=by omega
  have h2':((b.toNat:Int)≤57)↔b.toNat≤57:=by omega
  simp [aiO,isDigit,h1,h2,h1',h2',kK]
theorem Ka (b:UInt8) (h:kL):KK 148 [Sw b] h=some (.ret (.bool (isDigit b)),h):=lB rfl rfl (lA (aaP _ _ _) (K6 KK b))
theorem J9 (b:UInt8) (h:kL):KK 114 [Sw b] h=some (.ret (.bool (isDigit b)),h):=lB rfl rfl (lA (Z9 _ _ _) (K6 KK b))
theorem K5 (K:kX) (b:UInt8):aiN K (Sw b) []=some (.ret (.bool (pF b)),[]):=by
 have e1:((97:Int)≤b.toNat)↔97≤b.toNat:=by omega
 have e2:((b.toNat:Int)≤122)↔b.toNat≤122:=by omega
 have e3:((65:Int)≤b.toNat)↔65≤b.toNat:=by omega
 have e4:((b.toNat:Int)≤90)↔b.toNat≤90:=by omega
 have e5:((b.toNat:Int)=95)↔b.toNat=95:=by omega
 by_cases h1:97≤b.toNat <;> by_cases h2:b.toNat≤122 <;> by_cases h3:65≤b.toNat <;> by_cases h4:b.toNat≤90 <;> by_cases h5:b.toNat=95 <;>
  simp [aiN,pF,e1,e2,e3,e4,e5,h1,h2,h3,h4,h5,kK]
theorem J_ (b:UInt8) (h:kL):KK 146 [Sw b] h=some (.ret (.bool (pF b)),h):=lB rfl rfl (lA (aaN _ _ _) (K5 KK b))
theorem Pn (b:UInt8) (h:kL):KK 113 [Sw b] h=some (.ret (.bool (pF b)),h):=lB rfl rfl (lA (Z8 _ _ _) (K5 KK b))
theorem K4 (K:kX) (b:UInt8):aiM K (Sw b) []=some (.ret (.bool (pO b)),[]):=by
 have e1:((b.toNat:Int)=32)↔b.toNat=32:=by omega
 have e2:((b.toNat:Int)=9)↔b.toNat=9:=by omega
 have e3:((b.toNat:Int)=10)↔b.toNat=10:=by omega
 have e4:((b.toNat:Int)=13)↔b.toNat=13:=by omega
 by_cases h1:b.toNat=32 <;> by_cases h2:b.toNat=9 <;> by_cases h3:b.toNat=10 <;> by_cases h4:b.toNat=13 <;>
  simp [aiM,pO,e1,e2,e3,e4,h1,h2,h3,h4,kK]
theorem Y_ (b:UInt8) (h:kL):KK 143 [Sw b] h=some (.ret (.bool (pO b)),h):=lB rfl rfl (lA (aaK _ _ _) (K4 KK b))
theorem agL (b:UInt8) (h:kL):KK 112 [Sw b] h=some (.ret (.bool (pO b)),h):=lB rfl rfl (lA (Z7 _ _ _) (K4 KK b))
theorem Tq (K:kX) (s t:List UInt8):aa0 K (.str s) (.str t) []=some (.ret (.bool (decide (s.take t.length=t))),[]):=by
 by_cases h:t.length≤s.length
 ·have h':(t.length:Int)≤s.length:=by omega
  have:=pY (s:=s) (lo:=none) (hi:=some (.int .i64 (t.length:Int))) vV pQ (al7 _) h
  simp [aa0,h',this,kK]
 ·have h':¬(t.length:Int)≤s.length:=by omega
  have h2:¬s.take t.length=t:=fun e=>h (by have:=congrArg aa7 e; simp at this; omega)
  simp [aa0,h',h2,kK]
theorem ag0 (s t:List UInt8) (h:kL):KK 176 [.str s,.str t] h=some (.ret (.bool (decide (s.take t.length=t))),h):=lB rfl rfl (lA (aa1 _ _ _ _) (Tq _ s t))
theorem UT (s t:List UInt8) (h:kL):KK 144 [.str s,.str t] h=some (.ret (.bool (decide (s.take t.length=t))),h) :=
 lB rfl rfl (lA (aaL _ _ _ _) (by simp [apW,ag0,kK]))
theorem av5 (s:List UInt8) (b:UInt8) (h:kL):KK 177 [.str s,Sw b] h=some (.ret (.int .i64 (rJ s b)),h) :=
 lB rfl rfl (lA (aa2 _ _ _ _) (by simp [ap5,Vh,ahM,kK]))
theorem avW (s:List UInt8) (b:UInt8) (h:kL):KK 145 [.str s,Sw b] h=some (.ret (.int .i64 (rJ s b)),h) :=
 lB rfl rfl (lA (aaM _ _ _ _) (by simp [apX,av5,kK]))
def u7 (s t:List UInt8):List UInt8×Bool:=if s.take t.length=t then(s.drop t.length,true) else(s,false)
theorem awA (s t:List UInt8) (h:kL):KK 204 [.str s,.str t] h=some (.ret (.tuple [.str (u7 s t).1,.bool (u7 s t).2]),h) :=
 lB rfl rfl (lA (abB _ _ _ _) (by
  by_cases hp:s.take t.length=t
  ·have hl:t.length≤s.length:=by have:=congrArg aa7 hp; simp at this; omega
   have:=pY (s:=s) (lo:=some (.int .i64 (t.length:Int))) (hi:=none) pQ vV hl (ac8 _)
   have e:(s.drop t.length).take (s.length - t.length)=s.drop t.length:=List.take_of_length_le (by simp)
   simp [aiX,ag0,hp,this,u7,e,kK]
  ·simp [aiX,ag0,hp,u7,kK]))
theorem av6 (s t:List UInt8) (h:kL):KK 178 [.str s,.str t] h=some (.ret (.tuple [.str (u7 s t).1,.bool (u7 s t).2]),h) :=
 lB rfl rfl (lA (aa3 _ _ _ _) (by simp [ap7,awA,kK]))
end
section
open Go Hk
def mM (l:List UInt8):Nat:=(l.takeWhile fun b=>!decide (b=10)).length
theorem w_ (l:List UInt8):mM l≤l.length:=by
 unfold mM; exact(List.takeWhile_prefix _).length_le
theorem G5 (l:List UInt8):rJ l 10=if mM l < l.length then(mM l:Int) else -1:=by
 induction l with
 | nil=>simp [rJ,mM]
 | cons b l ih =>
  have hlen:=w_ l
  by_cases hb:b=10
  ·subst hb; simp [rJ,mM]
  ·have e:mM (b::l)=mM l+1:=by simp [mM,List.takeWhile_cons,hb]
   rw [e]
   simp only [rJ,ih,beq_iff_eq,hb,if_false,ab0]
   by_cases h:mM l < l.length
   ·have h2:mM l+1 < l.length+1:=Nat.succ_lt_succ h
    have:¬((mM l:Int)=-1):=by omega
    simp [h,this]
   ·have h2:¬mM l+1 < l.length+1:=fun h2=>h (Nat.lt_of_succ_lt_succ h2)
    simp [h]
def lN (s:List UInt8) (at_:Nat):Nat :=
 if h:at_ < s.length then
  if pO s[at_] then lN s (at_+1)
  else if (s.drop at_).take 2=[47,47] then lN s (at_+max 1 (mM (s.drop at_))) else at_
 else at_
termination_by s.length - at_
theorem vC (s:List UInt8) (at_:Nat):at_≤lN s at_:=by
 fun_induction lN s at_ <;> omega
theorem Lh (s:List UInt8) (at_:Nat) (h:at_≤s.length):lN s at_≤s.length:=by
 fun_induction lN s at_ with
 | case1 at_ h1 h2 ih=>exact ih (by omega)
 | case2 at_ h1 h2 h3 ih =>
  apply ih
  have:=w_ (s.drop at_)
  simp at this
  omega
 | case3=>omega
 | case4=>omega
theorem CY {l:List UInt8}(h:l.take 2=[47,47]):2≤mM l:=by
 match l,h with
 | a::b::r,h =>
  simp at h
  obtain⟨rfl,rfl⟩:=h
  simp [mM,List.takeWhile_cons]
 | [a],h=>simp at h
 | [],h=>simp at h
def uV:List (List kH)→Nat
 | []=>0
 | _=>4
def HL (W:List (kH×kH)) (sg:List (List kH)) (s:List UInt8) (at_:Int) (out:List (List kH)):kL :=
 [.front 0 0,.cells [.int .i64 0,.int .i64 0],.map W,.cells [.str s,.int .i64 at_,.map 2,.slice sg .no,.slice out (.own 4)],.front out.length (uV out)]
theorem BQ {W:List (kH×kH)}{sg:List (List kH)}{s:List UInt8}{at_:Int}{out:List (List kH)}(hW:W.all (fun e=>e.2.nO 5)=true) :
  l_ 5 [.front 0 0,.cells [.int .i64 0,.int .i64 0],.map W,.cells [.str s,.int .i64 at_,.map 2,.slice sg .no,.slice out (.own 4)],.front out.length (uV out)] =
   some [.front 0 0,.cells [.int .i64 0,.int .i64 0],.map W,.cells [.str s,.int .i64 at_,.map 2,.slice sg .no,.slice out (.own 4)],.front out.length (uV out)]:=by
 simp [l_,o6,hW]
theorem NL {s:List UInt8}{at_:Nat}(h:at_ < s.length):nV (.str s) (some (.int .i64 (at_:Int))) none=some (.str (s.drop at_)):=by
 have:=pY (s:=s) (lo:=some (.int .i64 (at_:Int))) (hi:=none) pQ vV (Nat.le_of_lt h) (ac8 _)
 rw [this,List.take_of_length_le (by simp)]
theorem adU (s:List UInt8) (h:kL):KK 145 [.str s,.int .u8 10] h=some (.ret (.int .i64 (rJ s 10)),h):=avW s 10 h
theorem Te (W:List (kH×kH)) (sg:List (List kH)) (s:List UInt8) (out:List (List kH)) (hW:W.all (fun e=>e.2.nO 5)=true) (hs:s.length≤65536) (at_:Nat) (ha:at_≤s.length) :
  ∃e:Ex,(e=.exit 0∨e=.ret)∧mL (Ad KK 5) ([.ptr 3 0],HL W sg s (at_:Nat) out)=some (e,[.ptr 3 0],HL W sg s (lN s at_:Nat) out):=by
 induction hn:s.length - at_ using am6 generalizing at_ with
 | _ n ih =>
  rw [mY]
  rw [lN]
  by_cases h:at_ < s.length
  ·have hi:s[at_]?=some s[at_]:=ab8 h
   have h':(at_:Int) < s.length:=by omega
   by_cases hb:pO s[at_]=true
   ·have w:IntKind.wrap .i64 ((at_:Int)+1)=(at_:Int)+1:=by rw [wrap64] <;> omega
    have step:Ad KK 5 ([.ptr 3 0],HL W sg s (at_:Nat) out)=some (.normal,[.ptr 3 0],HL W sg s (at_+1:Nat) out):=by
     simp [Ad,HL,h',hi,Y_,hb,w,putCells,kW,BQ hW,lD]
    rw [step]
    simp only [ae3,nP,h,dite_true,hb,if_true]
    exact ih (s.length - (at_+1)) (by omega) (at_+1) (by omega) rfl
   ·have hd:=NL h
    have hbf:pO s[at_]=false:=by simpa using hb
    simp only [h,dite_true,hbf,ac1,if_false]
    by_cases hr:(s.drop at_).take 2=[47,47]
    ·have h2:=CY hr
     have hll:=w_ (s.drop at_)
     have hdl:(s.drop at_).length=s.length - at_:=by simp
     have hix:=G5 (s.drop at_)
     have w:IntKind.wrap .i64 ((at_:Int)+mM (s.drop at_))=(at_:Int)+mM (s.drop at_):=by rw [wrap64] <;> omega
     have step:Ad KK 5 ([.ptr 3 0],HL W sg s (at_:Nat) out)=some (.normal,[.ptr 3 0],HL W sg s (at_+mM (s.drop at_):Nat) out):=by
      by_cases hlt:mM (s.drop at_) < (s.drop at_).length
      ·rw [if_pos hlt] at hix
       have hneg:¬(mM (s.drop at_):Int) < 0:=by omega
       simp [Ad,HL,h',hi,Y_,hbf,hd,UT,hr,adU,hix,hneg,w,putCells,kW,BQ hW,lD]
      ·rw [if_neg hlt] at hix
       have e:mM (s.drop at_)=s.length - at_:=by omega
       have w1:IntKind.wrap .i64 ((s.length:Int) - at_)=(s.length:Int) - at_:=by rw [wrap64] <;> omega
       have w2:IntKind.wrap .i64 ((at_:Int)+((s.length:Int) - at_))=s.length:=by rw [wrap64] <;> omega
       have e2:(at_:Int)+(mM (s.drop at_):Nat)=s.length:=by omega
       simp [Ad,HL,h',hi,Y_,hbf,hd,UT,hr,adU,hix,w1,w2,putCells,kW,BQ hW,lD,e2]
     rw [step]
     simp only [ae3,nP,hr,if_true]
     rw [show max 1 (mM (s.drop at_))=mM (s.drop at_) by omega]
     exact ih (s.length - (at_+mM (s.drop at_))) (by omega) (at_+mM (s.drop at_)) (by omega) rfl
    ·refine⟨.ret,.inr rfl,?_⟩
     simp [Ad,HL,h',hi,Y_,hbf,hd,UT,hr,kW,BQ hW,lD]
  ·refine⟨.exit 0,.inl rfl,?_⟩
   have h':¬(at_:Int) < s.length:=by omega
   simp [Ad,HL,h',h,kW,BQ hW,lD]
theorem avK (W:List (kH×kH)) (sg:List (List kH)) (s:List UInt8) (out:List (List kH)) (hW:W.all (fun e=>e.2.nO 5)=true) (hs:s.length≤65536) (at_:Nat) (ha:at_≤s.length) :
  KK 100 [.ptr 3 0] (HL W sg s (at_:Nat) out)=some (.ret (.tuple []),HL W sg s (lN s at_:Nat) out):=by
 refine lA (ZV _ _ _) ?_
 obtain⟨e,he,hl⟩:=Te W sg s out hW hs at_ ha
 have hlen:(HL W sg s (at_:Nat) out).length=5:=rfl
 simp only [apK,hlen,hl,ae3]
 rcases he with rfl | rfl <;> simp [lZ,HL,BQ hW]
end
section
open Go Hk
def isWord (b:UInt8):Bool:=pF b || isDigit b
def nF (l:List UInt8):List UInt8:=l.takeWhile isWord
theorem Ff (l:List UInt8):(nF l).length≤l.length:=(List.takeWhile_prefix _).length_le
theorem JF (l:List UInt8):l.take (nF l).length=nF l:=by
 unfold nF
 induction l with
 | nil=>rfl
 | cons b l ih=>by_cases h:isWord b=true <;> simp [List.takeWhile_cons,h,ih]
theorem y5 {s:List UInt8}{n:Nat}(h:n < s.length):nF (s.drop n)=if isWord s[n] then s[n]::nF (s.drop (n+1)) else []:=by
 rw [ag8 h]; simp only [nF,List.takeWhile_cons]
def HT (W:List (kH×kH)) (sg:List (List kH)) (s:List UInt8) (at_:Int) (out:List (List kH)) (k p n:Int) (t:List UInt8):kL :=
 [.front 0 0,.cells [.int .i64 0,.int .i64 0],.map W,.cells [.str s,.int .i64 at_,.map 2,.slice sg .no,.slice out (.own 4)],.front out.length (uV out),.cells [.int .i64 k,.int .i64 p,.int .i64 n,.str t]]
theorem Dd {W:List (kH×kH)}{sg:List (List kH)}{s:List UInt8}{at_:Int}{out:List (List kH)}{k p n:Int}{t:List UInt8}(hW:W.all (fun e=>e.2.nO 6)=true) :
  l_ 6 [.front 0 0,.cells [.int .i64 0,.int .i64 0],.map W,.cells [.str s,.int .i64 at_,.map 2,.slice sg .no,.slice out (.own 4)],.front out.length (uV out),.cells [.int .i64 k,.int .i64 p,.int .i64 n,.str t]] =
   some [.front 0 0,.cells [.int .i64 0,.int .i64 0],.map W,.cells [.str s,.int .i64 at_,.map 2,.slice sg .no,.slice out (.own 4)],.front out.length (uV out),.cells [.int .i64 k,.int .i64 p,.int .i64 n,.str t]]:=by
 simp [l_,o6,hW]
section
variable (W:List (kH×kH)) (sg:List (List kH)) (s:List UInt8) (out:List (List kH)) (k p q:Int) (t:List UInt8)
theorem Ti (hW:W.all (fun e=>e.2.nO 6)=true) (hs:s.length≤65536) (at_ n:Nat) (hn:n≤s.length) :
  mL (Du KK 6) ([.ptr 3 0,.str [],.int .i64 (n:Nat)],HT W sg s (at_:Nat) out k p q t)=some (.exit 0,[.ptr 3 0,.str [],.int .i64 (n+(nF (s.drop n)).length:Nat)],HT W sg s (at_:Nat) out k p q t):=by
 induction hm:s.length - n using am6 generalizing n with
 | _ m ih =>
  rw [mY]
  by_cases h:n < s.length
  ·have hi:s[n]?=some s[n]:=ab8 h
   have h':(n:Int) < s.length:=by omega
   by_cases hw:isWord s[n]=true
   ·have w:IntKind.wrap .i64 ((n:Int)+1)=(n:Int)+1:=by rw [wrap64] <;> omega
    have step:Du KK 6 ([.ptr 3 0,.str [],.int .i64 (n:Nat)],HT W sg s (at_:Nat) out k p q t)=some (.normal,[.ptr 3 0,.str [],.int .i64 (n+1:Nat)],HT W sg s (at_:Nat) out k p q t):=by
     cases hl:pF s[n] <;> cases hd:isDigit s[n] <;> simp [isWord,hl,hd] at hw <;>
      simp [Du,HT,h',hi,J_,Ka,hl,hd,w,kW,Dd hW,lD]
    rw [step]
    simp only [ae3,nP]
    rw [ih (s.length - (n+1)) (by omega) (n+1) (by omega) rfl,y5 h,hw]
    simp; omega
   ·have hwf:isWord s[n]=false:=by simpa using hw
    have hl:pF s[n]=false:=by simp [isWord] at hwf; exact hwf.1
    have hd:isDigit s[n]=false:=by simp [isWord] at hwf; exact hwf.2
    rw [y5 h,hwf]
    simp [Du,HT,h',hi,J_,Ka,hl,hd,kW,Dd hW,lD]
  ·have h':¬(n:Int) < s.length:=by omega
   have:s.drop n=[]:=List.drop_eq_nil_of_le (by omega)
   simp [Du,HT,h',this,nF,kW,Dd hW,lD]
theorem avX (hW:W.all (fun e=>e.2.nO 6)=true) (hs:s.length≤65536) (at_:Nat) (ha:at_≤s.length) :
  KK 147 [.ptr 3 0] (HT W sg s (at_:Nat) out k p q t)=some (.ret (.str (nF (s.drop at_))),HT W sg s (at_:Nat) out k p q t):=by
 refine lA (aaO _ _ _) ?_
 have hl:=Ti W sg s out k p q t hW hs at_ at_ ha
 have hrl:=Ff (s.drop at_)
 simp at hrl
 have hsl:=pY (s:=s) (lo:=some (.int .i64 (at_:Int))) (hi:=some (.int .i64 ((at_+(nF (s.drop at_)).length:Nat):Int))) pQ pQ (by omega) (by omega)
 rw [show at_+(nF (s.drop at_)).length - at_=(nF (s.drop at_)).length by omega,JF] at hsl
 simp only [HT,ad5] at hl hsl
 simp [apY,HT,hl,hsl,lZ,Dd hW]
end
def rB (hex:Bool) (b:UInt8):Option Nat :=
 if isDigit b then some (b.toNat - 48) else if hex && (decide (97≤b.toNat) && decide (b.toNat≤102)) then some (b.toNat - 87) else none
theorem XG {n:Int}(h1:0≤n) (h2:n≤255):IntKind.wrap .u8 n=n:=by
 simp [IntKind.wrap,IntKind.signed,IntKind.bits]; omega
theorem afE (b:UInt8):b.toNat < 256:=b.toNat_lt
def mG (hex:Bool):Nat:=if hex then 16 else 10
theorem ag1 (hex:Bool) (b:UInt8) (h:kL):KK 179 [Sw b,.int .i64 (mG hex:Nat)] h=some (.ret (.tuple [.int .i64 ((rB hex b).getD 0:Nat),.bool (rB hex b).isSome]),h):=by
 refine lB rfl rfl (lA (aa4 _ _ _ _) ?_)
 have hb:=afE b
 by_cases hd:isDigit b=true
 ·have hr:48≤b.toNat∧b.toNat≤57:=by simpa [isDigit] using hd
  have w1:IntKind.wrap .u8 ((b.toNat:Int) - 48)=(b.toNat:Int) - 48:=XG (by omega) (by omega)
  have w2:IntKind.wrap .i64 ((b.toNat:Int) - 48)=((b.toNat - 48:Nat):Int):=by rw [wrap64] <;> omega
  simp [V9,Ka,hd,w1,w2,rB,kK]
 ·have hdf:isDigit b=false:=by simpa using hd
  have e1:((97:Int)≤b.toNat)↔97≤b.toNat:=by omega
  have e2:((b.toNat:Int)≤102)↔b.toNat≤102:=by omega
  cases hex with
  | false=>simp [V9,Ka,hdf,mG,rB,kK]
  | true =>
   by_cases h1:97≤b.toNat <;> by_cases h2:b.toNat≤102
   ·have w1:IntKind.wrap .u8 ((b.toNat:Int) - 97)=(b.toNat:Int) - 97:=XG (by omega) (by omega)
    have w2:IntKind.wrap .i64 ((b.toNat:Int) - 97)=(b.toNat:Int) - 97:=by rw [wrap64] <;> omega
    have w3:IntKind.wrap .i64 ((b.toNat:Int) - 97+10)=((b.toNat - 87:Nat):Int):=by rw [wrap64] <;> omega
    simp [V9,Ka,hdf,mG,rB,e1,e2,h1,h2,w1,w2,w3,kK]
   all_goals simp [V9,Ka,hdf,mG,rB,e1,e2,h1,h2,kK]
def nN (hex:Bool):List UInt8→Nat→Option Nat
 | [],n=>some n
 | b::r,n=>match rB hex b with
  | none=>none
  | some v=>if 4294967295 < mG hex * n+v then none else nN hex r (mG hex * n+v)
theorem T0 {hex:Bool}{b:UInt8}{v:Nat}(h:rB hex b=some v):v≤15:=by
 unfold rB at h
 split at h
 ·rename_i hd; cases h; simp [isDigit] at hd; omega
 ·split at h
  ·rename_i hd; cases h; simp at hd; omega
  ·cases h
theorem K7 (hex:Bool) (s:List UInt8) (hs:s.length≤65536) (i n:Nat) (hi:i≤s.length) (hn:n≤4294967295) :
  ∃n' j:Nat,mL (Cd KK 0) ([.str s,.int .i64 0,.bool false,.int .i64 (mG hex:Nat),.int .i64 (n:Nat),.int .i64 (s.length:Nat),.int .i64 (i:Nat)],[]) =
   some (match nN hex (s.drop i) n with
    | some r=>(.exit 0,[.str s,.int .i64 0,.bool false,.int .i64 (mG hex:Nat),.int .i64 (r:Nat),.int .i64 (s.length:Nat),.int .i64 (j:Nat)],[])
    | none=>(.ret,[.str s,.int .i64 0,.bool false,.int .i64 (mG hex:Nat),.int .i64 (n':Nat),.int .i64 (s.length:Nat),.int .i64 (j:Nat)],[])):=by
 induction hm:s.length - i using am6 generalizing i n with
 | _ m ih =>
  rw [mY]
  by_cases h:i < s.length
  ·have hx:s[i]?=some s[i]:=ab8 h
   have h':(i:Int) < s.length:=by omega
   have hb:mG hex≤16:=by cases hex <;> simp [mG]
   rw [ag8 h]
   cases hv:rB hex s[i] with
   | none =>
    refine⟨n,i,?_⟩
    simp [Cd,h',hx,ag1,hv,nN,mZ]
   | some v =>
    have hvl:=T0 hv
    have hprod:mG hex * n≤16 * 4294967295:=Nat.mul_le_mul hb hn
    have w1:IntKind.wrap .i64 ((mG hex:Int) * n)=(mG hex:Int) * n:=by
     rw [wrap64]
     ·have:=Int.natCast_nonneg (mG hex * n); rw [Int.natCast_mul] at this; omega
     ·have:((mG hex * n:Nat):Int)≤16 * 4294967295:=by omega
      rw [Int.natCast_mul] at this; omega
    have w2:IntKind.wrap .i64 ((mG hex:Int) * n+v)=(mG hex:Int) * n+v:=by
     rw [wrap64]
     ·have:=Int.natCast_nonneg (mG hex * n); rw [Int.natCast_mul] at this; omega
     ·have:((mG hex * n:Nat):Int)≤16 * 4294967295:=by omega
      rw [Int.natCast_mul] at this; omega
    have w3:IntKind.wrap .i64 ((i:Int)+1)=(i:Int)+1:=by rw [wrap64] <;> omega
    by_cases hbig:4294967295 < mG hex * n+v
    ·have hbig':(4294967295:Int) < (mG hex:Int) * n+v:=by
      have:(4294967295:Int) < ((mG hex * n+v:Nat):Int):=by omega
      rwa [ad5,Int.natCast_mul] at this
     refine⟨mG hex * n+v,i,?_⟩
     simp [Cd,h',hx,ag1,hv,nN,hbig,hbig',w1,w2,mZ]
    ·have hbig':¬(4294967295:Int) < (mG hex:Int) * n+v:=by
      have:¬(4294967295:Int) < ((mG hex * n+v:Nat):Int):=by omega
      rwa [ad5,Int.natCast_mul] at this
     obtain⟨n',j,hl⟩:=ih (s.length - (i+1)) (by omega) (i+1) (mG hex * n+v) (by omega) (by omega) rfl
     refine⟨n',j,?_⟩
     have step:Cd KK 0 ([.str s,.int .i64 0,.bool false,.int .i64 (mG hex:Nat),.int .i64 (n:Nat),.int .i64 (s.length:Nat),.int .i64 (i:Nat)],[]) =
       some (.normal,[.str s,.int .i64 0,.bool false,.int .i64 (mG hex:Nat),.int .i64 (mG hex * n+v:Nat),.int .i64 (s.length:Nat),.int .i64 (i+1:Nat)],[]):=by
      simp [Cd,h',hx,ag1,hv,hbig',w1,w2,w3,mZ]
     rw [step]
     simp only [ae3,nP]
     rw [hl]
     simp only [nN,hv,hbig,if_false]
  ·have h':¬(i:Int) < s.length:=by omega
   have:s.drop i=[]:=List.drop_eq_nil_of_le (by omega)
   refine⟨n,i,?_⟩
   simp [Cd,h',this,nN,mZ]
def qR (s:List UInt8):Option Nat :=
 if s.take 2=[48,120] then(if s.drop 2=[]∨8 < (s.drop 2).length then none else nN true (s.drop 2) 0)
 else if s[0]?=some 48∧s≠[48] then none else nN false s 0
theorem avY (s:List UInt8) (hs:s.length≤65536) (h0:s≠[]) (h:kL):KK 149 [.str s] h=some (.ret (.tuple [.int .i64 ((qR s).getD 0:Nat),.bool (qR s).isSome]),h):=by
 refine lB rfl rfl (lA (aaQ _ _ _) ?_)
 have cut:=av6 s [48,120] []
 by_cases hp:s.take 2=[48,120]
 ·have hcp:u7 s [48,120]=(s.drop 2,true):=by simp [u7,hp]
  rw [hcp] at cut
  have hn:qR s=if s.drop 2=[]∨8 < (s.drop 2).length then none else nN true (s.drop 2) 0:=by simp only [qR,hp,if_true]
  have hrl:(s.drop 2).length≤65536:=by simp; omega
  rw [hn]
  simp only [] at cut
  generalize s.drop 2=r at *
  by_cases he:r=[]
  ·subst he
   simp [Mo,cut,kK]
  ·by_cases hl:8 < r.length
   ·have hl':(8:Int) < r.length:=by omega
    simp [Mo,cut,he,hl,hl',kK]
   ·have hl':¬(8:Int) < r.length:=by omega
    obtain⟨n',j,hloop⟩:=K7 true r hrl 0 0 (by omega) (by omega)
    simp only [mG,if_true,List.drop_zero,Int.ofNat_eq_natCast,ad3] at hloop
    cases hd:nN true r 0 with
    | none=>rw [hd] at hloop; simp [Mo,cut,he,hl,hl',hloop,hd,kK]
    | some v=>rw [hd] at hloop; simp [Mo,cut,he,hl,hl',hloop,hd,kK]
 ·have hcp:u7 s [48,120]=(s,false):=by simp [u7,hp]
  rw [hcp] at cut
  simp only [] at cut
  obtain⟨b,r,hbr⟩:∃b r,s=b::r:=by cases s with | nil=>exact absurd rfl h0 | cons b r=>exact⟨b,r,rfl⟩
  have hs0:s[0]?=some b:=by rw [hbr]; rfl
  have hn:qR s=if s[0]?=some 48∧s≠[48] then none else nN false s 0:=by simp only [qR,hp,if_false]
  obtain⟨n',j,hloop⟩:=K7 false s hs 0 0 (by omega) (by omega)
  simp only [mG,ac1,if_false,List.drop_zero,Int.ofNat_eq_natCast,ad3] at hloop
  by_cases hb:b=48
  ·subst hb
   by_cases h1:s=[48]
   ·have hn2:qR s=nN false s 0:=by rw [hn,if_neg (by simp [h1])]
    rw [hn2]
    have ht:((48:UInt8).toNat:Int)=48:=rfl
    have hd:nN false [48] 0=some 0:=by decide
    subst h1
    rw [hd] at hloop ⊢
    simp only [ab0,ab3] at hloop
    simp at hloop
    simp [Mo,cut,ht,hloop,kK]
   ·have hn2:qR s=none:=by rw [hn,if_pos ⟨hs0,h1⟩]
    rw [hn2]
    have ht:((48:UInt8).toNat:Int)=48:=rfl
    simp [Mo,cut,hs0,h1,ht,kK]
  ·have hb':¬((b.toNat:Int)=48):=fun h=>hb (UInt8.toNat_inj.1 (by simpa using (by omega:b.toNat=48)))
   have hn2:qR s=nN false s 0:=by rw [hn,if_neg (by simp [hs0,hb])]
   rw [hn2]
   cases hd:nN false s 0 with
   | none=>rw [hd] at hloop; simp [Mo,cut,hs0,hb',hloop,kK]
   | some v=>rw [hd] at hloop; simp [Mo,cut,hs0,hb',hloop,kK]
end
section
open Go Hk
def tK:List (List UInt8):=[[102,110],[112,117,98],[115,101,99],[111,117,116],[108,101,116],[118,97,114],[105,102],[101,108,115,101],[102,111,114],[109,97,120],[114,101,116,117,114,110],[117,51,50],[117,56],[109,97,115,107],[109,117,108,104,105],[99,97,114,114,121],[115,101,108,101,99,116],[119,111,114,100],[114,111,114]]
def nI:List (List UInt8):=[[60,60],[62,62],[61,61],[33,61],[60,61],[62,61],[40],[41],[123],[125],[91],[93],[44],[59],[58],[61],[43],[45],[42],[38],[124],[94],[126],[33],[60],[62]]
def tD:List (kH×kH):=(tK.zip (List.range' 1 19)).map fun p=>(.str p.1,.int .i64 p.2)
def uH:List (List kH):=nI.map fun t=>[.str t]
set_option maxRecDepth 100000 in
theorem arT:Pt Tryz.prog mK (s_ 200) 3 99 [] []=some (.ret (.slice uH .no),[]):=by kernel_rfl
theorem c99 (h:kL):KK 99 [] h=some (.ret (.slice uH .no),h):=lB rfl rfl (Rb 200 3 99 [] [] _ arT)
set_option maxRecDepth 100000 in
theorem arS:Pt Tryz.prog mK (s_ 200) 3 98 [] [.front 0 0,.cells [.int .i64 0,.int .i64 0]]=some (.ret (.map 2),[.front 0 0,.cells [.int .i64 0,.int .i64 0],.map tD]):=by kernel_rfl
theorem c98:KK 98 [] [.front 0 0,.cells [.int .i64 0,.int .i64 0]]=some (.ret (.map 2),[.front 0 0,.cells [.int .i64 0,.int .i64 0],.map tD]):=Rb 200 3 98 [] _ _ arS
theorem Be (m:Nat):tD.all (fun e=>e.2.nO m)=true:=rfl
end
section
open Go Hk
structure Token where
 kind:Nat
 pos:Nat
 num:Nat
 text:List UInt8
 deriving DecidableEq
def Token.cells (t:Token):List kH:=[.int .i64 (t.kind:Int),.int .i64 (t.pos:Int),.int .i64 (t.num:Int),.str t.text]
def n9 (ts:List (List UInt8)) (l:List UInt8):List UInt8:=(ts.find? fun x=>decide (l.take x.length=x)).getD []
def tV (l:List UInt8) (at_:Nat):Option (Token×Nat) :=
 match l with
 | []=>none
 | b::_ =>
  if pF b then(if 40 < (nF l).length then none else some (⟨if nF l∈tK then 3 else 1,at_,0,nF l⟩,(nF l).length))
  else if isDigit b then(match qR (nF l) with | none=>none | some n=>some (⟨2,at_,n,[]⟩,(nF l).length))
  else if n9 nI l=[] then none else some (⟨4,at_,0,n9 nI l⟩,(n9 nI l).length)
theorem KG (r:List UInt8):∀(ws:List (List UInt8)) (ns:List Nat),ws.length=ns.length →
  ∃v:Option Int,Ct (.str r) ((ws.zip ns).map fun p=>(.str p.1,.int .i64 (p.2:Int)))=some (v.map (.int .i64))∧(v.isSome=true↔r∈ws)
 | [],[],_=>⟨none,rfl,by simp⟩
 | w::ws,n::ns,hl=>by
  obtain⟨v,h1,h2⟩:=KG r ws ns (by simpa using hl)
  by_cases h:r=w
  ·subst h
   exact⟨some n,by simp [Ct,Nt],by simp⟩
  ·refine⟨v,?_,by simp [h,h2]⟩
   have hb:(r == w)=false:=by simp [h]
   simp only [List.zip_cons_cons,List.map_cons,Ct,Nt,hb]
   exact h1
 | [],_::_,hl=>by simp at hl
 | _::_,[],hl=>by simp at hl
theorem Od (r:List UInt8):∃v:Int,∀{h:kL},h[2]?=some (.map tD)→zA (.int .i64 0) true h (.map 2) (.str r)=some (.tuple [.int .i64 v,.bool (decide (r∈tK))]):=by
 obtain⟨v,h1,h2⟩:=KG r tK (List.range' 1 19) rfl
 refine⟨v.getD 0,fun {h} hh=>?_⟩
 have h1':Ct (.str r) tD=some (v.map (.int .i64)):=h1
 simp only [zA,B8,hh,h1']
 cases v with
 | none =>
  have:¬r∈tK:=fun hm=>by have:=h2.2 hm; simp at this
  simp [this]
 | some v =>
  have:r∈tK:=h2.1 rfl
  simp [this]
theorem CU (out:List (List kH)) (c:List kH):uV (out++[c])=4:=by cases out <;> rfl
theorem Zm (out:List (List kH)):uV out=4∨out=[]∧uV out=0:=by cases out <;> simp [uV]
section
variable (s:List UInt8) (out:List (List kH))
theorem Tf (hs:s.length≤65536) (at_:Nat) (ha:at_ < s.length) (k p q:Int) (t:List UInt8) (i:Nat) (hi:i≤nI.length) :
  ∃j:Int,mL (Dt KK 6) ([.ptr 3 0,.bool false,.ptr 5 0,.slice (nI.map fun t=>[.str t]) .no,.int .i64 (nI.length:Nat),.int .i64 (i:Nat)],HT tD uH s (at_:Nat) out k p q t) =
   some (.exit 1,[.ptr 3 0,.bool false,.ptr 5 0,.slice (nI.map fun t=>[.str t]) .no,.int .i64 (nI.length:Nat),.int .i64 j],
    HT tD uH s (at_:Nat) out k p q (((nI.drop i).find? fun x=>decide ((s.drop at_).take x.length=x)).getD t)):=by
 have hd:=NL ha
 have hsl:nI.length=26:=rfl
 have tr:=fun t=>Dd (W:=tD) (sg:=uH) (s:=s) (at_:=(at_:Nat)) (out:=out) (k:=k) (p:=p) (n:=q) (t:=t) (Be 6)
 generalize hW:tD=W at *
 generalize uH=sg at *
 generalize hT:nI=T at *
 induction hm:T.length - i using am6 generalizing i with
 | _ m ih =>
  rw [mY]
  by_cases h:i < T.length
  ·have hx:T[i]?=some T[i]:=ab8 h
   have h':(i:Int) < T.length:=by omega
   have hf:(T.drop i).find? (fun x=>decide ((s.drop at_).take x.length=x))=if (s.drop at_).take T[i].length=T[i] then some T[i] else(T.drop (i+1)).find? (fun x=>decide ((s.drop at_).take x.length=x)):=by
    rw [ag8 h,List.find?_cons]
    by_cases hp:(s.drop at_).take T[i].length=T[i] <;> simp only [hp,decide_true,decide_false,if_true,if_false]
   rw [hf]
   by_cases hp:(s.drop at_).take T[i].length=T[i]
   ·refine⟨i,?_⟩
    simp [Dt,HT,h',hx,hd,UT,hp,putCells,kW,tr,lD]
   ·have w:IntKind.wrap .i64 ((i:Int)+1)=(i:Int)+1:=by rw [wrap64] <;> omega
    obtain⟨j,hl⟩:=ih (T.length - (i+1)) (by omega) (i+1) (by omega) rfl
    refine⟨j,?_⟩
    have step:Dt KK 6 ([.ptr 3 0,.bool false,.ptr 5 0,.slice (T.map fun t=>[.str t]) .no,.int .i64 (T.length:Nat),.int .i64 (i:Nat)],HT W sg s (at_:Nat) out k p q t) =
      some (.normal,[.ptr 3 0,.bool false,.ptr 5 0,.slice (T.map fun t=>[.str t]) .no,.int .i64 (T.length:Nat),.int .i64 (i+1:Nat)],HT W sg s (at_:Nat) out k p q t):=by
     simp [Dt,HT,h',hx,hd,UT,hp,w,kW,tr,lD]
    rw [step]
    simp only [ae3,nP]
    rw [hl,if_neg hp]
  ·have h':¬(i:Int) < T.length:=by omega
   have:T.drop i=[]:=List.drop_eq_nil_of_le (by omega)
   refine⟨i,?_⟩
   simp [Dt,HT,h',this,kW,tr,lD]
theorem xR {W:List (kH×kH)}{sg:List (List kH)}{s:List UInt8}{at_:Int}{out:List (List kH)}{n sz:Nat}{bs:kL}(hW:W.all (fun e=>e.2.nO 5)=true) :
  l_ 5 (.front 0 0::.cells [.int .i64 0,.int .i64 0]::.map W::.cells [.str s,.int .i64 at_,.map 2,.slice sg .no,.slice out (.own 4)]::.front n sz::bs) =
   some [.front 0 0,.cells [.int .i64 0,.int .i64 0],.map W,.cells [.str s,.int .i64 at_,.map 2,.slice sg .no,.slice out (.own 4)],.front n sz]:=by
 simp [l_,o6,hW]
theorem avL (hs:s.length≤65536) (at_:Nat) (ha:at_ < s.length) (ho:out.length≤65536) :
  KK 101 [.ptr 3 0] (HL tD uH s (at_:Nat) out)=some (match tV (s.drop at_) at_ with
   | some (t,n)=>(.ret (.bool true),HL tD uH s (at_+n:Nat) (out++[t.cells]))
   | none=>(.ret (.bool false),HL tD uH s (at_:Nat) out)):=by
 refine lA (ZW _ _ _) ?_
 have hi:s[at_]?=some s[at_]:=ab8 ha
 have hcons:=ag8 ha
 have hW4:=Be 5
 have hW5:=Be 6
 have hrun:=fun k p q t=>avX tD uH s out k p q t hW5 hs at_ (Nat.le_of_lt ha)
 have hrl:=Ff (s.drop at_)
 simp only [am1] at hrl
 obtain⟨v,hlook⟩:=Od (nF (s.drop at_))
 have hfr:=Zm out
 have hsz:((out.length:Int)+1) * 40≤140737488355328:=by omega
 have hone:tV (s.drop at_) at_=if pF s[at_] then(if 40 < (nF (s.drop at_)).length then none else some (⟨if nF (s.drop at_)∈tK then 3 else 1,at_,0,nF (s.drop at_)⟩,(nF (s.drop at_)).length))
  else if isDigit s[at_] then(match qR (nF (s.drop at_)) with | none=>none | some n=>some (⟨2,at_,n,[]⟩,(nF (s.drop at_)).length))
  else if n9 nI (s.drop at_)=[] then none else some (⟨4,at_,0,n9 nI (s.drop at_)⟩,(n9 nI (s.drop at_)).length):=by
  rw [hcons]; rfl
 rw [hone]
 generalize hW:tD=W at *
 generalize hsg:uH=sg at *
 simp only [HT] at hrun
 generalize hR:nF (s.drop at_)=r at *
 have hw:IntKind.wrap .i64 ((at_:Int)+r.length)=(at_:Int)+r.length:=by rw [wrap64] <;> omega
 have happ:∀(a:Int) (c:List kH) (hc:c.length=4),mB 4 40 [.front 0 0,.cells [.int .i64 0,.int .i64 0],.map W,.cells [.str s,.int .i64 a,.map 2,.slice sg .no,.slice out (.own 4)],.front out.length (uV out),.cells c,.front 1 4] (.slice out (.own 4)) (.slice [c] (.own 6)) =
   some (.slice (out++[c]) (.own 4),[.front 0 0,.cells [.int .i64 0,.int .i64 0],.map W,.cells [.str s,.int .i64 a,.map 2,.slice sg .no,.slice out (.own 4)],.front (out.length+1) 4,.cells c,.front 1 4]):=by
  intro a c hc
  have h1:(out.length+1) * 40≤140737488355328:=by omega
  have h2:out.length+1≤140737488355328:=by omega
  have h3:uV out=4∨out.length=0∧uV out=0:=by
   rcases hfr with h | ⟨h,h'⟩
   ·exact .inl h
   ·exact .inr ⟨by simp [h],h'⟩
  have hall:[c].all (fun r=>r.length == 4)=true:=by simp [hc]
  have hget:([.front 0 0,.cells [.int .i64 0,.int .i64 0],.map W,.cells [.str s,.int .i64 a,.map 2,.slice sg .no,.slice out (.own 4)],.front out.length (uV out),.cells c,.front 1 4]:kL)[4]?=some (.front out.length (uV out)):=rfl
  simp only [mB,p8,hall,if_true,hget,ab0,ab3,al0,h1,h2,h3,and_self]
  rfl
 by_cases hl:pF s[at_]=true
 ·by_cases h40:40 < r.length
  ·have h40':(40:Int) < r.length:=by omega
   by_cases hm:r∈tK
   ·simp [Mn,HL,hi,lR,lO,lC,putCells,J_,hl,hrun,pN,hlook,hm,h40,h40',lZ,xR hW4]
   ·simp [Mn,HL,hi,lR,lO,lC,putCells,J_,hl,hrun,pN,hlook,hm,h40,h40',lZ,xR hW4]
  ·have h40':¬(40:Int) < r.length:=by omega
   by_cases hm:r∈tK
   ·have hap:=happ ((at_:Int)+r.length) [.int .i64 3,.int .i64 at_,.int .i64 0,.str r] rfl
    simp [Mn,HL,hi,lR,lO,lC,putCells,J_,hl,hrun,pN,hlook,hm,h40,h40',hw,nB,o8,k_,oR,lM,mU,kU,rW,nK,kH.A_,rowsOf,hap,lZ,xR hW4,Token.cells,CU]
   ·have hap:=happ ((at_:Int)+r.length) [.int .i64 1,.int .i64 at_,.int .i64 0,.str r] rfl
    simp [Mn,HL,hi,lR,lO,lC,putCells,J_,hl,hrun,pN,hlook,hm,h40,h40',hw,nB,o8,k_,oR,lM,mU,kU,rW,nK,kH.A_,rowsOf,hap,lZ,xR hW4,Token.cells,CU]
 ·have hlf:pF s[at_]=false:=by simpa using hl
  by_cases hd:isDigit s[at_]=true
  ·have hr0:r≠[]:=by
    rw [←hR,y5 ha]; simp [isWord,hd]
   have hnum:=avY r (by omega) hr0
   cases hn:qR r with
   | none =>
    rw [hn] at hnum
    simp at hnum
    simp [Mn,HL,hi,lR,lO,lC,putCells,J_,hlf,Ka,hd,hrun,hnum,lZ,xR hW4]
   | some n =>
    rw [hn] at hnum
    simp at hnum
    have hap:=happ ((at_:Int)+r.length) [.int .i64 2,.int .i64 at_,.int .i64 n,.str []] rfl
    simp [Mn,HL,hi,lR,lO,lC,putCells,J_,hlf,Ka,hd,hrun,hnum,hw,nB,o8,k_,oR,lM,mU,kU,rW,nK,kH.A_,rowsOf,hap,lZ,xR hW4,Token.cells,CU]
  ·have hdf:isDigit s[at_]=false:=by simpa using hd
   obtain⟨j,hloop⟩:=Tf s out hs at_ ha 4 at_ 0 [] 0 (al7 _)
   rw [hW,hsg] at hloop
   have hsl:nI.length=26:=rfl
   have hsgm:sg=nI.map fun t=>[.str t]:=by rw [←hsg]; rfl
   rw [←hsgm] at hloop
   have hsglen:sg.length=26:=by rw [hsgm]; rfl
   simp only [List.drop_zero,hsl,HT,Int.ofNat_eq_natCast,ad3] at hloop
   generalize hx:n9 nI (s.drop at_)=x at *
   have hx':((nI.find? fun x=>decide ((s.drop at_).take x.length=x)).getD [])=x:=hx
   rw [hx'] at hloop
   have hxl:x.length≤65536:=by
    rw [←hx]
    unfold n9
    cases hf:nI.find? fun x=>decide ((s.drop at_).take x.length=x) with
    | none=>simp
    | some y =>
     have:=List.find?_some hf
     simp only [decide_eq_true_eq] at this
     have:=congrArg aa7 this
     simp at this ⊢
     omega
   have hwx:IntKind.wrap .i64 ((at_:Int)+x.length)=(at_:Int)+x.length:=by rw [wrap64] <;> omega
   by_cases hx0:x=[]
   ·simp [Mn,HL,hi,lR,lO,lC,putCells,J_,hlf,Ka,hdf,hsglen,hloop,hx0,lZ,xR hW4]
   ·have hap:=happ ((at_:Int)+x.length) [.int .i64 4,.int .i64 at_,.int .i64 0,.str x] rfl
    simp [Mn,HL,hi,lR,lO,lC,putCells,J_,hlf,Ka,hdf,hsglen,hloop,hx0,hwx,nB,o8,k_,oR,lM,mU,kU,rW,nK,kH.A_,rowsOf,hap,lZ,xR hW4,Token.cells,CU]
end
end
section
open Go Hk
theorem BL {l:List UInt8}{a n:Nat}{t:Token}(h:tV l a=some (t,n)):1≤n∧n≤l.length:=by
 unfold tV at h
 split at h
 ·cases h
 ·rename_i b r
  have hrl:=Ff (b::r)
  split at h
  ·rename_i hl
   split at h
   ·cases h
   ·simp only [ab1,ae5] at h
    obtain⟨_,rfl⟩:=h
    refine⟨?_,hrl⟩
    simp [nF,List.takeWhile_cons,isWord,hl]
  ·split at h
   ·rename_i hl hd
    split at h
    ·cases h
    ·simp only [ab1,ae5] at h
     obtain⟨_,rfl⟩:=h
     refine⟨?_,hrl⟩
     simp [nF,List.takeWhile_cons,isWord,hd]
   ·split at h
    ·cases h
    ·rename_i hx
     simp only [ab1,ae5] at h
     obtain⟨_,rfl⟩:=h
     refine⟨List.length_pos_iff.2 hx,?_⟩
     unfold n9
     cases hf:nI.find? fun x=>decide ((b::r).take x.length=x) with
     | none=>simp
     | some y =>
      have:=List.find?_some hf
      simp only [decide_eq_true_eq] at this
      have:=congrArg aa7 this
      simp only [List.length_take] at this
      simp only [Option.getD_some]
      omega
def lexFrom (s:List UInt8) (at_:Nat) (out:List Token):List Token×Nat×Nat :=
 if h:lN s at_ < s.length then
  match tV (s.drop (lN s at_)) (lN s at_) with
  | none=>([],9,lN s at_)
  | some (t,n)=>lexFrom s (lN s at_+max 1 n) (out++[t])
 else(out++[⟨0,s.length,0,[]⟩],0,0)
termination_by s.length - at_
decreasing_by
 have:=vC s at_
 omega
def oL (s:List UInt8):List Token×Nat×Nat:=if 65536 < s.length then([],5,0) else lexFrom s 0 []
def HE (W:List (kH×kH)) (sg:List (List kH)) (s:List UInt8) (e p:Int) (at_:Int) (out:List (List kH)) (n sz:Nat):kL :=
 [.front 0 0,.cells [.int .i64 e,.int .i64 p],.map W,.cells [.str s,.int .i64 at_,.map 2,.slice sg .no,.slice out (.own 4)],.front n sz]
theorem MV {W:List (kH×kH)}{sg:List (List kH)}{s:List UInt8}{e p at_:Int}{out:List (List kH)}{n sz:Nat}{bs:kL}(hW:W.all (fun e=>e.2.nO 5)=true) :
  l_ 5 (.front 0 0::.cells [.int .i64 e,.int .i64 p]::.map W::.cells [.str s,.int .i64 at_,.map 2,.slice sg .no,.slice out (.own 4)]::.front n sz::bs) =
   some (HE W sg s e p at_ out n sz):=by
 simp [HE,l_,o6,hW]
theorem Wm (s:List UInt8) (hs:s.length≤65536) (at_:Nat) (ha:at_≤s.length) (out:List Token) (ho:out.length≤at_) (t0:kH) (ht0:t0=.slice [] (.own 0)) :
  ∃(tok:Tok) (at':Int) (out':List (List kH)) (n sz:Nat),mL (FY KK 5) ([.str s,t0,.ptr 1 0,.ptr 3 0],HL tD uH s (at_:Nat) (out.map Token.cells)) =
   some (.ret,[.str s,.slice ((lexFrom s at_ out).1.map Token.cells) tok,.ptr 1 0,.ptr 3 0],HE tD uH s (lexFrom s at_ out).2.1 (lexFrom s at_ out).2.2 at' out' n sz):=by
 have hW5:=Be 5
 induction hn:s.length - at_ using am6 generalizing at_ out with
 | _ n ih =>
  rw [mY]
  have hge:=vC s at_
  have hle:=Lh s at_ ha
  have h54:=avK tD uH s (out.map Token.cells) hW5 hs at_ ha
  rw [lexFrom]
  by_cases h:lN s at_ < s.length
  ·have hne:¬((lN s at_:Int)=s.length):=by omega
   have h55:=avL s (out.map Token.cells) hs (lN s at_) h (by simp; omega)
   simp only [h,dite_true]
   cases hone:tV (s.drop (lN s at_)) (lN s at_) with
   | none =>
    rw [hone] at h55
    refine⟨.no,(lN s at_:Nat),out.map Token.cells,(out.map Token.cells).length,uV (out.map Token.cells),?_⟩
    generalize tD=W at *
    generalize uH=sg at *
    simp only [HL,al2] at h54 h55
    simp only [HL]
    simp [FY,h54,h55,hne,lR,putCells,nB,o8,k_,oR,lM,mU,kW,MV hW5,lD]
   | some tn =>
    obtain⟨t,k⟩:=tn
    rw [hone] at h55
    obtain⟨hk1,hk2⟩:=BL hone
    simp only [am1] at hk2
    have hmax:max 1 k=k:=by omega
    have step:FY KK 5 ([.str s,t0,.ptr 1 0,.ptr 3 0],HL tD uH s (at_:Nat) (out.map Token.cells)) =
      some (.normal,[.str s,t0,.ptr 1 0,.ptr 3 0],HL tD uH s (lN s at_+k:Nat) ((out++[t]).map Token.cells)):=by
     subst ht0
     generalize tD=W at *
     generalize uH=sg at *
     simp only [HL,al2] at h54 h55
     simp only [HL]
     simp [FY,h54,h55,hne,kW,MV hW5,lD,HE]
    rw [step]
    simp only [ae3,nP,hmax]
    exact ih (s.length - (lN s at_+k)) (by omega) (lN s at_+k) (by omega) (out++[t]) (by simp; omega) rfl
  ·have heq:lN s at_=s.length:=by omega
   simp only [h,dite_false]
   refine⟨.own 4,(s.length:Nat),out.map Token.cells,out.length+1,4,?_⟩
   have h1:(out.length+1) * 40≤140737488355328:=by omega
   have h2:out.length+1≤140737488355328:=by omega
   have h3:uV (out.map Token.cells)=4∨(out.map Token.cells).length=0∧uV (out.map Token.cells)=0:=by cases out <;> simp [uV]
   rw [heq] at h54
   generalize hm:out.map Token.cells=o at *
   have hol:o.length=out.length:=by rw [←hm]; simp
   generalize tD=W at *
   generalize uH=sg at *
   simp only [HL] at h54
   simp only [HL]
   have hap:mB 4 40 [.front 0 0,.cells [.int .i64 0,.int .i64 0],.map W,.cells [.str s,.int .i64 (s.length:Nat),.map 2,.slice sg .no,.slice o (.own 4)],.front o.length (uV o),.front 1 4] (.slice o (.own 4)) (.slice [[.int .i64 0,.int .i64 (s.length:Nat),.int .i64 0,.str []]] (.own 5)) =
     some (.slice (o++[[.int .i64 0,.int .i64 (s.length:Nat),.int .i64 0,.str []]]) (.own 4),[.front 0 0,.cells [.int .i64 0,.int .i64 0],.map W,.cells [.str s,.int .i64 (s.length:Nat),.map 2,.slice sg .no,.slice o (.own 4)],.front (o.length+1) 4,.front 1 4]):=by
    have hget:([.front 0 0,.cells [.int .i64 0,.int .i64 0],.map W,.cells [.str s,.int .i64 (s.length:Nat),.map 2,.slice sg .no,.slice o (.own 4)],.front o.length (uV o),.front 1 4]:kL)[4]?=some (.front o.length (uV o)):=rfl
    have hall:([[.int .i64 0,.int .i64 (s.length:Nat),.int .i64 0,.str []]]:List (List kH)).all (fun r=>r.length == 4)=true:=rfl
    have h1':(o.length+1) * 40≤140737488355328:=by omega
    have h2':o.length+1≤140737488355328:=by omega
    simp only [mB,p8,hall,if_true,hget,ab0,ab3,al0,h1',h2',h3,and_self]
    rfl
   simp [FY,h54,lR,putCells,kU,rW,nK,kH.A_,rowsOf,hap,kW,MV hW5,lD]
   simp [HE,Token.cells,←hm]
theorem c49 (s:List UInt8) (h:kL):KK 49 [.str s] h=some (.ret (.tuple [.slice ((oL s).1.map Token.cells) .no,.agg [.int .i64 ((oL s).2.1:Nat),.int .i64 ((oL s).2.2:Nat)]]),h):=by
 refine lB rfl rfl (lA (ajG _ _ _) ?_)
 by_cases hs:65536 < s.length
 ·have hs':(65536:Int) < s.length:=by omega
  simp [m49,lO,lC,lR,putCells,hs',oL,hs,kK]
 ·have hs':¬(65536:Int) < s.length:=by omega
  obtain⟨tok,at',out',n,sz,hl⟩:=Wm s (by omega) 0 (al7 _) [] (al7 _) _ rfl
  have hlex:oL s=lexFrom s 0 []:=by simp [oL,hs]
  rw [hlex]
  have h52:=c98
  have h53:=c99
  generalize tD=W at *
  generalize uH=sg at *
  simp only [HL,HE,al1,Int.ofNat_eq_natCast,ad3,ab3,uV] at hl
  simp [m49,lO,lC,lR,putCells,hs',h52,h53,hl,kK]
  cases tok <;> rfl
end
section
open Go Hk
theorem Mj {s:List UInt8}{n:Nat}(h:n < s.length):mM (s.drop n)=if s[n]=10 then 0 else mM (s.drop (n+1))+1:=by
 rw [ag8 h]; simp only [mM,List.takeWhile_cons]
 by_cases hb:s[n]=10 <;> simp [hb]
theorem LJ (b:UInt8) (n:Nat) (hn:n < 256):((b.toNat:Int)=n)↔b=am7 n:=by
 constructor
 ·intro h
  have:b.toNat=n:=by omega
  rw [←this]; simp
 ·intro h
  subst h
  simp; omega
theorem Wn (s:List UInt8) (hs:s.length≤65536) (n:Nat) (hn:n≤s.length) (x:Int) :
  mL (FZ KK 0) ([.str s,.int .i64 (n:Nat),.int .i64 x],[])=some (.exit 2,[.str s,.int .i64 (n+mM (s.drop n):Nat),.int .i64 x],[]):=by
 induction hm:s.length - n using am6 generalizing n with
 | _ m ih =>
  rw [mY]
  by_cases h:n < s.length
  ·have hi:s[n]?=some s[n]:=ab8 h
   have h':(n:Int) < s.length:=by omega
   have hb:=LJ s[n] 10 (by omega)
   rw [Mj h]
   by_cases hc:s[n]=10
   ·have hb':(s[n].toNat:Int)=10:=hb.2 hc
    simp [FZ,h',hi,hb',hc,mZ]
   ·have hb':¬(s[n].toNat:Int)=10:=fun e=>hc (hb.1 e)
    have w:IntKind.wrap .i64 ((n:Int)+1)=(n:Int)+1:=by rw [wrap64] <;> omega
    have step:FZ KK 0 ([.str s,.int .i64 (n:Nat),.int .i64 x],[])=some (.normal,[.str s,.int .i64 (n+1:Nat),.int .i64 x],[]):=by
     simp [FZ,h',hi,hb',w,mZ]
    rw [step]
    simp only [ae3,nP]
    rw [ih (s.length - (n+1)) (by omega) (n+1) (by omega) rfl,if_neg hc]
    rw [show n+1+mM (s.drop (n+1))=n+(mM (s.drop (n+1))+1) by omega]
  ·have h':¬(n:Int) < s.length:=by omega
   have:s.drop n=[]:=List.drop_eq_nil_of_le (by omega)
   simp [FZ,h',this,mM,mZ]
theorem OT {s:List UInt8}{n:Nat}(h:n < s.length):(s.drop n).take 2=[47,47]↔s[n]=47∧s[n+1]?=some 47:=by
 rw [ag8 h]
 by_cases h2:n+1 < s.length
 ·rw [ag8 h2,List.take_succ_cons,List.take_succ_cons,List.take_zero,ab8 h2]
  simp only [List.cons.injEq,and_true,ab1]
 ·rw [List.drop_eq_nil_of_le (by omega),List.getElem?_eq_none (show s.length≤n+1 by omega)]; simp
theorem Wo (s:List UInt8) (hs:s.length≤65536) (at_:Nat) (ha:at_≤s.length) :
  mL (Bp KK 0) ([.str s,.int .i64 (at_:Nat),.int .i64 0],[])=some (.ret,[.str s,.int .i64 (lN s at_:Nat),.int .i64 (lN s at_:Nat)],[]) ∨
  mL (Bp KK 0) ([.str s,.int .i64 (at_:Nat),.int .i64 0],[])=some (.exit 0,[.str s,.int .i64 (lN s at_:Nat),.int .i64 0],[]):=by
 induction hm:s.length - at_ using am6 generalizing at_ with
 | _ m ih =>
  rw [mY,lN]
  by_cases h:at_ < s.length
  ·have hi:s[at_]?=some s[at_]:=ab8 h
   have h':(at_:Int) < s.length:=by omega
   have w:IntKind.wrap .i64 ((at_:Int)+1)=((at_+1:Nat):Int):=by rw [wrap64] <;> omega
   have hb:=LJ s[at_] 47 (by omega)
   have t2:=OT h
   by_cases hr:(s.drop at_).take 2=[47,47]
   ·obtain⟨e1,e2⟩:=t2.1 hr
    have h2:at_+1 < s.length:=by
     have:=(List.getElem?_eq_some_iff.1 e2).1; exact this
    have h2':((at_+1:Nat):Int) < s.length:=by omega
    have e1':(s[at_].toNat:Int)=47:=hb.2 e1
    have hbl:pO s[at_]=false:=by rw [e1]; decide
    have hline:=Wn s hs at_ ha 0
    have hll:=w_ (s.drop at_)
    have htw:=CY hr
    simp only [am1] at hll
    have step:Bp KK 0 ([.str s,.int .i64 (at_:Nat),.int .i64 0],[])=some (.normal,[.str s,.int .i64 (at_+mM (s.drop at_):Nat),.int .i64 0],[]):=by
     have hi2:mN (.str s) (.int .i64 ((at_:Int)+1))=some (.int .u8 47):=by
      have:=DL (s:=s) (k:=.i64) (i:=at_+1)
      rw [e2] at this; simpa using this
     simp only [ad5,ad3] at w h2'
     simp [Bp,h',w,h2',hi,e1',hi2,hline,mZ]
    rw [step]
    simp only [ae3,nP,h,dite_true,hbl,ac1,if_false,hr,if_true]
    rw [show max 1 (mM (s.drop at_))=mM (s.drop at_) by omega]
    exact ih (s.length - (at_+mM (s.drop at_))) (by omega) (at_+mM (s.drop at_)) (by omega) rfl
   ·-- no remark
    have body:Bp KK 0 ([.str s,.int .i64 (at_:Nat),.int .i64 0],[])=if pO s[at_] then some (.normal,[.str s,.int .i64 (at_+1:Nat),.int .i64 0],[]) else some (.ret,[.str s,.int .i64 (at_:Nat),.int .i64 (at_:Nat)],[]):=by
     simp only [ad5,ad3] at w
     by_cases h2:at_+1 < s.length
     ·have h2':((at_:Int)+1) < s.length:=by omega
      by_cases e1:s[at_]=47
      ·have e1':(s[at_].toNat:Int)=47:=hb.2 e1
       have e2:¬s[at_+1]=47:=fun e=>hr (t2.2 ⟨e1,by rw [ab8 h2,e]⟩)
       have e2':¬(s[at_+1].toNat:Int)=47:=fun e=>e2 ((LJ s[at_+1] 47 (by omega)).1 e)
       have hi2:mN (.str s) (.int .i64 ((at_:Int)+1))=some (Sw s[at_+1]):=by
        have:=DL (s:=s) (k:=.i64) (i:=at_+1)
        rw [ab8 h2] at this; simpa using this
       have hbl:pO s[at_]=false:=by rw [e1]; decide
       have c47:∀h,KK 112 [.int .u8 47] h=some (.ret (.bool false),h):=fun h=>agL 47 h
       simp [Bp,h',w,h2',hi,e1',hi2,e2',c47,hbl,mZ]
      ·have e1':¬(s[at_].toNat:Int)=47:=fun e=>e1 (hb.1 e)
       cases hbl:pO s[at_] <;> simp [Bp,h',w,h2',hi,e1',agL,hbl,mZ]
     ·have h2':¬((at_:Int)+1) < s.length:=by omega
      cases hbl:pO s[at_] <;> simp [Bp,h',w,h2',hi,agL,hbl,mZ]
    rw [body]
    simp only [h,dite_true,hr,if_false]
    cases hbl:pO s[at_] with
    | true =>
     simp only [if_true,ae3,nP]
     exact ih (s.length - (at_+1)) (by omega) (at_+1) (by omega) rfl
    | false=>left; simp
  ·right
   have h':¬(at_:Int) < s.length:=by omega
   simp [Bp,h',h,mZ]
theorem c55 (s:List UInt8) (hs:s.length≤65536) (at_:Nat) (ha:at_≤s.length) (h:kL):KK 55 [.str s,.int .i64 (at_:Nat)] h=some (.ret (.int .i64 (lN s at_:Nat)),h):=by
 refine lB rfl rfl (lA (ajK _ _ _ _) ?_)
 simp only [m55,ab3]
 rcases Wo s hs at_ ha with hl | hl <;> rw [hl] <;> simp [kK]
def Hl (t:List UInt8):List UInt8→Bool
 | []=>t.isPrefixOf []
 | b::l=>t.isPrefixOf (b::l) || Hl t l
def GH:List (List UInt8)→List UInt8
 | []=>[32]
 | w::ws=>32::(w++GH ws)
theorem Lb:∀(r w:List UInt8) (J:List UInt8),32 ∉ r→32 ∉ w→((r++[32]).isPrefixOf (w++32::J)=decide (r=w))
 | [],[],J,_,_=>by simp
 | [],b::w,J,_,hw=>by
  have:¬(32:UInt8)=b:=fun e=>hw (by simp [e])
  simp [List.isPrefixOf,this]
 | a::r,[],J,hr,_=>by
  have:¬a=(32:UInt8):=fun e=>hr (by simp [e])
  simp [List.isPrefixOf,this]
 | a::r,b::w,J,hr,hw=>by
  have ih:=Lb r w J (fun h=>hr (by simp [h])) (fun h=>hw (by simp [h]))
  by_cases hab:a=b
  ·subst hab; simp [List.isPrefixOf,ih]
  ·simp [List.isPrefixOf,hab]
theorem PN (ws:List (List UInt8)):∃J,GH ws=32::J:=by cases ws <;> exact⟨_,rfl⟩
theorem N3 (t:List UInt8):∀(w J:List UInt8),32 ∉ w→Hl (32::t) (w++J)=Hl (32::t) J
 | [],J,_=>rfl
 | b::w,J,hw=>by
  have:¬(32:UInt8)=b:=fun e=>hw (by simp [e])
  have hb:((32:UInt8) == b)=false:=by simp [this]
  simp only [ae8,Hl,List.isPrefixOf,hb,Bool.false_and,Bool.false_or]
  exact N3 t w J (fun h=>hw (by simp [h]))
theorem EX (r:List UInt8) (hr:32 ∉ r):∀(ws:List (List UInt8)),(∀w∈ws,32 ∉ w)→Hl (32::(r++[32])) (GH ws)=decide (r∈ws)
 | [],_=>by cases r <;> simp [GH,Hl,List.isPrefixOf]
 | w::ws,hw=>by
  obtain⟨J,hJ⟩:=PN ws
  have ih:=EX r hr ws (fun w h=>hw w (by simp [h]))
  have hp:=Lb r w J hr (hw w (by simp))
  simp only [GH,Hl,List.isPrefixOf,beq_self_eq_true,Bool.true_and]
  rw [N3 _ w _ (hw w (by simp)),ih,hJ,hp]
  simp [List.mem_cons]
theorem N2 (t q:List UInt8) (b:UInt8) (r:List UInt8) (h:q=b::r):Hl t q=(t.isPrefixOf q || Hl t r):=by subst h; rfl
theorem Th (l t:List UInt8) (hl:l.length≤65536) (ht:t.length≤131072) (h1:1≤t.length) (i:Nat) (hi:i≤l.length) :
  (Hl t (l.drop i)=true∧∃j:Int,mL (Ca KK 0) ([.str l,.bool false,.str t,.int .i64 (i:Nat)],[])=some (.ret,[.str l,.bool true,.str t,.int .i64 j],[])) ∨
  (Hl t (l.drop i)=false∧∃j:Int,mL (Ca KK 0) ([.str l,.bool false,.str t,.int .i64 (i:Nat)],[])=some (.exit 0,[.str l,.bool false,.str t,.int .i64 j],[])):=by
 induction hm:l.length - i using am6 generalizing i with
 | _ m ih =>
  rw [mY]
  have w1:IntKind.wrap .i64 ((i:Int)+t.length)=((i+t.length:Nat):Int):=by rw [wrap64] <;> omega
  have w2:IntKind.wrap .i64 ((i:Int)+1)=(i:Int)+1:=by rw [wrap64] <;> omega
  by_cases h:i+t.length≤l.length
  ·have h':((i+t.length:Nat):Int)≤l.length:=by omega
   have hsl:=pY (s:=l) (lo:=some (.int .i64 (i:Int))) (hi:=some (.int .i64 ((i+t.length:Nat):Int))) pQ pQ (by omega) h
   rw [show i+t.length - i=t.length by omega] at hsl
   have hil:i < l.length:=by omega
   have hcons:=ag8 hil
   have hpre:t.isPrefixOf (l.drop i)=decide ((l.drop i).take t.length=t):=by
    rw [Bool.eq_iff_iff]
    simp only [List.isPrefixOf_iff_prefix,decide_eq_true_eq]
    constructor
    ·intro hp; exact(List.prefix_iff_eq_take.1 hp).symm
    ·intro hp; exact List.prefix_iff_eq_take.2 hp.symm
   simp only [ad5] at w1 h' hsl
   by_cases hp:(l.drop i).take t.length=t
   ·left
    refine⟨?_,i,?_⟩
    ·rw [N2 t _ _ _ hcons,hpre,decide_eq_true hp]; rfl
    ·simp [Ca,w1,h',hsl,hp,mZ]
   ·have hin:Hl t (l.drop i)=Hl t (l.drop (i+1)):=by
     rw [N2 t _ _ _ hcons,hpre,decide_eq_false hp]; rfl
    have step:Ca KK 0 ([.str l,.bool false,.str t,.int .i64 (i:Nat)],[])=some (.normal,[.str l,.bool false,.str t,.int .i64 (i+1:Nat)],[]):=by
     simp [Ca,w1,w2,h',hsl,hp,mZ]
    rw [step,hin]
    simp only [ae3,nP]
    exact ih (l.length - (i+1)) (by omega) (i+1) (by omega) rfl
  ·right
   have h':¬((i:Int)+t.length)≤l.length:=by omega
   simp only [ad5] at w1
   refine⟨?_,i,?_⟩
   ·have:∀(q:List UInt8),q.length < t.length→Hl t q=false:=by
     intro q
     induction q with
     | nil=>intro hq; cases t with | nil=>simp at h1 | cons a b=>rfl
     | cons b q ihq =>
      intro hq
      have hnp:t.isPrefixOf (b::q)=false:=by
       rw [Bool.eq_false_iff]
       intro hp
       have:=(List.isPrefixOf_iff_prefix.1 hp).length_le
       omega
      simp only [Hl,hnp,Bool.false_or]
      exact ihq (by simp at hq; omega)
    exact this _ (by simp; omega)
   ·simp [Ca,w1,h',mZ]
theorem agM (l s:List UInt8) (hl:l.length≤65536) (hs:s.length≤65536) (h:kL):KK 117 [.str l,.str s] h=some (.ret (.bool (Hl (32::(s++[32])) l)),h):=by
 refine lB rfl rfl (lA (aaB _ _ _ _) ?_)
 have e1:1+s.length≤4611686018427387904:=by omega
 have e2:s.length+1+1≤4611686018427387904:=by omega
 have hloop:=Th l (32::(s++[32])) hl (by simp; omega) (by simp) 0 (al7 _)
 simp only [List.drop_zero,Int.ofNat_eq_natCast,ad3] at hloop
 rcases hloop with ⟨hi,j,hlp⟩ | ⟨hi,j,hlp⟩
 ·rw [hi]; simp [aiG,e1,e2,hlp,kK]
 ·rw [hi]; simp [aiG,e1,e2,hlp,kK]
end
section
open Go Hk
def q_ (hex:Bool):List UInt8→Nat→Option Nat
 | [],n=>some n
 | b::r,n=>match rB hex b with
  | none=>none
  | some v=>q_ hex r (n * mG hex+v)
theorem Ql (hex:Bool):∀(l:List UInt8) (n r:Nat),q_ hex l n=some r→n * mG hex ^ l.length≤r
 | [],n,r,h=>by simp [q_] at h; simp [h]
 | b::l,n,r,h=>by
  simp only [q_] at h
  cases hv:rB hex b with
  | none=>rw [hv] at h; cases h
  | some v =>
   rw [hv] at h
   have:=Ql hex l _ r h
   rw [ab0,Nat.pow_succ,Nat.mul_comm (mG hex ^ l.length),←Nat.mul_assoc]
   exact Nat.le_trans (af2 _ (Nat.le_add_right _ _)) this
theorem NA (hex:Bool) (k:Nat):1≤mG hex ^ k:=Nat.one_le_pow _ _ (by cases hex <;> decide)
theorem HB (hex:Bool):∀(l:List UInt8) (n:Nat),n≤4294967295→nN hex l n=match q_ hex l n with | some r=>if r≤4294967295 then some r else none | none=>none
 | [],n,h=>by simp [nN,q_,h]
 | b::l,n,h=>by
  simp only [nN,q_]
  cases hv:rB hex b with
  | none=>rfl
  | some v =>
   simp only []
   rw [Nat.mul_comm (mG hex) n]
   by_cases hb:4294967295 < n * mG hex+v
   ·rw [if_pos hb]
    cases hr:q_ hex l (n * mG hex+v) with
    | none=>rfl
    | some r =>
     have:=Ql hex l _ r hr
     have h1:=NA hex l.length
     have:n * mG hex+v≤r:=Nat.le_trans (Nat.le_mul_of_pos_right _ h1) this
     simp only []
     rw [if_neg (by omega)]
   ·rw [if_neg hb]
    exact HB hex l _ (by omega)
theorem T1 {hex:Bool}{b:UInt8}{v:Nat}(h:rB hex b=some v):v+1≤mG hex:=by
 unfold rB at h
 split at h
 ·rename_i hd; cases h; simp [isDigit] at hd; cases hex <;> simp [mG] <;> omega
 ·split at h
  ·rename_i hd; cases h; simp at hd; obtain⟨h1,h2,h3⟩:=hd; subst h1; simp [mG]; omega
  ·cases h
theorem K3 (hex:Bool) (s:List UInt8) (hs:s.length≤65536) (i n:Nat) (hi:i≤s.length) (hb:(n+1) * mG hex ^ (s.length - i)≤2199023255552) :
  ∃(n' j:Int),mL (A4 KK 0) ([.str s,.int .i64 0,.int .i64 (mG hex:Nat),.int .i64 (n:Nat),.int .i64 (i:Nat)],[]) =
   some (match q_ hex (s.drop i) n with
    | some r=>(.exit 0,[.str s,.int .i64 0,.int .i64 (mG hex:Nat),.int .i64 (r:Nat),.int .i64 j],[])
    | none=>(.ret,[.str s,.int .i64 (-1),.int .i64 (mG hex:Nat),.int .i64 n',.int .i64 j],[])):=by
 induction hm:s.length - i using am6 generalizing i n with
 | _ m ih =>
  rw [mY]
  by_cases h:i < s.length
  ·have hx:s[i]?=some s[i]:=ab8 h
   have h':(i:Int) < s.length:=by omega
   have hdrop:=ag8 h
   rw [hdrop]
   generalize hc:s[i]=b at *
   have hb8:=afE b
   have e1:((97:Int)≤b.toNat)↔97≤b.toNat:=by omega
   have e2:((b.toNat:Int)≤102)↔b.toNat≤102:=by omega
   have w0:IntKind.wrap .i64 (b.toNat:Int)=b.toNat:=by rw [wrap64] <;> omega
   have w1:IntKind.wrap .i64 ((b.toNat:Int) - 48)=(b.toNat:Int) - 48:=by rw [wrap64] <;> omega
   have w2:IntKind.wrap .i64 ((b.toNat:Int) - 97)=(b.toNat:Int) - 97:=by rw [wrap64] <;> omega
   have w3:IntKind.wrap .i64 ((b.toNat:Int) - 97+10)=(b.toNat:Int) - 97+10:=by rw [wrap64] <;> omega
   have wi:IntKind.wrap .i64 ((i:Int)+1)=(i:Int)+1:=by rw [wrap64] <;> omega
   cases hv:rB hex b with
   | none =>
    refine⟨n,i,?_⟩
    have hd:isDigit b=false:=by
     cases hd:isDigit b with
     | false=>rfl
     | true=>simp [rB,hd] at hv
    simp only [q_,hv]
    cases hex with
    | true =>
     by_cases h1:97≤b.toNat <;> by_cases h2:b.toNat≤102
     ·simp [rB,hd,h1,h2] at hv
     all_goals simp [A4,h',hx,w0,w1,J9,hd,e1,e2,h1,h2,mG,mZ]
    | false =>
     by_cases h1:97≤b.toNat <;> by_cases h2:b.toNat≤102 <;> simp [A4,h',hx,w0,w1,J9,hd,e1,e2,h1,h2,mG,mZ]
   | some v =>
    have hvl:=T1 hv
    have hpow:mG hex ^ (s.length - i)=mG hex ^ (s.length - (i+1)) * mG hex:=by rw [←Nat.pow_succ]; congr 1; omega
    have hb2:(n * mG hex+v+1) * mG hex ^ (s.length - (i+1))≤2199023255552:=by
     refine Nat.le_trans ?_ hb
     rw [hpow,Nat.mul_comm (mG hex ^ _) (mG hex),←Nat.mul_assoc,Nat.add_mul n 1,Nat.one_mul]
     exact af2 _ (by omega)
    have hsmall:n * mG hex+v+1≤2199023255552:=Nat.le_trans (Nat.le_mul_of_pos_right _ (NA hex _)) hb2
    have hmul0:(0:Int)≤(n:Int) * (mG hex:Nat):=by have:=Int.natCast_nonneg (n * mG hex); rwa [Int.natCast_mul] at this
    have hmul1:(n:Int) * (mG hex:Nat)+v+1≤2199023255552:=by
     have:((n * mG hex+v+1:Nat):Int)≤2199023255552:=by omega
     simpa [ad5,Int.natCast_mul] using this
    have w4:IntKind.wrap .i64 ((n:Int) * (mG hex:Nat))=(n:Int) * (mG hex:Nat):=by rw [wrap64] <;> omega
    have w5:IntKind.wrap .i64 ((n:Int) * (mG hex:Nat)+v)=(n:Int) * (mG hex:Nat)+v:=by rw [wrap64] <;> omega
    obtain⟨n',j,hl⟩:=ih (s.length - (i+1)) (by omega) (i+1) (n * mG hex+v) (by omega) hb2 rfl
    refine⟨n',j,?_⟩
    have step:A4 KK 0 ([.str s,.int .i64 0,.int .i64 (mG hex:Nat),.int .i64 (n:Nat),.int .i64 (i:Nat)],[]) =
      some (.normal,[.str s,.int .i64 0,.int .i64 (mG hex:Nat),.int .i64 (n * mG hex+v:Nat),.int .i64 (i+1:Nat)],[]):=by
     cases hd:isDigit b with
     | true =>
      have hr:48≤b.toNat∧b.toNat≤57:=by simpa [isDigit] using hd
      have hvv:v=b.toNat - 48:=by simp [rB,hd] at hv; exact hv.symm
      have hvi:(b.toNat:Int) - 48=v:=by omega
      rw [hvi] at w1
      have h1:¬97≤b.toNat:=by omega
      simp [A4,h',hx,w0,hvi,w1,J9,hd,e1,h1,w4,w5,wi,mZ]
     | false =>
      cases hex with
      | false=>simp [rB,hd] at hv
      | true =>
       by_cases h1:97≤b.toNat
       ·by_cases h2:b.toNat≤102
        ·have hvv:v=b.toNat - 87:=by simp [rB,hd,h1,h2] at hv; exact hv.symm
         have hvi:(b.toNat:Int) - 97+10=v:=by omega
         rw [hvi] at w3
         simp only [mG,if_true,ad3] at w4 w5
         simp [A4,h',hx,w0,w1,w2,hvi,w3,e1,e2,h1,h2,mG,w4,w5,wi,mZ]
        ·simp [rB,hd,h1,h2] at hv
       ·simp [rB,hd,h1] at hv
    rw [step]
    simp only [ae3,nP]
    rw [hl]
    simp only [q_,hv]
  ·have h':¬(i:Int) < s.length:=by omega
   have:s.drop i=[]:=List.drop_eq_nil_of_le (by omega)
   refine⟨n,i,?_⟩
   simp [A4,h',this,q_,mZ]
def Qe (s:List UInt8):Int:=match qR s with | some n=>n | none=>-1
theorem avP (s:List UInt8) (hs:s.length≤65536) (h0:s≠[]) (h:kL):KK 116 [.str s] h=some (.ret (.int .i64 (Qe s)),h):=by
 refine lB rfl rfl (lA (aaA _ _ _) ?_)
 by_cases hp:s.take 2=[48,120]
 ·have hl2:2≤s.length:=by have:=congrArg aa7 hp; simp at this; omega
  have hl2':(2:Int)≤s.length:=by omega
  have s1:=pY (s:=s) (lo:=none) (hi:=some (.int .i64 ((2:Nat):Int))) vV pQ (by omega) hl2
  have s2:=pY (s:=s) (lo:=some (.int .i64 ((2:Nat):Int))) (hi:=none) pQ vV hl2 (ac8 _)
  have e:(s.drop 2).take (s.length - 2)=s.drop 2:=List.take_of_length_le (by simp)
  rw [e] at s2
  simp only [ad3,List.drop_zero,Nat.sub_zero,hp] at s1 s2
  have hn:qR s=if s.drop 2=[]∨8 < (s.drop 2).length then none else nN true (s.drop 2) 0:=by simp only [qR,hp,if_true]
  have hrl:(s.drop 2).length≤65536:=by simp; omega
  unfold Qe
  rw [hn]
  generalize s.drop 2=r at *
  by_cases hl:8 < r.length
  ·have hl':(8:Int) < r.length:=by omega
   simp [D_,hl2',s1,s2,hl,hl',kK]
  ·have hl':¬(8:Int) < r.length:=by omega
   by_cases he:r=[]
   ·subst he
    simp [D_,hl2',s1,s2,kK]
   ·have hpw:(0+1) * mG true ^ (r.length - 0)≤2199023255552:=by
     have:mG true ^ r.length≤16 ^ 8:=Nat.pow_le_pow_right (by decide) (by omega)
     simp only [Nat.sub_zero,al0,Nat.one_mul]; omega
    obtain⟨n',j,hloop⟩:=K3 true r hrl 0 0 (al7 _) hpw
    simp only [mG,if_true,List.drop_zero,Int.ofNat_eq_natCast,ad3] at hloop
    rw [if_neg (by simp [he,hl]),HB true r 0 (by omega)]
    cases hd:q_ true r 0 with
    | none=>rw [hd] at hloop; simp [D_,hl2',s1,s2,he,hl',hloop,kK]
    | some v =>
     rw [hd] at hloop
     by_cases hv:v≤4294967295
     ·have hv':¬(4294967296:Int)≤v:=by omega
      simp [D_,hl2',s1,s2,he,hl',hloop,hv,hv',kK]
     ·have hv':(4294967296:Int)≤v:=by omega
      simp [D_,hl2',s1,s2,he,hl',hloop,hv,hv',kK]
 ·-- no '0x' ahead: the test of the first two bytes fails,whatever the length
  have hn:qR s=if s[0]?=some 48∧s≠[48] then none else nN false s 0:=by simp only [qR,hp,if_false]
  obtain⟨b,r,hbr⟩:∃b r,s=b::r:=by cases s with | nil=>exact absurd rfl h0 | cons b r=>exact⟨b,r,rfl⟩
  have hs0:s[0]?=some b:=by rw [hbr]; rfl
  have hlen:s.length=r.length+1:=by rw [hbr]; rfl
  have ht:((48:UInt8).toNat:Int)=48:=rfl
  have hb48:((b.toNat:Int)=48)↔b=48:=by
   constructor
   ·intro h; exact UInt8.toNat_inj.1 (by simpa using (by omega:b.toNat=48))
   ·intro h; rw [h]; rfl
  unfold Qe
  rw [hn]
  have key:∀(X:Option (nH×kL)),(∀(hten:10 < s.length∨(1 < s.length∧b=48)),X=some (.ret (.int .i64 (-1)),[])) →
    (∀(hten:¬(10 < s.length∨(1 < s.length∧b=48))),X=some (.ret (.int .i64 (match nN false s 0 with | some n=>(n:Int) | none=>-1)),[])) →
    X=some (.ret (.int .i64 (match (if s[0]?=some 48∧s≠[48] then none else nN false s 0) with | some n=>(n:Int) | none=>-1)),[]):=by
   intro X h1 h2
   by_cases hten:10 < s.length∨(1 < s.length∧b=48)
   ·rw [h1 hten]
    by_cases hz:s[0]?=some 48∧s≠[48]
    ·rw [if_pos hz]
    ·rw [if_neg hz]
     have hb:b≠48:=by
      intro hb
      refine hz ⟨by rw [hs0,hb],fun e=>?_⟩
      rw [e] at hten
      simp at hten
     have h10:10 < s.length:=by
      rcases hten with h | ⟨_,h⟩
      ·exact h
      ·exact absurd h hb
     have:nN false s 0=none:=by
      rw [HB false s 0 (by omega)]
      cases hr:q_ false s 0 with
      | none=>rfl
      | some v =>
       rw [hbr] at hr
       simp only [q_] at hr
       cases hv:rB false b with
       | none=>rw [hv] at hr; cases hr
       | some d =>
        rw [hv] at hr
        have hd:isDigit b=true:=by
         cases hd:isDigit b with
         | true=>rfl
         | false=>simp [rB,hd] at hv
        have hdr:48≤b.toNat∧b.toNat≤57:=by simpa [isDigit] using hd
        have hdv:d=b.toNat - 48:=by simp [rB,hd] at hv; exact hv.symm
        have hb':b.toNat≠48:=fun e=>hb (hb48.1 (by omega))
        have hge:=Ql false r _ v hr
        have hp10:(10:Nat) ^ 10≤10 ^ r.length:=Nat.pow_le_pow_right (by decide) (by omega)
        have h1d:1≤0 * mG false+d:=by omega
        have:1 * 10 ^ r.length≤(0 * mG false+d) * mG false ^ r.length:=af2 _ h1d
        simp only []
        rw [if_neg (by omega)]
     rw [this]
   ·rw [h2 hten]
    by_cases hz:s[0]?=some 48∧s≠[48]
    ·exfalso
     obtain⟨z1,z2⟩:=hz
     rw [hs0] at z1
     cases z1
     refine hten (.inr ⟨?_,rfl⟩)
     cases r with
     | nil=>exact absurd hbr z2
     | cons c r=>rw [hlen]; simp
    ·rw [if_neg hz]
  refine key _ (fun hten=>?_) (fun hten=>?_)
  ·by_cases hl2:2≤s.length
   ·have hl2':(2:Int)≤s.length:=by omega
    have s1:=pY (s:=s) (lo:=none) (hi:=some (.int .i64 ((2:Nat):Int))) vV pQ (by omega) hl2
    simp only [ad3,List.drop_zero,Nat.sub_zero] at s1
    by_cases h10:10 < s.length
    ·have h10':(10:Int) < s.length:=by omega
     simp [D_,hl2',s1,hp,h10',kK]
    ·have h10':¬(10:Int) < s.length:=by omega
     have hb:=(hten.resolve_left h10).2
     have h1':(1:Int) < s.length:=by omega
     have hbt:=hb48.2 hb
     simp [D_,hl2',s1,hp,h10',h1',hs0,hbt,kK]
   ·omega
  ·have h10':¬(10:Int) < s.length:=by omega
   have hpw:(0+1) * mG false ^ (s.length - 0)≤2199023255552:=by
    have:mG false ^ s.length≤10 ^ 10:=Nat.pow_le_pow_right (by decide) (by omega)
    simp only [Nat.sub_zero,al0,Nat.one_mul]; omega
   obtain⟨n',j,hloop⟩:=K3 false s hs 0 0 (al7 _) hpw
   simp only [mG,ac1,if_false,List.drop_zero,Int.ofNat_eq_natCast,ad3] at hloop
   rw [HB false s 0 (by omega)]
   have ahead:∀v,q_ false s 0=v→D_ KK (.str s) []=some (.ret (.int .i64 (match (match v with | some r=>if r≤4294967295 then some r else none | none=>none) with | some n=>(n:Int) | none=>-1)),[]):=by
    intro v hv
    rw [hv] at hloop
    have fin:∀(r:Nat),(4294967296:Int)≤r∨¬(4294967296:Int)≤r:=fun r=>Classical.em _
    by_cases hl2:2≤s.length
    ·have hl2':(2:Int)≤s.length:=by omega
     have s1:=pY (s:=s) (lo:=none) (hi:=some (.int .i64 ((2:Nat):Int))) vV pQ (by omega) hl2
     simp only [ad3,List.drop_zero,Nat.sub_zero] at s1
     have h1':(1:Int) < s.length:=by omega
     have hbt:¬((b.toNat:Int)=48):=fun e=>hten (.inr ⟨by omega,hb48.1 e⟩)
     cases v with
     | none=>simp [D_,hl2',s1,hp,h10',h1',hs0,hbt,h0,hloop,kK]
     | some r =>
      by_cases hv:r≤4294967295
      ·have hv':¬(4294967296:Int)≤r:=by omega
       simp [D_,hl2',s1,hp,h10',h1',hs0,hbt,h0,hloop,hv,hv',kK]
      ·have hv':(4294967296:Int)≤r:=by omega
       simp [D_,hl2',s1,hp,h10',h1',hs0,hbt,h0,hloop,hv,hv',kK]
    ·have hl2':¬(2:Int)≤s.length:=by omega
     have h1':¬(1:Int) < s.length:=by omega
     cases v with
     | none=>simp [D_,hl2',h10',h1',h0,hloop,kK]
     | some r =>
      by_cases hv:r≤4294967295
      ·have hv':¬(4294967296:Int)≤r:=by omega
       simp [D_,hl2',h10',h1',h0,hloop,hv,hv',kK]
      ·have hv':(4294967296:Int)≤r:=by omega
       simp [D_,hl2',h10',h1',h0,hloop,hv,hv',kK]
   exact ahead _ rfl
end
section
open Go Hk
def uK:List (List UInt8):=nI.take 6
def AE:List (List UInt8):=nI.drop 6
def KY:List UInt8:=[32,60,60,32,62,62,32,61,61,32,33,61,32,60,61,32,62,61,32]
def Rs:List UInt8:=[32,40,32,41,32,123,32,125,32,91,32,93,32,44,32,59,32,58,32,61,32,43,32,45,32,42,32,38,32,124,32,94,32,126,32,33,32,60,32,62,32]
def KZ:List UInt8:=[32,102,110,32,112,117,98,32,115,101,99,32,111,117,116,32,108,101,116,32,118,97,114,32,105,102,32,101,108,115,101,32,102,111,114,32,109,97,120,32,114,101,116,117,114,110,32,117,51,50,32,117,56,32,109,97,115,107,32,109,117,108,104,105,32,99,97,114,114,121,32,115,101,108,101,99,116,32,119,111,114,100,32,114,111,114,32]
theorem P0:KY=GH uK:=by decide
theorem PZ:Rs=GH AE:=by decide
theorem P4:KZ=GH tK:=by decide
theorem ahX (a b:UInt8) (ha:a≠32):Hl (32::([a,b]++[32])) KY=decide ([a,b]∈uK):=by
 by_cases hb:b=32
 ·subst hb
  have h1:Hl (32::([a,32]++[32])) KY=false:=by simp [Hl,KY,List.isPrefixOf]
  have h2:¬[a,32]∈uK:=by simp [uK,nI]
  rw [h1,decide_eq_false h2]
 ·rw [P0]
  refine EX [a,b] (by simp [Ne.symm ha,Ne.symm hb]) uK (by decide)
theorem ahW (a:UInt8) (ha:a≠32):Hl (32::([a]++[32])) Rs=decide ([a]∈AE):=by
 rw [PZ]
 exact EX [a] (by simp [Ne.symm ha]) AE (by decide)
theorem Zx (r:List UInt8) (hr:32 ∉ r):Hl (32::(r++[32])) KZ=decide (r∈tK):=by
 rw [P4]
 exact EX r hr tK (by decide)
theorem ID (l:List UInt8) (k:Nat):∀(T:List (List UInt8)),(∀x∈T,x.length=k)→T.find? (fun x=>decide (l.take x.length=x))=if l.take k∈T then some (l.take k) else none
 | [],_=>by simp
 | x::T,h=>by
  have hx:=h x (by simp)
  have ih:=ID l k T (fun y hy=>h y (by simp [hy]))
  rw [List.find?_cons,hx]
  by_cases he:l.take k=x
  ·simp [he]
  ·simp only [he,decide_false,ih,List.mem_cons,false_or]
theorem xQ (l:List UInt8):n9 nI l=if l.take 2∈uK then l.take 2 else if l.take 1∈AE then l.take 1 else []:=by
 have h2:=ID l 2 uK (by decide)
 have h1:=ID l 1 AE (by decide)
 have hs:nI=uK++AE:=by decide
 unfold n9
 rw [hs,List.find?_append,h2,h1]
 by_cases e2:l.take 2∈uK <;> by_cases e1:l.take 1∈AE <;> simp [e2,e1]
theorem Po (s:List UInt8) (hs:s.length≤65536) (h:kL):KK 117 [.str [32,60,60,32,62,62,32,61,61,32,33,61,32,60,61,32,62,61,32],.str s] h=some (.ret (.bool (Hl (32::(s++[32])) KY)),h):=agM KY s (by decide) hs h
theorem LK (s:List UInt8) (hs:s.length≤65536) (h:kL):KK 117 [.str [32,40,32,41,32,123,32,125,32,91,32,93,32,44,32,59,32,58,32,61,32,43,32,45,32,42,32,38,32,124,32,94,32,126,32,33,32,60,32,62,32],.str s] h=some (.ret (.bool (Hl (32::(s++[32])) Rs)),h):=agM Rs s (by decide) hs h
theorem agN (s:List UInt8) (hs:s.length≤65536) (h:kL):KK 117 [.str KZ,.str s] h=some (.ret (.bool (Hl (32::(s++[32])) KZ)),h):=agM KZ s (by decide) hs h
theorem avO (s:List UInt8) (hs:s.length≤65536) (at_:Nat) (ha:at_ < s.length) (hb:s[at_]≠32) (h:kL):KK 115 [.str s,.int .i64 (at_:Nat)] h=some (.ret (.str (n9 nI (s.drop at_))),h):=by
 refine lB rfl rfl (lA (Z_ _ _ _ _) ?_)
 rw [xQ]
 have w2:IntKind.wrap .i64 ((at_:Int)+2)=((at_+2:Nat):Int):=by rw [wrap64] <;> omega
 have w1:IntKind.wrap .i64 ((at_:Int)+1)=((at_+1:Nat):Int):=by rw [wrap64] <;> omega
 have s1:=pY (s:=s) (lo:=some (.int .i64 (at_:Int))) (hi:=some (.int .i64 ((at_+1:Nat):Int))) pQ pQ (by omega) (by omega)
 rw [show at_+1 - at_=1 by omega] at s1
 have t1:(s.drop at_).take 1=[s[at_]]:=by rw [ag8 ha]; rfl
 have i1:=ahW s[at_] hb
 rw [←t1] at i1
 have l1:((s.drop at_).take 1).length≤65536:=by rw [t1]; simp
 by_cases h2:at_+2≤s.length
 ·have h2':((at_+2:Nat):Int)≤s.length:=by omega
  have s2:=pY (s:=s) (lo:=some (.int .i64 (at_:Int))) (hi:=some (.int .i64 ((at_+2:Nat):Int))) pQ pQ (by omega) h2
  rw [show at_+2 - at_=2 by omega] at s2
  have h3:at_+1 < s.length:=by omega
  have t2:(s.drop at_).take 2=[s[at_],s[at_+1]]:=by rw [ag8 ha,ag8 h3]; rfl
  have i2:=ahX s[at_] s[at_+1] hb
  rw [←t2] at i2
  have l2:((s.drop at_).take 2).length≤65536:=by rw [t2]; simp
  generalize (s.drop at_).take 2=x2 at *
  generalize (s.drop at_).take 1=x1 at *
  simp only [ad5,ad3] at w1 w2 s1 s2 h2'
  by_cases e2:x2∈uK
  ·simp [Tg,w1,w2,h2',s2,Po _ l2,i2,e2,kK]
  ·by_cases e1:x1∈AE
   ·simp [Tg,w1,w2,h2',s1,s2,Po _ l2,i2,e2,LK _ l1,i1,e1,kK]
   ·simp [Tg,w1,w2,h2',s1,s2,Po _ l2,i2,e2,LK _ l1,i1,e1,kK]
 ·have h2':¬((at_+2:Nat):Int)≤s.length:=by omega
  have e2:¬(s.drop at_).take 2∈uK:=by
   have hlen:((s.drop at_).take 2).length=1:=by simp; omega
   intro hm
   have:∀x∈uK,x.length=2:=by decide
   have:=this _ hm
   omega
  rw [if_neg e2]
  generalize (s.drop at_).take 1=x1 at *
  simp only [ad5,ad3] at w1 w2 s1 h2'
  by_cases e1:x1∈AE
  ·simp [Tg,w1,w2,h2',s1,LK _ l1,i1,e1,kK]
  ·simp [Tg,w1,w2,h2',s1,LK _ l1,i1,e1,kK]
def H2 (k p q:Int) (t:List UInt8):kL:=[.cells [.int .i64 0,.int .i64 0,.int .i64 0,.str []],.cells [.int .i64 k,.int .i64 p,.int .i64 q,.str t]]
theorem JI {k p q:Int}{t:List UInt8}:l_ 2 [.cells [.int .i64 0,.int .i64 0,.int .i64 0,.str []],.cells [.int .i64 k,.int .i64 p,.int .i64 q,.str t]] =
  some [.cells [.int .i64 0,.int .i64 0,.int .i64 0,.str []],.cells [.int .i64 k,.int .i64 p,.int .i64 q,.str t]]:=by simp [l_]
theorem Wp (s:List UInt8) (hs:s.length≤65536) (at_ n:Nat) (hn:n≤s.length) (k p q:Int) (t:List UInt8) :
  mL (F0 KK 2) ([.str s,.int .i64 (at_:Nat),.ptr 0 0,.int .i64 0,.ptr 1 0,.int .i64 (n:Nat)],H2 k p q t) =
   some (.exit 0,[.str s,.int .i64 (at_:Nat),.ptr 0 0,.int .i64 0,.ptr 1 0,.int .i64 (n+(nF (s.drop n)).length:Nat)],H2 k p q t):=by
 induction hm:s.length - n using am6 generalizing n with
 | _ m ih =>
  rw [mY]
  by_cases h:n < s.length
  ·have hi:s[n]?=some s[n]:=ab8 h
   have h':(n:Int) < s.length:=by omega
   by_cases hw:isWord s[n]=true
   ·have w:IntKind.wrap .i64 ((n:Int)+1)=(n:Int)+1:=by rw [wrap64] <;> omega
    have step:F0 KK 2 ([.str s,.int .i64 (at_:Nat),.ptr 0 0,.int .i64 0,.ptr 1 0,.int .i64 (n:Nat)],H2 k p q t) =
      some (.normal,[.str s,.int .i64 (at_:Nat),.ptr 0 0,.int .i64 0,.ptr 1 0,.int .i64 (n+1:Nat)],H2 k p q t):=by
     cases hl:pF s[n] <;> cases hd:isDigit s[n] <;> simp [isWord,hl,hd] at hw <;>
      simp [F0,H2,h',hi,Pn,J9,hl,hd,w,kW,JI,lD]
    rw [step]
    simp only [ae3,nP]
    rw [ih (s.length - (n+1)) (by omega) (n+1) (by omega) rfl,y5 h,hw]
    simp; omega
   ·have hwf:isWord s[n]=false:=by simpa using hw
    have hl:pF s[n]=false:=by simp [isWord] at hwf; exact hwf.1
    have hd:isDigit s[n]=false:=by simp [isWord] at hwf; exact hwf.2
    rw [y5 h,hwf]
    simp [F0,H2,h',hi,Pn,J9,hl,hd,kW,JI,lD]
  ·have h':¬(n:Int) < s.length:=by omega
   have:s.drop n=[]:=List.drop_eq_nil_of_le (by omega)
   simp [F0,H2,h',this,nF,kW,JI,lD]
theorem Ld (l:List UInt8):∀b∈nF l,isWord b=true:=by
 unfold nF
 induction l with
 | nil=>simp
 | cons c l ih =>
  intro b hb
  by_cases hc:isWord c=true
  ·rw [List.takeWhile_cons,hc] at hb
   rcases List.mem_cons.1 hb with rfl | hb
   ·exact hc
   ·exact ih b hb
  ·rw [List.takeWhile_cons] at hb; simp [hc] at hb
theorem MJ (l:List UInt8):(32:UInt8) ∉ nF l:=fun h=>by
 have:=Ld l 32 h
 simp [isWord,pF,isDigit] at this
theorem Cv {b:UInt8}(h:isDigit b=true):pF b=false:=by
 simp [isDigit] at h
 simp [pF]
 omega
theorem c56 (s:List UInt8) (hs:s.length≤65536) (at_:Nat) (ha:at_ < s.length) (hb:s[at_]≠32) :
  ∃(k p q:Int) (t:List UInt8) (n:Nat),(∀h,KK 56 [.str s,.int .i64 (at_:Nat)] h=some (.ret (.tuple [.agg [.int .i64 k,.int .i64 p,.int .i64 q,.str t],.int .i64 (n:Nat)]),h)) ∧
   match tV (s.drop at_) at_ with
   | some (u,m)=>[kH.int .i64 k,.int .i64 p,.int .i64 q,.str t]=u.cells∧n=m
   | none=>n=0:=by
 have hi:s[at_]?=some s[at_]:=ab8 ha
 have hcons:=ag8 ha
 have hrl:=Ff (s.drop at_)
 simp only [am1] at hrl
 have hone:tV (s.drop at_) at_=if pF s[at_] then(if 40 < (nF (s.drop at_)).length then none else some (⟨if nF (s.drop at_)∈tK then 3 else 1,at_,0,nF (s.drop at_)⟩,(nF (s.drop at_)).length))
  else if isDigit s[at_] then(match qR (nF (s.drop at_)) with | none=>none | some n=>some (⟨2,at_,n,[]⟩,(nF (s.drop at_)).length))
  else if n9 nI (s.drop at_)=[] then none else some (⟨4,at_,0,n9 nI (s.drop at_)⟩,(n9 nI (s.drop at_)).length):=by
  rw [hcons]; rfl
 rw [hone]
 have hloop:=fun k p q t=>Wp s hs at_ at_ (Nat.le_of_lt ha) k p q t
 have hsl:=pY (s:=s) (lo:=some (.int .i64 (at_:Int))) (hi:=some (.int .i64 ((at_+(nF (s.drop at_)).length:Nat):Int))) pQ pQ (by omega) (by omega)
 rw [show at_+(nF (s.drop at_)).length - at_=(nF (s.drop at_)).length by omega,JF] at hsl
 have hW:=agN (nF (s.drop at_)) (by omega)
 rw [Zx _ (MJ _)] at hW
 have hnum:=avP (nF (s.drop at_)) (by omega)
 have hr0:isWord s[at_]=true→nF (s.drop at_)≠[]:=fun h=>by rw [y5 ha,h]; simp
 have h117:=avO s hs at_ ha hb
 generalize nF (s.drop at_)=r at *
 generalize n9 nI (s.drop at_)=x at *
 have ws:IntKind.wrap .i64 ((at_:Int)+r.length - at_)=r.length:=by rw [wrap64] <;> omega
 simp only [H2,ad5] at hloop hsl
 simp only [KZ] at hW
 by_cases hl:pF s[at_]=true
 ·have hd:isDigit s[at_]=false:=by
   cases hd:isDigit s[at_] with
   | false=>rfl
   | true=>rw [Cv hd] at hl; cases hl
  by_cases h40:40 < r.length
  ·have h40':(40:Int) < r.length:=by omega
   refine⟨if r∈tK then 3 else 1,at_,0,r,0,fun h=>lB rfl rfl (lA (I6 _ _ _ _) ?_),by simp [hl,h40]⟩
   by_cases hm:r∈tK <;>
    simp [m56,hi,lR,lO,lC,putCells,Pn,J9,hl,hd,hloop,hsl,hW,hm,ws,h40',nB,o8,k_,oR,lM,mU,kK]
  ·have h40':¬(40:Int) < r.length:=by omega
   refine⟨if r∈tK then 3 else 1,at_,0,r,r.length,fun h=>lB rfl rfl (lA (I6 _ _ _ _) ?_),?_⟩
   ·by_cases hm:r∈tK <;>
     simp [m56,hi,lR,lO,lC,putCells,Pn,J9,hl,hd,hloop,hsl,hW,hm,ws,h40',nB,o8,k_,oR,lM,mU,kK]
   ·by_cases hm:r∈tK <;> simp [hl,h40,hm,Token.cells]
 ·have hlf:pF s[at_]=false:=by simpa using hl
  by_cases hd:isDigit s[at_]=true
  ·have hr:=hr0 (by simp [isWord,hd])
   have hn:=hnum hr
   cases hv:qR r with
   | none =>
    have hnI:Qe r=-1:=by simp [Qe,hv]
    rw [hnI] at hn
    refine⟨2,at_,-1,[],0,fun h=>lB rfl rfl (lA (I6 _ _ _ _) ?_),by simp [hlf,hd]⟩
    simp [m56,hi,lR,lO,lC,putCells,Pn,J9,hlf,hd,hloop,hsl,hn,nB,o8,k_,oR,lM,mU,kK]
   | some v =>
    have hnI:Qe r=v:=by simp [Qe,hv]
    rw [hnI] at hn
    have hneg:¬(v:Int) < 0:=by omega
    refine⟨2,at_,v,[],r.length,fun h=>lB rfl rfl (lA (I6 _ _ _ _) ?_),by simp [hlf,hd,Token.cells]⟩
    simp [m56,hi,lR,lO,lC,putCells,Pn,J9,hlf,hd,hloop,hsl,hn,hneg,ws,nB,o8,k_,oR,lM,mU,kK]
  ·have hdf:isDigit s[at_]=false:=by simpa using hd
   refine⟨4,at_,0,x,x.length,fun h=>lB rfl rfl (lA (I6 _ _ _ _) ?_),?_⟩
   ·simp [m56,hi,lR,lO,lC,putCells,Pn,J9,hlf,hdf,h117,nB,o8,k_,oR,lM,mU,kK]
   ·by_cases hx:x=[]
    ·simp [hlf,hdf,hx]
    ·simp [hlf,hdf,hx,Token.cells]
end
section
open Go Hk
theorem Gg (s:List UInt8) (a:Nat) (h:lN s a < s.length):pO s[lN s a]=false:=by
 fun_induction lN s a with
 | case1 a h1 h2 ih=>exact ih h
 | case2 a h1 h2 h3 ih=>exact ih h
 | case3 a h1 h2 h3=>simpa using h2
 | case4 a h1=>exact absurd h h1
theorem Mz {b:UInt8}(h:pO b=false):b≠32:=by
 intro e; subst e; simp [pO] at h
def HR (e p:Int) (n sz:Nat):kL:=[.front 0 0,.cells [.int .i64 e,.int .i64 p],.front n sz]
theorem JJ {e p:Int}{n sz:Nat}{bs:kL}:l_ 3 (.front 0 0::.cells [.int .i64 e,.int .i64 p]::.front n sz::bs)=some [.front 0 0,.cells [.int .i64 e,.int .i64 p],.front n sz]:=by simp [l_]
theorem We (s:List UInt8) (hs:s.length≤65536) (a0:Nat) (ha:a0≤s.length) (out:List Token) (ho:out.length≤a0) :
  (∃(l:List Token) (n sz:Nat),n=l.length∧l.length≤65536∧(sz=4∨l=[]∧sz=0)∧lexFrom s a0 out=(l++[⟨0,s.length,0,[]⟩],0,0) ∧
   mL (Ee KK 3) ([.str s,.slice [] (.own 0),.ptr 1 0,.slice (out.map Token.cells) (.own 2),.int .i64 (lN s a0:Nat)],HR 0 0 out.length (uV (out.map Token.cells))) =
    some (.exit 0,[.str s,.slice [] (.own 0),.ptr 1 0,.slice (l.map Token.cells) (.own 2),.int .i64 (s.length:Nat)],HR 0 0 n sz)) ∨
  (∃(p:Nat) (v:kH) (at':Int) (n sz:Nat),lexFrom s a0 out=([],9,p) ∧
   mL (Ee KK 3) ([.str s,.slice [] (.own 0),.ptr 1 0,.slice (out.map Token.cells) (.own 2),.int .i64 (lN s a0:Nat)],HR 0 0 out.length (uV (out.map Token.cells))) =
    some (.ret,[.str s,.slice [] .no,.ptr 1 0,v,.int .i64 at'],HR 9 p n sz)):=by
 induction hn:s.length - a0 using am6 generalizing a0 out with
 | _ n ih =>
  rw [mY]
  have hge:=vC s a0
  have hle:=Lh s a0 ha
  rw [lexFrom]
  by_cases h:lN s a0 < s.length
  ·have h':(lN s a0:Int) < s.length:=by omega
   obtain⟨k,p,q,t,m,hc,hm⟩:=c56 s hs (lN s a0) h (Mz (Gg s a0 h))
   simp only [h,dite_true]
   cases hone:tV (s.drop (lN s a0)) (lN s a0) with
   | none =>
    rw [hone] at hm
    simp only [] at hm
    subst hm
    right
    refine⟨lN s a0,.slice (out.map Token.cells) (.own 2),(lN s a0:Nat),out.length,uV (out.map Token.cells),rfl,?_⟩
    simp only [Int.ofNat_eq_natCast,ad3] at hc
    simp [Ee,HR,h',hc,lO,lC,lR,putCells,kW,JJ,lD]
   | some tn =>
    obtain⟨u,m'⟩:=tn
    rw [hone] at hm
    obtain⟨hcell,rfl⟩:=hm
    obtain⟨hk1,hk2⟩:=BL hone
    simp only [am1] at hk2
    have hmax:max 1 m=m:=by omega
    have w:IntKind.wrap .i64 ((lN s a0:Int)+m)=(lN s a0:Int)+m:=by rw [wrap64] <;> omega
    have h56:=c55 s hs (lN s a0+m) (by omega)
    have hm0:¬((m:Int)=0):=by omega
    have hm1:¬m=0:=by omega
    rw [hcell] at hc
    have step:Ee KK 3 ([.str s,.slice [] (.own 0),.ptr 1 0,.slice (out.map Token.cells) (.own 2),.int .i64 (lN s a0:Nat)],HR 0 0 out.length (uV (out.map Token.cells))) =
      some (.normal,[.str s,.slice [] (.own 0),.ptr 1 0,.slice ((out++[u]).map Token.cells) (.own 2),.int .i64 (lN s (lN s a0+m):Nat)],HR 0 0 (out++[u]).length (uV ((out++[u]).map Token.cells))):=by
     have h1:(out.length+1) * 40≤140737488355328:=by omega
     have h2:out.length+1≤140737488355328:=by omega
     have h3:uV (out.map Token.cells)=4∨out.length=0∧uV (out.map Token.cells)=0:=by cases out <;> simp [uV]
     have hap:mB 4 40 [.front 0 0,.cells [.int .i64 0,.int .i64 0],.front out.length (uV (out.map Token.cells)),.cells u.cells,.front 1 4] (.slice (out.map Token.cells) (.own 2)) (.slice [u.cells] (.own 4)) =
       some (.slice (out.map Token.cells++[u.cells]) (.own 2),[.front 0 0,.cells [.int .i64 0,.int .i64 0],.front (out.length+1) 4,.cells u.cells,.front 1 4]):=by
      have hall:[u.cells].all (fun r=>r.length == 4)=true:=rfl
      have hget:([.front 0 0,.cells [.int .i64 0,.int .i64 0],.front out.length (uV (out.map Token.cells)),.cells u.cells,.front 1 4]:kL)[2]?=some (.front out.length (uV (out.map Token.cells))):=rfl
      simp only [mB,p8,hall,if_true,hget,al2,ab0,ab3,al0,h1,h2,h3,and_self]
      rfl
     simp only [ad5] at h56
     simp only [Token.cells] at hap
     have hfr:=CU (out.map Token.cells) u.cells
     simp only [Token.cells] at hfr
     simp [Ee,HR,h',hc,Token.cells,lO,lC,lR,putCells,hm0,hm1,kU,rW,nK,kH.A_,rowsOf,hap,w,h56,kW,JJ,lD,hfr]
    rw [step]
    simp only [ae3,nP,hmax]
    exact ih (s.length - (lN s a0+m)) (by omega) (lN s a0+m) (by omega) (out++[u]) (by simp; omega) rfl
  ·have heq:lN s a0=s.length:=by omega
   left
   simp only [h,dite_false]
   refine⟨out,out.length,uV (out.map Token.cells),rfl,by omega,by cases out <;> simp [uV],rfl,?_⟩
   rw [heq]
   simp [Ee,HR,kW,JJ,lD]
theorem c28 (s:List UInt8) (h:kL):KK 28 [.str s] h=some (.ret (.tuple [.slice ((oL s).1.map Token.cells) .no,.agg [.int .i64 ((oL s).2.1:Nat),.int .i64 ((oL s).2.2:Nat)]]),h):=by
 refine lB rfl rfl (lA (ai2 _ _ _) ?_)
 by_cases hs:65536 < s.length
 ·have hs':(65536:Int) < s.length:=by omega
  simp [m28,lO,lC,lR,putCells,hs',oL,hs,kK]
 ·have hs':¬(65536:Int) < s.length:=by omega
  have hlex:oL s=lexFrom s 0 []:=by simp [oL,hs]
  have h56:=c55 s (by omega) 0 (al7 _)
  simp only [Int.ofNat_eq_natCast,ad3] at h56
  rw [hlex]
  rcases We s (by omega) 0 (al7 _) [] (al7 _) with ⟨l,n,sz,hn,hl,hsz,hlx,hlp⟩ | ⟨p,v,at',n,sz,hlx,hlp⟩
  ·rw [hlx]
   subst hn
   simp only [HR,al1,ab3,uV] at hlp
   have h1:(l.length+1) * 40≤140737488355328:=by omega
   have h2:l.length+1≤140737488355328:=by omega
   have h3:sz=4∨l.length=0∧sz=0:=by
    rcases hsz with h | ⟨h,h'⟩
    ·exact .inl h
    ·exact .inr ⟨by simp [h],h'⟩
   have hap:mB 4 40 [.front 0 0,.cells [.int .i64 0,.int .i64 0],.front l.length sz,.front 1 4] (.slice (l.map Token.cells) (.own 2)) (.slice [[.int .i64 0,.int .i64 (s.length:Nat),.int .i64 0,.str []]] (.own 3)) =
     some (.slice (l.map Token.cells++[[.int .i64 0,.int .i64 (s.length:Nat),.int .i64 0,.str []]]) (.own 2),[.front 0 0,.cells [.int .i64 0,.int .i64 0],.front (l.length+1) 4,.front 1 4]):=by
    have hget:([.front 0 0,.cells [.int .i64 0,.int .i64 0],.front l.length sz,.front 1 4]:kL)[2]?=some (.front l.length sz):=rfl
    have hall:([[.int .i64 0,.int .i64 (s.length:Nat),.int .i64 0,.str []]]:List (List kH)).all (fun r=>r.length == 4)=true:=rfl
    simp only [mB,p8,hall,if_true,hget,al2,ab0,ab3,al0,h1,h2,h3,and_self]
    rfl
   simp [m28,lO,lC,lR,putCells,hs',h56,hlp,kU,rW,nK,kH.A_,rowsOf,hap,kK,Token.cells]
  ·rw [hlx]
   simp only [HR,al1,ab3,uV] at hlp
   simp [m28,lO,lC,lR,putCells,hs',h56,hlp,kK]
end
section
open Go Hk
theorem Oa (s:List UInt8) (a:Nat) (out:List Token) (ha:a≤s.length):(lexFrom s a out).1.length≤out.length+(s.length - a)+1:=by
 fun_induction lexFrom s a out with
 | case1 a out h h1=>simp
 | case2 a out h t n h1 ih =>
  have:=BL h1
  simp only [am1] at this
  have hge:=vC s a
  have:=ih (by omega)
  simp at this
  omega
 | case3 a out h=>simp
theorem CX (s:List UInt8):(oL s).1.length≤65537:=by
 unfold oL
 split
 ·simp
 ·have:=Oa s 0 [] (al7 _)
  simp at this
  omega
theorem qN {s:List UInt8}{a a' n:Nat}{out:List Token}{t:Token}(h1:lN s a=a') (h2:a' < s.length) (h3:tV (s.drop a') a'=some (t,n)) {a2:Nat}(h4:a'+max 1 n=a2):lexFrom s a out=lexFrom s a2 (out++[t]):=by
 subst h1; subst h4
 rw [lexFrom,dif_pos h2,h3]
theorem A1 {s:List UInt8}{a a':Nat}{out:List Token}(h1:lN s a=a') (h2:a' < s.length) (h3:tV (s.drop a') a'=none):lexFrom s a out=([],9,a'):=by
 subst h1
 rw [lexFrom,dif_pos h2,h3]
theorem A2 {s:List UInt8}{a:Nat}{out:List Token}(h1:¬lN s a < s.length):lexFrom s a out=(out++[⟨0,s.length,0,[]⟩],0,0):=by
 rw [lexFrom,dif_neg h1]
end
section
open Go Hk

end
section
open Go Hk
theorem RH {l:List UInt8}{a n:Nat}{t:Token}(h:tV l a=some (t,n)):t.pos=a:=by
 unfold tV at h
 cases l with
 | nil=>cases h
 | cons b r =>
  simp only [] at h
  split at h
  ·split at h
   ·cases h
   ·simp only [ab1,ae5] at h; rw [←h.1]
  ·split at h
   ·split at h
    ·cases h
    ·simp only [ab1,ae5] at h; rw [←h.1]
   ·split at h
    ·cases h
    ·simp only [ab1,ae5] at h; rw [←h.1]
section
variable (s:List UInt8) (A B C:List Token) (L:Nat) (e p f q g o:Int)
end
end
section
open Go Hk
section
variable (s t:List UInt8)
end
end
section
open Go Hk
def AQ (n:Nat) (acc:List UInt8):List UInt8:=if n=0 then acc else AQ (n / 10) (am7 (48+n % 10)::acc)
termination_by n
decreasing_by omega
def CH (n:Nat):List UInt8:=if n=0 then [48] else AQ n []
theorem FJ (n:Nat):(am7 (48+n % 10)).toNat=48+n % 10:=by
 rw [UInt8.toNat_ofNat']; omega
theorem U7 (n:Nat):isDigit (am7 (48+n % 10))=true:=by
 unfold isDigit; rw [FJ]; simp; omega
theorem Zg (n:Nat):rB false (am7 (48+n % 10))=some (n % 10):=by
 unfold rB; rw [if_pos (U7 n),FJ]; congr 1; omega
theorem Va (n:Nat):∀acc,n≤4294967295→nN false (AQ n acc) 0=nN false acc n:=by
 induction n using am6 with
 | _ n ih =>
  intro acc hn
  rw [AQ]
  by_cases h:n=0
  ·rw [if_pos h,h]
  ·rw [if_neg h,ih (n / 10) (by omega) _ (by omega)]
   simp only [nN,Zg]
   have e:mG false * (n / 10)+n % 10=n:=by simp only [mG]; simp; omega
   rw [e,if_neg (by omega)]
theorem U9 (n:Nat):∀acc,(∀b∈acc,isDigit b=true)→∀b∈AQ n acc,isDigit b=true:=by
 induction n using am6 with
 | _ n ih =>
  intro acc ha
  rw [AQ]
  by_cases h:n=0
  ·rw [if_pos h]; exact ha
  ·rw [if_neg h]
   refine ih (n / 10) (by omega) _ ?_
   intro b hb
   rcases List.mem_cons.1 hb with rfl | hb
   ·exact U7 n
   ·exact ha b hb
theorem KN (n:Nat):∀acc,n≠0→∃c r,AQ n acc=c::r∧c≠48:=by
 induction n using am6 with
 | _ n ih =>
  intro acc h
  rw [AQ,if_neg h]
  by_cases h2:n / 10=0
  ·rw [AQ,if_pos h2]
   refine⟨_,_,rfl,fun e=>?_⟩
   have:=congrArg UInt8.toNat e
   rw [FJ] at this
   simp at this
   omega
  ·exact ih (n / 10) (by omega) _ h2
theorem Iu (n:Nat):∀b∈CH n,isDigit b=true:=by
 unfold CH
 split
 ·intro b hb
  obtain rfl:b=48:=(by simpa using hb)
  decide
 ·exact U9 n [] (by simp)
theorem Q9 (n:Nat):∃c r,CH n=c::r:=by
 unfold CH
 split
 ·exact⟨_,_,rfl⟩
 ·obtain⟨c,r,h,_⟩:=KN n [] (by assumption); exact⟨c,r,h⟩
theorem SI:isDigit 120=false:=by decide
theorem Om (n:Nat) (hn:n≤4294967295):qR (CH n)=some n:=by
 have hall:=Iu n
 have h2:¬(CH n).take 2=[48,120]:=by
  intro h
  have:(120:UInt8)∈(CH n).take 2:=by rw [h]; simp
  have:=hall _ (List.mem_of_mem_take this)
  rw [SI] at this; cases this
 unfold qR
 rw [if_neg h2]
 unfold CH
 by_cases h:n=0
 ·rw [if_pos h,if_neg (by simp),h]; decide
 ·rw [if_neg h]
  obtain⟨c,r,e,hc⟩:=KN n [] h
  rw [if_neg (by rw [e]; simp [hc]),Va n [] hn]
  rfl
theorem Jo:∀(d r:List UInt8),(∀b∈d,isDigit b=true)→nF (d++32::r)=d
 | [],r,_=>by
  have:isWord 32=false:=by decide
  simp [nF,List.takeWhile_cons,this]
 | b::d,r,h=>by
  have hb:isWord b=true:=by simp [isWord,h b (by simp)]
  have ih:=Jo d r (fun x hx=>h x (by simp [hx]))
  unfold nF at ih ⊢
  simp [List.takeWhile_cons,hb,ih]
theorem Jq:∀(d r:List UInt8),(∀b∈d,isWord b=true)→nF (d++32::r)=d
 | [],r,_=>by
  have:isWord 32=false:=by decide
  simp [nF,List.takeWhile_cons,this]
 | b::d,r,h=>by
  have ih:=Jq d r (fun x hx=>h x (by simp [hx]))
  unfold nF at ih ⊢
  simp [List.takeWhile_cons,h b (by simp),ih]
theorem QH (hex:Bool):∀(l:List UInt8) (n r:Nat),n≤4294967295→nN hex l n=some r→r≤4294967295
 | [],n,r,hn,h=>by simp only [nN,ab1] at h; omega
 | b::l,n,r,hn,h=>by
  simp only [nN] at h
  split at h
  ·cases h
  ·split at h
   ·cases h
   ·exact QH hex l _ r (by omega) h
theorem Qf {l:List UInt8}{n:Nat}(h:qR l=some n):n≤4294967295:=by
 unfold qR at h
 split at h
 ·split at h
  ·cases h
  ·exact QH true _ 0 n (by omega) h
 ·split at h
  ·cases h
  ·exact QH false _ 0 n (by omega) h
def written (x:Token):List UInt8:=if x.kind=2 then CH x.num else x.text
def E9 (x:Token) (p:Nat):Token:={ x with pos:=p }
def Good (x:Token):Prop:=x.kind≠0∧x.num≤4294967295∧x.text.length≤65536∧(∃b r,written x=b::r∧pO b=false∧b≠47)∧∀rest p,tV (written x++32::rest) p=some (E9 x p,(written x).length)
theorem S_ {b:UInt8}(h:pF b=true):pO b=false∧b≠47:=by
 constructor
 ·simp [pF,pO] at h ⊢; omega
 ·rintro rfl; revert h; decide
theorem U8 {b:UInt8}(h:isDigit b=true):pO b=false∧b≠47:=by
 constructor
 ·simp [isDigit,pO] at h ⊢; omega
 ·rintro rfl; revert h; decide
theorem TR:∀x∈nI,x.length≤2∧∃b r,x=b::r∧pO b=false∧b≠47∧pF b=false∧isDigit b=false:=by
 intro x hx
 have:nI.all (fun x=>decide (x.length≤2) && (match x with | []=>false | b::_=>!pO b && decide (b≠47) && !pF b && !isDigit b))=true:=by decide
 have h:=List.all_eq_true.1 this x hx
 cases x with
 | nil=>simp at h
 | cons b r =>
  simp only [Bool.and_eq_true,decide_eq_true_eq,Bool.not_eq_true'] at h
  exact⟨h.1,b,r,rfl,h.2.1.1.1,h.2.1.1.2,h.2.1.2,h.2.2⟩
theorem Xm {l:List UInt8}(h:n9 nI l≠[]):n9 nI l∈nI∧l.take (n9 nI l).length=n9 nI l:=by
 unfold n9 at h ⊢
 cases hf:nI.find? (fun x=>decide (l.take x.length=x)) with
 | none=>rw [hf] at h; exact absurd rfl h
 | some x =>
  simp only [Option.getD_some]
  exact⟨List.mem_of_find?_eq_some hf,by simpa using List.find?_some hf⟩
theorem Qs {x:List UInt8}(hx:x∈nI) (rest:List UInt8):n9 nI (x++32::rest)=x:=by
 rw [xQ]
 have hs:nI=uK++AE:=by decide
 rw [hs] at hx
 rcases List.mem_append.1 hx with h | h
 ·have hl:x.length=2:=(by decide:∀y∈uK,y.length=2) x h
  have e:(x++32::rest).take 2=x:=by rw [←hl]; simp
  rw [e,if_pos h]
 ·have hl:x.length=1:=(by decide:∀y∈AE,y.length=1) x h
  have e:(x++32::rest).take 1=x:=by rw [←hl]; simp
  have e2:(x++32::rest).take 2=x++[32]:=by
   match x,hl with
   | [b],_=>rfl
  have h2:¬x++[32]∈uK:=by
   intro h3
   have:=(by decide:∀y∈uK,(32:UInt8) ∉ y) _ h3
   simp at this
  rw [e,e2,if_neg h2,if_pos h]
theorem Zs {d:List UInt8}{a n:Nat}{x:Token}(h:tV d a=some (x,n)):Good x∧(x.kind≠2→d.take x.text.length=x.text):=by
 unfold tV at h
 cases d with
 | nil=>cases h
 | cons b r =>
  simp only [] at h
  by_cases h1:pF b=true
  ·rw [if_pos h1] at h
   have hrun:nF (b::r)=b::nF r:=by simp [nF,List.takeWhile_cons,isWord,h1]
   have hw:=Ld (b::r)
   have htk:=JF (b::r)
   split at h
   ·cases h
   ·rename_i h40
    simp only [ab1,ae5] at h
    obtain⟨rfl,_⟩:=h
    have hk2:¬(if nF (b::r)∈tK then 3 else 1)=2:=by split <;> omega
    have hwr:written ⟨if nF (b::r)∈tK then 3 else 1,a,0,nF (b::r)⟩=nF (b::r):=by unfold written; rw [if_neg hk2]
    obtain⟨o1,o2⟩:=S_ h1
    refine⟨⟨by show(if _ then _ else _)≠_; split <;> omega,al7 _,by show(nF (b::r)).length≤_; omega,⟨b,nF r,by rw [hwr,hrun],o1,o2⟩,fun rest p=>?_⟩,fun _=>htk⟩
    rw [hwr]
    have hag:=Jq (nF (b::r)) rest hw
    generalize nF (b::r)=w at *
    subst hrun
    unfold tV
    simp only [ae8] at hag ⊢
    rw [if_pos h1]
    simp only [hag]
    rw [if_neg h40]
    rfl
  ·rw [if_neg h1] at h
   by_cases h2:isDigit b=true
   ·rw [if_pos h2] at h
    split at h
    ·cases h
    ·rename_i m hm
     simp only [ab1,ae5] at h
     obtain⟨rfl,_⟩:=h
     have hm':=Qf hm
     have hwr:written ⟨2,a,m,[]⟩=CH m:=by unfold written; rw [if_pos rfl]
     obtain⟨c,q,hc⟩:=Q9 m
     have hcd:isDigit c=true:=Iu m c (by rw [hc]; simp)
     obtain⟨o1,o2⟩:=U8 hcd
     refine⟨⟨by show(2:Nat)≠0; decide,hm',by simp,⟨c,q,by rw [hwr,hc],o1,o2⟩,fun rest p=>?_⟩,fun hk=>absurd rfl hk⟩
     rw [hwr]
     have hag:=Jo (CH m) rest (Iu m)
     have hnum:=Om m hm'
     rw [hc] at hag hnum ⊢
     unfold tV
     simp only [ae8] at hag ⊢
     rw [if_neg (by rw [Cv hcd]; decide),if_pos hcd,hag,hnum]
     rfl
   ·rw [if_neg h2] at h
    split at h
    ·cases h
    ·rename_i h3
     simp only [ab1,ae5] at h
     obtain⟨rfl,_⟩:=h
     obtain⟨hm,htk⟩:=Xm h3
     obtain⟨hl,c,q,hc,o1,o2,o3,o4⟩:=TR _ hm
     have hwr:written ⟨4,a,0,n9 nI (b::r)⟩=n9 nI (b::r):=by unfold written; rw [if_neg (by show ¬(4:Nat)=2; decide)]
     refine⟨⟨by show(4:Nat)≠0; decide,al7 _,by show(n9 nI (b::r)).length≤_; omega,⟨c,q,by rw [hwr,hc],o1,o2⟩,fun rest p=>?_⟩,fun _=>htk⟩
     rw [hwr]
     have hag:=Qs hm rest
     generalize n9 nI (b::r)=w at *
     subst hc
     unfold tV
     simp only [ae8] at hag ⊢
     rw [if_neg (by rw [o3]; decide),if_neg (by rw [o4]; decide),hag,if_neg (by simp)]
     rfl
end
section
open Go Hk
theorem SJ {n:Nat}{acc:List UInt8}(h:0 < n):AQ n acc=AQ (n / 10) (am7 (48+n % 10)::acc):=by
 rw [AQ.eq_1 n,if_neg (by omega)]
theorem arO {n:Int}:kR .rem (.int .i64 n) (.int .i64 10)=some (.int .i64 (n.tmod 10)):=(rfl)
theorem arD {n:Int}:kR .quo (.int .i64 n) (.int .i64 10)=some (.int .i64 (IntKind.wrap .i64 (n.tdiv 10))):=(rfl)
theorem agJ {x:Int}{h:kL}:kU 1 1 [.int .u8 0] [(0,.int .u8 x)] h=some (.slice [[.int .u8 x]] (.own h.length),h++[.front 1 1]):=(rfl)
theorem agK {m:Int}{t:Tok}:uZ (.slice [[.int .u8 m]] t)=some (.str [am7 m.toNat]):=(rfl)
theorem RZ {k p q:Int}{t:List UInt8}{bs:kL}:l_ 1 (.cells [.int .i64 k,.int .i64 p,.int .i64 q,.str t]::bs)=some [.cells [.int .i64 k,.int .i64 p,.int .i64 q,.str t]]:=by simp [l_]
theorem WB (k p q:Int) (t:List UInt8) (n:Nat) (hn:n≤4294967295) (acc:List UInt8) (ha:acc.length+n≤8589934590) :
  mL (I8 KK 1) ([.str [],.str acc,.int .i64 (n:Nat)],[.cells [.int .i64 k,.int .i64 p,.int .i64 q,.str t]]) =
   some (.exit 0,[.str [],.str (AQ n acc),.int .i64 0],[.cells [.int .i64 k,.int .i64 p,.int .i64 q,.str t]]):=by
 induction n using am6 generalizing acc with
 | _ n ih =>
  rw [mY]
  by_cases h:0 < n
  ·have h':(0:Int) < n:=by omega
   have e1:Int.tmod (n:Int) 10=((n % 10:Nat):Int):=by rw [Int.tmod_eq_emod_of_nonneg (by omega)]; omega
   have e2:Int.tdiv (n:Int) 10=((n / 10:Nat):Int):=by rw [Int.tdiv_eq_ediv_of_nonneg (by omega)]; omega
   have w1:IntKind.wrap .i64 (48+((n % 10:Nat):Int))=((48+n % 10:Nat):Int):=by rw [wrap64] <;> omega
   have w2:IntKind.wrap .u8 ((48+n % 10:Nat):Int)=((48+n % 10:Nat):Int):=XG (by omega) (by omega)
   have e3:(48+((n % 10:Nat):Int)).toNat=48+n % 10:=by omega
   have w0:IntKind.wrap .i64 ((n / 10:Nat):Int)=((n / 10:Nat):Int):=by rw [wrap64] <;> omega
   have b1:acc.length+1≤4611686018427387904:=by omega
   have b2:1+acc.length≤4611686018427387904:=by omega
   have step:I8 KK 1 ([.str [],.str acc,.int .i64 (n:Nat)],[.cells [.int .i64 k,.int .i64 p,.int .i64 q,.str t]]) =
     some (.normal,[.str [],.str (am7 (48+n % 10)::acc),.int .i64 (n / 10:Nat)],[.cells [.int .i64 k,.int .i64 p,.int .i64 q,.str t]]):=by
    simp only [ad5,ad3] at w1 w2
    generalize hx:n % 10=x at *
    generalize hy:n / 10=y at *
    simp [I8,h,h',arO,arD,agJ,agK,e1,e2,e3,w0,w1,w2,b1,b2,RZ,kW]
   rw [step]
   simp only [ae3,nP]
   rw [SJ h]
   exact ih (n / 10) (by omega) (by omega) _ (by simp only [ab0]; omega)
  ·obtain rfl:n=0:=by omega
   rw [AQ]
   simp [I8,RZ,kW]
theorem c90 (x:Token) (hn:x.num≤4294967295) (h:kL):KK 90 [.agg x.cells] h=some (.ret (.str (written x)),h):=by
 refine lB rfl rfl (lA (akA _ _ _) ?_)
 obtain⟨k,p,q,t⟩:=x
 simp only [] at hn
 by_cases hk:k=2
 ·subst hk
  by_cases hq:q=0
  ·subst hq
   simp -implicitDefEqProofs [m90,Token.cells,lO,lC,putCells,written,CH,kK]
  ·have hq':¬(q:Int)≤0:=by omega
   have hlp:=WB ((2:Nat):Int) (p:Nat) (q:Nat) t q hn [] (by simp; omega)
   simp only [Int.ofNat_eq_natCast,ad3] at hlp
   simp -implicitDefEqProofs [m90,Token.cells,lO,lC,putCells,hq,hq',hlp,written,CH,kK]
 ·have hk':¬(k:Int)=2:=by omega
  simp -implicitDefEqProofs [m90,Token.cells,lO,lC,putCells,hk,hk',written,kK]
end
section
open Go Hk
section
variable (s:List UInt8) (A:List Token) (L:Nat) (T:List UInt8) (ps:List Nat) (sz i:Nat) (x:Token)
end
end
section
open Go Hk
def Fact (s:List UInt8) (x:Token):Prop:=x.pos < s.length∧Good x∧(x.kind≠2→(s.drop x.pos).take x.text.length=x.text)
theorem Bn (s:List UInt8) (a:Nat) (out:List Token):(∃p,lexFrom s a out=([],9,p)) ∨
  ∃l,lexFrom s a out=(out++l++[⟨0,s.length,0,[]⟩],0,0)∧(∀x∈l,a≤x.pos∧Fact s x)∧l.Pairwise (fun x y=>x.pos < y.pos):=by
 induction hm:s.length - a using am6 generalizing a out with
 | _ m ih =>
  have hge:=vC s a
  by_cases hlt:lN s a < s.length
  ·cases h3:tV (s.drop (lN s a)) (lN s a) with
   | none=>exact .inl ⟨_,A1 rfl hlt h3⟩
   | some x =>
    obtain⟨y,n⟩:=x
    have hy:=RH h3
    have hgood:=Zs h3
    rcases ih (s.length - (lN s a+max 1 n)) (by omega) (lN s a+max 1 n) (out++[y]) rfl with ⟨p,h⟩ | ⟨l,h,h1,h2⟩
    ·exact .inl ⟨p,(qN rfl hlt h3 rfl).trans h⟩
    ·refine .inr ⟨y::l,(qN rfl hlt h3 rfl).trans (h.trans (by simp)),?_,?_⟩
     ·intro z hz
      rcases List.mem_cons.1 hz with rfl | hz
      ·exact⟨by omega,by omega,hgood.1,by rw [hy]; exact hgood.2⟩
      ·exact⟨by have:=(h1 z hz).1; omega,(h1 z hz).2⟩
     ·refine List.pairwise_cons.2 ⟨fun z hz=>?_,h2⟩
      have:=(h1 z hz).1
      omega
  ·exact .inr ⟨[],(A2 hlt).trans (by simp),by simp,List.Pairwise.nil⟩
section
variable (s:List UInt8) (l:List Token)
end
end
section
open Go Hk
section
variable (s:List UInt8)
end
end
end Go.Proofs.YtlddmnojanpdoaaGreatDoor
