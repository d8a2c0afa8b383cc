/-
  The texts LG.M, LG.A, LG.B, LG.C, LG.D, LG.E, LG.F, LG.G, LG.H, LG.I, LG.J, LG.K, LG.N, LG.O, LG.P, LG.Q, LG.R, LG.S, LG.U, LG.V, one behind another. No conditions.
-/
import Derived.Test.YtlddmnojanpdoaaGreatDoorProg
import Derived.Test.YtlddmnojanpdoaaGreatDoorPVk3
import Derived.KernelRfl
set_option linter.unusedVariables false
set_option linter.unusedSimpArgs false
set_option linter.all false
open Bool renaming false_eq_true → ak4
open Int renaming cast_ofNat_Int → ae8, natCast_add → ag9
open List renaming cons_append → af5, drop_eq_getElem_cons → aj8, getD → am0, getElem?_eq_getElem → ac1, getElem?_eq_some_iff → ab2, length → ab7, length_cons → am1, length_map → ak1, length_nil → am3, takeWhile_cons → ao5
open Nat renaming le_refl → ac9, mul_le_mul_right → ag8, zero_add → al7, zero_le → ak5
open Option renaming bind_some → an3
open Option.some renaming injEq → ab3
open Prod.mk renaming injEq → af1
namespace Go.Proofs.YtlddmnojanpdoaaGreatDoor
noncomputable section
open Go Hk
def Ts:List Int:=[0,0,0,0,0,0,0,0,0,1,1,1,1,1,0,0,0,0,0,0,0,0,0,0,0,0,0,0,0,0,0,0,1,0,0,0,0,0,0,0,0,0,0,0,0,0,0,0,0,0,0,0,0,0,0,0,0,0,0,0,0,0,0,0,0,0,0,0,0,0,0,0,0,0,0,0,0,0,0,0,0,0,0,0,0,0,0,0,0,0,0,0,0,0,0,0,0,0,0,0,0,0,0,0,0,0,0,0,0,0,0,0,0,0,0,0,0,0,0,0,0,0,0,0,0,0,0,0,0,0,0,0,0,0,0,0,0,0,0,0,0,0,0,0,0,0,0,0,0,0,0,0,0,0,0,0,0,0,0,0,0,0,0,0,0,0,0,0,0,0,0,0,0,0,0,0,0,0,0,0,0,0,0,0,0,0,0,0,0,0,0,0,0,0,0,0,0,0,0,0,0,0,0,0,0,0,0,0,0,0,0,0,0,0,0,0,0,0,0,0,0,0,0,0,0,0,0,0,0,0,0,0,0,0,0,0,0,0,0,0,0,0,0,0,0,0,0,0,0,0,0,0,0,0,0,0]
def K_:List kP:=Ts.map (.int .u8)
def Yj:List Int:=[1,10,100,1000,10000,100000,1000000,10000000,100000000,1000000000,10000000000,100000000000,1000000000000,10000000000000,100000000000000,1000000000000000,10000000000000000,100000000000000000,1000000000000000000,10000000000000000000]
def ahW:List kP:=Yj.map (.int .u64)
def at7:List Nat:=[52,102,103,104,105,106,108,109,110,151,152,153,154,155,180,181,182,183,205,207,208,220,222,223,227,228]
def ah6:List Nat:=[51,52,102,103,104,105,106,107,108,109,110,150,151,152,153,154,155,180,181,182,183,205,206,207,208,220,222,223,227,228,29,57,58,59,60,61,62,63,64,118,119,120,121,122,157,158,159,184,186,209,50,100,101,147,98,32,33,37,68,69,70,71,83,84,85,86,87,88,124,125,126,129,72,161]
def aAy:List Nat:=[49,28,90,98,99,100,101,55,56,142,143,144,145,146,147,148,149,112,113,114,115,116,117,176,177,178,179,204,25,205,51,102,103,104,105,106,107,108,109,110,150,151,152,153,154,155,180,181,182,183,206,207,208,220,221,222,223,227,228,52,12,26,53,111,156,29,57,58,59,60,61,62,63,64,118,119,120,121,122,157,158,159,184,185,186,209,50]
def tbs:List Nat:=[32,33,37,68,69,70,71,83,84,85,86,87,88,124,125,126,129,14,17]
def mV:Cd:={ vecT:=fun f t=>f == 13 && t == 42,frz:=fun f=>f == 13,tb:=fun f=>tbs.contains f,tbt:=fun t=>t == 86,bld:=fun t o n=>t == 86 && o == 0 && n == 5,prm:=fun f=>if f=161 then some (.copyCheck) else if f=72 then some (.bldString 5) else if f=89 then some (.fn R0) else if f=162 then some (.fn adU) else none,glob:=fun g=>if g=0 then some K_ else if g=2 then some ahW else none,gsz:=fun g=>if g=2 then some 20 else none,esc:=fun f=>f == 98 || f == 208 || f == 186,grow:=fun f=>f == 157 || f == 159,dfr:=fun f=>f == 25,pure:=fun f=>!(ah6.contains f),pan:=fun f=>at7.contains f,vmk:=fun f=>!(aAy.contains f),jt:=fun f=>!(aAy.contains f),ext:=fun f=>if f=203 then some .indexByte else none }
def Ir (K:lE) (m:Nat) (s:List kP×kT):Option R :=
 (fun aB aE aC aA aH=>kU (K 100 [(kP.kV aA)] aH) (fun bF aF=>(lG aA).bind fun aN=>(kR 1 aN).bind fun aO=>(kW false 1 aF aO).bind fun aP=>(nW aB).bind fun aQ=>(kZ .eql aP aQ).bind fun aR=>lC aR ((lG aA).bind fun aS=>(kR 4 aS).bind fun aT=>(kW false 1 aF aT).bind fun aU=>(nW aB).bind fun aV=>(l_ [(.int .i64 0),(.int .i64 0),(.int .i64 0),(.str [])] [(0,1),(1,1),(2,1),(3,1)] [(0,(.int .i64 0)),(1,aV)]).bind fun aW=>k9 (lB 1 4 [(.int .i64 0),(.int .i64 0),(.int .i64 0),(.str [])] [(0,aW)] aF) fun aX aI=>k9 (mN 4 40 aI aU aX) fun aY aJ=>(l_ [(.int .i64 0),(.int .i64 0)] [(0,1),(1,1)] []).bind fun aZ=>(k_ 2 aJ aC aZ).bind fun aK=>lA m .ret [aB,aY,aC,aA] aK) (kU (K 101 [(kP.kV aA)] aF) (fun a_ aD=>(x8 .not a_).bind fun bA=>lC bA ((lG aA).bind fun bB=>(kR 1 bB).bind fun aG=>(kW false 1 aD aG).bind fun bC=>(l_ [(.int .i64 0),(.int .i64 0)] [(0,1),(1,1)] [(0,(.int .i64 9)),(1,bC)]).bind fun bD=>(fun(bE:kP) (aL:kT)=>(k_ 2 (lX (lI [0] [aG]) aD aL) aC bD).bind fun aM=>lA m .ret [aB,bE,aC,aA] aM) (.slice [] (.own (ab7 (nY (lI [0] [aG]) aD)))) ((nY (lI [0] [aG]) aD)++[.front 0 0])) (lA m .normal [aB,aE,aC,aA] aD)) (fun _ _=>none))) (fun _ _=>none)) (am0 s.1 0 .junk) (am0 s.1 1 .junk) (am0 s.1 2 .junk) (am0 s.1 3 .junk) s.2
def m49 (K:lE) (a0:kP) (h0:kT):Option (n_×kT) :=
 ((fun(t1:kP) (h0:kT)=>k9 (lZ 2 h0 (.agg [(.int .i64 0),(.int .i64 0)])) fun t2 h3=>(nW a0).bind fun t4=>(kZ .gtr t4 (.int .i64 65536)).bind fun t5=>lC t5 ((l_ [(.int .i64 0),(.int .i64 0)] [(0,1),(1,1)] [(0,(.int .i64 5))]).bind fun t6=>(fun(t8:kP) (h7:kT)=>(k_ 2 h7 t2 t6).bind fun h9=>some (.ret,[t8,t2],h9)) (.slice [] (.own (ab7 h3))) (h3++[.front 0 0])) (kU (K 98 [] h3) (fun aP aN=>kU (K 99 [] aN) (fun aQ aO=>(l_ [(.str []),(.int .i64 0),.nilmap,(.slice [] .nil),(.slice [] .nil)] [(0,1),(1,1),(2,1),(3,1),(4,1)] [(0,a0),(2,aP),(3,aQ)]).bind fun aR=>k9 (lZ 5 aO aR) fun aS aG=>(mQ (Ir K (ab7 aG)) ([a0,t1,t2,aS],aG)).bind fun aC=>(fun aJ aA aB aK aH=>Ex.mG aC.1 none (fun aL=>Ex.inBlock 0 aL (some (.normal,[aA,aB],aH)) (fun aM=>some (aM,[aA,aB],aH)))) (am0 aC.2.1 0 .junk) (am0 aC.2.1 1 .junk) (am0 aC.2.1 2 .junk) (am0 aC.2.1 3 .junk) aC.2.2) (fun _ _=>none)) (fun _ _=>none))) (.slice [] (.own (ab7 h0))) (h0++[.front 0 0])).bind fun aF=>(fun aD aE aI=>Ex.nP aF.1 ((kW true 2 aI aE).bind fun aT=>mJ (ab7 h0) (.tuple [aD,aT]) aI)) (am0 aF.2.1 0 .junk) (am0 aF.2.1 1 .junk) aF.2.2
theorem as1 (K:lE) (a0:kP) (h0:kT):qJ Tryz.prog mV mQ K 49 [a0] h0=m49 (mD mV K) a0 h0:=by kernel_rfl
def F7 (K:lE) (m:Nat) (s:List kP×kT):Option R :=
 (fun aA aE aC aD aB aG=>(nW aA).bind fun aR=>(kZ .lss aB aR).bind fun aS=>lC aS (kU (K 56 [(kP.kV aA),(kP.kV aB)] aG) (fun aH aK=>(lT 0 aH).bind fun aT=>(lT 1 aH).bind fun aI=>k9 (lZ 4 aK (.agg [(.int .i64 0),(.int .i64 0),(.int .i64 0),(.str [])])) fun aJ aL=>(k_ 4 aL aJ aT).bind fun aF=>(kZ .eql aI (.int .i64 0)).bind fun aU=>lC aU ((l_ [(.int .i64 0),(.int .i64 0)] [(0,1),(1,1)] [(0,(.int .i64 9)),(1,aB)]).bind fun aV=>(fun(aW:kP) (aM:kT)=>(k_ 2 aM aC aV).bind fun aN=>lA m .ret [aA,aW,aC,aD,aB] aN) (.slice [] (.own (ab7 aF))) (aF++[.front 0 0])) ((kW true 4 aF aJ).bind fun aX=>k9 (lB 1 4 [(.int .i64 0),(.int .i64 0),(.int .i64 0),(.str [])] [(0,aX)] aF) fun aY aO=>k9 (mN 4 40 aO aD aY) fun aZ aP=>(kZ .add aB aI).bind fun a_=>kU (K 55 [(kP.kV aA),(kP.kV a_)] aP) (fun bA aQ=>lA m .normal [aA,aE,aC,aZ,bA] aQ) (fun _ _=>none))) (fun _ _=>none)) (lA m (.exit 0) [aA,aE,aC,aD,aB] aG)) (am0 s.1 0 .junk) (am0 s.1 1 .junk) (am0 s.1 2 .junk) (am0 s.1 3 .junk) (am0 s.1 4 .junk) s.2
def m28 (K:lE) (a0:kP) (h0:kT):Option (n_×kT) :=
 ((fun(t1:kP) (h0:kT)=>k9 (lZ 2 h0 (.agg [(.int .i64 0),(.int .i64 0)])) fun t2 h3=>(nW a0).bind fun t4=>(kZ .gtr t4 (.int .i64 65536)).bind fun t5=>lC t5 ((l_ [(.int .i64 0),(.int .i64 0)] [(0,1),(1,1)] [(0,(.int .i64 5)),(1,(.int .i64 0))]).bind fun t6=>(fun(t8:kP) (h7:kT)=>(k_ 2 h7 t2 t6).bind fun h9=>some (.ret,[t8,t2],h9)) (.slice [] (.own (ab7 h3))) (h3++[.front 0 0])) ((fun(aS:kP) (aO:kT)=>kU (K 55 [(kP.kV a0),(kP.kV (.int .i64 0))] aO) (fun aT aI=>(mQ (F7 K (ab7 aI)) ([a0,t1,t2,aS,aT],aI)).bind fun aB=>(fun aC aD aA aG aL aJ=>Ex.mG aB.1 none (fun aM=>Ex.inBlock 0 aM ((nW aC).bind fun aU=>(l_ [(.int .i64 0),(.int .i64 0),(.int .i64 0),(.str [])] [(0,1),(1,1),(2,1),(3,1)] [(1,aU)]).bind fun aV=>k9 (lB 1 4 [(.int .i64 0),(.int .i64 0),(.int .i64 0),(.str [])] [(0,aV)] aJ) fun aW aP=>k9 (mN 4 40 aP aG aW) fun aX aQ=>(l_ [(.int .i64 0),(.int .i64 0)] [(0,1),(1,1)] []).bind fun aY=>(k_ 2 aQ aA aY).bind fun aR=>some (.ret,[aX,aA],aR)) (fun aN=>some (aN,[aD,aA],aJ)))) (am0 aB.2.1 0 .junk) (am0 aB.2.1 1 .junk) (am0 aB.2.1 2 .junk) (am0 aB.2.1 3 .junk) (am0 aB.2.1 4 .junk) aB.2.2) (fun _ _=>none)) (.slice [] (.own (ab7 h3))) (h3++[.front 0 0]))) (.slice [] (.own (ab7 h0))) (h0++[.front 0 0])).bind fun aH=>(fun aE aF aK=>Ex.nP aH.1 ((kW true 2 aK aF).bind fun aZ=>mJ (ab7 h0) (.tuple [aE,aZ]) aK)) (am0 aH.2.1 0 .junk) (am0 aH.2.1 1 .junk) aH.2.2
theorem asN (K:lE) (a0:kP) (h0:kT):qJ Tryz.prog mV mQ K 28 [a0] h0=m28 (mD mV K) a0 h0:=by kernel_rfl
def Bx (K:lE) (m:Nat) (s:List kP×kT):Option R :=
 (fun aA h1=>(lG aA).bind fun t2=>(kR 1 t2).bind fun t3=>(kW false 1 h1 t3).bind fun t4=>(lG aA).bind fun t5=>(kR 0 t5).bind fun t6=>(kW false 1 h1 t6).bind fun t7=>(nW t7).bind fun t8=>(kZ .lss t4 t8).bind fun t9=>lC t9 ((((lG aA).bind fun aX=>(kR 0 aX).bind fun aY=>(kW false 1 h1 aY).bind fun aZ=>(lG aA).bind fun a_=>(kR 1 a_).bind fun bA=>(kW false 1 h1 bA).bind fun bB=>(mX aZ bB).bind fun bC=>kU (K 143 [(kP.kV bC)] h1) (fun bD aF=>(lC bD ((lG aA).bind fun bE=>(kR 1 bE).bind fun bF=>(kW false 1 aF bF).bind fun bG=>(kZ .add bG (.int .i64 1)).bind fun bH=>(lG aA).bind fun bI=>(kR 1 bI).bind fun bJ=>(k_ 1 aF bJ bH).bind fun aV=>some (.normal,[aA],aV)) ((lG aA).bind fun bK=>(kR 0 bK).bind fun bL=>(kW false 1 aF bL).bind fun bM=>(lG aA).bind fun bN=>(kR 1 bN).bind fun bO=>(kW false 1 aF bO).bind fun bP=>(oY bM (some bP) none).bind fun bQ=>kU (K 144 [(kP.kV bQ),(kP.kV (.str [47,47]))] aF) (fun bR aH=>lC bR ((lG aA).bind fun bS=>(kR 0 bS).bind fun bT=>(kW false 1 aH bT).bind fun bU=>(lG aA).bind fun bV=>(kR 1 bV).bind fun bW=>(kW false 1 aH bW).bind fun bX=>(oY bU (some bX) none).bind fun bY=>kU (K 145 [(kP.kV bY),(kP.kV (.int .u8 10))] aH) (fun aR aI=>(kZ .lss aR (.int .i64 0)).bind fun bZ=>(lC bZ ((lG aA).bind fun b7=>(kR 0 b7).bind fun b8=>(kW false 1 aI b8).bind fun b9=>(nW b9).bind fun b_=>(lG aA).bind fun cA=>(kR 1 cA).bind fun cB=>(kW false 1 aI cB).bind fun cC=>(kZ .sub b_ cC).bind fun cD=>some (.normal,[aA,cD],aI)) (some (.normal,[aA,aR],aI))).bind fun aJ=>(fun aB aG aN=>Ex.uJ aJ.1 ((lG aB).bind fun cE=>(kR 1 cE).bind fun cF=>(kW false 1 aN cF).bind fun cG=>(kZ .add cG aG).bind fun cH=>(lG aB).bind fun cI=>(kR 1 cI).bind fun cJ=>(k_ 1 aN cJ cH).bind fun aW=>some (.normal,[aB],aW))) (am0 aJ.2.1 0 .junk) (am0 aJ.2.1 1 .junk) aJ.2.2) (fun _ _=>none)) (some (.ret,[aA],aH))) (fun _ _=>none))).bind fun aK=>(fun aC aO=>Ex.mG aK.1 (some (.normal,[aC],aO)) (fun aS=>some (aS,[aC],aO))) (am0 aK.2.1 0 .junk) aK.2.2) (fun _ _=>none)).bind fun aL=>(fun aD aP=>Ex.inBlock 2 aL.1 (some (.normal,[aD],aP)) (fun aT=>some (aT,[aD],aP))) (am0 aL.2.1 0 .junk) aL.2.2).bind fun aM=>(fun aE aQ=>Ex.inBlock 1 aM.1 (lA m .normal [aE] aQ) (fun aU=>lA m aU [aE] aQ)) (am0 aM.2.1 0 .junk) aM.2.2) (lA m (.exit 0) [aA] h1)) (am0 s.1 0 .junk) s.2
def azR (K:lE) (a0:kP) (h0:kT):Option (n_×kT) :=
 ((mQ (Bx K (ab7 h0)) ([a0],h0)).bind fun aA=>(fun aD aB=>Ex.mG aA.1 none (fun aE=>Ex.inBlock 0 aE (some (.normal,([]:List kP),aB)) (fun aF=>some (aF,([]:List kP),aB)))) (am0 aA.2.1 0 .junk) aA.2.2).bind fun aC=>(fun aG=>Ex.nP aC.1 (mJ (ab7 h0) (.tuple []) aG))  aC.2.2
theorem aiT (K:lE) (a0:kP) (h0:kT):qJ Tryz.prog mV mQ K 100 [a0] h0=azR (mD mV K) a0 h0:=by kernel_rfl
def Fb (K:lE) (m:Nat) (s:List kP×kT):Option R :=
 (fun aD aF aE aB aC aA aG=>(kZ .lss aA aC).bind fun aK=>lC aK ((lH 1 aB aA).bind fun aL=>(kW false 1 aG aL).bind fun aI=>(lG aD).bind fun aM=>(kR 0 aM).bind fun aN=>(kW false 1 aG aN).bind fun aO=>(lG aD).bind fun aP=>(kR 1 aP).bind fun aQ=>(kW false 1 aG aQ).bind fun aR=>(oY aO (some aR) none).bind fun aS=>kU (K 144 [(kP.kV aS),(kP.kV aI)] aG) (fun aT aH=>lC aT ((kR 3 aE).bind fun aU=>(k_ 1 aH aU aI).bind fun aJ=>lA m (.exit 1) [aD,aF,aE,aB,aC,aA] aJ) ((kZ .add aA (.int .i64 1)).bind fun aV=>lA m .normal [aD,aF,aE,aB,aC,aV] aH)) (fun _ _=>none)) (lA m (.exit 1) [aD,aF,aE,aB,aC,aA] aG)) (am0 s.1 0 .junk) (am0 s.1 1 .junk) (am0 s.1 2 .junk) (am0 s.1 3 .junk) (am0 s.1 4 .junk) (am0 s.1 5 .junk) s.2
def PU (K:lE) (a0:kP) (h0:kT):Option (n_×kT) :=
 ((lG a0).bind fun t0=>(kR 1 t0).bind fun t1=>(kW false 1 h0 t1).bind fun t2=>(l_ [(.int .i64 0),(.int .i64 0),(.int .i64 0),(.str [])] [(0,1),(1,1),(2,1),(3,1)] [(1,t2)]).bind fun t3=>k9 (lZ 4 h0 (.agg [(.int .i64 0),(.int .i64 0),(.int .i64 0),(.str [])])) fun t4 h5=>(k_ 4 h5 t4 t3).bind fun h6=>(lG a0).bind fun t7=>(kR 0 t7).bind fun t8=>(kW false 1 h6 t8).bind fun t9=>(lG a0).bind fun cV=>(kR 1 cV).bind fun cW=>(kW false 1 h6 cW).bind fun cX=>(mX t9 cX).bind fun cI=>(kU (K 146 [(kP.kV cI)] h6) (fun cY cE=>(lC cY (kU (K 147 [(kP.kV a0)] cE) (fun cZ cO=>(kR 3 t4).bind fun c6=>(k_ 1 cO c6 cZ).bind fun cP=>(kR 0 t4).bind fun c9=>(k_ 1 cP c9 (.int .i64 1)).bind fun aY=>(lG a0).bind fun c_=>(kR 2 c_).bind fun dA=>(kW false 1 aY dA).bind fun dB=>(kR 3 t4).bind fun dC=>(kW false 1 aY dC).bind fun cJ=>bif qR .string cJ then(AN (.int .i64 0) true aY dB cJ).bind fun cK=>(lT 0 cK).bind fun eP=>(lT 1 cK).bind fun dD=>(lC dD ((kR 0 t4).bind fun dE=>(k_ 1 aY dE (.int .i64 3)).bind fun cQ=>some (.normal,[a0,(.bool false),t4],cQ)) (some (.normal,[a0,(.bool false),t4],aY))).bind fun a_=>(fun aD bA aE aZ=>Ex.uJ a_.1 ((kR 3 aE).bind fun dF=>(kW false 1 aZ dF).bind fun dG=>(nW dG).bind fun dH=>(kZ .gtr dH (.int .i64 40)).bind fun dI=>lC dI (some (.ret,[aD,(.bool false),aE],aZ)) ((lG aD).bind fun dJ=>(kR 1 dJ).bind fun dK=>(kW false 1 aZ dK).bind fun dL=>(kR 3 aE).bind fun dM=>(kW false 1 aZ dM).bind fun dN=>(nW dN).bind fun dO=>(kZ .add dL dO).bind fun dP=>(lG aD).bind fun dQ=>(kR 1 dQ).bind fun dR=>(k_ 1 aZ dR dP).bind fun cR=>some (.normal,[aD,bA,aE],cR)))) (am0 a_.2.1 0 .junk) (am0 a_.2.1 1 .junk) (am0 a_.2.1 2 .junk) a_.2.2 else none) (fun _ _=>none)) (kU (K 148 [(kP.kV cI)] cE) (fun dU cF=>(lC dU (kU (K 147 [(kP.kV a0)] cF) (fun cL cS=>kU (K 149 [(kP.kV cL)] cS) (fun cM cG=>(lT 0 cM).bind fun dV=>(lT 1 cM).bind fun dW=>(x8 .not dW).bind fun dX=>lC dX (some (.ret,[a0,(.bool false),t4],cG)) ((kR 0 t4).bind fun dY=>(k_ 1 cG dY (.int .i64 2)).bind fun cT=>(kR 2 t4).bind fun dZ=>(k_ 1 cT dZ dV).bind fun cH=>(lG a0).bind fun d_=>(kR 1 d_).bind fun eA=>(kW false 1 cH eA).bind fun eB=>(nW cL).bind fun eC=>(kZ .add eB eC).bind fun eD=>(lG a0).bind fun eE=>(kR 1 eE).bind fun eH=>(k_ 1 cH eH eD).bind fun cU=>some (.normal,[a0,(.bool false),t4],cU))) (fun _ _=>none)) (fun _ _=>none)) ((kR 0 t4).bind fun eI=>(k_ 1 cF eI (.int .i64 4)).bind fun bO=>(lG a0).bind fun eJ=>(kR 3 eJ).bind fun eM=>(kW false 1 bO eM).bind fun cN=>(nH cN).bind fun eO=>(mQ (Fb K (ab7 bO)) ([a0,(.bool false),t4,cN,eO,(.int .i64 0)],bO)).bind fun aC=>(fun aA aN aB bB bC bD aF=>Ex.mG aC.1 none (fun bE=>Ex.inBlock 1 bE ((kR 3 aB).bind fun bP=>(kW false 1 aF bP).bind fun bQ=>(kZ .eql bQ (.str [])).bind fun bR=>lC bR (some (.ret,[aA,(.bool false),aB],aF)) ((lG aA).bind fun bS=>(kR 1 bS).bind fun bT=>(kW false 1 aF bT).bind fun bU=>(kR 3 aB).bind fun bV=>(kW false 1 aF bV).bind fun bW=>(nW bW).bind fun bX=>(kZ .add bU bX).bind fun bY=>(lG aA).bind fun bZ=>(kR 1 bZ).bind fun b7=>(k_ 1 aF b7 bY).bind fun bJ=>some (.normal,[aA,aN,aB],bJ))) (fun bF=>some (bF,[aA,aN,aB],aF)))) (am0 aC.2.1 0 .junk) (am0 aC.2.1 1 .junk) (am0 aC.2.1 2 .junk) (am0 aC.2.1 3 .junk) (am0 aC.2.1 4 .junk) (am0 aC.2.1 5 .junk) aC.2.2)).bind fun aH=>(fun aK aO aQ aW=>Ex.mG aH.1 (some (.normal,[aK,aO,aQ],aW)) (fun bG=>some (bG,[aK,aO,aQ],aW))) (am0 aH.2.1 0 .junk) (am0 aH.2.1 1 .junk) (am0 aH.2.1 2 .junk) aH.2.2) (fun _ _=>none))).bind fun aI=>(fun aL aP aR aX=>Ex.mG aI.1 (some (.normal,[aL,aP,aR],aX)) (fun bH=>some (bH,[aL,aP,aR],aX))) (am0 aI.2.1 0 .junk) (am0 aI.2.1 1 .junk) (am0 aI.2.1 2 .junk) aI.2.2) (fun _ _=>none)).bind fun aJ=>(fun aM aT aV aG=>Ex.inBlock 0 aJ.1 ((lG aM).bind fun b8=>(kR 4 b8).bind fun aS=>(kW false 1 aG aS).bind fun b9=>(kW true 4 aG aV).bind fun b_=>k9 (lB 1 4 [(.int .i64 0),(.int .i64 0),(.int .i64 0),(.str [])] [(0,b_)] (nY (lI [0] [aS]) aG)) fun cA bK=>k9 (mN 4 40 (lX (lI [0] [aS]) aG bK) b9 cA) fun cB bL=>(lG aM).bind fun cC=>(kR 4 cC).bind fun cD=>(k_ 1 bL cD cB).bind fun bM=>some (.ret,[(.bool true)],bM)) (fun bI=>some (bI,[aT],aG))) (am0 aJ.2.1 0 .junk) (am0 aJ.2.1 1 .junk) (am0 aJ.2.1 2 .junk) aJ.2.2).bind fun SB=>(fun aU bN=>Ex.nP SB.1 (mJ (ab7 h0) aU bN)) (am0 SB.2.1 0 .junk) SB.2.2
theorem aiU (K:lE) (a0:kP) (h0:kT):qJ Tryz.prog mV mQ K 101 [a0] h0=PU (mD mV K) a0 h0:=by kernel_rfl
def Is (K:lE) (m:Nat) (s:List kP×kT):Option R :=
 (fun aA aB aC aE=>(nW aA).bind fun aJ=>(kZ .lss aB aJ).bind fun aD=>(kQ true aD (kY aA aE) (kY (.tuple []) aE)).bind (kX (fun aK aF=>(kQ true aD (kY aB aF) (kY (.tuple []) aF)).bind (kX (fun aL aG=>(kQ true aD ((mX aK aL).bind fun aM=>kY aM aG) (kY (.tuple []) aG)).bind (kX (fun aN aH=>(kQ true aD ((kZ .neq aN (.int .u8 10)).bind fun aO=>kY aO aH) (kY (.tuple []) aH)).bind (kX (fun aP aI=>(lV aD aP (.bool false)).bind fun aQ=>lC aQ ((kZ .add aB (.int .i64 1)).bind fun aR=>lA m .normal [aA,aR,aC] aI) (lA m (.exit 2) [aA,aB,aC] aI)) (fun _ _=>none))) (fun _ _=>none))) (fun _ _=>none))) (fun _ _=>none))) (am0 s.1 0 .junk) (am0 s.1 1 .junk) (am0 s.1 2 .junk) s.2
def CT (K:lE) (m:Nat) (s:List kP×kT):Option R :=
 (fun aB aA aL h3=>(nW aB).bind fun t4=>(kZ .lss aA t4).bind fun t5=>lC t5 (((kZ .add aA (.int .i64 1)).bind fun t6=>(nW aB).bind fun t7=>(kZ .lss t6 t7).bind fun t8=>(kQ true t8 (kY aB h3) (kY (.tuple []) h3)).bind (kX (fun t9 aR=>(kQ true t8 (kY aA aR) (kY (.tuple []) aR)).bind (kX (fun bG aS=>(kQ true t8 ((mX t9 bG).bind fun bH=>kY bH aS) (kY (.tuple []) aS)).bind (kX (fun bI aT=>(kQ true t8 ((kZ .eql bI (.int .u8 47)).bind fun bJ=>kY bJ aT) (kY (.tuple []) aT)).bind (kX (fun bK aU=>(lV t8 bK (.bool false)).bind fun aM=>(kQ true aM (kY aB aU) (kY (.tuple []) aU)).bind (kX (fun bL aV=>(kQ true aM (kY aA aV) (kY (.tuple []) aV)).bind (kX (fun bM aW=>(kQ true aM ((kZ .add bM (.int .i64 1)).bind fun bN=>kY bN aW) (kY (.tuple []) aW)).bind (kX (fun bO aX=>(kQ true aM ((mX bL bO).bind fun bP=>kY bP aX) (kY (.tuple []) aX)).bind (kX (fun bQ aY=>(kQ true aM ((kZ .eql bQ (.int .u8 47)).bind fun bR=>kY bR aY) (kY (.tuple []) aY)).bind (kX (fun bS aQ=>(lV aM bS (.bool false)).bind fun bT=>(lC bT ((mQ (Is K (ab7 aQ)) ([aB,aA,aL],aQ)).bind fun aN=>(fun aC aF aI aZ=>Ex.mG aN.1 none (fun bC=>Ex.inBlock 2 bC (some (.normal,[aC,aF,aI],aZ)) (fun bD=>some (bD,[aC,aF,aI],aZ)))) (am0 aN.2.1 0 .junk) (am0 aN.2.1 1 .junk) (am0 aN.2.1 2 .junk) aN.2.2) ((mX aB aA).bind fun bU=>kU (K 112 [(kP.kV bU)] aQ) (fun bV a_=>lC bV ((kZ .add aA (.int .i64 1)).bind fun bW=>some (.normal,[aB,bW,aL],a_)) (some (.ret,[aB,aA,aA],a_))) (fun _ _=>none))).bind fun aO=>(fun aD aG aJ bA=>Ex.mG aO.1 (some (.normal,[aD,aG,aJ],bA)) (fun bE=>some (bE,[aD,aG,aJ],bA))) (am0 aO.2.1 0 .junk) (am0 aO.2.1 1 .junk) (am0 aO.2.1 2 .junk) aO.2.2) (fun _ _=>none))) (fun _ _=>none))) (fun _ _=>none))) (fun _ _=>none))) (fun _ _=>none))) (fun _ _=>none))) (fun _ _=>none))) (fun _ _=>none))) (fun _ _=>none))).bind fun aP=>(fun aE aH aK bB=>Ex.inBlock 1 aP.1 (lA m .normal [aE,aH,aK] bB) (fun bF=>lA m bF [aE,aH,aK] bB)) (am0 aP.2.1 0 .junk) (am0 aP.2.1 1 .junk) (am0 aP.2.1 2 .junk) aP.2.2) (lA m (.exit 0) [aB,aA,aL] h3)) (am0 s.1 0 .junk) (am0 s.1 1 .junk) (am0 s.1 2 .junk) s.2
def m55 (K:lE) (a0 a1:kP) (h0:kT):Option (n_×kT) :=
 ((mQ (CT K (ab7 h0)) ([a0,a1,(.int .i64 0)],h0)).bind fun aA=>(fun aG aB aC aF=>Ex.mG aA.1 none (fun aH=>Ex.inBlock 0 aH (some (.ret,[aB],aF)) (fun aI=>some (aI,[aC],aF)))) (am0 aA.2.1 0 .junk) (am0 aA.2.1 1 .junk) (am0 aA.2.1 2 .junk) aA.2.2).bind fun aE=>(fun aD aJ=>Ex.nP aE.1 (mJ (ab7 h0) aD aJ)) (am0 aE.2.1 0 .junk) aE.2.2
theorem as5 (K:lE) (a0 a1:kP) (h0:kT):qJ Tryz.prog mV mQ K 55 [a0,a1] h0=m55 (mD mV K) a0 a1 h0:=by kernel_rfl
def It (K:lE) (m:Nat) (s:List kP×kT):Option R :=
 (fun aA aC aD aE aF aB aI=>(nW aA).bind fun aV=>(kZ .lss aB aV).bind fun aG=>(kQ true aG (kY aA aI) (kY (.tuple []) aI)).bind (kX (fun aW aJ=>(kQ true aG (kY aB aJ) (kY (.tuple []) aJ)).bind (kX (fun aX aK=>(kQ true aG ((mX aW aX).bind fun aY=>kY aY aK) (kY (.tuple []) aK)).bind (kX (fun aZ aL=>(kQ true aG (kU (K 113 [(kP.kV aZ)] aL) (fun a_ aT=>kY a_ aT) AV) (kY (.tuple []) aL)).bind (kX (fun bA aM=>(kQ true aG (kY bA aM) (kY (.tuple []) aM)).bind (kX (fun aH aN=>(kQ false aH (kY aA aN) (kY (.tuple []) aN)).bind (kX (fun bB aO=>(kQ false aH (kY aB aO) (kY (.tuple []) aO)).bind (kX (fun bC aP=>(kQ false aH ((mX bB bC).bind fun bD=>kY bD aP) (kY (.tuple []) aP)).bind (kX (fun bE aQ=>(kQ false aH (kU (K 114 [(kP.kV bE)] aQ) (fun bF aU=>kY bF aU) AV) (kY (.tuple []) aQ)).bind (kX (fun bG aR=>(kQ true aG ((lV aH (.bool true) bG).bind fun bH=>kY bH aR) (kY (.tuple []) aR)).bind (kX (fun bI aS=>(lV aG bI (.bool false)).bind fun bJ=>lC bJ ((kZ .add aB (.int .i64 1)).bind fun bK=>lA m .normal [aA,aC,aD,aE,aF,bK] aS) (lA m (.exit 0) [aA,aC,aD,aE,aF,aB] aS)) (fun _ _=>none))) (fun _ _=>none))) (fun _ _=>none))) (fun _ _=>none))) (fun _ _=>none))) (fun _ _=>none))) (fun _ _=>none))) (fun _ _=>none))) (fun _ _=>none))) (fun _ _=>none))) (am0 s.1 0 .junk) (am0 s.1 1 .junk) (am0 s.1 2 .junk) (am0 s.1 3 .junk) (am0 s.1 4 .junk) (am0 s.1 5 .junk) s.2
def m56 (K:lE) (a0 a1:kP) (h0:kT):Option (n_×kT) :=
 (k9 (lZ 4 h0 (.agg [(.int .i64 0),(.int .i64 0),(.int .i64 0),(.str [])])) fun t0 h1=>(l_ [(.int .i64 0),(.int .i64 0),(.int .i64 0),(.str [])] [(0,1),(1,1),(2,1),(3,1)] [(1,a1)]).bind fun t2=>k9 (lZ 4 h1 (.agg [(.int .i64 0),(.int .i64 0),(.int .i64 0),(.str [])])) fun t3 h4=>(k_ 4 h4 t3 t2).bind fun h5=>(mX a0 a1).bind fun t6=>kU (K 113 [(kP.kV t6)] h5) (fun t7 h8=>(x8 .not t7).bind fun t9=>(kQ true t9 (kY a0 h8) (kY (.tuple []) h8)).bind (kX (fun b_ bO=>(kQ true t9 (kY a1 bO) (kY (.tuple []) bO)).bind (kX (fun cA bP=>(kQ true t9 ((mX b_ cA).bind fun cB=>kY cB bP) (kY (.tuple []) bP)).bind (kX (fun cC bQ=>(kQ true t9 (kU (K 114 [(kP.kV cC)] bQ) (fun cD bW=>kY cD bW) AV) (kY (.tuple []) bQ)).bind (kX (fun cE bR=>(kQ true t9 ((x8 .not cE).bind fun cF=>kY cF bR) (kY (.tuple []) bR)).bind (kX (fun cG a_=>(lV t9 cG (.bool false)).bind fun cH=>lC cH ((kR 0 t3).bind fun cI=>(k_ 1 a_ cI (.int .i64 4)).bind fun bX=>kU (K 115 [(kP.kV a0),(kP.kV a1)] bX) (fun cJ bY=>(kR 3 t3).bind fun cK=>(k_ 1 bY cK cJ).bind fun aT=>(kW true 4 aT t3).bind fun cL=>(kR 3 t3).bind fun bL=>(kW false 1 aT bL).bind fun cM=>(nW cM).bind fun cN=>(k_ 4 (nY (lI [0] [bL]) aT) t0 cL).bind fun bZ=>some (.ret,[t0,cN],(lX (lI [0] [bL]) aT bZ))) (fun _ _=>none)) ((mQ (It K (ab7 a_)) ([a0,a1,t0,(.int .i64 0),t3,a1],a_)).bind fun aM=>(fun aN aD aB aH aA aF bS=>Ex.mG aM.1 none (fun bU=>Ex.inBlock 0 bU ((oY aN (some aD) (some aF)).bind fun bM=>(mX aN aD).bind fun cO=>kU (K 114 [(kP.kV cO)] bS) (fun cP bT=>lC cP ((kR 0 aA).bind fun cQ=>(k_ 1 bT cQ (.int .i64 2)).bind fun b7=>kU (K 116 [(kP.kV bM)] b7) (fun cR b8=>(kR 2 aA).bind fun cS=>(k_ 1 b8 cS cR).bind fun aS=>(kR 2 aA).bind fun cT=>(kW false 1 aS cT).bind fun cU=>(kZ .lss cU (.int .i64 0)).bind fun cV=>lC cV ((kW true 4 aS aA).bind fun cW=>(k_ 4 aS aB cW).bind fun b9=>some (.ret,[aB,(.int .i64 0)],b9)) ((kW true 4 aS aA).bind fun cX=>(kZ .sub aF aD).bind fun bA=>(k_ 4 aS aB cX).bind fun aU=>some (.ret,[aB,bA],aU))) (fun _ _=>none)) ((kR 0 aA).bind fun bB=>(k_ 1 bT bB (.int .i64 1)).bind fun aV=>(kR 3 aA).bind fun bC=>(k_ 1 aV bC bM).bind fun aW=>kU (K 117 [(kP.kV (.str [32,102,110,32,112,117,98,32,115,101,99,32,111,117,116,32,108,101,116,32,118,97,114,32,105,102,32,101,108,115,101,32,102,111,114,32,109,97,120,32,114,101,116,117,114,110,32,117,51,50,32,117,56,32,109,97,115,107,32,109,117,108,104,105,32,99,97,114,114,121,32,115,101,108,101,99,116,32,119,111,114,100,32,114,111,114,32])),(kP.kV bM)] aW) (fun bD aQ=>(lC bD ((kR 0 aA).bind fun bE=>(k_ 1 aQ bE (.int .i64 3)).bind fun aX=>some (.normal,[aD,aB,aH,aA,aF],aX)) (some (.normal,[aD,aB,aH,aA,aF],aQ))).bind fun aE=>(fun aG aC bN aI aJ aK=>Ex.uJ aE.1 ((kZ .sub aJ aG).bind fun bF=>(kZ .gtr bF (.int .i64 40)).bind fun bG=>lC bG ((kW true 4 aK aI).bind fun bH=>(k_ 4 aK aC bH).bind fun aY=>some (.ret,[aC,(.int .i64 0)],aY)) ((kW true 4 aK aI).bind fun bI=>(kZ .sub aJ aG).bind fun bJ=>(k_ 4 aK aC bI).bind fun aZ=>some (.ret,[aC,bJ],aZ)))) (am0 aE.2.1 0 .junk) (am0 aE.2.1 1 .junk) (am0 aE.2.1 2 .junk) (am0 aE.2.1 3 .junk) (am0 aE.2.1 4 .junk) aE.2.2) (fun _ _=>none))) (fun _ _=>none)) (fun bV=>some (bV,[aB,aH],bS)))) (am0 aM.2.1 0 .junk) (am0 aM.2.1 1 .junk) (am0 aM.2.1 2 .junk) (am0 aM.2.1 3 .junk) (am0 aM.2.1 4 .junk) (am0 aM.2.1 5 .junk) aM.2.2)) (fun _ _=>none))) (fun _ _=>none))) (fun _ _=>none))) (fun _ _=>none))) (fun _ _=>none))) (fun _ _=>none)).bind fun aL=>(fun aO aP aR=>Ex.nP aL.1 ((kW true 4 aR aO).bind fun bK=>mJ (ab7 h0) (.tuple [bK,aP]) aR)) (am0 aL.2.1 0 .junk) (am0 aL.2.1 1 .junk) aL.2.2
theorem LH (K:lE) (a0 a1:kP) (h0:kT):qJ Tryz.prog mV mQ K 56 [a0,a1] h0=m56 (mD mV K) a0 a1 h0:=by kernel_rfl
def ar8 (K:lE) (a0:kP) (h0:kT):Option (n_×kT) :=
 ((kZ .eql a0 (.int .u8 32)).bind fun t0=>(kQ false t0 (kY a0 h0) (kY (.tuple []) h0)).bind (kX (fun t1 h2=>(kQ false t0 ((kZ .eql t1 (.int .u8 9)).bind fun t3=>kY t3 h2) (kY (.tuple []) h2)).bind (kX (fun t4 h5=>(lV t0 (.bool true) t4).bind fun t6=>(kQ false t6 (kY a0 h5) (kY (.tuple []) h5)).bind (kX (fun t7 h8=>(kQ false t6 ((kZ .eql t7 (.int .u8 10)).bind fun t9=>kY t9 h8) (kY (.tuple []) h8)).bind (kX (fun aH aD=>(lV t6 (.bool true) aH).bind fun aC=>(kQ false aC (kY a0 aD) (kY (.tuple []) aD)).bind (kX (fun aI aE=>(kQ false aC ((kZ .eql aI (.int .u8 13)).bind fun aJ=>kY aJ aE) (kY (.tuple []) aE)).bind (kX (fun aK aF=>(lV aC (.bool true) aK).bind fun aL=>some (.ret,[aL],aF)) (fun _ _=>none))) (fun _ _=>none))) (fun _ _=>none))) (fun _ _=>none))) (fun _ _=>none))) (fun _ _=>none))).bind fun aB=>(fun aA aG=>Ex.nP aB.1 (mJ (ab7 h0) aA aG)) (am0 aB.2.1 0 .junk) aB.2.2
theorem ajJ (K:lE) (a0:kP) (h0:kT):qJ Tryz.prog mV mQ K 143 [a0] h0=ar8 (mD mV K) a0 h0:=by kernel_rfl
def az3 (K:lE) (a0 a1:kP) (h0:kT):Option (n_×kT) :=
 (kU (K 176 [(kP.kV a0),(kP.kV a1)] h0) (fun t0 h1=>some (.ret,[t0],h1)) (fun _ _=>none)).bind fun r2=>(fun aA h4=>Ex.nP r2.1 (mJ (ab7 h0) aA h4)) (am0 r2.2.1 0 .junk) r2.2.2
theorem ajK (K:lE) (a0 a1:kP) (h0:kT):qJ Tryz.prog mV mQ K 144 [a0,a1] h0=az3 (mD mV K) a0 a1 h0:=by kernel_rfl
def az4 (K:lE) (a0 a1:kP) (h0:kT):Option (n_×kT) :=
 (kU (K 177 [(kP.kV a0),(kP.kV a1)] h0) (fun t0 h1=>some (.ret,[t0],h1)) (fun _ _=>none)).bind fun r2=>(fun aA h4=>Ex.nP r2.1 (mJ (ab7 h0) aA h4)) (am0 r2.2.1 0 .junk) r2.2.2
theorem ajL (K:lE) (a0 a1:kP) (h0:kT):qJ Tryz.prog mV mQ K 145 [a0,a1] h0=az4 (mD mV K) a0 a1 h0:=by kernel_rfl
def ar9 (K:lE) (a0:kP) (h0:kT):Option (n_×kT) :=
 ((kZ .geq a0 (.int .u8 97)).bind fun t0=>(kQ true t0 (kY a0 h0) (kY (.tuple []) h0)).bind (kX (fun t1 h2=>(kQ true t0 ((kZ .leq t1 (.int .u8 122)).bind fun t3=>kY t3 h2) (kY (.tuple []) h2)).bind (kX (fun t4 h5=>(lV t0 t4 (.bool false)).bind fun t6=>(kQ false t6 (kY a0 h5) (kY (.tuple []) h5)).bind (kX (fun t7 h8=>(kQ false t6 ((kZ .geq t7 (.int .u8 65)).bind fun t9=>kY t9 h8) (kY (.tuple []) h8)).bind (kX (fun aM aE=>(kQ false t6 (kY aM aE) (kY (.tuple []) aE)).bind (kX (fun aC aF=>(kQ true aC (kY a0 aF) (kY (.tuple []) aF)).bind (kX (fun aN aG=>(kQ true aC ((kZ .leq aN (.int .u8 90)).bind fun aO=>kY aO aG) (kY (.tuple []) aG)).bind (kX (fun aP aH=>(kQ false t6 ((lV aC aP (.bool false)).bind fun aQ=>kY aQ aH) (kY (.tuple []) aH)).bind (kX (fun aR aI=>(lV t6 (.bool true) aR).bind fun aD=>(kQ false aD (kY a0 aI) (kY (.tuple []) aI)).bind (kX (fun aS aJ=>(kQ false aD ((kZ .eql aS (.int .u8 95)).bind fun aT=>kY aT aJ) (kY (.tuple []) aJ)).bind (kX (fun aU aK=>(lV aD (.bool true) aU).bind fun aV=>some (.ret,[aV],aK)) (fun _ _=>none))) (fun _ _=>none))) (fun _ _=>none))) (fun _ _=>none))) (fun _ _=>none))) (fun _ _=>none))) (fun _ _=>none))) (fun _ _=>none))) (fun _ _=>none))) (fun _ _=>none))).bind fun aB=>(fun aA aL=>Ex.nP aB.1 (mJ (ab7 h0) aA aL)) (am0 aB.2.1 0 .junk) aB.2.2
theorem ajM (K:lE) (a0:kP) (h0:kT):qJ Tryz.prog mV mQ K 146 [a0] h0=ar9 (mD mV K) a0 h0:=by kernel_rfl
def Fc (K:lE) (m:Nat) (s:List kP×kT):Option R :=
 (fun aA aE aB h6=>(lG aA).bind fun t7=>(kR 0 t7).bind fun t8=>(kW false 1 h6 t8).bind fun t9=>(nW t9).bind fun aX=>(kZ .lss aB aX).bind fun aC=>(kQ true aC (kY aA h6) (kY (.tuple []) h6)).bind (kX (fun aY aH=>(kQ true aC ((lG aY).bind fun aZ=>kY aZ aH) (kY (.tuple []) aH)).bind (kX (fun a_ aI=>(kQ true aC ((kR 0 a_).bind fun bA=>kY bA aI) (kY (.tuple []) aI)).bind (kX (fun bB aF=>(kQ true aC ((kW false 1 aF bB).bind fun bC=>kY bC aF) (kY (.tuple []) aF)).bind (kX (fun bD aJ=>(kQ true aC (kY aB aJ) (kY (.tuple []) aJ)).bind (kX (fun bE aK=>(kQ true aC ((mX bD bE).bind fun bF=>kY bF aK) (kY (.tuple []) aK)).bind (kX (fun bG aL=>(kQ true aC (kU (K 146 [(kP.kV bG)] aL) (fun bH aV=>kY bH aV) AV) (kY (.tuple []) aL)).bind (kX (fun bI aM=>(kQ true aC (kY bI aM) (kY (.tuple []) aM)).bind (kX (fun aD aN=>(kQ false aD (kY aA aN) (kY (.tuple []) aN)).bind (kX (fun bJ aO=>(kQ false aD ((lG bJ).bind fun bK=>kY bK aO) (kY (.tuple []) aO)).bind (kX (fun bL aP=>(kQ false aD ((kR 0 bL).bind fun bM=>kY bM aP) (kY (.tuple []) aP)).bind (kX (fun bN aG=>(kQ false aD ((kW false 1 aG bN).bind fun bO=>kY bO aG) (kY (.tuple []) aG)).bind (kX (fun bP aQ=>(kQ false aD (kY aB aQ) (kY (.tuple []) aQ)).bind (kX (fun bQ aR=>(kQ false aD ((mX bP bQ).bind fun bR=>kY bR aR) (kY (.tuple []) aR)).bind (kX (fun bS aS=>(kQ false aD (kU (K 148 [(kP.kV bS)] aS) (fun bT aW=>kY bT aW) AV) (kY (.tuple []) aS)).bind (kX (fun bU aT=>(kQ true aC ((lV aD (.bool true) bU).bind fun bV=>kY bV aT) (kY (.tuple []) aT)).bind (kX (fun bW aU=>(lV aC bW (.bool false)).bind fun bX=>lC bX ((kZ .add aB (.int .i64 1)).bind fun bY=>lA m .normal [aA,aE,bY] aU) (lA m (.exit 0) [aA,aE,aB] aU)) (fun _ _=>none))) (fun _ _=>none))) (fun _ _=>none))) (fun _ _=>none))) (fun _ _=>none))) (fun _ _=>none))) (fun _ _=>none))) (fun _ _=>none))) (fun _ _=>none))) (fun _ _=>none))) (fun _ _=>none))) (fun _ _=>none))) (fun _ _=>none))) (fun _ _=>none))) (fun _ _=>none))) (fun _ _=>none))) (am0 s.1 0 .junk) (am0 s.1 1 .junk) (am0 s.1 2 .junk) s.2
def az5 (K:lE) (a0:kP) (h0:kT):Option (n_×kT) :=
 ((lG a0).bind fun t0=>(kR 1 t0).bind fun t1=>(kW false 1 h0 t1).bind fun t2=>(mQ (Fc K (ab7 h0)) ([a0,(.str []),t2],h0)).bind fun aB=>(fun aA aC aE aF=>Ex.mG aB.1 none (fun aH=>Ex.inBlock 0 aH ((lG aA).bind fun aK=>(kR 0 aK).bind fun aL=>(kW false 1 aF aL).bind fun aM=>(lG aA).bind fun aN=>(kR 1 aN).bind fun aO=>(kW false 1 aF aO).bind fun aP=>(oY aM (some aP) (some aE)).bind fun aQ=>some (.ret,[aQ],aF)) (fun aI=>some (aI,[aC],aF)))) (am0 aB.2.1 0 .junk) (am0 aB.2.1 1 .junk) (am0 aB.2.1 2 .junk) aB.2.2).bind fun aG=>(fun aD aJ=>Ex.nP aG.1 (mJ (ab7 h0) aD aJ)) (am0 aG.2.1 0 .junk) aG.2.2
theorem ajN (K:lE) (a0:kP) (h0:kT):qJ Tryz.prog mV mQ K 147 [a0] h0=az5 (mD mV K) a0 h0:=by kernel_rfl
def asA (K:lE) (a0:kP) (h0:kT):Option (n_×kT) :=
 ((kZ .geq a0 (.int .u8 48)).bind fun t0=>(kQ true t0 (kY a0 h0) (kY (.tuple []) h0)).bind (kX (fun t1 h2=>(kQ true t0 ((kZ .leq t1 (.int .u8 57)).bind fun t3=>kY t3 h2) (kY (.tuple []) h2)).bind (kX (fun t4 h5=>(lV t0 t4 (.bool false)).bind fun t6=>some (.ret,[t6],h5)) (fun _ _=>none))) (fun _ _=>none))).bind fun r7=>(fun aA h9=>Ex.nP r7.1 (mJ (ab7 h0) aA h9)) (am0 r7.2.1 0 .junk) r7.2.2
theorem ajO (K:lE) (a0:kP) (h0:kT):qJ Tryz.prog mV mQ K 148 [a0] h0=asA (mD mV K) a0 h0:=by kernel_rfl
def DN (K:lE) (m:Nat) (s:List kP×kT):Option R :=
 (fun aD aF aG aC aE aB aA aJ=>(kZ .lss aA aB).bind fun aL=>lC aL ((mX aD aA).bind fun aM=>kU (K 179 [(kP.kV aM),(kP.kV aC)] aJ) (fun aK aH=>(lT 0 aK).bind fun aN=>(lT 1 aK).bind fun aO=>(x8 .not aO).bind fun aP=>lC aP (lA m .ret [aD,(.int .i64 0),(.bool false),aC,aE,aB,aA] aH) ((kZ .mul aC aE).bind fun aQ=>(kZ .add aQ aN).bind fun aI=>(kZ .gtr aI (.int .i64 4294967295)).bind fun aR=>lC aR (lA m .ret [aD,(.int .i64 0),(.bool false),aC,aI,aB,aA] aH) ((kZ .add aA (.int .i64 1)).bind fun aS=>lA m .normal [aD,aF,aG,aC,aI,aB,aS] aH))) (fun _ _=>none)) (lA m (.exit 0) [aD,aF,aG,aC,aE,aB,aA] aJ)) (am0 s.1 0 .junk) (am0 s.1 1 .junk) (am0 s.1 2 .junk) (am0 s.1 3 .junk) (am0 s.1 4 .junk) (am0 s.1 5 .junk) (am0 s.1 6 .junk) s.2
def PW (K:lE) (a0:kP) (h0:kT):Option (n_×kT) :=
 (kU (K 178 [(kP.kV a0),(kP.kV (.str [48,120]))] h0) (fun t0 h1=>(lT 0 t0).bind fun t2=>(lT 1 t0).bind fun t3=>(lC t3 ((kZ .eql t2 (.str [])).bind fun t4=>(kQ false t4 (kY t2 h1) (kY (.tuple []) h1)).bind (kX (fun t5 h6=>(kQ false t4 ((nW t5).bind fun t7=>kY t7 h6) (kY (.tuple []) h6)).bind (kX (fun t8 h9=>(kQ false t4 ((kZ .gtr t8 (.int .i64 8)).bind fun a_=>kY a_ h9) (kY (.tuple []) h9)).bind (kX (fun bA aQ=>(lV t4 (.bool true) bA).bind fun bB=>lC bB (some (.ret,[a0,(.int .i64 0),(.bool false),(.int .i64 10)],aQ)) (some (.normal,[t2,(.int .i64 0),(.bool false),(.int .i64 16)],aQ))) (fun _ _=>none))) (fun _ _=>none))) (fun _ _=>none))) ((mX a0 (.int .i64 0)).bind fun bC=>(kZ .eql bC (.int .u8 48)).bind fun aN=>(kQ true aN (kY a0 h1) (kY (.tuple []) h1)).bind (kX (fun bD aR=>(kQ true aN ((kZ .neq bD (.str [48])).bind fun bE=>kY bE aR) (kY (.tuple []) aR)).bind (kX (fun bF aS=>(lV aN bF (.bool false)).bind fun bG=>lC bG (some (.ret,[a0,(.int .i64 0),(.bool false),(.int .i64 10)],aS)) (some (.normal,[a0,(.int .i64 0),(.bool false),(.int .i64 10)],aS))) (fun _ _=>none))) (fun _ _=>none)))).bind fun aE=>(fun aB aC aD aJ aM=>Ex.mG aE.1 ((nW aB).bind fun bH=>(mQ (DN K (ab7 aM)) ([aB,aC,aD,aJ,(.int .i64 0),bH,(.int .i64 0)],aM)).bind fun aA=>(fun aU aF aH aV aK aO aP aT=>Ex.mG aA.1 none (fun aX=>Ex.inBlock 0 aX (some (.ret,[aK,(.bool true)],aT)) (fun aY=>some (aY,[aF,aH],aT)))) (am0 aA.2.1 0 .junk) (am0 aA.2.1 1 .junk) (am0 aA.2.1 2 .junk) (am0 aA.2.1 3 .junk) (am0 aA.2.1 4 .junk) (am0 aA.2.1 5 .junk) (am0 aA.2.1 6 .junk) aA.2.2) (fun aW=>some (aW,[aC,aD],aM))) (am0 aE.2.1 0 .junk) (am0 aE.2.1 1 .junk) (am0 aE.2.1 2 .junk) (am0 aE.2.1 3 .junk) aE.2.2) (fun _ _=>none)).bind fun aL=>(fun aG aI aZ=>Ex.nP aL.1 (mJ (ab7 h0) (.tuple [aG,aI]) aZ)) (am0 aL.2.1 0 .junk) (am0 aL.2.1 1 .junk) aL.2.2
theorem ajP (K:lE) (a0:kP) (h0:kT):qJ Tryz.prog mV mQ K 149 [a0] h0=PW (mD mV K) a0 h0:=by kernel_rfl
def aEn (K:lE) (a0:kP) (h0:kT):Option (n_×kT) :=
 ((kZ .eql a0 (.int .u8 32)).bind fun t0=>(kQ false t0 (kY a0 h0) (kY (.tuple []) h0)).bind (kX (fun t1 h2=>(kQ false t0 ((kZ .eql t1 (.int .u8 9)).bind fun t3=>kY t3 h2) (kY (.tuple []) h2)).bind (kX (fun t4 h5=>(lV t0 (.bool true) t4).bind fun t6=>(kQ false t6 (kY a0 h5) (kY (.tuple []) h5)).bind (kX (fun t7 h8=>(kQ false t6 ((kZ .eql t7 (.int .u8 10)).bind fun t9=>kY t9 h8) (kY (.tuple []) h8)).bind (kX (fun aH aD=>(lV t6 (.bool true) aH).bind fun aC=>(kQ false aC (kY a0 aD) (kY (.tuple []) aD)).bind (kX (fun aI aE=>(kQ false aC ((kZ .eql aI (.int .u8 13)).bind fun aJ=>kY aJ aE) (kY (.tuple []) aE)).bind (kX (fun aK aF=>(lV aC (.bool true) aK).bind fun aL=>some (.ret,[aL],aF)) (fun _ _=>none))) (fun _ _=>none))) (fun _ _=>none))) (fun _ _=>none))) (fun _ _=>none))) (fun _ _=>none))).bind fun aB=>(fun aA aG=>Ex.nP aB.1 (mJ (ab7 h0) aA aG)) (am0 aB.2.1 0 .junk) aB.2.2
theorem ai5 (K:lE) (a0:kP) (h0:kT):qJ Tryz.prog mV mQ K 112 [a0] h0=aEn (mD mV K) a0 h0:=by kernel_rfl
def aEo (K:lE) (a0:kP) (h0:kT):Option (n_×kT) :=
 ((kZ .geq a0 (.int .u8 97)).bind fun t0=>(kQ true t0 (kY a0 h0) (kY (.tuple []) h0)).bind (kX (fun t1 h2=>(kQ true t0 ((kZ .leq t1 (.int .u8 122)).bind fun t3=>kY t3 h2) (kY (.tuple []) h2)).bind (kX (fun t4 h5=>(lV t0 t4 (.bool false)).bind fun t6=>(kQ false t6 (kY a0 h5) (kY (.tuple []) h5)).bind (kX (fun t7 h8=>(kQ false t6 ((kZ .geq t7 (.int .u8 65)).bind fun t9=>kY t9 h8) (kY (.tuple []) h8)).bind (kX (fun aM aE=>(kQ false t6 (kY aM aE) (kY (.tuple []) aE)).bind (kX (fun aC aF=>(kQ true aC (kY a0 aF) (kY (.tuple []) aF)).bind (kX (fun aN aG=>(kQ true aC ((kZ .leq aN (.int .u8 90)).bind fun aO=>kY aO aG) (kY (.tuple []) aG)).bind (kX (fun aP aH=>(kQ false t6 ((lV aC aP (.bool false)).bind fun aQ=>kY aQ aH) (kY (.tuple []) aH)).bind (kX (fun aR aI=>(lV t6 (.bool true) aR).bind fun aD=>(kQ false aD (kY a0 aI) (kY (.tuple []) aI)).bind (kX (fun aS aJ=>(kQ false aD ((kZ .eql aS (.int .u8 95)).bind fun aT=>kY aT aJ) (kY (.tuple []) aJ)).bind (kX (fun aU aK=>(lV aD (.bool true) aU).bind fun aV=>some (.ret,[aV],aK)) (fun _ _=>none))) (fun _ _=>none))) (fun _ _=>none))) (fun _ _=>none))) (fun _ _=>none))) (fun _ _=>none))) (fun _ _=>none))) (fun _ _=>none))) (fun _ _=>none))) (fun _ _=>none))).bind fun aB=>(fun aA aL=>Ex.nP aB.1 (mJ (ab7 h0) aA aL)) (am0 aB.2.1 0 .junk) aB.2.2
theorem ai6 (K:lE) (a0:kP) (h0:kT):qJ Tryz.prog mV mQ K 113 [a0] h0=aEo (mD mV K) a0 h0:=by kernel_rfl
def aEp (K:lE) (a0:kP) (h0:kT):Option (n_×kT) :=
 ((kZ .geq a0 (.int .u8 48)).bind fun t0=>(kQ true t0 (kY a0 h0) (kY (.tuple []) h0)).bind (kX (fun t1 h2=>(kQ true t0 ((kZ .leq t1 (.int .u8 57)).bind fun t3=>kY t3 h2) (kY (.tuple []) h2)).bind (kX (fun t4 h5=>(lV t0 t4 (.bool false)).bind fun t6=>some (.ret,[t6],h5)) (fun _ _=>none))) (fun _ _=>none))).bind fun r7=>(fun aA h9=>Ex.nP r7.1 (mJ (ab7 h0) aA h9)) (am0 r7.2.1 0 .junk) r7.2.2
theorem ai7 (K:lE) (a0:kP) (h0:kT):qJ Tryz.prog mV mQ K 114 [a0] h0=aEp (mD mV K) a0 h0:=by kernel_rfl
def XJ (K:lE) (a0 a1:kP) (h0:kT):Option (n_×kT) :=
 ((kZ .add a1 (.int .i64 2)).bind fun t0=>(nW a0).bind fun t1=>(kZ .leq t0 t1).bind fun t2=>(kQ true t2 (kY a0 h0) (kY (.tuple []) h0)).bind (kX (fun t3 h4=>(kQ true t2 (kY a1 h4) (kY (.tuple []) h4)).bind (kX (fun t5 h6=>(kQ true t2 (kY a1 h6) (kY (.tuple []) h6)).bind (kX (fun t7 h8=>(kQ true t2 ((kZ .add t7 (.int .i64 2)).bind fun t9=>kY t9 h8) (kY (.tuple []) h8)).bind (kX (fun aI aC=>(kQ true t2 ((oY t3 (some t5) (some aI)).bind fun aJ=>kY aJ aC) (kY (.tuple []) aC)).bind (kX (fun aK aD=>(kQ true t2 (kU (K 117 [(kP.kV (.str [32,60,60,32,62,62,32,61,61,32,33,61,32,60,61,32,62,61,32])),(kP.kV aK)] aD) (fun aL aG=>kY aL aG) AV) (kY (.tuple []) aD)).bind (kX (fun aM aE=>(lV t2 aM (.bool false)).bind fun aN=>lC aN ((kZ .add a1 (.int .i64 2)).bind fun aO=>(oY a0 (some a1) (some aO)).bind fun aP=>some (.ret,[aP],aE)) ((kZ .add a1 (.int .i64 1)).bind fun aQ=>(oY a0 (some a1) (some aQ)).bind fun aR=>kU (K 117 [(kP.kV (.str [32,40,32,41,32,123,32,125,32,91,32,93,32,44,32,59,32,58,32,61,32,43,32,45,32,42,32,38,32,124,32,94,32,126,32,33,32,60,32,62,32])),(kP.kV aR)] aE) (fun aS aF=>lC aS ((kZ .add a1 (.int .i64 1)).bind fun aT=>(oY a0 (some a1) (some aT)).bind fun aU=>some (.ret,[aU],aF)) (some (.ret,[(.str [])],aF))) (fun _ _=>none))) (fun _ _=>none))) (fun _ _=>none))) (fun _ _=>none))) (fun _ _=>none))) (fun _ _=>none))) (fun _ _=>none))).bind fun aB=>(fun aA aH=>Ex.nP aB.1 (mJ (ab7 h0) aA aH)) (am0 aB.2.1 0 .junk) aB.2.2
theorem ai8 (K:lE) (a0 a1:kP) (h0:kT):qJ Tryz.prog mV mQ K 115 [a0,a1] h0=XJ (mD mV K) a0 a1 h0:=by kernel_rfl
def Cu (K:lE) (m:Nat) (s:List kP×kT):Option R :=
 (fun aA aE aC aD aB aV=>(nW aA).bind fun bH=>(kZ .lss aB bH).bind fun bI=>lC bI (((mX aA aB).bind fun bJ=>(vZ .i64 bJ).bind fun bK=>(kZ .sub bK (.int .i64 48)).bind fun bF=>(mX aA aB).bind fun bL=>(kZ .geq bL (.int .u8 97)).bind fun aS=>(kQ true aS (kY aA aV) (kY (.tuple []) aV)).bind (kX (fun bM aY=>(kQ true aS (kY aB aY) (kY (.tuple []) aY)).bind (kX (fun bN aZ=>(kQ true aS ((mX bM bN).bind fun bO=>kY bO aZ) (kY (.tuple []) aZ)).bind (kX (fun bP a_=>(kQ true aS ((kZ .leq bP (.int .u8 102)).bind fun bQ=>kY bQ a_) (kY (.tuple []) a_)).bind (kX (fun bR bA=>(lV aS bR (.bool false)).bind fun aX=>(kQ true aX (kY aC bA) (kY (.tuple []) bA)).bind (kX (fun bS bB=>(kQ true aX ((kZ .eql bS (.int .i64 16)).bind fun bT=>kY bT bB) (kY (.tuple []) bB)).bind (kX (fun bU bC=>(lV aX bU (.bool false)).bind fun bV=>(lC bV ((mX aA aB).bind fun bW=>(vZ .i64 bW).bind fun bX=>(kZ .sub bX (.int .i64 97)).bind fun bY=>(kZ .add bY (.int .i64 10)).bind fun bZ=>some (.normal,[aA,aE,aC,aD,aB,bZ],bC)) ((mX aA aB).bind fun b7=>kU (K 114 [(kP.kV b7)] bC) (fun b8 bD=>(x8 .not b8).bind fun b9=>lC b9 (some (.ret,[aA,(.int .i64 (-1)),aC,aD,aB,bF],bD)) (some (.normal,[aA,aE,aC,aD,aB,bF],bD))) (fun _ _=>none))).bind fun aG=>(fun aH aJ aF aM aO aT bE=>Ex.mG aG.1 ((kZ .mul aM aF).bind fun b_=>(kZ .add b_ aT).bind fun cA=>some (.normal,[aH,aJ,aF,cA,aO],bE)) (fun bG=>some (bG,[aH,aJ,aF,aM,aO],bE))) (am0 aG.2.1 0 .junk) (am0 aG.2.1 1 .junk) (am0 aG.2.1 2 .junk) (am0 aG.2.1 3 .junk) (am0 aG.2.1 4 .junk) (am0 aG.2.1 5 .junk) aG.2.2) (fun _ _=>none))) (fun _ _=>none))) (fun _ _=>none))) (fun _ _=>none))) (fun _ _=>none))) (fun _ _=>none))).bind fun aQ=>(fun aI aK aL aN aP aR=>Ex.inBlock 1 aQ.1 ((kZ .add aP (.int .i64 1)).bind fun aW=>lA m .normal [aI,aK,aL,aN,aW] aR) (fun aU=>lA m aU [aI,aK,aL,aN,aP] aR)) (am0 aQ.2.1 0 .junk) (am0 aQ.2.1 1 .junk) (am0 aQ.2.1 2 .junk) (am0 aQ.2.1 3 .junk) (am0 aQ.2.1 4 .junk) aQ.2.2) (lA m (.exit 0) [aA,aE,aC,aD,aB] aV)) (am0 s.1 0 .junk) (am0 s.1 1 .junk) (am0 s.1 2 .junk) (am0 s.1 3 .junk) (am0 s.1 4 .junk) s.2
def F1 (K:lE) (a0:kP) (h0:kT):Option (n_×kT) :=
 ((nW a0).bind fun t0=>(kZ .geq t0 (.int .i64 2)).bind fun t1=>(kQ true t1 (kY a0 h0) (kY (.tuple []) h0)).bind (kX (fun t2 h3=>(kQ true t1 ((oY t2 none (some (.int .i64 2))).bind fun t4=>kY t4 h3) (kY (.tuple []) h3)).bind (kX (fun t5 h6=>(kQ true t1 ((kZ .eql t5 (.str [48,120])).bind fun t7=>kY t7 h6) (kY (.tuple []) h6)).bind (kX (fun t8 h9=>(lV t1 t8 (.bool false)).bind fun bD=>(lC bD ((oY a0 (some (.int .i64 2)) none).bind fun aQ=>(nW aQ).bind fun bE=>(kZ .gtr bE (.int .i64 8)).bind fun bF=>lC bF (some (.ret,[aQ,(.int .i64 (-1)),(.int .i64 16)],h9)) (some (.normal,[aQ,(.int .i64 0),(.int .i64 16)],h9))) ((nW a0).bind fun bG=>(kZ .gtr bG (.int .i64 10)).bind fun aI=>(kQ false aI (kY a0 h9) (kY (.tuple []) h9)).bind (kX (fun bH aV=>(kQ false aI ((nW bH).bind fun bI=>kY bI aV) (kY (.tuple []) aV)).bind (kX (fun bJ aW=>(kQ false aI ((kZ .gtr bJ (.int .i64 1)).bind fun bK=>kY bK aW) (kY (.tuple []) aW)).bind (kX (fun bL aX=>(kQ false aI (kY bL aX) (kY (.tuple []) aX)).bind (kX (fun aM aY=>(kQ true aM (kY a0 aY) (kY (.tuple []) aY)).bind (kX (fun bM aZ=>(kQ true aM ((mX bM (.int .i64 0)).bind fun bN=>kY bN aZ) (kY (.tuple []) aZ)).bind (kX (fun bO a_=>(kQ true aM ((kZ .eql bO (.int .u8 48)).bind fun bP=>kY bP a_) (kY (.tuple []) a_)).bind (kX (fun bQ bA=>(kQ false aI ((lV aM bQ (.bool false)).bind fun bR=>kY bR bA) (kY (.tuple []) bA)).bind (kX (fun bS bB=>(lV aI (.bool true) bS).bind fun bT=>lC bT (some (.ret,[a0,(.int .i64 (-1)),(.int .i64 10)],bB)) (some (.normal,[a0,(.int .i64 0),(.int .i64 10)],bB))) (fun _ _=>none))) (fun _ _=>none))) (fun _ _=>none))) (fun _ _=>none))) (fun _ _=>none))) (fun _ _=>none))) (fun _ _=>none))) (fun _ _=>none)))).bind fun aJ=>(fun aC aD aK aL=>Ex.mG aJ.1 ((kZ .eql aC (.str [])).bind fun bU=>lC bU (some (.ret,[(.int .i64 (-1))],aL)) ((mQ (Cu K (ab7 aL)) ([aC,aD,aK,(.int .i64 0),(.int .i64 0)],aL)).bind fun aA=>(fun aS aG aT aB aU aE=>Ex.mG aA.1 none (fun aN=>Ex.inBlock 0 aN ((kZ .geq aB (.int .i64 4294967296)).bind fun aR=>lC aR (some (.ret,[(.int .i64 (-1))],aE)) (some (.ret,[aB],aE))) (fun aO=>some (aO,[aG],aE)))) (am0 aA.2.1 0 .junk) (am0 aA.2.1 1 .junk) (am0 aA.2.1 2 .junk) (am0 aA.2.1 3 .junk) (am0 aA.2.1 4 .junk) aA.2.2)) (fun bC=>some (bC,[aD],aL))) (am0 aJ.2.1 0 .junk) (am0 aJ.2.1 1 .junk) (am0 aJ.2.1 2 .junk) aJ.2.2) (fun _ _=>none))) (fun _ _=>none))) (fun _ _=>none))).bind fun aF=>(fun aH aP=>Ex.nP aF.1 (mJ (ab7 h0) aH aP)) (am0 aF.2.1 0 .junk) aF.2.2
theorem ai9 (K:lE) (a0:kP) (h0:kT):qJ Tryz.prog mV mQ K 116 [a0] h0=F1 (mD mV K) a0 h0:=by kernel_rfl
def DK (K:lE) (m:Nat) (s:List kP×kT):Option R :=
 (fun aC aD aA aB h6=>(nW aA).bind fun t7=>(kZ .add aB t7).bind fun t8=>(nW aC).bind fun t9=>(kZ .leq t8 t9).bind fun aE=>lC aE ((nW aA).bind fun aF=>(kZ .add aB aF).bind fun aG=>(oY aC (some aB) (some aG)).bind fun aH=>(kZ .eql aH aA).bind fun aI=>lC aI (lA m .ret [aC,(.bool true),aA,aB] h6) ((kZ .add aB (.int .i64 1)).bind fun aJ=>lA m .normal [aC,aD,aA,aJ] h6)) (lA m (.exit 0) [aC,aD,aA,aB] h6)) (am0 s.1 0 .junk) (am0 s.1 1 .junk) (am0 s.1 2 .junk) (am0 s.1 3 .junk) s.2
def ar3 (K:lE) (a0 a1:kP) (h0:kT):Option (n_×kT) :=
 ((kZ .add (.str [32]) a1).bind fun t0=>(kZ .add t0 (.str [32])).bind fun t1=>(mQ (DK K (ab7 h0)) ([a0,(.bool false),t1,(.int .i64 0)],h0)).bind fun aA=>(fun aF aB aG aH aE=>Ex.mG aA.1 none (fun aI=>Ex.inBlock 0 aI (some (.ret,[(.bool false)],aE)) (fun aJ=>some (aJ,[aB],aE)))) (am0 aA.2.1 0 .junk) (am0 aA.2.1 1 .junk) (am0 aA.2.1 2 .junk) (am0 aA.2.1 3 .junk) aA.2.2).bind fun aD=>(fun aC aK=>Ex.nP aD.1 (mJ (ab7 h0) aC aK)) (am0 aD.2.1 0 .junk) aD.2.2
theorem ajA (K:lE) (a0 a1:kP) (h0:kT):qJ Tryz.prog mV mQ K 117 [a0,a1] h0=ar3 (mD mV K) a0 a1 h0:=by kernel_rfl
def ajZ (K:lE) (a0 a1:kP) (h0:kT):Option (n_×kT) :=
 ((nW a0).bind fun t0=>(nW a1).bind fun t1=>(kZ .geq t0 t1).bind fun t2=>(kQ true t2 (kY a0 h0) (kY (.tuple []) h0)).bind (kX (fun t3 h4=>(kQ true t2 (kY a1 h4) (kY (.tuple []) h4)).bind (kX (fun t5 h6=>(kQ true t2 ((nW t5).bind fun t7=>kY t7 h6) (kY (.tuple []) h6)).bind (kX (fun t8 h9=>(kQ true t2 ((oY t3 none (some t8)).bind fun aG=>kY aG h9) (kY (.tuple []) h9)).bind (kX (fun aH aC=>(kQ true t2 (kY a1 aC) (kY (.tuple []) aC)).bind (kX (fun aI aD=>(kQ true t2 ((kZ .eql aH aI).bind fun aJ=>kY aJ aD) (kY (.tuple []) aD)).bind (kX (fun aK aE=>(lV t2 aK (.bool false)).bind fun aL=>some (.ret,[aL],aE)) (fun _ _=>none))) (fun _ _=>none))) (fun _ _=>none))) (fun _ _=>none))) (fun _ _=>none))) (fun _ _=>none))).bind fun aB=>(fun aA aF=>Ex.nP aB.1 (mJ (ab7 h0) aA aF)) (am0 aB.2.1 0 .junk) aB.2.2
theorem aj0 (K:lE) (a0 a1:kP) (h0:kT):qJ Tryz.prog mV mQ K 176 [a0,a1] h0=ajZ (mD mV K) a0 a1 h0:=by kernel_rfl
def aAc (K:lE) (a0 a1:kP) (h0:kT):Option (n_×kT) :=
 (kU (aaB .indexByte [(kP.kV a0),(kP.kV a1)] h0) (fun t0 h1=>some (.ret,[t0],h1)) (fun _ _=>none)).bind fun r2=>(fun aA h4=>Ex.nP r2.1 (mJ (ab7 h0) aA h4)) (am0 r2.2.1 0 .junk) r2.2.2
theorem aj1 (K:lE) (a0 a1:kP) (h0:kT):qJ Tryz.prog mV mQ K 177 [a0,a1] h0=aAc (mD mV K) a0 a1 h0:=by kernel_rfl
def aAd (K:lE) (a0 a1:kP) (h0:kT):Option (n_×kT) :=
 (kU (K 204 [(kP.kV a0),(kP.kV a1)] h0) (fun t0 h1=>(lT 0 t0).bind fun t2=>(lT 1 t0).bind fun t3=>some (.ret,[t2,t3],h1)) (fun _ _=>none)).bind fun r4=>(fun aA aB h7=>Ex.nP r4.1 (mJ (ab7 h0) (.tuple [aA,aB]) h7)) (am0 r4.2.1 0 .junk) (am0 r4.2.1 1 .junk) r4.2.2
theorem aj2 (K:lE) (a0 a1:kP) (h0:kT):qJ Tryz.prog mV mQ K 178 [a0,a1] h0=aAd (mD mV K) a0 a1 h0:=by kernel_rfl
def abS (K:lE) (a0 a1:kP) (h0:kT):Option (n_×kT) :=
 (kU (K 148 [(kP.kV a0)] h0) (fun t0 h1=>lC t0 ((kZ .sub a0 (.int .u8 48)).bind fun t2=>(vZ .i64 t2).bind fun t3=>some (.ret,[t3,(.bool true)],h1)) ((kZ .gtr a1 (.int .i64 10)).bind fun t4=>(kQ true t4 (kY a0 h1) (kY (.tuple []) h1)).bind (kX (fun t5 h6=>(kQ true t4 ((kZ .geq t5 (.int .u8 97)).bind fun t7=>kY t7 h6) (kY (.tuple []) h6)).bind (kX (fun t8 h9=>(lV t4 t8 (.bool false)).bind fun aD=>(kQ true aD (kY a0 h9) (kY (.tuple []) h9)).bind (kX (fun aH aE=>(kQ true aD ((kZ .leq aH (.int .u8 102)).bind fun aI=>kY aI aE) (kY (.tuple []) aE)).bind (kX (fun aJ aF=>(lV aD aJ (.bool false)).bind fun aK=>lC aK ((kZ .sub a0 (.int .u8 97)).bind fun aL=>(vZ .i64 aL).bind fun aM=>(kZ .add aM (.int .i64 10)).bind fun aN=>some (.ret,[aN,(.bool true)],aF)) (some (.ret,[(.int .i64 0),(.bool false)],aF))) (fun _ _=>none))) (fun _ _=>none))) (fun _ _=>none))) (fun _ _=>none)))) (fun _ _=>none)).bind fun aC=>(fun aA aB aG=>Ex.nP aC.1 (mJ (ab7 h0) (.tuple [aA,aB]) aG)) (am0 aC.2.1 0 .junk) (am0 aC.2.1 1 .junk) aC.2.2
theorem aj3 (K:lE) (a0 a1:kP) (h0:kT):qJ Tryz.prog mV mQ K 179 [a0,a1] h0=abS (mD mV K) a0 a1 h0:=by kernel_rfl
def asJ (K:lE) (a0 a1:kP) (h0:kT):Option (n_×kT) :=
 (kU (K 176 [(kP.kV a0),(kP.kV a1)] h0) (fun t0 h1=>(x8 .not t0).bind fun t2=>lC t2 (some (.ret,[a0,(.bool false)],h1)) ((nW a1).bind fun t3=>(oY a0 (some t3) none).bind fun t4=>some (.ret,[t4,(.bool true)],h1))) (fun _ _=>none)).bind fun r5=>(fun aA aB h8=>Ex.nP r5.1 (mJ (ab7 h0) (.tuple [aA,aB]) h8)) (am0 r5.2.1 0 .junk) (am0 r5.2.1 1 .junk) r5.2.2
theorem akA (K:lE) (a0 a1:kP) (h0:kT):qJ Tryz.prog mV mQ K 204 [a0,a1] h0=asJ (mD mV K) a0 a1 h0:=by kernel_rfl
end
section
open Go Hk
noncomputable abbrev KK:lE:=mD mV (KX Tryz.prog mV)
abbrev W1 (b:UInt8):kP:=.int .u8 (b.toNat:Int)
def isDigit (b:UInt8):Bool:=decide (48≤b.toNat) && decide (b.toNat≤57)
def o6 (b:UInt8):Bool:=decide (97≤b.toNat) && decide (b.toNat≤122) || decide (65≤b.toNat) && decide (b.toNat≤90) || decide (b.toNat=95)
def qL (b:UInt8):Bool:=decide (b.toNat=32) || decide (b.toNat=9) || decide (b.toNat=10) || decide (b.toNat=13)
theorem Ol (K:lE) (b:UInt8):asA K (W1 b) []=some (.ret (.bool (isDigit b)),[]):=by
 by_cases h1:48≤b.toNat <;> by_cases h2:b.toNat≤57
 all_goals
  have h1':((48:Int)≤b.toNat)↔48≤b.toNat:=by omega
  have h2':((b.toNat:Int)≤57)↔b.toNat≤57:=by omega
  simp [asA,isDigit,h1,h2,h1',h2',kS]
theorem Ng (b:UInt8) (h:kT):KK 148 [W1 b] h=some (.ret (.bool (isDigit b)),h):=lK rfl rfl (lJ (ajO _ _ _) (Ol KK b))
theorem Nd (b:UInt8) (h:kT):KK 114 [W1 b] h=some (.ret (.bool (isDigit b)),h):=lK rfl rfl (lJ (ai7 _ _ _) (Ol KK b))
theorem Ok (K:lE) (b:UInt8):ar9 K (W1 b) []=some (.ret (.bool (o6 b)),[]):=by
 have e1:((97:Int)≤b.toNat)↔97≤b.toNat:=by omega
 have e2:((b.toNat:Int)≤122)↔b.toNat≤122:=by omega
 have e3:((65:Int)≤b.toNat)↔65≤b.toNat:=by omega
 have e4:((b.toNat:Int)≤90)↔b.toNat≤90:=by omega
 have e5:((b.toNat:Int)=95)↔b.toNat=95:=by omega
 by_cases h1:97≤b.toNat <;> by_cases h2:b.toNat≤122 <;> by_cases h3:65≤b.toNat <;> by_cases h4:b.toNat≤90 <;> by_cases h5:b.toNat=95 <;>
  simp [ar9,o6,e1,e2,e3,e4,e5,h1,h2,h3,h4,h5,kS]
theorem Nf (b:UInt8) (h:kT):KK 146 [W1 b] h=some (.ret (.bool (o6 b)),h):=lK rfl rfl (lJ (ajM _ _ _) (Ok KK b))
theorem Tv (b:UInt8) (h:kT):KK 113 [W1 b] h=some (.ret (.bool (o6 b)),h):=lK rfl rfl (lJ (ai6 _ _ _) (Ok KK b))
theorem Oj (K:lE) (b:UInt8):ar8 K (W1 b) []=some (.ret (.bool (qL b)),[]):=by
 have e1:((b.toNat:Int)=32)↔b.toNat=32:=by omega
 have e2:((b.toNat:Int)=9)↔b.toNat=9:=by omega
 have e3:((b.toNat:Int)=10)↔b.toNat=10:=by omega
 have e4:((b.toNat:Int)=13)↔b.toNat=13:=by omega
 by_cases h1:b.toNat=32 <;> by_cases h2:b.toNat=9 <;> by_cases h3:b.toNat=10 <;> by_cases h4:b.toNat=13 <;>
  simp [ar8,qL,e1,e2,e3,e4,h1,h2,h3,h4,kS]
theorem ahI (b:UInt8) (h:kT):KK 143 [W1 b] h=some (.ret (.bool (qL b)),h):=lK rfl rfl (lJ (ajJ _ _ _) (Oj KK b))
theorem ap5 (b:UInt8) (h:kT):KK 112 [W1 b] h=some (.ret (.bool (qL b)),h):=lK rfl rfl (lJ (ai5 _ _ _) (Oj KK b))
theorem XV (K:lE) (s t:List UInt8):ajZ K (.str s) (.str t) []=some (.ret (.bool (decide (s.take t.length=t))),[]):=by
 by_cases h:t.length≤s.length
 ·have h':(t.length:Int)≤s.length:=by omega
  have:=qZ (s:=s) (lo:=none) (hi:=some (.int .i64 (t.length:Int))) yA qT (ak5 _) h
  simp [ajZ,h',this,kS]
 ·have h':¬(t.length:Int)≤s.length:=by omega
  have h2:¬s.take t.length=t:=fun e=>h (by have:=congrArg ab7 e; simp at this; omega)
  simp [ajZ,h',h2,kS]
theorem aqI (s t:List UInt8) (h:kT):KK 176 [.str s,.str t] h=some (.ret (.bool (decide (s.take t.length=t))),h):=lK rfl rfl (lJ (aj0 _ _ _ _) (XV _ s t))
theorem ZN (s t:List UInt8) (h:kT):KK 144 [.str s,.str t] h=some (.ret (.bool (decide (s.take t.length=t))),h) :=
 lK rfl rfl (lJ (ajK _ _ _ _) (by simp [az3,aqI,kS]))
theorem aDD (s:List UInt8) (b:UInt8) (h:kT):KK 177 [.str s,W1 b] h=some (.ret (.int .i64 (tA s b)),h) :=
 lK rfl rfl (lJ (aj1 _ _ _ _) (by simp [aAc,aaB,aq5,kS]))
theorem aDx (s:List UInt8) (b:UInt8) (h:kT):KK 145 [.str s,W1 b] h=some (.ret (.int .i64 (tA s b)),h) :=
 lK rfl rfl (lJ (ajL _ _ _ _) (by simp [az4,aDD,kS]))
def xF (s t:List UInt8):List UInt8×Bool:=if s.take t.length=t then(s.drop t.length,true) else(s,false)
theorem aDH (s t:List UInt8) (h:kT):KK 204 [.str s,.str t] h=some (.ret (.tuple [.str (xF s t).1,.bool (xF s t).2]),h) :=
 lK rfl rfl (lJ (akA _ _ _ _) (by
  by_cases hp:s.take t.length=t
  ·have hl:t.length≤s.length:=by have:=congrArg ab7 hp; simp at this; omega
   have:=qZ (s:=s) (lo:=some (.int .i64 (t.length:Int))) (hi:=none) qT yA hl (ac9 _)
   have e:(s.drop t.length).take (s.length - t.length)=s.drop t.length:=List.take_of_length_le (by simp)
   simp [asJ,aqI,hp,this,xF,e,kS]
  ·simp [asJ,aqI,hp,xF,kS]))
theorem aDE (s t:List UInt8) (h:kT):KK 178 [.str s,.str t] h=some (.ret (.tuple [.str (xF s t).1,.bool (xF s t).2]),h) :=
 lK rfl rfl (lJ (aj2 _ _ _ _) (by simp [aAd,aDH,kS]))
end
section
open Go Hk
def mW (l:List UInt8):Nat:=(l.takeWhile fun b=>!decide (b=10)).length
theorem y7 (l:List UInt8):mW l≤l.length:=by
 unfold mW; exact(List.takeWhile_prefix _).length_le
theorem JC (l:List UInt8):tA l 10=if mW l < l.length then(mW l:Int) else -1:=by
 induction l with
 | nil=>simp [tA,mW]
 | cons b l ih =>
  have hlen:=y7 l
  by_cases hb:b=10
  ·subst hb; simp [tA,mW]
  ·have e:mW (b::l)=mW l+1:=by simp [mW,ao5,hb]
   rw [e]
   simp only [tA,ih,beq_iff_eq,hb,if_false,am1]
   by_cases h:mW l < l.length
   ·have h2:mW l+1 < l.length+1:=Nat.succ_lt_succ h
    have:¬((mW l:Int)=-1):=by omega
    simp [h,this]
   ·have h2:¬mW l+1 < l.length+1:=fun h2=>h (Nat.lt_of_succ_lt_succ h2)
    simp [h]
def lY (s:List UInt8) (at_:Nat):Nat :=
 if h:at_ < s.length then
  if qL s[at_] then lY s (at_+1)
  else if (s.drop at_).take 2=[47,47] then lY s (at_+max 1 (mW (s.drop at_))) else at_
 else at_
termination_by s.length - at_
theorem vK (s:List UInt8) (at_:Nat):at_≤lY s at_:=by
 fun_induction lY s at_ <;> omega
theorem OJ (s:List UInt8) (at_:Nat) (h:at_≤s.length):lY s at_≤s.length:=by
 fun_induction lY s at_ with
 | case1 at_ h1 h2 ih=>exact ih (by omega)
 | case2 at_ h1 h2 h3 ih =>
  apply ih
  have:=y7 (s.drop at_)
  simp at this
  omega
 | case3=>omega
 | case4=>omega
theorem Et {l:List UInt8}(h:l.take 2=[47,47]):2≤mW l:=by
 match l,h with
 | a::b::r,h =>
  simp at h
  obtain⟨rfl,rfl⟩:=h
  simp [mW,ao5]
 | [a],h=>simp at h
 | [],h=>simp at h
def w8:List (List kP)→Nat
 | []=>0
 | _=>4
def HL (W:List (kP×kP)) (sg:List (List kP)) (s:List UInt8) (at_:Int) (out:List (List kP)):kT :=
 [.front 0 0,.cells [.int .i64 0,.int .i64 0],.map W,.cells [.str s,.int .i64 at_,.map 2,.slice sg .no,.slice out (.own 4)],.front out.length (w8 out)]
theorem Dp {W:List (kP×kP)}{sg:List (List kP)}{s:List UInt8}{at_:Int}{out:List (List kP)}(hW:W.all (fun e=>e.2.oZ 5)=true) :
  mI 5 [.front 0 0,.cells [.int .i64 0,.int .i64 0],.map W,.cells [.str s,.int .i64 at_,.map 2,.slice sg .no,.slice out (.own 4)],.front out.length (w8 out)] =
   some [.front 0 0,.cells [.int .i64 0,.int .i64 0],.map W,.cells [.str s,.int .i64 at_,.map 2,.slice sg .no,.slice out (.own 4)],.front out.length (w8 out)]:=by
 simp [mI,qB,hW]
theorem Rs {s:List UInt8}{at_:Nat}(h:at_ < s.length):oY (.str s) (some (.int .i64 (at_:Int))) none=some (.str (s.drop at_)):=by
 have:=qZ (s:=s) (lo:=some (.int .i64 (at_:Int))) (hi:=none) qT yA (Nat.le_of_lt h) (ac9 _)
 rw [this,List.take_of_length_le (by simp)]
theorem am8 (s:List UInt8) (h:kT):KK 145 [.str s,.int .u8 10] h=some (.ret (.int .i64 (tA s 10)),h):=aDx s 10 h
theorem XH (W:List (kP×kP)) (sg:List (List kP)) (s:List UInt8) (out:List (List kP)) (hW:W.all (fun e=>e.2.oZ 5)=true) (hs:s.length≤65536) (at_:Nat) (ha:at_≤s.length) :
  ∃e:Ex,(e=.exit 0∨e=.ret)∧mQ (Bx KK 5) ([.ptr 3 0],HL W sg s (at_:Nat) out)=some (e,[.ptr 3 0],HL W sg s (lY s at_:Nat) out):=by
 induction hn:s.length - at_ using Nat.strongRecOn generalizing at_ with
 | _ n ih =>
  rw [nA]
  rw [lY]
  by_cases h:at_ < s.length
  ·have hi:s[at_]?=some s[at_]:=ac1 h
   have h':(at_:Int) < s.length:=by omega
   by_cases hb:qL s[at_]=true
   ·have w:IntKind.wrap .i64 ((at_:Int)+1)=(at_:Int)+1:=by rw [wrap64] <;> omega
    have step:Bx KK 5 ([.ptr 3 0],HL W sg s (at_:Nat) out)=some (.normal,[.ptr 3 0],HL W sg s (at_+1:Nat) out):=by
     simp [Bx,HL,h',hi,ahI,hb,w,putCells,lA,Dp hW,lN]
    rw [step]
    simp only [an3,oD,h,dite_true,hb,if_true]
    exact ih (s.length - (at_+1)) (by omega) (at_+1) (by omega) rfl
   ·have hd:=Rs h
    have hbf:qL s[at_]=false:=by simpa using hb
    simp only [h,dite_true,hbf,ak4,if_false]
    by_cases hr:(s.drop at_).take 2=[47,47]
    ·have h2:=Et hr
     have hll:=y7 (s.drop at_)
     have hdl:(s.drop at_).length=s.length - at_:=by simp
     have hix:=JC (s.drop at_)
     have w:IntKind.wrap .i64 ((at_:Int)+mW (s.drop at_))=(at_:Int)+mW (s.drop at_):=by rw [wrap64] <;> omega
     have step:Bx KK 5 ([.ptr 3 0],HL W sg s (at_:Nat) out)=some (.normal,[.ptr 3 0],HL W sg s (at_+mW (s.drop at_):Nat) out):=by
      by_cases hlt:mW (s.drop at_) < (s.drop at_).length
      ·rw [if_pos hlt] at hix
       have hneg:¬(mW (s.drop at_):Int) < 0:=by omega
       simp [Bx,HL,h',hi,ahI,hbf,hd,ZN,hr,am8,hix,hneg,w,putCells,lA,Dp hW,lN]
      ·rw [if_neg hlt] at hix
       have e:mW (s.drop at_)=s.length - at_:=by omega
       have w1:IntKind.wrap .i64 ((s.length:Int) - at_)=(s.length:Int) - at_:=by rw [wrap64] <;> omega
       have w2:IntKind.wrap .i64 ((at_:Int)+((s.length:Int) - at_))=s.length:=by rw [wrap64] <;> omega
       have e2:(at_:Int)+(mW (s.drop at_):Nat)=s.length:=by omega
       simp [Bx,HL,h',hi,ahI,hbf,hd,ZN,hr,am8,hix,w1,w2,putCells,lA,Dp hW,lN,e2]
     rw [step]
     simp only [an3,oD,hr,if_true]
     rw [show max 1 (mW (s.drop at_))=mW (s.drop at_) by omega]
     exact ih (s.length - (at_+mW (s.drop at_))) (by omega) (at_+mW (s.drop at_)) (by omega) rfl
    ·refine⟨.ret,.inr rfl,?_⟩
     simp [Bx,HL,h',hi,ahI,hbf,hd,ZN,hr,lA,Dp hW,lN]
  ·refine⟨.exit 0,.inl rfl,?_⟩
   have h':¬(at_:Int) < s.length:=by omega
   simp [Bx,HL,h',h,lA,Dp hW,lN]
theorem aDn (W:List (kP×kP)) (sg:List (List kP)) (s:List UInt8) (out:List (List kP)) (hW:W.all (fun e=>e.2.oZ 5)=true) (hs:s.length≤65536) (at_:Nat) (ha:at_≤s.length) :
  KK 100 [.ptr 3 0] (HL W sg s (at_:Nat) out)=some (.ret (.tuple []),HL W sg s (lY s at_:Nat) out):=by
 refine lJ (aiT _ _ _) ?_
 obtain⟨e,he,hl⟩:=XH W sg s out hW hs at_ ha
 have hlen:(HL W sg s (at_:Nat) out).length=5:=rfl
 simp only [azR,hlen,hl,an3]
 rcases he with rfl | rfl <;> simp [mJ,HL,Dp hW]
end
section
open Go Hk
def isWord (b:UInt8):Bool:=o6 b || isDigit b
def nL (l:List UInt8):List UInt8:=l.takeWhile isWord
theorem Hp (l:List UInt8):(nL l).length≤l.length:=(List.takeWhile_prefix _).length_le
theorem MB (l:List UInt8):l.take (nL l).length=nL l:=by
 unfold nL
 induction l with
 | nil=>rfl
 | cons b l ih=>by_cases h:isWord b=true <;> simp [ao5,h,ih]
theorem AI {s:List UInt8}{n:Nat}(h:n < s.length):nL (s.drop n)=if isWord s[n] then s[n]::nL (s.drop (n+1)) else []:=by
 rw [aj8 h]; simp only [nL,ao5]
def HT (W:List (kP×kP)) (sg:List (List kP)) (s:List UInt8) (at_:Int) (out:List (List kP)) (k p n:Int) (t:List UInt8):kT :=
 [.front 0 0,.cells [.int .i64 0,.int .i64 0],.map W,.cells [.str s,.int .i64 at_,.map 2,.slice sg .no,.slice out (.own 4)],.front out.length (w8 out),.cells [.int .i64 k,.int .i64 p,.int .i64 n,.str t]]
theorem EV {W:List (kP×kP)}{sg:List (List kP)}{s:List UInt8}{at_:Int}{out:List (List kP)}{k p n:Int}{t:List UInt8}(hW:W.all (fun e=>e.2.oZ 6)=true) :
  mI 6 [.front 0 0,.cells [.int .i64 0,.int .i64 0],.map W,.cells [.str s,.int .i64 at_,.map 2,.slice sg .no,.slice out (.own 4)],.front out.length (w8 out),.cells [.int .i64 k,.int .i64 p,.int .i64 n,.str t]] =
   some [.front 0 0,.cells [.int .i64 0,.int .i64 0],.map W,.cells [.str s,.int .i64 at_,.map 2,.slice sg .no,.slice out (.own 4)],.front out.length (w8 out),.cells [.int .i64 k,.int .i64 p,.int .i64 n,.str t]]:=by
 simp [mI,qB,hW]
section
variable (W:List (kP×kP)) (sg:List (List kP)) (s:List UInt8) (out:List (List kP)) (k p q:Int) (t:List UInt8)
theorem XL (hW:W.all (fun e=>e.2.oZ 6)=true) (hs:s.length≤65536) (at_ n:Nat) (hn:n≤s.length) :
  mQ (Fc KK 6) ([.ptr 3 0,.str [],.int .i64 (n:Nat)],HT W sg s (at_:Nat) out k p q t)=some (.exit 0,[.ptr 3 0,.str [],.int .i64 (n+(nL (s.drop n)).length:Nat)],HT W sg s (at_:Nat) out k p q t):=by
 induction hm:s.length - n using Nat.strongRecOn generalizing n with
 | _ m ih =>
  rw [nA]
  by_cases h:n < s.length
  ·have hi:s[n]?=some s[n]:=ac1 h
   have h':(n:Int) < s.length:=by omega
   by_cases hw:isWord s[n]=true
   ·have w:IntKind.wrap .i64 ((n:Int)+1)=(n:Int)+1:=by rw [wrap64] <;> omega
    have step:Fc KK 6 ([.ptr 3 0,.str [],.int .i64 (n:Nat)],HT W sg s (at_:Nat) out k p q t)=some (.normal,[.ptr 3 0,.str [],.int .i64 (n+1:Nat)],HT W sg s (at_:Nat) out k p q t):=by
     cases hl:o6 s[n] <;> cases hd:isDigit s[n] <;> simp [isWord,hl,hd] at hw <;>
      simp [Fc,HT,h',hi,Nf,Ng,hl,hd,w,lA,EV hW,lN]
    rw [step]
    simp only [an3,oD]
    rw [ih (s.length - (n+1)) (by omega) (n+1) (by omega) rfl,AI h,hw]
    simp; omega
   ·have hwf:isWord s[n]=false:=by simpa using hw
    have hl:o6 s[n]=false:=by simp [isWord] at hwf; exact hwf.1
    have hd:isDigit s[n]=false:=by simp [isWord] at hwf; exact hwf.2
    rw [AI h,hwf]
    simp [Fc,HT,h',hi,Nf,Ng,hl,hd,lA,EV hW,lN]
  ·have h':¬(n:Int) < s.length:=by omega
   have:s.drop n=[]:=List.drop_eq_nil_of_le (by omega)
   simp [Fc,HT,h',this,nL,lA,EV hW,lN]
theorem aDy (hW:W.all (fun e=>e.2.oZ 6)=true) (hs:s.length≤65536) (at_:Nat) (ha:at_≤s.length) :
  KK 147 [.ptr 3 0] (HT W sg s (at_:Nat) out k p q t)=some (.ret (.str (nL (s.drop at_))),HT W sg s (at_:Nat) out k p q t):=by
 refine lJ (ajN _ _ _) ?_
 have hl:=XL W sg s out k p q t hW hs at_ at_ ha
 have hrl:=Hp (s.drop at_)
 simp at hrl
 have hsl:=qZ (s:=s) (lo:=some (.int .i64 (at_:Int))) (hi:=some (.int .i64 ((at_+(nL (s.drop at_)).length:Nat):Int))) qT qT (by omega) (by omega)
 rw [show at_+(nL (s.drop at_)).length - at_=(nL (s.drop at_)).length by omega,MB] at hsl
 simp only [HT,ag9] at hl hsl
 simp [az5,HT,hl,hsl,mJ,EV hW]
end
def sN (hex:Bool) (b:UInt8):Option Nat :=
 if isDigit b then some (b.toNat - 48) else if hex && (decide (97≤b.toNat) && decide (b.toNat≤102)) then some (b.toNat - 87) else none
theorem ae4 {n:Int}(h1:0≤n) (h2:n≤255):IntKind.wrap .u8 n=n:=by
 simp [IntKind.wrap,IntKind.signed,IntKind.bits]; omega
theorem aoY (b:UInt8):b.toNat < 256:=b.toNat_lt
def mR (hex:Bool):Nat:=if hex then 16 else 10
theorem aqJ (hex:Bool) (b:UInt8) (h:kT):KK 179 [W1 b,.int .i64 (mR hex:Nat)] h=some (.ret (.tuple [.int .i64 ((sN hex b).getD 0:Nat),.bool (sN hex b).isSome]),h):=by
 refine lK rfl rfl (lJ (aj3 _ _ _ _) ?_)
 have hb:=aoY b
 by_cases hd:isDigit b=true
 ·have hr:48≤b.toNat∧b.toNat≤57:=by simpa [isDigit] using hd
  have w1:IntKind.wrap .u8 ((b.toNat:Int) - 48)=(b.toNat:Int) - 48:=ae4 (by omega) (by omega)
  have w2:IntKind.wrap .i64 ((b.toNat:Int) - 48)=((b.toNat - 48:Nat):Int):=by rw [wrap64] <;> omega
  simp [abS,Ng,hd,w1,w2,sN,kS]
 ·have hdf:isDigit b=false:=by simpa using hd
  have e1:((97:Int)≤b.toNat)↔97≤b.toNat:=by omega
  have e2:((b.toNat:Int)≤102)↔b.toNat≤102:=by omega
  cases hex with
  | false=>simp [abS,Ng,hdf,mR,sN,kS]
  | true =>
   by_cases h1:97≤b.toNat <;> by_cases h2:b.toNat≤102
   ·have w1:IntKind.wrap .u8 ((b.toNat:Int) - 97)=(b.toNat:Int) - 97:=ae4 (by omega) (by omega)
    have w2:IntKind.wrap .i64 ((b.toNat:Int) - 97)=(b.toNat:Int) - 97:=by rw [wrap64] <;> omega
    have w3:IntKind.wrap .i64 ((b.toNat:Int) - 97+10)=((b.toNat - 87:Nat):Int):=by rw [wrap64] <;> omega
    simp [abS,Ng,hdf,mR,sN,e1,e2,h1,h2,w1,w2,w3,kS]
   all_goals simp [abS,Ng,hdf,mR,sN,e1,e2,h1,h2,kS]
def oJ (hex:Bool):List UInt8→Nat→Option Nat
 | [],n=>some n
 | b::r,n=>match sN hex b with
  | none=>none
  | some v=>if 4294967295 < mR hex * n+v then none else oJ hex r (mR hex * n+v)
theorem YH {hex:Bool}{b:UInt8}{v:Nat}(h:sN hex b=some v):v≤15:=by
 unfold sN at h
 split at h
 ·rename_i hd; cases h; simp [isDigit] at hd; omega
 ·split at h
  ·rename_i hd; cases h; simp at hd; omega
  ·cases h
theorem Om (hex:Bool) (s:List UInt8) (hs:s.length≤65536) (i n:Nat) (hi:i≤s.length) (hn:n≤4294967295) :
  ∃n' j:Nat,mQ (DN KK 0) ([.str s,.int .i64 0,.bool false,.int .i64 (mR hex:Nat),.int .i64 (n:Nat),.int .i64 (s.length:Nat),.int .i64 (i:Nat)],[]) =
   some (match oJ hex (s.drop i) n with
    | some r=>(.exit 0,[.str s,.int .i64 0,.bool false,.int .i64 (mR hex:Nat),.int .i64 (r:Nat),.int .i64 (s.length:Nat),.int .i64 (j:Nat)],[])
    | none=>(.ret,[.str s,.int .i64 0,.bool false,.int .i64 (mR hex:Nat),.int .i64 (n':Nat),.int .i64 (s.length:Nat),.int .i64 (j:Nat)],[])):=by
 induction hm:s.length - i using Nat.strongRecOn generalizing i n with
 | _ m ih =>
  rw [nA]
  by_cases h:i < s.length
  ·have hx:s[i]?=some s[i]:=ac1 h
   have h':(i:Int) < s.length:=by omega
   have hb:mR hex≤16:=by cases hex <;> simp [mR]
   rw [aj8 h]
   cases hv:sN hex s[i] with
   | none =>
    refine⟨n,i,?_⟩
    simp [DN,h',hx,aqJ,hv,oJ,nV]
   | some v =>
    have hvl:=YH hv
    have hprod:mR hex * n≤16 * 4294967295:=Nat.mul_le_mul hb hn
    have w1:IntKind.wrap .i64 ((mR hex:Int) * n)=(mR hex:Int) * n:=by
     rw [wrap64]
     ·have:=Int.natCast_nonneg (mR hex * n); rw [Int.natCast_mul] at this; omega
     ·have:((mR hex * n:Nat):Int)≤16 * 4294967295:=by omega
      rw [Int.natCast_mul] at this; omega
    have w2:IntKind.wrap .i64 ((mR hex:Int) * n+v)=(mR hex:Int) * n+v:=by
     rw [wrap64]
     ·have:=Int.natCast_nonneg (mR hex * n); rw [Int.natCast_mul] at this; omega
     ·have:((mR hex * n:Nat):Int)≤16 * 4294967295:=by omega
      rw [Int.natCast_mul] at this; omega
    have w3:IntKind.wrap .i64 ((i:Int)+1)=(i:Int)+1:=by rw [wrap64] <;> omega
    by_cases hbig:4294967295 < mR hex * n+v
    ·have hbig':(4294967295:Int) < (mR hex:Int) * n+v:=by
      have:(4294967295:Int) < ((mR hex * n+v:Nat):Int):=by omega
      rwa [ag9,Int.natCast_mul] at this
     refine⟨mR hex * n+v,i,?_⟩
     simp [DN,h',hx,aqJ,hv,oJ,hbig,hbig',w1,w2,nV]
    ·have hbig':¬(4294967295:Int) < (mR hex:Int) * n+v:=by
      have:¬(4294967295:Int) < ((mR hex * n+v:Nat):Int):=by omega
      rwa [ag9,Int.natCast_mul] at this
     obtain⟨n',j,hl⟩:=ih (s.length - (i+1)) (by omega) (i+1) (mR hex * n+v) (by omega) (by omega) rfl
     refine⟨n',j,?_⟩
     have step:DN KK 0 ([.str s,.int .i64 0,.bool false,.int .i64 (mR hex:Nat),.int .i64 (n:Nat),.int .i64 (s.length:Nat),.int .i64 (i:Nat)],[]) =
       some (.normal,[.str s,.int .i64 0,.bool false,.int .i64 (mR hex:Nat),.int .i64 (mR hex * n+v:Nat),.int .i64 (s.length:Nat),.int .i64 (i+1:Nat)],[]):=by
      simp [DN,h',hx,aqJ,hv,hbig',w1,w2,w3,nV]
     rw [step]
     simp only [an3,oD]
     rw [hl]
     simp only [oJ,hv,hbig,if_false]
  ·have h':¬(i:Int) < s.length:=by omega
   have:s.drop i=[]:=List.drop_eq_nil_of_le (by omega)
   refine⟨n,i,?_⟩
   simp [DN,h',this,oJ,nV]
def rW (s:List UInt8):Option Nat :=
 if s.take 2=[48,120] then(if s.drop 2=[]∨8 < (s.drop 2).length then none else oJ true (s.drop 2) 0)
 else if s[0]?=some 48∧s≠[48] then none else oJ false s 0
theorem aDz (s:List UInt8) (hs:s.length≤65536) (h0:s≠[]) (h:kT):KK 149 [.str s] h=some (.ret (.tuple [.int .i64 ((rW s).getD 0:Nat),.bool (rW s).isSome]),h):=by
 refine lK rfl rfl (lJ (ajP _ _ _) ?_)
 have cut:=aDE s [48,120] []
 by_cases hp:s.take 2=[48,120]
 ·have hcp:xF s [48,120]=(s.drop 2,true):=by simp [xF,hp]
  rw [hcp] at cut
  have hn:rW s=if s.drop 2=[]∨8 < (s.drop 2).length then none else oJ true (s.drop 2) 0:=by simp only [rW,hp,if_true]
  have hrl:(s.drop 2).length≤65536:=by simp; omega
  rw [hn]
  simp only [] at cut
  generalize s.drop 2=r at *
  by_cases he:r=[]
  ·subst he
   simp [PW,cut,kS]
  ·by_cases hl:8 < r.length
   ·have hl':(8:Int) < r.length:=by omega
    simp [PW,cut,he,hl,hl',kS]
   ·have hl':¬(8:Int) < r.length:=by omega
    obtain⟨n',j,hloop⟩:=Om true r hrl 0 0 (by omega) (by omega)
    simp only [mR,if_true,List.drop_zero,Int.ofNat_eq_natCast,ae8] at hloop
    cases hd:oJ true r 0 with
    | none=>rw [hd] at hloop; simp [PW,cut,he,hl,hl',hloop,hd,kS]
    | some v=>rw [hd] at hloop; simp [PW,cut,he,hl,hl',hloop,hd,kS]
 ·have hcp:xF s [48,120]=(s,false):=by simp [xF,hp]
  rw [hcp] at cut
  simp only [] at cut
  obtain⟨b,r,hbr⟩:∃b r,s=b::r:=by cases s with | nil=>exact absurd rfl h0 | cons b r=>exact⟨b,r,rfl⟩
  have hs0:s[0]?=some b:=by rw [hbr]; rfl
  have hn:rW s=if s[0]?=some 48∧s≠[48] then none else oJ false s 0:=by simp only [rW,hp,if_false]
  obtain⟨n',j,hloop⟩:=Om false s hs 0 0 (by omega) (by omega)
  simp only [mR,ak4,if_false,List.drop_zero,Int.ofNat_eq_natCast,ae8] at hloop
  by_cases hb:b=48
  ·subst hb
   by_cases h1:s=[48]
   ·have hn2:rW s=oJ false s 0:=by rw [hn,if_neg (by simp [h1])]
    rw [hn2]
    have ht:((48:UInt8).toNat:Int)=48:=rfl
    have hd:oJ false [48] 0=some 0:=by decide
    subst h1
    rw [hd] at hloop ⊢
    simp only [am1,am3] at hloop
    simp at hloop
    simp [PW,cut,ht,hloop,kS]
   ·have hn2:rW s=none:=by rw [hn,if_pos ⟨hs0,h1⟩]
    rw [hn2]
    have ht:((48:UInt8).toNat:Int)=48:=rfl
    simp [PW,cut,hs0,h1,ht,kS]
  ·have hb':¬((b.toNat:Int)=48):=fun h=>hb (UInt8.toNat_inj.1 (by simpa using (by omega:b.toNat=48)))
   have hn2:rW s=oJ false s 0:=by rw [hn,if_neg (by simp [hs0,hb])]
   rw [hn2]
   cases hd:oJ false s 0 with
   | none=>rw [hd] at hloop; simp [PW,cut,hs0,hb',hloop,kS]
   | some v=>rw [hd] at hloop; simp [PW,cut,hs0,hb',hloop,kS]
end
section
open Go Hk
def tH:List (List UInt8):=[[102,110],[112,117,98],[115,101,99],[111,117,116],[108,101,116],[118,97,114],[105,102],[101,108,115,101],[102,111,114],[109,97,120],[114,101,116,117,114,110],[117,51,50],[117,56],[109,97,115,107],[109,117,108,104,105],[99,97,114,114,121],[115,101,108,101,99,116],[119,111,114,100],[114,111,114]]
def nO:List (List UInt8):=[[60,60],[62,62],[61,61],[33,61],[60,61],[62,61],[40],[41],[123],[125],[91],[93],[44],[59],[58],[61],[43],[45],[42],[38],[124],[94],[126],[33],[60],[62]]
def u7:List (kP×kP):=(tH.zip (List.range' 1 19)).map fun p=>(.str p.1,.int .i64 p.2)
def wJ:List (List kP):=nO.map fun t=>[.str t]
set_option maxRecDepth 100000 in
theorem aBc:Ta Tryz.prog mV (uN 200) 3 99 [] []=some (.ret (.slice wJ .no),[]):=by kernel_rfl
theorem c99 (h:kT):KK 99 [] h=some (.ret (.slice wJ .no),h):=lK rfl rfl (Pj 200 3 99 [] [] _ aBc)
set_option maxRecDepth 100000 in
theorem aBb:Ta Tryz.prog mV (uN 200) 3 98 [] [.front 0 0,.cells [.int .i64 0,.int .i64 0]]=some (.ret (.map 2),[.front 0 0,.cells [.int .i64 0,.int .i64 0],.map u7]):=by kernel_rfl
theorem c98:KK 98 [] [.front 0 0,.cells [.int .i64 0,.int .i64 0]]=some (.ret (.map 2),[.front 0 0,.cells [.int .i64 0,.int .i64 0],.map u7]):=Pj 200 3 98 [] _ _ aBb
theorem CJ (m:Nat):u7.all (fun e=>e.2.oZ m)=true:=rfl
end
section
open Go Hk
structure Token where
 kind:Nat
 pos:Nat
 num:Nat
 text:List UInt8
 deriving DecidableEq
def Token.cells (t:Token):List kP:=[.int .i64 (t.kind:Int),.int .i64 (t.pos:Int),.int .i64 (t.num:Int),.str t.text]
def oX (ts:List (List UInt8)) (l:List UInt8):List UInt8:=(ts.find? fun x=>decide (l.take x.length=x)).getD []
def uC (l:List UInt8) (at_:Nat):Option (Token×Nat) :=
 match l with
 | []=>none
 | b::_ =>
  if o6 b then(if 40 < (nL l).length then none else some (⟨if nL l∈tH then 3 else 1,at_,0,nL l⟩,(nL l).length))
  else if isDigit b then(match rW (nL l) with | none=>none | some n=>some (⟨2,at_,n,[]⟩,(nL l).length))
  else if oX nO l=[] then none else some (⟨4,at_,0,oX nO l⟩,(oX nO l).length)
theorem NY (r:List UInt8):∀(ws:List (List UInt8)) (ns:List Nat),ws.length=ns.length →
  ∃v:Option Int,D4 (.str r) ((ws.zip ns).map fun p=>(.str p.1,.int .i64 (p.2:Int)))=some (v.map (.int .i64))∧(v.isSome=true↔r∈ws)
 | [],[],_=>⟨none,rfl,by simp⟩
 | w::ws,n::ns,hl=>by
  obtain⟨v,h1,h2⟩:=NY r ws ns (by simpa using hl)
  by_cases h:r=w
  ·subst h
   exact⟨some n,by simp [D4,Q8],by simp⟩
  ·refine⟨v,?_,by simp [h,h2]⟩
   have hb:(r == w)=false:=by simp [h]
   simp only [List.zip_cons_cons,List.map_cons,D4,Q8,hb]
   exact h1
 | [],_::_,hl=>by simp at hl
 | _::_,[],hl=>by simp at hl
theorem R_ (r:List UInt8):∃v:Int,∀{h:kT},h[2]?=some (.map u7)→AN (.int .i64 0) true h (.map 2) (.str r)=some (.tuple [.int .i64 v,.bool (decide (r∈tH))]):=by
 obtain⟨v,h1,h2⟩:=NY r tH (List.range' 1 19) rfl
 refine⟨v.getD 0,fun {h} hh=>?_⟩
 have h1':D4 (.str r) u7=some (v.map (.int .i64)):=h1
 simp only [AN,DG,hh,h1']
 cases v with
 | none =>
  have:¬r∈tH:=fun hm=>by have:=h2.2 hm; simp at this
  simp [this]
 | some v =>
  have:r∈tH:=h2.1 rfl
  simp [this]
theorem Eo (out:List (List kP)) (c:List kP):w8 (out++[c])=4:=by cases out <;> rfl
theorem ahU (out:List (List kP)):w8 out=4∨out=[]∧w8 out=0:=by cases out <;> simp [w8]
section
variable (s:List UInt8) (out:List (List kP))
theorem XI (hs:s.length≤65536) (at_:Nat) (ha:at_ < s.length) (k p q:Int) (t:List UInt8) (i:Nat) (hi:i≤nO.length) :
  ∃j:Int,mQ (Fb KK 6) ([.ptr 3 0,.bool false,.ptr 5 0,.slice (nO.map fun t=>[.str t]) .no,.int .i64 (nO.length:Nat),.int .i64 (i:Nat)],HT u7 wJ s (at_:Nat) out k p q t) =
   some (.exit 1,[.ptr 3 0,.bool false,.ptr 5 0,.slice (nO.map fun t=>[.str t]) .no,.int .i64 (nO.length:Nat),.int .i64 j],
    HT u7 wJ s (at_:Nat) out k p q (((nO.drop i).find? fun x=>decide ((s.drop at_).take x.length=x)).getD t)):=by
 have hd:=Rs ha
 have hsl:nO.length=26:=rfl
 have tr:=fun t=>EV (W:=u7) (sg:=wJ) (s:=s) (at_:=(at_:Nat)) (out:=out) (k:=k) (p:=p) (n:=q) (t:=t) (CJ 6)
 generalize hW:u7=W at *
 generalize wJ=sg at *
 generalize hT:nO=T at *
 induction hm:T.length - i using Nat.strongRecOn generalizing i with
 | _ m ih =>
  rw [nA]
  by_cases h:i < T.length
  ·have hx:T[i]?=some T[i]:=ac1 h
   have h':(i:Int) < T.length:=by omega
   have hf:(T.drop i).find? (fun x=>decide ((s.drop at_).take x.length=x))=if (s.drop at_).take T[i].length=T[i] then some T[i] else(T.drop (i+1)).find? (fun x=>decide ((s.drop at_).take x.length=x)):=by
    rw [aj8 h,List.find?_cons]
    by_cases hp:(s.drop at_).take T[i].length=T[i] <;> simp only [hp,decide_true,decide_false,if_true,if_false]
   rw [hf]
   by_cases hp:(s.drop at_).take T[i].length=T[i]
   ·refine⟨i,?_⟩
    simp [Fb,HT,h',hx,hd,ZN,hp,putCells,lA,tr,lN]
   ·have w:IntKind.wrap .i64 ((i:Int)+1)=(i:Int)+1:=by rw [wrap64] <;> omega
    obtain⟨j,hl⟩:=ih (T.length - (i+1)) (by omega) (i+1) (by omega) rfl
    refine⟨j,?_⟩
    have step:Fb KK 6 ([.ptr 3 0,.bool false,.ptr 5 0,.slice (T.map fun t=>[.str t]) .no,.int .i64 (T.length:Nat),.int .i64 (i:Nat)],HT W sg s (at_:Nat) out k p q t) =
      some (.normal,[.ptr 3 0,.bool false,.ptr 5 0,.slice (T.map fun t=>[.str t]) .no,.int .i64 (T.length:Nat),.int .i64 (i+1:Nat)],HT W sg s (at_:Nat) out k p q t):=by
     simp [Fb,HT,h',hx,hd,ZN,hp,w,lA,tr,lN]
    rw [step]
    simp only [an3,oD]
    rw [hl,if_neg hp]
  ·have h':¬(i:Int) < T.length:=by omega
   have:T.drop i=[]:=List.drop_eq_nil_of_le (by omega)
   refine⟨i,?_⟩
   simp [Fb,HT,h',this,lA,tr,lN]
theorem zP {W:List (kP×kP)}{sg:List (List kP)}{s:List UInt8}{at_:Int}{out:List (List kP)}{n sz:Nat}{bs:kT}(hW:W.all (fun e=>e.2.oZ 5)=true) :
  mI 5 (.front 0 0::.cells [.int .i64 0,.int .i64 0]::.map W::.cells [.str s,.int .i64 at_,.map 2,.slice sg .no,.slice out (.own 4)]::.front n sz::bs) =
   some [.front 0 0,.cells [.int .i64 0,.int .i64 0],.map W,.cells [.str s,.int .i64 at_,.map 2,.slice sg .no,.slice out (.own 4)],.front n sz]:=by
 simp [mI,qB,hW]
theorem aDo (hs:s.length≤65536) (at_:Nat) (ha:at_ < s.length) (ho:out.length≤65536) :
  KK 101 [.ptr 3 0] (HL u7 wJ s (at_:Nat) out)=some (match uC (s.drop at_) at_ with
   | some (t,n)=>(.ret (.bool true),HL u7 wJ s (at_+n:Nat) (out++[t.cells]))
   | none=>(.ret (.bool false),HL u7 wJ s (at_:Nat) out)):=by
 refine lJ (aiU _ _ _) ?_
 have hi:s[at_]?=some s[at_]:=ac1 ha
 have hcons:=aj8 ha
 have hW4:=CJ 5
 have hW5:=CJ 6
 have hrun:=fun k p q t=>aDy u7 wJ s out k p q t hW5 hs at_ (Nat.le_of_lt ha)
 have hrl:=Hp (s.drop at_)
 simp only [List.length_drop] at hrl
 obtain⟨v,hlook⟩:=R_ (nL (s.drop at_))
 have hfr:=ahU out
 have hsz:((out.length:Int)+1) * 40≤140737488355328:=by omega
 have hone:uC (s.drop at_) at_=if o6 s[at_] then(if 40 < (nL (s.drop at_)).length then none else some (⟨if nL (s.drop at_)∈tH then 3 else 1,at_,0,nL (s.drop at_)⟩,(nL (s.drop at_)).length))
  else if isDigit s[at_] then(match rW (nL (s.drop at_)) with | none=>none | some n=>some (⟨2,at_,n,[]⟩,(nL (s.drop at_)).length))
  else if oX nO (s.drop at_)=[] then none else some (⟨4,at_,0,oX nO (s.drop at_)⟩,(oX nO (s.drop at_)).length):=by
  rw [hcons]; rfl
 rw [hone]
 generalize hW:u7=W at *
 generalize hsg:wJ=sg at *
 simp only [HT] at hrun
 generalize hR:nL (s.drop at_)=r at *
 have hw:IntKind.wrap .i64 ((at_:Int)+r.length)=(at_:Int)+r.length:=by rw [wrap64] <;> omega
 have happ:∀(a:Int) (c:List kP) (hc:c.length=4),mN 4 40 [.front 0 0,.cells [.int .i64 0,.int .i64 0],.map W,.cells [.str s,.int .i64 a,.map 2,.slice sg .no,.slice out (.own 4)],.front out.length (w8 out),.cells c,.front 1 4] (.slice out (.own 4)) (.slice [c] (.own 6)) =
   some (.slice (out++[c]) (.own 4),[.front 0 0,.cells [.int .i64 0,.int .i64 0],.map W,.cells [.str s,.int .i64 a,.map 2,.slice sg .no,.slice out (.own 4)],.front (out.length+1) 4,.cells c,.front 1 4]):=by
  intro a c hc
  have h1:(out.length+1) * 40≤140737488355328:=by omega
  have h2:out.length+1≤140737488355328:=by omega
  have h3:w8 out=4∨out.length=0∧w8 out=0:=by
   rcases hfr with h | ⟨h,h'⟩
   ·exact .inl h
   ·exact .inr ⟨by simp [h],h'⟩
  have hall:[c].all (fun r=>r.length == 4)=true:=by simp [hc]
  have hget:([.front 0 0,.cells [.int .i64 0,.int .i64 0],.map W,.cells [.str s,.int .i64 a,.map 2,.slice sg .no,.slice out (.own 4)],.front out.length (w8 out),.cells c,.front 1 4]:kT)[4]?=some (.front out.length (w8 out)):=rfl
  simp only [mN,qU,hall,if_true,hget,am1,am3,al7,h1,h2,h3,and_self]
  rfl
 by_cases hl:o6 s[at_]=true
 ·by_cases h40:40 < r.length
  ·have h40':(40:Int) < r.length:=by omega
   by_cases hm:r∈tH
   ·simp [PU,HL,hi,l_,lZ,lL,putCells,Nf,hl,hrun,qR,hlook,hm,h40,h40',mJ,zP hW4]
   ·simp [PU,HL,hi,l_,lZ,lL,putCells,Nf,hl,hrun,qR,hlook,hm,h40,h40',mJ,zP hW4]
  ·have h40':¬(40:Int) < r.length:=by omega
   by_cases hm:r∈tH
   ·have hap:=happ ((at_:Int)+r.length) [.int .i64 3,.int .i64 at_,.int .i64 0,.str r] rfl
    simp [PU,HL,hi,l_,lZ,lL,putCells,Nf,hl,hrun,qR,hlook,hm,h40,h40',hw,nY,qD,lI,pS,lX,nI,lB,tQ,oC,kP.CD,rowsOf,hap,mJ,zP hW4,Token.cells,Eo]
   ·have hap:=happ ((at_:Int)+r.length) [.int .i64 1,.int .i64 at_,.int .i64 0,.str r] rfl
    simp [PU,HL,hi,l_,lZ,lL,putCells,Nf,hl,hrun,qR,hlook,hm,h40,h40',hw,nY,qD,lI,pS,lX,nI,lB,tQ,oC,kP.CD,rowsOf,hap,mJ,zP hW4,Token.cells,Eo]
 ·have hlf:o6 s[at_]=false:=by simpa using hl
  by_cases hd:isDigit s[at_]=true
  ·have hr0:r≠[]:=by
    rw [←hR,AI ha]; simp [isWord,hd]
   have hnum:=aDz r (by omega) hr0
   cases hn:rW r with
   | none =>
    rw [hn] at hnum
    simp at hnum
    simp [PU,HL,hi,l_,lZ,lL,putCells,Nf,hlf,Ng,hd,hrun,hnum,mJ,zP hW4]
   | some n =>
    rw [hn] at hnum
    simp at hnum
    have hap:=happ ((at_:Int)+r.length) [.int .i64 2,.int .i64 at_,.int .i64 n,.str []] rfl
    simp [PU,HL,hi,l_,lZ,lL,putCells,Nf,hlf,Ng,hd,hrun,hnum,hw,nY,qD,lI,pS,lX,nI,lB,tQ,oC,kP.CD,rowsOf,hap,mJ,zP hW4,Token.cells,Eo]
  ·have hdf:isDigit s[at_]=false:=by simpa using hd
   obtain⟨j,hloop⟩:=XI s out hs at_ ha 4 at_ 0 [] 0 (ak5 _)
   rw [hW,hsg] at hloop
   have hsl:nO.length=26:=rfl
   have hsgm:sg=nO.map fun t=>[.str t]:=by rw [←hsg]; rfl
   rw [←hsgm] at hloop
   have hsglen:sg.length=26:=by rw [hsgm]; rfl
   simp only [List.drop_zero,hsl,HT,Int.ofNat_eq_natCast,ae8] at hloop
   generalize hx:oX nO (s.drop at_)=x at *
   have hx':((nO.find? fun x=>decide ((s.drop at_).take x.length=x)).getD [])=x:=hx
   rw [hx'] at hloop
   have hxl:x.length≤65536:=by
    rw [←hx]
    unfold oX
    cases hf:nO.find? fun x=>decide ((s.drop at_).take x.length=x) with
    | none=>simp
    | some y =>
     have:=List.find?_some hf
     simp only [decide_eq_true_eq] at this
     have:=congrArg ab7 this
     simp at this ⊢
     omega
   have hwx:IntKind.wrap .i64 ((at_:Int)+x.length)=(at_:Int)+x.length:=by rw [wrap64] <;> omega
   by_cases hx0:x=[]
   ·simp [PU,HL,hi,l_,lZ,lL,putCells,Nf,hlf,Ng,hdf,hsglen,hloop,hx0,mJ,zP hW4]
   ·have hap:=happ ((at_:Int)+x.length) [.int .i64 4,.int .i64 at_,.int .i64 0,.str x] rfl
    simp [PU,HL,hi,l_,lZ,lL,putCells,Nf,hlf,Ng,hdf,hsglen,hloop,hx0,hwx,nY,qD,lI,pS,lX,nI,lB,tQ,oC,kP.CD,rowsOf,hap,mJ,zP hW4,Token.cells,Eo]
end
end
section
open Go Hk
theorem Dk {l:List UInt8}{a n:Nat}{t:Token}(h:uC l a=some (t,n)):1≤n∧n≤l.length:=by
 unfold uC at h
 split at h
 ·cases h
 ·rename_i b r
  have hrl:=Hp (b::r)
  split at h
  ·rename_i hl
   split at h
   ·cases h
   ·simp only [ab3,af1] at h
    obtain⟨_,rfl⟩:=h
    refine⟨?_,hrl⟩
    simp [nL,ao5,isWord,hl]
  ·split at h
   ·rename_i hl hd
    split at h
    ·cases h
    ·simp only [ab3,af1] at h
     obtain⟨_,rfl⟩:=h
     refine⟨?_,hrl⟩
     simp [nL,ao5,isWord,hd]
   ·split at h
    ·cases h
    ·rename_i hx
     simp only [ab3,af1] at h
     obtain⟨_,rfl⟩:=h
     refine⟨List.length_pos_iff.2 hx,?_⟩
     unfold oX
     cases hf:nO.find? fun x=>decide ((b::r).take x.length=x) with
     | none=>simp
     | some y =>
      have:=List.find?_some hf
      simp only [decide_eq_true_eq] at this
      have:=congrArg ab7 this
      simp only [List.length_take] at this
      simp only [Option.getD_some]
      omega
def lexFrom (s:List UInt8) (at_:Nat) (out:List Token):List Token×Nat×Nat :=
 if h:lY s at_ < s.length then
  match uC (s.drop (lY s at_)) (lY s at_) with
  | none=>([],9,lY s at_)
  | some (t,n)=>lexFrom s (lY s at_+max 1 n) (out++[t])
 else(out++[⟨0,s.length,0,[]⟩],0,0)
termination_by s.length - at_
decreasing_by
 have:=vK s at_
 omega
def oT (s:List UInt8):List Token×Nat×Nat:=if 65536 < s.length then([],5,0) else lexFrom s 0 []
def HE (W:List (kP×kP)) (sg:List (List kP)) (s:List UInt8) (e p:Int) (at_:Int) (out:List (List kP)) (n sz:Nat):kT :=
 [.front 0 0,.cells [.int .i64 e,.int .i64 p],.map W,.cells [.str s,.int .i64 at_,.map 2,.slice sg .no,.slice out (.own 4)],.front n sz]
theorem Qy {W:List (kP×kP)}{sg:List (List kP)}{s:List UInt8}{e p at_:Int}{out:List (List kP)}{n sz:Nat}{bs:kT}(hW:W.all (fun e=>e.2.oZ 5)=true) :
  mI 5 (.front 0 0::.cells [.int .i64 e,.int .i64 p]::.map W::.cells [.str s,.int .i64 at_,.map 2,.slice sg .no,.slice out (.own 4)]::.front n sz::bs) =
   some (HE W sg s e p at_ out n sz):=by
 simp [HE,mI,qB,hW]
theorem ab9 (s:List UInt8) (hs:s.length≤65536) (at_:Nat) (ha:at_≤s.length) (out:List Token) (ho:out.length≤at_) (t0:kP) (ht0:t0=.slice [] (.own 0)) :
  ∃(tok:Tok) (at':Int) (out':List (List kP)) (n sz:Nat),mQ (Ir KK 5) ([.str s,t0,.ptr 1 0,.ptr 3 0],HL u7 wJ s (at_:Nat) (out.map Token.cells)) =
   some (.ret,[.str s,.slice ((lexFrom s at_ out).1.map Token.cells) tok,.ptr 1 0,.ptr 3 0],HE u7 wJ s (lexFrom s at_ out).2.1 (lexFrom s at_ out).2.2 at' out' n sz):=by
 have hW5:=CJ 5
 induction hn:s.length - at_ using Nat.strongRecOn generalizing at_ out with
 | _ n ih =>
  rw [nA]
  have hge:=vK s at_
  have hle:=OJ s at_ ha
  have h54:=aDn u7 wJ s (out.map Token.cells) hW5 hs at_ ha
  rw [lexFrom]
  by_cases h:lY s at_ < s.length
  ·have hne:¬((lY s at_:Int)=s.length):=by omega
   have h55:=aDo s (out.map Token.cells) hs (lY s at_) h (by simp; omega)
   simp only [h,dite_true]
   cases hone:uC (s.drop (lY s at_)) (lY s at_) with
   | none =>
    rw [hone] at h55
    refine⟨.no,(lY s at_:Nat),out.map Token.cells,(out.map Token.cells).length,w8 (out.map Token.cells),?_⟩
    generalize u7=W at *
    generalize wJ=sg at *
    simp only [HL,ak1] at h54 h55
    simp only [HL]
    simp [Ir,h54,h55,hne,l_,putCells,nY,qD,lI,pS,lX,nI,lA,Qy hW5,lN]
   | some tn =>
    obtain⟨t,k⟩:=tn
    rw [hone] at h55
    obtain⟨hk1,hk2⟩:=Dk hone
    simp only [List.length_drop] at hk2
    have hmax:max 1 k=k:=by omega
    have step:Ir KK 5 ([.str s,t0,.ptr 1 0,.ptr 3 0],HL u7 wJ s (at_:Nat) (out.map Token.cells)) =
      some (.normal,[.str s,t0,.ptr 1 0,.ptr 3 0],HL u7 wJ s (lY s at_+k:Nat) ((out++[t]).map Token.cells)):=by
     subst ht0
     generalize u7=W at *
     generalize wJ=sg at *
     simp only [HL,ak1] at h54 h55
     simp only [HL]
     simp [Ir,h54,h55,hne,lA,Qy hW5,lN,HE]
    rw [step]
    simp only [an3,oD,hmax]
    exact ih (s.length - (lY s at_+k)) (by omega) (lY s at_+k) (by omega) (out++[t]) (by simp; omega) rfl
  ·have heq:lY s at_=s.length:=by omega
   simp only [h,dite_false]
   refine⟨.own 4,(s.length:Nat),out.map Token.cells,out.length+1,4,?_⟩
   have h1:(out.length+1) * 40≤140737488355328:=by omega
   have h2:out.length+1≤140737488355328:=by omega
   have h3:w8 (out.map Token.cells)=4∨(out.map Token.cells).length=0∧w8 (out.map Token.cells)=0:=by cases out <;> simp [w8]
   rw [heq] at h54
   generalize hm:out.map Token.cells=o at *
   have hol:o.length=out.length:=by rw [←hm]; simp
   generalize u7=W at *
   generalize wJ=sg at *
   simp only [HL] at h54
   simp only [HL]
   have hap:mN 4 40 [.front 0 0,.cells [.int .i64 0,.int .i64 0],.map W,.cells [.str s,.int .i64 (s.length:Nat),.map 2,.slice sg .no,.slice o (.own 4)],.front o.length (w8 o),.front 1 4] (.slice o (.own 4)) (.slice [[.int .i64 0,.int .i64 (s.length:Nat),.int .i64 0,.str []]] (.own 5)) =
     some (.slice (o++[[.int .i64 0,.int .i64 (s.length:Nat),.int .i64 0,.str []]]) (.own 4),[.front 0 0,.cells [.int .i64 0,.int .i64 0],.map W,.cells [.str s,.int .i64 (s.length:Nat),.map 2,.slice sg .no,.slice o (.own 4)],.front (o.length+1) 4,.front 1 4]):=by
    have hget:([.front 0 0,.cells [.int .i64 0,.int .i64 0],.map W,.cells [.str s,.int .i64 (s.length:Nat),.map 2,.slice sg .no,.slice o (.own 4)],.front o.length (w8 o),.front 1 4]:kT)[4]?=some (.front o.length (w8 o)):=rfl
    have hall:([[.int .i64 0,.int .i64 (s.length:Nat),.int .i64 0,.str []]]:List (List kP)).all (fun r=>r.length == 4)=true:=rfl
    have h1':(o.length+1) * 40≤140737488355328:=by omega
    have h2':o.length+1≤140737488355328:=by omega
    simp only [mN,qU,hall,if_true,hget,am1,am3,al7,h1',h2',h3,and_self]
    rfl
   simp [Ir,h54,l_,putCells,lB,tQ,oC,kP.CD,rowsOf,hap,lA,Qy hW5,lN]
   simp [HE,Token.cells,←hm]
theorem c49 (s:List UInt8) (h:kT):KK 49 [.str s] h=some (.ret (.tuple [.slice ((oT s).1.map Token.cells) .no,.agg [.int .i64 ((oT s).2.1:Nat),.int .i64 ((oT s).2.2:Nat)]]),h):=by
 refine lK rfl rfl (lJ (as1 _ _ _) ?_)
 by_cases hs:65536 < s.length
 ·have hs':(65536:Int) < s.length:=by omega
  simp [m49,lZ,lL,l_,putCells,hs',oT,hs,kS]
 ·have hs':¬(65536:Int) < s.length:=by omega
  obtain⟨tok,at',out',n,sz,hl⟩:=ab9 s (by omega) 0 (ak5 _) [] (ak5 _) _ rfl
  have hlex:oT s=lexFrom s 0 []:=by simp [oT,hs]
  rw [hlex]
  have h52:=c98
  have h53:=c99
  generalize u7=W at *
  generalize wJ=sg at *
  simp only [HL,HE,List.map_nil,Int.ofNat_eq_natCast,ae8,am3,w8] at hl
  simp [m49,lZ,lL,l_,putCells,hs',h52,h53,hl,kS]
  cases tok <;> rfl
end
section
open Go Hk
theorem PK {s:List UInt8}{n:Nat}(h:n < s.length):mW (s.drop n)=if s[n]=10 then 0 else mW (s.drop (n+1))+1:=by
 rw [aj8 h]; simp only [mW,ao5]
 by_cases hb:s[n]=10 <;> simp [hb]
theorem O9 (b:UInt8) (n:Nat) (hn:n < 256):((b.toNat:Int)=n)↔b=UInt8.ofNat n:=by
 constructor
 ·intro h
  have:b.toNat=n:=by omega
  rw [←this]; simp
 ·intro h
  subst h
  simp; omega
theorem acA (s:List UInt8) (hs:s.length≤65536) (n:Nat) (hn:n≤s.length) (x:Int) :
  mQ (Is KK 0) ([.str s,.int .i64 (n:Nat),.int .i64 x],[])=some (.exit 2,[.str s,.int .i64 (n+mW (s.drop n):Nat),.int .i64 x],[]):=by
 induction hm:s.length - n using Nat.strongRecOn generalizing n with
 | _ m ih =>
  rw [nA]
  by_cases h:n < s.length
  ·have hi:s[n]?=some s[n]:=ac1 h
   have h':(n:Int) < s.length:=by omega
   have hb:=O9 s[n] 10 (by omega)
   rw [PK h]
   by_cases hc:s[n]=10
   ·have hb':(s[n].toNat:Int)=10:=hb.2 hc
    simp [Is,h',hi,hb',hc,nV]
   ·have hb':¬(s[n].toNat:Int)=10:=fun e=>hc (hb.1 e)
    have w:IntKind.wrap .i64 ((n:Int)+1)=(n:Int)+1:=by rw [wrap64] <;> omega
    have step:Is KK 0 ([.str s,.int .i64 (n:Nat),.int .i64 x],[])=some (.normal,[.str s,.int .i64 (n+1:Nat),.int .i64 x],[]):=by
     simp [Is,h',hi,hb',w,nV]
    rw [step]
    simp only [an3,oD]
    rw [ih (s.length - (n+1)) (by omega) (n+1) (by omega) rfl,if_neg hc]
    rw [show n+1+mW (s.drop (n+1))=n+(mW (s.drop (n+1))+1) by omega]
  ·have h':¬(n:Int) < s.length:=by omega
   have:s.drop n=[]:=List.drop_eq_nil_of_le (by omega)
   simp [Is,h',this,mW,nV]
theorem SU {s:List UInt8}{n:Nat}(h:n < s.length):(s.drop n).take 2=[47,47]↔s[n]=47∧s[n+1]?=some 47:=by
 rw [aj8 h]
 by_cases h2:n+1 < s.length
 ·rw [aj8 h2,List.take_succ_cons,List.take_succ_cons,List.take_zero,ac1 h2]
  simp only [List.cons.injEq,and_true,ab3]
 ·rw [List.drop_eq_nil_of_le (by omega),List.getElem?_eq_none (show s.length≤n+1 by omega)]; simp
theorem acB (s:List UInt8) (hs:s.length≤65536) (at_:Nat) (ha:at_≤s.length) :
  mQ (CT KK 0) ([.str s,.int .i64 (at_:Nat),.int .i64 0],[])=some (.ret,[.str s,.int .i64 (lY s at_:Nat),.int .i64 (lY s at_:Nat)],[]) ∨
  mQ (CT KK 0) ([.str s,.int .i64 (at_:Nat),.int .i64 0],[])=some (.exit 0,[.str s,.int .i64 (lY s at_:Nat),.int .i64 0],[]):=by
 induction hm:s.length - at_ using Nat.strongRecOn generalizing at_ with
 | _ m ih =>
  rw [nA,lY]
  by_cases h:at_ < s.length
  ·have hi:s[at_]?=some s[at_]:=ac1 h
   have h':(at_:Int) < s.length:=by omega
   have w:IntKind.wrap .i64 ((at_:Int)+1)=((at_+1:Nat):Int):=by rw [wrap64] <;> omega
   have hb:=O9 s[at_] 47 (by omega)
   have t2:=SU h
   by_cases hr:(s.drop at_).take 2=[47,47]
   ·obtain⟨e1,e2⟩:=t2.1 hr
    have h2:at_+1 < s.length:=by
     have:=(ab2.1 e2).1; exact this
    have h2':((at_+1:Nat):Int) < s.length:=by omega
    have e1':(s[at_].toNat:Int)=47:=hb.2 e1
    have hbl:qL s[at_]=false:=by rw [e1]; decide
    have hline:=acA s hs at_ ha 0
    have hll:=y7 (s.drop at_)
    have htw:=Et hr
    simp only [List.length_drop] at hll
    have step:CT KK 0 ([.str s,.int .i64 (at_:Nat),.int .i64 0],[])=some (.normal,[.str s,.int .i64 (at_+mW (s.drop at_):Nat),.int .i64 0],[]):=by
     have hi2:mX (.str s) (.int .i64 ((at_:Int)+1))=some (.int .u8 47):=by
      have:=Fz (s:=s) (k:=.i64) (i:=at_+1)
      rw [e2] at this; simpa using this
     simp only [ag9,ae8] at w h2'
     simp [CT,h',w,h2',hi,e1',hi2,hline,nV]
    rw [step]
    simp only [an3,oD,h,dite_true,hbl,ak4,if_false,hr,if_true]
    rw [show max 1 (mW (s.drop at_))=mW (s.drop at_) by omega]
    exact ih (s.length - (at_+mW (s.drop at_))) (by omega) (at_+mW (s.drop at_)) (by omega) rfl
   ·-- no remark
    have body:CT KK 0 ([.str s,.int .i64 (at_:Nat),.int .i64 0],[])=if qL s[at_] then some (.normal,[.str s,.int .i64 (at_+1:Nat),.int .i64 0],[]) else some (.ret,[.str s,.int .i64 (at_:Nat),.int .i64 (at_:Nat)],[]):=by
     simp only [ag9,ae8] at w
     by_cases h2:at_+1 < s.length
     ·have h2':((at_:Int)+1) < s.length:=by omega
      by_cases e1:s[at_]=47
      ·have e1':(s[at_].toNat:Int)=47:=hb.2 e1
       have e2:¬s[at_+1]=47:=fun e=>hr (t2.2 ⟨e1,by rw [ac1 h2,e]⟩)
       have e2':¬(s[at_+1].toNat:Int)=47:=fun e=>e2 ((O9 s[at_+1] 47 (by omega)).1 e)
       have hi2:mX (.str s) (.int .i64 ((at_:Int)+1))=some (W1 s[at_+1]):=by
        have:=Fz (s:=s) (k:=.i64) (i:=at_+1)
        rw [ac1 h2] at this; simpa using this
       have hbl:qL s[at_]=false:=by rw [e1]; decide
       have c47:∀h,KK 112 [.int .u8 47] h=some (.ret (.bool false),h):=fun h=>ap5 47 h
       simp [CT,h',w,h2',hi,e1',hi2,e2',c47,hbl,nV]
      ·have e1':¬(s[at_].toNat:Int)=47:=fun e=>e1 (hb.1 e)
       cases hbl:qL s[at_] <;> simp [CT,h',w,h2',hi,e1',ap5,hbl,nV]
     ·have h2':¬((at_:Int)+1) < s.length:=by omega
      cases hbl:qL s[at_] <;> simp [CT,h',w,h2',hi,ap5,hbl,nV]
    rw [body]
    simp only [h,dite_true,hr,if_false]
    cases hbl:qL s[at_] with
    | true =>
     simp only [if_true,an3,oD]
     exact ih (s.length - (at_+1)) (by omega) (at_+1) (by omega) rfl
    | false=>left; simp
  ·right
   have h':¬(at_:Int) < s.length:=by omega
   simp [CT,h',h,nV]
theorem c55 (s:List UInt8) (hs:s.length≤65536) (at_:Nat) (ha:at_≤s.length) (h:kT):KK 55 [.str s,.int .i64 (at_:Nat)] h=some (.ret (.int .i64 (lY s at_:Nat)),h):=by
 refine lK rfl rfl (lJ (as5 _ _ _ _) ?_)
 simp only [m55,am3]
 rcases acB s hs at_ ha with hl | hl <;> rw [hl] <;> simp [kS]
def JQ (t:List UInt8):List UInt8→Bool
 | []=>t.isPrefixOf []
 | b::l=>t.isPrefixOf (b::l) || JQ t l
def Jg:List (List UInt8)→List UInt8
 | []=>[32]
 | w::ws=>32::(w++Jg ws)
theorem Oy:∀(r w:List UInt8) (J:List UInt8),32 ∉ r→32 ∉ w→((r++[32]).isPrefixOf (w++32::J)=decide (r=w))
 | [],[],J,_,_=>by simp
 | [],b::w,J,_,hw=>by
  have:¬(32:UInt8)=b:=fun e=>hw (by simp [e])
  simp [List.isPrefixOf,this]
 | a::r,[],J,hr,_=>by
  have:¬a=(32:UInt8):=fun e=>hr (by simp [e])
  simp [List.isPrefixOf,this]
 | a::r,b::w,J,hr,hw=>by
  have ih:=Oy r w J (fun h=>hr (by simp [h])) (fun h=>hw (by simp [h]))
  by_cases hab:a=b
  ·subst hab; simp [List.isPrefixOf,ih]
  ·simp [List.isPrefixOf,hab]
theorem TU (ws:List (List UInt8)):∃J,Jg ws=32::J:=by cases ws <;> exact⟨_,rfl⟩
theorem RY (t:List UInt8):∀(w J:List UInt8),32 ∉ w→JQ (32::t) (w++J)=JQ (32::t) J
 | [],J,_=>rfl
 | b::w,J,hw=>by
  have:¬(32:UInt8)=b:=fun e=>hw (by simp [e])
  have hb:((32:UInt8) == b)=false:=by simp [this]
  simp only [af5,JQ,List.isPrefixOf,hb,Bool.false_and,Bool.false_or]
  exact RY t w J (fun h=>hw (by simp [h]))
theorem GZ (r:List UInt8) (hr:32 ∉ r):∀(ws:List (List UInt8)),(∀w∈ws,32 ∉ w)→JQ (32::(r++[32])) (Jg ws)=decide (r∈ws)
 | [],_=>by cases r <;> simp [Jg,JQ,List.isPrefixOf]
 | w::ws,hw=>by
  obtain⟨J,hJ⟩:=TU ws
  have ih:=GZ r hr ws (fun w h=>hw w (by simp [h]))
  have hp:=Oy r w J hr (hw w (by simp))
  simp only [Jg,JQ,List.isPrefixOf,beq_self_eq_true,Bool.true_and]
  rw [RY _ w _ (hw w (by simp)),ih,hJ,hp]
  simp [List.mem_cons]
theorem RX (t q:List UInt8) (b:UInt8) (r:List UInt8) (h:q=b::r):JQ t q=(t.isPrefixOf q || JQ t r):=by subst h; rfl
theorem XK (l t:List UInt8) (hl:l.length≤65536) (ht:t.length≤131072) (h1:1≤t.length) (i:Nat) (hi:i≤l.length) :
  (JQ t (l.drop i)=true∧∃j:Int,mQ (DK KK 0) ([.str l,.bool false,.str t,.int .i64 (i:Nat)],[])=some (.ret,[.str l,.bool true,.str t,.int .i64 j],[])) ∨
  (JQ t (l.drop i)=false∧∃j:Int,mQ (DK KK 0) ([.str l,.bool false,.str t,.int .i64 (i:Nat)],[])=some (.exit 0,[.str l,.bool false,.str t,.int .i64 j],[])):=by
 induction hm:l.length - i using Nat.strongRecOn generalizing i with
 | _ m ih =>
  rw [nA]
  have w1:IntKind.wrap .i64 ((i:Int)+t.length)=((i+t.length:Nat):Int):=by rw [wrap64] <;> omega
  have w2:IntKind.wrap .i64 ((i:Int)+1)=(i:Int)+1:=by rw [wrap64] <;> omega
  by_cases h:i+t.length≤l.length
  ·have h':((i+t.length:Nat):Int)≤l.length:=by omega
   have hsl:=qZ (s:=l) (lo:=some (.int .i64 (i:Int))) (hi:=some (.int .i64 ((i+t.length:Nat):Int))) qT qT (by omega) h
   rw [show i+t.length - i=t.length by omega] at hsl
   have hil:i < l.length:=by omega
   have hcons:=aj8 hil
   have hpre:t.isPrefixOf (l.drop i)=decide ((l.drop i).take t.length=t):=by
    rw [Bool.eq_iff_iff]
    simp only [List.isPrefixOf_iff_prefix,decide_eq_true_eq]
    constructor
    ·intro hp; exact(List.prefix_iff_eq_take.1 hp).symm
    ·intro hp; exact List.prefix_iff_eq_take.2 hp.symm
   simp only [ag9] at w1 h' hsl
   by_cases hp:(l.drop i).take t.length=t
   ·left
    refine⟨?_,i,?_⟩
    ·rw [RX t _ _ _ hcons,hpre,decide_eq_true hp]; rfl
    ·simp [DK,w1,h',hsl,hp,nV]
   ·have hin:JQ t (l.drop i)=JQ t (l.drop (i+1)):=by
     rw [RX t _ _ _ hcons,hpre,decide_eq_false hp]; rfl
    have step:DK KK 0 ([.str l,.bool false,.str t,.int .i64 (i:Nat)],[])=some (.normal,[.str l,.bool false,.str t,.int .i64 (i+1:Nat)],[]):=by
     simp [DK,w1,w2,h',hsl,hp,nV]
    rw [step,hin]
    simp only [an3,oD]
    exact ih (l.length - (i+1)) (by omega) (i+1) (by omega) rfl
  ·right
   have h':¬((i:Int)+t.length)≤l.length:=by omega
   simp only [ag9] at w1
   refine⟨?_,i,?_⟩
   ·have:∀(q:List UInt8),q.length < t.length→JQ t q=false:=by
     intro q
     induction q with
     | nil=>intro hq; cases t with | nil=>simp at h1 | cons a b=>rfl
     | cons b q ihq =>
      intro hq
      have hnp:t.isPrefixOf (b::q)=false:=by
       rw [Bool.eq_false_iff]
       intro hp
       have:=(List.isPrefixOf_iff_prefix.1 hp).length_le
       omega
      simp only [JQ,hnp,Bool.false_or]
      exact ihq (by simp at hq; omega)
    exact this _ (by simp; omega)
   ·simp [DK,w1,h',nV]
theorem ap7 (l s:List UInt8) (hl:l.length≤65536) (hs:s.length≤65536) (h:kT):KK 117 [.str l,.str s] h=some (.ret (.bool (JQ (32::(s++[32])) l)),h):=by
 refine lK rfl rfl (lJ (ajA _ _ _ _) ?_)
 have e1:1+s.length≤4611686018427387904:=by omega
 have e2:s.length+1+1≤4611686018427387904:=by omega
 have hloop:=XK l (32::(s++[32])) hl (by simp; omega) (by simp) 0 (ak5 _)
 simp only [List.drop_zero,Int.ofNat_eq_natCast,ae8] at hloop
 rcases hloop with ⟨hi,j,hlp⟩ | ⟨hi,j,hlp⟩
 ·rw [hi]; simp [ar3,e1,e2,hlp,kS]
 ·rw [hi]; simp [ar3,e1,e2,hlp,kS]
end
section
open Go Hk
def sK (hex:Bool):List UInt8→Nat→Option Nat
 | [],n=>some n
 | b::r,n=>match sN hex b with
  | none=>none
  | some v=>sK hex r (n * mR hex+v)
theorem Uq (hex:Bool):∀(l:List UInt8) (n r:Nat),sK hex l n=some r→n * mR hex ^ l.length≤r
 | [],n,r,h=>by simp [sK] at h; simp [h]
 | b::l,n,r,h=>by
  simp only [sK] at h
  cases hv:sN hex b with
  | none=>rw [hv] at h; cases h
  | some v =>
   rw [hv] at h
   have:=Uq hex l _ r h
   rw [am1,Nat.pow_succ,Nat.mul_comm (mR hex ^ l.length),←Nat.mul_assoc]
   exact Nat.le_trans (ag8 _ (Nat.le_add_right _ _)) this
theorem Rf (hex:Bool) (k:Nat):1≤mR hex ^ k:=Nat.one_le_pow _ _ (by cases hex <;> decide)
theorem Ka (hex:Bool):∀(l:List UInt8) (n:Nat),n≤4294967295→oJ hex l n=match sK hex l n with | some r=>if r≤4294967295 then some r else none | none=>none
 | [],n,h=>by simp [oJ,sK,h]
 | b::l,n,h=>by
  simp only [oJ,sK]
  cases hv:sN hex b with
  | none=>rfl
  | some v =>
   simp only []
   rw [Nat.mul_comm (mR hex) n]
   by_cases hb:4294967295 < n * mR hex+v
   ·rw [if_pos hb]
    cases hr:sK hex l (n * mR hex+v) with
    | none=>rfl
    | some r =>
     have:=Uq hex l _ r hr
     have h1:=Rf hex l.length
     have:n * mR hex+v≤r:=Nat.le_trans (Nat.le_mul_of_pos_right _ h1) this
     simp only []
     rw [if_neg (by omega)]
   ·rw [if_neg hb]
    exact Ka hex l _ (by omega)
theorem YI {hex:Bool}{b:UInt8}{v:Nat}(h:sN hex b=some v):v+1≤mR hex:=by
 unfold sN at h
 split at h
 ·rename_i hd; cases h; simp [isDigit] at hd; cases hex <;> simp [mR] <;> omega
 ·split at h
  ·rename_i hd; cases h; simp at hd; obtain⟨h1,h2,h3⟩:=hd; subst h1; simp [mR]; omega
  ·cases h
theorem Oi (hex:Bool) (s:List UInt8) (hs:s.length≤65536) (i n:Nat) (hi:i≤s.length) (hb:(n+1) * mR hex ^ (s.length - i)≤2199023255552) :
  ∃(n' j:Int),mQ (Cu KK 0) ([.str s,.int .i64 0,.int .i64 (mR hex:Nat),.int .i64 (n:Nat),.int .i64 (i:Nat)],[]) =
   some (match sK hex (s.drop i) n with
    | some r=>(.exit 0,[.str s,.int .i64 0,.int .i64 (mR hex:Nat),.int .i64 (r:Nat),.int .i64 j],[])
    | none=>(.ret,[.str s,.int .i64 (-1),.int .i64 (mR hex:Nat),.int .i64 n',.int .i64 j],[])):=by
 induction hm:s.length - i using Nat.strongRecOn generalizing i n with
 | _ m ih =>
  rw [nA]
  by_cases h:i < s.length
  ·have hx:s[i]?=some s[i]:=ac1 h
   have h':(i:Int) < s.length:=by omega
   have hdrop:=aj8 h
   rw [hdrop]
   generalize hc:s[i]=b at *
   have hb8:=aoY b
   have e1:((97:Int)≤b.toNat)↔97≤b.toNat:=by omega
   have e2:((b.toNat:Int)≤102)↔b.toNat≤102:=by omega
   have w0:IntKind.wrap .i64 (b.toNat:Int)=b.toNat:=by rw [wrap64] <;> omega
   have w1:IntKind.wrap .i64 ((b.toNat:Int) - 48)=(b.toNat:Int) - 48:=by rw [wrap64] <;> omega
   have w2:IntKind.wrap .i64 ((b.toNat:Int) - 97)=(b.toNat:Int) - 97:=by rw [wrap64] <;> omega
   have w3:IntKind.wrap .i64 ((b.toNat:Int) - 97+10)=(b.toNat:Int) - 97+10:=by rw [wrap64] <;> omega
   have wi:IntKind.wrap .i64 ((i:Int)+1)=(i:Int)+1:=by rw [wrap64] <;> omega
   cases hv:sN hex b with
   | none =>
    refine⟨n,i,?_⟩
    have hd:isDigit b=false:=by
     cases hd:isDigit b with
     | false=>rfl
     | true=>simp [sN,hd] at hv
    simp only [sK,hv]
    cases hex with
    | true =>
     by_cases h1:97≤b.toNat <;> by_cases h2:b.toNat≤102
     ·simp [sN,hd,h1,h2] at hv
     all_goals simp [Cu,h',hx,w0,w1,Nd,hd,e1,e2,h1,h2,mR,nV]
    | false =>
     by_cases h1:97≤b.toNat <;> by_cases h2:b.toNat≤102 <;> simp [Cu,h',hx,w0,w1,Nd,hd,e1,e2,h1,h2,mR,nV]
   | some v =>
    have hvl:=YI hv
    have hpow:mR hex ^ (s.length - i)=mR hex ^ (s.length - (i+1)) * mR hex:=by rw [←Nat.pow_succ]; congr 1; omega
    have hb2:(n * mR hex+v+1) * mR hex ^ (s.length - (i+1))≤2199023255552:=by
     refine Nat.le_trans ?_ hb
     rw [hpow,Nat.mul_comm (mR hex ^ _) (mR hex),←Nat.mul_assoc,Nat.add_mul n 1,Nat.one_mul]
     exact ag8 _ (by omega)
    have hsmall:n * mR hex+v+1≤2199023255552:=Nat.le_trans (Nat.le_mul_of_pos_right _ (Rf hex _)) hb2
    have hmul0:(0:Int)≤(n:Int) * (mR hex:Nat):=by have:=Int.natCast_nonneg (n * mR hex); rwa [Int.natCast_mul] at this
    have hmul1:(n:Int) * (mR hex:Nat)+v+1≤2199023255552:=by
     have:((n * mR hex+v+1:Nat):Int)≤2199023255552:=by omega
     simpa [ag9,Int.natCast_mul] using this
    have w4:IntKind.wrap .i64 ((n:Int) * (mR hex:Nat))=(n:Int) * (mR hex:Nat):=by rw [wrap64] <;> omega
    have w5:IntKind.wrap .i64 ((n:Int) * (mR hex:Nat)+v)=(n:Int) * (mR hex:Nat)+v:=by rw [wrap64] <;> omega
    obtain⟨n',j,hl⟩:=ih (s.length - (i+1)) (by omega) (i+1) (n * mR hex+v) (by omega) hb2 rfl
    refine⟨n',j,?_⟩
    have step:Cu KK 0 ([.str s,.int .i64 0,.int .i64 (mR hex:Nat),.int .i64 (n:Nat),.int .i64 (i:Nat)],[]) =
      some (.normal,[.str s,.int .i64 0,.int .i64 (mR hex:Nat),.int .i64 (n * mR hex+v:Nat),.int .i64 (i+1:Nat)],[]):=by
     cases hd:isDigit b with
     | true =>
      have hr:48≤b.toNat∧b.toNat≤57:=by simpa [isDigit] using hd
      have hvv:v=b.toNat - 48:=by simp [sN,hd] at hv; exact hv.symm
      have hvi:(b.toNat:Int) - 48=v:=by omega
      rw [hvi] at w1
      have h1:¬97≤b.toNat:=by omega
      simp [Cu,h',hx,w0,hvi,w1,Nd,hd,e1,h1,w4,w5,wi,nV]
     | false =>
      cases hex with
      | false=>simp [sN,hd] at hv
      | true =>
       by_cases h1:97≤b.toNat
       ·by_cases h2:b.toNat≤102
        ·have hvv:v=b.toNat - 87:=by simp [sN,hd,h1,h2] at hv; exact hv.symm
         have hvi:(b.toNat:Int) - 97+10=v:=by omega
         rw [hvi] at w3
         simp only [mR,if_true,ae8] at w4 w5
         simp [Cu,h',hx,w0,w1,w2,hvi,w3,e1,e2,h1,h2,mR,w4,w5,wi,nV]
        ·simp [sN,hd,h1,h2] at hv
       ·simp [sN,hd,h1] at hv
    rw [step]
    simp only [an3,oD]
    rw [hl]
    simp only [sK,hv]
  ·have h':¬(i:Int) < s.length:=by omega
   have:s.drop i=[]:=List.drop_eq_nil_of_le (by omega)
   refine⟨n,i,?_⟩
   simp [Cu,h',this,sK,nV]
def Uj (s:List UInt8):Int:=match rW s with | some n=>n | none=>-1
theorem aDs (s:List UInt8) (hs:s.length≤65536) (h0:s≠[]) (h:kT):KK 116 [.str s] h=some (.ret (.int .i64 (Uj s)),h):=by
 refine lK rfl rfl (lJ (ai9 _ _ _) ?_)
 by_cases hp:s.take 2=[48,120]
 ·have hl2:2≤s.length:=by have:=congrArg ab7 hp; simp at this; omega
  have hl2':(2:Int)≤s.length:=by omega
  have s1:=qZ (s:=s) (lo:=none) (hi:=some (.int .i64 ((2:Nat):Int))) yA qT (by omega) hl2
  have s2:=qZ (s:=s) (lo:=some (.int .i64 ((2:Nat):Int))) (hi:=none) qT yA hl2 (ac9 _)
  have e:(s.drop 2).take (s.length - 2)=s.drop 2:=List.take_of_length_le (by simp)
  rw [e] at s2
  simp only [ae8,List.drop_zero,Nat.sub_zero,hp] at s1 s2
  have hn:rW s=if s.drop 2=[]∨8 < (s.drop 2).length then none else oJ true (s.drop 2) 0:=by simp only [rW,hp,if_true]
  have hrl:(s.drop 2).length≤65536:=by simp; omega
  unfold Uj
  rw [hn]
  generalize s.drop 2=r at *
  by_cases hl:8 < r.length
  ·have hl':(8:Int) < r.length:=by omega
   simp [F1,hl2',s1,s2,hl,hl',kS]
  ·have hl':¬(8:Int) < r.length:=by omega
   by_cases he:r=[]
   ·subst he
    simp [F1,hl2',s1,s2,kS]
   ·have hpw:(0+1) * mR true ^ (r.length - 0)≤2199023255552:=by
     have:mR true ^ r.length≤16 ^ 8:=Nat.pow_le_pow_right (by decide) (by omega)
     simp only [Nat.sub_zero,al7,Nat.one_mul]; omega
    obtain⟨n',j,hloop⟩:=Oi true r hrl 0 0 (ak5 _) hpw
    simp only [mR,if_true,List.drop_zero,Int.ofNat_eq_natCast,ae8] at hloop
    rw [if_neg (by simp [he,hl]),Ka true r 0 (by omega)]
    cases hd:sK true r 0 with
    | none=>rw [hd] at hloop; simp [F1,hl2',s1,s2,he,hl',hloop,kS]
    | some v =>
     rw [hd] at hloop
     by_cases hv:v≤4294967295
     ·have hv':¬(4294967296:Int)≤v:=by omega
      simp [F1,hl2',s1,s2,he,hl',hloop,hv,hv',kS]
     ·have hv':(4294967296:Int)≤v:=by omega
      simp [F1,hl2',s1,s2,he,hl',hloop,hv,hv',kS]
 ·-- no '0x' ahead: the test of the first two bytes fails,whatever the length
  have hn:rW s=if s[0]?=some 48∧s≠[48] then none else oJ false s 0:=by simp only [rW,hp,if_false]
  obtain⟨b,r,hbr⟩:∃b r,s=b::r:=by cases s with | nil=>exact absurd rfl h0 | cons b r=>exact⟨b,r,rfl⟩
  have hs0:s[0]?=some b:=by rw [hbr]; rfl
  have hlen:s.length=r.length+1:=by rw [hbr]; rfl
  have ht:((48:UInt8).toNat:Int)=48:=rfl
  have hb48:((b.toNat:Int)=48)↔b=48:=by
   constructor
   ·intro h; exact UInt8.toNat_inj.1 (by simpa using (by omega:b.toNat=48))
   ·intro h; rw [h]; rfl
  unfold Uj
  rw [hn]
  have key:∀(X:Option (n_×kT)),(∀(hten:10 < s.length∨(1 < s.length∧b=48)),X=some (.ret (.int .i64 (-1)),[])) →
    (∀(hten:¬(10 < s.length∨(1 < s.length∧b=48))),X=some (.ret (.int .i64 (match oJ false s 0 with | some n=>(n:Int) | none=>-1)),[])) →
    X=some (.ret (.int .i64 (match (if s[0]?=some 48∧s≠[48] then none else oJ false s 0) with | some n=>(n:Int) | none=>-1)),[]):=by
   intro X h1 h2
   by_cases hten:10 < s.length∨(1 < s.length∧b=48)
   ·rw [h1 hten]
    by_cases hz:s[0]?=some 48∧s≠[48]
    ·rw [if_pos hz]
    ·rw [if_neg hz]
     have hb:b≠48:=by
      intro hb
      refine hz ⟨by rw [hs0,hb],fun e=>?_⟩
      rw [e] at hten
      simp at hten
     have h10:10 < s.length:=by
      rcases hten with h | ⟨_,h⟩
      ·exact h
      ·exact absurd h hb
     have:oJ false s 0=none:=by
      rw [Ka false s 0 (by omega)]
      cases hr:sK false s 0 with
      | none=>rfl
      | some v =>
       rw [hbr] at hr
       simp only [sK] at hr
       cases hv:sN false b with
       | none=>rw [hv] at hr; cases hr
       | some d =>
        rw [hv] at hr
        have hd:isDigit b=true:=by
         cases hd:isDigit b with
         | true=>rfl
         | false=>simp [sN,hd] at hv
        have hdr:48≤b.toNat∧b.toNat≤57:=by simpa [isDigit] using hd
        have hdv:d=b.toNat - 48:=by simp [sN,hd] at hv; exact hv.symm
        have hb':b.toNat≠48:=fun e=>hb (hb48.1 (by omega))
        have hge:=Uq false r _ v hr
        have hp10:(10:Nat) ^ 10≤10 ^ r.length:=Nat.pow_le_pow_right (by decide) (by omega)
        have h1d:1≤0 * mR false+d:=by omega
        have:1 * 10 ^ r.length≤(0 * mR false+d) * mR false ^ r.length:=ag8 _ h1d
        simp only []
        rw [if_neg (by omega)]
     rw [this]
   ·rw [h2 hten]
    by_cases hz:s[0]?=some 48∧s≠[48]
    ·exfalso
     obtain⟨z1,z2⟩:=hz
     rw [hs0] at z1
     cases z1
     refine hten (.inr ⟨?_,rfl⟩)
     cases r with
     | nil=>exact absurd hbr z2
     | cons c r=>rw [hlen]; simp
    ·rw [if_neg hz]
  refine key _ (fun hten=>?_) (fun hten=>?_)
  ·by_cases hl2:2≤s.length
   ·have hl2':(2:Int)≤s.length:=by omega
    have s1:=qZ (s:=s) (lo:=none) (hi:=some (.int .i64 ((2:Nat):Int))) yA qT (by omega) hl2
    simp only [ae8,List.drop_zero,Nat.sub_zero] at s1
    by_cases h10:10 < s.length
    ·have h10':(10:Int) < s.length:=by omega
     simp [F1,hl2',s1,hp,h10',kS]
    ·have h10':¬(10:Int) < s.length:=by omega
     have hb:=(hten.resolve_left h10).2
     have h1':(1:Int) < s.length:=by omega
     have hbt:=hb48.2 hb
     simp [F1,hl2',s1,hp,h10',h1',hs0,hbt,kS]
   ·omega
  ·have h10':¬(10:Int) < s.length:=by omega
   have hpw:(0+1) * mR false ^ (s.length - 0)≤2199023255552:=by
    have:mR false ^ s.length≤10 ^ 10:=Nat.pow_le_pow_right (by decide) (by omega)
    simp only [Nat.sub_zero,al7,Nat.one_mul]; omega
   obtain⟨n',j,hloop⟩:=Oi false s hs 0 0 (ak5 _) hpw
   simp only [mR,ak4,if_false,List.drop_zero,Int.ofNat_eq_natCast,ae8] at hloop
   rw [Ka false s 0 (by omega)]
   have ahead:∀v,sK false s 0=v→F1 KK (.str s) []=some (.ret (.int .i64 (match (match v with | some r=>if r≤4294967295 then some r else none | none=>none) with | some n=>(n:Int) | none=>-1)),[]):=by
    intro v hv
    rw [hv] at hloop
    have fin:∀(r:Nat),(4294967296:Int)≤r∨¬(4294967296:Int)≤r:=fun r=>Classical.em _
    by_cases hl2:2≤s.length
    ·have hl2':(2:Int)≤s.length:=by omega
     have s1:=qZ (s:=s) (lo:=none) (hi:=some (.int .i64 ((2:Nat):Int))) yA qT (by omega) hl2
     simp only [ae8,List.drop_zero,Nat.sub_zero] at s1
     have h1':(1:Int) < s.length:=by omega
     have hbt:¬((b.toNat:Int)=48):=fun e=>hten (.inr ⟨by omega,hb48.1 e⟩)
     cases v with
     | none=>simp [F1,hl2',s1,hp,h10',h1',hs0,hbt,h0,hloop,kS]
     | some r =>
      by_cases hv:r≤4294967295
      ·have hv':¬(4294967296:Int)≤r:=by omega
       simp [F1,hl2',s1,hp,h10',h1',hs0,hbt,h0,hloop,hv,hv',kS]
      ·have hv':(4294967296:Int)≤r:=by omega
       simp [F1,hl2',s1,hp,h10',h1',hs0,hbt,h0,hloop,hv,hv',kS]
    ·have hl2':¬(2:Int)≤s.length:=by omega
     have h1':¬(1:Int) < s.length:=by omega
     cases v with
     | none=>simp [F1,hl2',h10',h1',h0,hloop,kS]
     | some r =>
      by_cases hv:r≤4294967295
      ·have hv':¬(4294967296:Int)≤r:=by omega
       simp [F1,hl2',h10',h1',h0,hloop,hv,hv',kS]
      ·have hv':(4294967296:Int)≤r:=by omega
       simp [F1,hl2',h10',h1',h0,hloop,hv,hv',kS]
   exact ahead _ rfl
end
section
open Go Hk
def u4:List (List UInt8):=nO.take 6
def A7:List (List UInt8):=nO.drop 6
def Oe:List UInt8:=[32,60,60,32,62,62,32,61,61,32,33,61,32,60,61,32,62,61,32]
def VH:List UInt8:=[32,40,32,41,32,123,32,125,32,91,32,93,32,44,32,59,32,58,32,61,32,43,32,45,32,42,32,38,32,124,32,94,32,126,32,33,32,60,32,62,32]
def Of:List UInt8:=[32,102,110,32,112,117,98,32,115,101,99,32,111,117,116,32,108,101,116,32,118,97,114,32,105,102,32,101,108,115,101,32,102,111,114,32,109,97,120,32,114,101,116,117,114,110,32,117,51,50,32,117,56,32,109,97,115,107,32,109,117,108,104,105,32,99,97,114,114,121,32,115,101,108,101,99,116,32,119,111,114,100,32,114,111,114,32]
theorem T4:Oe=Jg u4:=by decide
theorem T3:VH=Jg A7:=by decide
theorem T5:Of=Jg tH:=by decide
theorem arH (a b:UInt8) (ha:a≠32):JQ (32::([a,b]++[32])) Oe=decide ([a,b]∈u4):=by
 by_cases hb:b=32
 ·subst hb
  have h1:JQ (32::([a,32]++[32])) Oe=false:=by simp [JQ,Oe,List.isPrefixOf]
  have h2:¬[a,32]∈u4:=by simp [u4,nO]
  rw [h1,decide_eq_false h2]
 ·rw [T4]
  refine GZ [a,b] (by simp [Ne.symm ha,Ne.symm hb]) u4 (by decide)
theorem arG (a:UInt8) (ha:a≠32):JQ (32::([a]++[32])) VH=decide ([a]∈A7):=by
 rw [T3]
 exact GZ [a] (by simp [Ne.symm ha]) A7 (by decide)
theorem ah5 (r:List UInt8) (hr:32 ∉ r):JQ (32::(r++[32])) Of=decide (r∈tH):=by
 rw [T5]
 exact GZ r hr tH (by decide)
theorem K7 (l:List UInt8) (k:Nat):∀(T:List (List UInt8)),(∀x∈T,x.length=k)→T.find? (fun x=>decide (l.take x.length=x))=if l.take k∈T then some (l.take k) else none
 | [],_=>by simp
 | x::T,h=>by
  have hx:=h x (by simp)
  have ih:=K7 l k T (fun y hy=>h y (by simp [hy]))
  rw [List.find?_cons,hx]
  by_cases he:l.take k=x
  ·simp [he]
  ·simp only [he,decide_false,ih,List.mem_cons,false_or]
theorem wR (l:List UInt8):oX nO l=if l.take 2∈u4 then l.take 2 else if l.take 1∈A7 then l.take 1 else []:=by
 have h2:=K7 l 2 u4 (by decide)
 have h1:=K7 l 1 A7 (by decide)
 have hs:nO=u4++A7:=by decide
 unfold oX
 rw [hs,List.find?_append,h2,h1]
 by_cases e2:l.take 2∈u4 <;> by_cases e1:l.take 1∈A7 <;> simp [e2,e1]
theorem Tw (s:List UInt8) (hs:s.length≤65536) (h:kT):KK 117 [.str [32,60,60,32,62,62,32,61,61,32,33,61,32,60,61,32,62,61,32],.str s] h=some (.ret (.bool (JQ (32::(s++[32])) Oe)),h):=ap7 Oe s (by decide) hs h
theorem O_ (s:List UInt8) (hs:s.length≤65536) (h:kT):KK 117 [.str [32,40,32,41,32,123,32,125,32,91,32,93,32,44,32,59,32,58,32,61,32,43,32,45,32,42,32,38,32,124,32,94,32,126,32,33,32,60,32,62,32],.str s] h=some (.ret (.bool (JQ (32::(s++[32])) VH)),h):=ap7 VH s (by decide) hs h
theorem ap8 (s:List UInt8) (hs:s.length≤65536) (h:kT):KK 117 [.str Of,.str s] h=some (.ret (.bool (JQ (32::(s++[32])) Of)),h):=ap7 Of s (by decide) hs h
theorem aDr (s:List UInt8) (hs:s.length≤65536) (at_:Nat) (ha:at_ < s.length) (hb:s[at_]≠32) (h:kT):KK 115 [.str s,.int .i64 (at_:Nat)] h=some (.ret (.str (oX nO (s.drop at_))),h):=by
 refine lK rfl rfl (lJ (ai8 _ _ _ _) ?_)
 rw [wR]
 have w2:IntKind.wrap .i64 ((at_:Int)+2)=((at_+2:Nat):Int):=by rw [wrap64] <;> omega
 have w1:IntKind.wrap .i64 ((at_:Int)+1)=((at_+1:Nat):Int):=by rw [wrap64] <;> omega
 have s1:=qZ (s:=s) (lo:=some (.int .i64 (at_:Int))) (hi:=some (.int .i64 ((at_+1:Nat):Int))) qT qT (by omega) (by omega)
 rw [show at_+1 - at_=1 by omega] at s1
 have t1:(s.drop at_).take 1=[s[at_]]:=by rw [aj8 ha]; rfl
 have i1:=arG s[at_] hb
 rw [←t1] at i1
 have l1:((s.drop at_).take 1).length≤65536:=by rw [t1]; simp
 by_cases h2:at_+2≤s.length
 ·have h2':((at_+2:Nat):Int)≤s.length:=by omega
  have s2:=qZ (s:=s) (lo:=some (.int .i64 (at_:Int))) (hi:=some (.int .i64 ((at_+2:Nat):Int))) qT qT (by omega) h2
  rw [show at_+2 - at_=2 by omega] at s2
  have h3:at_+1 < s.length:=by omega
  have t2:(s.drop at_).take 2=[s[at_],s[at_+1]]:=by rw [aj8 ha,aj8 h3]; rfl
  have i2:=arH s[at_] s[at_+1] hb
  rw [←t2] at i2
  have l2:((s.drop at_).take 2).length≤65536:=by rw [t2]; simp
  generalize (s.drop at_).take 2=x2 at *
  generalize (s.drop at_).take 1=x1 at *
  simp only [ag9,ae8] at w1 w2 s1 s2 h2'
  by_cases e2:x2∈u4
  ·simp [XJ,w1,w2,h2',s2,Tw _ l2,i2,e2,kS]
  ·by_cases e1:x1∈A7
   ·simp [XJ,w1,w2,h2',s1,s2,Tw _ l2,i2,e2,O_ _ l1,i1,e1,kS]
   ·simp [XJ,w1,w2,h2',s1,s2,Tw _ l2,i2,e2,O_ _ l1,i1,e1,kS]
 ·have h2':¬((at_+2:Nat):Int)≤s.length:=by omega
  have e2:¬(s.drop at_).take 2∈u4:=by
   have hlen:((s.drop at_).take 2).length=1:=by simp; omega
   intro hm
   have:∀x∈u4,x.length=2:=by decide
   have:=this _ hm
   omega
  rw [if_neg e2]
  generalize (s.drop at_).take 1=x1 at *
  simp only [ag9,ae8] at w1 w2 s1 h2'
  by_cases e1:x1∈A7
  ·simp [XJ,w1,w2,h2',s1,O_ _ l1,i1,e1,kS]
  ·simp [XJ,w1,w2,h2',s1,O_ _ l1,i1,e1,kS]
def H2 (k p q:Int) (t:List UInt8):kT:=[.cells [.int .i64 0,.int .i64 0,.int .i64 0,.str []],.cells [.int .i64 k,.int .i64 p,.int .i64 q,.str t]]
theorem MG {k p q:Int}{t:List UInt8}:mI 2 [.cells [.int .i64 0,.int .i64 0,.int .i64 0,.str []],.cells [.int .i64 k,.int .i64 p,.int .i64 q,.str t]] =
  some [.cells [.int .i64 0,.int .i64 0,.int .i64 0,.str []],.cells [.int .i64 k,.int .i64 p,.int .i64 q,.str t]]:=by simp [mI]
theorem acC (s:List UInt8) (hs:s.length≤65536) (at_ n:Nat) (hn:n≤s.length) (k p q:Int) (t:List UInt8) :
  mQ (It KK 2) ([.str s,.int .i64 (at_:Nat),.ptr 0 0,.int .i64 0,.ptr 1 0,.int .i64 (n:Nat)],H2 k p q t) =
   some (.exit 0,[.str s,.int .i64 (at_:Nat),.ptr 0 0,.int .i64 0,.ptr 1 0,.int .i64 (n+(nL (s.drop n)).length:Nat)],H2 k p q t):=by
 induction hm:s.length - n using Nat.strongRecOn generalizing n with
 | _ m ih =>
  rw [nA]
  by_cases h:n < s.length
  ·have hi:s[n]?=some s[n]:=ac1 h
   have h':(n:Int) < s.length:=by omega
   by_cases hw:isWord s[n]=true
   ·have w:IntKind.wrap .i64 ((n:Int)+1)=(n:Int)+1:=by rw [wrap64] <;> omega
    have step:It KK 2 ([.str s,.int .i64 (at_:Nat),.ptr 0 0,.int .i64 0,.ptr 1 0,.int .i64 (n:Nat)],H2 k p q t) =
      some (.normal,[.str s,.int .i64 (at_:Nat),.ptr 0 0,.int .i64 0,.ptr 1 0,.int .i64 (n+1:Nat)],H2 k p q t):=by
     cases hl:o6 s[n] <;> cases hd:isDigit s[n] <;> simp [isWord,hl,hd] at hw <;>
      simp [It,H2,h',hi,Tv,Nd,hl,hd,w,lA,MG,lN]
    rw [step]
    simp only [an3,oD]
    rw [ih (s.length - (n+1)) (by omega) (n+1) (by omega) rfl,AI h,hw]
    simp; omega
   ·have hwf:isWord s[n]=false:=by simpa using hw
    have hl:o6 s[n]=false:=by simp [isWord] at hwf; exact hwf.1
    have hd:isDigit s[n]=false:=by simp [isWord] at hwf; exact hwf.2
    rw [AI h,hwf]
    simp [It,H2,h',hi,Tv,Nd,hl,hd,lA,MG,lN]
  ·have h':¬(n:Int) < s.length:=by omega
   have:s.drop n=[]:=List.drop_eq_nil_of_le (by omega)
   simp [It,H2,h',this,nL,lA,MG,lN]
theorem IF (l:List UInt8):∀b∈nL l,isWord b=true:=by
 unfold nL
 induction l with
 | nil=>simp
 | cons c l ih =>
  intro b hb
  by_cases hc:isWord c=true
  ·rw [ao5,hc] at hb
   rcases List.mem_cons.1 hb with rfl | hb
   ·exact hc
   ·exact ih b hb
  ·rw [ao5] at hb; simp [hc] at hb
theorem Qm (l:List UInt8):(32:UInt8) ∉ nL l:=fun h=>by
 have:=IF l 32 h
 simp [isWord,o6,isDigit] at this
theorem D6 {b:UInt8}(h:isDigit b=true):o6 b=false:=by
 simp [isDigit] at h
 simp [o6]
 omega
theorem c56 (s:List UInt8) (hs:s.length≤65536) (at_:Nat) (ha:at_ < s.length) (hb:s[at_]≠32) :
  ∃(k p q:Int) (t:List UInt8) (n:Nat),(∀h,KK 56 [.str s,.int .i64 (at_:Nat)] h=some (.ret (.tuple [.agg [.int .i64 k,.int .i64 p,.int .i64 q,.str t],.int .i64 (n:Nat)]),h)) ∧
   match uC (s.drop at_) at_ with
   | some (u,m)=>[kP.int .i64 k,.int .i64 p,.int .i64 q,.str t]=u.cells∧n=m
   | none=>n=0:=by
 have hi:s[at_]?=some s[at_]:=ac1 ha
 have hcons:=aj8 ha
 have hrl:=Hp (s.drop at_)
 simp only [List.length_drop] at hrl
 have hone:uC (s.drop at_) at_=if o6 s[at_] then(if 40 < (nL (s.drop at_)).length then none else some (⟨if nL (s.drop at_)∈tH then 3 else 1,at_,0,nL (s.drop at_)⟩,(nL (s.drop at_)).length))
  else if isDigit s[at_] then(match rW (nL (s.drop at_)) with | none=>none | some n=>some (⟨2,at_,n,[]⟩,(nL (s.drop at_)).length))
  else if oX nO (s.drop at_)=[] then none else some (⟨4,at_,0,oX nO (s.drop at_)⟩,(oX nO (s.drop at_)).length):=by
  rw [hcons]; rfl
 rw [hone]
 have hloop:=fun k p q t=>acC s hs at_ at_ (Nat.le_of_lt ha) k p q t
 have hsl:=qZ (s:=s) (lo:=some (.int .i64 (at_:Int))) (hi:=some (.int .i64 ((at_+(nL (s.drop at_)).length:Nat):Int))) qT qT (by omega) (by omega)
 rw [show at_+(nL (s.drop at_)).length - at_=(nL (s.drop at_)).length by omega,MB] at hsl
 have hW:=ap8 (nL (s.drop at_)) (by omega)
 rw [ah5 _ (Qm _)] at hW
 have hnum:=aDs (nL (s.drop at_)) (by omega)
 have hr0:isWord s[at_]=true→nL (s.drop at_)≠[]:=fun h=>by rw [AI ha,h]; simp
 have h117:=aDr s hs at_ ha hb
 generalize nL (s.drop at_)=r at *
 generalize oX nO (s.drop at_)=x at *
 have ws:IntKind.wrap .i64 ((at_:Int)+r.length - at_)=r.length:=by rw [wrap64] <;> omega
 simp only [H2,ag9] at hloop hsl
 simp only [Of] at hW
 by_cases hl:o6 s[at_]=true
 ·have hd:isDigit s[at_]=false:=by
   cases hd:isDigit s[at_] with
   | false=>rfl
   | true=>rw [D6 hd] at hl; cases hl
  by_cases h40:40 < r.length
  ·have h40':(40:Int) < r.length:=by omega
   refine⟨if r∈tH then 3 else 1,at_,0,r,0,fun h=>lK rfl rfl (lJ (LH _ _ _ _) ?_),by simp [hl,h40]⟩
   by_cases hm:r∈tH <;>
    simp [m56,hi,l_,lZ,lL,putCells,Tv,Nd,hl,hd,hloop,hsl,hW,hm,ws,h40',nY,qD,lI,pS,lX,nI,kS]
  ·have h40':¬(40:Int) < r.length:=by omega
   refine⟨if r∈tH then 3 else 1,at_,0,r,r.length,fun h=>lK rfl rfl (lJ (LH _ _ _ _) ?_),?_⟩
   ·by_cases hm:r∈tH <;>
     simp [m56,hi,l_,lZ,lL,putCells,Tv,Nd,hl,hd,hloop,hsl,hW,hm,ws,h40',nY,qD,lI,pS,lX,nI,kS]
   ·by_cases hm:r∈tH <;> simp [hl,h40,hm,Token.cells]
 ·have hlf:o6 s[at_]=false:=by simpa using hl
  by_cases hd:isDigit s[at_]=true
  ·have hr:=hr0 (by simp [isWord,hd])
   have hn:=hnum hr
   cases hv:rW r with
   | none =>
    have hnI:Uj r=-1:=by simp [Uj,hv]
    rw [hnI] at hn
    refine⟨2,at_,-1,[],0,fun h=>lK rfl rfl (lJ (LH _ _ _ _) ?_),by simp [hlf,hd]⟩
    simp [m56,hi,l_,lZ,lL,putCells,Tv,Nd,hlf,hd,hloop,hsl,hn,nY,qD,lI,pS,lX,nI,kS]
   | some v =>
    have hnI:Uj r=v:=by simp [Uj,hv]
    rw [hnI] at hn
    have hneg:¬(v:Int) < 0:=by omega
    refine⟨2,at_,v,[],r.length,fun h=>lK rfl rfl (lJ (LH _ _ _ _) ?_),by simp [hlf,hd,Token.cells]⟩
    simp [m56,hi,l_,lZ,lL,putCells,Tv,Nd,hlf,hd,hloop,hsl,hn,hneg,ws,nY,qD,lI,pS,lX,nI,kS]
  ·have hdf:isDigit s[at_]=false:=by simpa using hd
   refine⟨4,at_,0,x,x.length,fun h=>lK rfl rfl (lJ (LH _ _ _ _) ?_),?_⟩
   ·simp [m56,hi,l_,lZ,lL,putCells,Tv,Nd,hlf,hdf,h117,nY,qD,lI,pS,lX,nI,kS]
   ·by_cases hx:x=[]
    ·simp [hlf,hdf,hx]
    ·simp [hlf,hdf,hx,Token.cells]
end
section
open Go Hk
theorem IP (s:List UInt8) (a:Nat) (h:lY s a < s.length):qL s[lY s a]=false:=by
 fun_induction lY s a with
 | case1 a h1 h2 ih=>exact ih h
 | case2 a h1 h2 h3 ih=>exact ih h
 | case3 a h1 h2 h3=>simpa using h2
 | case4 a h1=>exact absurd h h1
theorem Qb {b:UInt8}(h:qL b=false):b≠32:=by
 intro e; subst e; simp [qL] at h
def HR (e p:Int) (n sz:Nat):kT:=[.front 0 0,.cells [.int .i64 e,.int .i64 p],.front n sz]
theorem MH {e p:Int}{n sz:Nat}{bs:kT}:mI 3 (.front 0 0::.cells [.int .i64 e,.int .i64 p]::.front n sz::bs)=some [.front 0 0,.cells [.int .i64 e,.int .i64 p],.front n sz]:=by simp [mI]
theorem ab1 (s:List UInt8) (hs:s.length≤65536) (a0:Nat) (ha:a0≤s.length) (out:List Token) (ho:out.length≤a0) :
  (∃(l:List Token) (n sz:Nat),n=l.length∧l.length≤65536∧(sz=4∨l=[]∧sz=0)∧lexFrom s a0 out=(l++[⟨0,s.length,0,[]⟩],0,0) ∧
   mQ (F7 KK 3) ([.str s,.slice [] (.own 0),.ptr 1 0,.slice (out.map Token.cells) (.own 2),.int .i64 (lY s a0:Nat)],HR 0 0 out.length (w8 (out.map Token.cells))) =
    some (.exit 0,[.str s,.slice [] (.own 0),.ptr 1 0,.slice (l.map Token.cells) (.own 2),.int .i64 (s.length:Nat)],HR 0 0 n sz)) ∨
  (∃(p:Nat) (v:kP) (at':Int) (n sz:Nat),lexFrom s a0 out=([],9,p) ∧
   mQ (F7 KK 3) ([.str s,.slice [] (.own 0),.ptr 1 0,.slice (out.map Token.cells) (.own 2),.int .i64 (lY s a0:Nat)],HR 0 0 out.length (w8 (out.map Token.cells))) =
    some (.ret,[.str s,.slice [] .no,.ptr 1 0,v,.int .i64 at'],HR 9 p n sz)):=by
 induction hn:s.length - a0 using Nat.strongRecOn generalizing a0 out with
 | _ n ih =>
  rw [nA]
  have hge:=vK s a0
  have hle:=OJ s a0 ha
  rw [lexFrom]
  by_cases h:lY s a0 < s.length
  ·have h':(lY s a0:Int) < s.length:=by omega
   obtain⟨k,p,q,t,m,hc,hm⟩:=c56 s hs (lY s a0) h (Qb (IP s a0 h))
   simp only [h,dite_true]
   cases hone:uC (s.drop (lY s a0)) (lY s a0) with
   | none =>
    rw [hone] at hm
    simp only [] at hm
    subst hm
    right
    refine⟨lY s a0,.slice (out.map Token.cells) (.own 2),(lY s a0:Nat),out.length,w8 (out.map Token.cells),rfl,?_⟩
    simp only [Int.ofNat_eq_natCast,ae8] at hc
    simp [F7,HR,h',hc,lZ,lL,l_,putCells,lA,MH,lN]
   | some tn =>
    obtain⟨u,m'⟩:=tn
    rw [hone] at hm
    obtain⟨hcell,rfl⟩:=hm
    obtain⟨hk1,hk2⟩:=Dk hone
    simp only [List.length_drop] at hk2
    have hmax:max 1 m=m:=by omega
    have w:IntKind.wrap .i64 ((lY s a0:Int)+m)=(lY s a0:Int)+m:=by rw [wrap64] <;> omega
    have h56:=c55 s hs (lY s a0+m) (by omega)
    have hm0:¬((m:Int)=0):=by omega
    have hm1:¬m=0:=by omega
    rw [hcell] at hc
    have step:F7 KK 3 ([.str s,.slice [] (.own 0),.ptr 1 0,.slice (out.map Token.cells) (.own 2),.int .i64 (lY s a0:Nat)],HR 0 0 out.length (w8 (out.map Token.cells))) =
      some (.normal,[.str s,.slice [] (.own 0),.ptr 1 0,.slice ((out++[u]).map Token.cells) (.own 2),.int .i64 (lY s (lY s a0+m):Nat)],HR 0 0 (out++[u]).length (w8 ((out++[u]).map Token.cells))):=by
     have h1:(out.length+1) * 40≤140737488355328:=by omega
     have h2:out.length+1≤140737488355328:=by omega
     have h3:w8 (out.map Token.cells)=4∨out.length=0∧w8 (out.map Token.cells)=0:=by cases out <;> simp [w8]
     have hap:mN 4 40 [.front 0 0,.cells [.int .i64 0,.int .i64 0],.front out.length (w8 (out.map Token.cells)),.cells u.cells,.front 1 4] (.slice (out.map Token.cells) (.own 2)) (.slice [u.cells] (.own 4)) =
       some (.slice (out.map Token.cells++[u.cells]) (.own 2),[.front 0 0,.cells [.int .i64 0,.int .i64 0],.front (out.length+1) 4,.cells u.cells,.front 1 4]):=by
      have hall:[u.cells].all (fun r=>r.length == 4)=true:=rfl
      have hget:([.front 0 0,.cells [.int .i64 0,.int .i64 0],.front out.length (w8 (out.map Token.cells)),.cells u.cells,.front 1 4]:kT)[2]?=some (.front out.length (w8 (out.map Token.cells))):=rfl
      simp only [mN,qU,hall,if_true,hget,ak1,am1,am3,al7,h1,h2,h3,and_self]
      rfl
     simp only [ag9] at h56
     simp only [Token.cells] at hap
     have hfr:=Eo (out.map Token.cells) u.cells
     simp only [Token.cells] at hfr
     simp [F7,HR,h',hc,Token.cells,lZ,lL,l_,putCells,hm0,hm1,lB,tQ,oC,kP.CD,rowsOf,hap,w,h56,lA,MH,lN,hfr]
    rw [step]
    simp only [an3,oD,hmax]
    exact ih (s.length - (lY s a0+m)) (by omega) (lY s a0+m) (by omega) (out++[u]) (by simp; omega) rfl
  ·have heq:lY s a0=s.length:=by omega
   left
   simp only [h,dite_false]
   refine⟨out,out.length,w8 (out.map Token.cells),rfl,by omega,by cases out <;> simp [w8],rfl,?_⟩
   rw [heq]
   simp [F7,HR,lA,MH,lN]
theorem c28 (s:List UInt8) (h:kT):KK 28 [.str s] h=some (.ret (.tuple [.slice ((oT s).1.map Token.cells) .no,.agg [.int .i64 ((oT s).2.1:Nat),.int .i64 ((oT s).2.2:Nat)]]),h):=by
 refine lK rfl rfl (lJ (asN _ _ _) ?_)
 by_cases hs:65536 < s.length
 ·have hs':(65536:Int) < s.length:=by omega
  simp [m28,lZ,lL,l_,putCells,hs',oT,hs,kS]
 ·have hs':¬(65536:Int) < s.length:=by omega
  have hlex:oT s=lexFrom s 0 []:=by simp [oT,hs]
  have h56:=c55 s (by omega) 0 (ak5 _)
  simp only [Int.ofNat_eq_natCast,ae8] at h56
  rw [hlex]
  rcases ab1 s (by omega) 0 (ak5 _) [] (ak5 _) with ⟨l,n,sz,hn,hl,hsz,hlx,hlp⟩ | ⟨p,v,at',n,sz,hlx,hlp⟩
  ·rw [hlx]
   subst hn
   simp only [HR,List.map_nil,am3,w8] at hlp
   have h1:(l.length+1) * 40≤140737488355328:=by omega
   have h2:l.length+1≤140737488355328:=by omega
   have h3:sz=4∨l.length=0∧sz=0:=by
    rcases hsz with h | ⟨h,h'⟩
    ·exact .inl h
    ·exact .inr ⟨by simp [h],h'⟩
   have hap:mN 4 40 [.front 0 0,.cells [.int .i64 0,.int .i64 0],.front l.length sz,.front 1 4] (.slice (l.map Token.cells) (.own 2)) (.slice [[.int .i64 0,.int .i64 (s.length:Nat),.int .i64 0,.str []]] (.own 3)) =
     some (.slice (l.map Token.cells++[[.int .i64 0,.int .i64 (s.length:Nat),.int .i64 0,.str []]]) (.own 2),[.front 0 0,.cells [.int .i64 0,.int .i64 0],.front (l.length+1) 4,.front 1 4]):=by
    have hget:([.front 0 0,.cells [.int .i64 0,.int .i64 0],.front l.length sz,.front 1 4]:kT)[2]?=some (.front l.length sz):=rfl
    have hall:([[.int .i64 0,.int .i64 (s.length:Nat),.int .i64 0,.str []]]:List (List kP)).all (fun r=>r.length == 4)=true:=rfl
    simp only [mN,qU,hall,if_true,hget,ak1,am1,am3,al7,h1,h2,h3,and_self]
    rfl
   simp [m28,lZ,lL,l_,putCells,hs',h56,hlp,lB,tQ,oC,kP.CD,rowsOf,hap,kS,Token.cells]
  ·rw [hlx]
   simp only [HR,List.map_nil,am3,w8] at hlp
   simp [m28,lZ,lL,l_,putCells,hs',h56,hlp,kS]
end
section
open Go Hk
theorem al3 (t:Token):t.cells.length=4:=rfl
theorem aeP (t:Token):t.cells.take 4=t.cells:=rfl
theorem R6 (s:List UInt8) (a:Nat) (out:List Token) (ha:a≤s.length):(lexFrom s a out).1.length≤out.length+(s.length - a)+1:=by
 fun_induction lexFrom s a out with
 | case1 a out h h1=>simp
 | case2 a out h t n h1 ih =>
  have:=Dk h1
  simp only [List.length_drop] at this
  have hge:=vK s a
  have:=ih (by omega)
  simp at this
  omega
 | case3 a out h=>simp
theorem De (s:List UInt8):(oT s).1.length≤65537:=by
 unfold oT
 split
 ·simp
 ·have:=R6 s 0 [] (ak5 _)
  simp at this
  omega
theorem rF {s:List UInt8}{a a' n:Nat}{out:List Token}{t:Token}(h1:lY s a=a') (h2:a' < s.length) (h3:uC (s.drop a') a'=some (t,n)) {a2:Nat}(h4:a'+max 1 n=a2):lexFrom s a out=lexFrom s a2 (out++[t]):=by
 subst h1; subst h4
 rw [lexFrom,dif_pos h2,h3]
theorem Cr {s:List UInt8}{a a':Nat}{out:List Token}(h1:lY s a=a') (h2:a' < s.length) (h3:uC (s.drop a') a'=none):lexFrom s a out=([],9,a'):=by
 subst h1
 rw [lexFrom,dif_pos h2,h3]
theorem AW {s:List UInt8}{a:Nat}{out:List Token}(h1:¬lY s a < s.length):lexFrom s a out=(out++[⟨0,s.length,0,[]⟩],0,0):=by
 rw [lexFrom,dif_neg h1]
theorem yJ {s:List UInt8}{a:Nat}{b:UInt8}(h:s[a]?=some b) (hb:qL b=false) (h2:b≠47):lY s a=a:=by
 obtain⟨hlt,he⟩:=ab2.1 h
 rw [lY,dif_pos hlt,he,hb]
 simp only [ak4,if_false]
 rw [if_neg]
 intro ht
 have:=(SU hlt).1 ht
 rw [he] at this
 exact h2 this.1
end
section
open Go Hk
def xS (k:Nat) (t:Token):Token:={ t with pos:=t.pos+k }
end
section
open Go Hk
theorem VY {l:List UInt8}{a n:Nat}{t:Token}(h:uC l a=some (t,n)):t.pos=a:=by
 unfold uC at h
 cases l with
 | nil=>cases h
 | cons b r =>
  simp only [] at h
  split at h
  ·split at h
   ·cases h
   ·simp only [ab3,af1] at h; rw [←h.1]
  ·split at h
   ·split at h
    ·cases h
    ·simp only [ab3,af1] at h; rw [←h.1]
   ·split at h
    ·cases h
    ·simp only [ab3,af1] at h; rw [←h.1]
theorem R7 (s:List UInt8) (a:Nat) (out:List Token) (ho:∀x∈out,x.pos≤s.length):∀x∈(lexFrom s a out).1,x.pos≤s.length:=by
 fun_induction lexFrom s a out with
 | case1=>simp
 | case2 a out h t n h3 ih =>
  apply ih
  intro x hx
  rcases List.mem_append.1 hx with hx | hx
  ·exact ho x hx
  ·obtain rfl:x=t:=by simpa using hx
   have:=VY h3
   omega
 | case3 a out h =>
  intro x hx
  rcases List.mem_append.1 hx with hx | hx
  ·exact ho x hx
  ·obtain rfl:x=⟨0,s.length,0,[]⟩:=by simpa using hx
   exact ac9 _
theorem G4 (s:List UInt8):∀x∈(oT s).1,x.pos≤s.length:=by
 unfold oT
 split
 ·simp
 ·exact R7 s 0 [] (by simp)
section
variable (s:List UInt8) (A B C:List Token) (L:Nat) (e p f q g o:Int)
end
end
section
open Go Hk
section
variable (s t:List UInt8)
end
end
section
open Go Hk
def Cg (n:Nat) (acc:List UInt8):List UInt8:=if n=0 then acc else Cg (n / 10) (UInt8.ofNat (48+n % 10)::acc)
termination_by n
decreasing_by omega
def Dz (n:Nat):List UInt8:=if n=0 then [48] else Cg n []
theorem H_ (n:Nat):(UInt8.ofNat (48+n % 10)).toNat=48+n % 10:=by
 rw [UInt8.toNat_ofNat']; omega
theorem Z1 (n:Nat):isDigit (UInt8.ofNat (48+n % 10))=true:=by
 unfold isDigit; rw [H_]; simp; omega
theorem ahP (n:Nat):sN false (UInt8.ofNat (48+n % 10))=some (n % 10):=by
 unfold sN; rw [if_pos (Z1 n),H_]; congr 1; omega
theorem Z4 (n:Nat):∀acc,n≤4294967295→oJ false (Cg n acc) 0=oJ false acc n:=by
 induction n using Nat.strongRecOn with
 | _ n ih =>
  intro acc hn
  rw [Cg]
  by_cases h:n=0
  ·rw [if_pos h,h]
  ·rw [if_neg h,ih (n / 10) (by omega) _ (by omega)]
   simp only [oJ,ahP]
   have e:mR false * (n / 10)+n % 10=n:=by simp only [mR]; simp; omega
   rw [e,if_neg (by omega)]
theorem Z2 (n:Nat):∀acc,(∀b∈acc,isDigit b=true)→∀b∈Cg n acc,isDigit b=true:=by
 induction n using Nat.strongRecOn with
 | _ n ih =>
  intro acc ha
  rw [Cg]
  by_cases h:n=0
  ·rw [if_pos h]; exact ha
  ·rw [if_neg h]
   refine ih (n / 10) (by omega) _ ?_
   intro b hb
   rcases List.mem_cons.1 hb with rfl | hb
   ·exact Z1 n
   ·exact ha b hb
theorem N4 (n:Nat):∀acc,n≠0→∃c r,Cg n acc=c::r∧c≠48:=by
 induction n using Nat.strongRecOn with
 | _ n ih =>
  intro acc h
  rw [Cg,if_neg h]
  by_cases h2:n / 10=0
  ·rw [Cg,if_pos h2]
   refine⟨_,_,rfl,fun e=>?_⟩
   have:=congrArg UInt8.toNat e
   rw [H_] at this
   simp at this
   omega
  ·exact ih (n / 10) (by omega) _ h2
theorem C6 (n:Nat):∀b∈Dz n,isDigit b=true:=by
 unfold Dz
 split
 ·intro b hb
  obtain rfl:b=48:=(by simpa using hb)
  decide
 ·exact Z2 n [] (by simp)
theorem GI (n:Nat):∃c r,Dz n=c::r:=by
 unfold Dz
 split
 ·exact⟨_,_,rfl⟩
 ·obtain⟨c,r,h,_⟩:=N4 n [] (by assumption); exact⟨c,r,h⟩
theorem Xd:isDigit 120=false:=by decide
theorem Jn (n:Nat) (hn:n≤4294967295):rW (Dz n)=some n:=by
 have hall:=C6 n
 have h2:¬(Dz n).take 2=[48,120]:=by
  intro h
  have:(120:UInt8)∈(Dz n).take 2:=by rw [h]; simp
  have:=hall _ (List.mem_of_mem_take this)
  rw [Xd] at this; cases this
 unfold rW
 rw [if_neg h2]
 unfold Dz
 by_cases h:n=0
 ·rw [if_pos h,if_neg (by simp),h]; decide
 ·rw [if_neg h]
  obtain⟨c,r,e,hc⟩:=N4 n [] h
  rw [if_neg (by rw [e]; simp [hc]),Z4 n [] hn]
  rfl
theorem Mf:∀(d r:List UInt8),(∀b∈d,isDigit b=true)→nL (d++32::r)=d
 | [],r,_=>by
  have:isWord 32=false:=by decide
  simp [nL,ao5,this]
 | b::d,r,h=>by
  have hb:isWord b=true:=by simp [isWord,h b (by simp)]
  have ih:=Mf d r (fun x hx=>h x (by simp [hx]))
  unfold nL at ih ⊢
  simp [ao5,hb,ih]
theorem Mi:∀(d r:List UInt8),(∀b∈d,isWord b=true)→nL (d++32::r)=d
 | [],r,_=>by
  have:isWord 32=false:=by decide
  simp [nL,ao5,this]
 | b::d,r,h=>by
  have ih:=Mi d r (fun x hx=>h x (by simp [hx]))
  unfold nL at ih ⊢
  simp [ao5,h b (by simp),ih]
theorem UM (hex:Bool):∀(l:List UInt8) (n r:Nat),n≤4294967295→oJ hex l n=some r→r≤4294967295
 | [],n,r,hn,h=>by simp only [oJ,ab3] at h; omega
 | b::l,n,r,hn,h=>by
  simp only [oJ] at h
  split at h
  ·cases h
  ·split at h
   ·cases h
   ·exact UM hex l _ r (by omega) h
theorem Uk {l:List UInt8}{n:Nat}(h:rW l=some n):n≤4294967295:=by
 unfold rW at h
 split at h
 ·split at h
  ·cases h
  ·exact UM true _ 0 n (by omega) h
 ·split at h
  ·cases h
  ·exact UM false _ 0 n (by omega) h
def written (x:Token):List UInt8:=if x.kind=2 then Dz x.num else x.text
def Dh (x:Token) (p:Nat):Token:={ x with pos:=p }
def Good (x:Token):Prop:=x.kind≠0∧x.num≤4294967295∧x.text.length≤65536∧(∃b r,written x=b::r∧qL b=false∧b≠47)∧∀rest p,uC (written x++32::rest) p=some (Dh x p,(written x).length)
theorem Io {b:UInt8}(h:o6 b=true):qL b=false∧b≠47:=by
 constructor
 ·simp [o6,qL] at h ⊢; omega
 ·rintro rfl; revert h; decide
theorem Rr {b:UInt8}(h:isDigit b=true):qL b=false∧b≠47:=by
 constructor
 ·simp [isDigit,qL] at h ⊢; omega
 ·rintro rfl; revert h; decide
theorem IM:∀x∈nO,x.length≤2∧∃b r,x=b::r∧qL b=false∧b≠47∧o6 b=false∧isDigit b=false:=by
 intro x hx
 have:nO.all (fun x=>decide (x.length≤2) && (match x with | []=>false | b::_=>!qL b && decide (b≠47) && !o6 b && !isDigit b))=true:=by decide
 have h:=List.all_eq_true.1 this x hx
 cases x with
 | nil=>simp at h
 | cons b r =>
  simp only [Bool.and_eq_true,decide_eq_true_eq,Bool.not_eq_true'] at h
  exact⟨h.1,b,r,rfl,h.2.1.1.1,h.2.1.1.2,h.2.1.2,h.2.2⟩
theorem aeB {l:List UInt8}(h:oX nO l≠[]):oX nO l∈nO∧l.take (oX nO l).length=oX nO l:=by
 unfold oX at h ⊢
 cases hf:nO.find? (fun x=>decide (l.take x.length=x)) with
 | none=>rw [hf] at h; exact absurd rfl h
 | some x =>
  simp only [Option.getD_some]
  exact⟨List.mem_of_find?_eq_some hf,by simpa using List.find?_some hf⟩
theorem Mo {x:List UInt8}(hx:x∈nO) (rest:List UInt8):oX nO (x++32::rest)=x:=by
 rw [wR]
 have hs:nO=u4++A7:=by decide
 rw [hs] at hx
 rcases List.mem_append.1 hx with h | h
 ·have hl:x.length=2:=(by decide:∀y∈u4,y.length=2) x h
  have e:(x++32::rest).take 2=x:=by rw [←hl]; simp
  rw [e,if_pos h]
 ·have hl:x.length=1:=(by decide:∀y∈A7,y.length=1) x h
  have e:(x++32::rest).take 1=x:=by rw [←hl]; simp
  have e2:(x++32::rest).take 2=x++[32]:=by
   match x,hl with
   | [b],_=>rfl
  have h2:¬x++[32]∈u4:=by
   intro h3
   have:=(by decide:∀y∈u4,(32:UInt8) ∉ y) _ h3
   simp at this
  rw [e,e2,if_neg h2,if_pos h]
theorem Vr {d:List UInt8}{a n:Nat}{x:Token}(h:uC d a=some (x,n)):Good x∧(x.kind≠2→d.take x.text.length=x.text):=by
 unfold uC at h
 cases d with
 | nil=>cases h
 | cons b r =>
  simp only [] at h
  by_cases h1:o6 b=true
  ·rw [if_pos h1] at h
   have hrun:nL (b::r)=b::nL r:=by simp [nL,ao5,isWord,h1]
   have hw:=IF (b::r)
   have htk:=MB (b::r)
   split at h
   ·cases h
   ·rename_i h40
    simp only [ab3,af1] at h
    obtain⟨rfl,_⟩:=h
    have hk2:¬(if nL (b::r)∈tH then 3 else 1)=2:=by split <;> omega
    have hwr:written ⟨if nL (b::r)∈tH then 3 else 1,a,0,nL (b::r)⟩=nL (b::r):=by unfold written; rw [if_neg hk2]
    obtain⟨o1,o2⟩:=Io h1
    refine⟨⟨by show(if _ then _ else _)≠_; split <;> omega,ak5 _,by show(nL (b::r)).length≤_; omega,⟨b,nL r,by rw [hwr,hrun],o1,o2⟩,fun rest p=>?_⟩,fun _=>htk⟩
    rw [hwr]
    have hag:=Mi (nL (b::r)) rest hw
    generalize nL (b::r)=w at *
    subst hrun
    unfold uC
    simp only [af5] at hag ⊢
    rw [if_pos h1]
    simp only [hag]
    rw [if_neg h40]
    rfl
  ·rw [if_neg h1] at h
   by_cases h2:isDigit b=true
   ·rw [if_pos h2] at h
    split at h
    ·cases h
    ·rename_i m hm
     simp only [ab3,af1] at h
     obtain⟨rfl,_⟩:=h
     have hm':=Uk hm
     have hwr:written ⟨2,a,m,[]⟩=Dz m:=by unfold written; rw [if_pos rfl]
     obtain⟨c,q,hc⟩:=GI m
     have hcd:isDigit c=true:=C6 m c (by rw [hc]; simp)
     obtain⟨o1,o2⟩:=Rr hcd
     refine⟨⟨by show(2:Nat)≠0; decide,hm',by simp,⟨c,q,by rw [hwr,hc],o1,o2⟩,fun rest p=>?_⟩,fun hk=>absurd rfl hk⟩
     rw [hwr]
     have hag:=Mf (Dz m) rest (C6 m)
     have hnum:=Jn m hm'
     rw [hc] at hag hnum ⊢
     unfold uC
     simp only [af5] at hag ⊢
     rw [if_neg (by rw [D6 hcd]; decide),if_pos hcd,hag,hnum]
     rfl
   ·rw [if_neg h2] at h
    split at h
    ·cases h
    ·rename_i h3
     simp only [ab3,af1] at h
     obtain⟨rfl,_⟩:=h
     obtain⟨hm,htk⟩:=aeB h3
     obtain⟨hl,c,q,hc,o1,o2,o3,o4⟩:=IM _ hm
     have hwr:written ⟨4,a,0,oX nO (b::r)⟩=oX nO (b::r):=by unfold written; rw [if_neg (by show ¬(4:Nat)=2; decide)]
     refine⟨⟨by show(4:Nat)≠0; decide,ak5 _,by show(oX nO (b::r)).length≤_; omega,⟨c,q,by rw [hwr,hc],o1,o2⟩,fun rest p=>?_⟩,fun _=>htk⟩
     rw [hwr]
     have hag:=Mo hm rest
     generalize oX nO (b::r)=w at *
     subst hc
     unfold uC
     simp only [af5] at hag ⊢
     rw [if_neg (by rw [o3]; decide),if_neg (by rw [o4]; decide),hag,if_neg (by simp)]
     rfl
end
section
open Go Hk

end
section
open Go Hk
section
variable (s:List UInt8) (A:List Token) (L:Nat) (T:List UInt8) (ps:List Nat) (sz i:Nat) (x:Token)
end
end
section
open Go Hk
def Fact (s:List UInt8) (x:Token):Prop:=x.pos < s.length∧Good x∧(x.kind≠2→(s.drop x.pos).take x.text.length=x.text)
theorem CQ (s:List UInt8) (a:Nat) (out:List Token):(∃p,lexFrom s a out=([],9,p)) ∨
  ∃l,lexFrom s a out=(out++l++[⟨0,s.length,0,[]⟩],0,0)∧(∀x∈l,a≤x.pos∧Fact s x)∧l.Pairwise (fun x y=>x.pos < y.pos):=by
 induction hm:s.length - a using Nat.strongRecOn generalizing a out with
 | _ m ih =>
  have hge:=vK s a
  by_cases hlt:lY s a < s.length
  ·cases h3:uC (s.drop (lY s a)) (lY s a) with
   | none=>exact .inl ⟨_,Cr rfl hlt h3⟩
   | some x =>
    obtain⟨y,n⟩:=x
    have hy:=VY h3
    have hgood:=Vr h3
    rcases ih (s.length - (lY s a+max 1 n)) (by omega) (lY s a+max 1 n) (out++[y]) rfl with ⟨p,h⟩ | ⟨l,h,h1,h2⟩
    ·exact .inl ⟨p,(rF rfl hlt h3 rfl).trans h⟩
    ·refine .inr ⟨y::l,(rF rfl hlt h3 rfl).trans (h.trans (by simp)),?_,?_⟩
     ·intro z hz
      rcases List.mem_cons.1 hz with rfl | hz
      ·exact⟨by omega,by omega,hgood.1,by rw [hy]; exact hgood.2⟩
      ·exact⟨by have:=(h1 z hz).1; omega,(h1 z hz).2⟩
     ·refine List.pairwise_cons.2 ⟨fun z hz=>?_,h2⟩
      have:=(h1 z hz).1
      omega
  ·exact .inr ⟨[],(AW hlt).trans (by simp),by simp,List.Pairwise.nil⟩
section
variable (s:List UInt8) (l:List Token)
end
end
section
open Go Hk
section
variable (s:List UInt8)
end
end
end Go.Proofs.YtlddmnojanpdoaaGreatDoor
