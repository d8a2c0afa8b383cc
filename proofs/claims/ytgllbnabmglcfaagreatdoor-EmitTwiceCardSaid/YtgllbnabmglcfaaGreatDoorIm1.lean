/-
  The texts IM.M, IM.A, IM.B, IM.H, IM.C, IM.D, IM.E, IM.F, IM.G, IM.G2, IM.J1, IM.J2, IM.M2, IM.J3, IM.J4, IM.L1, IM.L2, IM.K1, IM.K2, IM.K3, IM.K4, IM.K5, IM.K6, IM.K7, IM.K8, IM.K9, IM.K10, one behind another. No conditions.
-/
import Derived.Test.YtgllbnabmglcfaaGreatDoorProg
import Derived.Test.YtgllbnabmglcfaaGreatDoorVk3
import Derived.KernelRfl
import Derived.WalkKit
set_option linter.unusedVariables false
set_option linter.unusedSimpArgs false
set_option linter.all false
open Bool renaming and_eq_true → am4
open Int renaming cast_ofNat_Int → ar6, natCast_add → as1, toNat_natCast → as0
open List renaming drop_eq_getElem_cons → ao4, getD → aa7, getD_eq_getElem?_getD → ae9, getElem?_append_right → af4, getElem?_eq_getElem → ac6, getElem?_eq_some_iff → ac1, getElem?_map → af7, getElem_mem → as2, length → aa8, length_cons → aq8, length_map → ar3, length_take → ao3, map_cons → aq7, mem_map → ar2, mem_of_getElem? → af3, nil_append → ar5, range → aq5, replicate → al7
open Nat renaming le_refl → ai1, zero_add → ar4
open Option renaming bind_eq_some_iff → ab6, bind_some → ai3, map_eq_some_iff → af1
open Option.some renaming injEq → ad0
namespace Go.Proofs.YtgllbnabmglcfaaGreatDoor
noncomputable section
open Go Hk
def ai2:List Nat:=[]
def Zw:List Nat:=[18,19,20,37,38,46,47,48,49,51,52,85,98,99,81,82,83,84,96,107,72,40,41,44,45,74,86,87,88,89,90,91,92,93,102,103,105,106,108,54,55,56,57,58,59,61,62,65,66,68,69,77,78,79]
def apF:List Nat:=[71,9,21,80,81,82,83,84,85,16,17,18,19,20,73,36,44,45,46,47,48,49,96,97,98,99,100,101,33,34,35,37,38,76,107]
def vC:List lC:=[0,1,56,2,57,49,28,3,61,58,42,50,38,29,17,4,62,47,59,36,45,43,51,22,53,39,33,30,24,18,12,5,63,55,48,27,60,41,37,16,46,35,44,21,52,32,23,11,54,26,40,15,34,20,31,10,25,14,19,9,13,8,7,6].map (.int .u8)
def mY:wC:={ srf:=fun f=>if f=40 then some 41 else none,prm:=fun f=>none,frz:=fun f=>f == 71,esc:=fun f=>f == 98 || f == 81 || f == 82 || f == 83,grow:=fun f=>f == 98 || f == 82 || f == 83,vlit:=fun f=>f == 80,sub:=fun f=>f == 52 || f == 51 || f == 72 || f == 46 || f == 47 || f == 48 || f == 49,out:=fun f=>f == 60 || f == 129 || f == 131 || f == 126 || f == 151 || f == 165 || f == 163 || f == 157 || f == 160,vec:=fun f=>f == 98 || f == 81 || f == 21 || f == 46 || f == 49,glob:=fun g=>if g=0 then some vC else none,pure:=fun f=>!(Zw.contains f),pan:=fun f=>ai2.contains f,vmk:=fun f=>!(apF.contains f),jt:=fun f=>!(apF.contains f) }
def NR (K:lN) (m:Nat) (s:List lC×lD):Option R :=
 (fun aE aF aD aB aC aA aG=>(lZ .lss aA aC).bind fun aL=>lS aL ((lU 4 aB aA).bind fun aM=>(lP true 4 aG aM).bind fun aN=>lQ (nA 4 aG (.agg [(.int .i64 0),(.int .i64 0),(.int .i64 0),(.int .i64 0)])) fun aJ aK=>(lW 4 aK aJ aN).bind fun aH=>(lP true 4 aH aJ).bind fun aO=>lY (K 18 [(lC.lL aD),(lC.lL aO)] aH) (fun aP aI=>(xX .not aP).bind fun aQ=>lS aQ (lX m .ret [aE,(.int .i64 2),aD,aB,aC,aA] aI) ((lZ .add aA (.int .i64 1)).bind fun aR=>lX m .normal [aE,aF,aD,aB,aC,aR] aI)) (fun _ _=>none)) (lX m (.exit 0) [aE,aF,aD,aB,aC,aA] aG)) (aa7 s.1 0 .junk) (aa7 s.1 1 .junk) (aa7 s.1 2 .junk) (aa7 s.1 3 .junk) (aa7 s.1 4 .junk) (aa7 s.1 5 .junk) s.2
def NS (K:lN) (m:Nat) (s:List lC×lD):Option R :=
 (fun aI aD aH aE aF aG aB aC aA aJ=>(lZ .lss aA aC).bind fun t137=>lS t137 ((lU 6 aB aA).bind fun t138=>(lP true 6 aJ t138).bind fun t139=>lQ (nA 6 aJ (.agg [(.int .i64 0),(.int .i64 0),(.int .i64 0),(.int .i64 0),(.int .i64 0),(.int .i64 0)])) fun t140 aM=>(lW 6 aM t140 t139).bind fun aK=>(lP true 6 aK t140).bind fun t143=>lY (K 19 [(lC.lL aD),(lC.lL t143)] aK) (fun t144 aL=>(xX .not t144).bind fun t146=>lS t146 (lX m .ret [(.int .i64 2),aD,aH,aE,aF,aG,aB,aC,aA] aL) ((lZ .add aA (.int .i64 1)).bind fun t147=>lX m .normal [aI,aD,aH,aE,aF,aG,aB,aC,t147] aL)) (fun _ _=>none)) (lX m (.exit 4) [aI,aD,aH,aE,aF,aG,aB,aC,aA] aJ)) (aa7 s.1 0 .junk) (aa7 s.1 1 .junk) (aa7 s.1 2 .junk) (aa7 s.1 3 .junk) (aa7 s.1 4 .junk) (aa7 s.1 5 .junk) (aa7 s.1 6 .junk) (aa7 s.1 7 .junk) (aa7 s.1 8 .junk) s.2
def JP (K:lN) (m:Nat) (s:List lC×lD):Option R :=
 (fun aL aO aC aE aA aQ=>(lZ .lss aA aE).bind fun bE=>lS bE (((lU 5 aC aA).bind fun bF=>(lP true 5 aQ bF).bind fun bG=>lQ (nA 5 aQ (.agg [(.slice [] .nil),(.int .i64 0),(.int .i64 0),(.int .i64 0),(.int .i64 0)])) fun aT bD=>(lW 5 bD aT bG).bind fun aR=>(lO 0 aT).bind fun t124=>(lP false 1 aR t124).bind fun t125=>(mP t125).bind fun t126=>(mX (NS K (aa8 aR)) ([aL,aO,aT,aC,aE,aA,t125,t126,(.int .i64 0)],aR)).bind fun EZ=>(fun aM aB aU aD aF aG aX aY aZ aS=>Ex.mO EZ.1 none (fun a_=>Ex.inBlock 4 a_ ((lO 1 aU).bind fun bH=>(lP true 4 aS bH).bind fun bI=>lY (K 20 [(lC.lL aB),(lC.lL bI)] aS) (fun bJ aV=>(xX .not bJ).bind fun bK=>lS bK (some (.ret,[(.int .i64 2),aB,aD,aF,aG],aV)) (some (.normal,[aM,aB,aD,aF,aG],aV))) (fun _ _=>none)) (fun bB=>some (bB,[aM,aB,aD,aF,aG],aS)))) (aa7 EZ.2.1 0 .junk) (aa7 EZ.2.1 1 .junk) (aa7 EZ.2.1 2 .junk) (aa7 EZ.2.1 3 .junk) (aa7 EZ.2.1 4 .junk) (aa7 EZ.2.1 5 .junk) (aa7 EZ.2.1 6 .junk) (aa7 EZ.2.1 7 .junk) (aa7 EZ.2.1 8 .junk) EZ.2.2).bind fun aH=>(fun aN aP aI aJ aK aW=>Ex.inBlock 3 aH.1 ((lZ .add aK (.int .i64 1)).bind fun bL=>lX m .normal [aN,aP,aI,aJ,bL] aW) (fun bC=>lX m bC [aN,aP,aI,aJ,aK] aW)) (aa7 aH.2.1 0 .junk) (aa7 aH.2.1 1 .junk) (aa7 aH.2.1 2 .junk) (aa7 aH.2.1 3 .junk) (aa7 aH.2.1 4 .junk) aH.2.2) (lX m (.exit 2) [aL,aO,aC,aE,aA] aQ)) (aa7 s.1 0 .junk) (aa7 s.1 1 .junk) (aa7 s.1 2 .junk) (aa7 s.1 3 .junk) (aa7 s.1 4 .junk) s.2
def m9 (K:lN) (a0:lC) (h0:lD):Option (nB×lD) :=
 (lQ (nA 5 h0 a0) fun t0 h1=>(lP true 5 h1 t0).bind fun t2=>lY (K 16 [(lC.lL t2)] h1) (fun t3 h4=>(xX .not t3).bind fun t5=>lS t5 (some (.ret,[(.int .i64 18)],h4)) ((lP true 5 h4 t0).bind fun t6=>(mD [(.int .i64 0),(.slice [] .nil),(.slice [] .nil),(.int .i64 0),(.int .i64 0),(.int .i64 0)] [(0,5),(5,1)] [(0,t6)]).bind fun t7=>lQ (nA 6 h4 t7) fun t8 h9=>(lO 3 t0).bind fun bY=>(lP false 1 h9 bY).bind fun bZ=>lY (K 17 [(lC.lL bZ),(lC.lL (.int .i64 0)),(lC.lL (.int .i64 65536))] h9) (fun t12 bI=>(xX .not t12).bind fun t14=>(lJ false t14 ((lO 4 t0).bind fun t15=>lV t15 bI) (lV (.tuple []) bI)).bind (l9 (fun b_ aZ=>(lJ false t14 ((lP false 1 aZ b_).bind fun cA=>lV cA aZ) (lV (.tuple []) aZ)).bind (l9 (fun cB bJ=>(lJ false t14 (lY (K 17 [(lC.lL cB),(lC.lL (.int .i64 0)),(lC.lL (.int .i64 65536))] bJ) (fun cC bX=>lV cC bX) FA) (lV (.tuple []) bJ)).bind (l9 (fun t23 bK=>(lJ false t14 ((xX .not t23).bind fun cD=>lV cD bK) (lV (.tuple []) bK)).bind (l9 (fun t26 bL=>(mJ t14 (.bool true) t26).bind fun t28=>(lJ false t28 ((lO 3 t0).bind fun t29=>lV t29 bL) (lV (.tuple []) bL)).bind (l9 (fun t30 bB=>(lJ false t28 ((lP false 1 bB t30).bind fun t32=>lV t32 bB) (lV (.tuple []) bB)).bind (l9 (fun cE bM=>(lJ false t28 ((lZ .rem cE (.int .i64 4)).bind fun cF=>lV cF bM) (lV (.tuple []) bM)).bind (l9 (fun t36 bN=>(lJ false t28 ((lZ .neq t36 (.int .i64 0)).bind fun cG=>lV cG bN) (lV (.tuple []) bN)).bind (l9 (fun cH bO=>(mJ t28 (.bool true) cH).bind fun aL=>(lJ false aL ((lO 4 t0).bind fun cI=>lV cI bO) (lV (.tuple []) bO)).bind (l9 (fun cJ bC=>(lJ false aL ((lP false 1 bC cJ).bind fun cK=>lV cK bC) (lV (.tuple []) bC)).bind (l9 (fun cL bP=>(lJ false aL ((lZ .rem cL (.int .i64 4)).bind fun cM=>lV cM bP) (lV (.tuple []) bP)).bind (l9 (fun cN bQ=>(lJ false aL ((lZ .neq cN (.int .i64 0)).bind fun cO=>lV cO bQ) (lV (.tuple []) bQ)).bind (l9 (fun cP bR=>(mJ aL (.bool true) cP).bind fun aO=>(lJ false aO ((lO 0 t0).bind fun cQ=>lV cQ bR) (lV (.tuple []) bR)).bind (l9 (fun cR bD=>(lJ false aO ((lP false 1 bD cR).bind fun cS=>lV cS bD) (lV (.tuple []) bD)).bind (l9 (fun cT bS=>(lJ false aO ((lZ .lss cT (.int .i64 0)).bind fun cU=>lV cU bS) (lV (.tuple []) bS)).bind (l9 (fun cV bT=>(mJ aO (.bool true) cV).bind fun aM=>(lJ false aM ((lO 2 t0).bind fun cW=>lV cW bT) (lV (.tuple []) bT)).bind (l9 (fun cX bE=>(lJ false aM ((lP false 1 bE cX).bind fun cY=>lV cY bE) (lV (.tuple []) bE)).bind (l9 (fun cZ bU=>(lJ false aM ((mP cZ).bind fun c7=>lV c7 bU) (lV (.tuple []) bU)).bind (l9 (fun c8 bV=>(lJ false aM ((lZ .eql c8 (.int .i64 0)).bind fun c_=>lV c_ bV) (lV (.tuple []) bV)).bind (l9 (fun dA aN=>(mJ aM (.bool true) dA).bind fun dB=>lS dB (some (.ret,[(.int .i64 2)],aN)) ((lO 1 t0).bind fun dC=>(lP false 1 aN dC).bind fun bW=>(mP bW).bind fun dD=>(mX (NR K (aa8 aN)) ([t0,(.int .i64 0),t8,bW,dD,(.int .i64 0)],aN)).bind fun aD=>(fun aF aB aI aP aQ aR aC=>Ex.mO aD.1 none (fun aV=>Ex.inBlock 0 aV ((lO 2 aF).bind fun bF=>(lP false 1 aC bF).bind fun aK=>(mP aK).bind fun bG=>(mX (JP K (aa8 aC)) ([aB,aI,aK,bG,(.int .i64 0)],aC)).bind fun aA=>(fun aG bH aS aT aU aJ=>Ex.mO aA.1 none (fun aX=>Ex.inBlock 2 aX (some (.ret,[(.int .i64 0)],aJ)) (fun aY=>some (aY,[aG],aJ)))) (aa7 aA.2.1 0 .junk) (aa7 aA.2.1 1 .junk) (aa7 aA.2.1 2 .junk) (aa7 aA.2.1 3 .junk) (aa7 aA.2.1 4 .junk) aA.2.2) (fun aW=>some (aW,[aB],aC)))) (aa7 aD.2.1 0 .junk) (aa7 aD.2.1 1 .junk) (aa7 aD.2.1 2 .junk) (aa7 aD.2.1 3 .junk) (aa7 aD.2.1 4 .junk) (aa7 aD.2.1 5 .junk) aD.2.2)) (fun _ _=>none))) (fun _ _=>none))) (fun _ _=>none))) (fun _ _=>none))) (fun _ _=>none))) (fun _ _=>none))) (fun _ _=>none))) (fun _ _=>none))) (fun _ _=>none))) (fun _ _=>none))) (fun _ _=>none))) (fun _ _=>none))) (fun _ _=>none))) (fun _ _=>none))) (fun _ _=>none))) (fun _ _=>none))) (fun _ _=>none))) (fun _ _=>none))) (fun _ _=>none))) (fun _ _=>none))) (fun _ _=>none)).bind fun aE=>(fun aH a_=>Ex.nR aE.1 (nJ (aa8 h0) aH a_)) (aa7 aE.2.1 0 .junk) aE.2.2
theorem ao7 (K:lN) (a0:lC) (h0:lD):qG Tryz.prog mY mX K 9 [a0] h0=m9 (mH mY K) a0 h0:=by kernel_rfl
def HF (K:lN) (m:Nat) (s:List lC×lD):Option R :=
 (fun aE aG aD aF aB aC aA aI=>(lZ .lss aA aC).bind fun aL=>lS aL ((lU 5 aB aA).bind fun aM=>(lP true 5 aI aM).bind fun aN=>lQ (nA 5 aI (.agg [(.slice [] .nil),(.int .i64 0),(.int .i64 0),(.int .i64 0),(.int .i64 0)])) fun aJ aK=>(lW 5 aK aJ aN).bind fun aH=>(lO 0 aJ).bind fun aO=>(lP false 1 aH aO).bind fun t53=>(mP t53).bind fun aP=>(lZ .sub (.int .i64 1048576) aD).bind fun aQ=>(lZ .gtr aP aQ).bind fun aR=>lS aR (lX m .ret [aE,(.bool false),aD,aF,aB,aC,aA] aH) ((lO 0 aJ).bind fun aS=>(lP false 1 aH aS).bind fun aT=>(mP aT).bind fun aU=>(lZ .add aD aU).bind fun t60=>(lZ .add aA (.int .i64 1)).bind fun aV=>lX m .normal [aE,aG,t60,aF,aB,aC,aV] aH)) (lX m (.exit 0) [aE,aG,aD,aF,aB,aC,aA] aI)) (aa7 s.1 0 .junk) (aa7 s.1 1 .junk) (aa7 s.1 2 .junk) (aa7 s.1 3 .junk) (aa7 s.1 4 .junk) (aa7 s.1 5 .junk) (aa7 s.1 6 .junk) s.2
def xG (K:lN) (m:Nat) (s:List lC×lD):Option R :=
 (fun aI aJ aB aC aA aQ=>(lZ .lss aA aC).bind fun bG=>lS bG ((lU 4 aB aA).bind fun bH=>(lP true 4 aQ bH).bind fun bI=>lQ (nA 4 aQ (.agg [(.int .i64 0),(.int .i64 0),(.int .i64 0),(.int .i64 0)])) fun aM bF=>(lW 4 bF aM bI).bind fun bC=>(lP true 4 bC aM).bind fun bJ=>lY (K 33 [(lC.lL bJ)] bC) (fun aO bD=>(lJ true aO ((lO 2 aM).bind fun bK=>lV bK bD) (lV (.tuple []) bD)).bind (l9 (fun bL aR=>(lJ true aO ((lP false 1 aR bL).bind fun bM=>lV bM aR) (lV (.tuple []) aR)).bind (l9 (fun bN bE=>(lJ true aO ((lZ .eql bN (.int .i64 0)).bind fun bO=>lV bO bE) (lV (.tuple []) bE)).bind (l9 (fun bP aN=>(mJ aO bP (.bool false)).bind fun aS=>(lS aS ((lO 0 aM).bind fun aT=>(lP false 1 aN aT).bind fun aU=>(lO 1 aM).bind fun aV=>(lP false 1 aN aV).bind fun aW=>(lZ .mul aU aW).bind fun aX=>lY (K 34 [(lC.lL aX)] aN) (fun aY aP=>(lZ .add aJ aY).bind fun aZ=>some (.normal,[aI,aZ,aB,aC,aA],aP)) (fun _ _=>none)) (some (.normal,[aI,aJ,aB,aC,aA],aN))).bind fun aD=>(fun aK aE aF aG aH aL=>Ex.qZ aD.1 ((lZ .gtr aE (.int .i64 65536)).bind fun a_=>lS a_ (lX m .ret [(.bool false),aE,aF,aG,aH] aL) ((lZ .add aH (.int .i64 1)).bind fun bB=>lX m .normal [aK,aE,aF,aG,bB] aL))) (aa7 aD.2.1 0 .junk) (aa7 aD.2.1 1 .junk) (aa7 aD.2.1 2 .junk) (aa7 aD.2.1 3 .junk) (aa7 aD.2.1 4 .junk) aD.2.2) (fun _ _=>none))) (fun _ _=>none))) (fun _ _=>none))) (fun _ _=>none)) (lX m (.exit 2) [aI,aJ,aB,aC,aA] aQ)) (aa7 s.1 0 .junk) (aa7 s.1 1 .junk) (aa7 s.1 2 .junk) (aa7 s.1 3 .junk) (aa7 s.1 4 .junk) s.2
def m16 (K:lN) (a0:lC) (h0:lD):Option (nB×lD) :=
 (lQ (nA 5 h0 a0) fun t0 h1=>(lO 0 t0).bind fun t2=>(lP false 1 h1 t2).bind fun t3=>(lZ .gtr t3 (.int .i64 1048576)).bind fun t4=>(lJ false t4 ((lO 1 t0).bind fun t5=>lV t5 h1) (lV (.tuple []) h1)).bind (l9 (fun t6 h7=>(lJ false t4 ((lP false 1 h7 t6).bind fun t8=>lV t8 h7) (lV (.tuple []) h7)).bind (l9 (fun t9 aW=>(lJ false t4 ((mP t9).bind fun bF=>lV bF aW) (lV (.tuple []) aW)).bind (l9 (fun t12 aX=>(lJ false t4 ((lZ .gtr t12 (.int .i64 1048576)).bind fun t14=>lV t14 aX) (lV (.tuple []) aX)).bind (l9 (fun t15 aY=>(mJ t4 (.bool true) t15).bind fun aI=>(lJ false aI ((lO 2 t0).bind fun bG=>lV bG aY) (lV (.tuple []) aY)).bind (l9 (fun bH aS=>(lJ false aI ((lP false 1 aS bH).bind fun bI=>lV bI aS) (lV (.tuple []) aS)).bind (l9 (fun bJ aZ=>(lJ false aI ((mP bJ).bind fun t24=>lV t24 aZ) (lV (.tuple []) aZ)).bind (l9 (fun bK a_=>(lJ false aI ((lZ .gtr bK (.int .i64 1048576)).bind fun bL=>lV bL a_) (lV (.tuple []) a_)).bind (l9 (fun t28 aH=>(mJ aI (.bool true) t28).bind fun t30=>lS t30 (some (.ret,[(.bool false)],aH)) ((lO 4 t0).bind fun t31=>(lP false 1 aH t31).bind fun t32=>(Dj t32 (.int .i64 0)).bind fun bM=>(Ck bM (.int .i64 65537)).bind fun bN=>(lO 2 t0).bind fun bO=>(lP false 1 aH bO).bind fun t36=>(mP t36).bind fun bP=>(mX (HF K (aa8 aH)) ([t0,(.bool false),(.int .i64 0),bN,t36,bP,(.int .i64 0)],aH)).bind fun aB=>(fun aJ aC bC aK aT aU aV aL=>Ex.mO aB.1 none (fun bD=>Ex.inBlock 0 bD ((lO 1 aJ).bind fun t73=>(lP false 1 aL t73).bind fun bB=>(mP bB).bind fun bQ=>(mX (xG K (aa8 aL)) ([aC,aK,bB,bQ,(.int .i64 0)],aL)).bind fun aA=>(fun aD aF aM aN aO aG=>Ex.mO aA.1 none (fun aP=>Ex.inBlock 2 aP ((lZ .leq aF (.int .i64 65536)).bind fun t127=>some (.ret,[t127],aG)) (fun aQ=>some (aQ,[aD],aG)))) (aa7 aA.2.1 0 .junk) (aa7 aA.2.1 1 .junk) (aa7 aA.2.1 2 .junk) (aa7 aA.2.1 3 .junk) (aa7 aA.2.1 4 .junk) aA.2.2) (fun bE=>some (bE,[aC],aL)))) (aa7 aB.2.1 0 .junk) (aa7 aB.2.1 1 .junk) (aa7 aB.2.1 2 .junk) (aa7 aB.2.1 3 .junk) (aa7 aB.2.1 4 .junk) (aa7 aB.2.1 5 .junk) (aa7 aB.2.1 6 .junk) aB.2.2)) (fun _ _=>none))) (fun _ _=>none))) (fun _ _=>none))) (fun _ _=>none))) (fun _ _=>none))) (fun _ _=>none))) (fun _ _=>none))) (fun _ _=>none))).bind fun wO=>(fun aE aR=>Ex.nR wO.1 (nJ (aa8 h0) aE aR)) (aa7 wO.2.1 0 .junk) wO.2.2
theorem ahN (K:lN) (a0:lC) (h0:lD):qG Tryz.prog mY mX K 16 [a0] h0=m16 (mH mY K) a0 h0:=by kernel_rfl
def m17 (K:lN) (a0 a1 a2:lC) (h0:lD):Option (nB×lD) :=
 ((lZ .geq a0 a1).bind fun t0=>(lJ true t0 (lV a0 h0) (lV (.tuple []) h0)).bind (l9 (fun t1 h2=>(lJ true t0 (lV a2 h2) (lV (.tuple []) h2)).bind (l9 (fun t3 h4=>(lJ true t0 ((lZ .leq t1 t3).bind fun t5=>lV t5 h4) (lV (.tuple []) h4)).bind (l9 (fun t6 h7=>(mJ t0 t6 (.bool false)).bind fun t8=>some (.ret,[t8],h7)) (fun _ _=>none))) (fun _ _=>none))) (fun _ _=>none))).bind fun r9=>(fun aA aB=>Ex.nR r9.1 (nJ (aa8 h0) aA aB)) (aa7 r9.2.1 0 .junk) r9.2.2
theorem ahO (K:lN) (a0 a1 a2:lC) (h0:lD):qG Tryz.prog mY mX K 17 [a0,a1,a2] h0=m17 (mH mY K) a0 a1 a2 h0:=by kernel_rfl
def m18 (K:lN) (a0 a1:lC) (h0:lD):Option (nB×lD) :=
 (lQ (nA 4 h0 a1) fun t0 h1=>(lP true 4 h1 t0).bind fun t2=>lY (K 33 [(lC.lL t2)] h1) (fun t3 h4=>(xX .not t3).bind fun t5=>lS t5 (some (.ret,[(.bool false)],h4)) ((lO 0 t0).bind fun t6=>(lP false 1 h4 t6).bind fun t7=>(lO 1 t0).bind fun t8=>(lP false 1 h4 t8).bind fun t9=>(lZ .mul t7 t9).bind fun aG=>(lO 2 t0).bind fun aR=>(lP false 1 h4 aR).bind fun t12=>(lZ .eql t12 (.int .i64 0)).bind fun t13=>lS t13 ((lO 3 t0).bind fun t14=>(lP false 1 h4 t14).bind fun t15=>(lZ .eql t15 (.int .i64 0)).bind fun aS=>some (.ret,[aS],h4)) ((lZ .eql t12 (.int .i64 1)).bind fun aT=>lS aT ((lO 3 t0).bind fun aU=>(lP false 1 h4 aU).bind fun aV=>(l_ a0).bind fun aW=>(lO 0 aW).bind fun aX=>(lO 3 aX).bind fun aY=>(lP false 1 h4 aY).bind fun t23=>(lZ .sub t23 aG).bind fun t24=>lY (K 17 [(lC.lL aV),(lC.lL (.int .i64 0)),(lC.lL t24)] h4) (fun aA aH=>(lJ true aA ((lO 3 t0).bind fun aZ=>lV aZ aH) (lV (.tuple []) aH)).bind (l9 (fun t28 aC=>(lJ true aA ((lP false 1 aC t28).bind fun t30=>lV t30 aC) (lV (.tuple []) aC)).bind (l9 (fun t31 aI=>(lJ true aA ((lZ .rem t31 (.int .i64 4)).bind fun a_=>lV a_ aI) (lV (.tuple []) aI)).bind (l9 (fun bB aJ=>(lJ true aA ((lZ .eql bB (.int .i64 0)).bind fun t36=>lV t36 aJ) (lV (.tuple []) aJ)).bind (l9 (fun bC aN=>(mJ aA bC (.bool false)).bind fun bD=>some (.ret,[bD],aN)) (fun _ _=>none))) (fun _ _=>none))) (fun _ _=>none))) (fun _ _=>none))) (fun _ _=>none)) ((lZ .eql t12 (.int .i64 2)).bind fun bE=>lS bE ((lO 3 t0).bind fun bF=>(lP false 1 h4 bF).bind fun bG=>(l_ a0).bind fun bH=>(lO 5 bH).bind fun bI=>(lP false 1 h4 bI).bind fun bJ=>(l_ a0).bind fun bK=>(lO 0 bK).bind fun bL=>(lO 4 bL).bind fun bM=>(lP false 1 h4 bM).bind fun bN=>(lZ .sub bN aG).bind fun bO=>lY (K 17 [(lC.lL bG),(lC.lL bJ),(lC.lL bO)] h4) (fun bP aK=>(xX .not bP).bind fun t53=>(lJ false t53 ((lO 3 t0).bind fun bQ=>lV bQ aK) (lV (.tuple []) aK)).bind (l9 (fun bR aD=>(lJ false t53 ((lP false 1 aD bR).bind fun bS=>lV bS aD) (lV (.tuple []) aD)).bind (l9 (fun bT aL=>(lJ false t53 ((lZ .rem bT (.int .i64 4)).bind fun t60=>lV t60 aL) (lV (.tuple []) aL)).bind (l9 (fun bU aM=>(lJ false t53 ((lZ .neq bU (.int .i64 0)).bind fun bV=>lV bV aM) (lV (.tuple []) aM)).bind (l9 (fun bW aE=>(mJ t53 (.bool true) bW).bind fun bX=>lS bX (some (.ret,[(.bool false)],aE)) ((lO 3 t0).bind fun bY=>(lP false 1 aE bY).bind fun bZ=>(lZ .add bZ aG).bind fun b_=>lY (K 34 [(lC.lL b_)] aE) (fun t70 aO=>(l_ a0).bind fun cA=>(lO 5 cA).bind fun t73=>(lW 1 aO t73 t70).bind fun aP=>some (.ret,[(.bool true)],aP)) (fun _ _=>none))) (fun _ _=>none))) (fun _ _=>none))) (fun _ _=>none))) (fun _ _=>none))) (fun _ _=>none)) (some (.ret,[(.bool false)],h4)))))) (fun _ _=>none)).bind fun aF=>(fun aB aQ=>Ex.nR aF.1 (nJ (aa8 h0) aB aQ)) (aa7 aF.2.1 0 .junk) aF.2.2
theorem ahP (K:lN) (a0 a1:lC) (h0:lD):qG Tryz.prog mY mX K 18 [a0,a1] h0=m18 (mH mY K) a0 a1 h0:=by kernel_rfl
def vY (K:lN) (m:Nat) (s:List lC×lD):Option R :=
 (fun aE aG aI aH aD aB aC aA bN=>(lZ .lss aA aC).bind fun bT=>lS bT ((lU 1 aB aA).bind fun t73=>(lP false 1 bN t73).bind fun bK=>lY (K 37 [(lC.lL aE),(lC.lL bK)] bN) (fun bU bC=>(xX .not bU).bind fun bV=>lS bV (lX m .ret [aE,aG,(.bool false),aH,aD,aB,aC,aA] bC) ((lZ .eql aA (.int .i64 0)).bind fun bW=>(lS bW ((lO 2 aD).bind fun bX=>(lW 1 bC bX bK).bind fun bP=>some (.normal,[aE,aG,aI,aH,aD,aB,aC,aA],bP)) ((lZ .eql aA (.int .i64 1)).bind fun bY=>(lS bY ((lO 3 aD).bind fun bZ=>(lW 1 bC bZ bK).bind fun bQ=>some (.normal,[aE,aG,aI,aH,aD,aB,aC,aA],bQ)) ((lZ .eql aA (.int .i64 2)).bind fun b_=>(lS b_ ((lO 4 aD).bind fun cA=>(lW 1 bC cA bK).bind fun bR=>some (.normal,[aE,aG,aI,aH,aD,aB,aC,aA],bR)) (some (.normal,[aE,aG,aI,aH,aD,aB,aC,aA],bC))).bind fun aJ=>(fun bD bF bH bI bJ aS aT aU bS=>Ex.qZ aJ.1 (some (.normal,[bD,bF,bH,bI,bJ,aS,aT,aU],bS))) (aa7 aJ.2.1 0 .junk) (aa7 aJ.2.1 1 .junk) (aa7 aJ.2.1 2 .junk) (aa7 aJ.2.1 3 .junk) (aa7 aJ.2.1 4 .junk) (aa7 aJ.2.1 5 .junk) (aa7 aJ.2.1 6 .junk) (aa7 aJ.2.1 7 .junk) aJ.2.2)).bind fun aK=>(fun bE bG aW aY a_ aL aN aP bL=>Ex.qZ aK.1 (some (.normal,[bE,bG,aW,aY,a_,aL,aN,aP],bL))) (aa7 aK.2.1 0 .junk) (aa7 aK.2.1 1 .junk) (aa7 aK.2.1 2 .junk) (aa7 aK.2.1 3 .junk) (aa7 aK.2.1 4 .junk) (aa7 aK.2.1 5 .junk) (aa7 aK.2.1 6 .junk) (aa7 aK.2.1 7 .junk) aK.2.2)).bind fun aF=>(fun aR aV aX aZ bB aM aO aQ bM=>Ex.qZ aF.1 ((lZ .add aQ (.int .i64 1)).bind fun bO=>lX m .normal [aR,aV,aX,aZ,bB,aM,aO,bO] bM)) (aa7 aF.2.1 0 .junk) (aa7 aF.2.1 1 .junk) (aa7 aF.2.1 2 .junk) (aa7 aF.2.1 3 .junk) (aa7 aF.2.1 4 .junk) (aa7 aF.2.1 5 .junk) (aa7 aF.2.1 6 .junk) (aa7 aF.2.1 7 .junk) aF.2.2)) (fun _ _=>none)) (lX m (.exit 0) [aE,aG,aI,aH,aD,aB,aC,aA] bN)) (aa7 s.1 0 .junk) (aa7 s.1 1 .junk) (aa7 s.1 2 .junk) (aa7 s.1 3 .junk) (aa7 s.1 4 .junk) (aa7 s.1 5 .junk) (aa7 s.1 6 .junk) (aa7 s.1 7 .junk) s.2
def m19 (K:lN) (a0 a1:lC) (h0:lD):Option (nB×lD) :=
 (lQ (nA 6 h0 a1) fun t0 h1=>(lO 0 t0).bind fun t2=>(lP false 1 h1 t2).bind fun t3=>lY (K 35 [(lC.lL t3)] h1) (fun t4 h5=>lQ (nA 5 h5 (.agg [(.bool false),(.int .i64 0),(.int .i64 0),(.int .i64 0),(.bool false)])) fun t6 h7=>(lW 5 h7 t6 t4).bind fun h8=>(lO 4 t6).bind fun t9=>(lP false 1 h8 t9).bind fun eU=>(xX .not eU).bind fun aI=>(lJ false aI ((lO 5 t0).bind fun t12=>lV t12 h8) (lV (.tuple []) h8)).bind (l9 (fun t13 cB=>(lJ false aI ((lP false 1 cB t13).bind fun t15=>lV t15 cB) (lV (.tuple []) cB)).bind (l9 (fun eW eJ=>(lJ false aI ((lO 2 t6).bind fun eX=>lV eX eJ) (lV (.tuple []) eJ)).bind (l9 (fun eY cD=>(lJ false aI ((lP false 1 cD eY).bind fun eZ=>lV eZ cD) (lV (.tuple []) cD)).bind (l9 (fun e_ eK=>(lJ false aI ((lO 3 t6).bind fun t24=>lV t24 eK) (lV (.tuple []) eK)).bind (l9 (fun fB cG=>(lJ false aI ((lP false 1 cG fB).bind fun fC=>lV fC cG) (lV (.tuple []) cG)).bind (l9 (fun t28 eL=>(lJ false aI (lY (K 17 [(lC.lL eW),(lC.lL e_),(lC.lL t28)] eL) (fun t30 eP=>lV t30 eP) FA) (lV (.tuple []) eL)).bind (l9 (fun t32 eM=>(lJ false aI ((xX .not t32).bind fun fD=>lV fD eM) (lV (.tuple []) eM)).bind (l9 (fun fE bU=>(mJ aI (.bool true) fE).bind fun fF=>lS fF (some (.ret,[(.bool false)],bU)) ((lO 0 t0).bind fun fH=>(lP false 1 bU fH).bind fun fI=>(lO 5 t0).bind fun fJ=>(lP false 1 bU fJ).bind fun fK=>(mD [(.int .i64 0),(.int .i64 0),(.int .i64 0),(.int .i64 0),(.int .i64 0),(.int .i64 0)] [(0,1),(1,1),(2,1),(3,1),(4,1),(5,1)] [(0,fI),(5,fK)]).bind fun fM=>lQ (nA 6 bU (.agg [(.int .i64 0),(.int .i64 0),(.int .i64 0),(.int .i64 0),(.int .i64 0),(.int .i64 0)])) fun bW eQ=>(lW 6 eQ bW fM).bind fun bV=>(lO 0 t6).bind fun fQ=>(lP false 1 bV fQ).bind fun fR=>(lS fR ((lO 1 t0).bind fun fT=>(lP false 1 bV fT).bind fun fV=>(lO 1 bW).bind fun fW=>(lW 1 bV fW fV).bind fun eT=>some (.normal,[a0,t0,(.bool false),t6,bW],eT)) (some (.normal,[a0,t0,(.bool false),t6,bW],bV))).bind fun aT=>(fun bQ aK bR bS bT eN=>Ex.qZ aT.1 ((lP true 6 eN aK).bind fun fX=>lY (K 36 [(lC.lL fX)] eN) (fun t60 eO=>(mP t60).bind fun fY=>(mX (vY K (aa8 eO)) ([bQ,aK,bR,bS,bT,t60,fY,(.int .i64 0)],eO)).bind fun aC=>(fun aD aA aU aW aX bX bY bZ aF=>Ex.mO aC.1 none (fun b_=>Ex.inBlock 0 b_ ((lP true 6 aF aX).bind fun t130=>(lP true 6 aF aA).bind fun t131=>(pK [.i,.i,.i,.i,.i,.i] t130 t131).bind fun t132=>(lJ false (.bool (!t132)) ((lO 0 aW).bind fun t133=>lV t133 aF) (lV (.tuple []) aF)).bind (l9 (fun t134 aL=>(lJ false (.bool (!t132)) ((lP false 1 aL t134).bind fun t136=>lV t136 aL) (lV (.tuple []) aL)).bind (l9 (fun t137 aY=>(lJ false (.bool (!t132)) (lV t137 aY) (lV (.tuple []) aY)).bind (l9 (fun t139 aZ=>(lJ true t139 (lV aD aZ) (lV (.tuple []) aZ)).bind (l9 (fun t141 a_=>(lJ true t139 ((lO 1 aA).bind fun t143=>lV t143 a_) (lV (.tuple []) a_)).bind (l9 (fun t144 aM=>(lJ true t139 ((lP false 1 aM t144).bind fun t146=>lV t146 aM) (lV (.tuple []) aM)).bind (l9 (fun t147 bB=>(lJ true t139 (lY (K 37 [(lC.lL t141),(lC.lL t147)] bB) (fun cH cC=>lV cH cC) FA) (lV (.tuple []) bB)).bind (l9 (fun cI bC=>(lJ true t139 ((xX .not cI).bind fun cJ=>lV cJ bC) (lV (.tuple []) bC)).bind (l9 (fun cK bD=>(lJ false (.bool (!t132)) ((mJ t139 cK (.bool false)).bind fun cL=>lV cL bD) (lV (.tuple []) bD)).bind (l9 (fun cM aH=>(mJ (.bool (!t132)) (.bool true) cM).bind fun cN=>lS cN (some (.ret,[(.bool false)],aH)) ((lO 0 aA).bind fun cO=>(lP false 1 aH cO).bind fun cP=>(lZ .eql cP (.int .i64 18)).bind fun aJ=>(lJ false aJ ((lO 0 aA).bind fun cQ=>lV cQ aH) (lV (.tuple []) aH)).bind (l9 (fun cR aN=>(lJ false aJ ((lP false 1 aN cR).bind fun cS=>lV cS aN) (lV (.tuple []) aN)).bind (l9 (fun cT bE=>(lJ false aJ ((lZ .eql cT (.int .i64 19)).bind fun cU=>lV cU bE) (lV (.tuple []) bE)).bind (l9 (fun cV aG=>(mJ aJ (.bool true) cV).bind fun cW=>lS cW ((lO 5 aA).bind fun cX=>(lP false 1 aG cX).bind fun cY=>(l_ aD).bind fun cZ=>(lO 0 cZ).bind fun c7=>(lO 1 c7).bind fun c8=>(lP false 1 aG c8).bind fun c_=>(mP c_).bind fun dA=>(lZ .lss cY dA).bind fun aE=>(lJ true aE ((lO 0 aA).bind fun dB=>lV dB aG) (lV (.tuple []) aG)).bind (l9 (fun dC aO=>(lJ true aE ((lP false 1 aO dC).bind fun dD=>lV dD aO) (lV (.tuple []) aO)).bind (l9 (fun dE bF=>(lJ true aE ((lZ .eql dE (.int .i64 18)).bind fun dF=>lV dF bF) (lV (.tuple []) bF)).bind (l9 (fun dG bG=>(lJ true aE (lV dG bG) (lV (.tuple []) bG)).bind (l9 (fun aB bH=>(lJ false aB (lV aD bH) (lV (.tuple []) bH)).bind (l9 (fun dH bI=>(lJ false aB ((l_ dH).bind fun dI=>lV dI bI) (lV (.tuple []) bI)).bind (l9 (fun dJ bJ=>(lJ false aB ((lO 0 dJ).bind fun dK=>lV dK bJ) (lV (.tuple []) bJ)).bind (l9 (fun dL bK=>(lJ false aB ((lO 1 dL).bind fun dM=>lV dM bK) (lV (.tuple []) bK)).bind (l9 (fun dN aP=>(lJ false aB ((lP false 1 aP dN).bind fun dO=>lV dO aP) (lV (.tuple []) aP)).bind (l9 (fun dP bL=>(lJ false aB ((lO 5 aA).bind fun dQ=>lV dQ bL) (lV (.tuple []) bL)).bind (l9 (fun dR aQ=>(lJ false aB ((lP false 1 aQ dR).bind fun dS=>lV dS aQ) (lV (.tuple []) aQ)).bind (l9 (fun dU bM=>(lJ false aB ((lU 4 dP dU).bind fun dV=>lV dV bM) (lV (.tuple []) bM)).bind (l9 (fun dW bN=>(lJ false aB ((lO 2 dW).bind fun dX=>lV dX bN) (lV (.tuple []) bN)).bind (l9 (fun dY aR=>(lJ false aB ((lP false 1 aR dY).bind fun dZ=>lV dZ aR) (lV (.tuple []) aR)).bind (l9 (fun d_ bO=>(lJ false aB ((lZ .neq d_ (.int .i64 1)).bind fun eB=>lV eB bO) (lV (.tuple []) bO)).bind (l9 (fun eC bP=>(lJ true aE ((mJ aB (.bool true) eC).bind fun eD=>lV eD bP) (lV (.tuple []) bP)).bind (l9 (fun eE cE=>(mJ aE eE (.bool false)).bind fun eI=>some (.ret,[eI],cE)) (fun _ _=>none))) (fun _ _=>none))) (fun _ _=>none))) (fun _ _=>none))) (fun _ _=>none))) (fun _ _=>none))) (fun _ _=>none))) (fun _ _=>none))) (fun _ _=>none))) (fun _ _=>none))) (fun _ _=>none))) (fun _ _=>none))) (fun _ _=>none))) (fun _ _=>none))) (fun _ _=>none))) (fun _ _=>none))) (some (.ret,[(.bool true)],aG))) (fun _ _=>none))) (fun _ _=>none))) (fun _ _=>none)))) (fun _ _=>none))) (fun _ _=>none))) (fun _ _=>none))) (fun _ _=>none))) (fun _ _=>none))) (fun _ _=>none))) (fun _ _=>none))) (fun _ _=>none))) (fun _ _=>none))) (fun cA=>some (cA,[aU],aF)))) (aa7 aC.2.1 0 .junk) (aa7 aC.2.1 1 .junk) (aa7 aC.2.1 2 .junk) (aa7 aC.2.1 3 .junk) (aa7 aC.2.1 4 .junk) (aa7 aC.2.1 5 .junk) (aa7 aC.2.1 6 .junk) (aa7 aC.2.1 7 .junk) aC.2.2) (fun _ _=>none))) (aa7 aT.2.1 0 .junk) (aa7 aT.2.1 1 .junk) (aa7 aT.2.1 2 .junk) (aa7 aT.2.1 3 .junk) (aa7 aT.2.1 4 .junk) aT.2.2)) (fun _ _=>none))) (fun _ _=>none))) (fun _ _=>none))) (fun _ _=>none))) (fun _ _=>none))) (fun _ _=>none))) (fun _ _=>none))) (fun _ _=>none))) (fun _ _=>none)).bind fun aS=>(fun aV cF=>Ex.nR aS.1 (nJ (aa8 h0) aV cF)) (aa7 aS.2.1 0 .junk) aS.2.2
theorem ahQ (K:lN) (a0 a1:lC) (h0:lD):qG Tryz.prog mY mX K 19 [a0,a1] h0=m19 (mH mY K) a0 a1 h0:=by kernel_rfl
def m20 (K:lN) (a0 a1:lC) (h0:lD):Option (nB×lD) :=
 (lQ (nA 4 h0 a1) fun t0 h1=>(lO 0 t0).bind fun t2=>(lP false 1 h1 t2).bind fun t3=>(lZ .eql t3 (.int .i64 1)).bind fun t4=>lS t4 ((lP true 4 h1 t0).bind fun t5=>(lO 2 t0).bind fun t6=>(lP false 1 h1 t6).bind fun t7=>(mD [(.int .i64 0),(.int .i64 0),(.int .i64 0),(.int .i64 0)] [(0,1),(1,1),(2,1),(3,1)] [(0,(.int .i64 1)),(2,t7)]).bind fun t8=>(pK [.i,.i,.i,.i] t5 t8).bind fun t9=>(lJ true (.bool t9) (lV a0 h1) (lV (.tuple []) h1)).bind (l9 (fun aU aG=>(lJ true (.bool t9) ((lO 2 t0).bind fun t12=>lV t12 aG) (lV (.tuple []) aG)).bind (l9 (fun t13 aC=>(lJ true (.bool t9) ((lP false 1 aC t13).bind fun t15=>lV t15 aC) (lV (.tuple []) aC)).bind (l9 (fun aV aH=>(lJ true (.bool t9) (lY (K 38 [(lC.lL aU),(lC.lL aV)] aH) (fun aW aO=>lV aW aO) FA) (lV (.tuple []) aH)).bind (l9 (fun aX aP=>(mJ (.bool t9) aX (.bool false)).bind fun aY=>some (.ret,[aY],aP)) (fun _ _=>none))) (fun _ _=>none))) (fun _ _=>none))) (fun _ _=>none))) ((lZ .eql t3 (.int .i64 2)).bind fun t23=>lS t23 ((lO 1 t0).bind fun t24=>(lP false 1 h1 t24).bind fun aZ=>lY (K 37 [(lC.lL a0),(lC.lL aZ)] h1) (fun t26 aI=>(lJ true t26 (lV a0 aI) (lV (.tuple []) aI)).bind (l9 (fun t28 aJ=>(lJ true t26 ((lO 2 t0).bind fun t30=>lV t30 aJ) (lV (.tuple []) aJ)).bind (l9 (fun t31 aD=>(lJ true t26 ((lP false 1 aD t31).bind fun a_=>lV a_ aD) (lV (.tuple []) aD)).bind (l9 (fun bB aK=>(lJ true t26 (lY (K 38 [(lC.lL t28),(lC.lL bB)] aK) (fun t36 aQ=>lV t36 aQ) FA) (lV (.tuple []) aK)).bind (l9 (fun bC aL=>(mJ t26 bC (.bool false)).bind fun aA=>(lJ true aA (lV a0 aL) (lV (.tuple []) aL)).bind (l9 (fun bD aM=>(lJ true aA ((lO 3 t0).bind fun bE=>lV bE aM) (lV (.tuple []) aM)).bind (l9 (fun bF aE=>(lJ true aA ((lP false 1 aE bF).bind fun bG=>lV bG aE) (lV (.tuple []) aE)).bind (l9 (fun bH aN=>(lJ true aA (lY (K 38 [(lC.lL bD),(lC.lL bH)] aN) (fun bI aR=>lV bI aR) FA) (lV (.tuple []) aN)).bind (l9 (fun bJ aS=>(mJ aA bJ (.bool false)).bind fun t53=>some (.ret,[t53],aS)) (fun _ _=>none))) (fun _ _=>none))) (fun _ _=>none))) (fun _ _=>none))) (fun _ _=>none))) (fun _ _=>none))) (fun _ _=>none))) (fun _ _=>none))) (fun _ _=>none)) ((lP true 4 h1 t0).bind fun bK=>(mD [(.int .i64 0),(.int .i64 0),(.int .i64 0),(.int .i64 0)] [(0,1),(1,1),(2,1),(3,1)] [(0,(.int .i64 3))]).bind fun bL=>(pK [.i,.i,.i,.i] bK bL).bind fun bM=>some (.ret,[(.bool bM)],h1)))).bind fun aF=>(fun aB aT=>Ex.nR aF.1 (nJ (aa8 h0) aB aT)) (aa7 aF.2.1 0 .junk) aF.2.2
theorem ahR (K:lN) (a0 a1:lC) (h0:lD):qG Tryz.prog mY mX K 20 [a0,a1] h0=m20 (mH mY K) a0 a1 h0:=by kernel_rfl
def m33 (K:lN) (a0:lC) (h0:lD):Option (nB×lD) :=
 (lQ (nA 4 h0 a0) fun t0 h1=>(lO 0 t0).bind fun t2=>(lP false 1 h1 t2).bind fun t3=>(lZ .eql t3 (.int .i64 1)).bind fun t4=>(lJ false t4 ((lO 0 t0).bind fun t5=>lV t5 h1) (lV (.tuple []) h1)).bind (l9 (fun t6 h7=>(lJ false t4 ((lP false 1 h7 t6).bind fun t8=>lV t8 h7) (lV (.tuple []) h7)).bind (l9 (fun t9 aE=>(lJ false t4 ((lZ .eql t9 (.int .i64 4)).bind fun aL=>lV aL aE) (lV (.tuple []) aE)).bind (l9 (fun t12 aF=>(mJ t4 (.bool true) t12).bind fun t14=>(lJ true t14 ((lO 1 t0).bind fun t15=>lV t15 aF) (lV (.tuple []) aF)).bind (l9 (fun aM aB=>(lJ true t14 ((lP false 1 aB aM).bind fun aN=>lV aN aB) (lV (.tuple []) aB)).bind (l9 (fun aO aG=>(lJ true t14 ((lZ .geq aO (.int .i64 1)).bind fun aP=>lV aP aG) (lV (.tuple []) aG)).bind (l9 (fun aQ aH=>(mJ t14 aQ (.bool false)).bind fun t24=>(lJ true t24 ((lO 1 t0).bind fun aR=>lV aR aH) (lV (.tuple []) aH)).bind (l9 (fun t26 aC=>(lJ true t24 ((lP false 1 aC t26).bind fun t28=>lV t28 aC) (lV (.tuple []) aC)).bind (l9 (fun t29 aI=>(lJ true t24 ((lZ .leq t29 (.int .i64 16384)).bind fun t31=>lV t31 aI) (lV (.tuple []) aI)).bind (l9 (fun t32 aJ=>(mJ t24 t32 (.bool false)).bind fun aS=>some (.ret,[aS],aJ)) (fun _ _=>none))) (fun _ _=>none))) (fun _ _=>none))) (fun _ _=>none))) (fun _ _=>none))) (fun _ _=>none))) (fun _ _=>none))) (fun _ _=>none))) (fun _ _=>none))).bind fun aD=>(fun aA aK=>Ex.nR aD.1 (nJ (aa8 h0) aA aK)) (aa7 aD.2.1 0 .junk) aD.2.2
theorem ah2 (K:lN) (a0:lC) (h0:lD):qG Tryz.prog mY mX K 33 [a0] h0=m33 (mH mY K) a0 h0:=by kernel_rfl
def m34 (K:lN) (a0:lC) (h0:lD):Option (nB×lD) :=
 ((lZ .add a0 (.int .i64 4)).bind fun t0=>(lZ .sub t0 (.int .i64 1)).bind fun t1=>(lZ .quo t1 (.int .i64 4)).bind fun t2=>(lZ .mul t2 (.int .i64 4)).bind fun t3=>some (.ret,[t3],h0)).bind fun r4=>(fun aA h6=>Ex.nR r4.1 (nJ (aa8 h0) aA h6)) (aa7 r4.2.1 0 .junk) r4.2.2
theorem ah3 (K:lN) (a0:lC) (h0:lD):qG Tryz.prog mY mX K 34 [a0] h0=m34 (mH mY K) a0 h0:=by kernel_rfl
def m35 (K:lN) (a0:lC) (h0:lD):Option (nB×lD) :=
 (lQ (nA 5 h0 (.agg [(.bool false),(.int .i64 0),(.int .i64 0),(.int .i64 0),(.bool false)])) fun t0 h1=>(lZ .eql a0 (.int .i64 1)).bind fun t2=>lS t2 ((mD [(.bool false),(.int .i64 0),(.int .i64 0),(.int .i64 0),(.bool false)] [(0,1),(1,1),(2,1),(3,1),(4,1)] [(0,(.bool true)),(1,(.int .i64 0)),(2,(.int .i64 0)),(3,(.int .i64 4294967295)),(4,(.bool true))]).bind fun t3=>(lW 5 h1 t0 t3).bind fun h4=>some (.ret,[t0],h4)) ((lZ .eql a0 (.int .i64 2)).bind fun t5=>(lS t5 (some (.normal,[t0,a0,t5],h1)) ((lZ .eql a0 (.int .i64 10)).bind fun t6=>some (.normal,[t0,a0,t6],h1))).bind fun r7=>(fun aC aA bV aF=>Ex.qZ r7.1 (lS bV ((mD [(.bool false),(.int .i64 0),(.int .i64 0),(.int .i64 0),(.bool false)] [(0,1),(1,1),(2,1),(3,1),(4,1)] [(0,(.bool true)),(1,(.int .i64 1)),(2,(.int .i64 0)),(3,(.int .i64 0)),(4,(.bool true))]).bind fun t12=>(lW 5 aF aC t12).bind fun cI=>some (.ret,[aC],cI)) ((lZ .eql aA (.int .i64 3)).bind fun t14=>(lS t14 (some (.normal,[aC,aA,t14],aF)) ((lZ .eql aA (.int .i64 4)).bind fun t15=>(lS t15 (some (.normal,[aC,aA,t15],aF)) ((lZ .eql aA (.int .i64 5)).bind fun b_=>(lS b_ (some (.normal,[aC,aA,b_],aF)) ((lZ .eql aA (.int .i64 6)).bind fun cA=>(lS cA (some (.normal,[aC,aA,cA],aF)) ((lZ .eql aA (.int .i64 7)).bind fun cB=>(lS cB (some (.normal,[aC,aA,cB],aF)) ((lZ .eql aA (.int .i64 8)).bind fun cC=>(lS cC (some (.normal,[aC,aA,cC],aF)) ((lZ .eql aA (.int .i64 9)).bind fun cD=>(lS cD (some (.normal,[aC,aA,cD],aF)) ((lZ .eql aA (.int .i64 14)).bind fun cE=>(lS cE (some (.normal,[aC,aA,cE],aF)) ((lZ .eql aA (.int .i64 15)).bind fun cF=>(lS cF (some (.normal,[aC,aA,cF],aF)) ((lZ .eql aA (.int .i64 16)).bind fun t23=>some (.normal,[aC,aA,t23],aF))).bind fun Ap=>(fun bC bM aH cJ=>Ex.qZ Ap.1 (some (.normal,[bC,bM,aH],cJ))) (aa7 Ap.2.1 0 .junk) (aa7 Ap.2.1 1 .junk) (aa7 Ap.2.1 2 .junk) Ap.2.2)).bind fun DN=>(fun bD bN aI cK=>Ex.qZ DN.1 (some (.normal,[bD,bN,aI],cK))) (aa7 DN.2.1 0 .junk) (aa7 DN.2.1 1 .junk) (aa7 DN.2.1 2 .junk) DN.2.2)).bind fun aT=>(fun bE bO aJ cL=>Ex.qZ aT.1 (some (.normal,[bE,bO,aJ],cL))) (aa7 aT.2.1 0 .junk) (aa7 aT.2.1 1 .junk) (aa7 aT.2.1 2 .junk) aT.2.2)).bind fun aU=>(fun bF bP aK cM=>Ex.qZ aU.1 (some (.normal,[bF,bP,aK],cM))) (aa7 aU.2.1 0 .junk) (aa7 aU.2.1 1 .junk) (aa7 aU.2.1 2 .junk) aU.2.2)).bind fun aV=>(fun bG bQ aL cN=>Ex.qZ aV.1 (some (.normal,[bG,bQ,aL],cN))) (aa7 aV.2.1 0 .junk) (aa7 aV.2.1 1 .junk) (aa7 aV.2.1 2 .junk) aV.2.2)).bind fun aW=>(fun bH bR aM cO=>Ex.qZ aW.1 (some (.normal,[bH,bR,aM],cO))) (aa7 aW.2.1 0 .junk) (aa7 aW.2.1 1 .junk) (aa7 aW.2.1 2 .junk) aW.2.2)).bind fun aX=>(fun bI bS aN cP=>Ex.qZ aX.1 (some (.normal,[bI,bS,aN],cP))) (aa7 aX.2.1 0 .junk) (aa7 aX.2.1 1 .junk) (aa7 aX.2.1 2 .junk) aX.2.2)).bind fun aY=>(fun bJ bT aO cQ=>Ex.qZ aY.1 (some (.normal,[bJ,bT,aO],cQ))) (aa7 aY.2.1 0 .junk) (aa7 aY.2.1 1 .junk) (aa7 aY.2.1 2 .junk) aY.2.2)).bind fun aZ=>(fun aE aD aP bW=>Ex.qZ aZ.1 (lS aP ((mD [(.bool false),(.int .i64 0),(.int .i64 0),(.int .i64 0),(.bool false)] [(0,1),(1,1),(2,1),(3,1),(4,1)] [(0,(.bool true)),(1,(.int .i64 2)),(2,(.int .i64 0)),(3,(.int .i64 0)),(4,(.bool true))]).bind fun cY=>(lW 5 bW aE cY).bind fun cR=>some (.ret,[aE],cR)) ((lZ .eql aD (.int .i64 11)).bind fun cG=>(lS cG (some (.normal,[aE,aD,cG],bW)) ((lZ .eql aD (.int .i64 12)).bind fun cH=>(lS cH (some (.normal,[aE,aD,cH],bW)) ((lZ .eql aD (.int .i64 13)).bind fun t73=>some (.normal,[aE,aD,t73],bW))).bind fun a_=>(fun bK bU aQ cS=>Ex.qZ a_.1 (some (.normal,[bK,bU,aQ],cS))) (aa7 a_.2.1 0 .junk) (aa7 a_.2.1 1 .junk) (aa7 a_.2.1 2 .junk) a_.2.2)).bind fun bB=>(fun aB aG aR aS=>Ex.qZ bB.1 (lS aR ((mD [(.bool false),(.int .i64 0),(.int .i64 0),(.int .i64 0),(.bool false)] [(0,1),(1,1),(2,1),(3,1),(4,1)] [(0,(.bool true)),(1,(.int .i64 1)),(2,(.int .i64 0)),(3,(.int .i64 31)),(4,(.bool true))]).bind fun cZ=>(lW 5 aS aB cZ).bind fun cT=>some (.ret,[aB],cT)) ((lZ .eql aG (.int .i64 17)).bind fun c7=>lS c7 ((mD [(.bool false),(.int .i64 0),(.int .i64 0),(.int .i64 0),(.bool false)] [(0,1),(1,1),(2,1),(3,1),(4,1)] [(0,(.bool true)),(1,(.int .i64 3)),(2,(.int .i64 0)),(3,(.int .i64 0)),(4,(.bool true))]).bind fun c8=>(lW 5 aS aB c8).bind fun cU=>some (.ret,[aB],cU)) ((lZ .eql aG (.int .i64 18)).bind fun c_=>lS c_ ((mD [(.bool false),(.int .i64 0),(.int .i64 0),(.int .i64 0),(.bool false)] [(0,1),(1,1),(2,1),(3,1),(4,1)] [(0,(.bool true)),(1,(.int .i64 1)),(2,(.int .i64 0)),(3,(.int .i64 1048576)),(4,(.bool true))]).bind fun dA=>(lW 5 aS aB dA).bind fun cV=>some (.ret,[aB],cV)) ((lZ .eql aG (.int .i64 19)).bind fun dB=>lS dB ((mD [(.bool false),(.int .i64 0),(.int .i64 0),(.int .i64 0),(.bool false)] [(0,1),(1,1),(2,1),(3,1),(4,1)] [(0,(.bool false)),(1,(.int .i64 2)),(2,(.int .i64 0)),(3,(.int .i64 1048576)),(4,(.bool true))]).bind fun dC=>(lW 5 aS aB dC).bind fun cW=>some (.ret,[aB],cW)) ((mD [(.bool false),(.int .i64 0),(.int .i64 0),(.int .i64 0),(.bool false)] [(0,1),(1,1),(2,1),(3,1),(4,1)] []).bind fun dD=>(lW 5 aS aB dD).bind fun cX=>some (.ret,[aB],cX))))))) (aa7 bB.2.1 0 .junk) (aa7 bB.2.1 1 .junk) (aa7 bB.2.1 2 .junk) bB.2.2))) (aa7 aZ.2.1 0 .junk) (aa7 aZ.2.1 1 .junk) (aa7 aZ.2.1 2 .junk) aZ.2.2))) (aa7 r7.2.1 0 .junk) (aa7 r7.2.1 1 .junk) (aa7 r7.2.1 2 .junk) r7.2.2)).bind fun bX=>(fun bL bZ=>Ex.nR bX.1 ((lP true 5 bZ bL).bind fun bY=>nJ (aa8 h0) bY bZ)) (aa7 bX.2.1 0 .junk) bX.2.2
theorem ah4 (K:lN) (a0:lC) (h0:lD):qG Tryz.prog mY mX K 35 [a0] h0=m35 (mH mY K) a0 h0:=by kernel_rfl
def m37 (K:lN) (a0 a1:lC) (h0:lD):Option (nB×lD) :=
 ((l_ a0).bind fun t0=>(lO 0 t0).bind fun t1=>(lO 0 t1).bind fun t2=>(lP false 1 h0 t2).bind fun t3=>(lZ .sub t3 (.int .i64 1)).bind fun t4=>lY (K 17 [(lC.lL a1),(lC.lL (.int .i64 0)),(lC.lL t4)] h0) (fun t5 h6=>some (.ret,[t5],h6)) (fun _ _=>none)).bind fun r7=>(fun aA h9=>Ex.nR r7.1 (nJ (aa8 h0) aA h9)) (aa7 r7.2.1 0 .junk) r7.2.2
theorem ah6 (K:lN) (a0 a1:lC) (h0:lD):qG Tryz.prog mY mX K 37 [a0,a1] h0=m37 (mH mY K) a0 a1 h0:=by kernel_rfl
def m38 (K:lN) (a0 a1:lC) (h0:lD):Option (nB×lD) :=
 ((l_ a0).bind fun t0=>(lO 0 t0).bind fun t1=>(lO 2 t1).bind fun t2=>(lP false 1 h0 t2).bind fun t3=>(mP t3).bind fun t4=>(lZ .sub t4 (.int .i64 1)).bind fun t5=>lY (K 17 [(lC.lL a1),(lC.lL (.int .i64 (-1))),(lC.lL t5)] h0) (fun t6 h7=>some (.ret,[t6],h7)) (fun _ _=>none)).bind fun r8=>(fun aA aB=>Ex.nR r8.1 (nJ (aa8 h0) aA aB)) (aa7 r8.2.1 0 .junk) r8.2.2
theorem ah7 (K:lN) (a0 a1:lC) (h0:lD):qG Tryz.prog mY mX K 38 [a0,a1] h0=m38 (mH mY K) a0 a1 h0:=by kernel_rfl
def m73 (K:lN) (a0:lC) (h0:lD):Option (nB×lD) :=
 (lQ (nA 6 h0 a0) fun t0 h1=>(lO 0 t0).bind fun t2=>(lP false 1 h1 t2).bind fun t3=>lY (K 35 [(lC.lL t3)] h1) (fun t4 h5=>(AX false 1 0 t4).bind fun t6=>some (.ret,[t6],h5)) (fun _ _=>none)).bind fun r7=>(fun aA h9=>Ex.nR r7.1 (nJ (aa8 h0) aA h9)) (aa7 r7.2.1 0 .junk) r7.2.2
theorem aiL (K:lN) (a0:lC) (h0:lD):qG Tryz.prog mY mX K 73 [a0] h0=m73 (mH mY K) a0 h0:=by kernel_rfl
def m36 (K:lN) (a0:lC) (h0:lD):Option (nB×lD) :=
 (lQ (nA 6 h0 a0) fun t0 h1=>(fun(t3:lC) (h2:lD)=>(lO 2 t0).bind fun t4=>(lP false 1 h2 t4).bind fun t5=>(lO 3 t0).bind fun t6=>(lP false 1 h2 t6).bind fun t7=>(lO 4 t0).bind fun t8=>(lP false 1 h2 t8).bind fun t9=>lQ (lR 3 1 [(.int .i64 0)] [(0,t5),(1,t7),(2,t9)] h2) fun aF aC=>(lO 0 t0).bind fun t12=>(lP false 1 aC t12).bind fun t13=>lY (K 35 [(lC.lL t13)] aC) (fun t14 aD=>(AX false 1 1 t14).bind fun aG=>(oI 1 aF none (some aG)).bind fun aH=>some (.ret,[aH],aD)) (fun _ _=>none)) (.slice [] (.own (aa8 h1))) (h1++[.front 0 0])).bind fun aB=>(fun aA aE=>Ex.nR aB.1 (nJ (aa8 h0) aA aE)) (aa7 aB.2.1 0 .junk) aB.2.2
theorem ah5 (K:lN) (a0:lC) (h0:lD):qG Tryz.prog mY mX K 36 [a0] h0=m36 (mH mY K) a0 h0:=by kernel_rfl
end
section
open Go Hk
noncomputable abbrev KK:lN:=mH mY (IQ Tryz.prog mY)
structure Op where
 kind:Int
 dst:Int
 a:Int
 b:Int
 c:Int
 imm:Int
 deriving DecidableEq
structure Term where
 kind:Int
 a:Int
 yes:Int
 no:Int
 deriving DecidableEq
structure mV where
 elem:Int
 len:Int
 kind:Int
 off:Int
 deriving DecidableEq
structure mF where
 ops:List Op
 term:Term
structure IR where
 temps:Int
 arrays:List mV
 blocks:List mF
 inn:Int
 out:Int
def Op.cells (o:Op):List lC:=[.int .i64 o.kind,.int .i64 o.dst,.int .i64 o.a,.int .i64 o.b,.int .i64 o.c,.int .i64 o.imm]
def Term.cells (t:Term):List lC:=[.int .i64 t.kind,.int .i64 t.a,.int .i64 t.yes,.int .i64 t.no]
def mV.cells (x:mV):List lC:=[.int .i64 x.elem,.int .i64 x.len,.int .i64 x.kind,.int .i64 x.off]
def mF.cells (b:mF):List lC:=[.slice (b.ops.map Op.cells) .no,.int .i64 b.term.kind,.int .i64 b.term.a,.int .i64 b.term.yes,.int .i64 b.term.no]
def IR.cells (p:IR):List lC:=[.int .i64 p.temps,.slice (p.arrays.map mV.cells) .no,.slice (p.blocks.map mF.cells) .no,.int .i64 p.inn,.int .i64 p.out]
attribute [simp] nA mM putCells mD AX apart
theorem M_ {k:IntKind}{a b:Int}(hb:b≠0):lZ .quo (.int k a) (.int k b)=some (.int k (k.wrap (a.tdiv b))):=by simp [lZ,hb]
theorem rQ {k:IntKind}{a b:Int}(hb:b≠0):lZ .rem (.int k a) (.int k b)=some (.int k (a.tmod b)):=by simp [lZ,hb]
def mQ (n l m:Int):Bool:=decide (l≤n)&&decide (n≤m)
theorem C9 (n l m:Int) (h:lD):KK 17 [.int .i64 n,.int .i64 l,.int .i64 m] h=some (.ret (.bool (mQ n l m)),h):=by
 refine nG rfl rfl (oF (ahO _ _ _ _ _) ?_)
 by_cases h1:l≤n <;> by_cases h2:n≤m <;> simp [m17,mQ,h1,h2,mS]
def tK (x:mV):Bool:=(decide (x.elem=1) || decide (x.elem=4))&&(decide (1≤x.len)&&decide (x.len≤16384))
theorem c33 (x:mV) (h:lD):KK 33 [.agg x.cells] h=some (.ret (.bool (tK x)),h):=by
 refine nG rfl rfl (oF (ah2 _ _ _) ?_)
 by_cases h1:x.elem=1
 ·by_cases h3:1≤x.len <;> by_cases h4:x.len≤16384 <;> simp [m33,tK,mV.cells,h1,h3,h4,mS]
 ·by_cases h2:x.elem=4 <;> by_cases h3:1≤x.len <;> by_cases h4:x.len≤16384 <;> simp [m33,tK,mV.cells,h1,h2,h3,h4,mS]
def Kl (n:Int):Int:=(n+3)/4*4
theorem c34 (n:Int) (hn:0≤n) (hn2:n≤1000000000) (h:lD):KK 34 [.int .i64 n] h=some (.ret (.int .i64 (Kl n)),h):=by
 refine nG rfl rfl (oF (ah3 _ _ _) ?_)
 have w1:IntKind.i64.wrap (n+4)=n+4:=by rw [wrap64] <;> omega
 have w2:IntKind.i64.wrap (n+4-1)=n+3:=by rw [wrap64] <;> omega
 have w3:(n+3).tdiv 4=(n+3)/4:=Int.tdiv_eq_ediv_of_nonneg (by omega)
 have w4:IntKind.i64.wrap ((n+3)/4)=(n+3)/4:=by rw [wrap64] <;> omega
 have w5:IntKind.i64.wrap ((n+3)/4*4)=(n+3)/4*4:=by rw [wrap64] <;> omega
 simp [m34,M_,Kl,w1,w2,w3,w4,w5,mS]
end
section
open Go Hk
theorem Cy {a:Nat}(h:a≤9223372036854775806):IntKind.wrap .i64 ((a:Int)+1)=(a:Int)+1:=by rw [wrap64] <;> omega
def EY:List mF→Int
 | []=>0
 | b::r=>(b.ops.length:Int)+EY r
theorem L8:∀l,0≤EY l
 | []=>Int.le_refl _
 | b::r=>by have:=L8 r;simp only [EY];omega
def uH (x:mV):Int:=if tK x=true∧x.kind=0 then Kl (x.elem*x.len) else 0
theorem tP {x:mV}(h:tK x=true):1≤x.elem*x.len∧x.elem*x.len≤65536:=by
 simp only [tK,am4,Bool.or_eq_true,decide_eq_true_eq] at h
 obtain⟨h1,h2,h3⟩:=h
 rcases h1 with h1 | h1 <;> rw [h1] <;> omega
theorem Sq (x:mV):0≤uH x∧uH x≤65536:=by
 unfold uH
 split
 ·rename_i h
  have:=tP h.1
  unfold Kl;omega
 ·omega
def xI:List mV→Int
 | []=>0
 | x::r=>uH x+xI r
theorem E4:∀l,0≤xI l
 | []=>Int.le_refl _
 | x::r=>by have:=E4 r;have:=Sq x;simp only [xI];omega
def o9 (p:IR):Bool:=decide (p.temps≤1048576)&&decide ((p.arrays.length:Int)≤1048576)&&decide ((p.blocks.length:Int)≤1048576)&&decide (EY p.blocks≤1048576)&&decide (max p.out 0+xI p.arrays≤65536)
theorem TG (B:List mF) (hB:B.length≤1048576) (P:List lC) (by_:Int) (hh:∀C,oD 1 (.cells P::C)=some [.cells P]):∀(n i:Nat) (acc:Int),B.length<i+n→i≤B.length→0≤acc→acc≤1048576 →
  ∃(e:Ex) (acc':Int) (j:Int),mX (HF KK 1) ([.ptr 0 0,.bool false,.int .i64 acc,.int .i64 by_,.slice (B.map mF.cells) .no,.int .i64 (B.length:Int),.int .i64 (i:Int)],[.cells P]) =
   some (e,[.ptr 0 0,.bool false,.int .i64 acc',.int .i64 by_,.slice (B.map mF.cells) .no,.int .i64 (B.length:Int),.int .i64 j],[.cells P]) ∧
   (e=.ret∧¬acc+EY (B.drop i)≤1048576∨e=.exit 0∧acc+EY (B.drop i)≤1048576):=by
 have q0:∀h,lC.nO 1 h (.ptr 0 0)=.ptr 0 0:=fun h=>pR (by omega)
 intro n
 induction n with
 | zero=>intro i acc a1 a2;omega
 | succ n ih =>
  intro i acc a1 a2 h1 h2
  rw [nM]
  by_cases hi:i<B.length
  ·have hi':(i:Int)<B.length:=by omega
   have hx:B[i]?=some B[i]:=ac6 hi
   have w1:=Cy (a:=i) (by omega)
   rw [ao4 hi]
   generalize B[i]=y at *
   have w2:IntKind.i64.wrap (1048576-acc)=1048576-acc:=by rw [wrap64] <;> omega
   have hnn:=L8 (B.drop (i+1))
   by_cases hg:1048576-acc<(y.ops.length:Int)
   ·refine⟨.ret,acc,i,?_,.inl ⟨rfl,by simp only [EY];omega⟩⟩
    simp [HF,hi',hx,mF.cells,w2,hg,lX,hh,q0]
   ·have w3:IntKind.i64.wrap (acc+(y.ops.length:Int))=acc+(y.ops.length:Int):=by rw [wrap64] <;> omega
    obtain⟨e,acc',j,g1,g2⟩:=ih (i+1) (acc+y.ops.length) (by omega) hi (by omega) (by omega)
    refine⟨e,acc',j,?_,?_⟩
    ·simp only [as1,ar6] at g1
     rw [←g1]
     simp [HF,hi',hx,mF.cells,w1,w2,w3,hg,lX,hh,q0]
    ·simpa [EY,Int.add_assoc] using g2
  ·have hi':¬(i:Int)<B.length:=by omega
   have:B.drop i=[]:=List.drop_eq_nil_of_le (by omega)
   rw [this]
   refine⟨.exit 0,acc,i,?_,.inr ⟨rfl,by simp only [EY];omega⟩⟩
   simp [HF,hi',lX,hh,q0]
theorem TI (A:List mV) (hA:A.length≤1048576) (P:List lC) (hh:∀C,oD 1 (.cells P::C)=some [.cells P]):∀(n i:Nat) (acc:Int),A.length<i+n→i≤A.length→0≤acc→acc≤65537 →
  ∃(e:Ex) (acc':Int) (j:Int),mX (xG KK 1) ([.bool false,.int .i64 acc,.slice (A.map mV.cells) .no,.int .i64 (A.length:Int),.int .i64 (i:Int)],[.cells P]) =
   some (e,[.bool false,.int .i64 acc',.slice (A.map mV.cells) .no,.int .i64 (A.length:Int),.int .i64 j],[.cells P]) ∧
   (e=.ret∧¬acc+xI (A.drop i)≤65536∨e=.exit 2∧acc'=acc+xI (A.drop i)):=by
 intro n
 induction n with
 | zero=>intro i acc a1 a2;omega
 | succ n ih =>
  intro i acc a1 a2 h1 h2
  rw [nM]
  by_cases hi:i<A.length
  ·have hi':(i:Int)<A.length:=by omega
   have hx:A[i]?=some A[i]:=ac6 hi
   have w1:=Cy (a:=i) (by omega)
   rw [ao4 hi]
   generalize A[i]=y at *
   have hnn:=E4 (A.drop (i+1))
   have hr:=Sq y
   have h132:=c33 y
   have step:∃acc1,acc1=acc+uH y∧(¬acc1≤65536→xG KK 1 ([.bool false,.int .i64 acc,.slice (A.map mV.cells) .no,.int .i64 (A.length:Int),.int .i64 (i:Int)],[.cells P])=some (.ret,[.bool false,.int .i64 acc1,.slice (A.map mV.cells) .no,.int .i64 (A.length:Int),.int .i64 (i:Int)],[.cells P])) ∧
     (acc1≤65536→xG KK 1 ([.bool false,.int .i64 acc,.slice (A.map mV.cells) .no,.int .i64 (A.length:Int),.int .i64 (i:Int)],[.cells P])=some (.normal,[.bool false,.int .i64 acc1,.slice (A.map mV.cells) .no,.int .i64 (A.length:Int),.int .i64 ((i:Int)+1)],[.cells P])):=by
    refine⟨_,rfl,?_,?_⟩ <;> intro hle <;> cases hs:tK y
    ·have e0:uH y=0:=by simp [uH,hs]
     rw [e0,Int.add_zero] at hle ⊢
     have hg:65536<acc:=by omega
     simp only [hs,mV.cells] at h132
     simp [xG,hi',hx,mV.cells,h132,hg,lX,hh]
    ·have hm:=tP hs
     simp only [hs,mV.cells] at h132
     by_cases hk:y.kind=0
     ·have e0:uH y=Kl (y.elem*y.len):=by simp [uH,hs,hk]
      rw [hk] at h132
      have h133:=c34 (y.elem*y.len) (by omega) (by omega)
      have hu:0≤Kl (y.elem*y.len)∧Kl (y.elem*y.len)≤65536:=by rw [←e0];exact hr
      have w2:IntKind.i64.wrap (y.elem*y.len)=y.elem*y.len:=by rw [wrap64] <;> omega
      rw [e0] at hle ⊢
      generalize Kl (y.elem*y.len)=u at *
      have w3:IntKind.i64.wrap (acc+u)=acc+u:=by rw [wrap64] <;> omega
      have hg:65536<acc+u:=by omega
      simp [xG,hi',hx,mV.cells,h132,h133,hk,w2,w3,hg,lX,hh]
     ·have e0:uH y=0:=by simp [uH,hk]
      rw [e0,Int.add_zero] at hle ⊢
      have hg:65536<acc:=by omega
      simp [xG,hi',hx,mV.cells,h132,hk,hg,lX,hh]
    ·have e0:uH y=0:=by simp [uH,hs]
     rw [e0,Int.add_zero] at hle ⊢
     have hg:¬65536<acc:=by omega
     simp only [hs,mV.cells] at h132
     simp [xG,hi',hx,mV.cells,h132,hg,lX,hh,w1]
    ·have hm:=tP hs
     simp only [hs,mV.cells] at h132
     by_cases hk:y.kind=0
     ·have e0:uH y=Kl (y.elem*y.len):=by simp [uH,hs,hk]
      rw [hk] at h132
      have h133:=c34 (y.elem*y.len) (by omega) (by omega)
      have hu:0≤Kl (y.elem*y.len)∧Kl (y.elem*y.len)≤65536:=by rw [←e0];exact hr
      have w2:IntKind.i64.wrap (y.elem*y.len)=y.elem*y.len:=by rw [wrap64] <;> omega
      rw [e0] at hle ⊢
      generalize Kl (y.elem*y.len)=u at *
      have w3:IntKind.i64.wrap (acc+u)=acc+u:=by rw [wrap64] <;> omega
      have hg:¬65536<acc+u:=by omega
      simp [xG,hi',hx,mV.cells,h132,h133,hk,w2,w3,hg,lX,hh,w1]
     ·have e0:uH y=0:=by simp [uH,hk]
      rw [e0,Int.add_zero] at hle ⊢
      have hg:¬65536<acc:=by omega
      simp [xG,hi',hx,mV.cells,h132,hk,hg,lX,hh,w1]
   obtain⟨acc1,ha,s1,s2⟩:=step
   by_cases hg:acc1≤65536
   ·obtain⟨e,acc',j,g1,g2⟩:=ih (i+1) acc1 (by omega) hi (by omega) (by omega)
    refine⟨e,acc',j,?_,?_⟩
    ·simp only [as1,ar6] at g1
     rw [s2 hg,←g1]
     rfl
    ·rw [ha] at g2
     simpa [xI,Int.add_assoc] using g2
   ·refine⟨.ret,acc1,i,?_,.inl ⟨rfl,by simp only [xI];omega⟩⟩
    rw [s1 hg]
    rfl
  ·have hi':¬(i:Int)<A.length:=by omega
   have:A.drop i=[]:=List.drop_eq_nil_of_le (by omega)
   rw [this]
   refine⟨.exit 2,acc,i,?_,.inr ⟨rfl,by simp [xI]⟩⟩
   simp [xG,hi',lX,hh]
theorem c16 (p:IR) (h:lD):KK 16 [.agg p.cells] h=some (.ret (.bool (o9 p)),h):=by
 refine nG rfl rfl (oF (ahN _ _ _) ?_)
 by_cases h1:p.temps≤1048576
 ·have h1':¬1048576<p.temps:=by omega
  by_cases h2:(p.arrays.length:Int)≤1048576
  ·have h2':¬1048576<(p.arrays.length:Int):=by omega
   by_cases h3:(p.blocks.length:Int)≤1048576
   ·have h3':¬1048576<(p.blocks.length:Int):=by omega
    have hh:∀C,oD 1 (.cells p.cells::C)=some [.cells p.cells]:=fun C=>by simp [oD,IR.cells]
    obtain⟨e,acc',j,g1,g2⟩:=TG p.blocks (by omega) p.cells (min (max p.out 0) 65537) hh (p.blocks.length+1) 0 0 (by omega) (Nat.zero_le _) (by omega) (by omega)
    obtain⟨e',acc'',j',g3,g4⟩:=TI p.arrays (by omega) p.cells hh (p.arrays.length+1) 0 (min (max p.out 0) 65537) (by omega) (Nat.zero_le _) (by omega) (by omega)
    have hr:=E4 p.arrays
    simp only [List.drop_zero,Int.zero_add,ar6,IR.cells] at g1 g2 g3 g4
    rcases g2 with ⟨rfl,g2⟩ | ⟨rfl,g2⟩
    ·have hl:o9 p=false:=by simp [o9,g2]
     rw [hl]
     simp [m16,IR.cells,h1',h2',h3',g1,mS]
    ·rcases g4 with ⟨rfl,g4⟩ | ⟨rfl,g4⟩
     ·have hl:o9 p=false:=by
       simp only [o9,Bool.and_eq_false_iff,decide_eq_false_iff_not]
       right;omega
      rw [hl]
      simp [m16,IR.cells,h1',h2',h3',g1,g3,mS]
     ·have hl:o9 p=decide (acc''≤65536):=by
       have:(max p.out 0+xI p.arrays≤65536)↔acc''≤65536:=by omega
       simp [o9,h1,h2,h3,g2,this]
      rw [hl]
      simp [m16,IR.cells,h1',h2',h3',g1,g3,mS]
   ·have h3':1048576<(p.blocks.length:Int):=by omega
    have hl:o9 p=false:=by simp [o9,h3]
    rw [hl]
    simp [m16,IR.cells,h1',h2',h3',mS]
  ·have h2':1048576<(p.arrays.length:Int):=by omega
   have hl:o9 p=false:=by simp [o9,h2]
   rw [hl]
   simp [m16,IR.cells,h1',h2',mS]
 ·have h1':1048576<p.temps:=by omega
  have hl:o9 p=false:=by simp [o9,h1]
  rw [hl]
  simp [m16,IR.cells,h1',mS]
end
section
open Go Hk
def Cd (n:Nat) (C:List mC):Prop:=∀m h,n≤m→oG m h C=some C
def xO (n:Nat) (cs:List lC):Prop:=∀m h,n≤m→mW m h cs=some cs
section
variable {n:Nat}
theorem Cd.mono {k:Nat}{C:List mC}(h:Cd n C) (hk:n≤k):Cd k C:=fun m x hm=>h m x (Nat.le_trans hk hm)
theorem yD {m:Nat}{h:lD}:∀{B C:List mC},oG m h B=some B→oG m h C=some C→oG m h (B++C)=some (B++C)
 | [],_,_,h2=>h2
 | b::r,C,h1,h2=>by
  simp only [oG] at h1
  split at h1
  ·rename_i b' r' e1 e2
   simp only [ad0,List.cons.injEq] at h1
   obtain⟨rfl,rfl⟩:=h1
   simp only [List.cons_append,oG,e1,yD e2 h2]
  ·cases h1
theorem p8 {B C:List mC}(h1:Cd n B) (h2:Cd n C):Cd n (B++C):=fun m h hm=>yD (h1 m h hm) (h2 m h hm)
theorem rD:Cd n []:=fun _ _ _=>rfl
theorem oP {i j:Nat}{C:List mC}(h:Cd n C):Cd n (.front i j::C):=fun m x hm=>by simp [h m x hm]
theorem rV {cs:List lC}{C:List mC}(h1:xO n cs) (h:Cd n C):Cd n (.cells cs::C):=fun m x hm=>by simp [h m x hm,h1 m x hm]
theorem Ru:xO n []:=fun _ _ _=>rfl
end
section
variable {n:Nat}
theorem Cg {i j:Nat}{C:List mC}:Cd n (.front i j::C)↔Cd n C:=⟨fun h m x hm=>by
 have:=h m x hm
 simp only [wQ,Mp,ai3,af1] at this
 obtain⟨r,h1,h2⟩:=this
 cases h2;exact h1,oP⟩
theorem z8 {C:List mC}:Cd n (.gone::C)↔Cd n C:=⟨fun h m x hm=>by
 have:=h m x hm
 have e:pC m x .gone=some .gone:=rfl
 simp only [wQ,e,ai3,af1] at this
 obtain⟨r,h1,h2⟩:=this
 cases h2;exact h1,fun h m x hm=>by
 have e:pC m x .gone=some .gone:=rfl
 simp only [wQ,e,ai3,h m x hm,Option.map_some]⟩
theorem Ce {cs:List lC}{C:List mC}:Cd n (.cells cs::C)↔xO n cs∧Cd n C:=⟨fun h=>by
 have key:∀m x,n≤m→mW m x cs=some cs∧oG m x C=some C:=fun m x hm=>by
  have:=h m x hm
  simp only [wQ,Mo,ab6,af1] at this
  obtain⟨b,⟨c,h1,h2⟩,r,h3,h4⟩:=this
  cases h2;cases h4;exact⟨h1,h3⟩
 exact⟨fun m x hm=>(key m x hm).1,fun m x hm=>(key m x hm).2⟩,fun h=>rV h.1 h.2⟩
theorem z7 {v:lC}{cs:List lC}(hv:∀m x,n≤m→v.nO m x=v) (hc:v.mE=true):xO n (v::cs)↔xO n cs:=by
 constructor
 ·intro h m x hm
  have:=h m x hm
  simp only [pD,hv m x hm,hc,cond_true,af1] at this
  obtain⟨r,h1,h2⟩:=this
  cases h2;exact h1
 ·intro h m x hm
  simp only [pD,hv m x hm,hc,cond_true,h m x hm,Option.map_some]
theorem MT {k:IntKind}{z:Int}{cs:List lC}:xO n (.int k z::cs)↔xO n cs:=z7 (fun _ _ _=>rfl) rfl
theorem MW {z:List UInt8}{cs:List lC}:xO n (.str z::cs)↔xO n cs:=z7 (fun _ _ _=>rfl) rfl
theorem Ks {z:Bool}{cs:List lC}:xO n (.bool z::cs)↔xO n cs:=z7 (fun _ _ _=>rfl) rfl
theorem IT {rows:List (List lC)}{cs:List lC}:xO n (.slice rows .no::cs)↔xO n cs:=z7 (fun _ _ _=>rfl) rfl
theorem MU {rows:List (List lC)}{id:Nat}{cs:List lC}:xO n (.slice rows (.own id)::cs)↔id<n∧xO n cs:=by
 have key:∀hi:id<n,xO n (.slice rows (.own id)::cs)↔xO n cs:=fun hi=>z7 (fun m x hm=>by
  have:id<m:=by omega
  simp [this]) rfl
 constructor
 ·intro h
  have hi:id<n:=by
   have:=h n [] (ai1 _)
   by_cases hi:id<n
   ·exact hi
   ·exfalso
    simp only [pD,Xm,decide_eq_false hi,cond_false,KQ,cond_true,af1] at this
    obtain⟨r,h1,h2⟩:=this
    cases h2
  exact⟨hi,(key hi).1 h⟩
 ·rintro⟨hi,h⟩
  exact(key hi).2 h
theorem MV {id o:Nat}{cs:List lC}:xO n (.ptr id o::cs)↔id<n∧xO n cs:=by
 have key:∀hi:id<n,xO n (.ptr id o::cs)↔xO n cs:=fun hi=>z7 (fun m x hm=>by
  have:id<m:=by omega
  simp [pR this]) rfl
 constructor
 ·intro h
  have hi:id<n:=by
   have:=h n [] (ai1 _)
   by_cases hi:id<n
   ·exact hi
   ·exfalso
    have e:(lC.ptr id o).nO n []=.junk:=by simp [lC.nO,hi]
    simp [pD,e,lC.mE] at this
  exact⟨hi,(key hi).1 h⟩
 ·rintro⟨hi,h⟩
  exact(key hi).2 h
end
def OQ (A:List mC) (X:mC) (B:List mC):lD:=A++X::B
def Yx (X:mC):Prop:=∀m h,pC m h X=some X
def HN (A B:List mC):Nat:=A.length+1+B.length
structure KB (A B:List mC):Prop where
 a:∀n,HN A B≤n→Cd n A
 b:∀n,HN A B≤n→Cd n B
section
variable {A B C:List mC}{X Y Z:mC}{k:Nat}
theorem El:HN A (B++C)=HN A B+C.length:=by simp [HN];omega
theorem KB.app (h:KB A B) (hC:Cd (HN A B+C.length) C):KB A (B++C):=by
 refine⟨fun n hn=>?_,fun n hn=>?_⟩
 ·rw [El] at hn
  exact(h.a (HN A B) (ai1 _)).mono (by omega)
 ·rw [El] at hn
  exact p8 ((h.b (HN A B) (ai1 _)).mono (by omega)) (hC.mono hn)
theorem Kv:OQ A X B++C=OQ A X (B++C):=by simp [OQ]
theorem CC:(OQ A X B).length=HN A B:=by simp [OQ,HN];omega
theorem asY {cs:List lC}:nW (OQ A (.cells cs) B) A.length=some cs:=by simp [OQ,nW]
theorem yK:List.set (OQ A X B) A.length Y=OQ A Y B:=by
 unfold OQ;rw [List.set_append_right _ _ (ai1 _),Nat.sub_self];rfl
theorem RC:(OQ A X (B++C))[HN A B+k]?=C[k]?:=by
 unfold OQ HN
 rw [af4 (by omega),show A.length+1+B.length+k-A.length=B.length+k+1 by omega,List.getElem?_cons_succ,af4 (by omega),show B.length+k-B.length=k by omega]
theorem aeO:(OQ A X (B++C))[HN A B]?=C[0]?:=RC (k:=0)
theorem UL:nW (OQ A X (B++C)) (HN A B+k)=nW C k:=by unfold nW;rw [RC]
theorem Yr:nW (OQ A X (B++C)) (HN A B)=nW C 0:=UL (k:=0)
theorem M3:sD (OQ A X (B++C)) (HN A B+k)=sD C k:=by unfold sD;rw [RC]
theorem SO:sD (OQ A X (B++C)) (HN A B)=sD C 0:=M3 (k:=0)
theorem UN {x:mC}:List.set (OQ A X (B++C)) (HN A B+k) x=OQ A X (B++C.set k x):=by
 unfold OQ HN
 rw [List.set_append_right _ _ (by omega),show A.length+1+B.length+k-A.length=B.length+k+1 by omega,List.set_cons_succ,List.set_append_right _ _ (by omega),show B.length+k-B.length=k by omega]
theorem Yt {x:mC}:List.set (OQ A X (B++C)) (HN A B) x=OQ A X (B++C.set 0 x):=UN (k:=0)
theorem Ys {cs:List lC}:tV (OQ A (.cells cs) B) A.length=OQ A .gone B:=by
 unfold tV
 have:(OQ A (.cells cs) B)[A.length]?=some (.cells cs):=by unfold OQ;rw [af4 (ai1 _),Nat.sub_self];rfl
 rw [this];exact yK
theorem UM:tV (OQ A .gone B) A.length=OQ A .gone B:=by
 unfold tV
 have:(OQ A .gone B)[A.length]?=some .gone:=by unfold OQ;rw [af4 (ai1 _),Nat.sub_self];rfl
 rw [this]
theorem SQ {cs:List lC}:q8 (OQ A (.cells cs) B) (OQ A Y C) A.length=OQ A (.cells cs) C:=by
 unfold q8
 have:(OQ A (.cells cs) B)[A.length]?=some (.cells cs):=by unfold OQ;rw [af4 (ai1 _),Nat.sub_self];rfl
 rw [this];exact yK
theorem NJ {cs:List lC}{C:List mC}:tV (.cells cs::C) 0=.gone::C:=(rfl)
theorem Ps {C:List mC}:tV (.gone::C) 0=.gone::C:=(rfl)
theorem Pt {b:mC}{C:List mC}{k:Nat}:tV (b::C) (k+1)=b::tV C k:=by
 unfold tV
 simp only [List.getElem?_cons_succ]
 cases C[k]? with
 | none=>rfl
 | some b=>cases b <;> rfl
theorem Jr {cs:List lC}{b:mC}{C C':List mC}:q8 (.cells cs::C) (b::C') 0=.cells cs::C':=(rfl)
theorem MJ {b b':mC}{C C':List mC}{k:Nat}:q8 (b::C) (b'::C') (k+1)=b'::q8 C C' k:=by
 unfold q8
 simp only [List.getElem?_cons_succ]
 cases C[k]? with
 | none=>rfl
 | some b=>cases b <;> rfl
theorem VE {h:lD}:r_ [] h=h:=(rfl)
theorem Tr {h:lD}{i:Nat}{ids:List Nat}:r_ (i::ids) h=r_ ids (tV h i):=(rfl)
theorem Ro {h h':lD}:nL [] h h'=h':=(rfl)
theorem OO {h h':lD}{i:Nat}{ids:List Nat}:nL (i::ids) h h'=nL ids h (q8 h h' i):=(rfl)
theorem O9 {i o:Nat}:vR (.ptr i o)=some i:=(rfl)
theorem Ng {cs:List lC}:vR (.pptr cs)=none:=(rfl)
theorem s5 (h:KB A B) (hX:Yx X):oD (HN A B) (OQ A X (B++C))=some (OQ A X B):=by
 have e:OQ A X (B++C)=OQ A X B++C:=Kv.symm
 unfold Hk.oD
 rw [e,←CC (X:=X),List.take_left,CC]
 exact yD (h.a _ (ai1 _) _ _ (ai1 _)) (by
  have:=hX (HN A B) (OQ A X B++C)
  simp only [oG,this,h.b _ (ai1 _) _ _ (ai1 _)])
theorem p9 (h:KB A B) (hX:Yx X):oD (HN A B) (OQ A X B)=some (OQ A X B):=by
 have:=s5 (C:=[]) h hX
 rwa [List.append_nil] at this
theorem Yq {v:lC}(h:KB A B) (hX:Yx X):nJ (HN A B) v (OQ A X (B++C))=some (.ret (v.pV (HN A B) (OQ A X (B++C))).lL,OQ A X B):=by simp [nJ,s5 h hX]
theorem UK {v:lC}(h:KB A B) (hX:Yx X):nJ (HN A B) v (OQ A X B)=some (.ret (v.pV (HN A B) (OQ A X B)).lL,OQ A X B):=by simp [nJ,p9 h hX]
theorem SP (h:KB A (B++C.take k)) (hX:Yx X) (hk:k≤C.length):oD (HN A B+k) (OQ A X (B++C))=some (OQ A X (B++C.take k)):=by
 have:=s5 (X:=X) (C:=C.drop k) h hX
 rw [El,List.append_assoc,List.take_append_drop,ao3,Nat.min_eq_left hk] at this
 exact this
theorem Kr:A.length<HN A B+k:=by simp [HN];omega
theorem s4:A.length<HN A B:=Kr (k:=0)
attribute [simp] Kv CC asY yK RC aeO UL Yr M3 SO UN Yt Ys UM SQ Yq UK El
attribute [simp] NJ Ps Pt Jr MJ VE Tr Ro OO O9 Ng mI
attribute [simp] KB.app rD Cg z8 Ce Ru MT MW Ks IT MU MV
end
end
section
open Go Hk
def ck (p:IR) (e:Int):mC:=.cells [.int .i64 p.temps,.slice (p.arrays.map mV.cells) .no,.slice (p.blocks.map mF.cells) .no,.int .i64 p.inn,.int .i64 p.out,.int .i64 e]
theorem xA {p:IR}{e:Int}:Yx (ck p e):=fun _ _=>rfl
structure XX (p:IR):Prop where
 t0:0≤p.temps
 t1:p.temps≤1048576
 a1:(p.arrays.length:Int)≤1048576
 b1:(p.blocks.length:Int)≤1048576
 i0:0≤p.inn
 i1:p.inn≤65536
 o0:0≤p.out
 o1:p.out≤65536
section
variable {p:IR}(hp:XX p) {A B:List mC}{e:Int}(hB:KB A B)
include hp hB
theorem c37 (t:Int):KK 37 [.ptr A.length 0,.int .i64 t] (OQ A (ck p e) B)=some (.ret (.bool (mQ t 0 (p.temps-1))),OQ A (ck p e) B):=by
 refine oF (ah6 _ _ _ _) ?_
 have h0:=hp.t0
 have h1:=hp.t1
 have w1:IntKind.i64.wrap (p.temps-1)=p.temps-1:=by rw [wrap64] <;> omega
 have hX:=xA (p:=p) (e:=e)
 simp only [ck] at hX ⊢
 simp -implicitDefEqProofs [m37,hB,hX,w1,C9]
theorem c38 (t:Int):KK 38 [.ptr A.length 0,.int .i64 t] (OQ A (ck p e) B)=some (.ret (.bool (mQ t (-1) ((p.blocks.length:Int)-1))),OQ A (ck p e) B):=by
 refine oF (ah7 _ _ _ _) ?_
 have h1:=hp.b1
 have w1:IntKind.i64.wrap ((p.blocks.length:Int)-1)=(p.blocks.length:Int)-1:=by rw [wrap64] <;> omega
 have hX:=xA (p:=p) (e:=e)
 simp only [ck] at hX ⊢
 simp -implicitDefEqProofs [m38,hB,hX,w1,C9]
def AP (inn out e : Int) (x : mV) : Bool × Int :=
  if tK x = true then
    (if x.kind = 0 then (decide (x.off = 0), e)
     else if x.kind = 1 then (mQ x.off 0 (inn - x.elem * x.len) && decide (x.off.tmod 4 = 0), e)
     else if x.kind = 2 then (if mQ x.off e (out - x.elem * x.len) = true ∧ x.off.tmod 4 = 0 then (true, Kl (x.off + x.elem * x.len)) else (false, e))
     else (false, e))
  else (false, e)
theorem c18 (x:mV) (he:0≤e):KK 18 [.ptr A.length 0,.agg x.cells] (OQ A (ck p e) B)=some (.ret (.bool (AP p.inn p.out e x).1),OQ A (ck p (AP p.inn p.out e x).2) B):=by
 refine oF (ahP _ _ _ _) ?_
 have h132:=c33 x
 have hX:=fun e=>xA (p:=p) (e:=e)
 have i0:=hp.i0
 have i1:=hp.i1
 have o0:=hp.o0
 have o1:=hp.o1
 cases hs:tK x
 ·simp only [hs,mV.cells,ck,AP,Bool.false_eq_true,if_false] at h132 hX ⊢
  simp -implicitDefEqProofs [m18,hB,hX,h132]
 ·have hm:=tP hs
  have w0:IntKind.i64.wrap (x.elem*x.len)=x.elem*x.len:=by rw [wrap64] <;> omega
  simp only [hs,mV.cells,ck,AP,if_true] at h132 hX ⊢
  by_cases k0:x.kind=0
  ·rw [k0] at h132 ⊢
   simp -implicitDefEqProofs [m18,hB,hX,h132,k0,w0]
  by_cases k1:x.kind=1
  ·rw [k1] at h132 ⊢
   have w1:IntKind.i64.wrap (p.inn-x.elem*x.len)=p.inn-x.elem*x.len:=by rw [wrap64] <;> omega
   cases hb:mQ x.off 0 (p.inn-x.elem*x.len) <;> simp -implicitDefEqProofs [m18,hB,hX,h132,k1,w0,w1,C9,hb,rQ]
  by_cases k2:x.kind=2
  ·rw [k2] at h132 ⊢
   have w1:IntKind.i64.wrap (p.out-x.elem*x.len)=p.out-x.elem*x.len:=by rw [wrap64] <;> omega
   cases hb:mQ x.off e (p.out-x.elem*x.len)
   ·simp -implicitDefEqProofs [m18,hB,hX,h132,k2,w0,w1,C9,hb,rQ]
   ·by_cases hr:x.off.tmod 4=0
    ·have hbb:e≤x.off∧x.off≤p.out-x.elem*x.len:=by simpa [mQ] using hb
     have w2:IntKind.i64.wrap (x.off+x.elem*x.len)=x.off+x.elem*x.len:=by rw [wrap64] <;> omega
     have h133:=c34 (x.off+x.elem*x.len) (by omega) (by omega)
     simp -implicitDefEqProofs [m18,hB,hX,h132,k2,w0,w1,w2,C9,hb,hr,h133,rQ]
    ·simp -implicitDefEqProofs [m18,hB,hX,h132,k2,w0,w1,C9,hb,hr,rQ]
  ·simp -implicitDefEqProofs [m18,hB,hX,h132,k0,k1,k2,w0]
def Eb (t:Term):Bool :=
 if t.kind=1 then decide (t.a=0∧t.no=0)&&mQ t.yes (-1) ((p.blocks.length:Int)-1)
 else if t.kind=2 then mQ t.a 0 (p.temps-1)&&(mQ t.yes (-1) ((p.blocks.length:Int)-1)&&mQ t.no (-1) ((p.blocks.length:Int)-1))
 else decide (t=⟨3,0,0,0⟩)
end
end
section
open Go Hk
section
variable {p:IR}(hp:XX p) {A B:List mC}{e:Int}(hB:KB A B)
include hp hB
theorem c20 (t:Term):KK 20 [.ptr A.length 0,.agg t.cells] (OQ A (ck p e) B)=some (.ret (.bool (Eb (p:=p) t)),OQ A (ck p e) B):=by
 refine oF (ahR _ _ _ _) ?_
 have hX:=xA (p:=p) (e:=e)
 have hC:KB A (B++[.cells t.cells]):=hB.app (by simp [Term.cells])
 have h135:=fun z=>c37 (e:=e) hp hC z
 have h136:=fun z=>c38 (e:=e) hp hC z
 obtain⟨k,a,y,n⟩:=t
 simp only [Term.cells,Eb] at h135 h136 ⊢
 by_cases k1:k=1
 ·subst k1
  by_cases ha:a=0
  ·subst ha
   by_cases hn:n=0
   ·subst hn
    simp -implicitDefEqProofs [m20,hB,hX,h136,pK,oH,xP,Kr,s4]
   ·have hb:=beq_false_of_ne hn
    simp -implicitDefEqProofs [m20,hB,hX,h136,pK,oH,xP,hn,hb,Kr,s4]
  ·have hb:=beq_false_of_ne ha
   simp -implicitDefEqProofs [m20,hB,hX,h136,pK,oH,xP,ha,hb,Kr,s4]
 by_cases k2:k=2
 ·subst k2
  cases h1:mQ a 0 (p.temps-1) <;> cases h2:mQ y (-1) ((p.blocks.length:Int)-1) <;>
   simp -implicitDefEqProofs [m20,hB,hX,h135,h136,h1,h2,Kr,s4]
 ·have hr:decide ((⟨k,a,y,n⟩:Term)=⟨3,0,0,0⟩)=(k == 3&&(a == 0&&(y == 0&&n == 0))):=by
   by_cases h3:k=3 <;> by_cases ha:a=0 <;> by_cases hy:y=0 <;> by_cases hn:n=0 <;> simp [h3,ha,hy,hn]
  have hbd:∀x y:Int,(x == y)=decide (x=y):=fun x y=>by by_cases h:x=y <;> simp [h]
  simp -implicitDefEqProofs [m20,hB,hX,k1,k2,hr,hbd,pK,oH,xP,Bool.and_assoc]
end
structure Form where
 dst:Bool
 src:Nat
 most:Int
 ok:Bool
def nK (k:Int):Form :=
 if k=1 then⟨true,0,4294967295,true⟩
 else if k=2∨k=10 then⟨true,1,0,true⟩
 else if 3≤k∧k≤9∨14≤k∧k≤16 then⟨true,2,0,true⟩
 else if 11≤k∧k≤13 then⟨true,1,31,true⟩
 else if k=17 then⟨true,3,0,true⟩
 else if k=18 then⟨true,1,1048576,true⟩
 else if k=19 then⟨false,2,1048576,true⟩
 else⟨false,0,0,false⟩
def Form.cells (f:Form):List lC:=[.bool f.dst,.int .i64 (f.src:Int),.int .i64 0,.int .i64 f.most,.bool f.ok]
theorem c35 (k:Int) (h:lD):KK 35 [.int .i64 k] h=some (.ret (.agg (nK k).cells),h):=by
 refine nG rfl rfl (oF (ah4 _ _ _) ?_)
 by_cases hk:1≤k∧k≤19
 ·have:k=1∨k=2∨k=3∨k=4∨k=5∨k=6∨k=7∨k=8∨k=9∨k=10∨k=11∨k=12∨k=13∨k=14∨k=15∨k=16∨k=17∨k=18∨k=19:=by omega
  rcases this with rfl | rfl | rfl | rfl | rfl | rfl | rfl | rfl | rfl | rfl | rfl | rfl | rfl | rfl | rfl | rfl | rfl | rfl | rfl <;>
   simp -implicitDefEqProofs [m35,nK,Form.cells,mS]
 ·have n1:¬k=1:=by omega
  have n2:¬k=2:=by omega
  have n3:¬k=3:=by omega
  have n4:¬k=4:=by omega
  have n5:¬k=5:=by omega
  have n6:¬k=6:=by omega
  have n7:¬k=7:=by omega
  have n8:¬k=8:=by omega
  have n9:¬k=9:=by omega
  have n10:¬k=10:=by omega
  have n11:¬k=11:=by omega
  have n12:¬k=12:=by omega
  have n13:¬k=13:=by omega
  have n14:¬k=14:=by omega
  have n15:¬k=15:=by omega
  have n16:¬k=16:=by omega
  have n17:¬k=17:=by omega
  have n18:¬k=18:=by omega
  have n19:¬k=19:=by omega
  have e:nK k=⟨false,0,0,false⟩:=by
   unfold nK
   rw [if_neg n1,if_neg (by omega),if_neg (by omega),if_neg (by omega),if_neg n17,if_neg n18,if_neg n19]
  rw [e]
  simp -implicitDefEqProofs [m35,Form.cells,mS,n1,n2,n3,n4,n5,n6,n7,n8,n9,n10,n11,n12,n13,n14,n15,n16,n17,n18,n19]
theorem c73 (o:Op) (h:lD):KK 73 [.agg o.cells] h=some (.ret (.bool (nK o.kind).dst),h):=by
 refine nG rfl rfl (oF (aiL _ _ _) ?_)
 have h134:=c35 o.kind
 simp only [Form.cells] at h134
 simp -implicitDefEqProofs [m73,Op.cells,h134,mS]
def oO (o:Op):List Int:=[o.a,o.b,o.c].take (nK o.kind).src
theorem c36 (o:Op) (h:lD):KK 36 [.agg o.cells] h=some (.ret (.slice ((oO o).map fun z=>[.int .i64 z]) .no),h):=by
 refine nG rfl rfl (oF (ah5 _ _ _) ?_)
 have h134:=c35 o.kind
 have hs:(nK o.kind).src=0∨(nK o.kind).src=1∨(nK o.kind).src=2∨(nK o.kind).src=3:=by
  unfold nK;(repeat' split) <;> simp
 simp only [Form.cells] at h134
 unfold oO
 rcases hs with hs | hs | hs | hs <;> rw [hs] at h134 ⊢ <;>
  simp -implicitDefEqProofs [m36,Op.cells,h134,lR,rE,nP,lC.AN,rowsOf,oI,pE,mS]
end
section
open Go Hk
section
variable {p:IR}(hp:XX p) {A B:List mC}{e:Int}(hB:KB A B)
def oB (o:Op) (d a b c:Int):List mC:=[.cells o.cells,.cells (nK o.kind).cells,.cells [.int .i64 o.kind,.int .i64 d,.int .i64 a,.int .i64 b,.int .i64 c,.int .i64 o.imm]]
def oS (A B:List mC) (u:List Int) (v:Bool) (i:Int):List lC:=[.ptr A.length 0,.ptr (HN A B) 0,.bool v,.ptr (HN A B+1) 0,.ptr (HN A B+2) 0,.slice (u.map fun z=>[.int .i64 z]) .no,.int .i64 (u.length:Int),.int .i64 i]
theorem WS {o:Op}{d a b c:Int}(hB:KB A B):KB A (B++oB o d a b c):=hB.app (by simp [oB,Op.cells,Form.cells])
theorem NW {o:Op}{d a b c:Int}(hB:KB A B):oD (HN A B+3) (OQ A (ck p e) (B++oB o d a b c))=some (OQ A (ck p e) (B++oB o d a b c)):=by
 have:=SP (X:=ck p e) (A:=A) (B:=B) (C:=oB o d a b c) (k:=3) (by simpa [oB] using WS (o:=o) (d:=d) (a:=a) (b:=b) (c:=c) hB) xA (by simp [oB])
 simpa [oB] using this
include hp hB
theorem NQ {o:Op}{u:List Int}{t d a b c:Int}{i:Nat}(hi:i<3) (ht:u[i]?=some t) (hu:u.length≤3) :
  vY KK (HN A B+3) (oS A B u false (i:Int),OQ A (ck p e) (B++oB o d a b c))=if mQ t 0 (p.temps-1)=true then
   some (.normal,oS A B u false ((i:Int)+1),OQ A (ck p e) (B++oB o d (if i=0 then t else a) (if i=1 then t else b) (if i=2 then t else c)))
   else some (.ret,oS A B u false (i:Int),OQ A (ck p e) (B++oB o d a b c)):=by
 have h135:=c37 (e:=e) hp (WS (o:=o) (d:=d) (a:=a) (b:=b) (c:=c) hB) t
 have htr:=fun d a b c=>NW (p:=p) (e:=e) (o:=o) (d:=d) (a:=a) (b:=b) (c:=c) hB
 have hlt:i<u.length:=(ac1.1 ht).1
 have hlt':(i:Int)<u.length:=by omega
 have hti:u[i]=t:=(ac1.1 ht).2
 have q0:∀h,lC.nO (HN A B+3) h (.ptr A.length 0)=.ptr A.length 0:=fun h=>pR Kr
 have q1:∀h,lC.nO (HN A B+3) h (.ptr (HN A B) 0)=.ptr (HN A B) 0:=fun h=>pR (by omega)
 have q2:∀h,lC.nO (HN A B+3) h (.ptr (HN A B+1) 0)=.ptr (HN A B+1) 0:=fun h=>pR (by omega)
 have q3:∀h,lC.nO (HN A B+3) h (.ptr (HN A B+2) 0)=.ptr (HN A B+2) 0:=fun h=>pR (by omega)
 simp only [oB,oS] at h135 htr ⊢
 cases hb:mQ t 0 (p.temps-1)
 ·simp -implicitDefEqProofs [vY,hlt,hlt',ht,hti,h135,hb,lX,htr,q0,q1,q2,q3]
 ·rcases (show i=0∨i=1∨i=2 by omega) with rfl | rfl | rfl <;>
   have hl0:(0:Int)<u.length:=by omega
  all_goals simp only [ar6] at hlt'
  all_goals
   simp -implicitDefEqProofs [vY,hlt,hlt',ht,hti,h135,hb,KI,lX,htr,q0,q1,q2,q3,wrap64]
omit hp in
theorem aaG {o:Op}{u:List Int}{d a b c:Int}{n:Nat}(hn:u.length=n) :
  vY KK (HN A B+3) (oS A B u false (n:Int),OQ A (ck p e) (B++oB o d a b c))=some (.exit 0,oS A B u false (n:Int),OQ A (ck p e) (B++oB o d a b c)):=by
 subst hn
 have htr:=fun d a b c=>NW (p:=p) (e:=e) (o:=o) (d:=d) (a:=a) (b:=b) (c:=c) hB
 have q0:∀h,lC.nO (HN A B+3) h (.ptr A.length 0)=.ptr A.length 0:=fun h=>pR Kr
 have q1:∀h,lC.nO (HN A B+3) h (.ptr (HN A B) 0)=.ptr (HN A B) 0:=fun h=>pR (by omega)
 have q2:∀h,lC.nO (HN A B+3) h (.ptr (HN A B+1) 0)=.ptr (HN A B+1) 0:=fun h=>pR (by omega)
 have q3:∀h,lC.nO (HN A B+3) h (.ptr (HN A B+2) 0)=.ptr (HN A B+2) 0:=fun h=>pR (by omega)
 simp only [oB,oS] at htr ⊢
 simp -implicitDefEqProofs [vY,lX,htr,q0,q1,q2,q3]
theorem Wf {o:Op}{d:Int}{s:Nat}(hs:s≤3) {u:List Int}(hu:u=[o.a,o.b,o.c].take s) :
  (u.all (fun t=>mQ t 0 (p.temps-1))=true→mX (vY KK (HN A B+3)) (oS A B u false 0,OQ A (ck p e) (B++oB o d 0 0 0)) =
   some (.exit 0,oS A B u false (s:Int),OQ A (ck p e) (B++oB o d (if 1≤s then o.a else 0) (if 2≤s then o.b else 0) (if 3≤s then o.c else 0)))) ∧
  (u.all (fun t=>mQ t 0 (p.temps-1))=false→∃(i:Nat) (x y z:Int),mX (vY KK (HN A B+3)) (oS A B u false 0,OQ A (ck p e) (B++oB o d 0 0 0)) =
   some (.ret,oS A B u false (i:Int),OQ A (ck p e) (B++oB o d x y z))):=by
 have hl:u.length=s:=by subst hu;simp;omega
 have hu3:u.length≤3:=by omega
 have st:∀(i:Nat) (t a b c:Int),i<3→u[i]?=some t→mQ t 0 (p.temps-1)=true→mX (vY KK (HN A B+3)) (oS A B u false (i:Int),OQ A (ck p e) (B++oB o d a b c)) =
   mX (vY KK (HN A B+3)) (oS A B u false ((i+1:Nat):Int),OQ A (ck p e) (B++oB o d (if i=0 then t else a) (if i=1 then t else b) (if i=2 then t else c))):=by
  intro i t a b c hi ht hb
  rw [nM,NQ hp hB hi ht hu3,if_pos hb];rfl
 have no:∀(i:Nat) (t a b c:Int),i<3→u[i]?=some t→mQ t 0 (p.temps-1)=false→mX (vY KK (HN A B+3)) (oS A B u false (i:Int),OQ A (ck p e) (B++oB o d a b c)) =
   some (.ret,oS A B u false (i:Int),OQ A (ck p e) (B++oB o d a b c)):=by
  intro i t a b c hi ht hb
  rw [nM,NQ hp hB hi ht hu3,if_neg (by rw [hb];decide)];rfl
 have en:∀a b c:Int,mX (vY KK (HN A B+3)) (oS A B u false (s:Int),OQ A (ck p e) (B++oB o d a b c))=some (.exit 0,oS A B u false (s:Int),OQ A (ck p e) (B++oB o d a b c)):=by
  intro a b c
  rw [nM,aaG hB hl];rfl
 rcases (show s=0∨s=1∨s=2∨s=3 by omega) with rfl | rfl | rfl | rfl
 ·exact⟨fun _=>en _ _ _,fun h=>by subst hu;cases h⟩
 ·have u0:u[0]?=some o.a:=by subst hu;rfl
  cases h0:mQ o.a 0 (p.temps-1)
  ·exact⟨fun h=>by subst hu;simp [h0] at h,fun _=>⟨0,0,0,0,no 0 o.a 0 0 0 (by omega) u0 h0⟩⟩
  ·exact⟨fun _=>(st 0 o.a 0 0 0 (by omega) u0 h0).trans (en _ _ _),fun h=>by subst hu;simp [h0] at h⟩
 ·have u0:u[0]?=some o.a:=by subst hu;rfl
  have u1:u[1]?=some o.b:=by subst hu;rfl
  cases h0:mQ o.a 0 (p.temps-1)
  ·exact⟨fun h=>by subst hu;simp [h0] at h,fun _=>⟨0,0,0,0,no 0 o.a 0 0 0 (by omega) u0 h0⟩⟩
  cases h1:mQ o.b 0 (p.temps-1)
  ·exact⟨fun h=>by subst hu;simp [h0,h1] at h,fun _=>⟨1,o.a,0,0,(st 0 o.a 0 0 0 (by omega) u0 h0).trans (no 1 o.b _ _ _ (by omega) u1 h1)⟩⟩
  ·exact⟨fun _=>(st 0 o.a 0 0 0 (by omega) u0 h0).trans ((st 1 o.b _ _ _ (by omega) u1 h1).trans (en _ _ _)),fun h=>by subst hu;simp [h0,h1] at h⟩
 ·have u0:u[0]?=some o.a:=by subst hu;rfl
  have u1:u[1]?=some o.b:=by subst hu;rfl
  have u2:u[2]?=some o.c:=by subst hu;rfl
  cases h0:mQ o.a 0 (p.temps-1)
  ·exact⟨fun h=>by subst hu;simp [h0] at h,fun _=>⟨0,0,0,0,no 0 o.a 0 0 0 (by omega) u0 h0⟩⟩
  cases h1:mQ o.b 0 (p.temps-1)
  ·exact⟨fun h=>by subst hu;simp [h0,h1] at h,fun _=>⟨1,o.a,0,0,(st 0 o.a 0 0 0 (by omega) u0 h0).trans (no 1 o.b _ _ _ (by omega) u1 h1)⟩⟩
  cases h2:mQ o.c 0 (p.temps-1)
  ·exact⟨fun h=>by subst hu;simp [h0,h1,h2] at h,fun _=>⟨2,o.a,o.b,0,(st 0 o.a 0 0 0 (by omega) u0 h0).trans ((st 1 o.b _ _ _ (by omega) u1 h1).trans (no 2 o.c _ _ _ (by omega) u2 h2))⟩⟩
  ·exact⟨fun _=>(st 0 o.a 0 0 0 (by omega) u0 h0).trans ((st 1 o.b _ _ _ (by omega) u1 h1).trans ((st 2 o.c _ _ _ (by omega) u2 h2).trans (en _ _ _))),fun h=>by subst hu;simp [h0,h1,h2] at h⟩
end
end
section
open Go Hk
def Ta (p:IR) (i:Int):Int:=match p.arrays[i.toNat]? with
 | some x=>x.kind
 | none=>0
def DF (p:IR) (o:Op):Bool:=if o.kind=18∨o.kind=19 then decide (o.imm<(p.arrays.length:Int))&&(decide (o.kind=18) || !decide (Ta p o.imm=1)) else true
def WZ (p:IR) (o:Op):Bool :=
 (nK o.kind).ok&&(mQ o.imm 0 (nK o.kind).most&&((oO o).all (fun t=>mQ t 0 (p.temps-1)) &&
  (decide ((if (nK o.kind).dst=true then o.dst else 0)=o.dst∧(if 1≤(nK o.kind).src then o.a else 0)=o.a∧(if 2≤(nK o.kind).src then o.b else 0)=o.b∧(if 3≤(nK o.kind).src then o.c else 0)=o.c) &&
   ((!(nK o.kind).dst || mQ o.dst 0 (p.temps-1))&&DF p o))))
theorem ND (k:Int):(nK k).src≤3:=by
 unfold nK;(repeat' split) <;> simp
theorem VF {k i:Int}(h:mQ i 0 (nK k).most=true):0≤i:=by
 simp only [mQ,am4,decide_eq_true_eq] at h;exact h.1
section
variable {p:IR}(hp:XX p) {A B:List mC}{e:Int}(hB:KB A B)
include hp hB
set_option maxHeartbeats 4000000 in
theorem c19 (o:Op):KK 19 [.ptr A.length 0,.agg o.cells] (OQ A (ck p e) B)=some (.ret (.bool (WZ p o)),OQ A (ck p e) B):=by
 refine oF (ahQ _ _ _ _) ?_
 have hX:=xA (p:=p) (e:=e)
 have h134:=c35 o.kind
 have h74:=c36 o
 have hsrc:=ND o.kind
 have hall:=fun d=>Wf (e:=e) hp hB (o:=o) (d:=d) hsrc (u:=oO o) rfl
 have him:mQ o.imm 0 (nK o.kind).most=true→0≤o.imm:=fun h=>VF h
 have hul:((oO o).length:Int)=((nK o.kind).src:Int):=by
  have:(oO o).length=(nK o.kind).src:=by unfold oO;simp;omega
  omega
 have hKB:=fun d a b c=>WS (o:=o) (d:=d) (a:=a) (b:=b) (c:=c) hB
 have h135:=fun d a b c=>c37 (e:=e) hp (hKB d a b c) o.dst
 unfold WZ
 unfold oB at hall h135
 generalize hu:oO o=u at *
 generalize hf:nK o.kind=f at *
 obtain⟨fd,fs,fm,fo⟩:=f
 simp only [Form.cells] at h134 hall h135
 cases fo
 ·simp only [Op.cells] at h134 ⊢
  simp -implicitDefEqProofs [m19,hB,hX,h134]
 cases hb:mQ o.imm 0 fm
 ·simp only [Op.cells] at h134 ⊢
  simp -implicitDefEqProofs [m19,hB,hX,h134,C9,hb]
 have hi0:=him hb
 obtain⟨d,hd⟩:∃d,d=if fd=true then o.dst else 0:=⟨_,rfl⟩
 obtain⟨hall1,hall2⟩:=hall d
 cases hal:u.all (fun t=>mQ t 0 (p.temps-1))
 ·obtain⟨i,x,y,z,g⟩:=hall2 hal
  simp only [oS,Op.cells,hul] at g h74 h134 ⊢
  cases fd <;> simp only [if_true,if_false,Bool.false_eq_true] at hd <;> subst hd <;>
   simp -implicitDefEqProofs [m19,hB,hX,h134,C9,hb,h74,hul,g]
 ·have g:=hall1 hal
  have hbd:∀x y:Int,(x == y)=decide (x=y):=fun x y=>by by_cases h:x=y <;> simp [h]
  obtain⟨ra,hra⟩:∃x,x=if 1≤fs then o.a else 0:=⟨_,rfl⟩
  obtain⟨rb,hrb⟩:∃x,x=if 2≤fs then o.b else 0:=⟨_,rfl⟩
  obtain⟨rc,hrc⟩:∃x,x=if 3≤fs then o.c else 0:=⟨_,rfl⟩
  have h135:=h135 d ra rb rc
  simp only [←hra,←hrb,←hrc,←hd] at g ⊢
  have hall:decide (d=o.dst∧ra=o.a∧rb=o.b∧rc=o.c)=(d == o.dst&&(ra == o.a&&(rb == o.b&&rc == o.c))):=by
   simp only [hbd,Bool.decide_and]
  rw [hall]
  obtain⟨ok,od,oa,ob,oc,oi⟩:=o
  simp only [oS,Op.cells,hul] at g h74 h134 h135 hd hi0 hb ⊢
  obtain⟨n,rfl⟩:=Int.eq_ofNat_of_zero_le hi0
  cases hq:(d == od&&(ra == oa&&(rb == ob&&rc == oc)))
  ·cases fd <;> simp only [if_true,if_false,Bool.false_eq_true] at hd <;> subst hd <;> (try simp only [beq_self_eq_true,Bool.true_and] at hq) <;>
    simp -implicitDefEqProofs [m19,hB,hX,h134,C9,hb,h74,hul,g,hq,pK,oH,xP]
  ·have hlt:A.length<HN A B+3:=Kr
   simp only [ck] at hX g h135 ⊢
   by_cases hk:ok=18
   ·subst hk
    cases fd <;> simp only [if_true,if_false,Bool.false_eq_true] at hd <;> subst hd <;> (try simp only [beq_self_eq_true,Bool.true_and] at hq)
    ·by_cases hl:n<p.arrays.length
     ·have hx:p.arrays[n]?=some p.arrays[n]:=ac6 hl
      have hl':(n:Int)<p.arrays.length:=by omega
      simp -implicitDefEqProofs [m19,hB,hX,h134,C9,hb,h74,hul,g,hq,pK,oH,xP,DF,hl,hl',hx,mV.cells,Ta]
     ·have hl':¬(n:Int)<p.arrays.length:=by omega
      simp -implicitDefEqProofs [m19,hB,hX,h134,C9,hb,h74,hul,g,hq,pK,oH,xP,DF,hl,hl']
    ·cases ht:mQ d 0 (p.temps-1) <;> rw [ht] at h135
     ·simp -implicitDefEqProofs [m19,hB,hX,h134,C9,hb,h74,hul,g,hq,pK,oH,xP,DF,h135,ht]
     ·by_cases hl:n<p.arrays.length
      ·have hx:p.arrays[n]?=some p.arrays[n]:=ac6 hl
       have hl':(n:Int)<p.arrays.length:=by omega
       simp -implicitDefEqProofs [m19,hB,hX,h134,C9,hb,h74,hul,g,hq,pK,oH,xP,DF,h135,ht,hl,hl',hx,mV.cells,Ta]
      ·have hl':¬(n:Int)<p.arrays.length:=by omega
       simp -implicitDefEqProofs [m19,hB,hX,h134,C9,hb,h74,hul,g,hq,pK,oH,xP,DF,h135,ht,hl,hl']
   ·by_cases hk2:ok=19
    ·have hk:=hk2
     clear hk2
     subst hk
     cases fd <;> simp only [if_true,if_false,Bool.false_eq_true] at hd <;> subst hd <;> (try simp only [beq_self_eq_true,Bool.true_and] at hq)
     ·by_cases hl:n<p.arrays.length
      ·have hx:p.arrays[n]?=some p.arrays[n]:=ac6 hl
       have hl':(n:Int)<p.arrays.length:=by omega
       simp -implicitDefEqProofs [m19,hB,hX,h134,C9,hb,h74,hul,g,hq,pK,oH,xP,DF,hl,hl',hx,mV.cells,Ta]
      ·have hl':¬(n:Int)<p.arrays.length:=by omega
       simp -implicitDefEqProofs [m19,hB,hX,h134,C9,hb,h74,hul,g,hq,pK,oH,xP,DF,hl,hl']
     ·cases ht:mQ d 0 (p.temps-1) <;> rw [ht] at h135
      ·simp -implicitDefEqProofs [m19,hB,hX,h134,C9,hb,h74,hul,g,hq,pK,oH,xP,DF,h135,ht]
      ·by_cases hl:n<p.arrays.length
       ·have hx:p.arrays[n]?=some p.arrays[n]:=ac6 hl
        have hl':(n:Int)<p.arrays.length:=by omega
        simp -implicitDefEqProofs [m19,hB,hX,h134,C9,hb,h74,hul,g,hq,pK,oH,xP,DF,h135,ht,hl,hl',hx,mV.cells,Ta]
       ·have hl':¬(n:Int)<p.arrays.length:=by omega
        simp -implicitDefEqProofs [m19,hB,hX,h134,C9,hb,h74,hul,g,hq,pK,oH,xP,DF,h135,ht,hl,hl']
    ·cases fd <;> simp only [if_true,if_false,Bool.false_eq_true] at hd <;> subst hd <;> (try simp only [beq_self_eq_true,Bool.true_and] at hq)
     ·simp -implicitDefEqProofs [m19,hB,hX,h134,C9,hb,h74,hul,g,hq,pK,oH,xP,DF,hk,hk2]
     ·cases ht:mQ d 0 (p.temps-1) <;> rw [ht] at h135 <;>
      simp -implicitDefEqProofs [m19,hB,hX,h134,C9,hb,h74,hul,g,hq,pK,oH,xP,DF,hk,hk2,h135,ht]
end
end
section
open Go Hk
def Jz (inn out:Int):Int→List mV→Bool
 | _,[]=>true
 | e,x::r=>(AP inn out e x).1&&Jz inn out (AP inn out e x).2 r
theorem YI {inn out e:Int}{x:mV}(he:0≤e):0≤(AP inn out e x).2:=by
 unfold AP
 split
 ·rename_i hs
  have hm:=tP hs
  (repeat' split) <;> first
   | exact he
   | (rename_i h;simp only [mQ,am4,decide_eq_true_eq] at h;simp only [Kl];omega)
 ·exact he
def Te (p:IR) (b:mF):Bool:=b.ops.all (WZ p)&&Eb (p:=p) b.term
def oR (p:IR):Int :=
 if o9 p=false then 18
 else if mQ p.inn 0 65536=true∧mQ p.out 0 65536=true∧p.inn.tmod 4=0∧p.out.tmod 4=0∧0≤p.temps∧p.blocks≠[] then(if Jz p.inn p.out 0 p.arrays&&p.blocks.all (Te p) then 0 else 2) else 2
section
variable {p:IR}(hp:XX p) {A B:List mC}{q:Nat}(hq:q<A.length) (hB:KB A B)
include hp hq hB
theorem WG:∀(n i:Nat) (e:Int),p.arrays.length<i+n→i≤p.arrays.length→0≤e →
  ∃(ex:Ex) (r e':Int) (j:Int),mX (NR KK (HN A B)) ([.ptr q 0,.int .i64 0,.ptr A.length 0,.slice (p.arrays.map mV.cells) .no,.int .i64 (p.arrays.length:Int),.int .i64 (i:Int)],OQ A (ck p e) B) =
   some (ex,[.ptr q 0,.int .i64 r,.ptr A.length 0,.slice (p.arrays.map mV.cells) .no,.int .i64 (p.arrays.length:Int),.int .i64 j],OQ A (ck p e') B) ∧
   ((ex=.ret∧r=2∧Jz p.inn p.out e (p.arrays.drop i)=false)∨(ex=.exit 0∧r=0∧Jz p.inn p.out e (p.arrays.drop i)=true)):=by
 have hX:=fun e=>xA (p:=p) (e:=e)
 have q0:∀h,lC.nO (HN A B) h (.ptr q 0)=.ptr q 0:=fun h=>pR (by have:=s4 (A:=A) (B:=B);omega)
 have q1:∀h,lC.nO (HN A B) h (.ptr A.length 0)=.ptr A.length 0:=fun h=>pR s4
 have ha1:=hp.a1
 intro n
 induction n with
 | zero=>intro i e a1 a2;omega
 | succ n ih =>
  intro i e a1 a2 he
  rw [nM]
  by_cases hi:i<p.arrays.length
  ·have hi':(i:Int)<p.arrays.length:=by omega
   have hx:p.arrays[i]?=some p.arrays[i]:=ac6 hi
   have w1:=Cy (a:=i) (by omega)
   rw [ao4 hi]
   generalize p.arrays[i]=y at *
   have hC:KB A (B++[.cells y.cells]):=hB.app (by simp [mV.cells])
   have h69:=c18 (e:=e) hp hC y he
   have htr:=fun e=>s5 (X:=ck p e) (A:=A) (B:=B) (C:=[.cells y.cells]) hB xA
   simp only [Jz]
   cases hs:(AP p.inn p.out e y).1
   ·refine⟨.ret,2,(AP p.inn p.out e y).2,i,?_,.inl ⟨rfl,rfl,rfl⟩⟩
    rw [hs] at h69
    simp only [mV.cells] at h69 htr hx ⊢
    simp -implicitDefEqProofs [NR,hi',hx,h69,lX,htr,q0,q1,mV.cells]
   ·obtain⟨ex,r,e',j,g1,g2⟩:=ih (i+1) (AP p.inn p.out e y).2 (by omega) hi (YI he)
    refine⟨ex,r,e',j,?_,g2⟩
    rw [hs] at h69
    simp only [as1,ar6] at g1
    rw [←g1]
    simp only [mV.cells] at h69 htr hx ⊢
    simp -implicitDefEqProofs [NR,hi',hx,h69,lX,htr,q0,q1,w1,mV.cells]
  ·have hi':¬(i:Int)<p.arrays.length:=by omega
   have htr:=p9 (X:=ck p e) (A:=A) (B:=B) hB xA
   rw [List.drop_eq_nil_of_le (by omega)]
   refine⟨.exit 0,0,e,i,?_,.inr ⟨rfl,rfl,rfl⟩⟩
   simp -implicitDefEqProofs [NR,hi',lX,htr,q0,q1]
theorem WH (e:Int) (b:mF) (hb:b.ops.length≤1048576) (k kk:Int):∀(n i:Nat),b.ops.length<i+n→i≤b.ops.length →
  ∃(ex:Ex) (r:Int) (j:Int),mX (NS KK (HN A B+2)) ([.int .i64 0,.ptr A.length 0,.ptr (HN A B) 0,.slice (p.blocks.map mF.cells) .no,.int .i64 kk,.int .i64 k,.slice (b.ops.map Op.cells) .no,.int .i64 (b.ops.length:Int),.int .i64 (i:Int)],OQ A (ck p e) (B++[.cells b.cells,.front 0 0])) =
   some (ex,[.int .i64 r,.ptr A.length 0,.ptr (HN A B) 0,.slice (p.blocks.map mF.cells) .no,.int .i64 kk,.int .i64 k,.slice (b.ops.map Op.cells) .no,.int .i64 (b.ops.length:Int),.int .i64 j],OQ A (ck p e) (B++[.cells b.cells,.front 0 0])) ∧
   ((ex=.ret∧r=2∧(b.ops.drop i).all (WZ p)=false)∨(ex=.exit 4∧r=0∧(b.ops.drop i).all (WZ p)=true)):=by
 have hX:=xA (p:=p) (e:=e)
 have hB2:KB A (B++[.cells b.cells,.front 0 0]):=hB.app (by simp [mF.cells])
 have q1:∀h,lC.nO (HN A B+2) h (.ptr A.length 0)=.ptr A.length 0:=fun h=>pR Kr
 have q2:∀h,lC.nO (HN A B+2) h (.ptr (HN A B) 0)=.ptr (HN A B) 0:=fun h=>pR (by omega)
 have hn2:HN A (B++[.cells b.cells,.front 0 0])=HN A B+2:=by simp
 intro n
 induction n with
 | zero=>intro i a1 a2;omega
 | succ n ih =>
  intro i a1 a2
  rw [nM]
  by_cases hi:i<b.ops.length
  ·have hi':(i:Int)<b.ops.length:=by omega
   have hx:b.ops[i]?=some b.ops[i]:=ac6 hi
   have w1:=Cy (a:=i) (by omega)
   rw [ao4 hi]
   generalize b.ops[i]=y at *
   have hC:KB A ((B++[.cells b.cells,.front 0 0])++[.cells y.cells]):=hB2.app (by simp [Op.cells])
   have h70:=c19 (e:=e) hp hC y
   have htr:=s5 (X:=ck p e) (A:=A) (B:=B++[.cells b.cells,.front 0 0]) (C:=[.cells y.cells]) hB2 xA
   rw [hn2] at htr
   simp only [List.append_assoc,List.cons_append,ar5] at h70 htr
   simp only [List.all_cons]
   cases hs:WZ p y
   ·refine⟨.ret,2,i,?_,.inl ⟨rfl,rfl,rfl⟩⟩
    rw [hs] at h70
    simp only [Op.cells] at h70 htr hx ⊢
    simp -implicitDefEqProofs [NS,hi',hx,h70,lX,htr,q1,q2,Op.cells]
   ·obtain⟨ex,r,j,g1,g2⟩:=ih (i+1) (by omega) hi
    refine⟨ex,r,j,?_,by simpa using g2⟩
    rw [hs] at h70
    simp only [as1,ar6] at g1
    rw [←g1]
    simp only [Op.cells] at h70 htr hx ⊢
    simp -implicitDefEqProofs [NS,hi',hx,h70,lX,htr,q1,q2,w1,Op.cells]
  ·have hi':¬(i:Int)<b.ops.length:=by omega
   have htr:=p9 (X:=ck p e) (A:=A) (B:=B++[.cells b.cells,.front 0 0]) hB2 xA
   rw [hn2] at htr
   rw [List.drop_eq_nil_of_le (by omega)]
   refine⟨.exit 4,0,i,?_,.inr ⟨rfl,rfl,rfl⟩⟩
   simp -implicitDefEqProofs [NS,hi',lX,htr,q1,q2]
theorem WI (e:Int) (hops:∀b∈p.blocks,b.ops.length≤1048576):∀(n i:Nat),p.blocks.length<i+n→i≤p.blocks.length →
  ∃(ex:Ex) (r:Int) (j:Int),mX (JP KK (HN A B)) ([.int .i64 0,.ptr A.length 0,.slice (p.blocks.map mF.cells) .no,.int .i64 (p.blocks.length:Int),.int .i64 (i:Int)],OQ A (ck p e) B) =
   some (ex,[.int .i64 r,.ptr A.length 0,.slice (p.blocks.map mF.cells) .no,.int .i64 (p.blocks.length:Int),.int .i64 j],OQ A (ck p e) B) ∧
   ((ex=.ret∧r=2∧(p.blocks.drop i).all (Te p)=false)∨(ex=.exit 2∧r=0∧(p.blocks.drop i).all (Te p)=true)):=by
 have hX:=xA (p:=p) (e:=e)
 have q1:∀h,lC.nO (HN A B) h (.ptr A.length 0)=.ptr A.length 0:=fun h=>pR s4
 have hb1:=hp.b1
 intro n
 induction n with
 | zero=>intro i a1 a2;omega
 | succ n ih =>
  intro i a1 a2
  rw [nM]
  by_cases hi:i<p.blocks.length
  ·have hi':(i:Int)<p.blocks.length:=by omega
   have hx:p.blocks[i]?=some p.blocks[i]:=ac6 hi
   have hm:=hops p.blocks[i] (as2 hi)
   have w1:=Cy (a:=i) (by omega)
   rw [ao4 hi]
   generalize p.blocks[i]=y at *
   have hB2:KB A (B++[.cells y.cells,.front 0 0]):=hB.app (by simp [mF.cells])
   have h71:=c20 (e:=e) hp hB2 y.term
   have htr:=s5 (X:=ck p e) (A:=A) (B:=B) (C:=[.cells y.cells,.front 0 0]) hB xA
   obtain⟨ex,r,j,g1,g2⟩:=WH hp hq hB e y hm (i:Int) (p.blocks.length:Int) (y.ops.length+1) 0 (by omega) (Nat.zero_le _)
   simp only [List.drop_zero,ar6] at g1 g2
   simp only [List.all_cons,Te]
   rcases g2 with ⟨rfl,rfl,g2⟩ | ⟨rfl,rfl,g2⟩
   ·refine⟨.ret,2,i,?_,.inl ⟨rfl,rfl,by rw [g2];rfl⟩⟩
    simp only [mF.cells,Term.cells] at h71 htr hx g1 ⊢
    simp -implicitDefEqProofs [JP,hi',hx,g1,h71,lX,htr,q1,mF.cells]
   ·rw [g2]
    cases ht:Eb (p:=p) y.term
    ·refine⟨.ret,2,i,?_,.inl ⟨rfl,rfl,rfl⟩⟩
     rw [ht] at h71
     simp only [mF.cells,Term.cells] at h71 htr hx g1 ⊢
     simp -implicitDefEqProofs [JP,hi',hx,g1,h71,lX,htr,q1,mF.cells]
    ·obtain⟨ex,r,j,g3,g4⟩:=ih (i+1) (by omega) hi
     refine⟨ex,r,j,?_,by simpa [Te] using g4⟩
     rw [ht] at h71
     simp only [as1,ar6] at g3
     rw [←g3]
     simp only [mF.cells,Term.cells] at h71 htr hx g1 ⊢
     simp -implicitDefEqProofs [JP,hi',hx,g1,h71,lX,htr,q1,w1,mF.cells]
  ·have hi':¬(i:Int)<p.blocks.length:=by omega
   have htr:=p9 (X:=ck p e) (A:=A) (B:=B) hB xA
   rw [List.drop_eq_nil_of_le (by omega)]
   refine⟨.exit 2,0,i,?_,.inr ⟨rfl,rfl,rfl⟩⟩
   simp -implicitDefEqProofs [JP,hi',lX,htr,q1]
end
end
section
open Go Hk
theorem NY {l:List mF}{b:mF}(h:b∈l):(b.ops.length:Int)≤EY l:=by
 induction l with
 | nil=>cases h
 | cons x r ih =>
  have:=L8 r
  rcases List.mem_cons.1 h with rfl | h
  ·simp only [EY];omega
  ·have:=ih h;simp only [EY];omega
structure anG (p:IR):Prop where
 t1:p.temps≤1048576
 a1:(p.arrays.length:Int)≤1048576
 b1:(p.blocks.length:Int)≤1048576
 o1:EY p.blocks≤1048576
 r1:max p.out 0+xI p.arrays≤65536
theorem Bb {p:IR}:o9 p=true↔anG p:=by
 simp only [o9,am4,decide_eq_true_eq]
 exact⟨fun⟨⟨⟨⟨a,b⟩,c⟩,d⟩,e⟩=>⟨a,b,c,d,e⟩,fun h=>⟨⟨⟨⟨h.t1,h.a1⟩,h.b1⟩,h.o1⟩,h.r1⟩⟩
set_option maxHeartbeats 1000000 in
theorem c9 (p:IR) (h:lD):KK 9 [.agg p.cells] h=some (.ret (.int .i64 (oR p)),h):=by
 refine nG rfl rfl (oF (ao7 _ _ _) ?_)
 have h67:=c16 p
 unfold oR
 cases hl:o9 p
 ·rw [hl] at h67
  simp only [IR.cells] at h67 ⊢
  simp [m9,h67,mS]
 rw [hl] at h67
 obtain⟨l1,l2,l3,l4,l5⟩:=Bb.1 hl
 cases c1:mQ p.inn 0 65536
 ·simp only [IR.cells] at h67 ⊢
  simp [m9,h67,C9,c1,mS]
 cases c2:mQ p.out 0 65536
 ·simp only [IR.cells] at h67 ⊢
  simp [m9,h67,C9,c1,c2,mS]
 by_cases c3:p.inn.tmod 4=0
 case neg =>
  simp only [IR.cells] at h67 ⊢
  simp [m9,h67,C9,c1,c2,c3,rQ,mS]
 by_cases c4:p.out.tmod 4=0
 case neg =>
  simp only [IR.cells] at h67 ⊢
  simp [m9,h67,C9,c1,c2,c3,c4,rQ,mS]
 by_cases c5:0≤p.temps
 case neg =>
  have c5':p.temps<0:=by omega
  simp only [IR.cells] at h67 ⊢
  simp [m9,h67,C9,c1,c2,c3,c4,c5,c5',rQ,mS]
 by_cases c6:p.blocks=[]
 ·have c5':¬p.temps<0:=by omega
  simp only [IR.cells] at h67 ⊢
  rw [c6] at h67
  simp only [List.map_nil] at h67
  simp [m9,h67,C9,c1,c2,c3,c4,c5,c5',c6,rQ,mS]
 have c5':¬p.temps<0:=by omega
 have c6':¬(p.blocks.length:Int)=0:=by
  have:p.blocks.length≠0:=fun e=>c6 (List.eq_nil_of_length_eq_zero e)
  omega
 have hp:XX p:=by
  simp only [mQ,am4,decide_eq_true_eq] at c1 c2
  exact⟨c5,l1,l2,l3,c1.1,c1.2,c2.1,c2.2⟩
 have hB:KB [mC.cells p.cells] []:=⟨fun n hn=>by simp [IR.cells],fun n hn=>by simp⟩
 have hq:0 < [mC.cells p.cells].length:=by simp
 obtain⟨ex,r,e',j,g1,g2⟩:=WG hp hq hB (p.arrays.length+1) 0 0 (by omega) (Nat.zero_le _) (by omega)
 obtain⟨ex2,r2,j2,g3,g4⟩:=WI hp hq hB e' (fun b hb=>by have:=NY hb;omega) (p.blocks.length+1) 0 (by omega) (Nat.zero_le _)
 simp only [List.drop_zero,ar6,OQ,HN,aq8,List.length_nil,List.cons_append,ar5,ck,IR.cells,ar4,Nat.add_zero,Nat.reduceAdd] at g1 g2 g3 g4
 rcases g2 with ⟨rfl,rfl,g2⟩ | ⟨rfl,rfl,g2⟩
 ·simp only [IR.cells] at h67 ⊢
  simp [m9,h67,C9,c1,c2,c3,c4,c5,c5',c6,c6',rQ,mS,g1,g2]
 ·rcases g4 with ⟨rfl,rfl,g4⟩ | ⟨rfl,rfl,g4⟩
  ·simp only [IR.cells] at h67 ⊢
   simp [m9,h67,C9,c1,c2,c3,c4,c5,c5',c6,c6',rQ,mS,g1,g2,g3,g4]
  ·simp only [IR.cells] at h67 ⊢
   simp [m9,h67,C9,c1,c2,c3,c4,c5,c5',c6,c6',rQ,mS,g1,g2,g3,g4]
end
section
open Go Hk
section
variable (k:Int) (h:lD)
end
end
section
open Go Hk

end
noncomputable section
open Go Hk
def LY (K:lN) (m:Nat) (s:List lC×lD):Option R :=
 (fun aF aG aH aI aE aJ aK aL aD aB aC aA aM=>(lZ .lss aA aC).bind fun aP=>lS aP ((lU 1 aB aA).bind fun t70=>(lP false 1 aM t70).bind fun aQ=>(lU 1 aE aQ).bind fun aR=>(lP false 1 aM aR).bind fun t73=>lQ (lR 1 1 [(.slice [] .nil)] [(0,t73)] aM) fun aS aN=>lQ (nC 1 24 aN aD aS) fun aT aO=>(lZ .add aA (.int .i64 1)).bind fun aU=>lX m .normal [aF,aG,aH,aI,aE,aJ,aK,aL,aT,aB,aC,aU] aO) (lX m (.exit 4) [aF,aG,aH,aI,aE,aJ,aK,aL,aD,aB,aC,aA] aM)) (aa7 s.1 0 .junk) (aa7 s.1 1 .junk) (aa7 s.1 2 .junk) (aa7 s.1 3 .junk) (aa7 s.1 4 .junk) (aa7 s.1 5 .junk) (aa7 s.1 6 .junk) (aa7 s.1 7 .junk) (aa7 s.1 8 .junk) (aa7 s.1 9 .junk) (aa7 s.1 10 .junk) (aa7 s.1 11 .junk) s.2
def LZ (K:lN) (m:Nat) (s:List lC×lD):Option R :=
 (fun aD aE aF aG aH aI aJ aK aC aB aA aL=>(lZ .geq aA (.int .i64 0)).bind fun t133=>lS t133 ((lU 6 aB aA).bind fun t134=>(lP true 6 aL t134).bind fun t135=>lY (K 83 [t135,aC] aL) (fun t136 aM=>(lZ .sub aA (.int .i64 1)).bind fun t138=>lX m .normal [aD,aE,aF,aG,aH,aI,aJ,aK,t136,aB,t138] aM) (fun _ _=>none)) (lX m (.exit 6) [aD,aE,aF,aG,aH,aI,aJ,aK,aC,aB,aA] aL)) (aa7 s.1 0 .junk) (aa7 s.1 1 .junk) (aa7 s.1 2 .junk) (aa7 s.1 3 .junk) (aa7 s.1 4 .junk) (aa7 s.1 5 .junk) (aa7 s.1 6 .junk) (aa7 s.1 7 .junk) (aa7 s.1 8 .junk) (aa7 s.1 9 .junk) (aa7 s.1 10 .junk) s.2
def EO (K:lN) (m:Nat) (s:List lC×lD):Option R :=
 (fun aT bD bF bH bJ bL bM aO cK=>(lZ .geq aO (.int .i64 0)).bind fun dN=>lS dN (((fun(dO:lC) (cL:lD)=>(lO 2 aT).bind fun dP=>(lP false 1 cL dP).bind fun dQ=>(lU 5 dQ aO).bind fun dR=>(lO 1 dR).bind fun dS=>(lP true 4 cL dS).bind fun dU=>lY (K 80 [(lC.lL dU)] cL) (fun t53 dH=>(mP t53).bind fun dV=>(mX (LY K (aa8 dH)) ([aT,bD,bF,bH,bJ,bL,bM,aO,dO,t53,dV,(.int .i64 0)],dH)).bind fun aK=>(fun aM bE bG bI bK aN bN aE bP dE dF dG dI=>Ex.mO aK.1 none (fun dJ=>Ex.inBlock 4 dJ (lY (K 81 [(lC.lL bP)] dI) (fun dW dL=>(lU 1 aN aE).bind fun dX=>lQ (sB dL dW) fun dY dM=>(lW 1 dM dX dY).bind fun aP=>(lO 2 aM).bind fun aQ=>(lP false 1 aP aQ).bind fun cM=>(lU 5 cM aE).bind fun cN=>(lO 1 cN).bind fun aR=>(lP true 4 aP aR).bind fun cO=>(lU 1 aN aE).bind fun cP=>(lP false 1 aP cP).bind fun cQ=>lQ (lR 1 1 [(.slice [] .nil)] [(0,cQ)] (r_ (mI [0,1] [aQ,aR]) aP)) fun cR bY=>lY (K 81 [(lC.lL cR)] (r_ (mI [0,1] [aQ,aR]) (nL (mI [0,1] [aQ,aR]) aP bY))) (fun cS cG=>lY (K 82 [cO,cS] (nL (mI [0,1] [aQ,aR]) (nL (mI [0,1] [aQ,aR]) aP bY) cG)) (fun cT bC=>(lO 2 aM).bind fun cU=>(lP false 1 bC cU).bind fun cV=>(lU 5 cV aE).bind fun cW=>(lO 0 cW).bind fun cX=>(lP false 1 bC cX).bind fun cA=>(mP cA).bind fun cY=>(lZ .sub cY (.int .i64 1)).bind fun cZ=>(mX (LZ K (aa8 bC)) ([aM,bE,bG,bI,bK,aN,bN,aE,cT,cA,cZ],bC)).bind fun CX=>(fun aF aG aH aI aA aJ aZ aB aL cB cC bO=>Ex.mO CX.1 none (fun cD=>Ex.inBlock 6 cD ((lU 1 aA aB).bind fun c7=>(lP false 1 bO c7).bind fun c8=>lY (K 84 [(lC.lL aL),(lC.lL c8)] bO) (fun c_ bZ=>(xX .not c_).bind fun dA=>(lS dA ((lU 1 aA aB).bind fun dB=>lQ (sB bZ aL) fun dC cH=>(lW 1 cH dB dC).bind fun cI=>some (.normal,[aF,aG,aH,aI,aA,aJ,(.bool true),aB],cI)) (some (.normal,[aF,aG,aH,aI,aA,aJ,aZ,aB],bZ))).bind fun aC=>(fun bQ bR bS bT bU bV bW bX cJ=>Ex.qZ aC.1 (some (.normal,[bQ,bR,bS,bT,bU,bV,bW,bX],cJ))) (aa7 aC.2.1 0 .junk) (aa7 aC.2.1 1 .junk) (aa7 aC.2.1 2 .junk) (aa7 aC.2.1 3 .junk) (aa7 aC.2.1 4 .junk) (aa7 aC.2.1 5 .junk) (aa7 aC.2.1 6 .junk) (aa7 aC.2.1 7 .junk) aC.2.2) (fun _ _=>none)) (fun cE=>some (cE,[aF,aG,aH,aI,aA,aJ,aZ,aB],bO)))) (aa7 CX.2.1 0 .junk) (aa7 CX.2.1 1 .junk) (aa7 CX.2.1 2 .junk) (aa7 CX.2.1 3 .junk) (aa7 CX.2.1 4 .junk) (aa7 CX.2.1 5 .junk) (aa7 CX.2.1 6 .junk) (aa7 CX.2.1 7 .junk) (aa7 CX.2.1 8 .junk) (aa7 CX.2.1 9 .junk) (aa7 CX.2.1 10 .junk) CX.2.2) (fun _ _=>none)) (fun _ _=>none)) (fun _ _=>none)) (fun dK=>some (dK,[aM,bE,bG,bI,bK,aN,bN,aE],dI)))) (aa7 aK.2.1 0 .junk) (aa7 aK.2.1 1 .junk) (aa7 aK.2.1 2 .junk) (aa7 aK.2.1 3 .junk) (aa7 aK.2.1 4 .junk) (aa7 aK.2.1 5 .junk) (aa7 aK.2.1 6 .junk) (aa7 aK.2.1 7 .junk) (aa7 aK.2.1 8 .junk) (aa7 aK.2.1 9 .junk) (aa7 aK.2.1 10 .junk) (aa7 aK.2.1 11 .junk) aK.2.2) (fun _ _=>none)) (.slice [] (.own (aa8 cK))) (cK++[.front 0 0])).bind fun aD=>(fun aS aU aV aW aX aY a_ bB b_=>Ex.inBlock 3 aD.1 ((lZ .sub bB (.int .i64 1)).bind fun dD=>lX m .normal [aS,aU,aV,aW,aX,aY,a_,dD] b_) (fun cF=>lX m cF [aS,aU,aV,aW,aX,aY,a_,bB] b_)) (aa7 aD.2.1 0 .junk) (aa7 aD.2.1 1 .junk) (aa7 aD.2.1 2 .junk) (aa7 aD.2.1 3 .junk) (aa7 aD.2.1 4 .junk) (aa7 aD.2.1 5 .junk) (aa7 aD.2.1 6 .junk) (aa7 aD.2.1 7 .junk) aD.2.2) (lX m (.exit 2) [aT,bD,bF,bH,bJ,bL,bM,aO] cK)) (aa7 s.1 0 .junk) (aa7 s.1 1 .junk) (aa7 s.1 2 .junk) (aa7 s.1 3 .junk) (aa7 s.1 4 .junk) (aa7 s.1 5 .junk) (aa7 s.1 6 .junk) (aa7 s.1 7 .junk) s.2
def L0 (K:lN) (m:Nat) (s:List lC×lD):Option R :=
 (fun aE aR aS aT aU aV aW aZ=>lS aW (((lO 2 aE).bind fun t32=>(lP false 1 aZ t32).bind fun bE=>(mP bE).bind fun bF=>(lZ .sub bF (.int .i64 1)).bind fun bG=>(mX (EO K (aa8 aZ)) ([aE,aR,aS,aT,aU,aV,(.bool false),bG],aZ)).bind fun aA=>(fun aC aF aH aJ aL aN aP bD aX=>Ex.mO aA.1 none (fun a_=>Ex.inBlock 2 a_ (some (.normal,[aC,aF,aH,aJ,aL,aN,aP],aX)) (fun bB=>some (bB,[aC,aF,aH,aJ,aL,aN,aP],aX)))) (aa7 aA.2.1 0 .junk) (aa7 aA.2.1 1 .junk) (aa7 aA.2.1 2 .junk) (aa7 aA.2.1 3 .junk) (aa7 aA.2.1 4 .junk) (aa7 aA.2.1 5 .junk) (aa7 aA.2.1 6 .junk) (aa7 aA.2.1 7 .junk) aA.2.2).bind fun aB=>(fun aD aG aI aK aM aO aQ aY=>Ex.inBlock 1 aB.1 (lX m .normal [aD,aG,aI,aK,aM,aO,aQ] aY) (fun bC=>lX m bC [aD,aG,aI,aK,aM,aO,aQ] aY)) (aa7 aB.2.1 0 .junk) (aa7 aB.2.1 1 .junk) (aa7 aB.2.1 2 .junk) (aa7 aB.2.1 3 .junk) (aa7 aB.2.1 4 .junk) (aa7 aB.2.1 5 .junk) (aa7 aB.2.1 6 .junk) aB.2.2) (lX m (.exit 0) [aE,aR,aS,aT,aU,aV,aW] aZ)) (aa7 s.1 0 .junk) (aa7 s.1 1 .junk) (aa7 s.1 2 .junk) (aa7 s.1 3 .junk) (aa7 s.1 4 .junk) (aa7 s.1 5 .junk) (aa7 s.1 6 .junk) s.2
def L3 (K:lN) (m:Nat) (s:List lC×lD):Option R :=
 (fun aI aJ aK aE aF aG aH aB aA aD=>(lZ .lss aA aB).bind fun aR=>lS aR ((lU 1 aE aA).bind fun aS=>(lP false 1 aD aS).bind fun aT=>(lU 1 aF aA).bind fun aC=>(lP false 1 aD aC).bind fun aU=>lY (K 85 [(lC.lL aT)] (r_ (mI [0] [aC]) aD)) (fun aV aL=>lQ (lR 1 1 [(.slice [] .nil)] [(0,aV)] (r_ (mI [0] [aC]) (nL (mI [0] [aC]) aD aL))) fun aW aM=>lQ (nC 1 24 (r_ (mI [0] [aC]) (nL (mI [0] [aC]) (nL (mI [0] [aC]) aD aL) aM)) aG aW) fun aX aN=>lY (K 85 [(lC.lL aU)] (nL (mI [0] [aC]) (nL (mI [0] [aC]) (nL (mI [0] [aC]) aD aL) aM) aN)) (fun aY aO=>lQ (lR 1 1 [(.slice [] .nil)] [(0,aY)] aO) fun aZ aP=>lQ (nC 1 24 aP aH aZ) fun a_ aQ=>(lZ .add aA (.int .i64 1)).bind fun bB=>lX m .normal [aI,aJ,aK,aE,aF,aX,a_,aB,bB] aQ) (fun _ _=>none)) (fun _ _=>none)) (lX m (.exit 8) [aI,aJ,aK,aE,aF,aG,aH,aB,aA] aD)) (aa7 s.1 0 .junk) (aa7 s.1 1 .junk) (aa7 s.1 2 .junk) (aa7 s.1 3 .junk) (aa7 s.1 4 .junk) (aa7 s.1 5 .junk) (aa7 s.1 6 .junk) (aa7 s.1 7 .junk) (aa7 s.1 8 .junk) s.2
def m71 (K:lN) (a0:lC) (h0:lD):Option (nB×lD) :=
 (lQ (nA 5 h0 a0) fun t0 h1=>(fun(t3:lC) (h2:lD)=>(fun(t5:lC) (h4:lD)=>(lP true 5 h4 t0).bind fun t6=>lY (K 9 [(lC.lL t6)] h4) (fun t7 h8=>(lZ .neq t7 (.int .i64 0)).bind fun t9=>lS t9 ((fun(bO:lC) (bK:lD)=>(fun(t13:lC) (bN:lD)=>some (.ret,[bO,t13,t7],bN)) (.slice [] (.own (aa8 bK))) (bK++[.front 0 0])) (.slice [] (.own (aa8 h8))) (h8++[.front 0 0])) ((lO 2 t0).bind fun t14=>(lP false 1 h8 t14).bind fun t15=>(mP t15).bind fun bP=>lQ (qM 1 24 [(.slice [] .nil)] bP h8) fun bQ bL=>(lO 2 t0).bind fun bR=>(lP false 1 bL bR).bind fun bS=>(mP bS).bind fun bT=>lQ (qM 1 24 [(.slice [] .nil)] bT bL) fun bU bM=>(mX (L0 K (aa8 bM)) ([t0,t3,t5,(.int .i64 0),bQ,bU,(.bool true)],bM)).bind fun aB=>(fun aK aD aE aF aR aS bJ aI=>Ex.mO aB.1 none (fun aX=>Ex.inBlock 0 aX ((fun(bC:lC) (aT:lD)=>(fun(bD:lC) (aJ:lD)=>(lO 2 aK).bind fun bE=>(lP false 1 aJ bE).bind fun bF=>(mP bF).bind fun bG=>(mX (L3 K (aa8 aJ)) ([aD,aE,aF,aR,aS,bC,bD,bG,(.int .i64 0)],aJ)).bind fun aA=>(fun aL aN aP bH bI aG aH aV aW aU=>Ex.mO aA.1 none (fun aZ=>Ex.inBlock 8 aZ (some (.ret,[aG,aH,(.int .i64 0)],aU)) (fun a_=>some (a_,[aL,aN,aP],aU)))) (aa7 aA.2.1 0 .junk) (aa7 aA.2.1 1 .junk) (aa7 aA.2.1 2 .junk) (aa7 aA.2.1 3 .junk) (aa7 aA.2.1 4 .junk) (aa7 aA.2.1 5 .junk) (aa7 aA.2.1 6 .junk) (aa7 aA.2.1 7 .junk) (aa7 aA.2.1 8 .junk) aA.2.2) (.slice [] (.own (aa8 aT))) (aT++[.front 0 0])) (.slice [] (.own (aa8 aI))) (aI++[.front 0 0])) (fun aY=>some (aY,[aD,aE,aF],aI)))) (aa7 aB.2.1 0 .junk) (aa7 aB.2.1 1 .junk) (aa7 aB.2.1 2 .junk) (aa7 aB.2.1 3 .junk) (aa7 aB.2.1 4 .junk) (aa7 aB.2.1 5 .junk) (aa7 aB.2.1 6 .junk) aB.2.2)) (fun _ _=>none)) (.slice [] (.own (aa8 h2))) (h2++[.front 0 0])) (.slice [] (.own (aa8 h1))) (h1++[.front 0 0])).bind fun aC=>(fun aM aO aQ bB=>Ex.nR aC.1 (nJ (aa8 h0) (.tuple [aM,aO,aQ]) bB)) (aa7 aC.2.1 0 .junk) (aa7 aC.2.1 1 .junk) (aa7 aC.2.1 2 .junk) aC.2.2
theorem aiK (K:lN) (a0:lC) (h0:lD):qG Tryz.prog mY mX K 71 [a0] h0=m71 (mH mY K) a0 h0:=by kernel_rfl
def m80 (K:lN) (a0:lC) (h0:lD):Option (nB×lD) :=
 (lQ (nA 4 h0 a0) fun t0 h1=>(fun(t3:lC) (h2:lD)=>(fun(t5:lC) (h4:lD)=>(lO 0 t0).bind fun t6=>(lP false 1 h4 t6).bind fun t7=>(lZ .eql t7 (.int .i64 1)).bind fun t8=>(lS t8 ((lO 2 t0).bind fun t9=>(lP false 1 h4 t9).bind fun aM=>lQ (rL 1 1 [(.int .i64 0)] [(0,aM)] h4) fun aN aG=>some (.normal,[t3,aN],aG)) ((lZ .eql t7 (.int .i64 2)).bind fun t13=>(lS t13 ((lO 2 t0).bind fun t14=>(lP false 1 h4 t14).bind fun t15=>(lO 3 t0).bind fun aO=>(lP false 1 h4 aO).bind fun aP=>lQ (rL 2 1 [(.int .i64 0)] [(0,t15),(1,aP)] h4) fun aQ aH=>some (.normal,[t3,aQ],aH)) (some (.normal,[t3,t5],h4))).bind fun aE=>(fun aA aC aI=>Ex.qZ aE.1 (some (.normal,[aA,aC],aI))) (aa7 aE.2.1 0 .junk) (aa7 aE.2.1 1 .junk) aE.2.2)).bind fun Ap=>(fun aF aD aJ=>Ex.qZ Ap.1 (lY (K 96 [(lC.lL aD),(lC.lL (.func 97 [] []))] aJ) (fun t28 aK=>some (.ret,[t28],aK)) (fun _ _=>none))) (aa7 Ap.2.1 0 .junk) (aa7 Ap.2.1 1 .junk) Ap.2.2) (.slice [] (.own (aa8 h2))) (h2++[.front 0 0])) (.slice [] (.own (aa8 h1))) (h1++[.front 0 0])).bind fun Eh=>(fun aB aL=>Ex.nR Eh.1 (nJ (aa8 h0) aB aL)) (aa7 Eh.2.1 0 .junk) Eh.2.2
theorem aiM (K:lN) (a0:lC) (h0:lD):qG Tryz.prog mY mX K 80 [a0] h0=m80 (mH mY K) a0 h0:=by kernel_rfl
def EP (K:lN) (m:Nat) (s:List lC×lD):Option R :=
 (fun aD aB aC aE aF aA aG=>(mP aB).bind fun aJ=>(mP aC).bind fun aK=>(lZ .lss aJ aK).bind fun t23=>lS t23 (lQ (lR 1 1 [(.int .u64 0)] [(0,(.int .u64 0))] aG) fun t24 aH=>lQ (n_ 1 8 aH aB t24) fun t26 aI=>lX m .normal [aD,t26,aC,aE,aF,aA] aI) (lX m (.exit 2) [aD,aB,aC,aE,aF,aA] aG)) (aa7 s.1 0 .junk) (aa7 s.1 1 .junk) (aa7 s.1 2 .junk) (aa7 s.1 3 .junk) (aa7 s.1 4 .junk) (aa7 s.1 5 .junk) s.2
def ER (K:lN) (m:Nat) (s:List lC×lD):Option R :=
 (fun aF aD aG aH aE aB aC aA aI=>(lZ .lss aA aC).bind fun aK=>lS aK ((lU 1 aB aA).bind fun aL=>(lP false 1 aI aL).bind fun aM=>(lU 1 aD aA).bind fun aN=>(lP false 1 aI aN).bind fun aO=>(lZ .or aO aM).bind fun t53=>(lU 1 aD aA).bind fun aP=>(lW 1 aI aP t53).bind fun aJ=>(lZ .add aA (.int .i64 1)).bind fun aQ=>lX m .normal [aF,aD,aG,aH,aE,aB,aC,aQ] aJ) (lX m (.exit 4) [aF,aD,aG,aH,aE,aB,aC,aA] aI)) (aa7 s.1 0 .junk) (aa7 s.1 1 .junk) (aa7 s.1 2 .junk) (aa7 s.1 3 .junk) (aa7 s.1 4 .junk) (aa7 s.1 5 .junk) (aa7 s.1 6 .junk) (aa7 s.1 7 .junk) s.2
def ES (K:lN) (m:Nat) (s:List lC×lD):Option R :=
 (fun aV aW aT aU aA aX=>(lZ .lss aA aU).bind fun bJ=>lS bJ (((lU 1 aT aA).bind fun t12=>(lP false 1 aX t12).bind fun t13=>(mX (EP K (aa8 aX)) ([aV,aW,t13,aT,aU,aA],aX)).bind fun Cq=>(fun aF aI aL aM aP aB aY=>Ex.mO Cq.1 none (fun bE=>Ex.inBlock 2 bE ((mP aL).bind fun bK=>(mX (ER K (aa8 aY)) ([aF,aI,aM,aP,aB,aL,bK,(.int .i64 0)],aY)).bind fun aE=>(fun aG aJ aN aQ aC aZ a_ bB bC=>Ex.mO aE.1 none (fun bG=>Ex.inBlock 4 bG (some (.normal,[aG,aJ,aN,aQ,aC],bC)) (fun bH=>some (bH,[aG,aJ,aN,aQ,aC],bC)))) (aa7 aE.2.1 0 .junk) (aa7 aE.2.1 1 .junk) (aa7 aE.2.1 2 .junk) (aa7 aE.2.1 3 .junk) (aa7 aE.2.1 4 .junk) (aa7 aE.2.1 5 .junk) (aa7 aE.2.1 6 .junk) (aa7 aE.2.1 7 .junk) aE.2.2) (fun bF=>some (bF,[aF,aI,aM,aP,aB],aY)))) (aa7 Cq.2.1 0 .junk) (aa7 Cq.2.1 1 .junk) (aa7 Cq.2.1 2 .junk) (aa7 Cq.2.1 3 .junk) (aa7 Cq.2.1 4 .junk) (aa7 Cq.2.1 5 .junk) Cq.2.2).bind fun aS=>(fun aH aK aO aR aD bD=>Ex.inBlock 1 aS.1 ((lZ .add aD (.int .i64 1)).bind fun bL=>lX m .normal [aH,aK,aO,aR,bL] bD) (fun bI=>lX m bI [aH,aK,aO,aR,aD] bD)) (aa7 aS.2.1 0 .junk) (aa7 aS.2.1 1 .junk) (aa7 aS.2.1 2 .junk) (aa7 aS.2.1 3 .junk) (aa7 aS.2.1 4 .junk) aS.2.2) (lX m (.exit 0) [aV,aW,aT,aU,aA] aX)) (aa7 s.1 0 .junk) (aa7 s.1 1 .junk) (aa7 s.1 2 .junk) (aa7 s.1 3 .junk) (aa7 s.1 4 .junk) s.2
def m81 (K:lN) (a0:lC) (h0:lD):Option (nB×lD) :=
 ((fun(t1:lC) (h0:lD)=>(fun(t3:lC) (h2:lD)=>(mP a0).bind fun t4=>(mX (ES K (aa8 h2)) ([t1,t3,a0,t4,(.int .i64 0)],h2)).bind fun aA=>(fun aB aD aH aI aF aG=>Ex.mO aA.1 none (fun aJ=>Ex.inBlock 0 aJ (some (.ret,[aD],aG)) (fun aK=>some (aK,[aB],aG)))) (aa7 aA.2.1 0 .junk) (aa7 aA.2.1 1 .junk) (aa7 aA.2.1 2 .junk) (aa7 aA.2.1 3 .junk) (aa7 aA.2.1 4 .junk) aA.2.2) (.slice [] (.own (aa8 h0))) (h0++[.front 0 0])) (.slice [] (.own (aa8 h0))) (h0++[.front 0 0])).bind fun aE=>(fun aC aL=>Ex.nR aE.1 (some (.ret aC,aL))) (aa7 aE.2.1 0 .junk) aE.2.2
theorem aiN (K:lN) (a0:lC) (h0:lD):qG Tryz.prog mY mX K 81 [a0] h0=m81 (mH mY K) a0 h0:=by kernel_rfl
def m82 (K:lN) (a0 a1:lC) (h0:lD):Option (nB×lD) :=
 (lQ (nA 4 h0 a0) fun t0 h1=>(fun(t3:lC) (h2:lD)=>(lO 0 t0).bind fun t4=>(lP false 1 h2 t4).bind fun t5=>(lZ .eql t5 (.int .i64 2)).bind fun t6=>(lJ true t6 ((lO 1 t0).bind fun t7=>lV t7 h2) (lV (.tuple []) h2)).bind (l9 (fun t8 h9=>(lJ true t6 ((lP false 1 h9 t8).bind fun aG=>lV aG h9) (lV (.tuple []) h9)).bind (l9 (fun aH aD=>(lJ true t6 ((lZ .geq aH (.int .i64 0)).bind fun t13=>lV t13 aD) (lV (.tuple []) aD)).bind (l9 (fun t14 aB=>(mJ t6 t14 (.bool false)).bind fun aI=>lS aI ((lO 1 t0).bind fun aJ=>(lP false 1 aB aJ).bind fun aK=>lY (K 98 [a1,aK] aB) (fun aL aE=>some (.ret,[aL],aE)) (fun _ _=>none)) (some (.ret,[a1],aB))) (fun _ _=>none))) (fun _ _=>none))) (fun _ _=>none))) (.slice [] (.own (aa8 h1))) (h1++[.front 0 0])).bind fun aC=>(fun aA aF=>Ex.nR aC.1 (some (.ret aA,aF))) (aa7 aC.2.1 0 .junk) aC.2.2
theorem aiO (K:lN) (a0 a1:lC) (h0:lD):qG Tryz.prog mY mX K 82 [a0,a1] h0=m82 (mH mY K) a0 a1 h0:=by kernel_rfl
def CR (K:lN) (m:Nat) (s:List lC×lD):Option R :=
 (fun aD aE aB aC aA aL=>(lZ .lss aA aC).bind fun t36=>lS t36 ((lU 1 aB aA).bind fun aP=>(lP false 1 aL aP).bind fun aM=>(lZ .geq aM (.int .i64 0)).bind fun aQ=>(lS aQ (lY (K 98 [aD,aM] aL) (fun aR aN=>some (.normal,[aR,aE,aB,aC,aA],aN)) (fun _ _=>none)) (some (.normal,[aD,aE,aB,aC,aA],aL))).bind fun aF=>(fun aJ aK aG aH aI aO=>Ex.qZ aF.1 ((lZ .add aI (.int .i64 1)).bind fun aS=>lX m .normal [aJ,aK,aG,aH,aS] aO)) (aa7 aF.2.1 0 .junk) (aa7 aF.2.1 1 .junk) (aa7 aF.2.1 2 .junk) (aa7 aF.2.1 3 .junk) (aa7 aF.2.1 4 .junk) aF.2.2) (lX m (.exit 0) [aD,aE,aB,aC,aA] aL)) (aa7 s.1 0 .junk) (aa7 s.1 1 .junk) (aa7 s.1 2 .junk) (aa7 s.1 3 .junk) (aa7 s.1 4 .junk) s.2
def m83 (K:lN) (a0 a1:lC) (h0:lD):Option (nB×lD) :=
 (lQ (nA 6 h0 a0) fun t0 h1=>(fun(t3:lC) (h2:lD)=>(lP true 6 h2 t0).bind fun t4=>lY (K 73 [(lC.lL t4)] h2) (fun t5 h6=>(lJ true t5 ((lO 1 t0).bind fun t7=>lV t7 h6) (lV (.tuple []) h6)).bind (l9 (fun t8 h9=>(lJ true t5 ((lP false 1 h9 t8).bind fun aW=>lV aW h9) (lV (.tuple []) h9)).bind (l9 (fun aX aN=>(lJ true t5 ((lZ .geq aX (.int .i64 0)).bind fun t13=>lV t13 aN) (lV (.tuple []) aN)).bind (l9 (fun t14 aI=>(mJ t5 t14 (.bool false)).bind fun aY=>(lS aY ((lO 1 t0).bind fun aZ=>(lP false 1 aI aZ).bind fun a_=>lY (K 99 [(lC.lL a1),(lC.lL a_)] aI) (fun bB aU=>some (.normal,[a1,t0,t3],aU)) (fun _ _=>none)) (some (.normal,[a1,t0,t3],aI))).bind fun aB=>(fun aC aE aF aO=>Ex.qZ aB.1 ((lP true 6 aO aE).bind fun t26=>lY (K 36 [(lC.lL t26)] aO) (fun aR aP=>(mP aR).bind fun t29=>(mX (CR K (aa8 aP)) ([aC,aF,aR,t29,(.int .i64 0)],aP)).bind fun aA=>(fun aD aG aK aL aM aQ=>Ex.mO aA.1 none (fun aS=>Ex.inBlock 0 aS (some (.ret,[aD],aQ)) (fun aT=>some (aT,[aG],aQ)))) (aa7 aA.2.1 0 .junk) (aa7 aA.2.1 1 .junk) (aa7 aA.2.1 2 .junk) (aa7 aA.2.1 3 .junk) (aa7 aA.2.1 4 .junk) aA.2.2) (fun _ _=>none))) (aa7 aB.2.1 0 .junk) (aa7 aB.2.1 1 .junk) (aa7 aB.2.1 2 .junk) aB.2.2) (fun _ _=>none))) (fun _ _=>none))) (fun _ _=>none))) (fun _ _=>none)) (.slice [] (.own (aa8 h1))) (h1++[.front 0 0])).bind fun aJ=>(fun aH aV=>Ex.nR aJ.1 (some (.ret aH,aV))) (aa7 aJ.2.1 0 .junk) aJ.2.2
theorem aiP (K:lN) (a0 a1:lC) (h0:lD):qG Tryz.prog mY mX K 83 [a0,a1] h0=m83 (mH mY K) a0 a1 h0:=by kernel_rfl
def m84 (K:lN) (a0 a1:lC) (h0:lD):Option (nB×lD) :=
 (lY (K 85 [(lC.lL a0)] h0) (fun t0 h1=>lY (K 85 [(lC.lL a1)] h1) (fun t2 h3=>lY (K 100 [(lC.lL t0),(lC.lL t2)] h3) (fun t4 h5=>some (.ret,[t4],h5)) (fun _ _=>none)) (fun _ _=>none)) (fun _ _=>none)).bind fun r6=>(fun aA h8=>Ex.nR r6.1 (nJ (aa8 h0) aA h8)) (aa7 r6.2.1 0 .junk) r6.2.2
theorem aiQ (K:lN) (a0 a1:lC) (h0:lD):qG Tryz.prog mY mX K 84 [a0,a1] h0=m84 (mH mY K) a0 a1 h0:=by kernel_rfl
def ET (K:lN) (m:Nat) (s:List lC×lD):Option R :=
 (fun aC aD aB aA aE aF aG aH=>(lZ .neq aA (.int .u64 0)).bind fun aL=>lS aL ((lZ .mul (.int .i64 64) aB).bind fun t23=>lY (K 101 [(lC.lL aA)] aH) (fun t24 aI=>(lZ .add t23 t24).bind fun t26=>lQ (lR 1 1 [(.int .i64 0)] [(0,t26)] aI) fun aM aJ=>lQ (nC 1 8 aJ aD aM) fun t29 aK=>(lZ .sub aA (.int .u64 1)).bind fun t31=>(lZ .and aA t31).bind fun t32=>lX m .normal [aC,t29,aB,t32,aE,aF,aG] aK) (fun _ _=>none)) (lX m (.exit 2) [aC,aD,aB,aA,aE,aF,aG] aH)) (aa7 s.1 0 .junk) (aa7 s.1 1 .junk) (aa7 s.1 2 .junk) (aa7 s.1 3 .junk) (aa7 s.1 4 .junk) (aa7 s.1 5 .junk) (aa7 s.1 6 .junk) s.2
def EU (K:lN) (m:Nat) (s:List lC×lD):Option R :=
 (fun aP aQ aN aO aA aR=>(lZ .lss aA aO).bind fun aZ=>lS aZ (((lU 1 aN aA).bind fun t12=>(lP false 1 aR t12).bind fun t13=>(mX (ET K (aa8 aR)) ([aP,aQ,aA,t13,aN,aO,aA],aR)).bind fun aB=>(fun aC aE aU aV aG aI aK aS=>Ex.mO aB.1 none (fun aW=>Ex.inBlock 2 aW (some (.normal,[aC,aE,aG,aI,aK],aS)) (fun aX=>some (aX,[aC,aE,aG,aI,aK],aS)))) (aa7 aB.2.1 0 .junk) (aa7 aB.2.1 1 .junk) (aa7 aB.2.1 2 .junk) (aa7 aB.2.1 3 .junk) (aa7 aB.2.1 4 .junk) (aa7 aB.2.1 5 .junk) (aa7 aB.2.1 6 .junk) aB.2.2).bind fun aM=>(fun aD aF aH aJ aL aT=>Ex.inBlock 1 aM.1 ((lZ .add aL (.int .i64 1)).bind fun a_=>lX m .normal [aD,aF,aH,aJ,a_] aT) (fun aY=>lX m aY [aD,aF,aH,aJ,aL] aT)) (aa7 aM.2.1 0 .junk) (aa7 aM.2.1 1 .junk) (aa7 aM.2.1 2 .junk) (aa7 aM.2.1 3 .junk) (aa7 aM.2.1 4 .junk) aM.2.2) (lX m (.exit 0) [aP,aQ,aN,aO,aA] aR)) (aa7 s.1 0 .junk) (aa7 s.1 1 .junk) (aa7 s.1 2 .junk) (aa7 s.1 3 .junk) (aa7 s.1 4 .junk) s.2
def m85 (K:lN) (a0:lC) (h0:lD):Option (nB×lD) :=
 ((fun(t1:lC) (h0:lD)=>(fun(t3:lC) (h2:lD)=>(mP a0).bind fun t4=>(mX (EU K (aa8 h2)) ([t1,t3,a0,t4,(.int .i64 0)],h2)).bind fun Ml=>(fun aA aC aF aG aH aE=>Ex.mO Ml.1 none (fun aI=>Ex.inBlock 0 aI (some (.ret,[aC],aE)) (fun aJ=>some (aJ,[aA],aE)))) (aa7 Ml.2.1 0 .junk) (aa7 Ml.2.1 1 .junk) (aa7 Ml.2.1 2 .junk) (aa7 Ml.2.1 3 .junk) (aa7 Ml.2.1 4 .junk) Ml.2.2) (.slice [] (.own (aa8 h0))) (h0++[.front 0 0])) (.slice [] (.own (aa8 h0))) (h0++[.front 0 0])).bind fun aD=>(fun aB aK=>Ex.nR aD.1 (nJ (aa8 h0) aB aK)) (aa7 aD.2.1 0 .junk) aD.2.2
theorem aiR (K:lN) (a0:lC) (h0:lD):qG Tryz.prog mY mX K 85 [a0] h0=m85 (mH mY K) a0 h0:=by kernel_rfl
def CS (K:lN) (m:Nat) (s:List lC×lD):Option R :=
 (fun aB aC aE aD aA aL=>(mP aB).bind fun t12=>(lZ .lss aA t12).bind fun t13=>lS t13 ((lU 1 aB aA).bind fun t14=>(lP false 1 aL t14).bind fun t15=>(qO aC).bind fun aK=>lY (qQ mY K aK.1 (oT mY aK.1 (aK.2.1++[t15]++aK.2.2)) aL) (fun aP aM=>(xX .not aP).bind fun aQ=>(lS aQ ((lU 1 aB aD).bind fun aR=>(lW 1 aM aR t15).bind fun aN=>(lZ .add aD (.int .i64 1)).bind fun aS=>some (.normal,[aB,aC,aE,aS,aA],aN)) (some (.normal,[aB,aC,aE,aD,aA],aM))).bind fun Sp=>(fun aF aG aH aI aJ aO=>Ex.qZ Sp.1 ((lZ .add aJ (.int .i64 1)).bind fun t30=>lX m .normal [aF,aG,aH,aI,t30] aO)) (aa7 Sp.2.1 0 .junk) (aa7 Sp.2.1 1 .junk) (aa7 Sp.2.1 2 .junk) (aa7 Sp.2.1 3 .junk) (aa7 Sp.2.1 4 .junk) Sp.2.2) (fun _ _=>none)) (lX m (.exit 0) [aB,aC,aE,aD,aA] aL)) (aa7 s.1 0 .junk) (aa7 s.1 1 .junk) (aa7 s.1 2 .junk) (aa7 s.1 3 .junk) (aa7 s.1 4 .junk) s.2
def m96 (K:lN) (a0 a1:lC) (h0:lD):Option (nB×lD) :=
 ((fun(t1:lC) (h0:lD)=>lY (K 107 [(lC.lL a0),(lC.lL a1)] h0) (fun t2 h3=>(lZ .eql t2 (.int .i64 (-1))).bind fun t4=>lS t4 (some (.ret,[a0],h3)) ((lZ .add t2 (.int .i64 1)).bind fun t5=>(mX (CS K (aa8 h3)) ([a0,a1,t1,t2,t5],h3)).bind fun C_=>(fun aA aG aC aB aH aF=>Ex.mO C_.1 none (fun aI=>Ex.inBlock 0 aI ((oI 1 aA (some aB) none).bind fun aM=>(CF 1 [(.int .i64 0)] aF aM).bind fun aK=>(oI 1 aA none (some aB)).bind fun aN=>some (.ret,[aN],aK)) (fun aJ=>some (aJ,[aC],aF)))) (aa7 C_.2.1 0 .junk) (aa7 C_.2.1 1 .junk) (aa7 C_.2.1 2 .junk) (aa7 C_.2.1 3 .junk) (aa7 C_.2.1 4 .junk) C_.2.2)) (fun _ _=>none)) (.slice [] (.own (aa8 h0))) (h0++[.front 0 0])).bind fun aE=>(fun aD aL=>Ex.nR aE.1 (nJ (aa8 h0) aD aL)) (aa7 aE.2.1 0 .junk) aE.2.2
theorem QI (K:lN) (a0 a1:lC) (h0:lD):qG Tryz.prog mY mX K 96 [a0,a1] h0=m96 (mH mY K) a0 a1 h0:=by kernel_rfl
def m97 (K:lN) (a0:lC) (h0:lD):Option (nB×lD) :=
 ((lZ .eql a0 (.int .i64 (-1))).bind fun t0=>some (.ret,[t0],h0)).bind fun r1=>(fun aA h3=>Ex.nR r1.1 (nJ (aa8 h0) aA h3)) (aa7 r1.2.1 0 .junk) r1.2.2
theorem aiS (K:lN) (a0:lC) (h0:lD):qG Tryz.prog mY mX K 97 [a0] h0=m97 (mH mY K) a0 h0:=by kernel_rfl
def EV (K:lN) (m:Nat) (s:List lC×lD):Option R :=
 (fun aA aB aC h5=>(lZ .quo aB (.int .i64 64)).bind fun t6=>(mP aA).bind fun t7=>(lZ .geq t6 t7).bind fun t8=>lS t8 (lQ (lR 1 1 [(.int .u64 0)] [(0,(.int .u64 0))] h5) fun t9 aD=>lQ (n_ 1 8 aD aA t9) fun aF aE=>lX m .normal [aF,aB,aC] aE) (lX m (.exit 0) [aA,aB,aC] h5)) (aa7 s.1 0 .junk) (aa7 s.1 1 .junk) (aa7 s.1 2 .junk) s.2
def m98 (K:lN) (a0 a1:lC) (h0:lD):Option (nB×lD) :=
 ((fun(t1:lC) (h0:lD)=>(mX (EV K (aa8 h0)) ([a0,a1,t1],h0)).bind fun TY=>(fun aA aB aC aE=>Ex.mO TY.1 none (fun aG=>Ex.inBlock 0 aG ((lZ .quo aB (.int .i64 64)).bind fun aF=>(lU 1 aA aF).bind fun aK=>(lP false 1 aE aK).bind fun aL=>(lZ .rem aB (.int .i64 64)).bind fun t23=>(lZ .shl (.int .u64 1) t23).bind fun t24=>(lZ .or aL t24).bind fun aM=>(lU 1 aA aF).bind fun t26=>(lW 1 aE t26 aM).bind fun aI=>some (.ret,[aA],aI)) (fun aH=>some (aH,[aC],aE)))) (aa7 TY.2.1 0 .junk) (aa7 TY.2.1 1 .junk) (aa7 TY.2.1 2 .junk) TY.2.2) (.slice [] (.own (aa8 h0))) (h0++[.front 0 0])).bind fun Cq=>(fun aD aJ=>Ex.nR Cq.1 (some (.ret aD,aJ))) (aa7 Cq.2.1 0 .junk) Cq.2.2
theorem aiT (K:lN) (a0 a1:lC) (h0:lD):qG Tryz.prog mY mX K 98 [a0,a1] h0=m98 (mH mY K) a0 a1 h0:=by kernel_rfl
def m99 (K:lN) (a0 a1:lC) (h0:lD):Option (nB×lD) :=
 ((lZ .quo a1 (.int .i64 64)).bind fun t0=>(mP a0).bind fun t1=>(lZ .lss t0 t1).bind fun t2=>(lS t2 ((lZ .quo a1 (.int .i64 64)).bind fun t3=>(lU 1 a0 t3).bind fun t4=>(lP false 1 h0 t4).bind fun t5=>(lZ .rem a1 (.int .i64 64)).bind fun t6=>(lZ .shl (.int .u64 1) t6).bind fun t7=>(lZ .andNot t5 t7).bind fun t8=>(lU 1 a0 t3).bind fun t9=>(lW 1 h0 t9 t8).bind fun aB=>some (.normal,[],aB)) (some (.normal,[],h0))).bind fun aA=>(fun aC=>Ex.qZ aA.1 (some (.normal,[],aC)))  aA.2.2).bind fun TY=>(fun aD=>Ex.nR TY.1 (nJ (aa8 h0) (.tuple []) aD))  TY.2.2
theorem aiU (K:lN) (a0 a1:lC) (h0:lD):qG Tryz.prog mY mX K 99 [a0,a1] h0=m99 (mH mY K) a0 a1 h0:=by kernel_rfl
def DD (K:lN) (m:Nat) (s:List lC×lD):Option R :=
 (fun aC aD aE aB aA h9=>(lZ .lss aA aB).bind fun aF=>lS aF ((lU 1 aC aA).bind fun aG=>(lP false 1 h9 aG).bind fun t12=>(lU 1 aD aA).bind fun t13=>(lP false 1 h9 t13).bind fun t14=>(lZ .neq t12 t14).bind fun t15=>lS t15 (lX m .ret [aC,aD,(.bool false),aB,aA] h9) ((lZ .add aA (.int .i64 1)).bind fun aH=>lX m .normal [aC,aD,aE,aB,aH] h9)) (lX m (.exit 0) [aC,aD,aE,aB,aA] h9)) (aa7 s.1 0 .junk) (aa7 s.1 1 .junk) (aa7 s.1 2 .junk) (aa7 s.1 3 .junk) (aa7 s.1 4 .junk) s.2
def agQ (K:lN) (a0 a1:lC) (h0:lD):Option (nB×lD) :=
 ((mP a0).bind fun t0=>(mP a1).bind fun t1=>(lZ .neq t0 t1).bind fun t2=>lS t2 (some (.ret,[(.bool false)],h0)) ((mP a0).bind fun t3=>(mX (DD K (aa8 h0)) ([a0,a1,(.bool false),t3,(.int .i64 0)],h0)).bind fun aA=>(fun aG aH aB aD aE aF=>Ex.mO aA.1 none (fun aI=>Ex.inBlock 0 aI (some (.ret,[(.bool true)],aF)) (fun aJ=>some (aJ,[aB],aF)))) (aa7 aA.2.1 0 .junk) (aa7 aA.2.1 1 .junk) (aa7 aA.2.1 2 .junk) (aa7 aA.2.1 3 .junk) (aa7 aA.2.1 4 .junk) aA.2.2)).bind fun MR=>(fun aC aK=>Ex.nR MR.1 (nJ (aa8 h0) aC aK)) (aa7 MR.2.1 0 .junk) MR.2.2
theorem ZO (K:lN) (a0 a1:lC) (h0:lD):qG Tryz.prog mY mX K 100 [a0,a1] h0=agQ (mH mY K) a0 a1 h0:=by kernel_rfl
def ZP (K:lN) (a0:lC) (h0:lD):Option (nB×lD) :=
 ((lZ .eql a0 (.int .u64 0)).bind fun t0=>lS t0 (some (.ret,[(.int .i64 64)],h0)) ((xX .neg a0).bind fun t1=>(lZ .and a0 t1).bind fun t2=>(lZ .mul t2 (.int .u64 285870213051353865)).bind fun t3=>(lZ .shr t3 (.int .u64 58)).bind fun t4=>(w7 64 1 (.pptr vC) t4).bind fun t5=>(lP false 1 h0 t5).bind fun t6=>(AW .i64 t6).bind fun t7=>some (.ret,[t7],h0))).bind fun r8=>(fun aA aB=>Ex.nR r8.1 (nJ (aa8 h0) aA aB)) (aa7 r8.2.1 0 .junk) r8.2.2
theorem ZQ (K:lN) (a0:lC) (h0:lD):qG Tryz.prog mY mX K 101 [a0] h0=ZP (mH mY K) a0 h0:=by kernel_rfl
def wL (K:lN) (m:Nat) (s:List lC×lD):Option R :=
 (fun aB aC aE aD aA h6=>(lZ .lss aA aD).bind fun t7=>lS t7 ((lU 1 aB aA).bind fun t8=>(lP false 1 h6 t8).bind fun t9=>(qO aC).bind fun aF=>lY (qQ mY K aF.1 (oT mY aF.1 (aF.2.1++[t9]++aF.2.2)) h6) (fun aH aG=>lS aH (lX m .ret [aB,aC,aA,aD,aA] aG) ((lZ .add aA (.int .i64 1)).bind fun t13=>lX m .normal [aB,aC,aE,aD,t13] aG)) (fun _ _=>none)) (lX m (.exit 0) [aB,aC,aE,aD,aA] h6)) (aa7 s.1 0 .junk) (aa7 s.1 1 .junk) (aa7 s.1 2 .junk) (aa7 s.1 3 .junk) (aa7 s.1 4 .junk) s.2
def agR (K:lN) (a0 a1:lC) (h0:lD):Option (nB×lD) :=
 ((mP a0).bind fun t0=>(mX (wL K (aa8 h0)) ([a0,a1,(.int .i64 0),t0,(.int .i64 0)],h0)).bind fun Yf=>(fun aD aE aA aF aG aC=>Ex.mO Yf.1 none (fun aH=>Ex.inBlock 0 aH (some (.ret,[(.int .i64 (-1))],aC)) (fun aI=>some (aI,[aA],aC)))) (aa7 Yf.2.1 0 .junk) (aa7 Yf.2.1 1 .junk) (aa7 Yf.2.1 2 .junk) (aa7 Yf.2.1 3 .junk) (aa7 Yf.2.1 4 .junk) Yf.2.2).bind fun Sp=>(fun aB aJ=>Ex.nR Sp.1 (nJ (aa8 h0) aB aJ)) (aa7 Sp.2.1 0 .junk) Sp.2.2
theorem R6 (K:lN) (a0 a1:lC) (h0:lD):qG Tryz.prog mY mX K 107 [a0,a1] h0=agR (mH mY K) a0 a1 h0:=by kernel_rfl
end
section
open Go Hk
section
variable {p:IR}(hp:XX p)
include hp
end
end
section
open Go Hk
section
variable {p:IR}(ha:(p.arrays.length:Int)≤1048576) (hb:(p.blocks.length:Int)≤1048576)
include hb
end
section
variable {p:IR}(hp:XX p)
include hp
end
end
section
open Go Hk
def XH (o:Op) (S:Int→Prop):Int→Prop:=fun t=>t∈oO o∨(S t∧¬((nK o.kind).dst=true∧o.dst=t))
def SE (x:Term) (S:Int→Prop):Int→Prop:=fun t=>(x.kind=2∧x.a=t)∨S t
def zW (l:List Op) (x:Term) (S:Int→Prop):Int→Prop:=l.foldr XH (SE x S)
def BJ (b:mF) (S:Int→Prop):Int→Prop:=zW b.ops b.term S
def s8:List Op→Term→Int→Int
 | [],x,t=>if x.kind=2∧x.a=t then 1 else 0
 | o::r,x,t=>if t∈oO o then 1 else if (nK o.kind).dst=true∧o.dst=t then 2 else s8 r x t
theorem rP (l:List Op) (x:Term) (S:Int→Prop) (t:Int):zW l x S t↔s8 l x t=1∨(s8 l x t=0∧S t):=by
 induction l with
 | nil =>
  simp only [zW,List.foldr_nil,SE,s8]
  by_cases h:x.kind=2∧x.a=t <;> simp [h]
 | cons o r ih =>
  have e:zW (o::r) x S t↔t∈oO o∨(zW r x S t∧¬((nK o.kind).dst=true∧o.dst=t)):=Iff.rfl
  rw [e,ih]
  simp only [s8]
  by_cases h1:t∈oO o
  ·simp [h1]
  ·by_cases h2:(nK o.kind).dst=true∧o.dst=t
   ·simp [h1,h2]
   ·simp [h1,h2]
def tO (x:Term):List Int:=if x.kind=1 then [x.yes].filter (fun k=>decide (0≤k)) else if x.kind=2 then [x.yes,x.no].filter (fun k=>decide (0≤k)) else []
inductive Reach (bs:List mF) (t:Int):Nat→Prop
 | here {k:Nat}{b:mF}(hb:bs[k]?=some b) (hf:s8 b.ops b.term t=1):Reach bs t k
 | step {k:Nat}{b:mF}{j:Int}(hb:bs[k]?=some b) (hf:s8 b.ops b.term t=0) (hj:j∈tO b.term) (hr:Reach bs t j.toNat):Reach bs t k
def Ej (bs:List mF) (t:Int) (x:Term):Prop:=∃j∈tO x,Reach bs t j.toNat
theorem JW {bs:List mF}{t:Int}{k:Nat}{b:mF}(hb:bs[k]?=some b):Reach bs t k↔BJ b (fun t=>Ej bs t b.term) t:=by
 unfold BJ
 rw [rP]
 constructor
 ·intro h
  cases h with
  | here hb' hf=>rw [hb] at hb';cases hb';exact .inl hf
  | step hb' hf hj hr=>rw [hb] at hb';cases hb';exact .inr ⟨hf,_,hj,hr⟩
 ·rintro(h | ⟨h,j,hj,hr⟩)
  ·exact .here hb h
  ·exact .step hb h hj hr
theorem AA {l:List Op}{x:Term}{S T:Int→Prop}(h:∀t,S t→T t) {t:Int}(ht:zW l x S t):zW l x T t:=by
 rw [rP] at ht ⊢
 rcases ht with h1 | ⟨h1,h2⟩
 ·exact .inl h1
 ·exact .inr ⟨h1,h _ h2⟩
theorem PB {bs:List mF}{W:Nat→Int→Prop}(hW:∀k t,W k t→Reach bs t k) {k:Nat}{b:mF}(hb:bs[k]?=some b) {t:Int}
  (ht:BJ b (fun t=>∃j∈tO b.term,W j.toNat t) t):Reach bs t k :=
 (JW hb).2 (AA (fun t ⟨j,hj,hw⟩=>⟨j,hj,hW _ _ hw⟩) ht)
theorem Jg {bs:List mF}{W:Nat→Int→Prop}(hfix:∀k b,bs[k]?=some b→∀t,BJ b (fun t=>∃j∈tO b.term,W j.toNat t) t→W k t) {t:Int}{k:Nat}(h:Reach bs t k):W k t:=by
 induction h with
 | here hb hf=>exact hfix _ _ hb _ (by unfold BJ;rw [rP];exact .inl hf)
 | step hb hf hj hr ih=>exact hfix _ _ hb _ (by unfold BJ;rw [rP];exact .inr ⟨hf,_,hj,ih⟩)
end
end Go.Proofs.YtgllbnabmglcfaaGreatDoor
namespace Go.Proofs.Wd
section
abbrev Wd:=BitVec 64
theorem WT (n:Nat) (h:0<n):∃k m,n=2^k*(2*m+1):=by
 induction n using Nat.strongRecOn with
 | _ n ih =>
  by_cases h1:n%2=1
  ·exact⟨0,n/2,by omega⟩
  ·obtain⟨k,m,e⟩:=ih (n/2) (by omega) (by omega)
   refine⟨k+1,m,?_⟩
   rw [Nat.pow_succ,Nat.mul_comm (2^k) 2,Nat.mul_assoc,←e];omega
theorem lowest (w:Wd) (h:w≠0#64):∃k,k<64∧w.getLsbD k=true∧(∀i,i<k→w.getLsbD i=false)∧(∀i,(w-1#64).getLsbD i=if i<k then true else if i=k then false else w.getLsbD i):=by
 have h0:w.toNat≠0:=fun e=>h (BitVec.eq_of_toNat_eq (by simpa using e))
 obtain⟨k,m,e⟩:=WT w.toNat (by omega)
 have hw:=w.isLt
 have e1:w.toNat=2^(k+1)*m+2^k:=by rw [e,Nat.pow_succ];rw [Nat.mul_add,Nat.mul_one,Nat.mul_assoc]
 have hp:0<2^k:=Nat.two_pow_pos k
 have e2:(w-1#64).toNat=2^(k+1)*m+(2^k-1):=by
  rw [BitVec.toNat_sub]
  have:(1#64).toNat=1:=rfl
  rw [this]
  have:2^64-1+w.toNat=(w.toNat-1)+2^64:=by omega
  rw [this,Nat.add_mod_right,Nat.mod_eq_of_lt (by omega),e1]
  omega
 have hpk:2^k<2^(k+1):=Nat.pow_lt_pow_right (by omega) (by omega)
 have b1:∀i,w.getLsbD i=if i<k+1 then decide (k=i) else m.testBit (i-(k+1)):=fun i=>by
  rw [BitVec.getLsbD,e1,Nat.testBit_two_pow_mul_add m hpk,Nat.testBit_two_pow]
 have b2:∀i,(w-1#64).getLsbD i=if i<k+1 then decide (i<k) else m.testBit (i-(k+1)):=fun i=>by
  rw [BitVec.getLsbD,e2,Nat.testBit_two_pow_mul_add m (by omega),Nat.testBit_two_pow_sub_one]
 have hk:k<64:=by
  rcases Nat.lt_or_ge k 64 with h1 | h1
  ·exact h1
  ·have:2^64≤2^k:=Nat.pow_le_pow_right (by omega) h1
   omega
 refine⟨k,hk,by rw [b1];simp,fun i hi=>?_,fun i=>?_⟩
 ·rw [b1,if_pos (by omega)];simp;omega
 ·rw [b2,b1]
  by_cases h1:i<k
  ·rw [if_pos (by omega),if_pos h1];simp [h1]
  ·rw [if_neg h1]
   by_cases h2:i=k
   ·rw [if_pos (by omega),if_pos h2];simp [h2]
   ·rw [if_neg (by omega),if_neg h2,if_neg (by omega)]
theorem ZM (w:Wd) {k:Nat}(hk:k<64) (h1:w.getLsbD k=true) (h2:∀i,i<k→w.getLsbD i=false) (h3:∀i,(w-1#64).getLsbD i=if i<k then true else if i=k then false else w.getLsbD i) :
  w &&& -w=BitVec.twoPow 64 k:=by
 have e:-w = ~~~(w-1#64):=by
  rw [BitVec.neg_eq_not_add]
  apply BitVec.eq_of_toNat_eq
  rw [BitVec.toNat_add,BitVec.toNat_not,BitVec.toNat_not,BitVec.toNat_sub]
  have hw:=w.isLt
  have:(1#64).toNat=1:=rfl
  rw [this]
  omega
 apply BitVec.eq_of_getLsbD_eq
 intro i hi
 rw [BitVec.getLsbD_and,e,BitVec.getLsbD_not,h3,BitVec.getLsbD_twoPow]
 by_cases c1:i<k
 ·simp [c1,h2 i c1];omega
 ·by_cases c2:i=k
  ·subst c2;simp [h1,hi]
  ·simp [c1,c2,hi];omega
theorem Tz (w:Wd) {k:Nat}(h2:∀i,i<k→w.getLsbD i=false) (h3:∀i,(w-1#64).getLsbD i=if i<k then true else if i=k then false else w.getLsbD i) (i:Nat) :
  (w &&& (w-1#64)).getLsbD i=(w.getLsbD i&&!decide (i=k)):=by
 rw [BitVec.getLsbD_and,h3]
 by_cases c1:i<k
 ·simp [c1,h2 i c1]
 ·by_cases c2:i=k
  ·subst c2;simp
  ·simp [c1,c2]
theorem Vh (w:Wd) (h:w≠0#64):(w &&& (w-1#64)).toNat<w.toNat:=by
 have h0:w.toNat≠0:=fun e=>h (BitVec.eq_of_toNat_eq (by simpa using e))
 have hw:=w.isLt
 have e1:(w-1#64).toNat=w.toNat-1:=by
  rw [BitVec.toNat_sub]
  have:(1#64).toNat=1:=rfl
  rw [this];omega
 rw [BitVec.toNat_and,e1]
 have:=Nat.and_le_right (n:=w.toNat) (m:=w.toNat-1)
 omega
def uO (w:Wd):List Nat:=(aq5 64).filter fun i=>w.getLsbD i
theorem Pz:uO 0#64=[]:=by simp [uO]
theorem Py (w:Wd) {k:Nat}(hk:k<64) (h1:w.getLsbD k=true) (h2:∀i,i<k→w.getLsbD i=false) (h3:∀i,(w-1#64).getLsbD i=if i<k then true else if i=k then false else w.getLsbD i) :
  uO w=k::uO (w &&& (w-1#64)):=by
 have er:aq5 64=aq5 k++(k::List.range' (k+1) (63-k)):=by
  have:k::List.range' (k+1) (63-k)=List.range' k (63-k+1):=by rw [List.range'_succ]
  rw [this,List.range_eq_range',List.range_eq_range',show 63-k+1=64-k by omega]
  have:=List.range'_append_1 (s:=0) (m:=k) (n:=64-k)
  simp only [ar4] at this
  rw [this];congr 1;omega
 have lo:∀v:Wd,(∀i,i<k→v.getLsbD i=false)→(aq5 k).filter (fun i=>v.getLsbD i)=[]:=fun v hv=>by
  rw [List.filter_eq_nil_iff]
  intro i hi
  rw [hv i (List.mem_range.1 hi)];simp
 have hc:=Tz w h2 h3
 unfold uO
 rw [er,List.filter_append,List.filter_append,lo w h2,lo _ (fun i hi=>by rw [hc,h2 i hi];simp),ar5,ar5,List.filter_cons,List.filter_cons,if_pos h1,if_neg (by rw [hc];simp)]
 congr 1
 apply List.filter_congr
 intro i hi
 have:=List.mem_range'_1.1 hi
 rw [hc]
 have:¬i=k:=by omega
 simp [this]
def oY (ws:List Wd) (t:Nat):Bool:=(ws.getD (t/64) 0#64).getLsbD (t%64)
def zM (ws:List Wd) (n:Nat):List Wd:=ws++al7 (n-ws.length) 0#64
theorem zO (ws:List Wd) (n:Nat):(zM ws n).length=max ws.length n:=by simp [zM];omega
theorem zN (ws:List Wd) (n i:Nat):(zM ws n).getD i 0#64=ws.getD i 0#64:=by
 unfold zM
 rw [ae9,ae9]
 by_cases h:i<ws.length
 ·rw [List.getElem?_append_left h]
 ·rw [af4 (by omega),List.getElem?_eq_none (l:=ws) (by omega),List.getElem?_replicate]
  split <;> rfl
theorem HQ {ws:List Wd}{n:Nat}(h:n≤ws.length):zM ws n=ws:=by simp [zM,Nat.sub_eq_zero_of_le h]
theorem JT {ws:List Wd}{n:Nat}(h:ws.length<n):zM (ws++[0#64]) n=zM ws n:=by
 unfold zM
 rw [List.length_append,List.length_singleton,List.append_assoc,List.singleton_append,←List.replicate_succ]
 congr 2;omega
theorem Hu (ws:List Wd) (i j:Nat) (x:Wd) (h:i<ws.length):(ws.set i x).getD j 0#64=if i=j then x else ws.getD j 0#64:=by
 rw [ae9,ae9,List.getElem?_set]
 split
 ·rename_i e;subst e;simp [h]
 ·rfl
def uS (ws:List Wd) (t:Nat):List Wd:=(zM ws (t/64+1)).set (t/64) ((zM ws (t/64+1)).getD (t/64) 0#64 ||| BitVec.twoPow 64 (t%64))
theorem Kq (ws:List Wd) (t:Nat):(uS ws t).length=max ws.length (t/64+1):=by simp [uS,zO]
theorem Ko (ws:List Wd) (t u:Nat):oY (uS ws t) u=(oY ws u || decide (u=t)):=by
 unfold oY uS
 rw [Hu _ _ _ _ (by rw [zO];omega)]
 by_cases h:t/64=u/64
 ·rw [if_pos h,zN,h,BitVec.getLsbD_or,BitVec.getLsbD_twoPow]
  have:decide (t%64=u%64)=decide (u=t):=by
   by_cases e:u=t
   ·simp [e]
   ·simp [e];omega
  have h64:t%64<64:=Nat.mod_lt _ (by omega)
  simp only [this]
  have:decide (t%64<64)=true:=by simp [h64]
  simp [this]
 ·rw [if_neg h,zN]
  have:¬u=t:=fun e=>h (by rw [e])
  simp [this]
def tF (ws:List Wd) (t:Nat):List Wd:=if t/64<ws.length then ws.set (t/64) (ws.getD (t/64) 0#64 &&& ~~~ BitVec.twoPow 64 (t%64)) else ws
theorem Eg (ws:List Wd) (t:Nat):(tF ws t).length=ws.length:=by unfold tF;split <;> simp
theorem ML (ws:List Wd) (t u:Nat):oY (tF ws t) u=(oY ws u&&!decide (u=t)):=by
 unfold tF
 split
 ·rename_i hlt
  unfold oY
  rw [Hu _ _ _ _ hlt]
  have hu64:u%64<64:=Nat.mod_lt _ (by omega)
  by_cases h:t/64=u/64
  ·rw [if_pos h,h,BitVec.getLsbD_and,BitVec.getLsbD_not,BitVec.getLsbD_twoPow]
   have:decide (t%64=u%64)=decide (u=t):=by
    by_cases e:u=t
    ·simp [e]
    ·simp [e];omega
   simp only [this]
   have h64:t%64<64:=Nat.mod_lt _ (by omega)
   simp [hu64,h64]
  ·rw [if_neg h]
   have:¬u=t:=fun e=>h (by rw [e])
   simp [this]
 ·rename_i hlt
  by_cases h:u=t
  ·subst h
   unfold oY
   rw [ae9,List.getElem?_eq_none (by omega)]
   simp
  ·simp [h]
def F5 (out s:List Wd):List Wd:=(zM out s.length).mapIdx fun i w=>w ||| s.getD i 0#64
theorem Sg (out s:List Wd):(F5 out s).length=max out.length s.length:=by simp [F5,zO]
theorem N0 (out s:List Wd) (i:Nat):(F5 out s).getD i 0#64=out.getD i 0#64 ||| s.getD i 0#64:=by
 unfold F5
 rw [ae9,List.getElem?_mapIdx]
 have:=zN out s.length i
 rw [ae9] at this
 cases h:(zM out s.length)[i]? with
 | some x=>rw [h] at this;simp at this;simp [this]
 | none =>
  rw [h] at this
  have hl:=List.getElem?_eq_none_iff.1 h
  rw [zO] at hl
  clear this
  rw [ae9,ae9,List.getElem?_eq_none (l:=out) (by omega),List.getElem?_eq_none (l:=s) (by omega)]
  simp
theorem ab4 (out s:List Wd) (t:Nat):oY (F5 out s) t=(oY out t || oY s t):=by unfold oY;rw [N0,BitVec.getLsbD_or]
def nX (ws:List Wd):List Nat:=(aq5 (64*ws.length)).filter (oY ws)
theorem Ca {ws:List Wd}{t:Nat}(h:oY ws t=true):t<64*ws.length:=by
 unfold oY at h
 by_cases hlt:t/64<ws.length
 ·omega
 ·rw [ae9,List.getElem?_eq_none (by omega)] at h;simp at h
theorem Dt {p:Nat→Bool}:∀{n m:Nat},n≤m→(∀t,p t=true→t<n)→(aq5 m).filter p=(aq5 n).filter p:=by
 intro n m hnm hp
 obtain⟨d,rfl⟩:=Nat.exists_eq_add_of_le hnm
 rw [List.range_add,List.filter_append]
 have:(List.map (fun x=>n+x) (aq5 d)).filter p=[]:=by
  rw [List.filter_eq_nil_iff]
  intro t ht
  obtain⟨i,_,rfl⟩:=ar2.1 ht
  intro h
  have:=hp _ h
  omega
 rw [this,List.append_nil]
theorem Bc {ws:List Wd}{n:Nat}(h:∀t,oY ws t=true→t<n):nX ws=(aq5 n).filter (oY ws):=by
 unfold nX
 rcases Nat.le_total n (64*ws.length) with h1 | h1
 ·exact Dt h1 h
 ·exact(Dt h1 fun t ht=>Ca ht).symm
theorem JR {ws:List Wd}{t:Nat}:t∈nX ws↔oY ws t=true:=by
 unfold nX
 rw [List.mem_filter,List.mem_range]
 exact⟨fun h=>h.2,fun h=>⟨Ca h,h⟩⟩
theorem Tt {a b:List Wd}:nX a=nX b↔∀t,oY a t=oY b t:=by
 constructor
 ·intro h t
  have:t∈nX a↔t∈nX b:=by rw [h]
  rw [JR,JR] at this
  cases ha:oY a t <;> cases hb:oY b t <;> simp_all
 ·intro h
  have ha:nX a=(aq5 (64*max a.length b.length)).filter (oY a):=Bc fun t ht=>by have:=Ca ht;omega
  have hb:nX b=(aq5 (64*max a.length b.length)).filter (oY b):=Bc fun t ht=>by have:=Ca ht;omega
  rw [ha,hb]
  exact List.filter_congr fun t _=>h t
def oJ (ws:List Wd) (n:Nat):List Nat:=(aq5 n).flatMap fun i=>(uO (ws.getD i 0#64)).map (64*i+·)
theorem Bd (ws:List Wd):∀n,oJ ws n=(aq5 (64*n)).filter (oY ws)
 | 0=>by simp [oJ]
 | n+1=>by
  have ih:=Bd ws n
  unfold oJ at ih ⊢
  rw [List.range_succ,List.flatMap_append,ih,Nat.mul_add,Nat.mul_one,List.range_add,List.filter_append]
  congr 1
  simp only [List.flatMap_cons,List.flatMap_nil,List.append_nil,uO,List.filter_map]
  congr 1
  apply List.filter_congr
  intro i hi
  have:=List.mem_range.1 hi
  simp only [Function.comp,oY]
  rw [show(64*n+i)/64=n by omega,show(64*n+i)%64=i by omega]
theorem Px (ws:List Wd):nX ws=oJ ws ws.length:=(Bd ws _).symm
end
end Go.Proofs.Wd
namespace Go.Proofs.YtgllbnabmglcfaaGreatDoor
section
open Go Hk Go.Proofs.Wd
def wc (w:Wd):lC:=.int .u64 (w.toNat:Int)
theorem OW {n:Int}:IntKind.wrap .u64 n=n%18446744073709551616:=by simp [IntKind.wrap,IntKind.signed,IntKind.bits]
theorem zK (w:Wd):BitVec.ofInt 64 (w.toNat:Int)=w:=by
 apply BitVec.eq_of_toNat_eq
 rw [BitVec.toNat_ofInt]
 have:=w.isLt
 omega
theorem MM (w:Wd):IntKind.wrap .u64 (w.toNat:Int)=w.toNat:=by
 rw [OW];have:=w.isLt;omega
theorem GN (a b:Wd):lZ .or (wc a) (wc b)=some (wc (a ||| b)):=by
 show(some (lC.int .u64 (IntKind.wrap .u64 ((BitVec.ofInt 64 (a.toNat:Int) ||| BitVec.ofInt 64 (b.toNat:Int)).toNat:Int))):Option lC)=_
 rw [zK,zK,MM];rfl
theorem Fg (a b:Wd):lZ .and (wc a) (wc b)=some (wc (a &&& b)):=by
 show(some (lC.int .u64 (IntKind.wrap .u64 ((BitVec.ofInt 64 (a.toNat:Int) &&& BitVec.ofInt 64 (b.toNat:Int)).toNat:Int))):Option lC)=_
 rw [zK,zK,MM];rfl
theorem GL (a b:Wd):lZ .andNot (wc a) (wc b)=some (wc (a &&& ~~~ b)):=by
 show(some (lC.int .u64 (IntKind.wrap .u64 ((BitVec.ofInt 64 (a.toNat:Int) &&& ~~~ BitVec.ofInt 64 (b.toNat:Int)).toNat:Int))):Option lC)=_
 rw [zK,zK,MM];rfl
theorem Fh {s:Nat}(hs:s<64):lZ .shl (.int .u64 1) (.int .i64 (s:Int))=some (wc (BitVec.twoPow 64 s)):=by
 have h0:¬(s:Int)<0:=by omega
 simp only [lZ,if_neg h0,wc,BitVec.toNat_twoPow,as0,ad0,lC.int.injEq,true_and]
 rw [OW]
 have:min s (IntKind.bits .u64)=s:=by simp [IntKind.bits];omega
 rw [this,Int.natCast_emod]
 simp
theorem Na (a:Wd):lZ .sub (wc a) (.int .u64 1)=some (wc (a-1#64)):=by
 unfold wc
 rw [U0,OW,BitVec.toNat_sub]
 have:=a.isLt
 congr 2
 have e:(1#64).toNat=1:=rfl
 rw [e]
 omega
theorem ab3 (a:Wd):lZ .neq (wc a) (.int .u64 0)=some (.bool (!decide (a=0#64))):=by
 unfold wc
 rw [UZ]
 congr 3
 rw [decide_eq_decide]
 have:((a.toNat:Int)=0)↔a=0#64:=⟨fun h=>BitVec.eq_of_toNat_eq (by have:(0#64).toNat=0:=rfl;omega),fun h=>by subst h;rfl⟩
 exact this
theorem alB (a:Wd):lZ .eql (wc a) (.int .u64 0)=some (.bool (decide (a=0#64))):=by
 unfold wc
 rw [UX]
 congr 2
 rw [decide_eq_decide]
 have:((a.toNat:Int)=0)↔a=0#64:=⟨fun h=>BitVec.eq_of_toNat_eq (by have:(0#64).toNat=0:=rfl;omega),fun h=>by subst h;rfl⟩
 exact this
theorem Pc (a:Wd):xX .neg (wc a)=some (wc (-a)):=by
 unfold wc
 rw [YO,OW,BitVec.toNat_neg]
 have:=a.isLt
 congr 2
 omega
theorem Up (a:Wd):lZ .mul (wc a) (.int .u64 285870213051353865)=some (wc (a*285870213051353865#64)):=by
 unfold wc
 rw [UY,OW,BitVec.toNat_mul]
 have e:(285870213051353865#64).toNat=285870213051353865:=rfl
 rw [e]
 congr 2
theorem Uq (a:Wd):lZ .shr (wc a) (.int .u64 58)=some (.int .u64 ((a.toNat >>> 58:Nat):Int)):=by
 have h0:¬(58:Int)<0:=by omega
 simp only [lZ,wc,if_neg h0,ad0,lC.int.injEq,true_and]
 rw [Int.fdiv_eq_ediv_of_nonneg _ (by simp [IntKind.bits]),Nat.shiftRight_eq_div_pow]
 simp [IntKind.bits]
def an2:List Nat:=[0,1,56,2,57,49,28,3,61,58,42,50,38,29,17,4,62,47,59,36,45,43,51,22,53,39,33,30,24,18,12,5,63,55,48,27,60,41,37,16,46,35,44,21,52,32,23,11,54,26,40,15,34,20,31,10,25,14,19,9,13,8,7,6]
def bru (k:Nat):Nat:=2^k*285870213051353865%18446744073709551616/288230376151711744
theorem afC:(aq5 64).all (fun k=>(an2[bru k]? == some k)&&decide (bru k<64))=true:=by decide +kernel
theorem afB {k:Nat}(hk:k<64):(BitVec.twoPow 64 k*285870213051353865#64).toNat >>> 58=bru k:=by
 have e:(285870213051353865#64).toNat=285870213051353865:=rfl
 have h2:2^k%2^64=2^k:=Nat.mod_eq_of_lt (Nat.pow_lt_pow_right (by omega) hk)
 rw [BitVec.toNat_mul,BitVec.toNat_twoPow,h2,e,Nat.shiftRight_eq_div_pow]
 rfl
theorem Pq:vC=an2.map fun n=>.int .u8 (n:Int):=by rfl
attribute [irreducible] bru
theorem afD {k:Nat}(hk:k<64):vC[bru k]?=some (.int .u8 (k:Int))∧bru k<64:=by
 have h:=List.all_eq_true.1 afC k (List.mem_range.2 hk)
 rw [am4,beq_iff_eq,decide_eq_true_eq] at h
 rw [Pq,af7,h.1]
 exact⟨rfl,h.2⟩
theorem U8 {k j:Nat}(b1:vC[j]?=some (.int .u8 (k:Int))) (b2:j<64):∃p,w7 64 1 (.pptr vC) (.int .u64 (j:Int))=some p∧lP false 1 [] p=some (.int .u8 (k:Int)):=by
 refine⟨.pptr (vC.drop (j*1)),?_,?_⟩
 ·have h1:(0:Int)≤(j:Int)∧(j:Int)<((64:Nat):Int):=by omega
  simp only [w7,if_pos h1,as0]
 ·rw [Nj,List.getElem?_drop,Nat.mul_one,Nat.add_zero];exact b1
theorem VQ {a b c d p:lC}{j k:Nat}(hk:k<64) (f0:lZ .eql a (.int .u64 0)=some (.bool false)) (f1:xX .neg a=some b) (f2:lZ .and a b=some c)
  (f3:lZ .mul c (.int .u64 285870213051353865)=some d) (f4:lZ .shr d (.int .u64 58)=some (.int .u64 (j:Int))) (e1:w7 64 1 (.pptr vC) (.int .u64 (j:Int))=some p) (e2:lP false 1 [] p=some (.int .u8 (k:Int))) :
  ZP KK a []=some (.ret (.int .i64 (k:Int)),[]):=by
 have hw64:IntKind.i64.wrap (k:Int)=k:=by rw [wrap64] <;> omega
 simp [ZP,f0,f1,f2,f3,f4,e1,e2,hw64,mS]
theorem Th {a:lC}{k:Nat}(ha:[a].all (lC.rU 0)=true) (hm:ZP KK a []=some (.ret (.int .i64 (k:Int)),[])) (h:lD):KK 101 [a] h=some (.ret (.int .i64 (k:Int)),h) :=
 nG rfl ha (oF (ZQ _ _ _) hm)
theorem auD (w:Wd) {k:Nat}(hk:k<64) (h1:w.getLsbD k=true) (h2:∀i,i<k→w.getLsbD i=false) (h3:∀i,(w-1#64).getLsbD i=if i<k then true else if i=k then false else w.getLsbD i) (h:lD) :
  KK 101 [wc w] h=some (.ret (.int .i64 (k:Int)),h):=by
 have hw:w≠0#64:=fun e=>by subst e;simp at h1
 have hl:=ZM w hk h1 h2 h3
 obtain⟨b1,b2⟩:=afD hk
 have f0:lZ .eql (wc w) (.int .u64 0)=some (.bool false):=by rw [alB,decide_eq_false hw]
 have f1:=Pc w
 have f2:lZ .and (wc w) (wc (-w))=some (wc (BitVec.twoPow 64 k)):=by rw [Fg,hl]
 have f3:=Up (BitVec.twoPow 64 k)
 have f4:lZ .shr (wc (BitVec.twoPow 64 k*285870213051353865#64)) (.int .u64 58)=some (.int .u64 (bru k:Int)):=by rw [Uq,afB hk]
 have ha:[wc w].all (lC.rU 0)=true:=rfl
 generalize bru k=j at *
 generalize wc (-w)=b at *
 generalize wc (BitVec.twoPow 64 k*285870213051353865#64)=d at *
 generalize wc (BitVec.twoPow 64 k)=c at *
 generalize wc w=a at *
 obtain⟨p,e1,e2⟩:=U8 b1 b2
 exact Th ha (VQ hk f0 f1 f2 f3 f4 e1 e2) h
def VS (id:Nat):List Wd→lC
 | []=>.slice [] (.own id)
 | w::r=>.vslice id (r.length+1) 0 (r.length+1) 1
def XS:List Wd→mC
 | []=>.front 0 0
 | w::r=>.vec (r.length+1) 1 ((w::r).map wc)
section
variable {A B C:List mC}{ws:List Wd}{id m i:Nat}{h:lD}{k:IntKind}
theorem GF:mP (VS id ws)=some (.int .i64 (ws.length:Int)):=by cases ws <;> rfl
theorem Yw (hi:id<m):lC.nO m h (VS id ws)=VS id ws:=by
 cases ws with
 | nil=>simp [VS,hi]
 | cons w r=>exact yC hi
theorem uT (hi:id<m):lC.pV m h (VS id ws)=VS id ws:=by
 cases ws with
 | nil=>simp [VS,hi]
 | cons w r=>exact C3 hi
theorem wZ:Yx (XS ws):=by
 intro m h
 cases ws with
 | nil=>rfl
 | cons w r =>
  have:mW m h ((w::r).map wc)=some ((w::r).map wc):=vF fun c hc=>by
   obtain⟨x,_,rfl⟩:=ar2.1 hc;exact⟨_,_,rfl⟩
  show(mW m h ((w::r).map wc)).map _=_
  rw [this];rfl
theorem Db (hi:i<ws.length):lU 1 (VS id ws) (.int k (i:Int))=some (.vptr id ws.length i):=by
 cases ws with
 | nil=>simp at hi
 | cons w r =>
  have:i<r.length+1:=by simpa using hi
  simp [VS,this]
theorem F7 {X:mC}:(OQ A X B)[A.length]?=some X:=by
 unfold OQ;rw [af4 (ai1 _),Nat.sub_self];rfl
theorem BS (h0:ws≠[]):nV (OQ A (XS ws) B) A.length ws.length=some (1,ws.map wc):=by
 unfold nV
 rw [F7]
 cases ws with
 | nil=>exact absurd rfl h0
 | cons w r=>simp [XS]
theorem F8 (hi:i<ws.length):lP false 1 (OQ A (XS ws) B) (.vptr A.length ws.length i)=some (wc (ws.getD i 0#64)):=by
 rw [lK,BS (by intro e;subst e;simp at hi)]
 simp [ae9,hi]
theorem GG (hi:i<ws.length) (w:Wd):lW 1 (OQ A (XS ws) B) (.vptr A.length ws.length i) (wc w)=some (OQ A (XS (ws.set i w)) B):=by
 rw [lH,BS (by intro e;subst e;simp at hi)]
 have e1:putCells (ws.map wc) i [wc w]=(ws.set i w).map wc:=by
  unfold putCells
  rw [List.map_set,List.set_eq_take_append_cons_drop,if_pos (by simpa using hi)]
  simp
 have e2:XS (ws.set i w)=.vec ws.length 1 ((ws.set i w).map wc):=by
  cases ws with
  | nil=>simp at hi
  | cons x r=>cases i <;> simp [XS]
 simp only [ai3]
 rw [if_pos ⟨rfl,by simp;omega,rfl⟩]
 show some (List.set _ _ (mC.vec ws.length 1 (putCells (ws.map wc) i [wc w])))=_
 rw [e1,←e2,yK]
theorem Jw (hl:ws.length≤2000000) (w:Wd) {t:Hk.Tok}:n_ 1 8 (OQ A (XS ws) B) (VS A.length ws) (.slice [[wc w]] t)=some (VS A.length (ws++[w]),OQ A (XS (ws++[w])) B):=by
 have hr:w9 1 (OQ A (XS ws) B) (.slice [[wc w]] t)=some [[wc w]]:=by simp
 cases ws with
 | nil =>
  unfold n_
  simp only [VS,hr]
  rw [F7]
  simp [XS,VS,yK]
 | cons x r =>
  have hg:=BS (A:=A) (B:=B) (ws:=x::r) (by simp)
  unfold n_
  simp only [VS,hr]
  simp only [aq8] at hg hl ⊢
  rw [hg]
  simp only [List.length_nil,ar4]
  rw [if_pos ⟨trivial,trivial,by omega,by omega⟩,if_neg (by omega),if_neg (by omega)]
  simp [XS,VS,yK,List.take_of_length_le]
end
end
section
open Go Hk Go.Proofs.Wd
theorem UU {id:Nat}{a b:List Wd}(h:a.length=b.length):VS id a=VS id b:=by
 cases a <;> cases b <;> simp_all [VS]
theorem Sk {t:Nat}(ht:t≤2000000):lZ .quo (.int .i64 (t:Int)) (.int .i64 64)=some (.int .i64 ((t/64:Nat):Int)):=by
 rw [M_ (by omega)]
 have:((t:Int)).tdiv 64=((t/64:Nat):Int):=by rw [Int.tdiv_eq_ediv_of_nonneg (by omega)];omega
 rw [this,wrap64 (by omega) (by omega)]
theorem ad3 {t:Nat}:lZ .rem (.int .i64 (t:Int)) (.int .i64 64)=some (.int .i64 ((t%64:Nat):Int)):=by
 rw [rQ (by omega),Int.tmod_eq_emod_of_nonneg (by omega)];rfl
theorem NX {h:lD}:lR 1 1 [.int .u64 0] [(0,.int .u64 0)] h=some (.slice [[wc 0#64]] (.own h.length),h++[.front 1 1]):=by rfl
section
variable {A B:List mC}
theorem WE (hB:KB A B) {t n:Nat}(ht:t≤2000000) (hn:n=t/64+1) {v:lC}(hv:∀h,v.pV (HN A B) h=v):∀(d:Nat) (ws:List Wd),n-ws.length=d →
  mX (EV KK (HN A B)) ([VS A.length ws,.int .i64 (t:Int),v],OQ A (XS ws) B)=some (.exit 0,[VS A.length (zM ws n),.int .i64 (t:Int),v],OQ A (XS (zM ws n)) B):=by
 intro d
 induction d with
 | zero =>
  intro ws hd
  rw [nM,HQ (by omega)]
  have hc:¬((ws.length:Int)≤((t/64:Nat):Int)):=by omega
  have q64:=Sk ht
  clear hd
  generalize t/64=q at *
  have htr:=p9 (X:=XS ws) (A:=A) (B:=B) hB wZ
  have hs:=fun h=>uT (ws:=ws) (m:=HN A B) (h:=h) s4
  have step:EV KK (HN A B) ([VS A.length ws,.int .i64 (t:Int),v],OQ A (XS ws) B)=some (.exit 0,[VS A.length ws,.int .i64 (t:Int),v],OQ A (XS ws) B):=by
   unfold EV
   simp only [List.getD_cons_zero,List.getD_cons_succ]
   rw [q64,GF]
   simp -implicitDefEqProofs [hc,lX,htr,hs,hv]
  rw [step];rfl
 | succ d ih =>
  intro ws hd
  rw [nM]
  have hc:((ws.length:Int)≤((t/64:Nat):Int)):=by omega
  have htr:=s5 (X:=XS (ws++[0#64])) (A:=A) (B:=B) (C:=[.front 1 1]) hB wZ
  have hs:=fun h=>uT (ws:=ws++[0#64]) (m:=HN A B) (h:=h) s4
  have g:=ih (ws++[0#64]) (by simp;omega)
  rw [JT (by omega)] at g
  rw [←g]
  have ha:=fun t=>Jw (A:=A) (B:=B++[.front 1 1]) (ws:=ws) (by omega) 0#64 (t:=t)
  have q64:=Sk ht
  clear g ih
  have hl:ws.length≤1000000:=by omega
  clear hd hn
  generalize t/64=q at *
  have step:EV KK (HN A B) ([VS A.length ws,.int .i64 (t:Int),v],OQ A (XS ws) B)=some (.normal,[VS A.length (ws++[0#64]),.int .i64 (t:Int),v],OQ A (XS (ws++[0#64])) B):=by
   unfold EV
   simp only [List.getD_cons_zero,List.getD_cons_succ]
   rw [q64,GF]
   simp -implicitDefEqProofs [hc,lX,htr,hs,hv,NX,ha]
  rw [step];rfl
theorem c98 (hB:KB A B) {t:Nat}(ht:t≤2000000) (ws:List Wd):KK 98 [VS A.length ws,.int .i64 (t:Int)] (OQ A (XS ws) B)=some (.ret (VS A.length (uS ws t)),OQ A (XS (uS ws t)) (B++[.front 0 0])):=by
 refine oF (aiT _ _ _ _) ?_
 have hB2:KB A (B++[.front 0 0]):=hB.app (by simp)
 have g:=WE hB2 ht rfl (v:=.slice [] (.own (HN A B))) (fun h=>by simp) _ ws rfl
 have hl:t/64<(zM ws (t/64+1)).length:=by rw [zO];omega
 have h1:=fun k=>Db (id:=A.length) (k:=k) hl
 have h2:=F8 (A:=A) (B:=B++[.front 0 0]) hl
 have h3:=GG (A:=A) (B:=B++[.front 0 0]) hl
 have h4:=Fh (s:=t%64) (Nat.mod_lt _ (by omega))
 simp only [El,aq8,List.length_nil,ar4] at g
 unfold uS m98
 simp only [CC,Kv,El,aq8,List.length_nil,ar4]
 rw [g]
 simp only [ai3,OL,Lc,BEq.rfl,beq_self_eq_true,cond_true,List.getD_cons_zero,List.getD_cons_succ]
 rw [Sk ht,ai3,h1,ai3,h2,ai3,ad3,ai3,h4,ai3,GN,ai3,ai3,h3]
 simp only [ai3,Vn,ad0,Prod.mk.injEq,nB.ret.injEq,and_true,List.getD_cons_zero]
 exact UU (by simp)
theorem c99 (hB:KB A B) {t:Nat}(ht:t≤2000000) (ws:List Wd):KK 99 [(VS A.length ws).lL,.int .i64 (t:Int)] (OQ A (XS ws) B)=some (.ret (.tuple []),OQ A (XS (tF ws t)) B):=by
 refine oF (aiU _ _ _ _) ?_
 have htr:=fun ws=>p9 (X:=XS ws) (A:=A) (B:=B) hB wZ
 have hlen:mP (VS A.length ws).lL=some (.int .i64 (ws.length:Int)):=by cases ws <;> rfl
 unfold tF m99
 rw [Sk ht,ai3,hlen]
 by_cases hl:t/64<ws.length
 ·have hl':((t/64:Nat):Int)<(ws.length:Int):=by omega
  have e:(VS A.length ws).lL=VS A.length ws:=by cases ws with | nil=>simp at hl | cons w r=>rfl
  have h1:=fun k=>Db (id:=A.length) (k:=k) hl
  have h2:=F8 (A:=A) (B:=B) hl
  have h3:=GG (A:=A) (B:=B) hl
  have h4:=Fh (s:=t%64) (Nat.mod_lt _ (by omega))
  rw [e,if_pos hl]
  simp only [ai3,GM,decide_eq_true hl',lM,cond_true]
  rw [h1,ai3,h2,ai3,ad3,ai3,h4,ai3,GL,ai3,ai3,h3]
  simp -implicitDefEqProofs [nJ,htr]
 ·have hl':¬((t/64:Nat):Int)<(ws.length:Int):=by omega
  rw [if_neg hl]
  simp only [ai3,GM,decide_eq_false hl',lM,cond_false]
  simp -implicitDefEqProofs [nJ,htr]
end
end
section
open Go Hk Go.Proofs.Wd
abbrev TH (h:lD):Prop:=Cd h.length h
theorem sW {h C:lD}(hK:TH h):oD h.length (h++C)=some h:=by
 unfold oD
 rw [List.take_left]
 exact hK _ _ (ai1 _)
theorem rB {h:lD}(hK:TH h):oD h.length h=some h:=by
 have:=sW (C:=[]) hK
 rwa [List.append_nil] at this
theorem O2 {h C:lD}(hK:TH h) (hC:Cd (h.length+C.length) C):TH (h++C):=by
 unfold TH
 rw [List.length_append]
 exact p8 (hK.mono (by omega)) hC
theorem anH {A B:List mC}{X:mC}(hB:KB A B) (hX:Yx X):TH (OQ A X B):=by
 intro m h' hm
 rw [CC] at hm
 refine yD (hB.a m hm m h' (ai1 _)) ?_
 simp only [oG,hX m h',hB.b m hm m h' (ai1 _)]
structure Ch (h:lD) (S:lC) (ws:List Wd):Prop where
 len:mP S=some (.int .i64 (ws.length:Int))
 at_:∀i,i<ws.length→∃p,lU 1 S (.int .i64 (i:Int))=some p∧∀C,lP false 1 (h++C) p=some (wc (ws.getD i 0#64))
 pV:∀m h',h.length≤m→S.nO m h'=S
def PS (ws:List Wd):lC:=.slice (ws.map fun w=>[wc w]) .no
theorem Oj {h:lD}{ws:List Wd}:Ch h (PS ws) ws:=by
 refine⟨by simp [PS],fun i hi=>⟨.pptr [wc (ws.getD i 0#64)],?_,fun C=>by simp⟩,fun m h' _=>rfl⟩
 rw [PS,lG,ac6 hi]
 simp [ae9,hi]
theorem Xn {A B:List mC}{ws:List Wd}:Ch (OQ A (XS ws) B) (VS A.length ws) ws:=by
 refine⟨GF,fun i hi=>⟨_,Db hi,fun C=>?_⟩,fun m h' hm=>Yw (by rw [CC] at hm;have:=s4 (A:=A) (B:=B);omega)⟩
 rw [Kv];exact F8 hi
theorem Ch.lL {h:lD}{A B:List mC}{ws:List Wd}(e:h=OQ A (XS ws) B):Ch h (VS A.length ws).lL ws:=by
 subst e
 cases ws with
 | nil=>exact⟨rfl,fun i hi=>by simp at hi,fun _ _ _=>rfl⟩
 | cons w r=>exact Xn
def FR (n:Nat):mC:=if n=0 then .front 0 0 else .front n 1
theorem AJ {n k:Nat}:Cd k [FR n]:=by
 unfold FR;split <;> exact oP rD
def zs (l:List Nat):List Int:=l.map fun k:Nat=>(k:Int)
theorem MP {l:List Nat}:(zs l).length=l.length:=by simp [zs]
def ints (l:List Int):List (List lC):=l.map fun n=>[.int .i64 n]
theorem SN {h C:lD}{l:List Int}{z:Int}(hl:l.length≤2000000) {t:Hk.Tok} :
  nC 1 8 (h++FR l.length::C) (.slice (ints l) (.own h.length)) (.slice [[.int .i64 z]] t)=some (.slice (ints (l++[z])) (.own h.length),h++FR (l.length+1)::C):=by
 have hr:∀H:lD,qS 1 H (.slice [[.int .i64 z]] t)=some [[.int .i64 z]]:=fun H=>by simp
 have hg:∀x,(h++x::C)[h.length]?=some x:=fun x=>by rw [af4 (ai1 _),Nat.sub_self];rfl
 have hs:∀x y,(h++x::C).set h.length y=h++y::C:=fun x y=>by rw [List.set_append_right _ _ (ai1 _),Nat.sub_self];rfl
 have hi:(ints l).length=l.length:=by simp [ints]
 have e1:FR (l.length+1)=.front (l.length+1) 1:=by simp [FR]
 have e2:ints (l++[z])=ints l++[[.int .i64 z]]:=by simp [ints]
 unfold nC
 simp only [hr]
 rw [hg,e1,e2]
 by_cases h0:l.length=0
 ·have e3:FR l.length=.front 0 0:=by simp [FR,h0]
  rw [e3]
  simp only [hi,List.length_singleton,hs]
  rw [if_pos ⟨h0,.inr ⟨trivial,trivial⟩,by omega,by omega⟩,if_neg (by omega),h0]
 ·have e3:FR l.length=.front l.length 1:=by simp [FR,h0]
  rw [e3]
  simp only [hi,List.length_singleton,hs]
  rw [if_pos ⟨trivial,.inl trivial,by omega,by omega⟩,if_neg (by omega)]
section
variable {h:lD}(hK:TH h) {S:lC}{ws:List Wd}(hS:Ch h S ws) (hw:ws.length≤20000)
include hK hS hw
theorem TS (i:Nat) (hi:i≤20000) (c:Int) {v:lC}(hv:∀h',v.nO (h.length+2) h'=v) (hv2:∀h',v.pV (h.length+2) h'=v):∀(n:Nat) (w:Wd) (l:List Int),w.toNat<n→l.length+(uO w).length≤64*i+64 →
  mX (ET KK (h.length+2)) ([v,.slice (ints l) (.own (h.length+1)),.int .i64 (i:Int),wc w,S,.int .i64 c,.int .i64 (i:Int)],h++[.front 0 0,FR l.length]) =
   some (.exit 2,[v,.slice (ints (l++(uO w).map fun k=>((64*i+k:Nat):Int))) (.own (h.length+1)),.int .i64 (i:Int),wc 0#64,S,.int .i64 c,.int .i64 (i:Int)],h++[.front 0 0,FR (l++(uO w).map fun k=>((64*i+k:Nat):Int)).length]):=by
 have hSs:∀h',S.pV (h.length+2) h'=S:=fun h'=>by
  have h1:=hS.len
  cases S with
  | slice rows t=>exact hS.pV _ h' (by omega)
  | mslice a b c d=>exact hS.pV _ h' (by omega)
  | vslice a b c d e=>exact hS.pV _ h' (by omega)
  | _=>simp [mP] at h1
 have hT:∀n,TH (h++[.front 0 0,FR n]):=fun n=>O2 hK (oP AJ)
 have htr:∀n C,oD (h.length+2) (h++.front 0 0::FR n::C)=some (h++[.front 0 0,FR n]):=fun n C=>by
  have:=sW (C:=C) (hT n)
  simpa using this
 have hwc:∀w h',lC.pV (h.length+2) h' (wc w)=wc w:=fun w h'=>rfl
 intro n
 induction n with
 | zero=>intro w l a1;omega
 | succ n ih =>
  intro w l a1 a2
  rw [nM]
  have f0:=ab3 w
  by_cases h0:w=0#64
  ·subst h0
   rw [Pz]
   have step:ET KK (h.length+2) ([v,.slice (ints l) (.own (h.length+1)),.int .i64 (i:Int),wc 0#64,S,.int .i64 c,.int .i64 (i:Int)],h++[.front 0 0,FR l.length]) =
     some (.exit 2,[v,.slice (ints l) (.own (h.length+1)),.int .i64 (i:Int),wc 0#64,S,.int .i64 c,.int .i64 (i:Int)],h++[.front 0 0,FR l.length]):=by
    unfold ET
    simp only [List.getD_cons_zero,List.getD_cons_succ]
    rw [f0]
    simp -implicitDefEqProofs [lX,htr,hv2,hSs,hwc]
   rw [step];simp
  ·obtain⟨k,hk,h1,h2,h3⟩:=lowest w h0
   have hc:=Vh w h0
   have hlw:=Py w hk h1 h2 h3
   have f1:=Na w
   have f2:=Fg w (w-1#64)
   have f3:=fun h'=>auD w hk h1 h2 h3 h'
   have g:=ih (w &&& (w-1#64)) (l++[((64*i+k:Nat):Int)]) (by omega) (by rw [hlw] at a2;simp at a2 ⊢;omega)
   have hle:(uO w).length≤64:=by unfold uO;exact Nat.le_trans (List.length_filter_le _ _) (by simp)
   have w1:IntKind.i64.wrap (64*(i:Int))=64*(i:Int):=by rw [wrap64] <;> omega
   have w2:IntKind.i64.wrap (64*(i:Int)+(k:Int))=((64*i+k:Nat):Int):=by rw [wrap64] <;> omega
   have fa:=fun C t=>SN (h:=h++[.front 0 0]) (C:=C) (l:=l) (z:=((64*i+k:Nat):Int)) (by omega) (t:=t)
   simp only [List.length_append,aq8,List.length_nil,ar4,List.append_assoc,List.cons_append,ar5] at fa
   have fb:∀(h':lD) (z:Int),lR 1 1 [.int .i64 0] [(0,.int .i64 z)] h'=some (.slice [[.int .i64 z]] (.own h'.length),h'++[.front 1 1]):=fun h' z=>rfl
   rw [hlw]
   simp only [aq7]
   have e:l++((64*i+k:Nat):Int)::(uO (w &&& (w-1#64))).map (fun k=>((64*i+k:Nat):Int))=(l++[((64*i+k:Nat):Int)])++(uO (w &&& (w-1#64))).map (fun k=>((64*i+k:Nat):Int)):=by simp
   rw [e,←g]
   clear g ih a2 hlw e a1 hc h1 h2 h3 hle
   generalize (64*i+k:Nat)=z at *
   generalize w-1#64=wm at *
   generalize w &&& wm=w' at *
   have f0':lZ .neq (wc w) (.int .u64 0)=some (.bool true):=by rw [f0,decide_eq_false h0];rfl
   have fu:lC.lL (wc w)=wc w:=rfl
   have step:ET KK (h.length+2) ([v,.slice (ints l) (.own (h.length+1)),.int .i64 (i:Int),wc w,S,.int .i64 c,.int .i64 (i:Int)],h++[.front 0 0,FR l.length]) =
     some (.normal,[v,.slice (ints (l++[(z:Int)])) (.own (h.length+1)),.int .i64 (i:Int),wc w',S,.int .i64 c,.int .i64 (i:Int)],h++[.front 0 0,FR (l.length+1)]):=by
    clear f0
    have hw':=fun h'=>hwc w' h'
    clear hwc
    generalize wc w=a at *
    generalize wc w'=a' at *
    generalize wc wm=am at *
    unfold ET
    simp only [List.getD_cons_zero,List.getD_cons_succ]
    rw [f0']
    simp -implicitDefEqProofs [lX,htr,hv2,hSs,w1,w2,f1,f2,f3,fa,fb,fu,hw']
   rw [step];simp
theorem TT {v:lC}(hv:∀h',v.nO (h.length+2) h'=v) (hv2:∀h',v.pV (h.length+2) h'=v):∀(n i:Nat),ws.length<i+n→i≤ws.length →
  ∃j:Int,mX (EU KK (h.length+2)) ([v,.slice (ints (zs (oJ ws i))) (.own (h.length+1)),S,.int .i64 (ws.length:Int),.int .i64 (i:Int)],h++[.front 0 0,FR (oJ ws i).length]) =
   some (.exit 0,[v,.slice (ints (zs (oJ ws ws.length))) (.own (h.length+1)),S,.int .i64 (ws.length:Int),.int .i64 j],h++[.front 0 0,FR (oJ ws ws.length).length]):=by
 have hSs:∀h',S.pV (h.length+2) h'=S:=fun h'=>by
  have h1:=hS.len
  cases S with
  | slice rows t=>exact hS.pV _ h' (by omega)
  | mslice a b c d=>exact hS.pV _ h' (by omega)
  | vslice a b c d e=>exact hS.pV _ h' (by omega)
  | _=>simp [mP] at h1
 have hT:∀n,TH (h++[.front 0 0,FR n]):=fun n=>O2 hK (oP AJ)
 have htr:∀n C,oD (h.length+2) (h++.front 0 0::FR n::C)=some (h++[.front 0 0,FR n]):=fun n C=>by
  have:=sW (C:=C) (hT n)
  simpa using this
 have hlu:∀i,(oJ ws i).length≤64*i:=fun i=>by
  rw [Bd];exact Nat.le_trans (List.length_filter_le _ _) (by simp)
 intro n
 induction n with
 | zero=>intro i a1 a2;omega
 | succ n ih =>
  intro i a1 a2
  rw [nM]
  by_cases hi:i<ws.length
  ·have hi':(i:Int)<ws.length:=by omega
   obtain⟨p,e1,e2⟩:=hS.at_ i hi
   have w1:=Cy (a:=i) (by omega)
   have g0:=TS hK hS hw i (by omega) (ws.length:Int) hv hv2 ((ws.getD i 0#64).toNat+1) (ws.getD i 0#64) (zs (oJ ws i)) (by omega) (by
    have h1:=hlu i
    have h2:(uO (ws.getD i 0#64)).length≤64:=by unfold uO;exact Nat.le_trans (List.length_filter_le _ _) (by simp)
    rw [MP];omega)
   have eu:oJ ws (i+1)=oJ ws i++(uO (ws.getD i 0#64)).map (64*i+·):=by
    unfold oJ;rw [List.range_succ,List.flatMap_append];simp
   have el:(zs (oJ ws i))++(uO (ws.getD i 0#64)).map (fun k=>((64*i+k:Nat):Int))=zs (oJ ws (i+1)):=by
    rw [eu,zs,zs,List.map_append,List.map_map];rfl
   rw [el] at g0
   simp only [MP] at g0
   obtain⟨j,g1⟩:=ih (i+1) (by omega) hi
   refine⟨j,?_⟩
   rw [←g1]
   simp only [as1,ar6]
   have e2':=e2 [.front 0 0,FR (oJ ws i).length]
   clear g1 ih e2 eu el
   generalize wc (ws.getD i 0#64)=a at *
   have step:EU KK (h.length+2) ([v,.slice (ints (zs (oJ ws i))) (.own (h.length+1)),S,.int .i64 (ws.length:Int),.int .i64 (i:Int)],h++[.front 0 0,FR (oJ ws i).length]) =
     some (.normal,[v,.slice (ints (zs (oJ ws (i+1)))) (.own (h.length+1)),S,.int .i64 (ws.length:Int),.int .i64 ((i:Int)+1)],h++[.front 0 0,FR (oJ ws (i+1)).length]):=by
    unfold EU
    simp -implicitDefEqProofs [hi',e1,e2',g0,lX,htr,hv2,hSs,w1]
   rw [step];rfl
  ·have hi':¬(i:Int)<ws.length:=by omega
   obtain rfl:i=ws.length:=by omega
   refine⟨(ws.length:Int),?_⟩
   have step:EU KK (h.length+2) ([v,.slice (ints (zs (oJ ws ws.length))) (.own (h.length+1)),S,.int .i64 (ws.length:Int),.int .i64 (ws.length:Int)],h++[.front 0 0,FR (oJ ws ws.length).length]) =
     some (.exit 0,[v,.slice (ints (zs (oJ ws ws.length))) (.own (h.length+1)),S,.int .i64 (ws.length:Int),.int .i64 (ws.length:Int)],h++[.front 0 0,FR (oJ ws ws.length).length]):=by
    unfold EU
    simp -implicitDefEqProofs [lX,htr,hv2,hSs]
   rw [step];rfl
theorem c85:KK 85 [S] h=some (.ret (.slice (ints (zs (nX ws))) .no),h):=by
 refine oF (aiR _ _ _) ?_
 obtain⟨j,g⟩:=TT hK hS hw (v:=.slice [] (.own h.length)) (fun h'=>by simp) (fun h'=>by simp) (ws.length+1) 0 (by omega) (Nat.zero_le _)
 have e0:oJ ws 0=[]:=rfl
 rw [e0] at g
 have hl:=hS.len
 have htr:=fun C=>sW (C:=C) hK
 rw [Px]
 have e1:FR ([]:List Nat).length=.front 0 0:=rfl
 have e2:ints (zs [])=[]:=rfl
 rw [e1,e2] at g
 simp only [ar6] at g
 unfold m85
 have hd:decide (h.length+1<h.length)=false:=by simp
 simp -implicitDefEqProofs [hl,g,nJ,htr,hd]
end
theorem TF (a b:List Int) (hab:a.length=b.length) (hl:a.length≤2000000):∀(n i:Nat),a.length<i+n→i≤a.length →
  ∃(ex:Ex) (r:Bool) (j:Int),mX (DD KK 0) ([.slice (ints a) .no,.slice (ints b) .no,.bool false,.int .i64 (a.length:Int),.int .i64 (i:Int)],[])=some (ex,[.slice (ints a) .no,.slice (ints b) .no,.bool r,.int .i64 (a.length:Int),.int .i64 j],[]) ∧
   ((ex=.ret∧r=false∧a.drop i≠b.drop i)∨(ex=.exit 0∧a.drop i=b.drop i)):=by
 intro n
 induction n with
 | zero=>intro i a1 a2;omega
 | succ n ih =>
  intro i a1 a2
  rw [nM]
  by_cases hi:i<a.length
  ·have hi':(i:Int)<a.length:=by omega
   have hx:a[i]?=some a[i]:=ac6 hi
   have hib:i<b.length:=by omega
   have hy:b[i]?=some b[i]:=ac6 hib
   have w1:=Cy (a:=i) (by omega)
   rw [ao4 hi,ao4 hib]
   generalize a[i]=x at *
   generalize b[i]=y at *
   by_cases he:x=y
   ·obtain⟨ex,r,j,g1,g2⟩:=ih (i+1) (by omega) hi
    refine⟨ex,r,j,?_,?_⟩
    ·simp only [as1,ar6] at g1
     rw [←g1]
     simp [DD,hi',hx,hy,ints,he,EB,w1]
    ·rw [he];simpa using g2
   ·refine⟨.ret,false,i,?_,.inl ⟨rfl,rfl,by simp [he]⟩⟩
    simp [DD,hi',hx,hy,ints,he,EB]
  ·have hi':¬(i:Int)<a.length:=by omega
   rw [List.drop_eq_nil_of_le (by omega),List.drop_eq_nil_of_le (by omega)]
   refine⟨.exit 0,false,i,?_,.inr ⟨rfl,rfl⟩⟩
   simp [DD,hi',EB]
theorem auC (a b:List Int) (hl:a.length≤2000000) (h:lD):KK 100 [.slice (ints a) .no,.slice (ints b) .no] h=some (.ret (.bool (decide (a=b))),h):=by
 refine nG rfl rfl (oF (ZO _ _ _ _) ?_)
 have e1:mP (.slice (ints a) .no)=some (.int .i64 (a.length:Int)):=by simp [ints]
 have e2:mP (.slice (ints b) .no)=some (.int .i64 (b.length:Int)):=by simp [ints]
 by_cases hab:a.length=b.length
 ·obtain⟨ex,r,j,g1,g2⟩:=TF a b hab hl (a.length+1) 0 (by omega) (Nat.zero_le _)
  simp only [List.drop_zero,ar6] at g1 g2
  rw [←hab] at e2
  unfold agQ
  rcases g2 with ⟨rfl,rfl,g2⟩ | ⟨rfl,g2⟩
  ·simp [e1,e2,g1,g2,mS]
  ·subst g2
   simp [e1,g1,mS]
 ·have hab':¬((a.length:Int)=(b.length:Int)):=by omega
  have hne:¬a=b:=fun e=>hab (by rw [e])
  unfold agQ
  simp [e1,e2,hab,hab',hne,mS]
theorem c84 {h:lD}(hK:TH h) {S T:lC}{a b:List Wd}(hS:Ch h S.lL a) (hT:Ch h T.lL b) (ha:a.length≤20000) (hb:b.length≤20000) :
  KK 84 [S,T] h=some (.ret (.bool (decide (nX a=nX b))),h):=by
 refine oF (aiQ _ _ _ _) ?_
 have f1:=c85 hK hS ha
 have f2:=c85 hK hT hb
 have f3:=fun h'=>auC (zs (nX a)) (zs (nX b)) (by
  rw [MP,nX];exact Nat.le_trans (List.length_filter_le _ _) (by simp;omega)) h'
 have e:decide (zs (nX a)=zs (nX b))=decide (nX a=nX b):=by
  congr 1
  refine propext ⟨fun h=>?_,fun h=>by rw [h]⟩
  exact(List.map_inj_right (fun x y hxy=>Int.ofNat_inj.1 hxy)).1 h
 rw [e] at f3
 have htr:=rB hK
 simp -implicitDefEqProofs [m84,f1,f2,f3,nJ,htr]
end
section
open Go Hk Go.Proofs.Wd
def pX (out s:List Wd):Nat→List Wd
 | 0=>zM out s.length
 | i+1=>(pX out s i).set i ((pX out s i).getD i 0#64 ||| s.getD i 0#64)
theorem u4 (out s:List Wd):∀i,(pX out s i).length=max out.length s.length
 | 0=>zO _ _
 | i+1=>by simp [pX,u4 out s i]
theorem FG (out s:List Wd):∀i,i≤s.length→∀j,(pX out s i).getD j 0#64=if j<i then out.getD j 0#64 ||| s.getD j 0#64 else out.getD j 0#64
 | 0,_,j=>by rw [if_neg (by omega)];exact zN _ _ _
 | i+1,hi,j=>by
  have ih:=FG out s i (by omega)
  rw [pX,Hu _ _ _ _ (by rw [u4];omega),ih i,ih j,if_neg (Nat.lt_irrefl _)]
  by_cases h:i=j
  ·subst h;rw [if_pos rfl,if_pos (by omega)]
  ·rw [if_neg h]
   by_cases h2:j<i
   ·rw [if_pos h2,if_pos (by omega)]
   ·rw [if_neg h2,if_neg (by omega)]
theorem Vr {a b:List Wd}(hl:a.length=b.length) (h:∀j,a.getD j 0#64=b.getD j 0#64):a=b:=by
 apply List.ext_getElem hl
 intro i h1 h2
 have:=h i
 simpa [ae9,h1,h2] using this
theorem QM (out s:List Wd):pX out s s.length=F5 out s:=by
 refine Vr (by rw [u4,Sg]) fun j=>?_
 rw [FG _ _ _ (ai1 _),N0]
 split
 ·rfl
 ·rename_i h
  have:s.getD j 0#64=0#64:=by rw [ae9,List.getElem?_eq_none (by omega)];rfl
  rw [this];simp
def s9 (L:List (List Wd)):List Wd:=L.foldl F5 []
theorem Fc (t:Nat):∀(L:List (List Wd)) (out:List Wd),oY (L.foldl F5 out) t=(oY out t || L.any (oY · t))
 | [],out=>by simp
 | s::r,out=>by rw [List.foldl_cons,Fc t r,ab4,List.any_cons,Bool.or_assoc]
theorem zD (n:Nat):∀(L:List (List Wd)) (out:List Wd),out.length≤n→(∀s∈L,s.length≤n)→(L.foldl F5 out).length≤n
 | [],out,h,_=>h
 | s::r,out,h,hl=>by
  rw [List.foldl_cons]
  exact zD n r _ (by rw [Sg];have:=hl s (by simp);omega) fun x hx=>hl x (by simp [hx])
section
variable {A B:List mC}(hB:KB A B)
include hB
theorem TP {s:List Wd}(hs:s.length≤20000) {v x c:lC}{i:Int}(hv:∀h,v.pV (HN A B) h=v) (hx:∀h,x.pV (HN A B) h=x) (hc:∀h,c.pV (HN A B) h=c):∀(d:Nat) (ws:List Wd),s.length-ws.length=d →
  mX (EP KK (HN A B)) ([v,VS A.length ws,PS s,x,c,.int .i64 i],OQ A (XS ws) B)=some (.exit 2,[v,VS A.length (zM ws s.length),PS s,x,c,.int .i64 i],OQ A (XS (zM ws s.length)) B):=by
 have hps:mP (PS s)=some (.int .i64 (s.length:Int)):=by simp [PS]
 have hpn:∀h,(PS s).pV (HN A B) h=PS s:=fun h=>rfl
 intro d
 induction d with
 | zero =>
  intro ws hd
  rw [nM,HQ (by omega)]
  have hcc:¬((ws.length:Int)<(s.length:Int)):=by omega
  have htr:=p9 (X:=XS ws) (A:=A) (B:=B) hB wZ
  have hsn:=fun h=>uT (ws:=ws) (m:=HN A B) (h:=h) s4
  have step:EP KK (HN A B) ([v,VS A.length ws,PS s,x,c,.int .i64 i],OQ A (XS ws) B)=some (.exit 2,[v,VS A.length ws,PS s,x,c,.int .i64 i],OQ A (XS ws) B):=by
   unfold EP
   simp only [List.getD_cons_zero,List.getD_cons_succ]
   rw [GF,hps]
   simp -implicitDefEqProofs [hcc,lX,htr,hsn,hv,hx,hc,hpn]
  rw [step];rfl
 | succ d ih =>
  intro ws hd
  rw [nM]
  have hcc:((ws.length:Int)<(s.length:Int)):=by omega
  have htr:=s5 (X:=XS (ws++[0#64])) (A:=A) (B:=B) (C:=[.front 1 1]) hB wZ
  have hsn:=fun h=>uT (ws:=ws++[0#64]) (m:=HN A B) (h:=h) s4
  have g:=ih (ws++[0#64]) (by simp;omega)
  rw [JT (by omega)] at g
  rw [←g]
  have ha:=fun t=>Jw (A:=A) (B:=B++[.front 1 1]) (ws:=ws) (by omega) 0#64 (t:=t)
  clear g ih
  have step:EP KK (HN A B) ([v,VS A.length ws,PS s,x,c,.int .i64 i],OQ A (XS ws) B)=some (.normal,[v,VS A.length (ws++[0#64]),PS s,x,c,.int .i64 i],OQ A (XS (ws++[0#64])) B):=by
   unfold EP
   simp only [List.getD_cons_zero,List.getD_cons_succ]
   rw [GF,hps]
   simp -implicitDefEqProofs [hcc,lX,htr,hsn,hv,hx,hc,hpn,NX,ha]
  rw [step];rfl
theorem TQ {s out:List Wd}(hs:s.length≤20000) {v x c:lC}{i:Int}(hv:∀h,v.pV (HN A B) h=v) (hx:∀h,x.pV (HN A B) h=x) (hc:∀h,c.pV (HN A B) h=c):∀(d j:Nat),s.length=j+d →
  mX (ER KK (HN A B)) ([v,VS A.length (pX out s j),x,c,.int .i64 i,PS s,.int .i64 (s.length:Int),.int .i64 (j:Int)],OQ A (XS (pX out s j)) B) =
   some (.exit 4,[v,VS A.length (F5 out s),x,c,.int .i64 i,PS s,.int .i64 (s.length:Int),.int .i64 (s.length:Int)],OQ A (XS (F5 out s)) B):=by
 have hpn:∀h,(PS s).pV (HN A B) h=PS s:=fun h=>rfl
 intro d
 induction d with
 | zero =>
  intro j hj
  obtain rfl:s.length=j:=by omega
  rw [nM,QM]
  have htr:=p9 (X:=XS (F5 out s)) (A:=A) (B:=B) hB wZ
  have hsn:=fun h=>uT (ws:=F5 out s) (m:=HN A B) (h:=h) s4
  have step:ER KK (HN A B) ([v,VS A.length (F5 out s),x,c,.int .i64 i,PS s,.int .i64 (s.length:Int),.int .i64 (s.length:Int)],OQ A (XS (F5 out s)) B) =
    some (.exit 4,[v,VS A.length (F5 out s),x,c,.int .i64 i,PS s,.int .i64 (s.length:Int),.int .i64 (s.length:Int)],OQ A (XS (F5 out s)) B):=by
   unfold ER
   simp -implicitDefEqProofs [lX,htr,hsn,hv,hx,hc,hpn]
  rw [step];rfl
 | succ d ih =>
  intro j hj
  rw [nM]
  have hcc:((j:Int)<(s.length:Int)):=by omega
  have hjl:j<(pX out s j).length:=by rw [u4];omega
  have w1:=Cy (a:=j) (by omega)
  have e1:=fun k=>Db (id:=A.length) (k:=k) hjl
  have e2:=F8 (A:=A) (B:=B) hjl
  have e3:=GG (A:=A) (B:=B) hjl
  have e4:lU 1 (PS s) (.int .i64 (j:Int))=some (.pptr [wc (s.getD j 0#64)]):=by
   rw [PS,lG,ac6 (by omega)]
   simp [ae9,show j<s.length by omega]
  have e5:=GN ((pX out s j).getD j 0#64) (s.getD j 0#64)
  have eV:VS A.length (pX out s j)=VS A.length (pX out s (j+1)):=UU (by rw [u4,u4])
  have htr:=p9 (X:=XS (pX out s (j+1))) (A:=A) (B:=B) hB wZ
  have hsn:=fun h=>uT (ws:=pX out s (j+1)) (m:=HN A B) (h:=h) s4
  have g:=ih (j+1) (by omega)
  rw [←g]
  clear g ih
  have e3':=e3 ((pX out s j).getD j 0#64 ||| s.getD j 0#64)
  have eo:(pX out s j).set j ((pX out s j).getD j 0#64 ||| s.getD j 0#64)=pX out s (j+1):=rfl
  rw [eo] at e3'
  have w1':IntKind.i64.wrap ((j:Int)+1)=((j+1:Nat):Int):=by rw [w1];simp
  have step:ER KK (HN A B) ([v,VS A.length (pX out s j),x,c,.int .i64 i,PS s,.int .i64 (s.length:Int),.int .i64 (j:Int)],OQ A (XS (pX out s j)) B) =
    some (.normal,[v,VS A.length (pX out s (j+1)),x,c,.int .i64 i,PS s,.int .i64 (s.length:Int),.int .i64 ((j+1:Nat):Int)],OQ A (XS (pX out s (j+1))) B):=by
   rw [←eV] at hsn ⊢
   clear e3 eo
   generalize pX out s (j+1)=o2 at *
   generalize wc ((pX out s j).getD j 0#64 ||| s.getD j 0#64)=a1 at *
   generalize wc ((pX out s j).getD j 0#64)=a2 at *
   generalize wc (s.getD j 0#64)=a3 at *
   generalize ((j+1:Nat):Int)=j1 at *
   unfold ER
   simp -implicitDefEqProofs [hcc,e1,e2,e3',e4,e5,lX,htr,hsn,hv,hx,hc,hpn,w1']
  rw [step];rfl
end
section
variable {A:List mC}(hB:KB A [])
include hB
theorem TR {L:List (List Wd)}(hL:L.length≤2000000) (hl:∀s∈L,s.length≤20000) {v:lC}(hv:∀h,v.pV (HN A []) h=v):∀(d i:Nat) (out:List Wd),L.length=i+d →
  mX (ES KK (HN A [])) ([v,VS A.length out,.slice (L.map fun s=>[PS s]) .no,.int .i64 (L.length:Int),.int .i64 (i:Int)],OQ A (XS out) []) =
   some (.exit 0,[v,VS A.length ((L.drop i).foldl F5 out),.slice (L.map fun s=>[PS s]) .no,.int .i64 (L.length:Int),.int .i64 (L.length:Int)],OQ A (XS ((L.drop i).foldl F5 out)) []):=by
 intro d
 induction d with
 | zero =>
  intro i out hi
  obtain rfl:L.length=i:=by omega
  rw [nM,List.drop_length]
  have htr:=p9 (X:=XS out) (A:=A) hB wZ
  have hsn:=fun h=>uT (ws:=out) (m:=HN A []) (h:=h) s4
  have step:ES KK (HN A []) ([v,VS A.length out,.slice (L.map fun s=>[PS s]) .no,.int .i64 (L.length:Int),.int .i64 (L.length:Int)],OQ A (XS out) []) =
    some (.exit 0,[v,VS A.length out,.slice (L.map fun s=>[PS s]) .no,.int .i64 (L.length:Int),.int .i64 (L.length:Int)],OQ A (XS out) []):=by
   unfold ES
   simp -implicitDefEqProofs [lX,htr,hsn,hv]
  rw [step];rfl
 | succ d ih =>
  intro i out hi
  rw [nM]
  have hil:i<L.length:=by omega
  have hcc:((i:Int)<(L.length:Int)):=by omega
  have hx:L[i]?=some L[i]:=ac6 hil
  have hsl:=hl L[i] (as2 hil)
  have w1:IntKind.i64.wrap ((i:Int)+1)=((i+1:Nat):Int):=by rw [Cy (a:=i) (by omega)];simp
  rw [ao4 hil]
  generalize L[i]=s at *
  have hc:∀h,(lC.int .i64 (L.length:Int)).pV (HN A []) h=.int .i64 (L.length:Int):=fun h=>rfl
  have hxx:∀h,(lC.slice (L.map fun s=>[PS s]) .no).pV (HN A []) h=.slice (L.map fun s=>[PS s]) .no:=fun h=>rfl
  have g0:=TP hB hsl (i:=(i:Int)) hv hxx hc _ out rfl
  have g1:=TQ hB hsl (out:=out) (i:=(i:Int)) hv hxx hc s.length 0 (by omega)
  have htr:=p9 (X:=XS (F5 out s)) (A:=A) hB wZ
  have hsn:=fun h=>uT (ws:=F5 out s) (m:=HN A []) (h:=h) s4
  have hps:mP (PS s)=some (.int .i64 (s.length:Int)):=by simp [PS]
  have e4:lU 1 (.slice (L.map fun s=>[PS s]) .no) (.int .i64 (i:Int))=some (.pptr [PS s]):=by
   rw [lG,hx];rfl
  simp only [pX,ar6] at g1
  rw [List.foldl_cons,←ih (i+1) (F5 out s) (by omega)]
  clear ih
  generalize ((i+1:Nat):Int)=i1 at *
  have step:ES KK (HN A []) ([v,VS A.length out,.slice (L.map fun s=>[PS s]) .no,.int .i64 (L.length:Int),.int .i64 (i:Int)],OQ A (XS out) []) =
    some (.normal,[v,VS A.length (F5 out s),.slice (L.map fun s=>[PS s]) .no,.int .i64 (L.length:Int),.int .i64 i1],OQ A (XS (F5 out s)) []):=by
   generalize hR:lC.slice (L.map fun s=>[PS s]) .no=R at *
   unfold ES
   simp -implicitDefEqProofs [hcc,e4,g0,hps,g1,lX,htr,hsn,hv,hxx,w1]
  rw [step];rfl
end
theorem c81 {h:lD}(hK:TH h) {L:List (List Wd)}(hL:L.length≤2000000) (hl:∀s∈L,s.length≤20000) :
  KK 81 [.slice (L.map fun s=>[PS s]) .no] h=some (.ret (VS (h.length+1) (s9 L)),OQ (h++[.front 0 0]) (XS (s9 L)) []):=by
 refine oF (aiN _ _ _) ?_
 have hB:KB (h++[.front 0 0]) []:=⟨fun n hn=>p8 (hK.mono (by simp [HN] at hn;omega)) (oP rD),fun n hn=>rD⟩
 have hH:HN (h++[.front 0 0]) []=h.length+2:=by simp [HN]
 have hA:(h++[mC.front 0 0]).length=h.length+1:=by simp
 have g:=TR hB hL hl (v:=.slice [] (.own h.length)) (fun h'=>by rw [hH];simp) L.length 0 [] (by omega)
 have e0:OQ (h++[.front 0 0]) (XS []) []=h++[.front 0 0,.front 0 0]:=by simp [OQ,XS]
 have e1:VS (h.length+1) []=.slice [] (.own (h.length+1)):=rfl
 rw [hH,hA,e0,e1] at g
 simp only [List.drop_zero,ar6] at g
 unfold s9
 generalize L.foldl F5 []=J at *
 unfold m81
 simp -implicitDefEqProofs [g]
end
section
open Go Hk Go.Proofs.Wd
def sZ (t:Term) (ws:List Wd):List Wd:=if t.kind=2∧0≤t.a then uS ws t.a.toNat else ws
def uJ (t:Term):List mC:=.cells t.cells::.front 0 0::if t.kind=2∧0≤t.a then [.front 0 0] else []
def yJ (ws:List Wd) (l:List Int):List Wd:=l.foldl (fun ws t=>if 0≤t then uS ws t.toNat else ws) ws
def vS (o:Op) (ws:List Wd):List Wd:=yJ (if (nK o.kind).dst=true∧0≤o.dst then tF ws o.dst.toNat else ws) (oO o)
def KH (o:Op):List mC:=[.cells o.cells,.front 0 0]
theorem Rt (t:Term) (ws:List Wd) (u:Nat):oY (sZ t ws) u=true↔SE t (fun u=>0≤u∧oY ws u.toNat=true) (u:Int):=by
 unfold sZ SE
 split
 ·rename_i h
  obtain⟨n,hn⟩:=Int.eq_ofNat_of_zero_le h.2
  rw [Ko,Bool.or_eq_true,decide_eq_true_eq]
  simp only [as0]
  constructor
  ·rintro(h1 | h1)
   ·exact .inr ⟨by omega,h1⟩
   ·exact .inl ⟨h.1,by omega⟩
  ·rintro(⟨_,h1⟩ | ⟨_,h1⟩)
   ·exact .inr (by omega)
   ·exact .inl h1
 ·rename_i h
  simp only [as0]
  constructor
  ·exact fun h1=>.inr ⟨by omega,h1⟩
  ·rintro(⟨h1,h2⟩ | ⟨_,h1⟩)
   ·exact absurd ⟨h1,by omega⟩ h
   ·exact h1
theorem IJ (u:Nat):∀(l:List Int) (ws:List Wd),oY (yJ ws l) u=true↔(u:Int)∈l∨oY ws u=true
 | [],ws=>by simp [yJ]
 | t::r,ws=>by
  have ih:=IJ u r (if 0≤t then uS ws t.toNat else ws)
  have e:yJ ws (t::r)=yJ (if 0≤t then uS ws t.toNat else ws) r:=rfl
  rw [e,ih,List.mem_cons]
  split
  ·rename_i h
   rw [Ko,Bool.or_eq_true,decide_eq_true_eq]
   constructor
   ·rintro(h1 | h1 | h1)
    ·exact .inl (.inr h1)
    ·exact .inr h1
    ·exact .inl (.inl (by omega))
   ·rintro((h1 | h1) | h1)
    ·exact .inr (.inr (by omega))
    ·exact .inl h1
    ·exact .inr (.inl h1)
  ·rename_i h
   constructor
   ·rintro(h1 | h1)
    ·exact .inl (.inr h1)
    ·exact .inr h1
   ·rintro((h1 | h1) | h1)
    ·omega
    ·exact .inl h1
    ·exact .inr h1
theorem Rs (o:Op) (ws:List Wd) (u:Nat):oY (vS o ws) u=true↔XH o (fun u=>0≤u∧oY ws u.toNat=true) (u:Int):=by
 unfold vS XH
 rw [IJ]
 refine or_congr Iff.rfl ?_
 split
 ·rename_i h
  rw [ML,am4,Bool.not_eq_true',decide_eq_false_iff_not]
  simp only [as0,h.1,true_and]
  constructor
  ·rintro⟨h1,h2⟩;exact⟨⟨by omega,h1⟩,by omega⟩
  ·rintro⟨⟨_,h1⟩,h2⟩;exact⟨h1,by omega⟩
 ·rename_i h
  simp only [as0]
  constructor
  ·intro h1;exact⟨⟨by omega,h1⟩,fun h2=>h ⟨h2.1,by omega⟩⟩
  ·rintro⟨⟨_,h1⟩,_⟩;exact h1
theorem Kp {n:Nat}:∀(l:List Int) (ws:List Wd),(∀t∈l,t<64*n)→ws.length≤n→(yJ ws l).length≤n
 | [],ws,_,h=>h
 | t::r,ws,hl,h=>by
  have e:yJ ws (t::r)=yJ (if 0≤t then uS ws t.toNat else ws) r:=rfl
  rw [e]
  refine Kp r _ (fun x hx=>hl x (by simp [hx])) ?_
  split
  ·have:=hl t (by simp)
   rw [Kq];omega
  ·exact h
theorem SX {n:Nat}{o:Op}{ws:List Wd}(hu:∀t∈oO o,t<64*n) (h:ws.length≤n):(vS o ws).length≤n:=by
 refine Kp _ _ hu ?_
 split
 ·rw [Eg];exact h
 ·exact h
theorem T0 {n:Nat}{t:Term}{ws:List Wd}(hu:t.kind=2→t.a<64*n) (h:ws.length≤n):(sZ t ws).length≤n:=by
 unfold sZ
 split
 ·rename_i h1
  have:=hu h1.1
  rw [Kq];omega
 ·exact h
section
variable {A B:List mC}(hB:KB A B)
include hB
theorem c82 {t:Term}(ht:t.kind=2→t.a≤2000000) (ws:List Wd):KK 82 [.agg t.cells,VS A.length ws] (OQ A (XS ws) B)=some (.ret (VS A.length (sZ t ws)),OQ A (XS (sZ t ws)) (B++uJ t)):=by
 refine oF (aiO _ _ _ _) ?_
 have hB2:KB A (B++[.cells t.cells,.front 0 0]):=hB.app (by simp [Term.cells])
 unfold sZ uJ
 by_cases k2:t.kind=2
 ·by_cases h0:0≤t.a
  ·obtain⟨n,hn⟩:=Int.eq_ofNat_of_zero_le h0
   have ht:=ht k2
   have g:=c98 hB2 (t:=n) (by omega) ws
   rw [if_pos ⟨k2,h0⟩,if_pos ⟨k2,h0⟩,hn]
   simp only [Term.cells,List.append_assoc,List.cons_append,ar5,as0] at g ⊢
   rw [hn,k2] at g
   simp -implicitDefEqProofs [m82,k2,hn,g]
  ·rw [if_neg (by omega),if_neg (by omega)]
   simp only [Term.cells]
   simp -implicitDefEqProofs [m82,k2,h0]
 ·rw [if_neg (by omega),if_neg (by omega)]
  simp only [Term.cells]
  simp -implicitDefEqProofs [m82,k2]
theorem Wt {u:List Int}(hu:∀t∈u,t≤2000000) (hl:u.length≤10) {v:lC}(hv:∀h,v.pV (HN A B) h=v):∀(d i:Nat) (ws:List Wd),u.length=i+d →
  mX (CR KK (HN A B)) ([VS A.length ws,v,.slice (u.map fun z=>[.int .i64 z]) .no,.int .i64 (u.length:Int),.int .i64 (i:Int)],OQ A (XS ws) B) =
   some (.exit 0,[VS A.length (yJ ws (u.drop i)),v,.slice (u.map fun z=>[.int .i64 z]) .no,.int .i64 (u.length:Int),.int .i64 (u.length:Int)],OQ A (XS (yJ ws (u.drop i))) B):=by
 intro d
 induction d with
 | zero =>
  intro i ws hi
  obtain rfl:u.length=i:=by omega
  rw [nM,List.drop_length]
  have htr:=p9 (X:=XS ws) (A:=A) hB wZ
  have hsn:=fun h=>uT (ws:=ws) (m:=HN A B) (h:=h) s4
  have step:CR KK (HN A B) ([VS A.length ws,v,.slice (u.map fun z=>[.int .i64 z]) .no,.int .i64 (u.length:Int),.int .i64 (u.length:Int)],OQ A (XS ws) B) =
    some (.exit 0,[VS A.length ws,v,.slice (u.map fun z=>[.int .i64 z]) .no,.int .i64 (u.length:Int),.int .i64 (u.length:Int)],OQ A (XS ws) B):=by
   unfold CR
   simp -implicitDefEqProofs [lX,htr,hsn,hv]
  rw [step];rfl
 | succ d ih =>
  intro i ws hi
  rw [nM]
  have hil:i<u.length:=by omega
  have hcc:((i:Int)<(u.length:Int)):=by omega
  have hx:u[i]?=some u[i]:=ac6 hil
  have hb:=hu u[i] (as2 hil)
  have w1:IntKind.i64.wrap ((i:Int)+1)=((i+1:Nat):Int):=by rw [Cy (a:=i) (by omega)];simp
  rw [ao4 hil]
  generalize u[i]=t at *
  have e:yJ ws (t::u.drop (i+1))=yJ (if 0≤t then uS ws t.toNat else ws) (u.drop (i+1)):=rfl
  rw [e,←ih (i+1) _ (by omega)]
  clear ih e
  generalize ((i+1:Nat):Int)=i1 at *
  have step:CR KK (HN A B) ([VS A.length ws,v,.slice (u.map fun z=>[.int .i64 z]) .no,.int .i64 (u.length:Int),.int .i64 (i:Int)],OQ A (XS ws) B) =
    some (.normal,[VS A.length (if 0≤t then uS ws t.toNat else ws),v,.slice (u.map fun z=>[.int .i64 z]) .no,.int .i64 (u.length:Int),.int .i64 i1],OQ A (XS (if 0≤t then uS ws t.toNat else ws)) B):=by
   by_cases h0:0≤t
   ·obtain⟨n,rfl⟩:=Int.eq_ofNat_of_zero_le h0
    have g:=c98 hB (t:=n) (by omega) ws
    have htr:=s5 (X:=XS (uS ws n)) (A:=A) (C:=[.front 0 0]) hB wZ
    have hsn:=fun h=>uT (ws:=uS ws n) (m:=HN A B) (h:=h) s4
    rw [if_pos h0]
    simp only [as0]
    generalize uS ws n=w' at *
    unfold CR
    simp -implicitDefEqProofs [hcc,hx,g,lX,htr,hsn,hv,w1]
   ·have htr:=p9 (X:=XS ws) (A:=A) hB wZ
    have hsn:=fun h=>uT (ws:=ws) (m:=HN A B) (h:=h) s4
    rw [if_neg h0]
    unfold CR
    simp -implicitDefEqProofs [hcc,hx,h0,lX,htr,hsn,hv,w1]
  rw [step];rfl
end
theorem XQ (o:Op):(oO o).length≤3:=by unfold oO;simp;omega
theorem c83 {A B:List mC}(hB:KB A B) {o:Op}(hu:∀t∈oO o,t≤2000000) (hd:o.dst≤2000000) (ws:List Wd) :
  KK 83 [.agg o.cells,VS A.length ws] (OQ A (XS ws) B)=some (.ret (VS A.length (vS o ws)),OQ A (XS (vS o ws)) (B++KH o)):=by
 refine oF (aiP _ _ _ _) ?_
 have hB2:KB A (B++[.cells o.cells,.front 0 0]):=hB.app (by simp [Op.cells])
 have hH:HN A (B++[.cells o.cells,.front 0 0])=HN A B+2:=by simp
 have g73:=c73 o
 have g74:=c36 o
 have g:=fun ws=>Wt hB2 hu (by have:=XQ o;omega) (v:=.slice [] (.own (HN A B+1))) (fun h=>by rw [hH];simp) (oO o).length 0 ws (by omega)
 rw [hH] at g
 simp only [List.drop_zero,ar6] at g
 unfold vS KH
 by_cases hc:(nK o.kind).dst=true∧0≤o.dst
 ·obtain⟨n,hn⟩:=Int.eq_ofNat_of_zero_le hc.2
  have g1:=c99 hB2 (t:=n) (by omega) ws
  rw [if_pos hc,hn]
  rw [hc.1] at g73
  simp only [as0]
  have g2:=g (tF ws n)
  have ev:VS A.length (tF ws n)=VS A.length ws:=UU (Eg _ _)
  rw [ev] at g2
  generalize yJ (tF ws n) (oO o)=w2 at *
  clear g
  simp only [Op.cells] at g73 g74 g1 g2 ⊢
  rw [hn] at g73 g74 g1 g2 ⊢
  simp -implicitDefEqProofs [m83,g73,g74,g1,g2]
 ·rw [if_neg hc]
  have g2:=g ws
  clear g
  generalize yJ ws (oO o)=w2 at *
  cases hf:(nK o.kind).dst
  ·rw [hf] at g73
   simp only [Op.cells] at g73 g74 g2 ⊢
   simp -implicitDefEqProofs [m83,g73,g74,g2]
  ·have h0:¬0≤o.dst:=fun h=>hc ⟨hf,h⟩
   rw [hf] at g73
   simp only [Op.cells] at g73 g74 g2 ⊢
   simp -implicitDefEqProofs [m83,g73,g74,g2,h0]
end
section
open Go Hk Go.Proofs.Wd
theorem c97 (k:Int) (h:lD):KK 97 [.int .i64 k] h=some (.ret (.bool (decide (k=-1))),h):=by
 refine nG rfl rfl (oF (aiS _ _ _) ?_)
 simp [m97,mS]
theorem e97 (k:Int) (h:lD):qQ mY KK 97 (oT mY 97 [.int .i64 k]) h=some (.ret (.bool (decide (k=-1))),h):=c97 k h
theorem AM {F:List lC×lD→Option R}{s s':List lC×lD}(h:F s=some (.normal,s')):mX F s=mX F s':=by rw [nM,h];rfl
theorem PC {F:List lC×lD→Option R}{s s':List lC×lD}(h:F s=some (.ret,s')):mX F s=some (.ret,s'):=by rw [nM,h];rfl
theorem tI {F:List lC×lD→Option R}{s s':List lC×lD}{i:Nat}(h:F s=some (.exit i,s')):mX F s=some (.exit i,s'):=by rw [nM,h];rfl
def m_ (z:Int):lC:=.int .i64 z
def HL (t:Term) (l:List Int) (E:lD):lD:=.cells t.cells::.front 0 0::.front 0 0::.vec l.length 1 (l.map m_)::E
theorem Js {t:Term}{l:List Int}:TH (HL t l [.front 0 0]):=by
 intro m h hm
 have:mW m h (l.map m_)=some (l.map m_):=vF fun c hc=>by
  obtain⟨z,_,rfl⟩:=ar2.1 hc;exact⟨_,_,rfl⟩
 simp [HL,Term.cells,this]
theorem UB {t:Term}{l:List Int}:TH (HL t l []):=by
 intro m h hm
 have:mW m h (l.map m_)=some (l.map m_):=vF fun c hc=>by
  obtain⟨z,_,rfl⟩:=ar2.1 hc;exact⟨_,_,rfl⟩
 simp [HL,Term.cells,this]
section
variable {t:Term}{l:List Int}{E:lD}
theorem UD {i:Nat}{z:Int}(hz:l[i]?=some z):lP false 1 (HL t l E) (.vptr 3 l.length i)=some (.int .i64 z):=by
 rw [lK]
 have:nV (HL t l E) 3 l.length=some (1,l.map m_):=by simp [HL]
 rw [this]
 simp [hz,m_]
theorem aeL {i:Nat}(hi:i<l.length) (z:Int):lW 1 (HL t l E) (.vptr 3 l.length i) (.int .i64 z)=some (HL t (l.set i z) E):=by
 rw [lH]
 have:nV (HL t l E) 3 l.length=some (1,l.map m_):=by simp [HL]
 rw [this]
 have e1:putCells (l.map m_) i [.int .i64 z]=(l.set i z).map m_:=by
  unfold putCells
  rw [List.map_set,List.set_eq_take_append_cons_drop,if_pos (by simpa using hi)]
  simp [m_]
 simp only [ai3]
 rw [if_pos ⟨rfl,by simp;omega,rfl⟩]
 simp only [Tj,e1]
 simp [HL]
def LV (l:List Int):lC:=.vslice 3 l.length 0 l.length 1
theorem EA {i:Nat}{z:Int}(hz:l[i]?=some z) (hl:l.length≤100):wL KK 5 ([LV l,.func 97 [] [],.int .i64 0,.int .i64 (l.length:Int),.int .i64 (i:Int)],HL t l [.front 0 0]) =
  if z=-1 then some (.ret,[LV l,.func 97 [] [],.int .i64 (i:Int),.int .i64 (l.length:Int),.int .i64 (i:Int)],HL t l [.front 0 0])
  else some (.normal,[LV l,.func 97 [] [],.int .i64 0,.int .i64 (l.length:Int),.int .i64 ((i+1:Nat):Int)],HL t l [.front 0 0]):=by
 have htr:oD 5 (HL t l [.front 0 0])=some (HL t l [.front 0 0]):=rB Js
 have hi:i<l.length:=(ac1.1 hz).1
 have hi':(i:Int)<(l.length:Int):=by omega
 have w1:IntKind.i64.wrap ((i:Int)+1)=((i+1:Nat):Int):=by rw [wrap64 (by omega) (by omega),as1];rfl
 have s2:∀h',lC.pV 5 h' (LV l)=LV l:=fun h'=>rfl
 have s3:∀h',lC.pV 5 h' (.func 97 [] [])=.func 97 [] []:=fun h'=>rfl
 have g:=UD (t:=t) (E:=[.front 0 0]) hz
 have ix:lU 1 (LV l) (.int .i64 (i:Int))=some (.vptr 3 l.length i):=by simp [LV,hi]
 generalize ((i+1:Nat):Int)=i1 at *
 by_cases hc:z=-1
 ·rw [if_pos hc]
  subst hc
  unfold wL
  simp [-lH,-lK,qO,e97,lX,htr,s2,s3,hi',g,ix]
 ·rw [if_neg hc]
  unfold wL
  simp [-lH,-lK,qO,e97,lX,htr,s2,s3,hi',g,ix,hc,w1]
theorem Nz {z:Int}:wL KK 5 ([LV l,.func 97 [] [],.int .i64 z,.int .i64 (l.length:Int),.int .i64 (l.length:Int)],HL t l [.front 0 0]) =
  some (.exit 0,[LV l,.func 97 [] [],.int .i64 z,.int .i64 (l.length:Int),.int .i64 (l.length:Int)],HL t l [.front 0 0]):=by
 have htr:oD 5 (HL t l [.front 0 0])=some (HL t l [.front 0 0]):=rB Js
 have s2:∀h',lC.pV 5 h' (LV l)=LV l:=fun h'=>rfl
 have s3:∀h',lC.pV 5 h' (.func 97 [] [])=.func 97 [] []:=fun h'=>rfl
 unfold wL
 simp [lX,htr,s2,s3]
theorem Vm {i j:Nat}{z:Int}{v:lC}(hv:∀h',v.pV 5 h'=v) (hz:l[j]?=some z) (hij:i<j) (hl:l.length≤100):CS KK 5 ([LV l,.func 97 [] [],v,.int .i64 (i:Int),.int .i64 (j:Int)],HL t l [.front 0 0]) =
  if z=-1 then some (.normal,[LV l,.func 97 [] [],v,.int .i64 (i:Int),.int .i64 ((j+1:Nat):Int)],HL t l [.front 0 0])
  else some (.normal,[LV (l.set i z),.func 97 [] [],v,.int .i64 ((i+1:Nat):Int),.int .i64 ((j+1:Nat):Int)],HL t (l.set i z) [.front 0 0]):=by
 have hj:j<l.length:=(ac1.1 hz).1
 have hj':(j:Int)<(l.length:Int):=by omega
 have w1:IntKind.i64.wrap ((i:Int)+1)=((i+1:Nat):Int):=by rw [wrap64 (by omega) (by omega),as1];rfl
 have w2:IntKind.i64.wrap ((j:Int)+1)=((j+1:Nat):Int):=by rw [wrap64 (by omega) (by omega),as1];rfl
 have s2:∀l h',lC.pV 5 h' (LV l)=LV l:=fun l h'=>rfl
 have s3:∀h',lC.pV 5 h' (.func 97 [] [])=.func 97 [] []:=fun h'=>rfl
 have g:=UD (t:=t) (E:=[.front 0 0]) hz
 have st:=aeL (t:=t) (E:=[.front 0 0]) (l:=l) (i:=i) (by omega) z
 have ix:lU 1 (LV l) (.int .i64 (j:Int))=some (.vptr 3 l.length j):=by simp [LV,hj]
 have ix2:lU 1 (LV l) (.int .i64 (i:Int))=some (.vptr 3 l.length i):=by simp [LV,show i<l.length by omega]
 have ll:mP (LV l)=some (.int .i64 (l.length:Int)):=rfl
 generalize ((i+1:Nat):Int)=i1 at *
 generalize ((j+1:Nat):Int)=j1 at *
 by_cases hc:z=-1
 ·rw [if_pos hc]
  subst hc
  have htr:oD 5 (HL t l [.front 0 0])=some (HL t l [.front 0 0]):=rB Js
  unfold CS
  simp [-lH,-lK,qO,e97,lX,htr,s2,s3,hv,hj',g,ix,ll,w2]
 ·rw [if_neg hc]
  have htr:oD 5 (HL t (l.set i z) [.front 0 0])=some (HL t (l.set i z) [.front 0 0]):=rB Js
  have el:LV (l.set i z)=LV l:=by simp [LV]
  rw [el]
  generalize HL t (l.set i z) [.front 0 0]=Hn at *
  unfold CS
  simp [-lH,-lK,qO,e97,lX,htr,s2,s3,hv,hj',g,ix,ix2,ll,st,hc,w1,w2]
theorem Ga {i:Int}{v:lC}(hv:∀h',v.pV 5 h'=v):CS KK 5 ([LV l,.func 97 [] [],v,.int .i64 i,.int .i64 (l.length:Int)],HL t l [.front 0 0]) =
  some (.exit 0,[LV l,.func 97 [] [],v,.int .i64 i,.int .i64 (l.length:Int)],HL t l [.front 0 0]):=by
 have htr:oD 5 (HL t l [.front 0 0])=some (HL t l [.front 0 0]):=rB Js
 have s2:∀h',lC.pV 5 h' (LV l)=LV l:=fun h'=>rfl
 have s3:∀h',lC.pV 5 h' (.func 97 [] [])=.func 97 [] []:=fun h'=>rfl
 have ll:mP (LV l)=some (.int .i64 (l.length:Int)):=rfl
 unfold CS
 simp [lX,htr,s2,s3,hv,ll]
theorem Dl {r:Int}{e:Ex}{w:Int}{v:Int}(hg:mX (wL KK 5) ([LV l,.func 97 [] [],.int .i64 0,.int .i64 (l.length:Int),.int .i64 0],HL t l [.front 0 0]) =
   some (e,[LV l,.func 97 [] [],.int .i64 v,.int .i64 (l.length:Int),.int .i64 w],HL t l [.front 0 0])) (hr:(e=.ret∧r=v)∨(e=.exit 0∧r=-1)) :
  KK 107 [LV l,.func 97 [] []] (HL t l [.front 0 0])=some (.ret (.int .i64 r),HL t l [.front 0 0]):=by
 refine oF (R6 _ _ _ _) ?_
 have htr:oD 5 (HL t l [.front 0 0])=some (HL t l [.front 0 0]):=rB Js
 have ll:mP (LV l)=some (.int .i64 (l.length:Int)):=rfl
 have h5:(HL t l [.front 0 0]).length=5:=rfl
 rcases hr with ⟨rfl,rfl⟩ | ⟨rfl,rfl⟩ <;> simp [agR,ll,h5,hg,nJ,htr]
theorem Nt (h174:KK 107 [LV l,.func 97 [] []] (HL t l [.front 0 0])=some (.ret (.int .i64 (-1)),HL t l [.front 0 0])):KK 96 [LV l,.func 97 [] []] (HL t l [])=some (.ret (LV l),HL t l []):=by
 refine oF (QI _ _ _ _) ?_
 have htr:oD 4 (HL t l [.front 0 0])=some (HL t l []):=sW (C:=[.front 0 0]) UB
 have h4:(HL t l []).length=4:=rfl
 have h5:HL t l []++[.front 0 0]=HL t l [.front 0 0]:=rfl
 have s2:∀h',lC.pV 4 h' (LV l)=LV l:=fun h'=>rfl
 have u2:(LV l).lL=LV l:=rfl
 have u3:lC.lL (.func 97 [] [])=.func 97 [] []:=rfl
 simp [m96,h4,h5,u2,u3,h174,nJ,htr,s2]
theorem Dm {l':List Int}{i k:Nat}{w:Int}(h174:KK 107 [LV l,.func 97 [] []] (HL t l [.front 0 0])=some (.ret (.int .i64 (i:Int)),HL t l [.front 0 0])) (hi:i≤100) (hl':l'.length=l.length) (hk:k≤l.length)
  (hg:mX (CS KK 5) ([LV l,.func 97 [] [],.slice [] (.own 4),.int .i64 (i:Int),.int .i64 ((i+1:Nat):Int)],HL t l [.front 0 0])=some (.exit 0,[LV l',.func 97 [] [],.slice [] (.own 4),.int .i64 (k:Int),.int .i64 w],HL t l' [.front 0 0])) :
  KK 96 [LV l,.func 97 [] []] (HL t l [])=some (.ret (.vslice 3 l.length 0 k 1),HL t (l'.take k++al7 (l.length-k) 0) []):=by
 refine oF (QI _ _ _ _) ?_
 have h4:(HL t l []).length=4:=rfl
 have h5:HL t l []++[.front 0 0]=HL t l [.front 0 0]:=rfl
 have h55:(HL t l [.front 0 0]).length=5:=rfl
 have u2:(LV l).lL=LV l:=rfl
 have u3:lC.lL (.func 97 [] [])=.func 97 [] []:=rfl
 have w1:IntKind.i64.wrap ((i:Int)+1)=((i+1:Nat):Int):=by rw [wrap64 (by omega) (by omega),as1];rfl
 have a1:pE (some (.int .i64 (k:Int))) 0=some k:=by simp [pE]
 have a2:pE (some (.int .i64 (k:Int))) l.length=some k:=by simp [pE]
 have sl2:oI 1 (LV l') none (some (.int .i64 (k:Int)))=some (.vslice 3 l.length 0 k 1):=by
  simp [oI,LV,hl',a2,Fi,hk]
 have hfin:∃S H,oI 1 (LV l') (some (.int .i64 (k:Int))) none=some S∧CF 1 [.int .i64 0] (HL t l' [.front 0 0]) S=some H∧H=HL t (l'.take k++al7 (l.length-k) 0) [.front 0 0]:=by
  have hs:oI 1 (LV l') (some (.int .i64 (k:Int))) none=if k=0∨k<l.length then some (.vslice 3 l.length k (l.length-k) 1) else some (.slice [] .no):=by
   unfold oI LV
   simp only [a1,hl',Fi]
   rw [if_pos ⟨hk,ai1 _,trivial⟩]
   simp only [Nat.mul_one,ar4]
  have hfull:k=l.length→l'.take k++al7 (l.length-k) 0=l':=fun hk2=>by rw [hk2,Nat.sub_self,←hl',List.take_length];simp
  by_cases hc:k=0∨k<l.length
  ·rw [if_pos hc] at hs
   by_cases hn0:l.length-k=0
   ·exact⟨_,HL t l' [.front 0 0],hs,by unfold CF;simp only [hn0,if_true],by rw [hfull (by omega)]⟩
   ·refine⟨_,_,hs,?_,rfl⟩
    have gv:nV (HL t l' [.front 0 0]) 3 l.length=some (1,l'.map m_):=by simp [HL,hl']
    unfold CF
    simp only [hn0,if_false,gv]
    rw [if_pos ⟨trivial,rfl,rfl,by simp;omega⟩]
    have e1:putCells (l'.map m_) k (al7 (l.length-k) [lC.int .i64 0]).flatten=(l'.take k++al7 (l.length-k) 0).map m_:=by
     have f:(al7 (l.length-k) [lC.int .i64 0]).flatten=al7 (l.length-k) (m_ 0):=by
      simp [m_]
     rw [f]
     simp only [putCells,List.length_replicate]
     have:k+(l.length-k)=l'.length:=by omega
     rw [this,List.drop_eq_nil_of_le (by simp),List.append_nil,List.map_append,List.map_take,List.map_replicate]
    rw [e1]
    have e2:(l'.take k++al7 (l.length-k) 0).length=l.length:=by simp;omega
    simp only [HL,e2]
    rfl
  ·rw [if_neg hc] at hs
   exact⟨_,HL t l' [.front 0 0],hs,rfl,by rw [hfull (by omega)]⟩
 obtain⟨S,H,f1,f2,f3⟩:=hfin
 have htr:oD 4 H=some (HL t (l'.take k++al7 (l.length-k) 0) []):=by
  subst f3;exact sW (C:=[.front 0 0]) UB
 have s2:∀h',lC.pV 4 h' (.vslice 3 l.length 0 k 1)=.vslice 3 l.length 0 k 1:=fun h'=>rfl
 clear f3
 generalize ((i+1:Nat):Int)=i1 at *
 simp [m96,h4,h5,h55,u2,u3,h174,w1,hg,f1,f2,sl2,nJ,htr,s2]
end
section
variable {t:Term}
theorem afN {id:Nat}{h:lD}(hK:TH h):KK 107 [.slice [] .no,.func 97 [] []] h=some (.ret (.int .i64 (-1)),h):=by
 refine oF (R6 _ _ _ _) ?_
 have htr:=rB hK
 have s3:∀h',lC.pV h.length h' (.func 97 [] [])=.func 97 [] []:=fun h'=>rfl
 have st:wL KK h.length ([.slice [] .no,.func 97 [] [],.int .i64 0,.int .i64 0,.int .i64 0],h)=some (.exit 0,([.slice [] .no,.func 97 [] [],.int .i64 0,.int .i64 0,.int .i64 0],h)):=by
  unfold wL
  simp [lX,htr,s3]
 have g:=tI st
 simp [agR,g,htr,nJ]
theorem aoC {h:lD}(hK:TH h):KK 96 [.slice [] .no,.func 97 [] []] h=some (.ret (.slice [] .no),h):=by
 refine oF (QI _ _ _ _) ?_
 have g:=afN (id:=0) (h:=h++[.front 0 0]) (O2 hK (oP rD))
 have htr:=fun C=>sW (C:=C) hK
 have uf:lC.lL (.func 97 [] [])=.func 97 [] []:=rfl
 simp [m96,g,uf,nJ,htr]
end
def qH (t:Term):List Int:=if t.kind=1 then [t.yes].filter (fun k=>!decide (k=-1)) else if t.kind=2 then [t.yes,t.no].filter (fun k=>!decide (k=-1)) else []
theorem VJ {p:IR}{t:Term}(ht:Eb (p:=p) t=true):qH t=tO t:=by
 have e:∀k:Int,-1≤k→(!decide (k=-1))=decide (0≤k):=fun k hk=>by
  by_cases h:k=-1
  ·simp [h]
  ·have:0≤k:=by omega
   simp [h,this]
 unfold qH tO
 unfold Eb at ht
 by_cases k1:t.kind=1
 ·rw [if_pos k1] at ht
  rw [if_pos k1,if_pos k1]
  simp only [mQ,am4,decide_eq_true_eq] at ht
  simp only [List.filter_cons,List.filter_nil,e _ ht.2.1]
 ·rw [if_neg k1,if_neg k1]
  rw [if_neg k1] at ht
  by_cases k2:t.kind=2
  ·rw [if_pos k2] at ht
   rw [if_pos k2,if_pos k2]
   simp only [mQ,am4,decide_eq_true_eq] at ht
   simp only [List.filter_cons,List.filter_nil,e _ ht.2.1.1,e _ ht.2.2.1]
  ·rw [if_neg k2,if_neg k2]
theorem aoH {t:Term}(y:Int):∃l':List Int,KK 96 [LV [y],.func 97 [] []] (HL t [y] [])=some (.ret (.vslice 3 1 0 ([y].filter fun k=>!decide (k=-1)).length 1),HL t l' [])∧l'.length=1∧l'.take ([y].filter fun k=>!decide (k=-1)).length=[y].filter fun k=>!decide (k=-1):=by
 have s1:=EA (t:=t) (l:=[y]) (i:=0) (z:=y) rfl (by simp)
 by_cases hy:y=-1
 ·subst hy
  rw [if_pos rfl] at s1
  have g:=Dl (r:=0) (PC s1) (.inl ⟨rfl,rfl⟩)
  have e:=Ga (t:=t) (l:=[-1]) (i:=0) (v:=.slice [] (.own 4)) (fun h'=>rfl)
  exact⟨_,Dm (i:=0) (k:=0) g (by omega) rfl (by simp) (tI e),by simp,by simp⟩
 ·rw [if_neg hy] at s1
  have g:=Dl (r:=-1) ((AM s1).trans (tI Nz)) (.inr ⟨rfl,rfl⟩)
  have:=Nt g
  exact⟨[y],by simpa [hy,LV] using this,rfl,by simp [hy]⟩
theorem aoI {t:Term}(y n:Int):∃l':List Int,KK 96 [LV [y,n],.func 97 [] []] (HL t [y,n] [])=some (.ret (.vslice 3 2 0 ([y,n].filter fun k=>!decide (k=-1)).length 1),HL t l' [])∧l'.length=2∧l'.take ([y,n].filter fun k=>!decide (k=-1)).length=[y,n].filter fun k=>!decide (k=-1):=by
 have s1:=EA (t:=t) (l:=[y,n]) (i:=0) (z:=y) rfl (by simp)
 have s2:=EA (t:=t) (l:=[y,n]) (i:=1) (z:=n) rfl (by simp)
 have hv:∀h',lC.pV 5 h' (.slice [] (.own 4))=.slice [] (.own 4):=fun h'=>rfl
 by_cases hy:y=-1
 ·subst hy
  rw [if_pos rfl] at s1
  have g:=Dl (r:=0) (PC s1) (.inl ⟨rfl,rfl⟩)
  have d1:=Vm (t:=t) (l:=[-1,n]) (i:=0) (j:=1) (z:=n) hv rfl (by omega) (by simp)
  by_cases hn:n=-1
  ·subst hn
   rw [if_pos rfl] at d1
   have e:=Ga (t:=t) (l:=[-1,-1]) (i:=0) hv
   exact⟨_,Dm (i:=0) (k:=0) g (by omega) rfl (by simp) ((AM d1).trans (tI e)),by simp,by simp⟩
  ·rw [if_neg hn] at d1
   have e:=Ga (t:=t) (l:=[n,n]) (i:=1) hv
   have:=Dm (i:=0) (k:=1) (l':=[n,n]) g (by omega) rfl (by simp) ((AM d1).trans (tI e))
   exact⟨_,by simpa [hn] using this,by simp,by simp [hn]⟩
 ·rw [if_neg hy] at s1
  by_cases hn:n=-1
  ·subst hn
   rw [if_pos rfl] at s2
   have g:=Dl (r:=1) ((AM s1).trans (PC s2)) (.inl ⟨rfl,rfl⟩)
   have e:=Ga (t:=t) (l:=[y,-1]) (i:=1) hv
   have:=Dm (i:=1) (k:=1) (l':=[y,-1]) g (by omega) rfl (by simp) (tI e)
   exact⟨_,by simpa [hy] using this,by simp,by simp [hy]⟩
  ·rw [if_neg hn] at s2
   have g:=Dl (r:=-1) ((AM s1).trans ((AM s2).trans (tI Nz))) (.inr ⟨rfl,rfl⟩)
   have:=Nt g
   exact⟨[y,n],by simpa [hy,hn,LV] using this,rfl,by simp [hy,hn]⟩
theorem UJ {t:Term}{l:List Int}{k n:Nat}(hn:l.length=n) (hk:k≤n):(lC.vslice 3 n 0 k 1).pV 0 (HL t l [])=.slice (ints (l.take k)) .no:=by
 subst hn
 have hp:nP ((l.map m_).take k)=some ((l.map m_).take k):=DI fun c hc=>by
  obtain⟨z,_,rfl⟩:=ar2.1 (List.mem_of_mem_take hc);exact⟨_,_,rfl⟩
 have hl:((l.map m_).take k).length=k:=by simp;omega
 have hr:rowsOf k 1 ((l.map m_).take k)=ints (l.take k):=by
  have:=C0 (l:=(l.map m_).take k)
  rw [hl] at this
  rw [this,ints,←List.map_take,List.map_map];rfl
 show lC.nO 0 (HL t l []) (.vslice 3 l.length 0 k 1)=_
 unfold lC.nO
 simp only [Nat.not_lt_zero,decide_false,cond_false,HL,List.getElem?_cons_succ,List.getElem?_cons_zero,List.drop_zero,Nat.mul_one,hp,hr,ar3,ar4]
 simp [hk]
theorem c80 (t:Term) (h:lD):KK 80 [.agg t.cells] h=some (.ret (.slice (ints (qH t)) .no),h):=by
 refine nG rfl rfl (oF (aiM _ _ _) ?_)
 have b1:∀(z:Int) (h':lD),rL 1 1 [.int .i64 0] [(0,.int .i64 z)] h'=some (.vslice h'.length 1 0 1 1,h'++[.vec 1 1 [.int .i64 z]]):=fun z h'=>rfl
 have b2:∀(y z:Int) (h':lD),rL 2 1 [.int .i64 0] [(0,.int .i64 y),(1,.int .i64 z)] h'=some (.vslice h'.length 2 0 2 1,h'++[.vec 2 1 [.int .i64 y,.int .i64 z]]):=fun y z h'=>rfl
 have uf:lC.lL (.func 97 [] [])=.func 97 [] []:=rfl
 unfold qH
 by_cases k1:t.kind=1
 ·obtain⟨l',g,h1,h2⟩:=aoH (t:=t) t.yes
  have hf:=UJ (t:=t) (k:=([t.yes].filter fun k=>!decide (k=-1)).length) h1 (by rw [←h1,←h2,ao3];omega)
  rw [h2] at hf
  rw [if_pos k1]
  simp only [HL,LV,aq8,List.length_nil,ar4,aq7,List.map_nil,m_,Term.cells] at g hf ⊢
  rw [k1] at g hf
  generalize [t.yes].filter (fun k=>!decide (k=-1))=L at *
  generalize mC.vec l'.length 1 (l'.map m_)=X at *
  simp [m80,k1,b1,g,uf,mS,hf]
 by_cases k2:t.kind=2
 ·obtain⟨l',g,h1,h2⟩:=aoI (t:=t) t.yes t.no
  have hf:=UJ (t:=t) (k:=([t.yes,t.no].filter fun k=>!decide (k=-1)).length) h1 (by rw [←h1,←h2,ao3];omega)
  rw [h2] at hf
  rw [if_neg k1,if_pos k2]
  simp only [HL,LV,aq8,List.length_nil,ar4,Nat.reduceAdd,aq7,List.map_nil,m_,Term.cells] at g hf ⊢
  rw [k2] at g hf
  generalize [t.yes,t.no].filter (fun k=>!decide (k=-1))=L at *
  generalize mC.vec l'.length 1 (l'.map m_)=X at *
  simp [m80,k2,b2,g,uf,mS,hf]
 ·have g0:=aoC (h:=[.cells t.cells,.front 0 0,.front 0 0]) (rV (by simp [Term.cells]) (oP (oP rD)))
  rw [if_neg k1,if_neg k2]
  simp only [Term.cells] at g0 ⊢
  simp [m80,k1,k2,g0,uf,mS,ints]
end
section
open Go Hk Go.Proofs.Wd
theorem Ek {n:Nat}:∀{cs:List lC},(∀c∈cs,(∀m h,n≤m→c.nO m h=c)∧c.mE=true)→xO n cs
 | [],_=>Ru
 | c::r,h=>(z7 (h c (by simp)).1 (h c (by simp)).2).2 (Ek fun x hx=>h x (by simp [hx]))
abbrev Cl:=Bool×List Wd
def mA (c:Cl):lC:=if c.1 then PS c.2 else .slice [] .nil
def rC (c:Cl):List Wd:=if c.1 then c.2 else []
theorem Ti (c:Cl) (h:lD):lR 1 1 [.slice [] .nil] [(0,mA c)] h=some (.slice [[PS (rC c)]] (.own h.length),h++[.front 1 1]):=by
 obtain⟨b,ws⟩:=c
 cases b <;> rfl
theorem G_ {h:lD}(c:Cl):Ch h (mA c).lL (rC c):=by
 obtain⟨b,ws⟩:=c
 cases b
 ·exact Oj (ws:=[])
 ·exact Oj
theorem yY (c:Cl):(∀m h,(mA c).nO m h=mA c)∧(mA c).mE=true:=by
 obtain⟨b,ws⟩:=c
 cases b <;> exact⟨fun _ _=>rfl,rfl⟩
def FZ (id:Nat) (ws:List Wd):lC:=match ws with
 | []=>.slice [] (.own id)
 | _=>PS ws
def ZX (ws:List Wd):mC:=match ws with
 | []=>.front 0 0
 | _=>.gone
theorem GX {A B:List mC}{ws:List Wd}:sB (OQ A (XS ws) B) (VS A.length ws)=some (FZ A.length ws,OQ A (ZX ws) B):=by
 cases ws with
 | nil=>rfl
 | cons w r =>
  have g:=BS (A:=A) (B:=B) (ws:=w::r) (by simp)
  have hp:nP (((w::r).map wc).take (r.length+1))=some ((w::r).map wc):=by
   rw [List.take_of_length_le (by simp)]
   exact DI fun c hc=>by obtain⟨x,_,rfl⟩:=ar2.1 hc;exact⟨_,_,rfl⟩
  have hr:rowsOf (r.length+1) 1 ((w::r).map wc)=(w::r).map fun w=>[wc w]:=by
   have:=C0 (l:=(w::r).map wc)
   rw [ar3,aq8] at this
   rw [this,List.map_map];rfl
  unfold sB VS
  simp only [aq8] at g
  simp only [g,List.drop_zero,Nat.mul_one,hp,hr,ar3,aq8,ar4,ai1,if_true,yK,ad0,Prod.mk.injEq]
  exact⟨rfl,rfl⟩
theorem aeK (id:Nat) (ws:List Wd) (h:lD):lR 1 1 [.slice [] .nil] [(0,FZ id ws)] h=some (.slice [[PS ws]] (.own h.length),h++[.front 1 1]):=by cases ws <;> rfl
theorem Yl {id m:Nat}{ws:List Wd}{h:lD}(hm:id<m):(FZ id ws).nO m h=FZ id ws:=by
 cases ws with
 | nil=>simp [FZ,hm]
 | cons w r=>rfl
theorem UA {id m:Nat}{ws:List Wd}{h:lD}(hm:m≤id):(FZ id ws).nO m h=PS ws:=by
 cases ws with
 | nil=>simp [FZ,show ¬id<m by omega];rfl
 | cons w r=>rfl
theorem Uz {id:Nat}{ws:List Wd}:(FZ id ws).mE=true:=by cases ws <;> rfl
theorem MY {id:Nat}{ws:List Wd}:(FZ id ws).cells=[FZ id ws]:=by cases ws <;> rfl
theorem RA {id:Nat}{ws:List Wd}{h:lD}{o:lC}:sX h o (FZ id ws)=FZ id ws:=by
 cases ws with
 | nil=>simp [FZ]
 | cons w r=>simp [FZ,PS]
theorem rR {id off len sz sz':Nat}{k:IntKind}{i:Nat}:lU sz (.mslice id off len sz') (.int k (i:Int))=if i<len∧sz'=sz then some (.ptr id (off+i*sz)) else none:=by
 simp [lU]
theorem OX {h C:lD}{rows:List (List lC)}{v:lC}{by_:Nat}(hb:by_≤24) (hl:rows.length≤2000000) {t:Hk.Tok} :
  nC 1 by_ (h++FR rows.length::C) (.slice rows (.own h.length)) (.slice [[v]] t)=some (.slice (rows++[[v]]) (.own h.length),h++FR (rows.length+1)::C):=by
 have hr:∀H:lD,qS 1 H (.slice [[v]] t)=some [[v]]:=fun H=>by simp
 have hg:∀x,(h++x::C)[h.length]?=some x:=fun x=>by rw [af4 (ai1 _),Nat.sub_self];rfl
 have hs:∀x y,(h++x::C).set h.length y=h++y::C:=fun x y=>by rw [List.set_append_right _ _ (ai1 _),Nat.sub_self];rfl
 have e1:FR (rows.length+1)=.front (rows.length+1) 1:=by simp [FR]
 have hm:(rows.length+1)*by_≤(rows.length+1)*24:=Nat.mul_le_mul_left _ hb
 unfold nC
 simp only [hr]
 rw [hg,e1]
 by_cases h0:rows.length=0
 ·have e3:FR rows.length=.front 0 0:=by simp [FR,h0]
  rw [e3]
  simp only [List.length_singleton,hs]
  rw [if_pos ⟨h0,.inr ⟨trivial,trivial⟩,by rw [h0] at hm;omega,by omega⟩,if_neg (by omega),h0]
 ·have e3:FR rows.length=.front rows.length 1:=by simp [FR,h0]
  rw [e3]
  simp only [List.length_singleton,hs]
  rw [if_pos ⟨trivial,.inl trivial,by omega,by omega⟩,if_neg (by omega)]
def HB (p:IR) (ic oc:List lC):lD:=[.cells p.cells,.front 0 0,.front 0 0,.cells ic,.cells oc]
theorem GC {p:IR}{n:Nat}:xO n p.cells:=by simp [IR.cells]
theorem o7 {n:Nat}(l:List Cl):xO n (l.map mA):=Ek fun c hc=>by
 obtain⟨x,_,rfl⟩:=ar2.1 hc
 exact⟨fun m h _=>(yY x).1 m h,(yY x).2⟩
theorem CA {p:IR}{ic oc:List lC}{n:Nat}(h1:xO n ic) (h2:xO n oc):Cd n (HB p ic oc) :=
 rV GC (oP (oP (rV h1 (rV h2 rD))))
def T1:lC:=.slice [] (.own 1)
def T2:lC:=.slice [] (.own 2)
section
variable {m:Nat}(hm:5≤m) {h:lD}{n:Nat}
include hm
theorem sP:lC.pV m h (.ptr 0 0)=.ptr 0 0:=QW (by omega)
theorem sT1:lC.pV m h T1=T1:=by simp [T1,show 1<m by omega]
theorem sT2:lC.pV m h T2=T2:=by simp [T2,show 2<m by omega]
theorem sMI:lC.pV m h (.mslice 3 0 n 1)=.mslice 3 0 n 1:=by
 show lC.nO m h (.mslice 3 0 n 1)=_
 simp [lC.nO,show 3<m by omega]
theorem sMO:lC.pV m h (.mslice 4 0 n 1)=.mslice 4 0 n 1:=by
 show lC.nO m h (.mslice 4 0 n 1)=_
 simp [lC.nO,show 4<m by omega]
end
section
variable {p:IR}{ins:List Cl}{oc:List lC}(hn:ins.length=p.blocks.length)
include hn
theorem TJ (ho:xO 5 oc) {bb:Bool}{k:Int}(ld:List Int) (hld:∀j∈ld,0≤j∧j.toNat<ins.length) (hl:ld.length≤10):∀(d i:Nat) (L:List (List Wd)),ld.length=i+d→L.length=i →
  mX (LY KK 6) ([.ptr 0 0,T1,T2,.int .i64 0,.mslice 3 0 p.blocks.length 1,.mslice 4 0 p.blocks.length 1,.bool bb,.int .i64 k,.slice (L.map fun s=>[PS s]) (.own 5),.slice (ints ld) .no,.int .i64 (ld.length:Int),.int .i64 (i:Int)],HB p (ins.map mA) oc++[FR L.length]) =
   some (.exit 4,[.ptr 0 0,T1,T2,.int .i64 0,.mslice 3 0 p.blocks.length 1,.mslice 4 0 p.blocks.length 1,.bool bb,.int .i64 k,.slice ((L++(ld.drop i).map fun j=>rC (ins.getD j.toNat (false,[]))).map fun s=>[PS s]) (.own 5),.slice (ints ld) .no,.int .i64 (ld.length:Int),.int .i64 (ld.length:Int)],
    HB p (ins.map mA) oc++[FR (L++(ld.drop i).map fun j=>rC (ins.getD j.toNat (false,[]))).length]):=by
 have hT:∀n,TH (HB p (ins.map mA) oc++[FR n]):=fun n=>p8 (CA (o7 ins) (fun m h hm=>ho m h (by simp [HB] at hm;omega))) AJ
 have htr:∀n C,oD 6 (HB p (ins.map mA) oc++FR n::C)=some (HB p (ins.map mA) oc++[FR n]):=fun n C=>by
  have:=sW (C:=C) (hT n)
  simpa [HB] using this
 have h5:(HB p (ins.map mA) oc).length=5:=rfl
 have sOwn:∀h rows,lC.pV 6 h (.slice rows (.own 5))=.slice rows (.own 5):=fun h rows=>by simp
 have q0:=fun h=>sP (m:=6) (h:=h) (by omega)
 have q1:=fun h=>sT1 (m:=6) (h:=h) (by omega)
 have q2:=fun h=>sT2 (m:=6) (h:=h) (by omega)
 have q3:=fun h=>sMI (m:=6) (h:=h) (n:=p.blocks.length) (by omega)
 have q4:=fun h=>sMO (m:=6) (h:=h) (n:=p.blocks.length) (by omega)
 intro d
 induction d with
 | zero =>
  intro i L hd hL
  obtain rfl:ld.length=i:=by omega
  rw [List.drop_length,List.map_nil,List.append_nil]
  refine tI ?_
  unfold LY
  simp -implicitDefEqProofs [lX,htr,q0,q1,q2,q3,q4,sOwn]
 | succ d ih =>
  intro i L hd hL
  have hil:i<ld.length:=by omega
  have hil':(i:Int)<(ld.length:Int):=by omega
  have hx:ld[i]?=some ld[i]:=ac6 hil
  have hj:=hld ld[i] (as2 hil)
  have w1:IntKind.i64.wrap ((i:Int)+1)=((i+1:Nat):Int):=by rw [wrap64 (by omega) (by omega),as1];rfl
  rw [ao4 hil]
  generalize ld[i]=j at *
  obtain⟨q,rfl⟩:=Int.eq_ofNat_of_zero_le hj.1
  have hq:q<ins.length:=by simpa using hj.2
  have hqn:q<p.blocks.length:=by omega
  have hc:ins[q]?=some ins[q]:=ac6 hq
  have hgd:ins.getD q (false,[])=ins[q]:=by simp [ae9,hc]
  simp only [as0,aq7,hgd]
  have ixl:lU 1 (.slice (ints ld) .no) (.int .i64 (i:Int))=some (.pptr [.int .i64 (q:Int)]):=by
   rw [ints,lG,hx];rfl
  have ixm:lU 1 (.mslice 3 0 p.blocks.length 1) (.int .i64 (q:Int))=some (.ptr 3 q):=by
   rw [rR,if_pos ⟨hqn,rfl⟩];simp
  have row:=fun h=>Ti ins[q] h
  have app:=fun C t=>OX (h:=HB p (ins.map mA) oc) (C:=C) (rows:=L.map fun s=>[PS s]) (v:=PS (rC ins[q])) (by_:=24) (by omega) (by simp;omega) (t:=t)
  rw [h5] at app
  simp only [ar3] at app
  have gb:∀C,(nW (HB p (ins.map mA) oc++C) 3).bind (fun cs=>cs[q]?)=some (mA ins[q]):=fun C=>by simp [HB,nW,hc]
  have g:=ih (i+1) (L++[rC ins[q]]) (by omega) (by simp;omega)
  have e:L++rC ins[q]::(ld.drop (i+1)).map (fun j=>rC (ins.getD j.toNat (false,[])))=(L++[rC ins[q]])++(ld.drop (i+1)).map (fun j=>rC (ins.getD j.toNat (false,[]))):=by simp
  rw [e,←g]
  clear g ih e
  refine AM ?_
  have em:(L++[rC ins[q]]).map (fun s=>[PS s])=L.map (fun s=>[PS s])++[[PS (rC ins[q])]]:=by simp
  rw [em]
  have el:(L++[rC ins[q]]).length=L.length+1:=by simp
  rw [el]
  generalize ((i+1:Nat):Int)=i1 at *
  generalize L.map (fun s=>[PS s])=R at *
  generalize mA ins[q]=ca at *
  unfold LY
  simp -implicitDefEqProofs [hil',ixl,ixm,gb,row,app,w1,lX,htr,q0,q1,q2,q3,q4,sOwn]
end
end
section
open Go Hk Go.Proofs.Wd
def F4 (l:List Op) (ws:List Wd):List Wd:=l.foldr vS ws
def afA (b:mF) (ws:List Wd):List Wd:=F4 b.ops (sZ b.term ws)
structure AK (p:IR):Prop where
 use:∀b∈p.blocks,∀o∈b.ops,∀t∈oO o,0≤t∧t<p.temps
 dst:∀b∈p.blocks,∀o∈b.ops,o.dst≤2000000
 made:∀b∈p.blocks,∀o∈b.ops,(nK o.kind).dst=true→0≤o.dst∧o.dst<p.temps
 term:∀b∈p.blocks,b.term.kind=2→0≤b.term.a∧b.term.a<p.temps
 lead:∀b∈p.blocks,∀j∈qH b.term,0≤j∧j.toNat<p.blocks.length
 temps:p.temps≤1048576
 nb:p.blocks.length≤1048576
 len:∀b∈p.blocks,b.ops.length≤1048576
theorem HC (t:Term):(qH t).length≤10:=by
 unfold qH
 split
 ·exact Nat.le_trans (List.length_filter_le _ _) (by simp)
 ·split
  ·exact Nat.le_trans (List.length_filter_le _ _) (by simp)
  ·simp
section
variable {p:IR}(hp:AK p)
include hp
theorem TK {A B:List mC}(hB:KB A B) (hm:5≤HN A B) {bb:Bool}{k:Int}{b:mF}(hb:b∈p.blocks):∀(c:Nat) (ws:List Wd),c≤b.ops.length →
  mX (LZ KK (HN A B)) ([.ptr 0 0,T1,T2,.int .i64 0,.mslice 3 0 p.blocks.length 1,.mslice 4 0 p.blocks.length 1,.bool bb,.int .i64 k,VS A.length ws,.slice (b.ops.map Op.cells) .no,.int .i64 ((c:Int)-1)],OQ A (XS ws) B) =
   some (.exit 6,[.ptr 0 0,T1,T2,.int .i64 0,.mslice 3 0 p.blocks.length 1,.mslice 4 0 p.blocks.length 1,.bool bb,.int .i64 k,VS A.length (F4 (b.ops.take c) ws),.slice (b.ops.map Op.cells) .no,.int .i64 (-1)],OQ A (XS (F4 (b.ops.take c) ws)) B):=by
 have q0:=fun h=>sP (m:=HN A B) (h:=h) hm
 have q1:=fun h=>sT1 (m:=HN A B) (h:=h) hm
 have q2:=fun h=>sT2 (m:=HN A B) (h:=h) hm
 have q3:=fun h=>sMI (m:=HN A B) (h:=h) (n:=p.blocks.length) hm
 have q4:=fun h=>sMO (m:=HN A B) (h:=h) (n:=p.blocks.length) hm
 intro c
 induction c with
 | zero =>
  intro ws _
  have htr:=p9 (X:=XS ws) (A:=A) (B:=B) hB wZ
  have hsn:=fun h=>uT (ws:=ws) (m:=HN A B) (h:=h) s4
  refine tI ?_
  simp only [List.take_zero,F4,List.foldr_nil]
  unfold LZ
  simp -implicitDefEqProofs [lX,htr,hsn,q0,q1,q2,q3,q4]
 | succ c ih =>
  intro ws hc
  have hcl:c<b.ops.length:=by omega
  have hx:b.ops[c]?=some b.ops[c]:=ac6 hcl
  have ho:=as2 hcl
  have e:F4 (b.ops.take (c+1)) ws=F4 (b.ops.take c) (vS b.ops[c] ws):=by
   unfold F4
   rw [List.take_succ_eq_append_getElem hcl,List.foldr_append];rfl
  have hlen:=hp.len b hb
  have g61:=c83 hB (o:=b.ops[c]) (fun t ht=>by have:=hp.use b hb _ ho t ht;have:=hp.temps;omega) (hp.dst b hb _ ho) ws
  have htr:=s5 (X:=XS (vS b.ops[c] ws)) (A:=A) (B:=B) (C:=KH b.ops[c]) hB wZ
  have hsn:=fun h=>uT (ws:=vS b.ops[c] ws) (m:=HN A B) (h:=h) s4
  rw [e,←ih _ (by omega)]
  generalize b.ops[c]=o at *
  have w0:((c+1:Nat):Int)-1=(c:Int):=by omega
  have w1:IntKind.i64.wrap ((c:Int)-1)=(c:Int)-1:=by rw [wrap64] <;> omega
  rw [w0]
  refine AM ?_
  have ix:(lU 6 (.slice (b.ops.map Op.cells) .no) (.int .i64 (c:Int))).bind (fun t=>lP true 6 (OQ A (XS ws) B) t)=some (.agg o.cells):=by
   rw [lG,hx];simp [Op.cells]
  obtain⟨q,hq,hq2⟩:=ab6.1 ix
  generalize vS o ws=w' at *
  generalize lC.agg o.cells=oc at *
  generalize KH o=og at *
  generalize VS A.length ws=V0 at *
  generalize OQ A (XS ws) B=H0 at *
  unfold LZ
  simp -implicitDefEqProofs [hq,hq2,g61,w1,lX,htr,hsn,q0,q1,q2,q3,q4]
def AR (ins:List Cl) (b:mF):List Wd:=s9 ((qH b.term).map fun j=>rC (ins.getD j.toNat (false,[])))
def wM (ins:List Cl) (b:mF):List Wd:=afA b (s9 [AR ins b])
omit hp in
theorem abT {α:Type}{l:List α}{i:Nat}(hi:i<l.length) (x:α):(l.set i x)[i]?=some x:=by simp [hi]
omit hp in
theorem Gr {m id:Nat}{h:lD}{ws:List Wd}(hm:m≤id):∀(l:List Cl) (k:Nat),k<l.length→mW m h ((l.map mA).set k (FZ id ws))=some ((l.set k (true,ws)).map mA)
 | [],k,hk=>by simp at hk
 | c::r,0,_=>by
  have e:=o7 (n:=m) r m h (ai1 _)
  simp only [aq7,List.set_cons_zero,pD,UA hm,e,Option.map_some]
  rfl
 | c::r,k+1,hk=>by
  have ih:=Gr (h:=h) (ws:=ws) hm r k (by simpa using hk)
  simp only [aq7,List.set_cons_succ,pD,(yY c).1 m h,(yY c).2,cond_true,ih,Option.map_some]
set_option maxHeartbeats 4000000 in
theorem TO {ins outs:List Cl}(hn:ins.length=p.blocks.length) (hno:outs.length=p.blocks.length) (hs:∀c∈ins,(rC c).length≤20000) {bb:Bool}{k:Nat}{b:mF}(hb:p.blocks[k]?=some b)
  (hw:(wM ins b).length≤20000) :
  EO KK 5 ([.ptr 0 0,T1,T2,.int .i64 0,.mslice 3 0 p.blocks.length 1,.mslice 4 0 p.blocks.length 1,.bool bb,.int .i64 (k:Int)],HB p (ins.map mA) (outs.map mA)) =
   some (.normal,[.ptr 0 0,T1,T2,.int .i64 0,.mslice 3 0 p.blocks.length 1,.mslice 4 0 p.blocks.length 1,.bool (if nX (wM ins b)=nX (rC (ins.getD k (false,[]))) then bb else true),.int .i64 ((k:Int)-1)],
    HB p ((if nX (wM ins b)=nX (rC (ins.getD k (false,[]))) then ins else ins.set k (true,wM ins b)).map mA) ((outs.set k (true,AR ins b)).map mA)):=by
 have hbm:b∈p.blocks:=af3 hb
 have hkl:k<p.blocks.length:=(ac1.1 hb).1
 have hki:k<ins.length:=by omega
 have hko:k<outs.length:=by omega
 have hld:=hp.lead b hbm
 have hnb:=hp.nb
 have gl:=TJ hn (o7 outs) (bb:=bb) (k:=(k:Int)) (qH b.term) (fun j hj=>by rw [hn];exact hld j hj) (HC _) (qH b.term).length 0 [] (by simp) rfl
 simp only [ar5,List.drop_zero,ar6] at gl
 have g58:=c80 b.term
 have hLl:∀s∈(qH b.term).map (fun j=>rC (ins.getD j.toNat (false,[]))),s.length≤20000:=fun s hs'=>by
  obtain⟨j,_,rfl⟩:=ar2.1 hs'
  rw [ae9]
  cases hq:ins[j.toNat]? with
  | none=>simp [rC]
  | some c=>exact hs c (af3 hq)
 have hJl:(AR ins b).length≤20000:=zD 20000 _ [] (by simp) hLl
 have hTF:∀n,TH (HB p (ins.map mA) (outs.map mA)++[FR n]):=fun n=>p8 (CA (o7 ins) (o7 outs)) AJ
 have g59:=c81 (hTF ((qH b.term).map (fun j=>rC (ins.getD j.toNat (false,[])))).length) (L:=(qH b.term).map fun j=>rC (ins.getD j.toNat (false,[]))) (by have:=HC b.term;simp;omega) hLl
 have hout:s9 ((qH b.term).map fun j=>rC (ins.getD j.toNat (false,[])))=AR ins b:=rfl
 rw [hout] at g59
 generalize ((qH b.term).map (fun j=>rC (ins.getD j.toNat (false,[]))))=L at *
 generalize hJ:AR ins b=J at *
 have gf:=GX (A:=HB p (ins.map mA) (outs.map mA)++[FR L.length]++[.front 0 0]) (B:=[]) (ws:=J)
 have l7:(HB p (ins.map mA) (outs.map mA)++[FR L.length]++[mC.front 0 0]).length=7:=rfl
 have l6:(HB p (ins.map mA) (outs.map mA)++[FR L.length]).length=6:=rfl
 rw [l7] at gf
 rw [l6] at g59
 have hoc:xO 9 ((outs.map mA).set k (FZ 7 J)):=Ek fun c hc=>by
  rcases List.mem_or_eq_of_mem_set hc with h1 | h1
  ·obtain⟨x,_,rfl⟩:=ar2.1 h1
   exact⟨fun m h _=>(yY x).1 m h,(yY x).2⟩
  ·subst h1;exact⟨fun m h hm=>Yl (by omega),Uz⟩
 have zx:∀n,Cd n [ZX J]:=fun n=>by cases J <;> simp [ZX]
 have hT2:TH ([.gone,.front 0 0,.front 0 0,.cells (ins.map mA),.cells ((outs.map mA).set k (FZ 7 J)),FR L.length,.front 0 0,ZX J,.front 1 1]:lD):=by
  have e:([.gone,.front 0 0,.front 0 0,.cells (ins.map mA),.cells ((outs.map mA).set k (FZ 7 J)),FR L.length,.front 0 0,ZX J,.front 1 1]:lD) =
    [.gone,.front 0 0,.front 0 0,.cells (ins.map mA),.cells ((outs.map mA).set k (FZ 7 J))]++([FR L.length]++([.front 0 0]++([ZX J]++[.front 1 1]))):=rfl
  unfold TH
  rw [e]
  exact p8 (by simp only [z8,Cg,Ce];exact⟨o7 _,hoc,rD⟩) (p8 AJ (p8 (oP rD) (p8 (zx _) (oP rD))))
 have g592:=c81 hT2 (L:=[J]) (by simp) (fun s hs=>by simp at hs;subst hs;exact hJl)
 have hJ2:(s9 [J]).length≤20000:=zD 20000 _ [] (by simp) (fun s hs=>by simp at hs;subst hs;exact hJl)
 have hB0:KB ([.cells p.cells,.front 0 0,.front 0 0,.cells (ins.map mA),.cells ((outs.map mA).set k (FZ 7 J)),FR L.length,.front 0 0,ZX J,.front 1 1,.front 0 0]:lD) []:=by
  refine⟨fun n hn'=>?_,fun n _=>rD⟩
  have h9:9≤n:=by simp [HN] at hn';omega
  have e:([.cells p.cells,.front 0 0,.front 0 0,.cells (ins.map mA),.cells ((outs.map mA).set k (FZ 7 J)),FR L.length,.front 0 0,ZX J,.front 1 1,.front 0 0]:lD) =
    HB p (ins.map mA) ((outs.map mA).set k (FZ 7 J))++([FR L.length]++([.front 0 0]++([ZX J]++[.front 1 1,.front 0 0]))):=rfl
  rw [e]
  exact p8 (CA (o7 _) (fun m h hm=>hoc m h (by omega))) (p8 AJ (p8 (oP rD) (p8 (zx _) (oP (oP rD)))))
 have g60:=c82 hB0 (t:=b.term) (fun h=>by have:=hp.term b hbm h;have:=hp.temps;omega) (s9 [J])
 have hBG:KB ([.cells p.cells,.front 0 0,.front 0 0,.cells (ins.map mA),.cells ((outs.map mA).set k (FZ 7 J)),FR L.length,.front 0 0,ZX J,.front 1 1,.front 0 0]:lD) ([]++uJ b.term) :=
  hB0.app (by unfold uJ;split <;> simp [Term.cells])
 have gl1:=TK hp hBG (by simp [HN];omega) (bb:=bb) (k:=(k:Int)) hbm b.ops.length (sZ b.term (s9 [J])) (ai1 _)
 rw [List.take_length] at gl1
 have hnew:F4 b.ops (sZ b.term (s9 [J]))=wM ins b:=by unfold wM afA;rw [hJ]
 rw [hnew] at gl1
 generalize wM ins b=N at *
 generalize hA:([.cells p.cells,.front 0 0,.front 0 0,.cells (ins.map mA),.cells ((outs.map mA).set k (FZ 7 J)),FR L.length,.front 0 0,ZX J,.front 1 1,.front 0 0]:lD)=A at *
 have hAl:A.length=10:=by rw [←hA];rfl
 rw [hAl] at g60 gl1
 have hTN:TH (OQ A (XS N) ([]++uJ b.term)):=anH hBG wZ
 have hc:ins[k]?=some ins[k]:=ac6 hki
 have hgd:ins.getD k (false,[])=ins[k]:=by simp [ae9,hc]
 have hck:=hs ins[k] (as2 hki)
 have g62:=c84 hTN (S:=(VS A.length N).lL) (T:=(mA ins[k]).lL) (by
  have:=Ch.lL (A:=A) (B:=[]++uJ b.term) (ws:=N) rfl
  rwa [show(VS A.length N).lL.lL=(VS A.length N).lL from by cases N <;> rfl]) (by
  have:=G_ (h:=OQ A (XS N) ([]++uJ b.term)) ins[k]
  rwa [show(mA ins[k]).lL.lL=(mA ins[k]).lL from by rcases ins[k] with ⟨b,w⟩;cases b <;> rfl]) hw hck
 rw [hAl] at g62
 have gf2:=GX (A:=A) (B:=[]++uJ b.term) (ws:=N)
 rw [hAl] at gf2
 have hlen3:(OQ A (XS (sZ b.term (s9 [J]))) ([]++uJ b.term)).length=HN A ([]++uJ b.term):=CC
 have hb3:∀X B,nW (OQ A X B) 0=some p.cells:=fun X B=>by rw [←hA];rfl
 have hi4:∀X B,nW (OQ A X B) 3=some (ins.map mA):=fun X B=>by rw [←hA];rfl
 have hcell:(ins.map mA)[k]?=some (mA ins[k]):=by rw [af7,hc];rfl
 rw [hgd]
 generalize hcA:mA ins[k]=ca at *
 have hput:∀(l:List lC) (v:lC),k<l.length→putCells l k [v]=l.set k v:=fun l v hl=>by
  unfold putCells
  rw [List.set_eq_take_append_cons_drop,if_pos hl];simp
 have tS:oD 5 (OQ A (XS N) (uJ b.term))=some (HB p (ins.map mA) ((outs.set k (true,J)).map mA)):=by
  have e1:=fun h=>Gr (m:=5) (h:=h) (id:=7) (ws:=J) (by omega) outs k hko
  have e2:∀h,mW 5 h (ins.map mA)=some (ins.map mA):=fun h=>o7 (n:=5) ins 5 h (ai1 _)
  have e3:∀h,mW 5 h p.cells=some p.cells:=fun h=>GC (n:=5) 5 h (ai1 _)
  rw [←hA]
  simp [OQ,oD,e1,e2,e3,HB]
 have tD:oD 5 (List.set (OQ A (ZX N) (uJ b.term)) 3 (.cells ((ins.map mA).set k (FZ 10 N))))=some (HB p ((ins.set k (true,N)).map mA) ((outs.set k (true,J)).map mA)):=by
  have e1:=fun h=>Gr (m:=5) (h:=h) (id:=7) (ws:=J) (by omega) outs k hko
  have e2:=fun h=>Gr (m:=5) (h:=h) (id:=10) (ws:=N) (by omega) ins k hki
  have e3:∀h,mW 5 h p.cells=some p.cells:=fun h=>GC (n:=5) 5 h (ai1 _)
  rw [←hA]
  simp [OQ,oD,e1,e2,e3,HB]
 have stD:lW 1 (OQ A (ZX N) (uJ b.term)) (.ptr 3 k) (FZ 10 N)=some (List.set (OQ A (ZX N) (uJ b.term)) 3 (.cells ((ins.map mA).set k (FZ 10 N)))):=by
  rw [sJ,hi4,ai3,MY,if_pos ⟨rfl,by simp;omega,by simp [Uz]⟩]
  have:(ins.map mA).drop k=ca::(ins.map mA).drop (k+1):=by
   have hk':k<(ins.map mA).length:=by simpa using hki
   rw [ao4 hk']
   have:=ac6 hk'
   rw [hcell] at this;cases this;rfl
  rw [this,Aj,Dy,RA,hput _ _ (by simpa using hki)]
 have ldA:∀X B,lP false 1 (OQ A X B) (.ptr 0 2)=some (.slice (p.blocks.map mF.cells) .no):=fun X B=>by rw [qL,hb3];rfl
 have ldI:∀X B,lP false 1 (OQ A X B) (.ptr 3 k)=some ca:=fun X B=>by rw [qL,hi4];exact hcell
 have ixo:lU 1 (.mslice 4 0 p.blocks.length 1) (.int .i64 (k:Int))=some (.ptr 4 k):=by rw [rR,if_pos ⟨hkl,rfl⟩];simp
 have ixi:lU 1 (.mslice 3 0 p.blocks.length 1) (.int .i64 (k:Int))=some (.ptr 3 k):=by rw [rR,if_pos ⟨hkl,rfl⟩];simp
 have bx:lU 5 (.slice (p.blocks.map mF.cells) .no) (.int .i64 (k:Int))=some (.pptr [.slice (b.ops.map Op.cells) .no,.int .i64 b.term.kind,.int .i64 b.term.a,.int .i64 b.term.yes,.int .i64 b.term.no]):=by rw [lG,hb];rfl
 have ld0:∀X,lP false 1 (.cells p.cells::X) (.ptr 0 2)=some (.slice (p.blocks.map mF.cells) .no):=fun X=>rfl
 have hob:=hp.len b hbm
 have w1:IntKind.i64.wrap ((b.ops.length:Int)-1)=(b.ops.length:Int)-1:=by rw [wrap64] <;> omega
 have w2:IntKind.i64.wrap ((k:Int)-1)=(k:Int)-1:=by rw [wrap64] <;> omega
 have q0:=fun h=>sP (m:=5) (h:=h) (by omega)
 have q1:=fun h=>sT1 (m:=5) (h:=h) (by omega)
 have q2:=fun h=>sT2 (m:=5) (h:=h) (by omega)
 have q3:=fun h=>sMI (m:=5) (h:=h) (n:=p.blocks.length) (by omega)
 have q4:=fun h=>sMO (m:=5) (h:=h) (n:=p.blocks.length) (by omega)
 have eA:([.cells p.cells,.front 0 0,.front 0 0,.cells (ins.map mA),.cells ((outs.map mA).set k (FZ 7 J)),FR L.length,.front 0 0,ZX J,.front 1 1,.front 0 0,XS (s9 [J])]:lD)=OQ A (XS (s9 [J])) []:=by rw [←hA];rfl
 rw [←eA] at g60
 simp only [ar5] at g60 gl1 g62 gf2
 have eF:FR ([]:List (List Wd)).length=.front 0 0:=rfl
 simp only [eF,List.map_nil,HB,OQ,List.cons_append,ar5] at gl
 rw [show OQ (HB p (ins.map mA) (outs.map mA)++[FR L.length]++[.front 0 0]) (ZX J) []=[.cells p.cells,.front 0 0,.front 0 0,.cells (ins.map mA),.cells (outs.map mA),FR L.length,.front 0 0,ZX J] from rfl,
  show OQ (HB p (ins.map mA) (outs.map mA)++[FR L.length]++[.front 0 0]) (XS J) []=[.cells p.cells,.front 0 0,.front 0 0,.cells (ins.map mA),.cells (outs.map mA),FR L.length,.front 0 0,XS J] from rfl] at gf
 rw [show OQ (HB p (ins.map mA) (outs.map mA)++[FR L.length]++[.front 0 0]) (XS J) []=[.cells p.cells,.front 0 0,.front 0 0,.cells (ins.map mA),.cells (outs.map mA),FR L.length,.front 0 0,XS J] from rfl,
  show HB p (ins.map mA) (outs.map mA)++[FR L.length]=[.cells p.cells,.front 0 0,.front 0 0,.cells (ins.map mA),.cells (outs.map mA),FR L.length] from rfl] at g59
 have stO:lW 1 ([.cells p.cells,.front 0 0,.front 0 0,.cells (ins.map mA),.cells (outs.map mA),FR L.length,.front 0 0,ZX J]:lD) (.ptr 4 k) (FZ 7 J)=some [.cells p.cells,.front 0 0,.front 0 0,.cells (ins.map mA),.cells ((outs.map mA).set k (FZ 7 J)),FR L.length,.front 0 0,ZX J]:=by
  rw [sJ]
  have hk':k<(outs.map mA).length:=by simpa using hko
  have hg4:nW ([.cells p.cells,.front 0 0,.front 0 0,.cells (ins.map mA),.cells (outs.map mA),FR L.length,.front 0 0,ZX J]:lD) 4=some (outs.map mA):=rfl
  rw [hg4,ai3,MY,if_pos ⟨rfl,by simp;omega,by simp [Uz]⟩,ao4 hk',Aj,Dy,RA,hput _ _ hk']
  rfl
 have ldO:lP false 1 ([.cells p.cells,.front 0 0,.front 0 0,.cells (ins.map mA),.cells ((outs.map mA).set k (FZ 7 J)),FR L.length,.front 0 0,ZX J]:lD) (.ptr 4 k)=some (FZ 7 J):=by
  rw [qL]
  have hg4:nW ([.cells p.cells,.front 0 0,.front 0 0,.cells (ins.map mA),.cells ((outs.map mA).set k (FZ 7 J)),FR L.length,.front 0 0,ZX J]:lD) 4=some ((outs.map mA).set k (FZ 7 J)):=rfl
  rw [hg4,ai3]
  exact abT (by simpa using hko) _
 rw [show OQ ([.gone,.front 0 0,.front 0 0,.cells (ins.map mA),.cells ((outs.map mA).set k (FZ 7 J)),FR L.length,.front 0 0,ZX J,.front 1 1]++[.front 0 0]) (XS (s9 [J])) [] =
   [.gone,.front 0 0,.front 0 0,.cells (ins.map mA),.cells ((outs.map mA).set k (FZ 7 J)),FR L.length,.front 0 0,ZX J,.front 1 1,.front 0 0,XS (s9 [J])] from rfl] at g592
 simp only [aq7,List.map_nil,aq8,List.length_nil,ar4,Nat.reduceAdd] at g592
 have row:=fun h=>aeK 7 J h
 have hil:∀l:List Int,(ints l).length=l.length:=fun l=>by simp [ints]
 simp only [Nat.reduceAdd] at g59
 simp only [Term.cells] at g58 g60
 clear hb3 hi4 hput hlen3 hTN hBG hB0 hT2 zx hoc hTF hcell hgd hck hc hJl hJ2 hLl hA eA hld hnew hJ hout hs
 rw [show HB p (ins.map mA) (outs.map mA)=[.cells p.cells,.front 0 0,.front 0 0,.cells (ins.map mA),.cells (outs.map mA)] from rfl]
 by_cases hsame:nX N=nX (rC ins[k])
 ·rw [if_pos hsame,if_pos hsame]
  rw [decide_eq_true hsame] at g62
  generalize HB p (ins.map mA) ((outs.set k (true,J)).map mA)=Hend at *
  unfold EO
  simp -implicitDefEqProofs [-sJ,-qL,hil,ld0,bx,g58,gl,g59,gf,ixo,stO,ldO,row,g592,g60,ldA,w1,gl1,ixi,ldI,g62,lX,tS,q0,q1,q2,q3,q4,w2]
 ·rw [if_neg hsame,if_neg hsame]
  rw [decide_eq_false hsame] at g62
  generalize HB p ((ins.set k (true,N)).map mA) ((outs.set k (true,J)).map mA)=Hend at *
  unfold EO
  simp -implicitDefEqProofs [-sJ,-qL,hil,ld0,bx,g58,gl,g59,gf,ixo,stO,ldO,row,g592,g60,ldA,w1,gl1,ixi,ldI,g62,gf2,stD,lX,tD,q0,q1,q2,q3,q4,w2]
end
end
section
open Go Hk Go.Proofs.Wd
def Wk (ins:List Cl) (k:Nat):List Wd:=rC (ins.getD k (false,[]))
theorem aeP {ins:List Cl}{k j:Nat}{w:List Wd}(hk:k<ins.length):Wk (ins.set k (true,w)) j=if k=j then w else Wk ins j:=by
 unfold Wk
 rw [ae9,ae9,List.getElem?_set]
 split
 ·rename_i h;subst h;simp [hk,rC]
 ·rfl
theorem XU (l:List Op) (x:Term) (ws:List Wd) (u:Nat):oY (F4 l (sZ x ws)) u=true↔zW l x (fun t=>0≤t∧oY ws t.toNat=true) (u:Int):=by
 induction l with
 | nil=>exact Rt x ws u
 | cons o r ih =>
  have e:F4 (o::r) (sZ x ws)=vS o (F4 r (sZ x ws)):=rfl
  rw [e,Rs]
  show _↔XH o (zW r x _) (u:Int)
  unfold XH
  refine or_congr Iff.rfl (and_congr ?_ Iff.rfl)
  rw [←ih]
  simp only [as0]
  exact⟨fun h=>h.2,fun h=>⟨by omega,h⟩⟩
theorem XT (J:List Wd) (t:Nat):oY (s9 [J]) t=oY J t:=by
 unfold s9;rw [Fc];simp [oY]
theorem OS (ins:List Cl) (b:mF) (t:Nat):oY (AR ins b) t=true↔∃j∈qH b.term,oY (Wk ins j.toNat) t=true:=by
 unfold AR s9
 rw [Fc]
 have:oY [] t=false:=by simp [oY]
 rw [this,Bool.false_or,List.any_eq_true]
 constructor
 ·rintro⟨s,hs,ht⟩
  obtain⟨j,hj,rfl⟩:=ar2.1 hs
  exact⟨j,hj,ht⟩
 ·rintro⟨j,hj,ht⟩
  exact⟨_,ar2.2 ⟨j,hj,rfl⟩,ht⟩
def SB (ins:List Cl) (x:Term):Int→Prop:=fun t=>∃j∈qH x,0≤t∧oY (Wk ins j.toNat) t.toNat=true
theorem OM {l:List Op}{x:Term}{S T:Int→Prop}{t:Int}(h:S t↔T t):zW l x S t↔zW l x T t:=by
 rw [rP,rP,h]
theorem BM (ins:List Cl) (b:mF) (u:Nat):oY (wM ins b) u=true↔BJ b (SB ins b.term) (u:Int):=by
 unfold wM afA BJ
 rw [XU]
 refine OM ?_
 simp only [as0,XT,OS,SB]
 constructor
 ·rintro⟨h0,j,hj,ht⟩;exact⟨j,hj,h0,ht⟩
 ·rintro⟨j,hj,h0,ht⟩;exact⟨h0,j,hj,ht⟩
theorem Vt {l:List Op}{x:Term}{t:Int}(h:s8 l x t=1):(∃o∈l,t∈oO o)∨(x.kind=2∧x.a=t):=by
 induction l with
 | nil =>
  simp only [s8] at h
  split at h
  ·rename_i h1;exact .inr h1
  ·cases h
 | cons o r ih =>
  simp only [s8] at h
  split at h
  ·rename_i h1;exact .inl ⟨o,by simp,h1⟩
  ·split at h
   ·cases h
   ·rcases ih h with ⟨o',h1,h2⟩ | h1
    ·exact .inl ⟨o',by simp [h1],h2⟩
    ·exact .inr h1
section
variable {p:IR}(hp:AK p)
include hp
theorem Hq {b:mF}(hb:b∈p.blocks) {t:Int}(h:s8 b.ops b.term t=1):0≤t∧t<p.temps:=by
 rcases Vt h with ⟨o,ho,ht⟩ | ⟨h1,h2⟩
 ·exact hp.use b hb o ho t ht
 ·have:=hp.term b hb h1;omega
theorem FK {t:Int}{k:Nat}(h:Reach p.blocks t k):0≤t∧t<p.temps:=by
 induction h with
 | here hb hf=>exact Hq hp (af3 hb) hf
 | step hb hf hj hr ih=>exact ih
structure SI (p:IR) (ins:List Cl):Prop where
 len:ins.length=p.blocks.length
 sz:∀c∈ins,(rC c).length≤20000
 sound:∀(k t:Nat),oY (Wk ins k) t=true→Reach p.blocks (t:Int) k
 pre:∀(k:Nat) (b:mF),p.blocks[k]?=some b→∀t:Nat,oY (Wk ins k) t=true→BJ b (SB ins b.term) (t:Int)
omit hp in
theorem ab9 {ins:List Cl}(hs:∀c∈ins,(rC c).length≤20000) (k:Nat):(Wk ins k).length≤20000:=by
 unfold Wk
 rw [ae9]
 cases hq:ins[k]? with
 | none=>simp [rC]
 | some c=>exact hs c (af3 hq)
theorem WO {ins:List Cl}(hs:∀c∈ins,(rC c).length≤20000) {b:mF}(hb:b∈p.blocks):(wM ins b).length≤20000:=by
 have hJ:(AR ins b).length≤20000:=zD 20000 _ [] (by simp) fun s hs'=>by
  obtain⟨j,_,rfl⟩:=ar2.1 hs'
  exact ab9 hs j.toNat
 have hJ2:(s9 [AR ins b]).length≤20000:=zD 20000 _ [] (by simp) fun s hs'=>by simp at hs';subst hs';exact hJ
 have hR:(sZ b.term (s9 [AR ins b])).length≤20000:=T0 (fun h=>by have:=hp.term b hb h;have:=hp.temps;omega) hJ2
 have key:∀(l:List Op),(∀o∈l,o∈b.ops)→(F4 l (sZ b.term (s9 [AR ins b]))).length≤20000:=by
  intro l
  induction l with
  | nil=>exact fun _=>hR
  | cons o r ih =>
   intro hl
   exact SX (fun t ht=>by have:=hp.use b hb o (hl o (by simp)) t ht;have:=hp.temps;omega) (ih fun x hx=>hl x (by simp [hx]))
 exact key b.ops fun o h=>h
end
def wB (ins:List Cl):Nat:=(ins.map fun c=>(nX (rC c)).length).sum
theorem JZ:∀(ins:List Cl) (k:Nat) (c:Cl),k<ins.length→wB (ins.set k c)+(nX (Wk ins k)).length=wB ins+(nX (rC c)).length
 | [],k,c,h=>by simp at h
 | x::r,0,c,_=>by
  simp only [wB,List.set_cons_zero,aq7,List.sum_cons]
  have:Wk (x::r) 0=rC x:=rfl
  rw [this];omega
 | x::r,k+1,c,h=>by
  have ih:=JZ r k c (by simpa using h)
  simp only [wB,List.set_cons_succ,aq7,List.sum_cons] at ih ⊢
  have:Wk (x::r) (k+1)=Wk r k:=rfl
  rw [this];omega
theorem Tu {ws:List Wd}(h:ws.length≤20000):(nX ws).length≤1280000:=by
 unfold nX
 exact Nat.le_trans (List.length_filter_le _ _) (by simp;omega)
theorem On:∀(ins:List Cl),(∀c∈ins,(rC c).length≤20000)→wB ins≤ins.length*1280000
 | [],_=>by simp [wB]
 | x::r,h=>by
  have ih:=On r fun c hc=>h c (by simp [hc])
  have:=Tu (h x (by simp))
  simp only [wB,aq7,List.sum_cons,aq8] at ih ⊢
  omega
theorem Pw {a b:List Wd}(h:∀t,oY a t=true→oY b t=true) (hne:nX a≠nX b):(nX a).length<(nX b).length:=by
 have ha:nX a=(aq5 (64*max a.length b.length)).filter (oY a):=Bc fun t ht=>by have:=Ca ht;omega
 have hb:nX b=(aq5 (64*max a.length b.length)).filter (oY b):=Bc fun t ht=>by have:=Ca ht;omega
 have hsub:(nX a).Sublist (nX b):=by
  have e:nX a=(nX b).filter (oY a):=by
   rw [ha,hb,List.filter_filter]
   apply List.filter_congr
   intro t _
   cases hx:oY a t
   ·simp
   ·simp [h t hx]
  rw [e];exact List.filter_sublist
 rcases Nat.lt_or_ge (nX a).length (nX b).length with h1 | h1
 ·exact h1
 ·exact absurd (hsub.eq_of_length (Nat.le_antisymm hsub.length_le h1)) hne
section
variable {p:IR}(hp:AK p) (hl:∀b∈p.blocks,qH b.term=tO b.term)
include hp hl
theorem SI.start:SI p (al7 p.blocks.length (false,[])):=by
 have hW:∀k,Wk (al7 p.blocks.length (false,[])) k=[]:=fun k=>by
  unfold Wk
  rw [ae9,List.getElem?_replicate]
  split <;> rfl
 refine⟨by simp,fun c hc=>by rw [(List.mem_replicate.1 hc).2];simp [rC],fun k t h=>?_,fun k b _ t h=>?_⟩ <;>
  (rw [hW] at h;simp [oY] at h)
theorem SI.TU {ins:List Cl}(h:SI p ins) {k:Nat}{b:mF}(hb:p.blocks[k]?=some b) {t:Nat}(ht:oY (wM ins b) t=true):Reach p.blocks (t:Int) k:=by
 refine PB (W:=fun j u=>0≤u∧oY (Wk ins j) u.toNat=true) (fun j u hu=>?_) hb ?_
 ·have:=h.sound j u.toNat hu.2
  rwa [Int.toNat_of_nonneg hu.1] at this
 ·rw [BM] at ht
  unfold SB at ht
  rw [hl b (af3 hb)] at ht
  exact ht
theorem SI.step {ins:List Cl}(h:SI p ins) {k:Nat}{b:mF}(hb:p.blocks[k]?=some b):SI p (ins.set k (true,wM ins b)):=by
 have hk:k<ins.length:=by rw [h.len];exact(ac1.1 hb).1
 have hW:=fun j=>aeP (ins:=ins) (j:=j) (w:=wM ins b) hk
 have mono:∀(j t:Nat),oY (Wk ins j) t=true→oY (Wk (ins.set k (true,wM ins b)) j) t=true:=fun j t ht=>by
  rw [hW]
  split
  ·rename_i e;subst e
   rw [BM];exact h.pre k b hb t ht
  ·exact ht
 have smono:∀(x:Term) (t:Int),SB ins x t→SB (ins.set k (true,wM ins b)) x t:=fun x t ⟨j,hj,h0,ht⟩=>⟨j,hj,h0,mono _ _ ht⟩
 refine⟨by simp [h.len],fun c hc=>?_,fun j t ht=>?_,fun j c hc t ht=>?_⟩
 ·rcases List.mem_or_eq_of_mem_set hc with h1 | h1
  ·exact h.sz c h1
  ·subst h1;exact WO hp h.sz (af3 hb)
 ·rw [hW] at ht
  split at ht
  ·rename_i e;subst e;exact h.TU hp hl hb ht
  ·exact h.sound j t ht
 ·rw [hW] at ht
  split at ht
  ·rename_i e;subst e
   rw [hb] at hc;cases hc
   rw [BM] at ht
   exact AA (smono _) ht
  ·exact AA (smono _) (h.pre j c hc t ht)
def Fin (p:IR) (ins outs:List Cl):Prop:=∀(k:Nat) (b:mF),p.blocks[k]?=some b→outs.getD k (false,[])=(true,AR ins b)∧nX (wM ins b)=nX (Wk ins k)
theorem SI.complete {ins outs:List Cl}(h:SI p ins) (hf:Fin p ins outs) (k t:Nat):oY (Wk ins k) t=true↔Reach p.blocks (t:Int) k:=by
 refine⟨h.sound k t,fun hr=>?_⟩
 have:=Jg (W:=fun j u=>0≤u∧oY (Wk ins j) u.toNat=true) (bs:=p.blocks) (fun j b hb u hu=>?_) hr
 ·simpa using this.2
 ·have hr0:0≤u:=by
   unfold BJ at hu
   rw [rP] at hu
   rcases hu with h1 | ⟨_,j',_,h2⟩
   ·exact(Hq hp (af3 hb) h1).1
   ·exact h2.1
  obtain⟨n,rfl⟩:=Int.eq_ofNat_of_zero_le hr0
  refine⟨hr0,?_⟩
  have h2:=(Tt.1 (hf j b hb).2) n
  simp only [as0]
  rw [←h2,BM]
  unfold SB
  rw [hl b (af3 hb)]
  exact hu
end
end
section
open Go Hk Go.Proofs.Wd
section
variable {p:IR}(hp:AK p) (hl:∀b∈p.blocks,qH b.term=tO b.term)
include hp hl
def lvS (p:IR) (bb:Bool):List lC:=[.ptr 0 0,T1,T2,.int .i64 0,.mslice 3 0 p.blocks.length 1,.mslice 4 0 p.blocks.length 1,.bool bb]
theorem TL:∀(c:Nat) (ins outs:List Cl) (bb:Bool),c≤p.blocks.length→SI p ins→outs.length=p.blocks.length →
  ∃(ins' outs':List Cl) (bb':Bool),mX (EO KK 5) (lvS p bb++[.int .i64 ((c:Int)-1)],HB p (ins.map mA) (outs.map mA))=some (.exit 2,lvS p bb'++[.int .i64 (-1)],HB p (ins'.map mA) (outs'.map mA)) ∧
   SI p ins'∧outs'.length=p.blocks.length∧(bb=true→bb'=true)∧wB ins≤wB ins'∧(bb=false→bb'=true→wB ins<wB ins') ∧
   (bb'=false→ins'=ins∧(∀(k:Nat),c≤k→outs'.getD k (false,[])=outs.getD k (false,[])) ∧
    ∀(k:Nat) (b:mF),k<c→p.blocks[k]?=some b→outs'.getD k (false,[])=(true,AR ins b)∧nX (wM ins b)=nX (Wk ins k)):=by
 have q0:=fun h=>sP (m:=5) (h:=h) (by omega)
 have q1:=fun h=>sT1 (m:=5) (h:=h) (by omega)
 have q2:=fun h=>sT2 (m:=5) (h:=h) (by omega)
 have q3:=fun h=>sMI (m:=5) (h:=h) (n:=p.blocks.length) (by omega)
 have q4:=fun h=>sMO (m:=5) (h:=h) (n:=p.blocks.length) (by omega)
 intro c
 induction c with
 | zero =>
  intro ins outs bb _ hI ho
  have htr:oD 5 (HB p (ins.map mA) (outs.map mA))=some (HB p (ins.map mA) (outs.map mA)):=rB (CA (o7 _) (o7 _))
  refine⟨ins,outs,bb,tI ?_,hI,ho,id,ai1 _,(fun h1 h2=>absurd (h1.symm.trans h2) (by decide)),fun _=>⟨rfl,fun _ _=>rfl,fun k b hk=>by omega⟩⟩
  unfold EO
  simp only [lvS]
  simp -implicitDefEqProofs [lX,htr,q0,q1,q2,q3,q4]
 | succ c ih =>
  intro ins outs bb hc hI ho
  have hcl:c<p.blocks.length:=by omega
  have hb:p.blocks[c]?=some p.blocks[c]:=ac6 hcl
  have hbm:=as2 hcl
  generalize p.blocks[c]=b at *
  have hci:c<ins.length:=by rw [hI.len];exact hcl
  have hw:=WO hp hI.sz hbm
  have g:=TO hp hI.len ho hI.sz (bb:=bb) hb hw
  have w0:((c+1:Nat):Int)-1=(c:Int):=by omega
  have hWk:rC (ins.getD c (false,[]))=Wk ins c:=rfl
  rw [hWk] at g
  rw [w0]
  by_cases hsame:nX (wM ins b)=nX (Wk ins c)
  ·rw [if_pos hsame,if_pos hsame] at g
   obtain⟨ins',outs',bb',g1,g2,g3,g4,g5,g6,g7⟩:=ih ins (outs.set c (true,AR ins b)) bb (by omega) hI (by simp [ho])
   refine⟨ins',outs',bb',?_,g2,g3,g4,g5,g6,fun hb'=>?_⟩
   ·rw [←g1];exact AM g
   ·obtain⟨k1,k2,k3⟩:=g7 hb'
    have hset:∀k,(outs.set c (true,AR ins b)).getD k (false,[])=if c=k then(true,AR ins b) else outs.getD k (false,[]):=fun k=>by
     rw [ae9,ae9,List.getElem?_set]
     split
     ·rename_i e;subst e;simp [show c<outs.length by omega]
     ·rfl
    refine⟨k1,fun k hk=>?_,fun k b' hk hb2=>?_⟩
    ·rw [k2 k (by omega),hset,if_neg (by omega)]
    ·by_cases hkc:k=c
     ·subst hkc
      rw [hb] at hb2;cases hb2
      rw [k2 k (ai1 _),hset,if_pos rfl]
      exact⟨rfl,hsame⟩
     ·exact k3 k b' (by omega) hb2
  ·rw [if_neg hsame,if_neg hsame] at g
   have hI2:=SI.step hp hl hI hb
   obtain⟨ins',outs',bb',g1,g2,g3,g4,g5,g6,g7⟩:=ih (ins.set c (true,wM ins b)) (outs.set c (true,AR ins b)) true (by omega) hI2 (by simp [ho])
   have hgrow:wB ins<wB (ins.set c (true,wM ins b)):=by
    have h1:=JZ ins c (true,wM ins b) hci
    have h2:=Pw (a:=Wk ins c) (b:=wM ins b) (fun t ht=>by rw [BM];exact hI.pre c b hb t ht) (fun e=>hsame e.symm)
    have h3:rC (true,wM ins b)=wM ins b:=rfl
    rw [h3] at h1;omega
   have hb':=g4 rfl
   refine⟨ins',outs',bb',?_,g2,g3,fun _=>hb',by omega,fun _ _=>by omega,fun h=>by rw [hb'] at h;cases h⟩
   rw [←g1];exact AM g
theorem TM (M:Nat) (hM:∀ins,SI p ins→wB ins≤M):∀(n:Nat) (ins outs:List Cl) (bb:Bool),2*(M-wB ins)+(bif bb then 1 else 0)<n→SI p ins→outs.length=p.blocks.length→(bb=false→Fin p ins outs) →
  ∃(ins' outs':List Cl),mX (L0 KK 5) (lvS p bb,HB p (ins.map mA) (outs.map mA))=some (.exit 0,lvS p false,HB p (ins'.map mA) (outs'.map mA))∧SI p ins'∧outs'.length=p.blocks.length∧Fin p ins' outs':=by
 have q0:=fun h=>sP (m:=5) (h:=h) (by omega)
 have q1:=fun h=>sT1 (m:=5) (h:=h) (by omega)
 have q2:=fun h=>sT2 (m:=5) (h:=h) (by omega)
 have q3:=fun h=>sMI (m:=5) (h:=h) (n:=p.blocks.length) (by omega)
 have q4:=fun h=>sMO (m:=5) (h:=h) (n:=p.blocks.length) (by omega)
 have hnb:=hp.nb
 intro n
 induction n with
 | zero=>intro ins outs bb h;omega
 | succ n ih =>
  intro ins outs bb hn hI ho hf
  have htr:∀i o:List Cl,oD 5 (HB p (i.map mA) (o.map mA))=some (HB p (i.map mA) (o.map mA)):=fun i o=>rB (CA (o7 _) (o7 _))
  have h5:∀i o:List Cl,(HB p (i.map mA) (o.map mA)).length=5:=fun _ _=>rfl
  cases bb with
  | false =>
   refine⟨ins,outs,tI ?_,hI,ho,hf rfl⟩
   unfold L0
   simp only [lvS]
   simp -implicitDefEqProofs [lX,htr,q0,q1,q2,q3,q4]
  | true =>
   obtain⟨ins',outs',bb',g1,g2,g3,g4,g5,g6,g7⟩:=TL hp hl p.blocks.length ins outs false (ai1 _) hI ho
   have hle:=hM ins' g2
   obtain⟨ins2,outs2,k1,k2,k3,k4⟩:=ih ins' outs' bb' (by
    cases bb' with
    | false=>simp only [cond_true,cond_false] at hn ⊢;omega
    | true=>have:=g6 rfl rfl;simp only [cond_true] at hn ⊢;omega) g2 g3 (fun hb=>by
     obtain⟨e1,_,e3⟩:=g7 hb
     intro k b hb'
     rw [e1]
     exact e3 k b (ac1.1 hb').1 hb')
   refine⟨ins2,outs2,?_,k2,k3,k4⟩
   rw [←k1]
   refine AM ?_
   have ldA:∀i o:List Cl,lP false 1 (HB p (i.map mA) (o.map mA)) (.ptr 0 2)=some (.slice (p.blocks.map mF.cells) .no):=fun i o=>rfl
   have w1:IntKind.i64.wrap ((p.blocks.length:Int)-1)=(p.blocks.length:Int)-1:=by rw [wrap64] <;> omega
   simp only [lvS,List.cons_append,ar5] at g1 ⊢
   unfold L0
   simp -implicitDefEqProofs [-qL,ldA,h5,w1,g1,lX,htr,q0,q1,q2,q3,q4]
end
end
end Go.Proofs.YtgllbnabmglcfaaGreatDoor
