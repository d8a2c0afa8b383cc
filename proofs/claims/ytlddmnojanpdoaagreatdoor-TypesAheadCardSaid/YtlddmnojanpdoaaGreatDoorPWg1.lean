/-
  The texts WG.M, WG.M2, WG.M3, WG.LL, WG.L8, WG.A, WG.B, WG.C, WG.D, WG.E, WG.F, one behind another. No conditions.
-/
import Derived.Test.YtlddmnojanpdoaaGreatDoorPLg1
set_option linter.unusedVariables false
set_option linter.unusedSimpArgs false
set_option linter.all false
open Int renaming natCast_add → ag1
open List renaming append_assoc → af9, cons_append → af2, getElem?_eq_getElem → ac0, length → aa0, length_append → ac2, length_cons → ac8, length_nil → ad0
open Option renaming bind_some → af4
namespace Go.Proofs.YtlddmnojanpdoaaGreatDoor
noncomputable section
open Go Hk
def aFj (K:lB) (a0 a1:kM) (h0:kP):OH :=
 (qX K 161 a0 h0 fun t0 h1=>(kZ a0).bind fun t2=>(kO 1 t2).bind fun t3=>(l_ false 1 h1 t3).bind fun t4=>kQ (AN 6 1 1 1 h1 t4 a1) fun t5 h6=>(kZ a0).bind fun t7=>(kO 1 t7).bind fun t8=>(pU 1 h6 t8 t5).bind fun h9=>(nQ a1).bind fun aE=>some (.ret,[aE,.niliface],h9)).bind fun aC=>wN aC.2 fun aA aB aD=>Ex.nA aC.1 (lY (aa0 h0) (.tuple [aA,aB]) aD)
theorem aqO K a0 a1 h0:o6 Tryz.prog mJ mI K 124 [a0,a1] h0=aFj (lT mJ K) a0 a1 h0:=by kernel_rfl
def Sk (K:lB) (m:Nat) (s:St):Option R :=
 B9 s fun aB aC aD aA h5=>aq .lss aA aD ((kX 1 aC aA).bind fun t7=>(l_ false 1 h5 t7).bind fun t8=>(kZ aB).bind fun t9=>(kO 0 t9).bind fun aF=>o_ K 124 aF t8 h5 fun aH aE=>(kV .add aA (iq 1)).bind fun aG=>kS m .normal [aB,aC,aD,aG] aE) (kS m (.exit 0) [aB,aC,aD,aA] h5)
def m68 (K:lB) (a0 a1:kM) (h0:kP):OH :=
 ((mN a1).bind fun t0=>(mI (Sk K (aa0 h0)) ([a0,a1,t0,(iq 0)],h0)).bind fun aB=>B9 aB.2 fun aD aE aF aG aA=>Ex.lV aB.1 none (fun aH=>Ex.inBlock 0 aH (some (.normal,([]:List kM),aA)) (fun aI=>some (aI,([]:List kM),aA)))).bind fun aC=>(fun aJ=>Ex.nA aC.1 (lY (aa0 h0) (.tuple []) aJ))  aC.2.2
theorem aBd K a0 a1 h0:o6 Tryz.prog mJ mI K 68 [a0,a1] h0=m68 (lT mJ K) a0 a1 h0:=by kernel_rfl
def m84 (K:lB) (a0 a1:kM) (h0:kP):OH :=
 (qX K 89 a1 h0 fun t0 h1=>kQ (kW 1 1 [(.str [])] [(0,t0)] h1) fun t2 h3=>o_ K 68 a0 t2 h3 fun t4 h5=>some (.normal,([]:List kM),h5)).bind fun r6=>(fun h7=>Ex.nA r6.1 (lY (aa0 h0) (.tuple []) h7))  r6.2.2
theorem aBt K a0 a1 h0:o6 Tryz.prog mJ mI K 84 [a0,a1] h0=m84 (lT mJ K) a0 a1 h0:=by kernel_rfl
def m85 (K:lB) (a0:kM) (h0:kP):OH :=
 ((kZ a0).bind fun t0=>(kO 0 t0).bind fun t1=>(l_ false 1 h0 t1).bind fun t2=>(kV .add t2 (iq 1)).bind fun t3=>(kZ a0).bind fun t4=>(kO 0 t4).bind fun t5=>(pU 1 h0 t5 t3).bind fun h6=>(kZ a0).bind fun t7=>(kO 1 t7).bind fun t8=>(l_ false 1 h6 t8).bind fun t9=>lG false t9 (some a0) h6 fun aI aC=>lG false t9 (kZ aI) aC fun aJ aD=>lG false t9 (kO 0 aJ) aD fun aK aA=>lG false t9 (l_ false 1 aA aK) aA fun aL aE=>lG false t9 (kV .gtr aL (iq 64)) aE fun aM aF=>(lN t9 (.bool true) aM).bind fun aN=>(kZ a0).bind fun aO=>(kO 1 aO).bind fun aP=>(pU 1 aF aP aN).bind fun aG=>some (.normal,([]:List kM),aG)).bind fun aB=>(fun aH=>Ex.nA aB.1 (lY (aa0 h0) (.tuple []) aH))  aB.2.2
theorem aBu K a0 h0:o6 Tryz.prog mJ mI K 85 [a0] h0=m85 (lT mJ K) a0 h0:=by kernel_rfl
def m86 (K:lB) (a0:kM) (h0:kP):OH :=
 ((kZ a0).bind fun t0=>(kO 0 t0).bind fun t1=>(l_ false 1 h0 t1).bind fun t2=>(kV .sub t2 (iq 1)).bind fun t3=>(kZ a0).bind fun t4=>(kO 0 t4).bind fun t5=>(pU 1 h0 t5 t3).bind fun h6=>some (.normal,([]:List kM),h6)).bind fun r7=>(fun h8=>Ex.nA r7.1 (lY (aa0 h0) (.tuple []) h8))  r7.2.2
theorem aBv K a0 h0:o6 Tryz.prog mJ mI K 86 [a0] h0=m86 (lT mJ K) a0 h0:=by kernel_rfl
def m69 (K:lB) (a0 a1:kM) (h0:kP):OH :=
 (aq .eql a1 (iq 1) (kQ (kW 1 1 [(.str [])] [(0,(.str [115,101,99,32]))] h0) fun t1 h2=>o_ K 68 a0 t1 h2 fun t3 h4=>some (.ret,([]:List kM),h4)) (kQ (kW 1 1 [(.str [])] [(0,(.str [112,117,98,32]))] h0) fun t5 h6=>o_ K 68 a0 t5 h6 fun t7 h8=>some (.normal,([]:List kM),h8))).bind fun r9=>(fun aA=>Ex.nA r9.1 (lY (aa0 h0) (.tuple []) aA))  r9.2.2
theorem aBe K a0 a1 h0:o6 Tryz.prog mJ mI K 69 [a0,a1] h0=m69 (lT mJ K) a0 a1 h0:=by kernel_rfl
def m70 (K:lB) (a0 a1:kM) (h0:kP):OH :=
 (kQ (lK 3 h0 a1) fun t0 h1=>(kO 0 t0).bind fun t2=>(l_ false 1 h1 t2).bind fun t3=>(kV .eql t3 (iq 1)).bind fun t4=>(lF t4 (kQ (kW 1 1 [(.str [])] [(0,(.str [109,97,115,107]))] h1) fun t5 h6=>o_ K 68 a0 t5 h6 fun t7 h8=>kS (aa0 h1) .normal [a0,t0] h8) ((kV .eql t3 (iq 2)).bind fun t9=>(lF t9 (kQ (kW 1 1 [(.str [])] [(0,(.str [117,56]))] h1) fun aT aJ=>o_ K 68 a0 aT aJ fun bB aK=>kS (aa0 h1) .normal [a0,t0] aK) (kQ (kW 1 1 [(.str [])] [(0,(.str [117,51,50]))] h1) fun aU aL=>o_ K 68 a0 aU aL fun bC aM=>kS (aa0 h1) .normal [a0,t0] aM)).bind fun aF=>wN aF.2 fun aC aE aN=>Ex.uC aF.1 (kS (aa0 h1) .normal [aC,aE] aN))).bind fun aG=>wN aG.2 fun aD aA aB=>Ex.uC aG.1 ((kO 1 aA).bind fun aV=>(l_ false 1 aB aV).bind fun aW=>(kV .gtr aW (iq 0)).bind fun aX=>(lF aX ((kO 1 aA).bind fun aY=>(l_ false 1 aB aY).bind fun aZ=>qX K 89 aZ aB fun a_ aO=>kQ (kW 3 1 [(.str [])] [(0,(.str [91])),(1,a_),(2,(.str [93]))] aO) fun bA aP=>o_ K 68 aD bA aP fun bD aQ=>kS (aa0 aB) .normal ([]:List kM) aQ) (kS (aa0 aB) .normal ([]:List kM) aB)).bind fun aH=>(fun aR=>Ex.uC aH.1 (some (.normal,([]:List kM),aR)))  aH.2.2)).bind fun aI=>(fun aS=>Ex.nA aI.1 (lY (aa0 h0) (.tuple []) aS))  aI.2.2
theorem aBg K a0 a1 h0:o6 Tryz.prog mJ mI K 70 [a0,a1] h0=m70 (lT mJ K) a0 a1 h0:=by kernel_rfl
def m83 (K:lB) (a0 a1 a2:kM) (h0:kP):OH :=
 (kQ (lK 5 h0 a1) fun t0 h1=>(kO 0 t0).bind fun t2=>(l_ false 1 h1 t2).bind fun t3=>qX K 82 t3 h1 fun t4 h5=>(lH 0 t4).bind fun t6=>(lH 1 t4).bind fun t7=>(kV .gtr t6 (iq 0)).bind fun t8=>lG true t8 (some t6) h5 fun t9 aC=>lG true t8 (some a2) aC fun aH aD=>lG true t8 (kV .lss t9 aH) aD fun aI aA=>(lN t8 aI (.bool false)).bind fun aJ=>lF aJ ((l_ true 5 aA t0).bind fun aK=>o_ K 129 a0 aK aA fun aM aE=>some (.ret,([]:List kM),aE)) ((l_ true 5 aA t0).bind fun aL=>o_ K 37 a0 aL aA fun aN aF=>some (.normal,([]:List kM),aF))).bind fun aB=>(fun aG=>Ex.nA aB.1 (lY (aa0 h0) (.tuple []) aG))  aB.2.2
theorem aBs K a0 a1 a2 h0:o6 Tryz.prog mJ mI K 83 [a0,a1,a2] h0=m83 (lT mJ K) a0 a1 a2 h0:=by kernel_rfl
def aFl (K:lB) (a0 a1:kM) (h0:kP):OH :=
 (kQ (lK 5 h0 a1) fun t0 h1=>kQ (kW 1 1 [(.str [])] [(0,(.str [40]))] h1) fun t2 h3=>o_ K 68 a0 t2 h3 fun t4 h5=>(kZ a0).bind fun t6=>(kO 2 t6).bind fun t7=>qX K 85 t7 h5 fun t8 h9=>(l_ true 5 h9 t0).bind fun aG=>o_ K 37 a0 aG h9 fun aK aB=>(kZ a0).bind fun aH=>(kO 2 aH).bind fun aI=>qX K 86 aI aB fun aL aC=>kQ (kW 1 1 [(.str [])] [(0,(.str [41]))] aC) fun aJ aD=>o_ K 68 a0 aJ aD fun aM aE=>some (.normal,([]:List kM),aE)).bind fun aA=>(fun aF=>Ex.nA aA.1 (lY (aa0 h0) (.tuple []) aF))  aA.2.2
theorem aqQ K a0 a1 h0:o6 Tryz.prog mJ mI K 129 [a0,a1] h0=aFl (lT mJ K) a0 a1 h0:=by kernel_rfl
def m88 (K:lB) (a0 a1 a2:kM) (h0:kP):OH :=
 (kQ (lK 5 h0 a2) fun t0 h1=>kQ (kW 1 1 [(.str [])] [(0,a1)] h1) fun t2 h3=>o_ K 68 a0 t2 h3 fun t4 h5=>(kZ a0).bind fun t6=>(kO 2 t6).bind fun t7=>qX K 85 t7 h5 fun t8 h9=>(l_ true 5 h9 t0).bind fun aE=>kq3 K 83 a0 aE (iq 8) h9 fun aH aB=>(kZ a0).bind fun aF=>(kO 2 aF).bind fun aG=>qX K 86 aG aB fun aI aC=>some (.normal,([]:List kM),aC)).bind fun aA=>(fun aD=>Ex.nA aA.1 (lY (aa0 h0) (.tuple []) aD))  aA.2.2
theorem aBx K a0 a1 a2 h0:o6 Tryz.prog mJ mI K 88 [a0,a1,a2] h0=m88 (lT mJ K) a0 a1 a2 h0:=by kernel_rfl
def NI (K:lB) (m:Nat) (s:St):Option R :=
 EB s fun aE aD aB aC aA aM=>aq .lss aA aC ((kX 5 aB aA).bind fun aU=>(l_ true 5 aM aU).bind fun aV=>kQ (lK 5 aM (.agg [(iq 0),(iq 0),(iq 0),(.str []),(.slice [] .nil)])) fun aN aQ=>(pU 5 aQ aN aV).bind fun aL=>(kV .gtr aA (iq 0)).bind fun aW=>(lF aW (kQ (kW 1 1 [(.str [])] [(0,(.str [44,32]))] aL) fun aX aR=>o_ K 68 aE aX aR fun a_ aS=>kS (aa0 aL) .normal [aE,aD,aN,aB,aC,aA] aS) (kS (aa0 aL) .normal [aE,aD,aN,aB,aC,aA] aL)).bind fun aP=>BE aP.2 fun aF aJ aK aG aH aI aO=>Ex.uC aP.1 ((l_ true 5 aO aK).bind fun aY=>o_ K 37 aF aY aO fun bA aT=>(kV .add aI (iq 1)).bind fun aZ=>kS m .normal [aF,aJ,aG,aH,aZ] aT)) (kS m (.exit 0) [aE,aD,aB,aC,aA] aM)
def m87 (K:lB) (a0 a1 a2 a3:kM) (h0:kP):OH :=
 (kQ (kW 2 1 [(.str [])] [(0,a1),(1,(.str [40]))] h0) fun t0 h1=>o_ K 68 a0 t0 h1 fun t2 h3=>(kZ a0).bind fun t4=>(kO 2 t4).bind fun t5=>qX K 85 t5 h3 fun t6 h7=>(mN a2).bind fun t8=>(mI (NI K (aa0 h7)) ([a0,a3,a2,t8,(iq 0)],h7)).bind fun aG=>EB aG.2 fun aA aB aC aD aE aF=>Ex.lV aG.1 none (fun aI=>Ex.inBlock 0 aI (kQ (kW 2 1 [(.str [])] [(0,aB),(1,(.str [41]))] aF) fun aO aK=>o_ K 68 aA aO aK fun aR aL=>(kZ aA).bind fun aP=>(kO 2 aP).bind fun aQ=>qX K 86 aQ aL fun aS aM=>some (.normal,([]:List kM),aM)) (fun aJ=>some (aJ,([]:List kM),aF)))).bind fun aH=>(fun aN=>Ex.nA aH.1 (lY (aa0 h0) (.tuple []) aN))  aH.2.2
theorem aBw K a0 a1 a2 a3 h0:o6 Tryz.prog mJ mI K 87 [a0,a1,a2,a3] h0=m87 (lT mJ K) a0 a1 a2 a3 h0:=by kernel_rfl
def VU (K:lB) (a0 a1:kM) (h0:kP):OH :=
 (kQ (lK 5 h0 a1) fun t0 h1=>(kO 0 t0).bind fun t2=>(l_ false 1 h1 t2).bind fun t3=>qX K 82 t3 h1 fun t4 h5=>(lH 0 t4).bind fun t6=>(lH 1 t4).bind fun t7=>aq .gtr t6 (iq 0) ((kV .eql t6 (iq 1)).bind fun t9=>(lF t9 (kS (aa0 h5) .normal [a0,t0,t6,t7,(iq 2)] h5) (kS (aa0 h5) .normal [a0,t0,t6,t7,t6] h5)).bind fun cJ=>EB cJ.2 fun aA aB aP aQ aR bJ=>Ex.uC cJ.1 ((kO 4 aB).bind fun dD=>(l_ false 1 bJ dD).bind fun dE=>(kX 5 dE (iq 0)).bind fun dF=>(l_ true 5 bJ dF).bind fun dG=>kq3 K 83 aA dG aR bJ fun fE cK=>kQ (kW 3 1 [(.str [])] [(0,(.str [32])),(1,aQ),(2,(.str [32]))] cK) fun dH cL=>o_ K 68 aA dH cL fun fF aE=>(kO 4 aB).bind fun dI=>(l_ false 1 aE dI).bind fun dJ=>(mN dJ).bind fun dK=>aq .eql dK (iq 1) ((kO 2 aB).bind fun dL=>(l_ false 1 aE dL).bind fun dM=>o_ K 84 aA dM aE fun fH cM=>some (.ret,([]:List kM),cM)) ((kO 4 aB).bind fun dN=>(l_ false 1 aE dN).bind fun dO=>(kX 5 dO (iq 1)).bind fun dP=>(l_ true 5 aE dP).bind fun dQ=>(kV .add aP (iq 1)).bind fun dR=>kq3 K 83 aA dQ dR aE fun fI cN=>some (.ret,([]:List kM),cN)))) ((kO 0 t0).bind fun dU=>(l_ false 1 h5 dU).bind fun aC=>(kV .eql aC (iq 1)).bind fun dV=>(lF dV ((kO 2 t0).bind fun dW=>(l_ false 1 h5 dW).bind fun dX=>o_ K 84 a0 dX h5 fun fJ cO=>kS (aa0 h5) .normal ([]:List kM) cO) ((kV .eql aC (iq 2)).bind fun dY=>(lF dY ((kO 3 t0).bind fun dZ=>(l_ false 1 h5 dZ).bind fun d_=>kQ (kW 1 1 [(.str [])] [(0,d_)] h5) fun eA cP=>o_ K 68 a0 eA cP fun fK cQ=>kS (aa0 h5) .normal ([]:List kM) cQ) ((kV .eql aC (iq 3)).bind fun eB=>(lF eB ((kO 3 t0).bind fun eC=>(l_ false 1 h5 eC).bind fun eD=>kQ (kW 2 1 [(.str [])] [(0,eD),(1,(.str [91]))] h5) fun eE cR=>o_ K 68 a0 eE cR fun fL cS=>(kZ a0).bind fun eF=>(kO 2 eF).bind fun eG=>qX K 85 eG cS fun fM bN=>(kO 4 t0).bind fun eH=>(l_ false 1 bN eH).bind fun eI=>(kX 5 eI (iq 0)).bind fun eJ=>(l_ true 5 bN eJ).bind fun eK=>o_ K 37 a0 eK bN fun fN cT=>(kZ a0).bind fun eL=>(kO 2 eL).bind fun eM=>qX K 86 eM cT fun fO cU=>kQ (kW 1 1 [(.str [])] [(0,(.str [93]))] cU) fun eN cV=>o_ K 68 a0 eN cV fun fQ cW=>kS (aa0 h5) .normal ([]:List kM) cW) ((kV .eql aC (iq 4)).bind fun eO=>(lF eO ((kO 3 t0).bind fun eP=>(l_ false 1 h5 eP).bind fun eQ=>(kO 4 t0).bind fun eR=>(l_ false 1 h5 eR).bind fun eS=>kq4 K 87 a0 eQ eS (.str []) h5 fun fR cX=>kS (aa0 h5) .normal ([]:List kM) cX) ((kV .eql aC (iq 5)).bind fun eT=>(lF eT ((kO 4 t0).bind fun eU=>(l_ false 1 h5 eU).bind fun eV=>(kX 5 eV (iq 0)).bind fun eX=>(l_ true 5 h5 eX).bind fun eY=>kq3 K 88 a0 (.str [126]) eY h5 fun fS cY=>kS (aa0 h5) .normal ([]:List kM) cY) ((kV .eql aC (iq 6)).bind fun eZ=>(lF eZ ((kO 4 t0).bind fun e_=>(l_ false 1 h5 e_).bind fun fB=>(kX 5 fB (iq 0)).bind fun fC=>(l_ true 5 h5 fC).bind fun fD=>kq3 K 88 a0 (.str [45]) fD h5 fun cZ aS=>kS (aa0 h5) .normal ([]:List kM) aS) ((kV .eql aC (iq 7)).bind fun bO=>(lF bO ((kO 4 t0).bind fun bP=>(l_ false 1 h5 bP).bind fun bQ=>(kX 5 bQ (iq 0)).bind fun bR=>(l_ true 5 h5 bR).bind fun bS=>kq3 K 88 a0 (.str [33]) bS h5 fun c6 aT=>kS (aa0 h5) .normal ([]:List kM) aT) ((kV .eql aC (iq 23)).bind fun bT=>(lF bT ((kO 4 t0).bind fun bU=>(l_ false 1 h5 bU).bind fun bV=>kq4 K 87 a0 (.str [109,117,108,104,105]) bV (.str []) h5 fun c7 aU=>kS (aa0 h5) .normal ([]:List kM) aU) ((kV .eql aC (iq 24)).bind fun bW=>(lF bW ((kO 4 t0).bind fun bX=>(l_ false 1 h5 bX).bind fun bY=>kq4 K 87 a0 (.str [99,97,114,114,121]) bY (.str []) h5 fun c_ aV=>kS (aa0 h5) .normal ([]:List kM) aV) ((kV .eql aC (iq 25)).bind fun bZ=>(lF bZ ((kO 4 t0).bind fun b8=>(l_ false 1 h5 b8).bind fun b9=>kq4 K 87 a0 (.str [115,101,108,101,99,116]) b9 (.str []) h5 fun dA aW=>kS (aa0 h5) .normal ([]:List kM) aW) ((kV .eql aC (iq 26)).bind fun b_=>(lF b_ ((kO 4 t0).bind fun cA=>(l_ false 1 h5 cA).bind fun cB=>kq4 K 87 a0 (.str [119,111,114,100]) cB (.str []) h5 fun dB aX=>kS (aa0 h5) .normal ([]:List kM) aX) ((kV .eql aC (iq 16)).bind fun cD=>(lF cD ((kO 4 t0).bind fun aD=>(l_ false 1 h5 aD).bind fun cE=>(kO 2 t0).bind fun cF=>(l_ false 1 h5 cF).bind fun cG=>qX K 89 cG (nL (kY [0] [aD]) h5) fun cH aY=>(kV .add (.str [44,32]) cH).bind fun cI=>kq4 K 87 a0 (.str [114,111,114]) cE cI (lP (kY [0] [aD]) h5 aY) fun dC aZ=>kS (aa0 h5) .normal ([]:List kM) aZ) (kS (aa0 h5) .normal ([]:List kM) h5)).bind fun aF=>(fun a_=>Ex.uC aF.1 (kS (aa0 h5) .normal ([]:List kM) a_))  aF.2.2)).bind fun aG=>(fun bA=>Ex.uC aG.1 (kS (aa0 h5) .normal ([]:List kM) bA))  aG.2.2)).bind fun aH=>(fun bB=>Ex.uC aH.1 (kS (aa0 h5) .normal ([]:List kM) bB))  aH.2.2)).bind fun aI=>(fun bC=>Ex.uC aI.1 (kS (aa0 h5) .normal ([]:List kM) bC))  aI.2.2)).bind fun Vh=>(fun bD=>Ex.uC Vh.1 (kS (aa0 h5) .normal ([]:List kM) bD))  Vh.2.2)).bind fun aj1=>(fun bE=>Ex.uC aj1.1 (kS (aa0 h5) .normal ([]:List kM) bE))  aj1.2.2)).bind fun Vj=>(fun bF=>Ex.uC Vj.1 (kS (aa0 h5) .normal ([]:List kM) bF))  Vj.2.2)).bind fun aJ=>(fun bG=>Ex.uC aJ.1 (kS (aa0 h5) .normal ([]:List kM) bG))  aJ.2.2)).bind fun aK=>(fun bH=>Ex.uC aK.1 (kS (aa0 h5) .normal ([]:List kM) bH))  aK.2.2)).bind fun aL=>(fun bI=>Ex.uC aL.1 (kS (aa0 h5) .normal ([]:List kM) bI))  aL.2.2)).bind fun aM=>(fun bK=>Ex.uC aM.1 (kS (aa0 h5) .normal ([]:List kM) bK))  aM.2.2)).bind fun aN=>(fun bL=>Ex.uC aN.1 (some (.normal,([]:List kM),bL)))  aN.2.2)).bind fun aO=>(fun bM=>Ex.nA aO.1 (lY (aa0 h0) (.tuple []) bM))  aO.2.2
theorem E8 K a0 a1 h0:o6 Tryz.prog mJ mI K 37 [a0,a1] h0=VU (lT mJ K) a0 a1 h0:=by kernel_rfl
def aFk (K:lB) (a0:kM) (h0:kP):OH :=
 ((kZ a0).bind fun t0=>(kO 4 t0).bind fun t1=>(l_ false 1 h0 t1).bind fun t2=>o_ K 162 (.str [32]) t2 h0 fun t3 h4=>kQ (kW 1 1 [(.str [])] [(0,t3)] h4) fun t5 h6=>o_ K 68 a0 t5 h6 fun t7 h8=>some (.normal,([]:List kM),h8)).bind fun r9=>(fun aA=>Ex.nA r9.1 (lY (aa0 h0) (.tuple []) aA))  r9.2.2
theorem aqP K a0 h0:o6 Tryz.prog mJ mI K 125 [a0] h0=aFk (lT mJ K) a0 h0:=by kernel_rfl
def Sl (K:lB) (m:Nat) (s:St):Option R :=
 B9 s fun aB aC aD aA aE=>aq .lss aA aD ((kX 11 aC aA).bind fun aM=>(l_ true 11 aE aM).bind fun aN=>kQ (lK 11 aE (.agg [(iq 0),(iq 0),(iq 0),(.str []),(iq 0),(iq 0),(iq 0),(.slice [] .nil),(.slice [] .nil),(.slice [] .nil),(.bool false)])) fun aG aH=>(pU 11 aH aG aN).bind fun aI=>qX K 125 aB aI fun aR aF=>(l_ true 11 aF aG).bind fun aO=>o_ K 126 aB aO aF fun aS aJ=>kQ (kW 1 1 [(.str [])] [(0,(.str [10]))] aJ) fun aP aK=>o_ K 68 aB aP aK fun aT aL=>(kV .add aA (iq 1)).bind fun aQ=>kS m .normal [aB,aC,aD,aQ] aL) (kS m (.exit 0) [aB,aC,aD,aA] aE)
def m71 (K:lB) (a0 a1:kM) (h0:kP):OH :=
 (kQ (kW 1 1 [(.str [])] [(0,(.str [32,123,10]))] h0) fun t0 h1=>o_ K 68 a0 t0 h1 fun t2 h3=>(kZ a0).bind fun t4=>(kO 2 t4).bind fun t5=>qX K 85 t5 h3 fun t6 h7=>(kZ a0).bind fun t8=>(kO 4 t8).bind fun t9=>(l_ false 1 h7 t9).bind fun aQ=>(kV .add aQ (iq 1)).bind fun aR=>(kZ a0).bind fun aS=>(kO 4 aS).bind fun aT=>(pU 1 h7 aT aR).bind fun aF=>(mN a1).bind fun aU=>(mI (Sl K (aa0 aF)) ([a0,a1,aU,(iq 0)],aF)).bind fun aG=>B9 aG.2 fun aA aC aD aE aB=>Ex.lV aG.1 none (fun aI=>Ex.inBlock 0 aI ((kZ aA).bind fun aV=>(kO 4 aV).bind fun aW=>(l_ false 1 aB aW).bind fun aX=>(kV .sub aX (iq 1)).bind fun aY=>(kZ aA).bind fun aZ=>(kO 4 aZ).bind fun a_=>(pU 1 aB a_ aY).bind fun aK=>qX K 125 aA aK fun bD aL=>(kZ aA).bind fun bA=>(kO 2 bA).bind fun bB=>qX K 86 bB aL fun bE aM=>kQ (kW 1 1 [(.str [])] [(0,(.str [125]))] aM) fun bC aN=>o_ K 68 aA bC aN fun bF aO=>some (.normal,([]:List kM),aO)) (fun aJ=>some (aJ,([]:List kM),aB)))).bind fun aH=>(fun aP=>Ex.nA aH.1 (lY (aa0 h0) (.tuple []) aP))  aH.2.2
theorem aBh K a0 a1 h0:o6 Tryz.prog mJ mI K 71 [a0,a1] h0=m71 (lT mJ K) a0 a1 h0:=by kernel_rfl
def Pu (K:lB) (a0 a1:kM) (h0:kP):OH :=
 (kQ (lK 11 h0 a1) fun t0 h1=>(kO 0 t0).bind fun t2=>(l_ false 1 h1 t2).bind fun t3=>((kV .eql t3 (iq 1)).bind fun t4=>(lF t4 ((kO 3 t0).bind fun t5=>(l_ false 1 h1 t5).bind fun t6=>kQ (kW 3 1 [(.str [])] [(0,(.str [108,101,116,32])),(1,t6),(2,(.str [32,61,32]))] h1) fun t7 h8=>o_ K 68 a0 t7 h8 fun t9 cF=>kS (aa0 h1) .normal [a0,t0] cF) (aq .eql t3 (iq 2) (kQ (kW 1 1 [(.str [])] [(0,(.str [118,97,114,32]))] h1) fun cY cG=>o_ K 68 a0 cY cG fun eQ b8=>(kO 4 t0).bind fun c7=>(kO 2 c7).bind fun c_=>(l_ false 1 b8 c_).bind fun dA=>o_ K 69 a0 dA b8 fun eR b9=>(kO 3 t0).bind fun dB=>(l_ false 1 b9 dB).bind fun dC=>kQ (kW 2 1 [(.str [])] [(0,dC),(1,(.str [58,32]))] b9) fun dD cH=>o_ K 68 a0 dD cH fun eS b_=>(kO 4 t0).bind fun dE=>(l_ true 3 b_ dE).bind fun dF=>o_ K 70 a0 dF b_ fun eT cI=>kQ (kW 1 1 [(.str [])] [(0,(.str [59]))] cI) fun dG cJ=>o_ K 68 a0 dG cJ fun eU cK=>kS (aa0 h1) .ret [a0,t0] cK) ((kV .eql t3 (iq 3)).bind fun dH=>(lF dH ((kO 3 t0).bind fun dI=>(l_ false 1 h1 dI).bind fun dJ=>kQ (kW 2 1 [(.str [])] [(0,dJ),(1,(.str [32,61,32]))] h1) fun dK cL=>o_ K 68 a0 dK cL fun eV cM=>kS (aa0 h1) .normal [a0,t0] cM) ((kV .eql t3 (iq 4)).bind fun dL=>(lF dL ((kO 3 t0).bind fun dM=>(l_ false 1 h1 dM).bind fun dN=>(kO 7 t0).bind fun dO=>(l_ false 1 h1 dO).bind fun dP=>(uT 5 dP none (some (iq 1))).bind fun dQ=>(lS [(iq 0),(iq 0),(iq 0),(.str []),(.slice [] .nil)] [(0,1),(1,1),(2,1),(3,1),(4,1)] [(0,(iq 3)),(3,dN),(4,dQ)]).bind fun dR=>o_ K 37 a0 dR h1 fun eX cN=>kQ (kW 1 1 [(.str [])] [(0,(.str [32,61,32]))] cN) fun dU cO=>o_ K 68 a0 dU cO fun eY cP=>kS (aa0 h1) .normal [a0,t0] cP) (aq .eql t3 (iq 5) (kQ (kW 1 1 [(.str [])] [(0,(.str [105,102,32]))] h1) fun dV cQ=>o_ K 68 a0 dV cQ fun eZ bK=>(kO 7 t0).bind fun dW=>(l_ false 1 bK dW).bind fun dX=>(kX 5 dX (iq 0)).bind fun dY=>(l_ true 5 bK dY).bind fun dZ=>o_ K 37 a0 dZ bK fun e_ cA=>(kO 8 t0).bind fun d_=>(l_ false 1 cA d_).bind fun eA=>o_ K 71 a0 eA cA fun fB aP=>(kO 10 t0).bind fun eB=>(l_ false 1 aP eB).bind fun eC=>(lF eC (kQ (kW 1 1 [(.str [])] [(0,(.str [32,101,108,115,101]))] aP) fun eD cR=>o_ K 68 a0 eD cR fun fC cB=>(kO 9 t0).bind fun eE=>(l_ false 1 cB eE).bind fun eF=>o_ K 71 a0 eF cB fun fD cS=>kS (aa0 aP) .normal [a0,t0] cS) (kS (aa0 aP) .normal [a0,t0] aP)).bind fun cE=>wN cE.2 fun aV aW cT=>Ex.uC cE.1 (kS (aa0 h1) .ret [aV,aW] cT)) (aq .eql t3 (iq 6) ((kO 3 t0).bind fun eG=>(l_ false 1 h1 eG).bind fun eH=>kQ (kW 3 1 [(.str [])] [(0,(.str [102,111,114,32])),(1,eH),(2,(.str [32,60,32]))] h1) fun eI cU=>o_ K 68 a0 eI cU fun fE bL=>(kO 7 t0).bind fun eJ=>(l_ false 1 bL eJ).bind fun eK=>(kX 5 eK (iq 0)).bind fun eL=>(l_ true 5 bL eL).bind fun eM=>o_ K 37 a0 eM bL fun fF cD=>(kO 2 t0).bind fun eN=>(l_ false 1 cD eN).bind fun eO=>qX K 89 eO cD fun eP bA=>kQ (kW 2 1 [(.str [])] [(0,(.str [32,109,97,120,32])),(1,eP)] bA) fun bM bB=>o_ K 68 a0 bM bB fun cV aL=>(kO 8 t0).bind fun bN=>(l_ false 1 aL bN).bind fun bO=>o_ K 71 a0 bO aL fun cW bC=>kS (aa0 h1) .ret [a0,t0] bC) ((kV .eql t3 (iq 8)).bind fun bP=>(lF bP (kQ (kW 1 1 [(.str [])] [(0,(.str [114,101,116,117,114,110,32]))] h1) fun bQ bD=>o_ K 68 a0 bQ bD fun cX bE=>kS (aa0 h1) .normal [a0,t0] bE) (kS (aa0 h1) .normal [a0,t0] h1)).bind fun aQ=>wN aQ.2 fun aJ aK bF=>Ex.uC aQ.1 (kS (aa0 h1) .normal [aJ,aK] bF))))).bind fun aR=>wN aR.2 fun aB aF aM=>Ex.lV aR.1 (kS (aa0 h1) .normal [aB,aF] aM) (fun aX=>kS (aa0 h1) aX [aB,aF] aM))).bind fun aS=>wN aS.2 fun aC aG aN=>Ex.lV aS.1 (kS (aa0 h1) .normal [aC,aG] aN) (fun aY=>kS (aa0 h1) aY [aC,aG] aN)))).bind fun aT=>wN aT.2 fun aD aH aO=>Ex.lV aT.1 (kS (aa0 h1) .normal [aD,aH] aO) (fun aZ=>kS (aa0 h1) aZ [aD,aH] aO)).bind fun aU=>wN aU.2 fun aE aI aA=>Ex.inBlock 0 aU.1 ((kO 7 aI).bind fun bR=>(l_ false 1 aA bR).bind fun bS=>(kO 7 aI).bind fun bT=>(l_ false 1 aA bT).bind fun bU=>(mN bU).bind fun bV=>(kV .sub bV (iq 1)).bind fun bW=>(kX 5 bS bW).bind fun bX=>(l_ true 5 aA bX).bind fun bY=>o_ K 37 aE bY aA fun cZ bG=>kQ (kW 1 1 [(.str [])] [(0,(.str [59]))] bG) fun bZ bH=>o_ K 68 aE bZ bH fun c6 bI=>some (.normal,([]:List kM),bI)) (fun a_=>some (a_,([]:List kM),aA))).bind fun Xr=>(fun bJ=>Ex.nA Xr.1 (lY (aa0 h0) (.tuple []) bJ))  Xr.2.2
theorem C4 K a0 a1 h0:o6 Tryz.prog mJ mI K 126 [a0,a1] h0=Pu (lT mJ K) a0 a1 h0:=by kernel_rfl
def GO (K:lB) (m:Nat) (s:St):Option R :=
 EB s fun aD aJ aB aC aA aT=>aq .lss aA aC ((kX 6 aB aA).bind fun bG=>(l_ true 6 aT bG).bind fun bH=>kQ (lK 6 aT (.agg [(iq 0),(.str []),(iq 0),(iq 0),(iq 0),(.bool false)])) fun aU a_=>(pU 6 a_ aU bH).bind fun aS=>(kV .gtr aA (iq 0)).bind fun bI=>(lF bI (kQ (kW 1 1 [(.str [])] [(0,(.str [44,32]))] aS) fun bJ bA=>o_ K 68 aD bJ bA fun bW bB=>kS (aa0 aS) .normal [aD,aJ,aU,aB,aC,aA] bB) (kS (aa0 aS) .normal [aD,aJ,aU,aB,aC,aA] aS)).bind fun aY=>BE aY.2 fun aF aM aK aG aH aI aQ=>Ex.uC aY.1 ((kO 5 aK).bind fun bK=>(l_ false 1 aQ bK).bind fun bL=>(lF bL (kQ (kW 1 1 [(.str [])] [(0,(.str [111,117,116,32]))] aQ) fun bM bC=>o_ K 68 aF bM bC fun bX bD=>kS (aa0 aQ) .normal [aF,aM,aK,aG,aH,aI] bD) (kS (aa0 aQ) .normal [aF,aM,aK,aG,aH,aI] aQ)).bind fun aZ=>BE aZ.2 fun aE aR aL aN aO aP aV=>Ex.uC aZ.1 ((kO 2 aL).bind fun bN=>(kO 2 bN).bind fun bO=>(l_ false 1 aV bO).bind fun bP=>o_ K 69 aE bP aV fun bY aW=>(kO 1 aL).bind fun bQ=>(l_ false 1 aW bQ).bind fun bR=>kQ (kW 2 1 [(.str [])] [(0,bR),(1,(.str [58,32]))] aW) fun bS bE=>o_ K 68 aE bS bE fun bZ aX=>(kO 2 aL).bind fun bT=>(l_ true 3 aX bT).bind fun bU=>o_ K 70 aE bU aX fun b8 bF=>(kV .add aP (iq 1)).bind fun bV=>kS m .normal [aE,aR,aN,aO,bV] bF))) (kS m (.exit 0) [aD,aJ,aB,aC,aA] aT)
def m32 (K:lB) (a0 a1:kM) (h0:kP):OH :=
 (kQ (lK 8 h0 a1) fun t0 h1=>(kO 1 t0).bind fun t2=>(l_ false 1 h1 t2).bind fun t3=>kQ (kW 3 1 [(.str [])] [(0,(.str [102,110,32])),(1,t3),(2,(.str [40]))] h1) fun t4 h5=>o_ K 68 a0 t4 h5 fun t6 h7=>(kO 2 t0).bind fun t8=>(l_ false 1 h7 t8).bind fun t9=>(mN t9).bind fun aZ=>(mI (GO K (aa0 h7)) ([a0,t0,t9,aZ,(iq 0)],h7)).bind fun aS=>EB aS.2 fun aA aB aL aM aN aO=>Ex.lV aS.1 none (fun aU=>Ex.inBlock 0 aU (kQ (kW 1 1 [(.str [])] [(0,(.str [41]))] aO) fun bB aW=>o_ K 68 aA bB aW fun bM aD=>(kO 3 aB).bind fun bC=>(l_ false 1 aD bC).bind fun bD=>(lF bD (kQ (kW 1 1 [(.str [])] [(0,(.str [58,32]))] aD) fun bE aX=>o_ K 68 aA bE aX fun bN aP=>(kO 4 aB).bind fun bF=>(kO 2 bF).bind fun bG=>(l_ false 1 aP bG).bind fun bH=>o_ K 69 aA bH aP fun bO aQ=>(kO 4 aB).bind fun bI=>(l_ true 3 aQ bI).bind fun bJ=>o_ K 70 aA bJ aQ fun bP aY=>kS (aa0 aD) .normal [aA,aB] aY) (kS (aa0 aD) .normal [aA,aB] aD)).bind fun aT=>wN aT.2 fun aC aF aR=>Ex.uC aT.1 ((kO 7 aF).bind fun bK=>(l_ false 1 aR bK).bind fun bL=>o_ K 71 aC bL aR fun a_ aG=>kQ (kW 1 1 [(.str [])] [(0,(.str [10]))] aG) fun aK aH=>o_ K 68 aC aK aH fun bA aI=>some (.normal,([]:List kM),aI))) (fun aV=>some (aV,([]:List kM),aO)))).bind fun aE=>(fun aJ=>Ex.nA aE.1 (lY (aa0 h0) (.tuple []) aJ))  aE.2.2
theorem aAS K a0 a1 h0:o6 Tryz.prog mJ mI K 32 [a0,a1] h0=m32 (lT mJ K) a0 a1 h0:=by kernel_rfl
def m33 (K:lB) (a0:kM) (h0:kP):OH :=
 ((kZ a0).bind fun t0=>(kO 2 t0).bind fun t1=>(kO 1 t1).bind fun t2=>(l_ false 1 h0 t2).bind fun t3=>lF t3 (some (.ret,[(.str []),(iq 11)],h0)) ((kZ a0).bind fun t4=>(kO 0 t4).bind fun t5=>qX K 72 t5 h0 fun t6 h7=>some (.ret,[t6,(iq 0)],h7))).bind fun r8=>wN r8.2 fun aB aA aC=>Ex.nA r8.1 (lY (aa0 h0) (.tuple [aB,aA]) aC)
theorem aiI K a0 h0:o6 Tryz.prog mJ mI K 33 [a0] h0=m33 (lT mJ K) a0 h0:=by kernel_rfl
def GK (K:lB) (m:Nat) (s:St):Option R :=
 BE s fun aD aE aF aB aC aA aG=>aq .lss aA aC ((kX 8 aB aA).bind fun aL=>(l_ true 8 aG aL).bind fun aM=>kQ (lK 8 aG (.agg [(iq 0),(.str []),(.slice [] .nil),(.bool false),(iq 0),(iq 0),(iq 0),(.slice [] .nil)])) fun aJ aK=>(pU 8 aK aJ aM).bind fun aH=>(l_ true 8 aH aJ).bind fun aN=>qX K 31 aN aH fun aO aI=>(vT .not aO).bind fun aP=>lF aP (kS m .ret [aD,(.str []),(iq 2),aB,aC,aA] aI) ((kV .add aA (iq 1)).bind fun aQ=>kS m .normal [aD,aE,aF,aB,aC,aQ] aI)) (kS m (.exit 0) [aD,aE,aF,aB,aC,aA] aG)
def Sc (K:lB) (m:Nat) (s:St):Option R :=
 BE s fun aE aF aD aB aC aA aG=>aq .lss aA aC ((kX 8 aB aA).bind fun aL=>(l_ true 8 aG aL).bind fun aM=>kQ (lK 8 aG (.agg [(iq 0),(.str []),(.slice [] .nil),(.bool false),(iq 0),(iq 0),(iq 0),(.slice [] .nil)])) fun aI aJ=>(pU 8 aJ aI aM).bind fun aH=>(l_ true 8 aH aI).bind fun aN=>o_ K 32 aD aN aH fun aP aK=>(kV .add aA (iq 1)).bind fun aO=>kS m .normal [aE,aF,aD,aB,aC,aO] aK) (kS m (.exit 2) [aE,aF,aD,aB,aC,aA] aG)
def m14 (K:lB) (a0:kM) (h0:kP):OH :=
 (kQ (lK 1 h0 a0) fun t0 h1=>(kO 0 t0).bind fun t2=>(l_ false 1 h1 t2).bind fun t3=>(mN t3).bind fun t4=>(mI (GK K (aa0 h1)) ([t0,(.str []),(iq 0),t3,t4,(iq 0)],h1)).bind fun aR=>BE aR.2 fun aC aA aB aJ aK aL aP=>Ex.lV aR.1 none (fun aW=>Ex.inBlock 0 aW ((lS [.nilptr,(.slice [] .nil),(iq 0),(.bool false),(iq 0)] [(0,2),(2,2),(4,1)] []).bind fun bB=>kQ (Kk 86 5 aP bB) fun bC aI=>(kO 0 aC).bind fun bD=>(l_ false 1 aI bD).bind fun aU=>(mN aU).bind fun bE=>(mI (Sc K (aa0 aI)) ([aA,aB,bC,aU,bE,(iq 0)],aI)).bind fun aS=>BE aS.2 fun aD aF aH aM aN aO aQ=>Ex.lV aS.1 none (fun aY=>Ex.inBlock 2 aY (qX K 33 aH aQ fun aV a_=>(lH 0 aV).bind fun bF=>(lH 1 aV).bind fun bG=>some (.ret,[bF,bG],a_)) (fun aZ=>some (aZ,[aD,aF],aQ)))) (fun aX=>some (aX,[aA,aB],aP)))).bind fun aT=>wN aT.2 fun aE aG bA=>Ex.nA aT.1 (lY (aa0 h0) (.tuple [aE,aG]) bA)
theorem aAu K a0 h0:o6 Tryz.prog mJ mI K 14 [a0] h0=m14 (lT mJ K) a0 h0:=by kernel_rfl
def m82 (K:lB) (a0:kM) (h0:kP):OH :=
 (aq .eql a0 (iq 17) (some (.ret,[(iq 1),(.str [61,61])],h0)) (aq .eql a0 (iq 18) (some (.ret,[(iq 1),(.str [33,61])],h0)) (aq .eql a0 (iq 19) (some (.ret,[(iq 1),(.str [60])],h0)) (aq .eql a0 (iq 20) (some (.ret,[(iq 1),(.str [60,61])],h0)) (aq .eql a0 (iq 21) (some (.ret,[(iq 1),(.str [62])],h0)) (aq .eql a0 (iq 22) (some (.ret,[(iq 1),(.str [62,61])],h0)) (aq .eql a0 (iq 12) (some (.ret,[(iq 2),(.str [124])],h0)) (aq .eql a0 (iq 13) (some (.ret,[(iq 3),(.str [94])],h0)) (aq .eql a0 (iq 11) (some (.ret,[(iq 4),(.str [38])],h0)) (aq .eql a0 (iq 14) (some (.ret,[(iq 5),(.str [60,60])],h0)) (aq .eql a0 (iq 15) (some (.ret,[(iq 5),(.str [62,62])],h0)) (aq .eql a0 (iq 8) (some (.ret,[(iq 6),(.str [43])],h0)) (aq .eql a0 (iq 9) (some (.ret,[(iq 6),(.str [45])],h0)) (aq .eql a0 (iq 10) (some (.ret,[(iq 7),(.str [42])],h0)) (some (.ret,[(iq 0),(.str [])],h0)))))))))))))))).bind fun aC=>wN aC.2 fun aA aB aD=>Ex.nA aC.1 (lY (aa0 h0) (.tuple [aA,aB]) aD)
theorem aBr K a0 h0:o6 Tryz.prog mJ mI K 82 [a0] h0=m82 (lT mJ K) a0 h0:=by kernel_rfl
def m65 (K:lB) (a0:kM) (h0:kP):OH :=
 (qX K 49 a0 h0 fun t0 h1=>(lH 0 t0).bind fun t2=>(lH 1 t0).bind fun t3=>kQ (lK 2 h1 (.agg [(iq 0),(iq 0)])) fun t4 h5=>(kR 2 h5 t4 t3).bind fun h6=>fq 0 t4 h6 fun t8=>(kV .eql t8 (iq 0)).bind fun t9=>lG true t9 (some t2) h6 fun aT aG=>lG true t9 (mN aT) aG fun aU aH=>lG true t9 (kV .eql aU (iq 2)) aH fun aV aI=>(lN t9 aV (.bool false)).bind fun aB=>lG true aB (some t2) aI fun aW aJ=>lG true aB (kX 4 aW (iq 0)) aJ fun aX aK=>lG true aB (kO 0 aX) aK fun aY aD=>lG true aB (kT false 1 aD aY) aD fun aZ aL=>lG true aB (kV .eql aZ (iq 1)) aL fun a_ aM=>(lN aB a_ (.bool false)).bind fun aA=>lG true aA (some t2) aM fun bA aN=>lG true aA (kX 4 bA (iq 0)) aN fun bB aO=>lG true aA (kO 3 bB) aO fun bC aE=>lG true aA (kT false 1 aE bC) aE fun bD aP=>lG true aA (some a0) aP fun bE aQ=>lG true aA (kV .eql bD bE) aQ fun bF aR=>(lN aA bF (.bool false)).bind fun bG=>some (.ret,[bG],aR)).bind fun aF=>sM aF.2 fun aC aS=>Ex.nA aF.1 (lY (aa0 h0) aC aS)
theorem aBa K a0 h0:o6 Tryz.prog mJ mI K 65 [a0] h0=m65 (lT mJ K) a0 h0:=by kernel_rfl
def m79 (K:lB) (a0 a1:kM) (h0:kP):OH :=
 (lF a1 (qX K 65 a0 h0 fun t0 h1=>some (.ret,[t0],h1)) ((kV .eql a0 (.str [])).bind fun t2=>some (.ret,[t2],h0))).bind fun r3=>sM r3.2 fun aA h5=>Ex.nA r3.1 (lY (aa0 h0) aA h5)
theorem aBo K a0 a1 h0:o6 Tryz.prog mJ mI K 79 [a0,a1] h0=m79 (lT mJ K) a0 a1 h0:=by kernel_rfl
def m80 (K:lB) (a0 a1:kM) (h0:kP):OH :=
 ((kV .eql a0 (iq 0)).bind fun t0=>lG false t0 (some a1) h0 fun t1 h2=>lG false t0 (some t1) h2 fun t3 h4=>lG true t3 (some a0) h4 fun t5 h6=>lG true t3 (kV .gtr t5 (iq 0)) h6 fun t8 h9=>lG false t0 (lN t3 t8 (.bool false)) h9 fun aJ aD=>lG false t0 (some aJ) aD fun aB aE=>lG true aB (some a0) aE fun aK aF=>lG true aB (kV .leq aK (iq 4294967295)) aF fun aL aG=>lG false t0 (lN aB aL (.bool false)) aG fun aM aH=>(lN t0 (.bool true) aM).bind fun aN=>some (.ret,[aN],aH)).bind fun aC=>sM aC.2 fun aA aI=>Ex.nA aC.1 (lY (aa0 h0) aA aI)
theorem aBp K a0 a1 h0:o6 Tryz.prog mJ mI K 80 [a0,a1] h0=m80 (lT mJ K) a0 a1 h0:=by kernel_rfl
def m78 (K:lB) (a0:kM) (h0:kP):OH :=
 ((kV .eql a0 (iq 1)).bind fun t0=>lG false t0 (some a0) h0 fun t1 h2=>lG false t0 (kV .eql t1 (iq 2)) h2 fun t4 h5=>(lN t0 (.bool true) t4).bind fun t6=>lF t6 (some (.ret,[(iq 0),(.bool true)],h5)) (aq .eql a0 (iq 4) (some (.ret,[(.int .i64 (-1)),(.bool true)],h5)) ((kV .eql a0 (iq 3)).bind fun t8=>lG false t8 (some a0) h5 fun t9 aM=>lG false t8 (kV .geq t9 (iq 5)) aM fun bG aN=>lG false t8 (some bG) aN fun aF aO=>lG true aF (some a0) aO fun bH aP=>lG true aF (kV .leq bH (iq 7)) aP fun bI aQ=>lG false t8 (lN aF bI (.bool false)) aQ fun bJ aR=>(lN t8 (.bool true) bJ).bind fun aA=>lG false aA (some a0) aR fun bK aS=>lG false aA (kV .geq bK (iq 14)) aS fun bL aT=>lG false aA (some bL) aT fun aG aU=>lG true aG (some a0) aU fun bM aV=>lG true aG (kV .leq bM (iq 16)) aV fun bN aW=>lG false aA (lN aG bN (.bool false)) aW fun bO aX=>(lN aA (.bool true) bO).bind fun aH=>lG false aH (some a0) aX fun bP aY=>lG false aH (kV .eql bP (iq 26)) aY fun bQ aK=>(lN aH (.bool true) bQ).bind fun bR=>lF bR (some (.ret,[(iq 1),(.bool true)],aK)) ((kV .geq a0 (iq 8)).bind fun aI=>lG true aI (some a0) aK fun bS aZ=>lG true aI (kV .leq bS (iq 13)) aZ fun bT a_=>(lN aI bT (.bool false)).bind fun aB=>lG false aB (some a0) a_ fun bU bA=>lG false aB (kV .geq bU (iq 17)) bA fun bV bB=>lG false aB (some bV) bB fun aJ bC=>lG true aJ (some a0) bC fun bW bD=>lG true aJ (kV .leq bW (iq 24)) bD fun bX bE=>lG false aB (lN aJ bX (.bool false)) bE fun bY aE=>(lN aB (.bool true) bY).bind fun bZ=>lF bZ (some (.ret,[(iq 2),(.bool true)],aE)) (aq .eql a0 (iq 25) (some (.ret,[(iq 3),(.bool true)],aE)) (some (.ret,[(iq 0),(.bool false)],aE))))))).bind fun aL=>wN aL.2 fun aC aD bF=>Ex.nA aL.1 (lY (aa0 h0) (.tuple [aC,aD]) bF)
theorem aBn K a0 h0:o6 Tryz.prog mJ mI K 78 [a0] h0=m78 (lT mJ K) a0 h0:=by kernel_rfl
def CL (K:lB) (a0:kM) (h0:kP):OH :=
 (kQ (lK 5 h0 a0) fun t0 h1=>fq 0 t0 h1 fun t3=>qX K 78 t3 h1 fun t4 h5=>(lH 0 t4).bind fun t6=>(lH 1 t4).bind fun t7=>(vT .not t7).bind fun t8=>lG false t8 (some t6) h5 fun t9 a_=>lG false t8 (kV .geq t9 (iq 0)) a_ fun bR bA=>lG false t8 (some bR) bA fun aC bB=>lG true aC (kO 4 t0) bB fun bS aR=>lG true aC (kT false 1 aR bS) aR fun bT bC=>lG true aC (mN bT) bC fun bU bD=>lG true aC (some t6) bD fun bV bE=>lG true aC (kV .neq bU bV) bE fun bW bF=>lG false t8 (lN aC bW (.bool false)) bF fun bX aM=>(lN t8 (.bool true) bX).bind fun bY=>lF bY (some (.ret,[(.bool false)],aM)) (fq 0 t0 aM fun bZ=>(kV .eql bZ (iq 2)).bind fun aG=>lG false aG (kO 0 t0) aM fun b8 aS=>lG false aG (kT false 1 aS b8) aS fun b9 bG=>lG false aG (kV .eql b9 (iq 3)) bG fun b_ bH=>(lN aG (.bool true) b_).bind fun aH=>lG false aH (kO 0 t0) bH fun cA aT=>lG false aH (kT false 1 aT cA) aT fun cB bI=>lG false aH (kV .eql cB (iq 4)) bI fun cD aU=>(lN aH (.bool true) cD).bind fun cE=>fq 0 t0 aU fun cF=>(kV .eql cF (iq 1)).bind fun aD=>lG false aD (kO 0 t0) aU fun cG aV=>lG false aD (kT false 1 aV cG) aV fun cH bJ=>lG false aD (kV .geq cH (iq 14)) bJ fun cI bK=>lG false aD (some cI) bK fun aI bL=>lG true aI (kO 0 t0) bL fun cJ aW=>lG true aI (kT false 1 aW cJ) aW fun cK bM=>lG true aI (kV .leq cK (iq 16)) bM fun cL bN=>lG false aD (lN aI cL (.bool false)) bN fun cM aX=>(lN aD (.bool true) cM).bind fun cN=>fq 3 t0 aX fun cO=>o_ K 79 cO cE aX fun cP bO=>(vT .not cP).bind fun aE=>lG false aE (kO 2 t0) bO fun cQ aY=>lG false aE (kT false 1 aY cQ) aY fun cR bP=>lG false aE (some cN) bP fun cS aZ=>gq false aE (kU (rR K 80 cR cS aZ) (fun cT bQ=>nM cT bQ) yS) aZ fun cU aJ=>lG false aE (vT .not cU) aJ fun aN aA=>(lN aE (.bool true) aN).bind fun aO=>lF aO (some (.ret,[(.bool false)],aA)) (fq 4 t0 aA fun aP=>qX K 81 aP aA fun aQ aK=>some (.ret,[aQ],aK)))).bind fun aF=>sM aF.2 fun aB aL=>Ex.nA aF.1 (lY (aa0 h0) aB aL)
theorem aAV K a0 h0:o6 Tryz.prog mJ mI K 36 [a0] h0=CL (lT mJ K) a0 h0:=by kernel_rfl
def GW (K:lB) (m:Nat) (s:St):Option R :=
 B9 s fun aD aB aC aA h5=>aq .lss aA aC ((kX 5 aB aA).bind fun t7=>(kT true 5 h5 t7).bind fun t8=>kQ (lK 5 h5 (.agg [(iq 0),(iq 0),(iq 0),(.str []),(.slice [] .nil)])) fun t9 aG=>(kR 5 aG t9 t8).bind fun aE=>(kT true 5 aE t9).bind fun aH=>qX K 36 aH aE fun aI aF=>(vT .not aI).bind fun aJ=>lF aJ (kS m .ret [(.bool false),aB,aC,aA] aF) ((kV .add aA (iq 1)).bind fun aK=>kS m .normal [aD,aB,aC,aK] aF)) (kS m (.exit 0) [aD,aB,aC,aA] h5)
def m81 (K:lB) (a0:kM) (h0:kP):OH :=
 ((mN a0).bind fun t0=>(mI (GW K (aa0 h0)) ([(.bool false),a0,t0,(iq 0)],h0)).bind fun aD=>B9 aD.2 fun aA aF aG aH aC=>Ex.lV aD.1 none (fun aI=>Ex.inBlock 0 aI (some (.ret,[(.bool true)],aC)) (fun aJ=>some (aJ,[aA],aC)))).bind fun aE=>sM aE.2 fun aB aK=>Ex.nA aE.1 (lY (aa0 h0) aB aK)
theorem aBq K a0 h0:o6 Tryz.prog mJ mI K 81 [a0] h0=m81 (lT mJ K) a0 h0:=by kernel_rfl
def m67 (K:lB) (a0:kM) (h0:kP):OH :=
 (kQ (lK 3 h0 a0) fun t0 h1=>fq 2 t0 h1 fun t3=>(kV .neq t3 (iq 0)).bind fun t4=>lG true t4 (kO 2 t0) h1 fun t6 h7=>lG true t4 (kT false 1 h7 t6) h7 fun t9 aH=>lG true t4 (kV .neq t9 (iq 1)) aH fun aM aI=>(lN t4 aM (.bool false)).bind fun aB=>lG false aB (kO 1 t0) aI fun aN aE=>lG false aB (kT false 1 aE aN) aE fun aO aF=>gq false aB (kU (rR K 80 aO (.bool true) aF) (fun aP aJ=>nM aP aJ) yS) aF fun aQ aK=>lG false aB (vT .not aQ) aK fun aR aA=>(lN aB (.bool true) aR).bind fun aS=>lF aS (some (.ret,[(.bool false)],aA)) (fq 0 t0 aA fun aD=>aq .eql aD (iq 1) (fq 1 t0 aA fun aT=>(kV .eql aT (iq 0)).bind fun aU=>some (.ret,[aU],aA)) (aq .eql aD (iq 0) (some (.ret,[(.bool true)],aA)) (aq .eql aD (iq 2) (fq 1 t0 aA fun aV=>(kV .gtr aV (iq 0)).bind fun aW=>some (.ret,[aW],aA)) (some (.ret,[(.bool false)],aA)))))).bind fun aG=>sM aG.2 fun aC aL=>Ex.nA aG.1 (lY (aa0 h0) aC aL)
theorem aBc K a0 h0:o6 Tryz.prog mJ mI K 67 [a0] h0=m67 (lT mJ K) a0 h0:=by kernel_rfl
def Pw (K:lB) (a0:kM) (h0:kP):OH :=
 (kQ (lK 6 h0 (.agg [(.bool false),(.bool false),(iq 0),(.bool false),(.bool false),(.bool false)])) fun t0 h1=>(kV .eql a0 (iq 1)).bind fun t2=>(lF t2 (kS (aa0 h1) .normal [t0,(.bool false),a0,t2] h1) ((kV .eql a0 (iq 3)).bind fun t3=>kS (aa0 h1) .normal [t0,(.bool false),a0,t3] h1)).bind fun r4=>B9 r4.2 fun aA aG aC aH h9=>Ex.uC r4.1 (lF aH ((lS [(.bool false),(.bool false),(iq 0),(.bool false),(.bool false),(.bool false)] [(0,1),(1,1),(2,1),(3,1),(4,1),(5,1)] [(0,(.bool true)),(2,(iq 1))]).bind fun aV=>(kR 6 h9 aA aV).bind fun aO=>some (.ret,[aA,(.bool true)],aO)) (aq .eql aC (iq 2) ((lS [(.bool false),(.bool false),(iq 0),(.bool false),(.bool false),(.bool false)] [(0,1),(1,1),(2,1),(3,1),(4,1),(5,1)] [(0,(.bool true)),(1,(.bool true))]).bind fun aW=>(kR 6 h9 aA aW).bind fun aP=>some (.ret,[aA,(.bool true)],aP)) (aq .eql aC (iq 4) ((lS [(.bool false),(.bool false),(iq 0),(.bool false),(.bool false),(.bool false)] [(0,1),(1,1),(2,1),(3,1),(4,1),(5,1)] [(0,(.bool true)),(2,(iq 2))]).bind fun aX=>(kR 6 h9 aA aX).bind fun aQ=>some (.ret,[aA,(.bool true)],aQ)) (aq .eql aC (iq 5) ((lS [(.bool false),(.bool false),(iq 0),(.bool false),(.bool false),(.bool false)] [(0,1),(1,1),(2,1),(3,1),(4,1),(5,1)] [(2,(iq 1)),(4,(.bool true)),(5,(.bool true))]).bind fun aY=>(kR 6 h9 aA aY).bind fun aR=>some (.ret,[aA,(.bool true)],aR)) (aq .eql aC (iq 6) ((lS [(.bool false),(.bool false),(iq 0),(.bool false),(.bool false),(.bool false)] [(0,1),(1,1),(2,1),(3,1),(4,1),(5,1)] [(0,(.bool true)),(2,(iq 1)),(3,(.bool true)),(4,(.bool true))]).bind fun aZ=>(kR 6 h9 aA aZ).bind fun aS=>some (.ret,[aA,(.bool true)],aS)) ((kV .eql aC (iq 7)).bind fun aM=>(lF aM (kS (aa0 h9) .normal [aA,aG,aM] h9) ((kV .eql aC (iq 8)).bind fun a_=>kS (aa0 h9) .normal [aA,aG,a_] h9)).bind fun aK=>AE aK.2 fun aB aN aD aI=>Ex.uC aK.1 (lF aD ((lS [(.bool false),(.bool false),(iq 0),(.bool false),(.bool false),(.bool false)] [(0,1),(1,1),(2,1),(3,1),(4,1),(5,1)] [(2,(iq 1))]).bind fun bA=>(kR 6 aI aB bA).bind fun aT=>some (.ret,[aB,(.bool true)],aT)) ((lS [(.bool false),(.bool false),(iq 0),(.bool false),(.bool false),(.bool false)] [(0,1),(1,1),(2,1),(3,1),(4,1),(5,1)] []).bind fun bB=>(kR 6 aI aB bB).bind fun aU=>some (.ret,[aB,(.bool false)],aU)))))))))).bind fun aL=>wN aL.2 fun aE aF aJ=>Ex.nA aL.1 ((kT true 6 aJ aE).bind fun bC=>lY (aa0 h0) (.tuple [bC,aF]) aJ)
theorem B0 K a0 h0:o6 Tryz.prog mJ mI K 160 [a0] h0=Pw (lT mJ K) a0 h0:=by kernel_rfl
def pS (K:lB) (a0:kM) (h0:kP):OH :=
 (kQ (lK 11 h0 a0) fun t0 h1=>fq 0 t0 h1 fun t3=>qX K 160 t3 h1 fun t4 h5=>(lH 0 t4).bind fun t6=>(lH 1 t4).bind fun t7=>kQ (lK 6 h5 (.agg [(.bool false),(.bool false),(iq 0),(.bool false),(.bool false),(.bool false)])) fun t8 h9=>(kR 6 h9 t8 t6).bind fun eN=>(vT .not t7).bind fun aM=>lG false aM (kO 3 t0) eN fun fH eB=>lG false aM (kT false 1 eB fH) eB fun fI eO=>lG false aM (kO 0 t8) eO fun fJ eC=>lG false aM (kT false 1 eC fJ) eC fun fK eD=>gq false aM (kU (rR K 79 fI fK eD) (fun fL eP=>nM fL eP) yS) eD fun fM eQ=>lG false aM (vT .not fM) eQ fun fN eR=>(lN aM (.bool true) fN).bind fun aN=>lG false aN (kO 2 t0) eR fun fO eE=>lG false aN (kT false 1 eE fO) eE fun fQ eS=>lG false aN (kO 3 t8) eS fun fR eF=>lG false aN (kT false 1 eF fR) eF fun fS eG=>gq false aN (kU (rR K 80 fQ fS eG) (fun fU eT=>nM fU eT) yS) eG fun fV eU=>lG false aN (vT .not fV) eU fun fX eV=>(lN aN (.bool true) fX).bind fun aO=>lG false aO (kO 7 t0) eV fun fY eH=>lG false aO (kT false 1 eH fY) eH fun fZ eX=>lG false aO (mN fZ) eX fun f_ eY=>lG false aO (kO 2 t8) eY fun gA eI=>lG false aO (kT false 1 eI gA) eI fun gB eZ=>lG false aO (kV .neq f_ gB) eZ fun gC e_=>(lN aO (.bool true) gC).bind fun bD=>lG false bD (kO 7 t0) e_ fun gD eJ=>lG false bD (kT false 1 eJ gD) eJ fun gE eK=>gq false bD (kU (yK K 81 gE eK) (fun gF fB=>nM gF fB) yS) eK fun gG fC=>lG false bD (vT .not gG) fC fun gH cI=>(lN bD (.bool true) gH).bind fun gI=>lF gI (some (.ret,[(.bool false)],cI)) (fq 1 t8 cI fun bE=>lG true bE (kO 4 t0) cI fun gJ eL=>lG true bE (kT true 3 eL gJ) eL fun gK eM=>gq true bE (kU (yK K 67 gK eM) (fun gL fD=>nM gL fD) yS) eM fun gM fE=>lG true bE (vT .not gM) fE fun gN fF=>(lN bE gN (.bool false)).bind fun aB=>lG false aB (kO 1 t8) fF fun cJ aQ=>lG false aB (kT false 1 aQ cJ) aQ fun cK bF=>lG false aB (vT .not cK) bF fun cL bG=>lG false aB (some cL) bG fun aE bH=>lG true aE (kO 4 t0) bH fun cM aR=>lG true aE (kT true 3 aR cM) aR fun cN bI=>lG true aE (lS [(iq 0),(iq 0),(iq 0)] [(0,1),(1,1),(2,1)] []) bI fun cO aS=>gq true aE ((rX [.i,.i,.i] cN cO).bind fun cP=>nM (.bool (!cP)) aS) aS fun cQ bJ=>lG false aB (lN aE cQ (.bool false)) bJ fun cR bK=>(lN aB (.bool true) cR).bind fun aC=>lG false aC (kO 0 t0) bK fun cS aT=>lG false aC (kT false 1 aT cS) aT fun cT bL=>lG false aC (kV .eql cT (iq 7)) bL fun cU bM=>lG false aC (some cU) bM fun aA bN=>lG true aA (kO 7 t0) bN fun cV aU=>lG true aA (kT false 1 aU cV) aU fun cW bO=>lG true aA (kX 5 cW (iq 0)) bO fun cX bP=>lG true aA (kO 0 cX) bP fun cY aV=>lG true aA (kT false 1 aV cY) aV fun cZ bQ=>lG true aA (kV .neq cZ (iq 4)) bQ fun c6 bR=>lG false aC (lN aA c6 (.bool false)) bR fun c7 aK=>(lN aC (.bool true) c7).bind fun c_=>lF c_ (some (.ret,[(.bool false)],aK)) (fq 4 t8 aK fun dA=>(vT .not dA).bind fun aF=>lG true aF (kO 8 t0) aK fun dB aW=>lG true aF (kT false 1 aW dB) aW fun dC bS=>lG true aF (mN dC) bS fun dD bT=>lG true aF (kV .gtr dD (iq 0)) bT fun dE bU=>(lN aF dE (.bool false)).bind fun aG=>lG false aG (kO 10 t0) bU fun dF aX=>lG false aG (kT false 1 aX dF) aX fun dG bV=>lG false aG (some dG) bV fun aI bW=>lG true aI (kO 5 t8) bW fun dH aY=>lG true aI (kT false 1 aY dH) aY fun dI bX=>lG true aI (vT .not dI) bX fun dJ bY=>lG false aG (lN aI dJ (.bool false)) bY fun dK bZ=>(lN aG (.bool true) dK).bind fun aD=>lG false aD (kO 10 t0) bZ fun dL aZ=>lG false aD (kT false 1 aZ dL) aZ fun dM b8=>lG false aD (vT .not dM) b8 fun dN b9=>lG false aD (some dN) b9 fun aH b_=>lG true aH (kO 9 t0) b_ fun dO a_=>lG true aH (kT false 1 a_ dO) a_ fun dP cA=>lG true aH (mN dP) cA fun dQ cB=>lG true aH (kV .gtr dQ (iq 0)) cB fun dR cD=>lG false aD (lN aH dR (.bool false)) cD fun dU aL=>(lN aD (.bool true) dU).bind fun dV=>lF dV (some (.ret,[(.bool false)],aL)) (fq 8 t0 aL fun dW=>qX K 66 dW aL fun aJ cE=>lG true aJ (kO 9 t0) cE fun dX bA=>lG true aJ (kT false 1 bA dX) bA fun dY bB=>gq true aJ (kU (yK K 66 dY bB) (fun dZ cF=>nM dZ cF) yS) bB fun d_ cG=>(lN aJ d_ (.bool false)).bind fun eA=>some (.ret,[eA],cG))))).bind fun bC=>sM bC.2 fun aP cH=>Ex.nA bC.1 (lY (aa0 h0) aP cH)
theorem BY K a0 h0:o6 Tryz.prog mJ mI K 123 [a0] h0=pS (lT mJ K) a0 h0:=by kernel_rfl
def GU (K:lB) (m:Nat) (s:St):Option R :=
 B9 s fun aD aB aC aA h5=>aq .lss aA aC ((kX 11 aB aA).bind fun t7=>(kT true 11 h5 t7).bind fun t8=>kQ (lK 11 h5 (.agg [(iq 0),(iq 0),(iq 0),(.str []),(iq 0),(iq 0),(iq 0),(.slice [] .nil),(.slice [] .nil),(.slice [] .nil),(.bool false)])) fun t9 aG=>(kR 11 aG t9 t8).bind fun aE=>(kT true 11 aE t9).bind fun aH=>qX K 123 aH aE fun aI aF=>(vT .not aI).bind fun aJ=>lF aJ (kS m .ret [(.bool false),aB,aC,aA] aF) ((kV .add aA (iq 1)).bind fun aK=>kS m .normal [aD,aB,aC,aK] aF)) (kS m (.exit 0) [aD,aB,aC,aA] h5)
def m66 (K:lB) (a0:kM) (h0:kP):OH :=
 ((mN a0).bind fun t0=>(mI (GU K (aa0 h0)) ([(.bool false),a0,t0,(iq 0)],h0)).bind fun aD=>B9 aD.2 fun aA aF aG aH aC=>Ex.lV aD.1 none (fun aI=>Ex.inBlock 0 aI (some (.ret,[(.bool true)],aC)) (fun aJ=>some (aJ,[aA],aC)))).bind fun aE=>sM aE.2 fun aB aK=>Ex.nA aE.1 (lY (aa0 h0) aB aK)
theorem aBb K a0 h0:o6 Tryz.prog mJ mI K 66 [a0] h0=m66 (lT mJ K) a0 h0:=by kernel_rfl
def E6 (K:lB) (m:Nat) (s:St):Option R :=
 EB s fun aD aE aB aC aA aG=>aq .lss aA aC ((kX 6 aB aA).bind fun aQ=>(kT true 6 aG aQ).bind fun aR=>kQ (lK 6 aG (.agg [(iq 0),(.str []),(iq 0),(iq 0),(iq 0),(.bool false)])) fun aH aM=>(kR 6 aM aH aR).bind fun aI=>fq 1 aH aI fun aS=>qX K 65 aS aI fun aT aN=>(vT .not aT).bind fun aF=>lG false aF (kO 2 aH) aN fun aU aJ=>lG false aF (kT true 3 aJ aU) aJ fun aV aK=>gq false aF (kU (yK K 67 aV aK) (fun aW aO=>nM aW aO) yS) aK fun aX aP=>lG false aF (vT .not aX) aP fun aY aL=>(lN aF (.bool true) aY).bind fun aZ=>lF aZ (kS m .ret [aD,(.bool false),aB,aC,aA] aL) ((kV .add aA (iq 1)).bind fun a_=>kS m .normal [aD,aE,aB,aC,a_] aL)) (kS m (.exit 0) [aD,aE,aB,aC,aA] aG)
def m31 (K:lB) (a0:kM) (h0:kP):OH :=
 (kQ (lK 8 h0 a0) fun t0 h1=>fq 1 t0 h1 fun t3=>qX K 65 t3 h1 fun t4 h5=>(vT .not t4).bind fun t6=>lG false t6 (kO 7 t0) h5 fun t8 h9=>lG false t6 (kT false 1 h9 t8) h9 fun bC aN=>gq false t6 (kU (yK K 66 bC aN) (fun bD aU=>nM bD aU) yS) aN fun bE aV=>lG false t6 (vT .not bE) aV fun bF aH=>(lN t6 (.bool true) bF).bind fun bG=>lF bG (some (.ret,[(.bool false)],aH)) (fq 2 t0 aH fun aR=>(mN aR).bind fun bH=>(mI (E6 K (aa0 aH)) ([t0,(.bool false),aR,bH,(iq 0)],aH)).bind fun aQ=>EB aQ.2 fun aA aG aK aL aM aC=>Ex.lV aQ.1 none (fun aS=>Ex.inBlock 0 aS (fq 3 aA aC fun bI=>lF bI ((kO 4 aA).bind fun bJ=>(kT true 3 aC bJ).bind fun bK=>qX K 67 bK aC fun aE aW=>lG true aE (kO 4 aA) aW fun bL aX=>lG true aE (kO 1 bL) aX fun bM aO=>lG true aE (kT false 1 aO bM) aO fun bN aY=>lG true aE (kV .eql bN (iq 0)) aY fun bO aZ=>(lN aE bO (.bool false)).bind fun aF=>lG true aF (kO 4 aA) aZ fun bP a_=>lG true aF (kO 0 bP) a_ fun bQ aP=>lG true aF (kT false 1 aP bQ) aP fun bR bA=>lG true aF (kV .neq bR (iq 2)) bA fun bS bB=>(lN aF bS (.bool false)).bind fun bT=>some (.ret,[bT],bB)) ((kO 4 aA).bind fun bU=>(kT true 3 aC bU).bind fun bV=>(lS [(iq 0),(iq 0),(iq 0)] [(0,1),(1,1),(2,1)] []).bind fun bW=>(rX [.i,.i,.i] bV bW).bind fun aJ=>some (.ret,[(.bool aJ)],aC))) (fun aT=>some (aT,[aG],aC))))).bind fun aD=>sM aD.2 fun aB aI=>Ex.nA aD.1 (lY (aa0 h0) aB aI)
theorem aAR K a0 h0:o6 Tryz.prog mJ mI K 31 [a0] h0=m31 (lT mJ K) a0 h0:=by kernel_rfl
end
section
open Go Hk

end
section
open Go Hk

end
section
open Go Hk

end
section
open Go Hk

end
section
open Go Hk
structure GT where
 elem:Int
 len:Int
 label:Int
 deriving DecidableEq
inductive GE where
 | mk (kind pos num:Int) (name:List UInt8) (args:List GE)
inductive GS where
 | mk (kind pos sB:Int) (name:List UInt8) (ty:GT) (args:List GE) (body els:List GS) (has:Bool)
structure GP where
 pos:Int
 name:List UInt8
 ty:GT
 out:Bool
structure GF where
 pos:Int
 name:List UInt8
 params:List GP
 has:Bool
 result:GT
 body:List GS
def GT.cells (t:GT):List kM:=[.int .i64 t.elem,.int .i64 t.len,.int .i64 t.label]
mutual
def GE.cells:GE→List kM
 | .mk k p n name args=>[.int .i64 k,.int .i64 p,.int .i64 n,.str name,.slice (GE.rows args) .no]
def GE.rows:List GE→List (List kM)
 | []=>[]
 | x::r=>x.cells::GE.rows r
end
theorem GE.nO:∀l:List GE,GE.rows l=l.map GE.cells
 | []=>rfl
 | x::r=>by simp [GE.rows,GE.nO r]
mutual
def GS.cells:GS→List kM
 | .mk k p m name ty args body els has=>[.int .i64 k,.int .i64 p,.int .i64 m,.str name,.int .i64 ty.elem,.int .i64 ty.len,.int .i64 ty.label,
   .slice (args.map GE.cells) .no,.slice (GS.rows body) .no,.slice (GS.rows els) .no,.bool has]
def GS.rows:List GS→List (List kM)
 | []=>[]
 | x::r=>x.cells::GS.rows r
end
theorem GS.nO:∀l:List GS,GS.rows l=l.map GS.cells
 | []=>rfl
 | x::r=>by simp [GS.rows,GS.nO r]
def GP.cells (p:GP):List kM:=[.int .i64 p.pos,.str p.name,.int .i64 p.ty.elem,.int .i64 p.ty.len,.int .i64 p.ty.label,.bool p.out]
def GF.cells (f:GF):List kM:=[.int .i64 f.pos,.str f.name,.slice (f.params.map GP.cells) .no,.bool f.has,.int .i64 f.result.elem,.int .i64 f.result.len,.int .i64 f.result.label,.slice (f.body.map GS.cells) .no]
def GE.kind:GE→Int | .mk k _ _ _ _=>k
def GE.num:GE→Int | .mk _ _ n _ _=>n
def GE.name:GE→List UInt8 | .mk _ _ _ n _=>n
def GE.args:GE→List GE | .mk _ _ _ _ a=>a
mutual
def GE.size:GE→Nat
 | .mk _ _ _ _ args=>1+GE.nJ args
def GE.nJ:List GE→Nat
 | []=>0
 | x::r=>x.size+GE.nJ r
end
mutual
def GS.size:GS→Nat
 | .mk _ _ _ _ _ args body els _=>1+GE.nJ args+GS.nJ body+GS.nJ els
def GS.nJ:List GS→Nat
 | []=>0
 | x::r=>x.size+GS.nJ r
end
theorem GE.oO {x:GE}:∀{l:List GE},x∈l→x.size≤GE.nJ l
 | y::r,h=>by
  simp only [GE.nJ]
  cases h with
  | head=>omega
  | tail _ h=>have:=GE.oO h; omega
theorem GS.oO {x:GS}:∀{l:List GS},x∈l→x.size≤GS.nJ l
 | y::r,h=>by
  simp only [GS.nJ]
  cases h with
  | head=>omega
  | tail _ h=>have:=GS.oO h; omega
def qR (s:List UInt8):Bool:=match oI s with
 | ([t,_],0,_)=>t.kind == 1 && t.text == s
 | _=>false
def lI (s:List UInt8) (has:Bool):Bool:=if has then qR s else s == []
def zF (n:Int):Bool:=decide (0≤n∧n≤4294967295)
def k_ (n:Int) (has:Bool):Bool:=if has then zF n else n == 0
def tT (k:Int):Option Int :=
 if k < 1∨26 < k then none else some ((([0,0,0,1,-1,1,1,1,2,2,2,2,2,2,1,1,1,2,2,2,2,2,2,2,2,3,1]:List Int)[k.toNat]?).getD 0)
def rL (k n:Int) (name:List UInt8) (len:Nat):Bool:=match tT k with
 | none=>false
 | some m=>(m == -1 || m == (len:Int)) && lI name (k == 2 || k == 3 || k == 4) && k_ n (k == 1 || k == 14 || k == 15 || k == 16)
mutual
def nU:GE→Bool
 | .mk k _ n name args=>rL k n name args.length && nH args
def nH:List GE→Bool
 | []=>true
 | x::r=>nU x && nH r
end
def sK (t:GT):Bool:=(t.label == 0 || t.label == 1) && zF t.len && (t.elem == 0 || t.elem == 1 && t.len == 0 || t.elem == 2 && t.len != 0)
def GT.zero:GT:=⟨0,0,0⟩
def lL (k:Int):Option Nat :=
 if k < 1∨8 < k then none else some ((([0,1,0,1,2,1,1,1,1]:List Nat)[k.toNat]?).getD 0)
def P6:List GE→Bool
 | x::_=>x.kind == 4
 | []=>false
def lR (k m:Int) (name:List UInt8) (ty:GT) (args:List GE) (nb ne:Nat) (has:Bool):Bool:=match lL k with
 | none=>false
 | some n=>args.length == n && lI name (!(k == 5 || k == 7 || k == 8)) && nH args && k_ m (k == 6) && (if k == 2 then sK ty else ty == GT.zero) &&
   (!(k == 7) || P6 args) && (k == 5 || k == 6 || nb == 0) && (k == 5 || !has) && (has || ne == 0)
mutual
def pX:GS→Bool
 | .mk k _ m name ty args body els has=>lR k m name ty args body.length els.length has && nW body && nW els
def nW:List GS→Bool
 | []=>true
 | x::r=>pX x && nW r
end
def uV (p:GP):Bool:=qR p.name && sK p.ty
def o0 (f:GF):Bool:=qR f.name && nW f.body && f.params.all uV && (if f.has then sK f.result && f.result.len == 0 && f.result.elem != 2 else f.result == GT.zero)
def lJ (k:Int):Nat:=(([8,8,8,8,8,8,8,8,6,6,7,4,2,3,5,5,8,1,1,1,1,1,1,8,8,8,8]:List Nat)[k.toNat]?).getD 8
def qG (k:Int):List UInt8:=(([[],[],[],[],[],[126],[45],[33],[43],[45],[42],[38],[124],[94],[60,60],[62,62],[114,111,114],[61,61],[33,61],[60],[60,61],[62],[62,61],
 [109,117,108,104,105],[99,97,114,114,121],[115,101,108,101,99,116],[119,111,114,100]]:List (List UInt8))[k.toNat]?).getD []
def vJ (n:Int):List UInt8:=EA n.toNat
abbrev Part:=Int×List UInt8×Nat
def uE (bare:Bool) (p:Part):List UInt8:=if bare then p.2.1 else 40::(p.2.1++[41])
def sX (bare:Bool) (p:Part):Nat:=if bare then p.2.2 else p.2.2+1
def mX (t:Nat) (k:Int):Bool:=decide (t < lJ k∨lJ k=t∧1 < t)
def vN:List Part→List UInt8
 | []=>[]
 | [p]=>p.2.1
 | p::r=>p.2.1++44::32::vN r
def wJ:List Part→Nat
 | []=>0
 | p::r=>max p.2.2 (wJ r)
def yY (k n:Int) (name:List UInt8) (l:List Part):List UInt8 :=
 if lJ k < 8 then match l with
  | [a]=>uE (mX (lJ k) a.1) a++32::(qG k++32::vJ n)
  | a::b::_=>uE (mX (lJ k) a.1) a++32::(qG k++32::uE (decide (lJ k < lJ b.1)) b)
  | []=>[]
 else if k=1 then vJ n else if k=2 then name
 else if k=3 then(match l with | a::_=>name++91::(a.2.1++[93]) | []=>[])
 else if k=5∨k=6∨k=7 then(match l with | a::_=>qG k++uE (decide (lJ a.1=8)) a | []=>[])
 else qG k++name++40::(vN l++(if k=16 then 44::32::vJ n else [])++[41])
def yM (k:Int) (l:List Part):Nat :=
 if lJ k < 8 then match l with
  | [a]=>sX (mX (lJ k) a.1) a
  | a::b::_=>max (sX (mX (lJ k) a.1) a) (sX (decide (lJ k < lJ b.1)) b)
  | []=>0
 else if k=1∨k=2 then 0
 else if k=3 then(match l with | a::_=>a.2.2+1 | []=>0)
 else if k=5∨k=6∨k=7 then(match l with | a::_=>sX (decide (lJ a.1=8)) a+1 | []=>0)
 else wJ l+1
mutual
def lW:GE→Part
 | .mk k _ n name args=>(k,yY k n name (yC args),yM k (yC args))
def yC:List GE→List Part
 | []=>[]
 | x::r=>lW x::yC r
end
theorem FU:∀l:List GE,yC l=l.map lW
 | []=>rfl
 | x::r=>by simp [yC,FU r]
theorem wG:∀l:List GE,nH l=l.all nU
 | []=>rfl
 | x::r=>by simp [nH,wG r]
theorem wH:∀l:List GS,nW l=l.all pX
 | []=>rfl
 | x::r=>by simp [nW,wH r]
def mE (x:GE):List UInt8:=(lW x).2.1
def mA (x:GE):Nat:=(lW x).2.2
def oV (l:Int):List UInt8:=if l=1 then [115,101,99,32] else [112,117,98,32]
def wK (t:GT):List UInt8:=(if t.elem=1 then [109,97,115,107] else if t.elem=2 then [117,56] else [117,51,50])++(if 0 < t.len then 91::(vJ t.len++[93]) else [])
def qB (n:Nat):List UInt8:=List.replicate n 32
def oH (n:Nat) (l:List (List UInt8)):List UInt8:=32::123::10::((l.map fun t=>qB (n+1)++t++[10]).flatten++qB n++[125])
def Cw (k m:Int) (name:List UInt8) (ty:GT) (args:List (List UInt8)) (body els:List UInt8) (has:Bool):List UInt8 :=
 let a:=(args[0]?).getD []
 if k=1 then [108,101,116,32]++name++[32,61,32]++a++[59]
 else if k=2 then [118,97,114,32]++oV ty.label++name++[58,32]++wK ty++[59]
 else if k=3 then name++[32,61,32]++a++[59]
 else if k=4 then name++91::(a++[93])++[32,61,32]++(args[1]?).getD []++[59]
 else if k=5 then [105,102,32]++a++body++(if has then [32,101,108,115,101]++els else [])
 else if k=6 then [102,111,114,32]++name++[32,60,32]++a++[32,109,97,120,32]++vJ m++body
 else if k=8 then [114,101,116,117,114,110,32]++a++[59]
 else a++[59]
def ZR (k:Int) (args:List Nat) (body els:Nat) (has:Bool):Nat :=
 let a:=(args[0]?).getD 0
 if k=2 then 0 else if k=4 then max (a+1) ((args[1]?).getD 0) else if k=5 then(if has then max a (max body els) else max a body) else if k=6 then max a body else a
mutual
def qI (n:Nat):GS→List UInt8
 | .mk k _ m name ty args body els has=>Cw k m name ty (args.map mE) (oH n (oF (n+1) body)) (oH n (oF (n+1) els)) has
def oF (n:Nat):List GS→List (List UInt8)
 | []=>[]
 | x::r=>qI n x::oF n r
end
def qJ:List Nat→Nat
 | []=>0
 | x::r=>max x (qJ r)
mutual
def qT:GS→Nat
 | .mk k _ _ _ _ args body els has=>ZR k (args.map mA) (qJ (nX body)+1) (qJ (nX els)+1) has
def nX:List GS→List Nat
 | []=>[]
 | x::r=>qT x::nX r
end
theorem QV (n:Nat):∀l:List GS,oF n l=l.map (qI n)
 | []=>rfl
 | x::r=>by simp [oF,QV n r]
theorem QF:∀l:List GS,nX l=l.map qT
 | []=>rfl
 | x::r=>by simp [nX,QF r]
def qK (p:GP):List UInt8:=(if p.out then [111,117,116,32] else [])++oV p.ty.label++p.name++[58,32]++wK p.ty
def xC:List (List UInt8)→List UInt8
 | []=>[]
 | [p]=>p
 | p::r=>p++44::32::xC r
def vF (f:GF):List UInt8:=[102,110,32]++f.name++[40]++xC (f.params.map qK)++[41]++(if f.has then [58,32]++oV f.result.label++wK f.result else []) ++
 oH 0 (oF 1 f.body)++[10]
def vB (f:GF):Nat:=qJ (nX f.body)+1
def qE (l:List GF):List UInt8×Int :=
 if l.all o0 then(if 64 < qJ (l.map vB) then([],11) else((l.map vF).flatten,0)) else([],2)
end
section
open Go Hk
structure WS where
 a:List kM
 ok:∀m h,nI m h a=some a
 u:Bool
 bs:List UInt8
 now:Nat
 over:Bool
 ln:Nat
def Dq (w:WS) (bs:List UInt8):List kM:=[bif w.u then .ptr 1 0 else .nilptr,.slice (tX bs) (.own 2),.int .i64 (w.now:Int),.bool w.over,.int .i64 (w.ln:Int)]
def WFr:List UInt8→lE
 | []=>.front 0 0
 | b::r=>.front (r.length+1) 1 6
def Mk (w:WS) (cs fs:List UInt8) (B:List lE):kP:=.cells w.a::.tcells 86 (Dq w cs)::WFr fs::B
def WH (w:WS) (B:List lE):kP:=Mk w w.bs w.bs B
def Still (B:List lE):Prop:=∀m h,nK m h B=some B
section
variable {w:WS}{B:List lE}{cs fs:List UInt8}
theorem pC {C:List lE}:WH w B++C=WH w (B++C):=rfl
theorem nF:aa0 (WH w B)=B.length+3:=rfl
theorem oC:Still []:=fun _ _=>rfl
theorem Ip {m:Nat}{h:kP}:∀{B C:List lE},nK m h B=some B→nK m h C=some C→nK m h (B++C)=some (B++C)
 | [],_,_,h2=>h2
 | b::r,C,h1,h2=>by
  simp only [nK] at h1
  split at h1
  ·rename_i b' r' e1 e2
   simp only [Option.some.injEq,List.cons.injEq] at h1
   obtain⟨rfl,rfl⟩:=h1
   simp only [af2,nK,e1,Ip e2 h2]
  ·cases h1
theorem o9 {C:List lE}(h1:Still B) (h2:Still C):Still (B++C):=fun m h=>Ip (h1 m h) (h2 m h)
theorem Fk {n s:Nat}:Still [.front n s]:=fun _ _=>rfl
theorem PU (h:Still B) {m:Nat}{x:kP}(hm:3≤m):nK m x (Mk w cs fs B)=some (Mk w cs fs B):=by
 have h1:nI m x (Dq w cs)=some (Dq w cs):=by
  obtain⟨a,ok,u,b,n,o,l⟩:=w
  have e1:(1:Nat) < m:=by omega
  have e2:(2:Nat) < m:=by omega
  have e3:kM.mO m x (.ptr 1 0)=.ptr 1 0:=lC e1
  have e4:kM.mO m x .nilptr=.nilptr:=rfl
  have e5:kM.mD (.ptr 1 0)=true:=rfl
  have e6:kM.mD .nilptr=true:=rfl
  cases u <;> simp [Dq,e2,e3,e4,e5,e6]
 have h2:pF m x (.tcells 86 (Dq w cs))=some (.tcells 86 (Dq w cs)):=by simp [pF,h1]
 have h3:pF m x (WFr fs)=some (WFr fs):=by cases fs <;> rfl
 have h4:pF m x (.cells w.a)=some (.cells w.a):=by simp [w.ok m x]
 simp only [Mk,oM,h2,h3,h4,h m x,af4,Option.map_some]
theorem oD {C:List lE}(h:Still B):l9 (B.length+3) (WH w (B++C))=some (WH w B):=by
 have:(WH w (B++C)).take (B.length+3)=WH w B:=by simp [WH,Mk]
 simp only [l9,this]
 exact PU h (by omega)
theorem tB (h:Still B):l9 (B.length+3) (WH w B)=some (WH w B):=by
 have:=oD (w:=w) (C:=[]) h
 simpa using this
end
section
variable {w:WS}{B:List lE}{u:Bool}{bs x cs fs:List UInt8}{now ln:Nat}{ov:Bool}
@[simp] theorem aNv:l_ false 1 (Mk w cs fs B) (.ptr 1 1)=some (.slice (tX cs) (.own 2)):=(rfl)
@[simp] theorem aNw:l_ false 1 (WH w B) (.ptr 1 2)=some (.int .i64 (w.now:Int)):=(rfl)
@[simp] theorem aNx:l_ false 1 (WH w B) (.ptr 1 3)=some (.bool w.over):=(rfl)
@[simp] theorem aNy:l_ false 1 (WH w B) (.ptr 1 4)=some (.int .i64 (w.ln:Int)):=(rfl)
@[simp] theorem aNQ:pU 1 (Mk w cs fs B) (.ptr 1 1) (.slice (tX x) (.own 2))=some (Mk w x fs B):=by cases x <;> rfl
theorem awZ {n:Nat}:pU 1 (WH w B) (.ptr 1 2) (.int .i64 (n:Int))=some (WH { w with now:=n } B):=(rfl)
@[simp] theorem aNS {b:Bool}:pU 1 (WH w B) (.ptr 1 3) (.bool b)=some (WH { w with over:=b } B):=(rfl)
theorem AZ:(tX bs).length=bs.length:=by simp [tX]
theorem adJ:tX bs++tX x=tX (bs++x):=by simp [tX]
theorem aoA {h:kP}{t:Tok}:pY 1 h (.slice (tX x) t)=some (tX x):=by
 simp only [pY]
 rw [if_pos]
 simp [tX]
theorem aIS (hb:cs.length+x.length≤140737488355328):AN 6 1 1 1 (Mk w cs cs B) (.slice (tX cs) (.own 2)) (.str x)=some (.slice (tX (cs++x)) (.own 2),Mk w cs (cs++x) B):=by
 have h0:AN 6 1 1 1 (Mk w cs cs B) (.slice (tX cs) (.own 2)) (.str x)=yU 6 1 1 (Mk w cs cs B) (.slice (tX cs) (.own 2)) (.slice (tX x) .no):=rfl
 rw [h0]
 unfold yU
 rw [aoA]
 have e1:∀b,(Mk w cs b B)[2]?=some (WFr b):=fun _=>rfl
 simp only [e1]
 cases cs with
 | nil =>
  cases x with
  | nil=>rfl
  | cons c r =>
   have hb':(0+(tX (c::r)).length) * 1≤140737488355328:=by rw [AZ]; simp at hb ⊢; omega
   have hb2:0+(tX (c::r)).length≤140737488355328:=by omega
   have hl:(tX (c::r)).length=r.length+1:=by rw [AZ]; rfl
   simp only [WFr]
   rw [if_pos ⟨by simp [tX],.inr ⟨trivial,trivial⟩,hb',hb2⟩,if_neg (by omega),hl]
   simp [tX,Mk,WFr]
 | cons b s =>
  simp only [WFr]
  have hb':(s.length+1+(tX x).length) * 1≤140737488355328:=by rw [AZ]; simp at hb ⊢; omega
  have hl:(tX (b::s)).length=s.length+1:=by rw [AZ]; rfl
  rw [if_pos ⟨hl,.inl trivial,hb',by omega⟩]
  cases x with
  | nil=>rw [if_pos (by rfl)]; simp
  | cons c r =>
   rw [if_neg (by rw [AZ]; simp)]
   rw [adJ,AZ]
   simp [Mk,WFr]
   omega
end
def WS.put (w:WS) (x:List UInt8):WS:={ w with u:=true,bs:=w.bs++x }
theorem WS.as3 {w:WS}{x y:List UInt8}:(w.put x).put y=w.put (x++y):=by simp [WS.put]
@[simp] theorem WS.aKO {w:WS}{x:List UInt8}:(w.put x).bs=w.bs++x:=rfl
@[simp] theorem WS.aIg {w:WS}{x:List UInt8}:(w.put x).now=w.now:=rfl
@[simp] theorem WS.aF3 {w:WS}{x:List UInt8}:(w.put x).over=w.over:=rfl
@[simp] theorem WS.aKP {w:WS}{x:List UInt8}:(w.put x).ln=w.ln:=rfl
section
variable {w:WS}{B:List lE}
theorem aJi:KK 161 [.ptr 1 0] (WH w B)=some (.ret (.tuple []),WH { w with u:=true } B):=by
 refine k9 (m:=Ew mJ.bld .copyCheck [.ptr 1 0] (WH w B)) rfl ?_
 obtain⟨a,ok,u,bs,n,o,l⟩:=w
 cases u <;> rfl
theorem aI7 (x:List UInt8) (hB:Still B) (hb:w.bs.length+x.length≤140737488355328) :
  KK 124 [.ptr 1 0,.str x] (WH w B)=some (.ret (.tuple [.int .i64 (x.length:Int),.niliface]),WH (w.put x) B):=by
 refine k9 (aqO _ _ _ _) ?_
 have h1:WH { w with u:=true } B=Mk { w with u:=true } w.bs w.bs B:=rfl
 have h2:=aIS (w:={ w with u:=true }) (B:=B) (cs:=w.bs) (x:=x) hb
 have h3:Mk { w with u:=true } (w.bs++x) (w.bs++x) B=WH (w.put x) B:=rfl
 have h4:=tB (w:=w.put x) hB
 simp -implicitDefEqProofs [aFj,aJi,h1,h2,h3,lY,nF,h4]
 rfl
end
end
section
open Go Hk
theorem rV {a:Nat}(h:a≤9223372036854775806):IntKind.wrap .i64 ((a:Int)+1)=((a+1:Nat):Int):=by rw [wrap64] <;> omega
def qY (s:List UInt8):List kM:=[.str s]
def WS.El (w:WS) (xs:List (List UInt8)):WS:=xs.foldl WS.put w
@[simp] theorem WS.ajZ {w:WS}:w.El []=w:=rfl
@[simp] theorem WS.aF4 {w:WS}{x:List UInt8}:w.El [x]=w.put x:=rfl
@[simp] theorem WS.aDF {w:WS}{x y:List UInt8}{r:List (List UInt8)}:w.El (x::y::r)=w.El ((x++y)::r):=by
 simp [WS.El,WS.as3]
theorem WS.ZF:∀{w:WS}{xs:List (List UInt8)},(w.El xs).bs=w.bs++xs.flatten
 | w,[]=>by simp
 | w,x::r=>by
  have:=WS.ZF (w:=w.put x) (xs:=r)
  simp only [WS.El,List.foldl_cons,List.flatten_cons] at this ⊢
  rw [this]; simp
theorem tL {α:Type}{l:List α}{i:Nat}{x:α}(h:l[i]?=some x):l.take (i+1)=l.take i++[x]:=by
 rw [List.take_succ,h]; rfl
section
variable {w:WS}{B:List lE}
theorem y_ {m:Nat}{h:kP}{o:Nat}:kM.mO (m+3) h (.ptr 1 o)=.ptr 1 o:=lC (by omega)
theorem aiV (xs:List (List UInt8)) (hB:Still B) (hb:w.bs.length+xs.flatten.length≤140737488355328) (hl:xs.length≤1000000):∀i,i≤xs.length →
  mI (Sk KK (B.length+3)) ([.ptr 1 0,.slice (xs.map qY) .no,.int .i64 (xs.length:Int),.int .i64 (i:Int)],WH (w.El (xs.take i)) B) =
   some (.exit 0,[.ptr 1 0,.slice (xs.map qY) .no,.int .i64 (xs.length:Int),.int .i64 (xs.length:Int)],WH (w.El xs) B):=by
 refine tN (fun i:Nat=>([.ptr 1 0,.slice (xs.map qY) .no,.int .i64 (xs.length:Int),.int .i64 (i:Int)],WH (w.El (xs.take i)) B)) (fun i=>i≤xs.length) (fun i=>xs.length - i) _ fun i hi=>?_
 by_cases h:i < xs.length
 ·left
  refine⟨i+1,?_,h,by omega,rfl⟩
  obtain⟨x,hx⟩:∃x,xs[i]?=some x:=⟨xs[i],ac0 h⟩
  have hp:w.El (xs.take (i+1))=(w.El (xs.take i)).put x:=by simp [WS.El,tL hx]
  have hbl:(w.El (xs.take i)).bs.length+x.length≤140737488355328:=by
   have e:xs.take (i+1)++xs.drop (i+1)=xs:=List.take_append_drop _ _
   have e2:=congrArg (fun l=>(List.flatten l).length) e
   simp only [List.flatten_append,ac2,tL hx,List.flatten_cons,List.flatten_nil,List.append_nil] at e2
   rw [WS.ZF,ac2]
   omega
  have hc:=aI7 (w:=w.El (xs.take i)) x hB hbl
  have htr:=tB (w:=(w.El (xs.take i)).put x) hB
  have hi':(i:Int) < (xs.length:Int):=by omega
  have h1:(qY x).length=1:=rfl
  have w1:=rV (a:=i) (by omega)
  have hld:∀h,l_ false 1 h (.pptr (qY x))=some (.str x):=fun _=>rfl
  simp -implicitDefEqProofs [Sk,hi',hx,h1,hld,hc,kS,htr,w1,hp,y_,-ag1]
 ·right
  have:i=xs.length:=by omega
  subst this
  have htr:=tB (w:=w.El xs) hB
  constructor
  ·simp -implicitDefEqProofs [Sk,kS,htr,y_]
  ·simp
theorem c68 (xs:List (List UInt8)) (hB:Still B) (hb:w.bs.length+xs.flatten.length≤140737488355328) (hl:xs.length≤1000000) :
  KK 68 [.ptr 1 0,.slice (xs.map qY) .no] (WH w B)=some (.ret (.tuple []),WH (w.El xs) B):=by
 refine k9 (aBd _ _ _ _) ?_
 have h1:=aiV (w:=w) xs hB hb hl 0 (Nat.zero_le _)
 simp only [List.take_zero,WS.ajZ,Int.natCast_zero,Int.cast_ofNat_Int] at h1
 have htr:=tB (w:=w.El xs) hB
 simp -implicitDefEqProofs [m68,nF,h1,lY,htr]
end
theorem P7:∀(k n:Nat) (acc:List UInt8),n < 10 ^ k→n≠0→Wr k n acc=CH n acc
 | 0,n,acc,h,h0=>by simp at h; omega
 | k+1,n,acc,h,h0=>by
  rw [CH,if_neg h0]
  unfold Wr
  by_cases h1:n < 10
  ·rw [if_pos h1]
   have h2:n / 10=0:=by omega
   have h3:n % 10=n:=by omega
   rw [h2,h3,CH,if_pos rfl]
  ·rw [if_neg h1]
   exact P7 k _ _ (by rw [Nat.pow_succ] at h; omega) (by omega)
theorem abP (n:Nat) (h:n < 100000000000000000000):Qh (n:Int)=EA n:=by
 unfold Qh EA
 rw [if_neg (by omega)]
 by_cases h0:n=0
 ·subst h0; rfl
 ·rw [if_neg h0]
  exact P7 20 n [] h h0
theorem abQ {n:Int}(h0:0≤n) (h:n < 9223372036854775808):Qh n=vJ n:=by
 obtain⟨m,rfl⟩:=Int.eq_ofNat_of_zero_le h0
 exact abP m (by omega)
theorem c89 (n:Int) (h0:0≤n) (hn:n < 9223372036854775808) (h:kP):KK 89 [.int .i64 n] h=some (.ret (.str (vJ n)),h):=by
 refine lA rfl rfl (k9 (m:=Ew mJ.bld (.fn UD) [.int .i64 n] []) rfl ?_)
 simp only [Ew,UD]
 rw [if_pos (by omega),abQ h0 hn]
 rfl
theorem aJj (n:Nat) (hn:n≤1099511627776) (h:kP):KK 162 [.str [32],.int .i64 (n:Int)] h=some (.ret (.str (qB n)),h):=by
 refine lA rfl rfl (k9 (m:=Ew mJ.bld (.fn aj4) [.str [32],.int .i64 (n:Int)] []) rfl ?_)
 simp only [Ew,aj4]
 rw [if_pos (by omega)]
 rfl
theorem aoG {x:List UInt8}{h:kP}:kW 1 1 [.str []] [(0,.str x)] h=some (.slice ([x].map qY) (.own h.length),h++[.front 1 1]):=(rfl)
section
variable {w:WS}{B:List lE}
theorem p1 {x:List UInt8}{n:Nat}(hB:Still B) (hb:w.bs.length+x.length≤140737488355328) :
  KK 68 [.ptr 1 0,.slice [qY x] .no] (WH w (B++[.front n 1]))=some (.ret (.tuple []),WH (w.put x) (B++[.front n 1])):=by
 have:=c68 (w:=w) (B:=B++[.front n 1]) [x] (o9 hB Fk) (by simpa using hb) (by simp)
 simpa using this
theorem p2 {x y:List UInt8}{n:Nat}(hB:Still B) (hb:w.bs.length+(x++y).length≤140737488355328) :
  KK 68 [.ptr 1 0,.slice [qY x,qY y] .no] (WH w (B++[.front n 1]))=some (.ret (.tuple []),WH (w.put (x++y)) (B++[.front n 1])):=by
 have:=c68 (w:=w) (B:=B++[.front n 1]) [x,y] (o9 hB Fk) (by simpa using hb) (by simp)
 simpa using this
theorem c84 (n:Int) (h0:0≤n) (hn:n < 9223372036854775808) (hB:Still B) (hb:w.bs.length+(vJ n).length≤140737488355328) :
  KK 84 [.ptr 1 0,.int .i64 n] (WH w B)=some (.ret (.tuple []),WH (w.put (vJ n)) B):=by
 refine k9 (aBt _ _ _ _) ?_
 have h2:=p1 (w:=w) (n:=1) hB hb
 have htr:=oD (w:=w.put (vJ n)) (C:=[.front 1 1]) hB
 simp -implicitDefEqProofs [m84,c89 n h0 hn,aoG,pC,nF,h2,lY,htr]
def WS.up (w:WS):WS:={ w with now:=w.now+1,over:=w.over || decide (64 < w.now+1) }
def WS.down (w:WS):WS:={ w with now:=w.now - 1 }
theorem c85 (hB:Still B) (hn:w.now≤1000000000000000000):KK 85 [.ptr 1 2] (WH w B)=some (.ret (.tuple []),WH w.up B):=by
 refine k9 (aBu _ _ _) ?_
 have w1:=rV (a:=w.now) (by omega)
 have e1:=awZ (w:=w) (B:=B) (n:=w.now+1)
 have htr:=tB (w:=w.up) hB
 obtain⟨a,ok,u,bs,now,ov,ln⟩:=w
 have hd:(64:Int) < ((now+1:Nat):Int)↔64 < now+1:=by omega
 cases ov
 ·simp only [WS.up,Bool.false_or] at htr ⊢
  simp -implicitDefEqProofs [m85,w1,e1,nF,lY,htr,hd,-ag1]
 ·simp only [WS.up,Bool.true_or] at htr ⊢
  simp -implicitDefEqProofs [m85,w1,e1,nF,lY,htr,-ag1]
theorem c86 (hB:Still B) (hn:w.now≤1000000000000000000) (h1:1≤w.now):KK 86 [.ptr 1 2] (WH w B)=some (.ret (.tuple []),WH w.down B):=by
 refine k9 (aBv _ _ _) ?_
 have w1:IntKind.wrap .i64 ((w.now:Int) - 1)=((w.now - 1:Nat):Int):=by rw [wrap64] <;> omega
 have e1:=awZ (w:=w) (B:=B) (n:=w.now - 1)
 have htr:=tB (w:=w.down) hB
 simp -implicitDefEqProofs [m86,w1,e1,nF,lY]
 exact htr
theorem c69 (l:Int) (hB:Still B) (hb:w.bs.length+4≤140737488355328):KK 69 [.ptr 1 0,.int .i64 l] (WH w B)=some (.ret (.tuple []),WH (w.put (oV l)) B):=by
 refine k9 (aBe _ _ _ _) ?_
 by_cases h:l=1
 ·have h2:=p1 (w:=w) (x:=[115,101,99,32]) (n:=1) hB hb
  have htr:=oD (w:=w.put [115,101,99,32]) (C:=[.front 1 1]) hB
  simp -implicitDefEqProofs [m69,h,oV,aoG,pC,nF,h2,lY,htr]
 ·have h2:=p1 (w:=w) (x:=[112,117,98,32]) (n:=1) hB hb
  have htr:=oD (w:=w.put [112,117,98,32]) (C:=[.front 1 1]) hB
  simp -implicitDefEqProofs [m69,h,oV,aoG,pC,nF,h2,lY,htr]
theorem aEA (hB:Still B) (hn:w.ln≤1099511627776) (hb:w.bs.length+w.ln≤140737488355328):KK 125 [.ptr 1 0] (WH w B)=some (.ret (.tuple []),WH (w.put (qB w.ln)) B):=by
 refine k9 (aqP _ _ _) ?_
 have h2:=p1 (w:=w) (x:=qB w.ln) (n:=1) hB (by simpa [qB] using hb)
 have htr:=oD (w:=w.put (qB w.ln)) (C:=[.front 1 1]) hB
 simp -implicitDefEqProofs [aFk,aJj w.ln hn,aoG,pC,nF,h2,lY,htr]
end
end
section
open Go Hk
def nn (k m:Nat):Nat:=if m=0 then 0 else k+m
@[simp] theorem asT {k:Nat}:nn k 0=0:=rfl
def WS.st (w:WS) (x:List UInt8) (n k:Nat):WS:={ w with u:=true,bs:=w.bs++x,now:=w.now+k,over:=w.over || decide (0 < n∧64 < w.now+n) }
@[simp] theorem WS.aMs {w:WS}{x:List UInt8}{n k:Nat}:(w.st x n k).bs=w.bs++x:=rfl
@[simp] theorem WS.aK4 {w:WS}{x:List UInt8}{n k:Nat}:(w.st x n k).now=w.now+k:=rfl
@[simp] theorem WS.aMt {w:WS}{x:List UInt8}{n k:Nat}:(w.st x n k).ln=w.ln:=rfl
@[simp] theorem WS.aKQ {w:WS}{x:List UInt8}:w.put x=w.st x 0 0:=by simp [WS.put,WS.st]
theorem WS.BD {w:WS}{x y:List UInt8}{n m k l:Nat}(h1:x=y) (h2:n=m) (h3:k=l):w.st x n k=w.st y m l:=by rw [h1,h2,h3]
@[simp] theorem WS.akT {w:WS}{x y:List UInt8}{n k m l:Nat}:(w.st x n k).st y m l=w.st (x++y) (max n (nn k m)) (k+l):=by
 simp only [WS.st,af9,Nat.add_assoc,WS.mk.injEq,true_and,and_true,Bool.or_assoc]
 have:decide (0 < max n (nn k m)∧64 < w.now+max n (nn k m))=(decide (0 < n∧64 < w.now+n) || decide (0 < m∧64 < w.now+(k+m))):=by
  rw [←Bool.decide_or]
  apply decide_eq_decide.2
  unfold nn
  split <;> omega
 rw [this]
@[simp] theorem WS.aMu {w:WS}{x:List UInt8}{n k:Nat}:(w.st x n k).up=w.st x (max n (k+1)) (k+1):=by
 simp only [WS.st,WS.up,WS.mk.injEq,true_and,and_true,Bool.or_assoc,Nat.add_assoc]
 have:decide (0 < max n (k+1)∧64 < w.now+max n (k+1))=(decide (0 < n∧64 < w.now+n) || decide (64 < w.now+(k+1))):=by
  rw [←Bool.decide_or]
  apply decide_eq_decide.2
  omega
 rw [this]
@[simp] theorem WS.aIq {w:WS}{x:List UInt8}{n k:Nat}:(w.st x n (k+1)).down=w.st x n k:=by simp [WS.st,WS.down,←Nat.add_assoc]
@[simp] theorem GE.q8 (x:GE):x.cells.length=5:=by cases x; simp [GE.cells]
@[simp] theorem GS.q8 (x:GS):x.cells.length=11:=by cases x; simp [GS.cells]
theorem GE.still (x:GE) (m:Nat) (h:kP):nI m h x.cells=some x.cells:=by cases x; simp [GE.cells]
@[simp] theorem GE.XT (x:GE):x.cells.map kM.uH=x.cells:=by cases x; simp [GE.cells]
@[simp] theorem GE.aMw (x:GE):x.cells.take 5=x.cells:=by cases x; rfl
theorem uO:∀{vs:List kM}{k:Nat},(∀c∈vs,c.isNil=false)→lD k vs=(vs,[])
 | [],_,_=>rfl
 | v::vs,k,hn=>by
  have h1:=hn v (by simp)
  have h2:=uO (vs:=vs) (k:=k) fun c hc=>hn c (by simp [hc])
  unfold lD
  split
  ·rename_i e; cases e
  ·rename_i e; simp only [List.cons.injEq] at e; obtain⟨rfl,rfl⟩:=e; simp [kM.isNil] at h1
  ·rename_i e; simp only [List.cons.injEq] at e; obtain⟨rfl,rfl⟩:=e; rw [h2]
theorem GE.tok (x:GE) {k:Nat}:lD k x.cells=(x.cells,[]):=uO (by cases x; simp [GE.cells,kM.isNil])
theorem GE.Ud (x:GE):x.cells.all kM.mD=true:=by cases x; simp [GE.cells,kM.mD]
section
variable {w:WS}{B C:List lE}{cs:List kM}
theorem mM {n s:Nat}(h:Still C):Still (.front n s::C):=fun m x=>by simp [h m x]
theorem Ow {x:GE}(h:Still C):Still (.cells x.cells::C):=fun m y=>by simp [x.still m y,h m y]
theorem VC {n s:Nat}(h:Still B):Still (B++[.front n s]):=o9 h (mM oC)
theorem AA {x:GE}(h:Still B):Still (B++[.cells x.cells]):=o9 h (Ow oC)
theorem AB {x:GE}{n s:Nat}(h:Still B):Still (B++[.cells x.cells,.front n s]):=o9 h (Ow (mM oC))
theorem Ov {x:GE}{n s n' s':Nat}(h:Still B):Still (B++[.cells x.cells,.front n s,.front n' s']):=o9 h (Ow (mM (mM oC)))
theorem zN {x:GE}:lK 5 (WH w B) (.agg x.cells)=some (.ptr (B.length+3) 0,WH w (B++[.cells x.cells])):=by
 simp [lK,x.tok,x.Ud,nF,pC]
theorem WE:(WH w (B++.cells cs::C))[B.length+3]?=some (.cells cs):=by simp [WH,Mk]
@[simp] theorem ldB {i:Nat}:l_ false 1 (WH w (B++.cells cs::C)) (.ptr (B.length+3) i)=cs[i]?:=by
 have e:=WE (w:=w) (B:=B) (C:=C) (cs:=cs)
 simp only [l_,BT,e,aaQ,mY,af4]
@[simp] theorem aJ7 {n i:Nat}:l_ true n (WH w (B++.cells cs::C)) (.ptr (B.length+3) i)=if i+n≤cs.length then some (.agg ((cs.drop i).take n)) else none:=by
 have e:=WE (w:=w) (B:=B) (C:=C) (cs:=cs)
 simp only [l_,BT,e,Wi,mY,af4]
end
def xM (k:Int):Nat:=if lJ k < 8 then lJ k else 0
def aaY (k:Int):List UInt8:=if lJ k < 8 then qG k else []
theorem Ah {k:Int}(h:1≤k∧k≤26):k=1∨k=2∨k=3∨k=4∨k=5∨k=6∨k=7∨k=8∨k=9∨k=10∨k=11∨k=12∨k=13∨k=14∨k=15∨k=16∨k=17∨k=18∨k=19∨k=20∨k=21∨k=22∨k=23∨k=24∨k=25∨k=26:=by omega
theorem c82 (k:Int) (hk:1≤k∧k≤26) (h:kP):KK 82 [.int .i64 k] h=some (.ret (.tuple [.int .i64 (xM k:Int),.str (aaY k)]),h):=by
 refine lA rfl rfl (k9 (aBr _ _ _) ?_)
 rcases Ah hk with rfl | rfl | rfl | rfl | rfl | rfl | rfl | rfl | rfl | rfl | rfl | rfl | rfl | rfl | rfl | rfl | rfl | rfl | rfl | rfl | rfl | rfl | rfl | rfl | rfl | rfl <;>
  simp -implicitDefEqProofs [m82,kN,xM,aaY,lJ,qG]
section
variable {w:WS}{B:List lE}{x y z:List UInt8}
theorem P1 (hB:Still B) (hb:w.bs.length+x.length≤140737488355328):KK 68 [.ptr 1 0,.slice [qY x] .no] (WH w B)=some (.ret (.tuple []),WH (w.st x 0 0) B):=by
 have:=c68 (w:=w) (B:=B) [x] hB (by simpa using hb) (by simp)
 simpa using this
theorem P2 (hB:Still B) (hb:w.bs.length+(x.length+y.length)≤140737488355328):KK 68 [.ptr 1 0,.slice [qY x,qY y] .no] (WH w B)=some (.ret (.tuple []),WH (w.st (x++y) 0 0) B):=by
 have:=c68 (w:=w) (B:=B) [x,y] hB (by simpa using hb) (by simp)
 simpa using this
theorem P3 (hB:Still B) (hb:w.bs.length+(x.length+(y.length+z.length))≤140737488355328):KK 68 [.ptr 1 0,.slice [qY x,qY y,qY z] .no] (WH w B)=some (.ret (.tuple []),WH (w.st (x++(y++z)) 0 0) B):=by
 have:=c68 (w:=w) (B:=B) [x,y,z] hB (by simpa using hb) (by simp)
 simpa using this
end
theorem vU {x:List UInt8}{h:kP}:kW 1 1 [.str []] [(0,.str x)] h=some (.slice [qY x] (.own h.length),h++[.front 1 1]):=(rfl)
theorem Hr {x y:List UInt8}{h:kP}:kW 2 1 [.str []] [(0,.str x),(1,.str y)] h=some (.slice [qY x,qY y] (.own h.length),h++[.front 2 1]):=(rfl)
theorem Cg {x y z:List UInt8}{h:kP}:kW 3 1 [.str []] [(0,.str x),(1,.str y),(2,.str z)] h=some (.slice [qY x,qY y,qY z] (.own h.length),h++[.front 3 1]):=(rfl)
def WOk (f:Nat) (args:List kM) (t:List UInt8) (n:Nat):Prop:=∀(w:WS) (B:List lE),Still B→w.bs.length+t.length≤140737488355328→w.now+n≤1000000000000000 →
 KK f (.ptr 1 0::args) (WH w B)=some (.ret (.tuple []),WH (w.st t n 0) B)
def IF (x:GE):Prop:=WOk 37 [.agg x.cells] (mE x) (mA x)
theorem aI9 {x:GE}(hx:IF x):WOk 129 [.agg x.cells] (40::(mE x++[41])) (mA x+1):=by
 intro w B hB hb hn
 simp only [ac8,ac2,ad0] at hb
 refine k9 (aqQ _ _ _ _) ?_
 have s2:=AA (x:=x) hB
 have s3:=fun n s=>AB (x:=x) (n:=n) (s:=s) hB
 have s4:=fun n s n' s'=>Ov (x:=x) (n:=n) (s:=s) (n':=n') (s':=s') hB
 have htr:=fun w C=>oD (w:=w) (C:=C) hB
 have e1:=P1 (w:=w) (x:=[40]) (s3 1 1) (by simp; omega)
 have e2:=c85 (w:=w.st [40] 0 0) (s3 1 1) (by simp; omega)
 have e3:=hx (w.st [40] 1 1) _ (s3 1 1) (by simp; omega) (by simp; omega)
 have e4:=c86 (w:=w.st (40::mE x) (max 1 (nn 1 (mA x))) 1) (s3 1 1) (by simp; omega) (by simp)
 have e5:=P1 (w:=w.st (40::mE x) (max 1 (nn 1 (mA x))) 0) (x:=[41]) (s4 1 1 1 1) (by simp; omega)
 simp -implicitDefEqProofs at e2 e3 e4 e5
 simp -implicitDefEqProofs [aFl,zN,vU,pC,e1,e2,e3,e4,e5,nF,lY,htr]
 refine congrArg (fun w=>WH w B) (WS.BD rfl ?_ rfl)
 unfold nn
 split <;> omega
@[simp] theorem GE.c0 (x:GE):x.cells[0]?=some (.int .i64 x.kind):=by cases x; rfl
@[simp] theorem GE.c2 (x:GE):x.cells[2]?=some (.int .i64 x.num):=by cases x; rfl
@[simp] theorem GE.c3 (x:GE):x.cells[3]?=some (.str x.name):=by cases x; rfl
@[simp] theorem GE.g0 (x:GE) {h:0 < x.cells.length}:x.cells[0]'h=.int .i64 x.kind:=by cases x; rfl
@[simp] theorem GE.g2 (x:GE) {h:2 < x.cells.length}:x.cells[2]'h=.int .i64 x.num:=by cases x; rfl
@[simp] theorem GE.g3 (x:GE) {h:3 < x.cells.length}:x.cells[3]'h=.str x.name:=by cases x; rfl
@[simp] theorem GE.g4 (x:GE) {h:4 < x.cells.length}:x.cells[4]'h=.slice (x.args.map GE.cells) .no:=by cases x; simp [GE.cells,GE.args,GE.nO]
theorem c83 {x:GE}(hx:IF x) (hk:1≤x.kind∧x.kind≤26) (l:Nat):WOk 83 [.agg x.cells,.int .i64 (l:Int)] (if 0 < xM x.kind∧xM x.kind < l then 40::(mE x++[41]) else mE x)
  (if 0 < xM x.kind∧xM x.kind < l then mA x+1 else mA x):=by
 intro w B hB hb hn
 refine k9 (aBs _ _ _ _ _) ?_
 have s2:=AA (x:=x) hB
 have htr:=fun w C=>oD (w:=w) (C:=C) hB
 have e0:=c82 x.kind hk
 by_cases h:0 < xM x.kind∧xM x.kind < l
 ·rw [if_pos h] at hb hn ⊢
  rw [if_pos h]
  have e1:=aI9 hx w _ s2 hb hn
  obtain⟨h1,h2⟩:=h
  simp -implicitDefEqProofs [m83,zN,e0,h1,h2,nF,lY,htr,e1]
 ·rw [if_neg h] at hb hn ⊢
  rw [if_neg h]
  have e1:=hx w _ s2 hb hn
  by_cases h1:0 < xM x.kind
  ·have h2:¬xM x.kind < l:=by omega
   simp -implicitDefEqProofs [m83,zN,e0,h1,h2,nF,lY,htr,e1]
  ·simp -implicitDefEqProofs [m83,zN,e0,h1,nF,lY,htr,e1]
theorem c88 {x:GE}(hx:IF x) (hk:1≤x.kind∧x.kind≤26) (s:List UInt8):WOk 88 [.str s,.agg x.cells] (s++(if 0 < xM x.kind∧xM x.kind < 8 then 40::(mE x++[41]) else mE x))
  ((if 0 < xM x.kind∧xM x.kind < 8 then mA x+1 else mA x)+1):=by
 intro w B hB hb hn
 have hc:=c83 hx hk 8
 generalize (if 0 < xM x.kind∧xM x.kind < 8 then 40::(mE x++[41]) else mE x)=t at hb hn hc ⊢
 generalize (if 0 < xM x.kind∧xM x.kind < 8 then mA x+1 else mA x)=n at hb hn hc ⊢
 simp only [ac2] at hb
 refine k9 (aBx _ _ _ _ _) ?_
 have s3:=fun n s=>AB (x:=x) (n:=n) (s:=s) hB
 have htr:=fun w C=>oD (w:=w) (C:=C) hB
 have e1:=P1 (w:=w) (x:=s) (s3 1 1) (by omega)
 have e2:=c85 (w:=w.st s 0 0) (s3 1 1) (by simp; omega)
 have e3:=hc (w.st s 1 1) _ (s3 1 1) (by simp; omega) (by simp; omega)
 have e4:=c86 (w:=w.st (s++t) (max 1 (nn 1 n)) 1) (s3 1 1) (by simp; omega) (by simp)
 simp -implicitDefEqProofs at e2 e3 e4
 simp -implicitDefEqProofs [m88,zN,vU,pC,e1,e2,e3,e4,nF,lY,htr]
 refine congrArg (fun w=>WH w B) (WS.BD rfl ?_ rfl)
 unfold nn
 split <;> omega
theorem J0:∀(l:List Part) (p:Part),vN (l++[p])=vN l++(if l=[] then [] else [44,32])++p.2.1
 | [],p=>by simp [vN]
 | [q],p=>by simp [vN]
 | q::r::l,p=>by
  have:=J0 (r::l) p
  simp only [af2,vN] at this ⊢
  rw [this]
  simp
theorem QE:∀(l:List Part) (p:Part),wJ (l++[p])=max (wJ l) p.2.2
 | [],p=>by simp [wJ]
 | q::l,p=>by
  simp only [af2,wJ,QE l p]
  omega
theorem Vp (a:List Part):∀(b:List Part),(vN a).length≤(vN (a++b)).length
 | []=>by simp
 | p::b=>by
  have h1:=Vp (a++[p]) b
  rw [af9] at h1
  rw [J0] at h1
  simp only [ac2,af2,List.nil_append] at h1
  omega
end
section
open Go Hk
section
variable {w:WS}{B C:List lE}{cs:List kM}
theorem avB:lK 5 (WH w B) (.agg [.int .i64 0,.int .i64 0,.int .i64 0,.str [],.slice [] .nil]) =
  some (.ptr (B.length+3) 0,WH w (B++[.cells [.int .i64 0,.int .i64 0,.int .i64 0,.str [],.slice [] (.own (B.length+4))],.front 0 0])):=by
 simp [lK,lD,nF,pC]
theorem akI {b b':lE}:(WH w (B++b::C)).set (B.length+3) b'=WH w (B++b'::C):=by
 simp [WH,Mk]
theorem stE {x:GE}(hc:cs.length=5):pU 5 (WH w (B++.cells cs::C)) (.ptr (B.length+3) 0) (.agg x.cells)=some (WH w (B++.cells x.cells::C)):=by
 have e:=WE (w:=w) (B:=B) (C:=C) (cs:=cs)
 have hk:∀os,pV (WH w (B++.cells cs::C)) os x.cells=x.cells:=fun os=>rA (by cases x; simp [GE.cells,kM.isNil])
 simp only [pU,BT,e,D1,mY,af4,Fz,GE.q8,hc]
 rw [if_pos ⟨trivial,by omega,x.Ud⟩,hk]
 have:putCells cs 0 x.cells=x.cells:=by simp [putCells,hc]
 rw [this,akI]
end
section
variable {w:WS}{B:List lE}
def An (l:List GE) (i:Nat):List UInt8:=vN ((l.take i).map lW)
def AI (l:List GE) (i:Nat):Nat:=wJ ((l.take i).map lW)
theorem M8 {l:List GE}{i:Nat}{x:GE}(h:l[i]?=some x):An l (i+1)=An l i++(if i=0 then [] else [44,32])++mE x:=by
 have hl:i < l.length:=(List.getElem?_eq_some_iff.1 h).1
 unfold An mE
 rw [tL h,List.map_append,List.map_cons,List.map_nil,J0]
 congr 2
 have:((l.take i).map lW=[])=(i=0):=by
  rw [List.map_eq_nil_iff,List.take_eq_nil_iff]
  apply propext
  constructor
  ·rintro(h | h)
   ·exact h
   ·subst h; simp at hl
  ·exact .inl
 simp only [this]
theorem M7 {l:List GE}{i:Nat}{x:GE}(h:l[i]?=some x):AI l (i+1)=max (AI l i) (mA x):=by
 unfold AI mA
 rw [tL h,List.map_append,List.map_cons,List.map_nil,QE]
theorem Uq (l:List GE) (i:Nat):(An l i).length≤(vN (l.map lW)).length:=by
 have:=Vp ((l.take i).map lW) ((l.drop i).map lW)
 rw [←List.map_append,List.take_append_drop] at this
 exact this
theorem UX:∀(a b:List Part),wJ a≤wJ (a++b)
 | [],_=>by simp [wJ]
 | p::a,b=>by simp only [wJ,af2]; have:=UX a b; omega
theorem ag9 (l:List GE) (i:Nat):AI l i≤wJ (l.map lW):=by
 have:=UX ((l.take i).map lW) ((l.drop i).map lW)
 rw [←List.map_append,List.take_append_drop] at this
 exact this
theorem G9:∀(l:List Part),l.length≤(vN l).length+1
 | []=>by simp
 | [p]=>by simp
 | p::q::r=>by
  have:=G9 (q::r)
  simp only [vN,ac2,ac8] at this ⊢
  omega
theorem ai0 (l:List GE) (hl:l.length≤4611686018427387904) (hok:∀x∈l,IF x) (s:List UInt8) (hB:Still B) (W:List UInt8)
  (hb:w.bs.length+(W.length+(vN (l.map lW)).length)≤140737488355328) (hn:w.now+(wJ (l.map lW)+1)≤1000000000000000):∀i,i≤l.length →
  mI (NI KK (B.length+3)) ([.ptr 1 0,.str s,.slice (l.map GE.cells) .no,.int .i64 (l.length:Int),.int .i64 (i:Int)],WH (w.st (W++An l i) (max 1 (nn 1 (AI l i))) 1) B) =
   some (.exit 0,[.ptr 1 0,.str s,.slice (l.map GE.cells) .no,.int .i64 (l.length:Int),.int .i64 (l.length:Int)],WH (w.st (W++vN (l.map lW)) (max 1 (nn 1 (wJ (l.map lW)))) 1) B):=by
 refine tN (fun i:Nat=>([.ptr 1 0,.str s,.slice (l.map GE.cells) .no,.int .i64 (l.length:Int),.int .i64 (i:Int)],WH (w.st (W++An l i) (max 1 (nn 1 (AI l i))) 1) B)) (fun i=>i≤l.length) (fun i=>l.length - i) _ fun i hi=>?_
 have htr:=fun w C=>oD (w:=w) (C:=C) hB
 by_cases h:i < l.length
 ·left
  refine⟨i+1,?_,h,by omega,rfl⟩
  obtain⟨x,hx⟩:∃x,l[i]?=some x:=⟨l[i],ac0 h⟩
  have hxe:=hok x (List.mem_of_getElem? hx)
  have t1:=M8 hx
  have t2:=M7 hx
  have t3:=Uq l (i+1)
  have t4:=ag9 l (i+1)
  have w1:=rV (a:=i) (by omega)
  have s2:=AB (x:=x) (n:=0) (s:=0) hB
  have s4:=Ov (x:=x) (n:=0) (s:=0) (n':=1) (s':=1) hB
  have hst:=fun w C cs (hc:aa0 cs=5)=>stE (w:=w) (B:=B) (C:=C) (x:=x) hc
  have htr2:∀w C,l9 (B.length+2+3) (WH w (B++lE.cells x.cells::.front 0 0::C))=some (WH w (B++[lE.cells x.cells,.front 0 0])):=fun w C=>by
   have:=oD (w:=w) (B:=B++[lE.cells x.cells,.front 0 0]) (C:=C) s2
   simpa using this
  have htr0:=fun w=>tB (w:=w) (B:=B++[lE.cells x.cells,.front 0 0]) s2
  have hsan:∀h,kM.mO (B.length+1+1+3) h (.ptr (B.length+3) 0)=.ptr (B.length+3) 0:=fun h=>lC (by omega)
  have hsan0:∀h o,kM.mO (B.length+1+1+3) h (.ptr 1 o)=.ptr 1 o:=fun h o=>lC (by omega)
  simp only [ac2,ac8,ad0] at htr0
  rw [t2] at t4
  have hxi:∀hh:i < l.length,l[i]'hh=x:=fun hh=>by rw [ac0 hh] at hx; exact Option.some.inj hx
  have hld:∀h,l_ true 5 h (.pptr x.cells)=some (.agg x.cells):=fun h=>by simp [l_]
  by_cases h0:i=0
  ·rw [if_pos h0,List.append_nil] at t1
   have hp:¬0 < i:=by omega
   rw [t1,ac2] at t3
   have e3:=hxe (w.st (W++An l i) (max 1 (nn 1 (AI l i))) 1) _ s2 (by simp; omega) (by simp; omega)
   simp -implicitDefEqProofs only [WS.akT] at e3
   simp -implicitDefEqProofs [NI,h,hp,hxi,hld,avB,hst,kS,htr,htr0,htr2,hsan,hsan0,nF,e3,w1,y_,-ag1]
   refine congrArg (fun w=>WH w B) (WS.BD (by rw [t1]) ?_ rfl)
   rw [t2]
   unfold nn
   split <;> split <;> split <;> omega
  ·rw [if_neg h0] at t1
   have hp:0 < i:=by omega
   rw [t1,ac2,ac2] at t3
   simp only [ac8,ad0] at t3
   have e2:=P1 (w:=w.st (W++An l i) (max 1 (nn 1 (AI l i))) 1) (x:=[44,32]) s4 (by simp; omega)
   have e3:=hxe (w.st (W++(An l i++[44,32])) (max 1 (nn 1 (AI l i))) 1) _ s2 (by simp; omega) (by simp; omega)
   simp -implicitDefEqProofs only [WS.akT,af9,asT,Nat.add_zero,Nat.max_zero] at e2 e3
   simp -implicitDefEqProofs [NI,h,hp,hxi,hld,avB,hst,kS,htr,htr0,htr2,hsan,hsan0,nF,vU,pC,e2,e3,w1,y_,-ag1]
   refine congrArg (fun w=>WH w B) (WS.BD (by rw [t1]; simp) ?_ rfl)
   rw [t2]
   unfold nn
   split <;> split <;> split <;> omega
 ·right
  have:i=l.length:=by omega
  subst this
  constructor
  ·simp -implicitDefEqProofs [NI,kS,tB hB,y_,An,AI]
  ·simp
theorem c87 (l:List GE) (hok:∀x∈l,IF x) (s u:List UInt8) :
  WOk 87 [.str u,.slice (l.map GE.cells) .no,.str s] (u++40::(vN (l.map lW)++s++[41])) (wJ (l.map lW)+1):=by
 intro w B hB hb hn
 simp only [ac2,ac8,ad0] at hb
 have hl:l.length≤4611686018427387904:=by
  have:=G9 (l.map lW)
  rw [List.length_map] at this
  omega
 refine k9 (aBw _ _ _ _ _ _) ?_
 have s1:=VC (n:=2) (s:=1) hB
 have s2:Still (B++[.front 2 1,.front 2 1]):=o9 hB (mM (mM oC))
 have htr:=fun w C=>oD (w:=w) (C:=C) hB
 have e1:=P2 (w:=w) (x:=u) (y:=[40]) s1 (by simp; omega)
 have e2:=c85 (w:=w.st (u++[40]) 0 0) s1 (by simp; omega)
 have e3:=ai0 (w:=w) l hl hok s s1 (u++[40]) (by simp; omega) hn 0 (Nat.zero_le _)
 have e4:=P2 (w:=w.st (u++[40]++vN (l.map lW)) (max 1 (nn 1 (wJ (l.map lW)))) 1) (x:=s) (y:=[41]) s2 (by simp; omega)
 have e5:=c86 (w:=w.st (u++[40]++vN (l.map lW)++(s++[41])) (max 1 (nn 1 (wJ (l.map lW)))) 1) s2 (by simp; omega) (by simp)
 have t0:An l 0=[]:=rfl
 have n0:AI l 0=0:=rfl
 simp -implicitDefEqProofs [t0,n0] at e2 e3 e4 e5
 simp -implicitDefEqProofs [m87,Hr,pC,e1,e2,e3,e4,e5,nF,lY,htr]
 refine congrArg (fun w=>WH w B) (WS.BD rfl ?_ rfl)
 unfold nn
 split <;> omega
end
theorem Xg {k n:Int}{name:List UInt8}{len:Nat}(h:rL k n name len=true):1≤k∧k≤26:=by
 unfold rL tT at h
 split at h
 ·cases h
 ·rename_i m hm
  split at hm
  ·cases hm
  ·omega
theorem CD {x:GE}(h:nU x=true):1≤x.kind∧x.kind≤26:=by
 cases x
 simp only [nU,Bool.and_eq_true] at h
 exact Xg h.1
theorem zX {k:Int}(hk:1≤k∧k≤26) (t:Nat) (a:GE) (ha:1≤a.kind∧a.kind≤26) (b:Bool) (hb:b=!decide (0 < xM a.kind∧xM a.kind < t)) :
  (if 0 < xM a.kind∧xM a.kind < t then 40::(mE a++[41]) else mE a)=uE b (lW a)∧(if 0 < xM a.kind∧xM a.kind < t then mA a+1 else mA a)=sX b (lW a):=by
 subst hb
 by_cases h:0 < xM a.kind∧xM a.kind < t
 ·rw [if_pos h,if_pos h,decide_eq_true h]; exact⟨rfl,rfl⟩
 ·rw [if_neg h,if_neg h,decide_eq_false h]; exact⟨rfl,rfl⟩
theorem AX (x:GE):(lW x).1=x.kind:=by cases x; rfl
theorem D2 {k:Int}(hk:1≤k∧k≤26):1≤lJ k∧lJ k≤8∧xM k=if lJ k=8 then 0 else lJ k:=by
 rcases Ah hk with rfl | rfl | rfl | rfl | rfl | rfl | rfl | rfl | rfl | rfl | rfl | rfl | rfl | rfl | rfl | rfl | rfl | rfl | rfl | rfl | rfl | rfl | rfl | rfl | rfl | rfl <;> decide
end
section
open Go Hk
theorem s_ (x:GE):mE x=yY x.kind x.num x.name (x.args.map lW):=by cases x; simp [mE,lW,FU,GE.kind,GE.num,GE.name,GE.args]
theorem sV (x:GE):mA x=yM x.kind (x.args.map lW):=by cases x; simp [mA,lW,FU,GE.kind,GE.args]
theorem Fy {k:Int}{a:GE}(hk:1≤k∧k≤26) (ha:1≤a.kind∧a.kind≤26) (ht:lJ k < 8) :
  mX (lJ k) (lW a).1=!decide (0 < xM a.kind∧xM a.kind < (if lJ k=1 then 2 else lJ k)):=by
 obtain⟨a1,a2,a3⟩:=D2 hk
 obtain⟨b1,b2,b3⟩:=D2 ha
 rw [AX,b3]
 unfold mX
 rw [←decide_not]
 apply decide_eq_decide.2
 split <;> split <;> omega
theorem MG {k:Int}{a:GE}(hk:1≤k∧k≤26) (ha:1≤a.kind∧a.kind≤26) (ht:lJ k < 8) :
  decide (lJ k < lJ (lW a).1)=!decide (0 < xM a.kind∧xM a.kind < lJ k+1):=by
 obtain⟨a1,a2,a3⟩:=D2 hk
 obtain⟨b1,b2,b3⟩:=D2 ha
 rw [AX,b3,←decide_not]
 apply decide_eq_decide.2
 split <;> omega
theorem MF {a:GE}(ha:1≤a.kind∧a.kind≤26):decide (lJ (lW a).1=8)=!decide (0 < xM a.kind∧xM a.kind < 8):=by
 obtain⟨b1,b2,b3⟩:=D2 ha
 rw [AX,b3,←decide_not]
 apply decide_eq_decide.2
 split <;> omega
theorem ix0 {a:GE}{l:List GE}:kX 5 (.slice ((a::l).map GE.cells) .no) (.int .i64 0)=some (.pptr a.cells):=by rw [nZ]; simp
theorem ix1 {a b:GE}{l:List GE}:kX 5 (.slice ((a::b::l).map GE.cells) .no) (.int .i64 1)=some (.pptr b.cells):=by rw [nZ]; simp
theorem WY {x:GE}{h:kP}:l_ true 5 h (.pptr x.cells)=some (.agg x.cells):=by simp [l_]
section
variable {B:List lE}
theorem yR {m:Nat}{h:kP}{k:Nat}{o:Nat}(hk:k < m):kM.mO m h (.ptr k o)=.ptr k o:=lC hk
end
theorem aEO {x a b:GE}(hx:x.args=[a,b]) (hk:1≤x.kind∧x.kind≤26) (ht:lJ x.kind < 8) (ha:IF a) (hb:IF b) (hka:1≤a.kind∧a.kind≤26) (hkb:1≤b.kind∧b.kind≤26):IF x:=by
 intro w B hB hbd hn
 obtain⟨a1,a2,a3⟩:=D2 hk
 have hbn:xM x.kind=lJ x.kind:=by rw [a3,if_neg (by omega)]
 have hbs:aaY x.kind=qG x.kind:=if_pos ht
 have t1:mE x=uE (mX (lJ x.kind) (lW a).1) (lW a)++32::(qG x.kind++32::uE (decide (lJ x.kind < lJ (lW b).1)) (lW b)):=by
  rw [s_,hx]; unfold yY; rw [if_pos ht]; rfl
 have t2:mA x=max (sX (mX (lJ x.kind) (lW a).1) (lW a)) (sX (decide (lJ x.kind < lJ (lW b).1)) (lW b)):=by
  rw [sV,hx]; unfold yM; rw [if_pos ht]; rfl
 have c1:=c83 ha hka (if lJ x.kind=1 then 2 else lJ x.kind)
 rw [(zX hk _ a hka _ (Fy hk hka ht)).1,(zX hk _ a hka _ (Fy hk hka ht)).2] at c1
 have c2:=c83 hb hkb (lJ x.kind+1)
 rw [(zX hk _ b hkb _ (MG hk hkb ht)).1,(zX hk _ b hkb _ (MG hk hkb ht)).2] at c2
 rw [t1,t2]
 rw [t1] at hbd
 rw [t2] at hn
 generalize uE (mX (lJ x.kind) (lW a).1) (lW a)=A at hbd c1 ⊢
 generalize uE (decide (lJ x.kind < lJ (lW b).1)) (lW b)=D at hbd c2 ⊢
 generalize sX (mX (lJ x.kind) (lW a).1) (lW a)=na at hn c1 ⊢
 generalize sX (decide (lJ x.kind < lJ (lW b).1)) (lW b)=nb at hn c2 ⊢
 simp only [ac2,ac8] at hbd
 refine k9 (E8 _ _ _ _) ?_
 have s2:=AA (x:=x) hB
 have s3:=AB (x:=x) (n:=3) (s:=1) hB
 have htr:=fun w C=>oD (w:=w) (C:=C) hB
 have htr2:∀w,l9 (B.length+1+3) (WH w (B++[lE.cells x.cells]))=some (WH w (B++[lE.cells x.cells])):=fun w=>by
  have:=tB (w:=w) s2
  simpa using this
 have e0:=c82 x.kind hk
 have e1:=c1 w _ s2 (by omega) (by omega)
 have e2:=P3 (w:=w.st A na 0) (x:=[32]) (y:=qG x.kind) (z:=[32]) s3 (by simp; omega)
 have e3:=c2 (w.st (A++32::(qG x.kind++[32])) na 0) _ s3 (by simp; omega) (by simp; omega)
 have hpos:0 < lJ x.kind:=by omega
 have q1:∀h o,kM.mO (B.length+1+3) h (.ptr (B.length+3) o)=.ptr (B.length+3) o:=fun h o=>yR (by omega)
 have q2:∀h o,kM.mO (B.length+1+3) h (.ptr 1 o)=.ptr 1 o:=fun h o=>yR (by omega)
 have w1:=rV (a:=lJ x.kind) (by omega)
 simp -implicitDefEqProofs [-ag1] at e2 e3
 have i0:kX 5 (.slice (x.args.map GE.cells) .no) (.int .i64 0)=some (.pptr a.cells):=by rw [hx]; exact ix0
 have i1:kX 5 (.slice (x.args.map GE.cells) .no) (.int .i64 1)=some (.pptr b.cells):=by rw [hx]; exact ix1
 have hl:x.args.length=2:=by rw [hx]; rfl
 by_cases h1:lJ x.kind=1
 ·simp -implicitDefEqProofs [h1] at e1 e3
  have w2:IntKind.wrap .i64 2=2:=by decide
  simp -implicitDefEqProofs [VU,zN,e0,hbn,hbs,h1,kS,htr2,q1,q2,nF,i0,i1,hl,WY,Cg,pC,e1,e2,e3,w2,lY,htr]
  refine congrArg (fun w=>WH w B) (WS.BD rfl ?_ rfl)
  unfold nn
  split <;> omega
 ·have h1':¬(lJ x.kind:Int)=1:=by omega
  simp -implicitDefEqProofs [h1] at e1
  simp -implicitDefEqProofs [VU,zN,e0,hbn,hbs,hpos,h1',kS,htr2,q1,q2,nF,i0,i1,hl,WY,Cg,pC,e1,e2,e3,w1,lY,htr,-ag1]
  refine congrArg (fun w=>WH w B) (WS.BD rfl ?_ rfl)
  unfold nn
  split <;> omega
end
end Go.Proofs.YtlddmnojanpdoaaGreatDoor
