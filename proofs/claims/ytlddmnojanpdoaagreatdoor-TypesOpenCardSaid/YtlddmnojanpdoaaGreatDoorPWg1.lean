/-
  The texts WG.M, WG.M2, WG.M3, WG.LL, WG.L8, WG.A, WG.B, WG.C, WG.D, WG.E, WG.F, WG.G, WG.H, WG.I, WG.J, WG.K, WG.L, WG.O, WG.Q, WG.R, WG.S1, WG.S2, WG.S3, WG.S4, WG.T, WG.U, WG.V, WG.W, WG.X1, WG.X2, WG.X3, WG.X4, WG.Y, WG.Z, WG.ZA, WG.ZB, WG.ZC, WG.ZD, WG.BA, WG.CA, one behind another. No conditions.
-/
import Derived.Test.YtlddmnojanpdoaaGreatDoorPLg1
set_option linter.unusedVariables false
set_option linter.unusedSimpArgs false
set_option linter.all false
open Bool renaming and_eq_true → ac5, false_eq_true → al9
open Int renaming cast_ofNat_Int → ab9, natCast_add → af8
open List renaming all_eq_true → ae8, append_assoc → ag1, cons_append → ae7, getElem?_eq_getElem → ab3, getElem?_eq_some_iff → ab0, getElem?_map → ai6, length → aa1, length_append → ab5, length_cons → ac1, length_map → aj1, length_nil → ac6, map_append → am3, map_cons → ai3, map_nil → al1, mem_of_getElem? → ad8, nil_append → ah4
open Nat renaming add_mul → al5, zero_add → al6, zero_le → ah8
open Option renaming bind_some → ad9
namespace Go.Proofs.YtlddmnojanpdoaaGreatDoor
noncomputable section
open Go Hk
def aE7 (K:kW) (a0 a1:kM) (h0:kP):Option (nO×kP) :=
 (qX K 161 a0 h0 fun t0 h1=>(k_ a0).bind fun t2=>(kO 1 t2).bind fun t3=>(mA false 1 h1 t3).bind fun t4=>kR (AK 6 1 1 1 h1 t4 a1) fun t5 h6=>(k_ a0).bind fun t7=>(kO 1 t7).bind fun t8=>(pU 1 h6 t8 t5).bind fun h9=>(nQ a1).bind fun aE=>some (.ret,[aE,.niliface],h9)).bind fun aC=>wL aC.2 fun aA aB aD=>Ex.nA aC.1 (lZ (aa1 h0) (.tuple [aA,aB]) aD)
theorem aqC (K:kW) (a0 a1:kM) (h0:kP):o6 Tryz.prog mK mJ K 124 [a0,a1] h0=aE7 (lU mK K) a0 a1 h0:=by kernel_rfl
def Sa (K:kW) (m:Nat) (s:List kM×kP):Option R :=
 B5 s fun aB aC aD aA h5=>aq .lss aA aD ((kZ 1 aC aA).bind fun t7=>(mA false 1 h5 t7).bind fun t8=>(k_ aB).bind fun t9=>(kO 0 t9).bind fun aF=>o_ K 124 aF t8 h5 fun aH aE=>(kX .add aA (.int .i64 1)).bind fun aG=>kT m .normal [aB,aC,aD,aG] aE) (kT m (.exit 0) [aB,aC,aD,aA] h5)
def m68 (K:kW) (a0 a1:kM) (h0:kP):Option (nO×kP) :=
 ((mO a1).bind fun t0=>(mJ (Sa K (aa1 h0)) ([a0,a1,t0,(.int .i64 0)],h0)).bind fun aB=>B5 aB.2 fun aD aE aF aG aA=>Ex.lW aB.1 none (fun aH=>Ex.inBlock 0 aH (some (.normal,([]:List kM),aA)) (fun aI=>some (aI,([]:List kM),aA)))).bind fun aC=>(fun aJ=>Ex.nA aC.1 (lZ (aa1 h0) (.tuple []) aJ))  aC.2.2
theorem aA1 (K:kW) (a0 a1:kM) (h0:kP):o6 Tryz.prog mK mJ K 68 [a0,a1] h0=m68 (lU mK K) a0 a1 h0:=by kernel_rfl
def m84 (K:kW) (a0 a1:kM) (h0:kP):Option (nO×kP) :=
 (qX K 89 a1 h0 fun t0 h1=>kR (kY 1 1 [(.str [])] [(0,t0)] h1) fun t2 h3=>o_ K 68 a0 t2 h3 fun t4 h5=>some (.normal,([]:List kM),h5)).bind fun r6=>(fun h7=>Ex.nA r6.1 (lZ (aa1 h0) (.tuple []) h7))  r6.2.2
theorem aBh (K:kW) (a0 a1:kM) (h0:kP):o6 Tryz.prog mK mJ K 84 [a0,a1] h0=m84 (lU mK K) a0 a1 h0:=by kernel_rfl
def m85 (K:kW) (a0:kM) (h0:kP):Option (nO×kP) :=
 ((k_ a0).bind fun t0=>(kO 0 t0).bind fun t1=>(mA false 1 h0 t1).bind fun t2=>(kX .add t2 (.int .i64 1)).bind fun t3=>(k_ a0).bind fun t4=>(kO 0 t4).bind fun t5=>(pU 1 h0 t5 t3).bind fun h6=>(k_ a0).bind fun t7=>(kO 1 t7).bind fun t8=>(mA false 1 h6 t8).bind fun t9=>gq false t9 (lC a0 h6) h6 fun aI aB=>gq false t9 ((k_ aI).bind fun aJ=>lC aJ aB) aB fun aK aC=>gq false t9 ((kO 0 aK).bind fun aL=>lC aL aC) aC fun aM aA=>gq false t9 ((mA false 1 aA aM).bind fun aN=>lC aN aA) aA fun aO aD=>gq false t9 ((kX .gtr aO (.int .i64 64)).bind fun aP=>lC aP aD) aD fun aQ aF=>(lO t9 (.bool true) aQ).bind fun aR=>(k_ a0).bind fun aS=>(kO 1 aS).bind fun aT=>(pU 1 aF aT aR).bind fun aG=>some (.normal,([]:List kM),aG)).bind fun aE=>(fun aH=>Ex.nA aE.1 (lZ (aa1 h0) (.tuple []) aH))  aE.2.2
theorem aBi (K:kW) (a0:kM) (h0:kP):o6 Tryz.prog mK mJ K 85 [a0] h0=m85 (lU mK K) a0 h0:=by kernel_rfl
def m86 (K:kW) (a0:kM) (h0:kP):Option (nO×kP) :=
 ((k_ a0).bind fun t0=>(kO 0 t0).bind fun t1=>(mA false 1 h0 t1).bind fun t2=>(kX .sub t2 (.int .i64 1)).bind fun t3=>(k_ a0).bind fun t4=>(kO 0 t4).bind fun t5=>(pU 1 h0 t5 t3).bind fun h6=>some (.normal,([]:List kM),h6)).bind fun r7=>(fun h8=>Ex.nA r7.1 (lZ (aa1 h0) (.tuple []) h8))  r7.2.2
theorem aBj (K:kW) (a0:kM) (h0:kP):o6 Tryz.prog mK mJ K 86 [a0] h0=m86 (lU mK K) a0 h0:=by kernel_rfl
def m69 (K:kW) (a0 a1:kM) (h0:kP):Option (nO×kP) :=
 (aq .eql a1 (.int .i64 1) (kR (kY 1 1 [(.str [])] [(0,(.str [115,101,99,32]))] h0) fun t1 h2=>o_ K 68 a0 t1 h2 fun t3 h4=>some (.ret,([]:List kM),h4)) (kR (kY 1 1 [(.str [])] [(0,(.str [112,117,98,32]))] h0) fun t5 h6=>o_ K 68 a0 t5 h6 fun t7 h8=>some (.normal,([]:List kM),h8))).bind fun r9=>(fun aA=>Ex.nA r9.1 (lZ (aa1 h0) (.tuple []) aA))  r9.2.2
theorem aA2 (K:kW) (a0 a1:kM) (h0:kP):o6 Tryz.prog mK mJ K 69 [a0,a1] h0=m69 (lU mK K) a0 a1 h0:=by kernel_rfl
def m70 (K:kW) (a0 a1:kM) (h0:kP):Option (nO×kP) :=
 (kR (lL 3 h0 a1) fun t0 h1=>(kO 0 t0).bind fun t2=>(mA false 1 h1 t2).bind fun t3=>(kX .eql t3 (.int .i64 1)).bind fun t4=>(lH t4 (kR (kY 1 1 [(.str [])] [(0,(.str [109,97,115,107]))] h1) fun t5 h6=>o_ K 68 a0 t5 h6 fun t7 h8=>kT (aa1 h1) .normal [a0,t0] h8) ((kX .eql t3 (.int .i64 2)).bind fun t9=>(lH t9 (kR (kY 1 1 [(.str [])] [(0,(.str [117,56]))] h1) fun aT aJ=>o_ K 68 a0 aT aJ fun bB aK=>kT (aa1 h1) .normal [a0,t0] aK) (kR (kY 1 1 [(.str [])] [(0,(.str [117,51,50]))] h1) fun aU aL=>o_ K 68 a0 aU aL fun bC aM=>kT (aa1 h1) .normal [a0,t0] aM)).bind fun aF=>wL aF.2 fun aC aE aN=>Ex.uB aF.1 (kT (aa1 h1) .normal [aC,aE] aN))).bind fun aG=>wL aG.2 fun aD aA aB=>Ex.uB aG.1 ((kO 1 aA).bind fun aV=>(mA false 1 aB aV).bind fun aW=>(kX .gtr aW (.int .i64 0)).bind fun aX=>(lH aX ((kO 1 aA).bind fun aY=>(mA false 1 aB aY).bind fun aZ=>qX K 89 aZ aB fun a_ aO=>kR (kY 3 1 [(.str [])] [(0,(.str [91])),(1,a_),(2,(.str [93]))] aO) fun bA aP=>o_ K 68 aD bA aP fun bD aQ=>kT (aa1 aB) .normal ([]:List kM) aQ) (kT (aa1 aB) .normal ([]:List kM) aB)).bind fun aH=>(fun aR=>Ex.uB aH.1 (some (.normal,([]:List kM),aR)))  aH.2.2)).bind fun aI=>(fun aS=>Ex.nA aI.1 (lZ (aa1 h0) (.tuple []) aS))  aI.2.2
theorem aA4 (K:kW) (a0 a1:kM) (h0:kP):o6 Tryz.prog mK mJ K 70 [a0,a1] h0=m70 (lU mK K) a0 a1 h0:=by kernel_rfl
def m83 (K:kW) (a0 a1 a2:kM) (h0:kP):Option (nO×kP) :=
 (kR (lL 5 h0 a1) fun t0 h1=>(kO 0 t0).bind fun t2=>(mA false 1 h1 t2).bind fun t3=>qX K 82 t3 h1 fun t4 h5=>(lI 0 t4).bind fun t6=>(lI 1 t4).bind fun t7=>(kX .gtr t6 (.int .i64 0)).bind fun t8=>gq true t8 (lC t6 h5) h5 fun t9 aB=>gq true t8 (lC a2 aB) aB fun aH aC=>gq true t8 ((kX .lss t9 aH).bind fun aI=>lC aI aC) aC fun aJ aA=>(lO t8 aJ (.bool false)).bind fun aK=>lH aK ((mA true 5 aA t0).bind fun aL=>o_ K 129 a0 aL aA fun aN aE=>some (.ret,([]:List kM),aE)) ((mA true 5 aA t0).bind fun aM=>o_ K 37 a0 aM aA fun aO aF=>some (.normal,([]:List kM),aF))).bind fun aD=>(fun aG=>Ex.nA aD.1 (lZ (aa1 h0) (.tuple []) aG))  aD.2.2
theorem aBg (K:kW) (a0 a1 a2:kM) (h0:kP):o6 Tryz.prog mK mJ K 83 [a0,a1,a2] h0=m83 (lU mK K) a0 a1 a2 h0:=by kernel_rfl
def aE9 (K:kW) (a0 a1:kM) (h0:kP):Option (nO×kP) :=
 (kR (lL 5 h0 a1) fun t0 h1=>kR (kY 1 1 [(.str [])] [(0,(.str [40]))] h1) fun t2 h3=>o_ K 68 a0 t2 h3 fun t4 h5=>(k_ a0).bind fun t6=>(kO 2 t6).bind fun t7=>qX K 85 t7 h5 fun t8 h9=>(mA true 5 h9 t0).bind fun aG=>o_ K 37 a0 aG h9 fun aK aB=>(k_ a0).bind fun aH=>(kO 2 aH).bind fun aI=>qX K 86 aI aB fun aL aC=>kR (kY 1 1 [(.str [])] [(0,(.str [41]))] aC) fun aJ aD=>o_ K 68 a0 aJ aD fun aM aE=>some (.normal,([]:List kM),aE)).bind fun aA=>(fun aF=>Ex.nA aA.1 (lZ (aa1 h0) (.tuple []) aF))  aA.2.2
theorem aqE (K:kW) (a0 a1:kM) (h0:kP):o6 Tryz.prog mK mJ K 129 [a0,a1] h0=aE9 (lU mK K) a0 a1 h0:=by kernel_rfl
def m88 (K:kW) (a0 a1 a2:kM) (h0:kP):Option (nO×kP) :=
 (kR (lL 5 h0 a2) fun t0 h1=>kR (kY 1 1 [(.str [])] [(0,a1)] h1) fun t2 h3=>o_ K 68 a0 t2 h3 fun t4 h5=>(k_ a0).bind fun t6=>(kO 2 t6).bind fun t7=>qX K 85 t7 h5 fun t8 h9=>(mA true 5 h9 t0).bind fun aE=>kq3 K 83 a0 aE (.int .i64 8) h9 fun aH aB=>(k_ a0).bind fun aF=>(kO 2 aF).bind fun aG=>qX K 86 aG aB fun aI aC=>some (.normal,([]:List kM),aC)).bind fun aA=>(fun aD=>Ex.nA aA.1 (lZ (aa1 h0) (.tuple []) aD))  aA.2.2
theorem aBl (K:kW) (a0 a1 a2:kM) (h0:kP):o6 Tryz.prog mK mJ K 88 [a0,a1,a2] h0=m88 (lU mK K) a0 a1 a2 h0:=by kernel_rfl
def NB (K:kW) (m:Nat) (s:List kM×kP):Option R :=
 Eu s fun aE aD aB aC aA aM=>aq .lss aA aC ((kZ 5 aB aA).bind fun aU=>(mA true 5 aM aU).bind fun aV=>kR (lL 5 aM (.agg [(.int .i64 0),(.int .i64 0),(.int .i64 0),(.str []),(.slice [] .nil)])) fun aN aQ=>(pU 5 aQ aN aV).bind fun aL=>(kX .gtr aA (.int .i64 0)).bind fun aW=>(lH aW (kR (kY 1 1 [(.str [])] [(0,(.str [44,32]))] aL) fun aX aR=>o_ K 68 aE aX aR fun a_ aS=>kT (aa1 aL) .normal [aE,aD,aN,aB,aC,aA] aS) (kT (aa1 aL) .normal [aE,aD,aN,aB,aC,aA] aL)).bind fun aP=>Bx aP.2 fun aF aJ aK aG aH aI aO=>Ex.uB aP.1 ((mA true 5 aO aK).bind fun aY=>o_ K 37 aF aY aO fun bA aT=>(kX .add aI (.int .i64 1)).bind fun aZ=>kT m .normal [aF,aJ,aG,aH,aZ] aT)) (kT m (.exit 0) [aE,aD,aB,aC,aA] aM)
def m87 (K:kW) (a0 a1 a2 a3:kM) (h0:kP):Option (nO×kP) :=
 (kR (kY 2 1 [(.str [])] [(0,a1),(1,(.str [40]))] h0) fun t0 h1=>o_ K 68 a0 t0 h1 fun t2 h3=>(k_ a0).bind fun t4=>(kO 2 t4).bind fun t5=>qX K 85 t5 h3 fun t6 h7=>(mO a2).bind fun t8=>(mJ (NB K (aa1 h7)) ([a0,a3,a2,t8,(.int .i64 0)],h7)).bind fun aG=>Eu aG.2 fun aA aB aC aD aE aF=>Ex.lW aG.1 none (fun aI=>Ex.inBlock 0 aI (kR (kY 2 1 [(.str [])] [(0,aB),(1,(.str [41]))] aF) fun aO aK=>o_ K 68 aA aO aK fun aR aL=>(k_ aA).bind fun aP=>(kO 2 aP).bind fun aQ=>qX K 86 aQ aL fun aS aM=>some (.normal,([]:List kM),aM)) (fun aJ=>some (aJ,([]:List kM),aF)))).bind fun aH=>(fun aN=>Ex.nA aH.1 (lZ (aa1 h0) (.tuple []) aN))  aH.2.2
theorem aBk (K:kW) (a0 a1 a2 a3:kM) (h0:kP):o6 Tryz.prog mK mJ K 87 [a0,a1,a2,a3] h0=m87 (lU mK K) a0 a1 a2 a3 h0:=by kernel_rfl
def VJ (K:kW) (a0 a1:kM) (h0:kP):Option (nO×kP) :=
 (kR (lL 5 h0 a1) fun t0 h1=>(kO 0 t0).bind fun t2=>(mA false 1 h1 t2).bind fun t3=>qX K 82 t3 h1 fun t4 h5=>(lI 0 t4).bind fun t6=>(lI 1 t4).bind fun t7=>aq .gtr t6 (.int .i64 0) ((kX .eql t6 (.int .i64 1)).bind fun t9=>(lH t9 (kT (aa1 h5) .normal [a0,t0,t6,t7,(.int .i64 2)] h5) (kT (aa1 h5) .normal [a0,t0,t6,t7,t6] h5)).bind fun cJ=>Eu cJ.2 fun aA aB aP aQ aR bJ=>Ex.uB cJ.1 ((kO 4 aB).bind fun dD=>(mA false 1 bJ dD).bind fun dE=>(kZ 5 dE (.int .i64 0)).bind fun dF=>(mA true 5 bJ dF).bind fun dG=>kq3 K 83 aA dG aR bJ fun fE cK=>kR (kY 3 1 [(.str [])] [(0,(.str [32])),(1,aQ),(2,(.str [32]))] cK) fun dH cL=>o_ K 68 aA dH cL fun fF aE=>(kO 4 aB).bind fun dI=>(mA false 1 aE dI).bind fun dJ=>(mO dJ).bind fun dK=>aq .eql dK (.int .i64 1) ((kO 2 aB).bind fun dL=>(mA false 1 aE dL).bind fun dM=>o_ K 84 aA dM aE fun fH cM=>some (.ret,([]:List kM),cM)) ((kO 4 aB).bind fun dN=>(mA false 1 aE dN).bind fun dO=>(kZ 5 dO (.int .i64 1)).bind fun dP=>(mA true 5 aE dP).bind fun dQ=>(kX .add aP (.int .i64 1)).bind fun dR=>kq3 K 83 aA dQ dR aE fun fI cN=>some (.ret,([]:List kM),cN)))) ((kO 0 t0).bind fun dU=>(mA false 1 h5 dU).bind fun aC=>(kX .eql aC (.int .i64 1)).bind fun dV=>(lH dV ((kO 2 t0).bind fun dW=>(mA false 1 h5 dW).bind fun dX=>o_ K 84 a0 dX h5 fun fJ cO=>kT (aa1 h5) .normal ([]:List kM) cO) ((kX .eql aC (.int .i64 2)).bind fun dY=>(lH dY ((kO 3 t0).bind fun dZ=>(mA false 1 h5 dZ).bind fun d_=>kR (kY 1 1 [(.str [])] [(0,d_)] h5) fun eA cP=>o_ K 68 a0 eA cP fun fK cQ=>kT (aa1 h5) .normal ([]:List kM) cQ) ((kX .eql aC (.int .i64 3)).bind fun eB=>(lH eB ((kO 3 t0).bind fun eC=>(mA false 1 h5 eC).bind fun eD=>kR (kY 2 1 [(.str [])] [(0,eD),(1,(.str [91]))] h5) fun eE cR=>o_ K 68 a0 eE cR fun fL cS=>(k_ a0).bind fun eF=>(kO 2 eF).bind fun eG=>qX K 85 eG cS fun fM bN=>(kO 4 t0).bind fun eH=>(mA false 1 bN eH).bind fun eI=>(kZ 5 eI (.int .i64 0)).bind fun eJ=>(mA true 5 bN eJ).bind fun eK=>o_ K 37 a0 eK bN fun fN cT=>(k_ a0).bind fun eL=>(kO 2 eL).bind fun eM=>qX K 86 eM cT fun fO cU=>kR (kY 1 1 [(.str [])] [(0,(.str [93]))] cU) fun eN cV=>o_ K 68 a0 eN cV fun fQ cW=>kT (aa1 h5) .normal ([]:List kM) cW) ((kX .eql aC (.int .i64 4)).bind fun eO=>(lH eO ((kO 3 t0).bind fun eP=>(mA false 1 h5 eP).bind fun eQ=>(kO 4 t0).bind fun eR=>(mA false 1 h5 eR).bind fun eS=>kq4 K 87 a0 eQ eS (.str []) h5 fun fR cX=>kT (aa1 h5) .normal ([]:List kM) cX) ((kX .eql aC (.int .i64 5)).bind fun eT=>(lH eT ((kO 4 t0).bind fun eU=>(mA false 1 h5 eU).bind fun eV=>(kZ 5 eV (.int .i64 0)).bind fun eX=>(mA true 5 h5 eX).bind fun eY=>kq3 K 88 a0 (.str [126]) eY h5 fun fS cY=>kT (aa1 h5) .normal ([]:List kM) cY) ((kX .eql aC (.int .i64 6)).bind fun eZ=>(lH eZ ((kO 4 t0).bind fun e_=>(mA false 1 h5 e_).bind fun fB=>(kZ 5 fB (.int .i64 0)).bind fun fC=>(mA true 5 h5 fC).bind fun fD=>kq3 K 88 a0 (.str [45]) fD h5 fun cZ aS=>kT (aa1 h5) .normal ([]:List kM) aS) ((kX .eql aC (.int .i64 7)).bind fun bO=>(lH bO ((kO 4 t0).bind fun bP=>(mA false 1 h5 bP).bind fun bQ=>(kZ 5 bQ (.int .i64 0)).bind fun bR=>(mA true 5 h5 bR).bind fun bS=>kq3 K 88 a0 (.str [33]) bS h5 fun c6 aT=>kT (aa1 h5) .normal ([]:List kM) aT) ((kX .eql aC (.int .i64 23)).bind fun bT=>(lH bT ((kO 4 t0).bind fun bU=>(mA false 1 h5 bU).bind fun bV=>kq4 K 87 a0 (.str [109,117,108,104,105]) bV (.str []) h5 fun c7 aU=>kT (aa1 h5) .normal ([]:List kM) aU) ((kX .eql aC (.int .i64 24)).bind fun bW=>(lH bW ((kO 4 t0).bind fun bX=>(mA false 1 h5 bX).bind fun bY=>kq4 K 87 a0 (.str [99,97,114,114,121]) bY (.str []) h5 fun c_ aV=>kT (aa1 h5) .normal ([]:List kM) aV) ((kX .eql aC (.int .i64 25)).bind fun bZ=>(lH bZ ((kO 4 t0).bind fun b8=>(mA false 1 h5 b8).bind fun b9=>kq4 K 87 a0 (.str [115,101,108,101,99,116]) b9 (.str []) h5 fun dA aW=>kT (aa1 h5) .normal ([]:List kM) aW) ((kX .eql aC (.int .i64 26)).bind fun b_=>(lH b_ ((kO 4 t0).bind fun cA=>(mA false 1 h5 cA).bind fun cB=>kq4 K 87 a0 (.str [119,111,114,100]) cB (.str []) h5 fun dB aX=>kT (aa1 h5) .normal ([]:List kM) aX) ((kX .eql aC (.int .i64 16)).bind fun cD=>(lH cD ((kO 4 t0).bind fun aD=>(mA false 1 h5 aD).bind fun cE=>(kO 2 t0).bind fun cF=>(mA false 1 h5 cF).bind fun cG=>qX K 89 cG (nL (k9 [0] [aD]) h5) fun cH aY=>(kX .add (.str [44,32]) cH).bind fun cI=>kq4 K 87 a0 (.str [114,111,114]) cE cI (lQ (k9 [0] [aD]) h5 aY) fun dC aZ=>kT (aa1 h5) .normal ([]:List kM) aZ) (kT (aa1 h5) .normal ([]:List kM) h5)).bind fun aF=>(fun a_=>Ex.uB aF.1 (kT (aa1 h5) .normal ([]:List kM) a_))  aF.2.2)).bind fun aG=>(fun bA=>Ex.uB aG.1 (kT (aa1 h5) .normal ([]:List kM) bA))  aG.2.2)).bind fun aH=>(fun bB=>Ex.uB aH.1 (kT (aa1 h5) .normal ([]:List kM) bB))  aH.2.2)).bind fun aI=>(fun bC=>Ex.uB aI.1 (kT (aa1 h5) .normal ([]:List kM) bC))  aI.2.2)).bind fun U5=>(fun bD=>Ex.uB U5.1 (kT (aa1 h5) .normal ([]:List kM) bD))  U5.2.2)).bind fun ajQ=>(fun bE=>Ex.uB ajQ.1 (kT (aa1 h5) .normal ([]:List kM) bE))  ajQ.2.2)).bind fun U7=>(fun bF=>Ex.uB U7.1 (kT (aa1 h5) .normal ([]:List kM) bF))  U7.2.2)).bind fun aJ=>(fun bG=>Ex.uB aJ.1 (kT (aa1 h5) .normal ([]:List kM) bG))  aJ.2.2)).bind fun aK=>(fun bH=>Ex.uB aK.1 (kT (aa1 h5) .normal ([]:List kM) bH))  aK.2.2)).bind fun aL=>(fun bI=>Ex.uB aL.1 (kT (aa1 h5) .normal ([]:List kM) bI))  aL.2.2)).bind fun aM=>(fun bK=>Ex.uB aM.1 (kT (aa1 h5) .normal ([]:List kM) bK))  aM.2.2)).bind fun aN=>(fun bL=>Ex.uB aN.1 (some (.normal,([]:List kM),bL)))  aN.2.2)).bind fun aO=>(fun bM=>Ex.nA aO.1 (lZ (aa1 h0) (.tuple []) bM))  aO.2.2
theorem E4 (K:kW) (a0 a1:kM) (h0:kP):o6 Tryz.prog mK mJ K 37 [a0,a1] h0=VJ (lU mK K) a0 a1 h0:=by kernel_rfl
def aE8 (K:kW) (a0:kM) (h0:kP):Option (nO×kP) :=
 ((k_ a0).bind fun t0=>(kO 4 t0).bind fun t1=>(mA false 1 h0 t1).bind fun t2=>o_ K 162 (.str [32]) t2 h0 fun t3 h4=>kR (kY 1 1 [(.str [])] [(0,t3)] h4) fun t5 h6=>o_ K 68 a0 t5 h6 fun t7 h8=>some (.normal,([]:List kM),h8)).bind fun r9=>(fun aA=>Ex.nA r9.1 (lZ (aa1 h0) (.tuple []) aA))  r9.2.2
theorem aqD (K:kW) (a0:kM) (h0:kP):o6 Tryz.prog mK mJ K 125 [a0] h0=aE8 (lU mK K) a0 h0:=by kernel_rfl
def Sb (K:kW) (m:Nat) (s:List kM×kP):Option R :=
 B5 s fun aB aC aD aA aE=>aq .lss aA aD ((kZ 11 aC aA).bind fun aM=>(mA true 11 aE aM).bind fun aN=>kR (lL 11 aE (.agg [(.int .i64 0),(.int .i64 0),(.int .i64 0),(.str []),(.int .i64 0),(.int .i64 0),(.int .i64 0),(.slice [] .nil),(.slice [] .nil),(.slice [] .nil),(.bool false)])) fun aG aH=>(pU 11 aH aG aN).bind fun aI=>qX K 125 aB aI fun aR aF=>(mA true 11 aF aG).bind fun aO=>o_ K 126 aB aO aF fun aS aJ=>kR (kY 1 1 [(.str [])] [(0,(.str [10]))] aJ) fun aP aK=>o_ K 68 aB aP aK fun aT aL=>(kX .add aA (.int .i64 1)).bind fun aQ=>kT m .normal [aB,aC,aD,aQ] aL) (kT m (.exit 0) [aB,aC,aD,aA] aE)
def m71 (K:kW) (a0 a1:kM) (h0:kP):Option (nO×kP) :=
 (kR (kY 1 1 [(.str [])] [(0,(.str [32,123,10]))] h0) fun t0 h1=>o_ K 68 a0 t0 h1 fun t2 h3=>(k_ a0).bind fun t4=>(kO 2 t4).bind fun t5=>qX K 85 t5 h3 fun t6 h7=>(k_ a0).bind fun t8=>(kO 4 t8).bind fun t9=>(mA false 1 h7 t9).bind fun aQ=>(kX .add aQ (.int .i64 1)).bind fun aR=>(k_ a0).bind fun aS=>(kO 4 aS).bind fun aT=>(pU 1 h7 aT aR).bind fun aF=>(mO a1).bind fun aU=>(mJ (Sb K (aa1 aF)) ([a0,a1,aU,(.int .i64 0)],aF)).bind fun aG=>B5 aG.2 fun aA aC aD aE aB=>Ex.lW aG.1 none (fun aI=>Ex.inBlock 0 aI ((k_ aA).bind fun aV=>(kO 4 aV).bind fun aW=>(mA false 1 aB aW).bind fun aX=>(kX .sub aX (.int .i64 1)).bind fun aY=>(k_ aA).bind fun aZ=>(kO 4 aZ).bind fun a_=>(pU 1 aB a_ aY).bind fun aK=>qX K 125 aA aK fun bD aL=>(k_ aA).bind fun bA=>(kO 2 bA).bind fun bB=>qX K 86 bB aL fun bE aM=>kR (kY 1 1 [(.str [])] [(0,(.str [125]))] aM) fun bC aN=>o_ K 68 aA bC aN fun bF aO=>some (.normal,([]:List kM),aO)) (fun aJ=>some (aJ,([]:List kM),aB)))).bind fun aH=>(fun aP=>Ex.nA aH.1 (lZ (aa1 h0) (.tuple []) aP))  aH.2.2
theorem aA5 (K:kW) (a0 a1:kM) (h0:kP):o6 Tryz.prog mK mJ K 71 [a0,a1] h0=m71 (lU mK K) a0 a1 h0:=by kernel_rfl
def Pk (K:kW) (a0 a1:kM) (h0:kP):Option (nO×kP) :=
 (kR (lL 11 h0 a1) fun t0 h1=>(kO 0 t0).bind fun t2=>(mA false 1 h1 t2).bind fun t3=>((kX .eql t3 (.int .i64 1)).bind fun t4=>(lH t4 ((kO 3 t0).bind fun t5=>(mA false 1 h1 t5).bind fun t6=>kR (kY 3 1 [(.str [])] [(0,(.str [108,101,116,32])),(1,t6),(2,(.str [32,61,32]))] h1) fun t7 h8=>o_ K 68 a0 t7 h8 fun t9 cF=>kT (aa1 h1) .normal [a0,t0] cF) (aq .eql t3 (.int .i64 2) (kR (kY 1 1 [(.str [])] [(0,(.str [118,97,114,32]))] h1) fun cY cG=>o_ K 68 a0 cY cG fun eQ b8=>(kO 4 t0).bind fun c7=>(kO 2 c7).bind fun c_=>(mA false 1 b8 c_).bind fun dA=>o_ K 69 a0 dA b8 fun eR b9=>(kO 3 t0).bind fun dB=>(mA false 1 b9 dB).bind fun dC=>kR (kY 2 1 [(.str [])] [(0,dC),(1,(.str [58,32]))] b9) fun dD cH=>o_ K 68 a0 dD cH fun eS b_=>(kO 4 t0).bind fun dE=>(mA true 3 b_ dE).bind fun dF=>o_ K 70 a0 dF b_ fun eT cI=>kR (kY 1 1 [(.str [])] [(0,(.str [59]))] cI) fun dG cJ=>o_ K 68 a0 dG cJ fun eU cK=>kT (aa1 h1) .ret [a0,t0] cK) ((kX .eql t3 (.int .i64 3)).bind fun dH=>(lH dH ((kO 3 t0).bind fun dI=>(mA false 1 h1 dI).bind fun dJ=>kR (kY 2 1 [(.str [])] [(0,dJ),(1,(.str [32,61,32]))] h1) fun dK cL=>o_ K 68 a0 dK cL fun eV cM=>kT (aa1 h1) .normal [a0,t0] cM) ((kX .eql t3 (.int .i64 4)).bind fun dL=>(lH dL ((kO 3 t0).bind fun dM=>(mA false 1 h1 dM).bind fun dN=>(kO 7 t0).bind fun dO=>(mA false 1 h1 dO).bind fun dP=>(uS 5 dP none (some (.int .i64 1))).bind fun dQ=>(lT [(.int .i64 0),(.int .i64 0),(.int .i64 0),(.str []),(.slice [] .nil)] [(0,1),(1,1),(2,1),(3,1),(4,1)] [(0,(.int .i64 3)),(3,dN),(4,dQ)]).bind fun dR=>o_ K 37 a0 dR h1 fun eX cN=>kR (kY 1 1 [(.str [])] [(0,(.str [32,61,32]))] cN) fun dU cO=>o_ K 68 a0 dU cO fun eY cP=>kT (aa1 h1) .normal [a0,t0] cP) (aq .eql t3 (.int .i64 5) (kR (kY 1 1 [(.str [])] [(0,(.str [105,102,32]))] h1) fun dV cQ=>o_ K 68 a0 dV cQ fun eZ bK=>(kO 7 t0).bind fun dW=>(mA false 1 bK dW).bind fun dX=>(kZ 5 dX (.int .i64 0)).bind fun dY=>(mA true 5 bK dY).bind fun dZ=>o_ K 37 a0 dZ bK fun e_ cA=>(kO 8 t0).bind fun d_=>(mA false 1 cA d_).bind fun eA=>o_ K 71 a0 eA cA fun fB aP=>(kO 10 t0).bind fun eB=>(mA false 1 aP eB).bind fun eC=>(lH eC (kR (kY 1 1 [(.str [])] [(0,(.str [32,101,108,115,101]))] aP) fun eD cR=>o_ K 68 a0 eD cR fun fC cB=>(kO 9 t0).bind fun eE=>(mA false 1 cB eE).bind fun eF=>o_ K 71 a0 eF cB fun fD cS=>kT (aa1 aP) .normal [a0,t0] cS) (kT (aa1 aP) .normal [a0,t0] aP)).bind fun cE=>wL cE.2 fun aV aW cT=>Ex.uB cE.1 (kT (aa1 h1) .ret [aV,aW] cT)) (aq .eql t3 (.int .i64 6) ((kO 3 t0).bind fun eG=>(mA false 1 h1 eG).bind fun eH=>kR (kY 3 1 [(.str [])] [(0,(.str [102,111,114,32])),(1,eH),(2,(.str [32,60,32]))] h1) fun eI cU=>o_ K 68 a0 eI cU fun fE bL=>(kO 7 t0).bind fun eJ=>(mA false 1 bL eJ).bind fun eK=>(kZ 5 eK (.int .i64 0)).bind fun eL=>(mA true 5 bL eL).bind fun eM=>o_ K 37 a0 eM bL fun fF cD=>(kO 2 t0).bind fun eN=>(mA false 1 cD eN).bind fun eO=>qX K 89 eO cD fun eP bA=>kR (kY 2 1 [(.str [])] [(0,(.str [32,109,97,120,32])),(1,eP)] bA) fun bM bB=>o_ K 68 a0 bM bB fun cV aL=>(kO 8 t0).bind fun bN=>(mA false 1 aL bN).bind fun bO=>o_ K 71 a0 bO aL fun cW bC=>kT (aa1 h1) .ret [a0,t0] bC) ((kX .eql t3 (.int .i64 8)).bind fun bP=>(lH bP (kR (kY 1 1 [(.str [])] [(0,(.str [114,101,116,117,114,110,32]))] h1) fun bQ bD=>o_ K 68 a0 bQ bD fun cX bE=>kT (aa1 h1) .normal [a0,t0] bE) (kT (aa1 h1) .normal [a0,t0] h1)).bind fun aQ=>wL aQ.2 fun aJ aK bF=>Ex.uB aQ.1 (kT (aa1 h1) .normal [aJ,aK] bF))))).bind fun aR=>wL aR.2 fun aB aF aM=>Ex.lW aR.1 (kT (aa1 h1) .normal [aB,aF] aM) (fun aX=>kT (aa1 h1) aX [aB,aF] aM))).bind fun aS=>wL aS.2 fun aC aG aN=>Ex.lW aS.1 (kT (aa1 h1) .normal [aC,aG] aN) (fun aY=>kT (aa1 h1) aY [aC,aG] aN)))).bind fun aT=>wL aT.2 fun aD aH aO=>Ex.lW aT.1 (kT (aa1 h1) .normal [aD,aH] aO) (fun aZ=>kT (aa1 h1) aZ [aD,aH] aO)).bind fun aU=>wL aU.2 fun aE aI aA=>Ex.inBlock 0 aU.1 ((kO 7 aI).bind fun bR=>(mA false 1 aA bR).bind fun bS=>(kO 7 aI).bind fun bT=>(mA false 1 aA bT).bind fun bU=>(mO bU).bind fun bV=>(kX .sub bV (.int .i64 1)).bind fun bW=>(kZ 5 bS bW).bind fun bX=>(mA true 5 aA bX).bind fun bY=>o_ K 37 aE bY aA fun cZ bG=>kR (kY 1 1 [(.str [])] [(0,(.str [59]))] bG) fun bZ bH=>o_ K 68 aE bZ bH fun c6 bI=>some (.normal,([]:List kM),bI)) (fun a_=>some (a_,([]:List kM),aA))).bind fun Xg=>(fun bJ=>Ex.nA Xg.1 (lZ (aa1 h0) (.tuple []) bJ))  Xg.2.2
theorem CY (K:kW) (a0 a1:kM) (h0:kP):o6 Tryz.prog mK mJ K 126 [a0,a1] h0=Pk (lU mK K) a0 a1 h0:=by kernel_rfl
def GK (K:kW) (m:Nat) (s:List kM×kP):Option R :=
 Eu s fun aD aJ aB aC aA aT=>aq .lss aA aC ((kZ 6 aB aA).bind fun bG=>(mA true 6 aT bG).bind fun bH=>kR (lL 6 aT (.agg [(.int .i64 0),(.str []),(.int .i64 0),(.int .i64 0),(.int .i64 0),(.bool false)])) fun aU a_=>(pU 6 a_ aU bH).bind fun aS=>(kX .gtr aA (.int .i64 0)).bind fun bI=>(lH bI (kR (kY 1 1 [(.str [])] [(0,(.str [44,32]))] aS) fun bJ bA=>o_ K 68 aD bJ bA fun bW bB=>kT (aa1 aS) .normal [aD,aJ,aU,aB,aC,aA] bB) (kT (aa1 aS) .normal [aD,aJ,aU,aB,aC,aA] aS)).bind fun aY=>Bx aY.2 fun aF aM aK aG aH aI aQ=>Ex.uB aY.1 ((kO 5 aK).bind fun bK=>(mA false 1 aQ bK).bind fun bL=>(lH bL (kR (kY 1 1 [(.str [])] [(0,(.str [111,117,116,32]))] aQ) fun bM bC=>o_ K 68 aF bM bC fun bX bD=>kT (aa1 aQ) .normal [aF,aM,aK,aG,aH,aI] bD) (kT (aa1 aQ) .normal [aF,aM,aK,aG,aH,aI] aQ)).bind fun aZ=>Bx aZ.2 fun aE aR aL aN aO aP aV=>Ex.uB aZ.1 ((kO 2 aL).bind fun bN=>(kO 2 bN).bind fun bO=>(mA false 1 aV bO).bind fun bP=>o_ K 69 aE bP aV fun bY aW=>(kO 1 aL).bind fun bQ=>(mA false 1 aW bQ).bind fun bR=>kR (kY 2 1 [(.str [])] [(0,bR),(1,(.str [58,32]))] aW) fun bS bE=>o_ K 68 aE bS bE fun bZ aX=>(kO 2 aL).bind fun bT=>(mA true 3 aX bT).bind fun bU=>o_ K 70 aE bU aX fun b8 bF=>(kX .add aP (.int .i64 1)).bind fun bV=>kT m .normal [aE,aR,aN,aO,bV] bF))) (kT m (.exit 0) [aD,aJ,aB,aC,aA] aT)
def m32 (K:kW) (a0 a1:kM) (h0:kP):Option (nO×kP) :=
 (kR (lL 8 h0 a1) fun t0 h1=>(kO 1 t0).bind fun t2=>(mA false 1 h1 t2).bind fun t3=>kR (kY 3 1 [(.str [])] [(0,(.str [102,110,32])),(1,t3),(2,(.str [40]))] h1) fun t4 h5=>o_ K 68 a0 t4 h5 fun t6 h7=>(kO 2 t0).bind fun t8=>(mA false 1 h7 t8).bind fun t9=>(mO t9).bind fun aZ=>(mJ (GK K (aa1 h7)) ([a0,t0,t9,aZ,(.int .i64 0)],h7)).bind fun aS=>Eu aS.2 fun aA aB aL aM aN aO=>Ex.lW aS.1 none (fun aU=>Ex.inBlock 0 aU (kR (kY 1 1 [(.str [])] [(0,(.str [41]))] aO) fun bB aW=>o_ K 68 aA bB aW fun bM aD=>(kO 3 aB).bind fun bC=>(mA false 1 aD bC).bind fun bD=>(lH bD (kR (kY 1 1 [(.str [])] [(0,(.str [58,32]))] aD) fun bE aX=>o_ K 68 aA bE aX fun bN aP=>(kO 4 aB).bind fun bF=>(kO 2 bF).bind fun bG=>(mA false 1 aP bG).bind fun bH=>o_ K 69 aA bH aP fun bO aQ=>(kO 4 aB).bind fun bI=>(mA true 3 aQ bI).bind fun bJ=>o_ K 70 aA bJ aQ fun bP aY=>kT (aa1 aD) .normal [aA,aB] aY) (kT (aa1 aD) .normal [aA,aB] aD)).bind fun aT=>wL aT.2 fun aC aF aR=>Ex.uB aT.1 ((kO 7 aF).bind fun bK=>(mA false 1 aR bK).bind fun bL=>o_ K 71 aC bL aR fun a_ aG=>kR (kY 1 1 [(.str [])] [(0,(.str [10]))] aG) fun aK aH=>o_ K 68 aC aK aH fun bA aI=>some (.normal,([]:List kM),aI))) (fun aV=>some (aV,([]:List kM),aO)))).bind fun aE=>(fun aJ=>Ex.nA aE.1 (lZ (aa1 h0) (.tuple []) aJ))  aE.2.2
theorem aAG (K:kW) (a0 a1:kM) (h0:kP):o6 Tryz.prog mK mJ K 32 [a0,a1] h0=m32 (lU mK K) a0 a1 h0:=by kernel_rfl
def m33 (K:kW) (a0:kM) (h0:kP):Option (nO×kP) :=
 ((k_ a0).bind fun t0=>(kO 2 t0).bind fun t1=>(kO 1 t1).bind fun t2=>(mA false 1 h0 t2).bind fun t3=>lH t3 (some (.ret,[(.str []),(.int .i64 11)],h0)) ((k_ a0).bind fun t4=>(kO 0 t4).bind fun t5=>qX K 72 t5 h0 fun t6 h7=>some (.ret,[t6,(.int .i64 0)],h7))).bind fun r8=>wL r8.2 fun aB aA aC=>Ex.nA r8.1 (lZ (aa1 h0) (.tuple [aB,aA]) aC)
theorem ah7 (K:kW) (a0:kM) (h0:kP):o6 Tryz.prog mK mJ K 33 [a0] h0=m33 (lU mK K) a0 h0:=by kernel_rfl
def GG (K:kW) (m:Nat) (s:List kM×kP):Option R :=
 Bx s fun aD aE aF aB aC aA aG=>aq .lss aA aC ((kZ 8 aB aA).bind fun aL=>(mA true 8 aG aL).bind fun aM=>kR (lL 8 aG (.agg [(.int .i64 0),(.str []),(.slice [] .nil),(.bool false),(.int .i64 0),(.int .i64 0),(.int .i64 0),(.slice [] .nil)])) fun aJ aK=>(pU 8 aK aJ aM).bind fun aH=>(mA true 8 aH aJ).bind fun aN=>qX K 31 aN aH fun aO aI=>(vR .not aO).bind fun aP=>lH aP (kT m .ret [aD,(.str []),(.int .i64 2),aB,aC,aA] aI) ((kX .add aA (.int .i64 1)).bind fun aQ=>kT m .normal [aD,aE,aF,aB,aC,aQ] aI)) (kT m (.exit 0) [aD,aE,aF,aB,aC,aA] aG)
def R3 (K:kW) (m:Nat) (s:List kM×kP):Option R :=
 Bx s fun aE aF aD aB aC aA aG=>aq .lss aA aC ((kZ 8 aB aA).bind fun aL=>(mA true 8 aG aL).bind fun aM=>kR (lL 8 aG (.agg [(.int .i64 0),(.str []),(.slice [] .nil),(.bool false),(.int .i64 0),(.int .i64 0),(.int .i64 0),(.slice [] .nil)])) fun aI aJ=>(pU 8 aJ aI aM).bind fun aH=>(mA true 8 aH aI).bind fun aN=>o_ K 32 aD aN aH fun aP aK=>(kX .add aA (.int .i64 1)).bind fun aO=>kT m .normal [aE,aF,aD,aB,aC,aO] aK) (kT m (.exit 2) [aE,aF,aD,aB,aC,aA] aG)
def m14 (K:kW) (a0:kM) (h0:kP):Option (nO×kP) :=
 (kR (lL 1 h0 a0) fun t0 h1=>(kO 0 t0).bind fun t2=>(mA false 1 h1 t2).bind fun t3=>(mO t3).bind fun t4=>(mJ (GG K (aa1 h1)) ([t0,(.str []),(.int .i64 0),t3,t4,(.int .i64 0)],h1)).bind fun aR=>Bx aR.2 fun aC aA aB aJ aK aL aP=>Ex.lW aR.1 none (fun aW=>Ex.inBlock 0 aW ((lT [.nilptr,(.slice [] .nil),(.int .i64 0),(.bool false),(.int .i64 0)] [(0,2),(2,2),(4,1)] []).bind fun bB=>kR (Kg 86 5 aP bB) fun bC aI=>(kO 0 aC).bind fun bD=>(mA false 1 aI bD).bind fun aU=>(mO aU).bind fun bE=>(mJ (R3 K (aa1 aI)) ([aA,aB,bC,aU,bE,(.int .i64 0)],aI)).bind fun aS=>Bx aS.2 fun aD aF aH aM aN aO aQ=>Ex.lW aS.1 none (fun aY=>Ex.inBlock 2 aY (qX K 33 aH aQ fun aV a_=>(lI 0 aV).bind fun bF=>(lI 1 aV).bind fun bG=>some (.ret,[bF,bG],a_)) (fun aZ=>some (aZ,[aD,aF],aQ)))) (fun aX=>some (aX,[aA,aB],aP)))).bind fun aT=>wL aT.2 fun aE aG bA=>Ex.nA aT.1 (lZ (aa1 h0) (.tuple [aE,aG]) bA)
theorem aAi (K:kW) (a0:kM) (h0:kP):o6 Tryz.prog mK mJ K 14 [a0] h0=m14 (lU mK K) a0 h0:=by kernel_rfl
def m82 (K:kW) (a0:kM) (h0:kP):Option (nO×kP) :=
 (aq .eql a0 (.int .i64 17) (some (.ret,[(.int .i64 1),(.str [61,61])],h0)) (aq .eql a0 (.int .i64 18) (some (.ret,[(.int .i64 1),(.str [33,61])],h0)) (aq .eql a0 (.int .i64 19) (some (.ret,[(.int .i64 1),(.str [60])],h0)) (aq .eql a0 (.int .i64 20) (some (.ret,[(.int .i64 1),(.str [60,61])],h0)) (aq .eql a0 (.int .i64 21) (some (.ret,[(.int .i64 1),(.str [62])],h0)) (aq .eql a0 (.int .i64 22) (some (.ret,[(.int .i64 1),(.str [62,61])],h0)) (aq .eql a0 (.int .i64 12) (some (.ret,[(.int .i64 2),(.str [124])],h0)) (aq .eql a0 (.int .i64 13) (some (.ret,[(.int .i64 3),(.str [94])],h0)) (aq .eql a0 (.int .i64 11) (some (.ret,[(.int .i64 4),(.str [38])],h0)) (aq .eql a0 (.int .i64 14) (some (.ret,[(.int .i64 5),(.str [60,60])],h0)) (aq .eql a0 (.int .i64 15) (some (.ret,[(.int .i64 5),(.str [62,62])],h0)) (aq .eql a0 (.int .i64 8) (some (.ret,[(.int .i64 6),(.str [43])],h0)) (aq .eql a0 (.int .i64 9) (some (.ret,[(.int .i64 6),(.str [45])],h0)) (aq .eql a0 (.int .i64 10) (some (.ret,[(.int .i64 7),(.str [42])],h0)) (some (.ret,[(.int .i64 0),(.str [])],h0)))))))))))))))).bind fun aC=>wL aC.2 fun aA aB aD=>Ex.nA aC.1 (lZ (aa1 h0) (.tuple [aA,aB]) aD)
theorem aBf (K:kW) (a0:kM) (h0:kP):o6 Tryz.prog mK mJ K 82 [a0] h0=m82 (lU mK K) a0 h0:=by kernel_rfl
def m65 (K:kW) (a0:kM) (h0:kP):Option (nO×kP) :=
 (qX K 49 a0 h0 fun t0 h1=>(lI 0 t0).bind fun t2=>(lI 1 t0).bind fun t3=>kR (lL 2 h1 (.agg [(.int .i64 0),(.int .i64 0)])) fun t4 h5=>(kS 2 h5 t4 t3).bind fun h6=>fq 0 t4 h6 fun t8=>(kX .eql t8 (.int .i64 0)).bind fun t9=>gq true t9 (lC t2 h6) h6 fun aT aF=>gq true t9 ((mO aT).bind fun aU=>lC aU aF) aF fun aV aG=>gq true t9 ((kX .eql aV (.int .i64 2)).bind fun aW=>lC aW aG) aG fun aX aH=>(lO t9 aX (.bool false)).bind fun aB=>gq true aB (lC t2 aH) aH fun aY aI=>gq true aB ((kZ 4 aY (.int .i64 0)).bind fun aZ=>lC aZ aI) aI fun a_ aJ=>gq true aB ((kO 0 a_).bind fun bA=>lC bA aJ) aJ fun bB aD=>gq true aB ((kU false 1 aD bB).bind fun bC=>lC bC aD) aD fun bD aK=>gq true aB ((kX .eql bD (.int .i64 1)).bind fun bE=>lC bE aK) aK fun bF aL=>(lO aB bF (.bool false)).bind fun aA=>gq true aA (lC t2 aL) aL fun bG aM=>gq true aA ((kZ 4 bG (.int .i64 0)).bind fun bH=>lC bH aM) aM fun bI aN=>gq true aA ((kO 3 bI).bind fun bJ=>lC bJ aN) aN fun bK aE=>gq true aA ((kU false 1 aE bK).bind fun bL=>lC bL aE) aE fun bM aO=>gq true aA (lC a0 aO) aO fun bN aP=>gq true aA ((kX .eql bM bN).bind fun bO=>lC bO aP) aP fun bP aR=>(lO aA bP (.bool false)).bind fun bQ=>some (.ret,[bQ],aR)).bind fun aQ=>sL aQ.2 fun aC aS=>Ex.nA aQ.1 (lZ (aa1 h0) aC aS)
theorem aAY (K:kW) (a0:kM) (h0:kP):o6 Tryz.prog mK mJ K 65 [a0] h0=m65 (lU mK K) a0 h0:=by kernel_rfl
def m79 (K:kW) (a0 a1:kM) (h0:kP):Option (nO×kP) :=
 (lH a1 (qX K 65 a0 h0 fun t0 h1=>some (.ret,[t0],h1)) ((kX .eql a0 (.str [])).bind fun t2=>some (.ret,[t2],h0))).bind fun r3=>sL r3.2 fun aA h5=>Ex.nA r3.1 (lZ (aa1 h0) aA h5)
theorem aBc (K:kW) (a0 a1:kM) (h0:kP):o6 Tryz.prog mK mJ K 79 [a0,a1] h0=m79 (lU mK K) a0 a1 h0:=by kernel_rfl
def m80 (K:kW) (a0 a1:kM) (h0:kP):Option (nO×kP) :=
 ((kX .eql a0 (.int .i64 0)).bind fun t0=>gq false t0 (lC a1 h0) h0 fun t1 h2=>gq false t0 (lC t1 h2) h2 fun t3 h4=>gq true t3 (lC a0 h4) h4 fun t5 h6=>gq true t3 ((kX .gtr t5 (.int .i64 0)).bind fun t7=>lC t7 h6) h6 fun t8 h9=>gq false t0 ((lO t3 t8 (.bool false)).bind fun aJ=>lC aJ h9) h9 fun aK aC=>gq false t0 (lC aK aC) aC fun aB aD=>gq true aB (lC a0 aD) aD fun aL aE=>gq true aB ((kX .leq aL (.int .i64 4294967295)).bind fun aM=>lC aM aE) aE fun aN aF=>gq false t0 ((lO aB aN (.bool false)).bind fun aO=>lC aO aF) aF fun aP aH=>(lO t0 (.bool true) aP).bind fun aQ=>some (.ret,[aQ],aH)).bind fun aG=>sL aG.2 fun aA aI=>Ex.nA aG.1 (lZ (aa1 h0) aA aI)
theorem aBd (K:kW) (a0 a1:kM) (h0:kP):o6 Tryz.prog mK mJ K 80 [a0,a1] h0=m80 (lU mK K) a0 a1 h0:=by kernel_rfl
def m78 (K:kW) (a0:kM) (h0:kP):Option (nO×kP) :=
 ((kX .eql a0 (.int .i64 1)).bind fun t0=>gq false t0 (lC a0 h0) h0 fun t1 h2=>gq false t0 ((kX .eql t1 (.int .i64 2)).bind fun t3=>lC t3 h2) h2 fun t4 h5=>(lO t0 (.bool true) t4).bind fun t6=>lH t6 (some (.ret,[(.int .i64 0),(.bool true)],h5)) (aq .eql a0 (.int .i64 4) (some (.ret,[(.int .i64 (-1)),(.bool true)],h5)) ((kX .eql a0 (.int .i64 3)).bind fun t8=>gq false t8 (lC a0 h5) h5 fun t9 aL=>gq false t8 ((kX .geq t9 (.int .i64 5)).bind fun bG=>lC bG aL) aL fun bH aM=>gq false t8 (lC bH aM) aM fun aG aN=>gq true aG (lC a0 aN) aN fun bI aO=>gq true aG ((kX .leq bI (.int .i64 7)).bind fun bJ=>lC bJ aO) aO fun bK aP=>gq false t8 ((lO aG bK (.bool false)).bind fun bL=>lC bL aP) aP fun bM aQ=>(lO t8 (.bool true) bM).bind fun aA=>gq false aA (lC a0 aQ) aQ fun bN aR=>gq false aA ((kX .geq bN (.int .i64 14)).bind fun bO=>lC bO aR) aR fun bP aS=>gq false aA (lC bP aS) aS fun aH aT=>gq true aH (lC a0 aT) aT fun bQ aU=>gq true aH ((kX .leq bQ (.int .i64 16)).bind fun bR=>lC bR aU) aU fun bS aV=>gq false aA ((lO aH bS (.bool false)).bind fun bT=>lC bT aV) aV fun bU aW=>(lO aA (.bool true) bU).bind fun aI=>gq false aI (lC a0 aW) aW fun bV aX=>gq false aI ((kX .eql bV (.int .i64 26)).bind fun bW=>lC bW aX) aX fun bX aE=>(lO aI (.bool true) bX).bind fun bY=>lH bY (some (.ret,[(.int .i64 1),(.bool true)],aE)) ((kX .geq a0 (.int .i64 8)).bind fun aJ=>gq true aJ (lC a0 aE) aE fun bZ aY=>gq true aJ ((kX .leq bZ (.int .i64 13)).bind fun b8=>lC b8 aY) aY fun b9 aZ=>(lO aJ b9 (.bool false)).bind fun aB=>gq false aB (lC a0 aZ) aZ fun b_ a_=>gq false aB ((kX .geq b_ (.int .i64 17)).bind fun cA=>lC cA a_) a_ fun cB bA=>gq false aB (lC cB bA) bA fun aK bB=>gq true aK (lC a0 bB) bB fun cD bC=>gq true aK ((kX .leq cD (.int .i64 24)).bind fun cE=>lC cE bC) bC fun cF bD=>gq false aB ((lO aK cF (.bool false)).bind fun cG=>lC cG bD) bD fun cH aF=>(lO aB (.bool true) cH).bind fun cI=>lH cI (some (.ret,[(.int .i64 2),(.bool true)],aF)) (aq .eql a0 (.int .i64 25) (some (.ret,[(.int .i64 3),(.bool true)],aF)) (some (.ret,[(.int .i64 0),(.bool false)],aF))))))).bind fun bE=>wL bE.2 fun aC aD bF=>Ex.nA bE.1 (lZ (aa1 h0) (.tuple [aC,aD]) bF)
theorem aBb (K:kW) (a0:kM) (h0:kP):o6 Tryz.prog mK mJ K 78 [a0] h0=m78 (lU mK K) a0 h0:=by kernel_rfl
def CH (K:kW) (a0:kM) (h0:kP):Option (nO×kP) :=
 (kR (lL 5 h0 a0) fun t0 h1=>fq 0 t0 h1 fun t3=>qX K 78 t3 h1 fun t4 h5=>(lI 0 t4).bind fun t6=>(lI 1 t4).bind fun t7=>(vR .not t7).bind fun t8=>gq false t8 (lC t6 h5) h5 fun t9 aZ=>gq false t8 ((kX .geq t9 (.int .i64 0)).bind fun bS=>lC bS aZ) aZ fun bT a_=>gq false t8 (lC bT a_) a_ fun aC bA=>gq true aC ((kO 4 t0).bind fun bU=>lC bU bA) bA fun bV aN=>gq true aC ((kU false 1 aN bV).bind fun bW=>lC bW aN) aN fun bX bB=>gq true aC ((mO bX).bind fun bY=>lC bY bB) bB fun bZ bC=>gq true aC (lC t6 bC) bC fun b8 bD=>gq true aC ((kX .neq bZ b8).bind fun b9=>lC b9 bD) bD fun b_ bE=>gq false t8 ((lO aC b_ (.bool false)).bind fun cA=>lC cA bE) bE fun cB aH=>(lO t8 (.bool true) cB).bind fun cD=>lH cD (some (.ret,[(.bool false)],aH)) (fq 0 t0 aH fun cE=>(kX .eql cE (.int .i64 2)).bind fun aI=>gq false aI ((kO 0 t0).bind fun cF=>lC cF aH) aH fun cG aO=>gq false aI ((kU false 1 aO cG).bind fun cH=>lC cH aO) aO fun cI bF=>gq false aI ((kX .eql cI (.int .i64 3)).bind fun cJ=>lC cJ bF) bF fun cK bG=>(lO aI (.bool true) cK).bind fun aJ=>gq false aJ ((kO 0 t0).bind fun cL=>lC cL bG) bG fun cM aP=>gq false aJ ((kU false 1 aP cM).bind fun cN=>lC cN aP) aP fun cO bH=>gq false aJ ((kX .eql cO (.int .i64 4)).bind fun cP=>lC cP bH) bH fun cQ aQ=>(lO aJ (.bool true) cQ).bind fun cR=>fq 0 t0 aQ fun cS=>(kX .eql cS (.int .i64 1)).bind fun aD=>gq false aD ((kO 0 t0).bind fun cT=>lC cT aQ) aQ fun cU aR=>gq false aD ((kU false 1 aR cU).bind fun cV=>lC cV aR) aR fun cW bI=>gq false aD ((kX .geq cW (.int .i64 14)).bind fun cX=>lC cX bI) bI fun cY bJ=>gq false aD (lC cY bJ) bJ fun aK bK=>gq true aK ((kO 0 t0).bind fun cZ=>lC cZ bK) bK fun c6 aS=>gq true aK ((kU false 1 aS c6).bind fun c7=>lC c7 aS) aS fun c_ bL=>gq true aK ((kX .leq c_ (.int .i64 16)).bind fun dA=>lC dA bL) bL fun dB bM=>gq false aD ((lO aK dB (.bool false)).bind fun dC=>lC dC bM) bM fun dD bN=>(lO aD (.bool true) dD).bind fun dE=>fq 3 t0 bN fun dF=>o_ K 79 dF cR bN fun dG bO=>(vR .not dG).bind fun aE=>gq false aE ((kO 2 t0).bind fun dH=>lC dH bO) bO fun dI aT=>gq false aE ((kU false 1 aT dI).bind fun dJ=>lC dJ aT) aT fun dK bP=>gq false aE (lC dE bP) bP fun dL bQ=>gq false aE (kV (K 80 [(kM.kQ dK),(kM.kQ dL)] bQ) (fun dM bR=>lC dM bR) yP) bQ fun dN aF=>gq false aE ((vR .not dN).bind fun aU=>lC aU aF) aF fun aV aA=>(lO aE (.bool true) aV).bind fun aW=>lH aW (some (.ret,[(.bool false)],aA)) (fq 4 t0 aA fun aX=>qX K 81 aX aA fun aY aL=>some (.ret,[aY],aL)))).bind fun aG=>sL aG.2 fun aB aM=>Ex.nA aG.1 (lZ (aa1 h0) aB aM)
theorem aAJ (K:kW) (a0:kM) (h0:kP):o6 Tryz.prog mK mJ K 36 [a0] h0=CH (lU mK K) a0 h0:=by kernel_rfl
def GO (K:kW) (m:Nat) (s:List kM×kP):Option R :=
 B5 s fun aD aB aC aA h5=>aq .lss aA aC ((kZ 5 aB aA).bind fun t7=>(kU true 5 h5 t7).bind fun t8=>kR (lL 5 h5 (.agg [(.int .i64 0),(.int .i64 0),(.int .i64 0),(.str []),(.slice [] .nil)])) fun t9 aG=>(kS 5 aG t9 t8).bind fun aE=>(kU true 5 aE t9).bind fun aH=>qX K 36 aH aE fun aI aF=>(vR .not aI).bind fun aJ=>lH aJ (kT m .ret [(.bool false),aB,aC,aA] aF) ((kX .add aA (.int .i64 1)).bind fun aK=>kT m .normal [aD,aB,aC,aK] aF)) (kT m (.exit 0) [aD,aB,aC,aA] h5)
def m81 (K:kW) (a0:kM) (h0:kP):Option (nO×kP) :=
 ((mO a0).bind fun t0=>(mJ (GO K (aa1 h0)) ([(.bool false),a0,t0,(.int .i64 0)],h0)).bind fun aD=>B5 aD.2 fun aA aF aG aH aC=>Ex.lW aD.1 none (fun aI=>Ex.inBlock 0 aI (some (.ret,[(.bool true)],aC)) (fun aJ=>some (aJ,[aA],aC)))).bind fun aE=>sL aE.2 fun aB aK=>Ex.nA aE.1 (lZ (aa1 h0) aB aK)
theorem aBe (K:kW) (a0:kM) (h0:kP):o6 Tryz.prog mK mJ K 81 [a0] h0=m81 (lU mK K) a0 h0:=by kernel_rfl
def m67 (K:kW) (a0:kM) (h0:kP):Option (nO×kP) :=
 (kR (lL 3 h0 a0) fun t0 h1=>fq 2 t0 h1 fun t3=>(kX .neq t3 (.int .i64 0)).bind fun t4=>gq true t4 ((kO 2 t0).bind fun t5=>lC t5 h1) h1 fun t6 h7=>gq true t4 ((kU false 1 h7 t6).bind fun t8=>lC t8 h7) h7 fun t9 aF=>gq true t4 ((kX .neq t9 (.int .i64 1)).bind fun aM=>lC aM aF) aF fun aN aG=>(lO t4 aN (.bool false)).bind fun aB=>gq false aB ((kO 1 t0).bind fun aO=>lC aO aG) aG fun aP aD=>gq false aB ((kU false 1 aD aP).bind fun aQ=>lC aQ aD) aD fun aR aH=>gq false aB (kV (K 80 [(kM.kQ aR),(kM.kQ (.bool true))] aH) (fun aS aK=>lC aS aK) yP) aH fun aT aI=>gq false aB ((vR .not aT).bind fun aU=>lC aU aI) aI fun aV aA=>(lO aB (.bool true) aV).bind fun aW=>lH aW (some (.ret,[(.bool false)],aA)) (fq 0 t0 aA fun aE=>aq .eql aE (.int .i64 1) (fq 1 t0 aA fun aX=>(kX .eql aX (.int .i64 0)).bind fun aY=>some (.ret,[aY],aA)) (aq .eql aE (.int .i64 0) (some (.ret,[(.bool true)],aA)) (aq .eql aE (.int .i64 2) (fq 1 t0 aA fun aZ=>(kX .gtr aZ (.int .i64 0)).bind fun a_=>some (.ret,[a_],aA)) (some (.ret,[(.bool false)],aA)))))).bind fun aJ=>sL aJ.2 fun aC aL=>Ex.nA aJ.1 (lZ (aa1 h0) aC aL)
theorem aA0 (K:kW) (a0:kM) (h0:kP):o6 Tryz.prog mK mJ K 67 [a0] h0=m67 (lU mK K) a0 h0:=by kernel_rfl
def Pm (K:kW) (a0:kM) (h0:kP):Option (nO×kP) :=
 (kR (lL 6 h0 (.agg [(.bool false),(.bool false),(.int .i64 0),(.bool false),(.bool false),(.bool false)])) fun t0 h1=>(kX .eql a0 (.int .i64 1)).bind fun t2=>(lH t2 (kT (aa1 h1) .normal [t0,(.bool false),a0,t2] h1) ((kX .eql a0 (.int .i64 3)).bind fun t3=>kT (aa1 h1) .normal [t0,(.bool false),a0,t3] h1)).bind fun r4=>B5 r4.2 fun aA aG aC aH h9=>Ex.uB r4.1 (lH aH ((lT [(.bool false),(.bool false),(.int .i64 0),(.bool false),(.bool false),(.bool false)] [(0,1),(1,1),(2,1),(3,1),(4,1),(5,1)] [(0,(.bool true)),(2,(.int .i64 1))]).bind fun aV=>(kS 6 h9 aA aV).bind fun aO=>some (.ret,[aA,(.bool true)],aO)) (aq .eql aC (.int .i64 2) ((lT [(.bool false),(.bool false),(.int .i64 0),(.bool false),(.bool false),(.bool false)] [(0,1),(1,1),(2,1),(3,1),(4,1),(5,1)] [(0,(.bool true)),(1,(.bool true))]).bind fun aW=>(kS 6 h9 aA aW).bind fun aP=>some (.ret,[aA,(.bool true)],aP)) (aq .eql aC (.int .i64 4) ((lT [(.bool false),(.bool false),(.int .i64 0),(.bool false),(.bool false),(.bool false)] [(0,1),(1,1),(2,1),(3,1),(4,1),(5,1)] [(0,(.bool true)),(2,(.int .i64 2))]).bind fun aX=>(kS 6 h9 aA aX).bind fun aQ=>some (.ret,[aA,(.bool true)],aQ)) (aq .eql aC (.int .i64 5) ((lT [(.bool false),(.bool false),(.int .i64 0),(.bool false),(.bool false),(.bool false)] [(0,1),(1,1),(2,1),(3,1),(4,1),(5,1)] [(2,(.int .i64 1)),(4,(.bool true)),(5,(.bool true))]).bind fun aY=>(kS 6 h9 aA aY).bind fun aR=>some (.ret,[aA,(.bool true)],aR)) (aq .eql aC (.int .i64 6) ((lT [(.bool false),(.bool false),(.int .i64 0),(.bool false),(.bool false),(.bool false)] [(0,1),(1,1),(2,1),(3,1),(4,1),(5,1)] [(0,(.bool true)),(2,(.int .i64 1)),(3,(.bool true)),(4,(.bool true))]).bind fun aZ=>(kS 6 h9 aA aZ).bind fun aS=>some (.ret,[aA,(.bool true)],aS)) ((kX .eql aC (.int .i64 7)).bind fun aM=>(lH aM (kT (aa1 h9) .normal [aA,aG,aM] h9) ((kX .eql aC (.int .i64 8)).bind fun a_=>kT (aa1 h9) .normal [aA,aG,a_] h9)).bind fun aK=>AA aK.2 fun aB aN aD aI=>Ex.uB aK.1 (lH aD ((lT [(.bool false),(.bool false),(.int .i64 0),(.bool false),(.bool false),(.bool false)] [(0,1),(1,1),(2,1),(3,1),(4,1),(5,1)] [(2,(.int .i64 1))]).bind fun bA=>(kS 6 aI aB bA).bind fun aT=>some (.ret,[aB,(.bool true)],aT)) ((lT [(.bool false),(.bool false),(.int .i64 0),(.bool false),(.bool false),(.bool false)] [(0,1),(1,1),(2,1),(3,1),(4,1),(5,1)] []).bind fun bB=>(kS 6 aI aB bB).bind fun aU=>some (.ret,[aB,(.bool false)],aU)))))))))).bind fun aL=>wL aL.2 fun aE aF aJ=>Ex.nA aL.1 ((kU true 6 aJ aE).bind fun bC=>lZ (aa1 h0) (.tuple [bC,aF]) aJ)
theorem BU (K:kW) (a0:kM) (h0:kP):o6 Tryz.prog mK mJ K 160 [a0] h0=Pm (lU mK K) a0 h0:=by kernel_rfl
def pS (K:kW) (a0:kM) (h0:kP):Option (nO×kP) :=
 (kR (lL 11 h0 a0) fun t0 h1=>fq 0 t0 h1 fun t3=>qX K 160 t3 h1 fun t4 h5=>(lI 0 t4).bind fun t6=>(lI 1 t4).bind fun t7=>kR (lL 6 h5 (.agg [(.bool false),(.bool false),(.int .i64 0),(.bool false),(.bool false),(.bool false)])) fun t8 h9=>(kS 6 h9 t8 t6).bind fun fZ=>(vR .not t7).bind fun aX=>gq false aX ((kO 3 t0).bind fun gV=>lC gV fZ) fZ fun gW cG=>gq false aX ((kU false 1 cG gW).bind fun gX=>lC gX cG) cG fun gY f_=>gq false aX ((kO 0 t8).bind fun gZ=>lC gZ f_) f_ fun g_ cH=>gq false aX ((kU false 1 cH g_).bind fun hD=>lC hD cH) cH fun hI gA=>gq false aX (kV (K 79 [(kM.kQ gY),(kM.kQ hI)] gA) (fun hO gQ=>lC hO gQ) yP) gA fun hQ gB=>gq false aX ((vR .not hQ).bind fun h_=>lC h_ gB) gB fun iA gC=>(lO aX (.bool true) iA).bind fun aY=>gq false aY ((kO 2 t0).bind fun iB=>lC iB gC) gC fun iC cL=>gq false aY ((kU false 1 cL iC).bind fun iD=>lC iD cL) cL fun iE gD=>gq false aY ((kO 3 t8).bind fun iF=>lC iF gD) gD fun iG cM=>gq false aY ((kU false 1 cM iG).bind fun iH=>lC iH cM) cM fun iI gE=>gq false aY (kV (K 80 [(kM.kQ iE),(kM.kQ iI)] gE) (fun iJ gR=>lC iJ gR) yP) gE fun iK gF=>gq false aY ((vR .not iK).bind fun iL=>lC iL gF) gF fun iM gG=>(lO aY (.bool true) iM).bind fun aZ=>gq false aZ ((kO 7 t0).bind fun iN=>lC iN gG) gG fun iO cN=>gq false aZ ((kU false 1 cN iO).bind fun iP=>lC iP cN) cN fun iQ gH=>gq false aZ ((mO iQ).bind fun iR=>lC iR gH) gH fun iS gI=>gq false aZ ((kO 2 t8).bind fun iT=>lC iT gI) gI fun iU cO=>gq false aZ ((kU false 1 cO iU).bind fun iV=>lC iV cO) cO fun iW gJ=>gq false aZ ((kX .neq iS iW).bind fun iX=>lC iX gJ) gJ fun iY gK=>(lO aZ (.bool true) iY).bind fun cD=>gq false cD ((kO 7 t0).bind fun iZ=>lC iZ gK) gK fun i_ cP=>gq false cD ((kU false 1 cP i_).bind fun jA=>lC jA cP) cP fun jB gL=>gq false cD (kV (K 81 [(kM.kQ jB)] gL) (fun jC gT=>lC jC gT) yP) gL fun jD gM=>gq false cD ((vR .not jD).bind fun jE=>lC jE gM) gM fun jF cF=>(lO cD (.bool true) jF).bind fun jG=>lH jG (some (.ret,[(.bool false)],cF)) (fq 1 t8 cF fun cE=>gq true cE ((kO 4 t0).bind fun jH=>lC jH cF) cF fun jI cQ=>gq true cE ((kU true 3 cQ jI).bind fun jJ=>lC jJ cQ) cQ fun jK gN=>gq true cE (kV (K 67 [(kM.kQ jK)] gN) (fun jL gU=>lC jL gU) yP) gN fun jM gO=>gq true cE ((vR .not jM).bind fun jN=>lC jN gO) gO fun jO gP=>(lO cE jO (.bool false)).bind fun aB=>gq false aB ((kO 1 t8).bind fun cR=>lC cR gP) gP fun cS aL=>gq false aB ((kU false 1 aL cS).bind fun cT=>lC cT aL) aL fun cU bA=>gq false aB ((vR .not cU).bind fun cV=>lC cV bA) bA fun cW bB=>gq false aB (lC cW bB) bB fun aE bC=>gq true aE ((kO 4 t0).bind fun cX=>lC cX bC) bC fun cY aM=>gq true aE ((kU true 3 aM cY).bind fun cZ=>lC cZ aM) aM fun c6 bD=>gq true aE ((lT [(.int .i64 0),(.int .i64 0),(.int .i64 0)] [(0,1),(1,1),(2,1)] []).bind fun c7=>lC c7 bD) bD fun c_ bE=>gq true aE ((rW [.i,.i,.i] c6 c_).bind fun dA=>lC (.bool (!dA)) bE) bE fun dB bF=>gq false aB ((lO aE dB (.bool false)).bind fun dC=>lC dC bF) bF fun dD bG=>(lO aB (.bool true) dD).bind fun aC=>gq false aC ((kO 0 t0).bind fun dE=>lC dE bG) bG fun dF aN=>gq false aC ((kU false 1 aN dF).bind fun dG=>lC dG aN) aN fun dH bH=>gq false aC ((kX .eql dH (.int .i64 7)).bind fun dI=>lC dI bH) bH fun dJ bI=>gq false aC (lC dJ bI) bI fun aA bJ=>gq true aA ((kO 7 t0).bind fun dK=>lC dK bJ) bJ fun dL aO=>gq true aA ((kU false 1 aO dL).bind fun dM=>lC dM aO) aO fun dN bK=>gq true aA ((kZ 5 dN (.int .i64 0)).bind fun dO=>lC dO bK) bK fun dP bL=>gq true aA ((kO 0 dP).bind fun dQ=>lC dQ bL) bL fun dR aP=>gq true aA ((kU false 1 aP dR).bind fun dU=>lC dU aP) aP fun dV bM=>gq true aA ((kX .neq dV (.int .i64 4)).bind fun dW=>lC dW bM) bM fun dX bN=>gq false aC ((lO aA dX (.bool false)).bind fun dY=>lC dY bN) bN fun dZ aI=>(lO aC (.bool true) dZ).bind fun d_=>lH d_ (some (.ret,[(.bool false)],aI)) (fq 4 t8 aI fun eA=>(vR .not eA).bind fun aF=>gq true aF ((kO 8 t0).bind fun eB=>lC eB aI) aI fun eC aQ=>gq true aF ((kU false 1 aQ eC).bind fun eD=>lC eD aQ) aQ fun eE bO=>gq true aF ((mO eE).bind fun eF=>lC eF bO) bO fun eG bP=>gq true aF ((kX .gtr eG (.int .i64 0)).bind fun eH=>lC eH bP) bP fun eI bQ=>(lO aF eI (.bool false)).bind fun aG=>gq false aG ((kO 10 t0).bind fun eJ=>lC eJ bQ) bQ fun eK aR=>gq false aG ((kU false 1 aR eK).bind fun eL=>lC eL aR) aR fun eM bR=>gq false aG (lC eM bR) bR fun aJ bS=>gq true aJ ((kO 5 t8).bind fun eN=>lC eN bS) bS fun eO aS=>gq true aJ ((kU false 1 aS eO).bind fun eP=>lC eP aS) aS fun eQ bT=>gq true aJ ((vR .not eQ).bind fun eR=>lC eR bT) bT fun eS bU=>gq false aG ((lO aJ eS (.bool false)).bind fun eT=>lC eT bU) bU fun eU bV=>(lO aG (.bool true) eU).bind fun aD=>gq false aD ((kO 10 t0).bind fun eV=>lC eV bV) bV fun eX aT=>gq false aD ((kU false 1 aT eX).bind fun eY=>lC eY aT) aT fun eZ bW=>gq false aD ((vR .not eZ).bind fun e_=>lC e_ bW) bW fun fB bX=>gq false aD (lC fB bX) bX fun aH bY=>gq true aH ((kO 9 t0).bind fun fC=>lC fC bY) bY fun fD aU=>gq true aH ((kU false 1 aU fD).bind fun fE=>lC fE aU) aU fun fF bZ=>gq true aH ((mO fF).bind fun fH=>lC fH bZ) bZ fun fI b8=>gq true aH ((kX .gtr fI (.int .i64 0)).bind fun fJ=>lC fJ b8) b8 fun fK b9=>gq false aD ((lO aH fK (.bool false)).bind fun fL=>lC fL b9) b9 fun fM aV=>(lO aD (.bool true) fM).bind fun fN=>lH fN (some (.ret,[(.bool false)],aV)) (fq 8 t0 aV fun fO=>qX K 66 fO aV fun aK b_=>gq true aK ((kO 9 t0).bind fun fQ=>lC fQ b_) b_ fun fR aW=>gq true aK ((kU false 1 aW fR).bind fun fS=>lC fS aW) aW fun fU cA=>gq true aK (kV (K 66 [(kM.kQ fU)] cA) (fun fV cI=>lC fV cI) yP) cA fun fX cJ=>(lO aK fX (.bool false)).bind fun fY=>some (.ret,[fY],cJ))))).bind fun cB=>sL cB.2 fun a_ cK=>Ex.nA cB.1 (lZ (aa1 h0) a_ cK)
theorem BS (K:kW) (a0:kM) (h0:kP):o6 Tryz.prog mK mJ K 123 [a0] h0=pS (lU mK K) a0 h0:=by kernel_rfl
def GM (K:kW) (m:Nat) (s:List kM×kP):Option R :=
 B5 s fun aD aB aC aA h5=>aq .lss aA aC ((kZ 11 aB aA).bind fun t7=>(kU true 11 h5 t7).bind fun t8=>kR (lL 11 h5 (.agg [(.int .i64 0),(.int .i64 0),(.int .i64 0),(.str []),(.int .i64 0),(.int .i64 0),(.int .i64 0),(.slice [] .nil),(.slice [] .nil),(.slice [] .nil),(.bool false)])) fun t9 aG=>(kS 11 aG t9 t8).bind fun aE=>(kU true 11 aE t9).bind fun aH=>qX K 123 aH aE fun aI aF=>(vR .not aI).bind fun aJ=>lH aJ (kT m .ret [(.bool false),aB,aC,aA] aF) ((kX .add aA (.int .i64 1)).bind fun aK=>kT m .normal [aD,aB,aC,aK] aF)) (kT m (.exit 0) [aD,aB,aC,aA] h5)
def m66 (K:kW) (a0:kM) (h0:kP):Option (nO×kP) :=
 ((mO a0).bind fun t0=>(mJ (GM K (aa1 h0)) ([(.bool false),a0,t0,(.int .i64 0)],h0)).bind fun aD=>B5 aD.2 fun aA aF aG aH aC=>Ex.lW aD.1 none (fun aI=>Ex.inBlock 0 aI (some (.ret,[(.bool true)],aC)) (fun aJ=>some (aJ,[aA],aC)))).bind fun aE=>sL aE.2 fun aB aK=>Ex.nA aE.1 (lZ (aa1 h0) aB aK)
theorem aAZ (K:kW) (a0:kM) (h0:kP):o6 Tryz.prog mK mJ K 66 [a0] h0=m66 (lU mK K) a0 h0:=by kernel_rfl
def E2 (K:kW) (m:Nat) (s:List kM×kP):Option R :=
 Eu s fun aD aE aB aC aA aG=>aq .lss aA aC ((kZ 6 aB aA).bind fun aQ=>(kU true 6 aG aQ).bind fun aR=>kR (lL 6 aG (.agg [(.int .i64 0),(.str []),(.int .i64 0),(.int .i64 0),(.int .i64 0),(.bool false)])) fun aI aO=>(kS 6 aO aI aR).bind fun aJ=>fq 1 aI aJ fun aS=>qX K 65 aS aJ fun aT aK=>(vR .not aT).bind fun aF=>gq false aF ((kO 2 aI).bind fun aU=>lC aU aK) aK fun aV aH=>gq false aF ((kU true 3 aH aV).bind fun aW=>lC aW aH) aH fun aX aL=>gq false aF (kV (K 67 [(kM.kQ aX)] aL) (fun aY aP=>lC aY aP) yP) aL fun aZ aM=>gq false aF ((vR .not aZ).bind fun a_=>lC a_ aM) aM fun bA aN=>(lO aF (.bool true) bA).bind fun bB=>lH bB (kT m .ret [aD,(.bool false),aB,aC,aA] aN) ((kX .add aA (.int .i64 1)).bind fun bC=>kT m .normal [aD,aE,aB,aC,bC] aN)) (kT m (.exit 0) [aD,aE,aB,aC,aA] aG)
def m31 (K:kW) (a0:kM) (h0:kP):Option (nO×kP) :=
 (kR (lL 8 h0 a0) fun t0 h1=>fq 1 t0 h1 fun t3=>qX K 65 t3 h1 fun t4 h5=>(vR .not t4).bind fun t6=>gq false t6 ((kO 7 t0).bind fun t7=>lC t7 h5) h5 fun t8 h9=>gq false t6 ((kU false 1 h9 t8).bind fun bC=>lC bC h9) h9 fun bD aP=>gq false t6 (kV (K 66 [(kM.kQ bD)] aP) (fun bE bA=>lC bE bA) yP) aP fun bF aQ=>gq false t6 ((vR .not bF).bind fun bG=>lC bG aQ) aQ fun bH aH=>(lO t6 (.bool true) bH).bind fun bI=>lH bI (some (.ret,[(.bool false)],aH)) (fq 2 t0 aH fun aY=>(mO aY).bind fun bJ=>(mJ (E2 K (aa1 aH)) ([t0,(.bool false),aY,bJ,(.int .i64 0)],aH)).bind fun aX=>Eu aX.2 fun aA aG aM aN aO aC=>Ex.lW aX.1 none (fun aZ=>Ex.inBlock 0 aZ (fq 3 aA aC fun bK=>lH bK ((kO 4 aA).bind fun bL=>(kU true 3 aC bL).bind fun bM=>qX K 67 bM aC fun aE aR=>gq true aE ((kO 4 aA).bind fun bN=>lC bN aR) aR fun bO aS=>gq true aE ((kO 1 bO).bind fun bP=>lC bP aS) aS fun bQ aJ=>gq true aE ((kU false 1 aJ bQ).bind fun bR=>lC bR aJ) aJ fun bS aT=>gq true aE ((kX .eql bS (.int .i64 0)).bind fun bT=>lC bT aT) aT fun bU aU=>(lO aE bU (.bool false)).bind fun aF=>gq true aF ((kO 4 aA).bind fun bV=>lC bV aU) aU fun bW aV=>gq true aF ((kO 0 bW).bind fun bX=>lC bX aV) aV fun bY aK=>gq true aF ((kU false 1 aK bY).bind fun bZ=>lC bZ aK) aK fun b8 aW=>gq true aF ((kX .neq b8 (.int .i64 2)).bind fun b9=>lC b9 aW) aW fun b_ bB=>(lO aF b_ (.bool false)).bind fun cA=>some (.ret,[cA],bB)) ((kO 4 aA).bind fun cB=>(kU true 3 aC cB).bind fun cD=>(lT [(.int .i64 0),(.int .i64 0),(.int .i64 0)] [(0,1),(1,1),(2,1)] []).bind fun cE=>(rW [.i,.i,.i] cD cE).bind fun aL=>some (.ret,[(.bool aL)],aC))) (fun a_=>some (a_,[aG],aC))))).bind fun aD=>sL aD.2 fun aB aI=>Ex.nA aD.1 (lZ (aa1 h0) aB aI)
theorem aAF (K:kW) (a0:kM) (h0:kP):o6 Tryz.prog mK mJ K 31 [a0] h0=m31 (lU mK K) a0 h0:=by kernel_rfl
end
section
open Go Hk

end
section
open Go Hk

end
section
open Go Hk

end
section
open Go Hk

end
section
open Go Hk
structure GT where
 elem:Int
 len:Int
 label:Int
 deriving DecidableEq
inductive GE where
 | mk (kind pos num:Int) (name:List UInt8) (args:List GE)
inductive GS where
 | mk (kind pos r_:Int) (name:List UInt8) (ty:GT) (args:List GE) (body els:List GS) (has:Bool)
structure GP where
 pos:Int
 name:List UInt8
 ty:GT
 out:Bool
structure GF where
 pos:Int
 name:List UInt8
 params:List GP
 has:Bool
 result:GT
 body:List GS
def GT.cells (t:GT):List kM:=[.int .i64 t.elem,.int .i64 t.len,.int .i64 t.label]
mutual
def GE.cells:GE→List kM
 | .mk k p n name args=>[.int .i64 k,.int .i64 p,.int .i64 n,.str name,.slice (GE.rows args) .no]
def GE.rows:List GE→List (List kM)
 | []=>[]
 | x::r=>x.cells::GE.rows r
end
theorem GE.nN:∀l:List GE,GE.rows l=l.map GE.cells
 | []=>rfl
 | x::r=>by simp [GE.rows,GE.nN r]
mutual
def GS.cells:GS→List kM
 | .mk k p m name ty args body els has=>[.int .i64 k,.int .i64 p,.int .i64 m,.str name,.int .i64 ty.elem,.int .i64 ty.len,.int .i64 ty.label,
   .slice (args.map GE.cells) .no,.slice (GS.rows body) .no,.slice (GS.rows els) .no,.bool has]
def GS.rows:List GS→List (List kM)
 | []=>[]
 | x::r=>x.cells::GS.rows r
end
theorem GS.nN:∀l:List GS,GS.rows l=l.map GS.cells
 | []=>rfl
 | x::r=>by simp [GS.rows,GS.nN r]
def GP.cells (p:GP):List kM:=[.int .i64 p.pos,.str p.name,.int .i64 p.ty.elem,.int .i64 p.ty.len,.int .i64 p.ty.label,.bool p.out]
def GF.cells (f:GF):List kM:=[.int .i64 f.pos,.str f.name,.slice (f.params.map GP.cells) .no,.bool f.has,.int .i64 f.result.elem,.int .i64 f.result.len,.int .i64 f.result.label,.slice (f.body.map GS.cells) .no]
def GE.kind:GE→Int | .mk k _ _ _ _=>k
def GE.num:GE→Int | .mk _ _ n _ _=>n
def GE.name:GE→List UInt8 | .mk _ _ _ n _=>n
def GE.args:GE→List GE | .mk _ _ _ _ a=>a
mutual
def GE.size:GE→Nat
 | .mk _ _ _ _ args=>1+GE.nJ args
def GE.nJ:List GE→Nat
 | []=>0
 | x::r=>x.size+GE.nJ r
end
mutual
def GS.size:GS→Nat
 | .mk _ _ _ _ _ args body els _=>1+GE.nJ args+GS.nJ body+GS.nJ els
def GS.nJ:List GS→Nat
 | []=>0
 | x::r=>x.size+GS.nJ r
end
theorem GE.oO {x:GE}:∀{l:List GE},x∈l→x.size≤GE.nJ l
 | y::r,h=>by
  simp only [GE.nJ]
  cases h with
  | head=>omega
  | tail _ h=>have:=GE.oO h; omega
theorem GS.oO {x:GS}:∀{l:List GS},x∈l→x.size≤GS.nJ l
 | y::r,h=>by
  simp only [GS.nJ]
  cases h with
  | head=>omega
  | tail _ h=>have:=GS.oO h; omega
def qR (s:List UInt8):Bool:=match oI s with
 | ([t,_],0,_)=>t.kind == 1 && t.text == s
 | _=>false
def lJ (s:List UInt8) (has:Bool):Bool:=if has then qR s else s == []
def zB (n:Int):Bool:=decide (0≤n∧n≤4294967295)
def lB (n:Int) (has:Bool):Bool:=if has then zB n else n == 0
def tS (k:Int):Option Int :=
 if k < 1∨26 < k then none else some ((([0,0,0,1,-1,1,1,1,2,2,2,2,2,2,1,1,1,2,2,2,2,2,2,2,2,3,1]:List Int)[k.toNat]?).getD 0)
def rL (k n:Int) (name:List UInt8) (len:Nat):Bool:=match tS k with
 | none=>false
 | some m=>(m == -1 || m == (len:Int)) && lJ name (k == 2 || k == 3 || k == 4) && lB n (k == 1 || k == 14 || k == 15 || k == 16)
mutual
def nT:GE→Bool
 | .mk k _ n name args=>rL k n name args.length && nH args
def nH:List GE→Bool
 | []=>true
 | x::r=>nT x && nH r
end
def sJ (t:GT):Bool:=(t.label == 0 || t.label == 1) && zB t.len && (t.elem == 0 || t.elem == 1 && t.len == 0 || t.elem == 2 && t.len != 0)
def GT.zero:GT:=⟨0,0,0⟩
def lM (k:Int):Option Nat :=
 if k < 1∨8 < k then none else some ((([0,1,0,1,2,1,1,1,1]:List Nat)[k.toNat]?).getD 0)
def PO:List GE→Bool
 | x::_=>x.kind == 4
 | []=>false
def lR (k m:Int) (name:List UInt8) (ty:GT) (args:List GE) (nb ne:Nat) (has:Bool):Bool:=match lM k with
 | none=>false
 | some n=>args.length == n && lJ name (!(k == 5 || k == 7 || k == 8)) && nH args && lB m (k == 6) && (if k == 2 then sJ ty else ty == GT.zero) &&
   (!(k == 7) || PO args) && (k == 5 || k == 6 || nb == 0) && (k == 5 || !has) && (has || ne == 0)
mutual
def pX:GS→Bool
 | .mk k _ m name ty args body els has=>lR k m name ty args body.length els.length has && nW body && nW els
def nW:List GS→Bool
 | []=>true
 | x::r=>pX x && nW r
end
def uU (p:GP):Bool:=qR p.name && sJ p.ty
def o0 (f:GF):Bool:=qR f.name && nW f.body && f.params.all uU && (if f.has then sJ f.result && f.result.len == 0 && f.result.elem != 2 else f.result == GT.zero)
def lK (k:Int):Nat:=(([8,8,8,8,8,8,8,8,6,6,7,4,2,3,5,5,8,1,1,1,1,1,1,8,8,8,8]:List Nat)[k.toNat]?).getD 8
def qG (k:Int):List UInt8:=(([[],[],[],[],[],[126],[45],[33],[43],[45],[42],[38],[124],[94],[60,60],[62,62],[114,111,114],[61,61],[33,61],[60],[60,61],[62],[62,61],
 [109,117,108,104,105],[99,97,114,114,121],[115,101,108,101,99,116],[119,111,114,100]]:List (List UInt8))[k.toNat]?).getD []
def vH (n:Int):List UInt8:=Et n.toNat
abbrev Part:=Int×List UInt8×Nat
def uD (bare:Bool) (p:Part):List UInt8:=if bare then p.2.1 else 40::(p.2.1++[41])
def sV (bare:Bool) (p:Part):Nat:=if bare then p.2.2 else p.2.2+1
def mX (t:Nat) (k:Int):Bool:=decide (t < lK k∨lK k=t∧1 < t)
def vL:List Part→List UInt8
 | []=>[]
 | [p]=>p.2.1
 | p::r=>p.2.1++44::32::vL r
def wH:List Part→Nat
 | []=>0
 | p::r=>max p.2.2 (wH r)
def yV (k n:Int) (name:List UInt8) (l:List Part):List UInt8 :=
 if lK k < 8 then match l with
  | [a]=>uD (mX (lK k) a.1) a++32::(qG k++32::vH n)
  | a::b::_=>uD (mX (lK k) a.1) a++32::(qG k++32::uD (decide (lK k < lK b.1)) b)
  | []=>[]
 else if k=1 then vH n else if k=2 then name
 else if k=3 then(match l with | a::_=>name++91::(a.2.1++[93]) | []=>[])
 else if k=5∨k=6∨k=7 then(match l with | a::_=>qG k++uD (decide (lK a.1=8)) a | []=>[])
 else qG k++name++40::(vL l++(if k=16 then 44::32::vH n else [])++[41])
def yJ (k:Int) (l:List Part):Nat :=
 if lK k < 8 then match l with
  | [a]=>sV (mX (lK k) a.1) a
  | a::b::_=>max (sV (mX (lK k) a.1) a) (sV (decide (lK k < lK b.1)) b)
  | []=>0
 else if k=1∨k=2 then 0
 else if k=3 then(match l with | a::_=>a.2.2+1 | []=>0)
 else if k=5∨k=6∨k=7 then(match l with | a::_=>sV (decide (lK a.1=8)) a+1 | []=>0)
 else wH l+1
mutual
def lX:GE→Part
 | .mk k _ n name args=>(k,yV k n name (yA args),yJ k (yA args))
def yA:List GE→List Part
 | []=>[]
 | x::r=>lX x::yA r
end
theorem FM:∀l:List GE,yA l=l.map lX
 | []=>rfl
 | x::r=>by simp [yA,FM r]
theorem wC:∀l:List GE,nH l=l.all nT
 | []=>rfl
 | x::r=>by simp [nH,wC r]
theorem wD:∀l:List GS,nW l=l.all pX
 | []=>rfl
 | x::r=>by simp [nW,wD r]
def mG (x:GE):List UInt8:=(lX x).2.1
def mB (x:GE):Nat:=(lX x).2.2
def oV (l:Int):List UInt8:=if l=1 then [115,101,99,32] else [112,117,98,32]
def wI (t:GT):List UInt8:=(if t.elem=1 then [109,97,115,107] else if t.elem=2 then [117,56] else [117,51,50])++(if 0 < t.len then 91::(vH t.len++[93]) else [])
def qB (n:Nat):List UInt8:=List.replicate n 32
def oH (n:Nat) (l:List (List UInt8)):List UInt8:=32::123::10::((l.map fun t=>qB (n+1)++t++[10]).flatten++qB n++[125])
def Cr (k m:Int) (name:List UInt8) (ty:GT) (args:List (List UInt8)) (body els:List UInt8) (has:Bool):List UInt8 :=
 let a:=(args[0]?).getD []
 if k=1 then [108,101,116,32]++name++[32,61,32]++a++[59]
 else if k=2 then [118,97,114,32]++oV ty.label++name++[58,32]++wI ty++[59]
 else if k=3 then name++[32,61,32]++a++[59]
 else if k=4 then name++91::(a++[93])++[32,61,32]++(args[1]?).getD []++[59]
 else if k=5 then [105,102,32]++a++body++(if has then [32,101,108,115,101]++els else [])
 else if k=6 then [102,111,114,32]++name++[32,60,32]++a++[32,109,97,120,32]++vH m++body
 else if k=8 then [114,101,116,117,114,110,32]++a++[59]
 else a++[59]
def ZG (k:Int) (args:List Nat) (body els:Nat) (has:Bool):Nat :=
 let a:=(args[0]?).getD 0
 if k=2 then 0 else if k=4 then max (a+1) ((args[1]?).getD 0) else if k=5 then(if has then max a (max body els) else max a body) else if k=6 then max a body else a
mutual
def qI (n:Nat):GS→List UInt8
 | .mk k _ m name ty args body els has=>Cr k m name ty (args.map mG) (oH n (oF (n+1) body)) (oH n (oF (n+1) els)) has
def oF (n:Nat):List GS→List (List UInt8)
 | []=>[]
 | x::r=>qI n x::oF n r
end
def qJ:List Nat→Nat
 | []=>0
 | x::r=>max x (qJ r)
mutual
def qT:GS→Nat
 | .mk k _ _ _ _ args body els has=>ZG k (args.map mB) (qJ (nX body)+1) (qJ (nX els)+1) has
def nX:List GS→List Nat
 | []=>[]
 | x::r=>qT x::nX r
end
theorem QL (n:Nat):∀l:List GS,oF n l=l.map (qI n)
 | []=>rfl
 | x::r=>by simp [oF,QL n r]
theorem Qv:∀l:List GS,nX l=l.map qT
 | []=>rfl
 | x::r=>by simp [nX,Qv r]
def qK (p:GP):List UInt8:=(if p.out then [111,117,116,32] else [])++oV p.ty.label++p.name++[58,32]++wI p.ty
def xA:List (List UInt8)→List UInt8
 | []=>[]
 | [p]=>p
 | p::r=>p++44::32::xA r
def vE (f:GF):List UInt8:=[102,110,32]++f.name++[40]++xA (f.params.map qK)++[41]++(if f.has then [58,32]++oV f.result.label++wI f.result else []) ++
 oH 0 (oF 1 f.body)++[10]
def vA (f:GF):Nat:=qJ (nX f.body)+1
def qE (l:List GF):List UInt8×Int :=
 if l.all o0 then(if 64 < qJ (l.map vA) then([],11) else((l.map vE).flatten,0)) else([],2)
end
section
open Go Hk
structure WS where
 a:List kM
 ok:∀m h,nI m h a=some a
 u:Bool
 bs:List UInt8
 now:Nat
 over:Bool
 ln:Nat
def Dl (w:WS) (bs:List UInt8):List kM:=[bif w.u then .ptr 1 0 else .nilptr,.slice (tW bs) (.own 2),.int .i64 (w.now:Int),.bool w.over,.int .i64 (w.ln:Int)]
def WFr:List UInt8→lG
 | []=>.front 0 0
 | b::r=>.front (r.length+1) 1 6
def Mg (w:WS) (cs fs:List UInt8) (B:List lG):kP:=.cells w.a::.tcells 86 (Dl w cs)::WFr fs::B
def WH (w:WS) (B:List lG):kP:=Mg w w.bs w.bs B
def Still (B:List lG):Prop:=∀m h,nK m h B=some B
section
variable {w:WS}{B:List lG}{cs fs:List UInt8}
theorem pC {C:List lG}:WH w B++C=WH w (B++C):=rfl
theorem nF:aa1 (WH w B)=B.length+3:=rfl
theorem oC:Still []:=fun _ _=>rfl
theorem Ik {m:Nat}{h:kP}:∀{B C:List lG},nK m h B=some B→nK m h C=some C→nK m h (B++C)=some (B++C)
 | [],_,_,h2=>h2
 | b::r,C,h1,h2=>by
  simp only [nK] at h1
  split at h1
  ·rename_i b' r' e1 e2
   simp only [Option.some.injEq,List.cons.injEq] at h1
   obtain⟨rfl,rfl⟩:=h1
   simp only [ae7,nK,e1,Ik e2 h2]
  ·cases h1
theorem o9 {C:List lG}(h1:Still B) (h2:Still C):Still (B++C):=fun m h=>Ik (h1 m h) (h2 m h)
theorem Fg {n s:Nat}:Still [.front n s]:=fun _ _=>rfl
theorem PF (h:Still B) {m:Nat}{x:kP}(hm:3≤m):nK m x (Mg w cs fs B)=some (Mg w cs fs B):=by
 have h1:nI m x (Dl w cs)=some (Dl w cs):=by
  obtain⟨a,ok,u,b,n,o,l⟩:=w
  have e1:(1:Nat) < m:=by omega
  have e2:(2:Nat) < m:=by omega
  have e3:kM.mP m x (.ptr 1 0)=.ptr 1 0:=lE e1
  have e4:kM.mP m x .nilptr=.nilptr:=rfl
  have e5:kM.mE (.ptr 1 0)=true:=rfl
  have e6:kM.mE .nilptr=true:=rfl
  cases u <;> simp [Dl,e2,e3,e4,e5,e6]
 have h2:pF m x (.tcells 86 (Dl w cs))=some (.tcells 86 (Dl w cs)):=by simp [pF,h1]
 have h3:pF m x (WFr fs)=some (WFr fs):=by cases fs <;> rfl
 have h4:pF m x (.cells w.a)=some (.cells w.a):=by simp [w.ok m x]
 simp only [Mg,oM,h2,h3,h4,h m x,ad9,Option.map_some]
theorem oD {C:List lG}(h:Still B):l_ (B.length+3) (WH w (B++C))=some (WH w B):=by
 have:(WH w (B++C)).take (B.length+3)=WH w B:=by simp [WH,Mg]
 simp only [l_,this]
 exact PF h (by omega)
theorem tA (h:Still B):l_ (B.length+3) (WH w B)=some (WH w B):=by
 have:=oD (w:=w) (C:=[]) h
 simpa using this
end
section
variable {w:WS}{B:List lG}{u:Bool}{bs x cs fs:List UInt8}{now ln:Nat}{ov:Bool}
@[simp] theorem aNh:mA false 1 (Mg w cs fs B) (.ptr 1 1)=some (.slice (tW cs) (.own 2)):=(rfl)
@[simp] theorem aNi:mA false 1 (WH w B) (.ptr 1 2)=some (.int .i64 (w.now:Int)):=(rfl)
@[simp] theorem aNj:mA false 1 (WH w B) (.ptr 1 3)=some (.bool w.over):=(rfl)
@[simp] theorem aNk:mA false 1 (WH w B) (.ptr 1 4)=some (.int .i64 (w.ln:Int)):=(rfl)
@[simp] theorem aNC:pU 1 (Mg w cs fs B) (.ptr 1 1) (.slice (tW x) (.own 2))=some (Mg w x fs B):=by cases x <;> rfl
theorem awN {n:Nat}:pU 1 (WH w B) (.ptr 1 2) (.int .i64 (n:Int))=some (WH { w with now:=n } B):=(rfl)
@[simp] theorem aNE {b:Bool}:pU 1 (WH w B) (.ptr 1 3) (.bool b)=some (WH { w with over:=b } B):=(rfl)
theorem AW:(tW bs).length=bs.length:=by simp [tW]
theorem ac8:tW bs++tW x=tW (bs++x):=by simp [tW]
theorem anY {h:kP}{t:Tok}:pY 1 h (.slice (tW x) t)=some (tW x):=by
 simp only [pY]
 rw [if_pos]
 simp [tW]
theorem aIG (hb:cs.length+x.length≤140737488355328):AK 6 1 1 1 (Mg w cs cs B) (.slice (tW cs) (.own 2)) (.str x)=some (.slice (tW (cs++x)) (.own 2),Mg w cs (cs++x) B):=by
 have h0:AK 6 1 1 1 (Mg w cs cs B) (.slice (tW cs) (.own 2)) (.str x)=yR 6 1 1 (Mg w cs cs B) (.slice (tW cs) (.own 2)) (.slice (tW x) .no):=rfl
 rw [h0]
 unfold yR
 rw [anY]
 have e1:∀b,(Mg w cs b B)[2]?=some (WFr b):=fun _=>rfl
 simp only [e1]
 cases cs with
 | nil =>
  cases x with
  | nil=>rfl
  | cons c r =>
   have hb':(0+(tW (c::r)).length) * 1≤140737488355328:=by rw [AW]; simp at hb ⊢; omega
   have hb2:0+(tW (c::r)).length≤140737488355328:=by omega
   have hl:(tW (c::r)).length=r.length+1:=by rw [AW]; rfl
   simp only [WFr]
   rw [if_pos ⟨by simp [tW],.inr ⟨trivial,trivial⟩,hb',hb2⟩,if_neg (by omega),hl]
   simp [tW,Mg,WFr]
 | cons b s =>
  simp only [WFr]
  have hb':(s.length+1+(tW x).length) * 1≤140737488355328:=by rw [AW]; simp at hb ⊢; omega
  have hl:(tW (b::s)).length=s.length+1:=by rw [AW]; rfl
  rw [if_pos ⟨hl,.inl trivial,hb',by omega⟩]
  cases x with
  | nil=>rw [if_pos (by rfl)]; simp
  | cons c r =>
   rw [if_neg (by rw [AW]; simp)]
   rw [ac8,AW]
   simp [Mg,WFr]
   omega
end
def WS.put (w:WS) (x:List UInt8):WS:={ w with u:=true,bs:=w.bs++x }
theorem WS.asR {w:WS}{x y:List UInt8}:(w.put x).put y=w.put (x++y):=by simp [WS.put]
@[simp] theorem WS.aKC {w:WS}{x:List UInt8}:(w.put x).bs=w.bs++x:=rfl
@[simp] theorem WS.aH4 {w:WS}{x:List UInt8}:(w.put x).now=w.now:=rfl
@[simp] theorem WS.aFR {w:WS}{x:List UInt8}:(w.put x).over=w.over:=rfl
@[simp] theorem WS.aKD {w:WS}{x:List UInt8}:(w.put x).ln=w.ln:=rfl
section
variable {w:WS}{B:List lG}
theorem aI6:KK 161 [.ptr 1 0] (WH w B)=some (.ret (.tuple []),WH { w with u:=true } B):=by
 refine lA (m:=Er mK.bld .copyCheck [.ptr 1 0] (WH w B)) rfl ?_
 obtain⟨a,ok,u,bs,n,o,l⟩:=w
 cases u <;> rfl
theorem aIV (x:List UInt8) (hB:Still B) (hb:w.bs.length+x.length≤140737488355328) :
  KK 124 [.ptr 1 0,.str x] (WH w B)=some (.ret (.tuple [.int .i64 (x.length:Int),.niliface]),WH (w.put x) B):=by
 refine lA (aqC _ _ _ _) ?_
 have h1:WH { w with u:=true } B=Mg { w with u:=true } w.bs w.bs B:=rfl
 have h2:=aIG (w:={ w with u:=true }) (B:=B) (cs:=w.bs) (x:=x) hb
 have h3:Mg { w with u:=true } (w.bs++x) (w.bs++x) B=WH (w.put x) B:=rfl
 have h4:=tA (w:=w.put x) hB
 simp -implicitDefEqProofs [aE7,aI6,h1,h2,h3,lZ,nF,h4]
 rfl
end
end
section
open Go Hk
theorem rU {a:Nat}(h:a≤9223372036854775806):IntKind.wrap .i64 ((a:Int)+1)=((a+1:Nat):Int):=by rw [wrap64] <;> omega
def qY (s:List UInt8):List kM:=[.str s]
def WS.Eh (w:WS) (xs:List (List UInt8)):WS:=xs.foldl WS.put w
@[simp] theorem WS.ajO {w:WS}:w.Eh []=w:=rfl
@[simp] theorem WS.aFS {w:WS}{x:List UInt8}:w.Eh [x]=w.put x:=rfl
@[simp] theorem WS.aDt {w:WS}{x y:List UInt8}{r:List (List UInt8)}:w.Eh (x::y::r)=w.Eh ((x++y)::r):=by
 simp [WS.Eh,WS.asR]
theorem WS.Zq:∀{w:WS}{xs:List (List UInt8)},(w.Eh xs).bs=w.bs++xs.flatten
 | w,[]=>by simp
 | w,x::r=>by
  have:=WS.Zq (w:=w.put x) (xs:=r)
  simp only [WS.Eh,List.foldl_cons,List.flatten_cons] at this ⊢
  rw [this]; simp
theorem tK {α:Type}{l:List α}{i:Nat}{x:α}(h:l[i]?=some x):l.take (i+1)=l.take i++[x]:=by
 rw [List.take_succ,h]; rfl
section
variable {w:WS}{B:List lG}
theorem y7 {m:Nat}{h:kP}{o:Nat}:kM.mP (m+3) h (.ptr 1 o)=.ptr 1 o:=lE (by omega)
theorem aiK (xs:List (List UInt8)) (hB:Still B) (hb:w.bs.length+xs.flatten.length≤140737488355328) (hl:xs.length≤1000000):∀i,i≤xs.length →
  mJ (Sa KK (B.length+3)) ([.ptr 1 0,.slice (xs.map qY) .no,.int .i64 (xs.length:Int),.int .i64 (i:Int)],WH (w.Eh (xs.take i)) B) =
   some (.exit 0,[.ptr 1 0,.slice (xs.map qY) .no,.int .i64 (xs.length:Int),.int .i64 (xs.length:Int)],WH (w.Eh xs) B):=by
 refine tM (fun i:Nat=>([.ptr 1 0,.slice (xs.map qY) .no,.int .i64 (xs.length:Int),.int .i64 (i:Int)],WH (w.Eh (xs.take i)) B)) (fun i=>i≤xs.length) (fun i=>xs.length - i) _ fun i hi=>?_
 by_cases h:i < xs.length
 ·left
  refine⟨i+1,?_,h,by omega,rfl⟩
  obtain⟨x,hx⟩:∃x,xs[i]?=some x:=⟨xs[i],ab3 h⟩
  have hp:w.Eh (xs.take (i+1))=(w.Eh (xs.take i)).put x:=by simp [WS.Eh,tK hx]
  have hbl:(w.Eh (xs.take i)).bs.length+x.length≤140737488355328:=by
   have e:xs.take (i+1)++xs.drop (i+1)=xs:=List.take_append_drop _ _
   have e2:=congrArg (fun l=>(List.flatten l).length) e
   simp only [List.flatten_append,ab5,tK hx,List.flatten_cons,List.flatten_nil,List.append_nil] at e2
   rw [WS.Zq,ab5]
   omega
  have hc:=aIV (w:=w.Eh (xs.take i)) x hB hbl
  have htr:=tA (w:=(w.Eh (xs.take i)).put x) hB
  have hi':(i:Int) < (xs.length:Int):=by omega
  have h1:(qY x).length=1:=rfl
  have w1:=rU (a:=i) (by omega)
  have hld:∀h,mA false 1 h (.pptr (qY x))=some (.str x):=fun _=>rfl
  simp -implicitDefEqProofs [Sa,hi',hx,h1,hld,hc,kT,htr,w1,hp,y7,-af8]
 ·right
  have:i=xs.length:=by omega
  subst this
  have htr:=tA (w:=w.Eh xs) hB
  constructor
  ·simp -implicitDefEqProofs [Sa,kT,htr,y7]
  ·simp
theorem c68 (xs:List (List UInt8)) (hB:Still B) (hb:w.bs.length+xs.flatten.length≤140737488355328) (hl:xs.length≤1000000) :
  KK 68 [.ptr 1 0,.slice (xs.map qY) .no] (WH w B)=some (.ret (.tuple []),WH (w.Eh xs) B):=by
 refine lA (aA1 _ _ _ _) ?_
 have h1:=aiK (w:=w) xs hB hb hl 0 (ah8 _)
 simp only [List.take_zero,WS.ajO,Int.natCast_zero,ab9] at h1
 have htr:=tA (w:=w.Eh xs) hB
 simp -implicitDefEqProofs [m68,nF,h1,lZ,htr]
end
theorem PQ:∀(k n:Nat) (acc:List UInt8),n < 10 ^ k→n≠0→Wg k n acc=CD n acc
 | 0,n,acc,h,h0=>by simp at h; omega
 | k+1,n,acc,h,h0=>by
  rw [CD,if_neg h0]
  unfold Wg
  by_cases h1:n < 10
  ·rw [if_pos h1]
   have h2:n / 10=0:=by omega
   have h3:n % 10=n:=by omega
   rw [h2,h3,CD,if_pos rfl]
  ·rw [if_neg h1]
   exact PQ k _ _ (by rw [Nat.pow_succ] at h; omega) (by omega)
theorem abE (n:Nat) (h:n < 100000000000000000000):P8 (n:Int)=Et n:=by
 unfold P8 Et
 rw [if_neg (by omega)]
 by_cases h0:n=0
 ·subst h0; rfl
 ·rw [if_neg h0]
  exact PQ 20 n [] h h0
theorem abF {n:Int}(h0:0≤n) (h:n < 9223372036854775808):P8 n=vH n:=by
 obtain⟨m,rfl⟩:=Int.eq_ofNat_of_zero_le h0
 exact abE m (by omega)
theorem c89 (n:Int) (h0:0≤n) (hn:n < 9223372036854775808) (h:kP):KK 89 [.int .i64 n] h=some (.ret (.str (vH n)),h):=by
 refine lD rfl rfl (lA (m:=Er mK.bld (.fn Us) [.int .i64 n] []) rfl ?_)
 simp only [Er,Us]
 rw [if_pos (by omega),abF h0 hn]
 rfl
theorem aI7 (n:Nat) (hn:n≤1099511627776) (h:kP):KK 162 [.str [32],.int .i64 (n:Int)] h=some (.ret (.str (qB n)),h):=by
 refine lD rfl rfl (lA (m:=Er mK.bld (.fn ajT) [.str [32],.int .i64 (n:Int)] []) rfl ?_)
 simp only [Er,ajT]
 rw [if_pos (by omega)]
 rfl
theorem an4 {x:List UInt8}{h:kP}:kY 1 1 [.str []] [(0,.str x)] h=some (.slice ([x].map qY) (.own h.length),h++[.front 1 1]):=(rfl)
section
variable {w:WS}{B:List lG}
theorem p1 {x:List UInt8}{n:Nat}(hB:Still B) (hb:w.bs.length+x.length≤140737488355328) :
  KK 68 [.ptr 1 0,.slice [qY x] .no] (WH w (B++[.front n 1]))=some (.ret (.tuple []),WH (w.put x) (B++[.front n 1])):=by
 have:=c68 (w:=w) (B:=B++[.front n 1]) [x] (o9 hB Fg) (by simpa using hb) (by simp)
 simpa using this
theorem p2 {x y:List UInt8}{n:Nat}(hB:Still B) (hb:w.bs.length+(x++y).length≤140737488355328) :
  KK 68 [.ptr 1 0,.slice [qY x,qY y] .no] (WH w (B++[.front n 1]))=some (.ret (.tuple []),WH (w.put (x++y)) (B++[.front n 1])):=by
 have:=c68 (w:=w) (B:=B++[.front n 1]) [x,y] (o9 hB Fg) (by simpa using hb) (by simp)
 simpa using this
theorem c84 (n:Int) (h0:0≤n) (hn:n < 9223372036854775808) (hB:Still B) (hb:w.bs.length+(vH n).length≤140737488355328) :
  KK 84 [.ptr 1 0,.int .i64 n] (WH w B)=some (.ret (.tuple []),WH (w.put (vH n)) B):=by
 refine lA (aBh _ _ _ _) ?_
 have h2:=p1 (w:=w) (n:=1) hB hb
 have htr:=oD (w:=w.put (vH n)) (C:=[.front 1 1]) hB
 simp -implicitDefEqProofs [m84,c89 n h0 hn,an4,pC,nF,h2,lZ,htr]
def WS.up (w:WS):WS:={ w with now:=w.now+1,over:=w.over || decide (64 < w.now+1) }
def WS.down (w:WS):WS:={ w with now:=w.now - 1 }
theorem c85 (hB:Still B) (hn:w.now≤1000000000000000000):KK 85 [.ptr 1 2] (WH w B)=some (.ret (.tuple []),WH w.up B):=by
 refine lA (aBi _ _ _) ?_
 have w1:=rU (a:=w.now) (by omega)
 have e1:=awN (w:=w) (B:=B) (n:=w.now+1)
 have htr:=tA (w:=w.up) hB
 obtain⟨a,ok,u,bs,now,ov,ln⟩:=w
 have hd:(64:Int) < ((now+1:Nat):Int)↔64 < now+1:=by omega
 cases ov
 ·simp only [WS.up,Bool.false_or] at htr ⊢
  simp -implicitDefEqProofs [m85,w1,e1,nF,lZ,htr,hd,-af8]
 ·simp only [WS.up,Bool.true_or] at htr ⊢
  simp -implicitDefEqProofs [m85,w1,e1,nF,lZ,htr,-af8]
theorem c86 (hB:Still B) (hn:w.now≤1000000000000000000) (h1:1≤w.now):KK 86 [.ptr 1 2] (WH w B)=some (.ret (.tuple []),WH w.down B):=by
 refine lA (aBj _ _ _) ?_
 have w1:IntKind.wrap .i64 ((w.now:Int) - 1)=((w.now - 1:Nat):Int):=by rw [wrap64] <;> omega
 have e1:=awN (w:=w) (B:=B) (n:=w.now - 1)
 have htr:=tA (w:=w.down) hB
 simp -implicitDefEqProofs [m86,w1,e1,nF,lZ]
 exact htr
theorem c69 (l:Int) (hB:Still B) (hb:w.bs.length+4≤140737488355328):KK 69 [.ptr 1 0,.int .i64 l] (WH w B)=some (.ret (.tuple []),WH (w.put (oV l)) B):=by
 refine lA (aA2 _ _ _ _) ?_
 by_cases h:l=1
 ·have h2:=p1 (w:=w) (x:=[115,101,99,32]) (n:=1) hB hb
  have htr:=oD (w:=w.put [115,101,99,32]) (C:=[.front 1 1]) hB
  simp -implicitDefEqProofs [m69,h,oV,an4,pC,nF,h2,lZ,htr]
 ·have h2:=p1 (w:=w) (x:=[112,117,98,32]) (n:=1) hB hb
  have htr:=oD (w:=w.put [112,117,98,32]) (C:=[.front 1 1]) hB
  simp -implicitDefEqProofs [m69,h,oV,an4,pC,nF,h2,lZ,htr]
theorem aEo (hB:Still B) (hn:w.ln≤1099511627776) (hb:w.bs.length+w.ln≤140737488355328):KK 125 [.ptr 1 0] (WH w B)=some (.ret (.tuple []),WH (w.put (qB w.ln)) B):=by
 refine lA (aqD _ _ _) ?_
 have h2:=p1 (w:=w) (x:=qB w.ln) (n:=1) hB (by simpa [qB] using hb)
 have htr:=oD (w:=w.put (qB w.ln)) (C:=[.front 1 1]) hB
 simp -implicitDefEqProofs [aE8,aI7 w.ln hn,an4,pC,nF,h2,lZ,htr]
end
end
section
open Go Hk
def nn (k m:Nat):Nat:=if m=0 then 0 else k+m
@[simp] theorem asH {k:Nat}:nn k 0=0:=rfl
def WS.st (w:WS) (x:List UInt8) (n k:Nat):WS:={ w with u:=true,bs:=w.bs++x,now:=w.now+k,over:=w.over || decide (0 < n∧64 < w.now+n) }
@[simp] theorem WS.aMe {w:WS}{x:List UInt8}{n k:Nat}:(w.st x n k).bs=w.bs++x:=rfl
@[simp] theorem WS.aKS {w:WS}{x:List UInt8}{n k:Nat}:(w.st x n k).now=w.now+k:=rfl
@[simp] theorem WS.aMf {w:WS}{x:List UInt8}{n k:Nat}:(w.st x n k).ln=w.ln:=rfl
@[simp] theorem WS.aKE {w:WS}{x:List UInt8}:w.put x=w.st x 0 0:=by simp [WS.put,WS.st]
theorem WS.Bw {w:WS}{x y:List UInt8}{n m k l:Nat}(h1:x=y) (h2:n=m) (h3:k=l):w.st x n k=w.st y m l:=by rw [h1,h2,h3]
@[simp] theorem WS.akI {w:WS}{x y:List UInt8}{n k m l:Nat}:(w.st x n k).st y m l=w.st (x++y) (max n (nn k m)) (k+l):=by
 simp only [WS.st,ag1,Nat.add_assoc,WS.mk.injEq,true_and,and_true,Bool.or_assoc]
 have:decide (0 < max n (nn k m)∧64 < w.now+max n (nn k m))=(decide (0 < n∧64 < w.now+n) || decide (0 < m∧64 < w.now+(k+m))):=by
  rw [←Bool.decide_or]
  apply decide_eq_decide.2
  unfold nn
  split <;> omega
 rw [this]
@[simp] theorem WS.aMg {w:WS}{x:List UInt8}{n k:Nat}:(w.st x n k).up=w.st x (max n (k+1)) (k+1):=by
 simp only [WS.st,WS.up,WS.mk.injEq,true_and,and_true,Bool.or_assoc,Nat.add_assoc]
 have:decide (0 < max n (k+1)∧64 < w.now+max n (k+1))=(decide (0 < n∧64 < w.now+n) || decide (64 < w.now+(k+1))):=by
  rw [←Bool.decide_or]
  apply decide_eq_decide.2
  omega
 rw [this]
@[simp] theorem WS.aIe {w:WS}{x:List UInt8}{n k:Nat}:(w.st x n (k+1)).down=w.st x n k:=by simp [WS.st,WS.down,←Nat.add_assoc]
@[simp] theorem GE.q8 (x:GE):x.cells.length=5:=by cases x; simp [GE.cells]
@[simp] theorem GS.q8 (x:GS):x.cells.length=11:=by cases x; simp [GS.cells]
theorem GE.still (x:GE) (m:Nat) (h:kP):nI m h x.cells=some x.cells:=by cases x; simp [GE.cells]
@[simp] theorem GE.XG (x:GE):x.cells.map kM.uG=x.cells:=by cases x; simp [GE.cells]
@[simp] theorem GE.aMi (x:GE):x.cells.take 5=x.cells:=by cases x; rfl
theorem uN:∀{vs:List kM}{k:Nat},(∀c∈vs,c.isNil=false)→lF k vs=(vs,[])
 | [],_,_=>rfl
 | v::vs,k,hn=>by
  have h1:=hn v (by simp)
  have h2:=uN (vs:=vs) (k:=k) fun c hc=>hn c (by simp [hc])
  unfold lF
  split
  ·rename_i e; cases e
  ·rename_i e; simp only [List.cons.injEq] at e; obtain⟨rfl,rfl⟩:=e; simp [kM.isNil] at h1
  ·rename_i e; simp only [List.cons.injEq] at e; obtain⟨rfl,rfl⟩:=e; rw [h2]
theorem GE.tok (x:GE) {k:Nat}:lF k x.cells=(x.cells,[]):=uN (by cases x; simp [GE.cells,kM.isNil])
theorem GE.T3 (x:GE):x.cells.all kM.mE=true:=by cases x; simp [GE.cells,kM.mE]
section
variable {w:WS}{B C:List lG}{cs:List kM}
theorem mN {n s:Nat}(h:Still C):Still (.front n s::C):=fun m x=>by simp [h m x]
theorem On {x:GE}(h:Still C):Still (.cells x.cells::C):=fun m y=>by simp [x.still m y,h m y]
theorem Vp {n s:Nat}(h:Still B):Still (B++[.front n s]):=o9 h (mN oC)
theorem Ax {x:GE}(h:Still B):Still (B++[.cells x.cells]):=o9 h (On oC)
theorem Ay {x:GE}{n s:Nat}(h:Still B):Still (B++[.cells x.cells,.front n s]):=o9 h (On (mN oC))
theorem Om {x:GE}{n s n' s':Nat}(h:Still B):Still (B++[.cells x.cells,.front n s,.front n' s']):=o9 h (On (mN (mN oC)))
theorem zK {x:GE}:lL 5 (WH w B) (.agg x.cells)=some (.ptr (B.length+3) 0,WH w (B++[.cells x.cells])):=by
 simp [lL,x.tok,x.T3,nF,pC]
theorem Ws:(WH w (B++.cells cs::C))[B.length+3]?=some (.cells cs):=by simp [WH,Mg]
@[simp] theorem ldB {i:Nat}:mA false 1 (WH w (B++.cells cs::C)) (.ptr (B.length+3) i)=cs[i]?:=by
 have e:=Ws (w:=w) (B:=B) (C:=C) (cs:=cs)
 simp only [mA,BO,e,aaF,mY,ad9]
@[simp] theorem aJV {n i:Nat}:mA true n (WH w (B++.cells cs::C)) (.ptr (B.length+3) i)=if i+n≤cs.length then some (.agg ((cs.drop i).take n)) else none:=by
 have e:=Ws (w:=w) (B:=B) (C:=C) (cs:=cs)
 simp only [mA,BO,e,V8,mY,ad9]
end
def xK (k:Int):Nat:=if lK k < 8 then lK k else 0
def aaN (k:Int):List UInt8:=if lK k < 8 then qG k else []
theorem Ae {k:Int}(h:1≤k∧k≤26):k=1∨k=2∨k=3∨k=4∨k=5∨k=6∨k=7∨k=8∨k=9∨k=10∨k=11∨k=12∨k=13∨k=14∨k=15∨k=16∨k=17∨k=18∨k=19∨k=20∨k=21∨k=22∨k=23∨k=24∨k=25∨k=26:=by omega
theorem c82 (k:Int) (hk:1≤k∧k≤26) (h:kP):KK 82 [.int .i64 k] h=some (.ret (.tuple [.int .i64 (xK k:Int),.str (aaN k)]),h):=by
 refine lD rfl rfl (lA (aBf _ _ _) ?_)
 rcases Ae hk with rfl | rfl | rfl | rfl | rfl | rfl | rfl | rfl | rfl | rfl | rfl | rfl | rfl | rfl | rfl | rfl | rfl | rfl | rfl | rfl | rfl | rfl | rfl | rfl | rfl | rfl <;>
  simp -implicitDefEqProofs [m82,kN,xK,aaN,lK,qG]
section
variable {w:WS}{B:List lG}{x y z:List UInt8}
theorem P1 (hB:Still B) (hb:w.bs.length+x.length≤140737488355328):KK 68 [.ptr 1 0,.slice [qY x] .no] (WH w B)=some (.ret (.tuple []),WH (w.st x 0 0) B):=by
 have:=c68 (w:=w) (B:=B) [x] hB (by simpa using hb) (by simp)
 simpa using this
theorem P2 (hB:Still B) (hb:w.bs.length+(x.length+y.length)≤140737488355328):KK 68 [.ptr 1 0,.slice [qY x,qY y] .no] (WH w B)=some (.ret (.tuple []),WH (w.st (x++y) 0 0) B):=by
 have:=c68 (w:=w) (B:=B) [x,y] hB (by simpa using hb) (by simp)
 simpa using this
theorem P3 (hB:Still B) (hb:w.bs.length+(x.length+(y.length+z.length))≤140737488355328):KK 68 [.ptr 1 0,.slice [qY x,qY y,qY z] .no] (WH w B)=some (.ret (.tuple []),WH (w.st (x++(y++z)) 0 0) B):=by
 have:=c68 (w:=w) (B:=B) [x,y,z] hB (by simpa using hb) (by simp)
 simpa using this
end
theorem vS {x:List UInt8}{h:kP}:kY 1 1 [.str []] [(0,.str x)] h=some (.slice [qY x] (.own h.length),h++[.front 1 1]):=(rfl)
theorem Hn {x y:List UInt8}{h:kP}:kY 2 1 [.str []] [(0,.str x),(1,.str y)] h=some (.slice [qY x,qY y] (.own h.length),h++[.front 2 1]):=(rfl)
theorem Cb {x y z:List UInt8}{h:kP}:kY 3 1 [.str []] [(0,.str x),(1,.str y),(2,.str z)] h=some (.slice [qY x,qY y,qY z] (.own h.length),h++[.front 3 1]):=(rfl)
def WOk (f:Nat) (args:List kM) (t:List UInt8) (n:Nat):Prop:=∀(w:WS) (B:List lG),Still B→w.bs.length+t.length≤140737488355328→w.now+n≤1000000000000000 →
 KK f (.ptr 1 0::args) (WH w B)=some (.ret (.tuple []),WH (w.st t n 0) B)
def IB (x:GE):Prop:=WOk 37 [.agg x.cells] (mG x) (mB x)
theorem aIX {x:GE}(hx:IB x):WOk 129 [.agg x.cells] (40::(mG x++[41])) (mB x+1):=by
 intro w B hB hb hn
 simp only [ac1,ab5,ac6] at hb
 refine lA (aqE _ _ _ _) ?_
 have s2:=Ax (x:=x) hB
 have s3:=fun n s=>Ay (x:=x) (n:=n) (s:=s) hB
 have s4:=fun n s n' s'=>Om (x:=x) (n:=n) (s:=s) (n':=n') (s':=s') hB
 have htr:=fun w C=>oD (w:=w) (C:=C) hB
 have e1:=P1 (w:=w) (x:=[40]) (s3 1 1) (by simp; omega)
 have e2:=c85 (w:=w.st [40] 0 0) (s3 1 1) (by simp; omega)
 have e3:=hx (w.st [40] 1 1) _ (s3 1 1) (by simp; omega) (by simp; omega)
 have e4:=c86 (w:=w.st (40::mG x) (max 1 (nn 1 (mB x))) 1) (s3 1 1) (by simp; omega) (by simp)
 have e5:=P1 (w:=w.st (40::mG x) (max 1 (nn 1 (mB x))) 0) (x:=[41]) (s4 1 1 1 1) (by simp; omega)
 simp -implicitDefEqProofs at e2 e3 e4 e5
 simp -implicitDefEqProofs [aE9,zK,vS,pC,e1,e2,e3,e4,e5,nF,lZ,htr]
 refine congrArg (fun w=>WH w B) (WS.Bw rfl ?_ rfl)
 unfold nn
 split <;> omega
@[simp] theorem GE.c0 (x:GE):x.cells[0]?=some (.int .i64 x.kind):=by cases x; rfl
@[simp] theorem GE.c2 (x:GE):x.cells[2]?=some (.int .i64 x.num):=by cases x; rfl
@[simp] theorem GE.c3 (x:GE):x.cells[3]?=some (.str x.name):=by cases x; rfl
@[simp] theorem GE.g0 (x:GE) {h:0 < x.cells.length}:x.cells[0]'h=.int .i64 x.kind:=by cases x; rfl
@[simp] theorem GE.g2 (x:GE) {h:2 < x.cells.length}:x.cells[2]'h=.int .i64 x.num:=by cases x; rfl
@[simp] theorem GE.g3 (x:GE) {h:3 < x.cells.length}:x.cells[3]'h=.str x.name:=by cases x; rfl
@[simp] theorem GE.g4 (x:GE) {h:4 < x.cells.length}:x.cells[4]'h=.slice (x.args.map GE.cells) .no:=by cases x; simp [GE.cells,GE.args,GE.nN]
theorem c83 {x:GE}(hx:IB x) (hk:1≤x.kind∧x.kind≤26) (l:Nat):WOk 83 [.agg x.cells,.int .i64 (l:Int)] (if 0 < xK x.kind∧xK x.kind < l then 40::(mG x++[41]) else mG x)
  (if 0 < xK x.kind∧xK x.kind < l then mB x+1 else mB x):=by
 intro w B hB hb hn
 refine lA (aBg _ _ _ _ _) ?_
 have s2:=Ax (x:=x) hB
 have htr:=fun w C=>oD (w:=w) (C:=C) hB
 have e0:=c82 x.kind hk
 by_cases h:0 < xK x.kind∧xK x.kind < l
 ·rw [if_pos h] at hb hn ⊢
  rw [if_pos h]
  have e1:=aIX hx w _ s2 hb hn
  obtain⟨h1,h2⟩:=h
  simp -implicitDefEqProofs [m83,zK,e0,h1,h2,nF,lZ,htr,e1]
 ·rw [if_neg h] at hb hn ⊢
  rw [if_neg h]
  have e1:=hx w _ s2 hb hn
  by_cases h1:0 < xK x.kind
  ·have h2:¬xK x.kind < l:=by omega
   simp -implicitDefEqProofs [m83,zK,e0,h1,h2,nF,lZ,htr,e1]
  ·simp -implicitDefEqProofs [m83,zK,e0,h1,nF,lZ,htr,e1]
theorem c88 {x:GE}(hx:IB x) (hk:1≤x.kind∧x.kind≤26) (s:List UInt8):WOk 88 [.str s,.agg x.cells] (s++(if 0 < xK x.kind∧xK x.kind < 8 then 40::(mG x++[41]) else mG x))
  ((if 0 < xK x.kind∧xK x.kind < 8 then mB x+1 else mB x)+1):=by
 intro w B hB hb hn
 have hc:=c83 hx hk 8
 generalize (if 0 < xK x.kind∧xK x.kind < 8 then 40::(mG x++[41]) else mG x)=t at hb hn hc ⊢
 generalize (if 0 < xK x.kind∧xK x.kind < 8 then mB x+1 else mB x)=n at hb hn hc ⊢
 simp only [ab5] at hb
 refine lA (aBl _ _ _ _ _) ?_
 have s3:=fun n s=>Ay (x:=x) (n:=n) (s:=s) hB
 have htr:=fun w C=>oD (w:=w) (C:=C) hB
 have e1:=P1 (w:=w) (x:=s) (s3 1 1) (by omega)
 have e2:=c85 (w:=w.st s 0 0) (s3 1 1) (by simp; omega)
 have e3:=hc (w.st s 1 1) _ (s3 1 1) (by simp; omega) (by simp; omega)
 have e4:=c86 (w:=w.st (s++t) (max 1 (nn 1 n)) 1) (s3 1 1) (by simp; omega) (by simp)
 simp -implicitDefEqProofs at e2 e3 e4
 simp -implicitDefEqProofs [m88,zK,vS,pC,e1,e2,e3,e4,nF,lZ,htr]
 refine congrArg (fun w=>WH w B) (WS.Bw rfl ?_ rfl)
 unfold nn
 split <;> omega
theorem Jy:∀(l:List Part) (p:Part),vL (l++[p])=vL l++(if l=[] then [] else [44,32])++p.2.1
 | [],p=>by simp [vL]
 | [q],p=>by simp [vL]
 | q::r::l,p=>by
  have:=Jy (r::l) p
  simp only [ae7,vL] at this ⊢
  rw [this]
  simp
theorem Qu:∀(l:List Part) (p:Part),wH (l++[p])=max (wH l) p.2.2
 | [],p=>by simp [wH]
 | q::l,p=>by
  simp only [ae7,wH,Qu l p]
  omega
theorem Vd (a:List Part):∀(b:List Part),(vL a).length≤(vL (a++b)).length
 | []=>by simp
 | p::b=>by
  have h1:=Vd (a++[p]) b
  rw [ag1] at h1
  rw [Jy] at h1
  simp only [ab5,ae7,ah4] at h1
  omega
end
section
open Go Hk
section
variable {w:WS}{B C:List lG}{cs:List kM}
theorem auZ:lL 5 (WH w B) (.agg [.int .i64 0,.int .i64 0,.int .i64 0,.str [],.slice [] .nil]) =
  some (.ptr (B.length+3) 0,WH w (B++[.cells [.int .i64 0,.int .i64 0,.int .i64 0,.str [],.slice [] (.own (B.length+4))],.front 0 0])):=by
 simp [lL,lF,nF,pC]
theorem aj7 {b b':lG}:(WH w (B++b::C)).set (B.length+3) b'=WH w (B++b'::C):=by
 simp [WH,Mg]
theorem stE {x:GE}(hc:cs.length=5):pU 5 (WH w (B++.cells cs::C)) (.ptr (B.length+3) 0) (.agg x.cells)=some (WH w (B++.cells x.cells::C)):=by
 have e:=Ws (w:=w) (B:=B) (C:=C) (cs:=cs)
 have hk:∀os,pV (WH w (B++.cells cs::C)) os x.cells=x.cells:=fun os=>rA (by cases x; simp [GE.cells,kM.isNil])
 simp only [pU,BO,e,DX,mY,ad9,Fv,GE.q8,hc]
 rw [if_pos ⟨trivial,by omega,x.T3⟩,hk]
 have:putCells cs 0 x.cells=x.cells:=by simp [putCells,hc]
 rw [this,aj7]
end
section
variable {w:WS}{B:List lG}
def Ak (l:List GE) (i:Nat):List UInt8:=vL ((l.take i).map lX)
def AF (l:List GE) (i:Nat):Nat:=wH ((l.take i).map lX)
theorem M1 {l:List GE}{i:Nat}{x:GE}(h:l[i]?=some x):Ak l (i+1)=Ak l i++(if i=0 then [] else [44,32])++mG x:=by
 have hl:i < l.length:=(ab0.1 h).1
 unfold Ak mG
 rw [tK h,am3,ai3,al1,Jy]
 congr 2
 have:((l.take i).map lX=[])=(i=0):=by
  rw [List.map_eq_nil_iff,List.take_eq_nil_iff]
  apply propext
  constructor
  ·rintro(h | h)
   ·exact h
   ·subst h; simp at hl
  ·exact .inl
 simp only [this]
theorem M0 {l:List GE}{i:Nat}{x:GE}(h:l[i]?=some x):AF l (i+1)=max (AF l i) (mB x):=by
 unfold AF mB
 rw [tK h,am3,ai3,al1,Qu]
theorem Uf (l:List GE) (i:Nat):(Ak l i).length≤(vL (l.map lX)).length:=by
 have:=Vd ((l.take i).map lX) ((l.drop i).map lX)
 rw [←am3,List.take_append_drop] at this
 exact this
theorem UL:∀(a b:List Part),wH a≤wH (a++b)
 | [],_=>by simp [wH]
 | p::a,b=>by simp only [wH,ae7]; have:=UL a b; omega
theorem agY (l:List GE) (i:Nat):AF l i≤wH (l.map lX):=by
 have:=UL ((l.take i).map lX) ((l.drop i).map lX)
 rw [←am3,List.take_append_drop] at this
 exact this
theorem G5:∀(l:List Part),l.length≤(vL l).length+1
 | []=>by simp
 | [p]=>by simp
 | p::q::r=>by
  have:=G5 (q::r)
  simp only [vL,ab5,ac1] at this ⊢
  omega
theorem aiP (l:List GE) (hl:l.length≤4611686018427387904) (hok:∀x∈l,IB x) (s:List UInt8) (hB:Still B) (W:List UInt8)
  (hb:w.bs.length+(W.length+(vL (l.map lX)).length)≤140737488355328) (hn:w.now+(wH (l.map lX)+1)≤1000000000000000):∀i,i≤l.length →
  mJ (NB KK (B.length+3)) ([.ptr 1 0,.str s,.slice (l.map GE.cells) .no,.int .i64 (l.length:Int),.int .i64 (i:Int)],WH (w.st (W++Ak l i) (max 1 (nn 1 (AF l i))) 1) B) =
   some (.exit 0,[.ptr 1 0,.str s,.slice (l.map GE.cells) .no,.int .i64 (l.length:Int),.int .i64 (l.length:Int)],WH (w.st (W++vL (l.map lX)) (max 1 (nn 1 (wH (l.map lX)))) 1) B):=by
 refine tM (fun i:Nat=>([.ptr 1 0,.str s,.slice (l.map GE.cells) .no,.int .i64 (l.length:Int),.int .i64 (i:Int)],WH (w.st (W++Ak l i) (max 1 (nn 1 (AF l i))) 1) B)) (fun i=>i≤l.length) (fun i=>l.length - i) _ fun i hi=>?_
 have htr:=fun w C=>oD (w:=w) (C:=C) hB
 by_cases h:i < l.length
 ·left
  refine⟨i+1,?_,h,by omega,rfl⟩
  obtain⟨x,hx⟩:∃x,l[i]?=some x:=⟨l[i],ab3 h⟩
  have hxe:=hok x (ad8 hx)
  have t1:=M1 hx
  have t2:=M0 hx
  have t3:=Uf l (i+1)
  have t4:=agY l (i+1)
  have w1:=rU (a:=i) (by omega)
  have s2:=Ay (x:=x) (n:=0) (s:=0) hB
  have s4:=Om (x:=x) (n:=0) (s:=0) (n':=1) (s':=1) hB
  have hst:=fun w C cs (hc:aa1 cs=5)=>stE (w:=w) (B:=B) (C:=C) (x:=x) hc
  have htr2:∀w C,l_ (B.length+2+3) (WH w (B++lG.cells x.cells::.front 0 0::C))=some (WH w (B++[lG.cells x.cells,.front 0 0])):=fun w C=>by
   have:=oD (w:=w) (B:=B++[lG.cells x.cells,.front 0 0]) (C:=C) s2
   simpa using this
  have htr0:=fun w=>tA (w:=w) (B:=B++[lG.cells x.cells,.front 0 0]) s2
  have hsan:∀h,kM.mP (B.length+1+1+3) h (.ptr (B.length+3) 0)=.ptr (B.length+3) 0:=fun h=>lE (by omega)
  have hsan0:∀h o,kM.mP (B.length+1+1+3) h (.ptr 1 o)=.ptr 1 o:=fun h o=>lE (by omega)
  simp only [ab5,ac1,ac6] at htr0
  rw [t2] at t4
  have hxi:∀hh:i < l.length,l[i]'hh=x:=fun hh=>by rw [ab3 hh] at hx; exact Option.some.inj hx
  have hld:∀h,mA true 5 h (.pptr x.cells)=some (.agg x.cells):=fun h=>by simp [mA]
  by_cases h0:i=0
  ·rw [if_pos h0,List.append_nil] at t1
   have hp:¬0 < i:=by omega
   rw [t1,ab5] at t3
   have e3:=hxe (w.st (W++Ak l i) (max 1 (nn 1 (AF l i))) 1) _ s2 (by simp; omega) (by simp; omega)
   simp -implicitDefEqProofs only [WS.akI] at e3
   simp -implicitDefEqProofs [NB,h,hp,hxi,hld,auZ,hst,kT,htr,htr0,htr2,hsan,hsan0,nF,e3,w1,y7,-af8]
   refine congrArg (fun w=>WH w B) (WS.Bw (by rw [t1]) ?_ rfl)
   rw [t2]
   unfold nn
   split <;> split <;> split <;> omega
  ·rw [if_neg h0] at t1
   have hp:0 < i:=by omega
   rw [t1,ab5,ab5] at t3
   simp only [ac1,ac6] at t3
   have e2:=P1 (w:=w.st (W++Ak l i) (max 1 (nn 1 (AF l i))) 1) (x:=[44,32]) s4 (by simp; omega)
   have e3:=hxe (w.st (W++(Ak l i++[44,32])) (max 1 (nn 1 (AF l i))) 1) _ s2 (by simp; omega) (by simp; omega)
   simp -implicitDefEqProofs only [WS.akI,ag1,asH,Nat.add_zero,Nat.max_zero] at e2 e3
   simp -implicitDefEqProofs [NB,h,hp,hxi,hld,auZ,hst,kT,htr,htr0,htr2,hsan,hsan0,nF,vS,pC,e2,e3,w1,y7,-af8]
   refine congrArg (fun w=>WH w B) (WS.Bw (by rw [t1]; simp) ?_ rfl)
   rw [t2]
   unfold nn
   split <;> split <;> split <;> omega
 ·right
  have:i=l.length:=by omega
  subst this
  constructor
  ·simp -implicitDefEqProofs [NB,kT,tA hB,y7,Ak,AF]
  ·simp
theorem c87 (l:List GE) (hok:∀x∈l,IB x) (s u:List UInt8) :
  WOk 87 [.str u,.slice (l.map GE.cells) .no,.str s] (u++40::(vL (l.map lX)++s++[41])) (wH (l.map lX)+1):=by
 intro w B hB hb hn
 simp only [ab5,ac1,ac6] at hb
 have hl:l.length≤4611686018427387904:=by
  have:=G5 (l.map lX)
  rw [aj1] at this
  omega
 refine lA (aBk _ _ _ _ _ _) ?_
 have s1:=Vp (n:=2) (s:=1) hB
 have s2:Still (B++[.front 2 1,.front 2 1]):=o9 hB (mN (mN oC))
 have htr:=fun w C=>oD (w:=w) (C:=C) hB
 have e1:=P2 (w:=w) (x:=u) (y:=[40]) s1 (by simp; omega)
 have e2:=c85 (w:=w.st (u++[40]) 0 0) s1 (by simp; omega)
 have e3:=aiP (w:=w) l hl hok s s1 (u++[40]) (by simp; omega) hn 0 (ah8 _)
 have e4:=P2 (w:=w.st (u++[40]++vL (l.map lX)) (max 1 (nn 1 (wH (l.map lX)))) 1) (x:=s) (y:=[41]) s2 (by simp; omega)
 have e5:=c86 (w:=w.st (u++[40]++vL (l.map lX)++(s++[41])) (max 1 (nn 1 (wH (l.map lX)))) 1) s2 (by simp; omega) (by simp)
 have t0:Ak l 0=[]:=rfl
 have n0:AF l 0=0:=rfl
 simp -implicitDefEqProofs [t0,n0] at e2 e3 e4 e5
 simp -implicitDefEqProofs [m87,Hn,pC,e1,e2,e3,e4,e5,nF,lZ,htr]
 refine congrArg (fun w=>WH w B) (WS.Bw rfl ?_ rfl)
 unfold nn
 split <;> omega
end
theorem W5 {k n:Int}{name:List UInt8}{len:Nat}(h:rL k n name len=true):1≤k∧k≤26:=by
 unfold rL tS at h
 split at h
 ·cases h
 ·rename_i m hm
  split at hm
  ·cases hm
  ·omega
theorem Cv {x:GE}(h:nT x=true):1≤x.kind∧x.kind≤26:=by
 cases x
 simp only [nT,ac5] at h
 exact W5 h.1
theorem zU {k:Int}(hk:1≤k∧k≤26) (t:Nat) (a:GE) (ha:1≤a.kind∧a.kind≤26) (b:Bool) (hb:b=!decide (0 < xK a.kind∧xK a.kind < t)) :
  (if 0 < xK a.kind∧xK a.kind < t then 40::(mG a++[41]) else mG a)=uD b (lX a)∧(if 0 < xK a.kind∧xK a.kind < t then mB a+1 else mB a)=sV b (lX a):=by
 subst hb
 by_cases h:0 < xK a.kind∧xK a.kind < t
 ·rw [if_pos h,if_pos h,decide_eq_true h]; exact⟨rfl,rfl⟩
 ·rw [if_neg h,if_neg h,decide_eq_false h]; exact⟨rfl,rfl⟩
theorem AU (x:GE):(lX x).1=x.kind:=by cases x; rfl
theorem DY {k:Int}(hk:1≤k∧k≤26):1≤lK k∧lK k≤8∧xK k=if lK k=8 then 0 else lK k:=by
 rcases Ae hk with rfl | rfl | rfl | rfl | rfl | rfl | rfl | rfl | rfl | rfl | rfl | rfl | rfl | rfl | rfl | rfl | rfl | rfl | rfl | rfl | rfl | rfl | rfl | rfl | rfl | rfl <;> decide
end
section
open Go Hk
theorem sY (x:GE):mG x=yV x.kind x.num x.name (x.args.map lX):=by cases x; simp [mG,lX,FM,GE.kind,GE.num,GE.name,GE.args]
theorem sU (x:GE):mB x=yJ x.kind (x.args.map lX):=by cases x; simp [mB,lX,FM,GE.kind,GE.args]
theorem Fu {k:Int}{a:GE}(hk:1≤k∧k≤26) (ha:1≤a.kind∧a.kind≤26) (ht:lK k < 8) :
  mX (lK k) (lX a).1=!decide (0 < xK a.kind∧xK a.kind < (if lK k=1 then 2 else lK k)):=by
 obtain⟨a1,a2,a3⟩:=DY hk
 obtain⟨b1,b2,b3⟩:=DY ha
 rw [AU,b3]
 unfold mX
 rw [←decide_not]
 apply decide_eq_decide.2
 split <;> split <;> omega
theorem MC {k:Int}{a:GE}(hk:1≤k∧k≤26) (ha:1≤a.kind∧a.kind≤26) (ht:lK k < 8) :
  decide (lK k < lK (lX a).1)=!decide (0 < xK a.kind∧xK a.kind < lK k+1):=by
 obtain⟨a1,a2,a3⟩:=DY hk
 obtain⟨b1,b2,b3⟩:=DY ha
 rw [AU,b3,←decide_not]
 apply decide_eq_decide.2
 split <;> omega
theorem MB {a:GE}(ha:1≤a.kind∧a.kind≤26):decide (lK (lX a).1=8)=!decide (0 < xK a.kind∧xK a.kind < 8):=by
 obtain⟨b1,b2,b3⟩:=DY ha
 rw [AU,b3,←decide_not]
 apply decide_eq_decide.2
 split <;> omega
theorem ix0 {a:GE}{l:List GE}:kZ 5 (.slice ((a::l).map GE.cells) .no) (.int .i64 0)=some (.pptr a.cells):=by rw [nZ]; simp
theorem ix1 {a b:GE}{l:List GE}:kZ 5 (.slice ((a::b::l).map GE.cells) .no) (.int .i64 1)=some (.pptr b.cells):=by rw [nZ]; simp
theorem WL {x:GE}{h:kP}:mA true 5 h (.pptr x.cells)=some (.agg x.cells):=by simp [mA]
section
variable {B:List lG}
theorem yO {m:Nat}{h:kP}{k:Nat}{o:Nat}(hk:k < m):kM.mP m h (.ptr k o)=.ptr k o:=lE hk
end
theorem aEC {x a b:GE}(hx:x.args=[a,b]) (hk:1≤x.kind∧x.kind≤26) (ht:lK x.kind < 8) (ha:IB a) (hb:IB b) (hka:1≤a.kind∧a.kind≤26) (hkb:1≤b.kind∧b.kind≤26):IB x:=by
 intro w B hB hbd hn
 obtain⟨a1,a2,a3⟩:=DY hk
 have hbn:xK x.kind=lK x.kind:=by rw [a3,if_neg (by omega)]
 have hbs:aaN x.kind=qG x.kind:=if_pos ht
 have t1:mG x=uD (mX (lK x.kind) (lX a).1) (lX a)++32::(qG x.kind++32::uD (decide (lK x.kind < lK (lX b).1)) (lX b)):=by
  rw [sY,hx]; unfold yV; rw [if_pos ht]; rfl
 have t2:mB x=max (sV (mX (lK x.kind) (lX a).1) (lX a)) (sV (decide (lK x.kind < lK (lX b).1)) (lX b)):=by
  rw [sU,hx]; unfold yJ; rw [if_pos ht]; rfl
 have c1:=c83 ha hka (if lK x.kind=1 then 2 else lK x.kind)
 rw [(zU hk _ a hka _ (Fu hk hka ht)).1,(zU hk _ a hka _ (Fu hk hka ht)).2] at c1
 have c2:=c83 hb hkb (lK x.kind+1)
 rw [(zU hk _ b hkb _ (MC hk hkb ht)).1,(zU hk _ b hkb _ (MC hk hkb ht)).2] at c2
 rw [t1,t2]
 rw [t1] at hbd
 rw [t2] at hn
 generalize uD (mX (lK x.kind) (lX a).1) (lX a)=A at hbd c1 ⊢
 generalize uD (decide (lK x.kind < lK (lX b).1)) (lX b)=D at hbd c2 ⊢
 generalize sV (mX (lK x.kind) (lX a).1) (lX a)=na at hn c1 ⊢
 generalize sV (decide (lK x.kind < lK (lX b).1)) (lX b)=nb at hn c2 ⊢
 simp only [ab5,ac1] at hbd
 refine lA (E4 _ _ _ _) ?_
 have s2:=Ax (x:=x) hB
 have s3:=Ay (x:=x) (n:=3) (s:=1) hB
 have htr:=fun w C=>oD (w:=w) (C:=C) hB
 have htr2:∀w,l_ (B.length+1+3) (WH w (B++[lG.cells x.cells]))=some (WH w (B++[lG.cells x.cells])):=fun w=>by
  have:=tA (w:=w) s2
  simpa using this
 have e0:=c82 x.kind hk
 have e1:=c1 w _ s2 (by omega) (by omega)
 have e2:=P3 (w:=w.st A na 0) (x:=[32]) (y:=qG x.kind) (z:=[32]) s3 (by simp; omega)
 have e3:=c2 (w.st (A++32::(qG x.kind++[32])) na 0) _ s3 (by simp; omega) (by simp; omega)
 have hpos:0 < lK x.kind:=by omega
 have q1:∀h o,kM.mP (B.length+1+3) h (.ptr (B.length+3) o)=.ptr (B.length+3) o:=fun h o=>yO (by omega)
 have q2:∀h o,kM.mP (B.length+1+3) h (.ptr 1 o)=.ptr 1 o:=fun h o=>yO (by omega)
 have w1:=rU (a:=lK x.kind) (by omega)
 simp -implicitDefEqProofs [-af8] at e2 e3
 have i0:kZ 5 (.slice (x.args.map GE.cells) .no) (.int .i64 0)=some (.pptr a.cells):=by rw [hx]; exact ix0
 have i1:kZ 5 (.slice (x.args.map GE.cells) .no) (.int .i64 1)=some (.pptr b.cells):=by rw [hx]; exact ix1
 have hl:x.args.length=2:=by rw [hx]; rfl
 by_cases h1:lK x.kind=1
 ·simp -implicitDefEqProofs [h1] at e1 e3
  have w2:IntKind.wrap .i64 2=2:=by decide
  simp -implicitDefEqProofs [VJ,zK,e0,hbn,hbs,h1,kT,htr2,q1,q2,nF,i0,i1,hl,WL,Cb,pC,e1,e2,e3,w2,lZ,htr]
  refine congrArg (fun w=>WH w B) (WS.Bw rfl ?_ rfl)
  unfold nn
  split <;> omega
 ·have h1':¬(lK x.kind:Int)=1:=by omega
  simp -implicitDefEqProofs [h1] at e1
  simp -implicitDefEqProofs [VJ,zK,e0,hbn,hbs,hpos,h1',kT,htr2,q1,q2,nF,i0,i1,hl,WL,Cb,pC,e1,e2,e3,w1,lZ,htr,-af8]
  refine congrArg (fun w=>WH w B) (WS.Bw rfl ?_ rfl)
  unfold nn
  split <;> omega
end
section
open Go Hk
theorem DI {n:Int}(h:n < 9223372036854775808):(vH n).length≤20:=by
 have key:∀(k n:Nat) (acc:List UInt8),n < 10 ^ k→(CD n acc).length≤k+acc.length:=by
  intro k
  induction k with
  | zero =>
   intro n acc h
   have:n=0:=by simpa using h
   subst this
   rw [CD,if_pos rfl]; omega
  | succ k ih =>
   intro n acc h
   rw [CD]
   split
   ·omega
   ·have:=ih (n / 10) (UInt8.ofNat (48+n % 10)::acc) (by rw [Nat.pow_succ] at h; omega)
    simp only [ac1] at this
    omega
 unfold vH Et
 split
 ·simp
 ·have:=key 20 n.toNat [] (by omega)
  simpa using this
theorem Ys {x a:GE}(hx:x.args=[a]) (hk:1≤x.kind∧x.kind≤26) (ht:lK x.kind < 8) (h1:¬lK x.kind=1) (hnum:0≤x.num∧x.num≤4294967295) (ha:IB a) (hka:1≤a.kind∧a.kind≤26):IB x:=by
 intro w B hB hbd hn
 obtain⟨a1,a2,a3⟩:=DY hk
 have hbn:xK x.kind=lK x.kind:=by rw [a3,if_neg (by omega)]
 have hbs:aaN x.kind=qG x.kind:=if_pos ht
 have t1:mG x=uD (mX (lK x.kind) (lX a).1) (lX a)++32::(qG x.kind++32::vH x.num):=by
  rw [sY,hx]; unfold yV; rw [if_pos ht]; rfl
 have t2:mB x=sV (mX (lK x.kind) (lX a).1) (lX a):=by
  rw [sU,hx]; unfold yJ; rw [if_pos ht]; rfl
 have c1:=c83 ha hka (if lK x.kind=1 then 2 else lK x.kind)
 rw [(zU hk _ a hka _ (Fu hk hka ht)).1,(zU hk _ a hka _ (Fu hk hka ht)).2] at c1
 rw [t1,t2]
 rw [t1] at hbd
 rw [t2] at hn
 generalize uD (mX (lK x.kind) (lX a).1) (lX a)=A at hbd c1 ⊢
 generalize sV (mX (lK x.kind) (lX a).1) (lX a)=na at hn c1 ⊢
 simp only [ab5,ac1] at hbd
 refine lA (E4 _ _ _ _) ?_
 have s2:=Ax (x:=x) hB
 have s3:=Ay (x:=x) (n:=3) (s:=1) hB
 have htr:=fun w C=>oD (w:=w) (C:=C) hB
 have htr2:∀w,l_ (B.length+1+3) (WH w (B++[lG.cells x.cells]))=some (WH w (B++[lG.cells x.cells])):=fun w=>by
  have:=tA (w:=w) s2
  simpa using this
 have e0:=c82 x.kind hk
 have e1:=c1 w _ s2 (by omega) (by omega)
 have e2:=P3 (w:=w.st A na 0) (x:=[32]) (y:=qG x.kind) (z:=[32]) s3 (by simp; omega)
 have e3:=c84 (w:=w.st (A++32::(qG x.kind++[32])) na 0) x.num hnum.1 (by omega) s3 (by simp; omega)
 have hpos:0 < lK x.kind:=by omega
 have q1:∀h o,kM.mP (B.length+1+3) h (.ptr (B.length+3) o)=.ptr (B.length+3) o:=fun h o=>yO (by omega)
 have q2:∀h o,kM.mP (B.length+1+3) h (.ptr 1 o)=.ptr 1 o:=fun h o=>yO (by omega)
 simp -implicitDefEqProofs at e2 e3
 have i0:kZ 5 (.slice (x.args.map GE.cells) .no) (.int .i64 0)=some (.pptr a.cells):=by rw [hx]; exact ix0
 have hl:x.args.length=1:=by rw [hx]; rfl
 have h1':¬(lK x.kind:Int)=1:=by omega
 simp -implicitDefEqProofs [h1] at e1
 simp -implicitDefEqProofs [VJ,zK,e0,hbn,hbs,hpos,h1',kT,htr2,q1,q2,nF,i0,hl,WL,Cb,pC,e1,e2,e3,lZ,htr]
theorem wY {k:Int}(ht:lK k=8):xK k=0∧aaN k=[]:=by simp [xK,aaN,ht]
section
variable {w:WS}{B C:List lG}
theorem tr2 {x:GE}(hB:Still B):l_ (B.length+1+3) (WH w (B++lG.cells x.cells::C))=some (WH w (B++[lG.cells x.cells])):=by
 have:=oD (w:=w) (C:=C) (Ax (x:=x) hB)
 simpa using this
end
theorem aEA {x:GE}(hk:x.kind=1) (hnum:0≤x.num∧x.num≤4294967295):IB x:=by
 intro w B hB hbd hn
 have t1:mG x=vH x.num:=by rw [sY,hk]; rfl
 have t2:mB x=0:=by rw [sU,hk]; rfl
 rw [t1] at hbd
 rw [t1,t2]
 refine lA (E4 _ _ _ _) ?_
 have s2:=Ax (x:=x) hB
 have htr:=fun w C=>oD (w:=w) (C:=C) hB
 have htr2:=fun w C=>tr2 (w:=w) (C:=C) (x:=x) hB
 have e0:=c82 x.kind (by omega)
 have e3:=c84 (w:=w) x.num hnum.1 (by omega) s2 hbd
 obtain⟨b1,b2⟩:=wY (k:=1) rfl
 simp -implicitDefEqProofs at e3
 rw [hk] at e0
 simp -implicitDefEqProofs [VJ,zK,hk,e0,b1,b2,kT,htr2,nF,e3,lZ,htr]
theorem ay5 {x:GE}(hk:x.kind=2):IB x:=by
 intro w B hB hbd hn
 have t1:mG x=x.name:=by rw [sY,hk]; rfl
 have t2:mB x=0:=by rw [sU,hk]; rfl
 rw [t1] at hbd
 rw [t1,t2]
 refine lA (E4 _ _ _ _) ?_
 have s3:=Ay (x:=x) (n:=1) (s:=1) hB
 have htr:=fun w C=>oD (w:=w) (C:=C) hB
 have htr2:=fun w C=>tr2 (w:=w) (C:=C) (x:=x) hB
 have e0:=c82 x.kind (by omega)
 have e3:=P1 (w:=w) (x:=x.name) s3 hbd
 obtain⟨b1,b2⟩:=wY (k:=2) rfl
 rw [hk] at e0
 simp -implicitDefEqProofs [VJ,zK,hk,e0,b1,b2,kT,htr2,nF,e3,lZ,htr,vS,pC]
theorem aoN {x a:GE}(hk:x.kind=3) (hx:x.args=[a]) (ha:IB a):IB x:=by
 intro w B hB hbd hn
 have t1:mG x=x.name++91::(mG a++[93]):=by rw [sY,hk,hx]; rfl
 have t2:mB x=mB a+1:=by rw [sU,hk,hx]; rfl
 rw [t1] at hbd
 rw [t2] at hn
 rw [t1,t2]
 simp only [ab5,ac1,ac6] at hbd
 refine lA (E4 _ _ _ _) ?_
 have s3:=Ay (x:=x) (n:=2) (s:=1) hB
 have s4:=Om (x:=x) (n:=2) (s:=1) (n':=1) (s':=1) hB
 have htr:=fun w C=>oD (w:=w) (C:=C) hB
 have htr2:=fun w C=>tr2 (w:=w) (C:=C) (x:=x) hB
 have e0:=c82 x.kind (by omega)
 have e1:=P2 (w:=w) (x:=x.name) (y:=[91]) s3 (by simp; omega)
 have e2:=c85 (w:=w.st (x.name++[91]) 0 0) s3 (by simp; omega)
 have e3:=ha (w.st (x.name++[91]) 1 1) _ s3 (by simp; omega) (by simp; omega)
 have e4:=c86 (w:=w.st (x.name++91::mG a) (max 1 (nn 1 (mB a))) 1) s3 (by simp; omega) (by simp)
 have e5:=P1 (w:=w.st (x.name++91::mG a) (max 1 (nn 1 (mB a))) 0) (x:=[93]) s4 (by simp; omega)
 obtain⟨b1,b2⟩:=wY (k:=3) rfl
 rw [hk] at e0
 have i0:kZ 5 (.slice (x.args.map GE.cells) .no) (.int .i64 0)=some (.pptr a.cells):=by rw [hx]; exact ix0
 simp -implicitDefEqProofs at e2 e3 e4 e5
 simp -implicitDefEqProofs [VJ,zK,hk,e0,b1,b2,kT,htr2,nF,e1,e2,e3,e4,e5,i0,WL,lZ,htr,vS,Hn,pC]
 refine congrArg (fun w=>WH w B) (WS.Bw rfl ?_ rfl)
 unfold nn
 split <;> omega
theorem Rk {x a:GE}(hk:x.kind=5∨x.kind=6∨x.kind=7) (hx:x.args=[a]) (ha:IB a) (hka:1≤a.kind∧a.kind≤26):IB x:=by
 intro w B hB hbd hn
 have t1:mG x=qG x.kind++uD (decide (lK (lX a).1=8)) (lX a):=by
  rw [sY,hx]
  rcases hk with h | h | h <;> rw [h] <;> rfl
 have t2:mB x=sV (decide (lK (lX a).1=8)) (lX a)+1:=by
  rw [sU,hx]
  rcases hk with h | h | h <;> rw [h] <;> rfl
 have c1:=c88 ha hka (qG x.kind)
 have hk':1≤x.kind∧x.kind≤26:=by omega
 rw [(zU hk' _ a hka _ (MB hka)).1,(zU hk' _ a hka _ (MB hka)).2] at c1
 rw [t1] at hbd
 rw [t2] at hn
 rw [t1,t2]
 generalize uD (decide (lK (lX a).1=8)) (lX a)=A at hbd c1 ⊢
 generalize sV (decide (lK (lX a).1=8)) (lX a)=na at hn c1 ⊢
 refine lA (E4 _ _ _ _) ?_
 have s2:=Ax (x:=x) hB
 have htr:=fun w C=>oD (w:=w) (C:=C) hB
 have htr2:=fun w C=>tr2 (w:=w) (C:=C) (x:=x) hB
 have e0:=c82 x.kind hk'
 have e1:=c1 w _ s2 hbd hn
 have i0:kZ 5 (.slice (x.args.map GE.cells) .no) (.int .i64 0)=some (.pptr a.cells):=by rw [hx]; exact ix0
 rcases hk with h | h | h <;> rw [h] at e0 e1 ⊢
 ·obtain⟨b1,b2⟩:=wY (k:=5) rfl
  have hs:qG 5=[126]:=rfl
  rw [hs] at e1 ⊢
  simp -implicitDefEqProofs [VJ,zK,h,e0,b1,b2,kT,htr2,nF,e1,i0,WL,lZ,htr]
 ·obtain⟨b1,b2⟩:=wY (k:=6) rfl
  have hs:qG 6=[45]:=rfl
  rw [hs] at e1 ⊢
  simp -implicitDefEqProofs [VJ,zK,h,e0,b1,b2,kT,htr2,nF,e1,i0,WL,lZ,htr]
 ·obtain⟨b1,b2⟩:=wY (k:=7) rfl
  have hs:qG 7=[33]:=rfl
  rw [hs] at e1 ⊢
  simp -implicitDefEqProofs [VJ,zK,h,e0,b1,b2,kT,htr2,nF,e1,i0,WL,lZ,htr]
theorem ay4 {x:GE}(hk:x.kind=4∨x.kind=23∨x.kind=24∨x.kind=25∨x.kind=26) (hnm:x.kind=4∨x.name=[]) (ha:∀a∈x.args,IB a):IB x:=by
 intro w B hB hbd hn
 have t1:mG x=qG x.kind++x.name++40::(vL (x.args.map lX)++[]++[41]):=by
  rw [sY]
  rcases hk with h | h | h | h | h <;> rw [h] <;> rfl
 have t2:mB x=wH (x.args.map lX)+1:=by
  rw [sU]
  rcases hk with h | h | h | h | h <;> rw [h] <;> rfl
 rw [t1] at hbd
 rw [t2] at hn
 rw [t1,t2]
 refine lA (E4 _ _ _ _) ?_
 have s2:=Ax (x:=x) hB
 have htr:=fun w C=>oD (w:=w) (C:=C) hB
 have htr2:=fun w C=>tr2 (w:=w) (C:=C) (x:=x) hB
 have e0:=c82 x.kind (by omega)
 have e1:=c87 x.args ha [] (qG x.kind++x.name) w _ s2 hbd hn
 rcases hk with h | h | h | h | h <;> rw [h] at e0 e1 ⊢
 ·obtain⟨b1,b2⟩:=wY (k:=4) rfl
  have hs:qG 4=[]:=rfl
  rw [hs,ah4] at e1 ⊢
  simp -implicitDefEqProofs at e1
  simp -implicitDefEqProofs [VJ,zK,h,e0,b1,b2,kT,htr2,nF,e1,lZ,htr]
 ·obtain⟨b1,b2⟩:=wY (k:=23) rfl
  have hs:qG 23=[109,117,108,104,105]:=rfl
  have hq:x.name=[]:=hnm.resolve_left (by omega)
  rw [hs,hq,List.append_nil] at e1 ⊢
  simp -implicitDefEqProofs at e1
  simp -implicitDefEqProofs [VJ,zK,h,e0,b1,b2,kT,htr2,nF,e1,lZ,htr]
 ·obtain⟨b1,b2⟩:=wY (k:=24) rfl
  have hs:qG 24=[99,97,114,114,121]:=rfl
  have hq:x.name=[]:=hnm.resolve_left (by omega)
  rw [hs,hq,List.append_nil] at e1 ⊢
  simp -implicitDefEqProofs at e1
  simp -implicitDefEqProofs [VJ,zK,h,e0,b1,b2,kT,htr2,nF,e1,lZ,htr]
 ·obtain⟨b1,b2⟩:=wY (k:=25) rfl
  have hs:qG 25=[115,101,108,101,99,116]:=rfl
  have hq:x.name=[]:=hnm.resolve_left (by omega)
  rw [hs,hq,List.append_nil] at e1 ⊢
  simp -implicitDefEqProofs at e1
  simp -implicitDefEqProofs [VJ,zK,h,e0,b1,b2,kT,htr2,nF,e1,lZ,htr]
 ·obtain⟨b1,b2⟩:=wY (k:=26) rfl
  have hs:qG 26=[119,111,114,100]:=rfl
  have hq:x.name=[]:=hnm.resolve_left (by omega)
  rw [hs,hq,List.append_nil] at e1 ⊢
  simp -implicitDefEqProofs at e1
  simp -implicitDefEqProofs [VJ,zK,h,e0,b1,b2,kT,htr2,nF,e1,lZ,htr]
theorem aER {w:WS}{B C:List lG}{cs:List kM}:mM (WH w (B++.cells cs::C)) (oB (WH w (B++.cells cs::C)) (B.length+3)) (B.length+3)=WH w (B++.cells cs::C):=by
 unfold oB mM
 simp only [Ws,aj7]
theorem aEB {x:GE}(hk:x.kind=16) (hnm:x.name=[]) (hnum:0≤x.num∧x.num≤4294967295) (ha:∀a∈x.args,IB a):IB x:=by
 intro w B hB hbd hn
 have t1:mG x=[114,111,114]++40::(vL (x.args.map lX)++(44::32::vH x.num)++[41]):=by
  rw [sY,hk,hnm]; rfl
 have t2:mB x=wH (x.args.map lX)+1:=by
  rw [sU,hk]; rfl
 rw [t1] at hbd
 rw [t2] at hn
 rw [t1,t2]
 refine lA (E4 _ _ _ _) ?_
 have s2:=Ax (x:=x) hB
 have htr:=fun w C=>oD (w:=w) (C:=C) hB
 have htr2:=fun w C=>tr2 (w:=w) (C:=C) (x:=x) hB
 have e0:=c82 x.kind (by omega)
 have e1:=c87 x.args ha (44::32::vH x.num) [114,111,114] w _ s2 hbd hn
 have e2:=fun h=>c89 x.num hnum.1 (by omega) h
 have nl:=DI (n:=x.num) (by omega)
 have hle:2+(vH x.num).length≤4611686018427387904:=by omega
 obtain⟨b1,b2⟩:=wY (k:=16) rfl
 rw [hk] at e0
 simp -implicitDefEqProofs at e1
 simp -implicitDefEqProofs [VJ,zK,hk,e0,b1,b2,kT,htr2,nF,e1,e2,hle,lZ,htr,k9,nL,lQ,pK,aER]
end
section
open Go Hk
theorem vB {n:Int}:zB n=true↔0≤n∧n≤4294967295:=by simp [zB]
theorem CG {l:List GE}(h:l.length=1):∃a,l=[a]:=by
 match l,h with
 | [a],_=>exact⟨a,rfl⟩
theorem w7 {l:List GE}(h:l.length=2):∃a b,l=[a,b]:=by
 match l,h with
 | [a,b],_=>exact⟨a,b,rfl⟩
theorem B4 {s:List UInt8}(h:lJ s false=true):s=[]:=by simpa [lJ] using h
theorem eok:∀(n:Nat) (x:GE),x.size≤n→nT x=true→IB x:=by
 intro n
 induction n with
 | zero=>intro x hn; cases x; simp [GE.size] at hn
 | succ n ih =>
  intro x hn hw
  have hk:=Cv hw
  have ha:∀a∈x.args,IB a∧1≤a.kind∧a.kind≤26:=by
   intro a hm
   cases x
   simp only [nT,ac5,wC,ae8] at hw
   have h1:=GE.oO hm
   simp only [GE.size,GE.args] at hn h1 hm
   exact⟨ih a (by omega) (hw.2 a hm),Cv (hw.2 a hm)⟩
  have hnode:rL x.kind x.num x.name x.args.length=true:=by
   cases x
   simp only [nT,ac5] at hw
   exact hw.1
  have one:∀a,x.args=[a]→IB a∧1≤a.kind∧a.kind≤26:=fun a e=>ha a (by rw [e]; simp)
  have two:∀a b,x.args=[a,b]→(IB a∧1≤a.kind∧a.kind≤26)∧(IB b∧1≤b.kind∧b.kind≤26):=fun a b e=>⟨ha a (by rw [e]; simp),ha b (by rw [e]; simp)⟩
  have bin:lK x.kind < 8→(∃a b,x.args=[a,b])→IB x:=by
   rintro ht ⟨a,b,e⟩
   obtain⟨h1,h2⟩:=two a b e
   exact aEC e hk ht h1.1 h2.1 h1.2 h2.2
  have cl:(x.kind=4∨x.kind=23∨x.kind=24∨x.kind=25∨x.kind=26)→(x.kind=4∨x.name=[])→IB x:=fun h1 h2=>ay4 h1 h2 fun a hm=>(ha a hm).1
  unfold rL at hnode
  rcases Ae hk with h | h | h | h | h | h | h | h | h | h | h | h | h | h | h | h | h | h | h | h | h | h | h | h | h | h <;> simp only [h] at hnode bin cl <;>
   simp [tS,lB,vB] at hnode
  ·exact aEA h hnode.2
  ·exact ay5 h
  ·obtain⟨a,e⟩:=CG (l:=x.args) (by have:=hnode.1.1; omega)
   exact aoN h e (one a e).1
  ·exact cl (by simp) (by simp)
  ·obtain⟨a,e⟩:=CG (l:=x.args) (by have:=hnode.1.1; omega)
   exact Rk (.inl h) e (one a e).1 (one a e).2
  ·obtain⟨a,e⟩:=CG (l:=x.args) (by have:=hnode.1.1; omega)
   exact Rk (.inr (.inl h)) e (one a e).1 (one a e).2
  ·obtain⟨a,e⟩:=CG (l:=x.args) (by have:=hnode.1.1; omega)
   exact Rk (.inr (.inr h)) e (one a e).1 (one a e).2
  ·exact bin (by decide) (w7 (l:=x.args) (by have:=hnode.1.1; omega))
  ·exact bin (by decide) (w7 (l:=x.args) (by have:=hnode.1.1; omega))
  ·exact bin (by decide) (w7 (l:=x.args) (by have:=hnode.1.1; omega))
  ·exact bin (by decide) (w7 (l:=x.args) (by have:=hnode.1.1; omega))
  ·exact bin (by decide) (w7 (l:=x.args) (by have:=hnode.1.1; omega))
  ·exact bin (by decide) (w7 (l:=x.args) (by have:=hnode.1.1; omega))
  ·obtain⟨a,e⟩:=CG (l:=x.args) (by have:=hnode.1.1; omega)
   exact Ys e hk (by rw [h]; decide) (by rw [h]; decide) hnode.2 (one a e).1 (one a e).2
  ·obtain⟨a,e⟩:=CG (l:=x.args) (by have:=hnode.1.1; omega)
   exact Ys e hk (by rw [h]; decide) (by rw [h]; decide) hnode.2 (one a e).1 (one a e).2
  ·exact aEB h (B4 hnode.1.2) hnode.2 fun a hm=>(ha a hm).1
  ·exact bin (by decide) (w7 (l:=x.args) (by have:=hnode.1.1; omega))
  ·exact bin (by decide) (w7 (l:=x.args) (by have:=hnode.1.1; omega))
  ·exact bin (by decide) (w7 (l:=x.args) (by have:=hnode.1.1; omega))
  ·exact bin (by decide) (w7 (l:=x.args) (by have:=hnode.1.1; omega))
  ·exact bin (by decide) (w7 (l:=x.args) (by have:=hnode.1.1; omega))
  ·exact bin (by decide) (w7 (l:=x.args) (by have:=hnode.1.1; omega))
  ·exact cl (by simp) (.inr (B4 hnode.1.2))
  ·exact cl (by simp) (.inr (B4 hnode.1.2))
  ·exact cl (by simp) (.inr (B4 hnode.1.2))
  ·exact cl (by simp) (.inr (B4 hnode.1.2))
theorem c37 (x:GE) (hw:nT x=true):WOk 37 [.agg x.cells] (mG x) (mB x):=eok x.size x (Nat.le_refl _) hw
end
section
open Go Hk
def WS.sl (w:WS) (l:Nat):WS:={ w with ln:=l }
section
variable {w:WS}{x:List UInt8}{n k l j:Nat}{B C:List lG}{cs:List kM}
@[simp] theorem WS.aMb:(w.sl l).st x n k=(w.st x n k).sl l:=rfl
@[simp] theorem WS.aMc:(w.sl l).up=w.up.sl l:=rfl
@[simp] theorem WS.aId:(w.sl l).down=w.down.sl l:=rfl
@[simp] theorem WS.aMa:(w.sl l).sl j=w.sl j:=rfl
@[simp] theorem WS.aL8:(w.sl l).bs=w.bs:=rfl
@[simp] theorem WS.aKQ:(w.sl l).now=w.now:=rfl
@[simp] theorem WS.aL9:(w.sl l).ln=l:=rfl
theorem WS.Xt:(w.st x n k).sl w.ln=w.st x n k:=rfl
theorem awO {n:Nat}:pU 1 (WH w B) (.ptr 1 4) (.int .i64 (n:Int))=some (WH (w.sl n) B):=(rfl)
end
theorem GT.still (t:GT) (m:Nat) (h:kP):nI m h t.cells=some t.cells:=by simp [GT.cells]
theorem Oq {t:GT}{C:List lG}(h:Still C):Still (.cells t.cells::C):=fun m y=>by simp [t.still m y,h m y]
theorem GS.still (x:GS) (m:Nat) (h:kP):nI m h x.cells=some x.cells:=by cases x; simp [GS.cells]
theorem Bi {x:GS}{C:List lG}(h:Still C):Still (.cells x.cells::C):=fun m y=>by simp [x.still m y,h m y]
@[simp] theorem GS.XG (x:GS):x.cells.map kM.uG=x.cells:=by cases x; simp [GS.cells]
@[simp] theorem GS.aKV (x:GS):x.cells.take 11=x.cells:=by cases x; rfl
theorem GS.tok (x:GS) {k:Nat}:lF k x.cells=(x.cells,[]):=uN (by cases x; simp [GS.cells,kM.isNil])
theorem GS.T3 (x:GS):x.cells.all kM.mE=true:=by cases x; simp [GS.cells,kM.mE]
section
variable {w:WS}{B C:List lG}{cs:List kM}
theorem IT {t:GT}:lL 3 (WH w B) (.agg t.cells)=some (.ptr (B.length+3) 0,WH w (B++[.cells t.cells])):=by
 simp [lL,GT.cells,lF,nF,pC]
theorem Hl {x:GS}:lL 11 (WH w B) (.agg x.cells)=some (.ptr (B.length+3) 0,WH w (B++[.cells x.cells])):=by
 simp [lL,x.tok,x.T3,nF,pC]
theorem axX:lL 11 (WH w B) (.agg [.int .i64 0,.int .i64 0,.int .i64 0,.str [],.int .i64 0,.int .i64 0,.int .i64 0,.slice [] .nil,.slice [] .nil,.slice [] .nil,.bool false]) =
  some (.ptr (B.length+3) 0,WH w (B++[.cells [.int .i64 0,.int .i64 0,.int .i64 0,.str [],.int .i64 0,.int .i64 0,.int .i64 0,.slice [] (.own (B.length+4)),.slice [] (.own (B.length+5)),.slice [] (.own (B.length+6)),.bool false],.front 0 0,.front 0 0,.front 0 0])):=by
 simp [lL,lF,nF,pC]
theorem aKR {x:GS}(hc:cs.length=11):pU 11 (WH w (B++.cells cs::C)) (.ptr (B.length+3) 0) (.agg x.cells)=some (WH w (B++.cells x.cells::C)):=by
 have e:=Ws (w:=w) (B:=B) (C:=C) (cs:=cs)
 have hk:∀os,pV (WH w (B++.cells cs::C)) os x.cells=x.cells:=fun os=>rA (by cases x; simp [GS.cells,kM.isNil])
 simp only [pU,BO,e,DX,mY,ad9,Fv,GS.q8,hc]
 rw [if_pos ⟨trivial,by omega,x.T3⟩,hk]
 have:putCells cs 0 x.cells=x.cells:=by simp [putCells,hc]
 rw [this,aj7]
theorem aJX {x:GS}{h:kP}:mA true 11 h (.pptr x.cells)=some (.agg x.cells):=by simp [mA]
theorem trC {C D:List lG}(hB:Still B) (hC:Still C) {n:Nat}(hn:C.length=n):l_ (B.length+n+3) (WH w (B++(C++D)))=some (WH w (B++C)):=by
 have:=oD (w:=w) (B:=B++C) (C:=D) (o9 hB hC)
 rw [ab5,hn,ag1] at this
 exact this
end
theorem ai4 {n:Int}:0 < (vH n).length:=by
 unfold vH
 obtain⟨c,r,h⟩:=Rj n.toNat
 rw [h]; simp
theorem c70 {w:WS}{B:List lG}(t:GT) (ht:sJ t=true) (hB:Still B) (hb:w.bs.length+(wI t).length≤140737488355328) :
  KK 70 [.ptr 1 0,.agg t.cells] (WH w B)=some (.ret (.tuple []),WH (w.st (wI t) 0 0) B):=by
 have hlen:0≤t.len∧t.len≤4294967295:=by
  simp only [sJ,ac5] at ht
  exact vB.1 ht.1.2
 refine lA (aA4 _ _ _ _) ?_
 have s1:Still (B++[.cells t.cells]):=o9 hB (Oq oC)
 have s2:∀n s,Still (B++[.cells t.cells,.front n s]):=fun n s=>o9 hB (Oq (mN oC))
 have htr:=fun w C=>oD (w:=w) (C:=C) hB
 have htr2:∀w D,l_ (B.length+1+3) (WH w (B++.cells t.cells::D))=some (WH w (B++[.cells t.cells])):=fun w D=>trC (C:=[.cells t.cells]) hB (Oq oC) rfl
 have q1:∀h o,kM.mP (B.length+1+3) h (.ptr (B.length+3) o)=.ptr (B.length+3) o:=fun h o=>yO (by omega)
 have q2:∀h o,kM.mP (B.length+1+3) h (.ptr 1 o)=.ptr 1 o:=fun h o=>yO (by omega)
 have g0:∀h:0 < t.cells.length,t.cells[0]'h=.int .i64 t.elem:=fun _=>rfl
 have g1:∀h:1 < t.cells.length,t.cells[1]'h=.int .i64 t.len:=fun _=>rfl
 have gl:t.cells.length=3:=rfl
 have e0:=c89 t.len hlen.1 (by omega)
 have nl:=DI (n:=t.len) (by omega)
 have np:=ai4 (n:=t.len)
 obtain⟨a,ha⟩:∃a,a=(if t.elem=1 then [109,97,115,107] else if t.elem=2 then [117,56] else [117,51,50]:List UInt8):=⟨_,rfl⟩
 have kt:wI t=a++(if 0 < t.len then 91::(vH t.len++[93]) else []):=by rw [ha]; rfl
 rw [kt] at hb ⊢
 simp only [ab5] at hb
 have e1:=P1 (w:=w) (x:=a) (s2 1 1) (by omega)
 have fin2:0 < t.len→KK 68 [.ptr 1 0,.slice [qY [91],qY (vH t.len),qY [93]] .no] (WH (w.st a 0 0) (B++[.cells t.cells,.front 3 1]))=some (.ret (.tuple []),WH (w.st (a++91::(vH t.len++[93])) 0 0) (B++[.cells t.cells,.front 3 1])):=by
  intro hp
  rw [if_pos hp] at hb
  simp only [ac1,ab5,ac6] at hb
  have:=P3 (w:=w.st a 0 0) (x:=[91]) (y:=vH t.len) (z:=[93]) (s2 3 1) (by simp; omega)
  simpa using this
 by_cases h1:t.elem=1
 ·rw [if_pos h1] at ha
  subst ha
  by_cases hp:0 < t.len
  ·simp -implicitDefEqProofs [m70,IT,g0,g1,gl,h1,hp,vS,Cb,pC,nF,e0,e1,fin2 hp,kT,htr2,q1,q2,lZ,htr]
  ·simp -implicitDefEqProofs [m70,IT,g0,g1,gl,h1,hp,vS,Cb,pC,nF,e0,e1,kT,htr2,q1,q2,lZ,htr]
 ·rw [if_neg h1] at ha
  by_cases h2:t.elem=2
  ·rw [if_pos h2] at ha
   subst ha
   by_cases hp:0 < t.len
   ·simp -implicitDefEqProofs [m70,IT,g0,g1,gl,h1,h2,hp,vS,Cb,pC,nF,e0,e1,fin2 hp,kT,htr2,q1,q2,lZ,htr]
   ·simp -implicitDefEqProofs [m70,IT,g0,g1,gl,h1,h2,hp,vS,Cb,pC,nF,e0,e1,kT,htr2,q1,q2,lZ,htr]
  ·rw [if_neg h2] at ha
   subst ha
   by_cases hp:0 < t.len
   ·simp -implicitDefEqProofs [m70,IT,g0,g1,gl,h1,h2,hp,vS,Cb,pC,nF,e0,e1,fin2 hp,kT,htr2,q1,q2,lZ,htr]
   ·simp -implicitDefEqProofs [m70,IT,g0,g1,gl,h1,h2,hp,vS,Cb,pC,nF,e0,e1,kT,htr2,q1,q2,lZ,htr]
def SOk (s:GS):Prop:=∀(w:WS) (B:List lG),Still B→w.bs.length+(qI w.ln s).length≤1099511627776→w.now+qT s≤1000000000000000 →
 KK 126 [.ptr 1 0,.agg s.cells] (WH w B)=some (.ret (.tuple []),WH (w.st (qI w.ln s) (qT s) 0) B)
def BOk (l:List GS):Prop:=∀(w:WS) (B:List lG),Still B→w.bs.length+(oH w.ln (oF (w.ln+1) l)).length≤1099511627776→w.now+(qJ (nX l)+1)≤1000000000000000 →
 KK 71 [.ptr 1 0,.slice (l.map GS.cells) .no] (WH w B)=some (.ret (.tuple []),WH (w.st (oH w.ln (oF (w.ln+1) l)) (qJ (nX l)+1) 0) B)
def Nk (n:Nat) (t:List UInt8):List UInt8:=qB n++t++[10]
def wR (n:Nat) (l:List GS) (i:Nat):List UInt8:=(((l.take i).map (qI n)).map (Nk n)).flatten
def zY (l:List GS) (i:Nat):Nat:=qJ ((l.take i).map qT)
theorem Jl:∀(l:List Nat) (p:Nat),qJ (l++[p])=max (qJ l) p
 | [],p=>by simp [qJ]
 | q::l,p=>by simp only [ae7,qJ,Jl l p]; omega
theorem NH:∀(a b:List Nat),qJ a≤qJ (a++b)
 | [],_=>by simp [qJ]
 | p::a,b=>by simp only [qJ,ae7]; have:=NH a b; omega
theorem PN {n:Nat}{l:List GS}{i:Nat}{x:GS}(h:l[i]?=some x):wR n l (i+1)=wR n l i++(qB n++(qI n x++[10])):=by
 simp [wR,tK h,Nk]
theorem PK {l:List GS}{i:Nat}{x:GS}(h:l[i]?=some x):zY l (i+1)=max (zY l i) (qT x):=by
 simp [zY,tK h,Jl]
theorem Yh (n:Nat) (l:List GS) (i:Nat):(wR n l i).length≤(wR n l l.length).length:=by
 have:wR n l l.length=wR n l i++(((l.drop i).map (qI n)).map (Nk n)).flatten:=by
  unfold wR
  rw [←List.flatten_append,←am3,←am3,List.take_append_drop,List.take_length]
 rw [this]; simp
theorem an5 (l:List GS) (i:Nat):zY l i≤zY l l.length:=by
 have:zY l l.length=qJ ((l.take i).map qT++(l.drop i).map qT):=by
  unfold zY
  rw [←am3,List.take_append_drop,List.take_length]
 rw [this]
 exact NH _ _
theorem IW (n:Nat) (l:List GS):oH n (oF (n+1) l)=32::123::10::(wR (n+1) l l.length++(qB n++[125])):=by
 unfold oH wR
 have e:(fun t=>qB (n+1)++t++[10])=Nk (n+1):=rfl
 rw [QL,List.take_length,e]
 simp
theorem Sf (l:List GS):qJ (nX l)=zY l l.length:=by rw [Qv]; simp [zY]
@[simp] theorem tD {n:Nat}:(qB n).length=n:=by simp [qB]
theorem aiL {w:WS}{B:List lG}(l:List GS) (hok:∀x∈l,SOk x) (n:Nat) (hB:Still B) (W:List UInt8) (hl:l.length≤4611686018427387904)
  (hb:w.bs.length+(W.length+(wR (n+1) l l.length).length)≤1099511627776) (hn:w.now+(zY l l.length+1)≤1000000000000000):∀i,i≤l.length →
  mJ (Sb KK (B.length+3)) ([.ptr 1 0,.slice (l.map GS.cells) .no,.int .i64 (l.length:Int),.int .i64 (i:Int)],WH ((w.st (W++wR (n+1) l i) (max 1 (nn 1 (zY l i))) 1).sl (n+1)) B) =
   some (.exit 0,[.ptr 1 0,.slice (l.map GS.cells) .no,.int .i64 (l.length:Int),.int .i64 (l.length:Int)],WH ((w.st (W++wR (n+1) l l.length) (max 1 (nn 1 (zY l l.length))) 1).sl (n+1)) B):=by
 refine tM (fun i:Nat=>([.ptr 1 0,.slice (l.map GS.cells) .no,.int .i64 (l.length:Int),.int .i64 (i:Int)],WH ((w.st (W++wR (n+1) l i) (max 1 (nn 1 (zY l i))) 1).sl (n+1)) B)) (fun i=>i≤l.length) (fun i=>l.length - i) _ fun i hi=>?_
 have htr:=fun w C=>oD (w:=w) (C:=C) hB
 by_cases h:i < l.length
 ·left
  refine⟨i+1,?_,h,by omega,rfl⟩
  obtain⟨x,hx⟩:∃x,l[i]?=some x:=⟨l[i],ab3 h⟩
  have hxe:=hok x (ad8 hx)
  have hxi:∀hh:i < l.length,l[i]'hh=x:=fun hh=>by rw [ab3 hh] at hx; exact Option.some.inj hx
  have t1:=PN (n:=n+1) hx
  have t2:=PK hx
  have t3:=Yh (n+1) l (i+1)
  have t4:=an5 l (i+1)
  rw [t1] at t3
  rw [t2] at t4
  simp only [ab5,ac1,ac6,tD] at t3
  have w1:=rU (a:=i) (by omega)
  have s2:Still (B++[.cells x.cells,.front 0 0,.front 0 0,.front 0 0]):=o9 hB (Bi (mN (mN (mN oC))))
  have s4:Still (B++[.cells x.cells,.front 0 0,.front 0 0,.front 0 0,.front 1 1]):=o9 hB (Bi (mN (mN (mN (mN oC)))))
  have hst:=fun w C cs (hc:aa1 cs=11)=>aKR (w:=w) (B:=B) (C:=C) (x:=x) hc
  have e1:=aEo (w:=(w.st (W++wR (n+1) l i) (max 1 (nn 1 (zY l i))) 1).sl (n+1)) s2 (by simp; omega) (by simp; omega)
  have e2:=hxe ((w.st (W++(wR (n+1) l i++qB (n+1))) (max 1 (nn 1 (zY l i))) 1).sl (n+1)) _ s2 (by simp; omega) (by simp; omega)
  have e3:=P1 (w:=(w.st (W++(wR (n+1) l i++(qB (n+1)++qI (n+1) x))) (max (max 1 (nn 1 (zY l i))) (nn 1 (qT x))) 1).sl (n+1)) (x:=[10]) s4 (by simp; omega)
  simp -implicitDefEqProofs at e1 e2 e3
  simp -implicitDefEqProofs [Sb,h,hxi,aJX,axX,hst,kT,htr,nF,vS,pC,e1,e2,e3,w1,y7,-af8]
  refine congrArg (fun w=>WH w B) (congrArg (fun w=>WS.sl w (n+1)) (WS.Bw (by rw [t1]) ?_ rfl))
  rw [t2]
  unfold nn
  split <;> split <;> split <;> omega
 ·right
  have:i=l.length:=by omega
  subst this
  constructor
  ·simp -implicitDefEqProofs [Sb,kT,tA hB,y7]
  ·simp
theorem c71 (l:List GS) (hok:∀x∈l,SOk x):BOk l:=by
 intro w B hB hb hn
 rw [IW] at hb ⊢
 rw [Sf] at hn ⊢
 simp only [ab5,ac1,ac6,tD] at hb
 have hl:l.length≤4611686018427387904:=by
  have key:∀(n:Nat) (l:List GS),l.length≤(wR n l l.length).length:=by
   intro n l
   unfold wR
   rw [List.take_length]
   induction l with
   | nil=>simp
   | cons x r ih=>simp only [ai3,List.flatten_cons,ab5,ac1,Nk,ac6] at ih ⊢; omega
  have:=key (w.ln+1) l
  omega
 refine lA (aA5 _ _ _ _) ?_
 have s1:=Vp (n:=1) (s:=1) hB
 have s2:Still (B++[.front 1 1,.front 1 1]):=o9 hB (mN (mN oC))
 have htr:=fun w C=>oD (w:=w) (C:=C) hB
 have e1:=P1 (w:=w) (x:=[32,123,10]) s1 (by simp; omega)
 have e2:=c85 (w:=w.st [32,123,10] 0 0) s1 (by simp; omega)
 have w1:=rU (a:=w.ln) (by omega)
 have e3:=awO (w:=w.st [32,123,10] 1 1) (B:=B++[.front 1 1]) (n:=w.ln+1)
 have e4:=aiL (w:=w) l hok w.ln s1 [32,123,10] hl (by simp; omega) hn 0 (ah8 _)
 have w2:IntKind.wrap .i64 (((w.ln+1:Nat):Int) - 1)=(w.ln:Int):=by rw [wrap64] <;> omega
 have e5:=awO (w:=(w.st ([32,123,10]++wR (w.ln+1) l l.length) (max 1 (nn 1 (zY l l.length))) 1).sl (w.ln+1)) (B:=B++[.front 1 1]) (n:=w.ln)
 have e6:=aEo (w:=w.st ([32,123,10]++wR (w.ln+1) l l.length) (max 1 (nn 1 (zY l l.length))) 1) s1 (by simp; omega) (by simp; omega)
 have e7:=c86 (w:=w.st ([32,123,10]++(wR (w.ln+1) l l.length++qB w.ln)) (max 1 (nn 1 (zY l l.length))) 1) s1 (by simp; omega) (by simp)
 have e8:=P1 (w:=w.st ([32,123,10]++(wR (w.ln+1) l l.length++qB w.ln)) (max 1 (nn 1 (zY l l.length))) 0) (x:=[125]) s2 (by simp; omega)
 have t0:wR (w.ln+1) l 0=[]:=rfl
 have n0:zY l 0=0:=rfl
 simp -implicitDefEqProofs [t0,n0,WS.Xt,-af8] at e2 e3 e4 e5 e6 e7 e8
 simp -implicitDefEqProofs [m71,vS,pC,e1,e2,w1,e3,e4,w2,e5,e6,e7,e8,nF,lZ,htr,-af8]
 refine congrArg (fun w=>WH w B) (WS.Bw rfl ?_ rfl)
 unfold nn
 split <;> omega
end
section
open Go Hk
def GS.kind:GS→Int | .mk k _ _ _ _ _ _ _ _=>k
def GS.r_:GS→Int | .mk _ _ m _ _ _ _ _ _=>m
def GS.name:GS→List UInt8 | .mk _ _ _ n _ _ _ _ _=>n
def GS.ty:GS→GT | .mk _ _ _ _ t _ _ _ _=>t
def GS.args:GS→List GE | .mk _ _ _ _ _ a _ _ _=>a
def GS.body:GS→List GS | .mk _ _ _ _ _ _ b _ _=>b
def GS.els:GS→List GS | .mk _ _ _ _ _ _ _ e _=>e
def GS.has:GS→Bool | .mk _ _ _ _ _ _ _ _ h=>h
theorem qV (n:Nat) (x:GS):qI n x=Cr x.kind x.r_ x.name x.ty (x.args.map mG) (oH n (oF (n+1) x.body)) (oH n (oF (n+1) x.els)) x.has:=by cases x; simp only [qI]; rfl
theorem qU (x:GS):qT x=ZG x.kind (x.args.map mB) (qJ (nX x.body)+1) (qJ (nX x.els)+1) x.has:=by cases x; simp only [qT]; rfl
section
variable (x:GS)
@[simp] theorem GS.g0 {h:0 < x.cells.length}:x.cells[0]'h=.int .i64 x.kind:=by cases x; rfl
@[simp] theorem GS.g2 {h:2 < x.cells.length}:x.cells[2]'h=.int .i64 x.r_:=by cases x; rfl
@[simp] theorem GS.g3 {h:3 < x.cells.length}:x.cells[3]'h=.str x.name:=by cases x; rfl
@[simp] theorem GS.g6 {h:6 < x.cells.length}:x.cells[6]'h=.int .i64 x.ty.label:=by cases x; rfl
@[simp] theorem GS.g7 {h:7 < x.cells.length}:x.cells[7]'h=.slice (x.args.map GE.cells) .no:=by cases x; rfl
@[simp] theorem GS.g8 {h:8 < x.cells.length}:x.cells[8]'h=.slice (x.body.map GS.cells) .no:=by cases x; simp [GS.cells,GS.body,GS.nN]
@[simp] theorem GS.g9 {h:9 < x.cells.length}:x.cells[9]'h=.slice (x.els.map GS.cells) .no:=by cases x; simp [GS.cells,GS.els,GS.nN]
@[simp] theorem GS.g10 {h:10 < x.cells.length}:x.cells[10]'h=.bool x.has:=by cases x; rfl
@[simp] theorem GS.gty:(x.cells.drop 4).take 3=x.ty.cells:=by cases x; rfl
@[simp] theorem GT.XG (t:GT):t.cells.map kM.uG=t.cells:=rfl
end
theorem XR {x:GS}{a:GE}{l:List GE}(h:x.args=a::l):kZ 5 (.slice (x.args.map GE.cells) .no) (.int .i64 0)=some (.pptr a.cells):=by rw [h]; exact ix0
theorem xi1 {x:GS}{a b:GE}{l:List GE}(h:x.args=a::b::l):kZ 5 (.slice (x.args.map GE.cells) .no) (.int .i64 1)=some (.pptr b.cells):=by rw [h]; exact ix1
@[simp] theorem aH0 {m:Nat}:nn 0 m=m:=by unfold nn; split <;> omega
theorem w00:IntKind.wrap .i64 0=0:=by decide
theorem w01:IntKind.wrap .i64 1=1:=by decide
section
variable {w:WS}{B:List lG}{x:GS}
theorem sS1 (hB:Still B):Still (B++[.cells x.cells]):=o9 hB (Bi oC)
theorem S7 {n s:Nat}(hB:Still B):Still (B++[.cells x.cells,.front n s]):=o9 hB (Bi (mN oC))
theorem sS3 {n s n' s':Nat}(hB:Still B):Still (B++[.cells x.cells,.front n s,.front n' s']):=o9 hB (Bi (mN (mN oC)))
theorem sS4 {n s n' s' n2 s2:Nat}(hB:Still B):Still (B++[.cells x.cells,.front n s,.front n' s',.front n2 s2]):=o9 hB (Bi (mN (mN (mN oC))))
theorem trS (hB:Still B) (w:WS) (D:List lG):l_ (B.length+1+3) (WH w (B++.cells x.cells::D))=some (WH w (B++[.cells x.cells])):=trC (C:=[.cells x.cells]) hB (Bi oC) rfl
theorem qS1 {h:kP}{o:Nat}:kM.mP (B.length+1+3) h (.ptr (B.length+3) o)=.ptr (B.length+3) o:=yO (by omega)
theorem qS2 {h:kP}{o:Nat}:kM.mP (B.length+1+3) h (.ptr 1 o)=.ptr 1 o:=yO (by omega)
end
theorem aCi {x:GS}{a:GE}(hk:x.kind=1) (hx:x.args=[a]) (ha:nT a=true):SOk x:=by
 intro w B hB hb hn
 have t1:qI w.ln x=[108,101,116,32]++x.name++[32,61,32]++mG a++[59]:=by rw [qV,hk,hx]; rfl
 have t2:qT x=mB a:=by rw [qU,hk,hx]; rfl
 rw [t1] at hb
 rw [t2] at hn
 rw [t1,t2]
 simp only [ab5,ac1,ac6] at hb
 refine lA (CY _ _ _ _) ?_
 have htr:=fun w C=>oD (w:=w) (C:=C) hB
 have e1:=P3 (w:=w) (x:=[108,101,116,32]) (y:=x.name) (z:=[32,61,32]) (S7 (x:=x) (n:=3) (s:=1) hB) (by simp; omega)
 have e2:=c37 a ha (w.st ([108,101,116,32]++(x.name++[32,61,32])) 0 0) _ (sS1 (x:=x) hB) (by simp; omega) (by simp; omega)
 have e3:=P1 (w:=w.st ([108,101,116,32]++(x.name++([32,61,32]++mG a))) (mB a) 0) (x:=[59]) (S7 (x:=x) (n:=1) (s:=1) hB) (by simp; omega)
 have i0:=XR hx
 have hl:x.args.length=1:=by rw [hx]; rfl
 simp -implicitDefEqProofs at e1 e2 e3
 simp -implicitDefEqProofs [Pk,Hl,hk,vS,Cb,pC,nF,e1,e2,e3,kT,trS hB,qS1,qS2,i0,hl,w00,WL,lZ,htr]
theorem aCk {x:GS}{a:GE}(hk:x.kind=3) (hx:x.args=[a]) (ha:nT a=true):SOk x:=by
 intro w B hB hb hn
 have t1:qI w.ln x=x.name++[32,61,32]++mG a++[59]:=by rw [qV,hk,hx]; rfl
 have t2:qT x=mB a:=by rw [qU,hk,hx]; rfl
 rw [t1] at hb
 rw [t2] at hn
 rw [t1,t2]
 simp only [ab5,ac1,ac6] at hb
 refine lA (CY _ _ _ _) ?_
 have htr:=fun w C=>oD (w:=w) (C:=C) hB
 have e1:=P2 (w:=w) (x:=x.name) (y:=[32,61,32]) (S7 (x:=x) (n:=2) (s:=1) hB) (by simp; omega)
 have e2:=c37 a ha (w.st (x.name++[32,61,32]) 0 0) _ (sS1 (x:=x) hB) (by simp; omega) (by simp; omega)
 have e3:=P1 (w:=w.st (x.name++([32,61,32]++mG a)) (mB a) 0) (x:=[59]) (S7 (x:=x) (n:=1) (s:=1) hB) (by simp; omega)
 have i0:=XR hx
 have hl:x.args.length=1:=by rw [hx]; rfl
 simp -implicitDefEqProofs at e1 e2 e3
 simp -implicitDefEqProofs [Pk,Hl,hk,vS,Hn,pC,nF,e1,e2,e3,kT,trS hB,qS1,qS2,i0,hl,w00,WL,lZ,htr]
theorem aCj {x:GS}{a:GE}(hk:x.kind=8) (hx:x.args=[a]) (ha:nT a=true):SOk x:=by
 intro w B hB hb hn
 have t1:qI w.ln x=[114,101,116,117,114,110,32]++mG a++[59]:=by rw [qV,hk,hx]; rfl
 have t2:qT x=mB a:=by rw [qU,hk,hx]; rfl
 rw [t1] at hb
 rw [t2] at hn
 rw [t1,t2]
 simp only [ab5,ac1,ac6] at hb
 refine lA (CY _ _ _ _) ?_
 have htr:=fun w C=>oD (w:=w) (C:=C) hB
 have e1:=P1 (w:=w) (x:=[114,101,116,117,114,110,32]) (S7 (x:=x) (n:=1) (s:=1) hB) (by simp; omega)
 have e2:=c37 a ha (w.st [114,101,116,117,114,110,32] 0 0) _ (sS1 (x:=x) hB) (by simp; omega) (by simp; omega)
 have e3:=P1 (w:=w.st ([114,101,116,117,114,110,32]++mG a) (mB a) 0) (x:=[59]) (S7 (x:=x) (n:=1) (s:=1) hB) (by simp; omega)
 have i0:=XR hx
 have hl:x.args.length=1:=by rw [hx]; rfl
 simp -implicitDefEqProofs at e1 e2 e3
 simp -implicitDefEqProofs [Pk,Hl,hk,vS,pC,nF,e1,e2,e3,kT,trS hB,qS1,qS2,i0,hl,w00,WL,lZ,htr]
theorem atU {x:GS}{a:GE}(hk:x.kind=7) (hx:x.args=[a]) (ha:nT a=true):SOk x:=by
 intro w B hB hb hn
 have t1:qI w.ln x=mG a++[59]:=by rw [qV,hk,hx]; rfl
 have t2:qT x=mB a:=by rw [qU,hk,hx]; rfl
 rw [t1] at hb
 rw [t2] at hn
 rw [t1,t2]
 simp only [ab5,ac1,ac6] at hb
 refine lA (CY _ _ _ _) ?_
 have htr:=fun w C=>oD (w:=w) (C:=C) hB
 have e2:=c37 a ha w _ (sS1 (x:=x) hB) (by omega) (by omega)
 have e3:=P1 (w:=w.st (mG a) (mB a) 0) (x:=[59]) (S7 (x:=x) (n:=1) (s:=1) hB) (by simp; omega)
 have i0:=XR hx
 have hl:x.args.length=1:=by rw [hx]; rfl
 simp -implicitDefEqProofs at e2 e3
 simp -implicitDefEqProofs [Pk,Hl,hk,vS,pC,nF,e2,e3,kT,trS hB,qS1,qS2,i0,hl,w00,WL,lZ,htr]
theorem akN {x:GS}{a b:GE}(hk:x.kind=4) (hx:x.args=[a,b]) (ha:nT a=true) (hb':nT b=true) (hnm:qR x.name=true):SOk x:=by
 intro w B hB hb hn
 have t1:qI w.ln x=x.name++91::(mG a++[93])++[32,61,32]++mG b++[59]:=by rw [qV,hk,hx]; rfl
 have t2:qT x=max (mB a+1) (mB b):=by rw [qU,hk,hx]; rfl
 rw [t1] at hb
 rw [t2] at hn
 rw [t1,t2]
 simp only [ab5,ac1,ac6] at hb
 refine lA (CY _ _ _ _) ?_
 have htr:=fun w C=>oD (w:=w) (C:=C) hB
 have hwe:nT (.mk 3 0 0 x.name [a])=true:=by simp [nT,nH,rL,tS,lJ,lB,hnm,ha]
 have hce:(GE.mk 3 0 0 x.name [a]).cells=[.int .i64 3,.int .i64 0,.int .i64 0,.str x.name,.slice [a.cells] .no]:=by simp [GE.cells,GE.rows]
 have hte:mG (.mk 3 0 0 x.name [a])=x.name++91::(mG a++[93]):=by rw [sY]; rfl
 have hne:mB (.mk 3 0 0 x.name [a])=mB a+1:=by rw [sU]; rfl
 have e1:=c37 _ hwe w _ (sS1 (x:=x) hB) (by rw [hte]; simp only [ab5,ac1,ac6]; omega) (by rw [hne]; omega)
 rw [hce,hte,hne] at e1
 have e2:=P1 (w:=w.st (x.name++91::(mG a++[93])) (mB a+1) 0) (x:=[32,61,32]) (S7 (x:=x) (n:=1) (s:=1) hB) (by simp; omega)
 have e3:=c37 b hb' (w.st (x.name++91::(mG a++([93]++[32,61,32]))) (mB a+1) 0) _ (sS1 (x:=x) hB) (by simp; omega) (by simp; omega)
 have e4:=P1 (w:=w.st (x.name++91::(mG a++([93]++([32,61,32]++mG b)))) (max (mB a+1) (nn 0 (mB b))) 0) (x:=[59]) (S7 (x:=x) (n:=1) (s:=1) hB) (by simp; omega)
 have i1:=xi1 hx
 have hl:x.args.length=2:=by rw [hx]; rfl
 have hsl:uS 5 (.slice (x.args.map GE.cells) .no) none (some (.int .i64 1))=some (.slice [a.cells] .no):=by
  rw [Hm (l:=0) (u:=1) (fun y=>y.q8) rfl rfl (by omega) (by omega),hx]; rfl
 have hab:lT [.int .i64 0,.int .i64 0,.int .i64 0,.str [],.slice [] .nil] [(0,1),(1,1),(2,1),(3,1),(4,1)] [(0,.int .i64 3),(3,.str x.name),(4,.slice [a.cells] .no)]=some (.agg [.int .i64 3,.int .i64 0,.int .i64 0,.str x.name,.slice [a.cells] .no]):=rfl
 simp -implicitDefEqProofs at e1 e2 e3 e4
 simp -implicitDefEqProofs [Pk,Hl,hk,vS,pC,nF,hsl,hab,e1,e2,e3,e4,kT,trS hB,qS1,qS2,i1,hl,w01,WL,lZ,htr]
theorem aCl {x:GS}(hk:x.kind=2) (ht:sJ x.ty=true):SOk x:=by
 intro w B hB hb hn
 have t1:qI w.ln x=[118,97,114,32]++oV x.ty.label++x.name++[58,32]++wI x.ty++[59]:=by rw [qV,hk]; rfl
 have t2:qT x=0:=by rw [qU,hk]; rfl
 rw [t1] at hb
 rw [t2] at hn
 rw [t1,t2]
 have ll:(oV x.ty.label).length=4:=by unfold oV; split <;> rfl
 simp only [ab5,ac1,ac6,ll] at hb
 refine lA (CY _ _ _ _) ?_
 have htr:=fun w C=>oD (w:=w) (C:=C) hB
 have e1:=P1 (w:=w) (x:=[118,97,114,32]) (S7 (x:=x) (n:=1) (s:=1) hB) (by simp; omega)
 have e2:=c69 (w:=w.st [118,97,114,32] 0 0) x.ty.label (S7 (x:=x) (n:=1) (s:=1) hB) (by simp; omega)
 have e3:=P2 (w:=w.st ([118,97,114,32]++oV x.ty.label) 0 0) (x:=x.name) (y:=[58,32]) (sS3 (x:=x) (n:=1) (s:=1) (n':=2) (s':=1) hB) (by simp; omega)
 have e4:=c70 (w:=w.st ([118,97,114,32]++(oV x.ty.label++(x.name++[58,32]))) 0 0) x.ty ht (sS3 (x:=x) (n:=1) (s:=1) (n':=2) (s':=1) hB) (by simp; omega)
 have e5:=P1 (w:=w.st ([118,97,114,32]++(oV x.ty.label++(x.name++([58,32]++wI x.ty)))) 0 0) (x:=[59]) (sS4 (x:=x) (n:=1) (s:=1) (n':=2) (s':=1) (n2:=1) (s2:=1) hB) (by simp; omega)
 simp -implicitDefEqProofs at e1 e2 e3 e4 e5
 simp -implicitDefEqProofs [Pk,Hl,hk,vS,Hn,pC,nF,e1,e2,e3,e4,e5,kT,trS hB,qS1,qS2,lZ,htr]
end
section
open Go Hk
section
variable {w:WS}{B:List lG}{x:GS}
theorem aGR (hB:Still B) (w:WS) (D:List lG):l_ (B.length+2+3) (WH w (B++.cells x.cells::.front 1 1::D))=some (WH w (B++[.cells x.cells,.front 1 1])) :=
 trC (C:=[.cells x.cells,.front 1 1]) hB (Bi (mN oC)) rfl
theorem qS3 {h:kP}{o:Nat}:kM.mP (B.length+2+3) h (.ptr (B.length+3) o)=.ptr (B.length+3) o:=yO (by omega)
theorem qS4 {h:kP}{o:Nat}:kM.mP (B.length+2+3) h (.ptr 1 o)=.ptr 1 o:=yO (by omega)
end
theorem aGI {x:GS}{a:GE}(hk:x.kind=5) (hx:x.args=[a]) (ha:nT a=true) (hb1:BOk x.body) (hb2:BOk x.els):SOk x:=by
 intro w B hB hb hn
 have t1:qI w.ln x=[105,102,32]++mG a++oH w.ln (oF (w.ln+1) x.body)++(if x.has then [32,101,108,115,101]++oH w.ln (oF (w.ln+1) x.els) else []):=by rw [qV,hk,hx]; rfl
 have t2:qT x=if x.has then max (mB a) (max (qJ (nX x.body)+1) (qJ (nX x.els)+1)) else max (mB a) (qJ (nX x.body)+1):=by rw [qU,hk,hx]; rfl
 rw [t1] at hb
 rw [t2] at hn
 rw [t1,t2]
 have f1:=hb1
 have f2:=hb2
 unfold BOk at f1 f2
 simp only [ab5,ac1,ac6] at hb
 refine lA (CY _ _ _ _) ?_
 have htr:=fun w C=>oD (w:=w) (C:=C) hB
 have i0:=XR hx
 have e1:=P1 (w:=w) (x:=[105,102,32]) (S7 (x:=x) (n:=1) (s:=1) hB) (by simp; omega)
 cases hh:x.has with
 | false =>
  rw [hh] at hb hn
  simp only [al9,if_false,ac6] at hb hn ⊢
  have e2:=c37 a ha (w.st [105,102,32] 0 0) _ (S7 (x:=x) (n:=1) (s:=1) hB) (by simp; omega) (by simp; omega)
  have e3:=f1 (w.st ([105,102,32]++mG a) (mB a) 0) _ (S7 (x:=x) (n:=1) (s:=1) hB) (by simp; omega) (by simp; omega)
  simp -implicitDefEqProofs at e1 e2 e3
  simp -implicitDefEqProofs [Pk,Hl,hk,vS,Cb,pC,nF,hh,e1,e2,e3,kT,trS hB,aGR hB,qS1,qS2,qS3,qS4,i0,WL,lZ,htr]
 | true =>
  rw [hh] at hb hn
  simp only [if_true,ab5,ac1,ac6] at hb hn ⊢
  have e2:=c37 a ha (w.st [105,102,32] 0 0) _ (S7 (x:=x) (n:=1) (s:=1) hB) (by simp; omega) (by simp; omega)
  have e3:=f1 (w.st ([105,102,32]++mG a) (mB a) 0) _ (S7 (x:=x) (n:=1) (s:=1) hB) (by simp; omega) (by simp; omega)
  have e4:=P1 (w:=w.st ([105,102,32]++(mG a++oH w.ln (oF (w.ln+1) x.body))) (max (mB a) (qJ (nX x.body)+1)) 0) (x:=[32,101,108,115,101]) (sS3 (x:=x) (n:=1) (s:=1) (n':=1) (s':=1) hB) (by simp; omega)
  have e5:=f2 (w.st ([105,102,32]++(mG a++(oH w.ln (oF (w.ln+1) x.body)++[32,101,108,115,101]))) (max (mB a) (qJ (nX x.body)+1)) 0) _ (sS3 (x:=x) (n:=1) (s:=1) (n':=1) (s':=1) hB) (by simp; omega) (by simp; omega)
  simp -implicitDefEqProofs at e1 e2 e3 e4 e5
  simp -implicitDefEqProofs [Pk,Hl,hk,vS,Cb,pC,nF,hh,e1,e2,e3,e4,e5,kT,trS hB,aGR hB,qS1,qS2,qS3,qS4,i0,WL,lZ,htr]
theorem aCh {x:GS}{a:GE}(hk:x.kind=6) (hx:x.args=[a]) (ha:nT a=true) (hm:0≤x.r_∧x.r_≤4294967295) (hb1:BOk x.body):SOk x:=by
 intro w B hB hb hn
 have t1:qI w.ln x=[102,111,114,32]++x.name++[32,60,32]++mG a++[32,109,97,120,32]++vH x.r_++oH w.ln (oF (w.ln+1) x.body):=by rw [qV,hk,hx]; rfl
 have t2:qT x=max (mB a) (qJ (nX x.body)+1):=by rw [qU,hk,hx]; rfl
 rw [t1] at hb
 rw [t2] at hn
 rw [t1,t2]
 have f1:=hb1
 unfold BOk at f1
 simp only [ab5,ac1,ac6] at hb
 refine lA (CY _ _ _ _) ?_
 have htr:=fun w C=>oD (w:=w) (C:=C) hB
 have i0:=XR hx
 have e0:=c89 x.r_ hm.1 (by omega)
 have e1:=P3 (w:=w) (x:=[102,111,114,32]) (y:=x.name) (z:=[32,60,32]) (S7 (x:=x) (n:=3) (s:=1) hB) (by simp; omega)
 have e2:=c37 a ha (w.st ([102,111,114,32]++(x.name++[32,60,32])) 0 0) _ (S7 (x:=x) (n:=3) (s:=1) hB) (by simp; omega) (by simp; omega)
 have e3:=P2 (w:=w.st ([102,111,114,32]++(x.name++([32,60,32]++mG a))) (mB a) 0) (x:=[32,109,97,120,32]) (y:=vH x.r_) (sS3 (x:=x) (n:=3) (s:=1) (n':=2) (s':=1) hB) (by simp; omega)
 have e4:=f1 (w.st ([102,111,114,32]++(x.name++([32,60,32]++(mG a++([32,109,97,120,32]++vH x.r_))))) (mB a) 0) _ (sS3 (x:=x) (n:=3) (s:=1) (n':=2) (s':=1) hB) (by simp; omega) (by simp; omega)
 simp -implicitDefEqProofs at e1 e2 e3 e4
 simp -implicitDefEqProofs [Pk,Hl,hk,Hn,Cb,pC,nF,e0,e1,e2,e3,e4,kT,trS hB,qS1,qS2,i0,WL,lZ,htr]
theorem Re {k:Int}(h:1≤k∧k≤8):k=1∨k=2∨k=3∨k=4∨k=5∨k=6∨k=7∨k=8:=by omega
theorem Ck {k m:Int}{name:List UInt8}{ty:GT}{args:List GE}{nb ne:Nat}{has:Bool}(h:lR k m name ty args nb ne has=true):1≤k∧k≤8:=by
 unfold lR lM at h
 split at h
 ·cases h
 ·rename_i m hm
  split at hm
  ·cases hm
  ·omega
theorem sok:∀(n:Nat) (x:GS),x.size≤n→pX x=true→SOk x:=by
 intro n
 induction n with
 | zero=>intro x hn; cases x; simp [GS.size] at hn
 | succ n ih =>
  intro x hn hw
  have hnode:lR x.kind x.r_ x.name x.ty x.args x.body.length x.els.length x.has=true:=by
   cases x
   simp only [pX,ac5] at hw
   exact hw.1.1
  have hb1:BOk x.body:=c71 _ fun y hy=>by
   cases x
   simp only [pX,ac5,wD,ae8] at hw
   have h1:=GS.oO hy
   simp only [GS.size,GS.body] at hn h1 hy
   exact ih y (by omega) (hw.1.2 y hy)
  have hb2:BOk x.els:=c71 _ fun y hy=>by
   cases x
   simp only [pX,ac5,wD,ae8] at hw
   have h1:=GS.oO hy
   simp only [GS.size,GS.els] at hn h1 hy
   exact ih y (by omega) (hw.2 y hy)
  have hk:=Ck hnode
  unfold lR at hnode
  have one:x.args.length=1→nH x.args=true→∃a,x.args=[a]∧nT a=true:=by
   intro h1 h2
   obtain⟨a,e⟩:=CG h1
   rw [e] at h2
   simp only [nH,Bool.and_true] at h2
   exact⟨a,e,h2⟩
  rcases Re hk with h | h | h | h | h | h | h | h <;> simp only [h] at hnode <;>
   simp [lM,lB,vB] at hnode
  ·obtain⟨a,e,hwa⟩:=one (by simp_all) (by simp_all)
   exact aCi h e hwa
  ·exact aCl h (by simp_all)
  ·obtain⟨a,e,hwa⟩:=one (by simp_all) (by simp_all)
   exact aCk h e hwa
  ·obtain⟨a,b,e⟩:=w7 (l:=x.args) (by simp_all)
   have h2:nH x.args=true:=by simp_all
   have h3:lJ x.name true=true:=by simp_all
   rw [e] at h2
   simp only [nH,Bool.and_true,ac5] at h2
   exact akN h e h2.1 h2.2 h3
  ·obtain⟨a,e,hwa⟩:=one (by simp_all) (by simp_all)
   exact aGI h e hwa hb1 hb2
  ·obtain⟨a,e,hwa⟩:=one (by simp_all) (by simp_all)
   exact aCh h e hwa (by simp_all) hb1
  ·obtain⟨a,e,hwa⟩:=one (by simp_all) (by simp_all)
   exact atU h e hwa
  ·obtain⟨a,e,hwa⟩:=one (by simp_all) (by simp_all)
   exact aCj h e hwa
theorem aJs (l:List GS) (hw:nW l=true):BOk l:=c71 l fun x hx=>sok x.size x (Nat.le_refl _) (by rw [wD,ae8] at hw; exact hw x hx)
end
section
open Go Hk
section
variable (x:GP)
@[simp] theorem GP.q8:x.cells.length=6:=rfl
theorem GP.still (m:Nat) (h:kP):nI m h x.cells=some x.cells:=by simp [GP.cells]
theorem Oo {x:GP}{C:List lG}(h:Still C):Still (.cells x.cells::C):=fun m y=>by simp [x.still m y,h m y]
@[simp] theorem GP.g1 {h:1 < x.cells.length}:x.cells[1]'h=.str x.name:=rfl
@[simp] theorem GP.g4 {h:4 < x.cells.length}:x.cells[4]'h=.int .i64 x.ty.label:=rfl
@[simp] theorem GP.g5 {h:5 < x.cells.length}:x.cells[5]'h=.bool x.out:=rfl
@[simp] theorem GP.gty:(x.cells.drop 2).take 3=x.ty.cells:=rfl
theorem GP.T3:x.cells.all kM.mE=true:=by simp [GP.cells,kM.mE]
theorem apK {h:kP}:mA true 6 h (.pptr x.cells)=some (.agg x.cells):=by simp [mA]; rfl
end
section
variable (x:GF)
@[simp] theorem GF.q8:x.cells.length=8:=rfl
theorem GF.still (m:Nat) (h:kP):nI m h x.cells=some x.cells:=by simp [GF.cells]
theorem Fh {x:GF}{C:List lG}(h:Still C):Still (.cells x.cells::C):=fun m y=>by simp [x.still m y,h m y]
@[simp] theorem GF.g1 {h:1 < x.cells.length}:x.cells[1]'h=.str x.name:=rfl
@[simp] theorem GF.g2 {h:2 < x.cells.length}:x.cells[2]'h=.slice (x.params.map GP.cells) .no:=rfl
@[simp] theorem GF.g3 {h:3 < x.cells.length}:x.cells[3]'h=.bool x.has:=rfl
@[simp] theorem GF.g6 {h:6 < x.cells.length}:x.cells[6]'h=.int .i64 x.result.label:=rfl
@[simp] theorem GF.g7 {h:7 < x.cells.length}:x.cells[7]'h=.slice (x.body.map GS.cells) .no:=rfl
@[simp] theorem GF.gty:(x.cells.drop 4).take 3=x.result.cells:=rfl
@[simp] theorem GF.XG:x.cells.map kM.uG=x.cells:=rfl
theorem GF.tok {k:Nat}:lF k x.cells=(x.cells,[]):=uN (by simp [GF.cells,kM.isNil])
theorem GF.T3:x.cells.all kM.mE=true:=by simp [GF.cells,kM.mE]
end
section
variable {w:WS}{B C:List lG}{cs:List kM}
theorem auW {x:GF}:lL 8 (WH w B) (.agg x.cells)=some (.ptr (B.length+3) 0,WH w (B++[.cells x.cells])):=by
 simp [lL,x.tok,x.T3,nF,pC]
theorem Q9:lL 6 (WH w B) (.agg [.int .i64 0,.str [],.int .i64 0,.int .i64 0,.int .i64 0,.bool false]) =
  some (.ptr (B.length+3) 0,WH w (B++[.cells [.int .i64 0,.str [],.int .i64 0,.int .i64 0,.int .i64 0,.bool false]])):=by
 simp [lL,lF,nF,pC]
theorem stP {x:GP}(hc:cs.length=6):pU 6 (WH w (B++.cells cs::C)) (.ptr (B.length+3) 0) (.agg x.cells)=some (WH w (B++.cells x.cells::C)):=by
 have e:=Ws (w:=w) (B:=B) (C:=C) (cs:=cs)
 have hk:∀os,pV (WH w (B++.cells cs::C)) os x.cells=x.cells:=fun os=>rA (by simp [GP.cells,kM.isNil])
 simp only [pU,BO,e,DX,mY,ad9,Fv,GP.q8,hc]
 rw [if_pos ⟨trivial,by omega,x.T3⟩,hk]
 have:putCells cs 0 x.cells=x.cells:=by simp [putCells,hc]
 rw [this,aj7]
end
def AT (l:List GP) (i:Nat):List UInt8:=xA ((l.take i).map qK)
theorem Jx:∀(l:List (List UInt8)) (p:List UInt8),xA (l++[p])=xA l++(if l=[] then [] else [44,32])++p
 | [],p=>by simp [xA]
 | [q],p=>by simp [xA]
 | q::r::l,p=>by
  have:=Jx (r::l) p
  simp only [ae7,xA] at this ⊢
  rw [this]
  simp
theorem Qy {l:List GP}{i:Nat}{x:GP}(h:l[i]?=some x):AT l (i+1)=AT l i++(if i=0 then [] else [44,32])++qK x:=by
 have hl:i < l.length:=(ab0.1 h).1
 unfold AT
 rw [tK h,am3,ai3,al1,Jx]
 congr 2
 have:((l.take i).map qK=[])=(i=0):=by
  rw [List.map_eq_nil_iff,List.take_eq_nil_iff]
  apply propext
  constructor
  ·rintro(h | h)
   ·exact h
   ·subst h; simp at hl
  ·exact .inl
 simp only [this]
theorem Va (a:List (List UInt8)):∀(b:List (List UInt8)),(xA a).length≤(xA (a++b)).length
 | []=>by simp
 | p::b=>by
  have h1:=Va (a++[p]) b
  rw [ag1] at h1
  rw [Jx] at h1
  simp only [ab5,ae7,ah4] at h1
  omega
theorem G4:∀(l:List (List UInt8)),l.length≤(xA l).length+1
 | []=>by simp
 | [p]=>by simp
 | p::q::r=>by
  have:=G4 (q::r)
  simp only [xA,ab5,ac1] at this ⊢
  omega
theorem Zo (l:List GP) (i:Nat):(AT l i).length≤(xA (l.map qK)).length:=by
 have:=Va ((l.take i).map qK) ((l.drop i).map qK)
 rw [←am3,List.take_append_drop] at this
 exact this
theorem tF {n:Int}:(oV n).length=4:=by unfold oV; split <;> rfl
theorem ah6 {w:WS}{B:List lG}(l:List GP) (hok:∀x∈l,sJ x.ty=true) (p:Nat) (hp:p < B.length+3) (hB:Still B) (W:List UInt8) (hl:l.length≤4611686018427387904)
  (hb:w.bs.length+(W.length+(xA (l.map qK)).length)≤1099511627776):∀i,i≤l.length →
  mJ (GK KK (B.length+3)) ([.ptr 1 0,.ptr p 0,.slice (l.map GP.cells) .no,.int .i64 (l.length:Int),.int .i64 (i:Int)],WH (w.st (W++AT l i) 0 0) B) =
   some (.exit 0,[.ptr 1 0,.ptr p 0,.slice (l.map GP.cells) .no,.int .i64 (l.length:Int),.int .i64 (l.length:Int)],WH (w.st (W++xA (l.map qK)) 0 0) B):=by
 refine tM (fun i:Nat=>([.ptr 1 0,.ptr p 0,.slice (l.map GP.cells) .no,.int .i64 (l.length:Int),.int .i64 (i:Int)],WH (w.st (W++AT l i) 0 0) B)) (fun i=>i≤l.length) (fun i=>l.length - i) _ fun i hi=>?_
 have htr:=fun w C=>oD (w:=w) (C:=C) hB
 have q0:∀h o,kM.mP (B.length+3) h (.ptr p o)=.ptr p o:=fun h o=>yO hp
 by_cases h:i < l.length
 ·left
  refine⟨i+1,?_,h,by omega,rfl⟩
  obtain⟨x,hx⟩:∃x,l[i]?=some x:=⟨l[i],ab3 h⟩
  have hxe:=hok x (ad8 hx)
  have hxi:∀hh:i < l.length,l[i]'hh=x:=fun hh=>by rw [ab3 hh] at hx; exact Option.some.inj hx
  have t1:=Qy hx
  have t3:=Zo l (i+1)
  obtain⟨pre,hpre⟩:∃pre,pre=(if i=0 then [] else [44,32]:List UInt8):=⟨_,rfl⟩
  obtain⟨ot,hot⟩:∃ot,ot=(if x.out then [111,117,116,32] else []:List UInt8):=⟨_,rfl⟩
  have tp:AT l (i+1)=AT l i++(pre++(ot++(oV x.ty.label++(x.name++([58,32]++wI x.ty))))):=by rw [t1,hpre,hot]; simp [qK]
  rw [tp] at t3
  simp only [ab5,ac1,ac6,tF] at t3
  have w1:=rU (a:=i) (by omega)
  have s1:Still [lG.cells x.cells]:=Oo oC
  have s2:Still (B++[.cells x.cells]):=o9 hB s1
  have s3:Still (B++[.cells x.cells,.front 1 1]):=o9 hB (Oo (mN oC))
  have s4:Still (B++[.cells x.cells,.front 2 1]):=o9 hB (Oo (mN oC))
  have htr2:∀w D,l_ (B.length+1+3) (WH w (B++.cells x.cells::D))=some (WH w (B++[.cells x.cells])):=fun w D=>trC (C:=[.cells x.cells]) hB s1 rfl
  have q1:∀h o,kM.mP (B.length+1+3) h (.ptr (B.length+3) o)=.ptr (B.length+3) o:=fun h o=>yO (by omega)
  have q2:∀h o,kM.mP (B.length+1+3) h (.ptr 1 o)=.ptr 1 o:=fun h o=>yO (by omega)
  have q3:∀h o,kM.mP (B.length+1+3) h (.ptr p o)=.ptr p o:=fun h o=>yO (by omega)
  have hst:=fun w C cs (hc:aa1 cs=6)=>stP (w:=w) (B:=B) (C:=C) (x:=x) hc
  have e1:=P1 (w:=w.st (W++AT l i) 0 0) (x:=[44,32]) s3
  have e2:=P1 (w:=w.st (W++(AT l i++pre)) 0 0) (x:=[111,117,116,32]) s3
  have e3:=c69 (w:=w.st (W++(AT l i++(pre++ot))) 0 0) x.ty.label s2 (by simp; omega)
  have e4:=P2 (w:=w.st (W++(AT l i++(pre++(ot++oV x.ty.label)))) 0 0) (x:=x.name) (y:=[58,32]) s4 (by simp [tF]; omega)
  have e5:=c70 (w:=w.st (W++(AT l i++(pre++(ot++(oV x.ty.label++(x.name++[58,32])))))) 0 0) x.ty hxe s4 (by simp [tF]; omega)
  by_cases h0:i=0
  ·have hp:¬0 < i:=by omega
   rw [if_pos h0] at hpre
   subst hpre
   cases ho:x.out with
   | false =>
    rw [ho] at hot
    simp only [al9,if_false] at hot
    subst hot
    simp -implicitDefEqProofs at e3 e4 e5
    simp -implicitDefEqProofs [GK,h,hxi,apK,Q9,hst,kT,htr,htr2,nF,vS,Hn,pC,hp,ho,e3,e4,e5,w1,y7,q0,q1,q2,q3,-af8]
    exact congrArg (fun w=>WH w B) (WS.Bw (by rw [tp]; simp) rfl rfl)
   | true =>
    rw [ho] at hot
    simp only [if_true] at hot
    subst hot
    have e2:=e2 (by simp; simp at t3; omega)
    simp -implicitDefEqProofs at e2 e3 e4 e5
    simp -implicitDefEqProofs [GK,h,hxi,apK,Q9,hst,kT,htr,htr2,nF,vS,Hn,pC,hp,ho,e2,e3,e4,e5,w1,y7,q0,q1,q2,q3,-af8]
    exact congrArg (fun w=>WH w B) (WS.Bw (by rw [tp]; simp) rfl rfl)
  ·have hp:0 < i:=by omega
   rw [if_neg h0] at hpre
   subst hpre
   have e1:=e1 (by simp; simp at t3; omega)
   cases ho:x.out with
   | false =>
    rw [ho] at hot
    simp only [al9,if_false] at hot
    subst hot
    simp -implicitDefEqProofs at e1 e3 e4 e5
    simp -implicitDefEqProofs [GK,h,hxi,apK,Q9,hst,kT,htr,htr2,nF,vS,Hn,pC,hp,ho,e1,e3,e4,e5,w1,y7,q0,q1,q2,q3,-af8]
    exact congrArg (fun w=>WH w B) (WS.Bw (by rw [tp]; simp) rfl rfl)
   | true =>
    rw [ho] at hot
    simp only [if_true] at hot
    subst hot
    have e2:=e2 (by simp; simp at t3; omega)
    simp -implicitDefEqProofs at e1 e2 e3 e4 e5
    simp -implicitDefEqProofs [GK,h,hxi,apK,Q9,hst,kT,htr,htr2,nF,vS,Hn,pC,hp,ho,e1,e2,e3,e4,e5,w1,y7,q0,q1,q2,q3,-af8]
    exact congrArg (fun w=>WH w B) (WS.Bw (by rw [tp]; simp) rfl rfl)
 ·right
  have:i=l.length:=by omega
  subst this
  constructor
  ·simp -implicitDefEqProofs [GK,kT,tA hB,y7,q0,AT]
  ·simp
theorem c32 {w:WS}{B:List lG}(f:GF) (hw:o0 f=true) (h0:w.ln=0) (hB:Still B) (hb:w.bs.length+(vE f).length≤1099511627776) (hn:w.now+vA f≤1000000000000000) :
  KK 32 [.ptr 1 0,.agg f.cells] (WH w B)=some (.ret (.tuple []),WH (w.st (vE f) (vA f) 0) B):=by
 simp only [o0,ac5,ae8] at hw
 obtain⟨⟨⟨hw1,hw2⟩,hw3⟩,hw4⟩:=hw
 have hpt:∀x∈f.params,sJ x.ty=true:=fun x hx=>by
  have:=hw3 x hx
  simp only [uU,ac5] at this
  exact this.2
 obtain⟨res,hres⟩:∃res,res=(if f.has then [58,32]++oV f.result.label++wI f.result else []:List UInt8):=⟨_,rfl⟩
 have tf:vE f=[102,110,32]++(f.name++([40]++(xA (f.params.map qK)++([41]++(res++(oH 0 (oF 1 f.body)++[10])))))):=by
  rw [hres]; simp [vE]
 have nf:vA f=qJ (nX f.body)+1:=rfl
 rw [tf] at hb ⊢
 rw [nf] at hn ⊢
 simp only [ab5,ac1,ac6] at hb
 refine lA (aAG _ _ _ _) ?_
 have htr:=fun w C=>oD (w:=w) (C:=C) hB
 have s1:Still (B++[.cells f.cells,.front 3 1]):=o9 hB (Fh (mN oC))
 have s2:Still (B++[.cells f.cells,.front 3 1,.front 1 1]):=o9 hB (Fh (mN (mN oC)))
 have s3:Still (B++[.cells f.cells,.front 3 1,.front 1 1,.front 1 1]):=o9 hB (Fh (mN (mN (mN oC))))
 have hl:f.params.length≤4611686018427387904:=by
  have:=G4 (f.params.map qK)
  rw [aj1] at this
  omega
 have e1:=P3 (w:=w) (x:=[102,110,32]) (y:=f.name) (z:=[40]) s1 (by simp; omega)
 have e2:=ah6 (w:=w) f.params hpt (B.length+3) (by simp) s1 ([102,110,32]++(f.name++[40])) hl (by simp; omega) 0 (ah8 _)
 have p0:AT f.params 0=[]:=rfl
 have e3:=P1 (w:=w.st ([102,110,32]++(f.name++([40]++xA (f.params.map qK)))) 0 0) (x:=[41]) s2 (by simp; omega)
 have hblk:=aJs f.body hw2
 unfold BOk at hblk
 have e7:=hblk (w.st ([102,110,32]++(f.name++([40]++(xA (f.params.map qK)++([41]++res))))) 0 0) _ s2 (by simp [h0]; omega) (by simp; omega)
 have e8:=P1 (w:=w.st ([102,110,32]++(f.name++([40]++(xA (f.params.map qK)++([41]++(res++oH 0 (oF 1 f.body))))))) (qJ (nX f.body)+1) 0) (x:=[10]) s3 (by simp; omega)
 have htr3:∀w D,l_ (B.length+3+3) (WH w (B++.cells f.cells::.front 3 1::.front 1 1::D))=some (WH w (B++[.cells f.cells,.front 3 1,.front 1 1])) :=
  fun w D=>trC (C:=[.cells f.cells,.front 3 1,.front 1 1]) hB (Fh (mN (mN oC))) rfl
 have q1:∀h o,kM.mP (B.length+3+3) h (.ptr (B.length+3) o)=.ptr (B.length+3) o:=fun h o=>yO (by omega)
 have q2:∀h o,kM.mP (B.length+3+3) h (.ptr 1 o)=.ptr 1 o:=fun h o=>yO (by omega)
 cases hh:f.has with
 | false =>
  rw [hh] at hres
  simp only [al9,if_false] at hres
  subst hres
  simp -implicitDefEqProofs [p0,h0] at e1 e2 e3 e7 e8
  simp -implicitDefEqProofs [m32,auW,nF,vS,Cb,pC,hh,e1,e2,e3,e7,e8,kT,htr,htr3,q1,q2,lZ]
 | true =>
  rw [hh] at hres hw4
  simp only [if_true,ac5] at hres hw4
  subst hres
  simp only [ab5,ac1,ac6,tF] at hb
  have s4:Still (B++[.cells f.cells,.front 3 1,.front 1 1,.front 1 1]):=s3
  have e4:=P1 (w:=w.st ([102,110,32]++(f.name++([40]++(xA (f.params.map qK)++[41])))) 0 0) (x:=[58,32]) s4 (by simp; omega)
  have e5:=c69 (w:=w.st ([102,110,32]++(f.name++([40]++(xA (f.params.map qK)++([41]++[58,32]))))) 0 0) f.result.label s4 (by simp; omega)
  have e6:=c70 (w:=w.st ([102,110,32]++(f.name++([40]++(xA (f.params.map qK)++([41]++([58,32]++oV f.result.label)))))) 0 0) f.result hw4.1.1 s4 (by simp [tF]; omega)
  simp -implicitDefEqProofs [p0,h0] at e1 e2 e3 e4 e5 e6 e7 e8
  simp -implicitDefEqProofs [m32,auW,nF,vS,Cb,pC,hh,e1,e2,e3,e4,e5,e6,e7,e8,kT,htr,htr3,q1,q2,lZ]
end
section
open Go Hk
theorem NZ:∀(bs:List UInt8),Au (tW bs)=some bs
 | []=>rfl
 | b::r=>by
  have h1:=NZ r
  have hb:(0:Int)≤(b.toNat:Int)∧(b.toNat:Int) < 256:=⟨by omega,by have:=b.toNat_lt; omega⟩
  have h2:tW (b::r)=[kM.int .u8 (b.toNat:Int)]::tW r:=rfl
  rw [h2]
  unfold Au
  rw [if_pos hb,h1]
  simp
theorem afK {e fid:Nat}{h:kP}{rows:List (List kM)}:afJ e h (.slice rows (.own fid))=(match h[fid]? with
  | some (.front n sz t)=>bif rows.length == n then(match n with
   | 0=>bif sz == 0 then some (.ret (.str []),h) else none
   | _+1=>bif sz == 1 && t == e+1 then(match Au rows with
    | some bs=>some (.ret (.str bs),h.set fid .gone)
    | none=>none) else none) else none
  | _=>none):=by cases rows <;> rfl
def WHg (w:WS) (B:List lG):kP:=match w.bs with
 | []=>WH w B
 | _::_=>.cells w.a::.tcells 86 (Dl w w.bs)::.gone::B
theorem c72 {w:WS}{B:List lG}:KK 72 [.ptr 1 0] (WH w B)=some (.ret (.str w.bs),WHg w B):=by
 refine lA (m:=Er mK.bld (.bldString 5) [.ptr 1 0] (WH w B)) rfl ?_
 obtain⟨a,ok,u,bs,now,ov,ln⟩:=w
 have h0:Er mK.bld (.bldString 5) [.ptr 1 0] (WH ⟨a,ok,u,bs,now,ov,ln⟩ B)=afJ 5 (WH ⟨a,ok,u,bs,now,ov,ln⟩ B) (.slice (tW bs) (.own 2)):=rfl
 rw [h0]
 cases bs with
 | nil=>rfl
 | cons b r =>
  have h1:(tW (b::r)).length=r.length+1:=by rw [AW]; rfl
  have h3:(WH ⟨a,ok,u,b::r,now,ov,ln⟩ B)[2]?=some (.front (r.length+1) 1 6):=rfl
  rw [afK,h3]
  simp [h1,NZ,WHg,WH,Mg]
theorem Z_ {w:WS}{B:List lG}(h:Still B):l_ (B.length+3) (WHg w B)=some (WHg w B):=by
 unfold WHg
 split
 ·exact tA h
 ·rename_i b r hbs
  have h0:=PF (w:=w) (cs:=w.bs) (fs:=w.bs) h (m:=B.length+3) (x:=.cells w.a::.tcells 86 (Dl w w.bs)::.gone::B) (by omega)
  simp only [Mg,oM,Option.bind_eq_some_iff,Option.map_eq_some_iff] at h0
  obtain⟨b1,e1,r1,⟨b2,e2,r2,⟨b3,e3,r3,e4,e5⟩,e6⟩,e7⟩:=h0
  cases e5; cases e6; cases e7
  have hg:∀m x,pF m x .gone=some .gone:=fun _ _=>rfl
  have ht:(lG.cells w.a::.tcells 86 (Dl w w.bs)::.gone::B).take (B.length+3)=.cells w.a::.tcells 86 (Dl w w.bs)::.gone::B:=by simp
  simp only [l_,ht,oM,e1,e2,hg,e4,ad9,Option.map_some]
theorem c33 {w:WS}{B:List lG}(hB:Still B):∃H,KK 33 [.ptr 1 0] (WH w B)=some (.ret (.tuple [.str (if w.over then [] else w.bs),.int .i64 (if w.over then 11 else 0)]),H):=by
 cases ho:w.over with
 | true =>
  refine⟨WH w B,lA (ah7 _ _ _) ?_⟩
  simp -implicitDefEqProofs [m33,ho,lZ,nF,tA hB]
 | false =>
  refine⟨WHg w B,lA (ah7 _ _ _) ?_⟩
  simp -implicitDefEqProofs [m33,ho,c72,lZ,nF,Z_ hB]
def WS.new (a:List kM) (ok:∀m h,nI m h a=some a):WS:=⟨a,ok,false,[],0,false,0⟩
def w0:kM:=.agg [.nilptr,.slice [] .nil,.int .i64 0,.bool false,.int .i64 0]
theorem asB:lT [.nilptr,.slice [] .nil,.int .i64 0,.bool false,.int .i64 0] [(0,2),(2,2),(4,1)] []=some w0:=rfl
theorem asC (a:List kM) (ok:∀m h,nI m h a=some a):Kg 86 5 [.cells a] w0=some (.ptr 1 0,WH (WS.new a ok) []):=rfl
@[simp] theorem aKr (a:List kM) (ok:∀m h,nI m h a=some a):(WS.new a ok).bs=[]:=rfl
@[simp] theorem aHZ (a:List kM) (ok:∀m h,nI m h a=some a):(WS.new a ok).now=0:=rfl
@[simp] theorem aKs (a:List kM) (ok:∀m h,nI m h a=some a):(WS.new a ok).ln=0:=rfl
theorem UN (a:List kM) (ok:∀m h,nI m h a=some a) (x:List UInt8) (n k:Nat):((WS.new a ok).st x n k).over=decide (64 < n):=by
 simp only [WS.st,WS.new,Bool.false_or,al6]
 exact decide_eq_decide.2 (by omega)
end
section
open Go Hk
theorem c65 (s:List UInt8) (h:kP):KK 65 [.str s] h=some (.ret (.bool (qR s)),h):=by
 refine lD rfl rfl (lA (aAY _ _ _) ?_)
 have hc:=c49 s
 obtain⟨⟨l,e,p⟩,hr⟩:∃r,oI s=r:=⟨_,rfl⟩
 rw [hr] at hc
 by_cases he:e=0
 ·subst he
  match l with
  | []=>simp -implicitDefEqProofs [m65,hc,lL,lF,putCells,kN,qR,hr]
  | [t]=>simp -implicitDefEqProofs [m65,hc,lL,lF,putCells,kN,qR,hr]
  | [t,u] =>
   have i0:kZ 4 (.slice [t.cells,u.cells] .no) (.int .i64 0)=some (.pptr t.cells):=by rw [nZ]; simp; rfl
   have tl:t.cells.length=4:=rfl
   have g0:∀h:0 < t.cells.length,t.cells[0]'h=.int .i64 (t.kind:Int):=fun _=>rfl
   have g3:∀h:3 < t.cells.length,t.cells[3]'h=.str t.text:=fun _=>rfl
   have hk:((t.kind:Int)=1)↔t.kind=1:=by omega
   by_cases h1:t.kind=1
   ·by_cases h2:t.text=s
    ·simp -implicitDefEqProofs [m65,hc,lL,lF,putCells,kN,qR,hr,i0,tl,g0,g3,h1,h2]
    ·simp -implicitDefEqProofs [m65,hc,lL,lF,putCells,kN,qR,hr,i0,tl,g0,g3,h1,h2]
   ·simp -implicitDefEqProofs [m65,hc,lL,lF,putCells,kN,qR,hr,i0,tl,g0,g3,hk,h1]
  | t::u::v::r =>
   have:¬((r.length:Int)+1+1+1=2):=by omega
   simp -implicitDefEqProofs [m65,hc,lL,lF,putCells,kN,qR,hr,this]
 ·have he':¬((e:Int)=0):=by omega
  have hf:qR s=false:=by
   unfold qR
   rw [hr]
   split
   ·rename_i h; simp only [Prod.mk.injEq] at h; omega
   ·rfl
  rw [hf]
  simp -implicitDefEqProofs [m65,hc,lL,lF,putCells,kN,he]
theorem c79 (s:List UInt8) (b:Bool) (h:kP):KK 79 [.str s,.bool b] h=some (.ret (.bool (lJ s b)),h):=by
 refine lD rfl rfl (lA (aBc _ _ _ _) ?_)
 cases b
 ·simp -implicitDefEqProofs [m79,lJ,kN]
  by_cases hs:s=[] <;> simp [hs]
 ·simp -implicitDefEqProofs [m79,lJ,kN,c65]
theorem c80 (n:Int) (b:Bool) (h:kP):KK 80 [.int .i64 n,.bool b] h=some (.ret (.bool (lB n b)),h):=by
 refine lD rfl rfl (lA (aBd _ _ _ _) ?_)
 by_cases h0:n=0
 ·subst h0; cases b <;> simp -implicitDefEqProofs [m80,lB,zB,kN]
 ·cases b
  ·simp -implicitDefEqProofs [m80,lB,kN,h0]
  ·by_cases h1:0 < n
   ·by_cases h2:n≤4294967295
    ·have h3:0≤n:=by omega
     simp -implicitDefEqProofs [m80,lB,zB,kN,h0,h1,h2,h3]
    ·simp -implicitDefEqProofs [m80,lB,zB,kN,h0,h1,h2]
   ·have h3:¬0≤n:=by omega
    simp -implicitDefEqProofs [m80,lB,zB,kN,h0,h1,h3]
theorem c78 (k:Int) (h:kP):KK 78 [.int .i64 k] h=some (.ret (.tuple [.int .i64 ((tS k).getD 0),.bool (tS k).isSome]),h):=by
 refine lD rfl rfl (lA (aBb _ _ _) ?_)
 by_cases hk:1≤k∧k≤26
 ·rcases Ae hk with rfl | rfl | rfl | rfl | rfl | rfl | rfl | rfl | rfl | rfl | rfl | rfl | rfl | rfl | rfl | rfl | rfl | rfl | rfl | rfl | rfl | rfl | rfl | rfl | rfl | rfl <;>
   simp -implicitDefEqProofs [m78,kN,tS]
 ·have h0:tS k=none:=by unfold tS; rw [if_pos (by omega)]
  rw [h0]
  have n1:¬k=1:=by omega
  have n2:¬k=2:=by omega
  have n3:¬k=3:=by omega
  have n4:¬k=4:=by omega
  have n5:¬k=25:=by omega
  have n6:¬k=26:=by omega
  by_cases hl:k < 1
  ·have l1:¬5≤k:=by omega
   have l2:¬14≤k:=by omega
   have l3:¬8≤k:=by omega
   have l4:¬17≤k:=by omega
   simp -implicitDefEqProofs [m78,kN,n1,n2,n3,n4,n5,n6,l1,l2,l3,l4]
  ·have l1:5≤k:=by omega
   have l2:14≤k:=by omega
   have l3:8≤k:=by omega
   have l4:17≤k:=by omega
   have l5:¬k≤7:=by omega
   have l6:¬k≤16:=by omega
   have l7:¬k≤13:=by omega
   have l8:¬k≤24:=by omega
   simp -implicitDefEqProofs [m78,kN,n1,n2,n3,n4,n5,n6,l1,l2,l3,l4,l5,l6,l7,l8]
theorem GE.shut (x:GE):([kM.agg x.cells].all (kM.nP 0))=true:=by cases x; simp [GE.cells,kM.nP,kM.pE,qA]
theorem lY {x:GE}{h:kP}:lL 5 h (.agg x.cells)=some (.ptr h.length 0,h++[.cells x.cells]):=by
 simp [lL,x.tok,x.T3]
def VS (x:GE):Prop:=∀h,KK 36 [.agg x.cells] h=some (.ret (.bool (nT x)),h)
theorem Ao {α:Type}{F:List kM×kP→Option R}(l:List α) (p:α→Bool) (enc:Nat→List kM×kP) (bad:Nat→R) (fin:R)
  (hok:∀i x,l[i]?=some x→p x=true→F (enc i)=some (.normal,enc (i+1))) (hbad:∀i x,l[i]?=some x→p x=false→F (enc i)=some (bad i)) (hb:∀i,(bad i).1≠.normal)
  (hend:F (enc l.length)=some fin) (hf:fin.1≠.normal):(l.all p=true→mJ F (enc 0)=some fin)∧(l.all p=false→∃i,mJ F (enc 0)=some (bad i)):=by
 have stop:∀(s:List kM×kP) (r:R),F s=some r→r.1≠.normal→mJ F s=some r:=by
  intro s r h1 h2
  rw [l9,h1]
  obtain⟨e,v⟩:=r
  cases e <;> first | exact absurd rfl h2 | rfl
 have key:∀n i,l.length - i=n→i≤l.length→((l.drop i).all p=true→mJ F (enc i)=some fin)∧((l.drop i).all p=false→∃j,mJ F (enc i)=some (bad j)):=by
  intro n
  induction n with
  | zero =>
   intro i h1 h2
   have:i=l.length:=by omega
   subst this
   refine⟨fun _=>stop _ _ hend hf,fun h=>by simp at h⟩
  | succ n ih =>
   intro i h1 h2
   have hi:i < l.length:=by omega
   have hg:=ab3 hi
   have hd:l.drop i=l[i]::l.drop (i+1):=List.drop_eq_getElem_cons hi
   obtain⟨a,b⟩:=ih (i+1) (by omega) (by omega)
   rw [hd]
   simp only [List.all_cons,ac5,Bool.and_eq_false_iff]
   cases hp:p l[i] with
   | true =>
    have e:=hok i _ hg hp
    have e2:mJ F (enc i)=mJ F (enc (i+1)):=by rw [l9,e]; rfl
    rw [e2]
    exact⟨fun h=>a h.2,fun h=>b (h.resolve_left (by simp))⟩
   | false =>
    refine⟨fun h=>by simp at h,fun _=>⟨i,stop _ _ (hbad i _ hg hp) (hb i)⟩⟩
 have:=key l.length 0 (by omega) (ah8 _)
 simpa using this
theorem afB {h:kP}:lL 5 h (.agg [.int .i64 0,.int .i64 0,.int .i64 0,.str [],.slice [] .nil]) =
  some (.ptr h.length 0,h++[.cells [.int .i64 0,.int .i64 0,.int .i64 0,.str [],.slice [] (.own (h.length+1))],.front 0 0]):=by
 simp [lL,lF]
theorem YB {x:GE}{h:kP}{os:List kM}:pV h os x.cells=x.cells:=rA (by cases x; simp [GE.cells,kM.isNil])
theorem Ud {l:List GE}{i:Nat}{x:GE}(h:l[i]?=some x):∀hh:i < l.length,l[i]'hh=x:=fun hh=>by rw [ab3 hh] at h; exact Option.some.inj h
theorem aFQ {x:GE}{cs:List kM}(h:cs.length=5):putCells cs 0 x.cells=x.cells:=by simp [putCells,h]
theorem agN {x:GE}:(∀c,c∈x.cells→c.mE=true)=True:=eq_true (by have:=x.T3; rwa [ae8] at this)
theorem aiO (l:List GE) (hok:∀x∈l,VS x) (hl:l.length≤4611686018427387904) :
  (l.all nT=true→mJ (GO KK 0) ([.bool false,.slice (l.map GE.cells) .no,.int .i64 (l.length:Int),.int .i64 0],[]) =
   some (.exit 0,[.bool false,.slice (l.map GE.cells) .no,.int .i64 (l.length:Int),.int .i64 (l.length:Int)],[])) ∧
  (l.all nT=false→∃i:Nat,mJ (GO KK 0) ([.bool false,.slice (l.map GE.cells) .no,.int .i64 (l.length:Int),.int .i64 0],[]) =
   some (.ret,[.bool false,.slice (l.map GE.cells) .no,.int .i64 (l.length:Int),.int .i64 (i:Int)],[])):=by
 have main:=Ao (F:=GO KK 0) l nT (fun i=>([.bool false,.slice (l.map GE.cells) .no,.int .i64 (l.length:Int),.int .i64 (i:Int)],[]))
  (fun i=>(.ret,[.bool false,.slice (l.map GE.cells) .no,.int .i64 (l.length:Int),.int .i64 (i:Int)],[])) (.exit 0,[.bool false,.slice (l.map GE.cells) .no,.int .i64 (l.length:Int),.int .i64 (l.length:Int)],[]) ?_ ?_ (fun _=>by simp) ?_ (by simp)
 ·exact main
 ·intro i x hx hw
  have h:i < l.length:=(ab0.1 hx).1
  have w1:=rU (a:=i) (by omega)
  have hc:=hok x (ad8 hx)
  unfold VS at hc
  simp -implicitDefEqProofs [GO,h,Ud hx,afB,YB,aFQ,agN,hc,hw,w1,nS,-af8]
 ·intro i x hx hw
  have h:i < l.length:=(ab0.1 hx).1
  have hc:=hok x (ad8 hx)
  unfold VS at hc
  simp -implicitDefEqProofs [GO,h,Ud hx,afB,YB,aFQ,agN,hc,hw,nS]
 ·simp -implicitDefEqProofs [GO,nS]
theorem c81 (l:List GE) (hok:∀x∈l,VS x) (hl:l.length≤4611686018427387904) (h:kP):KK 81 [.slice (l.map GE.cells) .no] h=some (.ret (.bool (nH l)),h):=by
 refine lD rfl (by simp [kM.nP,kM.pE,qA]) (lA (aBe _ _ _) ?_)
 obtain⟨h1,h2⟩:=aiO l hok hl
 rw [wC]
 cases hw:l.all nT with
 | true=>simp -implicitDefEqProofs [m81,h1 hw,kN]
 | false =>
  obtain⟨i,hi⟩:=h2 hw
  simp -implicitDefEqProofs [m81,hi,kN]
set_option maxHeartbeats 4000000 in
theorem afP (x:GE) (hok:∀a∈x.args,VS a) (hl:x.args.length≤4611686018427387904):VS x:=by
 intro h
 refine lD rfl x.shut (lA (aAJ _ _ _) ?_)
 have e1:=c78 x.kind
 have e2:=c79 x.name
 have e3:=c80 x.num
 have e4:=c81 x.args hok hl
 have hw:nT x=(rL x.kind x.num x.name x.args.length && nH x.args):=by cases x; rfl
 rw [hw]
 unfold rL
 cases ha:tS x.kind with
 | none =>
  rw [ha] at e1
  simp -implicitDefEqProofs [CH,lY,e1,kN]
 | some m =>
  rw [ha] at e1
  have hk:1≤x.kind∧x.kind≤26:=by
   unfold tS at ha
   split at ha
   ·cases ha
   ·omega
  have hm:m=-1∧x.kind=4∨0≤m∧¬x.kind=4:=by
   clear e1 e2 e3 e4 hw
   generalize x.kind=k at ha hk
   rcases Ae hk with rfl | rfl | rfl | rfl | rfl | rfl | rfl | rfl | rfl | rfl | rfl | rfl | rfl | rfl | rfl | rfl | rfl | rfl | rfl | rfl | rfl | rfl | rfl | rfl | rfl | rfl <;>
    simp [tS] at ha <;> omega
  simp only [Option.getD_some,Option.isSome_some] at e1
  show _=some (nO.ret (kM.bool (((m == -1 || m == (x.args.length:Int)) && lJ x.name (x.kind == 2 || x.kind == 3 || x.kind == 4) && lB x.num (x.kind == 1 || x.kind == 14 || x.kind == 15 || x.kind == 16)) && nH x.args)),[])
  by_cases har:(m == -1 || m == (x.args.length:Int))=true
  ·rw [har,Bool.true_and]
   have hc:¬0≤m∨(0≤m∧((x.args.length:Int)=m)):=by
    simp only [Bool.or_eq_true,beq_iff_eq] at har
    omega
   have cls:x.kind=1∨x.kind=2∨x.kind=3∨x.kind=4∨(14≤x.kind∧x.kind≤16)∨(5≤x.kind∧x.kind < 14)∨(17≤x.kind):=by omega
   rcases cls with h' | h' | h' | h' | h' | h' | h'
   ·rw [h'] at e1
    have f1:(x.kind == 2 || x.kind == 3 || x.kind == 4)=false:=by simp [h']
    have f2:(x.kind == 1 || x.kind == 14 || x.kind == 15 || x.kind == 16)=true:=by simp [h']
    rw [f1,f2]
    cases hN:lJ x.name false
    ·rcases hc with hc | ⟨hc,hc'⟩
     ·simp -implicitDefEqProofs [CH,lY,e1,e2,e3,e4,hc,hN,h',kN]
     ·simp -implicitDefEqProofs [CH,lY,e1,e2,e3,e4,hc,hc',hN,h',kN]
    ·cases hU:lB x.num true
     ·rcases hc with hc | ⟨hc,hc'⟩
      ·simp -implicitDefEqProofs [CH,lY,e1,e2,e3,e4,hc,hN,hU,h',kN]
      ·simp -implicitDefEqProofs [CH,lY,e1,e2,e3,e4,hc,hc',hN,hU,h',kN]
     ·rcases hc with hc | ⟨hc,hc'⟩
      ·simp -implicitDefEqProofs [CH,lY,e1,e2,e3,e4,hc,hN,hU,h',kN]
      ·simp -implicitDefEqProofs [CH,lY,e1,e2,e3,e4,hc,hc',hN,hU,h',kN]
   ·rw [h'] at e1
    have f1:(x.kind == 2 || x.kind == 3 || x.kind == 4)=true:=by simp [h']
    have f2:(x.kind == 1 || x.kind == 14 || x.kind == 15 || x.kind == 16)=false:=by simp [h']
    rw [f1,f2]
    cases hN:lJ x.name true
    ·rcases hc with hc | ⟨hc,hc'⟩
     ·simp -implicitDefEqProofs [CH,lY,e1,e2,e3,e4,hc,hN,h',kN]
     ·simp -implicitDefEqProofs [CH,lY,e1,e2,e3,e4,hc,hc',hN,h',kN]
    ·cases hU:lB x.num false
     ·rcases hc with hc | ⟨hc,hc'⟩
      ·simp -implicitDefEqProofs [CH,lY,e1,e2,e3,e4,hc,hN,hU,h',kN]
      ·simp -implicitDefEqProofs [CH,lY,e1,e2,e3,e4,hc,hc',hN,hU,h',kN]
     ·rcases hc with hc | ⟨hc,hc'⟩
      ·simp -implicitDefEqProofs [CH,lY,e1,e2,e3,e4,hc,hN,hU,h',kN]
      ·simp -implicitDefEqProofs [CH,lY,e1,e2,e3,e4,hc,hc',hN,hU,h',kN]
   ·rw [h'] at e1
    have f1:(x.kind == 2 || x.kind == 3 || x.kind == 4)=true:=by simp [h']
    have f2:(x.kind == 1 || x.kind == 14 || x.kind == 15 || x.kind == 16)=false:=by simp [h']
    rw [f1,f2]
    cases hN:lJ x.name true
    ·rcases hc with hc | ⟨hc,hc'⟩
     ·simp -implicitDefEqProofs [CH,lY,e1,e2,e3,e4,hc,hN,h',kN]
     ·simp -implicitDefEqProofs [CH,lY,e1,e2,e3,e4,hc,hc',hN,h',kN]
    ·cases hU:lB x.num false
     ·rcases hc with hc | ⟨hc,hc'⟩
      ·simp -implicitDefEqProofs [CH,lY,e1,e2,e3,e4,hc,hN,hU,h',kN]
      ·simp -implicitDefEqProofs [CH,lY,e1,e2,e3,e4,hc,hc',hN,hU,h',kN]
     ·rcases hc with hc | ⟨hc,hc'⟩
      ·simp -implicitDefEqProofs [CH,lY,e1,e2,e3,e4,hc,hN,hU,h',kN]
      ·simp -implicitDefEqProofs [CH,lY,e1,e2,e3,e4,hc,hc',hN,hU,h',kN]
   ·rw [h'] at e1
    have f1:(x.kind == 2 || x.kind == 3 || x.kind == 4)=true:=by simp [h']
    have f2:(x.kind == 1 || x.kind == 14 || x.kind == 15 || x.kind == 16)=false:=by simp [h']
    rw [f1,f2]
    cases hN:lJ x.name true
    ·rcases hc with hc | ⟨hc,hc'⟩
     ·simp -implicitDefEqProofs [CH,lY,e1,e2,e3,e4,hc,hN,h',kN]
     ·simp -implicitDefEqProofs [CH,lY,e1,e2,e3,e4,hc,hc',hN,h',kN]
    ·cases hU:lB x.num false
     ·rcases hc with hc | ⟨hc,hc'⟩
      ·simp -implicitDefEqProofs [CH,lY,e1,e2,e3,e4,hc,hN,hU,h',kN]
      ·simp -implicitDefEqProofs [CH,lY,e1,e2,e3,e4,hc,hc',hN,hU,h',kN]
     ·rcases hc with hc | ⟨hc,hc'⟩
      ·simp -implicitDefEqProofs [CH,lY,e1,e2,e3,e4,hc,hN,hU,h',kN]
      ·simp -implicitDefEqProofs [CH,lY,e1,e2,e3,e4,hc,hc',hN,hU,h',kN]
   ·have n1:¬x.kind=1:=by omega
    have n2:¬x.kind=2:=by omega
    have n3:¬x.kind=3:=by omega
    have n4:¬x.kind=4:=by omega
    obtain⟨g1,g2⟩:=h'
    have n5:x.kind=14∨x.kind=15∨x.kind=16:=by omega
    have f1:(x.kind == 2 || x.kind == 3 || x.kind == 4)=false:=by simp; omega
    have f2:(x.kind == 1 || x.kind == 14 || x.kind == 15 || x.kind == 16)=true:=by simp; omega
    rw [f1,f2]
    cases hN:lJ x.name false
    ·rcases hc with hc | ⟨hc,hc'⟩
     ·simp -implicitDefEqProofs [CH,lY,e1,e2,e3,e4,hc,hN,n1,n2,n3,n4,g1,g2,kN]
     ·simp -implicitDefEqProofs [CH,lY,e1,e2,e3,e4,hc,hc',hN,n1,n2,n3,n4,g1,g2,kN]
    ·cases hU:lB x.num true
     ·rcases hc with hc | ⟨hc,hc'⟩
      ·simp -implicitDefEqProofs [CH,lY,e1,e2,e3,e4,hc,hN,hU,n1,n2,n3,n4,g1,g2,kN]
      ·simp -implicitDefEqProofs [CH,lY,e1,e2,e3,e4,hc,hc',hN,hU,n1,n2,n3,n4,g1,g2,kN]
     ·rcases hc with hc | ⟨hc,hc'⟩
      ·simp -implicitDefEqProofs [CH,lY,e1,e2,e3,e4,hc,hN,hU,n1,n2,n3,n4,g1,g2,kN]
      ·simp -implicitDefEqProofs [CH,lY,e1,e2,e3,e4,hc,hc',hN,hU,n1,n2,n3,n4,g1,g2,kN]
   ·have n1:¬x.kind=1:=by omega
    have n2:¬x.kind=2:=by omega
    have n3:¬x.kind=3:=by omega
    have n4:¬x.kind=4:=by omega
    have g1:¬14≤x.kind:=by omega
    have f1:(x.kind == 2 || x.kind == 3 || x.kind == 4)=false:=by simp; omega
    have f2:(x.kind == 1 || x.kind == 14 || x.kind == 15 || x.kind == 16)=false:=by simp; omega
    rw [f1,f2]
    cases hN:lJ x.name false
    ·rcases hc with hc | ⟨hc,hc'⟩
     ·simp -implicitDefEqProofs [CH,lY,e1,e2,e3,e4,hc,hN,n1,n2,n3,n4,g1,kN]
     ·simp -implicitDefEqProofs [CH,lY,e1,e2,e3,e4,hc,hc',hN,n1,n2,n3,n4,g1,kN]
    ·cases hU:lB x.num false
     ·rcases hc with hc | ⟨hc,hc'⟩
      ·simp -implicitDefEqProofs [CH,lY,e1,e2,e3,e4,hc,hN,hU,n1,n2,n3,n4,g1,kN]
      ·simp -implicitDefEqProofs [CH,lY,e1,e2,e3,e4,hc,hc',hN,hU,n1,n2,n3,n4,g1,kN]
     ·rcases hc with hc | ⟨hc,hc'⟩
      ·simp -implicitDefEqProofs [CH,lY,e1,e2,e3,e4,hc,hN,hU,n1,n2,n3,n4,g1,kN]
      ·simp -implicitDefEqProofs [CH,lY,e1,e2,e3,e4,hc,hc',hN,hU,n1,n2,n3,n4,g1,kN]
   ·have n1:¬x.kind=1:=by omega
    have n2:¬x.kind=2:=by omega
    have n3:¬x.kind=3:=by omega
    have n4:¬x.kind=4:=by omega
    have g1:14≤x.kind:=by omega
    have g2:¬x.kind≤16:=by omega
    have f1:(x.kind == 2 || x.kind == 3 || x.kind == 4)=false:=by simp; omega
    have f2:(x.kind == 1 || x.kind == 14 || x.kind == 15 || x.kind == 16)=false:=by simp; omega
    rw [f1,f2]
    cases hN:lJ x.name false
    ·rcases hc with hc | ⟨hc,hc'⟩
     ·simp -implicitDefEqProofs [CH,lY,e1,e2,e3,e4,hc,hN,n1,n2,n3,n4,g1,g2,kN]
     ·simp -implicitDefEqProofs [CH,lY,e1,e2,e3,e4,hc,hc',hN,n1,n2,n3,n4,g1,g2,kN]
    ·cases hU:lB x.num false
     ·rcases hc with hc | ⟨hc,hc'⟩
      ·simp -implicitDefEqProofs [CH,lY,e1,e2,e3,e4,hc,hN,hU,n1,n2,n3,n4,g1,g2,kN]
      ·simp -implicitDefEqProofs [CH,lY,e1,e2,e3,e4,hc,hc',hN,hU,n1,n2,n3,n4,g1,g2,kN]
     ·rcases hc with hc | ⟨hc,hc'⟩
      ·simp -implicitDefEqProofs [CH,lY,e1,e2,e3,e4,hc,hN,hU,n1,n2,n3,n4,g1,g2,kN]
      ·simp -implicitDefEqProofs [CH,lY,e1,e2,e3,e4,hc,hc',hN,hU,n1,n2,n3,n4,g1,g2,kN]
  ·have hf:(m == -1 || m == (x.args.length:Int))=false:=by simpa using har
   rw [hf]
   simp only [Bool.or_eq_false_iff,beq_eq_false_iff_ne] at hf
   have h0:0≤m:=by omega
   have h1:¬(x.args.length:Int)=m:=fun e=>hf.2 e.symm
   simp -implicitDefEqProofs [CH,lY,e1,kN,h0,h1]
end
section
open Go Hk
theorem c36:∀(n:Nat) (x:GE),x.size≤n→n≤4611686018427387904→VS x:=by
 intro n
 induction n with
 | zero=>intro x hn; cases x; simp [GE.size] at hn
 | succ n ih =>
  intro x hn hb
  have key:∀l:List GE,l.length≤GE.nJ l:=by
   intro l
   induction l with
   | nil=>simp
   | cons y r ih=>cases y; simp only [GE.nJ,GE.size,ac1]; omega
  refine afP x (fun a ha=>?_) ?_
  ·cases x
   simp only [GE.size,GE.args] at hn ha
   have:=GE.oO ha
   exact ih a (by omega) (by omega)
  ·cases x
   simp only [GE.size,GE.args] at hn ⊢
   have:=key (by assumption:List GE)
   omega
theorem Jz (l:List GE):l.length≤GE.nJ l:=by
 induction l with
 | nil=>simp
 | cons y r ih=>cases y; simp only [GE.nJ,GE.size,ac1]; omega
theorem TX (l:List GE) (hs:GE.nJ l≤4611686018427387904) (h:kP):KK 81 [.slice (l.map GE.cells) .no] h=some (.ret (.bool (nH l)),h) :=
 c81 l (fun x hx=>c36 _ x (GE.oO hx) hs) (by have:=Jz l; omega) h
theorem tY {t:GT}{h:kP}:lL 3 h (.agg t.cells)=some (.ptr h.length 0,h++[.cells t.cells]):=by
 simp [lL,GT.cells,lF]
theorem GT.shut (t:GT):([kM.agg t.cells].all (kM.nP 0))=true:=by simp [GT.cells,kM.nP,kM.pE,qA]
theorem c67 (t:GT) (h:kP):KK 67 [.agg t.cells] h=some (.ret (.bool (sJ t)),h):=by
 refine lD rfl t.shut (lA (aA0 _ _ _) ?_)
 have e1:=c80 t.len true
 have g0:∀h:0 < t.cells.length,t.cells[0]'h=.int .i64 t.elem:=fun _=>rfl
 have g1:∀h:1 < t.cells.length,t.cells[1]'h=.int .i64 t.len:=fun _=>rfl
 have g2:∀h:2 < t.cells.length,t.cells[2]'h=.int .i64 t.label:=fun _=>rfl
 have gl:t.cells.length=3:=rfl
 have hn:lB t.len true=zB t.len:=rfl
 rw [hn] at e1
 have hl:t.label=0∨t.label=1∨(¬t.label=0∧¬t.label=1):=by omega
 unfold sJ
 rcases hl with h1 | h1 | ⟨h1,h2⟩
 ·cases hN:zB t.len
  ·simp -implicitDefEqProofs [m67,tY,e1,g0,g1,g2,gl,h1,hN,kN]
  ·have hp:=(vB.1 hN).1
   by_cases e1':t.elem=1
   ·simp -implicitDefEqProofs [m67,tY,e1,g0,g1,g2,gl,h1,hN,e1',kN]
    by_cases h0:t.len=0 <;> simp [h0]
   ·by_cases e0:t.elem=0
    ·simp -implicitDefEqProofs [m67,tY,e1,g0,g1,g2,gl,h1,hN,e0,kN]
    ·by_cases e2:t.elem=2
     ·have:(0 < t.len)↔¬t.len=0:=by omega
      simp -implicitDefEqProofs [m67,tY,e1,g0,g1,g2,gl,h1,hN,e2,this,kN]
      by_cases h0:t.len=0 <;> simp [h0]
     ·simp -implicitDefEqProofs [m67,tY,e1,g0,g1,g2,gl,h1,hN,e0,e1',e2,kN]
 ·cases hN:zB t.len
  ·simp -implicitDefEqProofs [m67,tY,e1,g0,g1,g2,gl,h1,hN,kN]
  ·have hp:=(vB.1 hN).1
   by_cases e1':t.elem=1
   ·simp -implicitDefEqProofs [m67,tY,e1,g0,g1,g2,gl,h1,hN,e1',kN]
    by_cases h0:t.len=0 <;> simp [h0]
   ·by_cases e0:t.elem=0
    ·simp -implicitDefEqProofs [m67,tY,e1,g0,g1,g2,gl,h1,hN,e0,kN]
    ·by_cases e2:t.elem=2
     ·have:(0 < t.len)↔¬t.len=0:=by omega
      simp -implicitDefEqProofs [m67,tY,e1,g0,g1,g2,gl,h1,hN,e2,this,kN]
      by_cases h0:t.len=0 <;> simp [h0]
     ·simp -implicitDefEqProofs [m67,tY,e1,g0,g1,g2,gl,h1,hN,e0,e1',e2,kN]
 ·simp -implicitDefEqProofs [m67,tY,g0,g1,g2,gl,h1,h2,kN]
def mI (n k:Bool) (a:Int) (m b o:Bool):kM:=.agg [.bool n,.bool k,.int .i64 a,.bool m,.bool b,.bool o]
theorem ayE (h:kP):KK 160 [.int .i64 1] h=some (.ret (.tuple [mI true false 1 false false false,.bool true]),h):=by
 refine lD rfl rfl (lA (BU _ _ _) ?_)
 simp -implicitDefEqProofs [Pm,lL,lF,lT,putCells,kT,l_,kN,mI,lE]
theorem ayF (h:kP):KK 160 [.int .i64 2] h=some (.ret (.tuple [mI true true 0 false false false,.bool true]),h):=by
 refine lD rfl rfl (lA (BU _ _ _) ?_)
 simp -implicitDefEqProofs [Pm,lL,lF,lT,putCells,kT,l_,kN,mI,lE]
theorem ayG (h:kP):KK 160 [.int .i64 3] h=some (.ret (.tuple [mI true false 1 false false false,.bool true]),h):=by
 refine lD rfl rfl (lA (BU _ _ _) ?_)
 simp -implicitDefEqProofs [Pm,lL,lF,lT,putCells,kT,l_,kN,mI,lE]
theorem ayH (h:kP):KK 160 [.int .i64 4] h=some (.ret (.tuple [mI true false 2 false false false,.bool true]),h):=by
 refine lD rfl rfl (lA (BU _ _ _) ?_)
 simp -implicitDefEqProofs [Pm,lL,lF,lT,putCells,kT,l_,kN,mI,lE]
theorem ayI (h:kP):KK 160 [.int .i64 5] h=some (.ret (.tuple [mI false false 1 false true true,.bool true]),h):=by
 refine lD rfl rfl (lA (BU _ _ _) ?_)
 simp -implicitDefEqProofs [Pm,lL,lF,lT,putCells,kT,l_,kN,mI,lE]
theorem ayJ (h:kP):KK 160 [.int .i64 6] h=some (.ret (.tuple [mI true false 1 true true false,.bool true]),h):=by
 refine lD rfl rfl (lA (BU _ _ _) ?_)
 simp -implicitDefEqProofs [Pm,lL,lF,lT,putCells,kT,l_,kN,mI,lE]
theorem ayK (h:kP):KK 160 [.int .i64 7] h=some (.ret (.tuple [mI false false 1 false false false,.bool true]),h):=by
 refine lD rfl rfl (lA (BU _ _ _) ?_)
 simp -implicitDefEqProofs [Pm,lL,lF,lT,putCells,kT,l_,kN,mI,lE]
theorem ayL (h:kP):KK 160 [.int .i64 8] h=some (.ret (.tuple [mI false false 1 false false false,.bool true]),h):=by
 refine lD rfl rfl (lA (BU _ _ _) ?_)
 simp -implicitDefEqProofs [Pm,lL,lF,lT,putCells,kT,l_,kN,mI,lE]
theorem ayD (k:Int) (hk:¬(1≤k∧k≤8)) (h:kP):KK 160 [.int .i64 k] h=some (.ret (.tuple [mI false false 0 false false false,.bool false]),h):=by
 refine lD rfl rfl (lA (BU _ _ _) ?_)
 have n1:¬k=1:=by omega
 have n2:¬k=2:=by omega
 have n3:¬k=3:=by omega
 have n4:¬k=4:=by omega
 have n5:¬k=5:=by omega
 have n6:¬k=6:=by omega
 have n7:¬k=7:=by omega
 have n8:¬k=8:=by omega
 simp -implicitDefEqProofs [Pm,n1,n2,n3,n4,n5,n6,n7,n8,lL,lF,lT,putCells,kT,l_,kN,mI,lE]
theorem lP {x:GS}{h:kP}:lL 11 h (.agg x.cells)=some (.ptr h.length 0,h++[.cells x.cells]):=by
 simp [lL,x.tok,x.T3]
theorem GS.shut (x:GS):([kM.agg x.cells].all (kM.nP 0))=true:=by cases x; simp [GS.cells,kM.nP,kM.pE,qA]
theorem mV {h:kP}:lL 6 h (.agg [.bool false,.bool false,.int .i64 0,.bool false,.bool false,.bool false])=some (.ptr h.length 0,h++[.cells [.bool false,.bool false,.int .i64 0,.bool false,.bool false,.bool false]]):=by
 simp [lL,lF]
theorem Rn {t:GT}:rW [.i,.i,.i] (.agg t.cells) (.agg [.int .i64 0,.int .i64 0,.int .i64 0])=some (decide (t=GT.zero)):=by
 obtain⟨a,b,c⟩:=t
 simp only [GT.cells,GT.zero,GT.mk.injEq]
 by_cases h1:a=0 <;> by_cases h2:b=0 <;> by_cases h3:c=0 <;> simp [rW,rM,Gq,beq_false_of_ne,h1,h2,h3]
def Hc (x:GS):Prop:=∀h,KK 123 [.agg x.cells] h=some (.ret (.bool (pX x)),h)
def z6 (l:List GS):Prop:=∀h,KK 66 [.slice (l.map GS.cells) .no] h=some (.ret (.bool (nW l)),h)
theorem sI (x:GS):pX x=(lR x.kind x.r_ x.name x.ty x.args x.body.length x.els.length x.has && nW x.body && nW x.els):=by cases x; simp only [pX]; rfl
theorem pT:lT [.int .i64 0,.int .i64 0,.int .i64 0] [(0,1),(1,1),(2,1)] []=some (.agg [.int .i64 0,.int .i64 0,.int .i64 0]):=rfl
theorem mU (t:GT):(t == GT.zero)=decide (t=GT.zero):=by by_cases h:t=GT.zero <;> simp [h]
end
section
open Go Hk
set_option maxHeartbeats 40000000 in
set_option maxRecDepth 100000 in
theorem aBO (x:GS) (hk:x.kind=1) (hs:GE.nJ x.args≤4611686018427387904) (hb:z6 x.body) (he:z6 x.els):Hc x:=by
 intro h
 refine lD rfl x.shut (lA (BS _ _ _) ?_)
 have e0:=ayE
 have e1:=c79 x.name
 have e2:=c80 x.r_
 have e3:=TX x.args hs
 have e4:=c67 x.ty
 have eb:=hb
 have ee:=he
 unfold z6 at eb ee
 rw [sI]
 cases hN:lJ x.name true
 ·
  simp -implicitDefEqProofs [pS,lP,mV,e0,e1,e2,e3,e4,eb,ee,mI,hk,putCells,kN,lR,lM,mU,pT,hN]
 ·
  cases hU:lB x.r_ false
  ·
   simp -implicitDefEqProofs [pS,lP,mV,e0,e1,e2,e3,e4,eb,ee,mI,hk,putCells,kN,lR,lM,mU,pT,hN,hU]
  ·
   by_cases hL:x.args.length=1
   ·
    have hL':(x.args.length:Int)=1:=by omega
    cases hE:nH x.args
    ·
     simp -implicitDefEqProofs [pS,lP,mV,e0,e1,e2,e3,e4,eb,ee,mI,hk,putCells,kN,lR,lM,mU,pT,hN,hU,hL,hL',hE]
    ·
     have eq:=Rn (t:=x.ty)
     by_cases hT:x.ty=GT.zero
     ·
      rw [decide_eq_true hT,hT] at eq
      by_cases hB:x.body.length=0
      ·
       cases hH:x.has
       ·
        by_cases hZ:x.els.length=0
        ·
         cases hP:nW x.body
         ·
          simp -implicitDefEqProofs [pS,lP,mV,e0,e1,e2,e3,e4,eb,ee,mI,hk,putCells,kN,lR,lM,mU,pT,hN,hU,hL,hL',hE,eq,hT,hB,hH,hZ,hP]
         ·
          simp -implicitDefEqProofs [pS,lP,mV,e0,e1,e2,e3,e4,eb,ee,mI,hk,putCells,kN,lR,lM,mU,pT,hN,hU,hL,hL',hE,eq,hT,hB,hH,hZ,hP]
        ·
         have hZ':0 < x.els.length:=by omega
         simp -implicitDefEqProofs [pS,lP,mV,e0,e1,e2,e3,e4,eb,ee,mI,hk,putCells,kN,lR,lM,mU,pT,hN,hU,hL,hL',hE,eq,hT,hB,hH,hZ,hZ']
       ·
        simp -implicitDefEqProofs [pS,lP,mV,e0,e1,e2,e3,e4,eb,ee,mI,hk,putCells,kN,lR,lM,mU,pT,hN,hU,hL,hL',hE,eq,hT,hB,hH]
      ·
       have hB':0 < x.body.length:=by omega
       simp -implicitDefEqProofs [pS,lP,mV,e0,e1,e2,e3,e4,eb,ee,mI,hk,putCells,kN,lR,lM,mU,pT,hN,hU,hL,hL',hE,eq,hT,hB,hB']
     ·
      rw [decide_eq_false hT] at eq
      simp -implicitDefEqProofs [pS,lP,mV,e0,e1,e2,e3,e4,eb,ee,mI,hk,putCells,kN,lR,lM,mU,pT,hN,hU,hL,hL',hE,eq,hT]
   ·
    have hL':¬(x.args.length:Int)=1:=by omega
    simp -implicitDefEqProofs [pS,lP,mV,e0,e1,e2,e3,e4,eb,ee,mI,hk,putCells,kN,lR,lM,mU,pT,hN,hU,hL,hL']
set_option maxHeartbeats 40000000 in
set_option maxRecDepth 100000 in
theorem aBP (x:GS) (hk:x.kind=2) (hs:GE.nJ x.args≤4611686018427387904) (hb:z6 x.body) (he:z6 x.els):Hc x:=by
 intro h
 refine lD rfl x.shut (lA (BS _ _ _) ?_)
 have e0:=ayF
 have e1:=c79 x.name
 have e2:=c80 x.r_
 have e3:=TX x.args hs
 have e4:=c67 x.ty
 have eb:=hb
 have ee:=he
 unfold z6 at eb ee
 rw [sI]
 cases hN:lJ x.name true
 ·
  simp -implicitDefEqProofs [pS,lP,mV,e0,e1,e2,e3,e4,eb,ee,mI,hk,putCells,kN,lR,lM,mU,pT,hN]
 ·
  cases hU:lB x.r_ false
  ·
   simp -implicitDefEqProofs [pS,lP,mV,e0,e1,e2,e3,e4,eb,ee,mI,hk,putCells,kN,lR,lM,mU,pT,hN,hU]
  ·
   by_cases hL:x.args.length=0
   ·
    have hL':(x.args.length:Int)=0:=by omega
    cases hE:nH x.args
    ·
     simp -implicitDefEqProofs [pS,lP,mV,e0,e1,e2,e3,e4,eb,ee,mI,hk,putCells,kN,lR,lM,mU,pT,hN,hU,hL,hL',hE]
    ·
     cases hT:sJ x.ty
     ·
      simp -implicitDefEqProofs [pS,lP,mV,e0,e1,e2,e3,e4,eb,ee,mI,hk,putCells,kN,lR,lM,mU,pT,hN,hU,hL,hL',hE,hT]
     ·
      by_cases hB:x.body.length=0
      ·
       cases hH:x.has
       ·
        by_cases hZ:x.els.length=0
        ·
         cases hP:nW x.body
         ·
          simp -implicitDefEqProofs [pS,lP,mV,e0,e1,e2,e3,e4,eb,ee,mI,hk,putCells,kN,lR,lM,mU,pT,hN,hU,hL,hL',hE,hT,hB,hH,hZ,hP]
         ·
          simp -implicitDefEqProofs [pS,lP,mV,e0,e1,e2,e3,e4,eb,ee,mI,hk,putCells,kN,lR,lM,mU,pT,hN,hU,hL,hL',hE,hT,hB,hH,hZ,hP]
        ·
         have hZ':0 < x.els.length:=by omega
         simp -implicitDefEqProofs [pS,lP,mV,e0,e1,e2,e3,e4,eb,ee,mI,hk,putCells,kN,lR,lM,mU,pT,hN,hU,hL,hL',hE,hT,hB,hH,hZ,hZ']
       ·
        simp -implicitDefEqProofs [pS,lP,mV,e0,e1,e2,e3,e4,eb,ee,mI,hk,putCells,kN,lR,lM,mU,pT,hN,hU,hL,hL',hE,hT,hB,hH]
      ·
       have hB':0 < x.body.length:=by omega
       simp -implicitDefEqProofs [pS,lP,mV,e0,e1,e2,e3,e4,eb,ee,mI,hk,putCells,kN,lR,lM,mU,pT,hN,hU,hL,hL',hE,hT,hB,hB']
   ·
    have hL':¬(x.args.length:Int)=0:=by omega
    simp -implicitDefEqProofs [pS,lP,mV,e0,e1,e2,e3,e4,eb,ee,mI,hk,putCells,kN,lR,lM,mU,pT,hN,hU,hL,hL']
end
section
open Go Hk
set_option maxHeartbeats 40000000 in
set_option maxRecDepth 100000 in
theorem aBQ (x:GS) (hk:x.kind=3) (hs:GE.nJ x.args≤4611686018427387904) (hb:z6 x.body) (he:z6 x.els):Hc x:=by
 intro h
 refine lD rfl x.shut (lA (BS _ _ _) ?_)
 have e0:=ayG
 have e1:=c79 x.name
 have e2:=c80 x.r_
 have e3:=TX x.args hs
 have e4:=c67 x.ty
 have eb:=hb
 have ee:=he
 unfold z6 at eb ee
 rw [sI]
 cases hN:lJ x.name true
 ·
  simp -implicitDefEqProofs [pS,lP,mV,e0,e1,e2,e3,e4,eb,ee,mI,hk,putCells,kN,lR,lM,mU,pT,hN]
 ·
  cases hU:lB x.r_ false
  ·
   simp -implicitDefEqProofs [pS,lP,mV,e0,e1,e2,e3,e4,eb,ee,mI,hk,putCells,kN,lR,lM,mU,pT,hN,hU]
  ·
   by_cases hL:x.args.length=1
   ·
    have hL':(x.args.length:Int)=1:=by omega
    cases hE:nH x.args
    ·
     simp -implicitDefEqProofs [pS,lP,mV,e0,e1,e2,e3,e4,eb,ee,mI,hk,putCells,kN,lR,lM,mU,pT,hN,hU,hL,hL',hE]
    ·
     have eq:=Rn (t:=x.ty)
     by_cases hT:x.ty=GT.zero
     ·
      rw [decide_eq_true hT,hT] at eq
      by_cases hB:x.body.length=0
      ·
       cases hH:x.has
       ·
        by_cases hZ:x.els.length=0
        ·
         cases hP:nW x.body
         ·
          simp -implicitDefEqProofs [pS,lP,mV,e0,e1,e2,e3,e4,eb,ee,mI,hk,putCells,kN,lR,lM,mU,pT,hN,hU,hL,hL',hE,eq,hT,hB,hH,hZ,hP]
         ·
          simp -implicitDefEqProofs [pS,lP,mV,e0,e1,e2,e3,e4,eb,ee,mI,hk,putCells,kN,lR,lM,mU,pT,hN,hU,hL,hL',hE,eq,hT,hB,hH,hZ,hP]
        ·
         have hZ':0 < x.els.length:=by omega
         simp -implicitDefEqProofs [pS,lP,mV,e0,e1,e2,e3,e4,eb,ee,mI,hk,putCells,kN,lR,lM,mU,pT,hN,hU,hL,hL',hE,eq,hT,hB,hH,hZ,hZ']
       ·
        simp -implicitDefEqProofs [pS,lP,mV,e0,e1,e2,e3,e4,eb,ee,mI,hk,putCells,kN,lR,lM,mU,pT,hN,hU,hL,hL',hE,eq,hT,hB,hH]
      ·
       have hB':0 < x.body.length:=by omega
       simp -implicitDefEqProofs [pS,lP,mV,e0,e1,e2,e3,e4,eb,ee,mI,hk,putCells,kN,lR,lM,mU,pT,hN,hU,hL,hL',hE,eq,hT,hB,hB']
     ·
      rw [decide_eq_false hT] at eq
      simp -implicitDefEqProofs [pS,lP,mV,e0,e1,e2,e3,e4,eb,ee,mI,hk,putCells,kN,lR,lM,mU,pT,hN,hU,hL,hL',hE,eq,hT]
   ·
    have hL':¬(x.args.length:Int)=1:=by omega
    simp -implicitDefEqProofs [pS,lP,mV,e0,e1,e2,e3,e4,eb,ee,mI,hk,putCells,kN,lR,lM,mU,pT,hN,hU,hL,hL']
set_option maxHeartbeats 40000000 in
set_option maxRecDepth 100000 in
theorem aBR (x:GS) (hk:x.kind=4) (hs:GE.nJ x.args≤4611686018427387904) (hb:z6 x.body) (he:z6 x.els):Hc x:=by
 intro h
 refine lD rfl x.shut (lA (BS _ _ _) ?_)
 have e0:=ayH
 have e1:=c79 x.name
 have e2:=c80 x.r_
 have e3:=TX x.args hs
 have e4:=c67 x.ty
 have eb:=hb
 have ee:=he
 unfold z6 at eb ee
 rw [sI]
 cases hN:lJ x.name true
 ·
  simp -implicitDefEqProofs [pS,lP,mV,e0,e1,e2,e3,e4,eb,ee,mI,hk,putCells,kN,lR,lM,mU,pT,hN]
 ·
  cases hU:lB x.r_ false
  ·
   simp -implicitDefEqProofs [pS,lP,mV,e0,e1,e2,e3,e4,eb,ee,mI,hk,putCells,kN,lR,lM,mU,pT,hN,hU]
  ·
   by_cases hL:x.args.length=2
   ·
    have hL':(x.args.length:Int)=2:=by omega
    cases hE:nH x.args
    ·
     simp -implicitDefEqProofs [pS,lP,mV,e0,e1,e2,e3,e4,eb,ee,mI,hk,putCells,kN,lR,lM,mU,pT,hN,hU,hL,hL',hE]
    ·
     have eq:=Rn (t:=x.ty)
     by_cases hT:x.ty=GT.zero
     ·
      rw [decide_eq_true hT,hT] at eq
      by_cases hB:x.body.length=0
      ·
       cases hH:x.has
       ·
        by_cases hZ:x.els.length=0
        ·
         cases hP:nW x.body
         ·
          simp -implicitDefEqProofs [pS,lP,mV,e0,e1,e2,e3,e4,eb,ee,mI,hk,putCells,kN,lR,lM,mU,pT,hN,hU,hL,hL',hE,eq,hT,hB,hH,hZ,hP]
         ·
          simp -implicitDefEqProofs [pS,lP,mV,e0,e1,e2,e3,e4,eb,ee,mI,hk,putCells,kN,lR,lM,mU,pT,hN,hU,hL,hL',hE,eq,hT,hB,hH,hZ,hP]
        ·
         have hZ':0 < x.els.length:=by omega
         simp -implicitDefEqProofs [pS,lP,mV,e0,e1,e2,e3,e4,eb,ee,mI,hk,putCells,kN,lR,lM,mU,pT,hN,hU,hL,hL',hE,eq,hT,hB,hH,hZ,hZ']
       ·
        simp -implicitDefEqProofs [pS,lP,mV,e0,e1,e2,e3,e4,eb,ee,mI,hk,putCells,kN,lR,lM,mU,pT,hN,hU,hL,hL',hE,eq,hT,hB,hH]
      ·
       have hB':0 < x.body.length:=by omega
       simp -implicitDefEqProofs [pS,lP,mV,e0,e1,e2,e3,e4,eb,ee,mI,hk,putCells,kN,lR,lM,mU,pT,hN,hU,hL,hL',hE,eq,hT,hB,hB']
     ·
      rw [decide_eq_false hT] at eq
      simp -implicitDefEqProofs [pS,lP,mV,e0,e1,e2,e3,e4,eb,ee,mI,hk,putCells,kN,lR,lM,mU,pT,hN,hU,hL,hL',hE,eq,hT]
   ·
    have hL':¬(x.args.length:Int)=2:=by omega
    simp -implicitDefEqProofs [pS,lP,mV,e0,e1,e2,e3,e4,eb,ee,mI,hk,putCells,kN,lR,lM,mU,pT,hN,hU,hL,hL']
end
section
open Go Hk
set_option maxHeartbeats 40000000 in
set_option maxRecDepth 100000 in
theorem aBS (x:GS) (hk:x.kind=5) (hs:GE.nJ x.args≤4611686018427387904) (hb:z6 x.body) (he:z6 x.els):Hc x:=by
 intro h
 refine lD rfl x.shut (lA (BS _ _ _) ?_)
 have e0:=ayI
 have e1:=c79 x.name
 have e2:=c80 x.r_
 have e3:=TX x.args hs
 have e4:=c67 x.ty
 have eb:=hb
 have ee:=he
 unfold z6 at eb ee
 rw [sI]
 cases hN:lJ x.name false
 ·
  simp -implicitDefEqProofs [pS,lP,mV,e0,e1,e2,e3,e4,eb,ee,mI,hk,putCells,kN,lR,lM,mU,pT,hN]
 ·
  cases hU:lB x.r_ false
  ·
   simp -implicitDefEqProofs [pS,lP,mV,e0,e1,e2,e3,e4,eb,ee,mI,hk,putCells,kN,lR,lM,mU,pT,hN,hU]
  ·
   by_cases hL:x.args.length=1
   ·
    have hL':(x.args.length:Int)=1:=by omega
    cases hE:nH x.args
    ·
     simp -implicitDefEqProofs [pS,lP,mV,e0,e1,e2,e3,e4,eb,ee,mI,hk,putCells,kN,lR,lM,mU,pT,hN,hU,hL,hL',hE]
    ·
     have eq:=Rn (t:=x.ty)
     by_cases hT:x.ty=GT.zero
     ·
      rw [decide_eq_true hT,hT] at eq
      cases hH:x.has
      ·
       by_cases hZ:x.els.length=0
       ·
        cases hP:nW x.body
        ·
         simp -implicitDefEqProofs [pS,lP,mV,e0,e1,e2,e3,e4,eb,ee,mI,hk,putCells,kN,lR,lM,mU,pT,hN,hU,hL,hL',hE,eq,hT,hH,hZ,hP]
        ·
         simp -implicitDefEqProofs [pS,lP,mV,e0,e1,e2,e3,e4,eb,ee,mI,hk,putCells,kN,lR,lM,mU,pT,hN,hU,hL,hL',hE,eq,hT,hH,hZ,hP]
       ·
        have hZ':0 < x.els.length:=by omega
        simp -implicitDefEqProofs [pS,lP,mV,e0,e1,e2,e3,e4,eb,ee,mI,hk,putCells,kN,lR,lM,mU,pT,hN,hU,hL,hL',hE,eq,hT,hH,hZ,hZ']
      ·
       cases hP:nW x.body
       ·
        simp -implicitDefEqProofs [pS,lP,mV,e0,e1,e2,e3,e4,eb,ee,mI,hk,putCells,kN,lR,lM,mU,pT,hN,hU,hL,hL',hE,eq,hT,hH,hP]
       ·
        simp -implicitDefEqProofs [pS,lP,mV,e0,e1,e2,e3,e4,eb,ee,mI,hk,putCells,kN,lR,lM,mU,pT,hN,hU,hL,hL',hE,eq,hT,hH,hP]
     ·
      rw [decide_eq_false hT] at eq
      simp -implicitDefEqProofs [pS,lP,mV,e0,e1,e2,e3,e4,eb,ee,mI,hk,putCells,kN,lR,lM,mU,pT,hN,hU,hL,hL',hE,eq,hT]
   ·
    have hL':¬(x.args.length:Int)=1:=by omega
    simp -implicitDefEqProofs [pS,lP,mV,e0,e1,e2,e3,e4,eb,ee,mI,hk,putCells,kN,lR,lM,mU,pT,hN,hU,hL,hL']
set_option maxHeartbeats 40000000 in
set_option maxRecDepth 100000 in
theorem aBT (x:GS) (hk:x.kind=6) (hs:GE.nJ x.args≤4611686018427387904) (hb:z6 x.body) (he:z6 x.els):Hc x:=by
 intro h
 refine lD rfl x.shut (lA (BS _ _ _) ?_)
 have e0:=ayJ
 have e1:=c79 x.name
 have e2:=c80 x.r_
 have e3:=TX x.args hs
 have e4:=c67 x.ty
 have eb:=hb
 have ee:=he
 unfold z6 at eb ee
 rw [sI]
 cases hN:lJ x.name true
 ·
  simp -implicitDefEqProofs [pS,lP,mV,e0,e1,e2,e3,e4,eb,ee,mI,hk,putCells,kN,lR,lM,mU,pT,hN]
 ·
  cases hU:lB x.r_ true
  ·
   simp -implicitDefEqProofs [pS,lP,mV,e0,e1,e2,e3,e4,eb,ee,mI,hk,putCells,kN,lR,lM,mU,pT,hN,hU]
  ·
   by_cases hL:x.args.length=1
   ·
    have hL':(x.args.length:Int)=1:=by omega
    cases hE:nH x.args
    ·
     simp -implicitDefEqProofs [pS,lP,mV,e0,e1,e2,e3,e4,eb,ee,mI,hk,putCells,kN,lR,lM,mU,pT,hN,hU,hL,hL',hE]
    ·
     have eq:=Rn (t:=x.ty)
     by_cases hT:x.ty=GT.zero
     ·
      rw [decide_eq_true hT,hT] at eq
      cases hH:x.has
      ·
       by_cases hZ:x.els.length=0
       ·
        cases hP:nW x.body
        ·
         simp -implicitDefEqProofs [pS,lP,mV,e0,e1,e2,e3,e4,eb,ee,mI,hk,putCells,kN,lR,lM,mU,pT,hN,hU,hL,hL',hE,eq,hT,hH,hZ,hP]
        ·
         simp -implicitDefEqProofs [pS,lP,mV,e0,e1,e2,e3,e4,eb,ee,mI,hk,putCells,kN,lR,lM,mU,pT,hN,hU,hL,hL',hE,eq,hT,hH,hZ,hP]
       ·
        have hZ':0 < x.els.length:=by omega
        simp -implicitDefEqProofs [pS,lP,mV,e0,e1,e2,e3,e4,eb,ee,mI,hk,putCells,kN,lR,lM,mU,pT,hN,hU,hL,hL',hE,eq,hT,hH,hZ,hZ']
      ·
       simp -implicitDefEqProofs [pS,lP,mV,e0,e1,e2,e3,e4,eb,ee,mI,hk,putCells,kN,lR,lM,mU,pT,hN,hU,hL,hL',hE,eq,hT,hH]
     ·
      rw [decide_eq_false hT] at eq
      simp -implicitDefEqProofs [pS,lP,mV,e0,e1,e2,e3,e4,eb,ee,mI,hk,putCells,kN,lR,lM,mU,pT,hN,hU,hL,hL',hE,eq,hT]
   ·
    have hL':¬(x.args.length:Int)=1:=by omega
    simp -implicitDefEqProofs [pS,lP,mV,e0,e1,e2,e3,e4,eb,ee,mI,hk,putCells,kN,lR,lM,mU,pT,hN,hU,hL,hL']
end
section
open Go Hk
set_option maxHeartbeats 40000000 in
set_option maxRecDepth 100000 in
theorem aBU (x:GS) (hk:x.kind=7) (hs:GE.nJ x.args≤4611686018427387904) (hb:z6 x.body) (he:z6 x.els):Hc x:=by
 intro h
 refine lD rfl x.shut (lA (BS _ _ _) ?_)
 have e0:=ayK
 have e1:=c79 x.name
 have e2:=c80 x.r_
 have e3:=TX x.args hs
 have e4:=c67 x.ty
 have eb:=hb
 have ee:=he
 unfold z6 at eb ee
 rw [sI]
 cases hN:lJ x.name false
 ·
  simp -implicitDefEqProofs [pS,lP,mV,e0,e1,e2,e3,e4,eb,ee,mI,hk,putCells,kN,lR,lM,mU,pT,hN]
 ·
  cases hU:lB x.r_ false
  ·
   simp -implicitDefEqProofs [pS,lP,mV,e0,e1,e2,e3,e4,eb,ee,mI,hk,putCells,kN,lR,lM,mU,pT,hN,hU]
  ·
   by_cases hL:x.args.length=1
   ·
    have hL':(x.args.length:Int)=1:=by omega
    cases hE:nH x.args
    ·
     simp -implicitDefEqProofs [pS,lP,mV,e0,e1,e2,e3,e4,eb,ee,mI,hk,putCells,kN,lR,lM,mU,pT,hN,hU,hL,hL',hE]
    ·
     have eq:=Rn (t:=x.ty)
     by_cases hT:x.ty=GT.zero
     ·
      rw [decide_eq_true hT,hT] at eq
      obtain⟨a,ha⟩:=CG hL
      have i0:=XR ha
      have hM:PO x.args=(a.kind == 4):=by rw [ha]; rfl
      by_cases hA:a.kind=4
      ·
       by_cases hB:x.body.length=0
       ·
        cases hH:x.has
        ·
         by_cases hZ:x.els.length=0
         ·
          cases hP:nW x.body
          ·
           simp -implicitDefEqProofs [pS,lP,mV,e0,e1,e2,e3,e4,eb,ee,mI,hk,putCells,kN,lR,lM,mU,pT,hN,hU,hL,hL',hE,eq,hT,i0,hM,hA,hB,hH,hZ,hP]
          ·
           simp -implicitDefEqProofs [pS,lP,mV,e0,e1,e2,e3,e4,eb,ee,mI,hk,putCells,kN,lR,lM,mU,pT,hN,hU,hL,hL',hE,eq,hT,i0,hM,hA,hB,hH,hZ,hP]
         ·
          have hZ':0 < x.els.length:=by omega
          simp -implicitDefEqProofs [pS,lP,mV,e0,e1,e2,e3,e4,eb,ee,mI,hk,putCells,kN,lR,lM,mU,pT,hN,hU,hL,hL',hE,eq,hT,i0,hM,hA,hB,hH,hZ,hZ']
        ·
         simp -implicitDefEqProofs [pS,lP,mV,e0,e1,e2,e3,e4,eb,ee,mI,hk,putCells,kN,lR,lM,mU,pT,hN,hU,hL,hL',hE,eq,hT,i0,hM,hA,hB,hH]
       ·
        have hB':0 < x.body.length:=by omega
        simp -implicitDefEqProofs [pS,lP,mV,e0,e1,e2,e3,e4,eb,ee,mI,hk,putCells,kN,lR,lM,mU,pT,hN,hU,hL,hL',hE,eq,hT,i0,hM,hA,hB,hB']
      ·
       simp -implicitDefEqProofs [pS,lP,mV,e0,e1,e2,e3,e4,eb,ee,mI,hk,putCells,kN,lR,lM,mU,pT,hN,hU,hL,hL',hE,eq,hT,i0,hM,hA]
     ·
      rw [decide_eq_false hT] at eq
      simp -implicitDefEqProofs [pS,lP,mV,e0,e1,e2,e3,e4,eb,ee,mI,hk,putCells,kN,lR,lM,mU,pT,hN,hU,hL,hL',hE,eq,hT]
   ·
    have hL':¬(x.args.length:Int)=1:=by omega
    simp -implicitDefEqProofs [pS,lP,mV,e0,e1,e2,e3,e4,eb,ee,mI,hk,putCells,kN,lR,lM,mU,pT,hN,hU,hL,hL']
set_option maxHeartbeats 40000000 in
set_option maxRecDepth 100000 in
theorem aBV (x:GS) (hk:x.kind=8) (hs:GE.nJ x.args≤4611686018427387904) (hb:z6 x.body) (he:z6 x.els):Hc x:=by
 intro h
 refine lD rfl x.shut (lA (BS _ _ _) ?_)
 have e0:=ayL
 have e1:=c79 x.name
 have e2:=c80 x.r_
 have e3:=TX x.args hs
 have e4:=c67 x.ty
 have eb:=hb
 have ee:=he
 unfold z6 at eb ee
 rw [sI]
 cases hN:lJ x.name false
 ·
  simp -implicitDefEqProofs [pS,lP,mV,e0,e1,e2,e3,e4,eb,ee,mI,hk,putCells,kN,lR,lM,mU,pT,hN]
 ·
  cases hU:lB x.r_ false
  ·
   simp -implicitDefEqProofs [pS,lP,mV,e0,e1,e2,e3,e4,eb,ee,mI,hk,putCells,kN,lR,lM,mU,pT,hN,hU]
  ·
   by_cases hL:x.args.length=1
   ·
    have hL':(x.args.length:Int)=1:=by omega
    cases hE:nH x.args
    ·
     simp -implicitDefEqProofs [pS,lP,mV,e0,e1,e2,e3,e4,eb,ee,mI,hk,putCells,kN,lR,lM,mU,pT,hN,hU,hL,hL',hE]
    ·
     have eq:=Rn (t:=x.ty)
     by_cases hT:x.ty=GT.zero
     ·
      rw [decide_eq_true hT,hT] at eq
      by_cases hB:x.body.length=0
      ·
       cases hH:x.has
       ·
        by_cases hZ:x.els.length=0
        ·
         cases hP:nW x.body
         ·
          simp -implicitDefEqProofs [pS,lP,mV,e0,e1,e2,e3,e4,eb,ee,mI,hk,putCells,kN,lR,lM,mU,pT,hN,hU,hL,hL',hE,eq,hT,hB,hH,hZ,hP]
         ·
          simp -implicitDefEqProofs [pS,lP,mV,e0,e1,e2,e3,e4,eb,ee,mI,hk,putCells,kN,lR,lM,mU,pT,hN,hU,hL,hL',hE,eq,hT,hB,hH,hZ,hP]
        ·
         have hZ':0 < x.els.length:=by omega
         simp -implicitDefEqProofs [pS,lP,mV,e0,e1,e2,e3,e4,eb,ee,mI,hk,putCells,kN,lR,lM,mU,pT,hN,hU,hL,hL',hE,eq,hT,hB,hH,hZ,hZ']
       ·
        simp -implicitDefEqProofs [pS,lP,mV,e0,e1,e2,e3,e4,eb,ee,mI,hk,putCells,kN,lR,lM,mU,pT,hN,hU,hL,hL',hE,eq,hT,hB,hH]
      ·
       have hB':0 < x.body.length:=by omega
       simp -implicitDefEqProofs [pS,lP,mV,e0,e1,e2,e3,e4,eb,ee,mI,hk,putCells,kN,lR,lM,mU,pT,hN,hU,hL,hL',hE,eq,hT,hB,hB']
     ·
      rw [decide_eq_false hT] at eq
      simp -implicitDefEqProofs [pS,lP,mV,e0,e1,e2,e3,e4,eb,ee,mI,hk,putCells,kN,lR,lM,mU,pT,hN,hU,hL,hL',hE,eq,hT]
   ·
    have hL':¬(x.args.length:Int)=1:=by omega
    simp -implicitDefEqProofs [pS,lP,mV,e0,e1,e2,e3,e4,eb,ee,mI,hk,putCells,kN,lR,lM,mU,pT,hN,hU,hL,hL']
end
section
open Go Hk
theorem Yd {h:kP}:lL 11 h (.agg [.int .i64 0,.int .i64 0,.int .i64 0,.str [],.int .i64 0,.int .i64 0,.int .i64 0,.slice [] .nil,.slice [] .nil,.slice [] .nil,.bool false]) =
  some (.ptr h.length 0,h++[.cells [.int .i64 0,.int .i64 0,.int .i64 0,.str [],.int .i64 0,.int .i64 0,.int .i64 0,.slice [] (.own (h.length+1)),.slice [] (.own (h.length+2)),.slice [] (.own (h.length+3)),.bool false],.front 0 0,.front 0 0,.front 0 0]):=by
 simp [lL,lF]
theorem YD {x:GS}{h:kP}{os:List kM}:pV h os x.cells=x.cells:=rA (by cases x; simp [GS.cells,kM.isNil])
theorem agR {l:List GS}{i:Nat}{x:GS}(h:l[i]?=some x):∀hh:i < l.length,l[i]'hh=x:=fun hh=>by rw [ab3 hh] at h; exact Option.some.inj h
theorem av9 {x:GS}{cs:List kM}(h:cs.length=11):putCells cs 0 x.cells=x.cells:=by simp [putCells,h]
theorem agU {x:GS}:(∀c,c∈x.cells→c.mE=true)=True:=eq_true (by have:=x.T3; rwa [ae8] at this)
theorem aiJ (l:List GS) (hok:∀x∈l,Hc x) (hl:l.length≤4611686018427387904) :
  (l.all pX=true→mJ (GM KK 0) ([.bool false,.slice (l.map GS.cells) .no,.int .i64 (l.length:Int),.int .i64 0],[]) =
   some (.exit 0,[.bool false,.slice (l.map GS.cells) .no,.int .i64 (l.length:Int),.int .i64 (l.length:Int)],[])) ∧
  (l.all pX=false→∃i:Nat,mJ (GM KK 0) ([.bool false,.slice (l.map GS.cells) .no,.int .i64 (l.length:Int),.int .i64 0],[]) =
   some (.ret,[.bool false,.slice (l.map GS.cells) .no,.int .i64 (l.length:Int),.int .i64 (i:Int)],[])):=by
 have main:=Ao (F:=GM KK 0) l pX (fun i=>([.bool false,.slice (l.map GS.cells) .no,.int .i64 (l.length:Int),.int .i64 (i:Int)],[]))
  (fun i=>(.ret,[.bool false,.slice (l.map GS.cells) .no,.int .i64 (l.length:Int),.int .i64 (i:Int)],[])) (.exit 0,[.bool false,.slice (l.map GS.cells) .no,.int .i64 (l.length:Int),.int .i64 (l.length:Int)],[]) ?_ ?_ (fun _=>by simp) ?_ (by simp)
 ·exact main
 ·intro i x hx hw
  have h:i < l.length:=(ab0.1 hx).1
  have w1:=rU (a:=i) (by omega)
  have hc:=hok x (ad8 hx)
  unfold Hc at hc
  simp -implicitDefEqProofs [GM,h,agR hx,Yd,YD,av9,agU,hc,hw,w1,nS,-af8]
 ·intro i x hx hw
  have h:i < l.length:=(ab0.1 hx).1
  have hc:=hok x (ad8 hx)
  unfold Hc at hc
  simp -implicitDefEqProofs [GM,h,agR hx,Yd,YD,av9,agU,hc,hw,nS]
 ·simp -implicitDefEqProofs [GM,nS]
theorem c66 (l:List GS) (hok:∀x∈l,Hc x) (hl:l.length≤4611686018427387904):z6 l:=by
 intro h
 refine lD rfl (by simp [kM.nP,kM.pE,qA]) (lA (aAZ _ _ _) ?_)
 obtain⟨h1,h2⟩:=aiJ l hok hl
 rw [wD]
 cases hw:l.all pX with
 | true=>simp -implicitDefEqProofs [m66,h1 hw,kN]
 | false =>
  obtain⟨i,hi⟩:=h2 hw
  simp -implicitDefEqProofs [m66,hi,kN]
theorem AX (l:List GS):l.length≤GS.nJ l:=by
 induction l with
 | nil=>simp
 | cons y r ih=>cases y; simp only [GS.nJ,GS.size,ac1]; omega
theorem GS.size_eq (x:GS):x.size=1+GE.nJ x.args+GS.nJ x.body+GS.nJ x.els:=by cases x; simp only [GS.size]; rfl
set_option maxRecDepth 100000 in
theorem aaQ (x:GS) (hk:¬(1≤x.kind∧x.kind≤8)):Hc x:=by
 intro h
 refine lD rfl x.shut (lA (BS _ _ _) ?_)
 have e0:=ayD x.kind hk
 have hw:pX x=false:=by
  rw [sI]
  have:lR x.kind x.r_ x.name x.ty x.args x.body.length x.els.length x.has=false:=by
   cases hn:lR x.kind x.r_ x.name x.ty x.args x.body.length x.els.length x.has with
   | false=>rfl
   | true=>exact absurd (Ck hn) hk
  rw [this]; rfl
 rw [hw]
 simp -implicitDefEqProofs [pS,lP,mV,e0,mI,putCells,kN]
theorem aIU:∀(n:Nat) (x:GS),x.size≤n→n≤4611686018427387904→Hc x:=by
 intro n
 induction n with
 | zero=>intro x hn; cases x; simp [GS.size] at hn
 | succ n ih =>
  intro x hn hb
  rw [GS.size_eq] at hn
  have h1:=AX x.body
  have h2:=AX x.els
  have hB:z6 x.body:=c66 _ (fun y hy=>ih y (by have:=GS.oO hy; omega) (by omega)) (by omega)
  have hE:z6 x.els:=c66 _ (fun y hy=>ih y (by have:=GS.oO hy; omega) (by omega)) (by omega)
  have ha:GE.nJ x.args≤4611686018427387904:=by omega
  by_cases hk:1≤x.kind∧x.kind≤8
  ·rcases Re hk with h | h | h | h | h | h | h | h
   ·exact aBO x h ha hB hE
   ·exact aBP x h ha hB hE
   ·exact aBQ x h ha hB hE
   ·exact aBR x h ha hB hE
   ·exact aBS x h ha hB hE
   ·exact aBT x h ha hB hE
   ·exact aBU x h ha hB hE
   ·exact aBV x h ha hB hE
  ·exact aaQ x hk
theorem aJo (l:List GS) (hs:GS.nJ l≤4611686018427387904):z6 l:=c66 l (fun x hx=>aIU _ x (GS.oO hx) hs) (by have:=AX l; omega)
def GF.size (f:GF):Nat:=1+f.params.length+GS.nJ f.body
theorem wQ {x:GF}{h:kP}:lL 8 h (.agg x.cells)=some (.ptr h.length 0,h++[.cells x.cells]):=by
 simp [lL,x.tok,x.T3]
theorem Q_ {h:kP}:lL 6 h (.agg [.int .i64 0,.str [],.int .i64 0,.int .i64 0,.int .i64 0,.bool false])=some (.ptr h.length 0,h++[.cells [.int .i64 0,.str [],.int .i64 0,.int .i64 0,.int .i64 0,.bool false]]):=by
 simp [lL,lF]
theorem GF.shut (x:GF):([kM.agg x.cells].all (kM.nP 0))=true:=by simp [GF.cells,kM.nP,kM.pE,qA]
theorem Ph {l:List GP}{i:Nat}{x:GP}(h:l[i]?=some x):∀hh:i < l.length,l[i]'hh=x:=fun hh=>by rw [ab3 hh] at h; exact Option.some.inj h
theorem RK {x:GP}{h:kP}{os:List kM}:pV h os x.cells=x.cells:=rA (by simp [GP.cells,kM.isNil])
theorem aBC {x:GP}{cs:List kM}(h:cs.length=6):putCells cs 0 x.cells=x.cells:=by simp [putCells,h]
theorem Wt {x:GP}:(∀c,c∈x.cells→c.mE=true)=True:=eq_true (by have:=x.T3; rwa [ae8] at this)
@[simp] theorem GP.aMj (x:GP):x.cells.take 6=x.cells:=rfl
theorem Xw {f:GF}{C:List lG}:l_ 1 (.cells f.cells::C)=some [.cells f.cells]:=by simp [l_,f.still]
theorem ah5 (f:GF) (l:List GP) (hl:l.length≤4611686018427387904) :
  (l.all uU=true→mJ (E2 KK 1) ([.ptr 0 0,.bool false,.slice (l.map GP.cells) .no,.int .i64 (l.length:Int),.int .i64 0],[.cells f.cells]) =
   some (.exit 0,[.ptr 0 0,.bool false,.slice (l.map GP.cells) .no,.int .i64 (l.length:Int),.int .i64 (l.length:Int)],[.cells f.cells])) ∧
  (l.all uU=false→∃i:Nat,mJ (E2 KK 1) ([.ptr 0 0,.bool false,.slice (l.map GP.cells) .no,.int .i64 (l.length:Int),.int .i64 0],[.cells f.cells]) =
   some (.ret,[.ptr 0 0,.bool false,.slice (l.map GP.cells) .no,.int .i64 (l.length:Int),.int .i64 (i:Int)],[.cells f.cells])):=by
 have q0:∀h o,kM.mP 1 h (.ptr 0 o)=.ptr 0 o:=fun h o=>lE (by omega)
 have main:=Ao (F:=E2 KK 1) l uU (fun i=>([.ptr 0 0,.bool false,.slice (l.map GP.cells) .no,.int .i64 (l.length:Int),.int .i64 (i:Int)],[.cells f.cells]))
  (fun i=>(.ret,[.ptr 0 0,.bool false,.slice (l.map GP.cells) .no,.int .i64 (l.length:Int),.int .i64 (i:Int)],[.cells f.cells])) (.exit 0,[.ptr 0 0,.bool false,.slice (l.map GP.cells) .no,.int .i64 (l.length:Int),.int .i64 (l.length:Int)],[.cells f.cells]) ?_ ?_ (fun _=>by simp) ?_ (by simp)
 ·exact main
 ·intro i x hx hw
  have h:i < l.length:=(ab0.1 hx).1
  have w1:=rU (a:=i) (by omega)
  have e1:=c65 x.name
  have e2:=c67 x.ty
  simp only [uU,ac5] at hw
  simp -implicitDefEqProofs [E2,h,Ph hx,Q_,RK,aBC,Wt,e1,e2,hw.1,hw.2,w1,kT,Xw,q0,-af8]
 ·intro i x hx hw
  have h:i < l.length:=(ab0.1 hx).1
  have e1:=c65 x.name
  have e2:=c67 x.ty
  simp only [uU] at hw
  cases hn:qR x.name with
  | false=>simp -implicitDefEqProofs [E2,h,Ph hx,Q_,RK,aBC,Wt,e1,e2,hn,kT,Xw,q0]
  | true =>
   rw [hn,Bool.true_and] at hw
   simp -implicitDefEqProofs [E2,h,Ph hx,Q_,RK,aBC,Wt,e1,e2,hn,hw,kT,Xw,q0]
 ·simp -implicitDefEqProofs [E2,kT,Xw,q0]
theorem c31 (f:GF) (hs:f.size≤4611686018427387904) (h:kP):KK 31 [.agg f.cells] h=some (.ret (.bool (o0 f)),h):=by
 refine lD rfl f.shut (lA (aAF _ _ _) ?_)
 unfold GF.size at hs
 have e1:=c65 f.name
 have e2:=aJo f.body (by omega)
 unfold z6 at e2
 have e3:=c67 f.result
 have eq:=Rn (t:=f.result)
 obtain⟨h1,h2⟩:=ah5 f f.params (by omega)
 have g0:∀h:4 < f.cells.length,f.cells[4]'h=.int .i64 f.result.elem:=fun _=>rfl
 have g1:∀h:5 < f.cells.length,f.cells[5]'h=.int .i64 f.result.len:=fun _=>rfl
 unfold o0
 cases hN:qR f.name with
 | false=>simp -implicitDefEqProofs [m31,wQ,e1,hN,kN]
 | true =>
  cases hS:nW f.body with
  | false=>simp -implicitDefEqProofs [m31,wQ,e1,e2,hN,hS,kN]
  | true =>
   cases hP:f.params.all uU with
   | false =>
    obtain⟨i,hi⟩:=h2 hP
    simp -implicitDefEqProofs [m31,wQ,e1,e2,hN,hS,hi,kN]
   | true =>
    have hi:=h1 hP
    cases hH:f.has with
    | false =>
     simp -implicitDefEqProofs [m31,wQ,e1,e2,hN,hS,hi,hH,pT,eq,kN,mU]
    | true =>
     cases hT:sJ f.result with
     | false=>simp -implicitDefEqProofs [m31,wQ,e1,e2,e3,hN,hS,hi,hH,hT,kN]
     | true =>
      by_cases hL:f.result.len=0
      ·by_cases hE:f.result.elem=2
       ·simp -implicitDefEqProofs [m31,wQ,e1,e2,e3,hN,hS,hi,hH,hT,hL,hE,g0,g1,kN]
       ·simp -implicitDefEqProofs [m31,wQ,e1,e2,e3,hN,hS,hi,hH,hT,hL,hE,g0,g1,kN]
      ·simp -implicitDefEqProofs [m31,wQ,e1,e2,e3,hN,hS,hi,hH,hT,hL,g0,g1,kN]
end
section
open Go Hk
def oT (l:List GF):List kM:=[.slice (l.map GF.cells) .no]
theorem yY (l:List GF) (m:Nat) (h:kP):nI m h (oT l)=some (oT l):=by simp [oT]
theorem Yc {h:kP}:lL 8 h (.agg [.int .i64 0,.str [],.slice [] .nil,.bool false,.int .i64 0,.int .i64 0,.int .i64 0,.slice [] .nil]) =
  some (.ptr h.length 0,h++[.cells [.int .i64 0,.str [],.slice [] (.own (h.length+1)),.bool false,.int .i64 0,.int .i64 0,.int .i64 0,.slice [] (.own (h.length+2))],.front 0 0,.front 0 0]):=by
 simp [lL,lF]
theorem aa7 {l:List GF}{i:Nat}{x:GF}(h:l[i]?=some x):∀hh:i < l.length,l[i]'hh=x:=fun hh=>by rw [ab3 hh] at h; exact Option.some.inj h
theorem RJ {x:GF}{h:kP}{os:List kM}:pV h os x.cells=x.cells:=rA (by simp [GF.cells,kM.isNil])
theorem aBD {x:GF}{cs:List kM}(h:cs.length=8):putCells cs 0 x.cells=x.cells:=by simp [putCells,h]
theorem agS {x:GF}:(∀c,c∈x.cells→c.mE=true)=True:=eq_true (by have:=x.T3; rwa [ae8] at this)
@[simp] theorem GF.aMk (x:GF):x.cells.take 8=x.cells:=rfl
theorem trG {l:List GF}{C:List lG}:l_ 1 (.cells (oT l)::C)=some [.cells (oT l)]:=by simp [l_,yY]
theorem az1 {x:GF}{h:kP}:mA true 8 h (.pptr x.cells)=some (.agg x.cells):=by simp [mA]
theorem abW (l:List GF) (hs:∀f∈l,f.size≤4611686018427387904) (hl:l.length≤4611686018427387904) :
  (l.all o0=true→mJ (GG KK 1) ([.ptr 0 0,.str [],.int .i64 0,.slice (l.map GF.cells) .no,.int .i64 (l.length:Int),.int .i64 0],[.cells (oT l)]) =
   some (.exit 0,[.ptr 0 0,.str [],.int .i64 0,.slice (l.map GF.cells) .no,.int .i64 (l.length:Int),.int .i64 (l.length:Int)],[.cells (oT l)])) ∧
  (l.all o0=false→∃i:Nat,mJ (GG KK 1) ([.ptr 0 0,.str [],.int .i64 0,.slice (l.map GF.cells) .no,.int .i64 (l.length:Int),.int .i64 0],[.cells (oT l)]) =
   some (.ret,[.ptr 0 0,.str [],.int .i64 2,.slice (l.map GF.cells) .no,.int .i64 (l.length:Int),.int .i64 (i:Int)],[.cells (oT l)])):=by
 have q0:∀h o,kM.mP 1 h (.ptr 0 o)=.ptr 0 o:=fun h o=>lE (by omega)
 have main:=Ao (F:=GG KK 1) l o0 (fun i=>([.ptr 0 0,.str [],.int .i64 0,.slice (l.map GF.cells) .no,.int .i64 (l.length:Int),.int .i64 (i:Int)],[.cells (oT l)]))
  (fun i=>(.ret,[.ptr 0 0,.str [],.int .i64 2,.slice (l.map GF.cells) .no,.int .i64 (l.length:Int),.int .i64 (i:Int)],[.cells (oT l)])) (.exit 0,[.ptr 0 0,.str [],.int .i64 0,.slice (l.map GF.cells) .no,.int .i64 (l.length:Int),.int .i64 (l.length:Int)],[.cells (oT l)]) ?_ ?_ (fun _=>by simp) ?_ (by simp)
 ·exact main
 ·intro i x hx hw
  have h:i < l.length:=(ab0.1 hx).1
  have w1:=rU (a:=i) (by omega)
  have e1:=c31 x (hs x (ad8 hx))
  have st:∀cs C,aa1 cs=8→pU 8 (.cells (oT l)::.cells cs::C) (.ptr 1 0) (.agg x.cells)=some (.cells (oT l)::.cells x.cells::C):=fun cs C hc=>by
   simp [pU,BO,RJ,aBD hc,agS,hc]
  have ld:∀C,mA true 8 (.cells (oT l)::.cells x.cells::C) (.ptr 1 0)=some (.agg x.cells):=fun C=>by simp [mA,BO]
  simp -implicitDefEqProofs [GG,h,aa7 hx,az1,Yc,st,ld,e1,hw,w1,kT,trG,q0,-af8]
 ·intro i x hx hw
  have h:i < l.length:=(ab0.1 hx).1
  have e1:=c31 x (hs x (ad8 hx))
  have st:∀cs C,aa1 cs=8→pU 8 (.cells (oT l)::.cells cs::C) (.ptr 1 0) (.agg x.cells)=some (.cells (oT l)::.cells x.cells::C):=fun cs C hc=>by
   simp [pU,BO,RJ,aBD hc,agS,hc]
  have ld:∀C,mA true 8 (.cells (oT l)::.cells x.cells::C) (.ptr 1 0)=some (.agg x.cells):=fun C=>by simp [mA,BO]
  simp -implicitDefEqProofs [GG,h,aa7 hx,az1,Yc,st,ld,e1,hw,kT,trG,q0]
 ·simp -implicitDefEqProofs [GG,kT,trG,q0]
def uL (l:List GF) (i:Nat):List UInt8:=((l.take i).map vE).flatten
def uE (l:List GF) (i:Nat):Nat:=qJ ((l.take i).map vA)
theorem NU {l:List GF}{i:Nat}{x:GF}(h:l[i]?=some x):uL l (i+1)=uL l i++vE x:=by simp [uL,tK h]
theorem NS {l:List GF}{i:Nat}{x:GF}(h:l[i]?=some x):uE l (i+1)=max (uE l i) (vA x):=by simp [uE,tK h,Jl]
theorem UZ (l:List GF) (i:Nat):(uL l i).length≤(uL l l.length).length:=by
 have:uL l l.length=uL l i++((l.drop i).map vE).flatten:=by
  unfold uL
  rw [←List.flatten_append,←am3,List.take_append_drop,List.take_length]
 rw [this]; simp
theorem ajK (l:List GF) (i:Nat):uE l i≤uE l l.length:=by
 have:uE l l.length=qJ ((l.take i).map vA++(l.drop i).map vA):=by
  unfold uE
  rw [←am3,List.take_append_drop,List.take_length]
 rw [this]
 exact NH _ _
def yC (w:WS) (l:List GF):Nat→WS
 | 0=>w
 | i+1=>w.st (uL l (i+1)) (uE l (i+1)) 0
theorem axW {w:WS}{B:List lG}:lL 8 (WH w B) (.agg [.int .i64 0,.str [],.slice [] .nil,.bool false,.int .i64 0,.int .i64 0,.int .i64 0,.slice [] .nil]) =
  some (.ptr (B.length+3) 0,WH w (B++[.cells [.int .i64 0,.str [],.slice [] (.own (B.length+4)),.bool false,.int .i64 0,.int .i64 0,.int .i64 0,.slice [] (.own (B.length+5))],.front 0 0,.front 0 0])):=by
 simp [lL,lF,nF,pC]
theorem stF {w:WS}{B C:List lG}{cs:List kM}{x:GF}(hc:cs.length=8):pU 8 (WH w (B++.cells cs::C)) (.ptr (B.length+3) 0) (.agg x.cells)=some (WH w (B++.cells x.cells::C)):=by
 have e:=Ws (w:=w) (B:=B) (C:=C) (cs:=cs)
 simp only [pU,BO,e,DX,mY,ad9,Fv,GF.q8,hc]
 rw [if_pos ⟨trivial,by omega,x.T3⟩,RJ,aBD hc,aj7]
theorem abX {w:WS}(l:List GF) (hw:l.all o0=true) (h0:w.ln=0) (hl:l.length≤4611686018427387904) (hb:w.bs.length+(uL l l.length).length≤1099511627776) (hn:w.now+uE l l.length≤1000000000000000):∀i,i≤l.length →
  mJ (R3 KK 3) ([.str [],.int .i64 0,.ptr 1 0,.slice (l.map GF.cells) .no,.int .i64 (l.length:Int),.int .i64 (i:Int)],WH (yC w l i) []) =
   some (.exit 2,[.str [],.int .i64 0,.ptr 1 0,.slice (l.map GF.cells) .no,.int .i64 (l.length:Int),.int .i64 (l.length:Int)],WH (yC w l l.length) []):=by
 refine tM (fun i:Nat=>([.str [],.int .i64 0,.ptr 1 0,.slice (l.map GF.cells) .no,.int .i64 (l.length:Int),.int .i64 (i:Int)],WH (yC w l i) [])) (fun i=>i≤l.length) (fun i=>l.length - i) _ fun i hi=>?_
 have htr:=fun w C=>oD (w:=w) (B:=[]) (C:=C) oC
 simp only [ah4,ac6,al6] at htr
 have q0:∀h o,kM.mP 3 h (.ptr 1 o)=.ptr 1 o:=fun h o=>lE (by omega)
 by_cases h:i < l.length
 ·left
  refine⟨i+1,?_,h,by omega,rfl⟩
  obtain⟨x,hx⟩:∃x,l[i]?=some x:=⟨l[i],ab3 h⟩
  have w1:=rU (a:=i) (by omega)
  have t1:=NU hx
  have t2:=NS hx
  have t3:=UZ l (i+1)
  have t4:=ajK l (i+1)
  rw [t1,ab5] at t3
  rw [t2] at t4
  have hx1:o0 x=true:=ae8.1 hw x (ad8 hx)
  have s2:Still [.cells x.cells,.front 0 0,.front 0 0]:=Fh (mN (mN oC))
  have hz:=axW (w:=yC w l i) (B:=[])
  have hst:=fun C cs (hc:aa1 cs=8)=>stF (w:=yC w l i) (B:=[]) (C:=C) (x:=x) hc
  have hld:=fun C=>aJV (w:=yC w l i) (B:=[]) (C:=C) (cs:=x.cells) (n:=8) (i:=0)
  have hbs:(yC w l i).bs=w.bs++uL l i:=by cases i <;> simp [yC,uL]
  have hnow:(yC w l i).now=w.now:=by cases i <;> simp [yC]
  have hln:(yC w l i).ln=0:=by cases i <;> simp [yC,h0]
  have e1:=c32 (w:=yC w l i) x hx1 hln s2 (by rw [hbs,ab5]; omega) (by rw [hnow]; omega)
  have hres:(yC w l i).st (vE x) (vA x) 0=yC w l (i+1):=by
   cases i with
   | zero =>
    have a1:uL l 0=[]:=rfl
    have a2:uE l 0=0:=rfl
    simp only [yC,t1,t2,a1,a2,ah4]
    exact WS.Bw rfl (by omega) rfl
   | succ j =>
    simp only [yC,WS.akI,t1,t2]
    exact WS.Bw rfl (by simp) rfl
  rw [hres] at e1
  simp only [ah4,ac6,al6] at hz hst hld
  simp -implicitDefEqProofs [R3,h,aa7 hx,az1,hz,hst,hld,e1,w1,kT,htr,q0,-af8]
 ·right
  have:i=l.length:=by omega
  subst this
  have htr0:=fun w=>tA (w:=w) (B:=[]) oC
  simp only [ac6,al6] at htr0
  constructor
  ·simp -implicitDefEqProofs [R3,kT,htr0,q0]
  ·simp
theorem c14 (l:List GF) (hs:∀f∈l,f.size≤4611686018427387904) (hl:l.length≤4611686018427387904) (hb:l.all o0=true→(uL l l.length).length≤1099511627776) (hn:l.all o0=true→uE l l.length≤1000000000000000) (h:kP) :
  KK 14 [.agg (oT l)] h=some (.ret (.tuple [.str (qE l).1,.int .i64 (qE l).2]),h):=by
 refine lD rfl (by simp [oT,kM.nP,kM.pE,qA]) (lA (aAi _ _ _) ?_)
 have hnew:∀h,lL 1 h (.agg (oT l))=some (.ptr h.length 0,h++[.cells (oT l)]):=fun h=>by
  have:lF (h.length+1) (oT l)=(oT l,[]):=uN (by simp [oT,kM.isNil])
  simp [lL,this]; simp [oT,kM.mE]
 have ld:mA false 1 [.cells (oT l)] (.ptr 0 0)=some (.slice (l.map GF.cells) .no):=rfl
 obtain⟨h1,h2⟩:=abW l hs hl
 unfold qE
 have ht:((l.map vE).flatten)=uL l l.length:=by simp [uL]
 have hnn:qJ (l.map vA)=uE l l.length:=by simp [uE]
 rw [ht,hnn]
 cases hw:l.all o0 with
 | false =>
  obtain⟨i,hi⟩:=h2 hw
  simp -implicitDefEqProofs [m14,hnew,ld,hi,kN]
 | true =>
  have hi:=h1 hw
  have e1:=abX (w:=WS.new (oT l) (yY l)) l hw rfl hl (by simpa using hb hw) (by simpa using hn hw) 0 (ah8 _)
  obtain⟨H,e3⟩:=c33 (w:=yC (WS.new (oT l) (yY l)) l l.length) (B:=[]) oC
  have ld2:mA false 1 (WH (WS.new (oT l) (yY l)) []) (.ptr 0 0)=some (.slice (l.map GF.cells) .no):=rfl
  have hov:(yC (WS.new (oT l) (yY l)) l l.length).over=decide (64 < uE l l.length):=by
   cases hll:l.length with
   | zero=>rfl
   | succ j=>simp only [yC]; exact UN _ _ _ _ _
  have hbs:(yC (WS.new (oT l) (yY l)) l l.length).bs=uL l l.length:=by
   cases hll:l.length with
   | zero=>rfl
   | succ j=>simp [yC]
  have hp0:yC (WS.new (oT l) (yY l)) l 0=WS.new (oT l) (yY l):=rfl
  rw [hp0] at e1
  rw [hov,hbs] at e3
  simp only [ab9] at e1
  by_cases hd:64 < uE l l.length
  ·rw [decide_eq_true hd] at e3
   simp -implicitDefEqProofs at e3
   simp -implicitDefEqProofs [m14,hnew,ld,hi,asB,asC (oT l) (yY l),ld2,nF,e1,e3,hd,kN]
  ·rw [decide_eq_false hd] at e3
   simp -implicitDefEqProofs at e3
   simp -implicitDefEqProofs [m14,hnew,ld,hi,asB,asC (oT l) (yY l),ld2,nF,e1,e3,hd,kN]
end
section
open Go Hk

end
section
open Go Hk

end
section
open Go Hk

end
section
open Go Hk

end
section
open Go Hk

end
section
open Go Hk

end
section
open Go Hk

end
section
open Go Hk

end
section
open Go Hk

end
section
open Go Hk

end
section
open Go Hk

end
section
open Go Hk

end
section
open Go Hk
mutual
def wE:GE→Nat
 | .mk _ _ _ name args=>name.length+60+FY args
def FY:List GE→Nat
 | []=>0
 | x::r=>wE x+4+FY r
end
mutual
def wS:GS→Nat
 | .mk _ _ _ name _ args body els _=>name.length+120+FY args+FZ body+FZ els
def FZ:List GS→Nat
 | []=>0
 | x::r=>wS x+4+FZ r
end
mutual
def dS:GS→Nat
 | .mk _ _ _ _ _ _ body els _=>1+max (Fw body) (Fw els)
def Fw:List GS→Nat
 | []=>0
 | x::r=>max (dS x) (Fw r)
end
def wP (p:GP):Nat:=p.name.length+60
def VD:List GP→Nat
 | []=>0
 | p::r=>wP p+4+VD r
def wF (f:GF):Nat:=f.name.length+120+VD f.params+FZ f.body
def J1:List GF→Nat
 | []=>0
 | f::r=>wF f+J1 r
theorem ac2 (k:Int):(qG k).length≤6:=by
 unfold qG
 cases h:(([[],[],[],[],[],[126],[45],[33],[43],[45],[42],[38],[124],[94],[60,60],[62,62],[114,111,114],[61,61],[33,61],[60],[60,61],[62],[62,61],
 [109,117,108,104,105],[99,97,114,114,121],[115,101,108,101,99,116],[119,111,114,100]]:List (List UInt8))[k.toNat]?) with
 | none=>simp
 | some s =>
  have hm:=ad8 h
  have key:∀s∈([[],[],[],[],[],[126],[45],[33],[43],[45],[42],[38],[124],[94],[60,60],[62,62],[114,111,114],[61,61],[33,61],[60],[60,61],[62],[62,61],
   [109,117,108,104,105],[99,97,114,114,121],[115,101,108,101,99,116],[119,111,114,100]]:List (List UInt8)),s.length≤6:=by decide
  exact key s hm
def pw (l:List Part):Nat:=match l with
 | []=>0
 | p::r=>p.2.1.length+4+pw r
def pd (l:List Part):Nat:=match l with
 | []=>0
 | p::r=>p.2.2+4+pd r
theorem aj6:∀l:List Part,(vL l).length≤pw l
 | []=>by simp [vL,pw]
 | [p]=>by simp only [vL,pw]; omega
 | p::q::r=>by
  have:=aj6 (q::r)
  simp only [vL,ab5,ac1,pw] at this ⊢
  omega
theorem aiS:∀l:List Part,wH l≤pd l
 | []=>by simp [wH,pd]
 | p::r=>by
  have:=aiS r
  simp only [wH,pd]
  omega
theorem Lz (b:Bool) (p:Part):(uD b p).length≤p.2.1.length+2:=by
 cases b <;> simp [uD]
theorem Ly (b:Bool) (p:Part):sV b p≤p.2.2+1:=by
 cases b <;> simp [sV]
theorem asJ (k n:Int) (name:List UInt8) (l:List Part) (hn:n < 9223372036854775808):(yV k n name l).length≤name.length+60+pw l:=by
 have h1:=ac2 k
 have h2:=DI hn
 have h3:=aj6 l
 unfold yV
 split
 ·match l with
  | []=>simp
  | [a] =>
   have:=Lz (mX (lK k) a.1) a
   simp only [ab5,ac1,pw]
   omega
  | a::b::r =>
   have:=Lz (mX (lK k) a.1) a
   have:=Lz (decide (lK k < lK b.1)) b
   simp only [ab5,ac1,pw]
   omega
 ·split
  ·omega
  ·split
   ·omega
   ·split
    ·match l with
     | []=>simp
     | a::r=>simp only [ab5,ac1,ac6,pw]; omega
    ·split
     ·match l with
      | []=>simp
      | a::r =>
       have:=Lz (decide (lK a.1=8)) a
       simp only [ab5,pw]
       omega
     ·split <;> simp only [ab5,ac1,ac6] <;> omega
theorem asI (k:Int) (l:List Part):yJ k l≤60+pd l:=by
 have h3:=aiS l
 unfold yJ
 split
 ·match l with
  | []=>simp
  | [a] =>
   have:=Ly (mX (lK k) a.1) a
   simp only [pd]
   omega
  | a::b::r =>
   have:=Ly (mX (lK k) a.1) a
   have:=Ly (decide (lK k < lK b.1)) b
   simp only [pd]
   omega
 ·split
  ·omega
  ·split
   ·match l with
    | []=>simp
    | a::r=>simp only [pd]; omega
   ·split
    ·match l with
     | []=>simp
     | a::r =>
      have:=Ly (decide (lK a.1=8)) a
      simp only [pd]
      omega
    ·omega
mutual
theorem LN:∀x:GE,nT x=true→(lX x).2.1.length≤wE x∧(lX x).2.2≤wE x
 | .mk k p n name args,h=>by
  simp only [nT,ac5] at h
  have hn:n < 9223372036854775808:=by
   have h1:=h.1
   unfold rL at h1
   split at h1
   ·cases h1
   ·simp only [ac5] at h1
    have h2:=h1.2
    unfold lB at h2
    split at h2
    ·have:=vB.1 h2; omega
    ·have:n=0:=by simpa using h2
     omega
  obtain⟨h1,h2⟩:=Vu args h.2
  have h3:=asJ k n name (yA args) hn
  have h4:=asI k (yA args)
  simp only [lX,wE]
  exact⟨by omega,by omega⟩
theorem Vu:∀l:List GE,nH l=true→pw (yA l)≤FY l∧pd (yA l)≤FY l
 | [],_=>by simp [yA,pw,pd,FY]
 | x::r,h=>by
  simp only [nH,ac5] at h
  obtain⟨h1,h2⟩:=LN x h.1
  obtain⟨h3,h4⟩:=Vu r h.2
  simp only [yA,pw,pd,FY]
  exact⟨by omega,by omega⟩
end
theorem SN {x:GE}:∀{l:List GE},x∈l→wE x≤FY l
 | y::r,h=>by
  simp only [FY]
  cases h with
  | head=>omega
  | tail _ h=>have:=SN h; omega
theorem I9 {t:GT}(h:sJ t=true):(wI t).length≤26:=by
 have hlen:0≤t.len∧t.len≤4294967295:=by
  simp only [sJ,ac5] at h
  exact vB.1 h.1.2
 have:=DI (n:=t.len) (by omega)
 unfold wI
 rw [ab5]
 have a:(if t.elem=1 then [109,97,115,107] else if t.elem=2 then [117,56] else [117,51,50]:List UInt8).length≤4:=by
  split
  ·simp
  ·split <;> simp
 have b:(if 0 < t.len then 91::(vH t.len++[93]) else []:List UInt8).length≤22:=by
  split
  ·simp; omega
  ·simp
 omega
def tw (l:List (List UInt8)):Nat:=match l with
 | []=>0
 | p::r=>p.length+tw r
theorem ME (n:Nat) (l:List (List UInt8)):(oH n l).length=4+n+(tw l+l.length * (n+2)):=by
  unfold oH
  simp only [ac1,ab5,ac6,tD]
  have key:∀l:List (List UInt8),((l.map fun t=>qB (n+1)++t++[10]).flatten).length=tw l+l.length * (n+2):=by
   intro l
   induction l with
   | nil=>simp [tw]
   | cons x r ih =>
    simp only [ai3,List.flatten_cons,ab5,ac1,ac6,tD,ih,tw,al5]
    omega
  have:=key l
  omega
theorem V9 {args:List GE}{i:Nat}(h:nH args=true):(((args.map mG)[i]?).getD []).length≤FY args∧((args.map mB)[i]?).getD 0≤FY args:=by
 rw [ai6,ai6]
 cases hi:args[i]? with
 | none=>simp
 | some a =>
  have hm:=ad8 hi
  have hw:nT a=true:=by
   rw [wC,ae8] at h
   exact h a hm
  have h1:=LN a hw
  have h2:=SN hm
  simp only [Option.map_some,Option.getD_some]
  exact⟨by show(lX a).2.1.length≤_; omega,by show(lX a).2.2≤_; omega⟩
theorem Ye {args:List GE}(h:nH args=true):(((args.map mG)[0]?).getD []).length+(((args.map mG)[1]?).getD []).length≤FY args∧((args.map mB)[0]?).getD 0≤FY args∧((args.map mB)[1]?).getD 0≤FY args:=by
 refine⟨?_,(V9 h).2,(V9 h).2⟩
 match args with
 | []=>simp
 | [a]=>exact(V9 (i:=0) h).1
 | a::b::r =>
  simp only [nH,ac5] at h
  have h1:=LN a h.1
  have h2:=LN b h.2.1
  simp only [ai3,List.getElem?_cons_zero,List.getElem?_cons_succ,Option.getD_some,FY]
  show(lX a).2.1.length+(lX b).2.1.length≤_
  omega
theorem atQ {k m:Int}{name:List UInt8}{ty:GT}{args:List GE}{body els:List UInt8}{has:Bool}{nb ne:Nat}(hn:lR k m name ty args nb ne has=true) :
  (Cr k m name ty (args.map mG) body els has).length≤name.length+110+FY args+body.length+els.length:=by
 have hk:=Ck hn
 unfold lR at hn
 split at hn
 ·cases hn
 ·simp only [ac5] at hn
  have hwe:nH args=true:=by simp_all
  obtain⟨a1,a2,a3⟩:=Ye hwe
  have hm:(vH m).length≤20:=by
   have hm:lB m (k == 6)=true:=by simp_all
   refine DI ?_
   unfold lB at hm
   split at hm
   ·have:=vB.1 hm; omega
   ·have:m=0:=by simpa using hm
    omega
  have hl:(oV ty.label).length=4:=by unfold oV; split <;> rfl
  unfold Cr
  generalize ((args.map mG)[0]?).getD []=A at a1 ⊢
  generalize ((args.map mG)[1]?).getD []=D at a1 ⊢
  split
  ·simp only [ab5,ac1,ac6]; omega
  ·split
   ·rename_i h2
    have ht:sJ ty=true:=by
     have h3:(if (k == 2)=true then sJ ty else ty == GT.zero)=true:=by simp_all
     rw [if_pos (by simpa using h2)] at h3
     exact h3
    have:=I9 ht
    simp only [ab5,ac1,ac6,hl]; omega
   ·split
    ·simp only [ab5,ac1,ac6]; omega
    ·split
     ·simp only [ab5,ac1,ac6]; omega
     ·split
      ·have:(if has=true then [32,101,108,115,101]++els else []:List UInt8).length≤5+els.length:=by
        split
        ·simp; omega
        ·simp
       simp only [ab5,ac1,ac6]; omega
      ·split
       ·simp only [ab5,ac1,ac6]; omega
       ·split
        ·simp only [ab5,ac1,ac6]; omega
        ·simp only [ab5,ac1,ac6]; omega
theorem atP {k:Int}{args:List GE}{b e:Nat}{has:Bool}(hwe:nH args=true):ZG k (args.map mB) b e has≤1+FY args+b+e:=by
 obtain⟨a1,a2,a3⟩:=Ye hwe
 unfold ZG
 dsimp only
 generalize ((args.map mB)[0]?).getD 0=A at a2 ⊢
 generalize ((args.map mB)[1]?).getD 0=D at a3 ⊢
 split
 ·omega
 ·split
  ·omega
  ·split
   ·split <;> omega
   ·split <;> omega
theorem G6 (n:Nat):∀l:List GS,(oF n l).length=l.length
 | []=>rfl
 | x::r=>by simp [oF,G6 n r]
mutual
theorem atW:∀(x:GS) (n T:Nat),pX x=true→n+dS x≤T→(qI n x).length≤wS x * (T+1)
 | .mk k p m name ty args body els has,n,T,h,hd=>by
  simp only [pX,ac5] at h
  simp only [dS] at hd
  have h1:=atQ (body:=oH n (oF (n+1) body)) (els:=oH n (oF (n+1) els)) h.1.1
  have h2:=Iu body (n+1) T h.1.2 (by omega)
  have h3:=Iu els (n+1) T h.2 (by omega)
  have e1:=ME n (oF (n+1) body)
  have e2:=ME n (oF (n+1) els)
  rw [G6] at e1 e2
  have m1:body.length * (n+2)≤body.length * (T+1):=Nat.mul_le_mul_left _ (by omega)
  have m2:els.length * (n+2)≤els.length * (T+1):=Nat.mul_le_mul_left _ (by omega)
  have b1:(oH n (oF (n+1) body)).length≤4+n+FZ body * (T+1):=by omega
  have b2:(oH n (oF (n+1) els)).length≤4+n+FZ els * (T+1):=by omega
  simp only [qI,wS]
  have hT:name.length+110+FY args≤(name.length+110+FY args) * (T+1):=Nat.le_mul_of_pos_right _ (by omega)
  have h10:8+2 * n≤10 * (T+1):=by omega
  have:(name.length+120+FY args+FZ body+FZ els) * (T+1)=(name.length+110+FY args) * (T+1)+10 * (T+1)+FZ body * (T+1)+FZ els * (T+1):=by
   simp only [al5]; omega
  rw [this]
  omega
theorem Iu:∀(l:List GS) (n T:Nat),nW l=true→n+Fw l≤T→tw (oF n l)+l.length * (T+1)≤FZ l * (T+1)
 | [],_,_,_,_=>by simp [oF,tw,FZ]
 | x::r,n,T,h,hd=>by
  simp only [nW,ac5] at h
  simp only [Fw] at hd
  have h1:=atW x n T h.1 (by omega)
  have h2:=Iu r n T h.2 (by omega)
  simp only [oF,tw,FZ,ac1,al5] at h2 ⊢
  omega
end
mutual
theorem asA:∀(x:GS),pX x=true→qT x≤wS x
 | .mk k p m name ty args body els has,h=>by
  simp only [pX,ac5] at h
  have hwe:nH args=true:=by
   have hn:=h.1.1
   unfold lR at hn
   split at hn
   ·cases hn
   ·simp_all
  have h1:=atP (k:=k) (b:=qJ (nX body)+1) (e:=qJ (nX els)+1) (has:=has) hwe
  have h2:=H5 body h.1.2
  have h3:=H5 els h.2
  simp only [qT,wS]
  omega
theorem H5:∀(l:List GS),nW l=true→qJ (nX l)≤FZ l
 | [],_=>by simp [nX,qJ]
 | x::r,h=>by
  simp only [nW,ac5] at h
  have h1:=asA x h.1
  have h2:=H5 r h.2
  simp only [nX,qJ,FZ]
  omega
end
theorem UT {p:GP}(h:uU p=true):(qK p).length≤wP p:=by
 simp only [uU,ac5] at h
 have h1:=I9 h.2
 have hl:(oV p.ty.label).length=4:=by unfold oV; split <;> rfl
 have ho:(if p.out=true then [111,117,116,32] else []:List UInt8).length≤4:=by split <;> simp
 simp only [qK,ab5,ac1,ac6,hl,wP]
 omega
theorem aj5:∀{l:List GP},l.all uU=true→(xA (l.map qK)).length≤VD l
 | [],_=>by simp [xA]
 | [p],h=>by
  simp only [List.all_cons,List.all_nil,Bool.and_true] at h
  have:=UT h
  simp only [ai3,al1,xA,VD]
  omega
 | p::q::r,h=>by
  have hp:uU p=true:=by simp_all
  have hr:(q::r).all uU=true:=by simp_all
  have h1:=UT hp
  have h2:=aj5 hr
  simp only [ai3,xA,ab5,ac1,VD] at h2 ⊢
  omega
theorem atV {f:GF}{T:Nat}(h:o0 f=true) (hd:1+Fw f.body≤T):(vE f).length≤wF f * (T+1)∧vA f≤wF f:=by
 simp only [o0,ac5] at h
 obtain⟨⟨⟨_,hb⟩,hp⟩,hr⟩:=h
 have h1:=aj5 hp
 have h2:=Iu f.body 1 T hb hd
 have h3:=ME 0 (oF 1 f.body)
 have h4:=H5 f.body hb
 rw [G6] at h3
 have m1:f.body.length * (0+2)≤f.body.length * (T+1):=Nat.mul_le_mul_left _ (by omega)
 have hl:(oV f.result.label).length=4:=by unfold oV; split <;> rfl
 have hres:(if f.has=true then [58,32]++oV f.result.label++wI f.result else []:List UInt8).length≤40:=by
  split
  ·rename_i hh
   rw [if_pos hh] at hr
   simp only [ac5] at hr
   have:=I9 hr.1.1
   simp only [ab5,ac1,ac6,hl]
   omega
  ·simp
 refine⟨?_,by simp only [vA,wF]; omega⟩
 have e:(vE f).length≤f.name.length+70+VD f.params+(oH 0 (oF 1 f.body)).length:=by
  simp only [vE,ab5,ac1,ac6]
  omega
 have hT:f.name.length+120+VD f.params≤(f.name.length+120+VD f.params) * (T+1):=Nat.le_mul_of_pos_right _ (by omega)
 have:wF f * (T+1)=(f.name.length+120+VD f.params) * (T+1)+FZ f.body * (T+1):=by simp only [wF,al5]
 omega
end
section
open Go Hk
structure wG where
 at_:Int
 field:Int
 num:Int
 name:List UInt8
def wG.cells (c:wG):List kM:=[.int .i64 c.at_,.int .i64 c.field,.int .i64 c.num,.str c.name]
end
end Go.Proofs.YtlddmnojanpdoaaGreatDoor
