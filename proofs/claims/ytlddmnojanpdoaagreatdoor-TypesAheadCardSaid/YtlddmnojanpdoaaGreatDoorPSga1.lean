/-
  The texts SG.M, SG.M2, SG.A, SG.P, SG.G, one behind another. No conditions.
-/
import Derived.Test.YtlddmnojanpdoaaGreatDoorPLg1
set_option linter.unusedVariables false
set_option linter.unusedSimpArgs false
set_option linter.all false
open List renaming length → aa0
open Nat renaming le_refl → ac5
namespace Go.Proofs.YtlddmnojanpdoaaGreatDoor
noncomputable section
open Go Hk
def Zl (K:lB) (a0 a1:kM) (pv:Option kM) (h0:kP):Option kP :=
 ((zO 102 (.agg [(iq 0),(iq 0)]) (Option.getD pv .niliface)).bind fun t0=>(lH 0 t0).bind fun t1=>(lH 1 t0).bind fun t2=>kQ (lK 2 h0 (.agg [(iq 0),(iq 0)])) fun t3 h4=>(kR 2 h4 t3 t1).bind fun h5=>(lF t2 ((lS [(.slice [] .nil)] [(0,1)] []).bind fun t6=>(kO 0 t3).bind fun t7=>(kT true 2 h5 t7).bind fun t8=>(kR 1 (nL (kY [0] [t7]) h5) a0 t6).bind fun h9=>(kR 2 (lP (kY [0] [t7]) h5 h9) a1 t8).bind fun h10=>some (.normal,[],h10)) (some (.normal,[],h5))).bind fun r11=>(fun h12=>Ex.uC r11.1 (some (.normal,[],h12)))  r11.2.2).bind fun r=>Ex.Wu r.1 (l9 (aa0 h0) r.2.2)
def Xa (K:lB) (caps:List kM) (pv:Option kM) (h0:kP):Option kP:=Zl K (List.getD caps 0 .junk) (List.getD caps 1 .junk) pv h0
def NB (K:lB) (m:Nat) (s:St):Option R :=
 AE s fun aA aC aB aG=>kU (yK K 51 aB aG) (fun aM aE=>(sP false 1 0 aM).bind fun aN=>aq .neq aN (iq 0) ((kO 0 aA).bind fun aD=>(kT false 1 aE aD).bind fun aO=>kU (yK K 52 aB (nL (kY [0] [aD]) aE)) (fun aP aF=>kQ (kW 1 8 [(iq 0),(.str []),(.slice [] .nil),(.bool false),(iq 0),(iq 0),(iq 0),(.slice [] .nil)] [(0,aP)] (nL (kY [0] [aD]) (lP (kY [0] [aD]) aE aF))) fun aQ aJ=>kQ (mG 8 104 (lP (kY [0] [aD]) (lP (kY [0] [aD]) aE aF) aJ) aO aQ) fun aR aK=>(kO 0 aA).bind fun aS=>(kR 1 aK aS aR).bind fun aL=>kS m .normal [aA,aC,aB] aL) (fun v h'=>(fun aU aI=>kS m (.pan aU) [aA,aC,aB] aI) v (lP (kY [0] [aD]) aE h'))) (kS m (.exit 0) [aA,aC,aB] aE)) (fun aT aH=>kS m (.pan aT) [aA,aC,aB] aH)
def m25 (K:lB) (a0:kM) (h0:kP):OH :=
 (kQ (lK 1 h0 (.agg [(.slice [] .nil)])) fun t0 h1=>kQ (lK 2 h1 (.agg [(iq 0),(iq 0)])) fun t2 h3=>qX K 49 a0 h3 fun t4 h5=>(lH 0 t4).bind fun t6=>(lH 1 t4).bind fun t7=>(kR 2 h5 t2 t7).bind fun h8=>fq 0 t2 h8 fun aR=>aq .neq aR (iq 0) ((lS [(.slice [] .nil)] [(0,1)] []).bind fun aS=>(kT true 2 h8 t2).bind fun aT=>(kR 1 (nL (kY [0] [t2]) h8) t0 aS).bind fun aN=>(kR 2 (lP (kY [0] [t2]) h8 aN) t2 aT).bind fun aO=>some (.ret,[t0,t2],aO)) (((lS [(.slice [] .nil),(iq 0),(iq 0)] [(0,1),(1,1),(2,1)] [(0,t6)]).bind fun aU=>kQ (lK 3 h8 aU) fun aV aH=>(mI (NB K (aa0 aH)) ([t0,t2,aV],aH)).bind fun aI=>AE aI.2 fun aA aB aK aF=>Ex.lV aI.1 none (fun aL=>Ex.inBlock 0 aL ((kT true 1 aF aA).bind fun aW=>(lS [(iq 0),(iq 0)] [(0,1),(1,1)] []).bind fun aX=>(kR 1 aF aA aW).bind fun aP=>(kR 2 aP aB aX).bind fun aQ=>some (.ret,[aA,aB],aQ)) (fun aM=>some (aM,[aA,aB],aF)))).bind fun aE=>Ex.Rx aE.1 (Option.map (fun hh=>(.ret,aE.2.1,hh)) (Xa K [t0,t2] none aE.2.2)) (fun vv=>Option.map (fun hh=>(.ret,[t0,t2],hh)) (Xa K [t0,t2] (some vv) aE.2.2)))).bind fun aJ=>wN aJ.2 fun aC aD aG=>Ex.nA aJ.1 ((kT true 1 aG aC).bind fun aY=>(kT true 2 aG aD).bind fun aZ=>lY (aa0 h0) (.tuple [aY,aZ]) aG)
theorem aAM K a0 h0:o6 Tryz.prog mJ mI K 25 [a0] h0=m25 (lT mJ K) a0 h0:=by kernel_rfl
def H0 (K:lB) (m:Nat) (s:St):Option R :=
 B9 s fun aA aC aD aB bC=>kU (rR K 206 aA aC bC) (fun bA aF=>(lH 0 bA).bind fun aT=>(lH 1 bA).bind fun bP=>(vT .not bP).bind fun bQ=>lF bQ ((kT true 5 aF aB).bind fun bR=>(kR 5 aF aD bR).bind fun bE=>kS m .ret [aA,aC,aD,aB] bE) ((kT true 5 (aF++[.free,.free]) aB).bind fun bS=>kQ (qW ((aa0 aF)+0) 1 5 [(iq 0),(iq 0),(iq 0),(.str []),(.slice [] .nil)] [(0,bS)] (aF++[.free,.free])) fun bT bF=>kQ (vS ((aa0 aF)+1) 5 bF (.agg [(iq 0),(iq 0),(iq 0),(.str []),(.slice [] .nil)])) fun aJ aM=>bif (List.take (aa0 aF) aM).all (sS (aa0 aF)) then(kU (yK K 51 (vL (aa0 aF) aA) (nL (kY [0] [aB]) (List.take (aa0 aF) aM))) (fun bU bG=>nM bU (lP (kY [0] [aB]) (List.take (aa0 aF) aM) bG)) (fun v h'=>yS v (lP (kY [0] [aB]) (List.take (aa0 aF) aM) h'))).bind (EY (aa0 aF) aM fun bV bH=>(sP false 1 1 bV).bind fun bW=>(lS [(iq 0),(iq 0),(iq 0),(.str []),(.slice [] .nil)] [(0,1),(1,1),(2,1),(3,1),(4,1)] [(0,aT),(1,bW),(4,bT)]).bind fun bX=>(kR 5 bH aJ bX).bind fun aW=>(kZ aA).bind fun bY=>fq 1 bY aW fun bZ=>(kV .add bZ (iq 1)).bind fun b8=>(kZ aA).bind fun b9=>(kO 1 b9).bind fun b_=>(kR 1 aW b_ b8).bind fun aX=>(kV .eql aT (iq 14)).bind fun aU=>(lQ false aU (nM aT aX) (nM (.tuple []) aX)).bind (nT (fun cA aY=>(lQ false aU ((kV .eql cA (iq 15)).bind fun cB=>nM cB aY) (nM (.tuple []) aY)).bind (nT (fun cD aL=>(lN aU (.bool true) cD).bind fun cE=>(lF cE (kU (rR K 103 aA (iq 2) aL) (fun cF bJ=>(sP false 1 2 cF).bind fun cG=>(kO 2 aJ).bind fun cH=>(kR 1 bJ cH cG).bind fun bK=>some (.normal,[aA,aC,aD,aB,aJ],bK)) (fun cP bI=>some ((.pan cP),[aA,aC,aD,aB,aJ],bI))) ((kO 4 aJ).bind fun aK=>(kT false 1 aL aK).bind fun cI=>(kV .add aC (iq 1)).bind fun cJ=>kU (rR K 205 aA cJ (nL (kY [0] [aK]) aL)) (fun cK aZ=>kQ (kW 1 5 [(iq 0),(iq 0),(iq 0),(.str []),(.slice [] .nil)] [(0,cK)] (nL (kY [0] [aK]) (lP (kY [0] [aK]) aL aZ))) fun cL bM=>kQ (mG 5 64 (lP (kY [0] [aK]) (lP (kY [0] [aK]) aL aZ) bM) cI cL) fun cM bN=>(kO 4 aJ).bind fun cN=>(kR 1 bN cN cM).bind fun bO=>some (.normal,[aA,aC,aD,aB,aJ],bO)) (fun v h'=>(fun cQ bL=>some ((.pan cQ),[aA,aC,aD,aB,aJ],bL)) v (lP (kY [0] [aK]) aL h')))).bind fun a_=>EB a_.2 fun aG aH aI aE aN aO=>Ex.lV a_.1 ((kT true 5 aO aN).bind fun aS=>(kR 5 aO aE aS).bind fun aQ=>kS m .normal [aG,aH,aI,aE] aQ) (fun bB=>Ex.inBlock 1 bB (kS m .normal [aG,aH,aI,aE] aO) (fun aP=>kS m aP [aG,aH,aI,aE] aO))) (fun aV aR=>kS m (.pan aV) [aA,aC,aD,aB] aR))) (fun aV aR=>kS m (.pan aV) [aA,aC,aD,aB] aR))) else none)) (fun cO bD=>kS m (.pan cO) [aA,aC,aD,aB] bD)
def aAH (K:lB) (a0 a1:kM) (h0:kP):OH :=
 (kQ (lK 5 h0 (.agg [(iq 0),(iq 0),(iq 0),(.str []),(.slice [] .nil)])) fun t2 h3=>aq .gtr a1 (iq 6) (kU (yK K 220 a0 h3) (fun t9 aO=>(kR 5 aO t2 t9).bind fun aP=>some (.ret,[t2],aP)) (fun v7 h8=>some ((.pan v7),[t2],h8))) ((kV .add a1 (iq 1)).bind fun aT=>kU (rR K 205 a0 aT h3) (fun aU aR=>kQ (lK 5 aR (.agg [(iq 0),(iq 0),(iq 0),(.str []),(.slice [] .nil)])) fun aN aS=>(kR 5 aS aN aU).bind fun aM=>(mI (H0 K (aa0 aM)) ([a0,a1,t2,aN],aM)).bind fun aE=>B9 aE.2 fun aJ aK aA aL aD=>Ex.lV aE.1 none (fun aG=>Ex.inBlock 0 aG (some (.normal,[aA],aD)) (fun aH=>some (aH,[aA],aD)))) (fun aV aQ=>some ((.pan aV),[t2],aQ)))).bind fun aF=>sM aF.2 fun aC aB=>Ex.uZ aF.1 ((kT true 5 aB aC).bind fun aI=>lY (aa0 h0) aI aB) (fun v=>rE (aa0 h0) v aB)
theorem Zj K a0 a1 h0:o6 Tryz.prog mJ mI K 205 [a0,a1] h0=aAH (lT mJ K) a0 a1 h0:=by kernel_rfl
def m51 (K:lB) (a0:kM) (h0:kP):OH :=
 (kQ (lK 4 h0 (.agg [(iq 0),(iq 0),(iq 0),(.str [])])) fun t0 h1=>(kZ a0).bind fun t2=>fq 0 t2 h1 fun t4=>(kZ a0).bind fun t5=>fq 1 t5 h1 fun t7=>(kX 4 t4 t7).bind fun t8=>(kT true 4 h1 t8).bind fun t9=>(kR 4 h1 t0 t9).bind fun aD=>some (.ret,[t0],aD)).bind fun aC=>sM aC.2 fun aA aB=>Ex.nA aC.1 ((kT true 4 aB aA).bind fun aE=>lY (aa0 h0) aE aB)
theorem aA5 K a0 h0:o6 Tryz.prog mJ mI K 51 [a0] h0=m51 (lT mJ K) a0 h0:=by kernel_rfl
def aFb (K:lB) (a0 a1:kM) (h0:kP):OH :=
 (kU (rR K 150 a0 a1 h0) (fun t2 h3=>(vT .not t2).bind fun t4=>(lF t4 (kU (rR K 151 a0 (iq 10) h3) (fun t7 h8=>some (.normal,[a0],h8)) (fun v5 h6=>some ((.pan v5),[a0],h6))) (some (.normal,[a0],h3))).bind fun r9=>sM r9.2 fun aA aB=>Ex.lV r9.1 ((kZ aA).bind fun aG=>fq 1 aG aB fun aH=>(kV .add aH (iq 1)).bind fun aI=>(kZ aA).bind fun aJ=>(kO 1 aJ).bind fun aK=>(kR 1 aB aK aI).bind fun aF=>some (.normal,[],aF)) (fun aE=>some (aE,[],aB))) (fun v0 h1=>some ((.pan v0),[],h1))).bind fun aD=>(fun aC=>Ex.uZ aD.1 (lY (aa0 h0) (.tuple []) aC) (fun v=>rE (aa0 h0) v aC))  aD.2.2
theorem ap7 K a0 a1 h0:o6 Tryz.prog mJ mI K 102 [a0,a1] h0=aFb (lT mJ K) a0 a1 h0:=by kernel_rfl
def aFc (K:lB) (a0 a1:kM) (h0:kP):OH :=
 (kQ (lK 4 h0 (.agg [(iq 0),(iq 0),(iq 0),(.str [])])) fun t2 h3=>kU (yK K 51 a0 h3) (fun t6 h7=>kQ (lK 4 h7 (.agg [(iq 0),(iq 0),(iq 0),(.str [])])) fun t8 h9=>(kR 4 h9 t8 t6).bind fun aE=>fq 0 t8 aE fun aO=>(kV .neq aO a1).bind fun aP=>(lF aP (kU (rR K 151 a0 (iq 10) aE) (fun aY aM=>some (.normal,[a0,t2,t8],aM)) (fun aX aL=>some ((.pan aX),[a0,t2,t8],aL))) (some (.normal,[a0,t2,t8],aE))).bind fun aI=>AE aI.2 fun aB aA aD aF=>Ex.lV aI.1 ((kZ aB).bind fun aQ=>fq 1 aQ aF fun aR=>(kV .add aR (iq 1)).bind fun aS=>(kZ aB).bind fun aT=>(kO 1 aT).bind fun aU=>(kR 1 aF aU aS).bind fun aH=>(kT true 4 aH aD).bind fun aV=>(kR 4 aH aA aV).bind fun aN=>some (.ret,[aA],aN)) (fun aK=>some (aK,[aA],aF))) (fun v4 h5=>some ((.pan v4),[t2],h5))).bind fun aJ=>sM aJ.2 fun aC aG=>Ex.uZ aJ.1 ((kT true 4 aG aC).bind fun aW=>lY (aa0 h0) aW aG) (fun v=>rE (aa0 h0) v aG)
theorem ap8 K a0 a1 h0:o6 Tryz.prog mJ mI K 103 [a0,a1] h0=aFc (lT mJ K) a0 a1 h0:=by kernel_rfl
def Lr (K:lB) (m:Nat) (s:St):Option R :=
 B9 s fun aA aB aC aD aH=>(BG aB).bind fun aE=>kU (CV mJ K aE.1 (A4 mJ aE.1 (aE.2.1++[]++aE.2.2)) aH) (fun aN aJ=>kQ (kW 1 6 [(iq 0),(.str []),(iq 0),(iq 0),(iq 0),(.bool false)] [(0,aN)] aJ) fun aO aK=>kQ (mG 6 56 aK aD aO) fun aF aL=>kU (rR K 107 aA (.str [44]) aL) (fun aP aG=>(vT .not aP).bind fun aQ=>lF aQ (kS m .ret [aA,aB,aF,aF] aG) (kS m .normal [aA,aB,aC,aF] aG)) (fun aS aM=>kS m (.pan aS) [aA,aB,aC,aF] aM)) (fun aR aI=>kS m (.pan aR) [aA,aB,aC,aD] aI)
def aAh (K:lB) (a0 a1 a2:kM) (h0:kP):OH :=
 ((fun(t3:kM) (h2:kP)=>(fun(t7:kM) (h6:kP)=>kU (rR K 150 a0 a1 h6) (fun aM aC=>lF aM (some (.ret,[t7],aC)) ((mI (Lr K (aa0 aC)) ([a0,a2,t3,t7],aC)).bind fun aF=>B9 aF.2 fun aH aI aA aJ aD=>Ex.lV aF.1 none (fun aK=>Ex.inBlock 0 aK (some (.normal,[aA],aD)) (fun aL=>some (aL,[aA],aD))))) (fun v8 h9=>some ((.pan v8),[t3],h9))) (.slice [] (.own (aa0 h2))) (h2++[.front 0 0])) (.slice [] (.own (aa0 h0))) (h0++[.front 0 0])).bind fun aG=>sM aG.2 fun aB aE=>Ex.uZ aG.1 (lY (aa0 h0) aB aE) (fun v=>rE (aa0 h0) v aE)
theorem ap9 K a0 a1 a2 h0:o6 Tryz.prog mJ mI K 104 [a0,a1,a2] h0=aAh (lT mJ K) a0 a1 a2 h0:=by kernel_rfl
def aFd (K:lB) (a0:kM) (h0:kP):OH :=
 (kQ (lK 6 h0 (.agg [(iq 0),(.str []),(iq 0),(iq 0),(iq 0),(.bool false)])) fun t2 h3=>(kT false 1 h3 a0).bind fun t6=>kU (yK K 106 t6 h3) (fun t7 h8=>(kR 6 h8 t2 t7).bind fun h9=>some (.ret,[t2],h9)) (fun v4 h5=>some ((.pan v4),[t2],h5))).bind fun aC=>sM aC.2 fun aA aB=>Ex.uZ aC.1 ((kT true 6 aB aA).bind fun aD=>lY (aa0 h0) aD aB) (fun v=>rE (aa0 h0) v aB)
theorem aqA K a0 h0:o6 Tryz.prog mJ mI K 105 [a0] h0=aFd (lT mJ K) a0 h0:=by kernel_rfl
def aFe (K:lB) (a0:kM) (h0:kP):OH :=
 (kQ (lK 6 h0 (.agg [(iq 0),(.str []),(iq 0),(iq 0),(iq 0),(.bool false)])) fun t2 h3=>kU (rR K 107 a0 (.str [111,117,116]) h3) (fun t6 h7=>kU (yK K 109 a0 h7) (fun aQ aH=>kU (rR K 103 a0 (iq 1) aH) (fun aR aJ=>kQ (lK 4 aJ (.agg [(iq 0),(iq 0),(iq 0),(.str [])])) fun aF aK=>(kR 4 aK aF aR).bind fun aL=>kU (rR K 102 a0 (.str [58]) aL) (fun a_ aA=>(kO 1 aF).bind fun aC=>(kT false 1 aA aC).bind fun aS=>(kO 3 aF).bind fun aD=>(kT false 1 aA aD).bind fun aT=>kU (rR K 152 a0 aQ (nL (kY [0,1] [aC,aD]) aA)) (fun aU aO=>(lS [(iq 0),(.str []),(iq 0),(iq 0),(iq 0),(.bool false)] [(0,1),(1,1),(2,3),(5,1)] [(0,aS),(1,aT),(2,aU),(3,t6)]).bind fun aV=>(kR 6 (lP (kY [0,1] [aC,aD]) aA aO) t2 aV).bind fun aP=>some (.ret,[t2],aP)) (fun v h'=>(fun aZ aN=>some ((.pan aZ),[t2],aN)) v (lP (kY [0,1] [aC,aD]) aA h'))) (fun aY aM=>some ((.pan aY),[t2],aM))) (fun aX aI=>some ((.pan aX),[t2],aI))) (fun v8 h9=>some ((.pan v8),[t2],h9))) (fun v4 h5=>some ((.pan v4),[t2],h5))).bind fun aG=>sM aG.2 fun aB aE=>Ex.uZ aG.1 ((kT true 6 aE aB).bind fun aW=>lY (aa0 h0) aW aE) (fun v=>rE (aa0 h0) v aE)
theorem aqB K a0 h0:o6 Tryz.prog mJ mI K 106 [a0] h0=aFe (lT mJ K) a0 h0:=by kernel_rfl
def aFf (K:lB) (a0 a1:kM) (h0:kP):OH :=
 (o_ K 150 a0 a1 h0 fun t0 h1=>(vT .not t0).bind fun t2=>lF t2 (some (.ret,[(.bool false)],h1)) ((kZ a0).bind fun t3=>fq 1 t3 h1 fun t5=>(kV .add t5 (iq 1)).bind fun t6=>(kZ a0).bind fun t7=>(kO 1 t7).bind fun t8=>(kR 1 h1 t8 t6).bind fun h9=>some (.ret,[(.bool true)],h9))).bind fun aB=>sM aB.2 fun aA aC=>Ex.nA aB.1 (lY (aa0 h0) aA aC)
theorem aqC K a0 a1 h0:o6 Tryz.prog mJ mI K 107 [a0,a1] h0=aFf (lT mJ K) a0 a1 h0:=by kernel_rfl
def aAi (K:lB) (a0 a1:kM) (h0:kP):OH :=
 (kQ (lK 3 h0 (.agg [(iq 0),(iq 0),(iq 0)])) fun t2 h3=>kU (rR K 107 a0 (.str [109,97,115,107]) h3) (fun t6 h7=>lF t6 ((lS [(iq 0),(iq 0),(iq 0)] [(0,1),(1,1),(2,1)] [(0,(iq 1)),(2,a1)]).bind fun aH=>(kR 3 h7 t2 aH).bind fun aD=>some (.ret,[t2],aD)) (kU (rR K 102 a0 (.str [117,51,50]) h7) (fun aL aF=>(lS [(iq 0),(iq 0),(iq 0)] [(0,1),(1,1),(2,1)] [(0,(iq 0)),(2,a1)]).bind fun aI=>(kR 3 aF t2 aI).bind fun aG=>some (.ret,[t2],aG)) (fun aK aE=>some ((.pan aK),[t2],aE)))) (fun v4 h5=>some ((.pan v4),[t2],h5))).bind fun aC=>sM aC.2 fun aA aB=>Ex.uZ aC.1 ((kT true 3 aB aA).bind fun aJ=>lY (aa0 h0) aJ aB) (fun v=>rE (aa0 h0) v aB)
theorem aqD K a0 a1 h0:o6 Tryz.prog mJ mI K 108 [a0,a1] h0=aAi (lT mJ K) a0 a1 h0:=by kernel_rfl
def aAj (K:lB) (a0:kM) (h0:kP):OH :=
 (kU (rR K 107 a0 (.str [115,101,99]) h0) (fun t4 h5=>lF t4 (some (.ret,[(iq 1)],h5)) (kU (rR K 102 a0 (.str [112,117,98]) h5) (fun aE aD=>some (.ret,[(iq 0)],aD)) (fun v8 h9=>some ((.pan v8),[(iq 0)],h9)))) (fun v2 h3=>some ((.pan v2),[(iq 0)],h3))).bind fun aC=>sM aC.2 fun aA aB=>Ex.uZ aC.1 (lY (aa0 h0) aA aB) (fun v=>rE (aa0 h0) v aB)
theorem aqE K a0 h0:o6 Tryz.prog mJ mI K 109 [a0] h0=aAj (lT mJ K) a0 h0:=by kernel_rfl
def Ls (K:lB) (m:Nat) (s:St):Option R :=
 AE s fun aA aB aC aE=>kU (rR K 150 aA (.str [125]) aE) (fun aK aD=>(vT .not aK).bind fun aL=>lF aL (kU (yK K 154 aA aD) (fun aM aH=>kQ (kW 1 11 [(iq 0),(iq 0),(iq 0),(.str []),(iq 0),(iq 0),(iq 0),(.slice [] .nil),(.slice [] .nil),(.slice [] .nil),(.bool false)] [(0,aM)] aH) fun aN aI=>kQ (mG 11 144 aI aC aN) fun aO aJ=>kS m .normal [aA,aB,aO] aJ) (fun aQ aG=>kS m (.pan aQ) [aA,aB,aC] aG)) (kS m (.exit 0) [aA,aB,aC] aD)) (fun aP aF=>kS m (.pan aP) [aA,aB,aC] aF)
def aFg (K:lB) (a0:kM) (h0:kP):OH :=
 ((fun(t3:kM) (h2:kP)=>kU (rR K 153 a0 (.str [123]) h2) (fun t6 h7=>(fun(aN:kM) (aE:kP)=>(mI (Ls K (aa0 aE)) ([a0,t3,aN],aE)).bind fun aH=>AE aH.2 fun aB aA aD aF=>Ex.lV aH.1 none (fun aJ=>Ex.inBlock 0 aJ (kU (rR K 155 aB (.str [125]) aF) (fun aP aM=>some (.ret,[aD],aM)) (fun aO aL=>some ((.pan aO),[aA],aL))) (fun aK=>some (aK,[aA],aF)))) (.slice [] (.own (aa0 h7))) (h7++[.front 0 0])) (fun v4 h5=>some ((.pan v4),[t3],h5))) (.slice [] (.own (aa0 h0))) (h0++[.front 0 0])).bind fun aI=>sM aI.2 fun aC aG=>Ex.uZ aI.1 (lY (aa0 h0) aC aG) (fun v=>rE (aa0 h0) v aG)
theorem aqF K a0 h0:o6 Tryz.prog mJ mI K 110 [a0] h0=aFg (lT mJ K) a0 h0:=by kernel_rfl
def aFq (K:lB) (a0 a1:kM) (h0:kP):OH :=
 (qX K 51 a0 h0 fun t0 h1=>kQ (lK 4 h1 (.agg [(iq 0),(iq 0),(iq 0),(.str [])])) fun t2 h3=>(kR 4 h3 t2 t0).bind fun h4=>fq 0 t2 h4 fun t6=>(kV .eql t6 (iq 3)).bind fun t7=>lG false t7 (kO 0 t2) h4 fun t9 aC=>lG false t7 (kT false 1 aC t9) aC fun aL aF=>lG false t7 (kV .eql aL (iq 4)) aF fun aM aG=>(lN t7 (.bool true) aM).bind fun aA=>lG true aA (kO 3 t2) aG fun aN aD=>lG true aA (kT false 1 aD aN) aD fun aO aH=>lG true aA (some a1) aH fun aP aI=>lG true aA (kV .eql aO aP) aI fun aQ aJ=>(lN aA aQ (.bool false)).bind fun aR=>some (.ret,[aR],aJ)).bind fun aE=>sM aE.2 fun aB aK=>Ex.nA aE.1 (lY (aa0 h0) aB aK)
theorem aq6 K a0 a1 h0:o6 Tryz.prog mJ mI K 150 [a0,a1] h0=aFq (lT mJ K) a0 a1 h0:=by kernel_rfl
def aFr (K:lB) (a0 a1:kM) (h0:kP):OH :=
 (kU (yK K 51 a0 h0) (fun t2 h3=>(sP false 1 1 t2).bind fun t4=>(lS [(iq 0),(iq 0)] [(0,1),(1,1)] [(0,a1),(1,t4)]).bind fun t5=>(lS [(iq 0),(iq 0)] [(0,2)] [(0,t5)]).bind fun t6=>EM (.iface 102 t6) h3 (fun v0 h1=>some ((.pan v0),[],h1))) (fun v0 h1=>some ((.pan v0),[],h1))).bind fun r7=>(fun h8=>Ex.uZ r7.1 (lY (aa0 h0) (.tuple []) h8) (fun v=>rE (aa0 h0) v h8))  r7.2.2
theorem aq7 K a0 a1 h0:o6 Tryz.prog mJ mI K 151 [a0,a1] h0=aFr (lT mJ K) a0 a1 h0:=by kernel_rfl
def aAv (K:lB) (a0 a1:kM) (h0:kP):OH :=
 (kQ (lK 3 h0 (.agg [(iq 0),(iq 0),(iq 0)])) fun t2 h3=>kU (rR K 107 a0 (.str [117,56]) h3) (fun t6 h7=>lF t6 (kU (yK K 180 a0 h7) (fun aZ aP=>(lS [(iq 0),(iq 0),(iq 0)] [(0,1),(1,1),(2,1)] [(0,(iq 2)),(1,aZ),(2,a1)]).bind fun a_=>(kR 3 aP t2 a_).bind fun aQ=>some (.ret,[t2],aQ)) (fun v8 h9=>some ((.pan v8),[t2],h9))) (kU (rR K 108 a0 a1 h7) (fun bA aS=>kQ (lK 3 aS (.agg [(iq 0),(iq 0),(iq 0)])) fun aB aT=>(kR 3 aT aB bA).bind fun aE=>fq 0 aB aE fun bB=>(kV .eql bB (iq 0)).bind fun aI=>(lQ true aI (nM a0 aE) (nM (.tuple []) aE)).bind (nT (fun bC aK=>(lQ true aI (kU (rR K 150 bC (.str [91]) aK) (fun bD aU=>nM bD aU) yS) (nM (.tuple []) aK)).bind (nT (fun bE aL=>(lN aI bE (.bool false)).bind fun bF=>(lF bF (kU (yK K 180 a0 aL) (fun bG aW=>(kO 1 aB).bind fun bH=>(kR 1 aW bH bG).bind fun aX=>some (.normal,[t2,aB],aX)) (fun bL aV=>some ((.pan bL),[t2,aB],aV))) (some (.normal,[t2,aB],aL))).bind fun aM=>wN aM.2 fun aA aD aG=>Ex.lV aM.1 ((kT true 3 aG aD).bind fun bI=>(kR 3 aG aA bI).bind fun aY=>some (.ret,[aA],aY)) (fun aO=>some (aO,[aA],aG))) (fun aJ aF=>some ((.pan aJ),[t2],aF)))) (fun aJ aF=>some ((.pan aJ),[t2],aF)))) (fun bK aR=>some ((.pan bK),[t2],aR)))) (fun v4 h5=>some ((.pan v4),[t2],h5))).bind fun aN=>sM aN.2 fun aC aH=>Ex.uZ aN.1 ((kT true 3 aH aC).bind fun bJ=>lY (aa0 h0) bJ aH) (fun v=>rE (aa0 h0) v aH)
theorem aq8 K a0 a1 h0:o6 Tryz.prog mJ mI K 152 [a0,a1] h0=aAv (lT mJ K) a0 a1 h0:=by kernel_rfl
def aAw (K:lB) (a0 a1:kM) (h0:kP):OH :=
 (kU (rR K 150 a0 a1 h0) (fun t2 h3=>(lQ true t2 (nM a0 h3) (nM (.tuple []) h3)).bind (nT (fun t4 h5=>(lQ true t2 ((kZ t4).bind fun t6=>nM t6 h5) (nM (.tuple []) h5)).bind (nT (fun t7 h8=>(lQ true t2 ((kO 2 t7).bind fun t9=>nM t9 h8) (nM (.tuple []) h8)).bind (nT (fun aP aC=>(lQ true t2 ((kT false 1 aC aP).bind fun aQ=>nM aQ aC) (nM (.tuple []) aC)).bind (nT (fun aR aD=>(lQ true t2 ((kV .eql aR (iq 64)).bind fun aS=>nM aS aD) (nM (.tuple []) aD)).bind (nT (fun aT aE=>(lN t2 aT (.bool false)).bind fun aU=>(lF aU (kU (rR K 151 a0 (iq 11) aE) (fun bB aM=>some (.normal,[a0,a1],aM)) (fun a_ aL=>some ((.pan a_),[a0,a1],aL))) (some (.normal,[a0,a1],aE))).bind fun aI=>wN aI.2 fun aA aB aF=>Ex.lV aI.1 (kU (rR K 102 aA aB aF) (fun bC aG=>(kZ aA).bind fun aV=>fq 2 aV aG fun aW=>(kV .add aW (iq 1)).bind fun aX=>(kZ aA).bind fun aY=>(kO 2 aY).bind fun aZ=>(kR 1 aG aZ aX).bind fun aO=>some (.normal,[],aO)) (fun bA aN=>some ((.pan bA),[],aN))) (fun aK=>some (aK,[],aF))) (fun v0 h1=>some ((.pan v0),[],h1)))) (fun v0 h1=>some ((.pan v0),[],h1)))) (fun v0 h1=>some ((.pan v0),[],h1)))) (fun v0 h1=>some ((.pan v0),[],h1)))) (fun v0 h1=>some ((.pan v0),[],h1)))) (fun v0 h1=>some ((.pan v0),[],h1))).bind fun aJ=>(fun aH=>Ex.uZ aJ.1 (lY (aa0 h0) (.tuple []) aH) (fun v=>rE (aa0 h0) v aH))  aJ.2.2
theorem aq9 K a0 a1 h0:o6 Tryz.prog mJ mI K 153 [a0,a1] h0=aAw (lT mJ K) a0 a1 h0:=by kernel_rfl
def aFs (K:lB) (a0:kM) (h0:kP):OH :=
 (kQ (lK 11 h0 (.agg [(iq 0),(iq 0),(iq 0),(.str []),(iq 0),(iq 0),(iq 0),(.slice [] .nil),(.slice [] .nil),(.slice [] .nil),(.bool false)])) fun t2 h3=>kU (yK K 51 a0 h3) (fun t6 h7=>(sP false 1 1 t6).bind fun t8=>(lS [(iq 0),(iq 0),(iq 0),(.str []),(iq 0),(iq 0),(iq 0),(.slice [] .nil),(.slice [] .nil),(.slice [] .nil),(.bool false)] [(0,1),(1,1),(2,1),(3,1),(4,3),(7,1),(8,1),(9,1),(10,1)] [(1,t8)]).bind fun t9=>kQ (lK 11 h7 (.agg [(iq 0),(iq 0),(iq 0),(.str []),(iq 0),(iq 0),(iq 0),(.slice [] .nil),(.slice [] .nil),(.slice [] .nil),(.bool false)])) fun aA dV=>(kR 11 dV aA t9).bind fun dW=>kU (rR K 107 a0 (.str [108,101,116]) dW) (fun fJ dQ=>(lF fJ (kU (rR K 103 a0 (iq 1) dQ) (fun fL dZ=>(sP false 1 3 fL).bind fun fM=>(kO 0 aA).bind fun fN=>(kR 1 dZ fN (iq 1)).bind fun d_=>(kO 3 aA).bind fun fO=>(kR 1 d_ fO fM).bind fun eA=>kU (rR K 102 a0 (.str [61]) eA) (fun hD eC=>kU (yK K 181 a0 eC) (fun fQ eE=>(kO 7 aA).bind fun fR=>(kR 1 eE fR fQ).bind fun eF=>some (.normal,[t2,aA],eF)) (fun gO eD=>some ((.pan gO),[t2,aA],eD))) (fun gN eB=>some ((.pan gN),[t2,aA],eB))) (fun gM dY=>some ((.pan gM),[t2,aA],dY))) (kU (rR K 107 a0 (.str [118,97,114]) dQ) (fun fS dR=>(lF fS ((kO 0 aA).bind fun fU=>(kR 1 dR fU (iq 2)).bind fun eH=>kU (yK K 109 a0 eH) (fun fV eJ=>kU (rR K 103 a0 (iq 1) eJ) (fun fX eL=>(sP false 1 3 fX).bind fun fY=>(kO 3 aA).bind fun fZ=>(kR 1 eL fZ fY).bind fun eM=>kU (rR K 102 a0 (.str [58]) eM) (fun hI eO=>kU (rR K 152 a0 fV eO) (fun f_ eQ=>(kO 4 aA).bind fun gA=>(kR 3 eQ gA f_).bind fun eR=>kU (rR K 102 a0 (.str [59]) eR) (fun hO eT=>some (.normal,[t2,aA],eT)) (fun gV eS=>some ((.pan gV),[t2,aA],eS))) (fun gU eP=>some ((.pan gU),[t2,aA],eP))) (fun gT eN=>some ((.pan gT),[t2,aA],eN))) (fun gR eK=>some ((.pan gR),[t2,aA],eK))) (fun gQ eI=>some ((.pan gQ),[t2,aA],eI))) (kU (rR K 107 a0 (.str [105,102]) dR) (fun gB dU=>(lF gB (kU (yK K 182 a0 dU) (fun gC eX=>kQ (kW 1 5 [(iq 0),(iq 0),(iq 0),(.str []),(.slice [] .nil)] [(0,gC)] eX) fun gD eY=>(kO 0 aA).bind fun gE=>(kR 1 eY gE (iq 5)).bind fun eZ=>(kO 7 aA).bind fun gF=>(kR 1 eZ gF gD).bind fun e_=>kU (yK K 110 a0 e_) (fun gG fC=>(kO 8 aA).bind fun gH=>(kR 1 fC gH gG).bind fun fD=>kU (rR K 107 a0 (.str [101,108,115,101]) fD) (fun gI fF=>(kO 10 aA).bind fun gJ=>(kR 1 fF gJ gI).bind fun cM=>fq 10 aA cM fun gK=>(lF gK (kU (yK K 110 a0 cM) (fun cN bK=>(kO 9 aA).bind fun cO=>(kR 1 bK cO cN).bind fun bL=>some (.normal,[t2,aA],bL)) (fun g_ bJ=>some ((.pan g_),[t2,aA],bJ))) (some (.normal,[t2,aA],cM))).bind fun aX=>wN aX.2 fun aD aI aQ=>Ex.lV aX.1 (some (.normal,[aD,aI],aQ)) (fun bC=>some (bC,[aD,aI],aQ))) (fun gZ fE=>some ((.pan gZ),[t2,aA],fE))) (fun gY fB=>some ((.pan gY),[t2,aA],fB))) (fun gX eV=>some ((.pan gX),[t2,aA],eV))) (kU (rR K 107 a0 (.str [102,111,114]) dU) (fun cP aR=>(lF cP (kU (rR K 103 a0 (iq 1) aR) (fun cQ bO=>(sP false 1 3 cQ).bind fun cR=>(kO 0 aA).bind fun cS=>(kR 1 bO cS (iq 6)).bind fun bP=>(kO 3 aA).bind fun cT=>(kR 1 bP cT cR).bind fun bQ=>kU (rR K 102 a0 (.str [60]) bQ) (fun fH bS=>kU (yK K 182 a0 bS) (fun cU bU=>kQ (kW 1 5 [(iq 0),(iq 0),(iq 0),(.str []),(.slice [] .nil)] [(0,cU)] bU) fun cV bV=>(kO 7 aA).bind fun cW=>(kR 1 bV cW cV).bind fun bW=>kU (rR K 102 a0 (.str [109,97,120]) bW) (fun fI bY=>kU (rR K 103 a0 (iq 2) bY) (fun cX b8=>(sP false 1 2 cX).bind fun cY=>(kO 2 aA).bind fun cZ=>(kR 1 b8 cZ cY).bind fun b9=>kU (yK K 110 a0 b9) (fun c6 cA=>(kO 8 aA).bind fun c7=>(kR 1 cA c7 c6).bind fun cB=>some (.normal,[t2,aA],cB)) (fun dM b_=>some ((.pan dM),[t2,aA],b_))) (fun dL bZ=>some ((.pan dL),[t2,aA],bZ))) (fun dK bX=>some ((.pan dK),[t2,aA],bX))) (fun dJ bT=>some ((.pan dJ),[t2,aA],bT))) (fun dI bR=>some ((.pan dI),[t2,aA],bR))) (fun dH bN=>some ((.pan dH),[t2,aA],bN))) (kU (rR K 107 a0 (.str [114,101,116,117,114,110]) aR) (fun c_ aS=>(lF c_ (kU (yK K 181 a0 aS) (fun dA cF=>(kO 0 aA).bind fun dB=>(kR 1 cF dB (iq 8)).bind fun cG=>(kO 7 aA).bind fun dC=>(kR 1 cG dC dA).bind fun cH=>some (.normal,[t2,aA],cH)) (fun dO cE=>some ((.pan dO),[t2,aA],cE))) (kU (rR K 183 a0 aA aS) (fun fK cJ=>some (.normal,[t2,aA],cJ)) (fun dP cI=>some ((.pan dP),[t2,aA],cI)))).bind fun aY=>wN aY.2 fun aE aJ aT=>Ex.lV aY.1 (some (.normal,[aE,aJ],aT)) (fun bD=>some (bD,[aE,aJ],aT))) (fun dN cD=>some ((.pan dN),[t2,aA],cD)))).bind fun aZ=>wN aZ.2 fun aF aK aU=>Ex.lV aZ.1 (some (.normal,[aF,aK],aU)) (fun bE=>some (bE,[aF,aK],aU))) (fun dG bM=>some ((.pan dG),[t2,aA],bM)))).bind fun a_=>wN a_.2 fun aG aL aV=>Ex.lV a_.1 (some (.normal,[aG,aL],aV)) (fun bF=>some (bF,[aG,aL],aV))) (fun gW eU=>some ((.pan gW),[t2,aA],eU)))).bind fun bA=>wN bA.2 fun aH aM aW=>Ex.lV bA.1 (some (.normal,[aH,aM],aW)) (fun bG=>some (bG,[aH,aM],aW))) (fun gP eG=>some ((.pan gP),[t2,aA],eG)))).bind fun as9=>wN as9.2 fun aB aN aC=>Ex.lV as9.1 ((kT true 11 aC aN).bind fun dD=>(kR 11 aC aB dD).bind fun cK=>some (.ret,[aB],cK)) (fun bH=>Ex.inBlock 0 bH ((kT true 11 aC aN).bind fun dE=>(kR 11 aC aB dE).bind fun cL=>some (.ret,[aB],cL)) (fun bI=>some (bI,[aB],aC)))) (fun gL dX=>some ((.pan gL),[t2],dX))) (fun v4 h5=>some ((.pan v4),[t2],h5))).bind fun bB=>sM bB.2 fun aP aO=>Ex.uZ bB.1 ((kT true 11 aO aP).bind fun dF=>lY (aa0 h0) dF aO) (fun v=>rE (aa0 h0) v aO)
theorem arA K a0 h0:o6 Tryz.prog mJ mI K 154 [a0] h0=aFs (lT mJ K) a0 h0:=by kernel_rfl
def aFt (K:lB) (a0 a1:kM) (h0:kP):OH :=
 (kU (rR K 102 a0 a1 h0) (fun t2 h3=>(kZ a0).bind fun t6=>fq 2 t6 h3 fun t8=>(kV .sub t8 (iq 1)).bind fun t9=>(kZ a0).bind fun aD=>(kO 2 aD).bind fun aE=>(kR 1 h3 aE t9).bind fun aC=>some (.normal,[],aC)) (fun v0 h1=>some ((.pan v0),[],h1))).bind fun aB=>(fun aA=>Ex.uZ aB.1 (lY (aa0 h0) (.tuple []) aA) (fun v=>rE (aa0 h0) v aA))  aB.2.2
theorem arB K a0 a1 h0:o6 Tryz.prog mJ mI K 155 [a0,a1] h0=aFt (lT mJ K) a0 a1 h0:=by kernel_rfl
def ah8 (K:lB) (a0:kM) (h0:kP):OH :=
 (kU (rR K 102 a0 (.str [91]) h0) (fun t4 h5=>kU (yK K 51 a0 h5) (fun t8 h9=>kQ (lK 4 h9 (.agg [(iq 0),(iq 0),(iq 0),(.str [])])) fun aI aQ=>(kR 4 aQ aI t8).bind fun aG=>fq 0 aI aG fun aX=>(kV .eql aX (iq 2)).bind fun aF=>(lQ true aF ((kO 2 aI).bind fun aY=>nM aY aG) (nM (.tuple []) aG)).bind (nT (fun aZ aH=>(lQ true aF ((kT false 1 aH aZ).bind fun a_=>nM a_ aH) (nM (.tuple []) aH)).bind (nT (fun bA aJ=>(lQ true aF ((kV .eql bA (iq 0)).bind fun bB=>nM bB aJ) (nM (.tuple []) aJ)).bind (nT (fun bC aK=>(lN aF bC (.bool false)).bind fun bD=>(lF bD (kU (rR K 151 a0 (iq 10) aK) (fun bJ aS=>some (.normal,[a0,(iq 0)],aS)) (fun bG aR=>some ((.pan bG),[a0,(iq 0)],aR))) (some (.normal,[a0,(iq 0)],aK))).bind fun aN=>wN aN.2 fun aB aA aL=>Ex.lV aN.1 (kU (rR K 103 aB (iq 2) aL) (fun bE aU=>(sP false 1 2 bE).bind fun bF=>kU (rR K 102 aB (.str [93]) aU) (fun bK aW=>some (.ret,[bF],aW)) (fun bI aV=>some ((.pan bI),[aA],aV))) (fun bH aT=>some ((.pan bH),[aA],aT))) (fun aP=>some (aP,[aA],aL))) (fun aD aC=>some ((.pan aD),[(iq 0)],aC)))) (fun aD aC=>some ((.pan aD),[(iq 0)],aC)))) (fun aD aC=>some ((.pan aD),[(iq 0)],aC)))) (fun v6 h7=>some ((.pan v6),[(iq 0)],h7))) (fun v2 h3=>some ((.pan v2),[(iq 0)],h3))).bind fun aO=>sM aO.2 fun aE aM=>Ex.uZ aO.1 (lY (aa0 h0) aE aM) (fun v=>rE (aa0 h0) v aM)
theorem arS K a0 h0:o6 Tryz.prog mJ mI K 180 [a0] h0=ah8 (lT mJ K) a0 h0:=by kernel_rfl
def aFy (K:lB) (a0:kM) (h0:kP):OH :=
 ((fun(t3:kM) (h2:kP)=>kU (yK K 182 a0 h2) (fun t6 h7=>kQ (lK 5 h7 (.agg [(iq 0),(iq 0),(iq 0),(.str []),(.slice [] .nil)])) fun t8 h9=>(kR 5 h9 t8 t6).bind fun aE=>kU (rR K 102 a0 (.str [59]) aE) (fun aK aB=>(kT true 5 aB t8).bind fun aH=>kQ (kW 1 5 [(iq 0),(iq 0),(iq 0),(.str []),(.slice [] .nil)] [(0,aH)] aB) fun aI aG=>some (.ret,[aI],aG)) (fun aJ aF=>some ((.pan aJ),[t3],aF))) (fun v4 h5=>some ((.pan v4),[t3],h5))) (.slice [] (.own (aa0 h0))) (h0++[.front 0 0])).bind fun aD=>sM aD.2 fun aA aC=>Ex.uZ aD.1 (lY (aa0 h0) aA aC) (fun v=>rE (aa0 h0) v aC)
theorem arT K a0 h0:o6 Tryz.prog mJ mI K 181 [a0] h0=aFy (lT mJ K) a0 h0:=by kernel_rfl
def aFz (K:lB) (a0:kM) (h0:kP):OH :=
 (kQ (lK 5 h0 (.agg [(iq 0),(iq 0),(iq 0),(.str []),(.slice [] .nil)])) fun t2 h3=>kU (rR K 205 a0 (iq 1) h3) (fun t6 h7=>kQ (lK 5 h7 (.agg [(iq 0),(iq 0),(iq 0),(.str []),(.slice [] .nil)])) fun t8 h9=>(kR 5 h9 t8 t6).bind fun aM=>kU (rR K 206 a0 (iq 0) aM) (fun aK aG=>(lH 0 aK).bind fun aU=>(lH 1 aK).bind fun aV=>(lF aV (kU (yK K 51 a0 aG) (fun aW aH=>(sP false 1 1 aW).bind fun aX=>(kZ a0).bind fun aY=>fq 1 aY aH fun aZ=>(kV .add aZ (iq 1)).bind fun a_=>(kZ a0).bind fun bA=>(kO 1 bA).bind fun bB=>(kR 1 aH bB a_).bind fun aD=>(kT true 5 aD t8).bind fun bC=>kU (rR K 205 a0 (iq 1) (nL (kY [0] [t8]) aD)) (fun bD aQ=>kQ (kW 2 5 [(iq 0),(iq 0),(iq 0),(.str []),(.slice [] .nil)] [(0,bC),(1,bD)] (lP (kY [0] [t8]) aD aQ)) fun bE aR=>(lS [(iq 0),(iq 0),(iq 0),(.str []),(.slice [] .nil)] [(0,1),(1,1),(2,1),(3,1),(4,1)] [(0,aU),(1,aX),(4,bE)]).bind fun bF=>(kR 5 aR t8 bF).bind fun aS=>some (.normal,[t2,t8],aS)) (fun v h'=>(fun bK aP=>some ((.pan bK),[t2,t8],aP)) v (lP (kY [0] [t8]) aD h'))) (fun bJ aO=>some ((.pan bJ),[t2,t8],aO))) (some (.normal,[t2,t8],aG))).bind fun aI=>wN aI.2 fun aA aC aE=>Ex.lV aI.1 ((kT true 5 aE aC).bind fun bG=>(kR 5 aE aA bG).bind fun aT=>some (.ret,[aA],aT)) (fun aL=>some (aL,[aA],aE))) (fun bI aN=>some ((.pan bI),[t2],aN))) (fun v4 h5=>some ((.pan v4),[t2],h5))).bind fun aJ=>sM aJ.2 fun aB aF=>Ex.uZ aJ.1 ((kT true 5 aF aB).bind fun bH=>lY (aa0 h0) bH aF) (fun v=>rE (aa0 h0) v aF)
theorem arU K a0 h0:o6 Tryz.prog mJ mI K 182 [a0] h0=aFz (lT mJ K) a0 h0:=by kernel_rfl
def Jh (K:lB) (a0 a1:kM) (h0:kP):OH :=
 (kU (rR K 103 a0 (iq 1) h0) (fun t2 h3=>kQ (lK 4 h3 (.agg [(iq 0),(iq 0),(iq 0),(.str [])])) fun t4 h5=>(kR 4 h5 t4 t2).bind fun h6=>fq 3 t4 h6 fun bK=>(kZ a1).bind fun bL=>(kO 3 bL).bind fun bM=>(kR 1 h6 bM bK).bind fun aM=>kU (rR K 150 a0 (.str [40]) aM) (fun bN aB=>(lF bN ((kZ a1).bind fun bO=>(kO 0 bO).bind fun bP=>(kR 1 aB bP (iq 7)).bind fun aO=>(kZ a1).bind fun bQ=>(kO 3 bQ).bind fun bR=>(kR 1 aO bR (.str [])).bind fun aC=>(kT true 4 aC t4).bind fun bS=>kU (rR K 207 a0 bS aC) (fun bT aQ=>kQ (kW 1 5 [(iq 0),(iq 0),(iq 0),(.str []),(.slice [] .nil)] [(0,bT)] aQ) fun bU aR=>(kZ a1).bind fun bV=>(kO 7 bV).bind fun bW=>(kR 1 aR bW bU).bind fun aS=>kU (rR K 102 a0 (.str [59]) aS) (fun cR aU=>some (.normal,[],aU)) (fun cK aT=>some ((.pan cK),[],aT))) (fun cJ aP=>some ((.pan cJ),[],aP))) (kU (rR K 150 a0 (.str [91]) aB) (fun bX aD=>(lF bX ((kZ a1).bind fun bY=>(kO 0 bY).bind fun bZ=>(kR 1 aD bZ (iq 4)).bind fun aW=>kU (yK K 208 a0 aW) (fun b8 aY=>kU (rR K 102 a0 (.str [61]) aY) (fun cS a_=>kU (yK K 181 a0 a_) (fun b9 bB=>kQ (mG 5 64 bB b8 b9) fun b_ bC=>(kZ a1).bind fun cA=>(kO 7 cA).bind fun cB=>(kR 1 bC cB b_).bind fun bD=>some (.normal,[],bD)) (fun cO bA=>some ((.pan cO),[],bA))) (fun cN aZ=>some ((.pan cN),[],aZ))) (fun cM aX=>some ((.pan cM),[],aX))) (kU (rR K 102 a0 (.str [61]) aD) (fun cT bF=>kU (yK K 181 a0 bF) (fun cD bH=>(kZ a1).bind fun cE=>(kO 0 cE).bind fun cF=>(kR 1 bH cF (iq 3)).bind fun bI=>(kZ a1).bind fun cG=>(kO 7 cG).bind fun cH=>(kR 1 bI cH cD).bind fun bJ=>some (.normal,[],bJ)) (fun cQ bG=>some ((.pan cQ),[],bG))) (fun cP bE=>some ((.pan cP),[],bE)))).bind fun aG=>(fun aE=>Ex.lV aG.1 (some (.normal,[],aE)) (fun aJ=>some (aJ,[],aE)))  aG.2.2) (fun cL aV=>some ((.pan cL),[],aV)))).bind fun aH=>(fun aA=>Ex.lV aH.1 (some (.normal,[],aA)) (fun aK=>Ex.inBlock 0 aK (some (.normal,[],aA)) (fun aL=>some (aL,[],aA))))  aH.2.2) (fun cI aN=>some ((.pan cI),[],aN))) (fun v0 h1=>some ((.pan v0),[],h1))).bind fun aI=>(fun aF=>Ex.uZ aI.1 (lY (aa0 h0) (.tuple []) aF) (fun v=>rE (aa0 h0) v aF))  aI.2.2
theorem arV K a0 a1 h0:o6 Tryz.prog mJ mI K 183 [a0,a1] h0=Jh (lT mJ K) a0 a1 h0:=by kernel_rfl
def aFA (K:lB) (a0 a1:kM) (h0:kP):OH :=
 (qX K 51 a0 h0 fun t0 h1=>kQ (lK 4 h1 (.agg [(iq 0),(iq 0),(iq 0),(.str [])])) fun t2 h3=>(kR 4 h3 t2 t0).bind fun h4=>fq 0 t2 h4 fun t6=>aq .neq t6 (iq 4) (some (.ret,[(iq 0),(.bool false)],h4)) (fq 3 t2 h4 fun t9=>qX K 221 t9 h4 fun aD aE=>(lH 0 aD).bind fun aG=>(lH 1 aD).bind fun aH=>(kV .eql aG a1).bind fun aI=>some (.ret,[aH,aI],aE))).bind fun aC=>wN aC.2 fun aA aB aF=>Ex.nA aC.1 (lY (aa0 h0) (.tuple [aA,aB]) aF)
theorem ar3 K a0 a1 h0:o6 Tryz.prog mJ mI K 206 [a0,a1] h0=aFA (lT mJ K) a0 a1 h0:=by kernel_rfl
def aFB (K:lB) (a0 a1:kM) (h0:kP):OH :=
 (kQ (lK 1 h0 a0) fun t2 h3=>kQ (lK 4 h3 a1) fun t4 h5=>kQ (lK 5 h5 (.agg [(iq 0),(iq 0),(iq 0),(.str []),(.slice [] .nil)])) fun t6 h7=>(kT false 1 h7 t2).bind fun aJ=>kU (rR K 153 aJ (.str [40]) h7) (fun aT aD=>(kT false 1 aD t2).bind fun aK=>kU (Bv K 222 aK (.str [41]) (.func 223 [] [t2]) aD) (fun aL aE=>(kT false 1 aE t2).bind fun aM=>kU (rR K 155 aM (.str [41]) aE) (fun aU aB=>fq 1 t4 aB fun aN=>fq 3 t4 aB fun aO=>(lS [(iq 0),(iq 0),(iq 0),(.str []),(.slice [] .nil)] [(0,1),(1,1),(2,1),(3,1),(4,1)] [(0,(iq 4)),(1,aN),(3,aO),(4,aL)]).bind fun aP=>(kR 5 aB t6 aP).bind fun aI=>some (.ret,[t6],aI)) (fun aS aH=>some ((.pan aS),[t6],aH))) (fun aR aG=>some ((.pan aR),[t6],aG))) (fun v8 h9=>some ((.pan v8),[t6],h9))).bind fun aF=>sM aF.2 fun aA aC=>Ex.uZ aF.1 ((kT true 5 aC aA).bind fun aQ=>lY (aa0 h0) aQ aC) (fun v=>rE (aa0 h0) v aC)
theorem ar4 K a0 a1 h0:o6 Tryz.prog mJ mI K 207 [a0,a1] h0=aFB (lT mJ K) a0 a1 h0:=by kernel_rfl
def W5 (K:lB) (a0:kM) (h0:kP):OH :=
 ((fun(t3:kM) (h2:kP)=>kU (rR K 153 a0 (.str [91]) h2) (fun t6 h7=>kU (yK K 182 a0 h7) (fun aK aF=>kQ (lK 5 aF (.agg [(iq 0),(iq 0),(iq 0),(.str []),(.slice [] .nil)])) fun aE aG=>(kR 5 aG aE aK).bind fun aH=>kU (rR K 155 a0 (.str [93]) aH) (fun aO aB=>(kT true 5 aB aE).bind fun aL=>kQ (kW 1 5 [(iq 0),(iq 0),(iq 0),(.str []),(.slice [] .nil)] [(0,aL)] aB) fun aM aJ=>some (.ret,[aM],aJ)) (fun aN aI=>some ((.pan aN),[t3],aI))) (fun v8 h9=>some ((.pan v8),[t3],h9))) (fun v4 h5=>some ((.pan v4),[t3],h5))) (.slice [] (.own (aa0 h0))) (h0++[.front 0 0])).bind fun aD=>sM aD.2 fun aA aC=>Ex.uZ aD.1 (some (.ret aA,aC)) (fun v=>rE (aa0 h0) v aC)
theorem ar5 K a0 h0:o6 Tryz.prog mJ mI K 208 [a0] h0=W5 (lT mJ K) a0 h0:=by kernel_rfl
def aFC (K:lB) (a0:kM) (h0:kP):OH :=
 (kQ (lK 5 h0 (.agg [(iq 0),(iq 0),(iq 0),(.str []),(.slice [] .nil)])) fun t2 h3=>kU (yK K 51 a0 h3) (fun t6 h7=>kQ (lK 4 h7 (.agg [(iq 0),(iq 0),(iq 0),(.str [])])) fun t8 h9=>(kR 4 h9 t8 t6).bind fun aQ=>fq 1 t8 aQ fun bV=>(lS [(iq 0),(iq 0),(iq 0),(.str []),(.slice [] .nil)] [(0,1),(1,1),(2,1),(3,1),(4,1)] [(1,bV)]).bind fun bW=>kQ (lK 5 aQ (.agg [(iq 0),(iq 0),(iq 0),(.str []),(.slice [] .nil)])) fun aC bE=>(kR 5 bE aC bW).bind fun bF=>(kU (rR K 150 a0 (.str [126]) bF) (fun bX aR=>(lF bX ((kO 0 aC).bind fun bY=>(kR 1 aR bY (iq 5)).bind fun bH=>some (.normal,[a0,t2,t8,aC],bH)) (kU (rR K 150 a0 (.str [45]) aR) (fun bZ aS=>(lF bZ ((kO 0 aC).bind fun b8=>(kR 1 aS b8 (iq 6)).bind fun bJ=>some (.normal,[a0,t2,t8,aC],bJ)) (kU (rR K 150 a0 (.str [33]) aS) (fun b9 aT=>lF b9 ((kO 0 aC).bind fun b_=>(kR 1 aT b_ (iq 7)).bind fun bL=>some (.normal,[a0,t2,t8,aC],bL)) (kU (yK K 227 a0 aT) (fun cA bN=>(kR 5 bN t2 cA).bind fun bO=>some (.ret,[a0,t2,t8,aC],bO)) (fun cQ bM=>some ((.pan cQ),[a0,t2,t8,aC],bM)))) (fun cP bK=>some ((.pan cP),[a0,t2,t8,aC],bK)))).bind fun aY=>B9 aY.2 fun aD aF aH aJ aU=>Ex.lV aY.1 (some (.normal,[aD,aF,aH,aJ],aU)) (fun bB=>some (bB,[aD,aF,aH,aJ],aU))) (fun cO bI=>some ((.pan cO),[a0,t2,t8,aC],bI)))).bind fun aZ=>B9 aZ.2 fun aE aG aI aK aV=>Ex.lV aZ.1 (some (.normal,[aE,aG,aI,aK],aV)) (fun bC=>some (bC,[aE,aG,aI,aK],aV))) (fun cN bG=>some ((.pan cN),[a0,t2,t8,aC],bG))).bind fun a_=>B9 a_.2 fun aB aA aN aL aO=>Ex.inBlock 0 a_.1 (fq 3 aN aO fun cB=>kU (rR K 153 aB cB aO) (fun cT bQ=>kU (yK K 220 aB bQ) (fun cD bS=>kQ (kW 1 5 [(iq 0),(iq 0),(iq 0),(.str []),(.slice [] .nil)] [(0,cD)] bS) fun cE bT=>(kO 4 aL).bind fun cF=>(kR 1 bT cF cE).bind fun aW=>(kZ aB).bind fun cG=>fq 2 cG aW fun cH=>(kV .sub cH (iq 1)).bind fun cI=>(kZ aB).bind fun cJ=>(kO 2 cJ).bind fun cK=>(kR 1 aW cK cI).bind fun aX=>(kT true 5 aX aL).bind fun cL=>(kR 5 aX aA cL).bind fun bU=>some (.ret,[aA],bU)) (fun cS bR=>some ((.pan cS),[aA],bR))) (fun cR bP=>some ((.pan cR),[aA],bP))) (fun bD=>some (bD,[aA],aO))) (fun v4 h5=>some ((.pan v4),[t2],h5))).bind fun bA=>sM bA.2 fun aM aP=>Ex.uZ bA.1 ((kT true 5 aP aM).bind fun cM=>lY (aa0 h0) cM aP) (fun v=>rE (aa0 h0) v aP)
theorem ar7 K a0 h0:o6 Tryz.prog mJ mI K 220 [a0] h0=aFC (lT mJ K) a0 h0:=by kernel_rfl
def F_ (K:lB) (a0:kM) (h0:kP):OH :=
 (aq .eql a0 (.str [61,61]) (some (.ret,[(iq 0),(iq 17)],h0)) (aq .eql a0 (.str [33,61]) (some (.ret,[(iq 0),(iq 18)],h0)) (aq .eql a0 (.str [60]) (some (.ret,[(iq 0),(iq 19)],h0)) (aq .eql a0 (.str [60,61]) (some (.ret,[(iq 0),(iq 20)],h0)) (aq .eql a0 (.str [62]) (some (.ret,[(iq 0),(iq 21)],h0)) (aq .eql a0 (.str [62,61]) (some (.ret,[(iq 0),(iq 22)],h0)) (aq .eql a0 (.str [124]) (some (.ret,[(iq 1),(iq 12)],h0)) (aq .eql a0 (.str [94]) (some (.ret,[(iq 2),(iq 13)],h0)) (aq .eql a0 (.str [38]) (some (.ret,[(iq 3),(iq 11)],h0)) (aq .eql a0 (.str [60,60]) (some (.ret,[(iq 4),(iq 14)],h0)) (aq .eql a0 (.str [62,62]) (some (.ret,[(iq 4),(iq 15)],h0)) (aq .eql a0 (.str [43]) (some (.ret,[(iq 5),(iq 8)],h0)) (aq .eql a0 (.str [45]) (some (.ret,[(iq 5),(iq 9)],h0)) (aq .eql a0 (.str [42]) (some (.ret,[(iq 6),(iq 10)],h0)) (some (.ret,[(.int .i64 (-1)),(iq 0)],h0)))))))))))))))).bind fun aC=>wN aC.2 fun aA aB aD=>Ex.nA aC.1 (lY (aa0 h0) (.tuple [aA,aB]) aD)
theorem ar8 K a0 h0:o6 Tryz.prog mJ mI K 221 [a0] h0=F_ (lT mJ K) a0 h0:=by kernel_rfl
def Lw (K:lB) (m:Nat) (s:St):Option R :=
 B9 s fun aA aB aC aD aH=>(BG aB).bind fun aE=>kU (CV mJ K aE.1 (A4 mJ aE.1 (aE.2.1++[]++aE.2.2)) aH) (fun aN aJ=>kQ (kW 1 5 [(iq 0),(iq 0),(iq 0),(.str []),(.slice [] .nil)] [(0,aN)] aJ) fun aO aK=>kQ (mG 5 64 aK aD aO) fun aF aL=>kU (rR K 107 aA (.str [44]) aL) (fun aP aG=>(vT .not aP).bind fun aQ=>lF aQ (kS m .ret [aA,aB,aF,aF] aG) (kS m .normal [aA,aB,aC,aF] aG)) (fun aS aM=>kS m (.pan aS) [aA,aB,aC,aF] aM)) (fun aR aI=>kS m (.pan aR) [aA,aB,aC,aD] aI)
def aAJ (K:lB) (a0 a1 a2:kM) (h0:kP):OH :=
 ((fun(t3:kM) (h2:kP)=>(fun(t7:kM) (h6:kP)=>kU (rR K 150 a0 a1 h6) (fun aM aC=>lF aM (some (.ret,[t7],aC)) ((mI (Lw K (aa0 aC)) ([a0,a2,t3,t7],aC)).bind fun aF=>B9 aF.2 fun aH aI aA aJ aD=>Ex.lV aF.1 none (fun aK=>Ex.inBlock 0 aK (some (.normal,[aA],aD)) (fun aL=>some (aL,[aA],aD))))) (fun v8 h9=>some ((.pan v8),[t3],h9))) (.slice [] (.own (aa0 h2))) (h2++[.front 0 0])) (.slice [] (.own (aa0 h0))) (h0++[.front 0 0])).bind fun aG=>sM aG.2 fun aB aE=>Ex.uZ aG.1 (lY (aa0 h0) aB aE) (fun v=>rE (aa0 h0) v aE)
theorem ar9 K a0 a1 a2 h0:o6 Tryz.prog mJ mI K 222 [a0,a1,a2] h0=aAJ (lT mJ K) a0 a1 a2 h0:=by kernel_rfl
def aFD (K:lB) (a0:kM) (h0:kP):OH :=
 (kQ (lK 5 h0 (.agg [(iq 0),(iq 0),(iq 0),(.str []),(.slice [] .nil)])) fun t2 h3=>(kT false 1 h3 a0).bind fun t6=>kU (yK K 182 t6 h3) (fun t7 h8=>(kR 5 h8 t2 t7).bind fun h9=>some (.ret,[t2],h9)) (fun v4 h5=>some ((.pan v4),[t2],h5))).bind fun aC=>sM aC.2 fun aA aB=>Ex.uZ aC.1 ((kT true 5 aB aA).bind fun aD=>lY (aa0 h0) aD aB) (fun v=>rE (aa0 h0) v aB)
theorem asA K a0 h0:o6 Tryz.prog mJ mI K 223 [a0] h0=aFD (lT mJ K) a0 h0:=by kernel_rfl
def aFE (K:lB) (a0:kM) (h0:kP):OH :=
 (kQ (lK 5 h0 (.agg [(iq 0),(iq 0),(iq 0),(.str []),(.slice [] .nil)])) fun t2 h3=>kU (yK K 51 a0 h3) (fun t6 h7=>kQ (lK 4 h7 (.agg [(iq 0),(iq 0),(iq 0),(.str [])])) fun t8 h9=>(kR 4 h9 t8 t6).bind fun aH=>fq 0 t8 aH fun cV=>aq .eql cV (iq 2) ((kZ a0).bind fun cW=>fq 1 cW aH fun cX=>(kV .add cX (iq 1)).bind fun cY=>(kZ a0).bind fun cZ=>(kO 1 cZ).bind fun c6=>(kR 1 aH c6 cY).bind fun aU=>fq 1 t8 aU fun c7=>fq 2 t8 aU fun c_=>(lS [(iq 0),(iq 0),(iq 0),(.str []),(.slice [] .nil)] [(0,1),(1,1),(2,1),(3,1),(4,1)] [(0,(iq 1)),(1,c7),(2,c_)]).bind fun dA=>(kR 5 aU t2 dA).bind fun bT=>some (.ret,[t2],bT)) (kU (rR K 150 a0 (.str [40]) aH) (fun dB bL=>lF dB (kU (rR K 153 a0 (.str [40]) bL) (fun eD bW=>kU (yK K 182 a0 bW) (fun dC bY=>kQ (lK 5 bY (.agg [(iq 0),(iq 0),(iq 0),(.str []),(.slice [] .nil)])) fun bS bZ=>(kR 5 bZ bS dC).bind fun b8=>kU (rR K 155 a0 (.str [41]) b8) (fun eE bM=>(kT true 5 bM bS).bind fun dD=>(kR 5 bM t2 dD).bind fun b_=>some (.ret,[t2],b_)) (fun dR b9=>some ((.pan dR),[t2],b9))) (fun dQ bX=>some ((.pan dQ),[t2],bX))) (fun dP bV=>some ((.pan dP),[t2],bV))) (kU (rR K 150 a0 (.str [109,117,108,104,105]) bL) (fun dE bN=>lF dE (kU (uk4 K 228 a0 (iq 23) (iq 2) (.bool false) bN) (fun dF cD=>(kR 5 cD t2 dF).bind fun cE=>some (.ret,[t2],cE)) (fun dV cB=>some ((.pan dV),[t2],cB))) (kU (rR K 150 a0 (.str [99,97,114,114,121]) bN) (fun dG bO=>lF dG (kU (uk4 K 228 a0 (iq 24) (iq 2) (.bool false) bO) (fun dH cH=>(kR 5 cH t2 dH).bind fun cI=>some (.ret,[t2],cI)) (fun dX cG=>some ((.pan dX),[t2],cG))) (kU (rR K 150 a0 (.str [115,101,108,101,99,116]) bO) (fun dI bP=>lF dI (kU (uk4 K 228 a0 (iq 25) (iq 3) (.bool false) bP) (fun dJ cL=>(kR 5 cL t2 dJ).bind fun cM=>some (.ret,[t2],cM)) (fun dZ cK=>some ((.pan dZ),[t2],cK))) (kU (rR K 150 a0 (.str [119,111,114,100]) bP) (fun dK bQ=>lF dK (kU (uk4 K 228 a0 (iq 26) (iq 1) (.bool false) bQ) (fun dL cP=>(kR 5 cP t2 dL).bind fun cQ=>some (.ret,[t2],cQ)) (fun eA cO=>some ((.pan eA),[t2],cO))) (kU (rR K 150 a0 (.str [114,111,114]) bQ) (fun dM bR=>lF dM (kU (uk4 K 228 a0 (iq 16) (iq 1) (.bool true) bR) (fun dN cT=>(kR 5 cT t2 dN).bind fun aI=>some (.ret,[t2],aI)) (fun eC cS=>some ((.pan eC),[t2],cS))) (kU (rR K 103 a0 (iq 1) bR) (fun cU aK=>kU (rR K 150 a0 (.str [40]) aK) (fun aV aD=>lF aV ((kT true 4 aD t8).bind fun aW=>kU (rR K 207 a0 aW aD) (fun aX aN=>(kR 5 aN t2 aX).bind fun aO=>some (.ret,[t2],aO)) (fun bI aM=>some ((.pan bI),[t2],aM))) (kU (rR K 150 a0 (.str [91]) aD) (fun aY aA=>lF aY ((kO 1 t8).bind fun aB=>(kT false 1 aA aB).bind fun aZ=>(kO 3 t8).bind fun aC=>(kT false 1 aA aC).bind fun a_=>kU (yK K 208 a0 (nL (kY [0,1] [aB,aC]) aA)) (fun bA aR=>(lS [(iq 0),(iq 0),(iq 0),(.str []),(.slice [] .nil)] [(0,1),(1,1),(2,1),(3,1),(4,1)] [(0,(iq 3)),(1,aZ),(3,a_),(4,bA)]).bind fun bB=>(kR 5 (lP (kY [0,1] [aB,aC]) aA aR) t2 bB).bind fun aS=>some (.ret,[t2],aS)) (fun v h'=>(fun bK aQ=>some ((.pan bK),[t2],aQ)) v (lP (kY [0,1] [aB,aC]) aA h'))) (fq 1 t8 aA fun bC=>fq 3 t8 aA fun bD=>(lS [(iq 0),(iq 0),(iq 0),(.str []),(.slice [] .nil)] [(0,1),(1,1),(2,1),(3,1),(4,1)] [(0,(iq 2)),(1,bC),(3,bD)]).bind fun bE=>(kR 5 aA t2 bE).bind fun aT=>some (.ret,[t2],aT))) (fun bJ aP=>some ((.pan bJ),[t2],aP)))) (fun bH aL=>some ((.pan bH),[t2],aL))) (fun bG aJ=>some ((.pan bG),[t2],aJ)))) (fun eB cR=>some ((.pan eB),[t2],cR)))) (fun d_ cN=>some ((.pan d_),[t2],cN)))) (fun dY cJ=>some ((.pan dY),[t2],cJ)))) (fun dW cF=>some ((.pan dW),[t2],cF)))) (fun dU cA=>some ((.pan dU),[t2],cA)))) (fun dO bU=>some ((.pan dO),[t2],bU)))) (fun v4 h5=>some ((.pan v4),[t2],h5))).bind fun aG=>sM aG.2 fun aF aE=>Ex.uZ aG.1 ((kT true 5 aE aF).bind fun bF=>lY (aa0 h0) bF aE) (fun v=>rE (aa0 h0) v aE)
theorem asB K a0 h0:o6 Tryz.prog mJ mI K 227 [a0] h0=aFE (lT mJ K) a0 h0:=by kernel_rfl
def C6 (K:lB) (m:Nat) (s:St):Option R :=
 BE s fun aF aH aJ aL aB aA aO=>aq .lss aA aB ((kV .gtr aA (iq 0)).bind fun aZ=>(lF aZ (kU (rR K 102 aF (.str [44]) aO) (fun bI aU=>some (.normal,[aF,aH,aJ,aL,aB,aA],aU)) (fun bG aT=>some ((.pan bG),[aF,aH,aJ,aL,aB,aA],aT))) (some (.normal,[aF,aH,aJ,aL,aB,aA],aO))).bind fun aQ=>BE aQ.2 fun aG aI aK aC aD aE aM=>Ex.lV aQ.1 ((kO 4 aC).bind fun aN=>(kT false 1 aM aN).bind fun a_=>kU (yK K 182 aG (nL (kY [0] [aN]) aM)) (fun bA aP=>kQ (kW 1 5 [(iq 0),(iq 0),(iq 0),(.str []),(.slice [] .nil)] [(0,bA)] (nL (kY [0] [aN]) (lP (kY [0] [aN]) aM aP))) fun bB aW=>kQ (mG 5 64 (lP (kY [0] [aN]) (lP (kY [0] [aN]) aM aP) aW) a_ bB) fun bC aX=>(kO 4 aC).bind fun bD=>(kR 1 aX bD bC).bind fun aY=>(kV .add aE (iq 1)).bind fun bE=>kS m .normal [aG,aI,aK,aC,aD,bE] aY) (fun v h'=>(fun bH aV=>kS m (.pan bH) [aG,aI,aK,aC,aD,aE] aV) v (lP (kY [0] [aN]) aM h'))) (fun aR=>Ex.inBlock 1 aR ((kV .add aE (iq 1)).bind fun bF=>kS m .normal [aG,aI,aK,aC,aD,bF] aM) (fun aS=>kS m aS [aG,aI,aK,aC,aD,aE] aM))) (kS m (.exit 0) [aF,aH,aJ,aL,aB,aA] aO)
def aFF (K:lB) (a0 a1 a2 a3:kM) (h0:kP):OH :=
 (kQ (lK 5 h0 (.agg [(iq 0),(iq 0),(iq 0),(.str []),(.slice [] .nil)])) fun t2 h3=>kU (yK K 51 a0 h3) (fun t6 h7=>(sP false 1 1 t6).bind fun t8=>(lS [(iq 0),(iq 0),(iq 0),(.str []),(.slice [] .nil)] [(0,1),(1,1),(2,1),(3,1),(4,1)] [(0,a1),(1,t8)]).bind fun t9=>kQ (lK 5 h7 (.agg [(iq 0),(iq 0),(iq 0),(.str []),(.slice [] .nil)])) fun aZ bB=>(kR 5 bB aZ t9).bind fun aV=>(kZ a0).bind fun bK=>fq 1 bK aV fun bL=>(kV .add bL (iq 1)).bind fun bM=>(kZ a0).bind fun bN=>(kO 1 bN).bind fun bO=>(kR 1 aV bO bM).bind fun bC=>kU (rR K 153 a0 (.str [40]) bC) (fun bV aW=>(mI (C6 K (aa0 aW)) ([a0,a3,t2,aZ,a2,(iq 0)],aW)).bind fun aX=>BE aX.2 fun aA aL aC aD aT aU aP=>Ex.lV aX.1 none (fun a_=>Ex.inBlock 0 a_ ((lF aL (kU (rR K 102 aA (.str [44]) aP) (fun bW bF=>kU (rR K 103 aA (iq 2) bF) (fun bP bH=>(sP false 1 2 bP).bind fun bQ=>(kO 2 aD).bind fun bR=>(kR 1 bH bR bQ).bind fun bI=>some (.normal,[aA,aC,aD],bI)) (fun bU bG=>some ((.pan bU),[aA,aC,aD],bG))) (fun bT bE=>some ((.pan bT),[aA,aC,aD],bE))) (some (.normal,[aA,aC,aD],aP))).bind fun aY=>AE aY.2 fun aK aB aG aH=>Ex.lV aY.1 (kU (rR K 155 aK (.str [41]) aH) (fun bJ aI=>(kT true 5 aI aG).bind fun aQ=>(kR 5 aI aB aQ).bind fun aO=>some (.ret,[aB],aO)) (fun aS aN=>some ((.pan aS),[aB],aN))) (fun aM=>some (aM,[aB],aH))) (fun bA=>some (bA,[aC],aP)))) (fun bS bD=>some ((.pan bS),[t2],bD))) (fun v4 h5=>some ((.pan v4),[t2],h5))).bind fun aJ=>sM aJ.2 fun aF aE=>Ex.uZ aJ.1 ((kT true 5 aE aF).bind fun aR=>lY (aa0 h0) aR aE) (fun v=>rE (aa0 h0) v aE)
theorem asC K a0 a1 a2 a3 h0:o6 Tryz.prog mJ mI K 228 [a0,a1,a2,a3] h0=aFF (lT mJ K) a0 a1 a2 a3 h0:=by kernel_rfl
def m52 (K:lB) (a0:kM) (h0:kP):OH :=
 (kQ (lK 1 h0 a0) fun t2 h3=>kQ (lK 8 h3 (.agg [(iq 0),(.str []),(.slice [] .nil),(.bool false),(iq 0),(iq 0),(iq 0),(.slice [] .nil)])) fun t4 h5=>(kT false 1 h5 t2).bind fun t8=>kU (rR K 102 t8 (.str [102,110]) h5) (fun t9 aM=>(kT false 1 aM t2).bind fun bK=>kU (rR K 103 bK (iq 1) aM) (fun bL aX=>kQ (lK 4 aX (.agg [(iq 0),(iq 0),(iq 0),(.str [])])) fun aK aY=>(kR 4 aY aK bL).bind fun aG=>fq 1 aK aG fun bM=>fq 3 aK aG fun bN=>(lS [(iq 0),(.str []),(.slice [] .nil),(.bool false),(iq 0),(iq 0),(iq 0),(.slice [] .nil)] [(0,1),(1,1),(2,1),(3,1),(4,3),(7,1)] [(0,bM),(1,bN)]).bind fun bO=>kQ (lK 8 aG (.agg [(iq 0),(.str []),(.slice [] .nil),(.bool false),(iq 0),(iq 0),(iq 0),(.slice [] .nil)])) fun aB aZ=>(kR 8 aZ aB bO).bind fun aN=>(kT false 1 aN t2).bind fun bP=>kU (rR K 102 bP (.str [40]) aN) (fun cL aO=>(kT false 1 aO t2).bind fun bQ=>kU (Bv K 104 bQ (.str [41]) (.func 105 [] [t2]) aO) (fun bR bB=>(kO 2 aB).bind fun bS=>(kR 1 bB bS bR).bind fun aP=>(kT false 1 aP t2).bind fun bT=>kU (rR K 102 bT (.str [41]) aP) (fun cM aQ=>(kT false 1 aQ t2).bind fun bU=>kU (rR K 107 bU (.str [58]) aQ) (fun bV aR=>(lF bV ((kO 3 aB).bind fun bW=>(kR 1 aR bW (.bool true)).bind fun aD=>(kT false 1 aD t2).bind fun bX=>(kT false 1 aD t2).bind fun bY=>kU (yK K 109 bY (nL (kY [0] [t2]) aD)) (fun bZ bE=>kU (rR K 108 bX bZ (lP (kY [0] [t2]) aD bE)) (fun b8 bF=>(kO 4 aB).bind fun b9=>(kR 3 bF b9 b8).bind fun bG=>some (.normal,[t2,t4,aB],bG)) (fun aL aH=>some ((.pan aL),[t2,t4,aB],aH))) (fun v h'=>(fun aL aH=>some ((.pan aL),[t2,t4,aB],aH)) v (lP (kY [0] [t2]) aD h'))) (some (.normal,[t2,t4,aB],aR))).bind fun aT=>AE aT.2 fun aE aA aC aI=>Ex.lV aT.1 ((kT false 1 aI aE).bind fun b_=>kU (yK K 110 b_ aI) (fun cA bI=>(kO 7 aC).bind fun cB=>(kR 1 bI cB cA).bind fun aS=>(kT true 8 aS aC).bind fun cD=>(kR 8 aS aA cD).bind fun bJ=>some (.ret,[aA],bJ)) (fun cK bH=>some ((.pan cK),[aA],bH))) (fun aV=>some (aV,[aA],aI))) (fun cJ bD=>some ((.pan cJ),[t4],bD))) (fun cI bC=>some ((.pan cI),[t4],bC))) (fun cH bA=>some ((.pan cH),[t4],bA))) (fun cG a_=>some ((.pan cG),[t4],a_))) (fun cF aW=>some ((.pan cF),[t4],aW))) (fun v6 h7=>some ((.pan v6),[t4],h7))).bind fun aU=>sM aU.2 fun aF aJ=>Ex.uZ aU.1 ((kT true 8 aJ aF).bind fun cE=>lY (aa0 h0) cE aJ) (fun v=>rE (aa0 h0) v aJ)
theorem aA6 K a0 h0:o6 Tryz.prog mJ mI K 52 [a0] h0=m52 (lT mJ K) a0 h0:=by kernel_rfl
end
noncomputable section
open Go Hk
def Dk (K:lB) (m:Nat) (s:St):Option R :=
 B9 s fun aD aE aA aB aG=>(kZ aA).bind fun aZ=>(kO 3 aZ).bind fun a_=>fq 0 a_ aG fun bA=>(kV .eql bA (iq 0)).bind fun aC=>lG true aC (some aA) aG fun bB aM=>lG true aC (kZ bB) aM fun bC aN=>lG true aC (kO 0 bC) aN fun bD aH=>lG true aC (kT false 1 aH bD) aH fun bE aO=>lG true aC (some aA) aO fun bF aP=>lG true aC (kZ bF) aP fun bG aQ=>lG true aC (kO 1 bG) aQ fun bH aI=>lG true aC (kT false 1 aI bH) aI fun bI aR=>lG true aC (kX 4 bE bI) aR fun bJ aS=>lG true aC (kO 0 bJ) aS fun bK aJ=>lG true aC (kT false 1 aJ bK) aJ fun bL aT=>lG true aC (kV .neq bL (iq 0)) aT fun bM aK=>(lN aC bM (.bool false)).bind fun bN=>lF bN (qX K 29 aA aK fun bO aU=>kQ (lK 8 aU (.agg [(iq 0),(.str []),(.slice [] .nil),(.bool false),(iq 0),(iq 0),(iq 0),(.slice [] .nil)])) fun aL aV=>(kR 8 aV aL bO).bind fun aF=>fq 0 aB aF fun bP=>(kT true 8 aF aL).bind fun bQ=>kQ (kW 1 8 [(iq 0),(.str []),(.slice [] .nil),(.bool false),(iq 0),(iq 0),(iq 0),(.slice [] .nil)] [(0,bQ)] aF) fun bR aW=>kQ (mG 8 104 aW bP bR) fun bS aX=>(kO 0 aB).bind fun bT=>(kR 1 aX bT bS).bind fun aY=>kS m .normal [aD,aE,aA,aB] aY) (kS m (.exit 0) [aD,aE,aA,aB] aK)
def m12 (K:lB) (a0:kM) (h0:kP):OH :=
 (kQ (lK 1 h0 (.agg [(.slice [] .nil)])) fun t0 h1=>kQ (lK 2 h1 (.agg [(iq 0),(iq 0)])) fun t2 h3=>qX K 28 a0 h3 fun t4 h5=>(lH 0 t4).bind fun t6=>(lH 1 t4).bind fun t7=>kQ (lK 2 h5 (.agg [(iq 0),(iq 0)])) fun t8 h9=>(kR 2 h9 t8 t7).bind fun aH=>fq 0 t8 aH fun a_=>aq .neq a_ (iq 0) ((lS [(.slice [] .nil)] [(0,1)] []).bind fun bA=>(kT true 2 aH t8).bind fun bB=>(kR 1 (nL (kY [0] [t8]) aH) t0 bA).bind fun aW=>(kR 2 (lP (kY [0] [t8]) aH aW) t2 bB).bind fun aX=>some (.ret,[t0,t2],aX)) ((lS [(.slice [] .nil),(iq 0),(iq 0),(iq 0),(iq 0)] [(0,1),(1,1),(2,1),(3,2)] [(0,t6)]).bind fun bC=>kQ (lK 5 aH bC) fun bD aY=>kQ (lK 1 aY (.agg [(.slice [] .nil)])) fun bE aS=>(mI (Dk K (aa0 aS)) ([t0,t2,bD,bE],aS)).bind fun aT=>B9 aT.2 fun aA aB aC aJ aE=>Ex.lV aT.1 none (fun aU=>Ex.inBlock 0 aU ((kZ aC).bind fun bF=>(kO 3 bF).bind fun bG=>fq 0 bG aE fun bH=>aq .neq bH (iq 0) ((lS [(.slice [] .nil)] [(0,1)] []).bind fun bI=>(kZ aC).bind fun bJ=>(kO 3 bJ).bind fun aR=>(kT true 2 aE aR).bind fun bK=>(kR 1 (nL (kY [0] [aR]) aE) aA bI).bind fun aZ=>(kR 2 (lP (kY [0] [aR]) aE aZ) aB bK).bind fun aK=>some (.ret,[aA,aB],aK)) ((kT true 1 aE aJ).bind fun aN=>(lS [(iq 0),(iq 0)] [(0,1),(1,1)] []).bind fun aO=>(kR 1 aE aA aN).bind fun aL=>(kR 2 aL aB aO).bind fun aM=>some (.ret,[aA,aB],aM))) (fun aV=>some (aV,[aA,aB],aE))))).bind fun aI=>wN aI.2 fun aF aG aD=>Ex.nA aI.1 ((kT true 1 aD aF).bind fun aP=>(kT true 2 aD aG).bind fun aQ=>lY (aa0 h0) (.tuple [aP,aQ]) aD)
theorem ah0 K a0 h0:o6 Tryz.prog mJ mI K 12 [a0] h0=m12 (lT mJ K) a0 h0:=by kernel_rfl
end
section
open Go Hk
def PB (L:List Token) (at_ deep:Nat):lE:=.cells [.slice (L.map Token.cells) .no,.int .i64 (at_:Int),.int .i64 (deep:Int)]
theorem aCD (t:Token):∀x∈t.cells,x.mD=true:=by intro x hx; simp [Token.cells] at hx; rcases hx with rfl | rfl | rfl | rfl <;> rfl
theorem auD (t:Token):(∀x,x∈t.cells→x.mD=true)=True:=eq_true (aCD t)
theorem ahM (t:Token) (m:Nat) (h:kP):t.cells.map (kM.uH∘fun x=>kM.mO m h x)=t.cells:=(rfl)
@[simp] theorem aDS (t:Token) (h:kP) (os:List kM):pV h os t.cells=t.cells:=rA (by intro c hc; simp [Token.cells] at hc; rcases hc with rfl | rfl | rfl | rfl <;> rfl)
def isS (t:Token) (w:List UInt8):Bool:=(decide (t.kind=3) || decide (t.kind=4)) && decide (t.text=w)
def p9 (e pos:Nat):kM:=.iface 102 (.agg [.int .i64 (e:Int),.int .i64 (pos:Int)])
theorem uX {m:Nat}{h:kP}{e p:Int}:(kM.vM m h (.iface 102 (.agg [.int .i64 e,.int .i64 p]))).mV=.iface 102 (.agg [.int .i64 e,.int .i64 p]):=(rfl)
def JQ:List UInt8:=[115,101,99]
def Py:List UInt8:=[112,117,98]
def zS:List UInt8:=[109,97,115,107]
def J4:List UInt8:=[117,51,50]
theorem Qg {m:Nat}{h:kP}{x y z:Int}:(kM.vM m h (.agg [.int .i64 x,.int .i64 y,.int .i64 z])).mV=.agg [.int .i64 x,.int .i64 y,.int .i64 z]:=(rfl)
end
section
open Go Hk
structure Ty where
 elem:Nat
 len:Nat
 label:Nat
 deriving DecidableEq
structure XP where
 pos:Nat
 name:List UInt8
 ty:Ty
 out:Bool
inductive XE where
 | mk (kind pos num:Nat) (name:List UInt8) (args:List XE)
inductive XS where
 | mk (kind pos sB:Nat) (name:List UInt8) (ty:Ty) (args:List XE) (body els:List XS) (has:Bool)
structure XF where
 pos:Nat
 name:List UInt8
 params:List XP
 has:Bool
 result:Ty
 body:List XS
inductive Out (α:Type) where
 | ok (v:α) (at_ deep:Nat)
 | bad (e pos at_ deep:Nat)
def PM (α:Type):Type:=Nat→Nat→Out α
def PM.bind {α β:Type}(x:PM α) (f:α→PM β):PM β:=fun a d=>match x a d with
 | .ok v a' d'=>f v a' d'
 | .bad e p a' d'=>.bad e p a' d'
instance:Monad PM where
 pure v:=fun a d=>.ok v a d
 bind:=PM.bind
theorem mK {α β:Type}{x:PM α}{f:α→PM β}:x >>= f=PM.bind x f:=rfl
theorem y9 {α:Type}{v:α}{a d:Nat}:(pure v:PM α) a d=.ok v a d:=rfl
def tk (L:List Token) (a:Nat):Token:=(L[a]?).getD ⟨0,0,0,[]⟩
section
variable (L:List Token)
def w_ {α:Type}(e:Nat):PM α:=fun a d=>.bad e (tk L a).pos a d
def oQ:PM Token:=fun a d=>.ok (tk L a) a d
def xU:PM Unit:=fun a d=>.ok () (a+1) d
def pUp:PM Unit:=fun a d=>.ok () a (d - 1)
def GZ (w:List UInt8):PM Bool:=fun a d=>.ok (isS (tk L a) w) a d
def pM (w:List UInt8):PM Bool:=fun a d=>.ok (isS (tk L a) w) (if isS (tk L a) w then a+1 else a) d
def oR (w:List UInt8):PM Unit:=fun a d=>if isS (tk L a) w then .ok () (a+1) d else .bad 10 (tk L a).pos a d
def qM (k:Nat):PM Token:=fun a d=>if (tk L a).kind=k then .ok (tk L a) (a+1) d else .bad 10 (tk L a).pos a d
def uJ (w:List UInt8):PM Unit:=fun a d =>
 if isS (tk L a) w then(if d=64 then .bad 11 (tk L a).pos a d else .ok () (a+1) (d+1)) else .bad 10 (tk L a).pos a d
def uK (w:List UInt8):PM Unit:=fun a d=>if isS (tk L a) w then .ok () (a+1) (d - 1) else .bad 10 (tk L a).pos a d
def sQ:PM Nat:=fun a d =>
 if isS (tk L a) JQ then .ok 1 (a+1) d else if isS (tk L a) Py then .ok 0 (a+1) d else .bad 10 (tk L a).pos a d
def qO (l:Nat):PM Ty:=fun a d =>
 if isS (tk L a) zS then .ok ⟨1,0,l⟩ (a+1) d else if isS (tk L a) J4 then .ok ⟨0,0,l⟩ (a+1) d else .bad 10 (tk L a).pos a d
def yN:PM Nat:=do
 oR L [91]
 let t ←oQ L
 if t.kind=2∧t.num=0 then w_ L 10
 else
  let n ←qM L 2
  oR L [93]
  return n.num
def vK (l:Nat):PM Ty:=do
 if ←pM L [117,56] then
  let n ←yN L
  return ⟨2,n,l⟩
 else
  let t ←qO L l
  if t.elem=0 then
   if ←GZ L [91] then
    let n ←yN L
    return { t with len:=n }
   else return t
  else return t
def u1:PM XP:=do
 let out ←pM L [111,117,116]
 let l ←sQ L
 let name ←qM L 1
 oR L [58]
 let ty ←vK L l
 return ⟨name.pos,name.text,ty,out⟩
def xT {α:Type}(one:PM α):Nat→List α→PM (List α)
 | 0,_=>w_ L 99
 | n+1,l=>do
  let x ←one
  if ←pM L [44] then xT one n (l++[x]) else return l++[x]
def yZ {α:Type}(end_:List UInt8) (one:PM α):PM (List α):=do
 if ←GZ L end_ then return [] else xT L one 131073 []
def nV (w:List UInt8):Option (Nat×Nat) :=
 if w=[61,61] then some (0,17) else if w=[33,61] then some (0,18) else if w=[60] then some (0,19) else if w=[60,61] then some (0,20)
 else if w=[62] then some (0,21) else if w=[62,61] then some (0,22) else if w=[124] then some (1,12) else if w=[94] then some (2,13)
 else if w=[38] then some (3,11) else if w=[60,60] then some (4,14) else if w=[62,62] then some (4,15) else if w=[43] then some (5,8)
 else if w=[45] then some (5,9) else if w=[42] then some (6,10) else none
def pO (t:Token) (k:Nat):Option Nat :=
 if t.kind=4 then match nV t.text with
  | some (n,kind)=>if n=k then some kind else none
  | none=>none
 else none
section
variable (expr unary:PM XE)
def uU:PM (List XE):=do
 uJ L [91]
 let x ←expr
 uK L [93]
 return [x]
def zT (name:Token):PM XE:=do
 uJ L [40]
 let l ←yZ L [41] expr
 uK L [41]
 return .mk 4 name.pos 0 name.text l
def tO:Nat→Bool→List XE→PM (List XE)
 | 0,_,l=>pure l
 | n+1,first,l=>do
  if !first then oR L [44]
  let x ←expr
  tO n false (l++[x])
def vY (kind many:Nat) (number:Bool):PM XE:=do
 let t ←oQ L
 xU
 uJ L [40]
 let l ←tO L expr many true []
 if number then
  oR L [44]
  let n ←qM L 2
  uK L [41]
  return .mk kind t.pos n.num [] l
 else
  uK L [41]
  return .mk kind t.pos 0 [] l
def qD:PM XE:=do
 let t ←oQ L
 if t.kind=2 then
  xU
  return .mk 1 t.pos t.num [] []
 else if isS t [40] then
  uJ L [40]
  let x ←expr
  uK L [41]
  return x
 else if isS t [109,117,108,104,105] then vY L expr 23 2 false
 else if isS t [99,97,114,114,121] then vY L expr 24 2 false
 else if isS t [115,101,108,101,99,116] then vY L expr 25 3 false
 else if isS t [119,111,114,100] then vY L expr 26 1 false
 else if isS t [114,111,114] then vY L expr 16 1 true
 else
  let _ ←qM L 1
  if ←GZ L [40] then zT L expr t
  else if ←GZ L [91] then
   let l ←uU L expr
   return .mk 3 t.pos 0 t.text l
  else return .mk 2 t.pos 0 t.text []
def AK (kind:Nat):PM XE:=do
 let t ←oQ L
 uJ L t.text
 let x ←unary
 pUp
 return .mk kind t.pos 0 [] [x]
def yB:PM XE:=do
 let t ←oQ L
 if isS t [126] then AK L unary 5
 else if isS t [45] then AK L unary 6
 else if isS t [33] then AK L unary 7
 else qD L expr
end
def tP (next:PM XE) (k:Nat):Nat→XE→PM XE
 | 0,_=>w_ L 99
 | n+1,x=>do
  let t ←oQ L
  match pO t k with
  | none=>return x
  | some kind =>
   xU
   if kind=14∨kind=15 then
    let c ←qM L 2
    tP next k n (.mk kind t.pos c.num [] [x])
   else
    let y ←next
    tP next k n (.mk kind t.pos 0 [] [x,y])
def pD (un:PM XE):Nat→PM XE
 | 0=>un
 | j+1=>do
  let x ←pD un j
  tP L (pD un j) (6 - j) 131073 x
def Bj (un:PM XE):PM XE:=do
 let x ←pD L un 6
 let t ←oQ L
 match pO t 0 with
 | none=>return x
 | some kind =>
  xU
  let y ←pD L un 6
  return .mk kind t.pos 0 [] [x,y]
def EC:Nat→PM XE
 | 0=>w_ L 99
 | n+1=>yB L (Bj L (EC n)) (EC n)
def B1 (n:Nat):PM XE:=Bj L (EC L n)
def Bu (n:Nat):PM (List XE):=do
 let x ←B1 L n
 oR L [59]
 return [x]
def pN (n pos:Nat):PM XS:=do
 let name ←qM L 1
 if ←GZ L [40] then
  let c ←zT L (B1 L (n - 1)) name
  oR L [59]
  return .mk 7 pos 0 [] ⟨0,0,0⟩ [c] [] [] false
 else if ←GZ L [91] then
  let i ←uU L (B1 L (n - 1))
  oR L [61]
  let l ←Bu L n
  return .mk 4 pos 0 name.text ⟨0,0,0⟩ (i++l) [] [] false
 else
  oR L [61]
  let l ←Bu L n
  return .mk 3 pos 0 name.text ⟨0,0,0⟩ l [] [] false
def uL (block:PM (List XS)) (n:Nat):PM XS:=do
 let t ←oQ L
 if ←pM L [108,101,116] then
  let name ←qM L 1
  oR L [61]
  let l ←Bu L n
  return .mk 1 t.pos 0 name.text ⟨0,0,0⟩ l [] [] false
 else if ←pM L [118,97,114] then
  let lab ←sQ L
  let name ←qM L 1
  oR L [58]
  let ty ←vK L lab
  oR L [59]
  return .mk 2 t.pos 0 name.text ty [] [] [] false
 else if ←pM L [105,102] then
  let x ←B1 L n
  let b ←block
  if ←pM L [101,108,115,101] then
   let e ←block
   return .mk 5 t.pos 0 [] ⟨0,0,0⟩ [x] b e true
  else return .mk 5 t.pos 0 [] ⟨0,0,0⟩ [x] b [] false
 else if ←pM L [102,111,114] then
  let name ←qM L 1
  oR L [60]
  let x ←B1 L n
  oR L [109,97,120]
  let m ←qM L 2
  let b ←block
  return .mk 6 t.pos m.num name.text ⟨0,0,0⟩ [x] b [] false
 else if ←pM L [114,101,116,117,114,110] then
  let l ←Bu L n
  return .mk 8 t.pos 0 [] ⟨0,0,0⟩ l [] [] false
 else pN L n t.pos
def vZ (stmt:PM XS):Nat→List XS→PM (List XS)
 | 0,_=>w_ L 99
 | m+1,l=>do
  if ←GZ L [125] then return l
  else
   let s ←stmt
   vZ stmt m (l++[s])
def sE:Nat→PM (List XS)
 | 0=>w_ L 99
 | n+1=>do
  uJ L [123]
  let l ←vZ L (uL L (sE n) n) 131073 []
  uK L [125]
  return l
def wL:PM XF:=do
 oR L [102,110]
 let name ←qM L 1
 oR L [40]
 let ps ←yZ L [41] (u1 L)
 oR L [41]
 if ←pM L [58] then
  let l ←sQ L
  let ty ←qO L l
  let b ←sE L 65
  return ⟨name.pos,name.text,ps,true,ty,b⟩
 else
  let b ←sE L 65
  return ⟨name.pos,name.text,ps,false,⟨0,0,0⟩,b⟩
def o7:Nat→List XF→PM (List XF)
 | 0,_=>w_ L 99
 | m+1,l=>do
  let t ←oQ L
  if t.kind=0 then return l
  else
   let f ←wL L
   o7 m (l++[f])
end
def mW (s:List UInt8):List XF×Nat×Nat :=
 if (oI s).2.1=0 then match o7 (oI s).1 131073 [] 0 0 with
  | .ok l _ _=>(l,0,0)
  | .bad e p _ _=>([],e,p)
 else([],(oI s).2.1,(oI s).2.2)
end
section
open Go Hk
def rF (L:List Token):Prop:=∀(i:Nat) (t:Token),L[i]?=some t→t.kind≠0→i+1 < L.length
def mB (L:List Token) {α:Type}(s:Nat) (k:Nat→Nat) (x:PM α):Prop :=
 ∀a d v a' d',x a d=.ok v a' d'→a < L.length→a+s≤a'∧a' < L.length∧d'=k d
section
variable {L:List Token}{α β:Type}
theorem SY {a:Nat}(h:a < L.length):L[a]?=some (tk L a):=by simp [tk,h]
theorem mB.mono {s s':Nat}{k k':Nat→Nat}{x:PM α}(hx:mB L s k x) (hs:s'≤s) (hk:∀d,k d=k' d):mB L s' k' x:=by
 intro a d v a' d' h ha
 obtain⟨h1,h2,h3⟩:=hx a d v a' d' h ha
 exact⟨by omega,h2,by rw [h3,hk]⟩
theorem mB.bind {s s':Nat}{k k':Nat→Nat}{x:PM α}{f:α→PM β}(hx:mB L s k x) (hf:∀v,mB L s' k' (f v)):mB L (s+s') (fun d=>k' (k d)) (x >>= f):=by
 intro a d v a' d' h ha
 rw [mK] at h
 unfold PM.bind at h
 cases hx1:x a d with
 | bad e p a1 d1=>rw [hx1] at h; cases h
 | ok v1 a1 d1 =>
  rw [hx1] at h
  obtain⟨h1,h2,h3⟩:=hx a d v1 a1 d1 hx1 ha
  obtain⟨h4,h5,h6⟩:=hf v1 a1 d1 v a' d' h h2
  exact⟨by omega,h5,by rw [h6,h3]⟩
theorem mB.pure {v:α}:mB L 0 (fun d=>d) (Pure.pure v:PM α):=by
 intro a d v' a' d' h ha
 cases h
 exact⟨ac5 _,ha,rfl⟩
theorem mB.fail {e:Nat}{s:Nat}{k:Nat→Nat}:mB L s k (w_ L e:PM α):=by
 intro a d v a' d' h; cases h
theorem mB.ite {c:Prop} [Decidable c] {s:Nat}{k:Nat→Nat}{x y:PM α}(hx:mB L s k x) (hy:mB L s k y):mB L s k (if c then x else y):=by
 split
 ·exact hx
 ·exact hy
variable (hL:rF L)
include hL
theorem mR {a:Nat}{w:List UInt8}(ha:a < L.length) (h:isS (tk L a) w=true):a+1 < L.length:=by
 refine hL a _ (SY ha) fun h0=>?_
 simp [isS,h0] at h
theorem p8 {a k:Nat}(ha:a < L.length) (hk:k≠0) (h:(tk L a).kind=k):a+1 < L.length:=hL a _ (SY ha) (by omega)
omit hL in
theorem M4:mB L 0 (fun d=>d) (oQ L):=by
 intro a d v a' d' h ha; cases h; exact⟨ac5 _,ha,rfl⟩
omit hL in
theorem WC {w:List UInt8}:mB L 0 (fun d=>d) (GZ L w):=by
 intro a d v a' d' h ha; cases h; exact⟨ac5 _,ha,rfl⟩
theorem A8 {w:List UInt8}:mB L 0 (fun d=>d) (pM L w):=by
 intro a d v a' d' h ha
 unfold pM at h
 cases h
 split
 ·rename_i hs; exact⟨by omega,mR hL ha hs,rfl⟩
 ·exact⟨by omega,ha,rfl⟩
theorem qQ {w:List UInt8}:mB L 1 (fun d=>d) (oR L w):=by
 intro a d v a' d' h ha
 unfold oR at h
 split at h
 ·rename_i hs; cases h; exact⟨by omega,mR hL ha hs,rfl⟩
 ·cases h
theorem tF {k:Nat}(hk:k≠0):mB L 1 (fun d=>d) (qM L k):=by
 intro a d v a' d' h ha
 unfold qM at h
 split at h
 ·rename_i hs; cases h; exact⟨by omega,p8 hL ha hk hs,rfl⟩
 ·cases h
theorem Am {w:List UInt8}:mB L 1 (fun d=>d+1) (uJ L w):=by
 intro a d v a' d' h ha
 unfold uJ at h
 split at h
 ·rename_i hs
  split at h
  ·cases h
  ·cases h; exact⟨by omega,mR hL ha hs,rfl⟩
 ·cases h
theorem AR {w:List UInt8}:mB L 1 (fun d=>d - 1) (uK L w):=by
 intro a d v a' d' h ha
 unfold uK at h
 split at h
 ·rename_i hs; cases h; exact⟨by omega,mR hL ha hs,rfl⟩
 ·cases h
theorem BS:mB L 1 (fun d=>d) (sQ L):=by
 intro a d v a' d' h ha
 unfold sQ at h
 split at h
 ·rename_i hs; cases h; exact⟨by omega,mR hL ha hs,rfl⟩
 ·split at h
  ·rename_i hs; cases h; exact⟨by omega,mR hL ha hs,rfl⟩
  ·cases h
theorem EX {l:Nat}:mB L 1 (fun d=>d) (qO L l):=by
 intro a d v a' d' h ha
 unfold qO at h
 split at h
 ·rename_i hs; cases h; exact⟨by omega,mR hL ha hs,rfl⟩
 ·split at h
  ·rename_i hs; cases h; exact⟨by omega,mR hL ha hs,rfl⟩
  ·cases h
theorem RU:mB L 1 (fun d=>d) (yN L):=by
 unfold yN
 refine((qQ hL).bind fun _=>M4.bind fun t=>(mB.ite mB.fail ?_:mB L 0 (fun d=>d) _)).mono (by omega) fun _=>rfl
 exact((tF hL (by decide)).bind fun _=>(qQ hL).bind fun _=>mB.pure).mono (Nat.zero_le _) fun _=>rfl
theorem HC {l:Nat}:mB L 1 (fun d=>d) (vK L l):=by
 unfold vK
 refine((A8 hL).bind (s':=1) (k':=fun d=>d) fun b=>mB.ite ?_ ?_).mono (by omega) fun _=>rfl
 ·exact((RU hL).bind fun _=>mB.pure).mono (by omega) fun _=>rfl
 ·refine((EX hL).bind (s':=0) (k':=fun d=>d) fun t=>mB.ite ?_ mB.pure).mono (by omega) fun _=>rfl
  refine(WC.bind (s':=0) (k':=fun d=>d) fun _=>mB.ite ?_ mB.pure).mono (by omega) fun _=>rfl
  exact((RU hL).bind fun _=>mB.pure).mono (by omega) fun _=>rfl
theorem HD:mB L 1 (fun d=>d) (u1 L):=by
 unfold u1
 exact((A8 hL).bind fun _=>(BS hL).bind fun _=>(tF hL (by omega)).bind fun _=>(qQ hL).bind fun _=>(HC hL).bind fun _=>mB.pure).mono (by omega) fun _=>rfl
theorem agZ {one:PM α}(h1:mB L 1 (fun d=>d) one):∀(n:Nat) (l:List α),mB L 1 (fun d=>d) (xT L one n l)
 | 0,_=>mB.fail
 | n+1,l=>(h1.bind (s':=0) (k':=fun d=>d) fun x=>((A8 hL).bind (s':=0) (k':=fun d=>d) fun b=>mB.ite ((agZ h1 n _).mono (by omega) fun _=>rfl) mB.pure).mono (by omega) fun _=>rfl).mono (by omega) fun _=>rfl
theorem GC {one:PM α}{w:List UInt8}(h1:mB L 1 (fun d=>d) one):mB L 0 (fun d=>d) (yZ L w one):=by
 unfold yZ
 exact(WC.bind (s':=0) (k':=fun d=>d) fun b=>mB.ite mB.pure ((agZ hL h1 _ _).mono (by omega) fun _=>rfl)).mono (by omega) fun _=>rfl
section
variable {ex un:PM XE}(he:mB L 1 (fun d=>d) ex) (hu:mB L 1 (fun d=>d) un)
include he
theorem HB:mB L 1 (fun d=>d) (uU L ex):=by
 unfold uU
 exact((Am hL).bind fun _=>he.bind fun _=>(AR hL).bind fun _=>mB.pure).mono (by omega) fun _=>Nat.add_sub_cancel _ _
theorem RP {t:Token}:mB L 1 (fun d=>d) (zT L ex t):=by
 unfold zT
 exact((Am hL).bind fun _=>(GC hL he).bind fun _=>(AR hL).bind fun _=>mB.pure).mono (by omega) fun _=>Nat.add_sub_cancel _ _
theorem M0:∀(n:Nat) (b:Bool) (l:List XE),mB L 0 (fun d=>d) (tO L ex n b l)
 | 0,_,_=>mB.pure
 | n+1,b,l=>by
  unfold tO
  have h1:mB L 0 (fun d=>d) (do let x ←ex; tO L ex n false (l++[x]):PM (List XE)):=(he.bind fun _=>M0 n _ _).mono (by omega) fun _=>rfl
  cases b
  ·exact((qQ hL).bind fun _=>h1).mono (by omega) fun _=>rfl
  ·exact((mB.pure (v:=PUnit.unit)).bind fun _=>h1).mono (by omega) fun _=>rfl
end
omit hL
def qZ (L:List Token) {α:Type}(s:Nat) (k:Nat→Nat) (x:PM α) (a:Nat):Prop :=
 ∀d v a' d',x a d=.ok v a' d'→a+s≤a'∧a' < L.length∧d'=k d
theorem mB.at {s:Nat}{k:Nat→Nat}{x:PM α}(h:mB L s k x) {a:Nat}(ha:a < L.length):qZ L s k x a:=fun d v a' d' hx=>h a d v a' d' hx ha
theorem qZ.all {s:Nat}{k:Nat→Nat}{x:PM α}(h:∀a,a < L.length→qZ L s k x a):mB L s k x:=fun a d v a' d' hx ha=>h a ha d v a' d' hx
theorem qZ.here {s:Nat}{k:Nat→Nat}{f:Token→PM α}{a:Nat}(h:qZ L s k (f (tk L a)) a):qZ L s k (oQ L >>= f) a:=fun d v a' d' hx=>h d v a' d' hx
theorem qZ.next {s:Nat}{k:Nat→Nat}{f:Unit→PM α}{a:Nat}(ha:a+1 < L.length) (h:mB L s k (f ())):qZ L (s+1) k (xU >>= f) a:=fun d v a' d' hx=>by
 obtain⟨h1,h2,h3⟩:=h (a+1) d v a' d' hx ha
 exact⟨by omega,h2,h3⟩
theorem qZ.mono {s s':Nat}{k k':Nat→Nat}{x:PM α}{a:Nat}(hx:qZ L s k x a) (hs:s'≤s) (hk:∀d,k d=k' d):qZ L s' k' x a:=by
 intro d v a' d' h
 obtain⟨h1,h2,h3⟩:=hx d v a' d' h
 exact⟨by omega,h2,by rw [h3,hk]⟩
theorem qZ.ite {c:Prop} [Decidable c] {s:Nat}{k:Nat→Nat}{x y:PM α}{a:Nat}(hx:c→qZ L s k x a) (hy:¬c→qZ L s k y a):qZ L s k (if c then x else y) a:=by
 split
 ·rename_i h; exact hx h
 ·rename_i h; exact hy h
theorem aJU:mB L 0 (fun d=>d - 1) pUp:=by
 intro a d v a' d' h ha; cases h; exact⟨ac5 _,ha,rfl⟩
include hL
section
variable {ex un:PM XE}(he:mB L 1 (fun d=>d) ex) (hu:mB L 1 (fun d=>d) un)
include he
theorem M5 {kind many a:Nat}{number:Bool}(ha:a+1 < L.length):qZ L 1 (fun d=>d) (vY L ex kind many number) a:=by
 unfold vY
 refine qZ.here ((qZ.next (s:=1) (k:=fun d=>d) ha ?_).mono (by omega) fun _=>rfl)
 refine((Am hL).bind (s':=1) (k':=fun d=>d - 1) fun _=>((M0 hL he _ _ _).bind (s':=1) (k':=fun d=>d - 1) fun l=>mB.ite ?_ ?_).mono (by omega) fun _=>rfl).mono (by omega) fun _=>Nat.add_sub_cancel _ _
 ·exact((qQ hL).bind fun _=>(tF hL (by omega)).bind fun _=>(AR hL).bind fun _=>mB.pure).mono (by omega) fun _=>rfl
 ·exact((AR hL).bind fun _=>mB.pure).mono (by omega) fun _=>rfl
theorem abG:mB L 1 (fun d=>d) (qD L ex):=by
 unfold qD
 refine qZ.all fun a ha=>qZ.here ?_
 refine qZ.ite (fun h=>?_) fun _=>qZ.ite (fun h=>?_) fun _=>qZ.ite (fun h=>M5 hL he (mR hL ha h)) fun _=>qZ.ite (fun h=>M5 hL he (mR hL ha h)) fun _ =>
  qZ.ite (fun h=>M5 hL he (mR hL ha h)) fun _=>qZ.ite (fun h=>M5 hL he (mR hL ha h)) fun _=>qZ.ite (fun h=>M5 hL he (mR hL ha h)) fun _=>mB.at ?_ ha
 ·exact qZ.next (s:=0) (k:=fun d=>d) (f:=fun _=>pure _) (p8 (k:=2) hL ha (by decide) h) mB.pure
 ·refine mB.at ?_ ha
  exact((Am hL).bind fun _=>he.bind fun _=>(AR hL).bind fun _=>mB.pure).mono (by omega) fun _=>Nat.add_sub_cancel _ _
 ·refine((tF hL (by omega)).bind (s':=0) (k':=fun d=>d) fun _=>(WC.bind (s':=0) (k':=fun d=>d) fun _=>mB.ite ?_ ?_).mono (by omega) fun _=>rfl).mono (by omega) fun _=>rfl
  ·exact(RP hL he).mono (by omega) fun _=>rfl
  ·refine(WC.bind (s':=0) (k':=fun d=>d) fun _=>mB.ite ?_ mB.pure).mono (by omega) fun _=>rfl
   exact((HB hL he).bind fun _=>mB.pure).mono (by omega) fun _=>rfl
include hu
theorem apC:mB L 1 (fun d=>d) (yB L ex un):=by
 have hs:∀kind,mB L 1 (fun d=>d) (AK L un kind):=fun kind=>by
  unfold AK
  exact(M4.bind fun t=>(Am hL).bind fun _=>hu.bind fun _=>aJU.bind fun _=>mB.pure).mono (by omega) fun _=>Nat.add_sub_cancel _ _
 unfold yB
 exact(M4.bind (s':=1) (k':=fun d=>d) fun t=>mB.ite (hs _) (mB.ite (hs _) (mB.ite (hs _) (abG hL he)))).mono (by omega) fun _=>rfl
end
omit hL in
theorem sO {t:Token}{k kind:Nat}(h:pO t k=some kind):t.kind=4:=by
 unfold pO at h
 split at h
 ·assumption
 ·cases h
theorem WD {next:PM XE}(hn:mB L 1 (fun d=>d) next) (k:Nat):∀(n:Nat) (x:XE),mB L 0 (fun d=>d) (tP L next k n x)
 | 0,_=>mB.fail
 | n+1,x=>by
  unfold tP
  refine qZ.all fun a ha=>qZ.here ?_
  cases hs:pO (tk L a) k with
  | none=>exact mB.pure.at ha
  | some kind =>
   refine(qZ.next (s:=0) (k:=fun d=>d) (p8 (k:=4) hL ha (by decide) (sO hs)) (mB.ite ?_ ?_)).mono (by omega) fun _=>rfl
   ·exact((tF hL (by omega)).bind fun _=>WD hn k n _).mono (by omega) fun _=>rfl
   ·exact(hn.bind fun _=>WD hn k n _).mono (by omega) fun _=>rfl
theorem BQ {un:PM XE}(hu:mB L 1 (fun d=>d) un):∀j,mB L 1 (fun d=>d) (pD L un j)
 | 0=>hu
 | j+1=>((BQ hu j).bind fun _=>WD hL (BQ hu j) _ _ _).mono (by omega) fun _=>rfl
theorem agY {un:PM XE}(hu:mB L 1 (fun d=>d) un):mB L 1 (fun d=>d) (Bj L un):=by
 unfold Bj
 refine((BQ hL hu 6).bind (s':=0) (k':=fun d=>d) fun x=>qZ.all fun a ha=>qZ.here ?_).mono (by omega) fun _=>rfl
 cases hs:pO (tk L a) 0 with
 | none=>exact mB.pure.at ha
 | some kind =>
  refine(qZ.next (s:=0) (k:=fun d=>d) (p8 (k:=4) hL ha (by decide) (sO hs)) ?_).mono (by omega) fun _=>rfl
  exact((BQ hL hu 6).bind fun _=>mB.pure).mono (by omega) fun _=>rfl
theorem RW:∀n,mB L 1 (fun d=>d) (EC L n)
 | 0=>mB.fail
 | n+1=>apC hL (agY hL (RW n)) (RW n)
theorem Dh (n:Nat):mB L 1 (fun d=>d) (B1 L n):=agY hL (RW hL n)
theorem Kt (n:Nat):mB L 1 (fun d=>d) (Bu L n):=by
 unfold Bu
 exact((Dh hL n).bind fun _=>(qQ hL).bind fun _=>mB.pure).mono (by omega) fun _=>rfl
theorem apB (n pos:Nat):mB L 1 (fun d=>d) (pN L n pos):=by
 unfold pN
 refine((tF hL (by omega)).bind (s':=0) (k':=fun d=>d) fun _=>(WC.bind (s':=0) (k':=fun d=>d) fun _=>mB.ite ?_ ?_).mono (by omega) fun _=>rfl).mono (by omega) fun _=>rfl
 ·exact((RP hL (Dh hL _)).bind fun _=>(qQ hL).bind fun _=>mB.pure).mono (by omega) fun _=>rfl
 ·refine(WC.bind (s':=0) (k':=fun d=>d) fun _=>mB.ite ?_ ?_).mono (by omega) fun _=>rfl
  ·exact((HB hL (Dh hL _)).bind fun _=>(qQ hL).bind fun _=>(Kt hL _).bind fun _=>mB.pure).mono (by omega) fun _=>rfl
  ·exact((qQ hL).bind fun _=>(Kt hL _).bind fun _=>mB.pure).mono (by omega) fun _=>rfl
theorem RV {block:PM (List XS)}(hb:mB L 1 (fun d=>d) block) (n:Nat):mB L 1 (fun d=>d) (uL L block n):=by
 unfold uL
 refine(M4.bind (s':=1) (k':=fun d=>d) fun _=>((A8 hL).bind (s':=1) (k':=fun d=>d) fun _=>mB.ite ?_ ?_).mono (by omega) fun _=>rfl).mono (by omega) fun _=>rfl
 ·exact((tF hL (by omega)).bind fun _=>(qQ hL).bind fun _=>(Kt hL _).bind fun _=>mB.pure).mono (by omega) fun _=>rfl
 refine((A8 hL).bind (s':=1) (k':=fun d=>d) fun _=>mB.ite ?_ ?_).mono (by omega) fun _=>rfl
 ·exact((BS hL).bind fun _=>(tF hL (by omega)).bind fun _=>(qQ hL).bind fun _=>(HC hL).bind fun _=>(qQ hL).bind fun _=>mB.pure).mono (by omega) fun _=>rfl
 refine((A8 hL).bind (s':=1) (k':=fun d=>d) fun _=>mB.ite ?_ ?_).mono (by omega) fun _=>rfl
 ·refine((Dh hL n).bind (s':=1) (k':=fun d=>d) fun _=>(hb.bind (s':=0) (k':=fun d=>d) fun _=>((A8 hL).bind (s':=0) (k':=fun d=>d) fun _=>mB.ite ?_ mB.pure).mono (by omega) fun _=>rfl).mono (by omega) fun _=>rfl).mono (by omega) fun _=>rfl
  exact(hb.bind fun _=>mB.pure).mono (by omega) fun _=>rfl
 refine((A8 hL).bind (s':=1) (k':=fun d=>d) fun _=>mB.ite ?_ ?_).mono (by omega) fun _=>rfl
 ·exact((tF hL (by omega)).bind fun _=>(qQ hL).bind fun _=>(Dh hL n).bind fun _=>(qQ hL).bind fun _=>(tF hL (by omega)).bind fun _=>hb.bind fun _=>mB.pure).mono (by omega) fun _=>rfl
 refine((A8 hL).bind (s':=1) (k':=fun d=>d) fun _=>mB.ite ?_ (apB hL _ _)).mono (by omega) fun _=>rfl
 exact((Kt hL n).bind fun _=>mB.pure).mono (by omega) fun _=>rfl
omit hL in
theorem Lk {stmt:PM XS}(hs:mB L 1 (fun d=>d) stmt):∀(m:Nat) (l:List XS),mB L 0 (fun d=>d) (vZ L stmt m l)
 | 0,_=>mB.fail
 | m+1,l=>(WC.bind (s':=0) (k':=fun d=>d) fun _=>mB.ite mB.pure ((hs.bind fun _=>Lk hs m _).mono (by omega) fun _=>rfl)).mono (by omega) fun _=>rfl
theorem BP:∀n,mB L 1 (fun d=>d) (sE L n)
 | 0=>mB.fail
 | n+1=>((Am hL).bind fun _=>(Lk (RV hL (BP n) n) _ _).bind fun _=>(AR hL).bind fun _=>mB.pure).mono (by omega) fun _=>Nat.add_sub_cancel _ _
theorem M1:mB L 1 (fun d=>d) (wL L):=by
 unfold wL
 refine((qQ hL).bind fun _=>(tF hL (by omega)).bind fun _=>(qQ hL).bind fun _=>(GC hL (HD hL)).bind fun _=>(qQ hL).bind fun _=>((A8 hL).bind (s':=0) (k':=fun d=>d) fun _=>mB.ite ?_ ?_)).mono (by omega) fun _=>rfl
 ·exact((BS hL).bind fun _=>(EX hL).bind fun _=>(BP hL _).bind fun _=>mB.pure).mono (by omega) fun _=>rfl
 ·exact((BP hL _).bind fun _=>mB.pure).mono (by omega) fun _=>rfl
end
end
end Go.Proofs.YtlddmnojanpdoaaGreatDoor
