/-
  The texts SG.M, SG.M2, SG.A, SG.P, SG.G, one behind another. No conditions.
-/
import Derived.Test.YtlddmnojanpdoaaGreatDoorPLg1
set_option linter.unusedVariables false
set_option linter.unusedSimpArgs false
set_option linter.all false
open List renaming length → aa1
open Nat renaming le_refl → ab6
namespace Go.Proofs.YtlddmnojanpdoaaGreatDoor
noncomputable section
open Go Hk
def Za (K:kW) (a0 a1:kM) (pv:Option kM) (h0:kP):Option kP :=
 ((zL 102 (.agg [(.int .i64 0),(.int .i64 0)]) (Option.getD pv .niliface)).bind fun t0=>(lI 0 t0).bind fun t1=>(lI 1 t0).bind fun t2=>kR (lL 2 h0 (.agg [(.int .i64 0),(.int .i64 0)])) fun t3 h4=>(kS 2 h4 t3 t1).bind fun h5=>(lH t2 ((lT [(.slice [] .nil)] [(0,1)] []).bind fun t6=>(kO 0 t3).bind fun t7=>(kU true 2 h5 t7).bind fun t8=>(kS 1 (nL (k9 [0] [t7]) h5) a0 t6).bind fun h9=>(kS 2 (lQ (k9 [0] [t7]) h5 h9) a1 t8).bind fun h10=>some (.normal,[],h10)) (some (.normal,[],h5))).bind fun r11=>(fun h12=>Ex.uB r11.1 (some (.normal,[],h12)))  r11.2.2).bind fun r=>Ex.Wj r.1 (l_ (aa1 h0) r.2.2)
def WZ (K:kW) (caps:List kM) (pv:Option kM) (h0:kP):Option kP:=Za K (List.getD caps 0 .junk) (List.getD caps 1 .junk) pv h0
def Nv (K:kW) (m:Nat) (s:List kM×kP):Option R :=
 AA s fun aA aC aB aG=>kV (K 51 [(kM.kQ aB)] aG) (fun aM aE=>(sO false 1 0 aM).bind fun aN=>aq .neq aN (.int .i64 0) ((kO 0 aA).bind fun aD=>(kU false 1 aE aD).bind fun aO=>kV (K 52 [(kM.kQ aB)] (nL (k9 [0] [aD]) aE)) (fun aP aF=>kR (kY 1 8 [(.int .i64 0),(.str []),(.slice [] .nil),(.bool false),(.int .i64 0),(.int .i64 0),(.int .i64 0),(.slice [] .nil)] [(0,aP)] (nL (k9 [0] [aD]) (lQ (k9 [0] [aD]) aE aF))) fun aQ aJ=>kR (mH 8 104 (lQ (k9 [0] [aD]) (lQ (k9 [0] [aD]) aE aF) aJ) aO aQ) fun aR aK=>(kO 0 aA).bind fun aS=>(kS 1 aK aS aR).bind fun aL=>kT m .normal [aA,aC,aB] aL) (fun v h'=>(fun aU aI=>kT m (.pan aU) [aA,aC,aB] aI) v (lQ (k9 [0] [aD]) aE h'))) (kT m (.exit 0) [aA,aC,aB] aE)) (fun aT aH=>kT m (.pan aT) [aA,aC,aB] aH)
def m25 (K:kW) (a0:kM) (h0:kP):Option (nO×kP) :=
 (kR (lL 1 h0 (.agg [(.slice [] .nil)])) fun t0 h1=>kR (lL 2 h1 (.agg [(.int .i64 0),(.int .i64 0)])) fun t2 h3=>qX K 49 a0 h3 fun t4 h5=>(lI 0 t4).bind fun t6=>(lI 1 t4).bind fun t7=>(kS 2 h5 t2 t7).bind fun h8=>fq 0 t2 h8 fun aR=>aq .neq aR (.int .i64 0) ((lT [(.slice [] .nil)] [(0,1)] []).bind fun aS=>(kU true 2 h8 t2).bind fun aT=>(kS 1 (nL (k9 [0] [t2]) h8) t0 aS).bind fun aN=>(kS 2 (lQ (k9 [0] [t2]) h8 aN) t2 aT).bind fun aO=>some (.ret,[t0,t2],aO)) (((lT [(.slice [] .nil),(.int .i64 0),(.int .i64 0)] [(0,1),(1,1),(2,1)] [(0,t6)]).bind fun aU=>kR (lL 3 h8 aU) fun aV aH=>(mJ (Nv K (aa1 aH)) ([t0,t2,aV],aH)).bind fun aI=>AA aI.2 fun aA aB aK aF=>Ex.lW aI.1 none (fun aL=>Ex.inBlock 0 aL ((kU true 1 aF aA).bind fun aW=>(lT [(.int .i64 0),(.int .i64 0)] [(0,1),(1,1)] []).bind fun aX=>(kS 1 aF aA aW).bind fun aP=>(kS 2 aP aB aX).bind fun aQ=>some (.ret,[aA,aB],aQ)) (fun aM=>some (aM,[aA,aB],aF)))).bind fun aE=>Ex.Rm aE.1 (Option.map (fun hh=>(.ret,aE.2.1,hh)) (WZ K [t0,t2] none aE.2.2)) (fun vv=>Option.map (fun hh=>(.ret,[t0,t2],hh)) (WZ K [t0,t2] (some vv) aE.2.2)))).bind fun aJ=>wL aJ.2 fun aC aD aG=>Ex.nA aJ.1 ((kU true 1 aG aC).bind fun aY=>(kU true 2 aG aD).bind fun aZ=>lZ (aa1 h0) (.tuple [aY,aZ]) aG)
theorem aAA (K:kW) (a0:kM) (h0:kP):o6 Tryz.prog mK mJ K 25 [a0] h0=m25 (lU mK K) a0 h0:=by kernel_rfl
def HW (K:kW) (m:Nat) (s:List kM×kP):Option R :=
 B5 s fun aA aC aD aB bC=>kV (K 206 [(kM.kQ aA),(kM.kQ aC)] bC) (fun bA aF=>(lI 0 bA).bind fun aT=>(lI 1 bA).bind fun bP=>(vR .not bP).bind fun bQ=>lH bQ ((kU true 5 aF aB).bind fun bR=>(kS 5 aF aD bR).bind fun bE=>kT m .ret [aA,aC,aD,aB] bE) ((kU true 5 (aF++[.free,.free]) aB).bind fun bS=>kR (qW ((aa1 aF)+0) 1 5 [(.int .i64 0),(.int .i64 0),(.int .i64 0),(.str []),(.slice [] .nil)] [(0,bS)] (aF++[.free,.free])) fun bT bF=>kR (vQ ((aa1 aF)+1) 5 bF (.agg [(.int .i64 0),(.int .i64 0),(.int .i64 0),(.str []),(.slice [] .nil)])) fun aJ aM=>bif (List.take (aa1 aF) aM).all (sR (aa1 aF)) then(kV (K 51 [(kM.kQ (vJ (aa1 aF) aA))] (nL (k9 [0] [aB]) (List.take (aa1 aF) aM))) (fun bU bG=>lC bU (lQ (k9 [0] [aB]) (List.take (aa1 aF) aM) bG)) (fun v h'=>yP v (lQ (k9 [0] [aB]) (List.take (aa1 aF) aM) h'))).bind (ET (aa1 aF) aM fun bV bH=>(sO false 1 1 bV).bind fun bW=>(lT [(.int .i64 0),(.int .i64 0),(.int .i64 0),(.str []),(.slice [] .nil)] [(0,1),(1,1),(2,1),(3,1),(4,1)] [(0,aT),(1,bW),(4,bT)]).bind fun bX=>(kS 5 bH aJ bX).bind fun aW=>(k_ aA).bind fun bY=>fq 1 bY aW fun bZ=>(kX .add bZ (.int .i64 1)).bind fun b8=>(k_ aA).bind fun b9=>(kO 1 b9).bind fun b_=>(kS 1 aW b_ b8).bind fun aX=>(kX .eql aT (.int .i64 14)).bind fun aU=>(lS false aU (lC aT aX) (lC (.tuple []) aX)).bind (nV (fun cA aY=>(lS false aU ((kX .eql cA (.int .i64 15)).bind fun cB=>lC cB aY) (lC (.tuple []) aY)).bind (nV (fun cD aL=>(lO aU (.bool true) cD).bind fun cE=>(lH cE (kV (K 103 [(kM.kQ aA),(kM.kQ (.int .i64 2))] aL) (fun cF bJ=>(sO false 1 2 cF).bind fun cG=>(kO 2 aJ).bind fun cH=>(kS 1 bJ cH cG).bind fun bK=>some (.normal,[aA,aC,aD,aB,aJ],bK)) (fun cP bI=>some ((.pan cP),[aA,aC,aD,aB,aJ],bI))) ((kO 4 aJ).bind fun aK=>(kU false 1 aL aK).bind fun cI=>(kX .add aC (.int .i64 1)).bind fun cJ=>kV (K 205 [(kM.kQ aA),(kM.kQ cJ)] (nL (k9 [0] [aK]) aL)) (fun cK aZ=>kR (kY 1 5 [(.int .i64 0),(.int .i64 0),(.int .i64 0),(.str []),(.slice [] .nil)] [(0,cK)] (nL (k9 [0] [aK]) (lQ (k9 [0] [aK]) aL aZ))) fun cL bM=>kR (mH 5 64 (lQ (k9 [0] [aK]) (lQ (k9 [0] [aK]) aL aZ) bM) cI cL) fun cM bN=>(kO 4 aJ).bind fun cN=>(kS 1 bN cN cM).bind fun bO=>some (.normal,[aA,aC,aD,aB,aJ],bO)) (fun v h'=>(fun cQ bL=>some ((.pan cQ),[aA,aC,aD,aB,aJ],bL)) v (lQ (k9 [0] [aK]) aL h')))).bind fun a_=>Eu a_.2 fun aG aH aI aE aN aO=>Ex.lW a_.1 ((kU true 5 aO aN).bind fun aS=>(kS 5 aO aE aS).bind fun aQ=>kT m .normal [aG,aH,aI,aE] aQ) (fun bB=>Ex.inBlock 1 bB (kT m .normal [aG,aH,aI,aE] aO) (fun aP=>kT m aP [aG,aH,aI,aE] aO))) (fun aV aR=>kT m (.pan aV) [aA,aC,aD,aB] aR))) (fun aV aR=>kT m (.pan aV) [aA,aC,aD,aB] aR))) else none)) (fun cO bD=>kT m (.pan cO) [aA,aC,aD,aB] bD)
def aAv (K:kW) (a0 a1:kM) (h0:kP):Option (nO×kP) :=
 (kR (lL 5 h0 (.agg [(.int .i64 0),(.int .i64 0),(.int .i64 0),(.str []),(.slice [] .nil)])) fun t2 h3=>aq .gtr a1 (.int .i64 6) (kV (K 220 [(kM.kQ a0)] h3) (fun t9 aO=>(kS 5 aO t2 t9).bind fun aP=>some (.ret,[t2],aP)) (fun v7 h8=>some ((.pan v7),[t2],h8))) ((kX .add a1 (.int .i64 1)).bind fun aT=>kV (K 205 [(kM.kQ a0),(kM.kQ aT)] h3) (fun aU aR=>kR (lL 5 aR (.agg [(.int .i64 0),(.int .i64 0),(.int .i64 0),(.str []),(.slice [] .nil)])) fun aN aS=>(kS 5 aS aN aU).bind fun aM=>(mJ (HW K (aa1 aM)) ([a0,a1,t2,aN],aM)).bind fun aE=>B5 aE.2 fun aJ aK aA aL aD=>Ex.lW aE.1 none (fun aG=>Ex.inBlock 0 aG (some (.normal,[aA],aD)) (fun aH=>some (aH,[aA],aD)))) (fun aV aQ=>some ((.pan aV),[t2],aQ)))).bind fun aF=>sL aF.2 fun aC aB=>Ex.uY aF.1 ((kU true 5 aB aC).bind fun aI=>lZ (aa1 h0) aI aB) (fun v=>rE (aa1 h0) v aB)
theorem Y9 (K:kW) (a0 a1:kM) (h0:kP):o6 Tryz.prog mK mJ K 205 [a0,a1] h0=aAv (lU mK K) a0 a1 h0:=by kernel_rfl
def m51 (K:kW) (a0:kM) (h0:kP):Option (nO×kP) :=
 (kR (lL 4 h0 (.agg [(.int .i64 0),(.int .i64 0),(.int .i64 0),(.str [])])) fun t0 h1=>(k_ a0).bind fun t2=>fq 0 t2 h1 fun t4=>(k_ a0).bind fun t5=>fq 1 t5 h1 fun t7=>(kZ 4 t4 t7).bind fun t8=>(kU true 4 h1 t8).bind fun t9=>(kS 4 h1 t0 t9).bind fun aD=>some (.ret,[t0],aD)).bind fun aC=>sL aC.2 fun aA aB=>Ex.nA aC.1 ((kU true 4 aB aA).bind fun aE=>lZ (aa1 h0) aE aB)
theorem aAT (K:kW) (a0:kM) (h0:kP):o6 Tryz.prog mK mJ K 51 [a0] h0=m51 (lU mK K) a0 h0:=by kernel_rfl
def aEZ (K:kW) (a0 a1:kM) (h0:kP):Option (nO×kP) :=
 (kV (K 150 [(kM.kQ a0),(kM.kQ a1)] h0) (fun t2 h3=>(vR .not t2).bind fun t4=>(lH t4 (kV (K 151 [(kM.kQ a0),(kM.kQ (.int .i64 10))] h3) (fun t7 h8=>some (.normal,[a0],h8)) (fun v5 h6=>some ((.pan v5),[a0],h6))) (some (.normal,[a0],h3))).bind fun r9=>sL r9.2 fun aA aB=>Ex.lW r9.1 ((k_ aA).bind fun aG=>fq 1 aG aB fun aH=>(kX .add aH (.int .i64 1)).bind fun aI=>(k_ aA).bind fun aJ=>(kO 1 aJ).bind fun aK=>(kS 1 aB aK aI).bind fun aF=>some (.normal,[],aF)) (fun aE=>some (aE,[],aB))) (fun v0 h1=>some ((.pan v0),[],h1))).bind fun aD=>(fun aC=>Ex.uY aD.1 (lZ (aa1 h0) (.tuple []) aC) (fun v=>rE (aa1 h0) v aC))  aD.2.2
theorem apU (K:kW) (a0 a1:kM) (h0:kP):o6 Tryz.prog mK mJ K 102 [a0,a1] h0=aEZ (lU mK K) a0 a1 h0:=by kernel_rfl
def aE0 (K:kW) (a0 a1:kM) (h0:kP):Option (nO×kP) :=
 (kR (lL 4 h0 (.agg [(.int .i64 0),(.int .i64 0),(.int .i64 0),(.str [])])) fun t2 h3=>kV (K 51 [(kM.kQ a0)] h3) (fun t6 h7=>kR (lL 4 h7 (.agg [(.int .i64 0),(.int .i64 0),(.int .i64 0),(.str [])])) fun t8 h9=>(kS 4 h9 t8 t6).bind fun aE=>fq 0 t8 aE fun aO=>(kX .neq aO a1).bind fun aP=>(lH aP (kV (K 151 [(kM.kQ a0),(kM.kQ (.int .i64 10))] aE) (fun aY aM=>some (.normal,[a0,t2,t8],aM)) (fun aX aL=>some ((.pan aX),[a0,t2,t8],aL))) (some (.normal,[a0,t2,t8],aE))).bind fun aI=>AA aI.2 fun aB aA aD aF=>Ex.lW aI.1 ((k_ aB).bind fun aQ=>fq 1 aQ aF fun aR=>(kX .add aR (.int .i64 1)).bind fun aS=>(k_ aB).bind fun aT=>(kO 1 aT).bind fun aU=>(kS 1 aF aU aS).bind fun aH=>(kU true 4 aH aD).bind fun aV=>(kS 4 aH aA aV).bind fun aN=>some (.ret,[aA],aN)) (fun aK=>some (aK,[aA],aF))) (fun v4 h5=>some ((.pan v4),[t2],h5))).bind fun aJ=>sL aJ.2 fun aC aG=>Ex.uY aJ.1 ((kU true 4 aG aC).bind fun aW=>lZ (aa1 h0) aW aG) (fun v=>rE (aa1 h0) v aG)
theorem apV (K:kW) (a0 a1:kM) (h0:kP):o6 Tryz.prog mK mJ K 103 [a0,a1] h0=aE0 (lU mK K) a0 a1 h0:=by kernel_rfl
def Ln (K:kW) (m:Nat) (s:List kM×kP):Option R :=
 B5 s fun aA aB aC aD aH=>(Bz aB).bind fun aE=>kV (CR mK K aE.1 (A1 mK aE.1 (aE.2.1++[]++aE.2.2)) aH) (fun aN aJ=>kR (kY 1 6 [(.int .i64 0),(.str []),(.int .i64 0),(.int .i64 0),(.int .i64 0),(.bool false)] [(0,aN)] aJ) fun aO aK=>kR (mH 6 56 aK aD aO) fun aF aL=>kV (K 107 [(kM.kQ aA),(kM.kQ (.str [44]))] aL) (fun aP aG=>(vR .not aP).bind fun aQ=>lH aQ (kT m .ret [aA,aB,aF,aF] aG) (kT m .normal [aA,aB,aC,aF] aG)) (fun aS aM=>kT m (.pan aS) [aA,aB,aC,aF] aM)) (fun aR aI=>kT m (.pan aR) [aA,aB,aC,aD] aI)
def az5 (K:kW) (a0 a1 a2:kM) (h0:kP):Option (nO×kP) :=
 ((fun(t3:kM) (h2:kP)=>(fun(t7:kM) (h6:kP)=>kV (K 150 [(kM.kQ a0),(kM.kQ a1)] h6) (fun aM aC=>lH aM (some (.ret,[t7],aC)) ((mJ (Ln K (aa1 aC)) ([a0,a2,t3,t7],aC)).bind fun aF=>B5 aF.2 fun aH aI aA aJ aD=>Ex.lW aF.1 none (fun aK=>Ex.inBlock 0 aK (some (.normal,[aA],aD)) (fun aL=>some (aL,[aA],aD))))) (fun v8 h9=>some ((.pan v8),[t3],h9))) (.slice [] (.own (aa1 h2))) (h2++[.front 0 0])) (.slice [] (.own (aa1 h0))) (h0++[.front 0 0])).bind fun aG=>sL aG.2 fun aB aE=>Ex.uY aG.1 (lZ (aa1 h0) aB aE) (fun v=>rE (aa1 h0) v aE)
theorem apW (K:kW) (a0 a1 a2:kM) (h0:kP):o6 Tryz.prog mK mJ K 104 [a0,a1,a2] h0=az5 (lU mK K) a0 a1 a2 h0:=by kernel_rfl
def aE1 (K:kW) (a0:kM) (h0:kP):Option (nO×kP) :=
 (kR (lL 6 h0 (.agg [(.int .i64 0),(.str []),(.int .i64 0),(.int .i64 0),(.int .i64 0),(.bool false)])) fun t2 h3=>(kU false 1 h3 a0).bind fun t6=>kV (K 106 [(kM.kQ t6)] h3) (fun t7 h8=>(kS 6 h8 t2 t7).bind fun h9=>some (.ret,[t2],h9)) (fun v4 h5=>some ((.pan v4),[t2],h5))).bind fun aC=>sL aC.2 fun aA aB=>Ex.uY aC.1 ((kU true 6 aB aA).bind fun aD=>lZ (aa1 h0) aD aB) (fun v=>rE (aa1 h0) v aB)
theorem apX (K:kW) (a0:kM) (h0:kP):o6 Tryz.prog mK mJ K 105 [a0] h0=aE1 (lU mK K) a0 h0:=by kernel_rfl
def aE2 (K:kW) (a0:kM) (h0:kP):Option (nO×kP) :=
 (kR (lL 6 h0 (.agg [(.int .i64 0),(.str []),(.int .i64 0),(.int .i64 0),(.int .i64 0),(.bool false)])) fun t2 h3=>kV (K 107 [(kM.kQ a0),(kM.kQ (.str [111,117,116]))] h3) (fun t6 h7=>kV (K 109 [(kM.kQ a0)] h7) (fun aQ aH=>kV (K 103 [(kM.kQ a0),(kM.kQ (.int .i64 1))] aH) (fun aR aJ=>kR (lL 4 aJ (.agg [(.int .i64 0),(.int .i64 0),(.int .i64 0),(.str [])])) fun aF aK=>(kS 4 aK aF aR).bind fun aL=>kV (K 102 [(kM.kQ a0),(kM.kQ (.str [58]))] aL) (fun a_ aA=>(kO 1 aF).bind fun aC=>(kU false 1 aA aC).bind fun aS=>(kO 3 aF).bind fun aD=>(kU false 1 aA aD).bind fun aT=>kV (K 152 [(kM.kQ a0),(kM.kQ aQ)] (nL (k9 [0,1] [aC,aD]) aA)) (fun aU aO=>(lT [(.int .i64 0),(.str []),(.int .i64 0),(.int .i64 0),(.int .i64 0),(.bool false)] [(0,1),(1,1),(2,3),(5,1)] [(0,aS),(1,aT),(2,aU),(3,t6)]).bind fun aV=>(kS 6 (lQ (k9 [0,1] [aC,aD]) aA aO) t2 aV).bind fun aP=>some (.ret,[t2],aP)) (fun v h'=>(fun aZ aN=>some ((.pan aZ),[t2],aN)) v (lQ (k9 [0,1] [aC,aD]) aA h'))) (fun aY aM=>some ((.pan aY),[t2],aM))) (fun aX aI=>some ((.pan aX),[t2],aI))) (fun v8 h9=>some ((.pan v8),[t2],h9))) (fun v4 h5=>some ((.pan v4),[t2],h5))).bind fun aG=>sL aG.2 fun aB aE=>Ex.uY aG.1 ((kU true 6 aE aB).bind fun aW=>lZ (aa1 h0) aW aE) (fun v=>rE (aa1 h0) v aE)
theorem apY (K:kW) (a0:kM) (h0:kP):o6 Tryz.prog mK mJ K 106 [a0] h0=aE2 (lU mK K) a0 h0:=by kernel_rfl
def aE3 (K:kW) (a0 a1:kM) (h0:kP):Option (nO×kP) :=
 (o_ K 150 a0 a1 h0 fun t0 h1=>(vR .not t0).bind fun t2=>lH t2 (some (.ret,[(.bool false)],h1)) ((k_ a0).bind fun t3=>fq 1 t3 h1 fun t5=>(kX .add t5 (.int .i64 1)).bind fun t6=>(k_ a0).bind fun t7=>(kO 1 t7).bind fun t8=>(kS 1 h1 t8 t6).bind fun h9=>some (.ret,[(.bool true)],h9))).bind fun aB=>sL aB.2 fun aA aC=>Ex.nA aB.1 (lZ (aa1 h0) aA aC)
theorem apZ (K:kW) (a0 a1:kM) (h0:kP):o6 Tryz.prog mK mJ K 107 [a0,a1] h0=aE3 (lU mK K) a0 a1 h0:=by kernel_rfl
def az6 (K:kW) (a0 a1:kM) (h0:kP):Option (nO×kP) :=
 (kR (lL 3 h0 (.agg [(.int .i64 0),(.int .i64 0),(.int .i64 0)])) fun t2 h3=>kV (K 107 [(kM.kQ a0),(kM.kQ (.str [109,97,115,107]))] h3) (fun t6 h7=>lH t6 ((lT [(.int .i64 0),(.int .i64 0),(.int .i64 0)] [(0,1),(1,1),(2,1)] [(0,(.int .i64 1)),(2,a1)]).bind fun aH=>(kS 3 h7 t2 aH).bind fun aD=>some (.ret,[t2],aD)) (kV (K 102 [(kM.kQ a0),(kM.kQ (.str [117,51,50]))] h7) (fun aL aF=>(lT [(.int .i64 0),(.int .i64 0),(.int .i64 0)] [(0,1),(1,1),(2,1)] [(0,(.int .i64 0)),(2,a1)]).bind fun aI=>(kS 3 aF t2 aI).bind fun aG=>some (.ret,[t2],aG)) (fun aK aE=>some ((.pan aK),[t2],aE)))) (fun v4 h5=>some ((.pan v4),[t2],h5))).bind fun aC=>sL aC.2 fun aA aB=>Ex.uY aC.1 ((kU true 3 aB aA).bind fun aJ=>lZ (aa1 h0) aJ aB) (fun v=>rE (aa1 h0) v aB)
theorem ap0 (K:kW) (a0 a1:kM) (h0:kP):o6 Tryz.prog mK mJ K 108 [a0,a1] h0=az6 (lU mK K) a0 a1 h0:=by kernel_rfl
def az7 (K:kW) (a0:kM) (h0:kP):Option (nO×kP) :=
 (kV (K 107 [(kM.kQ a0),(kM.kQ (.str [115,101,99]))] h0) (fun t4 h5=>lH t4 (some (.ret,[(.int .i64 1)],h5)) (kV (K 102 [(kM.kQ a0),(kM.kQ (.str [112,117,98]))] h5) (fun aE aD=>some (.ret,[(.int .i64 0)],aD)) (fun v8 h9=>some ((.pan v8),[(.int .i64 0)],h9)))) (fun v2 h3=>some ((.pan v2),[(.int .i64 0)],h3))).bind fun aC=>sL aC.2 fun aA aB=>Ex.uY aC.1 (lZ (aa1 h0) aA aB) (fun v=>rE (aa1 h0) v aB)
theorem ap1 (K:kW) (a0:kM) (h0:kP):o6 Tryz.prog mK mJ K 109 [a0] h0=az7 (lU mK K) a0 h0:=by kernel_rfl
def Lo (K:kW) (m:Nat) (s:List kM×kP):Option R :=
 AA s fun aA aB aC aE=>kV (K 150 [(kM.kQ aA),(kM.kQ (.str [125]))] aE) (fun aK aD=>(vR .not aK).bind fun aL=>lH aL (kV (K 154 [(kM.kQ aA)] aD) (fun aM aH=>kR (kY 1 11 [(.int .i64 0),(.int .i64 0),(.int .i64 0),(.str []),(.int .i64 0),(.int .i64 0),(.int .i64 0),(.slice [] .nil),(.slice [] .nil),(.slice [] .nil),(.bool false)] [(0,aM)] aH) fun aN aI=>kR (mH 11 144 aI aC aN) fun aO aJ=>kT m .normal [aA,aB,aO] aJ) (fun aQ aG=>kT m (.pan aQ) [aA,aB,aC] aG)) (kT m (.exit 0) [aA,aB,aC] aD)) (fun aP aF=>kT m (.pan aP) [aA,aB,aC] aF)
def aE4 (K:kW) (a0:kM) (h0:kP):Option (nO×kP) :=
 ((fun(t3:kM) (h2:kP)=>kV (K 153 [(kM.kQ a0),(kM.kQ (.str [123]))] h2) (fun t6 h7=>(fun(aN:kM) (aE:kP)=>(mJ (Lo K (aa1 aE)) ([a0,t3,aN],aE)).bind fun aH=>AA aH.2 fun aB aA aD aF=>Ex.lW aH.1 none (fun aJ=>Ex.inBlock 0 aJ (kV (K 155 [(kM.kQ aB),(kM.kQ (.str [125]))] aF) (fun aP aM=>some (.ret,[aD],aM)) (fun aO aL=>some ((.pan aO),[aA],aL))) (fun aK=>some (aK,[aA],aF)))) (.slice [] (.own (aa1 h7))) (h7++[.front 0 0])) (fun v4 h5=>some ((.pan v4),[t3],h5))) (.slice [] (.own (aa1 h0))) (h0++[.front 0 0])).bind fun aI=>sL aI.2 fun aC aG=>Ex.uY aI.1 (lZ (aa1 h0) aC aG) (fun v=>rE (aa1 h0) v aG)
theorem ap2 (K:kW) (a0:kM) (h0:kP):o6 Tryz.prog mK mJ K 110 [a0] h0=aE4 (lU mK K) a0 h0:=by kernel_rfl
def aFe (K:kW) (a0 a1:kM) (h0:kP):Option (nO×kP) :=
 (qX K 51 a0 h0 fun t0 h1=>kR (lL 4 h1 (.agg [(.int .i64 0),(.int .i64 0),(.int .i64 0),(.str [])])) fun t2 h3=>(kS 4 h3 t2 t0).bind fun h4=>fq 0 t2 h4 fun t6=>(kX .eql t6 (.int .i64 3)).bind fun t7=>gq false t7 ((kO 0 t2).bind fun t8=>lC t8 h4) h4 fun t9 aC=>gq false t7 ((kU false 1 aC t9).bind fun aL=>lC aL aC) aC fun aM aE=>gq false t7 ((kX .eql aM (.int .i64 4)).bind fun aN=>lC aN aE) aE fun aO aF=>(lO t7 (.bool true) aO).bind fun aA=>gq true aA ((kO 3 t2).bind fun aP=>lC aP aF) aF fun aQ aD=>gq true aA ((kU false 1 aD aQ).bind fun aR=>lC aR aD) aD fun aS aG=>gq true aA (lC a1 aG) aG fun aT aH=>gq true aA ((kX .eql aS aT).bind fun aU=>lC aU aH) aH fun aV aJ=>(lO aA aV (.bool false)).bind fun aW=>some (.ret,[aW],aJ)).bind fun aI=>sL aI.2 fun aB aK=>Ex.nA aI.1 (lZ (aa1 h0) aB aK)
theorem aqU (K:kW) (a0 a1:kM) (h0:kP):o6 Tryz.prog mK mJ K 150 [a0,a1] h0=aFe (lU mK K) a0 a1 h0:=by kernel_rfl
def aFf (K:kW) (a0 a1:kM) (h0:kP):Option (nO×kP) :=
 (kV (K 51 [(kM.kQ a0)] h0) (fun t2 h3=>(sO false 1 1 t2).bind fun t4=>(lT [(.int .i64 0),(.int .i64 0)] [(0,1),(1,1)] [(0,a1),(1,t4)]).bind fun t5=>(lT [(.int .i64 0),(.int .i64 0)] [(0,2)] [(0,t5)]).bind fun t6=>EI (.iface 102 t6) h3 (fun v0 h1=>some ((.pan v0),[],h1))) (fun v0 h1=>some ((.pan v0),[],h1))).bind fun r7=>(fun h8=>Ex.uY r7.1 (lZ (aa1 h0) (.tuple []) h8) (fun v=>rE (aa1 h0) v h8))  r7.2.2
theorem aqV (K:kW) (a0 a1:kM) (h0:kP):o6 Tryz.prog mK mJ K 151 [a0,a1] h0=aFf (lU mK K) a0 a1 h0:=by kernel_rfl
def aAj (K:kW) (a0 a1:kM) (h0:kP):Option (nO×kP) :=
 (kR (lL 3 h0 (.agg [(.int .i64 0),(.int .i64 0),(.int .i64 0)])) fun t2 h3=>kV (K 107 [(kM.kQ a0),(kM.kQ (.str [117,56]))] h3) (fun t6 h7=>lH t6 (kV (K 180 [(kM.kQ a0)] h7) (fun aZ aP=>(lT [(.int .i64 0),(.int .i64 0),(.int .i64 0)] [(0,1),(1,1),(2,1)] [(0,(.int .i64 2)),(1,aZ),(2,a1)]).bind fun a_=>(kS 3 aP t2 a_).bind fun aQ=>some (.ret,[t2],aQ)) (fun v8 h9=>some ((.pan v8),[t2],h9))) (kV (K 108 [(kM.kQ a0),(kM.kQ a1)] h7) (fun bA aS=>kR (lL 3 aS (.agg [(.int .i64 0),(.int .i64 0),(.int .i64 0)])) fun aB aT=>(kS 3 aT aB bA).bind fun aE=>fq 0 aB aE fun bB=>(kX .eql bB (.int .i64 0)).bind fun aI=>(lS true aI (lC a0 aE) (lC (.tuple []) aE)).bind (nV (fun bC aK=>(lS true aI (kV (K 150 [(kM.kQ bC),(kM.kQ (.str [91]))] aK) (fun bD aU=>lC bD aU) yP) (lC (.tuple []) aK)).bind (nV (fun bE aL=>(lO aI bE (.bool false)).bind fun bF=>(lH bF (kV (K 180 [(kM.kQ a0)] aL) (fun bG aW=>(kO 1 aB).bind fun bH=>(kS 1 aW bH bG).bind fun aX=>some (.normal,[t2,aB],aX)) (fun bL aV=>some ((.pan bL),[t2,aB],aV))) (some (.normal,[t2,aB],aL))).bind fun aM=>wL aM.2 fun aA aD aG=>Ex.lW aM.1 ((kU true 3 aG aD).bind fun bI=>(kS 3 aG aA bI).bind fun aY=>some (.ret,[aA],aY)) (fun aO=>some (aO,[aA],aG))) (fun aJ aF=>some ((.pan aJ),[t2],aF)))) (fun aJ aF=>some ((.pan aJ),[t2],aF)))) (fun bK aR=>some ((.pan bK),[t2],aR)))) (fun v4 h5=>some ((.pan v4),[t2],h5))).bind fun aN=>sL aN.2 fun aC aH=>Ex.uY aN.1 ((kU true 3 aH aC).bind fun bJ=>lZ (aa1 h0) bJ aH) (fun v=>rE (aa1 h0) v aH)
theorem aqW (K:kW) (a0 a1:kM) (h0:kP):o6 Tryz.prog mK mJ K 152 [a0,a1] h0=aAj (lU mK K) a0 a1 h0:=by kernel_rfl
def aAk (K:kW) (a0 a1:kM) (h0:kP):Option (nO×kP) :=
 (kV (K 150 [(kM.kQ a0),(kM.kQ a1)] h0) (fun t2 h3=>(lS true t2 (lC a0 h3) (lC (.tuple []) h3)).bind (nV (fun t4 h5=>(lS true t2 ((k_ t4).bind fun t6=>lC t6 h5) (lC (.tuple []) h5)).bind (nV (fun t7 h8=>(lS true t2 ((kO 2 t7).bind fun t9=>lC t9 h8) (lC (.tuple []) h8)).bind (nV (fun aP aC=>(lS true t2 ((kU false 1 aC aP).bind fun aQ=>lC aQ aC) (lC (.tuple []) aC)).bind (nV (fun aR aD=>(lS true t2 ((kX .eql aR (.int .i64 64)).bind fun aS=>lC aS aD) (lC (.tuple []) aD)).bind (nV (fun aT aE=>(lO t2 aT (.bool false)).bind fun aU=>(lH aU (kV (K 151 [(kM.kQ a0),(kM.kQ (.int .i64 11))] aE) (fun bB aM=>some (.normal,[a0,a1],aM)) (fun a_ aL=>some ((.pan a_),[a0,a1],aL))) (some (.normal,[a0,a1],aE))).bind fun aI=>wL aI.2 fun aA aB aF=>Ex.lW aI.1 (kV (K 102 [(kM.kQ aA),(kM.kQ aB)] aF) (fun bC aG=>(k_ aA).bind fun aV=>fq 2 aV aG fun aW=>(kX .add aW (.int .i64 1)).bind fun aX=>(k_ aA).bind fun aY=>(kO 2 aY).bind fun aZ=>(kS 1 aG aZ aX).bind fun aO=>some (.normal,[],aO)) (fun bA aN=>some ((.pan bA),[],aN))) (fun aK=>some (aK,[],aF))) (fun v0 h1=>some ((.pan v0),[],h1)))) (fun v0 h1=>some ((.pan v0),[],h1)))) (fun v0 h1=>some ((.pan v0),[],h1)))) (fun v0 h1=>some ((.pan v0),[],h1)))) (fun v0 h1=>some ((.pan v0),[],h1)))) (fun v0 h1=>some ((.pan v0),[],h1))).bind fun aJ=>(fun aH=>Ex.uY aJ.1 (lZ (aa1 h0) (.tuple []) aH) (fun v=>rE (aa1 h0) v aH))  aJ.2.2
theorem aqX (K:kW) (a0 a1:kM) (h0:kP):o6 Tryz.prog mK mJ K 153 [a0,a1] h0=aAk (lU mK K) a0 a1 h0:=by kernel_rfl
def aFg (K:kW) (a0:kM) (h0:kP):Option (nO×kP) :=
 (kR (lL 11 h0 (.agg [(.int .i64 0),(.int .i64 0),(.int .i64 0),(.str []),(.int .i64 0),(.int .i64 0),(.int .i64 0),(.slice [] .nil),(.slice [] .nil),(.slice [] .nil),(.bool false)])) fun t2 h3=>kV (K 51 [(kM.kQ a0)] h3) (fun t6 h7=>(sO false 1 1 t6).bind fun t8=>(lT [(.int .i64 0),(.int .i64 0),(.int .i64 0),(.str []),(.int .i64 0),(.int .i64 0),(.int .i64 0),(.slice [] .nil),(.slice [] .nil),(.slice [] .nil),(.bool false)] [(0,1),(1,1),(2,1),(3,1),(4,3),(7,1),(8,1),(9,1),(10,1)] [(1,t8)]).bind fun t9=>kR (lL 11 h7 (.agg [(.int .i64 0),(.int .i64 0),(.int .i64 0),(.str []),(.int .i64 0),(.int .i64 0),(.int .i64 0),(.slice [] .nil),(.slice [] .nil),(.slice [] .nil),(.bool false)])) fun aA dV=>(kS 11 dV aA t9).bind fun dW=>kV (K 107 [(kM.kQ a0),(kM.kQ (.str [108,101,116]))] dW) (fun fJ dQ=>(lH fJ (kV (K 103 [(kM.kQ a0),(kM.kQ (.int .i64 1))] dQ) (fun fL dZ=>(sO false 1 3 fL).bind fun fM=>(kO 0 aA).bind fun fN=>(kS 1 dZ fN (.int .i64 1)).bind fun d_=>(kO 3 aA).bind fun fO=>(kS 1 d_ fO fM).bind fun eA=>kV (K 102 [(kM.kQ a0),(kM.kQ (.str [61]))] eA) (fun hD eC=>kV (K 181 [(kM.kQ a0)] eC) (fun fQ eE=>(kO 7 aA).bind fun fR=>(kS 1 eE fR fQ).bind fun eF=>some (.normal,[t2,aA],eF)) (fun gO eD=>some ((.pan gO),[t2,aA],eD))) (fun gN eB=>some ((.pan gN),[t2,aA],eB))) (fun gM dY=>some ((.pan gM),[t2,aA],dY))) (kV (K 107 [(kM.kQ a0),(kM.kQ (.str [118,97,114]))] dQ) (fun fS dR=>(lH fS ((kO 0 aA).bind fun fU=>(kS 1 dR fU (.int .i64 2)).bind fun eH=>kV (K 109 [(kM.kQ a0)] eH) (fun fV eJ=>kV (K 103 [(kM.kQ a0),(kM.kQ (.int .i64 1))] eJ) (fun fX eL=>(sO false 1 3 fX).bind fun fY=>(kO 3 aA).bind fun fZ=>(kS 1 eL fZ fY).bind fun eM=>kV (K 102 [(kM.kQ a0),(kM.kQ (.str [58]))] eM) (fun hI eO=>kV (K 152 [(kM.kQ a0),(kM.kQ fV)] eO) (fun f_ eQ=>(kO 4 aA).bind fun gA=>(kS 3 eQ gA f_).bind fun eR=>kV (K 102 [(kM.kQ a0),(kM.kQ (.str [59]))] eR) (fun hO eT=>some (.normal,[t2,aA],eT)) (fun gV eS=>some ((.pan gV),[t2,aA],eS))) (fun gU eP=>some ((.pan gU),[t2,aA],eP))) (fun gT eN=>some ((.pan gT),[t2,aA],eN))) (fun gR eK=>some ((.pan gR),[t2,aA],eK))) (fun gQ eI=>some ((.pan gQ),[t2,aA],eI))) (kV (K 107 [(kM.kQ a0),(kM.kQ (.str [105,102]))] dR) (fun gB dU=>(lH gB (kV (K 182 [(kM.kQ a0)] dU) (fun gC eX=>kR (kY 1 5 [(.int .i64 0),(.int .i64 0),(.int .i64 0),(.str []),(.slice [] .nil)] [(0,gC)] eX) fun gD eY=>(kO 0 aA).bind fun gE=>(kS 1 eY gE (.int .i64 5)).bind fun eZ=>(kO 7 aA).bind fun gF=>(kS 1 eZ gF gD).bind fun e_=>kV (K 110 [(kM.kQ a0)] e_) (fun gG fC=>(kO 8 aA).bind fun gH=>(kS 1 fC gH gG).bind fun fD=>kV (K 107 [(kM.kQ a0),(kM.kQ (.str [101,108,115,101]))] fD) (fun gI fF=>(kO 10 aA).bind fun gJ=>(kS 1 fF gJ gI).bind fun cM=>fq 10 aA cM fun gK=>(lH gK (kV (K 110 [(kM.kQ a0)] cM) (fun cN bK=>(kO 9 aA).bind fun cO=>(kS 1 bK cO cN).bind fun bL=>some (.normal,[t2,aA],bL)) (fun g_ bJ=>some ((.pan g_),[t2,aA],bJ))) (some (.normal,[t2,aA],cM))).bind fun aX=>wL aX.2 fun aD aI aQ=>Ex.lW aX.1 (some (.normal,[aD,aI],aQ)) (fun bC=>some (bC,[aD,aI],aQ))) (fun gZ fE=>some ((.pan gZ),[t2,aA],fE))) (fun gY fB=>some ((.pan gY),[t2,aA],fB))) (fun gX eV=>some ((.pan gX),[t2,aA],eV))) (kV (K 107 [(kM.kQ a0),(kM.kQ (.str [102,111,114]))] dU) (fun cP aR=>(lH cP (kV (K 103 [(kM.kQ a0),(kM.kQ (.int .i64 1))] aR) (fun cQ bO=>(sO false 1 3 cQ).bind fun cR=>(kO 0 aA).bind fun cS=>(kS 1 bO cS (.int .i64 6)).bind fun bP=>(kO 3 aA).bind fun cT=>(kS 1 bP cT cR).bind fun bQ=>kV (K 102 [(kM.kQ a0),(kM.kQ (.str [60]))] bQ) (fun fH bS=>kV (K 182 [(kM.kQ a0)] bS) (fun cU bU=>kR (kY 1 5 [(.int .i64 0),(.int .i64 0),(.int .i64 0),(.str []),(.slice [] .nil)] [(0,cU)] bU) fun cV bV=>(kO 7 aA).bind fun cW=>(kS 1 bV cW cV).bind fun bW=>kV (K 102 [(kM.kQ a0),(kM.kQ (.str [109,97,120]))] bW) (fun fI bY=>kV (K 103 [(kM.kQ a0),(kM.kQ (.int .i64 2))] bY) (fun cX b8=>(sO false 1 2 cX).bind fun cY=>(kO 2 aA).bind fun cZ=>(kS 1 b8 cZ cY).bind fun b9=>kV (K 110 [(kM.kQ a0)] b9) (fun c6 cA=>(kO 8 aA).bind fun c7=>(kS 1 cA c7 c6).bind fun cB=>some (.normal,[t2,aA],cB)) (fun dM b_=>some ((.pan dM),[t2,aA],b_))) (fun dL bZ=>some ((.pan dL),[t2,aA],bZ))) (fun dK bX=>some ((.pan dK),[t2,aA],bX))) (fun dJ bT=>some ((.pan dJ),[t2,aA],bT))) (fun dI bR=>some ((.pan dI),[t2,aA],bR))) (fun dH bN=>some ((.pan dH),[t2,aA],bN))) (kV (K 107 [(kM.kQ a0),(kM.kQ (.str [114,101,116,117,114,110]))] aR) (fun c_ aS=>(lH c_ (kV (K 181 [(kM.kQ a0)] aS) (fun dA cF=>(kO 0 aA).bind fun dB=>(kS 1 cF dB (.int .i64 8)).bind fun cG=>(kO 7 aA).bind fun dC=>(kS 1 cG dC dA).bind fun cH=>some (.normal,[t2,aA],cH)) (fun dO cE=>some ((.pan dO),[t2,aA],cE))) (kV (K 183 [(kM.kQ a0),(kM.kQ aA)] aS) (fun fK cJ=>some (.normal,[t2,aA],cJ)) (fun dP cI=>some ((.pan dP),[t2,aA],cI)))).bind fun aY=>wL aY.2 fun aE aJ aT=>Ex.lW aY.1 (some (.normal,[aE,aJ],aT)) (fun bD=>some (bD,[aE,aJ],aT))) (fun dN cD=>some ((.pan dN),[t2,aA],cD)))).bind fun aZ=>wL aZ.2 fun aF aK aU=>Ex.lW aZ.1 (some (.normal,[aF,aK],aU)) (fun bE=>some (bE,[aF,aK],aU))) (fun dG bM=>some ((.pan dG),[t2,aA],bM)))).bind fun a_=>wL a_.2 fun aG aL aV=>Ex.lW a_.1 (some (.normal,[aG,aL],aV)) (fun bF=>some (bF,[aG,aL],aV))) (fun gW eU=>some ((.pan gW),[t2,aA],eU)))).bind fun bA=>wL bA.2 fun aH aM aW=>Ex.lW bA.1 (some (.normal,[aH,aM],aW)) (fun bG=>some (bG,[aH,aM],aW))) (fun gP eG=>some ((.pan gP),[t2,aA],eG)))).bind fun asX=>wL asX.2 fun aB aN aC=>Ex.lW asX.1 ((kU true 11 aC aN).bind fun dD=>(kS 11 aC aB dD).bind fun cK=>some (.ret,[aB],cK)) (fun bH=>Ex.inBlock 0 bH ((kU true 11 aC aN).bind fun dE=>(kS 11 aC aB dE).bind fun cL=>some (.ret,[aB],cL)) (fun bI=>some (bI,[aB],aC)))) (fun gL dX=>some ((.pan gL),[t2],dX))) (fun v4 h5=>some ((.pan v4),[t2],h5))).bind fun bB=>sL bB.2 fun aP aO=>Ex.uY bB.1 ((kU true 11 aO aP).bind fun dF=>lZ (aa1 h0) dF aO) (fun v=>rE (aa1 h0) v aO)
theorem aqY (K:kW) (a0:kM) (h0:kP):o6 Tryz.prog mK mJ K 154 [a0] h0=aFg (lU mK K) a0 h0:=by kernel_rfl
def aFh (K:kW) (a0 a1:kM) (h0:kP):Option (nO×kP) :=
 (kV (K 102 [(kM.kQ a0),(kM.kQ a1)] h0) (fun t2 h3=>(k_ a0).bind fun t6=>fq 2 t6 h3 fun t8=>(kX .sub t8 (.int .i64 1)).bind fun t9=>(k_ a0).bind fun aD=>(kO 2 aD).bind fun aE=>(kS 1 h3 aE t9).bind fun aC=>some (.normal,[],aC)) (fun v0 h1=>some ((.pan v0),[],h1))).bind fun aB=>(fun aA=>Ex.uY aB.1 (lZ (aa1 h0) (.tuple []) aA) (fun v=>rE (aa1 h0) v aA))  aB.2.2
theorem aqZ (K:kW) (a0 a1:kM) (h0:kP):o6 Tryz.prog mK mJ K 155 [a0,a1] h0=aFh (lU mK K) a0 a1 h0:=by kernel_rfl
def ahX (K:kW) (a0:kM) (h0:kP):Option (nO×kP) :=
 (kV (K 102 [(kM.kQ a0),(kM.kQ (.str [91]))] h0) (fun t4 h5=>kV (K 51 [(kM.kQ a0)] h5) (fun t8 h9=>kR (lL 4 h9 (.agg [(.int .i64 0),(.int .i64 0),(.int .i64 0),(.str [])])) fun aI aQ=>(kS 4 aQ aI t8).bind fun aG=>fq 0 aI aG fun aX=>(kX .eql aX (.int .i64 2)).bind fun aF=>(lS true aF ((kO 2 aI).bind fun aY=>lC aY aG) (lC (.tuple []) aG)).bind (nV (fun aZ aH=>(lS true aF ((kU false 1 aH aZ).bind fun a_=>lC a_ aH) (lC (.tuple []) aH)).bind (nV (fun bA aJ=>(lS true aF ((kX .eql bA (.int .i64 0)).bind fun bB=>lC bB aJ) (lC (.tuple []) aJ)).bind (nV (fun bC aK=>(lO aF bC (.bool false)).bind fun bD=>(lH bD (kV (K 151 [(kM.kQ a0),(kM.kQ (.int .i64 10))] aK) (fun bJ aS=>some (.normal,[a0,(.int .i64 0)],aS)) (fun bG aR=>some ((.pan bG),[a0,(.int .i64 0)],aR))) (some (.normal,[a0,(.int .i64 0)],aK))).bind fun aN=>wL aN.2 fun aB aA aL=>Ex.lW aN.1 (kV (K 103 [(kM.kQ aB),(kM.kQ (.int .i64 2))] aL) (fun bE aU=>(sO false 1 2 bE).bind fun bF=>kV (K 102 [(kM.kQ aB),(kM.kQ (.str [93]))] aU) (fun bK aW=>some (.ret,[bF],aW)) (fun bI aV=>some ((.pan bI),[aA],aV))) (fun bH aT=>some ((.pan bH),[aA],aT))) (fun aP=>some (aP,[aA],aL))) (fun aD aC=>some ((.pan aD),[(.int .i64 0)],aC)))) (fun aD aC=>some ((.pan aD),[(.int .i64 0)],aC)))) (fun aD aC=>some ((.pan aD),[(.int .i64 0)],aC)))) (fun v6 h7=>some ((.pan v6),[(.int .i64 0)],h7))) (fun v2 h3=>some ((.pan v2),[(.int .i64 0)],h3))).bind fun aO=>sL aO.2 fun aE aM=>Ex.uY aO.1 (lZ (aa1 h0) aE aM) (fun v=>rE (aa1 h0) v aM)
theorem arG (K:kW) (a0:kM) (h0:kP):o6 Tryz.prog mK mJ K 180 [a0] h0=ahX (lU mK K) a0 h0:=by kernel_rfl
def aFm (K:kW) (a0:kM) (h0:kP):Option (nO×kP) :=
 ((fun(t3:kM) (h2:kP)=>kV (K 182 [(kM.kQ a0)] h2) (fun t6 h7=>kR (lL 5 h7 (.agg [(.int .i64 0),(.int .i64 0),(.int .i64 0),(.str []),(.slice [] .nil)])) fun t8 h9=>(kS 5 h9 t8 t6).bind fun aE=>kV (K 102 [(kM.kQ a0),(kM.kQ (.str [59]))] aE) (fun aK aB=>(kU true 5 aB t8).bind fun aH=>kR (kY 1 5 [(.int .i64 0),(.int .i64 0),(.int .i64 0),(.str []),(.slice [] .nil)] [(0,aH)] aB) fun aI aG=>some (.ret,[aI],aG)) (fun aJ aF=>some ((.pan aJ),[t3],aF))) (fun v4 h5=>some ((.pan v4),[t3],h5))) (.slice [] (.own (aa1 h0))) (h0++[.front 0 0])).bind fun aD=>sL aD.2 fun aA aC=>Ex.uY aD.1 (lZ (aa1 h0) aA aC) (fun v=>rE (aa1 h0) v aC)
theorem arH (K:kW) (a0:kM) (h0:kP):o6 Tryz.prog mK mJ K 181 [a0] h0=aFm (lU mK K) a0 h0:=by kernel_rfl
def aFn (K:kW) (a0:kM) (h0:kP):Option (nO×kP) :=
 (kR (lL 5 h0 (.agg [(.int .i64 0),(.int .i64 0),(.int .i64 0),(.str []),(.slice [] .nil)])) fun t2 h3=>kV (K 205 [(kM.kQ a0),(kM.kQ (.int .i64 1))] h3) (fun t6 h7=>kR (lL 5 h7 (.agg [(.int .i64 0),(.int .i64 0),(.int .i64 0),(.str []),(.slice [] .nil)])) fun t8 h9=>(kS 5 h9 t8 t6).bind fun aM=>kV (K 206 [(kM.kQ a0),(kM.kQ (.int .i64 0))] aM) (fun aK aG=>(lI 0 aK).bind fun aU=>(lI 1 aK).bind fun aV=>(lH aV (kV (K 51 [(kM.kQ a0)] aG) (fun aW aH=>(sO false 1 1 aW).bind fun aX=>(k_ a0).bind fun aY=>fq 1 aY aH fun aZ=>(kX .add aZ (.int .i64 1)).bind fun a_=>(k_ a0).bind fun bA=>(kO 1 bA).bind fun bB=>(kS 1 aH bB a_).bind fun aD=>(kU true 5 aD t8).bind fun bC=>kV (K 205 [(kM.kQ a0),(kM.kQ (.int .i64 1))] (nL (k9 [0] [t8]) aD)) (fun bD aQ=>kR (kY 2 5 [(.int .i64 0),(.int .i64 0),(.int .i64 0),(.str []),(.slice [] .nil)] [(0,bC),(1,bD)] (lQ (k9 [0] [t8]) aD aQ)) fun bE aR=>(lT [(.int .i64 0),(.int .i64 0),(.int .i64 0),(.str []),(.slice [] .nil)] [(0,1),(1,1),(2,1),(3,1),(4,1)] [(0,aU),(1,aX),(4,bE)]).bind fun bF=>(kS 5 aR t8 bF).bind fun aS=>some (.normal,[t2,t8],aS)) (fun v h'=>(fun bK aP=>some ((.pan bK),[t2,t8],aP)) v (lQ (k9 [0] [t8]) aD h'))) (fun bJ aO=>some ((.pan bJ),[t2,t8],aO))) (some (.normal,[t2,t8],aG))).bind fun aI=>wL aI.2 fun aA aC aE=>Ex.lW aI.1 ((kU true 5 aE aC).bind fun bG=>(kS 5 aE aA bG).bind fun aT=>some (.ret,[aA],aT)) (fun aL=>some (aL,[aA],aE))) (fun bI aN=>some ((.pan bI),[t2],aN))) (fun v4 h5=>some ((.pan v4),[t2],h5))).bind fun aJ=>sL aJ.2 fun aB aF=>Ex.uY aJ.1 ((kU true 5 aF aB).bind fun bH=>lZ (aa1 h0) bH aF) (fun v=>rE (aa1 h0) v aF)
theorem arI (K:kW) (a0:kM) (h0:kP):o6 Tryz.prog mK mJ K 182 [a0] h0=aFn (lU mK K) a0 h0:=by kernel_rfl
def Jd (K:kW) (a0 a1:kM) (h0:kP):Option (nO×kP) :=
 (kV (K 103 [(kM.kQ a0),(kM.kQ (.int .i64 1))] h0) (fun t2 h3=>kR (lL 4 h3 (.agg [(.int .i64 0),(.int .i64 0),(.int .i64 0),(.str [])])) fun t4 h5=>(kS 4 h5 t4 t2).bind fun h6=>fq 3 t4 h6 fun bK=>(k_ a1).bind fun bL=>(kO 3 bL).bind fun bM=>(kS 1 h6 bM bK).bind fun aM=>kV (K 150 [(kM.kQ a0),(kM.kQ (.str [40]))] aM) (fun bN aB=>(lH bN ((k_ a1).bind fun bO=>(kO 0 bO).bind fun bP=>(kS 1 aB bP (.int .i64 7)).bind fun aO=>(k_ a1).bind fun bQ=>(kO 3 bQ).bind fun bR=>(kS 1 aO bR (.str [])).bind fun aC=>(kU true 4 aC t4).bind fun bS=>kV (K 207 [(kM.kQ a0),(kM.kQ bS)] aC) (fun bT aQ=>kR (kY 1 5 [(.int .i64 0),(.int .i64 0),(.int .i64 0),(.str []),(.slice [] .nil)] [(0,bT)] aQ) fun bU aR=>(k_ a1).bind fun bV=>(kO 7 bV).bind fun bW=>(kS 1 aR bW bU).bind fun aS=>kV (K 102 [(kM.kQ a0),(kM.kQ (.str [59]))] aS) (fun cR aU=>some (.normal,[],aU)) (fun cK aT=>some ((.pan cK),[],aT))) (fun cJ aP=>some ((.pan cJ),[],aP))) (kV (K 150 [(kM.kQ a0),(kM.kQ (.str [91]))] aB) (fun bX aD=>(lH bX ((k_ a1).bind fun bY=>(kO 0 bY).bind fun bZ=>(kS 1 aD bZ (.int .i64 4)).bind fun aW=>kV (K 208 [(kM.kQ a0)] aW) (fun b8 aY=>kV (K 102 [(kM.kQ a0),(kM.kQ (.str [61]))] aY) (fun cS a_=>kV (K 181 [(kM.kQ a0)] a_) (fun b9 bB=>kR (mH 5 64 bB b8 b9) fun b_ bC=>(k_ a1).bind fun cA=>(kO 7 cA).bind fun cB=>(kS 1 bC cB b_).bind fun bD=>some (.normal,[],bD)) (fun cO bA=>some ((.pan cO),[],bA))) (fun cN aZ=>some ((.pan cN),[],aZ))) (fun cM aX=>some ((.pan cM),[],aX))) (kV (K 102 [(kM.kQ a0),(kM.kQ (.str [61]))] aD) (fun cT bF=>kV (K 181 [(kM.kQ a0)] bF) (fun cD bH=>(k_ a1).bind fun cE=>(kO 0 cE).bind fun cF=>(kS 1 bH cF (.int .i64 3)).bind fun bI=>(k_ a1).bind fun cG=>(kO 7 cG).bind fun cH=>(kS 1 bI cH cD).bind fun bJ=>some (.normal,[],bJ)) (fun cQ bG=>some ((.pan cQ),[],bG))) (fun cP bE=>some ((.pan cP),[],bE)))).bind fun aG=>(fun aE=>Ex.lW aG.1 (some (.normal,[],aE)) (fun aJ=>some (aJ,[],aE)))  aG.2.2) (fun cL aV=>some ((.pan cL),[],aV)))).bind fun aH=>(fun aA=>Ex.lW aH.1 (some (.normal,[],aA)) (fun aK=>Ex.inBlock 0 aK (some (.normal,[],aA)) (fun aL=>some (aL,[],aA))))  aH.2.2) (fun cI aN=>some ((.pan cI),[],aN))) (fun v0 h1=>some ((.pan v0),[],h1))).bind fun aI=>(fun aF=>Ex.uY aI.1 (lZ (aa1 h0) (.tuple []) aF) (fun v=>rE (aa1 h0) v aF))  aI.2.2
theorem arJ (K:kW) (a0 a1:kM) (h0:kP):o6 Tryz.prog mK mJ K 183 [a0,a1] h0=Jd (lU mK K) a0 a1 h0:=by kernel_rfl
def aFo (K:kW) (a0 a1:kM) (h0:kP):Option (nO×kP) :=
 (qX K 51 a0 h0 fun t0 h1=>kR (lL 4 h1 (.agg [(.int .i64 0),(.int .i64 0),(.int .i64 0),(.str [])])) fun t2 h3=>(kS 4 h3 t2 t0).bind fun h4=>fq 0 t2 h4 fun t6=>aq .neq t6 (.int .i64 4) (some (.ret,[(.int .i64 0),(.bool false)],h4)) (fq 3 t2 h4 fun t9=>qX K 221 t9 h4 fun aD aE=>(lI 0 aD).bind fun aG=>(lI 1 aD).bind fun aH=>(kX .eql aG a1).bind fun aI=>some (.ret,[aH,aI],aE))).bind fun aC=>wL aC.2 fun aA aB aF=>Ex.nA aC.1 (lZ (aa1 h0) (.tuple [aA,aB]) aF)
theorem arR (K:kW) (a0 a1:kM) (h0:kP):o6 Tryz.prog mK mJ K 206 [a0,a1] h0=aFo (lU mK K) a0 a1 h0:=by kernel_rfl
def aFp (K:kW) (a0 a1:kM) (h0:kP):Option (nO×kP) :=
 (kR (lL 1 h0 a0) fun t2 h3=>kR (lL 4 h3 a1) fun t4 h5=>kR (lL 5 h5 (.agg [(.int .i64 0),(.int .i64 0),(.int .i64 0),(.str []),(.slice [] .nil)])) fun t6 h7=>(kU false 1 h7 t2).bind fun aJ=>kV (K 153 [(kM.kQ aJ),(kM.kQ (.str [40]))] h7) (fun aT aD=>(kU false 1 aD t2).bind fun aK=>kV (K 222 [(kM.kQ aK),(kM.kQ (.str [41])),(kM.kQ (.func 223 [] [t2]))] aD) (fun aL aE=>(kU false 1 aE t2).bind fun aM=>kV (K 155 [(kM.kQ aM),(kM.kQ (.str [41]))] aE) (fun aU aB=>fq 1 t4 aB fun aN=>fq 3 t4 aB fun aO=>(lT [(.int .i64 0),(.int .i64 0),(.int .i64 0),(.str []),(.slice [] .nil)] [(0,1),(1,1),(2,1),(3,1),(4,1)] [(0,(.int .i64 4)),(1,aN),(3,aO),(4,aL)]).bind fun aP=>(kS 5 aB t6 aP).bind fun aI=>some (.ret,[t6],aI)) (fun aS aH=>some ((.pan aS),[t6],aH))) (fun aR aG=>some ((.pan aR),[t6],aG))) (fun v8 h9=>some ((.pan v8),[t6],h9))).bind fun aF=>sL aF.2 fun aA aC=>Ex.uY aF.1 ((kU true 5 aC aA).bind fun aQ=>lZ (aa1 h0) aQ aC) (fun v=>rE (aa1 h0) v aC)
theorem arS (K:kW) (a0 a1:kM) (h0:kP):o6 Tryz.prog mK mJ K 207 [a0,a1] h0=aFp (lU mK K) a0 a1 h0:=by kernel_rfl
def WU (K:kW) (a0:kM) (h0:kP):Option (nO×kP) :=
 ((fun(t3:kM) (h2:kP)=>kV (K 153 [(kM.kQ a0),(kM.kQ (.str [91]))] h2) (fun t6 h7=>kV (K 182 [(kM.kQ a0)] h7) (fun aK aF=>kR (lL 5 aF (.agg [(.int .i64 0),(.int .i64 0),(.int .i64 0),(.str []),(.slice [] .nil)])) fun aE aG=>(kS 5 aG aE aK).bind fun aH=>kV (K 155 [(kM.kQ a0),(kM.kQ (.str [93]))] aH) (fun aO aB=>(kU true 5 aB aE).bind fun aL=>kR (kY 1 5 [(.int .i64 0),(.int .i64 0),(.int .i64 0),(.str []),(.slice [] .nil)] [(0,aL)] aB) fun aM aJ=>some (.ret,[aM],aJ)) (fun aN aI=>some ((.pan aN),[t3],aI))) (fun v8 h9=>some ((.pan v8),[t3],h9))) (fun v4 h5=>some ((.pan v4),[t3],h5))) (.slice [] (.own (aa1 h0))) (h0++[.front 0 0])).bind fun aD=>sL aD.2 fun aA aC=>Ex.uY aD.1 (some (.ret aA,aC)) (fun v=>rE (aa1 h0) v aC)
theorem arT (K:kW) (a0:kM) (h0:kP):o6 Tryz.prog mK mJ K 208 [a0] h0=WU (lU mK K) a0 h0:=by kernel_rfl
def aFq (K:kW) (a0:kM) (h0:kP):Option (nO×kP) :=
 (kR (lL 5 h0 (.agg [(.int .i64 0),(.int .i64 0),(.int .i64 0),(.str []),(.slice [] .nil)])) fun t2 h3=>kV (K 51 [(kM.kQ a0)] h3) (fun t6 h7=>kR (lL 4 h7 (.agg [(.int .i64 0),(.int .i64 0),(.int .i64 0),(.str [])])) fun t8 h9=>(kS 4 h9 t8 t6).bind fun aQ=>fq 1 t8 aQ fun bV=>(lT [(.int .i64 0),(.int .i64 0),(.int .i64 0),(.str []),(.slice [] .nil)] [(0,1),(1,1),(2,1),(3,1),(4,1)] [(1,bV)]).bind fun bW=>kR (lL 5 aQ (.agg [(.int .i64 0),(.int .i64 0),(.int .i64 0),(.str []),(.slice [] .nil)])) fun aC bE=>(kS 5 bE aC bW).bind fun bF=>(kV (K 150 [(kM.kQ a0),(kM.kQ (.str [126]))] bF) (fun bX aR=>(lH bX ((kO 0 aC).bind fun bY=>(kS 1 aR bY (.int .i64 5)).bind fun bH=>some (.normal,[a0,t2,t8,aC],bH)) (kV (K 150 [(kM.kQ a0),(kM.kQ (.str [45]))] aR) (fun bZ aS=>(lH bZ ((kO 0 aC).bind fun b8=>(kS 1 aS b8 (.int .i64 6)).bind fun bJ=>some (.normal,[a0,t2,t8,aC],bJ)) (kV (K 150 [(kM.kQ a0),(kM.kQ (.str [33]))] aS) (fun b9 aT=>lH b9 ((kO 0 aC).bind fun b_=>(kS 1 aT b_ (.int .i64 7)).bind fun bL=>some (.normal,[a0,t2,t8,aC],bL)) (kV (K 227 [(kM.kQ a0)] aT) (fun cA bN=>(kS 5 bN t2 cA).bind fun bO=>some (.ret,[a0,t2,t8,aC],bO)) (fun cQ bM=>some ((.pan cQ),[a0,t2,t8,aC],bM)))) (fun cP bK=>some ((.pan cP),[a0,t2,t8,aC],bK)))).bind fun aY=>B5 aY.2 fun aD aF aH aJ aU=>Ex.lW aY.1 (some (.normal,[aD,aF,aH,aJ],aU)) (fun bB=>some (bB,[aD,aF,aH,aJ],aU))) (fun cO bI=>some ((.pan cO),[a0,t2,t8,aC],bI)))).bind fun aZ=>B5 aZ.2 fun aE aG aI aK aV=>Ex.lW aZ.1 (some (.normal,[aE,aG,aI,aK],aV)) (fun bC=>some (bC,[aE,aG,aI,aK],aV))) (fun cN bG=>some ((.pan cN),[a0,t2,t8,aC],bG))).bind fun a_=>B5 a_.2 fun aB aA aN aL aO=>Ex.inBlock 0 a_.1 (fq 3 aN aO fun cB=>kV (K 153 [(kM.kQ aB),(kM.kQ cB)] aO) (fun cT bQ=>kV (K 220 [(kM.kQ aB)] bQ) (fun cD bS=>kR (kY 1 5 [(.int .i64 0),(.int .i64 0),(.int .i64 0),(.str []),(.slice [] .nil)] [(0,cD)] bS) fun cE bT=>(kO 4 aL).bind fun cF=>(kS 1 bT cF cE).bind fun aW=>(k_ aB).bind fun cG=>fq 2 cG aW fun cH=>(kX .sub cH (.int .i64 1)).bind fun cI=>(k_ aB).bind fun cJ=>(kO 2 cJ).bind fun cK=>(kS 1 aW cK cI).bind fun aX=>(kU true 5 aX aL).bind fun cL=>(kS 5 aX aA cL).bind fun bU=>some (.ret,[aA],bU)) (fun cS bR=>some ((.pan cS),[aA],bR))) (fun cR bP=>some ((.pan cR),[aA],bP))) (fun bD=>some (bD,[aA],aO))) (fun v4 h5=>some ((.pan v4),[t2],h5))).bind fun bA=>sL bA.2 fun aM aP=>Ex.uY bA.1 ((kU true 5 aP aM).bind fun cM=>lZ (aa1 h0) cM aP) (fun v=>rE (aa1 h0) v aP)
theorem arV (K:kW) (a0:kM) (h0:kP):o6 Tryz.prog mK mJ K 220 [a0] h0=aFq (lU mK K) a0 h0:=by kernel_rfl
def F6 (K:kW) (a0:kM) (h0:kP):Option (nO×kP) :=
 (aq .eql a0 (.str [61,61]) (some (.ret,[(.int .i64 0),(.int .i64 17)],h0)) (aq .eql a0 (.str [33,61]) (some (.ret,[(.int .i64 0),(.int .i64 18)],h0)) (aq .eql a0 (.str [60]) (some (.ret,[(.int .i64 0),(.int .i64 19)],h0)) (aq .eql a0 (.str [60,61]) (some (.ret,[(.int .i64 0),(.int .i64 20)],h0)) (aq .eql a0 (.str [62]) (some (.ret,[(.int .i64 0),(.int .i64 21)],h0)) (aq .eql a0 (.str [62,61]) (some (.ret,[(.int .i64 0),(.int .i64 22)],h0)) (aq .eql a0 (.str [124]) (some (.ret,[(.int .i64 1),(.int .i64 12)],h0)) (aq .eql a0 (.str [94]) (some (.ret,[(.int .i64 2),(.int .i64 13)],h0)) (aq .eql a0 (.str [38]) (some (.ret,[(.int .i64 3),(.int .i64 11)],h0)) (aq .eql a0 (.str [60,60]) (some (.ret,[(.int .i64 4),(.int .i64 14)],h0)) (aq .eql a0 (.str [62,62]) (some (.ret,[(.int .i64 4),(.int .i64 15)],h0)) (aq .eql a0 (.str [43]) (some (.ret,[(.int .i64 5),(.int .i64 8)],h0)) (aq .eql a0 (.str [45]) (some (.ret,[(.int .i64 5),(.int .i64 9)],h0)) (aq .eql a0 (.str [42]) (some (.ret,[(.int .i64 6),(.int .i64 10)],h0)) (some (.ret,[(.int .i64 (-1)),(.int .i64 0)],h0)))))))))))))))).bind fun aC=>wL aC.2 fun aA aB aD=>Ex.nA aC.1 (lZ (aa1 h0) (.tuple [aA,aB]) aD)
theorem arW (K:kW) (a0:kM) (h0:kP):o6 Tryz.prog mK mJ K 221 [a0] h0=F6 (lU mK K) a0 h0:=by kernel_rfl
def Ls (K:kW) (m:Nat) (s:List kM×kP):Option R :=
 B5 s fun aA aB aC aD aH=>(Bz aB).bind fun aE=>kV (CR mK K aE.1 (A1 mK aE.1 (aE.2.1++[]++aE.2.2)) aH) (fun aN aJ=>kR (kY 1 5 [(.int .i64 0),(.int .i64 0),(.int .i64 0),(.str []),(.slice [] .nil)] [(0,aN)] aJ) fun aO aK=>kR (mH 5 64 aK aD aO) fun aF aL=>kV (K 107 [(kM.kQ aA),(kM.kQ (.str [44]))] aL) (fun aP aG=>(vR .not aP).bind fun aQ=>lH aQ (kT m .ret [aA,aB,aF,aF] aG) (kT m .normal [aA,aB,aC,aF] aG)) (fun aS aM=>kT m (.pan aS) [aA,aB,aC,aF] aM)) (fun aR aI=>kT m (.pan aR) [aA,aB,aC,aD] aI)
def aAx (K:kW) (a0 a1 a2:kM) (h0:kP):Option (nO×kP) :=
 ((fun(t3:kM) (h2:kP)=>(fun(t7:kM) (h6:kP)=>kV (K 150 [(kM.kQ a0),(kM.kQ a1)] h6) (fun aM aC=>lH aM (some (.ret,[t7],aC)) ((mJ (Ls K (aa1 aC)) ([a0,a2,t3,t7],aC)).bind fun aF=>B5 aF.2 fun aH aI aA aJ aD=>Ex.lW aF.1 none (fun aK=>Ex.inBlock 0 aK (some (.normal,[aA],aD)) (fun aL=>some (aL,[aA],aD))))) (fun v8 h9=>some ((.pan v8),[t3],h9))) (.slice [] (.own (aa1 h2))) (h2++[.front 0 0])) (.slice [] (.own (aa1 h0))) (h0++[.front 0 0])).bind fun aG=>sL aG.2 fun aB aE=>Ex.uY aG.1 (lZ (aa1 h0) aB aE) (fun v=>rE (aa1 h0) v aE)
theorem arX (K:kW) (a0 a1 a2:kM) (h0:kP):o6 Tryz.prog mK mJ K 222 [a0,a1,a2] h0=aAx (lU mK K) a0 a1 a2 h0:=by kernel_rfl
def aFr (K:kW) (a0:kM) (h0:kP):Option (nO×kP) :=
 (kR (lL 5 h0 (.agg [(.int .i64 0),(.int .i64 0),(.int .i64 0),(.str []),(.slice [] .nil)])) fun t2 h3=>(kU false 1 h3 a0).bind fun t6=>kV (K 182 [(kM.kQ t6)] h3) (fun t7 h8=>(kS 5 h8 t2 t7).bind fun h9=>some (.ret,[t2],h9)) (fun v4 h5=>some ((.pan v4),[t2],h5))).bind fun aC=>sL aC.2 fun aA aB=>Ex.uY aC.1 ((kU true 5 aB aA).bind fun aD=>lZ (aa1 h0) aD aB) (fun v=>rE (aa1 h0) v aB)
theorem arY (K:kW) (a0:kM) (h0:kP):o6 Tryz.prog mK mJ K 223 [a0] h0=aFr (lU mK K) a0 h0:=by kernel_rfl
def aFs (K:kW) (a0:kM) (h0:kP):Option (nO×kP) :=
 (kR (lL 5 h0 (.agg [(.int .i64 0),(.int .i64 0),(.int .i64 0),(.str []),(.slice [] .nil)])) fun t2 h3=>kV (K 51 [(kM.kQ a0)] h3) (fun t6 h7=>kR (lL 4 h7 (.agg [(.int .i64 0),(.int .i64 0),(.int .i64 0),(.str [])])) fun t8 h9=>(kS 4 h9 t8 t6).bind fun aH=>fq 0 t8 aH fun cV=>aq .eql cV (.int .i64 2) ((k_ a0).bind fun cW=>fq 1 cW aH fun cX=>(kX .add cX (.int .i64 1)).bind fun cY=>(k_ a0).bind fun cZ=>(kO 1 cZ).bind fun c6=>(kS 1 aH c6 cY).bind fun aU=>fq 1 t8 aU fun c7=>fq 2 t8 aU fun c_=>(lT [(.int .i64 0),(.int .i64 0),(.int .i64 0),(.str []),(.slice [] .nil)] [(0,1),(1,1),(2,1),(3,1),(4,1)] [(0,(.int .i64 1)),(1,c7),(2,c_)]).bind fun dA=>(kS 5 aU t2 dA).bind fun bT=>some (.ret,[t2],bT)) (kV (K 150 [(kM.kQ a0),(kM.kQ (.str [40]))] aH) (fun dB bL=>lH dB (kV (K 153 [(kM.kQ a0),(kM.kQ (.str [40]))] bL) (fun eD bW=>kV (K 182 [(kM.kQ a0)] bW) (fun dC bY=>kR (lL 5 bY (.agg [(.int .i64 0),(.int .i64 0),(.int .i64 0),(.str []),(.slice [] .nil)])) fun bS bZ=>(kS 5 bZ bS dC).bind fun b8=>kV (K 155 [(kM.kQ a0),(kM.kQ (.str [41]))] b8) (fun eE bM=>(kU true 5 bM bS).bind fun dD=>(kS 5 bM t2 dD).bind fun b_=>some (.ret,[t2],b_)) (fun dR b9=>some ((.pan dR),[t2],b9))) (fun dQ bX=>some ((.pan dQ),[t2],bX))) (fun dP bV=>some ((.pan dP),[t2],bV))) (kV (K 150 [(kM.kQ a0),(kM.kQ (.str [109,117,108,104,105]))] bL) (fun dE bN=>lH dE (kV (K 228 [(kM.kQ a0),(kM.kQ (.int .i64 23)),(kM.kQ (.int .i64 2)),(kM.kQ (.bool false))] bN) (fun dF cD=>(kS 5 cD t2 dF).bind fun cE=>some (.ret,[t2],cE)) (fun dV cB=>some ((.pan dV),[t2],cB))) (kV (K 150 [(kM.kQ a0),(kM.kQ (.str [99,97,114,114,121]))] bN) (fun dG bO=>lH dG (kV (K 228 [(kM.kQ a0),(kM.kQ (.int .i64 24)),(kM.kQ (.int .i64 2)),(kM.kQ (.bool false))] bO) (fun dH cH=>(kS 5 cH t2 dH).bind fun cI=>some (.ret,[t2],cI)) (fun dX cG=>some ((.pan dX),[t2],cG))) (kV (K 150 [(kM.kQ a0),(kM.kQ (.str [115,101,108,101,99,116]))] bO) (fun dI bP=>lH dI (kV (K 228 [(kM.kQ a0),(kM.kQ (.int .i64 25)),(kM.kQ (.int .i64 3)),(kM.kQ (.bool false))] bP) (fun dJ cL=>(kS 5 cL t2 dJ).bind fun cM=>some (.ret,[t2],cM)) (fun dZ cK=>some ((.pan dZ),[t2],cK))) (kV (K 150 [(kM.kQ a0),(kM.kQ (.str [119,111,114,100]))] bP) (fun dK bQ=>lH dK (kV (K 228 [(kM.kQ a0),(kM.kQ (.int .i64 26)),(kM.kQ (.int .i64 1)),(kM.kQ (.bool false))] bQ) (fun dL cP=>(kS 5 cP t2 dL).bind fun cQ=>some (.ret,[t2],cQ)) (fun eA cO=>some ((.pan eA),[t2],cO))) (kV (K 150 [(kM.kQ a0),(kM.kQ (.str [114,111,114]))] bQ) (fun dM bR=>lH dM (kV (K 228 [(kM.kQ a0),(kM.kQ (.int .i64 16)),(kM.kQ (.int .i64 1)),(kM.kQ (.bool true))] bR) (fun dN cT=>(kS 5 cT t2 dN).bind fun aI=>some (.ret,[t2],aI)) (fun eC cS=>some ((.pan eC),[t2],cS))) (kV (K 103 [(kM.kQ a0),(kM.kQ (.int .i64 1))] bR) (fun cU aK=>kV (K 150 [(kM.kQ a0),(kM.kQ (.str [40]))] aK) (fun aV aD=>lH aV ((kU true 4 aD t8).bind fun aW=>kV (K 207 [(kM.kQ a0),(kM.kQ aW)] aD) (fun aX aN=>(kS 5 aN t2 aX).bind fun aO=>some (.ret,[t2],aO)) (fun bI aM=>some ((.pan bI),[t2],aM))) (kV (K 150 [(kM.kQ a0),(kM.kQ (.str [91]))] aD) (fun aY aA=>lH aY ((kO 1 t8).bind fun aB=>(kU false 1 aA aB).bind fun aZ=>(kO 3 t8).bind fun aC=>(kU false 1 aA aC).bind fun a_=>kV (K 208 [(kM.kQ a0)] (nL (k9 [0,1] [aB,aC]) aA)) (fun bA aR=>(lT [(.int .i64 0),(.int .i64 0),(.int .i64 0),(.str []),(.slice [] .nil)] [(0,1),(1,1),(2,1),(3,1),(4,1)] [(0,(.int .i64 3)),(1,aZ),(3,a_),(4,bA)]).bind fun bB=>(kS 5 (lQ (k9 [0,1] [aB,aC]) aA aR) t2 bB).bind fun aS=>some (.ret,[t2],aS)) (fun v h'=>(fun bK aQ=>some ((.pan bK),[t2],aQ)) v (lQ (k9 [0,1] [aB,aC]) aA h'))) (fq 1 t8 aA fun bC=>fq 3 t8 aA fun bD=>(lT [(.int .i64 0),(.int .i64 0),(.int .i64 0),(.str []),(.slice [] .nil)] [(0,1),(1,1),(2,1),(3,1),(4,1)] [(0,(.int .i64 2)),(1,bC),(3,bD)]).bind fun bE=>(kS 5 aA t2 bE).bind fun aT=>some (.ret,[t2],aT))) (fun bJ aP=>some ((.pan bJ),[t2],aP)))) (fun bH aL=>some ((.pan bH),[t2],aL))) (fun bG aJ=>some ((.pan bG),[t2],aJ)))) (fun eB cR=>some ((.pan eB),[t2],cR)))) (fun d_ cN=>some ((.pan d_),[t2],cN)))) (fun dY cJ=>some ((.pan dY),[t2],cJ)))) (fun dW cF=>some ((.pan dW),[t2],cF)))) (fun dU cA=>some ((.pan dU),[t2],cA)))) (fun dO bU=>some ((.pan dO),[t2],bU)))) (fun v4 h5=>some ((.pan v4),[t2],h5))).bind fun aG=>sL aG.2 fun aF aE=>Ex.uY aG.1 ((kU true 5 aE aF).bind fun bF=>lZ (aa1 h0) bF aE) (fun v=>rE (aa1 h0) v aE)
theorem arZ (K:kW) (a0:kM) (h0:kP):o6 Tryz.prog mK mJ K 227 [a0] h0=aFs (lU mK K) a0 h0:=by kernel_rfl
def C0 (K:kW) (m:Nat) (s:List kM×kP):Option R :=
 Bx s fun aF aH aJ aL aB aA aO=>aq .lss aA aB ((kX .gtr aA (.int .i64 0)).bind fun aZ=>(lH aZ (kV (K 102 [(kM.kQ aF),(kM.kQ (.str [44]))] aO) (fun bI aU=>some (.normal,[aF,aH,aJ,aL,aB,aA],aU)) (fun bG aT=>some ((.pan bG),[aF,aH,aJ,aL,aB,aA],aT))) (some (.normal,[aF,aH,aJ,aL,aB,aA],aO))).bind fun aQ=>Bx aQ.2 fun aG aI aK aC aD aE aM=>Ex.lW aQ.1 ((kO 4 aC).bind fun aN=>(kU false 1 aM aN).bind fun a_=>kV (K 182 [(kM.kQ aG)] (nL (k9 [0] [aN]) aM)) (fun bA aP=>kR (kY 1 5 [(.int .i64 0),(.int .i64 0),(.int .i64 0),(.str []),(.slice [] .nil)] [(0,bA)] (nL (k9 [0] [aN]) (lQ (k9 [0] [aN]) aM aP))) fun bB aW=>kR (mH 5 64 (lQ (k9 [0] [aN]) (lQ (k9 [0] [aN]) aM aP) aW) a_ bB) fun bC aX=>(kO 4 aC).bind fun bD=>(kS 1 aX bD bC).bind fun aY=>(kX .add aE (.int .i64 1)).bind fun bE=>kT m .normal [aG,aI,aK,aC,aD,bE] aY) (fun v h'=>(fun bH aV=>kT m (.pan bH) [aG,aI,aK,aC,aD,aE] aV) v (lQ (k9 [0] [aN]) aM h'))) (fun aR=>Ex.inBlock 1 aR ((kX .add aE (.int .i64 1)).bind fun bF=>kT m .normal [aG,aI,aK,aC,aD,bF] aM) (fun aS=>kT m aS [aG,aI,aK,aC,aD,aE] aM))) (kT m (.exit 0) [aF,aH,aJ,aL,aB,aA] aO)
def aFt (K:kW) (a0 a1 a2 a3:kM) (h0:kP):Option (nO×kP) :=
 (kR (lL 5 h0 (.agg [(.int .i64 0),(.int .i64 0),(.int .i64 0),(.str []),(.slice [] .nil)])) fun t2 h3=>kV (K 51 [(kM.kQ a0)] h3) (fun t6 h7=>(sO false 1 1 t6).bind fun t8=>(lT [(.int .i64 0),(.int .i64 0),(.int .i64 0),(.str []),(.slice [] .nil)] [(0,1),(1,1),(2,1),(3,1),(4,1)] [(0,a1),(1,t8)]).bind fun t9=>kR (lL 5 h7 (.agg [(.int .i64 0),(.int .i64 0),(.int .i64 0),(.str []),(.slice [] .nil)])) fun aZ bB=>(kS 5 bB aZ t9).bind fun aV=>(k_ a0).bind fun bK=>fq 1 bK aV fun bL=>(kX .add bL (.int .i64 1)).bind fun bM=>(k_ a0).bind fun bN=>(kO 1 bN).bind fun bO=>(kS 1 aV bO bM).bind fun bC=>kV (K 153 [(kM.kQ a0),(kM.kQ (.str [40]))] bC) (fun bV aW=>(mJ (C0 K (aa1 aW)) ([a0,a3,t2,aZ,a2,(.int .i64 0)],aW)).bind fun aX=>Bx aX.2 fun aA aL aC aD aT aU aP=>Ex.lW aX.1 none (fun a_=>Ex.inBlock 0 a_ ((lH aL (kV (K 102 [(kM.kQ aA),(kM.kQ (.str [44]))] aP) (fun bW bF=>kV (K 103 [(kM.kQ aA),(kM.kQ (.int .i64 2))] bF) (fun bP bH=>(sO false 1 2 bP).bind fun bQ=>(kO 2 aD).bind fun bR=>(kS 1 bH bR bQ).bind fun bI=>some (.normal,[aA,aC,aD],bI)) (fun bU bG=>some ((.pan bU),[aA,aC,aD],bG))) (fun bT bE=>some ((.pan bT),[aA,aC,aD],bE))) (some (.normal,[aA,aC,aD],aP))).bind fun aY=>AA aY.2 fun aK aB aG aH=>Ex.lW aY.1 (kV (K 155 [(kM.kQ aK),(kM.kQ (.str [41]))] aH) (fun bJ aI=>(kU true 5 aI aG).bind fun aQ=>(kS 5 aI aB aQ).bind fun aO=>some (.ret,[aB],aO)) (fun aS aN=>some ((.pan aS),[aB],aN))) (fun aM=>some (aM,[aB],aH))) (fun bA=>some (bA,[aC],aP)))) (fun bS bD=>some ((.pan bS),[t2],bD))) (fun v4 h5=>some ((.pan v4),[t2],h5))).bind fun aJ=>sL aJ.2 fun aF aE=>Ex.uY aJ.1 ((kU true 5 aE aF).bind fun aR=>lZ (aa1 h0) aR aE) (fun v=>rE (aa1 h0) v aE)
theorem ar0 (K:kW) (a0 a1 a2 a3:kM) (h0:kP):o6 Tryz.prog mK mJ K 228 [a0,a1,a2,a3] h0=aFt (lU mK K) a0 a1 a2 a3 h0:=by kernel_rfl
def m52 (K:kW) (a0:kM) (h0:kP):Option (nO×kP) :=
 (kR (lL 1 h0 a0) fun t2 h3=>kR (lL 8 h3 (.agg [(.int .i64 0),(.str []),(.slice [] .nil),(.bool false),(.int .i64 0),(.int .i64 0),(.int .i64 0),(.slice [] .nil)])) fun t4 h5=>(kU false 1 h5 t2).bind fun t8=>kV (K 102 [(kM.kQ t8),(kM.kQ (.str [102,110]))] h5) (fun t9 aM=>(kU false 1 aM t2).bind fun bK=>kV (K 103 [(kM.kQ bK),(kM.kQ (.int .i64 1))] aM) (fun bL aX=>kR (lL 4 aX (.agg [(.int .i64 0),(.int .i64 0),(.int .i64 0),(.str [])])) fun aK aY=>(kS 4 aY aK bL).bind fun aG=>fq 1 aK aG fun bM=>fq 3 aK aG fun bN=>(lT [(.int .i64 0),(.str []),(.slice [] .nil),(.bool false),(.int .i64 0),(.int .i64 0),(.int .i64 0),(.slice [] .nil)] [(0,1),(1,1),(2,1),(3,1),(4,3),(7,1)] [(0,bM),(1,bN)]).bind fun bO=>kR (lL 8 aG (.agg [(.int .i64 0),(.str []),(.slice [] .nil),(.bool false),(.int .i64 0),(.int .i64 0),(.int .i64 0),(.slice [] .nil)])) fun aB aZ=>(kS 8 aZ aB bO).bind fun aN=>(kU false 1 aN t2).bind fun bP=>kV (K 102 [(kM.kQ bP),(kM.kQ (.str [40]))] aN) (fun cL aO=>(kU false 1 aO t2).bind fun bQ=>kV (K 104 [(kM.kQ bQ),(kM.kQ (.str [41])),(kM.kQ (.func 105 [] [t2]))] aO) (fun bR bB=>(kO 2 aB).bind fun bS=>(kS 1 bB bS bR).bind fun aP=>(kU false 1 aP t2).bind fun bT=>kV (K 102 [(kM.kQ bT),(kM.kQ (.str [41]))] aP) (fun cM aQ=>(kU false 1 aQ t2).bind fun bU=>kV (K 107 [(kM.kQ bU),(kM.kQ (.str [58]))] aQ) (fun bV aR=>(lH bV ((kO 3 aB).bind fun bW=>(kS 1 aR bW (.bool true)).bind fun aD=>(kU false 1 aD t2).bind fun bX=>(kU false 1 aD t2).bind fun bY=>kV (K 109 [(kM.kQ bY)] (nL (k9 [0] [t2]) aD)) (fun bZ bE=>kV (K 108 [(kM.kQ bX),(kM.kQ bZ)] (lQ (k9 [0] [t2]) aD bE)) (fun b8 bF=>(kO 4 aB).bind fun b9=>(kS 3 bF b9 b8).bind fun bG=>some (.normal,[t2,t4,aB],bG)) (fun aL aH=>some ((.pan aL),[t2,t4,aB],aH))) (fun v h'=>(fun aL aH=>some ((.pan aL),[t2,t4,aB],aH)) v (lQ (k9 [0] [t2]) aD h'))) (some (.normal,[t2,t4,aB],aR))).bind fun aT=>AA aT.2 fun aE aA aC aI=>Ex.lW aT.1 ((kU false 1 aI aE).bind fun b_=>kV (K 110 [(kM.kQ b_)] aI) (fun cA bI=>(kO 7 aC).bind fun cB=>(kS 1 bI cB cA).bind fun aS=>(kU true 8 aS aC).bind fun cD=>(kS 8 aS aA cD).bind fun bJ=>some (.ret,[aA],bJ)) (fun cK bH=>some ((.pan cK),[aA],bH))) (fun aV=>some (aV,[aA],aI))) (fun cJ bD=>some ((.pan cJ),[t4],bD))) (fun cI bC=>some ((.pan cI),[t4],bC))) (fun cH bA=>some ((.pan cH),[t4],bA))) (fun cG a_=>some ((.pan cG),[t4],a_))) (fun cF aW=>some ((.pan cF),[t4],aW))) (fun v6 h7=>some ((.pan v6),[t4],h7))).bind fun aU=>sL aU.2 fun aF aJ=>Ex.uY aU.1 ((kU true 8 aJ aF).bind fun cE=>lZ (aa1 h0) cE aJ) (fun v=>rE (aa1 h0) v aJ)
theorem aAU (K:kW) (a0:kM) (h0:kP):o6 Tryz.prog mK mJ K 52 [a0] h0=m52 (lU mK K) a0 h0:=by kernel_rfl
end
noncomputable section
open Go Hk
def Dg (K:kW) (m:Nat) (s:List kM×kP):Option R :=
 B5 s fun aD aE aA aB aF=>(k_ aA).bind fun aZ=>(kO 3 aZ).bind fun a_=>fq 0 a_ aF fun bA=>(kX .eql bA (.int .i64 0)).bind fun aC=>gq true aC (lC aA aF) aF fun bB aK=>gq true aC ((k_ bB).bind fun bC=>lC bC aK) aK fun bD aL=>gq true aC ((kO 0 bD).bind fun bE=>lC bE aL) aL fun bF aG=>gq true aC ((kU false 1 aG bF).bind fun bG=>lC bG aG) aG fun bH aM=>gq true aC (lC aA aM) aM fun bI aN=>gq true aC ((k_ bI).bind fun bJ=>lC bJ aN) aN fun bK aO=>gq true aC ((kO 1 bK).bind fun bL=>lC bL aO) aO fun bM aH=>gq true aC ((kU false 1 aH bM).bind fun bN=>lC bN aH) aH fun bO aP=>gq true aC ((kZ 4 bH bO).bind fun bP=>lC bP aP) aP fun bQ aQ=>gq true aC ((kO 0 bQ).bind fun bR=>lC bR aQ) aQ fun bS aI=>gq true aC ((kU false 1 aI bS).bind fun bT=>lC bT aI) aI fun bU aR=>gq true aC ((kX .neq bU (.int .i64 0)).bind fun bV=>lC bV aR) aR fun bW aS=>(lO aC bW (.bool false)).bind fun bX=>lH bX (qX K 29 aA aS fun bY aU=>kR (lL 8 aU (.agg [(.int .i64 0),(.str []),(.slice [] .nil),(.bool false),(.int .i64 0),(.int .i64 0),(.int .i64 0),(.slice [] .nil)])) fun aT aV=>(kS 8 aV aT bY).bind fun aJ=>fq 0 aB aJ fun bZ=>(kU true 8 aJ aT).bind fun b8=>kR (kY 1 8 [(.int .i64 0),(.str []),(.slice [] .nil),(.bool false),(.int .i64 0),(.int .i64 0),(.int .i64 0),(.slice [] .nil)] [(0,b8)] aJ) fun b9 aW=>kR (mH 8 104 aW bZ b9) fun b_ aX=>(kO 0 aB).bind fun cA=>(kS 1 aX cA b_).bind fun aY=>kT m .normal [aD,aE,aA,aB] aY) (kT m (.exit 0) [aD,aE,aA,aB] aS)
def m12 (K:kW) (a0:kM) (h0:kP):Option (nO×kP) :=
 (kR (lL 1 h0 (.agg [(.slice [] .nil)])) fun t0 h1=>kR (lL 2 h1 (.agg [(.int .i64 0),(.int .i64 0)])) fun t2 h3=>qX K 28 a0 h3 fun t4 h5=>(lI 0 t4).bind fun t6=>(lI 1 t4).bind fun t7=>kR (lL 2 h5 (.agg [(.int .i64 0),(.int .i64 0)])) fun t8 h9=>(kS 2 h9 t8 t7).bind fun aH=>fq 0 t8 aH fun a_=>aq .neq a_ (.int .i64 0) ((lT [(.slice [] .nil)] [(0,1)] []).bind fun bA=>(kU true 2 aH t8).bind fun bB=>(kS 1 (nL (k9 [0] [t8]) aH) t0 bA).bind fun aW=>(kS 2 (lQ (k9 [0] [t8]) aH aW) t2 bB).bind fun aX=>some (.ret,[t0,t2],aX)) ((lT [(.slice [] .nil),(.int .i64 0),(.int .i64 0),(.int .i64 0),(.int .i64 0)] [(0,1),(1,1),(2,1),(3,2)] [(0,t6)]).bind fun bC=>kR (lL 5 aH bC) fun bD aY=>kR (lL 1 aY (.agg [(.slice [] .nil)])) fun bE aS=>(mJ (Dg K (aa1 aS)) ([t0,t2,bD,bE],aS)).bind fun aT=>B5 aT.2 fun aA aB aC aJ aE=>Ex.lW aT.1 none (fun aU=>Ex.inBlock 0 aU ((k_ aC).bind fun bF=>(kO 3 bF).bind fun bG=>fq 0 bG aE fun bH=>aq .neq bH (.int .i64 0) ((lT [(.slice [] .nil)] [(0,1)] []).bind fun bI=>(k_ aC).bind fun bJ=>(kO 3 bJ).bind fun aR=>(kU true 2 aE aR).bind fun bK=>(kS 1 (nL (k9 [0] [aR]) aE) aA bI).bind fun aZ=>(kS 2 (lQ (k9 [0] [aR]) aE aZ) aB bK).bind fun aK=>some (.ret,[aA,aB],aK)) ((kU true 1 aE aJ).bind fun aN=>(lT [(.int .i64 0),(.int .i64 0)] [(0,1),(1,1)] []).bind fun aO=>(kS 1 aE aA aN).bind fun aL=>(kS 2 aL aB aO).bind fun aM=>some (.ret,[aA,aB],aM))) (fun aV=>some (aV,[aA,aB],aE))))).bind fun aI=>wL aI.2 fun aF aG aD=>Ex.nA aI.1 ((kU true 1 aD aF).bind fun aP=>(kU true 2 aD aG).bind fun aQ=>lZ (aa1 h0) (.tuple [aP,aQ]) aD)
theorem ahP (K:kW) (a0:kM) (h0:kP):o6 Tryz.prog mK mJ K 12 [a0] h0=m12 (lU mK K) a0 h0:=by kernel_rfl
end
section
open Go Hk
def PB (L:List Token) (at_ deep:Nat):lG:=.cells [.slice (L.map Token.cells) .no,.int .i64 (at_:Int),.int .i64 (deep:Int)]
theorem aCr (t:Token):∀x∈t.cells,x.mE=true:=by intro x hx; simp [Token.cells] at hx; rcases hx with rfl | rfl | rfl | rfl <;> rfl
theorem atZ (t:Token):(∀x,x∈t.cells→x.mE=true)=True:=eq_true (aCr t)
theorem ahB (t:Token) (m:Nat) (h:kP):t.cells.map (kM.uG∘fun x=>kM.mP m h x)=t.cells:=(rfl)
@[simp] theorem aDG (t:Token) (h:kP) (os:List kM):pV h os t.cells=t.cells:=rA (by intro c hc; simp [Token.cells] at hc; rcases hc with rfl | rfl | rfl | rfl <;> rfl)
def isS (t:Token) (w:List UInt8):Bool:=(decide (t.kind=3) || decide (t.kind=4)) && decide (t.text=w)
def p9 (e pos:Nat):kM:=.iface 102 (.agg [.int .i64 (e:Int),.int .i64 (pos:Int)])
theorem uW {m:Nat}{h:kP}{e p:Int}:(kM.vK m h (.iface 102 (.agg [.int .i64 e,.int .i64 p]))).kQ=.iface 102 (.agg [.int .i64 e,.int .i64 p]):=(rfl)
def Jw:List UInt8:=[115,101,99]
def Po:List UInt8:=[112,117,98]
def zP:List UInt8:=[109,97,115,107]
def J0:List UInt8:=[117,51,50]
theorem P7 {m:Nat}{h:kP}{x y z:Int}:(kM.vK m h (.agg [.int .i64 x,.int .i64 y,.int .i64 z])).kQ=.agg [.int .i64 x,.int .i64 y,.int .i64 z]:=(rfl)
end
section
open Go Hk
structure Ty where
 elem:Nat
 len:Nat
 label:Nat
 deriving DecidableEq
structure XP where
 pos:Nat
 name:List UInt8
 ty:Ty
 out:Bool
inductive XE where
 | mk (kind pos num:Nat) (name:List UInt8) (args:List XE)
inductive XS where
 | mk (kind pos r_:Nat) (name:List UInt8) (ty:Ty) (args:List XE) (body els:List XS) (has:Bool)
structure XF where
 pos:Nat
 name:List UInt8
 params:List XP
 has:Bool
 result:Ty
 body:List XS
inductive Out (α:Type) where
 | ok (v:α) (at_ deep:Nat)
 | bad (e pos at_ deep:Nat)
def PM (α:Type):Type:=Nat→Nat→Out α
def PM.bind {α β:Type}(x:PM α) (f:α→PM β):PM β:=fun a d=>match x a d with
 | .ok v a' d'=>f v a' d'
 | .bad e p a' d'=>.bad e p a' d'
instance:Monad PM where
 pure v:=fun a d=>.ok v a d
 bind:=PM.bind
theorem mL {α β:Type}{x:PM α}{f:α→PM β}:x >>= f=PM.bind x f:=rfl
theorem y6 {α:Type}{v:α}{a d:Nat}:(pure v:PM α) a d=.ok v a d:=rfl
def tk (L:List Token) (a:Nat):Token:=(L[a]?).getD ⟨0,0,0,[]⟩
section
variable (L:List Token)
def w8 {α:Type}(e:Nat):PM α:=fun a d=>.bad e (tk L a).pos a d
def oQ:PM Token:=fun a d=>.ok (tk L a) a d
def xS:PM Unit:=fun a d=>.ok () (a+1) d
def pUp:PM Unit:=fun a d=>.ok () a (d - 1)
def GV (w:List UInt8):PM Bool:=fun a d=>.ok (isS (tk L a) w) a d
def pM (w:List UInt8):PM Bool:=fun a d=>.ok (isS (tk L a) w) (if isS (tk L a) w then a+1 else a) d
def oR (w:List UInt8):PM Unit:=fun a d=>if isS (tk L a) w then .ok () (a+1) d else .bad 10 (tk L a).pos a d
def qM (k:Nat):PM Token:=fun a d=>if (tk L a).kind=k then .ok (tk L a) (a+1) d else .bad 10 (tk L a).pos a d
def uI (w:List UInt8):PM Unit:=fun a d =>
 if isS (tk L a) w then(if d=64 then .bad 11 (tk L a).pos a d else .ok () (a+1) (d+1)) else .bad 10 (tk L a).pos a d
def uJ (w:List UInt8):PM Unit:=fun a d=>if isS (tk L a) w then .ok () (a+1) (d - 1) else .bad 10 (tk L a).pos a d
def sP:PM Nat:=fun a d =>
 if isS (tk L a) Jw then .ok 1 (a+1) d else if isS (tk L a) Po then .ok 0 (a+1) d else .bad 10 (tk L a).pos a d
def qO (l:Nat):PM Ty:=fun a d =>
 if isS (tk L a) zP then .ok ⟨1,0,l⟩ (a+1) d else if isS (tk L a) J0 then .ok ⟨0,0,l⟩ (a+1) d else .bad 10 (tk L a).pos a d
def yK:PM Nat:=do
 oR L [91]
 let t ←oQ L
 if t.kind=2∧t.num=0 then w8 L 10
 else
  let n ←qM L 2
  oR L [93]
  return n.num
def vI (l:Nat):PM Ty:=do
 if ←pM L [117,56] then
  let n ←yK L
  return ⟨2,n,l⟩
 else
  let t ←qO L l
  if t.elem=0 then
   if ←GV L [91] then
    let n ←yK L
    return { t with len:=n }
   else return t
  else return t
def uZ:PM XP:=do
 let out ←pM L [111,117,116]
 let l ←sP L
 let name ←qM L 1
 oR L [58]
 let ty ←vI L l
 return ⟨name.pos,name.text,ty,out⟩
def xR {α:Type}(one:PM α):Nat→List α→PM (List α)
 | 0,_=>w8 L 99
 | n+1,l=>do
  let x ←one
  if ←pM L [44] then xR one n (l++[x]) else return l++[x]
def yW {α:Type}(end_:List UInt8) (one:PM α):PM (List α):=do
 if ←GV L end_ then return [] else xR L one 131073 []
def nU (w:List UInt8):Option (Nat×Nat) :=
 if w=[61,61] then some (0,17) else if w=[33,61] then some (0,18) else if w=[60] then some (0,19) else if w=[60,61] then some (0,20)
 else if w=[62] then some (0,21) else if w=[62,61] then some (0,22) else if w=[124] then some (1,12) else if w=[94] then some (2,13)
 else if w=[38] then some (3,11) else if w=[60,60] then some (4,14) else if w=[62,62] then some (4,15) else if w=[43] then some (5,8)
 else if w=[45] then some (5,9) else if w=[42] then some (6,10) else none
def pO (t:Token) (k:Nat):Option Nat :=
 if t.kind=4 then match nU t.text with
  | some (n,kind)=>if n=k then some kind else none
  | none=>none
 else none
section
variable (expr unary:PM XE)
def uT:PM (List XE):=do
 uI L [91]
 let x ←expr
 uJ L [93]
 return [x]
def zQ (name:Token):PM XE:=do
 uI L [40]
 let l ←yW L [41] expr
 uJ L [41]
 return .mk 4 name.pos 0 name.text l
def tN:Nat→Bool→List XE→PM (List XE)
 | 0,_,l=>pure l
 | n+1,first,l=>do
  if !first then oR L [44]
  let x ←expr
  tN n false (l++[x])
def vW (kind many:Nat) (number:Bool):PM XE:=do
 let t ←oQ L
 xS
 uI L [40]
 let l ←tN L expr many true []
 if number then
  oR L [44]
  let n ←qM L 2
  uJ L [41]
  return .mk kind t.pos n.num [] l
 else
  uJ L [41]
  return .mk kind t.pos 0 [] l
def qD:PM XE:=do
 let t ←oQ L
 if t.kind=2 then
  xS
  return .mk 1 t.pos t.num [] []
 else if isS t [40] then
  uI L [40]
  let x ←expr
  uJ L [41]
  return x
 else if isS t [109,117,108,104,105] then vW L expr 23 2 false
 else if isS t [99,97,114,114,121] then vW L expr 24 2 false
 else if isS t [115,101,108,101,99,116] then vW L expr 25 3 false
 else if isS t [119,111,114,100] then vW L expr 26 1 false
 else if isS t [114,111,114] then vW L expr 16 1 true
 else
  let _ ←qM L 1
  if ←GV L [40] then zQ L expr t
  else if ←GV L [91] then
   let l ←uT L expr
   return .mk 3 t.pos 0 t.text l
  else return .mk 2 t.pos 0 t.text []
def AH (kind:Nat):PM XE:=do
 let t ←oQ L
 uI L t.text
 let x ←unary
 pUp
 return .mk kind t.pos 0 [] [x]
def x_:PM XE:=do
 let t ←oQ L
 if isS t [126] then AH L unary 5
 else if isS t [45] then AH L unary 6
 else if isS t [33] then AH L unary 7
 else qD L expr
end
def tO (next:PM XE) (k:Nat):Nat→XE→PM XE
 | 0,_=>w8 L 99
 | n+1,x=>do
  let t ←oQ L
  match pO t k with
  | none=>return x
  | some kind =>
   xS
   if kind=14∨kind=15 then
    let c ←qM L 2
    tO next k n (.mk kind t.pos c.num [] [x])
   else
    let y ←next
    tO next k n (.mk kind t.pos 0 [] [x,y])
def pD (un:PM XE):Nat→PM XE
 | 0=>un
 | j+1=>do
  let x ←pD un j
  tO L (pD un j) (6 - j) 131073 x
def Bg (un:PM XE):PM XE:=do
 let x ←pD L un 6
 let t ←oQ L
 match pO t 0 with
 | none=>return x
 | some kind =>
  xS
  let y ←pD L un 6
  return .mk kind t.pos 0 [] [x,y]
def Ew:Nat→PM XE
 | 0=>w8 L 99
 | n+1=>x_ L (Bg L (Ew n)) (Ew n)
def BX (n:Nat):PM XE:=Bg L (Ew L n)
def Br (n:Nat):PM (List XE):=do
 let x ←BX L n
 oR L [59]
 return [x]
def pN (n pos:Nat):PM XS:=do
 let name ←qM L 1
 if ←GV L [40] then
  let c ←zQ L (BX L (n - 1)) name
  oR L [59]
  return .mk 7 pos 0 [] ⟨0,0,0⟩ [c] [] [] false
 else if ←GV L [91] then
  let i ←uT L (BX L (n - 1))
  oR L [61]
  let l ←Br L n
  return .mk 4 pos 0 name.text ⟨0,0,0⟩ (i++l) [] [] false
 else
  oR L [61]
  let l ←Br L n
  return .mk 3 pos 0 name.text ⟨0,0,0⟩ l [] [] false
def uK (block:PM (List XS)) (n:Nat):PM XS:=do
 let t ←oQ L
 if ←pM L [108,101,116] then
  let name ←qM L 1
  oR L [61]
  let l ←Br L n
  return .mk 1 t.pos 0 name.text ⟨0,0,0⟩ l [] [] false
 else if ←pM L [118,97,114] then
  let lab ←sP L
  let name ←qM L 1
  oR L [58]
  let ty ←vI L lab
  oR L [59]
  return .mk 2 t.pos 0 name.text ty [] [] [] false
 else if ←pM L [105,102] then
  let x ←BX L n
  let b ←block
  if ←pM L [101,108,115,101] then
   let e ←block
   return .mk 5 t.pos 0 [] ⟨0,0,0⟩ [x] b e true
  else return .mk 5 t.pos 0 [] ⟨0,0,0⟩ [x] b [] false
 else if ←pM L [102,111,114] then
  let name ←qM L 1
  oR L [60]
  let x ←BX L n
  oR L [109,97,120]
  let m ←qM L 2
  let b ←block
  return .mk 6 t.pos m.num name.text ⟨0,0,0⟩ [x] b [] false
 else if ←pM L [114,101,116,117,114,110] then
  let l ←Br L n
  return .mk 8 t.pos 0 [] ⟨0,0,0⟩ l [] [] false
 else pN L n t.pos
def vX (stmt:PM XS):Nat→List XS→PM (List XS)
 | 0,_=>w8 L 99
 | m+1,l=>do
  if ←GV L [125] then return l
  else
   let s ←stmt
   vX stmt m (l++[s])
def sB:Nat→PM (List XS)
 | 0=>w8 L 99
 | n+1=>do
  uI L [123]
  let l ←vX L (uK L (sB n) n) 131073 []
  uJ L [125]
  return l
def wJ:PM XF:=do
 oR L [102,110]
 let name ←qM L 1
 oR L [40]
 let ps ←yW L [41] (uZ L)
 oR L [41]
 if ←pM L [58] then
  let l ←sP L
  let ty ←qO L l
  let b ←sB L 65
  return ⟨name.pos,name.text,ps,true,ty,b⟩
 else
  let b ←sB L 65
  return ⟨name.pos,name.text,ps,false,⟨0,0,0⟩,b⟩
def o7:Nat→List XF→PM (List XF)
 | 0,_=>w8 L 99
 | m+1,l=>do
  let t ←oQ L
  if t.kind=0 then return l
  else
   let f ←wJ L
   o7 m (l++[f])
end
def mW (s:List UInt8):List XF×Nat×Nat :=
 if (oI s).2.1=0 then match o7 (oI s).1 131073 [] 0 0 with
  | .ok l _ _=>(l,0,0)
  | .bad e p _ _=>([],e,p)
 else([],(oI s).2.1,(oI s).2.2)
end
section
open Go Hk
def rF (L:List Token):Prop:=∀(i:Nat) (t:Token),L[i]?=some t→t.kind≠0→i+1 < L.length
def mD (L:List Token) {α:Type}(s:Nat) (k:Nat→Nat) (x:PM α):Prop :=
 ∀a d v a' d',x a d=.ok v a' d'→a < L.length→a+s≤a'∧a' < L.length∧d'=k d
section
variable {L:List Token}{α β:Type}
theorem SJ {a:Nat}(h:a < L.length):L[a]?=some (tk L a):=by simp [tk,h]
theorem mD.mono {s s':Nat}{k k':Nat→Nat}{x:PM α}(hx:mD L s k x) (hs:s'≤s) (hk:∀d,k d=k' d):mD L s' k' x:=by
 intro a d v a' d' h ha
 obtain⟨h1,h2,h3⟩:=hx a d v a' d' h ha
 exact⟨by omega,h2,by rw [h3,hk]⟩
theorem mD.bind {s s':Nat}{k k':Nat→Nat}{x:PM α}{f:α→PM β}(hx:mD L s k x) (hf:∀v,mD L s' k' (f v)):mD L (s+s') (fun d=>k' (k d)) (x >>= f):=by
 intro a d v a' d' h ha
 rw [mL] at h
 unfold PM.bind at h
 cases hx1:x a d with
 | bad e p a1 d1=>rw [hx1] at h; cases h
 | ok v1 a1 d1 =>
  rw [hx1] at h
  obtain⟨h1,h2,h3⟩:=hx a d v1 a1 d1 hx1 ha
  obtain⟨h4,h5,h6⟩:=hf v1 a1 d1 v a' d' h h2
  exact⟨by omega,h5,by rw [h6,h3]⟩
theorem mD.pure {v:α}:mD L 0 (fun d=>d) (Pure.pure v:PM α):=by
 intro a d v' a' d' h ha
 cases h
 exact⟨ab6 _,ha,rfl⟩
theorem mD.fail {e:Nat}{s:Nat}{k:Nat→Nat}:mD L s k (w8 L e:PM α):=by
 intro a d v a' d' h; cases h
theorem mD.ite {c:Prop} [Decidable c] {s:Nat}{k:Nat→Nat}{x y:PM α}(hx:mD L s k x) (hy:mD L s k y):mD L s k (if c then x else y):=by
 split
 ·exact hx
 ·exact hy
variable (hL:rF L)
include hL
theorem mS {a:Nat}{w:List UInt8}(ha:a < L.length) (h:isS (tk L a) w=true):a+1 < L.length:=by
 refine hL a _ (SJ ha) fun h0=>?_
 simp [isS,h0] at h
theorem p8 {a k:Nat}(ha:a < L.length) (hk:k≠0) (h:(tk L a).kind=k):a+1 < L.length:=hL a _ (SJ ha) (by omega)
omit hL in
theorem MY:mD L 0 (fun d=>d) (oQ L):=by
 intro a d v a' d' h ha; cases h; exact⟨ab6 _,ha,rfl⟩
omit hL in
theorem Wq {w:List UInt8}:mD L 0 (fun d=>d) (GV L w):=by
 intro a d v a' d' h ha; cases h; exact⟨ab6 _,ha,rfl⟩
theorem A5 {w:List UInt8}:mD L 0 (fun d=>d) (pM L w):=by
 intro a d v a' d' h ha
 unfold pM at h
 cases h
 split
 ·rename_i hs; exact⟨by omega,mS hL ha hs,rfl⟩
 ·exact⟨by omega,ha,rfl⟩
theorem qQ {w:List UInt8}:mD L 1 (fun d=>d) (oR L w):=by
 intro a d v a' d' h ha
 unfold oR at h
 split at h
 ·rename_i hs; cases h; exact⟨by omega,mS hL ha hs,rfl⟩
 ·cases h
theorem tE {k:Nat}(hk:k≠0):mD L 1 (fun d=>d) (qM L k):=by
 intro a d v a' d' h ha
 unfold qM at h
 split at h
 ·rename_i hs; cases h; exact⟨by omega,p8 hL ha hk hs,rfl⟩
 ·cases h
theorem Aj {w:List UInt8}:mD L 1 (fun d=>d+1) (uI L w):=by
 intro a d v a' d' h ha
 unfold uI at h
 split at h
 ·rename_i hs
  split at h
  ·cases h
  ·cases h; exact⟨by omega,mS hL ha hs,rfl⟩
 ·cases h
theorem AO {w:List UInt8}:mD L 1 (fun d=>d - 1) (uJ L w):=by
 intro a d v a' d' h ha
 unfold uJ at h
 split at h
 ·rename_i hs; cases h; exact⟨by omega,mS hL ha hs,rfl⟩
 ·cases h
theorem BN:mD L 1 (fun d=>d) (sP L):=by
 intro a d v a' d' h ha
 unfold sP at h
 split at h
 ·rename_i hs; cases h; exact⟨by omega,mS hL ha hs,rfl⟩
 ·split at h
  ·rename_i hs; cases h; exact⟨by omega,mS hL ha hs,rfl⟩
  ·cases h
theorem ES {l:Nat}:mD L 1 (fun d=>d) (qO L l):=by
 intro a d v a' d' h ha
 unfold qO at h
 split at h
 ·rename_i hs; cases h; exact⟨by omega,mS hL ha hs,rfl⟩
 ·split at h
  ·rename_i hs; cases h; exact⟨by omega,mS hL ha hs,rfl⟩
  ·cases h
theorem RF:mD L 1 (fun d=>d) (yK L):=by
 unfold yK
 refine((qQ hL).bind fun _=>MY.bind fun t=>(mD.ite mD.fail ?_:mD L 0 (fun d=>d) _)).mono (by omega) fun _=>rfl
 exact((tE hL (by decide)).bind fun _=>(qQ hL).bind fun _=>mD.pure).mono (Nat.zero_le _) fun _=>rfl
theorem Hy {l:Nat}:mD L 1 (fun d=>d) (vI L l):=by
 unfold vI
 refine((A5 hL).bind (s':=1) (k':=fun d=>d) fun b=>mD.ite ?_ ?_).mono (by omega) fun _=>rfl
 ·exact((RF hL).bind fun _=>mD.pure).mono (by omega) fun _=>rfl
 ·refine((ES hL).bind (s':=0) (k':=fun d=>d) fun t=>mD.ite ?_ mD.pure).mono (by omega) fun _=>rfl
  refine(Wq.bind (s':=0) (k':=fun d=>d) fun _=>mD.ite ?_ mD.pure).mono (by omega) fun _=>rfl
  exact((RF hL).bind fun _=>mD.pure).mono (by omega) fun _=>rfl
theorem Hz:mD L 1 (fun d=>d) (uZ L):=by
 unfold uZ
 exact((A5 hL).bind fun _=>(BN hL).bind fun _=>(tE hL (by omega)).bind fun _=>(qQ hL).bind fun _=>(Hy hL).bind fun _=>mD.pure).mono (by omega) fun _=>rfl
theorem agM {one:PM α}(h1:mD L 1 (fun d=>d) one):∀(n:Nat) (l:List α),mD L 1 (fun d=>d) (xR L one n l)
 | 0,_=>mD.fail
 | n+1,l=>(h1.bind (s':=0) (k':=fun d=>d) fun x=>((A5 hL).bind (s':=0) (k':=fun d=>d) fun b=>mD.ite ((agM h1 n _).mono (by omega) fun _=>rfl) mD.pure).mono (by omega) fun _=>rfl).mono (by omega) fun _=>rfl
theorem Gy {one:PM α}{w:List UInt8}(h1:mD L 1 (fun d=>d) one):mD L 0 (fun d=>d) (yW L w one):=by
 unfold yW
 exact(Wq.bind (s':=0) (k':=fun d=>d) fun b=>mD.ite mD.pure ((agM hL h1 _ _).mono (by omega) fun _=>rfl)).mono (by omega) fun _=>rfl
section
variable {ex un:PM XE}(he:mD L 1 (fun d=>d) ex) (hu:mD L 1 (fun d=>d) un)
include he
theorem Hx:mD L 1 (fun d=>d) (uT L ex):=by
 unfold uT
 exact((Aj hL).bind fun _=>he.bind fun _=>(AO hL).bind fun _=>mD.pure).mono (by omega) fun _=>Nat.add_sub_cancel _ _
theorem RD {t:Token}:mD L 1 (fun d=>d) (zQ L ex t):=by
 unfold zQ
 exact((Aj hL).bind fun _=>(Gy hL he).bind fun _=>(AO hL).bind fun _=>mD.pure).mono (by omega) fun _=>Nat.add_sub_cancel _ _
theorem MW:∀(n:Nat) (b:Bool) (l:List XE),mD L 0 (fun d=>d) (tN L ex n b l)
 | 0,_,_=>mD.pure
 | n+1,b,l=>by
  unfold tN
  have h1:mD L 0 (fun d=>d) (do let x ←ex; tN L ex n false (l++[x]):PM (List XE)):=(he.bind fun _=>MW n _ _).mono (by omega) fun _=>rfl
  cases b
  ·exact((qQ hL).bind fun _=>h1).mono (by omega) fun _=>rfl
  ·exact((mD.pure (v:=PUnit.unit)).bind fun _=>h1).mono (by omega) fun _=>rfl
end
omit hL
def qZ (L:List Token) {α:Type}(s:Nat) (k:Nat→Nat) (x:PM α) (a:Nat):Prop :=
 ∀d v a' d',x a d=.ok v a' d'→a+s≤a'∧a' < L.length∧d'=k d
theorem mD.at {s:Nat}{k:Nat→Nat}{x:PM α}(h:mD L s k x) {a:Nat}(ha:a < L.length):qZ L s k x a:=fun d v a' d' hx=>h a d v a' d' hx ha
theorem qZ.all {s:Nat}{k:Nat→Nat}{x:PM α}(h:∀a,a < L.length→qZ L s k x a):mD L s k x:=fun a d v a' d' hx ha=>h a ha d v a' d' hx
theorem qZ.here {s:Nat}{k:Nat→Nat}{f:Token→PM α}{a:Nat}(h:qZ L s k (f (tk L a)) a):qZ L s k (oQ L >>= f) a:=fun d v a' d' hx=>h d v a' d' hx
theorem qZ.next {s:Nat}{k:Nat→Nat}{f:Unit→PM α}{a:Nat}(ha:a+1 < L.length) (h:mD L s k (f ())):qZ L (s+1) k (xS >>= f) a:=fun d v a' d' hx=>by
 obtain⟨h1,h2,h3⟩:=h (a+1) d v a' d' hx ha
 exact⟨by omega,h2,h3⟩
theorem qZ.mono {s s':Nat}{k k':Nat→Nat}{x:PM α}{a:Nat}(hx:qZ L s k x a) (hs:s'≤s) (hk:∀d,k d=k' d):qZ L s' k' x a:=by
 intro d v a' d' h
 obtain⟨h1,h2,h3⟩:=hx d v a' d' h
 exact⟨by omega,h2,by rw [h3,hk]⟩
theorem qZ.ite {c:Prop} [Decidable c] {s:Nat}{k:Nat→Nat}{x y:PM α}{a:Nat}(hx:c→qZ L s k x a) (hy:¬c→qZ L s k y a):qZ L s k (if c then x else y) a:=by
 split
 ·rename_i h; exact hx h
 ·rename_i h; exact hy h
theorem aJI:mD L 0 (fun d=>d - 1) pUp:=by
 intro a d v a' d' h ha; cases h; exact⟨ab6 _,ha,rfl⟩
include hL
section
variable {ex un:PM XE}(he:mD L 1 (fun d=>d) ex) (hu:mD L 1 (fun d=>d) un)
include he
theorem MZ {kind many a:Nat}{number:Bool}(ha:a+1 < L.length):qZ L 1 (fun d=>d) (vW L ex kind many number) a:=by
 unfold vW
 refine qZ.here ((qZ.next (s:=1) (k:=fun d=>d) ha ?_).mono (by omega) fun _=>rfl)
 refine((Aj hL).bind (s':=1) (k':=fun d=>d - 1) fun _=>((MW hL he _ _ _).bind (s':=1) (k':=fun d=>d - 1) fun l=>mD.ite ?_ ?_).mono (by omega) fun _=>rfl).mono (by omega) fun _=>Nat.add_sub_cancel _ _
 ·exact((qQ hL).bind fun _=>(tE hL (by omega)).bind fun _=>(AO hL).bind fun _=>mD.pure).mono (by omega) fun _=>rfl
 ·exact((AO hL).bind fun _=>mD.pure).mono (by omega) fun _=>rfl
theorem aa5:mD L 1 (fun d=>d) (qD L ex):=by
 unfold qD
 refine qZ.all fun a ha=>qZ.here ?_
 refine qZ.ite (fun h=>?_) fun _=>qZ.ite (fun h=>?_) fun _=>qZ.ite (fun h=>MZ hL he (mS hL ha h)) fun _=>qZ.ite (fun h=>MZ hL he (mS hL ha h)) fun _ =>
  qZ.ite (fun h=>MZ hL he (mS hL ha h)) fun _=>qZ.ite (fun h=>MZ hL he (mS hL ha h)) fun _=>qZ.ite (fun h=>MZ hL he (mS hL ha h)) fun _=>mD.at ?_ ha
 ·exact qZ.next (s:=0) (k:=fun d=>d) (f:=fun _=>pure _) (p8 (k:=2) hL ha (by decide) h) mD.pure
 ·refine mD.at ?_ ha
  exact((Aj hL).bind fun _=>he.bind fun _=>(AO hL).bind fun _=>mD.pure).mono (by omega) fun _=>Nat.add_sub_cancel _ _
 ·refine((tE hL (by omega)).bind (s':=0) (k':=fun d=>d) fun _=>(Wq.bind (s':=0) (k':=fun d=>d) fun _=>mD.ite ?_ ?_).mono (by omega) fun _=>rfl).mono (by omega) fun _=>rfl
  ·exact(RD hL he).mono (by omega) fun _=>rfl
  ·refine(Wq.bind (s':=0) (k':=fun d=>d) fun _=>mD.ite ?_ mD.pure).mono (by omega) fun _=>rfl
   exact((Hx hL he).bind fun _=>mD.pure).mono (by omega) fun _=>rfl
include hu
theorem ao0:mD L 1 (fun d=>d) (x_ L ex un):=by
 have hs:∀kind,mD L 1 (fun d=>d) (AH L un kind):=fun kind=>by
  unfold AH
  exact(MY.bind fun t=>(Aj hL).bind fun _=>hu.bind fun _=>aJI.bind fun _=>mD.pure).mono (by omega) fun _=>Nat.add_sub_cancel _ _
 unfold x_
 exact(MY.bind (s':=1) (k':=fun d=>d) fun t=>mD.ite (hs _) (mD.ite (hs _) (mD.ite (hs _) (aa5 hL he)))).mono (by omega) fun _=>rfl
end
omit hL in
theorem sN {t:Token}{k kind:Nat}(h:pO t k=some kind):t.kind=4:=by
 unfold pO at h
 split at h
 ·assumption
 ·cases h
theorem Wr {next:PM XE}(hn:mD L 1 (fun d=>d) next) (k:Nat):∀(n:Nat) (x:XE),mD L 0 (fun d=>d) (tO L next k n x)
 | 0,_=>mD.fail
 | n+1,x=>by
  unfold tO
  refine qZ.all fun a ha=>qZ.here ?_
  cases hs:pO (tk L a) k with
  | none=>exact mD.pure.at ha
  | some kind =>
   refine(qZ.next (s:=0) (k:=fun d=>d) (p8 (k:=4) hL ha (by decide) (sN hs)) (mD.ite ?_ ?_)).mono (by omega) fun _=>rfl
   ·exact((tE hL (by omega)).bind fun _=>Wr hn k n _).mono (by omega) fun _=>rfl
   ·exact(hn.bind fun _=>Wr hn k n _).mono (by omega) fun _=>rfl
theorem BM {un:PM XE}(hu:mD L 1 (fun d=>d) un):∀j,mD L 1 (fun d=>d) (pD L un j)
 | 0=>hu
 | j+1=>((BM hu j).bind fun _=>Wr hL (BM hu j) _ _ _).mono (by omega) fun _=>rfl
theorem agL {un:PM XE}(hu:mD L 1 (fun d=>d) un):mD L 1 (fun d=>d) (Bg L un):=by
 unfold Bg
 refine((BM hL hu 6).bind (s':=0) (k':=fun d=>d) fun x=>qZ.all fun a ha=>qZ.here ?_).mono (by omega) fun _=>rfl
 cases hs:pO (tk L a) 0 with
 | none=>exact mD.pure.at ha
 | some kind =>
  refine(qZ.next (s:=0) (k:=fun d=>d) (p8 (k:=4) hL ha (by decide) (sN hs)) ?_).mono (by omega) fun _=>rfl
  exact((BM hL hu 6).bind fun _=>mD.pure).mono (by omega) fun _=>rfl
theorem RI:∀n,mD L 1 (fun d=>d) (Ew L n)
 | 0=>mD.fail
 | n+1=>ao0 hL (agL hL (RI n)) (RI n)
theorem Dd (n:Nat):mD L 1 (fun d=>d) (BX L n):=agL hL (RI hL n)
theorem Kp (n:Nat):mD L 1 (fun d=>d) (Br L n):=by
 unfold Br
 exact((Dd hL n).bind fun _=>(qQ hL).bind fun _=>mD.pure).mono (by omega) fun _=>rfl
theorem aoZ (n pos:Nat):mD L 1 (fun d=>d) (pN L n pos):=by
 unfold pN
 refine((tE hL (by omega)).bind (s':=0) (k':=fun d=>d) fun _=>(Wq.bind (s':=0) (k':=fun d=>d) fun _=>mD.ite ?_ ?_).mono (by omega) fun _=>rfl).mono (by omega) fun _=>rfl
 ·exact((RD hL (Dd hL _)).bind fun _=>(qQ hL).bind fun _=>mD.pure).mono (by omega) fun _=>rfl
 ·refine(Wq.bind (s':=0) (k':=fun d=>d) fun _=>mD.ite ?_ ?_).mono (by omega) fun _=>rfl
  ·exact((Hx hL (Dd hL _)).bind fun _=>(qQ hL).bind fun _=>(Kp hL _).bind fun _=>mD.pure).mono (by omega) fun _=>rfl
  ·exact((qQ hL).bind fun _=>(Kp hL _).bind fun _=>mD.pure).mono (by omega) fun _=>rfl
theorem RH {block:PM (List XS)}(hb:mD L 1 (fun d=>d) block) (n:Nat):mD L 1 (fun d=>d) (uK L block n):=by
 unfold uK
 refine(MY.bind (s':=1) (k':=fun d=>d) fun _=>((A5 hL).bind (s':=1) (k':=fun d=>d) fun _=>mD.ite ?_ ?_).mono (by omega) fun _=>rfl).mono (by omega) fun _=>rfl
 ·exact((tE hL (by omega)).bind fun _=>(qQ hL).bind fun _=>(Kp hL _).bind fun _=>mD.pure).mono (by omega) fun _=>rfl
 refine((A5 hL).bind (s':=1) (k':=fun d=>d) fun _=>mD.ite ?_ ?_).mono (by omega) fun _=>rfl
 ·exact((BN hL).bind fun _=>(tE hL (by omega)).bind fun _=>(qQ hL).bind fun _=>(Hy hL).bind fun _=>(qQ hL).bind fun _=>mD.pure).mono (by omega) fun _=>rfl
 refine((A5 hL).bind (s':=1) (k':=fun d=>d) fun _=>mD.ite ?_ ?_).mono (by omega) fun _=>rfl
 ·refine((Dd hL n).bind (s':=1) (k':=fun d=>d) fun _=>(hb.bind (s':=0) (k':=fun d=>d) fun _=>((A5 hL).bind (s':=0) (k':=fun d=>d) fun _=>mD.ite ?_ mD.pure).mono (by omega) fun _=>rfl).mono (by omega) fun _=>rfl).mono (by omega) fun _=>rfl
  exact(hb.bind fun _=>mD.pure).mono (by omega) fun _=>rfl
 refine((A5 hL).bind (s':=1) (k':=fun d=>d) fun _=>mD.ite ?_ ?_).mono (by omega) fun _=>rfl
 ·exact((tE hL (by omega)).bind fun _=>(qQ hL).bind fun _=>(Dd hL n).bind fun _=>(qQ hL).bind fun _=>(tE hL (by omega)).bind fun _=>hb.bind fun _=>mD.pure).mono (by omega) fun _=>rfl
 refine((A5 hL).bind (s':=1) (k':=fun d=>d) fun _=>mD.ite ?_ (aoZ hL _ _)).mono (by omega) fun _=>rfl
 exact((Kp hL n).bind fun _=>mD.pure).mono (by omega) fun _=>rfl
omit hL in
theorem Lg {stmt:PM XS}(hs:mD L 1 (fun d=>d) stmt):∀(m:Nat) (l:List XS),mD L 0 (fun d=>d) (vX L stmt m l)
 | 0,_=>mD.fail
 | m+1,l=>(Wq.bind (s':=0) (k':=fun d=>d) fun _=>mD.ite mD.pure ((hs.bind fun _=>Lg hs m _).mono (by omega) fun _=>rfl)).mono (by omega) fun _=>rfl
theorem BL:∀n,mD L 1 (fun d=>d) (sB L n)
 | 0=>mD.fail
 | n+1=>((Aj hL).bind fun _=>(Lg (RH hL (BL n) n) _ _).bind fun _=>(AO hL).bind fun _=>mD.pure).mono (by omega) fun _=>Nat.add_sub_cancel _ _
theorem MX:mD L 1 (fun d=>d) (wJ L):=by
 unfold wJ
 refine((qQ hL).bind fun _=>(tE hL (by omega)).bind fun _=>(qQ hL).bind fun _=>(Gy hL (Hz hL)).bind fun _=>(qQ hL).bind fun _=>((A5 hL).bind (s':=0) (k':=fun d=>d) fun _=>mD.ite ?_ ?_)).mono (by omega) fun _=>rfl
 ·exact((BN hL).bind fun _=>(ES hL).bind fun _=>(BL hL _).bind fun _=>mD.pure).mono (by omega) fun _=>rfl
 ·exact((BL hL _).bind fun _=>mD.pure).mono (by omega) fun _=>rfl
end
end
end Go.Proofs.YtlddmnojanpdoaaGreatDoor
