/-
  The texts SG.M, SG.M2, SG.A, SG.P, SG.G, one behind another. No conditions.
-/
import Derived.Test.YtlddmnojanpdoaaGreatDoorPLg1
set_option linter.unusedVariables false
set_option linter.unusedSimpArgs false
set_option linter.all false
open List renaming getD → am0, length → ab7
open Nat renaming le_refl → ac9
namespace Go.Proofs.YtlddmnojanpdoaaGreatDoor
noncomputable section
open Go Hk
def VW (K:lE) (a0 a1:kP) (pv:Option kP) (h0:kT):Option kT :=
 ((A4 102 (.agg [(.int .i64 0),(.int .i64 0)]) (Option.getD pv .niliface)).bind fun t0=>(lT 0 t0).bind fun t1=>(lT 1 t0).bind fun t2=>k9 (lZ 2 h0 (.agg [(.int .i64 0),(.int .i64 0)])) fun t3 h4=>(k_ 2 h4 t3 t1).bind fun h5=>(lC t2 ((l_ [(.slice [] .nil)] [(0,1)] []).bind fun t6=>(kR 0 t3).bind fun t7=>(kW true 2 h5 t7).bind fun t8=>(k_ 1 (nY (lI [0] [t7]) h5) a0 t6).bind fun h9=>(k_ 2 (lX (lI [0] [t7]) h5 h9) a1 t8).bind fun h10=>some (.normal,[],h10)) (some (.normal,[],h5))).bind fun r11=>(fun h12=>Ex.uJ r11.1 (some (.normal,[],h12)))  r11.2.2).bind fun r=>Ex.Xf r.1 (mI (ab7 h0) r.2.2)
def Uc (K:lE) (caps:List kP) (pv:Option kP) (h0:kT):Option kT:=VW K (am0 caps 0 .junk) (am0 caps 1 .junk) pv h0
def Ly (K:lE) (m:Nat) (s:List kP×kT):Option R :=
 (fun aA aC aB aG=>kU (K 51 [(kP.kV aB)] aG) (fun aM aE=>(uH false 1 0 aM).bind fun aN=>(kZ .neq aN (.int .i64 0)).bind fun aO=>lC aO ((kR 0 aA).bind fun aD=>(kW false 1 aE aD).bind fun aP=>kU (K 52 [(kP.kV aB)] (nY (lI [0] [aD]) aE)) (fun aQ aF=>k9 (lB 1 8 [(.int .i64 0),(.str []),(.slice [] .nil),(.bool false),(.int .i64 0),(.int .i64 0),(.int .i64 0),(.slice [] .nil)] [(0,aQ)] (nY (lI [0] [aD]) (lX (lI [0] [aD]) aE aF))) fun aR aJ=>k9 (mN 8 104 (lX (lI [0] [aD]) (lX (lI [0] [aD]) aE aF) aJ) aP aR) fun aS aK=>(kR 0 aA).bind fun aT=>(k_ 1 aK aT aS).bind fun aL=>lA m .normal [aA,aC,aB] aL) (fun v h'=>(fun aV aI=>lA m (.pan aV) [aA,aC,aB] aI) v (lX (lI [0] [aD]) aE h'))) (lA m (.exit 0) [aA,aC,aB] aE)) (fun aU aH=>lA m (.pan aU) [aA,aC,aB] aH)) (am0 s.1 0 .junk) (am0 s.1 1 .junk) (am0 s.1 2 .junk) s.2
def m25 (K:lE) (a0:kP) (h0:kT):Option (n_×kT) :=
 (k9 (lZ 1 h0 (.agg [(.slice [] .nil)])) fun t0 h1=>k9 (lZ 2 h1 (.agg [(.int .i64 0),(.int .i64 0)])) fun t2 h3=>kU (K 49 [(kP.kV a0)] h3) (fun t4 h5=>(lT 0 t4).bind fun t6=>(lT 1 t4).bind fun t7=>(k_ 2 h5 t2 t7).bind fun h8=>(kR 0 t2).bind fun t9=>(kW false 1 h8 t9).bind fun aR=>(kZ .neq aR (.int .i64 0)).bind fun aS=>lC aS ((l_ [(.slice [] .nil)] [(0,1)] []).bind fun aT=>(kW true 2 h8 t2).bind fun aU=>(k_ 1 (nY (lI [0] [t2]) h8) t0 aT).bind fun aN=>(k_ 2 (lX (lI [0] [t2]) h8 aN) t2 aU).bind fun aO=>some (.ret,[t0,t2],aO)) (((l_ [(.slice [] .nil),(.int .i64 0),(.int .i64 0)] [(0,1),(1,1),(2,1)] [(0,t6)]).bind fun aV=>k9 (lZ 3 h8 aV) fun aW aJ=>(mQ (Ly K (ab7 aJ)) ([t0,t2,aW],aJ)).bind fun aC=>(fun aA aB aK aH=>Ex.mG aC.1 none (fun aL=>Ex.inBlock 0 aL ((kW true 1 aH aA).bind fun aX=>(l_ [(.int .i64 0),(.int .i64 0)] [(0,1),(1,1)] []).bind fun aY=>(k_ 1 aH aA aX).bind fun aP=>(k_ 2 aP aB aY).bind fun aQ=>some (.ret,[aA,aB],aQ)) (fun aM=>some (aM,[aA,aB],aH)))) (am0 aC.2.1 0 .junk) (am0 aC.2.1 1 .junk) (am0 aC.2.1 2 .junk) aC.2.2).bind fun aF=>Ex.Rt aF.1 (Option.map (fun hh=>(.ret,aF.2.1,hh)) (Uc K [t0,t2] none aF.2.2)) (fun vv=>Option.map (fun hh=>(.ret,[t0,t2],hh)) (Uc K [t0,t2] (some vv) aF.2.2)))) (fun _ _=>none)).bind fun aG=>(fun aD aE aI=>Ex.nP aG.1 ((kW true 1 aI aD).bind fun aZ=>(kW true 2 aI aE).bind fun a_=>mJ (ab7 h0) (.tuple [aZ,a_]) aI)) (am0 aG.2.1 0 .junk) (am0 aG.2.1 1 .junk) aG.2.2
theorem asM (K:lE) (a0:kP) (h0:kT):qJ Tryz.prog mV mQ K 25 [a0] h0=m25 (mD mV K) a0 h0:=by kernel_rfl
def Hb (K:lE) (m:Nat) (s:List kP×kT):Option R :=
 (fun aA aC aD aB bC=>kU (K 206 [(kP.kV aA),(kP.kV aC)] bC) (fun bA aF=>(lT 0 bA).bind fun aU=>(lT 1 bA).bind fun bP=>(x8 .not bP).bind fun bQ=>lC bQ ((kW true 5 aF aB).bind fun bR=>(k_ 5 aF aD bR).bind fun bE=>lA m .ret [aA,aC,aD,aB] bE) ((kW true 5 (aF++[.free,.free]) aB).bind fun bS=>k9 (qY ((ab7 aF)+0) 1 5 [(.int .i64 0),(.int .i64 0),(.int .i64 0),(.str []),(.slice [] .nil)] [(0,bS)] (aF++[.free,.free])) fun bT bF=>k9 (xM ((ab7 aF)+1) 5 bF (.agg [(.int .i64 0),(.int .i64 0),(.int .i64 0),(.str []),(.slice [] .nil)])) fun aJ aN=>bif (List.take (ab7 aF) aN).all (xU (ab7 aF)) then(kU (K 51 [(kP.kV (AJ (ab7 aF) aA))] (nY (lI [0] [aB]) (List.take (ab7 aF) aN))) (fun bU bG=>kY bU (lX (lI [0] [aB]) (List.take (ab7 aF) aN) bG)) (fun v h'=>AV v (lX (lI [0] [aB]) (List.take (ab7 aF) aN) h'))).bind (Py (ab7 aF) aN fun bV bH=>(uH false 1 1 bV).bind fun bW=>(l_ [(.int .i64 0),(.int .i64 0),(.int .i64 0),(.str []),(.slice [] .nil)] [(0,1),(1,1),(2,1),(3,1),(4,1)] [(0,aU),(1,bW),(4,bT)]).bind fun bX=>(k_ 5 bH aJ bX).bind fun aX=>(lG aA).bind fun bY=>(kR 1 bY).bind fun bZ=>(kW false 1 aX bZ).bind fun b7=>(kZ .add b7 (.int .i64 1)).bind fun b8=>(lG aA).bind fun b9=>(kR 1 b9).bind fun b_=>(k_ 1 aX b_ b8).bind fun aY=>(kZ .eql aU (.int .i64 14)).bind fun aV=>(kQ false aV (kY aU aY) (kY (.tuple []) aY)).bind (kX (fun cA aZ=>(kQ false aV ((kZ .eql cA (.int .i64 15)).bind fun cB=>kY cB aZ) (kY (.tuple []) aZ)).bind (kX (fun cC aM=>(lV aV (.bool true) cC).bind fun cD=>(lC cD (kU (K 103 [(kP.kV aA),(kP.kV (.int .i64 2))] aM) (fun cE bJ=>(uH false 1 2 cE).bind fun cF=>(kR 2 aJ).bind fun cG=>(k_ 1 bJ cG cF).bind fun bK=>some (.normal,[aA,aC,aD,aB,aJ],bK)) (fun cO bI=>some ((.pan cO),[aA,aC,aD,aB,aJ],bI))) ((kR 4 aJ).bind fun aL=>(kW false 1 aM aL).bind fun cH=>(kZ .add aC (.int .i64 1)).bind fun cI=>kU (K 205 [(kP.kV aA),(kP.kV cI)] (nY (lI [0] [aL]) aM)) (fun cJ a_=>k9 (lB 1 5 [(.int .i64 0),(.int .i64 0),(.int .i64 0),(.str []),(.slice [] .nil)] [(0,cJ)] (nY (lI [0] [aL]) (lX (lI [0] [aL]) aM a_))) fun cK bM=>k9 (mN 5 64 (lX (lI [0] [aL]) (lX (lI [0] [aL]) aM a_) bM) cH cK) fun cL bN=>(kR 4 aJ).bind fun cM=>(k_ 1 bN cM cL).bind fun bO=>some (.normal,[aA,aC,aD,aB,aJ],bO)) (fun v h'=>(fun cP bL=>some ((.pan cP),[aA,aC,aD,aB,aJ],bL)) v (lX (lI [0] [aL]) aM h')))).bind fun aK=>(fun aG aH aI aE aO aP=>Ex.mG aK.1 ((kW true 5 aP aO).bind fun aT=>(k_ 5 aP aE aT).bind fun aR=>lA m .normal [aG,aH,aI,aE] aR) (fun bB=>Ex.inBlock 1 bB (lA m .normal [aG,aH,aI,aE] aP) (fun aQ=>lA m aQ [aG,aH,aI,aE] aP))) (am0 aK.2.1 0 .junk) (am0 aK.2.1 1 .junk) (am0 aK.2.1 2 .junk) (am0 aK.2.1 3 .junk) (am0 aK.2.1 4 .junk) aK.2.2) (fun aW aS=>lA m (.pan aW) [aA,aC,aD,aB] aS))) (fun aW aS=>lA m (.pan aW) [aA,aC,aD,aB] aS))) else none)) (fun cN bD=>lA m (.pan cN) [aA,aC,aD,aB] bD)) (am0 s.1 0 .junk) (am0 s.1 1 .junk) (am0 s.1 2 .junk) (am0 s.1 3 .junk) s.2
def asK (K:lE) (a0 a1:kP) (h0:kT):Option (n_×kT) :=
 (k9 (lZ 5 h0 (.agg [(.int .i64 0),(.int .i64 0),(.int .i64 0),(.str []),(.slice [] .nil)])) fun t2 h3=>(kZ .gtr a1 (.int .i64 6)).bind fun t6=>lC t6 (kU (K 220 [(kP.kV a0)] h3) (fun t9 aO=>(k_ 5 aO t2 t9).bind fun aP=>some (.ret,[t2],aP)) (fun v7 h8=>some ((.pan v7),[t2],h8))) ((kZ .add a1 (.int .i64 1)).bind fun aT=>kU (K 205 [(kP.kV a0),(kP.kV aT)] h3) (fun aU aR=>k9 (lZ 5 aR (.agg [(.int .i64 0),(.int .i64 0),(.int .i64 0),(.str []),(.slice [] .nil)])) fun aN aS=>(k_ 5 aS aN aU).bind fun aM=>(mQ (Hb K (ab7 aM)) ([a0,a1,t2,aN],aM)).bind fun aA=>(fun aJ aK aB aL aF=>Ex.mG aA.1 none (fun aG=>Ex.inBlock 0 aG (some (.normal,[aB],aF)) (fun aH=>some (aH,[aB],aF)))) (am0 aA.2.1 0 .junk) (am0 aA.2.1 1 .junk) (am0 aA.2.1 2 .junk) (am0 aA.2.1 3 .junk) aA.2.2) (fun aV aQ=>some ((.pan aV),[t2],aQ)))).bind fun aD=>(fun aE aC=>Ex.yM aD.1 ((kW true 5 aC aE).bind fun aI=>mJ (ab7 h0) aI aC) (fun v=>vA (ab7 h0) v aC)) (am0 aD.2.1 0 .junk) aD.2.2
theorem VU (K:lE) (a0 a1:kP) (h0:kT):qJ Tryz.prog mV mQ K 205 [a0,a1] h0=asK (mD mV K) a0 a1 h0:=by kernel_rfl
def m51 (K:lE) (a0:kP) (h0:kT):Option (n_×kT) :=
 (k9 (lZ 4 h0 (.agg [(.int .i64 0),(.int .i64 0),(.int .i64 0),(.str [])])) fun t0 h1=>(lG a0).bind fun t2=>(kR 0 t2).bind fun t3=>(kW false 1 h1 t3).bind fun t4=>(lG a0).bind fun t5=>(kR 1 t5).bind fun t6=>(kW false 1 h1 t6).bind fun t7=>(lH 4 t4 t7).bind fun t8=>(kW true 4 h1 t8).bind fun t9=>(k_ 4 h1 t0 t9).bind fun aD=>some (.ret,[t0],aD)).bind fun aB=>(fun aA aC=>Ex.nP aB.1 ((kW true 4 aC aA).bind fun aE=>mJ (ab7 h0) aE aC)) (am0 aB.2.1 0 .junk) aB.2.2
theorem as2 (K:lE) (a0:kP) (h0:kT):qJ Tryz.prog mV mQ K 51 [a0] h0=m51 (mD mV K) a0 h0:=by kernel_rfl
def azS (K:lE) (a0 a1:kP) (h0:kT):Option (n_×kT) :=
 (kU (K 150 [(kP.kV a0),(kP.kV a1)] h0) (fun t2 h3=>(x8 .not t2).bind fun t4=>(lC t4 (kU (K 151 [(kP.kV a0),(kP.kV (.int .i64 10))] h3) (fun t7 h8=>some (.normal,[a0],h8)) (fun v5 h6=>some ((.pan v5),[a0],h6))) (some (.normal,[a0],h3))).bind fun r9=>(fun aA aB=>Ex.mG r9.1 ((lG aA).bind fun aG=>(kR 1 aG).bind fun aH=>(kW false 1 aB aH).bind fun aI=>(kZ .add aI (.int .i64 1)).bind fun aJ=>(lG aA).bind fun aK=>(kR 1 aK).bind fun aL=>(k_ 1 aB aL aJ).bind fun aF=>some (.normal,[],aF)) (fun aE=>some (aE,[],aB))) (am0 r9.2.1 0 .junk) r9.2.2) (fun v0 h1=>some ((.pan v0),[],h1))).bind fun aD=>(fun aC=>Ex.yM aD.1 (mJ (ab7 h0) (.tuple []) aC) (fun v=>vA (ab7 h0) v aC))  aD.2.2
theorem aiV (K:lE) (a0 a1:kP) (h0:kT):qJ Tryz.prog mV mQ K 102 [a0,a1] h0=azS (mD mV K) a0 a1 h0:=by kernel_rfl
def azT (K:lE) (a0 a1:kP) (h0:kT):Option (n_×kT) :=
 (k9 (lZ 4 h0 (.agg [(.int .i64 0),(.int .i64 0),(.int .i64 0),(.str [])])) fun t2 h3=>kU (K 51 [(kP.kV a0)] h3) (fun t6 h7=>k9 (lZ 4 h7 (.agg [(.int .i64 0),(.int .i64 0),(.int .i64 0),(.str [])])) fun t8 h9=>(k_ 4 h9 t8 t6).bind fun aF=>(kR 0 t8).bind fun aO=>(kW false 1 aF aO).bind fun aP=>(kZ .neq aP a1).bind fun aQ=>(lC aQ (kU (K 151 [(kP.kV a0),(kP.kV (.int .i64 10))] aF) (fun a_ aM=>some (.normal,[a0,t2,t8],aM)) (fun aZ aL=>some ((.pan aZ),[a0,t2,t8],aL))) (some (.normal,[a0,t2,t8],aF))).bind fun aC=>(fun aB aA aE aG=>Ex.mG aC.1 ((lG aB).bind fun aR=>(kR 1 aR).bind fun aS=>(kW false 1 aG aS).bind fun aT=>(kZ .add aT (.int .i64 1)).bind fun aU=>(lG aB).bind fun aV=>(kR 1 aV).bind fun aW=>(k_ 1 aG aW aU).bind fun aJ=>(kW true 4 aJ aE).bind fun aX=>(k_ 4 aJ aA aX).bind fun aN=>some (.ret,[aA],aN)) (fun aK=>some (aK,[aA],aG))) (am0 aC.2.1 0 .junk) (am0 aC.2.1 1 .junk) (am0 aC.2.1 2 .junk) aC.2.2) (fun v4 h5=>some ((.pan v4),[t2],h5))).bind fun aI=>(fun aD aH=>Ex.yM aI.1 ((kW true 4 aH aD).bind fun aY=>mJ (ab7 h0) aY aH) (fun v=>vA (ab7 h0) v aH)) (am0 aI.2.1 0 .junk) aI.2.2
theorem aiW (K:lE) (a0 a1:kP) (h0:kT):qJ Tryz.prog mV mQ K 103 [a0,a1] h0=azT (mD mV K) a0 a1 h0:=by kernel_rfl
def JU (K:lE) (m:Nat) (s:List kP×kT):Option R :=
 (fun aA aB aC aD aH=>(Bn aB).bind fun aE=>kU (Cn mV K aE.1 (AP mV aE.1 (aE.2.1++[]++aE.2.2)) aH) (fun aN aJ=>k9 (lB 1 6 [(.int .i64 0),(.str []),(.int .i64 0),(.int .i64 0),(.int .i64 0),(.bool false)] [(0,aN)] aJ) fun aO aK=>k9 (mN 6 56 aK aD aO) fun aF aL=>kU (K 107 [(kP.kV aA),(kP.kV (.str [44]))] aL) (fun aP aG=>(x8 .not aP).bind fun aQ=>lC aQ (lA m .ret [aA,aB,aF,aF] aG) (lA m .normal [aA,aB,aC,aF] aG)) (fun aS aM=>lA m (.pan aS) [aA,aB,aC,aF] aM)) (fun aR aI=>lA m (.pan aR) [aA,aB,aC,aD] aI)) (am0 s.1 0 .junk) (am0 s.1 1 .junk) (am0 s.1 2 .junk) (am0 s.1 3 .junk) s.2
def ar0 (K:lE) (a0 a1 a2:kP) (h0:kT):Option (n_×kT) :=
 ((fun(t3:kP) (h2:kT)=>(fun(t7:kP) (h6:kT)=>kU (K 150 [(kP.kV a0),(kP.kV a1)] h6) (fun aM aD=>lC aM (some (.ret,[t7],aD)) ((mQ (JU K (ab7 aD)) ([a0,a2,t3,t7],aD)).bind fun aB=>(fun aH aI aA aJ aF=>Ex.mG aB.1 none (fun aK=>Ex.inBlock 0 aK (some (.normal,[aA],aF)) (fun aL=>some (aL,[aA],aF)))) (am0 aB.2.1 0 .junk) (am0 aB.2.1 1 .junk) (am0 aB.2.1 2 .junk) (am0 aB.2.1 3 .junk) aB.2.2)) (fun v8 h9=>some ((.pan v8),[t3],h9))) (.slice [] (.own (ab7 h2))) (h2++[.front 0 0])) (.slice [] (.own (ab7 h0))) (h0++[.front 0 0])).bind fun aE=>(fun aC aG=>Ex.yM aE.1 (mJ (ab7 h0) aC aG) (fun v=>vA (ab7 h0) v aG)) (am0 aE.2.1 0 .junk) aE.2.2
theorem aiX (K:lE) (a0 a1 a2:kP) (h0:kT):qJ Tryz.prog mV mQ K 104 [a0,a1,a2] h0=ar0 (mD mV K) a0 a1 a2 h0:=by kernel_rfl
def azU (K:lE) (a0:kP) (h0:kT):Option (n_×kT) :=
 (k9 (lZ 6 h0 (.agg [(.int .i64 0),(.str []),(.int .i64 0),(.int .i64 0),(.int .i64 0),(.bool false)])) fun t2 h3=>(kW false 1 h3 a0).bind fun t6=>kU (K 106 [(kP.kV t6)] h3) (fun t7 h8=>(k_ 6 h8 t2 t7).bind fun h9=>some (.ret,[t2],h9)) (fun v4 h5=>some ((.pan v4),[t2],h5))).bind fun aC=>(fun aA aB=>Ex.yM aC.1 ((kW true 6 aB aA).bind fun aD=>mJ (ab7 h0) aD aB) (fun v=>vA (ab7 h0) v aB)) (am0 aC.2.1 0 .junk) aC.2.2
theorem aiY (K:lE) (a0:kP) (h0:kT):qJ Tryz.prog mV mQ K 105 [a0] h0=azU (mD mV K) a0 h0:=by kernel_rfl
def azV (K:lE) (a0:kP) (h0:kT):Option (n_×kT) :=
 (k9 (lZ 6 h0 (.agg [(.int .i64 0),(.str []),(.int .i64 0),(.int .i64 0),(.int .i64 0),(.bool false)])) fun t2 h3=>kU (K 107 [(kP.kV a0),(kP.kV (.str [111,117,116]))] h3) (fun t6 h7=>kU (K 109 [(kP.kV a0)] h7) (fun aQ aH=>kU (K 103 [(kP.kV a0),(kP.kV (.int .i64 1))] aH) (fun aR aJ=>k9 (lZ 4 aJ (.agg [(.int .i64 0),(.int .i64 0),(.int .i64 0),(.str [])])) fun aG aK=>(k_ 4 aK aG aR).bind fun aL=>kU (K 102 [(kP.kV a0),(kP.kV (.str [58]))] aL) (fun a_ aA=>(kR 1 aG).bind fun aC=>(kW false 1 aA aC).bind fun aS=>(kR 3 aG).bind fun aD=>(kW false 1 aA aD).bind fun aT=>kU (K 152 [(kP.kV a0),(kP.kV aQ)] (nY (lI [0,1] [aC,aD]) aA)) (fun aU aO=>(l_ [(.int .i64 0),(.str []),(.int .i64 0),(.int .i64 0),(.int .i64 0),(.bool false)] [(0,1),(1,1),(2,3),(5,1)] [(0,aS),(1,aT),(2,aU),(3,t6)]).bind fun aV=>(k_ 6 (lX (lI [0,1] [aC,aD]) aA aO) t2 aV).bind fun aP=>some (.ret,[t2],aP)) (fun v h'=>(fun aZ aN=>some ((.pan aZ),[t2],aN)) v (lX (lI [0,1] [aC,aD]) aA h'))) (fun aY aM=>some ((.pan aY),[t2],aM))) (fun aX aI=>some ((.pan aX),[t2],aI))) (fun v8 h9=>some ((.pan v8),[t2],h9))) (fun v4 h5=>some ((.pan v4),[t2],h5))).bind fun aF=>(fun aB aE=>Ex.yM aF.1 ((kW true 6 aE aB).bind fun aW=>mJ (ab7 h0) aW aE) (fun v=>vA (ab7 h0) v aE)) (am0 aF.2.1 0 .junk) aF.2.2
theorem aiZ (K:lE) (a0:kP) (h0:kT):qJ Tryz.prog mV mQ K 106 [a0] h0=azV (mD mV K) a0 h0:=by kernel_rfl
def azW (K:lE) (a0 a1:kP) (h0:kT):Option (n_×kT) :=
 (kU (K 150 [(kP.kV a0),(kP.kV a1)] h0) (fun t0 h1=>(x8 .not t0).bind fun t2=>lC t2 (some (.ret,[(.bool false)],h1)) ((lG a0).bind fun t3=>(kR 1 t3).bind fun t4=>(kW false 1 h1 t4).bind fun t5=>(kZ .add t5 (.int .i64 1)).bind fun t6=>(lG a0).bind fun t7=>(kR 1 t7).bind fun t8=>(k_ 1 h1 t8 t6).bind fun h9=>some (.ret,[(.bool true)],h9))) (fun _ _=>none)).bind fun aB=>(fun aA aC=>Ex.nP aB.1 (mJ (ab7 h0) aA aC)) (am0 aB.2.1 0 .junk) aB.2.2
theorem ai0 (K:lE) (a0 a1:kP) (h0:kT):qJ Tryz.prog mV mQ K 107 [a0,a1] h0=azW (mD mV K) a0 a1 h0:=by kernel_rfl
def ar1 (K:lE) (a0 a1:kP) (h0:kT):Option (n_×kT) :=
 (k9 (lZ 3 h0 (.agg [(.int .i64 0),(.int .i64 0),(.int .i64 0)])) fun t2 h3=>kU (K 107 [(kP.kV a0),(kP.kV (.str [109,97,115,107]))] h3) (fun t6 h7=>lC t6 ((l_ [(.int .i64 0),(.int .i64 0),(.int .i64 0)] [(0,1),(1,1),(2,1)] [(0,(.int .i64 1)),(2,a1)]).bind fun aH=>(k_ 3 h7 t2 aH).bind fun aD=>some (.ret,[t2],aD)) (kU (K 102 [(kP.kV a0),(kP.kV (.str [117,51,50]))] h7) (fun aL aF=>(l_ [(.int .i64 0),(.int .i64 0),(.int .i64 0)] [(0,1),(1,1),(2,1)] [(0,(.int .i64 0)),(2,a1)]).bind fun aI=>(k_ 3 aF t2 aI).bind fun aG=>some (.ret,[t2],aG)) (fun aK aE=>some ((.pan aK),[t2],aE)))) (fun v4 h5=>some ((.pan v4),[t2],h5))).bind fun aC=>(fun aA aB=>Ex.yM aC.1 ((kW true 3 aB aA).bind fun aJ=>mJ (ab7 h0) aJ aB) (fun v=>vA (ab7 h0) v aB)) (am0 aC.2.1 0 .junk) aC.2.2
theorem ai1 (K:lE) (a0 a1:kP) (h0:kT):qJ Tryz.prog mV mQ K 108 [a0,a1] h0=ar1 (mD mV K) a0 a1 h0:=by kernel_rfl
def ar2 (K:lE) (a0:kP) (h0:kT):Option (n_×kT) :=
 (kU (K 107 [(kP.kV a0),(kP.kV (.str [115,101,99]))] h0) (fun t4 h5=>lC t4 (some (.ret,[(.int .i64 1)],h5)) (kU (K 102 [(kP.kV a0),(kP.kV (.str [112,117,98]))] h5) (fun aE aD=>some (.ret,[(.int .i64 0)],aD)) (fun v8 h9=>some ((.pan v8),[(.int .i64 0)],h9)))) (fun v2 h3=>some ((.pan v2),[(.int .i64 0)],h3))).bind fun aB=>(fun aA aC=>Ex.yM aB.1 (mJ (ab7 h0) aA aC) (fun v=>vA (ab7 h0) v aC)) (am0 aB.2.1 0 .junk) aB.2.2
theorem ai2 (K:lE) (a0:kP) (h0:kT):qJ Tryz.prog mV mQ K 109 [a0] h0=ar2 (mD mV K) a0 h0:=by kernel_rfl
def JV (K:lE) (m:Nat) (s:List kP×kT):Option R :=
 (fun aA aB aC aE=>kU (K 150 [(kP.kV aA),(kP.kV (.str [125]))] aE) (fun aK aD=>(x8 .not aK).bind fun aL=>lC aL (kU (K 154 [(kP.kV aA)] aD) (fun aM aH=>k9 (lB 1 11 [(.int .i64 0),(.int .i64 0),(.int .i64 0),(.str []),(.int .i64 0),(.int .i64 0),(.int .i64 0),(.slice [] .nil),(.slice [] .nil),(.slice [] .nil),(.bool false)] [(0,aM)] aH) fun aN aI=>k9 (mN 11 144 aI aC aN) fun aO aJ=>lA m .normal [aA,aB,aO] aJ) (fun aQ aG=>lA m (.pan aQ) [aA,aB,aC] aG)) (lA m (.exit 0) [aA,aB,aC] aD)) (fun aP aF=>lA m (.pan aP) [aA,aB,aC] aF)) (am0 s.1 0 .junk) (am0 s.1 1 .junk) (am0 s.1 2 .junk) s.2
def azX (K:lE) (a0:kP) (h0:kT):Option (n_×kT) :=
 ((fun(t3:kP) (h2:kT)=>kU (K 153 [(kP.kV a0),(kP.kV (.str [123]))] h2) (fun t6 h7=>(fun(aN:kP) (aG:kT)=>(mQ (JV K (ab7 aG)) ([a0,t3,aN],aG)).bind fun aB=>(fun aC aA aE aH=>Ex.mG aB.1 none (fun aJ=>Ex.inBlock 0 aJ (kU (K 155 [(kP.kV aC),(kP.kV (.str [125]))] aH) (fun aP aM=>some (.ret,[aE],aM)) (fun aO aL=>some ((.pan aO),[aA],aL))) (fun aK=>some (aK,[aA],aH)))) (am0 aB.2.1 0 .junk) (am0 aB.2.1 1 .junk) (am0 aB.2.1 2 .junk) aB.2.2) (.slice [] (.own (ab7 h7))) (h7++[.front 0 0])) (fun v4 h5=>some ((.pan v4),[t3],h5))) (.slice [] (.own (ab7 h0))) (h0++[.front 0 0])).bind fun aF=>(fun aD aI=>Ex.yM aF.1 (mJ (ab7 h0) aD aI) (fun v=>vA (ab7 h0) v aI)) (am0 aF.2.1 0 .junk) aF.2.2
theorem ai3 (K:lE) (a0:kP) (h0:kT):qJ Tryz.prog mV mQ K 110 [a0] h0=azX (mD mV K) a0 h0:=by kernel_rfl
def az6 (K:lE) (a0 a1:kP) (h0:kT):Option (n_×kT) :=
 (kU (K 51 [(kP.kV a0)] h0) (fun t0 h1=>k9 (lZ 4 h1 (.agg [(.int .i64 0),(.int .i64 0),(.int .i64 0),(.str [])])) fun t2 h3=>(k_ 4 h3 t2 t0).bind fun h4=>(kR 0 t2).bind fun t5=>(kW false 1 h4 t5).bind fun t6=>(kZ .eql t6 (.int .i64 3)).bind fun t7=>(kQ false t7 ((kR 0 t2).bind fun t8=>kY t8 h4) (kY (.tuple []) h4)).bind (kX (fun t9 aC=>(kQ false t7 ((kW false 1 aC t9).bind fun aL=>kY aL aC) (kY (.tuple []) aC)).bind (kX (fun aM aF=>(kQ false t7 ((kZ .eql aM (.int .i64 4)).bind fun aN=>kY aN aF) (kY (.tuple []) aF)).bind (kX (fun aO aG=>(lV t7 (.bool true) aO).bind fun aA=>(kQ true aA ((kR 3 t2).bind fun aP=>kY aP aG) (kY (.tuple []) aG)).bind (kX (fun aQ aD=>(kQ true aA ((kW false 1 aD aQ).bind fun aR=>kY aR aD) (kY (.tuple []) aD)).bind (kX (fun aS aH=>(kQ true aA (kY a1 aH) (kY (.tuple []) aH)).bind (kX (fun aT aI=>(kQ true aA ((kZ .eql aS aT).bind fun aU=>kY aU aI) (kY (.tuple []) aI)).bind (kX (fun aV aJ=>(lV aA aV (.bool false)).bind fun aW=>some (.ret,[aW],aJ)) (fun _ _=>none))) (fun _ _=>none))) (fun _ _=>none))) (fun _ _=>none))) (fun _ _=>none))) (fun _ _=>none))) (fun _ _=>none))) (fun _ _=>none)).bind fun aE=>(fun aB aK=>Ex.nP aE.1 (mJ (ab7 h0) aB aK)) (am0 aE.2.1 0 .junk) aE.2.2
theorem ajQ (K:lE) (a0 a1:kP) (h0:kT):qJ Tryz.prog mV mQ K 150 [a0,a1] h0=az6 (mD mV K) a0 a1 h0:=by kernel_rfl
def az7 (K:lE) (a0 a1:kP) (h0:kT):Option (n_×kT) :=
 (kU (K 51 [(kP.kV a0)] h0) (fun t2 h3=>(uH false 1 1 t2).bind fun t4=>(l_ [(.int .i64 0),(.int .i64 0)] [(0,1),(1,1)] [(0,a1),(1,t4)]).bind fun t5=>(l_ [(.int .i64 0),(.int .i64 0)] [(0,2)] [(0,t5)]).bind fun t6=>H6 (.iface 102 t6) h3 (fun v0 h1=>some ((.pan v0),[],h1))) (fun v0 h1=>some ((.pan v0),[],h1))).bind fun r7=>(fun h8=>Ex.yM r7.1 (mJ (ab7 h0) (.tuple []) h8) (fun v=>vA (ab7 h0) v h8))  r7.2.2
theorem ajR (K:lE) (a0 a1:kP) (h0:kT):qJ Tryz.prog mV mQ K 151 [a0,a1] h0=az7 (mD mV K) a0 a1 h0:=by kernel_rfl
def asC (K:lE) (a0 a1:kP) (h0:kT):Option (n_×kT) :=
 (k9 (lZ 3 h0 (.agg [(.int .i64 0),(.int .i64 0),(.int .i64 0)])) fun t2 h3=>kU (K 107 [(kP.kV a0),(kP.kV (.str [117,56]))] h3) (fun t6 h7=>lC t6 (kU (K 180 [(kP.kV a0)] h7) (fun aZ aP=>(l_ [(.int .i64 0),(.int .i64 0),(.int .i64 0)] [(0,1),(1,1),(2,1)] [(0,(.int .i64 2)),(1,aZ),(2,a1)]).bind fun a_=>(k_ 3 aP t2 a_).bind fun aQ=>some (.ret,[t2],aQ)) (fun v8 h9=>some ((.pan v8),[t2],h9))) (kU (K 108 [(kP.kV a0),(kP.kV a1)] h7) (fun bA aS=>k9 (lZ 3 aS (.agg [(.int .i64 0),(.int .i64 0),(.int .i64 0)])) fun aB aT=>(k_ 3 aT aB bA).bind fun aF=>(kR 0 aB).bind fun bB=>(kW false 1 aF bB).bind fun bC=>(kZ .eql bC (.int .i64 0)).bind fun aK=>(kQ true aK (kY a0 aF) (kY (.tuple []) aF)).bind (kX (fun bD aM=>(kQ true aK (kU (K 150 [(kP.kV bD),(kP.kV (.str [91]))] aM) (fun bE aU=>kY bE aU) AV) (kY (.tuple []) aM)).bind (kX (fun bF aN=>(lV aK bF (.bool false)).bind fun bG=>(lC bG (kU (K 180 [(kP.kV a0)] aN) (fun bH aW=>(kR 1 aB).bind fun bI=>(k_ 1 aW bI bH).bind fun aX=>some (.normal,[t2,aB],aX)) (fun bM aV=>some ((.pan bM),[t2,aB],aV))) (some (.normal,[t2,aB],aN))).bind fun aE=>(fun aA aD aH=>Ex.mG aE.1 ((kW true 3 aH aD).bind fun bJ=>(k_ 3 aH aA bJ).bind fun aY=>some (.ret,[aA],aY)) (fun aO=>some (aO,[aA],aH))) (am0 aE.2.1 0 .junk) (am0 aE.2.1 1 .junk) aE.2.2) (fun aL aG=>some ((.pan aL),[t2],aG)))) (fun aL aG=>some ((.pan aL),[t2],aG)))) (fun bL aR=>some ((.pan bL),[t2],aR)))) (fun v4 h5=>some ((.pan v4),[t2],h5))).bind fun aJ=>(fun aC aI=>Ex.yM aJ.1 ((kW true 3 aI aC).bind fun bK=>mJ (ab7 h0) bK aI) (fun v=>vA (ab7 h0) v aI)) (am0 aJ.2.1 0 .junk) aJ.2.2
theorem ajS (K:lE) (a0 a1:kP) (h0:kT):qJ Tryz.prog mV mQ K 152 [a0,a1] h0=asC (mD mV K) a0 a1 h0:=by kernel_rfl
def asD (K:lE) (a0 a1:kP) (h0:kT):Option (n_×kT) :=
 (kU (K 150 [(kP.kV a0),(kP.kV a1)] h0) (fun t2 h3=>(kQ true t2 (kY a0 h3) (kY (.tuple []) h3)).bind (kX (fun t4 h5=>(kQ true t2 ((lG t4).bind fun t6=>kY t6 h5) (kY (.tuple []) h5)).bind (kX (fun t7 h8=>(kQ true t2 ((kR 2 t7).bind fun t9=>kY t9 h8) (kY (.tuple []) h8)).bind (kX (fun aP aD=>(kQ true t2 ((kW false 1 aD aP).bind fun aQ=>kY aQ aD) (kY (.tuple []) aD)).bind (kX (fun aR aE=>(kQ true t2 ((kZ .eql aR (.int .i64 64)).bind fun aS=>kY aS aE) (kY (.tuple []) aE)).bind (kX (fun aT aF=>(lV t2 aT (.bool false)).bind fun aU=>(lC aU (kU (K 151 [(kP.kV a0),(kP.kV (.int .i64 11))] aF) (fun bC aM=>some (.normal,[a0,a1],aM)) (fun bA aL=>some ((.pan bA),[a0,a1],aL))) (some (.normal,[a0,a1],aF))).bind fun aC=>(fun aA aB aG=>Ex.mG aC.1 (kU (K 102 [(kP.kV aA),(kP.kV aB)] aG) (fun bD aH=>(lG aA).bind fun aV=>(kR 2 aV).bind fun aW=>(kW false 1 aH aW).bind fun aX=>(kZ .add aX (.int .i64 1)).bind fun aY=>(lG aA).bind fun aZ=>(kR 2 aZ).bind fun a_=>(k_ 1 aH a_ aY).bind fun aO=>some (.normal,[],aO)) (fun bB aN=>some ((.pan bB),[],aN))) (fun aK=>some (aK,[],aG))) (am0 aC.2.1 0 .junk) (am0 aC.2.1 1 .junk) aC.2.2) (fun v0 h1=>some ((.pan v0),[],h1)))) (fun v0 h1=>some ((.pan v0),[],h1)))) (fun v0 h1=>some ((.pan v0),[],h1)))) (fun v0 h1=>some ((.pan v0),[],h1)))) (fun v0 h1=>some ((.pan v0),[],h1)))) (fun v0 h1=>some ((.pan v0),[],h1))).bind fun aJ=>(fun aI=>Ex.yM aJ.1 (mJ (ab7 h0) (.tuple []) aI) (fun v=>vA (ab7 h0) v aI))  aJ.2.2
theorem ajT (K:lE) (a0 a1:kP) (h0:kT):qJ Tryz.prog mV mQ K 153 [a0,a1] h0=asD (mD mV K) a0 a1 h0:=by kernel_rfl
def az8 (K:lE) (a0:kP) (h0:kT):Option (n_×kT) :=
 (k9 (lZ 11 h0 (.agg [(.int .i64 0),(.int .i64 0),(.int .i64 0),(.str []),(.int .i64 0),(.int .i64 0),(.int .i64 0),(.slice [] .nil),(.slice [] .nil),(.slice [] .nil),(.bool false)])) fun t2 h3=>kU (K 51 [(kP.kV a0)] h3) (fun t6 h7=>(uH false 1 1 t6).bind fun t8=>(l_ [(.int .i64 0),(.int .i64 0),(.int .i64 0),(.str []),(.int .i64 0),(.int .i64 0),(.int .i64 0),(.slice [] .nil),(.slice [] .nil),(.slice [] .nil),(.bool false)] [(0,1),(1,1),(2,1),(3,1),(4,3),(7,1),(8,1),(9,1),(10,1)] [(1,t8)]).bind fun t9=>k9 (lZ 11 h7 (.agg [(.int .i64 0),(.int .i64 0),(.int .i64 0),(.str []),(.int .i64 0),(.int .i64 0),(.int .i64 0),(.slice [] .nil),(.slice [] .nil),(.slice [] .nil),(.bool false)])) fun aA dR=>(k_ 11 dR aA t9).bind fun dU=>kU (K 107 [(kP.kV a0),(kP.kV (.str [108,101,116]))] dU) (fun fN dO=>(lC fN (kU (K 103 [(kP.kV a0),(kP.kV (.int .i64 1))] dO) (fun fQ dX=>(uH false 1 3 fQ).bind fun fR=>(kR 0 aA).bind fun fS=>(k_ 1 dX fS (.int .i64 1)).bind fun dY=>(kR 3 aA).bind fun fU=>(k_ 1 dY fU fR).bind fun dZ=>kU (K 102 [(kP.kV a0),(kP.kV (.str [61]))] dZ) (fun iA eA=>kU (K 181 [(kP.kV a0)] eA) (fun fV eC=>(kR 7 aA).bind fun fX=>(k_ 1 eC fX fV).bind fun eD=>some (.normal,[t2,aA],eD)) (fun gU eB=>some ((.pan gU),[t2,aA],eB))) (fun gT d_=>some ((.pan gT),[t2,aA],d_))) (fun gR dW=>some ((.pan gR),[t2,aA],dW))) (kU (K 107 [(kP.kV a0),(kP.kV (.str [118,97,114]))] dO) (fun fY dP=>(lC fY ((kR 0 aA).bind fun fZ=>(k_ 1 dP fZ (.int .i64 2)).bind fun eH=>kU (K 109 [(kP.kV a0)] eH) (fun f_ eJ=>kU (K 103 [(kP.kV a0),(kP.kV (.int .i64 1))] eJ) (fun gA eO=>(uH false 1 3 gA).bind fun gB=>(kR 3 aA).bind fun gC=>(k_ 1 eO gC gB).bind fun eP=>kU (K 102 [(kP.kV a0),(kP.kV (.str [58]))] eP) (fun iB eR=>kU (K 152 [(kP.kV a0),(kP.kV f_)] eR) (fun gD eU=>(kR 4 aA).bind fun gE=>(k_ 3 eU gE gD).bind fun eV=>kU (K 102 [(kP.kV a0),(kP.kV (.str [59]))] eV) (fun iC eY=>some (.normal,[t2,aA],eY)) (fun g_ eX=>some ((.pan g_),[t2,aA],eX))) (fun gZ eT=>some ((.pan gZ),[t2,aA],eT))) (fun gY eQ=>some ((.pan gY),[t2,aA],eQ))) (fun gX eM=>some ((.pan gX),[t2,aA],eM))) (fun gW eI=>some ((.pan gW),[t2,aA],eI))) (kU (K 107 [(kP.kV a0),(kP.kV (.str [105,102]))] dP) (fun gF dQ=>(lC gF (kU (K 182 [(kP.kV a0)] dQ) (fun gG fB=>k9 (lB 1 5 [(.int .i64 0),(.int .i64 0),(.int .i64 0),(.str []),(.slice [] .nil)] [(0,gG)] fB) fun gH fC=>(kR 0 aA).bind fun gI=>(k_ 1 fC gI (.int .i64 5)).bind fun fD=>(kR 7 aA).bind fun gJ=>(k_ 1 fD gJ gH).bind fun fE=>kU (K 110 [(kP.kV a0)] fE) (fun gK fH=>(kR 8 aA).bind fun gL=>(k_ 1 fH gL gK).bind fun fI=>kU (K 107 [(kP.kV a0),(kP.kV (.str [101,108,115,101]))] fI) (fun gM fK=>(kR 10 aA).bind fun gN=>(k_ 1 fK gN gM).bind fun cK=>(kR 10 aA).bind fun gO=>(kW false 1 cK gO).bind fun gP=>(lC gP (kU (K 110 [(kP.kV a0)] cK) (fun cL bK=>(kR 9 aA).bind fun cM=>(k_ 1 bK cM cL).bind fun bL=>some (.normal,[t2,aA],bL)) (fun h_ bJ=>some ((.pan h_),[t2,aA],bJ))) (some (.normal,[t2,aA],cK))).bind fun aO=>(fun aD aI aW=>Ex.mG aO.1 (some (.normal,[aD,aI],aW)) (fun bC=>some (bC,[aD,aI],aW))) (am0 aO.2.1 0 .junk) (am0 aO.2.1 1 .junk) aO.2.2) (fun hQ fJ=>some ((.pan hQ),[t2,aA],fJ))) (fun hO fF=>some ((.pan hO),[t2,aA],fF))) (fun hI e_=>some ((.pan hI),[t2,aA],e_))) (kU (K 107 [(kP.kV a0),(kP.kV (.str [102,111,114]))] dQ) (fun cN aX=>(lC cN (kU (K 103 [(kP.kV a0),(kP.kV (.int .i64 1))] aX) (fun cO bO=>(uH false 1 3 cO).bind fun cP=>(kR 0 aA).bind fun cQ=>(k_ 1 bO cQ (.int .i64 6)).bind fun bP=>(kR 3 aA).bind fun cR=>(k_ 1 bP cR cP).bind fun bQ=>kU (K 102 [(kP.kV a0),(kP.kV (.str [60]))] bQ) (fun fL bS=>kU (K 182 [(kP.kV a0)] bS) (fun cS bU=>k9 (lB 1 5 [(.int .i64 0),(.int .i64 0),(.int .i64 0),(.str []),(.slice [] .nil)] [(0,cS)] bU) fun cT bV=>(kR 7 aA).bind fun cU=>(k_ 1 bV cU cT).bind fun bW=>kU (K 102 [(kP.kV a0),(kP.kV (.str [109,97,120]))] bW) (fun fM bY=>kU (K 103 [(kP.kV a0),(kP.kV (.int .i64 2))] bY) (fun cV b7=>(uH false 1 2 cV).bind fun cW=>(kR 2 aA).bind fun cX=>(k_ 1 b7 cX cW).bind fun b8=>kU (K 110 [(kP.kV a0)] b8) (fun cY b_=>(kR 8 aA).bind fun cZ=>(k_ 1 b_ cZ cY).bind fun cA=>some (.normal,[t2,aA],cA)) (fun dK b9=>some ((.pan dK),[t2,aA],b9))) (fun dJ bZ=>some ((.pan dJ),[t2,aA],bZ))) (fun dI bX=>some ((.pan dI),[t2,aA],bX))) (fun dH bT=>some ((.pan dH),[t2,aA],bT))) (fun dG bR=>some ((.pan dG),[t2,aA],bR))) (fun dF bN=>some ((.pan dF),[t2,aA],bN))) (kU (K 107 [(kP.kV a0),(kP.kV (.str [114,101,116,117,114,110]))] aX) (fun c6 aY=>(lC c6 (kU (K 181 [(kP.kV a0)] aY) (fun c9 cD=>(kR 0 aA).bind fun c_=>(k_ 1 cD c_ (.int .i64 8)).bind fun cE=>(kR 7 aA).bind fun dA=>(k_ 1 cE dA c9).bind fun cF=>some (.normal,[t2,aA],cF)) (fun dM cC=>some ((.pan dM),[t2,aA],cC))) (kU (K 183 [(kP.kV a0),(kP.kV aA)] aY) (fun fO cH=>some (.normal,[t2,aA],cH)) (fun dN cG=>some ((.pan dN),[t2,aA],cG)))).bind fun aP=>(fun aE aJ aZ=>Ex.mG aP.1 (some (.normal,[aE,aJ],aZ)) (fun bD=>some (bD,[aE,aJ],aZ))) (am0 aP.2.1 0 .junk) (am0 aP.2.1 1 .junk) aP.2.2) (fun dL cB=>some ((.pan dL),[t2,aA],cB)))).bind fun aQ=>(fun aF aK a_=>Ex.mG aQ.1 (some (.normal,[aF,aK],a_)) (fun bE=>some (bE,[aF,aK],a_))) (am0 aQ.2.1 0 .junk) (am0 aQ.2.1 1 .junk) aQ.2.2) (fun dE bM=>some ((.pan dE),[t2,aA],bM)))).bind fun aR=>(fun aG aL bA=>Ex.mG aR.1 (some (.normal,[aG,aL],bA)) (fun bF=>some (bF,[aG,aL],bA))) (am0 aR.2.1 0 .junk) (am0 aR.2.1 1 .junk) aR.2.2) (fun hD eZ=>some ((.pan hD),[t2,aA],eZ)))).bind fun aS=>(fun aH aM bB=>Ex.mG aS.1 (some (.normal,[aH,aM],bB)) (fun bG=>some (bG,[aH,aM],bB))) (am0 aS.2.1 0 .junk) (am0 aS.2.1 1 .junk) aS.2.2) (fun gV eE=>some ((.pan gV),[t2,aA],eE)))).bind fun Yr=>(fun aB aN aC=>Ex.mG Yr.1 ((kW true 11 aC aN).bind fun dB=>(k_ 11 aC aB dB).bind fun cI=>some (.ret,[aB],cI)) (fun bH=>Ex.inBlock 0 bH ((kW true 11 aC aN).bind fun dC=>(k_ 11 aC aB dC).bind fun cJ=>some (.ret,[aB],cJ)) (fun bI=>some (bI,[aB],aC)))) (am0 Yr.2.1 0 .junk) (am0 Yr.2.1 1 .junk) Yr.2.2) (fun gQ dV=>some ((.pan gQ),[t2],dV))) (fun v4 h5=>some ((.pan v4),[t2],h5))).bind fun aU=>(fun aV aT=>Ex.yM aU.1 ((kW true 11 aT aV).bind fun dD=>mJ (ab7 h0) dD aT) (fun v=>vA (ab7 h0) v aT)) (am0 aU.2.1 0 .junk) aU.2.2
theorem ajU (K:lE) (a0:kP) (h0:kT):qJ Tryz.prog mV mQ K 154 [a0] h0=az8 (mD mV K) a0 h0:=by kernel_rfl
def az9 (K:lE) (a0 a1:kP) (h0:kT):Option (n_×kT) :=
 (kU (K 102 [(kP.kV a0),(kP.kV a1)] h0) (fun t2 h3=>(lG a0).bind fun t6=>(kR 2 t6).bind fun t7=>(kW false 1 h3 t7).bind fun t8=>(kZ .sub t8 (.int .i64 1)).bind fun t9=>(lG a0).bind fun aD=>(kR 2 aD).bind fun aE=>(k_ 1 h3 aE t9).bind fun aC=>some (.normal,[],aC)) (fun v0 h1=>some ((.pan v0),[],h1))).bind fun aB=>(fun aA=>Ex.yM aB.1 (mJ (ab7 h0) (.tuple []) aA) (fun v=>vA (ab7 h0) v aA))  aB.2.2
theorem ajV (K:lE) (a0 a1:kP) (h0:kT):qJ Tryz.prog mV mQ K 155 [a0,a1] h0=az9 (mD mV K) a0 a1 h0:=by kernel_rfl
def abT (K:lE) (a0:kP) (h0:kT):Option (n_×kT) :=
 (kU (K 102 [(kP.kV a0),(kP.kV (.str [91]))] h0) (fun t4 h5=>kU (K 51 [(kP.kV a0)] h5) (fun t8 h9=>k9 (lZ 4 h9 (.agg [(.int .i64 0),(.int .i64 0),(.int .i64 0),(.str [])])) fun aK aQ=>(k_ 4 aQ aK t8).bind fun aH=>(kR 0 aK).bind fun aX=>(kW false 1 aH aX).bind fun aY=>(kZ .eql aY (.int .i64 2)).bind fun aG=>(kQ true aG ((kR 2 aK).bind fun aZ=>kY aZ aH) (kY (.tuple []) aH)).bind (kX (fun a_ aI=>(kQ true aG ((kW false 1 aI a_).bind fun bA=>kY bA aI) (kY (.tuple []) aI)).bind (kX (fun bB aL=>(kQ true aG ((kZ .eql bB (.int .i64 0)).bind fun bC=>kY bC aL) (kY (.tuple []) aL)).bind (kX (fun bD aM=>(lV aG bD (.bool false)).bind fun bE=>(lC bE (kU (K 151 [(kP.kV a0),(kP.kV (.int .i64 10))] aM) (fun bK aS=>some (.normal,[a0,(.int .i64 0)],aS)) (fun bH aR=>some ((.pan bH),[a0,(.int .i64 0)],aR))) (some (.normal,[a0,(.int .i64 0)],aM))).bind fun aF=>(fun aB aA aN=>Ex.mG aF.1 (kU (K 103 [(kP.kV aB),(kP.kV (.int .i64 2))] aN) (fun bF aU=>(uH false 1 2 bF).bind fun bG=>kU (K 102 [(kP.kV aB),(kP.kV (.str [93]))] aU) (fun bL aW=>some (.ret,[bG],aW)) (fun bJ aV=>some ((.pan bJ),[aA],aV))) (fun bI aT=>some ((.pan bI),[aA],aT))) (fun aP=>some (aP,[aA],aN))) (am0 aF.2.1 0 .junk) (am0 aF.2.1 1 .junk) aF.2.2) (fun aD aC=>some ((.pan aD),[(.int .i64 0)],aC)))) (fun aD aC=>some ((.pan aD),[(.int .i64 0)],aC)))) (fun aD aC=>some ((.pan aD),[(.int .i64 0)],aC)))) (fun v6 h7=>some ((.pan v6),[(.int .i64 0)],h7))) (fun v2 h3=>some ((.pan v2),[(.int .i64 0)],h3))).bind fun aJ=>(fun aE aO=>Ex.yM aJ.1 (mJ (ab7 h0) aE aO) (fun v=>vA (ab7 h0) v aO)) (am0 aJ.2.1 0 .junk) aJ.2.2
theorem aj4 (K:lE) (a0:kP) (h0:kT):qJ Tryz.prog mV mQ K 180 [a0] h0=abT (mD mV K) a0 h0:=by kernel_rfl
def aAe (K:lE) (a0:kP) (h0:kT):Option (n_×kT) :=
 ((fun(t3:kP) (h2:kT)=>kU (K 182 [(kP.kV a0)] h2) (fun t6 h7=>k9 (lZ 5 h7 (.agg [(.int .i64 0),(.int .i64 0),(.int .i64 0),(.str []),(.slice [] .nil)])) fun t8 h9=>(k_ 5 h9 t8 t6).bind fun aE=>kU (K 102 [(kP.kV a0),(kP.kV (.str [59]))] aE) (fun aK aC=>(kW true 5 aC t8).bind fun aH=>k9 (lB 1 5 [(.int .i64 0),(.int .i64 0),(.int .i64 0),(.str []),(.slice [] .nil)] [(0,aH)] aC) fun aI aG=>some (.ret,[aI],aG)) (fun aJ aF=>some ((.pan aJ),[t3],aF))) (fun v4 h5=>some ((.pan v4),[t3],h5))) (.slice [] (.own (ab7 h0))) (h0++[.front 0 0])).bind fun aB=>(fun aA aD=>Ex.yM aB.1 (mJ (ab7 h0) aA aD) (fun v=>vA (ab7 h0) v aD)) (am0 aB.2.1 0 .junk) aB.2.2
theorem aj5 (K:lE) (a0:kP) (h0:kT):qJ Tryz.prog mV mQ K 181 [a0] h0=aAe (mD mV K) a0 h0:=by kernel_rfl
def aAf (K:lE) (a0:kP) (h0:kT):Option (n_×kT) :=
 (k9 (lZ 5 h0 (.agg [(.int .i64 0),(.int .i64 0),(.int .i64 0),(.str []),(.slice [] .nil)])) fun t2 h3=>kU (K 205 [(kP.kV a0),(kP.kV (.int .i64 1))] h3) (fun t6 h7=>k9 (lZ 5 h7 (.agg [(.int .i64 0),(.int .i64 0),(.int .i64 0),(.str []),(.slice [] .nil)])) fun t8 h9=>(k_ 5 h9 t8 t6).bind fun aM=>kU (K 206 [(kP.kV a0),(kP.kV (.int .i64 0))] aM) (fun aK aI=>(lT 0 aK).bind fun aU=>(lT 1 aK).bind fun aV=>(lC aV (kU (K 51 [(kP.kV a0)] aI) (fun aW aJ=>(uH false 1 1 aW).bind fun aX=>(lG a0).bind fun aY=>(kR 1 aY).bind fun aZ=>(kW false 1 aJ aZ).bind fun a_=>(kZ .add a_ (.int .i64 1)).bind fun bA=>(lG a0).bind fun bB=>(kR 1 bB).bind fun bC=>(k_ 1 aJ bC bA).bind fun aD=>(kW true 5 aD t8).bind fun bD=>kU (K 205 [(kP.kV a0),(kP.kV (.int .i64 1))] (nY (lI [0] [t8]) aD)) (fun bE aQ=>k9 (lB 2 5 [(.int .i64 0),(.int .i64 0),(.int .i64 0),(.str []),(.slice [] .nil)] [(0,bD),(1,bE)] (lX (lI [0] [t8]) aD aQ)) fun bF aR=>(l_ [(.int .i64 0),(.int .i64 0),(.int .i64 0),(.str []),(.slice [] .nil)] [(0,1),(1,1),(2,1),(3,1),(4,1)] [(0,aU),(1,aX),(4,bF)]).bind fun bG=>(k_ 5 aR t8 bG).bind fun aS=>some (.normal,[t2,t8],aS)) (fun v h'=>(fun bL aP=>some ((.pan bL),[t2,t8],aP)) v (lX (lI [0] [t8]) aD h'))) (fun bK aO=>some ((.pan bK),[t2,t8],aO))) (some (.normal,[t2,t8],aI))).bind fun aE=>(fun aA aC aF=>Ex.mG aE.1 ((kW true 5 aF aC).bind fun bH=>(k_ 5 aF aA bH).bind fun aT=>some (.ret,[aA],aT)) (fun aL=>some (aL,[aA],aF))) (am0 aE.2.1 0 .junk) (am0 aE.2.1 1 .junk) aE.2.2) (fun bJ aN=>some ((.pan bJ),[t2],aN))) (fun v4 h5=>some ((.pan v4),[t2],h5))).bind fun aH=>(fun aB aG=>Ex.yM aH.1 ((kW true 5 aG aB).bind fun bI=>mJ (ab7 h0) bI aG) (fun v=>vA (ab7 h0) v aG)) (am0 aH.2.1 0 .junk) aH.2.2
theorem aj6 (K:lE) (a0:kP) (h0:kT):qJ Tryz.prog mV mQ K 182 [a0] h0=aAf (mD mV K) a0 h0:=by kernel_rfl
def Iq (K:lE) (a0 a1:kP) (h0:kT):Option (n_×kT) :=
 (kU (K 103 [(kP.kV a0),(kP.kV (.int .i64 1))] h0) (fun t2 h3=>k9 (lZ 4 h3 (.agg [(.int .i64 0),(.int .i64 0),(.int .i64 0),(.str [])])) fun t4 h5=>(k_ 4 h5 t4 t2).bind fun h6=>(kR 3 t4).bind fun t9=>(kW false 1 h6 t9).bind fun bK=>(lG a1).bind fun bL=>(kR 3 bL).bind fun bM=>(k_ 1 h6 bM bK).bind fun aM=>kU (K 150 [(kP.kV a0),(kP.kV (.str [40]))] aM) (fun bN aB=>(lC bN ((lG a1).bind fun bO=>(kR 0 bO).bind fun bP=>(k_ 1 aB bP (.int .i64 7)).bind fun aO=>(lG a1).bind fun bQ=>(kR 3 bQ).bind fun bR=>(k_ 1 aO bR (.str [])).bind fun aC=>(kW true 4 aC t4).bind fun bS=>kU (K 207 [(kP.kV a0),(kP.kV bS)] aC) (fun bT aQ=>k9 (lB 1 5 [(.int .i64 0),(.int .i64 0),(.int .i64 0),(.str []),(.slice [] .nil)] [(0,bT)] aQ) fun bU aR=>(lG a1).bind fun bV=>(kR 7 bV).bind fun bW=>(k_ 1 aR bW bU).bind fun aS=>kU (K 102 [(kP.kV a0),(kP.kV (.str [59]))] aS) (fun cP aU=>some (.normal,[],aU)) (fun cI aT=>some ((.pan cI),[],aT))) (fun cH aP=>some ((.pan cH),[],aP))) (kU (K 150 [(kP.kV a0),(kP.kV (.str [91]))] aB) (fun bX aD=>(lC bX ((lG a1).bind fun bY=>(kR 0 bY).bind fun bZ=>(k_ 1 aD bZ (.int .i64 4)).bind fun aW=>kU (K 208 [(kP.kV a0)] aW) (fun b7 aY=>kU (K 102 [(kP.kV a0),(kP.kV (.str [61]))] aY) (fun cQ a_=>kU (K 181 [(kP.kV a0)] a_) (fun b8 bB=>k9 (mN 5 64 bB b7 b8) fun b9 bC=>(lG a1).bind fun b_=>(kR 7 b_).bind fun cA=>(k_ 1 bC cA b9).bind fun bD=>some (.normal,[],bD)) (fun cM bA=>some ((.pan cM),[],bA))) (fun cL aZ=>some ((.pan cL),[],aZ))) (fun cK aX=>some ((.pan cK),[],aX))) (kU (K 102 [(kP.kV a0),(kP.kV (.str [61]))] aD) (fun cR bF=>kU (K 181 [(kP.kV a0)] bF) (fun cB bH=>(lG a1).bind fun cC=>(kR 0 cC).bind fun cD=>(k_ 1 bH cD (.int .i64 3)).bind fun bI=>(lG a1).bind fun cE=>(kR 7 cE).bind fun cF=>(k_ 1 bI cF cB).bind fun bJ=>some (.normal,[],bJ)) (fun cO bG=>some ((.pan cO),[],bG))) (fun cN bE=>some ((.pan cN),[],bE)))).bind fun aG=>(fun aE=>Ex.mG aG.1 (some (.normal,[],aE)) (fun aJ=>some (aJ,[],aE)))  aG.2.2) (fun cJ aV=>some ((.pan cJ),[],aV)))).bind fun aH=>(fun aA=>Ex.mG aH.1 (some (.normal,[],aA)) (fun aK=>Ex.inBlock 0 aK (some (.normal,[],aA)) (fun aL=>some (aL,[],aA))))  aH.2.2) (fun cG aN=>some ((.pan cG),[],aN))) (fun v0 h1=>some ((.pan v0),[],h1))).bind fun aI=>(fun aF=>Ex.yM aI.1 (mJ (ab7 h0) (.tuple []) aF) (fun v=>vA (ab7 h0) v aF))  aI.2.2
theorem aj7 (K:lE) (a0 a1:kP) (h0:kT):qJ Tryz.prog mV mQ K 183 [a0,a1] h0=Iq (mD mV K) a0 a1 h0:=by kernel_rfl
def aAg (K:lE) (a0 a1:kP) (h0:kT):Option (n_×kT) :=
 (kU (K 51 [(kP.kV a0)] h0) (fun t0 h1=>k9 (lZ 4 h1 (.agg [(.int .i64 0),(.int .i64 0),(.int .i64 0),(.str [])])) fun t2 h3=>(k_ 4 h3 t2 t0).bind fun h4=>(kR 0 t2).bind fun t5=>(kW false 1 h4 t5).bind fun t6=>(kZ .neq t6 (.int .i64 4)).bind fun t7=>lC t7 (some (.ret,[(.int .i64 0),(.bool false)],h4)) ((kR 3 t2).bind fun t8=>(kW false 1 h4 t8).bind fun t9=>kU (K 221 [(kP.kV t9)] h4) (fun aD aE=>(lT 0 aD).bind fun aG=>(lT 1 aD).bind fun aH=>(kZ .eql aG a1).bind fun aI=>some (.ret,[aH,aI],aE)) (fun _ _=>none))) (fun _ _=>none)).bind fun aC=>(fun aA aB aF=>Ex.nP aC.1 (mJ (ab7 h0) (.tuple [aA,aB]) aF)) (am0 aC.2.1 0 .junk) (am0 aC.2.1 1 .junk) aC.2.2
theorem akB (K:lE) (a0 a1:kP) (h0:kT):qJ Tryz.prog mV mQ K 206 [a0,a1] h0=aAg (mD mV K) a0 a1 h0:=by kernel_rfl
def aAh (K:lE) (a0 a1:kP) (h0:kT):Option (n_×kT) :=
 (k9 (lZ 1 h0 a0) fun t2 h3=>k9 (lZ 4 h3 a1) fun t4 h5=>k9 (lZ 5 h5 (.agg [(.int .i64 0),(.int .i64 0),(.int .i64 0),(.str []),(.slice [] .nil)])) fun t6 h7=>(kW false 1 h7 t2).bind fun aJ=>kU (K 153 [(kP.kV aJ),(kP.kV (.str [40]))] h7) (fun aV aE=>(kW false 1 aE t2).bind fun aK=>kU (K 222 [(kP.kV aK),(kP.kV (.str [41])),(kP.kV (.func 223 [] [t2]))] aE) (fun aL aF=>(kW false 1 aF t2).bind fun aM=>kU (K 155 [(kP.kV aM),(kP.kV (.str [41]))] aF) (fun aW aB=>(kR 1 t4).bind fun aN=>(kW false 1 aB aN).bind fun aO=>(kR 3 t4).bind fun aP=>(kW false 1 aB aP).bind fun aQ=>(l_ [(.int .i64 0),(.int .i64 0),(.int .i64 0),(.str []),(.slice [] .nil)] [(0,1),(1,1),(2,1),(3,1),(4,1)] [(0,(.int .i64 4)),(1,aO),(3,aQ),(4,aL)]).bind fun aR=>(k_ 5 aB t6 aR).bind fun aI=>some (.ret,[t6],aI)) (fun aU aH=>some ((.pan aU),[t6],aH))) (fun aT aG=>some ((.pan aT),[t6],aG))) (fun v8 h9=>some ((.pan v8),[t6],h9))).bind fun aD=>(fun aA aC=>Ex.yM aD.1 ((kW true 5 aC aA).bind fun aS=>mJ (ab7 h0) aS aC) (fun v=>vA (ab7 h0) v aC)) (am0 aD.2.1 0 .junk) aD.2.2
theorem akC (K:lE) (a0 a1:kP) (h0:kT):qJ Tryz.prog mV mQ K 207 [a0,a1] h0=aAh (mD mV K) a0 a1 h0:=by kernel_rfl
def T8 (K:lE) (a0:kP) (h0:kT):Option (n_×kT) :=
 ((fun(t3:kP) (h2:kT)=>kU (K 153 [(kP.kV a0),(kP.kV (.str [91]))] h2) (fun t6 h7=>kU (K 182 [(kP.kV a0)] h7) (fun aK aF=>k9 (lZ 5 aF (.agg [(.int .i64 0),(.int .i64 0),(.int .i64 0),(.str []),(.slice [] .nil)])) fun aE aG=>(k_ 5 aG aE aK).bind fun aH=>kU (K 155 [(kP.kV a0),(kP.kV (.str [93]))] aH) (fun aO aC=>(kW true 5 aC aE).bind fun aL=>k9 (lB 1 5 [(.int .i64 0),(.int .i64 0),(.int .i64 0),(.str []),(.slice [] .nil)] [(0,aL)] aC) fun aM aJ=>some (.ret,[aM],aJ)) (fun aN aI=>some ((.pan aN),[t3],aI))) (fun v8 h9=>some ((.pan v8),[t3],h9))) (fun v4 h5=>some ((.pan v4),[t3],h5))) (.slice [] (.own (ab7 h0))) (h0++[.front 0 0])).bind fun aB=>(fun aA aD=>Ex.yM aB.1 (some (.ret aA,aD)) (fun v=>vA (ab7 h0) v aD)) (am0 aB.2.1 0 .junk) aB.2.2
theorem akD (K:lE) (a0:kP) (h0:kT):qJ Tryz.prog mV mQ K 208 [a0] h0=T8 (mD mV K) a0 h0:=by kernel_rfl
def aAi (K:lE) (a0:kP) (h0:kT):Option (n_×kT) :=
 (k9 (lZ 5 h0 (.agg [(.int .i64 0),(.int .i64 0),(.int .i64 0),(.str []),(.slice [] .nil)])) fun t2 h3=>kU (K 51 [(kP.kV a0)] h3) (fun t6 h7=>k9 (lZ 4 h7 (.agg [(.int .i64 0),(.int .i64 0),(.int .i64 0),(.str [])])) fun t8 h9=>(k_ 4 h9 t8 t6).bind fun aU=>(kR 1 t8).bind fun bV=>(kW false 1 aU bV).bind fun bW=>(l_ [(.int .i64 0),(.int .i64 0),(.int .i64 0),(.str []),(.slice [] .nil)] [(0,1),(1,1),(2,1),(3,1),(4,1)] [(1,bW)]).bind fun bX=>k9 (lZ 5 aU (.agg [(.int .i64 0),(.int .i64 0),(.int .i64 0),(.str []),(.slice [] .nil)])) fun aC bE=>(k_ 5 bE aC bX).bind fun bF=>(kU (K 150 [(kP.kV a0),(kP.kV (.str [126]))] bF) (fun bY aV=>(lC bY ((kR 0 aC).bind fun bZ=>(k_ 1 aV bZ (.int .i64 5)).bind fun bH=>some (.normal,[a0,t2,t8,aC],bH)) (kU (K 150 [(kP.kV a0),(kP.kV (.str [45]))] aV) (fun b7 aW=>(lC b7 ((kR 0 aC).bind fun b8=>(k_ 1 aW b8 (.int .i64 6)).bind fun bJ=>some (.normal,[a0,t2,t8,aC],bJ)) (kU (K 150 [(kP.kV a0),(kP.kV (.str [33]))] aW) (fun b9 aX=>lC b9 ((kR 0 aC).bind fun b_=>(k_ 1 aX b_ (.int .i64 7)).bind fun bL=>some (.normal,[a0,t2,t8,aC],bL)) (kU (K 227 [(kP.kV a0)] aX) (fun cA bN=>(k_ 5 bN t2 cA).bind fun bO=>some (.ret,[a0,t2,t8,aC],bO)) (fun cR bM=>some ((.pan cR),[a0,t2,t8,aC],bM)))) (fun cQ bK=>some ((.pan cQ),[a0,t2,t8,aC],bK)))).bind fun aM=>(fun aD aF aH aJ aY=>Ex.mG aM.1 (some (.normal,[aD,aF,aH,aJ],aY)) (fun bB=>some (bB,[aD,aF,aH,aJ],aY))) (am0 aM.2.1 0 .junk) (am0 aM.2.1 1 .junk) (am0 aM.2.1 2 .junk) (am0 aM.2.1 3 .junk) aM.2.2) (fun cP bI=>some ((.pan cP),[a0,t2,t8,aC],bI)))).bind fun aN=>(fun aE aG aI aK aZ=>Ex.mG aN.1 (some (.normal,[aE,aG,aI,aK],aZ)) (fun bC=>some (bC,[aE,aG,aI,aK],aZ))) (am0 aN.2.1 0 .junk) (am0 aN.2.1 1 .junk) (am0 aN.2.1 2 .junk) (am0 aN.2.1 3 .junk) aN.2.2) (fun cO bG=>some ((.pan cO),[a0,t2,t8,aC],bG))).bind fun aO=>(fun aB aA aQ aL aR=>Ex.inBlock 0 aO.1 ((kR 3 aQ).bind fun cB=>(kW false 1 aR cB).bind fun cC=>kU (K 153 [(kP.kV aB),(kP.kV cC)] aR) (fun cU bQ=>kU (K 220 [(kP.kV aB)] bQ) (fun cD bS=>k9 (lB 1 5 [(.int .i64 0),(.int .i64 0),(.int .i64 0),(.str []),(.slice [] .nil)] [(0,cD)] bS) fun cE bT=>(kR 4 aL).bind fun cF=>(k_ 1 bT cF cE).bind fun a_=>(lG aB).bind fun cG=>(kR 2 cG).bind fun cH=>(kW false 1 a_ cH).bind fun cI=>(kZ .sub cI (.int .i64 1)).bind fun cJ=>(lG aB).bind fun cK=>(kR 2 cK).bind fun cL=>(k_ 1 a_ cL cJ).bind fun bA=>(kW true 5 bA aL).bind fun cM=>(k_ 5 bA aA cM).bind fun bU=>some (.ret,[aA],bU)) (fun cT bR=>some ((.pan cT),[aA],bR))) (fun cS bP=>some ((.pan cS),[aA],bP))) (fun bD=>some (bD,[aA],aR))) (am0 aO.2.1 0 .junk) (am0 aO.2.1 1 .junk) (am0 aO.2.1 2 .junk) (am0 aO.2.1 3 .junk) aO.2.2) (fun v4 h5=>some ((.pan v4),[t2],h5))).bind fun aT=>(fun aP aS=>Ex.yM aT.1 ((kW true 5 aS aP).bind fun cN=>mJ (ab7 h0) cN aS) (fun v=>vA (ab7 h0) v aS)) (am0 aT.2.1 0 .junk) aT.2.2
theorem akF (K:lE) (a0:kP) (h0:kT):qJ Tryz.prog mV mQ K 220 [a0] h0=aAi (mD mV K) a0 h0:=by kernel_rfl
def Ft (K:lE) (a0:kP) (h0:kT):Option (n_×kT) :=
 ((kZ .eql a0 (.str [61,61])).bind fun t0=>lC t0 (some (.ret,[(.int .i64 0),(.int .i64 17)],h0)) ((kZ .eql a0 (.str [33,61])).bind fun t1=>lC t1 (some (.ret,[(.int .i64 0),(.int .i64 18)],h0)) ((kZ .eql a0 (.str [60])).bind fun t2=>lC t2 (some (.ret,[(.int .i64 0),(.int .i64 19)],h0)) ((kZ .eql a0 (.str [60,61])).bind fun t3=>lC t3 (some (.ret,[(.int .i64 0),(.int .i64 20)],h0)) ((kZ .eql a0 (.str [62])).bind fun t4=>lC t4 (some (.ret,[(.int .i64 0),(.int .i64 21)],h0)) ((kZ .eql a0 (.str [62,61])).bind fun t5=>lC t5 (some (.ret,[(.int .i64 0),(.int .i64 22)],h0)) ((kZ .eql a0 (.str [124])).bind fun t6=>lC t6 (some (.ret,[(.int .i64 1),(.int .i64 12)],h0)) ((kZ .eql a0 (.str [94])).bind fun t7=>lC t7 (some (.ret,[(.int .i64 2),(.int .i64 13)],h0)) ((kZ .eql a0 (.str [38])).bind fun t8=>lC t8 (some (.ret,[(.int .i64 3),(.int .i64 11)],h0)) ((kZ .eql a0 (.str [60,60])).bind fun t9=>lC t9 (some (.ret,[(.int .i64 4),(.int .i64 14)],h0)) ((kZ .eql a0 (.str [62,62])).bind fun aE=>lC aE (some (.ret,[(.int .i64 4),(.int .i64 15)],h0)) ((kZ .eql a0 (.str [43])).bind fun aF=>lC aF (some (.ret,[(.int .i64 5),(.int .i64 8)],h0)) ((kZ .eql a0 (.str [45])).bind fun aG=>lC aG (some (.ret,[(.int .i64 5),(.int .i64 9)],h0)) ((kZ .eql a0 (.str [42])).bind fun aH=>lC aH (some (.ret,[(.int .i64 6),(.int .i64 10)],h0)) (some (.ret,[(.int .i64 (-1)),(.int .i64 0)],h0)))))))))))))))).bind fun aC=>(fun aA aB aD=>Ex.nP aC.1 (mJ (ab7 h0) (.tuple [aA,aB]) aD)) (am0 aC.2.1 0 .junk) (am0 aC.2.1 1 .junk) aC.2.2
theorem akG (K:lE) (a0:kP) (h0:kT):qJ Tryz.prog mV mQ K 221 [a0] h0=Ft (mD mV K) a0 h0:=by kernel_rfl
def JZ (K:lE) (m:Nat) (s:List kP×kT):Option R :=
 (fun aA aB aC aD aH=>(Bn aB).bind fun aE=>kU (Cn mV K aE.1 (AP mV aE.1 (aE.2.1++[]++aE.2.2)) aH) (fun aN aJ=>k9 (lB 1 5 [(.int .i64 0),(.int .i64 0),(.int .i64 0),(.str []),(.slice [] .nil)] [(0,aN)] aJ) fun aO aK=>k9 (mN 5 64 aK aD aO) fun aF aL=>kU (K 107 [(kP.kV aA),(kP.kV (.str [44]))] aL) (fun aP aG=>(x8 .not aP).bind fun aQ=>lC aQ (lA m .ret [aA,aB,aF,aF] aG) (lA m .normal [aA,aB,aC,aF] aG)) (fun aS aM=>lA m (.pan aS) [aA,aB,aC,aF] aM)) (fun aR aI=>lA m (.pan aR) [aA,aB,aC,aD] aI)) (am0 s.1 0 .junk) (am0 s.1 1 .junk) (am0 s.1 2 .junk) (am0 s.1 3 .junk) s.2
def asL (K:lE) (a0 a1 a2:kP) (h0:kT):Option (n_×kT) :=
 ((fun(t3:kP) (h2:kT)=>(fun(t7:kP) (h6:kT)=>kU (K 150 [(kP.kV a0),(kP.kV a1)] h6) (fun aM aD=>lC aM (some (.ret,[t7],aD)) ((mQ (JZ K (ab7 aD)) ([a0,a2,t3,t7],aD)).bind fun aB=>(fun aH aI aA aJ aF=>Ex.mG aB.1 none (fun aK=>Ex.inBlock 0 aK (some (.normal,[aA],aF)) (fun aL=>some (aL,[aA],aF)))) (am0 aB.2.1 0 .junk) (am0 aB.2.1 1 .junk) (am0 aB.2.1 2 .junk) (am0 aB.2.1 3 .junk) aB.2.2)) (fun v8 h9=>some ((.pan v8),[t3],h9))) (.slice [] (.own (ab7 h2))) (h2++[.front 0 0])) (.slice [] (.own (ab7 h0))) (h0++[.front 0 0])).bind fun aE=>(fun aC aG=>Ex.yM aE.1 (mJ (ab7 h0) aC aG) (fun v=>vA (ab7 h0) v aG)) (am0 aE.2.1 0 .junk) aE.2.2
theorem akH (K:lE) (a0 a1 a2:kP) (h0:kT):qJ Tryz.prog mV mQ K 222 [a0,a1,a2] h0=asL (mD mV K) a0 a1 a2 h0:=by kernel_rfl
def aAj (K:lE) (a0:kP) (h0:kT):Option (n_×kT) :=
 (k9 (lZ 5 h0 (.agg [(.int .i64 0),(.int .i64 0),(.int .i64 0),(.str []),(.slice [] .nil)])) fun t2 h3=>(kW false 1 h3 a0).bind fun t6=>kU (K 182 [(kP.kV t6)] h3) (fun t7 h8=>(k_ 5 h8 t2 t7).bind fun h9=>some (.ret,[t2],h9)) (fun v4 h5=>some ((.pan v4),[t2],h5))).bind fun aC=>(fun aA aB=>Ex.yM aC.1 ((kW true 5 aB aA).bind fun aD=>mJ (ab7 h0) aD aB) (fun v=>vA (ab7 h0) v aB)) (am0 aC.2.1 0 .junk) aC.2.2
theorem akI (K:lE) (a0:kP) (h0:kT):qJ Tryz.prog mV mQ K 223 [a0] h0=aAj (mD mV K) a0 h0:=by kernel_rfl
def aAk (K:lE) (a0:kP) (h0:kT):Option (n_×kT) :=
 (k9 (lZ 5 h0 (.agg [(.int .i64 0),(.int .i64 0),(.int .i64 0),(.str []),(.slice [] .nil)])) fun t2 h3=>kU (K 51 [(kP.kV a0)] h3) (fun t6 h7=>k9 (lZ 4 h7 (.agg [(.int .i64 0),(.int .i64 0),(.int .i64 0),(.str [])])) fun t8 h9=>(k_ 4 h9 t8 t6).bind fun aH=>(kR 0 t8).bind fun cV=>(kW false 1 aH cV).bind fun cW=>(kZ .eql cW (.int .i64 2)).bind fun cX=>lC cX ((lG a0).bind fun cY=>(kR 1 cY).bind fun cZ=>(kW false 1 aH cZ).bind fun c6=>(kZ .add c6 (.int .i64 1)).bind fun c9=>(lG a0).bind fun c_=>(kR 1 c_).bind fun dA=>(k_ 1 aH dA c9).bind fun aU=>(kR 1 t8).bind fun dB=>(kW false 1 aU dB).bind fun dC=>(kR 2 t8).bind fun dD=>(kW false 1 aU dD).bind fun dE=>(l_ [(.int .i64 0),(.int .i64 0),(.int .i64 0),(.str []),(.slice [] .nil)] [(0,1),(1,1),(2,1),(3,1),(4,1)] [(0,(.int .i64 1)),(1,dC),(2,dE)]).bind fun dF=>(k_ 5 aU t2 dF).bind fun bV=>some (.ret,[t2],bV)) (kU (K 150 [(kP.kV a0),(kP.kV (.str [40]))] aH) (fun dG bN=>lC dG (kU (K 153 [(kP.kV a0),(kP.kV (.str [40]))] bN) (fun eM bY=>kU (K 182 [(kP.kV a0)] bY) (fun dH b7=>k9 (lZ 5 b7 (.agg [(.int .i64 0),(.int .i64 0),(.int .i64 0),(.str []),(.slice [] .nil)])) fun bU b8=>(k_ 5 b8 bU dH).bind fun b9=>kU (K 155 [(kP.kV a0),(kP.kV (.str [41]))] b9) (fun eO bO=>(kW true 5 bO bU).bind fun dI=>(k_ 5 bO t2 dI).bind fun cA=>some (.ret,[t2],cA)) (fun dY b_=>some ((.pan dY),[t2],b_))) (fun dX bZ=>some ((.pan dX),[t2],bZ))) (fun dW bX=>some ((.pan dW),[t2],bX))) (kU (K 150 [(kP.kV a0),(kP.kV (.str [109,117,108,104,105]))] bN) (fun dJ bP=>lC dJ (kU (K 228 [(kP.kV a0),(kP.kV (.int .i64 23)),(kP.kV (.int .i64 2)),(kP.kV (.bool false))] bP) (fun dK cD=>(k_ 5 cD t2 dK).bind fun cE=>some (.ret,[t2],cE)) (fun d_ cC=>some ((.pan d_),[t2],cC))) (kU (K 150 [(kP.kV a0),(kP.kV (.str [99,97,114,114,121]))] bP) (fun dL bQ=>lC dL (kU (K 228 [(kP.kV a0),(kP.kV (.int .i64 24)),(kP.kV (.int .i64 2)),(kP.kV (.bool false))] bQ) (fun dM cH=>(k_ 5 cH t2 dM).bind fun cI=>some (.ret,[t2],cI)) (fun eB cG=>some ((.pan eB),[t2],cG))) (kU (K 150 [(kP.kV a0),(kP.kV (.str [115,101,108,101,99,116]))] bQ) (fun dN bR=>lC dN (kU (K 228 [(kP.kV a0),(kP.kV (.int .i64 25)),(kP.kV (.int .i64 3)),(kP.kV (.bool false))] bR) (fun dO cL=>(k_ 5 cL t2 dO).bind fun cM=>some (.ret,[t2],cM)) (fun eD cK=>some ((.pan eD),[t2],cK))) (kU (K 150 [(kP.kV a0),(kP.kV (.str [119,111,114,100]))] bR) (fun dP bS=>lC dP (kU (K 228 [(kP.kV a0),(kP.kV (.int .i64 26)),(kP.kV (.int .i64 1)),(kP.kV (.bool false))] bS) (fun dQ cP=>(k_ 5 cP t2 dQ).bind fun cQ=>some (.ret,[t2],cQ)) (fun eH cO=>some ((.pan eH),[t2],cO))) (kU (K 150 [(kP.kV a0),(kP.kV (.str [114,111,114]))] bS) (fun dR bT=>lC dR (kU (K 228 [(kP.kV a0),(kP.kV (.int .i64 16)),(kP.kV (.int .i64 1)),(kP.kV (.bool true))] bT) (fun dU cT=>(k_ 5 cT t2 dU).bind fun aI=>some (.ret,[t2],aI)) (fun eJ cS=>some ((.pan eJ),[t2],cS))) (kU (K 103 [(kP.kV a0),(kP.kV (.int .i64 1))] bT) (fun cU aK=>kU (K 150 [(kP.kV a0),(kP.kV (.str [40]))] aK) (fun aV aD=>lC aV ((kW true 4 aD t8).bind fun aW=>kU (K 207 [(kP.kV a0),(kP.kV aW)] aD) (fun aX aN=>(k_ 5 aN t2 aX).bind fun aO=>some (.ret,[t2],aO)) (fun bK aM=>some ((.pan bK),[t2],aM))) (kU (K 150 [(kP.kV a0),(kP.kV (.str [91]))] aD) (fun aY aA=>lC aY ((kR 1 t8).bind fun aB=>(kW false 1 aA aB).bind fun aZ=>(kR 3 t8).bind fun aC=>(kW false 1 aA aC).bind fun a_=>kU (K 208 [(kP.kV a0)] (nY (lI [0,1] [aB,aC]) aA)) (fun bA aR=>(l_ [(.int .i64 0),(.int .i64 0),(.int .i64 0),(.str []),(.slice [] .nil)] [(0,1),(1,1),(2,1),(3,1),(4,1)] [(0,(.int .i64 3)),(1,aZ),(3,a_),(4,bA)]).bind fun bB=>(k_ 5 (lX (lI [0,1] [aB,aC]) aA aR) t2 bB).bind fun aS=>some (.ret,[t2],aS)) (fun v h'=>(fun bM aQ=>some ((.pan bM),[t2],aQ)) v (lX (lI [0,1] [aB,aC]) aA h'))) ((kR 1 t8).bind fun bC=>(kW false 1 aA bC).bind fun bD=>(kR 3 t8).bind fun bE=>(kW false 1 aA bE).bind fun bF=>(l_ [(.int .i64 0),(.int .i64 0),(.int .i64 0),(.str []),(.slice [] .nil)] [(0,1),(1,1),(2,1),(3,1),(4,1)] [(0,(.int .i64 2)),(1,bD),(3,bF)]).bind fun bG=>(k_ 5 aA t2 bG).bind fun aT=>some (.ret,[t2],aT))) (fun bL aP=>some ((.pan bL),[t2],aP)))) (fun bJ aL=>some ((.pan bJ),[t2],aL))) (fun bI aJ=>some ((.pan bI),[t2],aJ)))) (fun eI cR=>some ((.pan eI),[t2],cR)))) (fun eE cN=>some ((.pan eE),[t2],cN)))) (fun eC cJ=>some ((.pan eC),[t2],cJ)))) (fun eA cF=>some ((.pan eA),[t2],cF)))) (fun dZ cB=>some ((.pan dZ),[t2],cB)))) (fun dV bW=>some ((.pan dV),[t2],bW)))) (fun v4 h5=>some ((.pan v4),[t2],h5))).bind fun aF=>(fun aG aE=>Ex.yM aF.1 ((kW true 5 aE aG).bind fun bH=>mJ (ab7 h0) bH aE) (fun v=>vA (ab7 h0) v aE)) (am0 aF.2.1 0 .junk) aF.2.2
theorem akJ (K:lE) (a0:kP) (h0:kT):qJ Tryz.prog mV mQ K 227 [a0] h0=aAk (mD mV K) a0 h0:=by kernel_rfl
def Cy (K:lE) (m:Nat) (s:List kP×kT):Option R :=
 (fun aF aH aJ aL aB aA aP=>(kZ .lss aA aB).bind fun aZ=>lC aZ ((kZ .gtr aA (.int .i64 0)).bind fun a_=>(lC a_ (kU (K 102 [(kP.kV aF),(kP.kV (.str [44]))] aP) (fun bJ aU=>some (.normal,[aF,aH,aJ,aL,aB,aA],aU)) (fun bH aT=>some ((.pan bH),[aF,aH,aJ,aL,aB,aA],aT))) (some (.normal,[aF,aH,aJ,aL,aB,aA],aP))).bind fun aM=>(fun aG aI aK aC aD aE aN=>Ex.mG aM.1 ((kR 4 aC).bind fun aO=>(kW false 1 aN aO).bind fun bA=>kU (K 182 [(kP.kV aG)] (nY (lI [0] [aO]) aN)) (fun bB aQ=>k9 (lB 1 5 [(.int .i64 0),(.int .i64 0),(.int .i64 0),(.str []),(.slice [] .nil)] [(0,bB)] (nY (lI [0] [aO]) (lX (lI [0] [aO]) aN aQ))) fun bC aW=>k9 (mN 5 64 (lX (lI [0] [aO]) (lX (lI [0] [aO]) aN aQ) aW) bA bC) fun bD aX=>(kR 4 aC).bind fun bE=>(k_ 1 aX bE bD).bind fun aY=>(kZ .add aE (.int .i64 1)).bind fun bF=>lA m .normal [aG,aI,aK,aC,aD,bF] aY) (fun v h'=>(fun bI aV=>lA m (.pan bI) [aG,aI,aK,aC,aD,aE] aV) v (lX (lI [0] [aO]) aN h'))) (fun aR=>Ex.inBlock 1 aR ((kZ .add aE (.int .i64 1)).bind fun bG=>lA m .normal [aG,aI,aK,aC,aD,bG] aN) (fun aS=>lA m aS [aG,aI,aK,aC,aD,aE] aN))) (am0 aM.2.1 0 .junk) (am0 aM.2.1 1 .junk) (am0 aM.2.1 2 .junk) (am0 aM.2.1 3 .junk) (am0 aM.2.1 4 .junk) (am0 aM.2.1 5 .junk) aM.2.2) (lA m (.exit 0) [aF,aH,aJ,aL,aB,aA] aP)) (am0 s.1 0 .junk) (am0 s.1 1 .junk) (am0 s.1 2 .junk) (am0 s.1 3 .junk) (am0 s.1 4 .junk) (am0 s.1 5 .junk) s.2
def aAl (K:lE) (a0 a1 a2 a3:kP) (h0:kT):Option (n_×kT) :=
 (k9 (lZ 5 h0 (.agg [(.int .i64 0),(.int .i64 0),(.int .i64 0),(.str []),(.slice [] .nil)])) fun t2 h3=>kU (K 51 [(kP.kV a0)] h3) (fun t6 h7=>(uH false 1 1 t6).bind fun t8=>(l_ [(.int .i64 0),(.int .i64 0),(.int .i64 0),(.str []),(.slice [] .nil)] [(0,1),(1,1),(2,1),(3,1),(4,1)] [(0,a1),(1,t8)]).bind fun t9=>k9 (lZ 5 h7 (.agg [(.int .i64 0),(.int .i64 0),(.int .i64 0),(.str []),(.slice [] .nil)])) fun aZ bB=>(k_ 5 bB aZ t9).bind fun aX=>(lG a0).bind fun bK=>(kR 1 bK).bind fun bL=>(kW false 1 aX bL).bind fun bM=>(kZ .add bM (.int .i64 1)).bind fun bN=>(lG a0).bind fun bO=>(kR 1 bO).bind fun bP=>(k_ 1 aX bP bN).bind fun bC=>kU (K 153 [(kP.kV a0),(kP.kV (.str [40]))] bC) (fun bW aY=>(mQ (Cy K (ab7 aY)) ([a0,a3,t2,aZ,a2,(.int .i64 0)],aY)).bind fun aE=>(fun aA aN aC aD aV aW aR=>Ex.mG aE.1 none (fun a_=>Ex.inBlock 0 a_ ((lC aN (kU (K 102 [(kP.kV aA),(kP.kV (.str [44]))] aR) (fun bX bF=>kU (K 103 [(kP.kV aA),(kP.kV (.int .i64 2))] bF) (fun bQ bH=>(uH false 1 2 bQ).bind fun bR=>(kR 2 aD).bind fun bS=>(k_ 1 bH bS bR).bind fun bI=>some (.normal,[aA,aC,aD],bI)) (fun bV bG=>some ((.pan bV),[aA,aC,aD],bG))) (fun bU bE=>some ((.pan bU),[aA,aC,aD],bE))) (some (.normal,[aA,aC,aD],aR))).bind fun aL=>(fun aM aB aI aJ=>Ex.mG aL.1 (kU (K 155 [(kP.kV aM),(kP.kV (.str [41]))] aJ) (fun bJ aK=>(kW true 5 aK aI).bind fun aS=>(k_ 5 aK aB aS).bind fun aQ=>some (.ret,[aB],aQ)) (fun aU aP=>some ((.pan aU),[aB],aP))) (fun aO=>some (aO,[aB],aJ))) (am0 aL.2.1 0 .junk) (am0 aL.2.1 1 .junk) (am0 aL.2.1 2 .junk) aL.2.2) (fun bA=>some (bA,[aC],aR)))) (am0 aE.2.1 0 .junk) (am0 aE.2.1 1 .junk) (am0 aE.2.1 2 .junk) (am0 aE.2.1 3 .junk) (am0 aE.2.1 4 .junk) (am0 aE.2.1 5 .junk) aE.2.2) (fun bT bD=>some ((.pan bT),[t2],bD))) (fun v4 h5=>some ((.pan v4),[t2],h5))).bind fun aG=>(fun aH aF=>Ex.yM aG.1 ((kW true 5 aF aH).bind fun aT=>mJ (ab7 h0) aT aF) (fun v=>vA (ab7 h0) v aF)) (am0 aG.2.1 0 .junk) aG.2.2
theorem akK (K:lE) (a0 a1 a2 a3:kP) (h0:kT):qJ Tryz.prog mV mQ K 228 [a0,a1,a2,a3] h0=aAl (mD mV K) a0 a1 a2 a3 h0:=by kernel_rfl
def m52 (K:lE) (a0:kP) (h0:kT):Option (n_×kT) :=
 (k9 (lZ 1 h0 a0) fun t2 h3=>k9 (lZ 8 h3 (.agg [(.int .i64 0),(.str []),(.slice [] .nil),(.bool false),(.int .i64 0),(.int .i64 0),(.int .i64 0),(.slice [] .nil)])) fun t4 h5=>(kW false 1 h5 t2).bind fun t8=>kU (K 102 [(kP.kV t8),(kP.kV (.str [102,110]))] h5) (fun t9 aO=>(kW false 1 aO t2).bind fun bK=>kU (K 103 [(kP.kV bK),(kP.kV (.int .i64 1))] aO) (fun bL aX=>k9 (lZ 4 aX (.agg [(.int .i64 0),(.int .i64 0),(.int .i64 0),(.str [])])) fun aM aY=>(k_ 4 aY aM bL).bind fun aH=>(kR 1 aM).bind fun bM=>(kW false 1 aH bM).bind fun bN=>(kR 3 aM).bind fun bO=>(kW false 1 aH bO).bind fun bP=>(l_ [(.int .i64 0),(.str []),(.slice [] .nil),(.bool false),(.int .i64 0),(.int .i64 0),(.int .i64 0),(.slice [] .nil)] [(0,1),(1,1),(2,1),(3,1),(4,3),(7,1)] [(0,bN),(1,bP)]).bind fun bQ=>k9 (lZ 8 aH (.agg [(.int .i64 0),(.str []),(.slice [] .nil),(.bool false),(.int .i64 0),(.int .i64 0),(.int .i64 0),(.slice [] .nil)])) fun aB aZ=>(k_ 8 aZ aB bQ).bind fun aP=>(kW false 1 aP t2).bind fun bR=>kU (K 102 [(kP.kV bR),(kP.kV (.str [40]))] aP) (fun cL aQ=>(kW false 1 aQ t2).bind fun bS=>kU (K 104 [(kP.kV bS),(kP.kV (.str [41])),(kP.kV (.func 105 [] [t2]))] aQ) (fun bT bB=>(kR 2 aB).bind fun bU=>(k_ 1 bB bU bT).bind fun aR=>(kW false 1 aR t2).bind fun bV=>kU (K 102 [(kP.kV bV),(kP.kV (.str [41]))] aR) (fun cM aS=>(kW false 1 aS t2).bind fun bW=>kU (K 107 [(kP.kV bW),(kP.kV (.str [58]))] aS) (fun bX aT=>(lC bX ((kR 3 aB).bind fun bY=>(k_ 1 aT bY (.bool true)).bind fun aD=>(kW false 1 aD t2).bind fun bZ=>(kW false 1 aD t2).bind fun b7=>kU (K 109 [(kP.kV b7)] (nY (lI [0] [t2]) aD)) (fun b8 bE=>kU (K 108 [(kP.kV bZ),(kP.kV b8)] (lX (lI [0] [t2]) aD bE)) (fun b9 bF=>(kR 4 aB).bind fun b_=>(k_ 3 bF b_ b9).bind fun bG=>some (.normal,[t2,t4,aB],bG)) (fun aN aI=>some ((.pan aN),[t2,t4,aB],aI))) (fun v h'=>(fun aN aI=>some ((.pan aN),[t2,t4,aB],aI)) v (lX (lI [0] [t2]) aD h'))) (some (.normal,[t2,t4,aB],aT))).bind fun aE=>(fun aF aA aC aJ=>Ex.mG aE.1 ((kW false 1 aJ aF).bind fun cA=>kU (K 110 [(kP.kV cA)] aJ) (fun cB bI=>(kR 7 aC).bind fun cC=>(k_ 1 bI cC cB).bind fun aU=>(kW true 8 aU aC).bind fun cD=>(k_ 8 aU aA cD).bind fun bJ=>some (.ret,[aA],bJ)) (fun cK bH=>some ((.pan cK),[aA],bH))) (fun aV=>some (aV,[aA],aJ))) (am0 aE.2.1 0 .junk) (am0 aE.2.1 1 .junk) (am0 aE.2.1 2 .junk) aE.2.2) (fun cJ bD=>some ((.pan cJ),[t4],bD))) (fun cI bC=>some ((.pan cI),[t4],bC))) (fun cH bA=>some ((.pan cH),[t4],bA))) (fun cG a_=>some ((.pan cG),[t4],a_))) (fun cF aW=>some ((.pan cF),[t4],aW))) (fun v6 h7=>some ((.pan v6),[t4],h7))).bind fun aL=>(fun aG aK=>Ex.yM aL.1 ((kW true 8 aK aG).bind fun cE=>mJ (ab7 h0) cE aK) (fun v=>vA (ab7 h0) v aK)) (am0 aL.2.1 0 .junk) aL.2.2
theorem as3 (K:lE) (a0:kP) (h0:kT):qJ Tryz.prog mV mQ K 52 [a0] h0=m52 (mD mV K) a0 h0:=by kernel_rfl
end
noncomputable section
open Go Hk
def CS (K:lE) (m:Nat) (s:List kP×kT):Option R :=
 (fun aD aE aA aB aF=>(lG aA).bind fun aZ=>(kR 3 aZ).bind fun a_=>(kR 0 a_).bind fun bA=>(kW false 1 aF bA).bind fun bB=>(kZ .eql bB (.int .i64 0)).bind fun aC=>(kQ true aC (kY aA aF) (kY (.tuple []) aF)).bind (kX (fun bC aK=>(kQ true aC ((lG bC).bind fun bD=>kY bD aK) (kY (.tuple []) aK)).bind (kX (fun bE aL=>(kQ true aC ((kR 0 bE).bind fun bF=>kY bF aL) (kY (.tuple []) aL)).bind (kX (fun bG aG=>(kQ true aC ((kW false 1 aG bG).bind fun bH=>kY bH aG) (kY (.tuple []) aG)).bind (kX (fun bI aM=>(kQ true aC (kY aA aM) (kY (.tuple []) aM)).bind (kX (fun bJ aN=>(kQ true aC ((lG bJ).bind fun bK=>kY bK aN) (kY (.tuple []) aN)).bind (kX (fun bL aO=>(kQ true aC ((kR 1 bL).bind fun bM=>kY bM aO) (kY (.tuple []) aO)).bind (kX (fun bN aH=>(kQ true aC ((kW false 1 aH bN).bind fun bO=>kY bO aH) (kY (.tuple []) aH)).bind (kX (fun bP aP=>(kQ true aC ((lH 4 bI bP).bind fun bQ=>kY bQ aP) (kY (.tuple []) aP)).bind (kX (fun bR aQ=>(kQ true aC ((kR 0 bR).bind fun bS=>kY bS aQ) (kY (.tuple []) aQ)).bind (kX (fun bT aI=>(kQ true aC ((kW false 1 aI bT).bind fun bU=>kY bU aI) (kY (.tuple []) aI)).bind (kX (fun bV aR=>(kQ true aC ((kZ .neq bV (.int .i64 0)).bind fun bW=>kY bW aR) (kY (.tuple []) aR)).bind (kX (fun bX aS=>(lV aC bX (.bool false)).bind fun bY=>lC bY (kU (K 29 [(kP.kV aA)] aS) (fun bZ aU=>k9 (lZ 8 aU (.agg [(.int .i64 0),(.str []),(.slice [] .nil),(.bool false),(.int .i64 0),(.int .i64 0),(.int .i64 0),(.slice [] .nil)])) fun aT aV=>(k_ 8 aV aT bZ).bind fun aJ=>(kR 0 aB).bind fun b7=>(kW false 1 aJ b7).bind fun b8=>(kW true 8 aJ aT).bind fun b9=>k9 (lB 1 8 [(.int .i64 0),(.str []),(.slice [] .nil),(.bool false),(.int .i64 0),(.int .i64 0),(.int .i64 0),(.slice [] .nil)] [(0,b9)] aJ) fun b_ aW=>k9 (mN 8 104 aW b8 b_) fun cA aX=>(kR 0 aB).bind fun cB=>(k_ 1 aX cB cA).bind fun aY=>lA m .normal [aD,aE,aA,aB] aY) (fun _ _=>none)) (lA m (.exit 0) [aD,aE,aA,aB] aS)) (fun _ _=>none))) (fun _ _=>none))) (fun _ _=>none))) (fun _ _=>none))) (fun _ _=>none))) (fun _ _=>none))) (fun _ _=>none))) (fun _ _=>none))) (fun _ _=>none))) (fun _ _=>none))) (fun _ _=>none))) (fun _ _=>none))) (am0 s.1 0 .junk) (am0 s.1 1 .junk) (am0 s.1 2 .junk) (am0 s.1 3 .junk) s.2
def m12 (K:lE) (a0:kP) (h0:kT):Option (n_×kT) :=
 (k9 (lZ 1 h0 (.agg [(.slice [] .nil)])) fun t0 h1=>k9 (lZ 2 h1 (.agg [(.int .i64 0),(.int .i64 0)])) fun t2 h3=>kU (K 28 [(kP.kV a0)] h3) (fun t4 h5=>(lT 0 t4).bind fun t6=>(lT 1 t4).bind fun t7=>k9 (lZ 2 h5 (.agg [(.int .i64 0),(.int .i64 0)])) fun t8 h9=>(k_ 2 h9 t8 t7).bind fun aJ=>(kR 0 t8).bind fun a_=>(kW false 1 aJ a_).bind fun bA=>(kZ .neq bA (.int .i64 0)).bind fun bB=>lC bB ((l_ [(.slice [] .nil)] [(0,1)] []).bind fun bC=>(kW true 2 aJ t8).bind fun bD=>(k_ 1 (nY (lI [0] [t8]) aJ) t0 bC).bind fun aW=>(k_ 2 (lX (lI [0] [t8]) aJ aW) t2 bD).bind fun aX=>some (.ret,[t0,t2],aX)) ((l_ [(.slice [] .nil),(.int .i64 0),(.int .i64 0),(.int .i64 0),(.int .i64 0)] [(0,1),(1,1),(2,1),(3,2)] [(0,t6)]).bind fun bE=>k9 (lZ 5 aJ bE) fun bF aY=>k9 (lZ 1 aY (.agg [(.slice [] .nil)])) fun bG aT=>(mQ (CS K (ab7 aT)) ([t0,t2,bF,bG],aT)).bind fun aI=>(fun aA aB aD aK aF=>Ex.mG aI.1 none (fun aU=>Ex.inBlock 0 aU ((lG aD).bind fun bH=>(kR 3 bH).bind fun bI=>(kR 0 bI).bind fun bJ=>(kW false 1 aF bJ).bind fun bK=>(kZ .neq bK (.int .i64 0)).bind fun bL=>lC bL ((l_ [(.slice [] .nil)] [(0,1)] []).bind fun bM=>(lG aD).bind fun bN=>(kR 3 bN).bind fun aS=>(kW true 2 aF aS).bind fun bO=>(k_ 1 (nY (lI [0] [aS]) aF) aA bM).bind fun aZ=>(k_ 2 (lX (lI [0] [aS]) aF aZ) aB bO).bind fun aL=>some (.ret,[aA,aB],aL)) ((kW true 1 aF aK).bind fun aO=>(l_ [(.int .i64 0),(.int .i64 0)] [(0,1),(1,1)] []).bind fun aP=>(k_ 1 aF aA aO).bind fun aM=>(k_ 2 aM aB aP).bind fun aN=>some (.ret,[aA,aB],aN))) (fun aV=>some (aV,[aA,aB],aF)))) (am0 aI.2.1 0 .junk) (am0 aI.2.1 1 .junk) (am0 aI.2.1 2 .junk) (am0 aI.2.1 3 .junk) aI.2.2)) (fun _ _=>none)).bind fun aC=>(fun aG aH aE=>Ex.nP aC.1 ((kW true 1 aE aG).bind fun aQ=>(kW true 2 aE aH).bind fun aR=>mJ (ab7 h0) (.tuple [aQ,aR]) aE)) (am0 aC.2.1 0 .junk) (am0 aC.2.1 1 .junk) aC.2.2
theorem abN (K:lE) (a0:kP) (h0:kT):qJ Tryz.prog mV mQ K 12 [a0] h0=m12 (mD mV K) a0 h0:=by kernel_rfl
def F6 (K:lE) (m:Nat) (s:List kP×kT):Option R :=
 (fun aB aC aE aD aA aF=>(kR 0 aB).bind fun aH=>(kW false 1 aF aH).bind fun aI=>(nH aI).bind fun aJ=>(kZ .lss aA aJ).bind fun aK=>lC aK ((kR 0 aB).bind fun aL=>(kW false 1 aF aL).bind fun aM=>(lH 8 aM aA).bind fun aN=>(kW true 8 aF aN).bind fun aO=>(kR 0 aC).bind fun aP=>(kW false 1 aF aP).bind fun aQ=>(lH 8 aQ aA).bind fun aR=>(kW true 8 aF aR).bind fun aS=>kU (K 53 [(kP.kV aO),(kP.kV aS),(kP.kV aD)] aF) (fun aT aG=>(x8 .not aT).bind fun aU=>lC aU (lA m .ret [aB,aC,(.bool false),aD,aA] aG) ((kZ .add aA (.int .i64 1)).bind fun aV=>lA m .normal [aB,aC,aE,aD,aV] aG)) (fun _ _=>none)) (lA m (.exit 0) [aB,aC,aE,aD,aA] aF)) (am0 s.1 0 .junk) (am0 s.1 1 .junk) (am0 s.1 2 .junk) (am0 s.1 3 .junk) (am0 s.1 4 .junk) s.2
def m26 (K:lE) (a0 a1 a2:kP) (h0:kT):Option (n_×kT) :=
 (k9 (lZ 1 h0 a0) fun t0 h1=>k9 (lZ 1 h1 a1) fun t2 h3=>(kR 0 t0).bind fun t4=>(kW false 1 h3 t4).bind fun t5=>(nH t5).bind fun t6=>(kR 0 t2).bind fun t7=>(kW false 1 h3 t7).bind fun t8=>(nH t8).bind fun t9=>(kZ .neq t6 t9).bind fun aS=>lC aS (some (.ret,[(.bool false)],h3)) ((lC a2 (some (.normal,[t0,t2,(.bool false),(.int .i64 0)],h3)) (some (.normal,[t0,t2,(.bool false),(.int .i64 (-1))],h3))).bind fun aB=>(fun aC aD aE aH aJ=>Ex.uJ aB.1 ((mQ (F6 K (ab7 aJ)) ([aC,aD,aE,aH,(.int .i64 0)],aJ)).bind fun aA=>(fun aL aM aF aN aO aK=>Ex.mG aA.1 none (fun aP=>Ex.inBlock 0 aP (some (.ret,[(.bool true)],aK)) (fun aQ=>some (aQ,[aF],aK)))) (am0 aA.2.1 0 .junk) (am0 aA.2.1 1 .junk) (am0 aA.2.1 2 .junk) (am0 aA.2.1 3 .junk) (am0 aA.2.1 4 .junk) aA.2.2)) (am0 aB.2.1 0 .junk) (am0 aB.2.1 1 .junk) (am0 aB.2.1 2 .junk) (am0 aB.2.1 3 .junk) aB.2.2)).bind fun aI=>(fun aG aR=>Ex.nP aI.1 (mJ (ab7 h0) aG aR)) (am0 aI.2.1 0 .junk) aI.2.2
theorem abY (K:lE) (a0 a1 a2:kP) (h0:kT):qJ Tryz.prog mV mQ K 26 [a0,a1,a2] h0=m26 (mD mV K) a0 a1 a2 h0:=by kernel_rfl
def LF (K:lE) (m:Nat) (s:List kP×kT):Option R :=
 (fun aD aE aF aL aA aB=>(kR 2 aE).bind fun bN=>(kW false 1 aB bN).bind fun bO=>(nH bO).bind fun bP=>(kZ .lss aA bP).bind fun bQ=>lC bQ ((kR 2 aE).bind fun bR=>(kW false 1 (aB++[.free,.free]) bR).bind fun bS=>(lH 6 bS aA).bind fun bT=>(kW true 6 (aB++[.free,.free]) bT).bind fun bU=>(kR 2 aF).bind fun aU=>(kW false 1 (aB++[.free,.free]) aU).bind fun bV=>(lH 6 bV aA).bind fun aV=>(kW true 6 (aB++[.free,.free]) aV).bind fun bW=>k9 (xM ((ab7 aB)+0) 6 (aB++[.free,.free]) (.agg [(.int .i64 0),(.str []),(.int .i64 0),(.int .i64 0),(.int .i64 0),(.bool false)])) fun aJ bL=>k9 (xM ((ab7 aB)+1) 6 bL (.agg [(.int .i64 0),(.str []),(.int .i64 0),(.int .i64 0),(.int .i64 0),(.bool false)])) fun aK aW=>(k_ 6 (nY (lI [0,1] [aU,aV]) aW) aJ bU).bind fun bM=>(k_ 6 (lX (lI [0,1] [aU,aV]) aW bM) aK bW).bind fun aX=>(kZ .geq aD (.int .i64 0)).bind fun aC=>(kQ true aC ((kR 0 aJ).bind fun bX=>kY bX aX) (kY (.tuple []) aX)).bind (kX (fun bY aM=>(kQ true aC ((kW false 1 aM bY).bind fun bZ=>kY bZ aM) (kY (.tuple []) aM)).bind (kX (fun b7 aY=>(kQ true aC ((kR 0 aK).bind fun b8=>kY b8 aY) (kY (.tuple []) aY)).bind (kX (fun b9 aN=>(kQ true aC ((kW false 1 aN b9).bind fun b_=>kY b_ aN) (kY (.tuple []) aN)).bind (kX (fun cA aZ=>(kQ true aC (kY aD aZ) (kY (.tuple []) aZ)).bind (kX (fun cB a_=>(kQ true aC ((kZ .add cA cB).bind fun cC=>kY cC a_) (kY (.tuple []) a_)).bind (kX (fun cD bA=>(kQ true aC ((kZ .neq b7 cD).bind fun cE=>kY cE bA) (kY (.tuple []) bA)).bind (kX (fun cF bB=>(lV aC cF (.bool false)).bind fun aG=>(kQ false aG ((kR 1 aJ).bind fun cG=>kY cG bB) (kY (.tuple []) bB)).bind (kX (fun cH aO=>(kQ false aG ((kW false 1 aO cH).bind fun cI=>kY cI aO) (kY (.tuple []) aO)).bind (kX (fun cJ bC=>(kQ false aG ((kR 1 aK).bind fun cK=>kY cK bC) (kY (.tuple []) bC)).bind (kX (fun cL aP=>(kQ false aG ((kW false 1 aP cL).bind fun cM=>kY cM aP) (kY (.tuple []) aP)).bind (kX (fun cN bD=>(kQ false aG ((kZ .neq cJ cN).bind fun cO=>kY cO bD) (kY (.tuple []) bD)).bind (kX (fun cP bE=>(lV aG (.bool true) cP).bind fun aH=>(kQ false aH ((kR 2 aJ).bind fun cQ=>kY cQ bE) (kY (.tuple []) bE)).bind (kX (fun cR aQ=>(kQ false aH ((kW true 3 aQ cR).bind fun cS=>kY cS aQ) (kY (.tuple []) aQ)).bind (kX (fun cT bF=>(kQ false aH ((kR 2 aK).bind fun cU=>kY cU bF) (kY (.tuple []) bF)).bind (kX (fun cV aR=>(kQ false aH ((kW true 3 aR cV).bind fun cW=>kY cW aR) (kY (.tuple []) aR)).bind (kX (fun cX bG=>(kQ false aH ((tX [.i,.i,.i] cT cX).bind fun cY=>kY (.bool (!cY)) bG) (kY (.tuple []) bG)).bind (kX (fun cZ bH=>(lV aH (.bool true) cZ).bind fun aI=>(kQ false aI ((kR 5 aJ).bind fun c6=>kY c6 bH) (kY (.tuple []) bH)).bind (kX (fun c9 aS=>(kQ false aI ((kW false 1 aS c9).bind fun c_=>kY c_ aS) (kY (.tuple []) aS)).bind (kX (fun dA bI=>(kQ false aI ((kR 5 aK).bind fun dB=>kY dB bI) (kY (.tuple []) bI)).bind (kX (fun dC aT=>(kQ false aI ((kW false 1 aT dC).bind fun dD=>kY dD aT) (kY (.tuple []) aT)).bind (kX (fun dE bJ=>(kQ false aI ((Fx .neq dA dE).bind fun dF=>kY dF bJ) (kY (.tuple []) bJ)).bind (kX (fun dG bK=>(lV aI (.bool true) dG).bind fun dH=>lC dH (lA m .ret [aD,aE,aF,(.bool false),aA] bK) ((kZ .add aA (.int .i64 1)).bind fun dI=>lA m .normal [aD,aE,aF,aL,dI] bK)) (fun _ _=>none))) (fun _ _=>none))) (fun _ _=>none))) (fun _ _=>none))) (fun _ _=>none))) (fun _ _=>none))) (fun _ _=>none))) (fun _ _=>none))) (fun _ _=>none))) (fun _ _=>none))) (fun _ _=>none))) (fun _ _=>none))) (fun _ _=>none))) (fun _ _=>none))) (fun _ _=>none))) (fun _ _=>none))) (fun _ _=>none))) (fun _ _=>none))) (fun _ _=>none))) (fun _ _=>none))) (fun _ _=>none))) (fun _ _=>none))) (lA m (.exit 0) [aD,aE,aF,aL,aA] aB)) (am0 s.1 0 .junk) (am0 s.1 1 .junk) (am0 s.1 2 .junk) (am0 s.1 3 .junk) (am0 s.1 4 .junk) s.2
def m53 (K:lE) (a0 a1 a2:kP) (h0:kT):Option (n_×kT) :=
 (k9 (lZ 8 h0 a0) fun t0 h1=>k9 (lZ 8 h1 a1) fun t2 h3=>(kZ .geq a2 (.int .i64 0)).bind fun t4=>(kQ true t4 ((kR 0 t0).bind fun t5=>kY t5 h3) (kY (.tuple []) h3)).bind (kX (fun t6 h7=>(kQ true t4 ((kW false 1 h7 t6).bind fun t8=>kY t8 h7) (kY (.tuple []) h7)).bind (kX (fun t9 bF=>(kQ true t4 ((kR 0 t2).bind fun bX=>kY bX bF) (kY (.tuple []) bF)).bind (kX (fun bY aO=>(kQ true t4 ((kW false 1 aO bY).bind fun bZ=>kY bZ aO) (kY (.tuple []) aO)).bind (kX (fun b7 bG=>(kQ true t4 (kY a2 bG) (kY (.tuple []) bG)).bind (kX (fun b8 bH=>(kQ true t4 ((kZ .add b7 b8).bind fun b9=>kY b9 bH) (kY (.tuple []) bH)).bind (kX (fun b_ bI=>(kQ true t4 ((kZ .neq t9 b_).bind fun cA=>kY cA bI) (kY (.tuple []) bI)).bind (kX (fun cB bJ=>(lV t4 cB (.bool false)).bind fun aJ=>(kQ false aJ ((kR 1 t0).bind fun cC=>kY cC bJ) (kY (.tuple []) bJ)).bind (kX (fun cD aR=>(kQ false aJ ((kW false 1 aR cD).bind fun cE=>kY cE aR) (kY (.tuple []) aR)).bind (kX (fun cF bK=>(kQ false aJ ((kR 1 t2).bind fun cG=>kY cG bK) (kY (.tuple []) bK)).bind (kX (fun cH aS=>(kQ false aJ ((kW false 1 aS cH).bind fun cI=>kY cI aS) (kY (.tuple []) aS)).bind (kX (fun cJ bL=>(kQ false aJ ((kZ .neq cF cJ).bind fun cK=>kY cK bL) (kY (.tuple []) bL)).bind (kX (fun cL bM=>(lV aJ (.bool true) cL).bind fun aK=>(kQ false aK ((kR 3 t0).bind fun cM=>kY cM bM) (kY (.tuple []) bM)).bind (kX (fun cN aT=>(kQ false aK ((kW false 1 aT cN).bind fun cO=>kY cO aT) (kY (.tuple []) aT)).bind (kX (fun cP bN=>(kQ false aK ((kR 3 t2).bind fun cQ=>kY cQ bN) (kY (.tuple []) bN)).bind (kX (fun cR aU=>(kQ false aK ((kW false 1 aU cR).bind fun cS=>kY cS aU) (kY (.tuple []) aU)).bind (kX (fun cT bO=>(kQ false aK ((Fx .neq cP cT).bind fun cU=>kY cU bO) (kY (.tuple []) bO)).bind (kX (fun cV bP=>(lV aK (.bool true) cV).bind fun aL=>(kQ false aL ((kR 4 t0).bind fun cW=>kY cW bP) (kY (.tuple []) bP)).bind (kX (fun cX aV=>(kQ false aL ((kW true 3 aV cX).bind fun cY=>kY cY aV) (kY (.tuple []) aV)).bind (kX (fun cZ bQ=>(kQ false aL ((kR 4 t2).bind fun c6=>kY c6 bQ) (kY (.tuple []) bQ)).bind (kX (fun c9 aW=>(kQ false aL ((kW true 3 aW c9).bind fun c_=>kY c_ aW) (kY (.tuple []) aW)).bind (kX (fun dA bR=>(kQ false aL ((tX [.i,.i,.i] cZ dA).bind fun dB=>kY (.bool (!dB)) bR) (kY (.tuple []) bR)).bind (kX (fun dC bS=>(lV aL (.bool true) dC).bind fun aC=>(kQ false aC ((kR 2 t0).bind fun dD=>kY dD bS) (kY (.tuple []) bS)).bind (kX (fun dE aX=>(kQ false aC ((kW false 1 aX dE).bind fun dF=>kY dF aX) (kY (.tuple []) aX)).bind (kX (fun dG bT=>(kQ false aC ((nH dG).bind fun dH=>kY dH bT) (kY (.tuple []) bT)).bind (kX (fun dI bU=>(kQ false aC ((kR 2 t2).bind fun dJ=>kY dJ bU) (kY (.tuple []) bU)).bind (kX (fun dK aY=>(kQ false aC ((kW false 1 aY dK).bind fun dL=>kY dL aY) (kY (.tuple []) aY)).bind (kX (fun dM bV=>(kQ false aC ((nH dM).bind fun dN=>kY dN bV) (kY (.tuple []) bV)).bind (kX (fun dO bW=>(kQ false aC ((kZ .neq dI dO).bind fun dP=>kY dP bW) (kY (.tuple []) bW)).bind (kX (fun dQ aZ=>(lV aC (.bool true) dQ).bind fun dR=>lC dR (some (.ret,[(.bool false)],aZ)) ((mQ (LF K (ab7 aZ)) ([a2,t0,t2,(.bool false),(.int .i64 0)],aZ)).bind fun aA=>(fun aE aF aG aH bE aB=>Ex.mG aA.1 none (fun aM=>Ex.inBlock 0 aM ((kR 7 aF).bind fun a_=>(kW false 1 aB a_).bind fun bA=>(kR 7 aG).bind fun bB=>(kW false 1 aB bB).bind fun bC=>kU (K 111 [(kP.kV bA),(kP.kV bC),(kP.kV aE)] aB) (fun bD aP=>some (.ret,[bD],aP)) (fun _ _=>none)) (fun aN=>some (aN,[aH],aB)))) (am0 aA.2.1 0 .junk) (am0 aA.2.1 1 .junk) (am0 aA.2.1 2 .junk) (am0 aA.2.1 3 .junk) (am0 aA.2.1 4 .junk) aA.2.2)) (fun _ _=>none))) (fun _ _=>none))) (fun _ _=>none))) (fun _ _=>none))) (fun _ _=>none))) (fun _ _=>none))) (fun _ _=>none))) (fun _ _=>none))) (fun _ _=>none))) (fun _ _=>none))) (fun _ _=>none))) (fun _ _=>none))) (fun _ _=>none))) (fun _ _=>none))) (fun _ _=>none))) (fun _ _=>none))) (fun _ _=>none))) (fun _ _=>none))) (fun _ _=>none))) (fun _ _=>none))) (fun _ _=>none))) (fun _ _=>none))) (fun _ _=>none))) (fun _ _=>none))) (fun _ _=>none))) (fun _ _=>none))) (fun _ _=>none))) (fun _ _=>none))) (fun _ _=>none))).bind fun aD=>(fun aI aQ=>Ex.nP aD.1 (mJ (ab7 h0) aI aQ)) (am0 aD.2.1 0 .junk) aD.2.2
theorem as4 (K:lE) (a0 a1 a2:kP) (h0:kT):qJ Tryz.prog mV mQ K 53 [a0,a1,a2] h0=m53 (mD mV K) a0 a1 a2 h0:=by kernel_rfl
def G8 (K:lE) (m:Nat) (s:List kP×kT):Option R :=
 (fun aD aE aH cM aA h8=>(nH aD).bind fun t9=>(kZ .lss aA t9).bind fun iV=>lC iV ((lH 11 aD aA).bind fun iW=>(kR 0 iW).bind fun iX=>(kW false 1 h8 iX).bind fun iY=>(lH 11 aE aA).bind fun iZ=>(kR 0 iZ).bind fun i_=>(kW false 1 h8 i_).bind fun jA=>(kZ .neq iY jA).bind fun cL=>(kQ false cL (kY aH h8) (kY (.tuple []) h8)).bind (kX (fun jB g_=>(kQ false cL ((kZ .geq jB (.int .i64 0)).bind fun jC=>kY jC g_) (kY (.tuple []) g_)).bind (kX (fun jD hD=>(kQ false cL (kY jD hD) (kY (.tuple []) hD)).bind (kX (fun aI hI=>(kQ true aI (kY aD hI) (kY (.tuple []) hI)).bind (kX (fun jE hO=>(kQ true aI (kY aA hO) (kY (.tuple []) hO)).bind (kX (fun jF hQ=>(kQ true aI ((lH 11 jE jF).bind fun jG=>kY jG hQ) (kY (.tuple []) hQ)).bind (kX (fun jH h_=>(kQ true aI ((kR 1 jH).bind fun jI=>kY jI h_) (kY (.tuple []) h_)).bind (kX (fun jJ cP=>(kQ true aI ((kW false 1 cP jJ).bind fun jK=>kY jK cP) (kY (.tuple []) cP)).bind (kX (fun jL iA=>(kQ true aI (kY aE iA) (kY (.tuple []) iA)).bind (kX (fun jM iB=>(kQ true aI (kY aA iB) (kY (.tuple []) iB)).bind (kX (fun jN iC=>(kQ true aI ((lH 11 jM jN).bind fun jO=>kY jO iC) (kY (.tuple []) iC)).bind (kX (fun jP iD=>(kQ true aI ((kR 1 jP).bind fun jQ=>kY jQ iD) (kY (.tuple []) iD)).bind (kX (fun jR cQ=>(kQ true aI ((kW false 1 cQ jR).bind fun jS=>kY jS cQ) (kY (.tuple []) cQ)).bind (kX (fun jT iE=>(kQ true aI (kY aH iE) (kY (.tuple []) iE)).bind (kX (fun jU iF=>(kQ true aI ((kZ .add jT jU).bind fun jV=>kY jV iF) (kY (.tuple []) iF)).bind (kX (fun jW iG=>(kQ true aI ((kZ .neq jL jW).bind fun jX=>kY jX iG) (kY (.tuple []) iG)).bind (kX (fun jY iH=>(kQ false cL ((lV aI jY (.bool false)).bind fun jZ=>kY jZ iH) (kY (.tuple []) iH)).bind (kX (fun j0 iI=>(lV cL (.bool true) j0).bind fun aJ=>(kQ false aJ (kY aD iI) (kY (.tuple []) iI)).bind (kX (fun j4 iJ=>(kQ false aJ (kY aA iJ) (kY (.tuple []) iJ)).bind (kX (fun j5 iK=>(kQ false aJ ((lH 11 j4 j5).bind fun j6=>kY j6 iK) (kY (.tuple []) iK)).bind (kX (fun j7 iL=>(kQ false aJ ((kR 2 j7).bind fun j8=>kY j8 iL) (kY (.tuple []) iL)).bind (kX (fun j9 cR=>(kQ false aJ ((kW false 1 cR j9).bind fun j_=>kY j_ cR) (kY (.tuple []) cR)).bind (kX (fun kA iM=>(kQ false aJ (kY aE iM) (kY (.tuple []) iM)).bind (kX (fun kB iN=>(kQ false aJ (kY aA iN) (kY (.tuple []) iN)).bind (kX (fun kC iO=>(kQ false aJ ((lH 11 kB kC).bind fun kD=>kY kD iO) (kY (.tuple []) iO)).bind (kX (fun kE iP=>(kQ false aJ ((kR 2 kE).bind fun kF=>kY kF iP) (kY (.tuple []) iP)).bind (kX (fun kG cS=>(kQ false aJ ((kW false 1 cS kG).bind fun kH=>kY kH cS) (kY (.tuple []) cS)).bind (kX (fun kI iQ=>(kQ false aJ ((kZ .neq kA kI).bind fun kJ=>kY kJ iQ) (kY (.tuple []) iQ)).bind (kX (fun kK iR=>(lV aJ (.bool true) kK).bind fun aK=>(kQ false aK (kY aD iR) (kY (.tuple []) iR)).bind (kX (fun kL iS=>(kQ false aK (kY aA iS) (kY (.tuple []) iS)).bind (kX (fun kM iT=>(kQ false aK ((lH 11 kL kM).bind fun kN=>kY kN iT) (kY (.tuple []) iT)).bind (kX (fun kO iU=>(kQ false aK ((kR 3 kO).bind fun cT=>kY cT iU) (kY (.tuple []) iU)).bind (kX (fun cU aM=>(kQ false aK ((kW false 1 aM cU).bind fun cV=>kY cV aM) (kY (.tuple []) aM)).bind (kX (fun cW aW=>(kQ false aK (kY aE aW) (kY (.tuple []) aW)).bind (kX (fun cX aX=>(kQ false aK (kY aA aX) (kY (.tuple []) aX)).bind (kX (fun cY aY=>(kQ false aK ((lH 11 cX cY).bind fun cZ=>kY cZ aY) (kY (.tuple []) aY)).bind (kX (fun c6 aZ=>(kQ false aK ((kR 3 c6).bind fun c9=>kY c9 aZ) (kY (.tuple []) aZ)).bind (kX (fun c_ aN=>(kQ false aK ((kW false 1 aN c_).bind fun dA=>kY dA aN) (kY (.tuple []) aN)).bind (kX (fun dB a_=>(kQ false aK ((kZ .neq cW dB).bind fun dC=>kY dC a_) (kY (.tuple []) a_)).bind (kX (fun dD bA=>(lV aK (.bool true) dD).bind fun aF=>(kQ false aF (kY aD bA) (kY (.tuple []) bA)).bind (kX (fun dE bB=>(kQ false aF (kY aA bB) (kY (.tuple []) bB)).bind (kX (fun dF bC=>(kQ false aF ((lH 11 dE dF).bind fun dG=>kY dG bC) (kY (.tuple []) bC)).bind (kX (fun dH bD=>(kQ false aF ((kR 4 dH).bind fun dI=>kY dI bD) (kY (.tuple []) bD)).bind (kX (fun dJ aO=>(kQ false aF ((kW true 3 aO dJ).bind fun dK=>kY dK aO) (kY (.tuple []) aO)).bind (kX (fun dL bE=>(kQ false aF (kY aE bE) (kY (.tuple []) bE)).bind (kX (fun dM bF=>(kQ false aF (kY aA bF) (kY (.tuple []) bF)).bind (kX (fun dN bG=>(kQ false aF ((lH 11 dM dN).bind fun dO=>kY dO bG) (kY (.tuple []) bG)).bind (kX (fun dP bH=>(kQ false aF ((kR 4 dP).bind fun dQ=>kY dQ bH) (kY (.tuple []) bH)).bind (kX (fun dR aP=>(kQ false aF ((kW true 3 aP dR).bind fun dU=>kY dU aP) (kY (.tuple []) aP)).bind (kX (fun dV bI=>(kQ false aF ((tX [.i,.i,.i] dL dV).bind fun dW=>kY (.bool (!dW)) bI) (kY (.tuple []) bI)).bind (kX (fun dX bJ=>(lV aF (.bool true) dX).bind fun aG=>(kQ false aG (kY aD bJ) (kY (.tuple []) bJ)).bind (kX (fun dY bK=>(kQ false aG (kY aA bK) (kY (.tuple []) bK)).bind (kX (fun dZ bL=>(kQ false aG ((lH 11 dY dZ).bind fun d_=>kY d_ bL) (kY (.tuple []) bL)).bind (kX (fun eA bM=>(kQ false aG ((kR 10 eA).bind fun eB=>kY eB bM) (kY (.tuple []) bM)).bind (kX (fun eC aQ=>(kQ false aG ((kW false 1 aQ eC).bind fun eD=>kY eD aQ) (kY (.tuple []) aQ)).bind (kX (fun eE bN=>(kQ false aG (kY aE bN) (kY (.tuple []) bN)).bind (kX (fun eH bO=>(kQ false aG (kY aA bO) (kY (.tuple []) bO)).bind (kX (fun eI bP=>(kQ false aG ((lH 11 eH eI).bind fun eJ=>kY eJ bP) (kY (.tuple []) bP)).bind (kX (fun eM bQ=>(kQ false aG ((kR 10 eM).bind fun eO=>kY eO bQ) (kY (.tuple []) bQ)).bind (kX (fun eP aR=>(kQ false aG ((kW false 1 aR eP).bind fun eQ=>kY eQ aR) (kY (.tuple []) aR)).bind (kX (fun eR bR=>(kQ false aG ((Fx .neq eE eR).bind fun eT=>kY eT bR) (kY (.tuple []) bR)).bind (kX (fun eU aL=>(lV aG (.bool true) eU).bind fun eV=>lC eV (lA m .ret [aD,aE,aH,(.bool false),aA] aL) ((lH 11 aD aA).bind fun eX=>(kR 7 eX).bind fun eY=>(kW false 1 aL eY).bind fun eZ=>(lH 11 aE aA).bind fun e_=>(kR 7 e_).bind fun fB=>(kW false 1 aL fB).bind fun fC=>kU (K 156 [(kP.kV eZ),(kP.kV fC),(kP.kV aH)] aL) (fun fD bS=>(x8 .not fD).bind fun aB=>(kQ false aB (kY aD bS) (kY (.tuple []) bS)).bind (kX (fun fE bT=>(kQ false aB (kY aA bT) (kY (.tuple []) bT)).bind (kX (fun fF bU=>(kQ false aB ((lH 11 fE fF).bind fun fH=>kY fH bU) (kY (.tuple []) bU)).bind (kX (fun fI bV=>(kQ false aB ((kR 8 fI).bind fun fJ=>kY fJ bV) (kY (.tuple []) bV)).bind (kX (fun fK aS=>(kQ false aB ((kW false 1 aS fK).bind fun fL=>kY fL aS) (kY (.tuple []) aS)).bind (kX (fun fM bW=>(kQ false aB (kY aE bW) (kY (.tuple []) bW)).bind (kX (fun fN bX=>(kQ false aB (kY aA bX) (kY (.tuple []) bX)).bind (kX (fun fO bY=>(kQ false aB ((lH 11 fN fO).bind fun fQ=>kY fQ bY) (kY (.tuple []) bY)).bind (kX (fun fR bZ=>(kQ false aB ((kR 8 fR).bind fun fS=>kY fS bZ) (kY (.tuple []) bZ)).bind (kX (fun fU aT=>(kQ false aB ((kW false 1 aT fU).bind fun fV=>kY fV aT) (kY (.tuple []) aT)).bind (kX (fun fX b7=>(kQ false aB (kY aH b7) (kY (.tuple []) b7)).bind (kX (fun fY b8=>(kQ false aB (kU (K 111 [(kP.kV fM),(kP.kV fX),(kP.kV fY)] b8) (fun fZ cN=>kY fZ cN) AV) (kY (.tuple []) b8)).bind (kX (fun f_ b9=>(kQ false aB ((x8 .not f_).bind fun gA=>kY gA b9) (kY (.tuple []) b9)).bind (kX (fun gB b_=>(lV aB (.bool true) gB).bind fun aC=>(kQ false aC (kY aD b_) (kY (.tuple []) b_)).bind (kX (fun gC cA=>(kQ false aC (kY aA cA) (kY (.tuple []) cA)).bind (kX (fun gD cB=>(kQ false aC ((lH 11 gC gD).bind fun gE=>kY gE cB) (kY (.tuple []) cB)).bind (kX (fun gF cC=>(kQ false aC ((kR 9 gF).bind fun gG=>kY gG cC) (kY (.tuple []) cC)).bind (kX (fun gH aU=>(kQ false aC ((kW false 1 aU gH).bind fun gI=>kY gI aU) (kY (.tuple []) aU)).bind (kX (fun gJ cD=>(kQ false aC (kY aE cD) (kY (.tuple []) cD)).bind (kX (fun gK cE=>(kQ false aC (kY aA cE) (kY (.tuple []) cE)).bind (kX (fun gL cF=>(kQ false aC ((lH 11 gK gL).bind fun gM=>kY gM cF) (kY (.tuple []) cF)).bind (kX (fun gN cG=>(kQ false aC ((kR 9 gN).bind fun gO=>kY gO cG) (kY (.tuple []) cG)).bind (kX (fun gP aV=>(kQ false aC ((kW false 1 aV gP).bind fun gQ=>kY gQ aV) (kY (.tuple []) aV)).bind (kX (fun gR cH=>(kQ false aC (kY aH cH) (kY (.tuple []) cH)).bind (kX (fun gT cI=>(kQ false aC (kU (K 111 [(kP.kV gJ),(kP.kV gR),(kP.kV gT)] cI) (fun gU cO=>kY gU cO) AV) (kY (.tuple []) cI)).bind (kX (fun gV cJ=>(kQ false aC ((x8 .not gV).bind fun gW=>kY gW cJ) (kY (.tuple []) cJ)).bind (kX (fun gX cK=>(lV aC (.bool true) gX).bind fun gY=>lC gY (lA m .ret [aD,aE,aH,(.bool false),aA] cK) ((kZ .add aA (.int .i64 1)).bind fun gZ=>lA m .normal [aD,aE,aH,cM,gZ] cK)) (fun _ _=>none))) (fun _ _=>none))) (fun _ _=>none))) (fun _ _=>none))) (fun _ _=>none))) (fun _ _=>none))) (fun _ _=>none))) (fun _ _=>none))) (fun _ _=>none))) (fun _ _=>none))) (fun _ _=>none))) (fun _ _=>none))) (fun _ _=>none))) (fun _ _=>none))) (fun _ _=>none))) (fun _ _=>none))) (fun _ _=>none))) (fun _ _=>none))) (fun _ _=>none))) (fun _ _=>none))) (fun _ _=>none))) (fun _ _=>none))) (fun _ _=>none))) (fun _ _=>none))) (fun _ _=>none))) (fun _ _=>none))) (fun _ _=>none))) (fun _ _=>none))) (fun _ _=>none))) (fun _ _=>none))) (fun _ _=>none))) (fun _ _=>none))) (fun _ _=>none))) (fun _ _=>none))) (fun _ _=>none))) (fun _ _=>none))) (fun _ _=>none))) (fun _ _=>none))) (fun _ _=>none))) (fun _ _=>none))) (fun _ _=>none))) (fun _ _=>none))) (fun _ _=>none))) (fun _ _=>none))) (fun _ _=>none))) (fun _ _=>none))) (fun _ _=>none))) (fun _ _=>none))) (fun _ _=>none))) (fun _ _=>none))) (fun _ _=>none))) (fun _ _=>none))) (fun _ _=>none))) (fun _ _=>none))) (fun _ _=>none))) (fun _ _=>none))) (fun _ _=>none))) (fun _ _=>none))) (fun _ _=>none))) (fun _ _=>none))) (fun _ _=>none))) (fun _ _=>none))) (fun _ _=>none))) (fun _ _=>none))) (fun _ _=>none))) (fun _ _=>none))) (fun _ _=>none))) (fun _ _=>none))) (fun _ _=>none))) (fun _ _=>none))) (fun _ _=>none))) (fun _ _=>none))) (fun _ _=>none))) (fun _ _=>none))) (fun _ _=>none))) (fun _ _=>none))) (fun _ _=>none))) (fun _ _=>none))) (fun _ _=>none))) (fun _ _=>none))) (fun _ _=>none))) (fun _ _=>none))) (fun _ _=>none))) (fun _ _=>none))) (fun _ _=>none))) (fun _ _=>none))) (fun _ _=>none))) (fun _ _=>none))) (lA m (.exit 0) [aD,aE,aH,cM,aA] h8)) (am0 s.1 0 .junk) (am0 s.1 1 .junk) (am0 s.1 2 .junk) (am0 s.1 3 .junk) (am0 s.1 4 .junk) s.2
def azY (K:lE) (a0 a1 a2:kP) (h0:kT):Option (n_×kT) :=
 ((nH a0).bind fun t0=>(nH a1).bind fun t1=>(kZ .neq t0 t1).bind fun t2=>lC t2 (some (.ret,[(.bool false)],h0)) ((mQ (G8 K (ab7 h0)) ([a0,a1,a2,(.bool false),(.int .i64 0)],h0)).bind fun aA=>(fun aI aJ aK aC aL aE=>Ex.mG aA.1 none (fun aF=>Ex.inBlock 0 aF (some (.ret,[(.bool true)],aE)) (fun aG=>some (aG,[aC],aE)))) (am0 aA.2.1 0 .junk) (am0 aA.2.1 1 .junk) (am0 aA.2.1 2 .junk) (am0 aA.2.1 3 .junk) (am0 aA.2.1 4 .junk) aA.2.2)).bind fun aB=>(fun aD aH=>Ex.nP aB.1 (mJ (ab7 h0) aD aH)) (am0 aB.2.1 0 .junk) aB.2.2
theorem ai4 (K:lE) (a0 a1 a2:kP) (h0:kT):qJ Tryz.prog mV mQ K 111 [a0,a1,a2] h0=azY (mD mV K) a0 a1 a2 h0:=by kernel_rfl
def G9 (K:lE) (m:Nat) (s:List kP×kT):Option R :=
 (fun aC aD aF bD aB h8=>(nH aC).bind fun t9=>(kZ .lss aB t9).bind fun dO=>lC dO ((lH 5 aC aB).bind fun dP=>(kR 0 dP).bind fun dQ=>(kW false 1 h8 dQ).bind fun dR=>(lH 5 aD aB).bind fun dU=>(kR 0 dU).bind fun dV=>(kW false 1 h8 dV).bind fun dW=>(kZ .neq dR dW).bind fun bC=>(kQ false bC (kY aF h8) (kY (.tuple []) h8)).bind (kX (fun dX cQ=>(kQ false bC ((kZ .geq dX (.int .i64 0)).bind fun dY=>kY dY cQ) (kY (.tuple []) cQ)).bind (kX (fun dZ cR=>(kQ false bC (kY dZ cR) (kY (.tuple []) cR)).bind (kX (fun aE cS=>(kQ true aE (kY aC cS) (kY (.tuple []) cS)).bind (kX (fun d_ cT=>(kQ true aE (kY aB cT) (kY (.tuple []) cT)).bind (kX (fun eA cU=>(kQ true aE ((lH 5 d_ eA).bind fun eB=>kY eB cU) (kY (.tuple []) cU)).bind (kX (fun eC cV=>(kQ true aE ((kR 1 eC).bind fun eD=>kY eD cV) (kY (.tuple []) cV)).bind (kX (fun eE bF=>(kQ true aE ((kW false 1 bF eE).bind fun eH=>kY eH bF) (kY (.tuple []) bF)).bind (kX (fun eI cW=>(kQ true aE (kY aD cW) (kY (.tuple []) cW)).bind (kX (fun eJ cX=>(kQ true aE (kY aB cX) (kY (.tuple []) cX)).bind (kX (fun eM cY=>(kQ true aE ((lH 5 eJ eM).bind fun eO=>kY eO cY) (kY (.tuple []) cY)).bind (kX (fun eP cZ=>(kQ true aE ((kR 1 eP).bind fun eQ=>kY eQ cZ) (kY (.tuple []) cZ)).bind (kX (fun eR bG=>(kQ true aE ((kW false 1 bG eR).bind fun eT=>kY eT bG) (kY (.tuple []) bG)).bind (kX (fun eU c6=>(kQ true aE (kY aF c6) (kY (.tuple []) c6)).bind (kX (fun eV c9=>(kQ true aE ((kZ .add eU eV).bind fun eX=>kY eX c9) (kY (.tuple []) c9)).bind (kX (fun eY c_=>(kQ true aE ((kZ .neq eI eY).bind fun eZ=>kY eZ c_) (kY (.tuple []) c_)).bind (kX (fun e_ dA=>(kQ false bC ((lV aE e_ (.bool false)).bind fun fB=>kY fB dA) (kY (.tuple []) dA)).bind (kX (fun fC dB=>(lV bC (.bool true) fC).bind fun aG=>(kQ false aG (kY aC dB) (kY (.tuple []) dB)).bind (kX (fun fD dC=>(kQ false aG (kY aB dC) (kY (.tuple []) dC)).bind (kX (fun fE dD=>(kQ false aG ((lH 5 fD fE).bind fun fF=>kY fF dD) (kY (.tuple []) dD)).bind (kX (fun fH dE=>(kQ false aG ((kR 2 fH).bind fun fI=>kY fI dE) (kY (.tuple []) dE)).bind (kX (fun fJ bH=>(kQ false aG ((kW false 1 bH fJ).bind fun fK=>kY fK bH) (kY (.tuple []) bH)).bind (kX (fun fL dF=>(kQ false aG (kY aD dF) (kY (.tuple []) dF)).bind (kX (fun fM dG=>(kQ false aG (kY aB dG) (kY (.tuple []) dG)).bind (kX (fun fN dH=>(kQ false aG ((lH 5 fM fN).bind fun fO=>kY fO dH) (kY (.tuple []) dH)).bind (kX (fun fQ dI=>(kQ false aG ((kR 2 fQ).bind fun fR=>kY fR dI) (kY (.tuple []) dI)).bind (kX (fun fS bI=>(kQ false aG ((kW false 1 bI fS).bind fun fU=>kY fU bI) (kY (.tuple []) bI)).bind (kX (fun fV dJ=>(kQ false aG ((kZ .neq fL fV).bind fun fX=>kY fX dJ) (kY (.tuple []) dJ)).bind (kX (fun fY dK=>(lV aG (.bool true) fY).bind fun aH=>(kQ false aH (kY aC dK) (kY (.tuple []) dK)).bind (kX (fun fZ dL=>(kQ false aH (kY aB dL) (kY (.tuple []) dL)).bind (kX (fun f_ dM=>(kQ false aH ((lH 5 fZ f_).bind fun gA=>kY gA dM) (kY (.tuple []) dM)).bind (kX (fun gB dN=>(kQ false aH ((kR 3 gB).bind fun bJ=>kY bJ dN) (kY (.tuple []) dN)).bind (kX (fun bK aI=>(kQ false aH ((kW false 1 aI bK).bind fun bL=>kY bL aI) (kY (.tuple []) aI)).bind (kX (fun bM aM=>(kQ false aH (kY aD aM) (kY (.tuple []) aM)).bind (kX (fun bN aN=>(kQ false aH (kY aB aN) (kY (.tuple []) aN)).bind (kX (fun bO aO=>(kQ false aH ((lH 5 bN bO).bind fun bP=>kY bP aO) (kY (.tuple []) aO)).bind (kX (fun bQ aP=>(kQ false aH ((kR 3 bQ).bind fun bR=>kY bR aP) (kY (.tuple []) aP)).bind (kX (fun bS aJ=>(kQ false aH ((kW false 1 aJ bS).bind fun bT=>kY bT aJ) (kY (.tuple []) aJ)).bind (kX (fun bU aQ=>(kQ false aH ((kZ .neq bM bU).bind fun bV=>kY bV aQ) (kY (.tuple []) aQ)).bind (kX (fun bW aR=>(lV aH (.bool true) bW).bind fun aA=>(kQ false aA (kY aC aR) (kY (.tuple []) aR)).bind (kX (fun bX aS=>(kQ false aA (kY aB aS) (kY (.tuple []) aS)).bind (kX (fun bY aT=>(kQ false aA ((lH 5 bX bY).bind fun bZ=>kY bZ aT) (kY (.tuple []) aT)).bind (kX (fun b7 aU=>(kQ false aA ((kR 4 b7).bind fun b8=>kY b8 aU) (kY (.tuple []) aU)).bind (kX (fun b9 aK=>(kQ false aA ((kW false 1 aK b9).bind fun b_=>kY b_ aK) (kY (.tuple []) aK)).bind (kX (fun cA aV=>(kQ false aA (kY aD aV) (kY (.tuple []) aV)).bind (kX (fun cB aW=>(kQ false aA (kY aB aW) (kY (.tuple []) aW)).bind (kX (fun cC aX=>(kQ false aA ((lH 5 cB cC).bind fun cD=>kY cD aX) (kY (.tuple []) aX)).bind (kX (fun cE aY=>(kQ false aA ((kR 4 cE).bind fun cF=>kY cF aY) (kY (.tuple []) aY)).bind (kX (fun cG aL=>(kQ false aA ((kW false 1 aL cG).bind fun cH=>kY cH aL) (kY (.tuple []) aL)).bind (kX (fun cI aZ=>(kQ false aA (kY aF aZ) (kY (.tuple []) aZ)).bind (kX (fun cJ a_=>(kQ false aA (kU (K 156 [(kP.kV cA),(kP.kV cI),(kP.kV cJ)] a_) (fun cK bE=>kY cK bE) AV) (kY (.tuple []) a_)).bind (kX (fun cL bA=>(kQ false aA ((x8 .not cL).bind fun cM=>kY cM bA) (kY (.tuple []) bA)).bind (kX (fun cN bB=>(lV aA (.bool true) cN).bind fun cO=>lC cO (lA m .ret [aC,aD,aF,(.bool false),aB] bB) ((kZ .add aB (.int .i64 1)).bind fun cP=>lA m .normal [aC,aD,aF,bD,cP] bB)) (fun _ _=>none))) (fun _ _=>none))) (fun _ _=>none))) (fun _ _=>none))) (fun _ _=>none))) (fun _ _=>none))) (fun _ _=>none))) (fun _ _=>none))) (fun _ _=>none))) (fun _ _=>none))) (fun _ _=>none))) (fun _ _=>none))) (fun _ _=>none))) (fun _ _=>none))) (fun _ _=>none))) (fun _ _=>none))) (fun _ _=>none))) (fun _ _=>none))) (fun _ _=>none))) (fun _ _=>none))) (fun _ _=>none))) (fun _ _=>none))) (fun _ _=>none))) (fun _ _=>none))) (fun _ _=>none))) (fun _ _=>none))) (fun _ _=>none))) (fun _ _=>none))) (fun _ _=>none))) (fun _ _=>none))) (fun _ _=>none))) (fun _ _=>none))) (fun _ _=>none))) (fun _ _=>none))) (fun _ _=>none))) (fun _ _=>none))) (fun _ _=>none))) (fun _ _=>none))) (fun _ _=>none))) (fun _ _=>none))) (fun _ _=>none))) (fun _ _=>none))) (fun _ _=>none))) (fun _ _=>none))) (fun _ _=>none))) (fun _ _=>none))) (fun _ _=>none))) (fun _ _=>none))) (fun _ _=>none))) (fun _ _=>none))) (fun _ _=>none))) (fun _ _=>none))) (lA m (.exit 0) [aC,aD,aF,bD,aB] h8)) (am0 s.1 0 .junk) (am0 s.1 1 .junk) (am0 s.1 2 .junk) (am0 s.1 3 .junk) (am0 s.1 4 .junk) s.2
def aAa (K:lE) (a0 a1 a2:kP) (h0:kT):Option (n_×kT) :=
 ((nH a0).bind fun t0=>(nH a1).bind fun t1=>(kZ .neq t0 t1).bind fun t2=>lC t2 (some (.ret,[(.bool false)],h0)) ((mQ (G9 K (ab7 h0)) ([a0,a1,a2,(.bool false),(.int .i64 0)],h0)).bind fun aA=>(fun aI aJ aK aC aL aE=>Ex.mG aA.1 none (fun aF=>Ex.inBlock 0 aF (some (.ret,[(.bool true)],aE)) (fun aG=>some (aG,[aC],aE)))) (am0 aA.2.1 0 .junk) (am0 aA.2.1 1 .junk) (am0 aA.2.1 2 .junk) (am0 aA.2.1 3 .junk) (am0 aA.2.1 4 .junk) aA.2.2)).bind fun aB=>(fun aD aH=>Ex.nP aB.1 (mJ (ab7 h0) aD aH)) (am0 aB.2.1 0 .junk) aB.2.2
theorem ajW (K:lE) (a0 a1 a2:kP) (h0:kT):qJ Tryz.prog mV mQ K 156 [a0,a1,a2] h0=aAa (mD mV K) a0 a1 a2 h0:=by kernel_rfl
end
section
open Go Hk
def PB (L:List Token) (at_ deep:Nat):lR:=.cells [.slice (L.map Token.cells) .no,.int .i64 (at_:Int),.int .i64 (deep:Int)]
theorem avS (t:Token):∀x∈t.cells,x.mH=true:=by intro x hx; simp [Token.cells] at hx; rcases hx with rfl | rfl | rfl | rfl <;> rfl
theorem al4 (t:Token):(∀x,x∈t.cells→x.mH=true)=True:=eq_true (avS t)
theorem aa4 (t:Token) (m:Nat) (h:kT):t.cells.map (kP.tP∘fun x=>kP.m_ m h x)=t.cells:=(rfl)
@[simp] theorem axR (t:Token) (h:kT) (os:List kP):p9 h os t.cells=t.cells:=rC (by intro c hc; simp [Token.cells] at hc; rcases hc with rfl | rfl | rfl | rfl <;> rfl)
def isS (t:Token) (w:List UInt8):Bool:=(decide (t.kind=3) || decide (t.kind=4)) && decide (t.text=w)
def qG (e pos:Nat):kP:=.iface 102 (.agg [.int .i64 (e:Int),.int .i64 (pos:Int)])
theorem u9 {m:Nat}{h:kT}{e p:Int}:(kP.xR m h (.iface 102 (.agg [.int .i64 e,.int .i64 p]))).kV=.iface 102 (.agg [.int .i64 e,.int .i64 p]):=(rfl)
def II:List UInt8:=[115,101,99]
def Nw:List UInt8:=[112,117,98]
def zK:List UInt8:=[109,97,115,107]
def IS:List UInt8:=[117,51,50]
theorem Ob {m:Nat}{h:kT}{x y z:Int}:(kP.xR m h (.agg [.int .i64 x,.int .i64 y,.int .i64 z])).kV=.agg [.int .i64 x,.int .i64 y,.int .i64 z]:=(rfl)
end
section
open Go Hk
structure Ty where
 elem:Nat
 len:Nat
 label:Nat
 deriving DecidableEq
structure XP where
 pos:Nat
 name:List UInt8
 ty:Ty
 out:Bool
inductive XE where
 | mk (kind pos num:Nat) (name:List UInt8) (args:List XE)
inductive XS where
 | mk (kind pos sE:Nat) (name:List UInt8) (ty:Ty) (args:List XE) (body els:List XS) (has:Bool)
structure XF where
 pos:Nat
 name:List UInt8
 params:List XP
 has:Bool
 result:Ty
 body:List XS
inductive Out (α:Type) where
 | ok (v:α) (at_ deep:Nat)
 | bad (e pos at_ deep:Nat)
def PM (α:Type):Type:=Nat→Nat→Out α
def PM.bind {α β:Type}(x:PM α) (f:α→PM β):PM β:=fun a d=>match x a d with
 | .ok v a' d'=>f v a' d'
 | .bad e p a' d'=>.bad e p a' d'
instance:Monad PM where
 pure v:=fun a d=>.ok v a d
 bind:=PM.bind
theorem mO {α β:Type}{x:PM α}{f:α→PM β}:x >>= f=PM.bind x f:=rfl
theorem yI {α:Type}{v:α}{a d:Nat}:(pure v:PM α) a d=.ok v a d:=rfl
def tk (L:List Token) (a:Nat):Token:=(L[a]?).getD ⟨0,0,0,[]⟩
section
variable (L:List Token)
def xY {α:Type}(e:Nat):PM α:=fun a d=>.bad e (tk L a).pos a d
def o7:PM Token:=fun a d=>.ok (tk L a) a d
def w_:PM Unit:=fun a d=>.ok () (a+1) d
def pUp:PM Unit:=fun a d=>.ok () a (d - 1)
def EF (w:List UInt8):PM Bool:=fun a d=>.ok (isS (tk L a) w) a d
def o9 (w:List UInt8):PM Bool:=fun a d=>.ok (isS (tk L a) w) (if isS (tk L a) w then a+1 else a) d
def oQ (w:List UInt8):PM Unit:=fun a d=>if isS (tk L a) w then .ok () (a+1) d else .bad 10 (tk L a).pos a d
def qO (k:Nat):PM Token:=fun a d=>if (tk L a).kind=k then .ok (tk L a) (a+1) d else .bad 10 (tk L a).pos a d
def tS (w:List UInt8):PM Unit:=fun a d =>
 if isS (tk L a) w then(if d=64 then .bad 11 (tk L a).pos a d else .ok () (a+1) (d+1)) else .bad 10 (tk L a).pos a d
def tT (w:List UInt8):PM Unit:=fun a d=>if isS (tk L a) w then .ok () (a+1) (d - 1) else .bad 10 (tk L a).pos a d
def rO:PM Nat:=fun a d =>
 if isS (tk L a) II then .ok 1 (a+1) d else if isS (tk L a) Nw then .ok 0 (a+1) d else .bad 10 (tk L a).pos a d
def pR (l:Nat):PM Ty:=fun a d =>
 if isS (tk L a) zK then .ok ⟨1,0,l⟩ (a+1) d else if isS (tk L a) IS then .ok ⟨0,0,l⟩ (a+1) d else .bad 10 (tk L a).pos a d
def xZ:PM Nat:=do
 oQ L [91]
 let t ←o7 L
 if t.kind=2∧t.num=0 then xY L 10
 else
  let n ←qO L 2
  oQ L [93]
  return n.num
def uL (l:Nat):PM Ty:=do
 if ←o9 L [117,56] then
  let n ←xZ L
  return ⟨2,n,l⟩
 else
  let t ←pR L l
  if t.elem=0 then
   if ←EF L [91] then
    let n ←xZ L
    return { t with len:=n }
   else return t
  else return t
def sM:PM XP:=do
 let out ←o9 L [111,117,116]
 let l ←rO L
 let name ←qO L 1
 oQ L [58]
 let ty ←uL L l
 return ⟨name.pos,name.text,ty,out⟩
def vD {α:Type}(one:PM α):Nat→List α→PM (List α)
 | 0,_=>xY L 99
 | n+1,l=>do
  let x ←one
  if ←o9 L [44] then vD one n (l++[x]) else return l++[x]
def vW {α:Type}(end_:List UInt8) (one:PM α):PM (List α):=do
 if ←EF L end_ then return [] else vD L one 131073 []
def nT (w:List UInt8):Option (Nat×Nat) :=
 if w=[61,61] then some (0,17) else if w=[33,61] then some (0,18) else if w=[60] then some (0,19) else if w=[60,61] then some (0,20)
 else if w=[62] then some (0,21) else if w=[62,61] then some (0,22) else if w=[124] then some (1,12) else if w=[94] then some (2,13)
 else if w=[38] then some (3,11) else if w=[60,60] then some (4,14) else if w=[62,62] then some (4,15) else if w=[43] then some (5,8)
 else if w=[45] then some (5,9) else if w=[42] then some (6,10) else none
def oK (t:Token) (k:Nat):Option Nat :=
 if t.kind=4 then match nT t.text with
  | some (n,kind)=>if n=k then some kind else none
  | none=>none
 else none
section
variable (expr unary:PM XE)
def tF:PM (List XE):=do
 tS L [91]
 let x ←expr
 tT L [93]
 return [x]
def xX (name:Token):PM XE:=do
 tS L [40]
 let l ←vW L [41] expr
 tT L [41]
 return .mk 4 name.pos 0 name.text l
def rT:Nat→Bool→List XE→PM (List XE)
 | 0,_,l=>pure l
 | n+1,first,l=>do
  if !first then oQ L [44]
  let x ←expr
  rT n false (l++[x])
def uX (kind many:Nat) (number:Bool):PM XE:=do
 let t ←o7 L
 w_
 tS L [40]
 let l ←rT L expr many true []
 if number then
  oQ L [44]
  let n ←qO L 2
  tT L [41]
  return .mk kind t.pos n.num [] l
 else
  tT L [41]
  return .mk kind t.pos 0 [] l
def oA:PM XE:=do
 let t ←o7 L
 if t.kind=2 then
  w_
  return .mk 1 t.pos t.num [] []
 else if isS t [40] then
  tS L [40]
  let x ←expr
  tT L [41]
  return x
 else if isS t [109,117,108,104,105] then uX L expr 23 2 false
 else if isS t [99,97,114,114,121] then uX L expr 24 2 false
 else if isS t [115,101,108,101,99,116] then uX L expr 25 3 false
 else if isS t [119,111,114,100] then uX L expr 26 1 false
 else if isS t [114,111,114] then uX L expr 16 1 true
 else
  let _ ←qO L 1
  if ←EF L [40] then xX L expr t
  else if ←EF L [91] then
   let l ←tF L expr
   return .mk 3 t.pos 0 t.text l
  else return .mk 2 t.pos 0 t.text []
def Ag (kind:Nat):PM XE:=do
 let t ←o7 L
 tS L t.text
 let x ←unary
 pUp
 return .mk kind t.pos 0 [] [x]
def uY:PM XE:=do
 let t ←o7 L
 if isS t [126] then Ag L unary 5
 else if isS t [45] then Ag L unary 6
 else if isS t [33] then Ag L unary 7
 else oA L expr
end
def q7 (next:PM XE) (k:Nat):Nat→XE→PM XE
 | 0,_=>xY L 99
 | n+1,x=>do
  let t ←o7 L
  match oK t k with
  | none=>return x
  | some kind =>
   w_
   if kind=14∨kind=15 then
    let c ←qO L 2
    q7 next k n (.mk kind t.pos c.num [] [x])
   else
    let y ←next
    q7 next k n (.mk kind t.pos 0 [] [x,y])
def nR (un:PM XE):Nat→PM XE
 | 0=>un
 | j+1=>do
  let x ←nR un j
  q7 L (nR un j) (6 - j) 131073 x
def vQ (un:PM XE):PM XE:=do
 let x ←nR L un 6
 let t ←o7 L
 match oK t 0 with
 | none=>return x
 | some kind =>
  w_
  let y ←nR L un 6
  return .mk kind t.pos 0 [] [x,y]
def Aq:Nat→PM XE
 | 0=>xY L 99
 | n+1=>uY L (vQ L (Aq n)) (Aq n)
def AE (n:Nat):PM XE:=vQ L (Aq L n)
def y9 (n:Nat):PM (List XE):=do
 let x ←AE L n
 oQ L [59]
 return [x]
def pG (n pos:Nat):PM XS:=do
 let name ←qO L 1
 if ←EF L [40] then
  let c ←xX L (AE L (n - 1)) name
  oQ L [59]
  return .mk 7 pos 0 [] ⟨0,0,0⟩ [c] [] [] false
 else if ←EF L [91] then
  let i ←tF L (AE L (n - 1))
  oQ L [61]
  let l ←y9 L n
  return .mk 4 pos 0 name.text ⟨0,0,0⟩ (i++l) [] [] false
 else
  oQ L [61]
  let l ←y9 L n
  return .mk 3 pos 0 name.text ⟨0,0,0⟩ l [] [] false
def qM (block:PM (List XS)) (n:Nat):PM XS:=do
 let t ←o7 L
 if ←o9 L [108,101,116] then
  let name ←qO L 1
  oQ L [61]
  let l ←y9 L n
  return .mk 1 t.pos 0 name.text ⟨0,0,0⟩ l [] [] false
 else if ←o9 L [118,97,114] then
  let lab ←rO L
  let name ←qO L 1
  oQ L [58]
  let ty ←uL L lab
  oQ L [59]
  return .mk 2 t.pos 0 name.text ty [] [] [] false
 else if ←o9 L [105,102] then
  let x ←AE L n
  let b ←block
  if ←o9 L [101,108,115,101] then
   let e ←block
   return .mk 5 t.pos 0 [] ⟨0,0,0⟩ [x] b e true
  else return .mk 5 t.pos 0 [] ⟨0,0,0⟩ [x] b [] false
 else if ←o9 L [102,111,114] then
  let name ←qO L 1
  oQ L [60]
  let x ←AE L n
  oQ L [109,97,120]
  let m ←qO L 2
  let b ←block
  return .mk 6 t.pos m.num name.text ⟨0,0,0⟩ [x] b [] false
 else if ←o9 L [114,101,116,117,114,110] then
  let l ←y9 L n
  return .mk 8 t.pos 0 [] ⟨0,0,0⟩ l [] [] false
 else pG L n t.pos
def vE (stmt:PM XS):Nat→List XS→PM (List XS)
 | 0,_=>xY L 99
 | m+1,l=>do
  if ←EF L [125] then return l
  else
   let s ←stmt
   vE stmt m (l++[s])
def rD:Nat→PM (List XS)
 | 0=>xY L 99
 | n+1=>do
  tS L [123]
  let l ←vE L (qM L (rD n) n) 131073 []
  tT L [125]
  return l
def wH:PM XF:=do
 oQ L [102,110]
 let name ←qO L 1
 oQ L [40]
 let ps ←vW L [41] (sM L)
 oQ L [41]
 if ←o9 L [58] then
  let l ←rO L
  let ty ←pR L l
  let b ←rD L 65
  return ⟨name.pos,name.text,ps,true,ty,b⟩
 else
  let b ←rD L 65
  return ⟨name.pos,name.text,ps,false,⟨0,0,0⟩,b⟩
def pO:Nat→List XF→PM (List XF)
 | 0,_=>xY L 99
 | m+1,l=>do
  let t ←o7 L
  if t.kind=0 then return l
  else
   let f ←wH L
   pO m (l++[f])
end
def nM (s:List UInt8):List XF×Nat×Nat :=
 if (oT s).2.1=0 then match pO (oT s).1 131073 [] 0 0 with
  | .ok l _ _=>(l,0,0)
  | .bad e p _ _=>([],e,p)
 else([],(oT s).2.1,(oT s).2.2)
end
section
open Go Hk
def rE (L:List Token):Prop:=∀(i:Nat) (t:Token),L[i]?=some t→t.kind≠0→i+1 < L.length
def mE (L:List Token) {α:Type}(s:Nat) (k:Nat→Nat) (x:PM α):Prop :=
 ∀a d v a' d',x a d=.ok v a' d'→a < L.length→a+s≤a'∧a' < L.length∧d'=k d
section
variable {L:List Token}{α β:Type}
theorem Qx {a:Nat}(h:a < L.length):L[a]?=some (tk L a):=by simp [tk,h]
theorem mE.mono {s s':Nat}{k k':Nat→Nat}{x:PM α}(hx:mE L s k x) (hs:s'≤s) (hk:∀d,k d=k' d):mE L s' k' x:=by
 intro a d v a' d' h ha
 obtain⟨h1,h2,h3⟩:=hx a d v a' d' h ha
 exact⟨by omega,h2,by rw [h3,hk]⟩
theorem mE.bind {s s':Nat}{k k':Nat→Nat}{x:PM α}{f:α→PM β}(hx:mE L s k x) (hf:∀v,mE L s' k' (f v)):mE L (s+s') (fun d=>k' (k d)) (x >>= f):=by
 intro a d v a' d' h ha
 rw [mO] at h
 unfold PM.bind at h
 cases hx1:x a d with
 | bad e p a1 d1=>rw [hx1] at h; cases h
 | ok v1 a1 d1 =>
  rw [hx1] at h
  obtain⟨h1,h2,h3⟩:=hx a d v1 a1 d1 hx1 ha
  obtain⟨h4,h5,h6⟩:=hf v1 a1 d1 v a' d' h h2
  exact⟨by omega,h5,by rw [h6,h3]⟩
theorem mE.pure {v:α}:mE L 0 (fun d=>d) (Pure.pure v:PM α):=by
 intro a d v' a' d' h ha
 cases h
 exact⟨ac9 _,ha,rfl⟩
theorem mE.fail {e:Nat}{s:Nat}{k:Nat→Nat}:mE L s k (xY L e:PM α):=by
 intro a d v a' d' h; cases h
theorem mE.ite {c:Prop} [Decidable c] {s:Nat}{k:Nat→Nat}{x y:PM α}(hx:mE L s k x) (hy:mE L s k y):mE L s k (if c then x else y):=by
 split
 ·exact hx
 ·exact hy
variable (hL:rE L)
include hL
theorem mS {a:Nat}{w:List UInt8}(ha:a < L.length) (h:isS (tk L a) w=true):a+1 < L.length:=by
 refine hL a _ (Qx ha) fun h0=>?_
 simp [isS,h0] at h
theorem qF {a k:Nat}(ha:a < L.length) (hk:k≠0) (h:(tk L a).kind=k):a+1 < L.length:=hL a _ (Qx ha) (by omega)
omit hL in
theorem Lc:mE L 0 (fun d=>d) (o7 L):=by
 intro a d v a' d' h ha; cases h; exact⟨ac9 _,ha,rfl⟩
omit hL in
theorem TI {w:List UInt8}:mE L 0 (fun d=>d) (EF L w):=by
 intro a d v a' d' h ha; cases h; exact⟨ac9 _,ha,rfl⟩
theorem AT {w:List UInt8}:mE L 0 (fun d=>d) (o9 L w):=by
 intro a d v a' d' h ha
 unfold o9 at h
 cases h
 split
 ·rename_i hs; exact⟨by omega,mS hL ha hs,rfl⟩
 ·exact⟨by omega,ha,rfl⟩
theorem qV {w:List UInt8}:mE L 1 (fun d=>d) (oQ L w):=by
 intro a d v a' d' h ha
 unfold oQ at h
 split at h
 ·rename_i hs; cases h; exact⟨by omega,mS hL ha hs,rfl⟩
 ·cases h
theorem tD {k:Nat}(hk:k≠0):mE L 1 (fun d=>d) (qO L k):=by
 intro a d v a' d' h ha
 unfold qO at h
 split at h
 ·rename_i hs; cases h; exact⟨by omega,qF hL ha hk hs,rfl⟩
 ·cases h
theorem z8 {w:List UInt8}:mE L 1 (fun d=>d+1) (tS L w):=by
 intro a d v a' d' h ha
 unfold tS at h
 split at h
 ·rename_i hs
  split at h
  ·cases h
  ·cases h; exact⟨by omega,mS hL ha hs,rfl⟩
 ·cases h
theorem Ay {w:List UInt8}:mE L 1 (fun d=>d - 1) (tT L w):=by
 intro a d v a' d' h ha
 unfold tT at h
 split at h
 ·rename_i hs; cases h; exact⟨by omega,mS hL ha hs,rfl⟩
 ·cases h
theorem Bv:mE L 1 (fun d=>d) (rO L):=by
 intro a d v a' d' h ha
 unfold rO at h
 split at h
 ·rename_i hs; cases h; exact⟨by omega,mS hL ha hs,rfl⟩
 ·split at h
  ·rename_i hs; cases h; exact⟨by omega,mS hL ha hs,rfl⟩
  ·cases h
theorem Er {l:Nat}:mE L 1 (fun d=>d) (pR L l):=by
 intro a d v a' d' h ha
 unfold pR at h
 split at h
 ·rename_i hs; cases h; exact⟨by omega,mS hL ha hs,rfl⟩
 ·split at h
  ·rename_i hs; cases h; exact⟨by omega,mS hL ha hs,rfl⟩
  ·cases h
theorem Pt:mE L 1 (fun d=>d) (xZ L):=by
 unfold xZ
 refine((qV hL).bind fun _=>Lc.bind fun t=>(mE.ite mE.fail ?_:mE L 0 (fun d=>d) _)).mono (by omega) fun _=>rfl
 exact((tD hL (by decide)).bind fun _=>(qV hL).bind fun _=>mE.pure).mono (Nat.zero_le _) fun _=>rfl
theorem GU {l:Nat}:mE L 1 (fun d=>d) (uL L l):=by
 unfold uL
 refine((AT hL).bind (s':=1) (k':=fun d=>d) fun b=>mE.ite ?_ ?_).mono (by omega) fun _=>rfl
 ·exact((Pt hL).bind fun _=>mE.pure).mono (by omega) fun _=>rfl
 ·refine((Er hL).bind (s':=0) (k':=fun d=>d) fun t=>mE.ite ?_ mE.pure).mono (by omega) fun _=>rfl
  refine(TI.bind (s':=0) (k':=fun d=>d) fun _=>mE.ite ?_ mE.pure).mono (by omega) fun _=>rfl
  exact((Pt hL).bind fun _=>mE.pure).mono (by omega) fun _=>rfl
theorem GV:mE L 1 (fun d=>d) (sM L):=by
 unfold sM
 exact((AT hL).bind fun _=>(Bv hL).bind fun _=>(tD hL (by omega)).bind fun _=>(qV hL).bind fun _=>(GU hL).bind fun _=>mE.pure).mono (by omega) fun _=>rfl
theorem aaH {one:PM α}(h1:mE L 1 (fun d=>d) one):∀(n:Nat) (l:List α),mE L 1 (fun d=>d) (vD L one n l)
 | 0,_=>mE.fail
 | n+1,l=>(h1.bind (s':=0) (k':=fun d=>d) fun x=>((AT hL).bind (s':=0) (k':=fun d=>d) fun b=>mE.ite ((aaH h1 n _).mono (by omega) fun _=>rfl) mE.pure).mono (by omega) fun _=>rfl).mono (by omega) fun _=>rfl
theorem FV {one:PM α}{w:List UInt8}(h1:mE L 1 (fun d=>d) one):mE L 0 (fun d=>d) (vW L w one):=by
 unfold vW
 exact(TI.bind (s':=0) (k':=fun d=>d) fun b=>mE.ite mE.pure ((aaH hL h1 _ _).mono (by omega) fun _=>rfl)).mono (by omega) fun _=>rfl
section
variable {ex un:PM XE}(he:mE L 1 (fun d=>d) ex) (hu:mE L 1 (fun d=>d) un)
include he
theorem GR:mE L 1 (fun d=>d) (tF L ex):=by
 unfold tF
 exact((z8 hL).bind fun _=>he.bind fun _=>(Ay hL).bind fun _=>mE.pure).mono (by omega) fun _=>Nat.add_sub_cancel _ _
theorem Ps {t:Token}:mE L 1 (fun d=>d) (xX L ex t):=by
 unfold xX
 exact((z8 hL).bind fun _=>(FV hL he).bind fun _=>(Ay hL).bind fun _=>mE.pure).mono (by omega) fun _=>Nat.add_sub_cancel _ _
theorem La:∀(n:Nat) (b:Bool) (l:List XE),mE L 0 (fun d=>d) (rT L ex n b l)
 | 0,_,_=>mE.pure
 | n+1,b,l=>by
  unfold rT
  have h1:mE L 0 (fun d=>d) (do let x ←ex; rT L ex n false (l++[x]):PM (List XE)):=(he.bind fun _=>La n _ _).mono (by omega) fun _=>rfl
  cases b
  ·exact((qV hL).bind fun _=>h1).mono (by omega) fun _=>rfl
  ·exact((mE.pure (v:=PUnit.unit)).bind fun _=>h1).mono (by omega) fun _=>rfl
end
omit hL
def q9 (L:List Token) {α:Type}(s:Nat) (k:Nat→Nat) (x:PM α) (a:Nat):Prop :=
 ∀d v a' d',x a d=.ok v a' d'→a+s≤a'∧a' < L.length∧d'=k d
theorem mE.at {s:Nat}{k:Nat→Nat}{x:PM α}(h:mE L s k x) {a:Nat}(ha:a < L.length):q9 L s k x a:=fun d v a' d' hx=>h a d v a' d' hx ha
theorem q9.all {s:Nat}{k:Nat→Nat}{x:PM α}(h:∀a,a < L.length→q9 L s k x a):mE L s k x:=fun a d v a' d' hx ha=>h a ha d v a' d' hx
theorem q9.here {s:Nat}{k:Nat→Nat}{f:Token→PM α}{a:Nat}(h:q9 L s k (f (tk L a)) a):q9 L s k (o7 L >>= f) a:=fun d v a' d' hx=>h d v a' d' hx
theorem q9.next {s:Nat}{k:Nat→Nat}{f:Unit→PM α}{a:Nat}(ha:a+1 < L.length) (h:mE L s k (f ())):q9 L (s+1) k (w_ >>= f) a:=fun d v a' d' hx=>by
 obtain⟨h1,h2,h3⟩:=h (a+1) d v a' d' hx ha
 exact⟨by omega,h2,h3⟩
theorem q9.mono {s s':Nat}{k k':Nat→Nat}{x:PM α}{a:Nat}(hx:q9 L s k x a) (hs:s'≤s) (hk:∀d,k d=k' d):q9 L s' k' x a:=by
 intro d v a' d' h
 obtain⟨h1,h2,h3⟩:=hx d v a' d' h
 exact⟨by omega,h2,by rw [h3,hk]⟩
theorem q9.ite {c:Prop} [Decidable c] {s:Nat}{k:Nat→Nat}{x y:PM α}{a:Nat}(hx:c→q9 L s k x a) (hy:¬c→q9 L s k y a):q9 L s k (if c then x else y) a:=by
 split
 ·rename_i h; exact hx h
 ·rename_i h; exact hy h
theorem aD5:mE L 0 (fun d=>d - 1) pUp:=by
 intro a d v a' d' h ha; cases h; exact⟨ac9 _,ha,rfl⟩
include hL
section
variable {ex un:PM XE}(he:mE L 1 (fun d=>d) ex) (hu:mE L 1 (fun d=>d) un)
include he
theorem Ld {kind many a:Nat}{number:Bool}(ha:a+1 < L.length):q9 L 1 (fun d=>d) (uX L ex kind many number) a:=by
 unfold uX
 refine q9.here ((q9.next (s:=1) (k:=fun d=>d) ha ?_).mono (by omega) fun _=>rfl)
 refine((z8 hL).bind (s':=1) (k':=fun d=>d - 1) fun _=>((La hL he _ _ _).bind (s':=1) (k':=fun d=>d - 1) fun l=>mE.ite ?_ ?_).mono (by omega) fun _=>rfl).mono (by omega) fun _=>Nat.add_sub_cancel _ _
 ·exact((qV hL).bind fun _=>(tD hL (by omega)).bind fun _=>(Ay hL).bind fun _=>mE.pure).mono (by omega) fun _=>rfl
 ·exact((Ay hL).bind fun _=>mE.pure).mono (by omega) fun _=>rfl
theorem Xj:mE L 1 (fun d=>d) (oA L ex):=by
 unfold oA
 refine q9.all fun a ha=>q9.here ?_
 refine q9.ite (fun h=>?_) fun _=>q9.ite (fun h=>?_) fun _=>q9.ite (fun h=>Ld hL he (mS hL ha h)) fun _=>q9.ite (fun h=>Ld hL he (mS hL ha h)) fun _ =>
  q9.ite (fun h=>Ld hL he (mS hL ha h)) fun _=>q9.ite (fun h=>Ld hL he (mS hL ha h)) fun _=>q9.ite (fun h=>Ld hL he (mS hL ha h)) fun _=>mE.at ?_ ha
 ·exact q9.next (s:=0) (k:=fun d=>d) (f:=fun _=>pure _) (qF (k:=2) hL ha (by decide) h) mE.pure
 ·refine mE.at ?_ ha
  exact((z8 hL).bind fun _=>he.bind fun _=>(Ay hL).bind fun _=>mE.pure).mono (by omega) fun _=>Nat.add_sub_cancel _ _
 ·refine((tD hL (by omega)).bind (s':=0) (k':=fun d=>d) fun _=>(TI.bind (s':=0) (k':=fun d=>d) fun _=>mE.ite ?_ ?_).mono (by omega) fun _=>rfl).mono (by omega) fun _=>rfl
  ·exact(Ps hL he).mono (by omega) fun _=>rfl
  ·refine(TI.bind (s':=0) (k':=fun d=>d) fun _=>mE.ite ?_ mE.pure).mono (by omega) fun _=>rfl
   exact((GR hL he).bind fun _=>mE.pure).mono (by omega) fun _=>rfl
include hu
theorem ahZ:mE L 1 (fun d=>d) (uY L ex un):=by
 have hs:∀kind,mE L 1 (fun d=>d) (Ag L un kind):=fun kind=>by
  unfold Ag
  exact(Lc.bind fun t=>(z8 hL).bind fun _=>hu.bind fun _=>aD5.bind fun _=>mE.pure).mono (by omega) fun _=>Nat.add_sub_cancel _ _
 unfold uY
 exact(Lc.bind (s':=1) (k':=fun d=>d) fun t=>mE.ite (hs _) (mE.ite (hs _) (mE.ite (hs _) (Xj hL he)))).mono (by omega) fun _=>rfl
end
omit hL in
theorem sL {t:Token}{k kind:Nat}(h:oK t k=some kind):t.kind=4:=by
 unfold oK at h
 split at h
 ·assumption
 ·cases h
theorem TJ {next:PM XE}(hn:mE L 1 (fun d=>d) next) (k:Nat):∀(n:Nat) (x:XE),mE L 0 (fun d=>d) (q7 L next k n x)
 | 0,_=>mE.fail
 | n+1,x=>by
  unfold q7
  refine q9.all fun a ha=>q9.here ?_
  cases hs:oK (tk L a) k with
  | none=>exact mE.pure.at ha
  | some kind =>
   refine(q9.next (s:=0) (k:=fun d=>d) (qF (k:=4) hL ha (by decide) (sL hs)) (mE.ite ?_ ?_)).mono (by omega) fun _=>rfl
   ·exact((tD hL (by omega)).bind fun _=>TJ hn k n _).mono (by omega) fun _=>rfl
   ·exact(hn.bind fun _=>TJ hn k n _).mono (by omega) fun _=>rfl
theorem Bu {un:PM XE}(hu:mE L 1 (fun d=>d) un):∀j,mE L 1 (fun d=>d) (nR L un j)
 | 0=>hu
 | j+1=>((Bu hu j).bind fun _=>TJ hL (Bu hu j) _ _ _).mono (by omega) fun _=>rfl
theorem aaG {un:PM XE}(hu:mE L 1 (fun d=>d) un):mE L 1 (fun d=>d) (vQ L un):=by
 unfold vQ
 refine((Bu hL hu 6).bind (s':=0) (k':=fun d=>d) fun x=>q9.all fun a ha=>q9.here ?_).mono (by omega) fun _=>rfl
 cases hs:oK (tk L a) 0 with
 | none=>exact mE.pure.at ha
 | some kind =>
  refine(q9.next (s:=0) (k:=fun d=>d) (qF (k:=4) hL ha (by decide) (sL hs)) ?_).mono (by omega) fun _=>rfl
  exact((Bu hL hu 6).bind fun _=>mE.pure).mono (by omega) fun _=>rfl
theorem Pv:∀n,mE L 1 (fun d=>d) (Aq L n)
 | 0=>mE.fail
 | n+1=>ahZ hL (aaG hL (Pv n)) (Pv n)
theorem CP (n:Nat):mE L 1 (fun d=>d) (AE L n):=aaG hL (Pv hL n)
theorem Jc (n:Nat):mE L 1 (fun d=>d) (y9 L n):=by
 unfold y9
 exact((CP hL n).bind fun _=>(qV hL).bind fun _=>mE.pure).mono (by omega) fun _=>rfl
theorem ahY (n pos:Nat):mE L 1 (fun d=>d) (pG L n pos):=by
 unfold pG
 refine((tD hL (by omega)).bind (s':=0) (k':=fun d=>d) fun _=>(TI.bind (s':=0) (k':=fun d=>d) fun _=>mE.ite ?_ ?_).mono (by omega) fun _=>rfl).mono (by omega) fun _=>rfl
 ·exact((Ps hL (CP hL _)).bind fun _=>(qV hL).bind fun _=>mE.pure).mono (by omega) fun _=>rfl
 ·refine(TI.bind (s':=0) (k':=fun d=>d) fun _=>mE.ite ?_ ?_).mono (by omega) fun _=>rfl
  ·exact((GR hL (CP hL _)).bind fun _=>(qV hL).bind fun _=>(Jc hL _).bind fun _=>mE.pure).mono (by omega) fun _=>rfl
  ·exact((qV hL).bind fun _=>(Jc hL _).bind fun _=>mE.pure).mono (by omega) fun _=>rfl
theorem Pu {block:PM (List XS)}(hb:mE L 1 (fun d=>d) block) (n:Nat):mE L 1 (fun d=>d) (qM L block n):=by
 unfold qM
 refine(Lc.bind (s':=1) (k':=fun d=>d) fun _=>((AT hL).bind (s':=1) (k':=fun d=>d) fun _=>mE.ite ?_ ?_).mono (by omega) fun _=>rfl).mono (by omega) fun _=>rfl
 ·exact((tD hL (by omega)).bind fun _=>(qV hL).bind fun _=>(Jc hL _).bind fun _=>mE.pure).mono (by omega) fun _=>rfl
 refine((AT hL).bind (s':=1) (k':=fun d=>d) fun _=>mE.ite ?_ ?_).mono (by omega) fun _=>rfl
 ·exact((Bv hL).bind fun _=>(tD hL (by omega)).bind fun _=>(qV hL).bind fun _=>(GU hL).bind fun _=>(qV hL).bind fun _=>mE.pure).mono (by omega) fun _=>rfl
 refine((AT hL).bind (s':=1) (k':=fun d=>d) fun _=>mE.ite ?_ ?_).mono (by omega) fun _=>rfl
 ·refine((CP hL n).bind (s':=1) (k':=fun d=>d) fun _=>(hb.bind (s':=0) (k':=fun d=>d) fun _=>((AT hL).bind (s':=0) (k':=fun d=>d) fun _=>mE.ite ?_ mE.pure).mono (by omega) fun _=>rfl).mono (by omega) fun _=>rfl).mono (by omega) fun _=>rfl
  exact(hb.bind fun _=>mE.pure).mono (by omega) fun _=>rfl
 refine((AT hL).bind (s':=1) (k':=fun d=>d) fun _=>mE.ite ?_ ?_).mono (by omega) fun _=>rfl
 ·exact((tD hL (by omega)).bind fun _=>(qV hL).bind fun _=>(CP hL n).bind fun _=>(qV hL).bind fun _=>(tD hL (by omega)).bind fun _=>hb.bind fun _=>mE.pure).mono (by omega) fun _=>rfl
 refine((AT hL).bind (s':=1) (k':=fun d=>d) fun _=>mE.ite ?_ (ahY hL _ _)).mono (by omega) fun _=>rfl
 exact((Jc hL n).bind fun _=>mE.pure).mono (by omega) fun _=>rfl
omit hL in
theorem JO {stmt:PM XS}(hs:mE L 1 (fun d=>d) stmt):∀(m:Nat) (l:List XS),mE L 0 (fun d=>d) (vE L stmt m l)
 | 0,_=>mE.fail
 | m+1,l=>(TI.bind (s':=0) (k':=fun d=>d) fun _=>mE.ite mE.pure ((hs.bind fun _=>JO hs m _).mono (by omega) fun _=>rfl)).mono (by omega) fun _=>rfl
theorem Bt:∀n,mE L 1 (fun d=>d) (rD L n)
 | 0=>mE.fail
 | n+1=>((z8 hL).bind fun _=>(JO (Pu hL (Bt n) n) _ _).bind fun _=>(Ay hL).bind fun _=>mE.pure).mono (by omega) fun _=>Nat.add_sub_cancel _ _
theorem Lb:mE L 1 (fun d=>d) (wH L):=by
 unfold wH
 refine((qV hL).bind fun _=>(tD hL (by omega)).bind fun _=>(qV hL).bind fun _=>(FV hL (GV hL)).bind fun _=>(qV hL).bind fun _=>((AT hL).bind (s':=0) (k':=fun d=>d) fun _=>mE.ite ?_ ?_)).mono (by omega) fun _=>rfl
 ·exact((Bv hL).bind fun _=>(Er hL).bind fun _=>(Bt hL _).bind fun _=>mE.pure).mono (by omega) fun _=>rfl
 ·exact((Bt hL _).bind fun _=>mE.pure).mono (by omega) fun _=>rfl
end
end
end Go.Proofs.YtlddmnojanpdoaaGreatDoor
