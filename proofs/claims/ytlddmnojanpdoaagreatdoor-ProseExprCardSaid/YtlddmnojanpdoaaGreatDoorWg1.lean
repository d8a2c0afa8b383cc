/-
  The texts WG.M, WG.M2, WG.M3, WG.A, WG.B, WG.C, WG.D, WG.E, WG.F, WG.G, WG.H, WG.I, WG.J, WG.K, WG.L, WG.O, WG.Q, WG.R, WG.S1, WG.S2, one behind another. No conditions.
-/
import Derived.Test.YtlddmnojanpdoaaGreatDoorLg1
set_option linter.unusedVariables false
set_option linter.unusedSimpArgs false
set_option linter.all false
open Bool renaming and_eq_true → ad0, false_eq_true → ac1
open Int renaming natCast_add → ad5
open List renaming all_eq_true → af4, append_assoc → al8, append_nil → am4, cons_append → ae8, getD → aa5, getElem?_eq_getElem → ab8, getElem?_eq_some_iff → aa8, length → aa7, length_append → aa6, length_cons → ab0, length_map → al2, length_nil → ab3, map_append → al9, map_cons → af7, map_nil → al1, mem_of_getElem? → ad2, nil_append → ah4
open Nat renaming le_refl → ac8, zero_le → al7
open Option renaming bind_some → ae3
namespace Go.Proofs.YtlddmnojanpdoaaGreatDoor
noncomputable section
open Go Hk
def apT (K:kX) (a0 a1:kH) (h0:kL):Option (nH×kL) :=
 (kM (K 161 [(kH.kN a0)] h0) (fun t0 h1=>(kY a0).bind fun t2=>(kJ 1 t2).bind fun t3=>(lS false 1 h1 t3).bind fun t4=>kS (yV 6 1 1 1 h1 t4 a1) fun t5 h6=>(kY a0).bind fun t7=>(kJ 1 t7).bind fun t8=>(oZ 1 h6 t8 t5).bind fun h9=>(m_ a1).bind fun aE=>some (.ret,[aE,.niliface],h9)) (fun _ _=>none)).bind fun aC=>(fun aA aB aD=>Ex.mX aC.1 (lZ (aa7 h0) (.tuple [aA,aB]) aD)) (aa5 aC.2.1 0 .junk) (aa5 aC.2.1 1 .junk) aC.2.2
theorem aaD (K:kX) (a0 a1:kH) (h0:kL):pD Tryz.prog mK mL K 124 [a0,a1] h0=apT (lT mK K) a0 a1 h0:=by kernel_rfl
def Mu (K:kX) (m:Nat) (s:List kH×kL):Option R :=
 (fun aB aC aD aA h5=>(kR .lss aA aD).bind fun t6=>kV t6 ((k9 1 aC aA).bind fun t7=>(lS false 1 h5 t7).bind fun t8=>(kY aB).bind fun t9=>(kJ 0 t9).bind fun aF=>kM (K 124 [(kH.kN aF),(kH.kN t8)] h5) (fun aH aE=>(kR .add aA (.int .i64 1)).bind fun aG=>kW m .normal [aB,aC,aD,aG] aE) (fun _ _=>none)) (kW m (.exit 0) [aB,aC,aD,aA] h5)) (aa5 s.1 0 .junk) (aa5 s.1 1 .junk) (aa5 s.1 2 .junk) (aa5 s.1 3 .junk) s.2
def m68 (K:kX) (a0 a1:kH) (h0:kL):Option (nH×kL) :=
 ((mS a1).bind fun t0=>(mL (Mu K (aa7 h0)) ([a0,a1,t0,(.int .i64 0)],h0)).bind fun aA=>(fun aD aE aF aG aB=>Ex.lW aA.1 none (fun aH=>Ex.inBlock 0 aH (some (.normal,([]:List kH),aB)) (fun aI=>some (aI,([]:List kH),aB)))) (aa5 aA.2.1 0 .junk) (aa5 aA.2.1 1 .junk) (aa5 aA.2.1 2 .junk) (aa5 aA.2.1 3 .junk) aA.2.2).bind fun aC=>(fun aJ=>Ex.mX aC.1 (lZ (aa7 h0) (.tuple []) aJ))  aC.2.2
theorem ajP (K:kX) (a0 a1:kH) (h0:kL):pD Tryz.prog mK mL K 68 [a0,a1] h0=m68 (lT mK K) a0 a1 h0:=by kernel_rfl
def m84 (K:kX) (a0 a1:kH) (h0:kL):Option (nH×kL) :=
 (kM (K 89 [(kH.kN a1)] h0) (fun t0 h1=>kS (kU 1 1 [(.str [])] [(0,t0)] h1) fun t2 h3=>kM (K 68 [(kH.kN a0),(kH.kN t2)] h3) (fun t4 h5=>some (.normal,([]:List kH),h5)) (fun _ _=>none)) (fun _ _=>none)).bind fun r6=>(fun h7=>Ex.mX r6.1 (lZ (aa7 h0) (.tuple []) h7))  r6.2.2
theorem aj5 (K:kX) (a0 a1:kH) (h0:kL):pD Tryz.prog mK mL K 84 [a0,a1] h0=m84 (lT mK K) a0 a1 h0:=by kernel_rfl
def m85 (K:kX) (a0:kH) (h0:kL):Option (nH×kL) :=
 ((kY a0).bind fun t0=>(kJ 0 t0).bind fun t1=>(lS false 1 h0 t1).bind fun t2=>(kR .add t2 (.int .i64 1)).bind fun t3=>(kY a0).bind fun t4=>(kJ 0 t4).bind fun t5=>(oZ 1 h0 t5 t3).bind fun h6=>(kY a0).bind fun t7=>(kJ 1 t7).bind fun t8=>(lS false 1 h6 t8).bind fun t9=>(kI false t9 (kQ a0 h6) (kQ (.tuple []) h6)).bind (kP (fun aI aB=>(kI false t9 ((kY aI).bind fun aJ=>kQ aJ aB) (kQ (.tuple []) aB)).bind (kP (fun aK aC=>(kI false t9 ((kJ 0 aK).bind fun aL=>kQ aL aC) (kQ (.tuple []) aC)).bind (kP (fun aM aA=>(kI false t9 ((lS false 1 aA aM).bind fun aN=>kQ aN aA) (kQ (.tuple []) aA)).bind (kP (fun aO aD=>(kI false t9 ((kR .gtr aO (.int .i64 64)).bind fun aP=>kQ aP aD) (kQ (.tuple []) aD)).bind (kP (fun aQ aF=>(lL t9 (.bool true) aQ).bind fun aR=>(kY a0).bind fun aS=>(kJ 1 aS).bind fun aT=>(oZ 1 aF aT aR).bind fun aG=>some (.normal,([]:List kH),aG)) (fun _ _=>none))) (fun _ _=>none))) (fun _ _=>none))) (fun _ _=>none))) (fun _ _=>none))).bind fun aE=>(fun aH=>Ex.mX aE.1 (lZ (aa7 h0) (.tuple []) aH))  aE.2.2
theorem aj6 (K:kX) (a0:kH) (h0:kL):pD Tryz.prog mK mL K 85 [a0] h0=m85 (lT mK K) a0 h0:=by kernel_rfl
def m86 (K:kX) (a0:kH) (h0:kL):Option (nH×kL) :=
 ((kY a0).bind fun t0=>(kJ 0 t0).bind fun t1=>(lS false 1 h0 t1).bind fun t2=>(kR .sub t2 (.int .i64 1)).bind fun t3=>(kY a0).bind fun t4=>(kJ 0 t4).bind fun t5=>(oZ 1 h0 t5 t3).bind fun h6=>some (.normal,([]:List kH),h6)).bind fun r7=>(fun h8=>Ex.mX r7.1 (lZ (aa7 h0) (.tuple []) h8))  r7.2.2
theorem aj7 (K:kX) (a0:kH) (h0:kL):pD Tryz.prog mK mL K 86 [a0] h0=m86 (lT mK K) a0 h0:=by kernel_rfl
def m69 (K:kX) (a0 a1:kH) (h0:kL):Option (nH×kL) :=
 ((kR .eql a1 (.int .i64 1)).bind fun t0=>kV t0 (kS (kU 1 1 [(.str [])] [(0,(.str [115,101,99,32]))] h0) fun t1 h2=>kM (K 68 [(kH.kN a0),(kH.kN t1)] h2) (fun t3 h4=>some (.ret,([]:List kH),h4)) (fun _ _=>none)) (kS (kU 1 1 [(.str [])] [(0,(.str [112,117,98,32]))] h0) fun t5 h6=>kM (K 68 [(kH.kN a0),(kH.kN t5)] h6) (fun t7 h8=>some (.normal,([]:List kH),h8)) (fun _ _=>none))).bind fun r9=>(fun aA=>Ex.mX r9.1 (lZ (aa7 h0) (.tuple []) aA))  r9.2.2
theorem ajQ (K:kX) (a0 a1:kH) (h0:kL):pD Tryz.prog mK mL K 69 [a0,a1] h0=m69 (lT mK K) a0 a1 h0:=by kernel_rfl
def m70 (K:kX) (a0 a1:kH) (h0:kL):Option (nH×kL) :=
 (kS (lO 3 h0 a1) fun t0 h1=>(kJ 0 t0).bind fun t2=>(lS false 1 h1 t2).bind fun t3=>(kR .eql t3 (.int .i64 1)).bind fun t4=>(kV t4 (kS (kU 1 1 [(.str [])] [(0,(.str [109,97,115,107]))] h1) fun t5 h6=>kM (K 68 [(kH.kN a0),(kH.kN t5)] h6) (fun t7 h8=>kW (aa7 h1) .normal [a0,t0] h8) (fun _ _=>none)) ((kR .eql t3 (.int .i64 2)).bind fun t9=>(kV t9 (kS (kU 1 1 [(.str [])] [(0,(.str [117,56]))] h1) fun aT aJ=>kM (K 68 [(kH.kN a0),(kH.kN aT)] aJ) (fun bB aK=>kW (aa7 h1) .normal [a0,t0] aK) (fun _ _=>none)) (kS (kU 1 1 [(.str [])] [(0,(.str [117,51,50]))] h1) fun aU aL=>kM (K 68 [(kH.kN a0),(kH.kN aU)] aL) (fun bC aM=>kW (aa7 h1) .normal [a0,t0] aM) (fun _ _=>none))).bind fun aF=>(fun aC aE aN=>Ex.sO aF.1 (kW (aa7 h1) .normal [aC,aE] aN)) (aa5 aF.2.1 0 .junk) (aa5 aF.2.1 1 .junk) aF.2.2)).bind fun aG=>(fun aD aA aB=>Ex.sO aG.1 ((kJ 1 aA).bind fun aV=>(lS false 1 aB aV).bind fun aW=>(kR .gtr aW (.int .i64 0)).bind fun aX=>(kV aX ((kJ 1 aA).bind fun aY=>(lS false 1 aB aY).bind fun aZ=>kM (K 89 [(kH.kN aZ)] aB) (fun a_ aO=>kS (kU 3 1 [(.str [])] [(0,(.str [91])),(1,a_),(2,(.str [93]))] aO) fun bA aP=>kM (K 68 [(kH.kN aD),(kH.kN bA)] aP) (fun bD aQ=>kW (aa7 aB) .normal ([]:List kH) aQ) (fun _ _=>none)) (fun _ _=>none)) (kW (aa7 aB) .normal ([]:List kH) aB)).bind fun aH=>(fun aR=>Ex.sO aH.1 (some (.normal,([]:List kH),aR)))  aH.2.2)) (aa5 aG.2.1 0 .junk) (aa5 aG.2.1 1 .junk) aG.2.2).bind fun aI=>(fun aS=>Ex.mX aI.1 (lZ (aa7 h0) (.tuple []) aS))  aI.2.2
theorem ajS (K:kX) (a0 a1:kH) (h0:kL):pD Tryz.prog mK mL K 70 [a0,a1] h0=m70 (lT mK K) a0 a1 h0:=by kernel_rfl
def m83 (K:kX) (a0 a1 a2:kH) (h0:kL):Option (nH×kL) :=
 (kS (lO 5 h0 a1) fun t0 h1=>(kJ 0 t0).bind fun t2=>(lS false 1 h1 t2).bind fun t3=>kM (K 82 [(kH.kN t3)] h1) (fun t4 h5=>(lK 0 t4).bind fun t6=>(lK 1 t4).bind fun t7=>(kR .gtr t6 (.int .i64 0)).bind fun t8=>(kI true t8 (kQ t6 h5) (kQ (.tuple []) h5)).bind (kP (fun t9 aB=>(kI true t8 (kQ a2 aB) (kQ (.tuple []) aB)).bind (kP (fun aH aC=>(kI true t8 ((kR .lss t9 aH).bind fun aI=>kQ aI aC) (kQ (.tuple []) aC)).bind (kP (fun aJ aA=>(lL t8 aJ (.bool false)).bind fun aK=>kV aK ((lS true 5 aA t0).bind fun aL=>kM (K 129 [(kH.kN a0),(kH.kN aL)] aA) (fun aN aE=>some (.ret,([]:List kH),aE)) (fun _ _=>none)) ((lS true 5 aA t0).bind fun aM=>kM (K 37 [(kH.kN a0),(kH.kN aM)] aA) (fun aO aF=>some (.normal,([]:List kH),aF)) (fun _ _=>none))) (fun _ _=>none))) (fun _ _=>none))) (fun _ _=>none))) (fun _ _=>none)).bind fun aD=>(fun aG=>Ex.mX aD.1 (lZ (aa7 h0) (.tuple []) aG))  aD.2.2
theorem aj4 (K:kX) (a0 a1 a2:kH) (h0:kL):pD Tryz.prog mK mL K 83 [a0,a1,a2] h0=m83 (lT mK K) a0 a1 a2 h0:=by kernel_rfl
def apV (K:kX) (a0 a1:kH) (h0:kL):Option (nH×kL) :=
 (kS (lO 5 h0 a1) fun t0 h1=>kS (kU 1 1 [(.str [])] [(0,(.str [40]))] h1) fun t2 h3=>kM (K 68 [(kH.kN a0),(kH.kN t2)] h3) (fun t4 h5=>(kY a0).bind fun t6=>(kJ 2 t6).bind fun t7=>kM (K 85 [(kH.kN t7)] h5) (fun t8 h9=>(lS true 5 h9 t0).bind fun aG=>kM (K 37 [(kH.kN a0),(kH.kN aG)] h9) (fun aK aB=>(kY a0).bind fun aH=>(kJ 2 aH).bind fun aI=>kM (K 86 [(kH.kN aI)] aB) (fun aL aC=>kS (kU 1 1 [(.str [])] [(0,(.str [41]))] aC) fun aJ aD=>kM (K 68 [(kH.kN a0),(kH.kN aJ)] aD) (fun aM aE=>some (.normal,([]:List kH),aE)) (fun _ _=>none)) (fun _ _=>none)) (fun _ _=>none)) (fun _ _=>none)) (fun _ _=>none)).bind fun aA=>(fun aF=>Ex.mX aA.1 (lZ (aa7 h0) (.tuple []) aF))  aA.2.2
theorem aaF (K:kX) (a0 a1:kH) (h0:kL):pD Tryz.prog mK mL K 129 [a0,a1] h0=apV (lT mK K) a0 a1 h0:=by kernel_rfl
def m88 (K:kX) (a0 a1 a2:kH) (h0:kL):Option (nH×kL) :=
 (kS (lO 5 h0 a2) fun t0 h1=>kS (kU 1 1 [(.str [])] [(0,a1)] h1) fun t2 h3=>kM (K 68 [(kH.kN a0),(kH.kN t2)] h3) (fun t4 h5=>(kY a0).bind fun t6=>(kJ 2 t6).bind fun t7=>kM (K 85 [(kH.kN t7)] h5) (fun t8 h9=>(lS true 5 h9 t0).bind fun aE=>kM (K 83 [(kH.kN a0),(kH.kN aE),(kH.kN (.int .i64 8))] h9) (fun aH aB=>(kY a0).bind fun aF=>(kJ 2 aF).bind fun aG=>kM (K 86 [(kH.kN aG)] aB) (fun aI aC=>some (.normal,([]:List kH),aC)) (fun _ _=>none)) (fun _ _=>none)) (fun _ _=>none)) (fun _ _=>none)).bind fun aA=>(fun aD=>Ex.mX aA.1 (lZ (aa7 h0) (.tuple []) aD))  aA.2.2
theorem aj9 (K:kX) (a0 a1 a2:kH) (h0:kL):pD Tryz.prog mK mL K 88 [a0,a1,a2] h0=m88 (lT mK K) a0 a1 a2 h0:=by kernel_rfl
def I7 (K:kX) (m:Nat) (s:List kH×kL):Option R :=
 (fun aE aD aB aC aA aN=>(kR .lss aA aC).bind fun aU=>kV aU ((k9 5 aB aA).bind fun aV=>(lS true 5 aN aV).bind fun aW=>kS (lO 5 aN (.agg [(.int .i64 0),(.int .i64 0),(.int .i64 0),(.str []),(.slice [] .nil)])) fun aO aQ=>(oZ 5 aQ aO aW).bind fun aM=>(kR .gtr aA (.int .i64 0)).bind fun aX=>(kV aX (kS (kU 1 1 [(.str [])] [(0,(.str [44,32]))] aM) fun aY aR=>kM (K 68 [(kH.kN aE),(kH.kN aY)] aR) (fun bA aS=>kW (aa7 aM) .normal [aE,aD,aO,aB,aC,aA] aS) (fun _ _=>none)) (kW (aa7 aM) .normal [aE,aD,aO,aB,aC,aA] aM)).bind fun aF=>(fun aG aK aL aH aI aJ aP=>Ex.sO aF.1 ((lS true 5 aP aL).bind fun aZ=>kM (K 37 [(kH.kN aG),(kH.kN aZ)] aP) (fun bB aT=>(kR .add aJ (.int .i64 1)).bind fun a_=>kW m .normal [aG,aK,aH,aI,a_] aT) (fun _ _=>none))) (aa5 aF.2.1 0 .junk) (aa5 aF.2.1 1 .junk) (aa5 aF.2.1 2 .junk) (aa5 aF.2.1 3 .junk) (aa5 aF.2.1 4 .junk) (aa5 aF.2.1 5 .junk) aF.2.2) (kW m (.exit 0) [aE,aD,aB,aC,aA] aN)) (aa5 s.1 0 .junk) (aa5 s.1 1 .junk) (aa5 s.1 2 .junk) (aa5 s.1 3 .junk) (aa5 s.1 4 .junk) s.2
def m87 (K:kX) (a0 a1 a2 a3:kH) (h0:kL):Option (nH×kL) :=
 (kS (kU 2 1 [(.str [])] [(0,a1),(1,(.str [40]))] h0) fun t0 h1=>kM (K 68 [(kH.kN a0),(kH.kN t0)] h1) (fun t2 h3=>(kY a0).bind fun t4=>(kJ 2 t4).bind fun t5=>kM (K 85 [(kH.kN t5)] h3) (fun t6 h7=>(mS a2).bind fun t8=>(mL (I7 K (aa7 h7)) ([a0,a3,a2,t8,(.int .i64 0)],h7)).bind fun aB=>(fun aA aC aD aE aF aG=>Ex.lW aB.1 none (fun aI=>Ex.inBlock 0 aI (kS (kU 2 1 [(.str [])] [(0,aC),(1,(.str [41]))] aG) fun aO aK=>kM (K 68 [(kH.kN aA),(kH.kN aO)] aK) (fun aR aL=>(kY aA).bind fun aP=>(kJ 2 aP).bind fun aQ=>kM (K 86 [(kH.kN aQ)] aL) (fun aS aM=>some (.normal,([]:List kH),aM)) (fun _ _=>none)) (fun _ _=>none)) (fun aJ=>some (aJ,([]:List kH),aG)))) (aa5 aB.2.1 0 .junk) (aa5 aB.2.1 1 .junk) (aa5 aB.2.1 2 .junk) (aa5 aB.2.1 3 .junk) (aa5 aB.2.1 4 .junk) aB.2.2) (fun _ _=>none)) (fun _ _=>none)).bind fun aH=>(fun aN=>Ex.mX aH.1 (lZ (aa7 h0) (.tuple []) aN))  aH.2.2
theorem aj8 (K:kX) (a0 a1 a2 a3:kH) (h0:kL):pD Tryz.prog mK mL K 87 [a0,a1,a2,a3] h0=m87 (lT mK K) a0 a1 a2 a3 h0:=by kernel_rfl
def O3 (K:kX) (a0 a1:kH) (h0:kL):Option (nH×kL) :=
 (kS (lO 5 h0 a1) fun t0 h1=>(kJ 0 t0).bind fun t2=>(lS false 1 h1 t2).bind fun t3=>kM (K 82 [(kH.kN t3)] h1) (fun t4 h5=>(lK 0 t4).bind fun t6=>(lK 1 t4).bind fun t7=>(kR .gtr t6 (.int .i64 0)).bind fun t8=>kV t8 ((kR .eql t6 (.int .i64 1)).bind fun t9=>(kV t9 (kW (aa7 h5) .normal [a0,t0,t6,t7,(.int .i64 2)] h5) (kW (aa7 h5) .normal [a0,t0,t6,t7,t6] h5)).bind fun aD=>(fun aA aB aQ aR aS bK=>Ex.sO aD.1 ((kJ 4 aB).bind fun c_=>(lS false 1 bK c_).bind fun dA=>(k9 5 dA (.int .i64 0)).bind fun dB=>(lS true 5 bK dB).bind fun dC=>kM (K 83 [(kH.kN aA),(kH.kN dC),(kH.kN aS)] bK) (fun fB cI=>kS (kU 3 1 [(.str [])] [(0,(.str [32])),(1,aR),(2,(.str [32]))] cI) fun dD cJ=>kM (K 68 [(kH.kN aA),(kH.kN dD)] cJ) (fun fC aF=>(kJ 4 aB).bind fun dE=>(lS false 1 aF dE).bind fun dF=>(mS dF).bind fun dG=>(kR .eql dG (.int .i64 1)).bind fun dH=>kV dH ((kJ 2 aB).bind fun dI=>(lS false 1 aF dI).bind fun dJ=>kM (K 84 [(kH.kN aA),(kH.kN dJ)] aF) (fun fD cK=>some (.ret,([]:List kH),cK)) (fun _ _=>none)) ((kJ 4 aB).bind fun dK=>(lS false 1 aF dK).bind fun dL=>(k9 5 dL (.int .i64 1)).bind fun dM=>(lS true 5 aF dM).bind fun dN=>(kR .add aQ (.int .i64 1)).bind fun dO=>kM (K 83 [(kH.kN aA),(kH.kN dN),(kH.kN dO)] aF) (fun fE cL=>some (.ret,([]:List kH),cL)) (fun _ _=>none))) (fun _ _=>none)) (fun _ _=>none))) (aa5 aD.2.1 0 .junk) (aa5 aD.2.1 1 .junk) (aa5 aD.2.1 2 .junk) (aa5 aD.2.1 3 .junk) (aa5 aD.2.1 4 .junk) aD.2.2) ((kJ 0 t0).bind fun dP=>(lS false 1 h5 dP).bind fun aC=>(kR .eql aC (.int .i64 1)).bind fun dQ=>(kV dQ ((kJ 2 t0).bind fun dR=>(lS false 1 h5 dR).bind fun dU=>kM (K 84 [(kH.kN a0),(kH.kN dU)] h5) (fun fF cM=>kW (aa7 h5) .normal ([]:List kH) cM) (fun _ _=>none)) ((kR .eql aC (.int .i64 2)).bind fun dV=>(kV dV ((kJ 3 t0).bind fun dW=>(lS false 1 h5 dW).bind fun dX=>kS (kU 1 1 [(.str [])] [(0,dX)] h5) fun dY cN=>kM (K 68 [(kH.kN a0),(kH.kN dY)] cN) (fun fH cO=>kW (aa7 h5) .normal ([]:List kH) cO) (fun _ _=>none)) ((kR .eql aC (.int .i64 3)).bind fun dZ=>(kV dZ ((kJ 3 t0).bind fun d_=>(lS false 1 h5 d_).bind fun eA=>kS (kU 2 1 [(.str [])] [(0,eA),(1,(.str [91]))] h5) fun eB cP=>kM (K 68 [(kH.kN a0),(kH.kN eB)] cP) (fun fI cQ=>(kY a0).bind fun eC=>(kJ 2 eC).bind fun eD=>kM (K 85 [(kH.kN eD)] cQ) (fun fJ bO=>(kJ 4 t0).bind fun eE=>(lS false 1 bO eE).bind fun eF=>(k9 5 eF (.int .i64 0)).bind fun eG=>(lS true 5 bO eG).bind fun eH=>kM (K 37 [(kH.kN a0),(kH.kN eH)] bO) (fun fK cR=>(kY a0).bind fun eI=>(kJ 2 eI).bind fun eJ=>kM (K 86 [(kH.kN eJ)] cR) (fun fL cS=>kS (kU 1 1 [(.str [])] [(0,(.str [93]))] cS) fun eK cT=>kM (K 68 [(kH.kN a0),(kH.kN eK)] cT) (fun fM cU=>kW (aa7 h5) .normal ([]:List kH) cU) (fun _ _=>none)) (fun _ _=>none)) (fun _ _=>none)) (fun _ _=>none)) (fun _ _=>none)) ((kR .eql aC (.int .i64 4)).bind fun eL=>(kV eL ((kJ 3 t0).bind fun eM=>(lS false 1 h5 eM).bind fun eN=>(kJ 4 t0).bind fun eO=>(lS false 1 h5 eO).bind fun eP=>kM (K 87 [(kH.kN a0),(kH.kN eN),(kH.kN eP),(kH.kN (.str []))] h5) (fun fN cV=>kW (aa7 h5) .normal ([]:List kH) cV) (fun _ _=>none)) ((kR .eql aC (.int .i64 5)).bind fun eQ=>(kV eQ ((kJ 4 t0).bind fun eR=>(lS false 1 h5 eR).bind fun eS=>(k9 5 eS (.int .i64 0)).bind fun eT=>(lS true 5 h5 eT).bind fun eU=>kM (K 88 [(kH.kN a0),(kH.kN (.str [126])),(kH.kN eU)] h5) (fun fO cW=>kW (aa7 h5) .normal ([]:List kH) cW) (fun _ _=>none)) ((kR .eql aC (.int .i64 6)).bind fun eV=>(kV eV ((kJ 4 t0).bind fun eX=>(lS false 1 h5 eX).bind fun eY=>(k9 5 eY (.int .i64 0)).bind fun eZ=>(lS true 5 h5 eZ).bind fun e_=>kM (K 88 [(kH.kN a0),(kH.kN (.str [45])),(kH.kN e_)] h5) (fun cX aT=>kW (aa7 h5) .normal ([]:List kH) aT) (fun _ _=>none)) ((kR .eql aC (.int .i64 7)).bind fun bP=>(kV bP ((kJ 4 t0).bind fun bQ=>(lS false 1 h5 bQ).bind fun bR=>(k9 5 bR (.int .i64 0)).bind fun bS=>(lS true 5 h5 bS).bind fun bT=>kM (K 88 [(kH.kN a0),(kH.kN (.str [33])),(kH.kN bT)] h5) (fun cY aU=>kW (aa7 h5) .normal ([]:List kH) aU) (fun _ _=>none)) ((kR .eql aC (.int .i64 23)).bind fun bU=>(kV bU ((kJ 4 t0).bind fun bV=>(lS false 1 h5 bV).bind fun bW=>kM (K 87 [(kH.kN a0),(kH.kN (.str [109,117,108,104,105])),(kH.kN bW),(kH.kN (.str []))] h5) (fun cZ aV=>kW (aa7 h5) .normal ([]:List kH) aV) (fun _ _=>none)) ((kR .eql aC (.int .i64 24)).bind fun bX=>(kV bX ((kJ 4 t0).bind fun bY=>(lS false 1 h5 bY).bind fun bZ=>kM (K 87 [(kH.kN a0),(kH.kN (.str [99,97,114,114,121])),(kH.kN bZ),(kH.kN (.str []))] h5) (fun c6 aW=>kW (aa7 h5) .normal ([]:List kH) aW) (fun _ _=>none)) ((kR .eql aC (.int .i64 25)).bind fun b7=>(kV b7 ((kJ 4 t0).bind fun b8=>(lS false 1 h5 b8).bind fun b9=>kM (K 87 [(kH.kN a0),(kH.kN (.str [115,101,108,101,99,116])),(kH.kN b9),(kH.kN (.str []))] h5) (fun c7 aX=>kW (aa7 h5) .normal ([]:List kH) aX) (fun _ _=>none)) ((kR .eql aC (.int .i64 26)).bind fun b_=>(kV b_ ((kJ 4 t0).bind fun cA=>(lS false 1 h5 cA).bind fun cB=>kM (K 87 [(kH.kN a0),(kH.kN (.str [119,111,114,100])),(kH.kN cB),(kH.kN (.str []))] h5) (fun c8 aY=>kW (aa7 h5) .normal ([]:List kH) aY) (fun _ _=>none)) ((kR .eql aC (.int .i64 16)).bind fun cC=>(kV cC ((kJ 4 t0).bind fun aE=>(lS false 1 h5 aE).bind fun cD=>(kJ 2 t0).bind fun cE=>(lS false 1 h5 cE).bind fun cF=>kM (K 89 [(kH.kN cF)] (nB (k_ [0] [aE]) h5)) (fun cG aZ=>(kR .add (.str [44,32]) cG).bind fun cH=>kM (K 87 [(kH.kN a0),(kH.kN (.str [114,111,114])),(kH.kN cD),(kH.kN cH)] (lM (k_ [0] [aE]) h5 aZ)) (fun c9 a_=>kW (aa7 h5) .normal ([]:List kH) a_) (fun _ _=>none)) (fun _ _=>none)) (kW (aa7 h5) .normal ([]:List kH) h5)).bind fun aG=>(fun bA=>Ex.sO aG.1 (kW (aa7 h5) .normal ([]:List kH) bA))  aG.2.2)).bind fun aH=>(fun bB=>Ex.sO aH.1 (kW (aa7 h5) .normal ([]:List kH) bB))  aH.2.2)).bind fun aI=>(fun bC=>Ex.sO aI.1 (kW (aa7 h5) .normal ([]:List kH) bC))  aI.2.2)).bind fun aJ=>(fun bD=>Ex.sO aJ.1 (kW (aa7 h5) .normal ([]:List kH) bD))  aJ.2.2)).bind fun OC=>(fun bE=>Ex.sO OC.1 (kW (aa7 h5) .normal ([]:List kH) bE))  OC.2.2)).bind fun W2=>(fun bF=>Ex.sO W2.1 (kW (aa7 h5) .normal ([]:List kH) bF))  W2.2.2)).bind fun W4=>(fun bG=>Ex.sO W4.1 (kW (aa7 h5) .normal ([]:List kH) bG))  W4.2.2)).bind fun aK=>(fun bH=>Ex.sO aK.1 (kW (aa7 h5) .normal ([]:List kH) bH))  aK.2.2)).bind fun aL=>(fun bI=>Ex.sO aL.1 (kW (aa7 h5) .normal ([]:List kH) bI))  aL.2.2)).bind fun aM=>(fun bJ=>Ex.sO aM.1 (kW (aa7 h5) .normal ([]:List kH) bJ))  aM.2.2)).bind fun aN=>(fun bL=>Ex.sO aN.1 (kW (aa7 h5) .normal ([]:List kH) bL))  aN.2.2)).bind fun aO=>(fun bM=>Ex.sO aO.1 (some (.normal,([]:List kH),bM)))  aO.2.2)) (fun _ _=>none)).bind fun aP=>(fun bN=>Ex.mX aP.1 (lZ (aa7 h0) (.tuple []) bN))  aP.2.2
theorem C5 (K:kX) (a0 a1:kH) (h0:kL):pD Tryz.prog mK mL K 37 [a0,a1] h0=O3 (lT mK K) a0 a1 h0:=by kernel_rfl
def apU (K:kX) (a0:kH) (h0:kL):Option (nH×kL) :=
 ((kY a0).bind fun t0=>(kJ 4 t0).bind fun t1=>(lS false 1 h0 t1).bind fun t2=>kM (K 162 [(kH.kN (.str [32])),(kH.kN t2)] h0) (fun t3 h4=>kS (kU 1 1 [(.str [])] [(0,t3)] h4) fun t5 h6=>kM (K 68 [(kH.kN a0),(kH.kN t5)] h6) (fun t7 h8=>some (.normal,([]:List kH),h8)) (fun _ _=>none)) (fun _ _=>none)).bind fun r9=>(fun aA=>Ex.mX r9.1 (lZ (aa7 h0) (.tuple []) aA))  r9.2.2
theorem aaE (K:kX) (a0:kH) (h0:kL):pD Tryz.prog mK mL K 125 [a0] h0=apU (lT mK K) a0 h0:=by kernel_rfl
def Mv (K:kX) (m:Nat) (s:List kH×kL):Option R :=
 (fun aB aC aD aA aE=>(kR .lss aA aD).bind fun aM=>kV aM ((k9 11 aC aA).bind fun aN=>(lS true 11 aE aN).bind fun aO=>kS (lO 11 aE (.agg [(.int .i64 0),(.int .i64 0),(.int .i64 0),(.str []),(.int .i64 0),(.int .i64 0),(.int .i64 0),(.slice [] .nil),(.slice [] .nil),(.slice [] .nil),(.bool false)])) fun aG aH=>(oZ 11 aH aG aO).bind fun aI=>kM (K 125 [(kH.kN aB)] aI) (fun aS aF=>(lS true 11 aF aG).bind fun aP=>kM (K 126 [(kH.kN aB),(kH.kN aP)] aF) (fun aT aJ=>kS (kU 1 1 [(.str [])] [(0,(.str [10]))] aJ) fun aQ aK=>kM (K 68 [(kH.kN aB),(kH.kN aQ)] aK) (fun aU aL=>(kR .add aA (.int .i64 1)).bind fun aR=>kW m .normal [aB,aC,aD,aR] aL) (fun _ _=>none)) (fun _ _=>none)) (fun _ _=>none)) (kW m (.exit 0) [aB,aC,aD,aA] aE)) (aa5 s.1 0 .junk) (aa5 s.1 1 .junk) (aa5 s.1 2 .junk) (aa5 s.1 3 .junk) s.2
def m71 (K:kX) (a0 a1:kH) (h0:kL):Option (nH×kL) :=
 (kS (kU 1 1 [(.str [])] [(0,(.str [32,123,10]))] h0) fun t0 h1=>kM (K 68 [(kH.kN a0),(kH.kN t0)] h1) (fun t2 h3=>(kY a0).bind fun t4=>(kJ 2 t4).bind fun t5=>kM (K 85 [(kH.kN t5)] h3) (fun t6 h7=>(kY a0).bind fun t8=>(kJ 4 t8).bind fun t9=>(lS false 1 h7 t9).bind fun aQ=>(kR .add aQ (.int .i64 1)).bind fun aR=>(kY a0).bind fun aS=>(kJ 4 aS).bind fun aT=>(oZ 1 h7 aT aR).bind fun aG=>(mS a1).bind fun aU=>(mL (Mv K (aa7 aG)) ([a0,a1,aU,(.int .i64 0)],aG)).bind fun aB=>(fun aA aD aE aF aC=>Ex.lW aB.1 none (fun aI=>Ex.inBlock 0 aI ((kY aA).bind fun aV=>(kJ 4 aV).bind fun aW=>(lS false 1 aC aW).bind fun aX=>(kR .sub aX (.int .i64 1)).bind fun aY=>(kY aA).bind fun aZ=>(kJ 4 aZ).bind fun a_=>(oZ 1 aC a_ aY).bind fun aK=>kM (K 125 [(kH.kN aA)] aK) (fun bD aL=>(kY aA).bind fun bA=>(kJ 2 bA).bind fun bB=>kM (K 86 [(kH.kN bB)] aL) (fun bE aM=>kS (kU 1 1 [(.str [])] [(0,(.str [125]))] aM) fun bC aN=>kM (K 68 [(kH.kN aA),(kH.kN bC)] aN) (fun bF aO=>some (.normal,([]:List kH),aO)) (fun _ _=>none)) (fun _ _=>none)) (fun _ _=>none)) (fun aJ=>some (aJ,([]:List kH),aC)))) (aa5 aB.2.1 0 .junk) (aa5 aB.2.1 1 .junk) (aa5 aB.2.1 2 .junk) (aa5 aB.2.1 3 .junk) aB.2.2) (fun _ _=>none)) (fun _ _=>none)).bind fun aH=>(fun aP=>Ex.mX aH.1 (lZ (aa7 h0) (.tuple []) aP))  aH.2.2
theorem ajT (K:kX) (a0 a1:kH) (h0:kL):pD Tryz.prog mK mL K 71 [a0,a1] h0=m71 (lT mK K) a0 a1 h0:=by kernel_rfl
def Ki (K:kX) (a0 a1:kH) (h0:kL):Option (nH×kL) :=
 (kS (lO 11 h0 a1) fun t0 h1=>(kJ 0 t0).bind fun t2=>(lS false 1 h1 t2).bind fun t3=>((kR .eql t3 (.int .i64 1)).bind fun t4=>(kV t4 ((kJ 3 t0).bind fun t5=>(lS false 1 h1 t5).bind fun t6=>kS (kU 3 1 [(.str [])] [(0,(.str [108,101,116,32])),(1,t6),(2,(.str [32,61,32]))] h1) fun t7 h8=>kM (K 68 [(kH.kN a0),(kH.kN t7)] h8) (fun t9 cD=>kW (aa7 h1) .normal [a0,t0] cD) (fun _ _=>none)) ((kR .eql t3 (.int .i64 2)).bind fun cV=>kV cV (kS (kU 1 1 [(.str [])] [(0,(.str [118,97,114,32]))] h1) fun cX cE=>kM (K 68 [(kH.kN a0),(kH.kN cX)] cE) (fun eP b8=>(kJ 4 t0).bind fun c6=>(kJ 2 c6).bind fun c7=>(lS false 1 b8 c7).bind fun c8=>kM (K 69 [(kH.kN a0),(kH.kN c8)] b8) (fun eQ b9=>(kJ 3 t0).bind fun c9=>(lS false 1 b9 c9).bind fun c_=>kS (kU 2 1 [(.str [])] [(0,c_),(1,(.str [58,32]))] b9) fun dA cF=>kM (K 68 [(kH.kN a0),(kH.kN dA)] cF) (fun eR b_=>(kJ 4 t0).bind fun dB=>(lS true 3 b_ dB).bind fun dC=>kM (K 70 [(kH.kN a0),(kH.kN dC)] b_) (fun eS cG=>kS (kU 1 1 [(.str [])] [(0,(.str [59]))] cG) fun dD cH=>kM (K 68 [(kH.kN a0),(kH.kN dD)] cH) (fun eT cI=>kW (aa7 h1) .ret [a0,t0] cI) (fun _ _=>none)) (fun _ _=>none)) (fun _ _=>none)) (fun _ _=>none)) (fun _ _=>none)) ((kR .eql t3 (.int .i64 3)).bind fun dE=>(kV dE ((kJ 3 t0).bind fun dF=>(lS false 1 h1 dF).bind fun dG=>kS (kU 2 1 [(.str [])] [(0,dG),(1,(.str [32,61,32]))] h1) fun dH cJ=>kM (K 68 [(kH.kN a0),(kH.kN dH)] cJ) (fun eU cK=>kW (aa7 h1) .normal [a0,t0] cK) (fun _ _=>none)) ((kR .eql t3 (.int .i64 4)).bind fun dI=>(kV dI ((kJ 3 t0).bind fun dJ=>(lS false 1 h1 dJ).bind fun dK=>(kJ 7 t0).bind fun dL=>(lS false 1 h1 dL).bind fun dM=>(sY 5 dM none (some (.int .i64 1))).bind fun dN=>(lR [(.int .i64 0),(.int .i64 0),(.int .i64 0),(.str []),(.slice [] .nil)] [(0,1),(1,1),(2,1),(3,1),(4,1)] [(0,(.int .i64 3)),(3,dK),(4,dN)]).bind fun dO=>kM (K 37 [(kH.kN a0),(kH.kN dO)] h1) (fun eV cL=>kS (kU 1 1 [(.str [])] [(0,(.str [32,61,32]))] cL) fun dP cM=>kM (K 68 [(kH.kN a0),(kH.kN dP)] cM) (fun eX cN=>kW (aa7 h1) .normal [a0,t0] cN) (fun _ _=>none)) (fun _ _=>none)) ((kR .eql t3 (.int .i64 5)).bind fun dQ=>kV dQ (kS (kU 1 1 [(.str [])] [(0,(.str [105,102,32]))] h1) fun dR cO=>kM (K 68 [(kH.kN a0),(kH.kN dR)] cO) (fun eY bL=>(kJ 7 t0).bind fun dU=>(lS false 1 bL dU).bind fun dV=>(k9 5 dV (.int .i64 0)).bind fun dW=>(lS true 5 bL dW).bind fun dX=>kM (K 37 [(kH.kN a0),(kH.kN dX)] bL) (fun eZ cA=>(kJ 8 t0).bind fun dY=>(lS false 1 cA dY).bind fun dZ=>kM (K 71 [(kH.kN a0),(kH.kN dZ)] cA) (fun e_ aU=>(kJ 10 t0).bind fun d_=>(lS false 1 aU d_).bind fun eA=>(kV eA (kS (kU 1 1 [(.str [])] [(0,(.str [32,101,108,115,101]))] aU) fun eB cP=>kM (K 68 [(kH.kN a0),(kH.kN eB)] cP) (fun fB cB=>(kJ 9 t0).bind fun eC=>(lS false 1 cB eC).bind fun eD=>kM (K 71 [(kH.kN a0),(kH.kN eD)] cB) (fun fC cQ=>kW (aa7 aU) .normal [a0,t0] cQ) (fun _ _=>none)) (fun _ _=>none)) (kW (aa7 aU) .normal [a0,t0] aU)).bind fun aX=>(fun aV aW cR=>Ex.sO aX.1 (kW (aa7 h1) .ret [aV,aW] cR)) (aa5 aX.2.1 0 .junk) (aa5 aX.2.1 1 .junk) aX.2.2) (fun _ _=>none)) (fun _ _=>none)) (fun _ _=>none)) ((kR .eql t3 (.int .i64 6)).bind fun eE=>kV eE ((kJ 3 t0).bind fun eF=>(lS false 1 h1 eF).bind fun eG=>kS (kU 3 1 [(.str [])] [(0,(.str [102,111,114,32])),(1,eG),(2,(.str [32,60,32]))] h1) fun eH cS=>kM (K 68 [(kH.kN a0),(kH.kN eH)] cS) (fun fD bM=>(kJ 7 t0).bind fun eI=>(lS false 1 bM eI).bind fun eJ=>(k9 5 eJ (.int .i64 0)).bind fun eK=>(lS true 5 bM eK).bind fun eL=>kM (K 37 [(kH.kN a0),(kH.kN eL)] bM) (fun fE cC=>(kJ 2 t0).bind fun eM=>(lS false 1 cC eM).bind fun eN=>kM (K 89 [(kH.kN eN)] cC) (fun eO bB=>kS (kU 2 1 [(.str [])] [(0,(.str [32,109,97,120,32])),(1,eO)] bB) fun bN bC=>kM (K 68 [(kH.kN a0),(kH.kN bN)] bC) (fun cT aQ=>(kJ 8 t0).bind fun bO=>(lS false 1 aQ bO).bind fun bP=>kM (K 71 [(kH.kN a0),(kH.kN bP)] aQ) (fun cU bD=>kW (aa7 h1) .ret [a0,t0] bD) (fun _ _=>none)) (fun _ _=>none)) (fun _ _=>none)) (fun _ _=>none)) (fun _ _=>none)) ((kR .eql t3 (.int .i64 8)).bind fun bQ=>(kV bQ (kS (kU 1 1 [(.str [])] [(0,(.str [114,101,116,117,114,110,32]))] h1) fun bR bE=>kM (K 68 [(kH.kN a0),(kH.kN bR)] bE) (fun cW bF=>kW (aa7 h1) .normal [a0,t0] bF) (fun _ _=>none)) (kW (aa7 h1) .normal [a0,t0] h1)).bind fun aJ=>(fun aO aP bG=>Ex.sO aJ.1 (kW (aa7 h1) .normal [aO,aP] bG)) (aa5 aJ.2.1 0 .junk) (aa5 aJ.2.1 1 .junk) aJ.2.2)))).bind fun aK=>(fun aB aF aR=>Ex.lW aK.1 (kW (aa7 h1) .normal [aB,aF] aR) (fun aY=>kW (aa7 h1) aY [aB,aF] aR)) (aa5 aK.2.1 0 .junk) (aa5 aK.2.1 1 .junk) aK.2.2)).bind fun aL=>(fun aC aG aS=>Ex.lW aL.1 (kW (aa7 h1) .normal [aC,aG] aS) (fun aZ=>kW (aa7 h1) aZ [aC,aG] aS)) (aa5 aL.2.1 0 .junk) (aa5 aL.2.1 1 .junk) aL.2.2))).bind fun aM=>(fun aD aH aT=>Ex.lW aM.1 (kW (aa7 h1) .normal [aD,aH] aT) (fun a_=>kW (aa7 h1) a_ [aD,aH] aT)) (aa5 aM.2.1 0 .junk) (aa5 aM.2.1 1 .junk) aM.2.2).bind fun aN=>(fun aE aI aA=>Ex.inBlock 0 aN.1 ((kJ 7 aI).bind fun bS=>(lS false 1 aA bS).bind fun bT=>(kJ 7 aI).bind fun bU=>(lS false 1 aA bU).bind fun bV=>(mS bV).bind fun bW=>(kR .sub bW (.int .i64 1)).bind fun bX=>(k9 5 bT bX).bind fun bY=>(lS true 5 aA bY).bind fun bZ=>kM (K 37 [(kH.kN aE),(kH.kN bZ)] aA) (fun cY bH=>kS (kU 1 1 [(.str [])] [(0,(.str [59]))] bH) fun b7 bI=>kM (K 68 [(kH.kN aE),(kH.kN b7)] bI) (fun cZ bJ=>some (.normal,([]:List kH),bJ)) (fun _ _=>none)) (fun _ _=>none)) (fun bA=>some (bA,([]:List kH),aA))) (aa5 aN.2.1 0 .junk) (aa5 aN.2.1 1 .junk) aN.2.2).bind fun OE=>(fun bK=>Ex.mX OE.1 (lZ (aa7 h0) (.tuple []) bK))  OE.2.2
theorem A5 (K:kX) (a0 a1:kH) (h0:kL):pD Tryz.prog mK mL K 126 [a0,a1] h0=Ki (lT mK K) a0 a1 h0:=by kernel_rfl
def Ef (K:kX) (m:Nat) (s:List kH×kL):Option R :=
 (fun aD aJ aB aC aA aV=>(kR .lss aA aC).bind fun bG=>kV bG ((k9 6 aB aA).bind fun bH=>(lS true 6 aV bH).bind fun bI=>kS (lO 6 aV (.agg [(.int .i64 0),(.str []),(.int .i64 0),(.int .i64 0),(.int .i64 0),(.bool false)])) fun aW a_=>(oZ 6 a_ aW bI).bind fun aU=>(kR .gtr aA (.int .i64 0)).bind fun bJ=>(kV bJ (kS (kU 1 1 [(.str [])] [(0,(.str [44,32]))] aU) fun bK bA=>kM (K 68 [(kH.kN aD),(kH.kN bK)] bA) (fun bX bB=>kW (aa7 aU) .normal [aD,aJ,aW,aB,aC,aA] bB) (fun _ _=>none)) (kW (aa7 aU) .normal [aD,aJ,aW,aB,aC,aA] aU)).bind fun aM=>(fun aF aO aK aG aH aI aS=>Ex.sO aM.1 ((kJ 5 aK).bind fun bL=>(lS false 1 aS bL).bind fun bM=>(kV bM (kS (kU 1 1 [(.str [])] [(0,(.str [111,117,116,32]))] aS) fun bN bC=>kM (K 68 [(kH.kN aF),(kH.kN bN)] bC) (fun bY bD=>kW (aa7 aS) .normal [aF,aO,aK,aG,aH,aI] bD) (fun _ _=>none)) (kW (aa7 aS) .normal [aF,aO,aK,aG,aH,aI] aS)).bind fun aN=>(fun aE aT aL aP aQ aR aX=>Ex.sO aN.1 ((kJ 2 aL).bind fun bO=>(kJ 2 bO).bind fun bP=>(lS false 1 aX bP).bind fun bQ=>kM (K 69 [(kH.kN aE),(kH.kN bQ)] aX) (fun bZ aY=>(kJ 1 aL).bind fun bR=>(lS false 1 aY bR).bind fun bS=>kS (kU 2 1 [(.str [])] [(0,bS),(1,(.str [58,32]))] aY) fun bT bE=>kM (K 68 [(kH.kN aE),(kH.kN bT)] bE) (fun b7 aZ=>(kJ 2 aL).bind fun bU=>(lS true 3 aZ bU).bind fun bV=>kM (K 70 [(kH.kN aE),(kH.kN bV)] aZ) (fun b8 bF=>(kR .add aR (.int .i64 1)).bind fun bW=>kW m .normal [aE,aT,aP,aQ,bW] bF) (fun _ _=>none)) (fun _ _=>none)) (fun _ _=>none))) (aa5 aN.2.1 0 .junk) (aa5 aN.2.1 1 .junk) (aa5 aN.2.1 2 .junk) (aa5 aN.2.1 3 .junk) (aa5 aN.2.1 4 .junk) (aa5 aN.2.1 5 .junk) aN.2.2)) (aa5 aM.2.1 0 .junk) (aa5 aM.2.1 1 .junk) (aa5 aM.2.1 2 .junk) (aa5 aM.2.1 3 .junk) (aa5 aM.2.1 4 .junk) (aa5 aM.2.1 5 .junk) aM.2.2) (kW m (.exit 0) [aD,aJ,aB,aC,aA] aV)) (aa5 s.1 0 .junk) (aa5 s.1 1 .junk) (aa5 s.1 2 .junk) (aa5 s.1 3 .junk) (aa5 s.1 4 .junk) s.2
def m32 (K:kX) (a0 a1:kH) (h0:kL):Option (nH×kL) :=
 (kS (lO 8 h0 a1) fun t0 h1=>(kJ 1 t0).bind fun t2=>(lS false 1 h1 t2).bind fun t3=>kS (kU 3 1 [(.str [])] [(0,(.str [102,110,32])),(1,t3),(2,(.str [40]))] h1) fun t4 h5=>kM (K 68 [(kH.kN a0),(kH.kN t4)] h5) (fun t6 h7=>(kJ 2 t0).bind fun t8=>(lS false 1 h7 t8).bind fun t9=>(mS t9).bind fun aZ=>(mL (Ef K (aa7 h7)) ([a0,t0,t9,aZ,(.int .i64 0)],h7)).bind fun aD=>(fun aA aB aN aO aP aQ=>Ex.lW aD.1 none (fun aU=>Ex.inBlock 0 aU (kS (kU 1 1 [(.str [])] [(0,(.str [41]))] aQ) fun bB aW=>kM (K 68 [(kH.kN aA),(kH.kN bB)] aW) (fun bM aE=>(kJ 3 aB).bind fun bC=>(lS false 1 aE bC).bind fun bD=>(kV bD (kS (kU 1 1 [(.str [])] [(0,(.str [58,32]))] aE) fun bE aX=>kM (K 68 [(kH.kN aA),(kH.kN bE)] aX) (fun bN aR=>(kJ 4 aB).bind fun bF=>(kJ 2 bF).bind fun bG=>(lS false 1 aR bG).bind fun bH=>kM (K 69 [(kH.kN aA),(kH.kN bH)] aR) (fun bO aS=>(kJ 4 aB).bind fun bI=>(lS true 3 aS bI).bind fun bJ=>kM (K 70 [(kH.kN aA),(kH.kN bJ)] aS) (fun bP aY=>kW (aa7 aE) .normal [aA,aB] aY) (fun _ _=>none)) (fun _ _=>none)) (fun _ _=>none)) (kW (aa7 aE) .normal [aA,aB] aE)).bind fun aH=>(fun aC aG aT=>Ex.sO aH.1 ((kJ 7 aG).bind fun bK=>(lS false 1 aT bK).bind fun bL=>kM (K 71 [(kH.kN aC),(kH.kN bL)] aT) (fun a_ aI=>kS (kU 1 1 [(.str [])] [(0,(.str [10]))] aI) fun aM aJ=>kM (K 68 [(kH.kN aC),(kH.kN aM)] aJ) (fun bA aK=>some (.normal,([]:List kH),aK)) (fun _ _=>none)) (fun _ _=>none))) (aa5 aH.2.1 0 .junk) (aa5 aH.2.1 1 .junk) aH.2.2) (fun _ _=>none)) (fun aV=>some (aV,([]:List kH),aQ)))) (aa5 aD.2.1 0 .junk) (aa5 aD.2.1 1 .junk) (aa5 aD.2.1 2 .junk) (aa5 aD.2.1 3 .junk) (aa5 aD.2.1 4 .junk) aD.2.2) (fun _ _=>none)).bind fun aF=>(fun aL=>Ex.mX aF.1 (lZ (aa7 h0) (.tuple []) aL))  aF.2.2
theorem ai5 (K:kX) (a0 a1:kH) (h0:kL):pD Tryz.prog mK mL K 32 [a0,a1] h0=m32 (lT mK K) a0 a1 h0:=by kernel_rfl
def m33 (K:kX) (a0:kH) (h0:kL):Option (nH×kL) :=
 ((kY a0).bind fun t0=>(kJ 2 t0).bind fun t1=>(kJ 1 t1).bind fun t2=>(lS false 1 h0 t2).bind fun t3=>kV t3 (some (.ret,[(.str []),(.int .i64 11)],h0)) ((kY a0).bind fun t4=>(kJ 0 t4).bind fun t5=>kM (K 72 [(kH.kN t5)] h0) (fun t6 h7=>some (.ret,[t6,(.int .i64 0)],h7)) (fun _ _=>none))).bind fun r8=>(fun aB aA aC=>Ex.mX r8.1 (lZ (aa7 h0) (.tuple [aB,aA]) aC)) (aa5 r8.2.1 0 .junk) (aa5 r8.2.1 1 .junk) r8.2.2
theorem Wj (K:kX) (a0:kH) (h0:kL):pD Tryz.prog mK mL K 33 [a0] h0=m33 (lT mK K) a0 h0:=by kernel_rfl
def Eb (K:kX) (m:Nat) (s:List kH×kL):Option R :=
 (fun aD aE aF aB aC aA aG=>(kR .lss aA aC).bind fun aL=>kV aL ((k9 8 aB aA).bind fun aM=>(lS true 8 aG aM).bind fun aN=>kS (lO 8 aG (.agg [(.int .i64 0),(.str []),(.slice [] .nil),(.bool false),(.int .i64 0),(.int .i64 0),(.int .i64 0),(.slice [] .nil)])) fun aJ aK=>(oZ 8 aK aJ aN).bind fun aH=>(lS true 8 aH aJ).bind fun aO=>kM (K 31 [(kH.kN aO)] aH) (fun aP aI=>(vS .not aP).bind fun aQ=>kV aQ (kW m .ret [aD,(.str []),(.int .i64 2),aB,aC,aA] aI) ((kR .add aA (.int .i64 1)).bind fun aR=>kW m .normal [aD,aE,aF,aB,aC,aR] aI)) (fun _ _=>none)) (kW m (.exit 0) [aD,aE,aF,aB,aC,aA] aG)) (aa5 s.1 0 .junk) (aa5 s.1 1 .junk) (aa5 s.1 2 .junk) (aa5 s.1 3 .junk) (aa5 s.1 4 .junk) (aa5 s.1 5 .junk) s.2
def Mp (K:kX) (m:Nat) (s:List kH×kL):Option R :=
 (fun aE aF aD aB aC aA aG=>(kR .lss aA aC).bind fun aL=>kV aL ((k9 8 aB aA).bind fun aM=>(lS true 8 aG aM).bind fun aN=>kS (lO 8 aG (.agg [(.int .i64 0),(.str []),(.slice [] .nil),(.bool false),(.int .i64 0),(.int .i64 0),(.int .i64 0),(.slice [] .nil)])) fun aI aJ=>(oZ 8 aJ aI aN).bind fun aH=>(lS true 8 aH aI).bind fun aO=>kM (K 32 [(kH.kN aD),(kH.kN aO)] aH) (fun aQ aK=>(kR .add aA (.int .i64 1)).bind fun aP=>kW m .normal [aE,aF,aD,aB,aC,aP] aK) (fun _ _=>none)) (kW m (.exit 2) [aE,aF,aD,aB,aC,aA] aG)) (aa5 s.1 0 .junk) (aa5 s.1 1 .junk) (aa5 s.1 2 .junk) (aa5 s.1 3 .junk) (aa5 s.1 4 .junk) (aa5 s.1 5 .junk) s.2
def m14 (K:kX) (a0:kH) (h0:kL):Option (nH×kL) :=
 (kS (lO 1 h0 a0) fun t0 h1=>(kJ 0 t0).bind fun t2=>(lS false 1 h1 t2).bind fun t3=>(mS t3).bind fun t4=>(mL (Eb K (aa7 h1)) ([t0,(.str []),(.int .i64 0),t3,t4,(.int .i64 0)],h1)).bind fun aA=>(fun aE aC aD aM aN aO aS=>Ex.lW aA.1 none (fun aW=>Ex.inBlock 0 aW ((lR [.nilptr,(.slice [] .nil),(.int .i64 0),(.bool false),(.int .i64 0)] [(0,2),(2,2),(4,1)] []).bind fun bB=>kS (Gt 86 5 aS bB) fun bC aL=>(kJ 0 aE).bind fun bD=>(lS false 1 aL bD).bind fun aU=>(mS aU).bind fun bE=>(mL (Mp K (aa7 aL)) ([aC,aD,bC,aU,bE,(.int .i64 0)],aL)).bind fun aB=>(fun aF aH aJ aP aQ aR aT=>Ex.lW aB.1 none (fun aY=>Ex.inBlock 2 aY (kM (K 33 [(kH.kN aJ)] aT) (fun aV a_=>(lK 0 aV).bind fun bF=>(lK 1 aV).bind fun bG=>some (.ret,[bF,bG],a_)) (fun _ _=>none)) (fun aZ=>some (aZ,[aF,aH],aT)))) (aa5 aB.2.1 0 .junk) (aa5 aB.2.1 1 .junk) (aa5 aB.2.1 2 .junk) (aa5 aB.2.1 3 .junk) (aa5 aB.2.1 4 .junk) (aa5 aB.2.1 5 .junk) aB.2.2) (fun aX=>some (aX,[aC,aD],aS)))) (aa5 aA.2.1 0 .junk) (aa5 aA.2.1 1 .junk) (aa5 aA.2.1 2 .junk) (aa5 aA.2.1 3 .junk) (aa5 aA.2.1 4 .junk) (aa5 aA.2.1 5 .junk) aA.2.2).bind fun aK=>(fun aG aI bA=>Ex.mX aK.1 (lZ (aa7 h0) (.tuple [aG,aI]) bA)) (aa5 aK.2.1 0 .junk) (aa5 aK.2.1 1 .junk) aK.2.2
theorem aiP (K:kX) (a0:kH) (h0:kL):pD Tryz.prog mK mL K 14 [a0] h0=m14 (lT mK K) a0 h0:=by kernel_rfl
def m17 (K:kX) (a0:kH) (h0:kL):Option (nH×kL) :=
 (kS (lO 5 h0 a0) fun t0 h1=>(lS true 5 h1 t0).bind fun t2=>kM (K 36 [(kH.kN t2)] h1) (fun t3 h4=>(vS .not t3).bind fun t5=>kV t5 (some (.ret,[(.str []),(.int .i64 2)],h4)) ((lR [.nilptr,(.slice [] .nil),(.int .i64 0),(.bool false),(.int .i64 0)] [(0,2),(2,2),(4,1)] []).bind fun t6=>kS (Gt 86 5 h4 t6) fun t7 h8=>(lS true 5 h8 t0).bind fun t9=>kM (K 37 [(kH.kN t7),(kH.kN t9)] h8) (fun aJ aE=>kM (K 33 [(kH.kN t7)] aE) (fun aD aF=>(lK 0 aD).bind fun aH=>(lK 1 aD).bind fun aI=>some (.ret,[aH,aI],aF)) (fun _ _=>none)) (fun _ _=>none))) (fun _ _=>none)).bind fun aC=>(fun aA aB aG=>Ex.mX aC.1 (lZ (aa7 h0) (.tuple [aA,aB]) aG)) (aa5 aC.2.1 0 .junk) (aa5 aC.2.1 1 .junk) aC.2.2
theorem aiV (K:kX) (a0:kH) (h0:kL):pD Tryz.prog mK mL K 17 [a0] h0=m17 (lT mK K) a0 h0:=by kernel_rfl
def m82 (K:kX) (a0:kH) (h0:kL):Option (nH×kL) :=
 ((kR .eql a0 (.int .i64 17)).bind fun t0=>kV t0 (some (.ret,[(.int .i64 1),(.str [61,61])],h0)) ((kR .eql a0 (.int .i64 18)).bind fun t1=>kV t1 (some (.ret,[(.int .i64 1),(.str [33,61])],h0)) ((kR .eql a0 (.int .i64 19)).bind fun t2=>kV t2 (some (.ret,[(.int .i64 1),(.str [60])],h0)) ((kR .eql a0 (.int .i64 20)).bind fun t3=>kV t3 (some (.ret,[(.int .i64 1),(.str [60,61])],h0)) ((kR .eql a0 (.int .i64 21)).bind fun t4=>kV t4 (some (.ret,[(.int .i64 1),(.str [62])],h0)) ((kR .eql a0 (.int .i64 22)).bind fun t5=>kV t5 (some (.ret,[(.int .i64 1),(.str [62,61])],h0)) ((kR .eql a0 (.int .i64 12)).bind fun t6=>kV t6 (some (.ret,[(.int .i64 2),(.str [124])],h0)) ((kR .eql a0 (.int .i64 13)).bind fun t7=>kV t7 (some (.ret,[(.int .i64 3),(.str [94])],h0)) ((kR .eql a0 (.int .i64 11)).bind fun t8=>kV t8 (some (.ret,[(.int .i64 4),(.str [38])],h0)) ((kR .eql a0 (.int .i64 14)).bind fun t9=>kV t9 (some (.ret,[(.int .i64 5),(.str [60,60])],h0)) ((kR .eql a0 (.int .i64 15)).bind fun aE=>kV aE (some (.ret,[(.int .i64 5),(.str [62,62])],h0)) ((kR .eql a0 (.int .i64 8)).bind fun aF=>kV aF (some (.ret,[(.int .i64 6),(.str [43])],h0)) ((kR .eql a0 (.int .i64 9)).bind fun aG=>kV aG (some (.ret,[(.int .i64 6),(.str [45])],h0)) ((kR .eql a0 (.int .i64 10)).bind fun aH=>kV aH (some (.ret,[(.int .i64 7),(.str [42])],h0)) (some (.ret,[(.int .i64 0),(.str [])],h0)))))))))))))))).bind fun aC=>(fun aA aB aD=>Ex.mX aC.1 (lZ (aa7 h0) (.tuple [aA,aB]) aD)) (aa5 aC.2.1 0 .junk) (aa5 aC.2.1 1 .junk) aC.2.2
theorem aj3 (K:kX) (a0:kH) (h0:kL):pD Tryz.prog mK mL K 82 [a0] h0=m82 (lT mK K) a0 h0:=by kernel_rfl
def m65 (K:kX) (a0:kH) (h0:kL):Option (nH×kL) :=
 (kM (K 49 [(kH.kN a0)] h0) (fun t0 h1=>(lK 0 t0).bind fun t2=>(lK 1 t0).bind fun t3=>kS (lO 2 h1 (.agg [(.int .i64 0),(.int .i64 0)])) fun t4 h5=>(kT 2 h5 t4 t3).bind fun h6=>(kJ 0 t4).bind fun t7=>(kO false 1 h6 t7).bind fun t8=>(kR .eql t8 (.int .i64 0)).bind fun t9=>(kI true t9 (kQ t2 h6) (kQ (.tuple []) h6)).bind (kP (fun aT aG=>(kI true t9 ((mS aT).bind fun aU=>kQ aU aG) (kQ (.tuple []) aG)).bind (kP (fun aV aH=>(kI true t9 ((kR .eql aV (.int .i64 2)).bind fun aW=>kQ aW aH) (kQ (.tuple []) aH)).bind (kP (fun aX aI=>(lL t9 aX (.bool false)).bind fun aB=>(kI true aB (kQ t2 aI) (kQ (.tuple []) aI)).bind (kP (fun aY aJ=>(kI true aB ((k9 4 aY (.int .i64 0)).bind fun aZ=>kQ aZ aJ) (kQ (.tuple []) aJ)).bind (kP (fun a_ aK=>(kI true aB ((kJ 0 a_).bind fun bA=>kQ bA aK) (kQ (.tuple []) aK)).bind (kP (fun bB aD=>(kI true aB ((kO false 1 aD bB).bind fun bC=>kQ bC aD) (kQ (.tuple []) aD)).bind (kP (fun bD aL=>(kI true aB ((kR .eql bD (.int .i64 1)).bind fun bE=>kQ bE aL) (kQ (.tuple []) aL)).bind (kP (fun bF aM=>(lL aB bF (.bool false)).bind fun aA=>(kI true aA (kQ t2 aM) (kQ (.tuple []) aM)).bind (kP (fun bG aN=>(kI true aA ((k9 4 bG (.int .i64 0)).bind fun bH=>kQ bH aN) (kQ (.tuple []) aN)).bind (kP (fun bI aO=>(kI true aA ((kJ 3 bI).bind fun bJ=>kQ bJ aO) (kQ (.tuple []) aO)).bind (kP (fun bK aE=>(kI true aA ((kO false 1 aE bK).bind fun bL=>kQ bL aE) (kQ (.tuple []) aE)).bind (kP (fun bM aP=>(kI true aA (kQ a0 aP) (kQ (.tuple []) aP)).bind (kP (fun bN aQ=>(kI true aA ((kR .eql bM bN).bind fun bO=>kQ bO aQ) (kQ (.tuple []) aQ)).bind (kP (fun bP aR=>(lL aA bP (.bool false)).bind fun bQ=>some (.ret,[bQ],aR)) (fun _ _=>none))) (fun _ _=>none))) (fun _ _=>none))) (fun _ _=>none))) (fun _ _=>none))) (fun _ _=>none))) (fun _ _=>none))) (fun _ _=>none))) (fun _ _=>none))) (fun _ _=>none))) (fun _ _=>none))) (fun _ _=>none))) (fun _ _=>none))) (fun _ _=>none))) (fun _ _=>none)).bind fun aF=>(fun aC aS=>Ex.mX aF.1 (lZ (aa7 h0) aC aS)) (aa5 aF.2.1 0 .junk) aF.2.2
theorem ajM (K:kX) (a0:kH) (h0:kL):pD Tryz.prog mK mL K 65 [a0] h0=m65 (lT mK K) a0 h0:=by kernel_rfl
def m79 (K:kX) (a0 a1:kH) (h0:kL):Option (nH×kL) :=
 (kV a1 (kM (K 65 [(kH.kN a0)] h0) (fun t0 h1=>some (.ret,[t0],h1)) (fun _ _=>none)) ((kR .eql a0 (.str [])).bind fun t2=>some (.ret,[t2],h0))).bind fun r3=>(fun aA h5=>Ex.mX r3.1 (lZ (aa7 h0) aA h5)) (aa5 r3.2.1 0 .junk) r3.2.2
theorem aj0 (K:kX) (a0 a1:kH) (h0:kL):pD Tryz.prog mK mL K 79 [a0,a1] h0=m79 (lT mK K) a0 a1 h0:=by kernel_rfl
def m80 (K:kX) (a0 a1:kH) (h0:kL):Option (nH×kL) :=
 ((kR .eql a0 (.int .i64 0)).bind fun t0=>(kI false t0 (kQ a1 h0) (kQ (.tuple []) h0)).bind (kP (fun t1 h2=>(kI false t0 (kQ t1 h2) (kQ (.tuple []) h2)).bind (kP (fun t3 h4=>(kI true t3 (kQ a0 h4) (kQ (.tuple []) h4)).bind (kP (fun t5 h6=>(kI true t3 ((kR .gtr t5 (.int .i64 0)).bind fun t7=>kQ t7 h6) (kQ (.tuple []) h6)).bind (kP (fun t8 h9=>(kI false t0 ((lL t3 t8 (.bool false)).bind fun aJ=>kQ aJ h9) (kQ (.tuple []) h9)).bind (kP (fun aK aD=>(kI false t0 (kQ aK aD) (kQ (.tuple []) aD)).bind (kP (fun aC aE=>(kI true aC (kQ a0 aE) (kQ (.tuple []) aE)).bind (kP (fun aL aF=>(kI true aC ((kR .leq aL (.int .i64 4294967295)).bind fun aM=>kQ aM aF) (kQ (.tuple []) aF)).bind (kP (fun aN aG=>(kI false t0 ((lL aC aN (.bool false)).bind fun aO=>kQ aO aG) (kQ (.tuple []) aG)).bind (kP (fun aP aH=>(lL t0 (.bool true) aP).bind fun aQ=>some (.ret,[aQ],aH)) (fun _ _=>none))) (fun _ _=>none))) (fun _ _=>none))) (fun _ _=>none))) (fun _ _=>none))) (fun _ _=>none))) (fun _ _=>none))) (fun _ _=>none))) (fun _ _=>none))).bind fun aB=>(fun aA aI=>Ex.mX aB.1 (lZ (aa7 h0) aA aI)) (aa5 aB.2.1 0 .junk) aB.2.2
theorem aj1 (K:kX) (a0 a1:kH) (h0:kL):pD Tryz.prog mK mL K 80 [a0,a1] h0=m80 (lT mK K) a0 a1 h0:=by kernel_rfl
def m78 (K:kX) (a0:kH) (h0:kL):Option (nH×kL) :=
 ((kR .eql a0 (.int .i64 1)).bind fun t0=>(kI false t0 (kQ a0 h0) (kQ (.tuple []) h0)).bind (kP (fun t1 h2=>(kI false t0 ((kR .eql t1 (.int .i64 2)).bind fun t3=>kQ t3 h2) (kQ (.tuple []) h2)).bind (kP (fun t4 h5=>(lL t0 (.bool true) t4).bind fun t6=>kV t6 (some (.ret,[(.int .i64 0),(.bool true)],h5)) ((kR .eql a0 (.int .i64 4)).bind fun t7=>kV t7 (some (.ret,[(.int .i64 (-1)),(.bool true)],h5)) ((kR .eql a0 (.int .i64 3)).bind fun t8=>(kI false t8 (kQ a0 h5) (kQ (.tuple []) h5)).bind (kP (fun t9 aM=>(kI false t8 ((kR .geq t9 (.int .i64 5)).bind fun bG=>kQ bG aM) (kQ (.tuple []) aM)).bind (kP (fun bH aN=>(kI false t8 (kQ bH aN) (kQ (.tuple []) aN)).bind (kP (fun aH aO=>(kI true aH (kQ a0 aO) (kQ (.tuple []) aO)).bind (kP (fun bI aP=>(kI true aH ((kR .leq bI (.int .i64 7)).bind fun bJ=>kQ bJ aP) (kQ (.tuple []) aP)).bind (kP (fun bK aQ=>(kI false t8 ((lL aH bK (.bool false)).bind fun bL=>kQ bL aQ) (kQ (.tuple []) aQ)).bind (kP (fun bM aR=>(lL t8 (.bool true) bM).bind fun aA=>(kI false aA (kQ a0 aR) (kQ (.tuple []) aR)).bind (kP (fun bN aS=>(kI false aA ((kR .geq bN (.int .i64 14)).bind fun bO=>kQ bO aS) (kQ (.tuple []) aS)).bind (kP (fun bP aT=>(kI false aA (kQ bP aT) (kQ (.tuple []) aT)).bind (kP (fun aI aU=>(kI true aI (kQ a0 aU) (kQ (.tuple []) aU)).bind (kP (fun bQ aV=>(kI true aI ((kR .leq bQ (.int .i64 16)).bind fun bR=>kQ bR aV) (kQ (.tuple []) aV)).bind (kP (fun bS aW=>(kI false aA ((lL aI bS (.bool false)).bind fun bT=>kQ bT aW) (kQ (.tuple []) aW)).bind (kP (fun bU aX=>(lL aA (.bool true) bU).bind fun aJ=>(kI false aJ (kQ a0 aX) (kQ (.tuple []) aX)).bind (kP (fun bV aY=>(kI false aJ ((kR .eql bV (.int .i64 26)).bind fun bW=>kQ bW aY) (kQ (.tuple []) aY)).bind (kP (fun bX aF=>(lL aJ (.bool true) bX).bind fun bY=>kV bY (some (.ret,[(.int .i64 1),(.bool true)],aF)) ((kR .geq a0 (.int .i64 8)).bind fun aK=>(kI true aK (kQ a0 aF) (kQ (.tuple []) aF)).bind (kP (fun bZ aZ=>(kI true aK ((kR .leq bZ (.int .i64 13)).bind fun b7=>kQ b7 aZ) (kQ (.tuple []) aZ)).bind (kP (fun b8 a_=>(lL aK b8 (.bool false)).bind fun aB=>(kI false aB (kQ a0 a_) (kQ (.tuple []) a_)).bind (kP (fun b9 bA=>(kI false aB ((kR .geq b9 (.int .i64 17)).bind fun b_=>kQ b_ bA) (kQ (.tuple []) bA)).bind (kP (fun cA bB=>(kI false aB (kQ cA bB) (kQ (.tuple []) bB)).bind (kP (fun aL bC=>(kI true aL (kQ a0 bC) (kQ (.tuple []) bC)).bind (kP (fun cB bD=>(kI true aL ((kR .leq cB (.int .i64 24)).bind fun cC=>kQ cC bD) (kQ (.tuple []) bD)).bind (kP (fun cD bE=>(kI false aB ((lL aL cD (.bool false)).bind fun cE=>kQ cE bE) (kQ (.tuple []) bE)).bind (kP (fun cF aG=>(lL aB (.bool true) cF).bind fun cG=>kV cG (some (.ret,[(.int .i64 2),(.bool true)],aG)) ((kR .eql a0 (.int .i64 25)).bind fun cH=>kV cH (some (.ret,[(.int .i64 3),(.bool true)],aG)) (some (.ret,[(.int .i64 0),(.bool false)],aG)))) (fun _ _=>none))) (fun _ _=>none))) (fun _ _=>none))) (fun _ _=>none))) (fun _ _=>none))) (fun _ _=>none))) (fun _ _=>none))) (fun _ _=>none)))) (fun _ _=>none))) (fun _ _=>none))) (fun _ _=>none))) (fun _ _=>none))) (fun _ _=>none))) (fun _ _=>none))) (fun _ _=>none))) (fun _ _=>none))) (fun _ _=>none))) (fun _ _=>none))) (fun _ _=>none))) (fun _ _=>none))) (fun _ _=>none))) (fun _ _=>none))))) (fun _ _=>none))) (fun _ _=>none))).bind fun aE=>(fun aC aD bF=>Ex.mX aE.1 (lZ (aa7 h0) (.tuple [aC,aD]) bF)) (aa5 aE.2.1 0 .junk) (aa5 aE.2.1 1 .junk) aE.2.2
theorem ajZ (K:kX) (a0:kH) (h0:kL):pD Tryz.prog mK mL K 78 [a0] h0=m78 (lT mK K) a0 h0:=by kernel_rfl
def AS (K:kX) (a0:kH) (h0:kL):Option (nH×kL) :=
 (kS (lO 5 h0 a0) fun t0 h1=>(kJ 0 t0).bind fun t2=>(kO false 1 h1 t2).bind fun t3=>kM (K 78 [(kH.kN t3)] h1) (fun t4 h5=>(lK 0 t4).bind fun t6=>(lK 1 t4).bind fun t7=>(vS .not t7).bind fun t8=>(kI false t8 (kQ t6 h5) (kQ (.tuple []) h5)).bind (kP (fun t9 a_=>(kI false t8 ((kR .geq t9 (.int .i64 0)).bind fun bT=>kQ bT a_) (kQ (.tuple []) a_)).bind (kP (fun bU bA=>(kI false t8 (kQ bU bA) (kQ (.tuple []) bA)).bind (kP (fun aD bB=>(kI true aD ((kJ 4 t0).bind fun bV=>kQ bV bB) (kQ (.tuple []) bB)).bind (kP (fun bW aN=>(kI true aD ((kO false 1 aN bW).bind fun bX=>kQ bX aN) (kQ (.tuple []) aN)).bind (kP (fun bY bC=>(kI true aD ((mS bY).bind fun bZ=>kQ bZ bC) (kQ (.tuple []) bC)).bind (kP (fun b7 bD=>(kI true aD (kQ t6 bD) (kQ (.tuple []) bD)).bind (kP (fun b8 bE=>(kI true aD ((kR .neq b7 b8).bind fun b9=>kQ b9 bE) (kQ (.tuple []) bE)).bind (kP (fun b_ bF=>(kI false t8 ((lL aD b_ (.bool false)).bind fun cA=>kQ cA bF) (kQ (.tuple []) bF)).bind (kP (fun cB aH=>(lL t8 (.bool true) cB).bind fun cC=>kV cC (some (.ret,[(.bool false)],aH)) ((kJ 0 t0).bind fun cD=>(kO false 1 aH cD).bind fun cE=>(kR .eql cE (.int .i64 2)).bind fun aI=>(kI false aI ((kJ 0 t0).bind fun cF=>kQ cF aH) (kQ (.tuple []) aH)).bind (kP (fun cG aO=>(kI false aI ((kO false 1 aO cG).bind fun cH=>kQ cH aO) (kQ (.tuple []) aO)).bind (kP (fun cI bG=>(kI false aI ((kR .eql cI (.int .i64 3)).bind fun cJ=>kQ cJ bG) (kQ (.tuple []) bG)).bind (kP (fun cK bH=>(lL aI (.bool true) cK).bind fun aJ=>(kI false aJ ((kJ 0 t0).bind fun cL=>kQ cL bH) (kQ (.tuple []) bH)).bind (kP (fun cM aP=>(kI false aJ ((kO false 1 aP cM).bind fun cN=>kQ cN aP) (kQ (.tuple []) aP)).bind (kP (fun cO bI=>(kI false aJ ((kR .eql cO (.int .i64 4)).bind fun cP=>kQ cP bI) (kQ (.tuple []) bI)).bind (kP (fun cQ aQ=>(lL aJ (.bool true) cQ).bind fun cR=>(kJ 0 t0).bind fun cS=>(kO false 1 aQ cS).bind fun cT=>(kR .eql cT (.int .i64 1)).bind fun aE=>(kI false aE ((kJ 0 t0).bind fun cU=>kQ cU aQ) (kQ (.tuple []) aQ)).bind (kP (fun cV aR=>(kI false aE ((kO false 1 aR cV).bind fun cW=>kQ cW aR) (kQ (.tuple []) aR)).bind (kP (fun cX bJ=>(kI false aE ((kR .geq cX (.int .i64 14)).bind fun cY=>kQ cY bJ) (kQ (.tuple []) bJ)).bind (kP (fun cZ bK=>(kI false aE (kQ cZ bK) (kQ (.tuple []) bK)).bind (kP (fun aK bL=>(kI true aK ((kJ 0 t0).bind fun c6=>kQ c6 bL) (kQ (.tuple []) bL)).bind (kP (fun c7 aS=>(kI true aK ((kO false 1 aS c7).bind fun c8=>kQ c8 aS) (kQ (.tuple []) aS)).bind (kP (fun c9 bM=>(kI true aK ((kR .leq c9 (.int .i64 16)).bind fun c_=>kQ c_ bM) (kQ (.tuple []) bM)).bind (kP (fun dA bN=>(kI false aE ((lL aK dA (.bool false)).bind fun dB=>kQ dB bN) (kQ (.tuple []) bN)).bind (kP (fun dC bO=>(lL aE (.bool true) dC).bind fun dD=>(kJ 3 t0).bind fun dE=>(kO false 1 bO dE).bind fun dF=>kM (K 79 [(kH.kN dF),(kH.kN cR)] bO) (fun dG bP=>(vS .not dG).bind fun aF=>(kI false aF ((kJ 2 t0).bind fun dH=>kQ dH bP) (kQ (.tuple []) bP)).bind (kP (fun dI aT=>(kI false aF ((kO false 1 aT dI).bind fun dJ=>kQ dJ aT) (kQ (.tuple []) aT)).bind (kP (fun dK bQ=>(kI false aF (kQ dD bQ) (kQ (.tuple []) bQ)).bind (kP (fun dL bR=>(kI false aF (kM (K 80 [(kH.kN dK),(kH.kN dL)] bR) (fun dM bS=>kQ dM bS) zG) (kQ (.tuple []) bR)).bind (kP (fun dN aG=>(kI false aF ((vS .not dN).bind fun aU=>kQ aU aG) (kQ (.tuple []) aG)).bind (kP (fun aV aA=>(lL aF (.bool true) aV).bind fun aW=>kV aW (some (.ret,[(.bool false)],aA)) ((kJ 4 t0).bind fun aX=>(kO false 1 aA aX).bind fun aY=>kM (K 81 [(kH.kN aY)] aA) (fun aZ aL=>some (.ret,[aZ],aL)) (fun _ _=>none))) (fun _ _=>none))) (fun _ _=>none))) (fun _ _=>none))) (fun _ _=>none))) (fun _ _=>none))) (fun _ _=>none)) (fun _ _=>none))) (fun _ _=>none))) (fun _ _=>none))) (fun _ _=>none))) (fun _ _=>none))) (fun _ _=>none))) (fun _ _=>none))) (fun _ _=>none))) (fun _ _=>none))) (fun _ _=>none))) (fun _ _=>none))) (fun _ _=>none))) (fun _ _=>none))) (fun _ _=>none)))) (fun _ _=>none))) (fun _ _=>none))) (fun _ _=>none))) (fun _ _=>none))) (fun _ _=>none))) (fun _ _=>none))) (fun _ _=>none))) (fun _ _=>none))) (fun _ _=>none))) (fun _ _=>none)).bind fun aB=>(fun aC aM=>Ex.mX aB.1 (lZ (aa7 h0) aC aM)) (aa5 aB.2.1 0 .junk) aB.2.2
theorem ai8 (K:kX) (a0:kH) (h0:kL):pD Tryz.prog mK mL K 36 [a0] h0=AS (lT mK K) a0 h0:=by kernel_rfl
def Ej (K:kX) (m:Nat) (s:List kH×kL):Option R :=
 (fun aD aB aC aA h5=>(kR .lss aA aC).bind fun t6=>kV t6 ((k9 5 aB aA).bind fun t7=>(kO true 5 h5 t7).bind fun t8=>kS (lO 5 h5 (.agg [(.int .i64 0),(.int .i64 0),(.int .i64 0),(.str []),(.slice [] .nil)])) fun t9 aG=>(kT 5 aG t9 t8).bind fun aE=>(kO true 5 aE t9).bind fun aH=>kM (K 36 [(kH.kN aH)] aE) (fun aI aF=>(vS .not aI).bind fun aJ=>kV aJ (kW m .ret [(.bool false),aB,aC,aA] aF) ((kR .add aA (.int .i64 1)).bind fun aK=>kW m .normal [aD,aB,aC,aK] aF)) (fun _ _=>none)) (kW m (.exit 0) [aD,aB,aC,aA] h5)) (aa5 s.1 0 .junk) (aa5 s.1 1 .junk) (aa5 s.1 2 .junk) (aa5 s.1 3 .junk) s.2
def m81 (K:kX) (a0:kH) (h0:kL):Option (nH×kL) :=
 ((mS a0).bind fun t0=>(mL (Ej K (aa7 h0)) ([(.bool false),a0,t0,(.int .i64 0)],h0)).bind fun aA=>(fun aB aF aG aH aE=>Ex.lW aA.1 none (fun aI=>Ex.inBlock 0 aI (some (.ret,[(.bool true)],aE)) (fun aJ=>some (aJ,[aB],aE)))) (aa5 aA.2.1 0 .junk) (aa5 aA.2.1 1 .junk) (aa5 aA.2.1 2 .junk) (aa5 aA.2.1 3 .junk) aA.2.2).bind fun aD=>(fun aC aK=>Ex.mX aD.1 (lZ (aa7 h0) aC aK)) (aa5 aD.2.1 0 .junk) aD.2.2
theorem aj2 (K:kX) (a0:kH) (h0:kL):pD Tryz.prog mK mL K 81 [a0] h0=m81 (lT mK K) a0 h0:=by kernel_rfl
def Ua (K:kX) (a0:kH) (h0:kL):Option (nH×kL) :=
 (kS (lO 3 h0 a0) fun t0 h1=>(kJ 2 t0).bind fun t2=>(kO false 1 h1 t2).bind fun t3=>(kR .neq t3 (.int .i64 0)).bind fun t4=>(kI true t4 ((kJ 2 t0).bind fun t5=>kQ t5 h1) (kQ (.tuple []) h1)).bind (kP (fun t6 h7=>(kI true t4 ((kO false 1 h7 t6).bind fun t8=>kQ t8 h7) (kQ (.tuple []) h7)).bind (kP (fun t9 aG=>(kI true t4 ((kR .neq t9 (.int .i64 1)).bind fun aM=>kQ aM aG) (kQ (.tuple []) aG)).bind (kP (fun aN aH=>(lL t4 aN (.bool false)).bind fun aB=>(kI false aB ((kJ 1 t0).bind fun aO=>kQ aO aH) (kQ (.tuple []) aH)).bind (kP (fun aP aD=>(kI false aB ((kO false 1 aD aP).bind fun aQ=>kQ aQ aD) (kQ (.tuple []) aD)).bind (kP (fun aR aI=>(kI false aB (kM (K 80 [(kH.kN aR),(kH.kN (.bool true))] aI) (fun aS aK=>kQ aS aK) zG) (kQ (.tuple []) aI)).bind (kP (fun aT aJ=>(kI false aB ((vS .not aT).bind fun aU=>kQ aU aJ) (kQ (.tuple []) aJ)).bind (kP (fun aV aA=>(lL aB (.bool true) aV).bind fun aW=>kV aW (some (.ret,[(.bool false)],aA)) ((kJ 0 t0).bind fun aX=>(kO false 1 aA aX).bind fun aF=>(kR .eql aF (.int .i64 1)).bind fun aY=>kV aY ((kJ 1 t0).bind fun aZ=>(kO false 1 aA aZ).bind fun a_=>(kR .eql a_ (.int .i64 0)).bind fun bA=>some (.ret,[bA],aA)) ((kR .eql aF (.int .i64 0)).bind fun bB=>kV bB (some (.ret,[(.bool true)],aA)) ((kR .eql aF (.int .i64 2)).bind fun bC=>kV bC ((kJ 1 t0).bind fun bD=>(kO false 1 aA bD).bind fun bE=>(kR .gtr bE (.int .i64 0)).bind fun bF=>some (.ret,[bF],aA)) (some (.ret,[(.bool false)],aA)))))) (fun _ _=>none))) (fun _ _=>none))) (fun _ _=>none))) (fun _ _=>none))) (fun _ _=>none))) (fun _ _=>none))) (fun _ _=>none))).bind fun aE=>(fun aC aL=>Ex.mX aE.1 (lZ (aa7 h0) aC aL)) (aa5 aE.2.1 0 .junk) aE.2.2
theorem ajO (K:kX) (a0:kH) (h0:kL):pD Tryz.prog mK mL K 67 [a0] h0=Ua (lT mK K) a0 h0:=by kernel_rfl
def Kk (K:kX) (a0:kH) (h0:kL):Option (nH×kL) :=
 (kS (lO 6 h0 (.agg [(.bool false),(.bool false),(.int .i64 0),(.bool false),(.bool false),(.bool false)])) fun t0 h1=>(kR .eql a0 (.int .i64 1)).bind fun t2=>(kV t2 (kW (aa7 h1) .normal [t0,(.bool false),a0,t2] h1) ((kR .eql a0 (.int .i64 3)).bind fun t3=>kW (aa7 h1) .normal [t0,(.bool false),a0,t3] h1)).bind fun r4=>(fun aA aH aC aJ h9=>Ex.sO r4.1 (kV aJ ((lR [(.bool false),(.bool false),(.int .i64 0),(.bool false),(.bool false),(.bool false)] [(0,1),(1,1),(2,1),(3,1),(4,1),(5,1)] [(0,(.bool true)),(2,(.int .i64 1))]).bind fun aV=>(kT 6 h9 aA aV).bind fun aO=>some (.ret,[aA,(.bool true)],aO)) ((kR .eql aC (.int .i64 2)).bind fun aW=>kV aW ((lR [(.bool false),(.bool false),(.int .i64 0),(.bool false),(.bool false),(.bool false)] [(0,1),(1,1),(2,1),(3,1),(4,1),(5,1)] [(0,(.bool true)),(1,(.bool true))]).bind fun aX=>(kT 6 h9 aA aX).bind fun aP=>some (.ret,[aA,(.bool true)],aP)) ((kR .eql aC (.int .i64 4)).bind fun aY=>kV aY ((lR [(.bool false),(.bool false),(.int .i64 0),(.bool false),(.bool false),(.bool false)] [(0,1),(1,1),(2,1),(3,1),(4,1),(5,1)] [(0,(.bool true)),(2,(.int .i64 2))]).bind fun aZ=>(kT 6 h9 aA aZ).bind fun aQ=>some (.ret,[aA,(.bool true)],aQ)) ((kR .eql aC (.int .i64 5)).bind fun a_=>kV a_ ((lR [(.bool false),(.bool false),(.int .i64 0),(.bool false),(.bool false),(.bool false)] [(0,1),(1,1),(2,1),(3,1),(4,1),(5,1)] [(2,(.int .i64 1)),(4,(.bool true)),(5,(.bool true))]).bind fun bA=>(kT 6 h9 aA bA).bind fun aR=>some (.ret,[aA,(.bool true)],aR)) ((kR .eql aC (.int .i64 6)).bind fun bB=>kV bB ((lR [(.bool false),(.bool false),(.int .i64 0),(.bool false),(.bool false),(.bool false)] [(0,1),(1,1),(2,1),(3,1),(4,1),(5,1)] [(0,(.bool true)),(2,(.int .i64 1)),(3,(.bool true)),(4,(.bool true))]).bind fun bC=>(kT 6 h9 aA bC).bind fun aS=>some (.ret,[aA,(.bool true)],aS)) ((kR .eql aC (.int .i64 7)).bind fun aM=>(kV aM (kW (aa7 h9) .normal [aA,aH,aM] h9) ((kR .eql aC (.int .i64 8)).bind fun bD=>kW (aa7 h9) .normal [aA,aH,bD] h9)).bind fun aE=>(fun aB aN aD aK=>Ex.sO aE.1 (kV aD ((lR [(.bool false),(.bool false),(.int .i64 0),(.bool false),(.bool false),(.bool false)] [(0,1),(1,1),(2,1),(3,1),(4,1),(5,1)] [(2,(.int .i64 1))]).bind fun bE=>(kT 6 aK aB bE).bind fun aT=>some (.ret,[aB,(.bool true)],aT)) ((lR [(.bool false),(.bool false),(.int .i64 0),(.bool false),(.bool false),(.bool false)] [(0,1),(1,1),(2,1),(3,1),(4,1),(5,1)] []).bind fun bF=>(kT 6 aK aB bF).bind fun aU=>some (.ret,[aB,(.bool false)],aU)))) (aa5 aE.2.1 0 .junk) (aa5 aE.2.1 1 .junk) (aa5 aE.2.1 2 .junk) aE.2.2))))))) (aa5 r4.2.1 0 .junk) (aa5 r4.2.1 1 .junk) (aa5 r4.2.1 2 .junk) (aa5 r4.2.1 3 .junk) r4.2.2).bind fun aI=>(fun aF aG aL=>Ex.mX aI.1 ((kO true 6 aL aF).bind fun bG=>lZ (aa7 h0) (.tuple [bG,aG]) aL)) (aa5 aI.2.1 0 .junk) (aa5 aI.2.1 1 .junk) aI.2.2
theorem Ag (K:kX) (a0:kH) (h0:kL):pD Tryz.prog mK mL K 160 [a0] h0=Kk (lT mK K) a0 h0:=by kernel_rfl
def oX (K:kX) (a0:kH) (h0:kL):Option (nH×kL) :=
 (kS (lO 11 h0 a0) fun t0 h1=>(kJ 0 t0).bind fun t2=>(kO false 1 h1 t2).bind fun t3=>kM (K 160 [(kH.kN t3)] h1) (fun t4 h5=>(lK 0 t4).bind fun t6=>(lK 1 t4).bind fun t7=>kS (lO 6 h5 (.agg [(.bool false),(.bool false),(.int .i64 0),(.bool false),(.bool false),(.bool false)])) fun t8 h9=>(kT 6 h9 t8 t6).bind fun fX=>(vS .not t7).bind fun aY=>(kI false aY ((kJ 3 t0).bind fun gT=>kQ gT fX) (kQ (.tuple []) fX)).bind (kP (fun gU cE=>(kI false aY ((kO false 1 cE gU).bind fun gV=>kQ gV cE) (kQ (.tuple []) cE)).bind (kP (fun gW fY=>(kI false aY ((kJ 0 t8).bind fun gX=>kQ gX fY) (kQ (.tuple []) fY)).bind (kP (fun gY cF=>(kI false aY ((kO false 1 cF gY).bind fun gZ=>kQ gZ cF) (kQ (.tuple []) cF)).bind (kP (fun g_ fZ=>(kI false aY (kM (K 79 [(kH.kN gW),(kH.kN g_)] fZ) (fun hD gO=>kQ hD gO) zG) (kQ (.tuple []) fZ)).bind (kP (fun hI f_=>(kI false aY ((vS .not hI).bind fun hO=>kQ hO f_) (kQ (.tuple []) f_)).bind (kP (fun hQ gA=>(lL aY (.bool true) hQ).bind fun aZ=>(kI false aZ ((kJ 2 t0).bind fun h_=>kQ h_ gA) (kQ (.tuple []) gA)).bind (kP (fun iA cJ=>(kI false aZ ((kO false 1 cJ iA).bind fun iB=>kQ iB cJ) (kQ (.tuple []) cJ)).bind (kP (fun iC gB=>(kI false aZ ((kJ 3 t8).bind fun iD=>kQ iD gB) (kQ (.tuple []) gB)).bind (kP (fun iE cK=>(kI false aZ ((kO false 1 cK iE).bind fun iF=>kQ iF cK) (kQ (.tuple []) cK)).bind (kP (fun iG gC=>(kI false aZ (kM (K 80 [(kH.kN iC),(kH.kN iG)] gC) (fun iH gP=>kQ iH gP) zG) (kQ (.tuple []) gC)).bind (kP (fun iI gD=>(kI false aZ ((vS .not iI).bind fun iJ=>kQ iJ gD) (kQ (.tuple []) gD)).bind (kP (fun iK gE=>(lL aZ (.bool true) iK).bind fun a_=>(kI false a_ ((kJ 7 t0).bind fun iL=>kQ iL gE) (kQ (.tuple []) gE)).bind (kP (fun iM cL=>(kI false a_ ((kO false 1 cL iM).bind fun iN=>kQ iN cL) (kQ (.tuple []) cL)).bind (kP (fun iO gF=>(kI false a_ ((mS iO).bind fun iP=>kQ iP gF) (kQ (.tuple []) gF)).bind (kP (fun iQ gG=>(kI false a_ ((kJ 2 t8).bind fun iR=>kQ iR gG) (kQ (.tuple []) gG)).bind (kP (fun iS cM=>(kI false a_ ((kO false 1 cM iS).bind fun iT=>kQ iT cM) (kQ (.tuple []) cM)).bind (kP (fun iU gH=>(kI false a_ ((kR .neq iQ iU).bind fun iV=>kQ iV gH) (kQ (.tuple []) gH)).bind (kP (fun iW gI=>(lL a_ (.bool true) iW).bind fun cB=>(kI false cB ((kJ 7 t0).bind fun iX=>kQ iX gI) (kQ (.tuple []) gI)).bind (kP (fun iY cN=>(kI false cB ((kO false 1 cN iY).bind fun iZ=>kQ iZ cN) (kQ (.tuple []) cN)).bind (kP (fun i_ gJ=>(kI false cB (kM (K 81 [(kH.kN i_)] gJ) (fun jA gQ=>kQ jA gQ) zG) (kQ (.tuple []) gJ)).bind (kP (fun jB gK=>(kI false cB ((vS .not jB).bind fun jC=>kQ jC gK) (kQ (.tuple []) gK)).bind (kP (fun jD cD=>(lL cB (.bool true) jD).bind fun jE=>kV jE (some (.ret,[(.bool false)],cD)) ((kJ 1 t8).bind fun jF=>(kO false 1 cD jF).bind fun cC=>(kI true cC ((kJ 4 t0).bind fun jG=>kQ jG cD) (kQ (.tuple []) cD)).bind (kP (fun jH cO=>(kI true cC ((kO true 3 cO jH).bind fun jI=>kQ jI cO) (kQ (.tuple []) cO)).bind (kP (fun jJ gL=>(kI true cC (kM (K 67 [(kH.kN jJ)] gL) (fun jK gR=>kQ jK gR) zG) (kQ (.tuple []) gL)).bind (kP (fun jL gM=>(kI true cC ((vS .not jL).bind fun jM=>kQ jM gM) (kQ (.tuple []) gM)).bind (kP (fun jN gN=>(lL cC jN (.bool false)).bind fun aB=>(kI false aB ((kJ 1 t8).bind fun cP=>kQ cP gN) (kQ (.tuple []) gN)).bind (kP (fun cQ aL=>(kI false aB ((kO false 1 aL cQ).bind fun cR=>kQ cR aL) (kQ (.tuple []) aL)).bind (kP (fun cS bB=>(kI false aB ((vS .not cS).bind fun cT=>kQ cT bB) (kQ (.tuple []) bB)).bind (kP (fun cU bC=>(kI false aB (kQ cU bC) (kQ (.tuple []) bC)).bind (kP (fun aE bD=>(kI true aE ((kJ 4 t0).bind fun cV=>kQ cV bD) (kQ (.tuple []) bD)).bind (kP (fun cW aM=>(kI true aE ((kO true 3 aM cW).bind fun cX=>kQ cX aM) (kQ (.tuple []) aM)).bind (kP (fun cY bE=>(kI true aE ((lR [(.int .i64 0),(.int .i64 0),(.int .i64 0)] [(0,1),(1,1),(2,1)] []).bind fun cZ=>kQ cZ bE) (kQ (.tuple []) bE)).bind (kP (fun c6 bF=>(kI true aE ((sL [.i,.i,.i] cY c6).bind fun c7=>kQ (.bool (!c7)) bF) (kQ (.tuple []) bF)).bind (kP (fun c8 bG=>(kI false aB ((lL aE c8 (.bool false)).bind fun c9=>kQ c9 bG) (kQ (.tuple []) bG)).bind (kP (fun c_ bH=>(lL aB (.bool true) c_).bind fun aC=>(kI false aC ((kJ 0 t0).bind fun dA=>kQ dA bH) (kQ (.tuple []) bH)).bind (kP (fun dB aN=>(kI false aC ((kO false 1 aN dB).bind fun dC=>kQ dC aN) (kQ (.tuple []) aN)).bind (kP (fun dD bI=>(kI false aC ((kR .eql dD (.int .i64 7)).bind fun dE=>kQ dE bI) (kQ (.tuple []) bI)).bind (kP (fun dF bJ=>(kI false aC (kQ dF bJ) (kQ (.tuple []) bJ)).bind (kP (fun aA bK=>(kI true aA ((kJ 7 t0).bind fun dG=>kQ dG bK) (kQ (.tuple []) bK)).bind (kP (fun dH aO=>(kI true aA ((kO false 1 aO dH).bind fun dI=>kQ dI aO) (kQ (.tuple []) aO)).bind (kP (fun dJ bL=>(kI true aA ((k9 5 dJ (.int .i64 0)).bind fun dK=>kQ dK bL) (kQ (.tuple []) bL)).bind (kP (fun dL bM=>(kI true aA ((kJ 0 dL).bind fun dM=>kQ dM bM) (kQ (.tuple []) bM)).bind (kP (fun dN aP=>(kI true aA ((kO false 1 aP dN).bind fun dO=>kQ dO aP) (kQ (.tuple []) aP)).bind (kP (fun dP bN=>(kI true aA ((kR .neq dP (.int .i64 4)).bind fun dQ=>kQ dQ bN) (kQ (.tuple []) bN)).bind (kP (fun dR bO=>(kI false aC ((lL aA dR (.bool false)).bind fun dU=>kQ dU bO) (kQ (.tuple []) bO)).bind (kP (fun dV aI=>(lL aC (.bool true) dV).bind fun dW=>kV dW (some (.ret,[(.bool false)],aI)) ((kJ 4 t8).bind fun dX=>(kO false 1 aI dX).bind fun dY=>(vS .not dY).bind fun aF=>(kI true aF ((kJ 8 t0).bind fun dZ=>kQ dZ aI) (kQ (.tuple []) aI)).bind (kP (fun d_ aQ=>(kI true aF ((kO false 1 aQ d_).bind fun eA=>kQ eA aQ) (kQ (.tuple []) aQ)).bind (kP (fun eB bP=>(kI true aF ((mS eB).bind fun eC=>kQ eC bP) (kQ (.tuple []) bP)).bind (kP (fun eD bQ=>(kI true aF ((kR .gtr eD (.int .i64 0)).bind fun eE=>kQ eE bQ) (kQ (.tuple []) bQ)).bind (kP (fun eF bR=>(lL aF eF (.bool false)).bind fun aG=>(kI false aG ((kJ 10 t0).bind fun eG=>kQ eG bR) (kQ (.tuple []) bR)).bind (kP (fun eH aR=>(kI false aG ((kO false 1 aR eH).bind fun eI=>kQ eI aR) (kQ (.tuple []) aR)).bind (kP (fun eJ bS=>(kI false aG (kQ eJ bS) (kQ (.tuple []) bS)).bind (kP (fun aJ bT=>(kI true aJ ((kJ 5 t8).bind fun eK=>kQ eK bT) (kQ (.tuple []) bT)).bind (kP (fun eL aS=>(kI true aJ ((kO false 1 aS eL).bind fun eM=>kQ eM aS) (kQ (.tuple []) aS)).bind (kP (fun eN bU=>(kI true aJ ((vS .not eN).bind fun eO=>kQ eO bU) (kQ (.tuple []) bU)).bind (kP (fun eP bV=>(kI false aG ((lL aJ eP (.bool false)).bind fun eQ=>kQ eQ bV) (kQ (.tuple []) bV)).bind (kP (fun eR bW=>(lL aG (.bool true) eR).bind fun aD=>(kI false aD ((kJ 10 t0).bind fun eS=>kQ eS bW) (kQ (.tuple []) bW)).bind (kP (fun eT aT=>(kI false aD ((kO false 1 aT eT).bind fun eU=>kQ eU aT) (kQ (.tuple []) aT)).bind (kP (fun eV bX=>(kI false aD ((vS .not eV).bind fun eX=>kQ eX bX) (kQ (.tuple []) bX)).bind (kP (fun eY bY=>(kI false aD (kQ eY bY) (kQ (.tuple []) bY)).bind (kP (fun aH bZ=>(kI true aH ((kJ 9 t0).bind fun eZ=>kQ eZ bZ) (kQ (.tuple []) bZ)).bind (kP (fun e_ aU=>(kI true aH ((kO false 1 aU e_).bind fun fB=>kQ fB aU) (kQ (.tuple []) aU)).bind (kP (fun fC b7=>(kI true aH ((mS fC).bind fun fD=>kQ fD b7) (kQ (.tuple []) b7)).bind (kP (fun fE b8=>(kI true aH ((kR .gtr fE (.int .i64 0)).bind fun fF=>kQ fF b8) (kQ (.tuple []) b8)).bind (kP (fun fH b9=>(kI false aD ((lL aH fH (.bool false)).bind fun fI=>kQ fI b9) (kQ (.tuple []) b9)).bind (kP (fun fJ aV=>(lL aD (.bool true) fJ).bind fun fK=>kV fK (some (.ret,[(.bool false)],aV)) ((kJ 8 t0).bind fun fL=>(kO false 1 aV fL).bind fun fM=>kM (K 66 [(kH.kN fM)] aV) (fun aK b_=>(kI true aK ((kJ 9 t0).bind fun fN=>kQ fN b_) (kQ (.tuple []) b_)).bind (kP (fun fO aW=>(kI true aK ((kO false 1 aW fO).bind fun fQ=>kQ fQ aW) (kQ (.tuple []) aW)).bind (kP (fun fR cA=>(kI true aK (kM (K 66 [(kH.kN fR)] cA) (fun fS cG=>kQ fS cG) zG) (kQ (.tuple []) cA)).bind (kP (fun fU cH=>(lL aK fU (.bool false)).bind fun fV=>some (.ret,[fV],cH)) (fun _ _=>none))) (fun _ _=>none))) (fun _ _=>none))) (fun _ _=>none))) (fun _ _=>none))) (fun _ _=>none))) (fun _ _=>none))) (fun _ _=>none))) (fun _ _=>none))) (fun _ _=>none))) (fun _ _=>none))) (fun _ _=>none))) (fun _ _=>none))) (fun _ _=>none))) (fun _ _=>none))) (fun _ _=>none))) (fun _ _=>none))) (fun _ _=>none))) (fun _ _=>none))) (fun _ _=>none))) (fun _ _=>none))) (fun _ _=>none))) (fun _ _=>none))) (fun _ _=>none)))) (fun _ _=>none))) (fun _ _=>none))) (fun _ _=>none))) (fun _ _=>none))) (fun _ _=>none))) (fun _ _=>none))) (fun _ _=>none))) (fun _ _=>none))) (fun _ _=>none))) (fun _ _=>none))) (fun _ _=>none))) (fun _ _=>none))) (fun _ _=>none))) (fun _ _=>none))) (fun _ _=>none))) (fun _ _=>none))) (fun _ _=>none))) (fun _ _=>none))) (fun _ _=>none))) (fun _ _=>none))) (fun _ _=>none))) (fun _ _=>none))) (fun _ _=>none))) (fun _ _=>none)))) (fun _ _=>none))) (fun _ _=>none))) (fun _ _=>none))) (fun _ _=>none))) (fun _ _=>none))) (fun _ _=>none))) (fun _ _=>none))) (fun _ _=>none))) (fun _ _=>none))) (fun _ _=>none))) (fun _ _=>none))) (fun _ _=>none))) (fun _ _=>none))) (fun _ _=>none))) (fun _ _=>none))) (fun _ _=>none))) (fun _ _=>none))) (fun _ _=>none))) (fun _ _=>none))) (fun _ _=>none))) (fun _ _=>none))) (fun _ _=>none))) (fun _ _=>none)).bind fun aX=>(fun bA cI=>Ex.mX aX.1 (lZ (aa7 h0) bA cI)) (aa5 aX.2.1 0 .junk) aX.2.2
theorem Ae (K:kX) (a0:kH) (h0:kL):pD Tryz.prog mK mL K 123 [a0] h0=oX (lT mK K) a0 h0:=by kernel_rfl
def Eh (K:kX) (m:Nat) (s:List kH×kL):Option R :=
 (fun aD aB aC aA h5=>(kR .lss aA aC).bind fun t6=>kV t6 ((k9 11 aB aA).bind fun t7=>(kO true 11 h5 t7).bind fun t8=>kS (lO 11 h5 (.agg [(.int .i64 0),(.int .i64 0),(.int .i64 0),(.str []),(.int .i64 0),(.int .i64 0),(.int .i64 0),(.slice [] .nil),(.slice [] .nil),(.slice [] .nil),(.bool false)])) fun t9 aG=>(kT 11 aG t9 t8).bind fun aE=>(kO true 11 aE t9).bind fun aH=>kM (K 123 [(kH.kN aH)] aE) (fun aI aF=>(vS .not aI).bind fun aJ=>kV aJ (kW m .ret [(.bool false),aB,aC,aA] aF) ((kR .add aA (.int .i64 1)).bind fun aK=>kW m .normal [aD,aB,aC,aK] aF)) (fun _ _=>none)) (kW m (.exit 0) [aD,aB,aC,aA] h5)) (aa5 s.1 0 .junk) (aa5 s.1 1 .junk) (aa5 s.1 2 .junk) (aa5 s.1 3 .junk) s.2
def m66 (K:kX) (a0:kH) (h0:kL):Option (nH×kL) :=
 ((mS a0).bind fun t0=>(mL (Eh K (aa7 h0)) ([(.bool false),a0,t0,(.int .i64 0)],h0)).bind fun aA=>(fun aB aF aG aH aE=>Ex.lW aA.1 none (fun aI=>Ex.inBlock 0 aI (some (.ret,[(.bool true)],aE)) (fun aJ=>some (aJ,[aB],aE)))) (aa5 aA.2.1 0 .junk) (aa5 aA.2.1 1 .junk) (aa5 aA.2.1 2 .junk) (aa5 aA.2.1 3 .junk) aA.2.2).bind fun aD=>(fun aC aK=>Ex.mX aD.1 (lZ (aa7 h0) aC aK)) (aa5 aD.2.1 0 .junk) aD.2.2
theorem ajN (K:kX) (a0:kH) (h0:kL):pD Tryz.prog mK mL K 66 [a0] h0=m66 (lT mK K) a0 h0:=by kernel_rfl
def C3 (K:kX) (m:Nat) (s:List kH×kL):Option R :=
 (fun aD aE aB aC aA aG=>(kR .lss aA aC).bind fun aQ=>kV aQ ((k9 6 aB aA).bind fun aR=>(kO true 6 aG aR).bind fun aS=>kS (lO 6 aG (.agg [(.int .i64 0),(.str []),(.int .i64 0),(.int .i64 0),(.int .i64 0),(.bool false)])) fun aI aO=>(kT 6 aO aI aS).bind fun aJ=>(kJ 1 aI).bind fun aT=>(kO false 1 aJ aT).bind fun aU=>kM (K 65 [(kH.kN aU)] aJ) (fun aV aK=>(vS .not aV).bind fun aF=>(kI false aF ((kJ 2 aI).bind fun aW=>kQ aW aK) (kQ (.tuple []) aK)).bind (kP (fun aX aH=>(kI false aF ((kO true 3 aH aX).bind fun aY=>kQ aY aH) (kQ (.tuple []) aH)).bind (kP (fun aZ aL=>(kI false aF (kM (K 67 [(kH.kN aZ)] aL) (fun a_ aP=>kQ a_ aP) zG) (kQ (.tuple []) aL)).bind (kP (fun bA aM=>(kI false aF ((vS .not bA).bind fun bB=>kQ bB aM) (kQ (.tuple []) aM)).bind (kP (fun bC aN=>(lL aF (.bool true) bC).bind fun bD=>kV bD (kW m .ret [aD,(.bool false),aB,aC,aA] aN) ((kR .add aA (.int .i64 1)).bind fun bE=>kW m .normal [aD,aE,aB,aC,bE] aN)) (fun _ _=>none))) (fun _ _=>none))) (fun _ _=>none))) (fun _ _=>none))) (fun _ _=>none)) (kW m (.exit 0) [aD,aE,aB,aC,aA] aG)) (aa5 s.1 0 .junk) (aa5 s.1 1 .junk) (aa5 s.1 2 .junk) (aa5 s.1 3 .junk) (aa5 s.1 4 .junk) s.2
def m31 (K:kX) (a0:kH) (h0:kL):Option (nH×kL) :=
 (kS (lO 8 h0 a0) fun t0 h1=>(kJ 1 t0).bind fun t2=>(kO false 1 h1 t2).bind fun t3=>kM (K 65 [(kH.kN t3)] h1) (fun t4 h5=>(vS .not t4).bind fun t6=>(kI false t6 ((kJ 7 t0).bind fun t7=>kQ t7 h5) (kQ (.tuple []) h5)).bind (kP (fun t8 h9=>(kI false t6 ((kO false 1 h9 t8).bind fun bC=>kQ bC h9) (kQ (.tuple []) h9)).bind (kP (fun bD aQ=>(kI false t6 (kM (K 66 [(kH.kN bD)] aQ) (fun bE bA=>kQ bE bA) zG) (kQ (.tuple []) aQ)).bind (kP (fun bF aR=>(kI false t6 ((vS .not bF).bind fun bG=>kQ bG aR) (kQ (.tuple []) aR)).bind (kP (fun bH aI=>(lL t6 (.bool true) bH).bind fun bI=>kV bI (some (.ret,[(.bool false)],aI)) ((kJ 2 t0).bind fun bJ=>(kO false 1 aI bJ).bind fun aY=>(mS aY).bind fun bK=>(mL (C3 K (aa7 aI)) ([t0,(.bool false),aY,bK,(.int .i64 0)],aI)).bind fun aC=>(fun aA aH aN aO aP aE=>Ex.lW aC.1 none (fun aZ=>Ex.inBlock 0 aZ ((kJ 3 aA).bind fun bL=>(kO false 1 aE bL).bind fun bM=>kV bM ((kJ 4 aA).bind fun bN=>(kO true 3 aE bN).bind fun bO=>kM (K 67 [(kH.kN bO)] aE) (fun aF aS=>(kI true aF ((kJ 4 aA).bind fun bP=>kQ bP aS) (kQ (.tuple []) aS)).bind (kP (fun bQ aT=>(kI true aF ((kJ 1 bQ).bind fun bR=>kQ bR aT) (kQ (.tuple []) aT)).bind (kP (fun bS aK=>(kI true aF ((kO false 1 aK bS).bind fun bT=>kQ bT aK) (kQ (.tuple []) aK)).bind (kP (fun bU aU=>(kI true aF ((kR .eql bU (.int .i64 0)).bind fun bV=>kQ bV aU) (kQ (.tuple []) aU)).bind (kP (fun bW aV=>(lL aF bW (.bool false)).bind fun aG=>(kI true aG ((kJ 4 aA).bind fun bX=>kQ bX aV) (kQ (.tuple []) aV)).bind (kP (fun bY aW=>(kI true aG ((kJ 0 bY).bind fun bZ=>kQ bZ aW) (kQ (.tuple []) aW)).bind (kP (fun b7 aL=>(kI true aG ((kO false 1 aL b7).bind fun b8=>kQ b8 aL) (kQ (.tuple []) aL)).bind (kP (fun b9 aX=>(kI true aG ((kR .neq b9 (.int .i64 2)).bind fun b_=>kQ b_ aX) (kQ (.tuple []) aX)).bind (kP (fun cA bB=>(lL aG cA (.bool false)).bind fun cB=>some (.ret,[cB],bB)) (fun _ _=>none))) (fun _ _=>none))) (fun _ _=>none))) (fun _ _=>none))) (fun _ _=>none))) (fun _ _=>none))) (fun _ _=>none))) (fun _ _=>none))) (fun _ _=>none)) ((kJ 4 aA).bind fun cC=>(kO true 3 aE cC).bind fun cD=>(lR [(.int .i64 0),(.int .i64 0),(.int .i64 0)] [(0,1),(1,1),(2,1)] []).bind fun cE=>(sL [.i,.i,.i] cD cE).bind fun aM=>some (.ret,[(.bool aM)],aE))) (fun a_=>some (a_,[aH],aE)))) (aa5 aC.2.1 0 .junk) (aa5 aC.2.1 1 .junk) (aa5 aC.2.1 2 .junk) (aa5 aC.2.1 3 .junk) (aa5 aC.2.1 4 .junk) aC.2.2)) (fun _ _=>none))) (fun _ _=>none))) (fun _ _=>none))) (fun _ _=>none))) (fun _ _=>none)).bind fun aB=>(fun aD aJ=>Ex.mX aB.1 (lZ (aa7 h0) aD aJ)) (aa5 aB.2.1 0 .junk) aB.2.2
theorem ai4 (K:kX) (a0:kH) (h0:kL):pD Tryz.prog mK mL K 31 [a0] h0=m31 (lT mK K) a0 h0:=by kernel_rfl
end
noncomputable section
open Go Hk
def m38 (K:kX) (a0:kH) (h0:kL):Option (nH×kL) :=
 ((kR .lss a0 (.int .i64 1)).bind fun t0=>(kI false t0 (kQ a0 h0) (kQ (.tuple []) h0)).bind (kP (fun t1 h2=>(kI false t0 ((kR .gtr t1 (.int .i64 26)).bind fun t3=>kQ t3 h2) (kQ (.tuple []) h2)).bind (kP (fun t4 h5=>(lL t0 (.bool true) t4).bind fun t6=>kV t6 (some (.ret,[(.int .i64 (-2))],h5)) (kS (kU 27 1 [(.int .i64 0)] [(0,(.int .i64 (-2))),(1,(.int .i64 0)),(2,(.int .i64 0)),(3,(.int .i64 1)),(4,(.int .i64 (-1))),(5,(.int .i64 1)),(6,(.int .i64 1)),(7,(.int .i64 1)),(8,(.int .i64 2)),(9,(.int .i64 2)),(10,(.int .i64 2)),(11,(.int .i64 2)),(12,(.int .i64 2)),(13,(.int .i64 2)),(14,(.int .i64 1)),(15,(.int .i64 1)),(16,(.int .i64 1)),(17,(.int .i64 2)),(18,(.int .i64 2)),(19,(.int .i64 2)),(20,(.int .i64 2)),(21,(.int .i64 2)),(22,(.int .i64 2)),(23,(.int .i64 2)),(24,(.int .i64 2)),(25,(.int .i64 3)),(26,(.int .i64 1))] h5) fun t7 h8=>(k9 1 t7 a0).bind fun t9=>(kO false 1 h8 t9).bind fun aD=>some (.ret,[aD],h8))) (fun _ _=>none))) (fun _ _=>none))).bind fun aB=>(fun aA aC=>Ex.mX aB.1 (lZ (aa7 h0) aA aC)) (aa5 aB.2.1 0 .junk) aB.2.2
theorem ai9 (K:kX) (a0:kH) (h0:kL):pD Tryz.prog mK mL K 38 [a0] h0=m38 (lT mK K) a0 h0:=by kernel_rfl
def m39 (K:kX) (a0:kH) (h0:kL):Option (nH×kL) :=
 (kM (K 28 [(kH.kN a0)] h0) (fun t0 h1=>(lK 0 t0).bind fun t2=>(lK 1 t0).bind fun t3=>kS (lO 2 h1 (.agg [(.int .i64 0),(.int .i64 0)])) fun t4 h5=>(kT 2 h5 t4 t3).bind fun h6=>(kJ 0 t4).bind fun t7=>(kO false 1 h6 t7).bind fun t8=>(kR .eql t8 (.int .i64 0)).bind fun t9=>(kI true t9 (kQ t2 h6) (kQ (.tuple []) h6)).bind (kP (fun aT aG=>(kI true t9 ((mS aT).bind fun aU=>kQ aU aG) (kQ (.tuple []) aG)).bind (kP (fun aV aH=>(kI true t9 ((kR .eql aV (.int .i64 2)).bind fun aW=>kQ aW aH) (kQ (.tuple []) aH)).bind (kP (fun aX aI=>(lL t9 aX (.bool false)).bind fun aB=>(kI true aB (kQ t2 aI) (kQ (.tuple []) aI)).bind (kP (fun aY aJ=>(kI true aB ((k9 4 aY (.int .i64 0)).bind fun aZ=>kQ aZ aJ) (kQ (.tuple []) aJ)).bind (kP (fun a_ aK=>(kI true aB ((kJ 0 a_).bind fun bA=>kQ bA aK) (kQ (.tuple []) aK)).bind (kP (fun bB aD=>(kI true aB ((kO false 1 aD bB).bind fun bC=>kQ bC aD) (kQ (.tuple []) aD)).bind (kP (fun bD aL=>(kI true aB ((kR .eql bD (.int .i64 1)).bind fun bE=>kQ bE aL) (kQ (.tuple []) aL)).bind (kP (fun bF aM=>(lL aB bF (.bool false)).bind fun aA=>(kI true aA (kQ t2 aM) (kQ (.tuple []) aM)).bind (kP (fun bG aN=>(kI true aA ((k9 4 bG (.int .i64 0)).bind fun bH=>kQ bH aN) (kQ (.tuple []) aN)).bind (kP (fun bI aO=>(kI true aA ((kJ 3 bI).bind fun bJ=>kQ bJ aO) (kQ (.tuple []) aO)).bind (kP (fun bK aE=>(kI true aA ((kO false 1 aE bK).bind fun bL=>kQ bL aE) (kQ (.tuple []) aE)).bind (kP (fun bM aP=>(kI true aA (kQ a0 aP) (kQ (.tuple []) aP)).bind (kP (fun bN aQ=>(kI true aA ((kR .eql bM bN).bind fun bO=>kQ bO aQ) (kQ (.tuple []) aQ)).bind (kP (fun bP aR=>(lL aA bP (.bool false)).bind fun bQ=>some (.ret,[bQ],aR)) (fun _ _=>none))) (fun _ _=>none))) (fun _ _=>none))) (fun _ _=>none))) (fun _ _=>none))) (fun _ _=>none))) (fun _ _=>none))) (fun _ _=>none))) (fun _ _=>none))) (fun _ _=>none))) (fun _ _=>none))) (fun _ _=>none))) (fun _ _=>none))) (fun _ _=>none))) (fun _ _=>none)).bind fun aF=>(fun aC aS=>Ex.mX aF.1 (lZ (aa7 h0) aC aS)) (aa5 aF.2.1 0 .junk) aF.2.2
theorem ajA (K:kX) (a0:kH) (h0:kL):pD Tryz.prog mK mL K 39 [a0] h0=m39 (lT mK K) a0 h0:=by kernel_rfl
def m40 (K:kX) (a0:kH) (h0:kL):Option (nH×kL) :=
 ((kR .geq a0 (.int .i64 0)).bind fun t0=>(kI true t0 (kQ a0 h0) (kQ (.tuple []) h0)).bind (kP (fun t1 h2=>(kI true t0 ((kR .lss t1 (.int .i64 4294967296)).bind fun t3=>kQ t3 h2) (kQ (.tuple []) h2)).bind (kP (fun t4 h5=>(lL t0 t4 (.bool false)).bind fun t6=>some (.ret,[t6],h5)) (fun _ _=>none))) (fun _ _=>none))).bind fun r7=>(fun aA h9=>Ex.mX r7.1 (lZ (aa7 h0) aA h9)) (aa5 r7.2.1 0 .junk) r7.2.2
theorem ajB (K:kX) (a0:kH) (h0:kL):pD Tryz.prog mK mL K 40 [a0] h0=m40 (lT mK K) a0 h0:=by kernel_rfl
def Ed (K:kX) (m:Nat) (s:List kH×kL):Option R :=
 (fun aA aD aB aC=>(kJ 4 aA).bind fun aF=>(kO false 1 aC aF).bind fun aG=>(mS aG).bind fun aH=>(kR .lss aB aH).bind fun aI=>kV aI ((kJ 4 aA).bind fun aJ=>(kO false 1 aC aJ).bind fun aK=>(k9 5 aK aB).bind fun aL=>(kO true 5 aC aL).bind fun aM=>kM (K 18 [(kH.kN aM)] aC) (fun aN aE=>(vS .not aN).bind fun aO=>kV aO (kW m .ret [aA,(.bool false),aB] aE) ((kR .add aB (.int .i64 1)).bind fun aP=>kW m .normal [aA,aD,aP] aE)) (fun _ _=>none)) (kW m (.exit 2) [aA,aD,aB] aC)) (aa5 s.1 0 .junk) (aa5 s.1 1 .junk) (aa5 s.1 2 .junk) s.2
def m18 (K:kX) (a0:kH) (h0:kL):Option (nH×kL) :=
 (kS (lO 5 h0 a0) fun t0 h1=>(kJ 0 t0).bind fun t2=>(kO false 1 h1 t2).bind fun t3=>kM (K 38 [(kH.kN t3)] h1) (fun t4 h5=>(kR .eql t4 (.int .i64 (-2))).bind fun t6=>(kI false t6 (kQ t4 h5) (kQ (.tuple []) h5)).bind (kP (fun t7 h8=>(kI false t6 ((kR .geq t7 (.int .i64 0)).bind fun t9=>kQ t9 h8) (kQ (.tuple []) h8)).bind (kP (fun cQ bZ=>(kI false t6 (kQ cQ bZ) (kQ (.tuple []) bZ)).bind (kP (fun a_ b7=>(kI true a_ (kQ t4 b7) (kQ (.tuple []) b7)).bind (kP (fun cR b8=>(kI true a_ ((kJ 4 t0).bind fun cS=>kQ cS b8) (kQ (.tuple []) b8)).bind (kP (fun cT bV=>(kI true a_ ((kO false 1 bV cT).bind fun cU=>kQ cU bV) (kQ (.tuple []) bV)).bind (kP (fun cV b9=>(kI true a_ ((mS cV).bind fun cW=>kQ cW b9) (kQ (.tuple []) b9)).bind (kP (fun cX b_=>(kI true a_ ((kR .neq cR cX).bind fun cY=>kQ cY b_) (kQ (.tuple []) b_)).bind (kP (fun cZ cA=>(kI false t6 ((lL a_ cZ (.bool false)).bind fun c6=>kQ c6 cA) (kQ (.tuple []) cA)).bind (kP (fun c7 aF=>(lL t6 (.bool true) c7).bind fun c8=>kV c8 (some (.ret,[(.bool false)],aF)) ((kJ 0 t0).bind fun c9=>(kO false 1 aF c9).bind fun bW=>((kR .eql bW (.int .i64 2)).bind fun cF=>(kV cF (kW (aa7 aF) .normal [t0,(.bool false),cF] aF) ((kR .eql bW (.int .i64 3)).bind fun cG=>(kV cG (kW (aa7 aF) .normal [t0,(.bool false),cG] aF) ((kR .eql bW (.int .i64 4)).bind fun c_=>kW (aa7 aF) .normal [t0,(.bool false),c_] aF)).bind fun bB=>(fun bG bJ aT cN=>Ex.sO bB.1 (kW (aa7 aF) .normal [bG,bJ,aT] cN)) (aa5 bB.2.1 0 .junk) (aa5 bB.2.1 1 .junk) (aa5 bB.2.1 2 .junk) bB.2.2)).bind fun bC=>(fun aA aM aU aI=>Ex.sO bC.1 ((kV aU ((kJ 3 aA).bind fun dA=>(kO false 1 aI dA).bind fun dB=>kM (K 39 [(kH.kN dB)] aI) (fun dC cB=>(vS .not dC).bind fun dD=>kV dD (kW (aa7 aI) .ret [aA,(.bool false)] cB) (kW (aa7 aI) .normal [aA,aM] cB)) (fun _ _=>none)) ((kJ 3 aA).bind fun dE=>(kO false 1 aI dE).bind fun dF=>(kR .neq dF (.str [])).bind fun dG=>kV dG (kW (aa7 aI) .ret [aA,(.bool false)] aI) (kW (aa7 aI) .normal [aA,aM] aI))).bind fun bM=>(fun aK aN cC=>Ex.lW bM.1 (kW (aa7 aF) .normal [aK,aN] cC) (fun cK=>kW (aa7 aF) cK [aK,aN] cC)) (aa5 bM.2.1 0 .junk) (aa5 bM.2.1 1 .junk) bM.2.2)) (aa5 bC.2.1 0 .junk) (aa5 bC.2.1 1 .junk) (aa5 bC.2.1 2 .junk) bC.2.2).bind fun bN=>(fun aC aD aE=>Ex.inBlock 0 bN.1 ((kJ 0 aC).bind fun dH=>(kO false 1 aE dH).bind fun bQ=>((kR .eql bQ (.int .i64 1)).bind fun cH=>(kV cH (kW (aa7 aE) .normal [aC,aD,cH] aE) ((kR .eql bQ (.int .i64 14)).bind fun cI=>(kV cI (kW (aa7 aE) .normal [aC,aD,cI] aE) ((kR .eql bQ (.int .i64 15)).bind fun cJ=>(kV cJ (kW (aa7 aE) .normal [aC,aD,cJ] aE) ((kR .eql bQ (.int .i64 16)).bind fun dI=>kW (aa7 aE) .normal [aC,aD,dI] aE)).bind fun bD=>(fun bH bK aX cO=>Ex.sO bD.1 (kW (aa7 aE) .normal [bH,bK,aX] cO)) (aa5 bD.2.1 0 .junk) (aa5 bD.2.1 1 .junk) (aa5 bD.2.1 2 .junk) bD.2.2)).bind fun bE=>(fun bI bL aY cP=>Ex.sO bE.1 (kW (aa7 aE) .normal [bI,bL,aY] cP)) (aa5 bE.2.1 0 .junk) (aa5 bE.2.1 1 .junk) (aa5 bE.2.1 2 .junk) bE.2.2)).bind fun bF=>(fun aB aO aZ aJ=>Ex.sO bF.1 ((kV aZ ((kJ 2 aB).bind fun dJ=>(kO false 1 aJ dJ).bind fun dK=>kM (K 40 [(kH.kN dK)] aJ) (fun dL cD=>(vS .not dL).bind fun dM=>kV dM (kW (aa7 aJ) .ret [aB,(.bool false)] cD) (kW (aa7 aJ) .normal [aB,aO] cD)) (fun _ _=>none)) ((kJ 2 aB).bind fun dN=>(kO false 1 aJ dN).bind fun dO=>(kR .neq dO (.int .i64 0)).bind fun dP=>kV dP (kW (aa7 aJ) .ret [aB,(.bool false)] aJ) (kW (aa7 aJ) .normal [aB,aO] aJ))).bind fun bO=>(fun aL aP cE=>Ex.lW bO.1 (kW (aa7 aE) .normal [aL,aP] cE) (fun cM=>kW (aa7 aE) cM [aL,aP] cE)) (aa5 bO.2.1 0 .junk) (aa5 bO.2.1 1 .junk) bO.2.2)) (aa5 bF.2.1 0 .junk) (aa5 bF.2.1 1 .junk) (aa5 bF.2.1 2 .junk) bF.2.2).bind fun bP=>(fun aS aH aQ=>Ex.inBlock 1 bP.1 ((mL (Ed K (aa7 aQ)) ([aS,aH,(.int .i64 0)],aQ)).bind fun aG=>(fun bX aV bY bA=>Ex.lW aG.1 none (fun bS=>Ex.inBlock 2 bS (some (.ret,[(.bool true)],bA)) (fun bT=>some (bT,[aV],bA)))) (aa5 aG.2.1 0 .junk) (aa5 aG.2.1 1 .junk) (aa5 aG.2.1 2 .junk) aG.2.2) (fun bR=>some (bR,[aH],aQ))) (aa5 bP.2.1 0 .junk) (aa5 bP.2.1 1 .junk) bP.2.2) (fun cL=>some (cL,[aD],aE))) (aa5 bN.2.1 0 .junk) (aa5 bN.2.1 1 .junk) bN.2.2)) (fun _ _=>none))) (fun _ _=>none))) (fun _ _=>none))) (fun _ _=>none))) (fun _ _=>none))) (fun _ _=>none))) (fun _ _=>none))) (fun _ _=>none))) (fun _ _=>none))) (fun _ _=>none)).bind fun aR=>(fun aW bU=>Ex.mX aR.1 (lZ (aa7 h0) aW bU)) (aa5 aR.2.1 0 .junk) aR.2.2
theorem aiW (K:kX) (a0:kH) (h0:kL):pD Tryz.prog mK mL K 18 [a0] h0=m18 (lT mK K) a0 h0:=by kernel_rfl
def m41 (K:kX) (a0:kH) (h0:kL):Option (nH×kL) :=
 ((kR .eql a0 (.int .i64 17)).bind fun t0=>(kV t0 (kW (aa7 h0) .normal [(.int .i64 0),a0,t0] h0) ((kR .eql a0 (.int .i64 18)).bind fun t1=>(kV t1 (kW (aa7 h0) .normal [(.int .i64 0),a0,t1] h0) ((kR .eql a0 (.int .i64 19)).bind fun t2=>(kV t2 (kW (aa7 h0) .normal [(.int .i64 0),a0,t2] h0) ((kR .eql a0 (.int .i64 20)).bind fun t3=>(kV t3 (kW (aa7 h0) .normal [(.int .i64 0),a0,t3] h0) ((kR .eql a0 (.int .i64 21)).bind fun t4=>(kV t4 (kW (aa7 h0) .normal [(.int .i64 0),a0,t4] h0) ((kR .eql a0 (.int .i64 22)).bind fun t5=>kW (aa7 h0) .normal [(.int .i64 0),a0,t5] h0)).bind fun r6=>(fun bB bC bD bH=>Ex.sO r6.1 (kW (aa7 h0) .normal [bB,bC,bD] bH)) (aa5 r6.2.1 0 .junk) (aa5 r6.2.1 1 .junk) (aa5 r6.2.1 2 .junk) r6.2.2)).bind fun aI=>(fun aO aS aW bI=>Ex.sO aI.1 (kW (aa7 h0) .normal [aO,aS,aW] bI)) (aa5 aI.2.1 0 .junk) (aa5 aI.2.1 1 .junk) (aa5 aI.2.1 2 .junk) aI.2.2)).bind fun aJ=>(fun aP aT aX bJ=>Ex.sO aJ.1 (kW (aa7 h0) .normal [aP,aT,aX] bJ)) (aa5 aJ.2.1 0 .junk) (aa5 aJ.2.1 1 .junk) (aa5 aJ.2.1 2 .junk) aJ.2.2)).bind fun aK=>(fun aQ aU aY bK=>Ex.sO aK.1 (kW (aa7 h0) .normal [aQ,aU,aY] bK)) (aa5 aK.2.1 0 .junk) (aa5 aK.2.1 1 .junk) (aa5 aK.2.1 2 .junk) aK.2.2)).bind fun aL=>(fun aD aA aZ aC=>Ex.sO aL.1 (kV aZ (some (.ret,[(.int .i64 1)],aC)) ((kR .eql aA (.int .i64 12)).bind fun bM=>kV bM (some (.ret,[(.int .i64 2)],aC)) ((kR .eql aA (.int .i64 13)).bind fun bN=>kV bN (some (.ret,[(.int .i64 3)],aC)) ((kR .eql aA (.int .i64 11)).bind fun bO=>kV bO (some (.ret,[(.int .i64 4)],aC)) ((kR .eql aA (.int .i64 14)).bind fun bE=>(kV bE (kW (aa7 aC) .normal [aD,aA,bE] aC) ((kR .eql aA (.int .i64 15)).bind fun bP=>kW (aa7 aC) .normal [aD,aA,bP] aC)).bind fun aM=>(fun aE aB aF aH=>Ex.sO aM.1 (kV aF (some (.ret,[(.int .i64 5)],aH)) ((kR .eql aB (.int .i64 8)).bind fun bF=>(kV bF (kW (aa7 aH) .normal [aE,aB,bF] aH) ((kR .eql aB (.int .i64 9)).bind fun bQ=>kW (aa7 aH) .normal [aE,aB,bQ] aH)).bind fun aN=>(fun bG aV aG a_=>Ex.sO aN.1 (kV aG (some (.ret,[(.int .i64 6)],a_)) ((kR .eql aV (.int .i64 10)).bind fun bR=>kV bR (some (.ret,[(.int .i64 7)],a_)) (some (.ret,[(.int .i64 8)],a_))))) (aa5 aN.2.1 0 .junk) (aa5 aN.2.1 1 .junk) (aa5 aN.2.1 2 .junk) aN.2.2))) (aa5 aM.2.1 0 .junk) (aa5 aM.2.1 1 .junk) (aa5 aM.2.1 2 .junk) aM.2.2)))))) (aa5 aL.2.1 0 .junk) (aa5 aL.2.1 1 .junk) (aa5 aL.2.1 2 .junk) aL.2.2).bind fun bA=>(fun aR bL=>Ex.mX bA.1 (lZ (aa7 h0) aR bL)) (aa5 bA.2.1 0 .junk) bA.2.2
theorem ajC (K:kX) (a0:kH) (h0:kL):pD Tryz.prog mK mL K 41 [a0] h0=m41 (lT mK K) a0 h0:=by kernel_rfl
def m43 (K:kX) (a0:kH) (h0:kL):Option (nH×kL) :=
 (kS (kU 27 1 [(.str [])] [(0,(.str [])),(1,(.str [])),(2,(.str [])),(3,(.str [])),(4,(.str [])),(5,(.str [126])),(6,(.str [45])),(7,(.str [33])),(8,(.str [43])),(9,(.str [45])),(10,(.str [42])),(11,(.str [38])),(12,(.str [124])),(13,(.str [94])),(14,(.str [60,60])),(15,(.str [62,62])),(16,(.str [114,111,114])),(17,(.str [61,61])),(18,(.str [33,61])),(19,(.str [60])),(20,(.str [60,61])),(21,(.str [62])),(22,(.str [62,61])),(23,(.str [109,117,108,104,105])),(24,(.str [99,97,114,114,121])),(25,(.str [115,101,108,101,99,116])),(26,(.str [119,111,114,100]))] h0) fun t0 h1=>(k9 1 t0 a0).bind fun t2=>(kO false 1 h1 t2).bind fun t3=>some (.ret,[t3],h1)).bind fun r4=>(fun aA h6=>Ex.mX r4.1 (lZ (aa7 h0) aA h6)) (aa5 r4.2.1 0 .junk) r4.2.2
theorem ajE (K:kX) (a0:kH) (h0:kL):pD Tryz.prog mK mL K 43 [a0] h0=m43 (lT mK K) a0 h0:=by kernel_rfl
def m44 (K:kX) (a0:kH) (h0:kL):Option (nH×kL) :=
 ((lR [(.int .i64 0),(.int .i64 0),(.int .i64 0),(.str [])] [(0,1),(1,1),(2,1),(3,1)] [(0,(.int .i64 2)),(2,a0)]).bind fun t0=>kM (K 90 [(kH.kN t0)] h0) (fun t1 h2=>some (.ret,[t1],h2)) (fun _ _=>none)).bind fun r3=>(fun aA h5=>Ex.mX r3.1 (lZ (aa7 h0) aA h5)) (aa5 r3.2.1 0 .junk) r3.2.2
theorem ajF (K:kX) (a0:kH) (h0:kL):pD Tryz.prog mK mL K 44 [a0] h0=m44 (lT mK K) a0 h0:=by kernel_rfl
def m42 (K:kX) (a0 a1:kH) (h0:kL):Option (nH×kL) :=
 (kS (lO 5 h0 a0) fun t0 h1=>(kO true 5 h1 t0).bind fun t2=>kM (K 19 [(kH.kN t2)] h1) (fun t3 h4=>(lK 0 t3).bind fun t5=>(lK 1 t3).bind fun t6=>kV a1 (some (.ret,[t5,t6],h4)) ((kR .add (.str [40]) t5).bind fun t7=>(kR .add t7 (.str [41])).bind fun t8=>(kR .add t6 (.int .i64 1)).bind fun t9=>some (.ret,[t8,t9],h4))) (fun _ _=>none)).bind fun aC=>(fun aA aB aD=>Ex.mX aC.1 (lZ (aa7 h0) (.tuple [aA,aB]) aD)) (aa5 aC.2.1 0 .junk) (aa5 aC.2.1 1 .junk) aC.2.2
theorem ajD (K:kX) (a0 a1:kH) (h0:kL):pD Tryz.prog mK mL K 42 [a0,a1] h0=m42 (lT mK K) a0 a1 h0:=by kernel_rfl
def I2 (K:kX) (m:Nat) (s:List kH×kL):Option R :=
 (fun aD aF aG aB aC aA aI=>(kJ 4 aD).bind fun aR=>(kO false 1 aI aR).bind fun aS=>(mS aS).bind fun aT=>(kR .lss aA aT).bind fun aU=>kV aU ((kR .gtr aA (.int .i64 0)).bind fun aV=>(kV aV ((kR .add aB (.str [44,32])).bind fun aW=>kW (aa7 aI) .normal [aD,aF,aG,aW,aC,aA] aI) (kW (aa7 aI) .normal [aD,aF,aG,aB,aC,aA] aI)).bind fun aE=>(fun aJ aN aO aK aL aH aM=>Ex.sO aE.1 ((kJ 4 aJ).bind fun aX=>(kO false 1 aM aX).bind fun aY=>(k9 5 aY aH).bind fun aZ=>(kO true 5 aM aZ).bind fun a_=>kM (K 19 [(kH.kN a_)] aM) (fun aP aQ=>(lK 0 aP).bind fun bA=>(lK 1 aP).bind fun bB=>(kR .add aK bA).bind fun bC=>(Bv aL bB).bind fun bD=>(kR .add aH (.int .i64 1)).bind fun bE=>kW m .normal [aJ,aN,aO,bC,bD,bE] aQ) (fun _ _=>none))) (aa5 aE.2.1 0 .junk) (aa5 aE.2.1 1 .junk) (aa5 aE.2.1 2 .junk) (aa5 aE.2.1 3 .junk) (aa5 aE.2.1 4 .junk) (aa5 aE.2.1 5 .junk) aE.2.2) (kW m (.exit 1) [aD,aF,aG,aB,aC,aA] aI)) (aa5 s.1 0 .junk) (aa5 s.1 1 .junk) (aa5 s.1 2 .junk) (aa5 s.1 3 .junk) (aa5 s.1 4 .junk) (aa5 s.1 5 .junk) s.2
def m19 (K:kX) (a0:kH) (h0:kL):Option (nH×kL) :=
 (kS (lO 5 h0 a0) fun t0 h1=>(kJ 0 t0).bind fun t2=>(kO false 1 h1 t2).bind fun t3=>kM (K 41 [(kH.kN t3)] h1) (fun t4 h5=>(kR .lss t4 (.int .i64 8)).bind fun t6=>kV t6 ((kJ 4 t0).bind fun t7=>(kO false 1 h5 t7).bind fun t8=>(k9 5 t8 (.int .i64 0)).bind fun t9=>(kJ 0 t9).bind fun dY=>(kO false 1 h5 dY).bind fun dZ=>kM (K 41 [(kH.kN dZ)] h5) (fun dK bH=>(kJ 4 t0).bind fun d_=>(kO false 1 bH d_).bind fun eA=>(k9 5 eA (.int .i64 0)).bind fun eB=>(kO true 5 bH eB).bind fun eC=>(kR .gtr dK t4).bind fun bA=>(kI false bA (kQ dK bH) (kQ (.tuple []) bH)).bind (kP (fun eD dC=>(kI false bA (kQ t4 dC) (kQ (.tuple []) dC)).bind (kP (fun eE dD=>(kI false bA ((kR .eql eD eE).bind fun eF=>kQ eF dD) (kQ (.tuple []) dD)).bind (kP (fun eG dE=>(kI false bA (kQ eG dE) (kQ (.tuple []) dE)).bind (kP (fun c7 dF=>(kI true c7 (kQ t4 dF) (kQ (.tuple []) dF)).bind (kP (fun eH dG=>(kI true c7 ((kR .gtr eH (.int .i64 1)).bind fun eI=>kQ eI dG) (kQ (.tuple []) dG)).bind (kP (fun eJ dH=>(kI false bA ((lL c7 eJ (.bool false)).bind fun eK=>kQ eK dH) (kQ (.tuple []) dH)).bind (kP (fun eL dQ=>(lL bA (.bool true) eL).bind fun eM=>kM (K 42 [(kH.kN eC),(kH.kN eM)] dQ) (fun dL aK=>(lK 0 dL).bind fun dM=>(lK 1 dL).bind fun dN=>(kJ 4 t0).bind fun eN=>(kO false 1 aK eN).bind fun eO=>(mS eO).bind fun eP=>(kR .eql eP (.int .i64 1)).bind fun eQ=>kV eQ ((kR .add dM (.str [32])).bind fun eR=>(kJ 0 t0).bind fun eS=>(kO false 1 aK eS).bind fun eT=>(kJ 2 t0).bind fun c8=>(kO false 1 aK c8).bind fun eU=>kM (K 43 [(kH.kN eT)] (nB (k_ [0] [c8]) aK)) (fun eV dR=>(kR .add eR eV).bind fun eX=>(kR .add eX (.str [32])).bind fun eY=>kM (K 44 [(kH.kN eU)] (lM (k_ [0] [c8]) aK dR)) (fun eZ dU=>(kR .add eY eZ).bind fun e_=>some (.ret,[e_,dN],dU)) (fun _ _=>none)) (fun _ _=>none)) ((kJ 4 t0).bind fun c9=>(kO false 1 aK c9).bind fun fB=>(k9 5 fB (.int .i64 1)).bind fun c_=>(kO true 5 aK c_).bind fun fC=>(kJ 4 t0).bind fun fD=>(kO false 1 aK fD).bind fun fE=>(k9 5 fE (.int .i64 1)).bind fun fF=>(kJ 0 fF).bind fun fH=>(kO false 1 aK fH).bind fun fI=>kM (K 41 [(kH.kN fI)] (nB (k_ [0,1] [c9,c_]) aK)) (fun fJ dV=>(kR .gtr fJ t4).bind fun fK=>kM (K 42 [(kH.kN fC),(kH.kN fK)] (lM (k_ [0,1] [c9,c_]) aK dV)) (fun dO dI=>(lK 0 dO).bind fun fL=>(lK 1 dO).bind fun fM=>(kR .add dM (.str [32])).bind fun fN=>(kJ 0 t0).bind fun fO=>(kO false 1 dI fO).bind fun fQ=>kM (K 43 [(kH.kN fQ)] dI) (fun fR dW=>(kR .add fN fR).bind fun fS=>(kR .add fS (.str [32])).bind fun fU=>(kR .add fU fL).bind fun fV=>(Bv dN fM).bind fun fX=>some (.ret,[fV,fX],dW)) (fun _ _=>none)) (fun _ _=>none)) (fun _ _=>none))) (fun _ _=>none)) (fun _ _=>none))) (fun _ _=>none))) (fun _ _=>none))) (fun _ _=>none))) (fun _ _=>none))) (fun _ _=>none))) (fun _ _=>none))) (fun _ _=>none)) ((kJ 0 t0).bind fun fY=>(kO false 1 h5 fY).bind fun bB=>(kR .eql bB (.int .i64 1)).bind fun fZ=>kV fZ ((kJ 2 t0).bind fun f_=>(kO false 1 h5 f_).bind fun gA=>kM (K 44 [(kH.kN gA)] h5) (fun gB dX=>some (.ret,[gB,(.int .i64 0)],dX)) (fun _ _=>none)) ((kR .eql bB (.int .i64 2)).bind fun gC=>kV gC ((kJ 3 t0).bind fun gD=>(kO false 1 h5 gD).bind fun gE=>some (.ret,[gE,(.int .i64 0)],h5)) ((kR .eql bB (.int .i64 3)).bind fun gF=>kV gF ((kJ 4 t0).bind fun gG=>(kO false 1 h5 gG).bind fun gH=>(k9 5 gH (.int .i64 0)).bind fun gI=>(kO true 5 h5 gI).bind fun gJ=>kM (K 19 [(kH.kN gJ)] h5) (fun dP dJ=>(lK 0 dP).bind fun gK=>(lK 1 dP).bind fun bR=>(kJ 3 t0).bind fun bS=>(kO false 1 dJ bS).bind fun bT=>(kR .add bT (.str [91])).bind fun bU=>(kR .add bU gK).bind fun bV=>(kR .add bV (.str [93])).bind fun bW=>(kR .add bR (.int .i64 1)).bind fun bX=>some (.ret,[bW,bX],dJ)) (fun _ _=>none)) ((kR .eql bB (.int .i64 5)).bind fun bE=>(kV bE (kW (aa7 h5) .normal [t0,(.str []),(.int .i64 0),bE] h5) ((kR .eql bB (.int .i64 6)).bind fun bF=>(kV bF (kW (aa7 h5) .normal [t0,(.str []),(.int .i64 0),bF] h5) ((kR .eql bB (.int .i64 7)).bind fun bY=>kW (aa7 h5) .normal [t0,(.str []),(.int .i64 0),bY] h5)).bind fun aH=>(fun aU aV aY aL bL=>Ex.sO aH.1 (kW (aa7 h5) .normal [aU,aV,aY,aL] bL)) (aa5 aH.2.1 0 .junk) (aa5 aH.2.1 1 .junk) (aa5 aH.2.1 2 .junk) (aa5 aH.2.1 3 .junk) aH.2.2)).bind fun aI=>(fun aA aW aZ aM aB=>Ex.sO aI.1 (kV aM ((kJ 4 aA).bind fun aS=>(kO false 1 aB aS).bind fun bZ=>(k9 5 bZ (.int .i64 0)).bind fun aT=>(kO true 5 aB aT).bind fun b7=>(kJ 4 aA).bind fun b8=>(kO false 1 aB b8).bind fun b9=>(k9 5 b9 (.int .i64 0)).bind fun b_=>(kJ 0 b_).bind fun cA=>(kO false 1 aB cA).bind fun cB=>kM (K 41 [(kH.kN cB)] (nB (k_ [0,1] [aS,aT]) aB)) (fun cC bM=>(kR .eql cC (.int .i64 8)).bind fun cD=>kM (K 42 [(kH.kN b7),(kH.kN cD)] (lM (k_ [0,1] [aS,aT]) aB bM)) (fun bG bC=>(lK 0 bG).bind fun cE=>(lK 1 bG).bind fun cF=>(kJ 0 aA).bind fun cG=>(kO false 1 bC cG).bind fun cH=>kM (K 43 [(kH.kN cH)] bC) (fun cI bN=>(kR .add cI cE).bind fun cJ=>(kR .add cF (.int .i64 1)).bind fun cK=>some (.ret,[cJ,cK],bN)) (fun _ _=>none)) (fun _ _=>none)) (fun _ _=>none)) ((kJ 0 aA).bind fun cL=>(kO false 1 aB cL).bind fun cM=>(kJ 3 aA).bind fun aP=>(kO false 1 aB aP).bind fun cN=>kM (K 43 [(kH.kN cM)] (nB (k_ [0] [aP]) aB)) (fun cO bD=>(kR .add cO cN).bind fun cP=>(kR .add cP (.str [40])).bind fun cQ=>(mL (I2 K (aa7 (lM (k_ [0] [aP]) aB bD))) ([aA,aW,aZ,cQ,(.int .i64 0),(.int .i64 0)],(lM (k_ [0] [aP]) aB bD))).bind fun C9=>(fun aN aD aE aF aG bI aC=>Ex.lW C9.1 none (fun bJ=>Ex.inBlock 1 bJ ((kJ 0 aN).bind fun cR=>(kO false 1 aC cR).bind fun cS=>(kR .eql cS (.int .i64 16)).bind fun cT=>(kV cT ((kR .add aF (.str [44,32])).bind fun cU=>(kJ 2 aN).bind fun cV=>(kO false 1 aC cV).bind fun cW=>kM (K 44 [(kH.kN cW)] aC) (fun cX bO=>(kR .add cU cX).bind fun cY=>kW (aa7 aC) .normal [aD,aE,cY,aG] bO) (fun _ _=>none)) (kW (aa7 aC) .normal [aD,aE,aF,aG] aC)).bind fun aJ=>(fun dA dB aQ aR bP=>Ex.sO aJ.1 ((kR .add aQ (.str [41])).bind fun cZ=>(kR .add aR (.int .i64 1)).bind fun c6=>some (.ret,[cZ,c6],bP))) (aa5 aJ.2.1 0 .junk) (aa5 aJ.2.1 1 .junk) (aa5 aJ.2.1 2 .junk) (aa5 aJ.2.1 3 .junk) aJ.2.2) (fun bK=>some (bK,[aD,aE],aC)))) (aa5 C9.2.1 0 .junk) (aa5 C9.2.1 1 .junk) (aa5 C9.2.1 2 .junk) (aa5 C9.2.1 3 .junk) (aa5 C9.2.1 4 .junk) (aa5 C9.2.1 5 .junk) C9.2.2) (fun _ _=>none)))) (aa5 aI.2.1 0 .junk) (aa5 aI.2.1 1 .junk) (aa5 aI.2.1 2 .junk) (aa5 aI.2.1 3 .junk) aI.2.2))))) (fun _ _=>none)).bind fun aO=>(fun aX a_ bQ=>Ex.mX aO.1 (lZ (aa7 h0) (.tuple [aX,a_]) bQ)) (aa5 aO.2.1 0 .junk) (aa5 aO.2.1 1 .junk) aO.2.2
theorem C0 (K:kX) (a0:kH) (h0:kL):pD Tryz.prog mK mL K 19 [a0] h0=m19 (lT mK K) a0 h0:=by kernel_rfl
end
noncomputable section
open Go Hk
def m16 (K:kX) (a0 a1:kH) (h0:kL):Option (nH×kL) :=
 (kS (lO 5 h0 a0) fun t0 h1=>kS (lO 4 h1 a1) fun t2 h3=>kS (lO 5 h3 (.agg [(.int .i64 0),(.int .i64 0),(.int .i64 0),(.str []),(.slice [] .nil)])) fun t4 h5=>(kJ 1 t2).bind fun t6=>(kO false 1 h5 t6).bind fun t7=>(kR .eql t7 (.int .i64 0)).bind fun t8=>(kV t8 ((kJ 2 t2).bind fun t9=>(kO false 1 h5 t9).bind fun bE=>(kJ 0 t0).bind fun bF=>(kT 1 h5 bF bE).bind fun aU=>kW (aa7 h5) .normal [t0,t4] aU) ((kR .eql t7 (.int .i64 1)).bind fun bG=>(kV bG ((kJ 2 t2).bind fun bH=>(kO false 1 h5 bH).bind fun bI=>(kJ 2 t0).bind fun bJ=>(kT 1 h5 bJ bI).bind fun aV=>kW (aa7 h5) .normal [t0,t4] aV) ((kR .eql t7 (.int .i64 2)).bind fun bK=>(kV bK ((kJ 3 t2).bind fun bL=>(kO false 1 h5 bL).bind fun bM=>(kJ 3 t0).bind fun bN=>(kT 1 h5 bN bM).bind fun aW=>kW (aa7 h5) .normal [t0,t4] aW) ((kR .eql t7 (.int .i64 3)).bind fun bO=>(kV bO ((lR [(.int .i64 0),(.int .i64 0),(.int .i64 0),(.str []),(.slice [] .nil)] [(0,1),(1,1),(2,1),(3,1),(4,1)] [(0,(.int .i64 1)),(2,(.int .i64 1))]).bind fun bP=>kS (kU 1 5 [(.int .i64 0),(.int .i64 0),(.int .i64 0),(.str []),(.slice [] .nil)] [(0,bP)] h5) fun bQ aR=>(kJ 4 t0).bind fun bR=>(kO false 1 aR bR).bind fun bS=>kS (mB 5 64 aR bQ bS) fun bT aX=>(kJ 4 t0).bind fun bU=>(kT 1 aX bU bT).bind fun aY=>kW (aa7 h5) .normal [t0,t4] aY) ((kR .eql t7 (.int .i64 4)).bind fun bV=>(kV bV ((kJ 4 t0).bind fun bW=>(kT 1 h5 bW (.slice [] .nil)).bind fun aZ=>kW (aa7 h5) .normal [t0,t4] aZ) (kW (aa7 h5) .normal [t0,t4] h5)).bind fun aL=>(fun aB aG a_=>Ex.sO aL.1 (kW (aa7 h5) .normal [aB,aG] a_)) (aa5 aL.2.1 0 .junk) (aa5 aL.2.1 1 .junk) aL.2.2)).bind fun aM=>(fun aC aH bA=>Ex.sO aM.1 (kW (aa7 h5) .normal [aC,aH] bA)) (aa5 aM.2.1 0 .junk) (aa5 aM.2.1 1 .junk) aM.2.2)).bind fun aN=>(fun aD aI bB=>Ex.sO aN.1 (kW (aa7 h5) .normal [aD,aI] bB)) (aa5 aN.2.1 0 .junk) (aa5 aN.2.1 1 .junk) aN.2.2)).bind fun aO=>(fun aE aJ bC=>Ex.sO aO.1 (kW (aa7 h5) .normal [aE,aJ] bC)) (aa5 aO.2.1 0 .junk) (aa5 aO.2.1 1 .junk) aO.2.2)).bind fun aP=>(fun aF aA aS=>Ex.sO aP.1 ((kO true 5 aS aF).bind fun bX=>(kT 5 aS aA bX).bind fun bD=>some (.ret,[aA],bD))) (aa5 aP.2.1 0 .junk) (aa5 aP.2.1 1 .junk) aP.2.2).bind fun aQ=>(fun aK aT=>Ex.mX aQ.1 ((kO true 5 aT aK).bind fun bY=>lZ (aa7 h0) bY aT)) (aa5 aQ.2.1 0 .junk) aQ.2.2
theorem aiU (K:kX) (a0 a1:kH) (h0:kL):pD Tryz.prog mK mL K 16 [a0,a1] h0=m16 (lT mK K) a0 a1 h0:=by kernel_rfl
def m11 (K:kX) (h0:kL):Option (nH×kL) :=
 (kM (K 12 [(kH.kN (.str [102,110,32,102,40,41,123,120,61,40,49,43,40,50,42,121,41,41,59,125]))] h0) (fun t0 h1=>(lK 0 t0).bind fun t2=>(lK 1 t0).bind fun t3=>kS (lO 1 h1 (.agg [(.slice [] .nil)])) fun t4 h5=>kS (lO 2 h5 (.agg [(.int .i64 0),(.int .i64 0)])) fun t6 h7=>(kT 1 h7 t4 t2).bind fun h8=>(kT 2 h8 t6 t3).bind fun h9=>(kO true 1 h9 t4).bind fun aI=>kM (K 14 [(kH.kN aI)] h9) (fun aF aD=>(lK 0 aF).bind fun aJ=>(lK 1 aF).bind fun aK=>(kR .eql aJ (.str [102,110,32,102,40,41,32,123,10,32,120,32,61,32,49,32,43,32,50,32,42,32,121,59,10,125,10])).bind fun aC=>(kI true aC (kQ aK aD) (kQ (.tuple []) aD)).bind (kP (fun aL aE=>(kI true aC ((kR .eql aL (.int .i64 0)).bind fun aM=>kQ aM aE) (kQ (.tuple []) aE)).bind (kP (fun aN aG=>(lL aC aN (.bool false)).bind fun aO=>some (.ret,[aO],aG)) (fun _ _=>none))) (fun _ _=>none))) (fun _ _=>none)) (fun _ _=>none)).bind fun aB=>(fun aA aH=>Ex.mX aB.1 (lZ (aa7 h0) aA aH)) (aa5 aB.2.1 0 .junk) aB.2.2
theorem aiI (K:kX) (h0:kL):pD Tryz.prog mK mL K 11 [] h0=m11 (lT mK K) h0:=by kernel_rfl
def m4 (K:kX) (a0 a1:kH) (h0:kL):Option (nH×kL) :=
 (kS (lO 4 h0 a1) fun t0 h1=>(kR .add (.str [102,110,32,102,40,41,32,123,32,120,32,61,32]) a0).bind fun t2=>(kR .add t2 (.str [59,32,125])).bind fun t3=>kM (K 12 [(kH.kN t3)] h1) (fun t4 h5=>(lK 0 t4).bind fun t6=>(lK 1 t4).bind fun t7=>kS (lO 1 h5 (.agg [(.slice [] .nil)])) fun t8 h9=>kS (lO 2 h9 (.agg [(.int .i64 0),(.int .i64 0)])) fun c7 c8=>(kT 1 c8 t8 t6).bind fun c9=>(kT 2 c9 c7 t7).bind fun bD=>(kJ 0 c7).bind fun dB=>(kO false 1 bD dB).bind fun dC=>(kR .neq dC (.int .i64 0)).bind fun aZ=>(kI false aZ ((kJ 0 t8).bind fun dD=>kQ dD bD) (kQ (.tuple []) bD)).bind (kP (fun dE bJ=>(kI false aZ ((kO false 1 bJ dE).bind fun dF=>kQ dF bJ) (kQ (.tuple []) bJ)).bind (kP (fun dG cN=>(kI false aZ ((mS dG).bind fun dH=>kQ dH cN) (kQ (.tuple []) cN)).bind (kP (fun dI cO=>(kI false aZ ((kR .eql dI (.int .i64 0)).bind fun dJ=>kQ dJ cO) (kQ (.tuple []) cO)).bind (kP (fun dK cP=>(lL aZ (.bool true) dK).bind fun aE=>(kI false aE ((kJ 0 t8).bind fun dL=>kQ dL cP) (kQ (.tuple []) cP)).bind (kP (fun dM bK=>(kI false aE ((kO false 1 bK dM).bind fun dN=>kQ dN bK) (kQ (.tuple []) bK)).bind (kP (fun dO cQ=>(kI false aE ((k9 8 dO (.int .i64 0)).bind fun dP=>kQ dP cQ) (kQ (.tuple []) cQ)).bind (kP (fun dQ cR=>(kI false aE ((kJ 7 dQ).bind fun dR=>kQ dR cR) (kQ (.tuple []) cR)).bind (kP (fun dU bL=>(kI false aE ((kO false 1 bL dU).bind fun dV=>kQ dV bL) (kQ (.tuple []) bL)).bind (kP (fun dW cS=>(kI false aE ((mS dW).bind fun dX=>kQ dX cS) (kQ (.tuple []) cS)).bind (kP (fun dY cT=>(kI false aE ((kR .eql dY (.int .i64 0)).bind fun dZ=>kQ dZ cT) (kQ (.tuple []) cT)).bind (kP (fun d_ cU=>(lL aE (.bool true) d_).bind fun aB=>(kI false aB ((kJ 0 t8).bind fun eA=>kQ eA cU) (kQ (.tuple []) cU)).bind (kP (fun eB bM=>(kI false aB ((kO false 1 bM eB).bind fun eC=>kQ eC bM) (kQ (.tuple []) bM)).bind (kP (fun eD cV=>(kI false aB ((k9 8 eD (.int .i64 0)).bind fun eE=>kQ eE cV) (kQ (.tuple []) cV)).bind (kP (fun eF cW=>(kI false aB ((kJ 7 eF).bind fun eG=>kQ eG cW) (kQ (.tuple []) cW)).bind (kP (fun eH bN=>(kI false aB ((kO false 1 bN eH).bind fun eI=>kQ eI bN) (kQ (.tuple []) bN)).bind (kP (fun eJ cX=>(kI false aB ((k9 11 eJ (.int .i64 0)).bind fun eK=>kQ eK cX) (kQ (.tuple []) cX)).bind (kP (fun eL cY=>(kI false aB ((kJ 7 eL).bind fun eM=>kQ eM cY) (kQ (.tuple []) cY)).bind (kP (fun eN bO=>(kI false aB ((kO false 1 bO eN).bind fun eO=>kQ eO bO) (kQ (.tuple []) bO)).bind (kP (fun eP cZ=>(kI false aB ((mS eP).bind fun eQ=>kQ eQ cZ) (kQ (.tuple []) cZ)).bind (kP (fun eR c6=>(kI false aB ((kR .eql eR (.int .i64 0)).bind fun eS=>kQ eS c6) (kQ (.tuple []) c6)).bind (kP (fun eT aA=>(lL aB (.bool true) eT).bind fun eU=>kV eU (kM (K 11 [] aA) (fun eV c_=>some (.ret,[eV],c_)) (fun _ _=>none)) ((kJ 0 t8).bind fun eX=>(kO false 1 (aA++[.free]) eX).bind fun eY=>(k9 8 eY (.int .i64 0)).bind fun eZ=>(kJ 7 eZ).bind fun e_=>(kO false 1 (aA++[.free]) e_).bind fun fB=>(k9 11 fB (.int .i64 0)).bind fun fC=>(kJ 7 fC).bind fun fD=>(kO false 1 (aA++[.free]) fD).bind fun fE=>(k9 5 fE (.int .i64 0)).bind fun fF=>(kO true 5 (aA++[.free]) fF).bind fun fH=>(kO true 4 (aA++[.free]) t0).bind fun fI=>kS (vG ((aa7 aA)+0) 5 (aA++[.free]) (.agg [(.int .i64 0),(.int .i64 0),(.int .i64 0),(.str []),(.slice [] .nil)])) fun a_ bP=>bif (List.take (aa7 aA) bP).all (tP (aa7 aA)) then(kM (K 16 [(kH.kN (wQ (aa7 aA) fH)),(kH.kN (wQ (aa7 aA) fI))] (List.take (aa7 aA) bP)) (fun fJ dA=>kQ fJ dA) zG).bind (Hc (aa7 aA) bP fun bQ bA=>(kT 5 bA a_ bQ).bind fun aM=>(kO true 5 aM a_).bind fun bR=>kM (K 17 [(kH.kN bR)] aM) (fun aU aN=>(lK 0 aU).bind fun aG=>(lK 1 aU).bind fun aH=>(kO true 5 aN a_).bind fun bS=>kM (K 18 [(kH.kN bS)] aN) (fun bT aC=>(vS .not bT).bind fun bU=>kV bU ((kR .eql aG (.str [])).bind fun aI=>(kI true aI (kQ aH aC) (kQ (.tuple []) aC)).bind (kP (fun bV aO=>(kI true aI ((kR .eql bV (.int .i64 2)).bind fun bW=>kQ bW aO) (kQ (.tuple []) aO)).bind (kP (fun bX aP=>(lL aI bX (.bool false)).bind fun aV=>(kI true aV (kM (K 11 [] aP) (fun bY bB=>kQ bY bB) zG) (kQ (.tuple []) aP)).bind (kP (fun bZ bC=>(lL aV bZ (.bool false)).bind fun b7=>some (.ret,[b7],bC)) (fun _ _=>none))) (fun _ _=>none))) (fun _ _=>none))) ((kO true 5 aC a_).bind fun b8=>kM (K 19 [(kH.kN b8)] aC) (fun aW aD=>(lK 0 aW).bind fun b9=>(lK 1 aW).bind fun b_=>(kR .gtr b_ (.int .i64 64)).bind fun cA=>kV cA ((kR .eql aG (.str [])).bind fun aJ=>(kI true aJ (kQ aH aD) (kQ (.tuple []) aD)).bind (kP (fun cB aQ=>(kI true aJ ((kR .eql cB (.int .i64 11)).bind fun cC=>kQ cC aQ) (kQ (.tuple []) aQ)).bind (kP (fun cD aR=>(lL aJ cD (.bool false)).bind fun aX=>(kI true aX (kM (K 11 [] aR) (fun cE bE=>kQ cE bE) zG) (kQ (.tuple []) aR)).bind (kP (fun cF bF=>(lL aX cF (.bool false)).bind fun cG=>some (.ret,[cG],bF)) (fun _ _=>none))) (fun _ _=>none))) (fun _ _=>none))) ((kR .eql aG b9).bind fun aK=>(kI true aK (kQ aH aD) (kQ (.tuple []) aD)).bind (kP (fun cH aS=>(kI true aK ((kR .eql cH (.int .i64 0)).bind fun cI=>kQ cI aS) (kQ (.tuple []) aS)).bind (kP (fun cJ aT=>(lL aK cJ (.bool false)).bind fun aY=>(kI true aY (kM (K 11 [] aT) (fun cK bG=>kQ cK bG) zG) (kQ (.tuple []) aT)).bind (kP (fun cL bH=>(lL aY cL (.bool false)).bind fun cM=>some (.ret,[cM],bH)) (fun _ _=>none))) (fun _ _=>none))) (fun _ _=>none)))) (fun _ _=>none))) (fun _ _=>none)) (fun _ _=>none)) else none)) (fun _ _=>none))) (fun _ _=>none))) (fun _ _=>none))) (fun _ _=>none))) (fun _ _=>none))) (fun _ _=>none))) (fun _ _=>none))) (fun _ _=>none))) (fun _ _=>none))) (fun _ _=>none))) (fun _ _=>none))) (fun _ _=>none))) (fun _ _=>none))) (fun _ _=>none))) (fun _ _=>none))) (fun _ _=>none))) (fun _ _=>none))) (fun _ _=>none))) (fun _ _=>none))) (fun _ _=>none))) (fun _ _=>none))) (fun _ _=>none)).bind fun aF=>(fun aL bI=>Ex.mX aF.1 (lZ (aa7 h0) aL bI)) (aa5 aF.2.1 0 .junk) aF.2.2
theorem aqI (K:kX) (a0 a1:kH) (h0:kL):pD Tryz.prog mK mL K 4 [a0,a1] h0=m4 (lT mK K) a0 a1 h0:=by kernel_rfl
end
section
open Go Hk
structure GT where
 elem:Int
 len:Int
 label:Int
 deriving DecidableEq
inductive GE where
 | mk (kind pos num:Int) (name:List UInt8) (args:List GE)
inductive GS where
 | mk (kind pos qZ:Int) (name:List UInt8) (ty:GT) (args:List GE) (body els:List GS) (has:Bool)
structure GP where
 pos:Int
 name:List UInt8
 ty:GT
 out:Bool
structure GF where
 pos:Int
 name:List UInt8
 params:List GP
 has:Bool
 result:GT
 body:List GS
def GT.cells (t:GT):List kH:=[.int .i64 t.elem,.int .i64 t.len,.int .i64 t.label]
mutual
def GE.cells:GE→List kH
 | .mk k p n name args=>[.int .i64 k,.int .i64 p,.int .i64 n,.str name,.slice (GE.rows args) .no]
def GE.rows:List GE→List (List kH)
 | []=>[]
 | x::r=>x.cells::GE.rows r
end
theorem GE.oK:∀l:List GE,GE.rows l=l.map GE.cells
 | []=>rfl
 | x::r=>by simp [GE.rows,GE.oK r]
mutual
def GS.cells:GS→List kH
 | .mk k p m name ty args body els has=>[.int .i64 k,.int .i64 p,.int .i64 m,.str name,.int .i64 ty.elem,.int .i64 ty.len,.int .i64 ty.label,
   .slice (args.map GE.cells) .no,.slice (GS.rows body) .no,.slice (GS.rows els) .no,.bool has]
def GS.rows:List GS→List (List kH)
 | []=>[]
 | x::r=>x.cells::GS.rows r
end
theorem GS.oK:∀l:List GS,GS.rows l=l.map GS.cells
 | []=>rfl
 | x::r=>by simp [GS.rows,GS.oK r]
def GP.cells (p:GP):List kH:=[.int .i64 p.pos,.str p.name,.int .i64 p.ty.elem,.int .i64 p.ty.len,.int .i64 p.ty.label,.bool p.out]
def GF.cells (f:GF):List kH:=[.int .i64 f.pos,.str f.name,.slice (f.params.map GP.cells) .no,.bool f.has,.int .i64 f.result.elem,.int .i64 f.result.len,.int .i64 f.result.label,.slice (f.body.map GS.cells) .no]
def GE.kind:GE→Int | .mk k _ _ _ _=>k
def GE.num:GE→Int | .mk _ _ n _ _=>n
def GE.name:GE→List UInt8 | .mk _ _ _ n _=>n
def GE.args:GE→List GE | .mk _ _ _ _ a=>a
mutual
def GE.size:GE→Nat
 | .mk _ _ _ _ args=>1+GE.oC args
def GE.oC:List GE→Nat
 | []=>0
 | x::r=>x.size+GE.oC r
end
mutual
def GS.size:GS→Nat
 | .mk _ _ _ _ _ args body els _=>1+GE.oC args+GS.oC body+GS.oC els
def GS.oC:List GS→Nat
 | []=>0
 | x::r=>x.size+GS.oC r
end
theorem GE.qQ {x:GE}:∀{l:List GE},x∈l→x.size≤GE.oC l
 | y::r,h=>by
  simp only [GE.oC]
  cases h with
  | head=>omega
  | tail _ h=>have:=GE.qQ h; omega
theorem GS.qQ {x:GS}:∀{l:List GS},x∈l→x.size≤GS.oC l
 | y::r,h=>by
  simp only [GS.oC]
  cases h with
  | head=>omega
  | tail _ h=>have:=GS.qQ h; omega
def rP (s:List UInt8):Bool:=match oL s with
 | ([t,_],0,_)=>t.kind == 1 && t.text == s
 | _=>false
def lG (s:List UInt8) (has:Bool):Bool:=if has then rP s else s == []
def AT (n:Int):Bool:=decide (0≤n∧n≤4294967295)
def kZ (n:Int) (has:Bool):Bool:=if has then AT n else n == 0
def xH (k:Int):Option Int :=
 if k < 1∨26 < k then none else some ((([0,0,0,1,-1,1,1,1,2,2,2,2,2,2,1,1,1,2,2,2,2,2,2,2,2,3,1]:List Int)[k.toNat]?).getD 0)
def zX (k n:Int) (name:List UInt8) (len:Nat):Bool:=match xH k with
 | none=>false
 | some m=>(m == -1 || m == (len:Int)) && lG name (k == 2 || k == 3 || k == 4) && kZ n (k == 1 || k == 14 || k == 15 || k == 16)
mutual
def nZ:GE→Bool
 | .mk k _ n name args=>zX k n name args.length && oB args
def oB:List GE→Bool
 | []=>true
 | x::r=>nZ x && oB r
end
def tU (t:GT):Bool:=(t.label == 0 || t.label == 1) && AT t.len && (t.elem == 0 || t.elem == 1 && t.len == 0 || t.elem == 2 && t.len != 0)
def GT.zero:GT:=⟨0,0,0⟩
def lJ (k:Int):Option Nat :=
 if k < 1∨8 < k then none else some ((([0,1,0,1,2,1,1,1,1]:List Nat)[k.toNat]?).getD 0)
def UZ:List GE→Bool
 | x::_=>x.kind == 4
 | []=>false
def lP (k m:Int) (name:List UInt8) (ty:GT) (args:List GE) (nb ne:Nat) (has:Bool):Bool:=match lJ k with
 | none=>false
 | some n=>args.length == n && lG name (!(k == 5 || k == 7 || k == 8)) && oB args && kZ m (k == 6) && (if k == 2 then tU ty else ty == GT.zero) &&
   (!(k == 7) || UZ args) && (k == 5 || k == 6 || nb == 0) && (k == 5 || !has) && (has || ne == 0)
mutual
def tT:GS→Bool
 | .mk k _ m name ty args body els has=>lP k m name ty args body.length els.length has && pJ body && pJ els
def pJ:List GS→Bool
 | []=>true
 | x::r=>tT x && pJ r
end
def wL (p:GP):Bool:=rP p.name && tU p.ty
def q8 (f:GF):Bool:=rP f.name && pJ f.body && f.params.all wL && (if f.has then tU f.result && f.result.len == 0 && f.result.elem != 2 else f.result == GT.zero)
def lI (k:Int):Nat:=(([8,8,8,8,8,8,8,8,6,6,7,4,2,3,5,5,8,1,1,1,1,1,1,8,8,8,8]:List Nat)[k.toNat]?).getD 8
def pU (k:Int):List UInt8:=(([[],[],[],[],[],[126],[45],[33],[43],[45],[42],[38],[124],[94],[60,60],[62,62],[114,111,114],[61,61],[33,61],[60],[60,61],[62],[62,61],
 [109,117,108,104,105],[99,97,114,114,121],[115,101,108,101,99,116],[119,111,114,100]]:List (List UInt8))[k.toNat]?).getD []
def uC (n:Int):List UInt8:=CH n.toNat
abbrev Part:=Int×List UInt8×Nat
def tB (bare:Bool) (p:Part):List UInt8:=if bare then p.2.1 else 40::(p.2.1++[41])
def tA (bare:Bool) (p:Part):Nat:=if bare then p.2.2 else p.2.2+1
def mO (t:Nat) (k:Int):Bool:=decide (t < lI k∨lI k=t∧1 < t)
def uF:List Part→List UInt8
 | []=>[]
 | [p]=>p.2.1
 | p::r=>p.2.1++44::32::uF r
def vJ:List Part→Nat
 | []=>0
 | p::r=>max p.2.2 (vJ r)
def Cy (k n:Int) (name:List UInt8) (l:List Part):List UInt8 :=
 if lI k < 8 then match l with
  | [a]=>tB (mO (lI k) a.1) a++32::(pU k++32::uC n)
  | a::b::_=>tB (mO (lI k) a.1) a++32::(pU k++32::tB (decide (lI k < lI b.1)) b)
  | []=>[]
 else if k=1 then uC n else if k=2 then name
 else if k=3 then(match l with | a::_=>name++91::(a.2.1++[93]) | []=>[])
 else if k=5∨k=6∨k=7 then(match l with | a::_=>pU k++tB (decide (lI a.1=8)) a | []=>[])
 else pU k++name++40::(uF l++(if k=16 then 44::32::uC n else [])++[41])
def Cw (k:Int) (l:List Part):Nat :=
 if lI k < 8 then match l with
  | [a]=>tA (mO (lI k) a.1) a
  | a::b::_=>max (tA (mO (lI k) a.1) a) (tA (decide (lI k < lI b.1)) b)
  | []=>0
 else if k=1∨k=2 then 0
 else if k=3 then(match l with | a::_=>a.2.2+1 | []=>0)
 else if k=5∨k=6∨k=7 then(match l with | a::_=>tA (decide (lI a.1=8)) a+1 | []=>0)
 else vJ l+1
mutual
def lU:GE→Part
 | .mk k _ n name args=>(k,Cy k n name (AH args),Cw k (AH args))
def AH:List GE→List Part
 | []=>[]
 | x::r=>lU x::AH r
end
theorem F5:∀l:List GE,AH l=l.map lU
 | []=>rfl
 | x::r=>by simp [AH,F5 r]
theorem y9:∀l:List GE,oB l=l.all nZ
 | []=>rfl
 | x::r=>by simp [oB,y9 r]
theorem xS:∀l:List GS,pJ l=l.all tT
 | []=>rfl
 | x::r=>by simp [pJ,xS r]
def lX (x:GE):List UInt8:=(lU x).2.1
def l9 (x:GE):Nat:=(lU x).2.2
def oN (l:Int):List UInt8:=if l=1 then [115,101,99,32] else [112,117,98,32]
def wA (t:GT):List UInt8:=(if t.elem=1 then [109,97,115,107] else if t.elem=2 then [117,56] else [117,51,50])++(if 0 < t.len then 91::(uC t.len++[93]) else [])
def p9 (n:Nat):List UInt8:=List.replicate n 32
def oT (n:Nat) (l:List (List UInt8)):List UInt8:=32::123::10::((l.map fun t=>p9 (n+1)++t++[10]).flatten++p9 n++[125])
def RX (k m:Int) (name:List UInt8) (ty:GT) (args:List (List UInt8)) (body els:List UInt8) (has:Bool):List UInt8 :=
 let a:=(args[0]?).getD []
 if k=1 then [108,101,116,32]++name++[32,61,32]++a++[59]
 else if k=2 then [118,97,114,32]++oN ty.label++name++[58,32]++wA ty++[59]
 else if k=3 then name++[32,61,32]++a++[59]
 else if k=4 then name++91::(a++[93])++[32,61,32]++(args[1]?).getD []++[59]
 else if k=5 then [105,102,32]++a++body++(if has then [32,101,108,115,101]++els else [])
 else if k=6 then [102,111,114,32]++name++[32,60,32]++a++[32,109,97,120,32]++uC m++body
 else if k=8 then [114,101,116,117,114,110,32]++a++[59]
 else a++[59]
def RW (k:Int) (args:List Nat) (body els:Nat) (has:Bool):Nat :=
 let a:=(args[0]?).getD 0
 if k=2 then 0 else if k=4 then max (a+1) ((args[1]?).getD 0) else if k=5 then(if has then max a (max body els) else max a body) else if k=6 then max a body else a
mutual
def pL (n:Nat):GS→List UInt8
 | .mk k _ m name ty args body els has=>RX k m name ty (args.map lX) (oT n (nT (n+1) body)) (oT n (nT (n+1) els)) has
def nT (n:Nat):List GS→List (List UInt8)
 | []=>[]
 | x::r=>pL n x::nT n r
end
def qU:List Nat→Nat
 | []=>0
 | x::r=>max x (qU r)
mutual
def qK:GS→Nat
 | .mk k _ _ _ _ args body els has=>RW k (args.map l9) (qU (oO body)+1) (qU (oO els)+1) has
def oO:List GS→List Nat
 | []=>[]
 | x::r=>qK x::oO r
end
theorem Lk (n:Nat):∀l:List GS,nT n l=l.map (pL n)
 | []=>rfl
 | x::r=>by simp [nT,Lk n r]
theorem K9:∀l:List GS,oO l=l.map qK
 | []=>rfl
 | x::r=>by simp [oO,K9 r]
def qI (p:GP):List UInt8:=(if p.out then [111,117,116,32] else [])++oN p.ty.label++p.name++[58,32]++wA p.ty
def wH:List (List UInt8)→List UInt8
 | []=>[]
 | [p]=>p
 | p::r=>p++44::32::wH r
def wX (f:GF):List UInt8:=[102,110,32]++f.name++[40]++wH (f.params.map qI)++[41]++(if f.has then [58,32]++oN f.result.label++wA f.result else []) ++
 oT 0 (nT 1 f.body)++[10]
def yD (f:GF):Nat:=qU (oO f.body)+1
def y4 (l:List GF):List UInt8×Int :=
 if l.all q8 then(if 64 < qU (l.map yD) then([],11) else((l.map wX).flatten,0)) else([],2)
end
section
open Go Hk
structure WS where
 a:List kH
 ok:∀m h,mW m h a=some a
 u:Bool
 bs:List UInt8
 now:Nat
 over:Bool
 ln:Nat
def Bs (w:WS) (bs:List UInt8):List kH:=[bif w.u then .ptr 1 0 else .nilptr,.slice (rZ bs) (.own 2),.int .i64 (w.now:Int),.bool w.over,.int .i64 (w.ln:Int)]
def YJ:List UInt8→lH
 | []=>.front 0 0
 | b::r=>.front (r.length+1) 1 6
def HZ (w:WS) (cs fs:List UInt8) (B:List lH):kL:=.cells w.a::.tcells 86 (Bs w cs)::YJ fs::B
def WH (w:WS) (B:List lH):kL:=HZ w w.bs w.bs B
def Still (B:List lH):Prop:=∀m h,nA m h B=some B
section
variable {w:WS}{B:List lH}{cs fs:List UInt8}
theorem oH {C:List lH}:WH w B++C=WH w (B++C):=rfl
theorem mR:aa7 (WH w B)=B.length+3:=rfl
theorem nL:Still []:=fun _ _=>rfl
theorem Fk {m:Nat}{h:kL}:∀{B C:List lH},nA m h B=some B→nA m h C=some C→nA m h (B++C)=some (B++C)
 | [],_,_,h2=>h2
 | b::r,C,h1,h2=>by
  simp only [nA] at h1
  split at h1
  ·rename_i b' r' e1 e2
   simp only [Option.some.injEq,List.cons.injEq] at h1
   obtain⟨rfl,rfl⟩:=h1
   simp only [ae8,nA,e1,Fk e2 h2]
  ·cases h1
theorem oG {C:List lH}(h1:Still B) (h2:Still C):Still (B++C):=fun m h=>Fk (h1 m h) (h2 m h)
theorem Db {n s:Nat}:Still [.front n s]:=fun _ _=>rfl
theorem KD (h:Still B) {m:Nat}{x:kL}(hm:3≤m):nA m x (HZ w cs fs B)=some (HZ w cs fs B):=by
 have h1:mW m x (Bs w cs)=some (Bs w cs):=by
  obtain⟨a,ok,u,b,n,o,l⟩:=w
  have e1:(1:Nat) < m:=by omega
  have e2:(2:Nat) < m:=by omega
  have e3:kH.mT m x (.ptr 1 0)=.ptr 1 0:=lD e1
  have e4:kH.mT m x .nilptr=.nilptr:=rfl
  have e5:kH.lY (.ptr 1 0)=true:=rfl
  have e6:kH.lY .nilptr=true:=rfl
  cases u <;> simp [Bs,e2,e3,e4,e5,e6]
 have h2:o6 m x (.tcells 86 (Bs w cs))=some (.tcells 86 (Bs w cs)):=by simp [o6,h1]
 have h3:o6 m x (YJ fs)=some (YJ fs):=by cases fs <;> rfl
 have h4:o6 m x (.cells w.a)=some (.cells w.a):=by simp [w.ok m x]
 simp only [HZ,nS,h2,h3,h4,h m x,ae3,Option.map_some]
theorem nM {C:List lH}(h:Still B):l_ (B.length+3) (WH w (B++C))=some (WH w B):=by
 have:(WH w (B++C)).take (B.length+3)=WH w B:=by simp [WH,HZ]
 simp only [l_,this]
 exact KD h (by omega)
theorem rI (h:Still B):l_ (B.length+3) (WH w B)=some (WH w B):=by
 have:=nM (w:=w) (C:=[]) h
 simpa using this
end
section
variable {w:WS}{B:List lH}{u:Bool}{bs x cs fs:List UInt8}{now ln:Nat}{ov:Bool}
@[simp] theorem aA7:lS false 1 (HZ w cs fs B) (.ptr 1 1)=some (.slice (rZ cs) (.own 2)):=(rfl)
@[simp] theorem aA8:lS false 1 (WH w B) (.ptr 1 2)=some (.int .i64 (w.now:Int)):=(rfl)
@[simp] theorem aA9:lS false 1 (WH w B) (.ptr 1 3)=some (.bool w.over):=(rfl)
@[simp] theorem aBa:lS false 1 (WH w B) (.ptr 1 4)=some (.int .i64 (w.ln:Int)):=(rfl)
@[simp] theorem aBs:oZ 1 (HZ w cs fs B) (.ptr 1 1) (.slice (rZ x) (.own 2))=some (HZ w x fs B):=by cases x <;> rfl
theorem ae6 {n:Nat}:oZ 1 (WH w B) (.ptr 1 2) (.int .i64 (n:Int))=some (WH { w with now:=n } B):=(rfl)
@[simp] theorem aBu {b:Bool}:oZ 1 (WH w B) (.ptr 1 3) (.bool b)=some (WH { w with over:=b } B):=(rfl)
theorem y7:(rZ bs).length=bs.length:=by simp [rZ]
theorem TV:rZ bs++rZ x=rZ (bs++x):=by simp [rZ]
theorem YT {h:kL}{t:Tok}:p8 1 h (.slice (rZ x) t)=some (rZ x):=by
 simp only [p8]
 rw [if_pos]
 simp [rZ]
theorem avE (hb:cs.length+x.length≤140737488355328):yV 6 1 1 1 (HZ w cs cs B) (.slice (rZ cs) (.own 2)) (.str x)=some (.slice (rZ (cs++x)) (.own 2),HZ w cs (cs++x) B):=by
 have h0:yV 6 1 1 1 (HZ w cs cs B) (.slice (rZ cs) (.own 2)) (.str x)=wR 6 1 1 (HZ w cs cs B) (.slice (rZ cs) (.own 2)) (.slice (rZ x) .no):=rfl
 rw [h0]
 unfold wR
 rw [YT]
 have e1:∀b,(HZ w cs b B)[2]?=some (YJ b):=fun _=>rfl
 simp only [e1]
 cases cs with
 | nil =>
  cases x with
  | nil=>rfl
  | cons c r =>
   have hb':(0+(rZ (c::r)).length) * 1≤140737488355328:=by rw [y7]; simp at hb ⊢; omega
   have hb2:0+(rZ (c::r)).length≤140737488355328:=by omega
   have hl:(rZ (c::r)).length=r.length+1:=by rw [y7]; rfl
   simp only [YJ]
   rw [if_pos ⟨by simp [rZ],.inr ⟨trivial,trivial⟩,hb',hb2⟩,if_neg (by omega),hl]
   simp [rZ,HZ,YJ]
 | cons b s =>
  simp only [YJ]
  have hb':(s.length+1+(rZ x).length) * 1≤140737488355328:=by rw [y7]; simp at hb ⊢; omega
  have hl:(rZ (b::s)).length=s.length+1:=by rw [y7]; rfl
  rw [if_pos ⟨hl,.inl trivial,hb',by omega⟩]
  cases x with
  | nil=>rw [if_pos (by rfl)]; simp
  | cons c r =>
   rw [if_neg (by rw [y7]; simp)]
   rw [TV,y7]
   simp [HZ,YJ]
   omega
end
def WS.put (w:WS) (x:List UInt8):WS:={ w with u:=true,bs:=w.bs++x }
theorem WS.ab2 {w:WS}{x y:List UInt8}:(w.put x).put y=w.put (x++y):=by simp [WS.put]
@[simp] theorem WS.ax1 {w:WS}{x:List UInt8}:(w.put x).bs=w.bs++x:=rfl
@[simp] theorem WS.auM {w:WS}{x:List UInt8}:(w.put x).now=w.now:=rfl
@[simp] theorem WS.aqX {w:WS}{x:List UInt8}:(w.put x).over=w.over:=rfl
@[simp] theorem WS.ax2 {w:WS}{x:List UInt8}:(w.put x).ln=w.ln:=rfl
section
variable {w:WS}{B:List lH}
theorem av3:KK 161 [.ptr 1 0] (WH w B)=some (.ret (.tuple []),WH { w with u:=true } B):=by
 refine lA (m:=CF mK.bld .copyCheck [.ptr 1 0] (WH w B)) rfl ?_
 obtain⟨a,ok,u,bs,n,o,l⟩:=w
 cases u <;> rfl
theorem avR (x:List UInt8) (hB:Still B) (hb:w.bs.length+x.length≤140737488355328) :
  KK 124 [.ptr 1 0,.str x] (WH w B)=some (.ret (.tuple [.int .i64 (x.length:Int),.niliface]),WH (w.put x) B):=by
 refine lA (aaD _ _ _ _) ?_
 have h1:WH { w with u:=true } B=HZ { w with u:=true } w.bs w.bs B:=rfl
 have h2:=avE (w:={ w with u:=true }) (B:=B) (cs:=w.bs) (x:=x) hb
 have h3:HZ { w with u:=true } (w.bs++x) (w.bs++x) B=WH (w.put x) B:=rfl
 have h4:=rI (w:=w.put x) hB
 simp -implicitDefEqProofs [apT,av3,h1,h2,h3,lZ,mR,h4]
 rfl
end
end
section
open Go Hk
theorem qT {a:Nat}(h:a≤9223372036854775806):IntKind.wrap .i64 ((a:Int)+1)=((a+1:Nat):Int):=by rw [wrap64] <;> omega
def pZ (s:List UInt8):List kH:=[.str s]
def WS.Ci (w:WS) (xs:List (List UInt8)):WS:=xs.foldl WS.put w
@[simp] theorem WS.W0 {w:WS}:w.Ci []=w:=rfl
@[simp] theorem WS.aqY {w:WS}{x:List UInt8}:w.Ci [x]=w.put x:=rfl
@[simp] theorem WS.anG {w:WS}{x y:List UInt8}{r:List (List UInt8)}:w.Ci (x::y::r)=w.Ci ((x++y)::r):=by
 simp [WS.Ci,WS.ab2]
theorem WS.RM:∀{w:WS}{xs:List (List UInt8)},(w.Ci xs).bs=w.bs++xs.flatten
 | w,[]=>by simp
 | w,x::r=>by
  have:=WS.RM (w:=w.put x) (xs:=r)
  simp only [WS.Ci,List.foldl_cons,List.flatten_cons] at this ⊢
  rw [this]; simp
theorem rS {α:Type}{l:List α}{i:Nat}{x:α}(h:l[i]?=some x):l.take (i+1)=l.take i++[x]:=by
 rw [List.take_succ,h]; rfl
section
variable {w:WS}{B:List lH}
theorem w6 {m:Nat}{h:kL}{o:Nat}:kH.mT (m+3) h (.ptr 1 o)=.ptr 1 o:=lD (by omega)
theorem Wv (xs:List (List UInt8)) (hB:Still B) (hb:w.bs.length+xs.flatten.length≤140737488355328) (hl:xs.length≤1000000):∀i,i≤xs.length →
  mL (Mu KK (B.length+3)) ([.ptr 1 0,.slice (xs.map pZ) .no,.int .i64 (xs.length:Int),.int .i64 (i:Int)],WH (w.Ci (xs.take i)) B) =
   some (.exit 0,[.ptr 1 0,.slice (xs.map pZ) .no,.int .i64 (xs.length:Int),.int .i64 (xs.length:Int)],WH (w.Ci xs) B):=by
 refine rU (fun i:Nat=>([.ptr 1 0,.slice (xs.map pZ) .no,.int .i64 (xs.length:Int),.int .i64 (i:Int)],WH (w.Ci (xs.take i)) B)) (fun i=>i≤xs.length) (fun i=>xs.length - i) _ fun i hi=>?_
 by_cases h:i < xs.length
 ·left
  refine⟨i+1,?_,h,by omega,rfl⟩
  obtain⟨x,hx⟩:∃x,xs[i]?=some x:=⟨xs[i],ab8 h⟩
  have hp:w.Ci (xs.take (i+1))=(w.Ci (xs.take i)).put x:=by simp [WS.Ci,rS hx]
  have hbl:(w.Ci (xs.take i)).bs.length+x.length≤140737488355328:=by
   have e:xs.take (i+1)++xs.drop (i+1)=xs:=List.take_append_drop _ _
   have e2:=congrArg (fun l=>(List.flatten l).length) e
   simp only [List.flatten_append,aa6,rS hx,List.flatten_cons,List.flatten_nil,am4] at e2
   rw [WS.RM,aa6]
   omega
  have hc:=avR (w:=w.Ci (xs.take i)) x hB hbl
  have htr:=rI (w:=(w.Ci (xs.take i)).put x) hB
  have hi':(i:Int) < (xs.length:Int):=by omega
  have h1:(pZ x).length=1:=rfl
  have w1:=qT (a:=i) (by omega)
  have hld:∀h,lS false 1 h (.pptr (pZ x))=some (.str x):=fun _=>rfl
  simp -implicitDefEqProofs [Mu,hi',hx,h1,hld,hc,kW,htr,w1,hp,w6,-ad5]
 ·right
  have:i=xs.length:=by omega
  subst this
  have htr:=rI (w:=w.Ci xs) hB
  constructor
  ·simp -implicitDefEqProofs [Mu,kW,htr,w6]
  ·simp
theorem c68 (xs:List (List UInt8)) (hB:Still B) (hb:w.bs.length+xs.flatten.length≤140737488355328) (hl:xs.length≤1000000) :
  KK 68 [.ptr 1 0,.slice (xs.map pZ) .no] (WH w B)=some (.ret (.tuple []),WH (w.Ci xs) B):=by
 refine lA (ajP _ _ _ _) ?_
 have h1:=Wv (w:=w) xs hB hb hl 0 (al7 _)
 simp only [List.take_zero,WS.W0,Int.natCast_zero,Int.cast_ofNat_Int] at h1
 have htr:=rI (w:=w.Ci xs) hB
 simp -implicitDefEqProofs [m68,mR,h1,lZ,htr]
end
theorem KM:∀(k n:Nat) (acc:List UInt8),n < 10 ^ k→n≠0→Pr k n acc=AQ n acc
 | 0,n,acc,h,h0=>by simp at h; omega
 | k+1,n,acc,h,h0=>by
  rw [AQ,if_neg h0]
  unfold Pr
  by_cases h1:n < 10
  ·rw [if_pos h1]
   have h2:n / 10=0:=by omega
   have h3:n % 10=n:=by omega
   rw [h2,h3,AQ,if_pos rfl]
  ·rw [if_neg h1]
   exact KM k _ _ (by rw [Nat.pow_succ] at h; omega) (by omega)
theorem SY (n:Nat) (h:n < 100000000000000000000):KV (n:Int)=CH n:=by
 unfold KV CH
 rw [if_neg (by omega)]
 by_cases h0:n=0
 ·subst h0; rfl
 ·rw [if_neg h0]
  exact KM 20 n [] h h0
theorem SZ {n:Int}(h0:0≤n) (h:n < 9223372036854775808):KV n=uC n:=by
 obtain⟨m,rfl⟩:=Int.eq_ofNat_of_zero_le h0
 exact SY m (by omega)
theorem c89 (n:Int) (h0:0≤n) (hn:n < 9223372036854775808) (h:kL):KK 89 [.int .i64 n] h=some (.ret (.str (uC n)),h):=by
 refine lB rfl rfl (lA (m:=CF mK.bld (.fn N6) [.int .i64 n] []) rfl ?_)
 simp only [CF,N6]
 rw [if_pos (by omega),SZ h0 hn]
 rfl
theorem av4 (n:Nat) (hn:n≤1099511627776) (h:kL):KK 162 [.str [32],.int .i64 (n:Int)] h=some (.ret (.str (p9 n)),h):=by
 refine lB rfl rfl (lA (m:=CF mK.bld (.fn W7) [.str [32],.int .i64 (n:Int)] []) rfl ?_)
 simp only [CF,W7]
 rw [if_pos (by omega)]
 rfl
theorem YZ {x:List UInt8}{h:kL}:kU 1 1 [.str []] [(0,.str x)] h=some (.slice ([x].map pZ) (.own h.length),h++[.front 1 1]):=(rfl)
section
variable {w:WS}{B:List lH}
theorem p1 {x:List UInt8}{n:Nat}(hB:Still B) (hb:w.bs.length+x.length≤140737488355328) :
  KK 68 [.ptr 1 0,.slice [pZ x] .no] (WH w (B++[.front n 1]))=some (.ret (.tuple []),WH (w.put x) (B++[.front n 1])):=by
 have:=c68 (w:=w) (B:=B++[.front n 1]) [x] (oG hB Db) (by simpa using hb) (by simp)
 simpa using this
theorem p2 {x y:List UInt8}{n:Nat}(hB:Still B) (hb:w.bs.length+(x++y).length≤140737488355328) :
  KK 68 [.ptr 1 0,.slice [pZ x,pZ y] .no] (WH w (B++[.front n 1]))=some (.ret (.tuple []),WH (w.put (x++y)) (B++[.front n 1])):=by
 have:=c68 (w:=w) (B:=B++[.front n 1]) [x,y] (oG hB Db) (by simpa using hb) (by simp)
 simpa using this
theorem c84 (n:Int) (h0:0≤n) (hn:n < 9223372036854775808) (hB:Still B) (hb:w.bs.length+(uC n).length≤140737488355328) :
  KK 84 [.ptr 1 0,.int .i64 n] (WH w B)=some (.ret (.tuple []),WH (w.put (uC n)) B):=by
 refine lA (aj5 _ _ _ _) ?_
 have h2:=p1 (w:=w) (n:=1) hB hb
 have htr:=nM (w:=w.put (uC n)) (C:=[.front 1 1]) hB
 simp -implicitDefEqProofs [m84,c89 n h0 hn,YZ,oH,mR,h2,lZ,htr]
def WS.up (w:WS):WS:={ w with now:=w.now+1,over:=w.over || decide (64 < w.now+1) }
def WS.down (w:WS):WS:={ w with now:=w.now - 1 }
theorem c85 (hB:Still B) (hn:w.now≤1000000000000000000):KK 85 [.ptr 1 2] (WH w B)=some (.ret (.tuple []),WH w.up B):=by
 refine lA (aj6 _ _ _) ?_
 have w1:=qT (a:=w.now) (by omega)
 have e1:=ae6 (w:=w) (B:=B) (n:=w.now+1)
 have htr:=rI (w:=w.up) hB
 obtain⟨a,ok,u,bs,now,ov,ln⟩:=w
 have hd:(64:Int) < ((now+1:Nat):Int)↔64 < now+1:=by omega
 cases ov
 ·simp only [WS.up,Bool.false_or] at htr ⊢
  simp -implicitDefEqProofs [m85,w1,e1,mR,lZ,htr,hd,-ad5]
 ·simp only [WS.up,Bool.true_or] at htr ⊢
  simp -implicitDefEqProofs [m85,w1,e1,mR,lZ,htr,-ad5]
theorem c86 (hB:Still B) (hn:w.now≤1000000000000000000) (h1:1≤w.now):KK 86 [.ptr 1 2] (WH w B)=some (.ret (.tuple []),WH w.down B):=by
 refine lA (aj7 _ _ _) ?_
 have w1:IntKind.wrap .i64 ((w.now:Int) - 1)=((w.now - 1:Nat):Int):=by rw [wrap64] <;> omega
 have e1:=ae6 (w:=w) (B:=B) (n:=w.now - 1)
 have htr:=rI (w:=w.down) hB
 simp -implicitDefEqProofs [m86,w1,e1,mR,lZ]
 exact htr
theorem c69 (l:Int) (hB:Still B) (hb:w.bs.length+4≤140737488355328):KK 69 [.ptr 1 0,.int .i64 l] (WH w B)=some (.ret (.tuple []),WH (w.put (oN l)) B):=by
 refine lA (ajQ _ _ _ _) ?_
 by_cases h:l=1
 ·have h2:=p1 (w:=w) (x:=[115,101,99,32]) (n:=1) hB hb
  have htr:=nM (w:=w.put [115,101,99,32]) (C:=[.front 1 1]) hB
  simp -implicitDefEqProofs [m69,h,oN,YZ,oH,mR,h2,lZ,htr]
 ·have h2:=p1 (w:=w) (x:=[112,117,98,32]) (n:=1) hB hb
  have htr:=nM (w:=w.put [112,117,98,32]) (C:=[.front 1 1]) hB
  simp -implicitDefEqProofs [m69,h,oN,YZ,oH,mR,h2,lZ,htr]
theorem aoS (hB:Still B) (hn:w.ln≤1099511627776) (hb:w.bs.length+w.ln≤140737488355328):KK 125 [.ptr 1 0] (WH w B)=some (.ret (.tuple []),WH (w.put (p9 w.ln)) B):=by
 refine lA (aaE _ _ _) ?_
 have h2:=p1 (w:=w) (x:=p9 w.ln) (n:=1) hB (by simpa [p9] using hb)
 have htr:=nM (w:=w.put (p9 w.ln)) (C:=[.front 1 1]) hB
 simp -implicitDefEqProofs [apU,av4 w.ln hn,YZ,oH,mR,h2,lZ,htr]
end
end
section
open Go Hk
def nn (k m:Nat):Nat:=if m=0 then 0 else k+m
@[simp] theorem abU {k:Nat}:nn k 0=0:=rfl
def WS.st (w:WS) (x:List UInt8) (n k:Nat):WS:={ w with u:=true,bs:=w.bs++x,now:=w.now+k,over:=w.over || decide (0 < n∧64 < w.now+n) }
@[simp] theorem WS.aAi {w:WS}{x:List UInt8}{n k:Nat}:(w.st x n k).bs=w.bs++x:=rfl
@[simp] theorem WS.ayF {w:WS}{x:List UInt8}{n k:Nat}:(w.st x n k).now=w.now+k:=rfl
@[simp] theorem WS.aAj {w:WS}{x:List UInt8}{n k:Nat}:(w.st x n k).ln=w.ln:=rfl
@[simp] theorem WS.ax3 {w:WS}{x:List UInt8}:w.put x=w.st x 0 0:=by simp [WS.put,WS.st]
theorem WS.zZ {w:WS}{x y:List UInt8}{n m k l:Nat}(h1:x=y) (h2:n=m) (h3:k=l):w.st x n k=w.st y m l:=by rw [h1,h2,h3]
@[simp] theorem WS.Xr {w:WS}{x y:List UInt8}{n k m l:Nat}:(w.st x n k).st y m l=w.st (x++y) (max n (nn k m)) (k+l):=by
 simp only [WS.st,al8,Nat.add_assoc,WS.mk.injEq,true_and,and_true,Bool.or_assoc]
 have:decide (0 < max n (nn k m)∧64 < w.now+max n (nn k m))=(decide (0 < n∧64 < w.now+n) || decide (0 < m∧64 < w.now+(k+m))):=by
  rw [←Bool.decide_or]
  apply decide_eq_decide.2
  unfold nn
  split <;> omega
 rw [this]
@[simp] theorem WS.aAk {w:WS}{x:List UInt8}{n k:Nat}:(w.st x n k).up=w.st x (max n (k+1)) (k+1):=by
 simp only [WS.st,WS.up,WS.mk.injEq,true_and,and_true,Bool.or_assoc,Nat.add_assoc]
 have:decide (0 < max n (k+1)∧64 < w.now+max n (k+1))=(decide (0 < n∧64 < w.now+n) || decide (64 < w.now+(k+1))):=by
  rw [←Bool.decide_or]
  apply decide_eq_decide.2
  omega
 rw [this]
@[simp] theorem WS.auX {w:WS}{x:List UInt8}{n k:Nat}:(w.st x n (k+1)).down=w.st x n k:=by simp [WS.st,WS.down,←Nat.add_assoc]
@[simp] theorem GE.p_ (x:GE):x.cells.length=5:=by cases x; simp [GE.cells]
@[simp] theorem GS.p_ (x:GS):x.cells.length=11:=by cases x; simp [GS.cells]
theorem GE.still (x:GE) (m:Nat) (h:kL):mW m h x.cells=some x.cells:=by cases x; simp [GE.cells]
@[simp] theorem GE.QG (x:GE):x.cells.map kH.sP=x.cells:=by cases x; simp [GE.cells]
@[simp] theorem GE.aAm (x:GE):x.cells.take 5=x.cells:=by cases x; rfl
theorem sS:∀{vs:List kH}{k:Nat},(∀c∈vs,c.isNil=false)→lC k vs=(vs,[])
 | [],_,_=>rfl
 | v::vs,k,hn=>by
  have h1:=hn v (by simp)
  have h2:=sS (vs:=vs) (k:=k) fun c hc=>hn c (by simp [hc])
  unfold lC
  split
  ·rename_i e; cases e
  ·rename_i e; simp only [List.cons.injEq] at e; obtain⟨rfl,rfl⟩:=e; simp [kH.isNil] at h1
  ·rename_i e; simp only [List.cons.injEq] at e; obtain⟨rfl,rfl⟩:=e; rw [h2]
theorem GE.tok (x:GE) {k:Nat}:lC k x.cells=(x.cells,[]):=sS (by cases x; simp [GE.cells,kH.isNil])
theorem GE.NK (x:GE):x.cells.all kH.lY=true:=by cases x; simp [GE.cells,kH.lY]
section
variable {w:WS}{B C:List lH}{cs:List kH}
theorem mE {n s:Nat}(h:Still C):Still (.front n s::C):=fun m x=>by simp [h m x]
theorem JA {x:GE}(h:Still C):Still (.cells x.cells::C):=fun m y=>by simp [x.still m y,h m y]
theorem OQ {n s:Nat}(h:Still B):Still (B++[.front n s]):=oG h (mE nL)
theorem yL {x:GE}(h:Still B):Still (B++[.cells x.cells]):=oG h (JA nL)
theorem yM {x:GE}{n s:Nat}(h:Still B):Still (B++[.cells x.cells,.front n s]):=oG h (JA (mE nL))
theorem Jz {x:GE}{n s n' s':Nat}(h:Still B):Still (B++[.cells x.cells,.front n s,.front n' s']):=oG h (JA (mE (mE nL)))
theorem xG {x:GE}:lO 5 (WH w B) (.agg x.cells)=some (.ptr (B.length+3) 0,WH w (B++[.cells x.cells])):=by
 simp [lO,x.tok,x.NK,mR,oH]
theorem PD:(WH w (B++.cells cs::C))[B.length+3]?=some (.cells cs):=by simp [WH,HZ]
@[simp] theorem ldB {i:Nat}:lS false 1 (WH w (B++.cells cs::C)) (.ptr (B.length+3) i)=cs[i]?:=by
 have e:=PD (w:=w) (B:=B) (C:=C) (cs:=cs)
 simp only [lS,Ac,e,Sm,nR,ae3]
@[simp] theorem aw3 {n i:Nat}:lS true n (WH w (B++.cells cs::C)) (.ptr (B.length+3) i)=if i+n≤cs.length then some (.agg ((cs.drop i).take n)) else none:=by
 have e:=PD (w:=w) (B:=B) (C:=C) (cs:=cs)
 simp only [lS,Ac,e,Ph,nR,ae3]
end
def vH (k:Int):Nat:=if lI k < 8 then lI k else 0
def Su (k:Int):List UInt8:=if lI k < 8 then pU k else []
theorem x7 {k:Int}(h:1≤k∧k≤26):k=1∨k=2∨k=3∨k=4∨k=5∨k=6∨k=7∨k=8∨k=9∨k=10∨k=11∨k=12∨k=13∨k=14∨k=15∨k=16∨k=17∨k=18∨k=19∨k=20∨k=21∨k=22∨k=23∨k=24∨k=25∨k=26:=by omega
theorem Zb (k:Int) (hk:1≤k∧k≤26) (h:kL):KK 82 [.int .i64 k] h=some (.ret (.tuple [.int .i64 (vH k:Int),.str (Su k)]),h):=by
 refine lB rfl rfl (lA (aj3 _ _ _) ?_)
 rcases x7 hk with rfl | rfl | rfl | rfl | rfl | rfl | rfl | rfl | rfl | rfl | rfl | rfl | rfl | rfl | rfl | rfl | rfl | rfl | rfl | rfl | rfl | rfl | rfl | rfl | rfl | rfl <;>
  simp -implicitDefEqProofs [m82,kK,vH,Su,lI,pU]
section
variable {w:WS}{B:List lH}{x y z:List UInt8}
theorem P1 (hB:Still B) (hb:w.bs.length+x.length≤140737488355328):KK 68 [.ptr 1 0,.slice [pZ x] .no] (WH w B)=some (.ret (.tuple []),WH (w.st x 0 0) B):=by
 have:=c68 (w:=w) (B:=B) [x] hB (by simpa using hb) (by simp)
 simpa using this
theorem P2 (hB:Still B) (hb:w.bs.length+(x.length+y.length)≤140737488355328):KK 68 [.ptr 1 0,.slice [pZ x,pZ y] .no] (WH w B)=some (.ret (.tuple []),WH (w.st (x++y) 0 0) B):=by
 have:=c68 (w:=w) (B:=B) [x,y] hB (by simpa using hb) (by simp)
 simpa using this
theorem P3 (hB:Still B) (hb:w.bs.length+(x.length+(y.length+z.length))≤140737488355328):KK 68 [.ptr 1 0,.slice [pZ x,pZ y,pZ z] .no] (WH w B)=some (.ret (.tuple []),WH (w.st (x++(y++z)) 0 0) B):=by
 have:=c68 (w:=w) (B:=B) [x,y,z] hB (by simpa using hb) (by simp)
 simpa using this
end
theorem t_ {x:List UInt8}{h:kL}:kU 1 1 [.str []] [(0,.str x)] h=some (.slice [pZ x] (.own h.length),h++[.front 1 1]):=(rfl)
theorem EK {x y:List UInt8}{h:kL}:kU 2 1 [.str []] [(0,.str x),(1,.str y)] h=some (.slice [pZ x,pZ y] (.own h.length),h++[.front 2 1]):=(rfl)
theorem Aw {x y z:List UInt8}{h:kL}:kU 3 1 [.str []] [(0,.str x),(1,.str y),(2,.str z)] h=some (.slice [pZ x,pZ y,pZ z] (.own h.length),h++[.front 3 1]):=(rfl)
def WOk (f:Nat) (args:List kH) (t:List UInt8) (n:Nat):Prop:=∀(w:WS) (B:List lH),Still B→w.bs.length+t.length≤140737488355328→w.now+n≤1000000000000000 →
 KK f (.ptr 1 0::args) (WH w B)=some (.ret (.tuple []),WH (w.st t n 0) B)
def Fs (x:GE):Prop:=WOk 37 [.agg x.cells] (lX x) (l9 x)
theorem avT {x:GE}(hx:Fs x):WOk 129 [.agg x.cells] (40::(lX x++[41])) (l9 x+1):=by
 intro w B hB hb hn
 simp only [ab0,aa6,ab3] at hb
 refine lA (aaF _ _ _ _) ?_
 have s2:=yL (x:=x) hB
 have s3:=fun n s=>yM (x:=x) (n:=n) (s:=s) hB
 have s4:=fun n s n' s'=>Jz (x:=x) (n:=n) (s:=s) (n':=n') (s':=s') hB
 have htr:=fun w C=>nM (w:=w) (C:=C) hB
 have e1:=P1 (w:=w) (x:=[40]) (s3 1 1) (by simp; omega)
 have e2:=c85 (w:=w.st [40] 0 0) (s3 1 1) (by simp; omega)
 have e3:=hx (w.st [40] 1 1) _ (s3 1 1) (by simp; omega) (by simp; omega)
 have e4:=c86 (w:=w.st (40::lX x) (max 1 (nn 1 (l9 x))) 1) (s3 1 1) (by simp; omega) (by simp)
 have e5:=P1 (w:=w.st (40::lX x) (max 1 (nn 1 (l9 x))) 0) (x:=[41]) (s4 1 1 1 1) (by simp; omega)
 simp -implicitDefEqProofs at e2 e3 e4 e5
 simp -implicitDefEqProofs [apV,xG,t_,oH,e1,e2,e3,e4,e5,mR,lZ,htr]
 refine congrArg (fun w=>WH w B) (WS.zZ rfl ?_ rfl)
 unfold nn
 split <;> omega
@[simp] theorem GE.c0 (x:GE):x.cells[0]?=some (.int .i64 x.kind):=by cases x; rfl
@[simp] theorem GE.c2 (x:GE):x.cells[2]?=some (.int .i64 x.num):=by cases x; rfl
@[simp] theorem GE.c3 (x:GE):x.cells[3]?=some (.str x.name):=by cases x; rfl
@[simp] theorem GE.g0 (x:GE) {h:0 < x.cells.length}:x.cells[0]'h=.int .i64 x.kind:=by cases x; rfl
@[simp] theorem GE.g2 (x:GE) {h:2 < x.cells.length}:x.cells[2]'h=.int .i64 x.num:=by cases x; rfl
@[simp] theorem GE.g3 (x:GE) {h:3 < x.cells.length}:x.cells[3]'h=.str x.name:=by cases x; rfl
@[simp] theorem GE.g4 (x:GE) {h:4 < x.cells.length}:x.cells[4]'h=.slice (x.args.map GE.cells) .no:=by cases x; simp [GE.cells,GE.args,GE.oK]
theorem c83 {x:GE}(hx:Fs x) (hk:1≤x.kind∧x.kind≤26) (l:Nat):WOk 83 [.agg x.cells,.int .i64 (l:Int)] (if 0 < vH x.kind∧vH x.kind < l then 40::(lX x++[41]) else lX x)
  (if 0 < vH x.kind∧vH x.kind < l then l9 x+1 else l9 x):=by
 intro w B hB hb hn
 refine lA (aj4 _ _ _ _ _) ?_
 have s2:=yL (x:=x) hB
 have htr:=fun w C=>nM (w:=w) (C:=C) hB
 have e0:=Zb x.kind hk
 by_cases h:0 < vH x.kind∧vH x.kind < l
 ·rw [if_pos h] at hb hn ⊢
  rw [if_pos h]
  have e1:=avT hx w _ s2 hb hn
  obtain⟨h1,h2⟩:=h
  simp -implicitDefEqProofs [m83,xG,e0,h1,h2,mR,lZ,htr,e1]
 ·rw [if_neg h] at hb hn ⊢
  rw [if_neg h]
  have e1:=hx w _ s2 hb hn
  by_cases h1:0 < vH x.kind
  ·have h2:¬vH x.kind < l:=by omega
   simp -implicitDefEqProofs [m83,xG,e0,h1,h2,mR,lZ,htr,e1]
  ·simp -implicitDefEqProofs [m83,xG,e0,h1,mR,lZ,htr,e1]
theorem c88 {x:GE}(hx:Fs x) (hk:1≤x.kind∧x.kind≤26) (s:List UInt8):WOk 88 [.str s,.agg x.cells] (s++(if 0 < vH x.kind∧vH x.kind < 8 then 40::(lX x++[41]) else lX x))
  ((if 0 < vH x.kind∧vH x.kind < 8 then l9 x+1 else l9 x)+1):=by
 intro w B hB hb hn
 have hc:=c83 hx hk 8
 generalize (if 0 < vH x.kind∧vH x.kind < 8 then 40::(lX x++[41]) else lX x)=t at hb hn hc ⊢
 generalize (if 0 < vH x.kind∧vH x.kind < 8 then l9 x+1 else l9 x)=n at hb hn hc ⊢
 simp only [aa6] at hb
 refine lA (aj9 _ _ _ _ _) ?_
 have s3:=fun n s=>yM (x:=x) (n:=n) (s:=s) hB
 have htr:=fun w C=>nM (w:=w) (C:=C) hB
 have e1:=P1 (w:=w) (x:=s) (s3 1 1) (by omega)
 have e2:=c85 (w:=w.st s 0 0) (s3 1 1) (by simp; omega)
 have e3:=hc (w.st s 1 1) _ (s3 1 1) (by simp; omega) (by simp; omega)
 have e4:=c86 (w:=w.st (s++t) (max 1 (nn 1 n)) 1) (s3 1 1) (by simp; omega) (by simp)
 simp -implicitDefEqProofs at e2 e3 e4
 simp -implicitDefEqProofs [m88,xG,t_,oH,e1,e2,e3,e4,mR,lZ,htr]
 refine congrArg (fun w=>WH w B) (WS.zZ rfl ?_ rfl)
 unfold nn
 split <;> omega
theorem Ge:∀(l:List Part) (p:Part),uF (l++[p])=uF l++(if l=[] then [] else [44,32])++p.2.1
 | [],p=>by simp [uF]
 | [q],p=>by simp [uF]
 | q::r::l,p=>by
  have:=Ge (r::l) p
  simp only [ae8,uF] at this ⊢
  rw [this]
  simp
theorem K8:∀(l:List Part) (p:Part),vJ (l++[p])=max (vJ l) p.2.2
 | [],p=>by simp [vJ]
 | q::l,p=>by
  simp only [ae8,vJ,K8 l p]
  omega
theorem OK (a:List Part):∀(b:List Part),(uF a).length≤(uF (a++b)).length
 | []=>by simp
 | p::b=>by
  have h1:=OK (a++[p]) b
  rw [al8] at h1
  rw [Ge] at h1
  simp only [aa6,ae8,ah4] at h1
  omega
end
section
open Go Hk
section
variable {w:WS}{B C:List lH}{cs:List kH}
theorem adL:lO 5 (WH w B) (.agg [.int .i64 0,.int .i64 0,.int .i64 0,.str [],.slice [] .nil]) =
  some (.ptr (B.length+3) 0,WH w (B++[.cells [.int .i64 0,.int .i64 0,.int .i64 0,.str [],.slice [] (.own (B.length+4))],.front 0 0])):=by
 simp [lO,lC,mR,oH]
theorem Xk {b b':lH}:(WH w (B++b::C)).set (B.length+3) b'=WH w (B++b'::C):=by
 simp [WH,HZ]
theorem stE {x:GE}(hc:cs.length=5):oZ 5 (WH w (B++.cells cs::C)) (.ptr (B.length+3) 0) (.agg x.cells)=some (WH w (B++.cells x.cells::C)):=by
 have e:=PD (w:=w) (B:=B) (C:=C) (cs:=cs)
 have hk:∀os,o0 (WH w (B++.cells cs::C)) os x.cells=x.cells:=fun os=>qB (by cases x; simp [GE.cells,kH.isNil])
 simp only [oZ,Ac,e,B1,nR,ae3,Dn,GE.p_,hc]
 rw [if_pos ⟨trivial,by omega,x.NK⟩,hk]
 have:putCells cs 0 x.cells=x.cells:=by simp [putCells,hc]
 rw [this,Xk]
end
section
variable {w:WS}{B:List lH}
def x_ (l:List GE) (i:Nat):List UInt8:=uF ((l.take i).map lU)
def yR (l:List GE) (i:Nat):Nat:=vJ ((l.take i).map lU)
theorem IN {l:List GE}{i:Nat}{x:GE}(h:l[i]?=some x):x_ l (i+1)=x_ l i++(if i=0 then [] else [44,32])++lX x:=by
 have hl:i < l.length:=(aa8.1 h).1
 unfold x_ lX
 rw [rS h,al9,af7,al1,Ge]
 congr 2
 have:((l.take i).map lU=[])=(i=0):=by
  rw [List.map_eq_nil_iff,List.take_eq_nil_iff]
  apply propext
  constructor
  ·rintro(h | h)
   ·exact h
   ·subst h; simp at hl
  ·exact .inl
 simp only [this]
theorem IM {l:List GE}{i:Nat}{x:GE}(h:l[i]?=some x):yR l (i+1)=max (yR l i) (l9 x):=by
 unfold yR l9
 rw [rS h,al9,af7,al1,K8]
theorem NS (l:List GE) (i:Nat):(x_ l i).length≤(uF (l.map lU)).length:=by
 have:=OK ((l.take i).map lU) ((l.drop i).map lU)
 rw [←al9,List.take_append_drop] at this
 exact this
theorem Oj:∀(a b:List Part),vJ a≤vJ (a++b)
 | [],_=>by simp [vJ]
 | p::a,b=>by simp only [vJ,ae8]; have:=Oj a b; omega
theorem VB (l:List GE) (i:Nat):yR l i≤vJ (l.map lU):=by
 have:=Oj ((l.take i).map lU) ((l.drop i).map lU)
 rw [←al9,List.take_append_drop] at this
 exact this
theorem Ep:∀(l:List Part),l.length≤(uF l).length+1
 | []=>by simp
 | [p]=>by simp
 | p::q::r=>by
  have:=Ep (q::r)
  simp only [uF,aa6,ab0] at this ⊢
  omega
theorem WA (l:List GE) (hl:l.length≤4611686018427387904) (hok:∀x∈l,Fs x) (s:List UInt8) (hB:Still B) (W:List UInt8)
  (hb:w.bs.length+(W.length+(uF (l.map lU)).length)≤140737488355328) (hn:w.now+(vJ (l.map lU)+1)≤1000000000000000):∀i,i≤l.length →
  mL (I7 KK (B.length+3)) ([.ptr 1 0,.str s,.slice (l.map GE.cells) .no,.int .i64 (l.length:Int),.int .i64 (i:Int)],WH (w.st (W++x_ l i) (max 1 (nn 1 (yR l i))) 1) B) =
   some (.exit 0,[.ptr 1 0,.str s,.slice (l.map GE.cells) .no,.int .i64 (l.length:Int),.int .i64 (l.length:Int)],WH (w.st (W++uF (l.map lU)) (max 1 (nn 1 (vJ (l.map lU)))) 1) B):=by
 refine rU (fun i:Nat=>([.ptr 1 0,.str s,.slice (l.map GE.cells) .no,.int .i64 (l.length:Int),.int .i64 (i:Int)],WH (w.st (W++x_ l i) (max 1 (nn 1 (yR l i))) 1) B)) (fun i=>i≤l.length) (fun i=>l.length - i) _ fun i hi=>?_
 have htr:=fun w C=>nM (w:=w) (C:=C) hB
 by_cases h:i < l.length
 ·left
  refine⟨i+1,?_,h,by omega,rfl⟩
  obtain⟨x,hx⟩:∃x,l[i]?=some x:=⟨l[i],ab8 h⟩
  have hxe:=hok x (ad2 hx)
  have t1:=IN hx
  have t2:=IM hx
  have t3:=NS l (i+1)
  have t4:=VB l (i+1)
  have w1:=qT (a:=i) (by omega)
  have s2:=yM (x:=x) (n:=0) (s:=0) hB
  have s4:=Jz (x:=x) (n:=0) (s:=0) (n':=1) (s':=1) hB
  have hst:=fun w C cs (hc:aa7 cs=5)=>stE (w:=w) (B:=B) (C:=C) (x:=x) hc
  have htr2:∀w C,l_ (B.length+2+3) (WH w (B++lH.cells x.cells::.front 0 0::C))=some (WH w (B++[lH.cells x.cells,.front 0 0])):=fun w C=>by
   have:=nM (w:=w) (B:=B++[lH.cells x.cells,.front 0 0]) (C:=C) s2
   simpa using this
  have htr0:=fun w=>rI (w:=w) (B:=B++[lH.cells x.cells,.front 0 0]) s2
  have hsan:∀h,kH.mT (B.length+1+1+3) h (.ptr (B.length+3) 0)=.ptr (B.length+3) 0:=fun h=>lD (by omega)
  have hsan0:∀h o,kH.mT (B.length+1+1+3) h (.ptr 1 o)=.ptr 1 o:=fun h o=>lD (by omega)
  simp only [aa6,ab0,ab3] at htr0
  rw [t2] at t4
  have hxi:∀hh:i < l.length,l[i]'hh=x:=fun hh=>by rw [ab8 hh] at hx; exact Option.some.inj hx
  have hld:∀h,lS true 5 h (.pptr x.cells)=some (.agg x.cells):=fun h=>by simp [lS]
  by_cases h0:i=0
  ·rw [if_pos h0,am4] at t1
   have hp:¬0 < i:=by omega
   rw [t1,aa6] at t3
   have e3:=hxe (w.st (W++x_ l i) (max 1 (nn 1 (yR l i))) 1) _ s2 (by simp; omega) (by simp; omega)
   simp -implicitDefEqProofs only [WS.Xr] at e3
   simp -implicitDefEqProofs [I7,h,hp,hxi,hld,adL,hst,kW,htr,htr0,htr2,hsan,hsan0,mR,e3,w1,w6,-ad5]
   refine congrArg (fun w=>WH w B) (WS.zZ (by rw [t1]) ?_ rfl)
   rw [t2]
   unfold nn
   split <;> split <;> split <;> omega
  ·rw [if_neg h0] at t1
   have hp:0 < i:=by omega
   rw [t1,aa6,aa6] at t3
   simp only [ab0,ab3] at t3
   have e2:=P1 (w:=w.st (W++x_ l i) (max 1 (nn 1 (yR l i))) 1) (x:=[44,32]) s4 (by simp; omega)
   have e3:=hxe (w.st (W++(x_ l i++[44,32])) (max 1 (nn 1 (yR l i))) 1) _ s2 (by simp; omega) (by simp; omega)
   simp -implicitDefEqProofs only [WS.Xr,al8,abU,Nat.add_zero,Nat.max_zero] at e2 e3
   simp -implicitDefEqProofs [I7,h,hp,hxi,hld,adL,hst,kW,htr,htr0,htr2,hsan,hsan0,mR,t_,oH,e2,e3,w1,w6,-ad5]
   refine congrArg (fun w=>WH w B) (WS.zZ (by rw [t1]; simp) ?_ rfl)
   rw [t2]
   unfold nn
   split <;> split <;> split <;> omega
 ·right
  have:i=l.length:=by omega
  subst this
  constructor
  ·simp -implicitDefEqProofs [I7,kW,rI hB,w6,x_,yR]
  ·simp
theorem c87 (l:List GE) (hok:∀x∈l,Fs x) (s u:List UInt8) :
  WOk 87 [.str u,.slice (l.map GE.cells) .no,.str s] (u++40::(uF (l.map lU)++s++[41])) (vJ (l.map lU)+1):=by
 intro w B hB hb hn
 simp only [aa6,ab0,ab3] at hb
 have hl:l.length≤4611686018427387904:=by
  have:=Ep (l.map lU)
  rw [al2] at this
  omega
 refine lA (aj8 _ _ _ _ _ _) ?_
 have s1:=OQ (n:=2) (s:=1) hB
 have s2:Still (B++[.front 2 1,.front 2 1]):=oG hB (mE (mE nL))
 have htr:=fun w C=>nM (w:=w) (C:=C) hB
 have e1:=P2 (w:=w) (x:=u) (y:=[40]) s1 (by simp; omega)
 have e2:=c85 (w:=w.st (u++[40]) 0 0) s1 (by simp; omega)
 have e3:=WA (w:=w) l hl hok s s1 (u++[40]) (by simp; omega) hn 0 (al7 _)
 have e4:=P2 (w:=w.st (u++[40]++uF (l.map lU)) (max 1 (nn 1 (vJ (l.map lU)))) 1) (x:=s) (y:=[41]) s2 (by simp; omega)
 have e5:=c86 (w:=w.st (u++[40]++uF (l.map lU)++(s++[41])) (max 1 (nn 1 (vJ (l.map lU)))) 1) s2 (by simp; omega) (by simp)
 have t0:x_ l 0=[]:=rfl
 have n0:yR l 0=0:=rfl
 simp -implicitDefEqProofs [t0,n0] at e2 e3 e4 e5
 simp -implicitDefEqProofs [m87,EK,oH,e1,e2,e3,e4,e5,mR,lZ,htr]
 refine congrArg (fun w=>WH w B) (WS.zZ rfl ?_ rfl)
 unfold nn
 split <;> omega
end
theorem Qc {k n:Int}{name:List UInt8}{len:Nat}(h:zX k n name len=true):1≤k∧k≤26:=by
 unfold zX xH at h
 split at h
 ·cases h
 ·rename_i m hm
  split at hm
  ·cases hm
  ·omega
theorem AN {x:GE}(h:nZ x=true):1≤x.kind∧x.kind≤26:=by
 cases x
 simp only [nZ,ad0] at h
 exact Qc h.1
theorem xP {k:Int}(hk:1≤k∧k≤26) (t:Nat) (a:GE) (ha:1≤a.kind∧a.kind≤26) (b:Bool) (hb:b=!decide (0 < vH a.kind∧vH a.kind < t)) :
  (if 0 < vH a.kind∧vH a.kind < t then 40::(lX a++[41]) else lX a)=tB b (lU a)∧(if 0 < vH a.kind∧vH a.kind < t then l9 a+1 else l9 a)=tA b (lU a):=by
 subst hb
 by_cases h:0 < vH a.kind∧vH a.kind < t
 ·rw [if_pos h,if_pos h,decide_eq_true h]; exact⟨rfl,rfl⟩
 ·rw [if_neg h,if_neg h,decide_eq_false h]; exact⟨rfl,rfl⟩
theorem y3 (x:GE):(lU x).1=x.kind:=by cases x; rfl
theorem B3 {k:Int}(hk:1≤k∧k≤26):1≤lI k∧lI k≤8∧vH k=if lI k=8 then 0 else lI k:=by
 rcases x7 hk with rfl | rfl | rfl | rfl | rfl | rfl | rfl | rfl | rfl | rfl | rfl | rfl | rfl | rfl | rfl | rfl | rfl | rfl | rfl | rfl | rfl | rfl | rfl | rfl | rfl | rfl <;> decide
end
section
open Go Hk
theorem rG (x:GE):lX x=Cy x.kind x.num x.name (x.args.map lU):=by cases x; simp [lX,lU,F5,GE.kind,GE.num,GE.name,GE.args]
theorem rF (x:GE):l9 x=Cw x.kind (x.args.map lU):=by cases x; simp [l9,lU,F5,GE.kind,GE.args]
theorem Dm {k:Int}{a:GE}(hk:1≤k∧k≤26) (ha:1≤a.kind∧a.kind≤26) (ht:lI k < 8) :
  mO (lI k) (lU a).1=!decide (0 < vH a.kind∧vH a.kind < (if lI k=1 then 2 else lI k)):=by
 obtain⟨a1,a2,a3⟩:=B3 hk
 obtain⟨b1,b2,b3⟩:=B3 ha
 rw [y3,b3]
 unfold mO
 rw [←decide_not]
 apply decide_eq_decide.2
 split <;> split <;> omega
theorem Io {k:Int}{a:GE}(hk:1≤k∧k≤26) (ha:1≤a.kind∧a.kind≤26) (ht:lI k < 8) :
  decide (lI k < lI (lU a).1)=!decide (0 < vH a.kind∧vH a.kind < lI k+1):=by
 obtain⟨a1,a2,a3⟩:=B3 hk
 obtain⟨b1,b2,b3⟩:=B3 ha
 rw [y3,b3,←decide_not]
 apply decide_eq_decide.2
 split <;> omega
theorem Im {a:GE}(ha:1≤a.kind∧a.kind≤26):decide (lI (lU a).1=8)=!decide (0 < vH a.kind∧vH a.kind < 8):=by
 obtain⟨b1,b2,b3⟩:=B3 ha
 rw [y3,b3,←decide_not]
 apply decide_eq_decide.2
 split <;> omega
theorem ZH {a:GE}{l:List GE}:k9 5 (.slice ((a::l).map GE.cells) .no) (.int .i64 0)=some (.pptr a.cells):=by rw [n_]; simp
theorem ix1 {a b:GE}{l:List GE}:k9 5 (.slice ((a::b::l).map GE.cells) .no) (.int .i64 1)=some (.pptr b.cells):=by rw [n_]; simp
theorem PX {x:GE}{h:kL}:lS true 5 h (.pptr x.cells)=some (.agg x.cells):=by simp [lS]
section
variable {B:List lH}
theorem wO {m:Nat}{h:kL}{k:Nat}{o:Nat}(hk:k < m):kH.mT m h (.ptr k o)=.ptr k o:=lD hk
end
theorem ao2 {x a b:GE}(hx:x.args=[a,b]) (hk:1≤x.kind∧x.kind≤26) (ht:lI x.kind < 8) (ha:Fs a) (hb:Fs b) (hka:1≤a.kind∧a.kind≤26) (hkb:1≤b.kind∧b.kind≤26):Fs x:=by
 intro w B hB hbd hn
 obtain⟨a1,a2,a3⟩:=B3 hk
 have hbn:vH x.kind=lI x.kind:=by rw [a3,if_neg (by omega)]
 have hbs:Su x.kind=pU x.kind:=if_pos ht
 have t1:lX x=tB (mO (lI x.kind) (lU a).1) (lU a)++32::(pU x.kind++32::tB (decide (lI x.kind < lI (lU b).1)) (lU b)):=by
  rw [rG,hx]; unfold Cy; rw [if_pos ht]; rfl
 have t2:l9 x=max (tA (mO (lI x.kind) (lU a).1) (lU a)) (tA (decide (lI x.kind < lI (lU b).1)) (lU b)):=by
  rw [rF,hx]; unfold Cw; rw [if_pos ht]; rfl
 have c1:=c83 ha hka (if lI x.kind=1 then 2 else lI x.kind)
 rw [(xP hk _ a hka _ (Dm hk hka ht)).1,(xP hk _ a hka _ (Dm hk hka ht)).2] at c1
 have c2:=c83 hb hkb (lI x.kind+1)
 rw [(xP hk _ b hkb _ (Io hk hkb ht)).1,(xP hk _ b hkb _ (Io hk hkb ht)).2] at c2
 rw [t1,t2]
 rw [t1] at hbd
 rw [t2] at hn
 generalize tB (mO (lI x.kind) (lU a).1) (lU a)=A at hbd c1 ⊢
 generalize tB (decide (lI x.kind < lI (lU b).1)) (lU b)=D at hbd c2 ⊢
 generalize tA (mO (lI x.kind) (lU a).1) (lU a)=na at hn c1 ⊢
 generalize tA (decide (lI x.kind < lI (lU b).1)) (lU b)=nb at hn c2 ⊢
 simp only [aa6,ab0] at hbd
 refine lA (C5 _ _ _ _) ?_
 have s2:=yL (x:=x) hB
 have s3:=yM (x:=x) (n:=3) (s:=1) hB
 have htr:=fun w C=>nM (w:=w) (C:=C) hB
 have htr2:∀w,l_ (B.length+1+3) (WH w (B++[lH.cells x.cells]))=some (WH w (B++[lH.cells x.cells])):=fun w=>by
  have:=rI (w:=w) s2
  simpa using this
 have e0:=Zb x.kind hk
 have e1:=c1 w _ s2 (by omega) (by omega)
 have e2:=P3 (w:=w.st A na 0) (x:=[32]) (y:=pU x.kind) (z:=[32]) s3 (by simp; omega)
 have e3:=c2 (w.st (A++32::(pU x.kind++[32])) na 0) _ s3 (by simp; omega) (by simp; omega)
 have hpos:0 < lI x.kind:=by omega
 have q1:∀h o,kH.mT (B.length+1+3) h (.ptr (B.length+3) o)=.ptr (B.length+3) o:=fun h o=>wO (by omega)
 have q2:∀h o,kH.mT (B.length+1+3) h (.ptr 1 o)=.ptr 1 o:=fun h o=>wO (by omega)
 have w1:=qT (a:=lI x.kind) (by omega)
 simp -implicitDefEqProofs [-ad5] at e2 e3
 have i0:k9 5 (.slice (x.args.map GE.cells) .no) (.int .i64 0)=some (.pptr a.cells):=by rw [hx]; exact ZH
 have i1:k9 5 (.slice (x.args.map GE.cells) .no) (.int .i64 1)=some (.pptr b.cells):=by rw [hx]; exact ix1
 have hl:x.args.length=2:=by rw [hx]; rfl
 by_cases h1:lI x.kind=1
 ·simp -implicitDefEqProofs [h1] at e1 e3
  have w2:IntKind.wrap .i64 2=2:=by decide
  simp -implicitDefEqProofs [O3,xG,e0,hbn,hbs,h1,kW,htr2,q1,q2,mR,i0,i1,hl,PX,Aw,oH,e1,e2,e3,w2,lZ,htr]
  refine congrArg (fun w=>WH w B) (WS.zZ rfl ?_ rfl)
  unfold nn
  split <;> omega
 ·have h1':¬(lI x.kind:Int)=1:=by omega
  simp -implicitDefEqProofs [h1] at e1
  simp -implicitDefEqProofs [O3,xG,e0,hbn,hbs,hpos,h1',kW,htr2,q1,q2,mR,i0,i1,hl,PX,Aw,oH,e1,e2,e3,w1,lZ,htr,-ad5]
  refine congrArg (fun w=>WH w B) (WS.zZ rfl ?_ rfl)
  unfold nn
  split <;> omega
end
section
open Go Hk
theorem BK {n:Int}(h:n < 9223372036854775808):(uC n).length≤20:=by
 have key:∀(k n:Nat) (acc:List UInt8),n < 10 ^ k→(AQ n acc).length≤k+acc.length:=by
  intro k
  induction k with
  | zero =>
   intro n acc h
   have:n=0:=by simpa using h
   subst this
   rw [AQ,if_pos rfl]; omega
  | succ k ih =>
   intro n acc h
   rw [AQ]
   split
   ·omega
   ·have:=ih (n / 10) (UInt8.ofNat (48+n % 10)::acc) (by rw [Nat.pow_succ] at h; omega)
    simp only [ab0] at this
    omega
 unfold uC CH
 split
 ·simp
 ·have:=key 20 n.toNat [] (by omega)
  simpa using this
theorem Ra {x a:GE}(hx:x.args=[a]) (hk:1≤x.kind∧x.kind≤26) (ht:lI x.kind < 8) (h1:¬lI x.kind=1) (hnum:0≤x.num∧x.num≤4294967295) (ha:Fs a) (hka:1≤a.kind∧a.kind≤26):Fs x:=by
 intro w B hB hbd hn
 obtain⟨a1,a2,a3⟩:=B3 hk
 have hbn:vH x.kind=lI x.kind:=by rw [a3,if_neg (by omega)]
 have hbs:Su x.kind=pU x.kind:=if_pos ht
 have t1:lX x=tB (mO (lI x.kind) (lU a).1) (lU a)++32::(pU x.kind++32::uC x.num):=by
  rw [rG,hx]; unfold Cy; rw [if_pos ht]; rfl
 have t2:l9 x=tA (mO (lI x.kind) (lU a).1) (lU a):=by
  rw [rF,hx]; unfold Cw; rw [if_pos ht]; rfl
 have c1:=c83 ha hka (if lI x.kind=1 then 2 else lI x.kind)
 rw [(xP hk _ a hka _ (Dm hk hka ht)).1,(xP hk _ a hka _ (Dm hk hka ht)).2] at c1
 rw [t1,t2]
 rw [t1] at hbd
 rw [t2] at hn
 generalize tB (mO (lI x.kind) (lU a).1) (lU a)=A at hbd c1 ⊢
 generalize tA (mO (lI x.kind) (lU a).1) (lU a)=na at hn c1 ⊢
 simp only [aa6,ab0] at hbd
 refine lA (C5 _ _ _ _) ?_
 have s2:=yL (x:=x) hB
 have s3:=yM (x:=x) (n:=3) (s:=1) hB
 have htr:=fun w C=>nM (w:=w) (C:=C) hB
 have htr2:∀w,l_ (B.length+1+3) (WH w (B++[lH.cells x.cells]))=some (WH w (B++[lH.cells x.cells])):=fun w=>by
  have:=rI (w:=w) s2
  simpa using this
 have e0:=Zb x.kind hk
 have e1:=c1 w _ s2 (by omega) (by omega)
 have e2:=P3 (w:=w.st A na 0) (x:=[32]) (y:=pU x.kind) (z:=[32]) s3 (by simp; omega)
 have e3:=c84 (w:=w.st (A++32::(pU x.kind++[32])) na 0) x.num hnum.1 (by omega) s3 (by simp; omega)
 have hpos:0 < lI x.kind:=by omega
 have q1:∀h o,kH.mT (B.length+1+3) h (.ptr (B.length+3) o)=.ptr (B.length+3) o:=fun h o=>wO (by omega)
 have q2:∀h o,kH.mT (B.length+1+3) h (.ptr 1 o)=.ptr 1 o:=fun h o=>wO (by omega)
 simp -implicitDefEqProofs at e2 e3
 have i0:k9 5 (.slice (x.args.map GE.cells) .no) (.int .i64 0)=some (.pptr a.cells):=by rw [hx]; exact ZH
 have hl:x.args.length=1:=by rw [hx]; rfl
 have h1':¬(lI x.kind:Int)=1:=by omega
 simp -implicitDefEqProofs [h1] at e1
 simp -implicitDefEqProofs [O3,xG,e0,hbn,hbs,hpos,h1',kW,htr2,q1,q2,mR,i0,hl,PX,Aw,oH,e1,e2,e3,lZ,htr]
theorem uU {k:Int}(ht:lI k=8):vH k=0∧Su k=[]:=by simp [vH,Su,ht]
section
variable {w:WS}{B C:List lH}
theorem tr2 {x:GE}(hB:Still B):l_ (B.length+1+3) (WH w (B++lH.cells x.cells::C))=some (WH w (B++[lH.cells x.cells])):=by
 have:=nM (w:=w) (C:=C) (yL (x:=x) hB)
 simpa using this
end
theorem ao0 {x:GE}(hk:x.kind=1) (hnum:0≤x.num∧x.num≤4294967295):Fs x:=by
 intro w B hB hbd hn
 have t1:lX x=uC x.num:=by rw [rG,hk]; rfl
 have t2:l9 x=0:=by rw [rF,hk]; rfl
 rw [t1] at hbd
 rw [t1,t2]
 refine lA (C5 _ _ _ _) ?_
 have s2:=yL (x:=x) hB
 have htr:=fun w C=>nM (w:=w) (C:=C) hB
 have htr2:=fun w C=>tr2 (w:=w) (C:=C) (x:=x) hB
 have e0:=Zb x.kind (by omega)
 have e3:=c84 (w:=w) x.num hnum.1 (by omega) s2 hbd
 obtain⟨b1,b2⟩:=uU (k:=1) rfl
 simp -implicitDefEqProofs at e3
 rw [hk] at e0
 simp -implicitDefEqProofs [O3,xG,hk,e0,b1,b2,kW,htr2,mR,e3,lZ,htr]
theorem ahG {x:GE}(hk:x.kind=2):Fs x:=by
 intro w B hB hbd hn
 have t1:lX x=x.name:=by rw [rG,hk]; rfl
 have t2:l9 x=0:=by rw [rF,hk]; rfl
 rw [t1] at hbd
 rw [t1,t2]
 refine lA (C5 _ _ _ _) ?_
 have s3:=yM (x:=x) (n:=1) (s:=1) hB
 have htr:=fun w C=>nM (w:=w) (C:=C) hB
 have htr2:=fun w C=>tr2 (w:=w) (C:=C) (x:=x) hB
 have e0:=Zb x.kind (by omega)
 have e3:=P1 (w:=w) (x:=x.name) s3 hbd
 obtain⟨b1,b2⟩:=uU (k:=2) rfl
 rw [hk] at e0
 simp -implicitDefEqProofs [O3,xG,hk,e0,b1,b2,kW,htr2,mR,e3,lZ,htr,t_,oH]
theorem Zh {x a:GE}(hk:x.kind=3) (hx:x.args=[a]) (ha:Fs a):Fs x:=by
 intro w B hB hbd hn
 have t1:lX x=x.name++91::(lX a++[93]):=by rw [rG,hk,hx]; rfl
 have t2:l9 x=l9 a+1:=by rw [rF,hk,hx]; rfl
 rw [t1] at hbd
 rw [t2] at hn
 rw [t1,t2]
 simp only [aa6,ab0,ab3] at hbd
 refine lA (C5 _ _ _ _) ?_
 have s3:=yM (x:=x) (n:=2) (s:=1) hB
 have s4:=Jz (x:=x) (n:=2) (s:=1) (n':=1) (s':=1) hB
 have htr:=fun w C=>nM (w:=w) (C:=C) hB
 have htr2:=fun w C=>tr2 (w:=w) (C:=C) (x:=x) hB
 have e0:=Zb x.kind (by omega)
 have e1:=P2 (w:=w) (x:=x.name) (y:=[91]) s3 (by simp; omega)
 have e2:=c85 (w:=w.st (x.name++[91]) 0 0) s3 (by simp; omega)
 have e3:=ha (w.st (x.name++[91]) 1 1) _ s3 (by simp; omega) (by simp; omega)
 have e4:=c86 (w:=w.st (x.name++91::lX a) (max 1 (nn 1 (l9 a))) 1) s3 (by simp; omega) (by simp)
 have e5:=P1 (w:=w.st (x.name++91::lX a) (max 1 (nn 1 (l9 a))) 0) (x:=[93]) s4 (by simp; omega)
 obtain⟨b1,b2⟩:=uU (k:=3) rfl
 rw [hk] at e0
 have i0:k9 5 (.slice (x.args.map GE.cells) .no) (.int .i64 0)=some (.pptr a.cells):=by rw [hx]; exact ZH
 simp -implicitDefEqProofs at e2 e3 e4 e5
 simp -implicitDefEqProofs [O3,xG,hk,e0,b1,b2,kW,htr2,mR,e1,e2,e3,e4,e5,i0,PX,lZ,htr,t_,EK,oH]
 refine congrArg (fun w=>WH w B) (WS.zZ rfl ?_ rfl)
 unfold nn
 split <;> omega
theorem LR {x a:GE}(hk:x.kind=5∨x.kind=6∨x.kind=7) (hx:x.args=[a]) (ha:Fs a) (hka:1≤a.kind∧a.kind≤26):Fs x:=by
 intro w B hB hbd hn
 have t1:lX x=pU x.kind++tB (decide (lI (lU a).1=8)) (lU a):=by
  rw [rG,hx]
  rcases hk with h | h | h <;> rw [h] <;> rfl
 have t2:l9 x=tA (decide (lI (lU a).1=8)) (lU a)+1:=by
  rw [rF,hx]
  rcases hk with h | h | h <;> rw [h] <;> rfl
 have c1:=c88 ha hka (pU x.kind)
 have hk':1≤x.kind∧x.kind≤26:=by omega
 rw [(xP hk' _ a hka _ (Im hka)).1,(xP hk' _ a hka _ (Im hka)).2] at c1
 rw [t1] at hbd
 rw [t2] at hn
 rw [t1,t2]
 generalize tB (decide (lI (lU a).1=8)) (lU a)=A at hbd c1 ⊢
 generalize tA (decide (lI (lU a).1=8)) (lU a)=na at hn c1 ⊢
 refine lA (C5 _ _ _ _) ?_
 have s2:=yL (x:=x) hB
 have htr:=fun w C=>nM (w:=w) (C:=C) hB
 have htr2:=fun w C=>tr2 (w:=w) (C:=C) (x:=x) hB
 have e0:=Zb x.kind hk'
 have e1:=c1 w _ s2 hbd hn
 have i0:k9 5 (.slice (x.args.map GE.cells) .no) (.int .i64 0)=some (.pptr a.cells):=by rw [hx]; exact ZH
 rcases hk with h | h | h <;> rw [h] at e0 e1 ⊢
 ·obtain⟨b1,b2⟩:=uU (k:=5) rfl
  have hs:pU 5=[126]:=rfl
  rw [hs] at e1 ⊢
  simp -implicitDefEqProofs [O3,xG,h,e0,b1,b2,kW,htr2,mR,e1,i0,PX,lZ,htr]
 ·obtain⟨b1,b2⟩:=uU (k:=6) rfl
  have hs:pU 6=[45]:=rfl
  rw [hs] at e1 ⊢
  simp -implicitDefEqProofs [O3,xG,h,e0,b1,b2,kW,htr2,mR,e1,i0,PX,lZ,htr]
 ·obtain⟨b1,b2⟩:=uU (k:=7) rfl
  have hs:pU 7=[33]:=rfl
  rw [hs] at e1 ⊢
  simp -implicitDefEqProofs [O3,xG,h,e0,b1,b2,kW,htr2,mR,e1,i0,PX,lZ,htr]
theorem ahF {x:GE}(hk:x.kind=4∨x.kind=23∨x.kind=24∨x.kind=25∨x.kind=26) (hnm:x.kind=4∨x.name=[]) (ha:∀a∈x.args,Fs a):Fs x:=by
 intro w B hB hbd hn
 have t1:lX x=pU x.kind++x.name++40::(uF (x.args.map lU)++[]++[41]):=by
  rw [rG]
  rcases hk with h | h | h | h | h <;> rw [h] <;> rfl
 have t2:l9 x=vJ (x.args.map lU)+1:=by
  rw [rF]
  rcases hk with h | h | h | h | h <;> rw [h] <;> rfl
 rw [t1] at hbd
 rw [t2] at hn
 rw [t1,t2]
 refine lA (C5 _ _ _ _) ?_
 have s2:=yL (x:=x) hB
 have htr:=fun w C=>nM (w:=w) (C:=C) hB
 have htr2:=fun w C=>tr2 (w:=w) (C:=C) (x:=x) hB
 have e0:=Zb x.kind (by omega)
 have e1:=c87 x.args ha [] (pU x.kind++x.name) w _ s2 hbd hn
 rcases hk with h | h | h | h | h <;> rw [h] at e0 e1 ⊢
 ·obtain⟨b1,b2⟩:=uU (k:=4) rfl
  have hs:pU 4=[]:=rfl
  rw [hs,ah4] at e1 ⊢
  simp -implicitDefEqProofs at e1
  simp -implicitDefEqProofs [O3,xG,h,e0,b1,b2,kW,htr2,mR,e1,lZ,htr]
 ·obtain⟨b1,b2⟩:=uU (k:=23) rfl
  have hs:pU 23=[109,117,108,104,105]:=rfl
  have hq:x.name=[]:=hnm.resolve_left (by omega)
  rw [hs,hq,am4] at e1 ⊢
  simp -implicitDefEqProofs at e1
  simp -implicitDefEqProofs [O3,xG,h,e0,b1,b2,kW,htr2,mR,e1,lZ,htr]
 ·obtain⟨b1,b2⟩:=uU (k:=24) rfl
  have hs:pU 24=[99,97,114,114,121]:=rfl
  have hq:x.name=[]:=hnm.resolve_left (by omega)
  rw [hs,hq,am4] at e1 ⊢
  simp -implicitDefEqProofs at e1
  simp -implicitDefEqProofs [O3,xG,h,e0,b1,b2,kW,htr2,mR,e1,lZ,htr]
 ·obtain⟨b1,b2⟩:=uU (k:=25) rfl
  have hs:pU 25=[115,101,108,101,99,116]:=rfl
  have hq:x.name=[]:=hnm.resolve_left (by omega)
  rw [hs,hq,am4] at e1 ⊢
  simp -implicitDefEqProofs at e1
  simp -implicitDefEqProofs [O3,xG,h,e0,b1,b2,kW,htr2,mR,e1,lZ,htr]
 ·obtain⟨b1,b2⟩:=uU (k:=26) rfl
  have hs:pU 26=[119,111,114,100]:=rfl
  have hq:x.name=[]:=hnm.resolve_left (by omega)
  rw [hs,hq,am4] at e1 ⊢
  simp -implicitDefEqProofs at e1
  simp -implicitDefEqProofs [O3,xG,h,e0,b1,b2,kW,htr2,mR,e1,lZ,htr]
theorem apF {w:WS}{B C:List lH}{cs:List kH}:mU (WH w (B++.cells cs::C)) (o8 (WH w (B++.cells cs::C)) (B.length+3)) (B.length+3)=WH w (B++.cells cs::C):=by
 unfold o8 mU
 simp only [PD,Xk]
theorem ao1 {x:GE}(hk:x.kind=16) (hnm:x.name=[]) (hnum:0≤x.num∧x.num≤4294967295) (ha:∀a∈x.args,Fs a):Fs x:=by
 intro w B hB hbd hn
 have t1:lX x=[114,111,114]++40::(uF (x.args.map lU)++(44::32::uC x.num)++[41]):=by
  rw [rG,hk,hnm]; rfl
 have t2:l9 x=vJ (x.args.map lU)+1:=by
  rw [rF,hk]; rfl
 rw [t1] at hbd
 rw [t2] at hn
 rw [t1,t2]
 refine lA (C5 _ _ _ _) ?_
 have s2:=yL (x:=x) hB
 have htr:=fun w C=>nM (w:=w) (C:=C) hB
 have htr2:=fun w C=>tr2 (w:=w) (C:=C) (x:=x) hB
 have e0:=Zb x.kind (by omega)
 have e1:=c87 x.args ha (44::32::uC x.num) [114,111,114] w _ s2 hbd hn
 have e2:=fun h=>c89 x.num hnum.1 (by omega) h
 have nl:=BK (n:=x.num) (by omega)
 have hle:2+(uC x.num).length≤4611686018427387904:=by omega
 obtain⟨b1,b2⟩:=uU (k:=16) rfl
 rw [hk] at e0
 simp -implicitDefEqProofs at e1
 simp -implicitDefEqProofs [O3,xG,hk,e0,b1,b2,kW,htr2,mR,e1,e2,hle,lZ,htr,k_,nB,lM,oR,apF]
end
section
open Go Hk
theorem tR {n:Int}:AT n=true↔0≤n∧n≤4294967295:=by simp [AT]
theorem AR {l:List GE}(h:l.length=1):∃a,l=[a]:=by
 match l,h with
 | [a],_=>exact⟨a,rfl⟩
theorem uW {l:List GE}(h:l.length=2):∃a b,l=[a,b]:=by
 match l,h with
 | [a,b],_=>exact⟨a,b,rfl⟩
theorem An {s:List UInt8}(h:lG s false=true):s=[]:=by simpa [lG] using h
theorem eok:∀(n:Nat) (x:GE),x.size≤n→nZ x=true→Fs x:=by
 intro n
 induction n with
 | zero=>intro x hn; cases x; simp [GE.size] at hn
 | succ n ih =>
  intro x hn hw
  have hk:=AN hw
  have ha:∀a∈x.args,Fs a∧1≤a.kind∧a.kind≤26:=by
   intro a hm
   cases x
   simp only [nZ,ad0,y9,af4] at hw
   have h1:=GE.qQ hm
   simp only [GE.size,GE.args] at hn h1 hm
   exact⟨ih a (by omega) (hw.2 a hm),AN (hw.2 a hm)⟩
  have hnode:zX x.kind x.num x.name x.args.length=true:=by
   cases x
   simp only [nZ,ad0] at hw
   exact hw.1
  have one:∀a,x.args=[a]→Fs a∧1≤a.kind∧a.kind≤26:=fun a e=>ha a (by rw [e]; simp)
  have two:∀a b,x.args=[a,b]→(Fs a∧1≤a.kind∧a.kind≤26)∧(Fs b∧1≤b.kind∧b.kind≤26):=fun a b e=>⟨ha a (by rw [e]; simp),ha b (by rw [e]; simp)⟩
  have bin:lI x.kind < 8→(∃a b,x.args=[a,b])→Fs x:=by
   rintro ht ⟨a,b,e⟩
   obtain⟨h1,h2⟩:=two a b e
   exact ao2 e hk ht h1.1 h2.1 h1.2 h2.2
  have cl:(x.kind=4∨x.kind=23∨x.kind=24∨x.kind=25∨x.kind=26)→(x.kind=4∨x.name=[])→Fs x:=fun h1 h2=>ahF h1 h2 fun a hm=>(ha a hm).1
  unfold zX at hnode
  rcases x7 hk with h | h | h | h | h | h | h | h | h | h | h | h | h | h | h | h | h | h | h | h | h | h | h | h | h | h <;> simp only [h] at hnode bin cl <;>
   simp [xH,kZ,tR] at hnode
  ·exact ao0 h hnode.2
  ·exact ahG h
  ·obtain⟨a,e⟩:=AR (l:=x.args) (by have:=hnode.1.1; omega)
   exact Zh h e (one a e).1
  ·exact cl (by simp) (by simp)
  ·obtain⟨a,e⟩:=AR (l:=x.args) (by have:=hnode.1.1; omega)
   exact LR (.inl h) e (one a e).1 (one a e).2
  ·obtain⟨a,e⟩:=AR (l:=x.args) (by have:=hnode.1.1; omega)
   exact LR (.inr (.inl h)) e (one a e).1 (one a e).2
  ·obtain⟨a,e⟩:=AR (l:=x.args) (by have:=hnode.1.1; omega)
   exact LR (.inr (.inr h)) e (one a e).1 (one a e).2
  ·exact bin (by decide) (uW (l:=x.args) (by have:=hnode.1.1; omega))
  ·exact bin (by decide) (uW (l:=x.args) (by have:=hnode.1.1; omega))
  ·exact bin (by decide) (uW (l:=x.args) (by have:=hnode.1.1; omega))
  ·exact bin (by decide) (uW (l:=x.args) (by have:=hnode.1.1; omega))
  ·exact bin (by decide) (uW (l:=x.args) (by have:=hnode.1.1; omega))
  ·exact bin (by decide) (uW (l:=x.args) (by have:=hnode.1.1; omega))
  ·obtain⟨a,e⟩:=AR (l:=x.args) (by have:=hnode.1.1; omega)
   exact Ra e hk (by rw [h]; decide) (by rw [h]; decide) hnode.2 (one a e).1 (one a e).2
  ·obtain⟨a,e⟩:=AR (l:=x.args) (by have:=hnode.1.1; omega)
   exact Ra e hk (by rw [h]; decide) (by rw [h]; decide) hnode.2 (one a e).1 (one a e).2
  ·exact ao1 h (An hnode.1.2) hnode.2 fun a hm=>(ha a hm).1
  ·exact bin (by decide) (uW (l:=x.args) (by have:=hnode.1.1; omega))
  ·exact bin (by decide) (uW (l:=x.args) (by have:=hnode.1.1; omega))
  ·exact bin (by decide) (uW (l:=x.args) (by have:=hnode.1.1; omega))
  ·exact bin (by decide) (uW (l:=x.args) (by have:=hnode.1.1; omega))
  ·exact bin (by decide) (uW (l:=x.args) (by have:=hnode.1.1; omega))
  ·exact bin (by decide) (uW (l:=x.args) (by have:=hnode.1.1; omega))
  ·exact cl (by simp) (.inr (An hnode.1.2))
  ·exact cl (by simp) (.inr (An hnode.1.2))
  ·exact cl (by simp) (.inr (An hnode.1.2))
  ·exact cl (by simp) (.inr (An hnode.1.2))
theorem XZ (x:GE) (hw:nZ x=true):WOk 37 [.agg x.cells] (lX x) (l9 x):=eok x.size x (ac8 _) hw
end
section
open Go Hk
def WS.sl (w:WS) (l:Nat):WS:={ w with ln:=l }
section
variable {w:WS}{x:List UInt8}{n k l j:Nat}{B C:List lH}{cs:List kH}
@[simp] theorem WS.aAf:(w.sl l).st x n k=(w.st x n k).sl l:=rfl
@[simp] theorem WS.aAg:(w.sl l).up=w.up.sl l:=rfl
@[simp] theorem WS.auW:(w.sl l).down=w.down.sl l:=rfl
@[simp] theorem WS.aAe:(w.sl l).sl j=w.sl j:=rfl
@[simp] theorem WS.aAc:(w.sl l).bs=w.bs:=rfl
@[simp] theorem WS.ayD:(w.sl l).now=w.now:=rfl
@[simp] theorem WS.aAd:(w.sl l).ln=l:=rfl
theorem WS.Qv:(w.st x n k).sl w.ln=w.st x n k:=rfl
theorem ae7 {n:Nat}:oZ 1 (WH w B) (.ptr 1 4) (.int .i64 (n:Int))=some (WH (w.sl n) B):=(rfl)
end
theorem GT.still (t:GT) (m:Nat) (h:kL):mW m h t.cells=some t.cells:=by simp [GT.cells]
theorem JC {t:GT}{C:List lH}(h:Still C):Still (.cells t.cells::C):=fun m y=>by simp [t.still m y,h m y]
theorem GS.still (x:GS) (m:Nat) (h:kL):mW m h x.cells=some x.cells:=by cases x; simp [GS.cells]
theorem zP {x:GS}{C:List lH}(h:Still C):Still (.cells x.cells::C):=fun m y=>by simp [x.still m y,h m y]
@[simp] theorem GS.QG (x:GS):x.cells.map kH.sP=x.cells:=by cases x; simp [GS.cells]
@[simp] theorem GS.ayI (x:GS):x.cells.take 11=x.cells:=by cases x; rfl
theorem GS.tok (x:GS) {k:Nat}:lC k x.cells=(x.cells,[]):=sS (by cases x; simp [GS.cells,kH.isNil])
theorem GS.NK (x:GS):x.cells.all kH.lY=true:=by cases x; simp [GS.cells,kH.lY]
section
variable {w:WS}{B C:List lH}{cs:List kH}
theorem FE {t:GT}:lO 3 (WH w B) (.agg t.cells)=some (.ptr (B.length+3) 0,WH w (B++[.cells t.cells])):=by
 simp [lO,GT.cells,lC,mR,oH]
theorem EI {x:GS}:lO 11 (WH w B) (.agg x.cells)=some (.ptr (B.length+3) 0,WH w (B++[.cells x.cells])):=by
 simp [lO,x.tok,x.NK,mR,oH]
theorem agA:lO 11 (WH w B) (.agg [.int .i64 0,.int .i64 0,.int .i64 0,.str [],.int .i64 0,.int .i64 0,.int .i64 0,.slice [] .nil,.slice [] .nil,.slice [] .nil,.bool false]) =
  some (.ptr (B.length+3) 0,WH w (B++[.cells [.int .i64 0,.int .i64 0,.int .i64 0,.str [],.int .i64 0,.int .i64 0,.int .i64 0,.slice [] (.own (B.length+4)),.slice [] (.own (B.length+5)),.slice [] (.own (B.length+6)),.bool false],.front 0 0,.front 0 0,.front 0 0])):=by
 simp [lO,lC,mR,oH]
theorem ayE {x:GS}(hc:cs.length=11):oZ 11 (WH w (B++.cells cs::C)) (.ptr (B.length+3) 0) (.agg x.cells)=some (WH w (B++.cells x.cells::C)):=by
 have e:=PD (w:=w) (B:=B) (C:=C) (cs:=cs)
 have hk:∀os,o0 (WH w (B++.cells cs::C)) os x.cells=x.cells:=fun os=>qB (by cases x; simp [GS.cells,kH.isNil])
 simp only [oZ,Ac,e,B1,nR,ae3,Dn,GS.p_,hc]
 rw [if_pos ⟨trivial,by omega,x.NK⟩,hk]
 have:putCells cs 0 x.cells=x.cells:=by simp [putCells,hc]
 rw [this,Xk]
theorem aw5 {x:GS}{h:kL}:lS true 11 h (.pptr x.cells)=some (.agg x.cells):=by simp [lS]
theorem trC {C D:List lH}(hB:Still B) (hC:Still C) {n:Nat}(hn:C.length=n):l_ (B.length+n+3) (WH w (B++(C++D)))=some (WH w (B++C)):=by
 have:=nM (w:=w) (B:=B++C) (C:=D) (oG hB hC)
 rw [aa6,hn,al8] at this
 exact this
end
theorem WJ {n:Int}:0 < (uC n).length:=by
 unfold uC
 obtain⟨c,r,h⟩:=Q9 n.toNat
 rw [h]; simp
theorem c70 {w:WS}{B:List lH}(t:GT) (ht:tU t=true) (hB:Still B) (hb:w.bs.length+(wA t).length≤140737488355328) :
  KK 70 [.ptr 1 0,.agg t.cells] (WH w B)=some (.ret (.tuple []),WH (w.st (wA t) 0 0) B):=by
 have hlen:0≤t.len∧t.len≤4294967295:=by
  simp only [tU,ad0] at ht
  exact tR.1 ht.1.2
 refine lA (ajS _ _ _ _) ?_
 have s1:Still (B++[.cells t.cells]):=oG hB (JC nL)
 have s2:∀n s,Still (B++[.cells t.cells,.front n s]):=fun n s=>oG hB (JC (mE nL))
 have htr:=fun w C=>nM (w:=w) (C:=C) hB
 have htr2:∀w D,l_ (B.length+1+3) (WH w (B++.cells t.cells::D))=some (WH w (B++[.cells t.cells])):=fun w D=>trC (C:=[.cells t.cells]) hB (JC nL) rfl
 have q1:∀h o,kH.mT (B.length+1+3) h (.ptr (B.length+3) o)=.ptr (B.length+3) o:=fun h o=>wO (by omega)
 have q2:∀h o,kH.mT (B.length+1+3) h (.ptr 1 o)=.ptr 1 o:=fun h o=>wO (by omega)
 have g0:∀h:0 < t.cells.length,t.cells[0]'h=.int .i64 t.elem:=fun _=>rfl
 have g1:∀h:1 < t.cells.length,t.cells[1]'h=.int .i64 t.len:=fun _=>rfl
 have gl:t.cells.length=3:=rfl
 have e0:=c89 t.len hlen.1 (by omega)
 have nl:=BK (n:=t.len) (by omega)
 have np:=WJ (n:=t.len)
 obtain⟨a,ha⟩:∃a,a=(if t.elem=1 then [109,97,115,107] else if t.elem=2 then [117,56] else [117,51,50]:List UInt8):=⟨_,rfl⟩
 have kt:wA t=a++(if 0 < t.len then 91::(uC t.len++[93]) else []):=by rw [ha]; rfl
 rw [kt] at hb ⊢
 simp only [aa6] at hb
 have e1:=P1 (w:=w) (x:=a) (s2 1 1) (by omega)
 have fin2:0 < t.len→KK 68 [.ptr 1 0,.slice [pZ [91],pZ (uC t.len),pZ [93]] .no] (WH (w.st a 0 0) (B++[.cells t.cells,.front 3 1]))=some (.ret (.tuple []),WH (w.st (a++91::(uC t.len++[93])) 0 0) (B++[.cells t.cells,.front 3 1])):=by
  intro hp
  rw [if_pos hp] at hb
  simp only [ab0,aa6,ab3] at hb
  have:=P3 (w:=w.st a 0 0) (x:=[91]) (y:=uC t.len) (z:=[93]) (s2 3 1) (by simp; omega)
  simpa using this
 by_cases h1:t.elem=1
 ·rw [if_pos h1] at ha
  subst ha
  by_cases hp:0 < t.len
  ·simp -implicitDefEqProofs [m70,FE,g0,g1,gl,h1,hp,t_,Aw,oH,mR,e0,e1,fin2 hp,kW,htr2,q1,q2,lZ,htr]
  ·simp -implicitDefEqProofs [m70,FE,g0,g1,gl,h1,hp,t_,Aw,oH,mR,e0,e1,kW,htr2,q1,q2,lZ,htr]
 ·rw [if_neg h1] at ha
  by_cases h2:t.elem=2
  ·rw [if_pos h2] at ha
   subst ha
   by_cases hp:0 < t.len
   ·simp -implicitDefEqProofs [m70,FE,g0,g1,gl,h1,h2,hp,t_,Aw,oH,mR,e0,e1,fin2 hp,kW,htr2,q1,q2,lZ,htr]
   ·simp -implicitDefEqProofs [m70,FE,g0,g1,gl,h1,h2,hp,t_,Aw,oH,mR,e0,e1,kW,htr2,q1,q2,lZ,htr]
  ·rw [if_neg h2] at ha
   subst ha
   by_cases hp:0 < t.len
   ·simp -implicitDefEqProofs [m70,FE,g0,g1,gl,h1,h2,hp,t_,Aw,oH,mR,e0,e1,fin2 hp,kW,htr2,q1,q2,lZ,htr]
   ·simp -implicitDefEqProofs [m70,FE,g0,g1,gl,h1,h2,hp,t_,Aw,oH,mR,e0,e1,kW,htr2,q1,q2,lZ,htr]
def Uq (s:GS):Prop:=∀(w:WS) (B:List lH),Still B→w.bs.length+(pL w.ln s).length≤1099511627776→w.now+qK s≤1000000000000000 →
 KK 126 [.ptr 1 0,.agg s.cells] (WH w B)=some (.ret (.tuple []),WH (w.st (pL w.ln s) (qK s) 0) B)
def XL (l:List GS):Prop:=∀(w:WS) (B:List lH),Still B→w.bs.length+(oT w.ln (nT (w.ln+1) l)).length≤1099511627776→w.now+(qU (oO l)+1)≤1000000000000000 →
 KK 71 [.ptr 1 0,.slice (l.map GS.cells) .no] (WH w B)=some (.ret (.tuple []),WH (w.st (oT w.ln (nT (w.ln+1) l)) (qU (oO l)+1) 0) B)
def IZ (n:Nat) (t:List UInt8):List UInt8:=p9 n++t++[10]
def uO (n:Nat) (l:List GS) (i:Nat):List UInt8:=(((l.take i).map (pL n)).map (IZ n)).flatten
def xT (l:List GS) (i:Nat):Nat:=qU ((l.take i).map qK)
theorem F3:∀(l:List Nat) (p:Nat),qU (l++[p])=max (qU l) p
 | [],p=>by simp [qU]
 | q::l,p=>by simp only [ae8,qU,F3 l p]; omega
theorem I_:∀(a b:List Nat),qU a≤qU (a++b)
 | [],_=>by simp [qU]
 | p::a,b=>by simp only [qU,ae8]; have:=I_ a b; omega
theorem KL {n:Nat}{l:List GS}{i:Nat}{x:GS}(h:l[i]?=some x):uO n l (i+1)=uO n l i++(p9 n++(pL n x++[10])):=by
 simp [uO,rS h,IZ]
theorem KJ {l:List GS}{i:Nat}{x:GS}(h:l[i]?=some x):xT l (i+1)=max (xT l i) (qK x):=by
 simp [xT,rS h,F3]
theorem Q4 (n:Nat) (l:List GS) (i:Nat):(uO n l i).length≤(uO n l l.length).length:=by
 have:uO n l l.length=uO n l i++(((l.drop i).map (pL n)).map (IZ n)).flatten:=by
  unfold uO
  rw [←List.flatten_append,←al9,←al9,List.take_append_drop,List.take_length]
 rw [this]; simp
theorem Y0 (l:List GS) (i:Nat):xT l i≤xT l l.length:=by
 have:xT l l.length=qU ((l.take i).map qK++(l.drop i).map qK):=by
  unfold xT
  rw [←al9,List.take_append_drop,List.take_length]
 rw [this]
 exact I_ _ _
theorem FH (n:Nat) (l:List GS):oT n (nT (n+1) l)=32::123::10::(uO (n+1) l l.length++(p9 n++[125])):=by
 unfold oT uO
 have e:(fun t=>p9 (n+1)++t++[10])=IZ (n+1):=rfl
 rw [Lk,List.take_length,e]
 simp
theorem My (l:List GS):qU (oO l)=xT l l.length:=by rw [K9]; simp [xT]
@[simp] theorem rK {n:Nat}:(p9 n).length=n:=by simp [p9]
theorem Ww {w:WS}{B:List lH}(l:List GS) (hok:∀x∈l,Uq x) (n:Nat) (hB:Still B) (W:List UInt8) (hl:l.length≤4611686018427387904)
  (hb:w.bs.length+(W.length+(uO (n+1) l l.length).length)≤1099511627776) (hn:w.now+(xT l l.length+1)≤1000000000000000):∀i,i≤l.length →
  mL (Mv KK (B.length+3)) ([.ptr 1 0,.slice (l.map GS.cells) .no,.int .i64 (l.length:Int),.int .i64 (i:Int)],WH ((w.st (W++uO (n+1) l i) (max 1 (nn 1 (xT l i))) 1).sl (n+1)) B) =
   some (.exit 0,[.ptr 1 0,.slice (l.map GS.cells) .no,.int .i64 (l.length:Int),.int .i64 (l.length:Int)],WH ((w.st (W++uO (n+1) l l.length) (max 1 (nn 1 (xT l l.length))) 1).sl (n+1)) B):=by
 refine rU (fun i:Nat=>([.ptr 1 0,.slice (l.map GS.cells) .no,.int .i64 (l.length:Int),.int .i64 (i:Int)],WH ((w.st (W++uO (n+1) l i) (max 1 (nn 1 (xT l i))) 1).sl (n+1)) B)) (fun i=>i≤l.length) (fun i=>l.length - i) _ fun i hi=>?_
 have htr:=fun w C=>nM (w:=w) (C:=C) hB
 by_cases h:i < l.length
 ·left
  refine⟨i+1,?_,h,by omega,rfl⟩
  obtain⟨x,hx⟩:∃x,l[i]?=some x:=⟨l[i],ab8 h⟩
  have hxe:=hok x (ad2 hx)
  have hxi:∀hh:i < l.length,l[i]'hh=x:=fun hh=>by rw [ab8 hh] at hx; exact Option.some.inj hx
  have t1:=KL (n:=n+1) hx
  have t2:=KJ hx
  have t3:=Q4 (n+1) l (i+1)
  have t4:=Y0 l (i+1)
  rw [t1] at t3
  rw [t2] at t4
  simp only [aa6,ab0,ab3,rK] at t3
  have w1:=qT (a:=i) (by omega)
  have s2:Still (B++[.cells x.cells,.front 0 0,.front 0 0,.front 0 0]):=oG hB (zP (mE (mE (mE nL))))
  have s4:Still (B++[.cells x.cells,.front 0 0,.front 0 0,.front 0 0,.front 1 1]):=oG hB (zP (mE (mE (mE (mE nL)))))
  have hst:=fun w C cs (hc:aa7 cs=11)=>ayE (w:=w) (B:=B) (C:=C) (x:=x) hc
  have e1:=aoS (w:=(w.st (W++uO (n+1) l i) (max 1 (nn 1 (xT l i))) 1).sl (n+1)) s2 (by simp; omega) (by simp; omega)
  have e2:=hxe ((w.st (W++(uO (n+1) l i++p9 (n+1))) (max 1 (nn 1 (xT l i))) 1).sl (n+1)) _ s2 (by simp; omega) (by simp; omega)
  have e3:=P1 (w:=(w.st (W++(uO (n+1) l i++(p9 (n+1)++pL (n+1) x))) (max (max 1 (nn 1 (xT l i))) (nn 1 (qK x))) 1).sl (n+1)) (x:=[10]) s4 (by simp; omega)
  simp -implicitDefEqProofs at e1 e2 e3
  simp -implicitDefEqProofs [Mv,h,hxi,aw5,agA,hst,kW,htr,mR,t_,oH,e1,e2,e3,w1,w6,-ad5]
  refine congrArg (fun w=>WH w B) (congrArg (fun w=>WS.sl w (n+1)) (WS.zZ (by rw [t1]) ?_ rfl))
  rw [t2]
  unfold nn
  split <;> split <;> split <;> omega
 ·right
  have:i=l.length:=by omega
  subst this
  constructor
  ·simp -implicitDefEqProofs [Mv,kW,rI hB,w6]
  ·simp
theorem c71 (l:List GS) (hok:∀x∈l,Uq x):XL l:=by
 intro w B hB hb hn
 rw [FH] at hb ⊢
 rw [My] at hn ⊢
 simp only [aa6,ab0,ab3,rK] at hb
 have hl:l.length≤4611686018427387904:=by
  have key:∀(n:Nat) (l:List GS),l.length≤(uO n l l.length).length:=by
   intro n l
   unfold uO
   rw [List.take_length]
   induction l with
   | nil=>simp
   | cons x r ih=>simp only [af7,List.flatten_cons,aa6,ab0,IZ,ab3] at ih ⊢; omega
  have:=key (w.ln+1) l
  omega
 refine lA (ajT _ _ _ _) ?_
 have s1:=OQ (n:=1) (s:=1) hB
 have s2:Still (B++[.front 1 1,.front 1 1]):=oG hB (mE (mE nL))
 have htr:=fun w C=>nM (w:=w) (C:=C) hB
 have e1:=P1 (w:=w) (x:=[32,123,10]) s1 (by simp; omega)
 have e2:=c85 (w:=w.st [32,123,10] 0 0) s1 (by simp; omega)
 have w1:=qT (a:=w.ln) (by omega)
 have e3:=ae7 (w:=w.st [32,123,10] 1 1) (B:=B++[.front 1 1]) (n:=w.ln+1)
 have e4:=Ww (w:=w) l hok w.ln s1 [32,123,10] hl (by simp; omega) hn 0 (al7 _)
 have w2:IntKind.wrap .i64 (((w.ln+1:Nat):Int) - 1)=(w.ln:Int):=by rw [wrap64] <;> omega
 have e5:=ae7 (w:=(w.st ([32,123,10]++uO (w.ln+1) l l.length) (max 1 (nn 1 (xT l l.length))) 1).sl (w.ln+1)) (B:=B++[.front 1 1]) (n:=w.ln)
 have e6:=aoS (w:=w.st ([32,123,10]++uO (w.ln+1) l l.length) (max 1 (nn 1 (xT l l.length))) 1) s1 (by simp; omega) (by simp; omega)
 have e7:=c86 (w:=w.st ([32,123,10]++(uO (w.ln+1) l l.length++p9 w.ln)) (max 1 (nn 1 (xT l l.length))) 1) s1 (by simp; omega) (by simp)
 have e8:=P1 (w:=w.st ([32,123,10]++(uO (w.ln+1) l l.length++p9 w.ln)) (max 1 (nn 1 (xT l l.length))) 0) (x:=[125]) s2 (by simp; omega)
 have t0:uO (w.ln+1) l 0=[]:=rfl
 have n0:xT l 0=0:=rfl
 simp -implicitDefEqProofs [t0,n0,WS.Qv,-ad5] at e2 e3 e4 e5 e6 e7 e8
 simp -implicitDefEqProofs [m71,t_,oH,e1,e2,w1,e3,e4,w2,e5,e6,e7,e8,mR,lZ,htr,-ad5]
 refine congrArg (fun w=>WH w B) (WS.zZ rfl ?_ rfl)
 unfold nn
 split <;> omega
end
section
open Go Hk
def GS.kind:GS→Int | .mk k _ _ _ _ _ _ _ _=>k
def GS.qZ:GS→Int | .mk _ _ m _ _ _ _ _ _=>m
def GS.name:GS→List UInt8 | .mk _ _ _ n _ _ _ _ _=>n
def GS.ty:GS→GT | .mk _ _ _ _ t _ _ _ _=>t
def GS.args:GS→List GE | .mk _ _ _ _ _ a _ _ _=>a
def GS.body:GS→List GS | .mk _ _ _ _ _ _ b _ _=>b
def GS.els:GS→List GS | .mk _ _ _ _ _ _ _ e _=>e
def GS.has:GS→Bool | .mk _ _ _ _ _ _ _ _ h=>h
theorem pV (n:Nat) (x:GS):pL n x=RX x.kind x.qZ x.name x.ty (x.args.map lX) (oT n (nT (n+1) x.body)) (oT n (nT (n+1) x.els)) x.has:=by cases x; simp only [pL]; rfl
theorem pS (x:GS):qK x=RW x.kind (x.args.map l9) (qU (oO x.body)+1) (qU (oO x.els)+1) x.has:=by cases x; simp only [qK]; rfl
section
variable (x:GS)
@[simp] theorem GS.g0 {h:0 < x.cells.length}:x.cells[0]'h=.int .i64 x.kind:=by cases x; rfl
@[simp] theorem GS.g2 {h:2 < x.cells.length}:x.cells[2]'h=.int .i64 x.qZ:=by cases x; rfl
@[simp] theorem GS.g3 {h:3 < x.cells.length}:x.cells[3]'h=.str x.name:=by cases x; rfl
@[simp] theorem GS.g6 {h:6 < x.cells.length}:x.cells[6]'h=.int .i64 x.ty.label:=by cases x; rfl
@[simp] theorem GS.g7 {h:7 < x.cells.length}:x.cells[7]'h=.slice (x.args.map GE.cells) .no:=by cases x; rfl
@[simp] theorem GS.g8 {h:8 < x.cells.length}:x.cells[8]'h=.slice (x.body.map GS.cells) .no:=by cases x; simp [GS.cells,GS.body,GS.oK]
@[simp] theorem GS.g9 {h:9 < x.cells.length}:x.cells[9]'h=.slice (x.els.map GS.cells) .no:=by cases x; simp [GS.cells,GS.els,GS.oK]
@[simp] theorem GS.g10 {h:10 < x.cells.length}:x.cells[10]'h=.bool x.has:=by cases x; rfl
@[simp] theorem GS.gty:(x.cells.drop 4).take 3=x.ty.cells:=by cases x; rfl
@[simp] theorem GT.QG (t:GT):t.cells.map kH.sP=t.cells:=rfl
end
theorem QN {x:GS}{a:GE}{l:List GE}(h:x.args=a::l):k9 5 (.slice (x.args.map GE.cells) .no) (.int .i64 0)=some (.pptr a.cells):=by rw [h]; exact ZH
theorem xi1 {x:GS}{a b:GE}{l:List GE}(h:x.args=a::b::l):k9 5 (.slice (x.args.map GE.cells) .no) (.int .i64 1)=some (.pptr b.cells):=by rw [h]; exact ix1
@[simp] theorem auI {m:Nat}:nn 0 m=m:=by unfold nn; split <;> omega
theorem w00:IntKind.wrap .i64 0=0:=by decide
theorem w01:IntKind.wrap .i64 1=1:=by decide
section
variable {w:WS}{B:List lH}{x:GS}
theorem sS1 (hB:Still B):Still (B++[.cells x.cells]):=oG hB (zP nL)
theorem M4 {n s:Nat}(hB:Still B):Still (B++[.cells x.cells,.front n s]):=oG hB (zP (mE nL))
theorem sS3 {n s n' s':Nat}(hB:Still B):Still (B++[.cells x.cells,.front n s,.front n' s']):=oG hB (zP (mE (mE nL)))
theorem sS4 {n s n' s' n2 s2:Nat}(hB:Still B):Still (B++[.cells x.cells,.front n s,.front n' s',.front n2 s2]):=oG hB (zP (mE (mE (mE nL))))
theorem trS (hB:Still B) (w:WS) (D:List lH):l_ (B.length+1+3) (WH w (B++.cells x.cells::D))=some (WH w (B++[.cells x.cells])):=trC (C:=[.cells x.cells]) hB (zP nL) rfl
theorem qS1 {h:kL}{o:Nat}:kH.mT (B.length+1+3) h (.ptr (B.length+3) o)=.ptr (B.length+3) o:=wO (by omega)
theorem qS2 {h:kL}{o:Nat}:kH.mT (B.length+1+3) h (.ptr 1 o)=.ptr 1 o:=wO (by omega)
end
theorem alM {x:GS}{a:GE}(hk:x.kind=1) (hx:x.args=[a]) (ha:nZ a=true):Uq x:=by
 intro w B hB hb hn
 have t1:pL w.ln x=[108,101,116,32]++x.name++[32,61,32]++lX a++[59]:=by rw [pV,hk,hx]; rfl
 have t2:qK x=l9 a:=by rw [pS,hk,hx]; rfl
 rw [t1] at hb
 rw [t2] at hn
 rw [t1,t2]
 simp only [aa6,ab0,ab3] at hb
 refine lA (A5 _ _ _ _) ?_
 have htr:=fun w C=>nM (w:=w) (C:=C) hB
 have e1:=P3 (w:=w) (x:=[108,101,116,32]) (y:=x.name) (z:=[32,61,32]) (M4 (x:=x) (n:=3) (s:=1) hB) (by simp; omega)
 have e2:=XZ a ha (w.st ([108,101,116,32]++(x.name++[32,61,32])) 0 0) _ (sS1 (x:=x) hB) (by simp; omega) (by simp; omega)
 have e3:=P1 (w:=w.st ([108,101,116,32]++(x.name++([32,61,32]++lX a))) (l9 a) 0) (x:=[59]) (M4 (x:=x) (n:=1) (s:=1) hB) (by simp; omega)
 have i0:=QN hx
 have hl:x.args.length=1:=by rw [hx]; rfl
 simp -implicitDefEqProofs at e1 e2 e3
 simp -implicitDefEqProofs [Ki,EI,hk,t_,Aw,oH,mR,e1,e2,e3,kW,trS hB,qS1,qS2,i0,hl,w00,PX,lZ,htr]
theorem alO {x:GS}{a:GE}(hk:x.kind=3) (hx:x.args=[a]) (ha:nZ a=true):Uq x:=by
 intro w B hB hb hn
 have t1:pL w.ln x=x.name++[32,61,32]++lX a++[59]:=by rw [pV,hk,hx]; rfl
 have t2:qK x=l9 a:=by rw [pS,hk,hx]; rfl
 rw [t1] at hb
 rw [t2] at hn
 rw [t1,t2]
 simp only [aa6,ab0,ab3] at hb
 refine lA (A5 _ _ _ _) ?_
 have htr:=fun w C=>nM (w:=w) (C:=C) hB
 have e1:=P2 (w:=w) (x:=x.name) (y:=[32,61,32]) (M4 (x:=x) (n:=2) (s:=1) hB) (by simp; omega)
 have e2:=XZ a ha (w.st (x.name++[32,61,32]) 0 0) _ (sS1 (x:=x) hB) (by simp; omega) (by simp; omega)
 have e3:=P1 (w:=w.st (x.name++([32,61,32]++lX a)) (l9 a) 0) (x:=[59]) (M4 (x:=x) (n:=1) (s:=1) hB) (by simp; omega)
 have i0:=QN hx
 have hl:x.args.length=1:=by rw [hx]; rfl
 simp -implicitDefEqProofs at e1 e2 e3
 simp -implicitDefEqProofs [Ki,EI,hk,t_,EK,oH,mR,e1,e2,e3,kW,trS hB,qS1,qS2,i0,hl,w00,PX,lZ,htr]
theorem alN {x:GS}{a:GE}(hk:x.kind=8) (hx:x.args=[a]) (ha:nZ a=true):Uq x:=by
 intro w B hB hb hn
 have t1:pL w.ln x=[114,101,116,117,114,110,32]++lX a++[59]:=by rw [pV,hk,hx]; rfl
 have t2:qK x=l9 a:=by rw [pS,hk,hx]; rfl
 rw [t1] at hb
 rw [t2] at hn
 rw [t1,t2]
 simp only [aa6,ab0,ab3] at hb
 refine lA (A5 _ _ _ _) ?_
 have htr:=fun w C=>nM (w:=w) (C:=C) hB
 have e1:=P1 (w:=w) (x:=[114,101,116,117,114,110,32]) (M4 (x:=x) (n:=1) (s:=1) hB) (by simp; omega)
 have e2:=XZ a ha (w.st [114,101,116,117,114,110,32] 0 0) _ (sS1 (x:=x) hB) (by simp; omega) (by simp; omega)
 have e3:=P1 (w:=w.st ([114,101,116,117,114,110,32]++lX a) (l9 a) 0) (x:=[59]) (M4 (x:=x) (n:=1) (s:=1) hB) (by simp; omega)
 have i0:=QN hx
 have hl:x.args.length=1:=by rw [hx]; rfl
 simp -implicitDefEqProofs at e1 e2 e3
 simp -implicitDefEqProofs [Ki,EI,hk,t_,oH,mR,e1,e2,e3,kW,trS hB,qS1,qS2,i0,hl,w00,PX,lZ,htr]
theorem acP {x:GS}{a:GE}(hk:x.kind=7) (hx:x.args=[a]) (ha:nZ a=true):Uq x:=by
 intro w B hB hb hn
 have t1:pL w.ln x=lX a++[59]:=by rw [pV,hk,hx]; rfl
 have t2:qK x=l9 a:=by rw [pS,hk,hx]; rfl
 rw [t1] at hb
 rw [t2] at hn
 rw [t1,t2]
 simp only [aa6,ab0,ab3] at hb
 refine lA (A5 _ _ _ _) ?_
 have htr:=fun w C=>nM (w:=w) (C:=C) hB
 have e2:=XZ a ha w _ (sS1 (x:=x) hB) (by omega) (by omega)
 have e3:=P1 (w:=w.st (lX a) (l9 a) 0) (x:=[59]) (M4 (x:=x) (n:=1) (s:=1) hB) (by simp; omega)
 have i0:=QN hx
 have hl:x.args.length=1:=by rw [hx]; rfl
 simp -implicitDefEqProofs at e2 e3
 simp -implicitDefEqProofs [Ki,EI,hk,t_,oH,mR,e2,e3,kW,trS hB,qS1,qS2,i0,hl,w00,PX,lZ,htr]
theorem Xv {x:GS}{a b:GE}(hk:x.kind=4) (hx:x.args=[a,b]) (ha:nZ a=true) (hb':nZ b=true) (hnm:rP x.name=true):Uq x:=by
 intro w B hB hb hn
 have t1:pL w.ln x=x.name++91::(lX a++[93])++[32,61,32]++lX b++[59]:=by rw [pV,hk,hx]; rfl
 have t2:qK x=max (l9 a+1) (l9 b):=by rw [pS,hk,hx]; rfl
 rw [t1] at hb
 rw [t2] at hn
 rw [t1,t2]
 simp only [aa6,ab0,ab3] at hb
 refine lA (A5 _ _ _ _) ?_
 have htr:=fun w C=>nM (w:=w) (C:=C) hB
 have hwe:nZ (.mk 3 0 0 x.name [a])=true:=by simp [nZ,oB,zX,xH,lG,kZ,hnm,ha]
 have hce:(GE.mk 3 0 0 x.name [a]).cells=[.int .i64 3,.int .i64 0,.int .i64 0,.str x.name,.slice [a.cells] .no]:=by simp [GE.cells,GE.rows]
 have hte:lX (.mk 3 0 0 x.name [a])=x.name++91::(lX a++[93]):=by rw [rG]; rfl
 have hne:l9 (.mk 3 0 0 x.name [a])=l9 a+1:=by rw [rF]; rfl
 have e1:=XZ _ hwe w _ (sS1 (x:=x) hB) (by rw [hte]; simp only [aa6,ab0,ab3]; omega) (by rw [hne]; omega)
 rw [hce,hte,hne] at e1
 have e2:=P1 (w:=w.st (x.name++91::(lX a++[93])) (l9 a+1) 0) (x:=[32,61,32]) (M4 (x:=x) (n:=1) (s:=1) hB) (by simp; omega)
 have e3:=XZ b hb' (w.st (x.name++91::(lX a++([93]++[32,61,32]))) (l9 a+1) 0) _ (sS1 (x:=x) hB) (by simp; omega) (by simp; omega)
 have e4:=P1 (w:=w.st (x.name++91::(lX a++([93]++([32,61,32]++lX b)))) (max (l9 a+1) (nn 0 (l9 b))) 0) (x:=[59]) (M4 (x:=x) (n:=1) (s:=1) hB) (by simp; omega)
 have i1:=xi1 hx
 have hl:x.args.length=2:=by rw [hx]; rfl
 have hsl:sY 5 (.slice (x.args.map GE.cells) .no) none (some (.int .i64 1))=some (.slice [a.cells] .no):=by
  rw [EJ (l:=0) (u:=1) (fun y=>y.p_) rfl rfl (by omega) (by omega),hx]; rfl
 have hab:lR [.int .i64 0,.int .i64 0,.int .i64 0,.str [],.slice [] .nil] [(0,1),(1,1),(2,1),(3,1),(4,1)] [(0,.int .i64 3),(3,.str x.name),(4,.slice [a.cells] .no)]=some (.agg [.int .i64 3,.int .i64 0,.int .i64 0,.str x.name,.slice [a.cells] .no]):=rfl
 simp -implicitDefEqProofs at e1 e2 e3 e4
 simp -implicitDefEqProofs [Ki,EI,hk,t_,oH,mR,hsl,hab,e1,e2,e3,e4,kW,trS hB,qS1,qS2,i1,hl,w01,PX,lZ,htr]
theorem alP {x:GS}(hk:x.kind=2) (ht:tU x.ty=true):Uq x:=by
 intro w B hB hb hn
 have t1:pL w.ln x=[118,97,114,32]++oN x.ty.label++x.name++[58,32]++wA x.ty++[59]:=by rw [pV,hk]; rfl
 have t2:qK x=0:=by rw [pS,hk]; rfl
 rw [t1] at hb
 rw [t2] at hn
 rw [t1,t2]
 have ll:(oN x.ty.label).length=4:=by unfold oN; split <;> rfl
 simp only [aa6,ab0,ab3,ll] at hb
 refine lA (A5 _ _ _ _) ?_
 have htr:=fun w C=>nM (w:=w) (C:=C) hB
 have e1:=P1 (w:=w) (x:=[118,97,114,32]) (M4 (x:=x) (n:=1) (s:=1) hB) (by simp; omega)
 have e2:=c69 (w:=w.st [118,97,114,32] 0 0) x.ty.label (M4 (x:=x) (n:=1) (s:=1) hB) (by simp; omega)
 have e3:=P2 (w:=w.st ([118,97,114,32]++oN x.ty.label) 0 0) (x:=x.name) (y:=[58,32]) (sS3 (x:=x) (n:=1) (s:=1) (n':=2) (s':=1) hB) (by simp; omega)
 have e4:=c70 (w:=w.st ([118,97,114,32]++(oN x.ty.label++(x.name++[58,32]))) 0 0) x.ty ht (sS3 (x:=x) (n:=1) (s:=1) (n':=2) (s':=1) hB) (by simp; omega)
 have e5:=P1 (w:=w.st ([118,97,114,32]++(oN x.ty.label++(x.name++([58,32]++wA x.ty)))) 0 0) (x:=[59]) (sS4 (x:=x) (n:=1) (s:=1) (n':=2) (s':=1) (n2:=1) (s2:=1) hB) (by simp; omega)
 simp -implicitDefEqProofs at e1 e2 e3 e4 e5
 simp -implicitDefEqProofs [Ki,EI,hk,t_,EK,oH,mR,e1,e2,e3,e4,e5,kW,trS hB,qS1,qS2,lZ,htr]
end
section
open Go Hk
section
variable {w:WS}{B:List lH}{x:GS}
theorem asJ (hB:Still B) (w:WS) (D:List lH):l_ (B.length+2+3) (WH w (B++.cells x.cells::.front 1 1::D))=some (WH w (B++[.cells x.cells,.front 1 1])) :=
 trC (C:=[.cells x.cells,.front 1 1]) hB (zP (mE nL)) rfl
theorem qS3 {h:kL}{o:Nat}:kH.mT (B.length+2+3) h (.ptr (B.length+3) o)=.ptr (B.length+3) o:=wO (by omega)
theorem qS4 {h:kL}{o:Nat}:kH.mT (B.length+2+3) h (.ptr 1 o)=.ptr 1 o:=wO (by omega)
end
theorem asB {x:GS}{a:GE}(hk:x.kind=5) (hx:x.args=[a]) (ha:nZ a=true) (hb1:XL x.body) (hb2:XL x.els):Uq x:=by
 intro w B hB hb hn
 have t1:pL w.ln x=[105,102,32]++lX a++oT w.ln (nT (w.ln+1) x.body)++(if x.has then [32,101,108,115,101]++oT w.ln (nT (w.ln+1) x.els) else []):=by rw [pV,hk,hx]; rfl
 have t2:qK x=if x.has then max (l9 a) (max (qU (oO x.body)+1) (qU (oO x.els)+1)) else max (l9 a) (qU (oO x.body)+1):=by rw [pS,hk,hx]; rfl
 rw [t1] at hb
 rw [t2] at hn
 rw [t1,t2]
 have f1:=hb1
 have f2:=hb2
 unfold XL at f1 f2
 simp only [aa6,ab0,ab3] at hb
 refine lA (A5 _ _ _ _) ?_
 have htr:=fun w C=>nM (w:=w) (C:=C) hB
 have i0:=QN hx
 have e1:=P1 (w:=w) (x:=[105,102,32]) (M4 (x:=x) (n:=1) (s:=1) hB) (by simp; omega)
 cases hh:x.has with
 | false =>
  rw [hh] at hb hn
  simp only [ac1,if_false,ab3] at hb hn ⊢
  have e2:=XZ a ha (w.st [105,102,32] 0 0) _ (M4 (x:=x) (n:=1) (s:=1) hB) (by simp; omega) (by simp; omega)
  have e3:=f1 (w.st ([105,102,32]++lX a) (l9 a) 0) _ (M4 (x:=x) (n:=1) (s:=1) hB) (by simp; omega) (by simp; omega)
  simp -implicitDefEqProofs at e1 e2 e3
  simp -implicitDefEqProofs [Ki,EI,hk,t_,Aw,oH,mR,hh,e1,e2,e3,kW,trS hB,asJ hB,qS1,qS2,qS3,qS4,i0,PX,lZ,htr]
 | true =>
  rw [hh] at hb hn
  simp only [if_true,aa6,ab0,ab3] at hb hn ⊢
  have e2:=XZ a ha (w.st [105,102,32] 0 0) _ (M4 (x:=x) (n:=1) (s:=1) hB) (by simp; omega) (by simp; omega)
  have e3:=f1 (w.st ([105,102,32]++lX a) (l9 a) 0) _ (M4 (x:=x) (n:=1) (s:=1) hB) (by simp; omega) (by simp; omega)
  have e4:=P1 (w:=w.st ([105,102,32]++(lX a++oT w.ln (nT (w.ln+1) x.body))) (max (l9 a) (qU (oO x.body)+1)) 0) (x:=[32,101,108,115,101]) (sS3 (x:=x) (n:=1) (s:=1) (n':=1) (s':=1) hB) (by simp; omega)
  have e5:=f2 (w.st ([105,102,32]++(lX a++(oT w.ln (nT (w.ln+1) x.body)++[32,101,108,115,101]))) (max (l9 a) (qU (oO x.body)+1)) 0) _ (sS3 (x:=x) (n:=1) (s:=1) (n':=1) (s':=1) hB) (by simp; omega) (by simp; omega)
  simp -implicitDefEqProofs at e1 e2 e3 e4 e5
  simp -implicitDefEqProofs [Ki,EI,hk,t_,Aw,oH,mR,hh,e1,e2,e3,e4,e5,kW,trS hB,asJ hB,qS1,qS2,qS3,qS4,i0,PX,lZ,htr]
theorem alL {x:GS}{a:GE}(hk:x.kind=6) (hx:x.args=[a]) (ha:nZ a=true) (hm:0≤x.qZ∧x.qZ≤4294967295) (hb1:XL x.body):Uq x:=by
 intro w B hB hb hn
 have t1:pL w.ln x=[102,111,114,32]++x.name++[32,60,32]++lX a++[32,109,97,120,32]++uC x.qZ++oT w.ln (nT (w.ln+1) x.body):=by rw [pV,hk,hx]; rfl
 have t2:qK x=max (l9 a) (qU (oO x.body)+1):=by rw [pS,hk,hx]; rfl
 rw [t1] at hb
 rw [t2] at hn
 rw [t1,t2]
 have f1:=hb1
 unfold XL at f1
 simp only [aa6,ab0,ab3] at hb
 refine lA (A5 _ _ _ _) ?_
 have htr:=fun w C=>nM (w:=w) (C:=C) hB
 have i0:=QN hx
 have e0:=c89 x.qZ hm.1 (by omega)
 have e1:=P3 (w:=w) (x:=[102,111,114,32]) (y:=x.name) (z:=[32,60,32]) (M4 (x:=x) (n:=3) (s:=1) hB) (by simp; omega)
 have e2:=XZ a ha (w.st ([102,111,114,32]++(x.name++[32,60,32])) 0 0) _ (M4 (x:=x) (n:=3) (s:=1) hB) (by simp; omega) (by simp; omega)
 have e3:=P2 (w:=w.st ([102,111,114,32]++(x.name++([32,60,32]++lX a))) (l9 a) 0) (x:=[32,109,97,120,32]) (y:=uC x.qZ) (sS3 (x:=x) (n:=3) (s:=1) (n':=2) (s':=1) hB) (by simp; omega)
 have e4:=f1 (w.st ([102,111,114,32]++(x.name++([32,60,32]++(lX a++([32,109,97,120,32]++uC x.qZ))))) (l9 a) 0) _ (sS3 (x:=x) (n:=3) (s:=1) (n':=2) (s':=1) hB) (by simp; omega) (by simp; omega)
 simp -implicitDefEqProofs at e1 e2 e3 e4
 simp -implicitDefEqProofs [Ki,EI,hk,EK,Aw,oH,mR,e0,e1,e2,e3,e4,kW,trS hB,qS1,qS2,i0,PX,lZ,htr]
theorem LM {k:Int}(h:1≤k∧k≤8):k=1∨k=2∨k=3∨k=4∨k=5∨k=6∨k=7∨k=8:=by omega
theorem AD {k m:Int}{name:List UInt8}{ty:GT}{args:List GE}{nb ne:Nat}{has:Bool}(h:lP k m name ty args nb ne has=true):1≤k∧k≤8:=by
 unfold lP lJ at h
 split at h
 ·cases h
 ·rename_i m hm
  split at hm
  ·cases hm
  ·omega
theorem sok:∀(n:Nat) (x:GS),x.size≤n→tT x=true→Uq x:=by
 intro n
 induction n with
 | zero=>intro x hn; cases x; simp [GS.size] at hn
 | succ n ih =>
  intro x hn hw
  have hnode:lP x.kind x.qZ x.name x.ty x.args x.body.length x.els.length x.has=true:=by
   cases x
   simp only [tT,ad0] at hw
   exact hw.1.1
  have hb1:XL x.body:=c71 _ fun y hy=>by
   cases x
   simp only [tT,ad0,xS,af4] at hw
   have h1:=GS.qQ hy
   simp only [GS.size,GS.body] at hn h1 hy
   exact ih y (by omega) (hw.1.2 y hy)
  have hb2:XL x.els:=c71 _ fun y hy=>by
   cases x
   simp only [tT,ad0,xS,af4] at hw
   have h1:=GS.qQ hy
   simp only [GS.size,GS.els] at hn h1 hy
   exact ih y (by omega) (hw.2 y hy)
  have hk:=AD hnode
  unfold lP at hnode
  have one:x.args.length=1→oB x.args=true→∃a,x.args=[a]∧nZ a=true:=by
   intro h1 h2
   obtain⟨a,e⟩:=AR h1
   rw [e] at h2
   simp only [oB,Bool.and_true] at h2
   exact⟨a,e,h2⟩
  rcases LM hk with h | h | h | h | h | h | h | h <;> simp only [h] at hnode <;>
   simp [lJ,kZ,tR] at hnode
  ·obtain⟨a,e,hwa⟩:=one (by simp_all) (by simp_all)
   exact alM h e hwa
  ·exact alP h (by simp_all)
  ·obtain⟨a,e,hwa⟩:=one (by simp_all) (by simp_all)
   exact alO h e hwa
  ·obtain⟨a,b,e⟩:=uW (l:=x.args) (by simp_all)
   have h2:oB x.args=true:=by simp_all
   have h3:lG x.name true=true:=by simp_all
   rw [e] at h2
   simp only [oB,Bool.and_true,ad0] at h2
   exact Xv h e h2.1 h2.2 h3
  ·obtain⟨a,e,hwa⟩:=one (by simp_all) (by simp_all)
   exact asB h e hwa hb1 hb2
  ·obtain⟨a,e,hwa⟩:=one (by simp_all) (by simp_all)
   exact alL h e hwa (by simp_all) hb1
  ·obtain⟨a,e,hwa⟩:=one (by simp_all) (by simp_all)
   exact acP h e hwa
  ·obtain⟨a,e,hwa⟩:=one (by simp_all) (by simp_all)
   exact alN h e hwa
theorem awJ (l:List GS) (hw:pJ l=true):XL l:=c71 l fun x hx=>sok x.size x (ac8 _) (by rw [xS,af4] at hw; exact hw x hx)
end
section
open Go Hk
section
variable (x:GP)
@[simp] theorem GP.p_:x.cells.length=6:=rfl
theorem GP.still (m:Nat) (h:kL):mW m h x.cells=some x.cells:=by simp [GP.cells]
theorem JB {x:GP}{C:List lH}(h:Still C):Still (.cells x.cells::C):=fun m y=>by simp [x.still m y,h m y]
@[simp] theorem GP.g1 {h:1 < x.cells.length}:x.cells[1]'h=.str x.name:=rfl
@[simp] theorem GP.g4 {h:4 < x.cells.length}:x.cells[4]'h=.int .i64 x.ty.label:=rfl
@[simp] theorem GP.g5 {h:5 < x.cells.length}:x.cells[5]'h=.bool x.out:=rfl
@[simp] theorem GP.gty:(x.cells.drop 2).take 3=x.ty.cells:=rfl
theorem GP.NK:x.cells.all kH.lY=true:=by simp [GP.cells,kH.lY]
theorem ZO {h:kL}:lS true 6 h (.pptr x.cells)=some (.agg x.cells):=by simp [lS]; rfl
end
section
variable (x:GF)
@[simp] theorem GF.p_:x.cells.length=8:=rfl
theorem GF.still (m:Nat) (h:kL):mW m h x.cells=some x.cells:=by simp [GF.cells]
theorem Dc {x:GF}{C:List lH}(h:Still C):Still (.cells x.cells::C):=fun m y=>by simp [x.still m y,h m y]
@[simp] theorem GF.g1 {h:1 < x.cells.length}:x.cells[1]'h=.str x.name:=rfl
@[simp] theorem GF.g2 {h:2 < x.cells.length}:x.cells[2]'h=.slice (x.params.map GP.cells) .no:=rfl
@[simp] theorem GF.g3 {h:3 < x.cells.length}:x.cells[3]'h=.bool x.has:=rfl
@[simp] theorem GF.g6 {h:6 < x.cells.length}:x.cells[6]'h=.int .i64 x.result.label:=rfl
@[simp] theorem GF.g7 {h:7 < x.cells.length}:x.cells[7]'h=.slice (x.body.map GS.cells) .no:=rfl
@[simp] theorem GF.gty:(x.cells.drop 4).take 3=x.result.cells:=rfl
@[simp] theorem GF.QG:x.cells.map kH.sP=x.cells:=rfl
theorem GF.tok {k:Nat}:lC k x.cells=(x.cells,[]):=sS (by simp [GF.cells,kH.isNil])
theorem GF.NK:x.cells.all kH.lY=true:=by simp [GF.cells,kH.lY]
end
section
variable {w:WS}{B C:List lH}{cs:List kH}
theorem adI {x:GF}:lO 8 (WH w B) (.agg x.cells)=some (.ptr (B.length+3) 0,WH w (B++[.cells x.cells])):=by
 simp [lO,x.tok,x.NK,mR,oH]
theorem LF:lO 6 (WH w B) (.agg [.int .i64 0,.str [],.int .i64 0,.int .i64 0,.int .i64 0,.bool false]) =
  some (.ptr (B.length+3) 0,WH w (B++[.cells [.int .i64 0,.str [],.int .i64 0,.int .i64 0,.int .i64 0,.bool false]])):=by
 simp [lO,lC,mR,oH]
theorem stP {x:GP}(hc:cs.length=6):oZ 6 (WH w (B++.cells cs::C)) (.ptr (B.length+3) 0) (.agg x.cells)=some (WH w (B++.cells x.cells::C)):=by
 have e:=PD (w:=w) (B:=B) (C:=C) (cs:=cs)
 have hk:∀os,o0 (WH w (B++.cells cs::C)) os x.cells=x.cells:=fun os=>qB (by simp [GP.cells,kH.isNil])
 simp only [oZ,Ac,e,B1,nR,ae3,Dn,GP.p_,hc]
 rw [if_pos ⟨trivial,by omega,x.NK⟩,hk]
 have:putCells cs 0 x.cells=x.cells:=by simp [putCells,hc]
 rw [this,Xk]
end
def y2 (l:List GP) (i:Nat):List UInt8:=wH ((l.take i).map qI)
theorem Gd:∀(l:List (List UInt8)) (p:List UInt8),wH (l++[p])=wH l++(if l=[] then [] else [44,32])++p
 | [],p=>by simp [wH]
 | [q],p=>by simp [wH]
 | q::r::l,p=>by
  have:=Gd (r::l) p
  simp only [ae8,wH] at this ⊢
  rw [this]
  simp
theorem K_ {l:List GP}{i:Nat}{x:GP}(h:l[i]?=some x):y2 l (i+1)=y2 l i++(if i=0 then [] else [44,32])++qI x:=by
 have hl:i < l.length:=(aa8.1 h).1
 unfold y2
 rw [rS h,al9,af7,al1,Gd]
 congr 2
 have:((l.take i).map qI=[])=(i=0):=by
  rw [List.map_eq_nil_iff,List.take_eq_nil_iff]
  apply propext
  constructor
  ·rintro(h | h)
   ·exact h
   ·subst h; simp at hl
  ·exact .inl
 simp only [this]
theorem OJ (a:List (List UInt8)):∀(b:List (List UInt8)),(wH a).length≤(wH (a++b)).length
 | []=>by simp
 | p::b=>by
  have h1:=OJ (a++[p]) b
  rw [al8] at h1
  rw [Gd] at h1
  simp only [aa6,ae8,ah4] at h1
  omega
theorem Eo:∀(l:List (List UInt8)),l.length≤(wH l).length+1
 | []=>by simp
 | [p]=>by simp
 | p::q::r=>by
  have:=Eo (q::r)
  simp only [wH,aa6,ab0] at this ⊢
  omega
theorem RL (l:List GP) (i:Nat):(y2 l i).length≤(wH (l.map qI)).length:=by
 have:=OJ ((l.take i).map qI) ((l.drop i).map qI)
 rw [←al9,List.take_append_drop] at this
 exact this
theorem rM {n:Int}:(oN n).length=4:=by unfold oN; split <;> rfl
theorem Wi {w:WS}{B:List lH}(l:List GP) (hok:∀x∈l,tU x.ty=true) (p:Nat) (hp:p < B.length+3) (hB:Still B) (W:List UInt8) (hl:l.length≤4611686018427387904)
  (hb:w.bs.length+(W.length+(wH (l.map qI)).length)≤1099511627776):∀i,i≤l.length →
  mL (Ef KK (B.length+3)) ([.ptr 1 0,.ptr p 0,.slice (l.map GP.cells) .no,.int .i64 (l.length:Int),.int .i64 (i:Int)],WH (w.st (W++y2 l i) 0 0) B) =
   some (.exit 0,[.ptr 1 0,.ptr p 0,.slice (l.map GP.cells) .no,.int .i64 (l.length:Int),.int .i64 (l.length:Int)],WH (w.st (W++wH (l.map qI)) 0 0) B):=by
 refine rU (fun i:Nat=>([.ptr 1 0,.ptr p 0,.slice (l.map GP.cells) .no,.int .i64 (l.length:Int),.int .i64 (i:Int)],WH (w.st (W++y2 l i) 0 0) B)) (fun i=>i≤l.length) (fun i=>l.length - i) _ fun i hi=>?_
 have htr:=fun w C=>nM (w:=w) (C:=C) hB
 have q0:∀h o,kH.mT (B.length+3) h (.ptr p o)=.ptr p o:=fun h o=>wO hp
 by_cases h:i < l.length
 ·left
  refine⟨i+1,?_,h,by omega,rfl⟩
  obtain⟨x,hx⟩:∃x,l[i]?=some x:=⟨l[i],ab8 h⟩
  have hxe:=hok x (ad2 hx)
  have hxi:∀hh:i < l.length,l[i]'hh=x:=fun hh=>by rw [ab8 hh] at hx; exact Option.some.inj hx
  have t1:=K_ hx
  have t3:=RL l (i+1)
  obtain⟨pre,hpre⟩:∃pre,pre=(if i=0 then [] else [44,32]:List UInt8):=⟨_,rfl⟩
  obtain⟨ot,hot⟩:∃ot,ot=(if x.out then [111,117,116,32] else []:List UInt8):=⟨_,rfl⟩
  have tp:y2 l (i+1)=y2 l i++(pre++(ot++(oN x.ty.label++(x.name++([58,32]++wA x.ty))))):=by rw [t1,hpre,hot]; simp [qI]
  rw [tp] at t3
  simp only [aa6,ab0,ab3,rM] at t3
  have w1:=qT (a:=i) (by omega)
  have s1:Still [lH.cells x.cells]:=JB nL
  have s2:Still (B++[.cells x.cells]):=oG hB s1
  have s3:Still (B++[.cells x.cells,.front 1 1]):=oG hB (JB (mE nL))
  have s4:Still (B++[.cells x.cells,.front 2 1]):=oG hB (JB (mE nL))
  have htr2:∀w D,l_ (B.length+1+3) (WH w (B++.cells x.cells::D))=some (WH w (B++[.cells x.cells])):=fun w D=>trC (C:=[.cells x.cells]) hB s1 rfl
  have q1:∀h o,kH.mT (B.length+1+3) h (.ptr (B.length+3) o)=.ptr (B.length+3) o:=fun h o=>wO (by omega)
  have q2:∀h o,kH.mT (B.length+1+3) h (.ptr 1 o)=.ptr 1 o:=fun h o=>wO (by omega)
  have q3:∀h o,kH.mT (B.length+1+3) h (.ptr p o)=.ptr p o:=fun h o=>wO (by omega)
  have hst:=fun w C cs (hc:aa7 cs=6)=>stP (w:=w) (B:=B) (C:=C) (x:=x) hc
  have e1:=P1 (w:=w.st (W++y2 l i) 0 0) (x:=[44,32]) s3
  have e2:=P1 (w:=w.st (W++(y2 l i++pre)) 0 0) (x:=[111,117,116,32]) s3
  have e3:=c69 (w:=w.st (W++(y2 l i++(pre++ot))) 0 0) x.ty.label s2 (by simp; omega)
  have e4:=P2 (w:=w.st (W++(y2 l i++(pre++(ot++oN x.ty.label)))) 0 0) (x:=x.name) (y:=[58,32]) s4 (by simp [rM]; omega)
  have e5:=c70 (w:=w.st (W++(y2 l i++(pre++(ot++(oN x.ty.label++(x.name++[58,32])))))) 0 0) x.ty hxe s4 (by simp [rM]; omega)
  by_cases h0:i=0
  ·have hp:¬0 < i:=by omega
   rw [if_pos h0] at hpre
   subst hpre
   cases ho:x.out with
   | false =>
    rw [ho] at hot
    simp only [ac1,if_false] at hot
    subst hot
    simp -implicitDefEqProofs at e3 e4 e5
    simp -implicitDefEqProofs [Ef,h,hxi,ZO,LF,hst,kW,htr,htr2,mR,t_,EK,oH,hp,ho,e3,e4,e5,w1,w6,q0,q1,q2,q3,-ad5]
    exact congrArg (fun w=>WH w B) (WS.zZ (by rw [tp]; simp) rfl rfl)
   | true =>
    rw [ho] at hot
    simp only [if_true] at hot
    subst hot
    have e2:=e2 (by simp; simp at t3; omega)
    simp -implicitDefEqProofs at e2 e3 e4 e5
    simp -implicitDefEqProofs [Ef,h,hxi,ZO,LF,hst,kW,htr,htr2,mR,t_,EK,oH,hp,ho,e2,e3,e4,e5,w1,w6,q0,q1,q2,q3,-ad5]
    exact congrArg (fun w=>WH w B) (WS.zZ (by rw [tp]; simp) rfl rfl)
  ·have hp:0 < i:=by omega
   rw [if_neg h0] at hpre
   subst hpre
   have e1:=e1 (by simp; simp at t3; omega)
   cases ho:x.out with
   | false =>
    rw [ho] at hot
    simp only [ac1,if_false] at hot
    subst hot
    simp -implicitDefEqProofs at e1 e3 e4 e5
    simp -implicitDefEqProofs [Ef,h,hxi,ZO,LF,hst,kW,htr,htr2,mR,t_,EK,oH,hp,ho,e1,e3,e4,e5,w1,w6,q0,q1,q2,q3,-ad5]
    exact congrArg (fun w=>WH w B) (WS.zZ (by rw [tp]; simp) rfl rfl)
   | true =>
    rw [ho] at hot
    simp only [if_true] at hot
    subst hot
    have e2:=e2 (by simp; simp at t3; omega)
    simp -implicitDefEqProofs at e1 e2 e3 e4 e5
    simp -implicitDefEqProofs [Ef,h,hxi,ZO,LF,hst,kW,htr,htr2,mR,t_,EK,oH,hp,ho,e1,e2,e3,e4,e5,w1,w6,q0,q1,q2,q3,-ad5]
    exact congrArg (fun w=>WH w B) (WS.zZ (by rw [tp]; simp) rfl rfl)
 ·right
  have:i=l.length:=by omega
  subst this
  constructor
  ·simp -implicitDefEqProofs [Ef,kW,rI hB,w6,q0,y2]
  ·simp
theorem c32 {w:WS}{B:List lH}(f:GF) (hw:q8 f=true) (h0:w.ln=0) (hB:Still B) (hb:w.bs.length+(wX f).length≤1099511627776) (hn:w.now+yD f≤1000000000000000) :
  KK 32 [.ptr 1 0,.agg f.cells] (WH w B)=some (.ret (.tuple []),WH (w.st (wX f) (yD f) 0) B):=by
 simp only [q8,ad0,af4] at hw
 obtain⟨⟨⟨hw1,hw2⟩,hw3⟩,hw4⟩:=hw
 have hpt:∀x∈f.params,tU x.ty=true:=fun x hx=>by
  have:=hw3 x hx
  simp only [wL,ad0] at this
  exact this.2
 obtain⟨res,hres⟩:∃res,res=(if f.has then [58,32]++oN f.result.label++wA f.result else []:List UInt8):=⟨_,rfl⟩
 have tf:wX f=[102,110,32]++(f.name++([40]++(wH (f.params.map qI)++([41]++(res++(oT 0 (nT 1 f.body)++[10])))))):=by
  rw [hres]; simp [wX]
 have nf:yD f=qU (oO f.body)+1:=rfl
 rw [tf] at hb ⊢
 rw [nf] at hn ⊢
 simp only [aa6,ab0,ab3] at hb
 refine lA (ai5 _ _ _ _) ?_
 have htr:=fun w C=>nM (w:=w) (C:=C) hB
 have s1:Still (B++[.cells f.cells,.front 3 1]):=oG hB (Dc (mE nL))
 have s2:Still (B++[.cells f.cells,.front 3 1,.front 1 1]):=oG hB (Dc (mE (mE nL)))
 have s3:Still (B++[.cells f.cells,.front 3 1,.front 1 1,.front 1 1]):=oG hB (Dc (mE (mE (mE nL))))
 have hl:f.params.length≤4611686018427387904:=by
  have:=Eo (f.params.map qI)
  rw [al2] at this
  omega
 have e1:=P3 (w:=w) (x:=[102,110,32]) (y:=f.name) (z:=[40]) s1 (by simp; omega)
 have e2:=Wi (w:=w) f.params hpt (B.length+3) (by simp) s1 ([102,110,32]++(f.name++[40])) hl (by simp; omega) 0 (al7 _)
 have p0:y2 f.params 0=[]:=rfl
 have e3:=P1 (w:=w.st ([102,110,32]++(f.name++([40]++wH (f.params.map qI)))) 0 0) (x:=[41]) s2 (by simp; omega)
 have hblk:=awJ f.body hw2
 unfold XL at hblk
 have e7:=hblk (w.st ([102,110,32]++(f.name++([40]++(wH (f.params.map qI)++([41]++res))))) 0 0) _ s2 (by simp [h0]; omega) (by simp; omega)
 have e8:=P1 (w:=w.st ([102,110,32]++(f.name++([40]++(wH (f.params.map qI)++([41]++(res++oT 0 (nT 1 f.body))))))) (qU (oO f.body)+1) 0) (x:=[10]) s3 (by simp; omega)
 have htr3:∀w D,l_ (B.length+3+3) (WH w (B++.cells f.cells::.front 3 1::.front 1 1::D))=some (WH w (B++[.cells f.cells,.front 3 1,.front 1 1])) :=
  fun w D=>trC (C:=[.cells f.cells,.front 3 1,.front 1 1]) hB (Dc (mE (mE nL))) rfl
 have q1:∀h o,kH.mT (B.length+3+3) h (.ptr (B.length+3) o)=.ptr (B.length+3) o:=fun h o=>wO (by omega)
 have q2:∀h o,kH.mT (B.length+3+3) h (.ptr 1 o)=.ptr 1 o:=fun h o=>wO (by omega)
 cases hh:f.has with
 | false =>
  rw [hh] at hres
  simp only [ac1,if_false] at hres
  subst hres
  simp -implicitDefEqProofs [p0,h0] at e1 e2 e3 e7 e8
  simp -implicitDefEqProofs [m32,adI,mR,t_,Aw,oH,hh,e1,e2,e3,e7,e8,kW,htr,htr3,q1,q2,lZ]
 | true =>
  rw [hh] at hres hw4
  simp only [if_true,ad0] at hres hw4
  subst hres
  simp only [aa6,ab0,ab3,rM] at hb
  have s4:Still (B++[.cells f.cells,.front 3 1,.front 1 1,.front 1 1]):=s3
  have e4:=P1 (w:=w.st ([102,110,32]++(f.name++([40]++(wH (f.params.map qI)++[41])))) 0 0) (x:=[58,32]) s4 (by simp; omega)
  have e5:=c69 (w:=w.st ([102,110,32]++(f.name++([40]++(wH (f.params.map qI)++([41]++[58,32]))))) 0 0) f.result.label s4 (by simp; omega)
  have e6:=c70 (w:=w.st ([102,110,32]++(f.name++([40]++(wH (f.params.map qI)++([41]++([58,32]++oN f.result.label)))))) 0 0) f.result hw4.1.1 s4 (by simp [rM]; omega)
  simp -implicitDefEqProofs [p0,h0] at e1 e2 e3 e4 e5 e6 e7 e8
  simp -implicitDefEqProofs [m32,adI,mR,t_,Aw,oH,hh,e1,e2,e3,e4,e5,e6,e7,e8,kW,htr,htr3,q1,q2,lZ]
end
section
open Go Hk
theorem Jl:∀(bs:List UInt8),yJ (rZ bs)=some bs
 | []=>rfl
 | b::r=>by
  have h1:=Jl r
  have hb:(0:Int)≤(b.toNat:Int)∧(b.toNat:Int) < 256:=⟨by omega,by have:=b.toNat_lt; omega⟩
  have h2:rZ (b::r)=[kH.int .u8 (b.toNat:Int)]::rZ r:=rfl
  rw [h2]
  unfold yJ
  rw [if_pos hb,h1]
  simp
theorem US {e fid:Nat}{h:kL}{rows:List (List kH)}:UR e h (.slice rows (.own fid))=(match h[fid]? with
  | some (.front n sz t)=>bif rows.length == n then(match n with
   | 0=>bif sz == 0 then some (.ret (.str []),h) else none
   | _+1=>bif sz == 1 && t == e+1 then(match yJ rows with
    | some bs=>some (.ret (.str bs),h.set fid .gone)
    | none=>none) else none) else none
  | _=>none):=by cases rows <;> rfl
def WHg (w:WS) (B:List lH):kL:=match w.bs with
 | []=>WH w B
 | _::_=>.cells w.a::.tcells 86 (Bs w w.bs)::.gone::B
theorem c72 {w:WS}{B:List lH}:KK 72 [.ptr 1 0] (WH w B)=some (.ret (.str w.bs),WHg w B):=by
 refine lA (m:=CF mK.bld (.bldString 5) [.ptr 1 0] (WH w B)) rfl ?_
 obtain⟨a,ok,u,bs,now,ov,ln⟩:=w
 have h0:CF mK.bld (.bldString 5) [.ptr 1 0] (WH ⟨a,ok,u,bs,now,ov,ln⟩ B)=UR 5 (WH ⟨a,ok,u,bs,now,ov,ln⟩ B) (.slice (rZ bs) (.own 2)):=rfl
 rw [h0]
 cases bs with
 | nil=>rfl
 | cons b r =>
  have h1:(rZ (b::r)).length=r.length+1:=by rw [y7]; rfl
  have h3:(WH ⟨a,ok,u,b::r,now,ov,ln⟩ B)[2]?=some (.front (r.length+1) 1 6):=rfl
  rw [US,h3]
  simp [h1,Jl,WHg,WH,HZ]
theorem Sh {w:WS}{B:List lH}(h:Still B):l_ (B.length+3) (WHg w B)=some (WHg w B):=by
 unfold WHg
 split
 ·exact rI h
 ·rename_i b r hbs
  have h0:=KD (w:=w) (cs:=w.bs) (fs:=w.bs) h (m:=B.length+3) (x:=.cells w.a::.tcells 86 (Bs w w.bs)::.gone::B) (by omega)
  simp only [HZ,nS,Option.bind_eq_some_iff,Option.map_eq_some_iff] at h0
  obtain⟨b1,e1,r1,⟨b2,e2,r2,⟨b3,e3,r3,e4,e5⟩,e6⟩,e7⟩:=h0
  cases e5; cases e6; cases e7
  have hg:∀m x,o6 m x .gone=some .gone:=fun _ _=>rfl
  have ht:(lH.cells w.a::.tcells 86 (Bs w w.bs)::.gone::B).take (B.length+3)=.cells w.a::.tcells 86 (Bs w w.bs)::.gone::B:=by simp
  simp only [l_,ht,nS,e1,e2,hg,e4,ae3,Option.map_some]
theorem c33 {w:WS}{B:List lH}(hB:Still B):∃H,KK 33 [.ptr 1 0] (WH w B)=some (.ret (.tuple [.str (if w.over then [] else w.bs),.int .i64 (if w.over then 11 else 0)]),H):=by
 cases ho:w.over with
 | true =>
  refine⟨WH w B,lA (Wj _ _ _) ?_⟩
  simp -implicitDefEqProofs [m33,ho,lZ,mR,rI hB]
 | false =>
  refine⟨WHg w B,lA (Wj _ _ _) ?_⟩
  simp -implicitDefEqProofs [m33,ho,c72,lZ,mR,Sh hB]
def WS.new (a:List kH) (ok:∀m h,mW m h a=some a):WS:=⟨a,ok,false,[],0,false,0⟩
def w0:kH:=.agg [.nilptr,.slice [] .nil,.int .i64 0,.bool false,.int .i64 0]
theorem abS:lR [.nilptr,.slice [] .nil,.int .i64 0,.bool false,.int .i64 0] [(0,2),(2,2),(4,1)] []=some w0:=rfl
theorem abT (a:List kH) (ok:∀m h,mW m h a=some a):Gt 86 5 [.cells a] w0=some (.ptr 1 0,WH (WS.new a ok) []):=rfl
@[simp] theorem axT (a:List kH) (ok:∀m h,mW m h a=some a):(WS.new a ok).bs=[]:=rfl
@[simp] theorem auH (a:List kH) (ok:∀m h,mW m h a=some a):(WS.new a ok).now=0:=rfl
@[simp] theorem axU (a:List kH) (ok:∀m h,mW m h a=some a):(WS.new a ok).ln=0:=rfl
theorem Ok (a:List kH) (ok:∀m h,mW m h a=some a) (x:List UInt8) (n k:Nat):((WS.new a ok).st x n k).over=decide (64 < n):=by
 simp only [WS.st,WS.new,Bool.false_or,Nat.zero_add]
 exact decide_eq_decide.2 (by omega)
end
section
open Go Hk
theorem c65 (s:List UInt8) (h:kL):KK 65 [.str s] h=some (.ret (.bool (rP s)),h):=by
 refine lB rfl rfl (lA (ajM _ _ _) ?_)
 have hc:=c49 s
 obtain⟨⟨l,e,p⟩,hr⟩:∃r,oL s=r:=⟨_,rfl⟩
 rw [hr] at hc
 by_cases he:e=0
 ·subst he
  match l with
  | []=>simp -implicitDefEqProofs [m65,hc,lO,lC,putCells,kK,rP,hr]
  | [t]=>simp -implicitDefEqProofs [m65,hc,lO,lC,putCells,kK,rP,hr]
  | [t,u] =>
   have i0:k9 4 (.slice [t.cells,u.cells] .no) (.int .i64 0)=some (.pptr t.cells):=by rw [n_]; simp; rfl
   have tl:t.cells.length=4:=rfl
   have g0:∀h:0 < t.cells.length,t.cells[0]'h=.int .i64 (t.kind:Int):=fun _=>rfl
   have g3:∀h:3 < t.cells.length,t.cells[3]'h=.str t.text:=fun _=>rfl
   have hk:((t.kind:Int)=1)↔t.kind=1:=by omega
   by_cases h1:t.kind=1
   ·by_cases h2:t.text=s
    ·simp -implicitDefEqProofs [m65,hc,lO,lC,putCells,kK,rP,hr,i0,tl,g0,g3,h1,h2]
    ·simp -implicitDefEqProofs [m65,hc,lO,lC,putCells,kK,rP,hr,i0,tl,g0,g3,h1,h2]
   ·simp -implicitDefEqProofs [m65,hc,lO,lC,putCells,kK,rP,hr,i0,tl,g0,g3,hk,h1]
  | t::u::v::r =>
   have:¬((r.length:Int)+1+1+1=2):=by omega
   simp -implicitDefEqProofs [m65,hc,lO,lC,putCells,kK,rP,hr,this]
 ·have he':¬((e:Int)=0):=by omega
  have hf:rP s=false:=by
   unfold rP
   rw [hr]
   split
   ·rename_i h; simp only [Prod.mk.injEq] at h; omega
   ·rfl
  rw [hf]
  simp -implicitDefEqProofs [m65,hc,lO,lC,putCells,kK,he]
theorem Za (s:List UInt8) (b:Bool) (h:kL):KK 79 [.str s,.bool b] h=some (.ret (.bool (lG s b)),h):=by
 refine lB rfl rfl (lA (aj0 _ _ _ _) ?_)
 cases b
 ·simp -implicitDefEqProofs [m79,lG,kK]
  by_cases hs:s=[] <;> simp [hs]
 ·simp -implicitDefEqProofs [m79,lG,kK,c65]
theorem X6 (n:Int) (b:Bool) (h:kL):KK 80 [.int .i64 n,.bool b] h=some (.ret (.bool (kZ n b)),h):=by
 refine lB rfl rfl (lA (aj1 _ _ _ _) ?_)
 by_cases h0:n=0
 ·subst h0; cases b <;> simp -implicitDefEqProofs [m80,kZ,AT,kK]
 ·cases b
  ·simp -implicitDefEqProofs [m80,kZ,kK,h0]
  ·by_cases h1:0 < n
   ·by_cases h2:n≤4294967295
    ·have h3:0≤n:=by omega
     simp -implicitDefEqProofs [m80,kZ,AT,kK,h0,h1,h2,h3]
    ·simp -implicitDefEqProofs [m80,kZ,AT,kK,h0,h1,h2]
   ·have h3:¬0≤n:=by omega
    simp -implicitDefEqProofs [m80,kZ,AT,kK,h0,h1,h3]
theorem c78 (k:Int) (h:kL):KK 78 [.int .i64 k] h=some (.ret (.tuple [.int .i64 ((xH k).getD 0),.bool (xH k).isSome]),h):=by
 refine lB rfl rfl (lA (ajZ _ _ _) ?_)
 by_cases hk:1≤k∧k≤26
 ·rcases x7 hk with rfl | rfl | rfl | rfl | rfl | rfl | rfl | rfl | rfl | rfl | rfl | rfl | rfl | rfl | rfl | rfl | rfl | rfl | rfl | rfl | rfl | rfl | rfl | rfl | rfl | rfl <;>
   simp -implicitDefEqProofs [m78,kK,xH]
 ·have h0:xH k=none:=by unfold xH; rw [if_pos (by omega)]
  rw [h0]
  have n1:¬k=1:=by omega
  have n2:¬k=2:=by omega
  have n3:¬k=3:=by omega
  have n4:¬k=4:=by omega
  have n5:¬k=25:=by omega
  have n6:¬k=26:=by omega
  by_cases hl:k < 1
  ·have l1:¬5≤k:=by omega
   have l2:¬14≤k:=by omega
   have l3:¬8≤k:=by omega
   have l4:¬17≤k:=by omega
   simp -implicitDefEqProofs [m78,kK,n1,n2,n3,n4,n5,n6,l1,l2,l3,l4]
  ·have l1:5≤k:=by omega
   have l2:14≤k:=by omega
   have l3:8≤k:=by omega
   have l4:17≤k:=by omega
   have l5:¬k≤7:=by omega
   have l6:¬k≤16:=by omega
   have l7:¬k≤13:=by omega
   have l8:¬k≤24:=by omega
   simp -implicitDefEqProofs [m78,kK,n1,n2,n3,n4,n5,n6,l1,l2,l3,l4,l5,l6,l7,l8]
theorem GE.shut (x:GE):([kH.agg x.cells].all (kH.nO 0))=true:=by cases x; simp [GE.cells,kH.nO,kH.pT,qO]
theorem lQ {x:GE}{h:kL}:lO 5 h (.agg x.cells)=some (.ptr h.length 0,h++[.cells x.cells]):=by
 simp [lO,x.tok,x.NK]
def O7 (x:GE):Prop:=∀h,KK 36 [.agg x.cells] h=some (.ret (.bool (nZ x)),h)
theorem yC {α:Type}{F:List kH×kL→Option R}(l:List α) (p:α→Bool) (enc:Nat→List kH×kL) (bad:Nat→R) (fin:R)
  (hok:∀i x,l[i]?=some x→p x=true→F (enc i)=some (.normal,enc (i+1))) (hbad:∀i x,l[i]?=some x→p x=false→F (enc i)=some (bad i)) (hb:∀i,(bad i).1≠.normal)
  (hend:F (enc l.length)=some fin) (hf:fin.1≠.normal):(l.all p=true→mL F (enc 0)=some fin)∧(l.all p=false→∃i,mL F (enc 0)=some (bad i)):=by
 have stop:∀(s:List kH×kL) (r:R),F s=some r→r.1≠.normal→mL F s=some r:=by
  intro s r h1 h2
  rw [mY,h1]
  obtain⟨e,v⟩:=r
  cases e <;> first | exact absurd rfl h2 | rfl
 have key:∀n i,l.length - i=n→i≤l.length→((l.drop i).all p=true→mL F (enc i)=some fin)∧((l.drop i).all p=false→∃j,mL F (enc i)=some (bad j)):=by
  intro n
  induction n with
  | zero =>
   intro i h1 h2
   have:i=l.length:=by omega
   subst this
   refine⟨fun _=>stop _ _ hend hf,fun h=>by simp at h⟩
  | succ n ih =>
   intro i h1 h2
   have hi:i < l.length:=by omega
   have hg:=ab8 hi
   have hd:l.drop i=l[i]::l.drop (i+1):=List.drop_eq_getElem_cons hi
   obtain⟨a,b⟩:=ih (i+1) (by omega) (by omega)
   rw [hd]
   simp only [List.all_cons,ad0,Bool.and_eq_false_iff]
   cases hp:p l[i] with
   | true =>
    have e:=hok i _ hg hp
    have e2:mL F (enc i)=mL F (enc (i+1)):=by rw [mY,e]; rfl
    rw [e2]
    exact⟨fun h=>a h.2,fun h=>b (h.resolve_left (by simp))⟩
   | false =>
    refine⟨fun h=>by simp at h,fun _=>⟨i,stop _ _ (hbad i _ hg hp) (hb i)⟩⟩
 have:=key l.length 0 (by omega) (al7 _)
 simpa using this
theorem UL {h:kL}:lO 5 h (.agg [.int .i64 0,.int .i64 0,.int .i64 0,.str [],.slice [] .nil]) =
  some (.ptr h.length 0,h++[.cells [.int .i64 0,.int .i64 0,.int .i64 0,.str [],.slice [] (.own (h.length+1))],.front 0 0]):=by
 simp [lO,lC]
theorem Rf {x:GE}{h:kL}{os:List kH}:o0 h os x.cells=x.cells:=qB (by cases x; simp [GE.cells,kH.isNil])
theorem NR {l:List GE}{i:Nat}{x:GE}(h:l[i]?=some x):∀hh:i < l.length,l[i]'hh=x:=fun hh=>by rw [ab8 hh] at h; exact Option.some.inj h
theorem aqW {x:GE}{cs:List kH}(h:cs.length=5):putCells cs 0 x.cells=x.cells:=by simp [putCells,h]
theorem Vq {x:GE}:(∀c,c∈x.cells→c.lY=true)=True:=eq_true (by have:=x.NK; rwa [af4] at this)
theorem Wz (l:List GE) (hok:∀x∈l,O7 x) (hl:l.length≤4611686018427387904) :
  (l.all nZ=true→mL (Ej KK 0) ([.bool false,.slice (l.map GE.cells) .no,.int .i64 (l.length:Int),.int .i64 0],[]) =
   some (.exit 0,[.bool false,.slice (l.map GE.cells) .no,.int .i64 (l.length:Int),.int .i64 (l.length:Int)],[])) ∧
  (l.all nZ=false→∃i:Nat,mL (Ej KK 0) ([.bool false,.slice (l.map GE.cells) .no,.int .i64 (l.length:Int),.int .i64 0],[]) =
   some (.ret,[.bool false,.slice (l.map GE.cells) .no,.int .i64 (l.length:Int),.int .i64 (i:Int)],[])):=by
 have main:=yC (F:=Ej KK 0) l nZ (fun i=>([.bool false,.slice (l.map GE.cells) .no,.int .i64 (l.length:Int),.int .i64 (i:Int)],[]))
  (fun i=>(.ret,[.bool false,.slice (l.map GE.cells) .no,.int .i64 (l.length:Int),.int .i64 (i:Int)],[])) (.exit 0,[.bool false,.slice (l.map GE.cells) .no,.int .i64 (l.length:Int),.int .i64 (l.length:Int)],[]) ?_ ?_ (fun _=>by simp) ?_ (by simp)
 ·exact main
 ·intro i x hx hw
  have h:i < l.length:=(aa8.1 hx).1
  have w1:=qT (a:=i) (by omega)
  have hc:=hok x (ad2 hx)
  unfold O7 at hc
  simp -implicitDefEqProofs [Ej,h,NR hx,UL,Rf,aqW,Vq,hc,hw,w1,mZ,-ad5]
 ·intro i x hx hw
  have h:i < l.length:=(aa8.1 hx).1
  have hc:=hok x (ad2 hx)
  unfold O7 at hc
  simp -implicitDefEqProofs [Ej,h,NR hx,UL,Rf,aqW,Vq,hc,hw,mZ]
 ·simp -implicitDefEqProofs [Ej,mZ]
theorem c81 (l:List GE) (hok:∀x∈l,O7 x) (hl:l.length≤4611686018427387904) (h:kL):KK 81 [.slice (l.map GE.cells) .no] h=some (.ret (.bool (oB l)),h):=by
 refine lB rfl (by simp [kH.nO,kH.pT,qO]) (lA (aj2 _ _ _) ?_)
 obtain⟨h1,h2⟩:=Wz l hok hl
 rw [y9]
 cases hw:l.all nZ with
 | true=>simp -implicitDefEqProofs [m81,h1 hw,kK]
 | false =>
  obtain⟨i,hi⟩:=h2 hw
  simp -implicitDefEqProofs [m81,hi,kK]
set_option maxHeartbeats 4000000 in
theorem UW (x:GE) (hok:∀a∈x.args,O7 a) (hl:x.args.length≤4611686018427387904):O7 x:=by
 intro h
 refine lB rfl x.shut (lA (ai8 _ _ _) ?_)
 have e1:=c78 x.kind
 have e2:=Za x.name
 have e3:=X6 x.num
 have e4:=c81 x.args hok hl
 have hw:nZ x=(zX x.kind x.num x.name x.args.length && oB x.args):=by cases x; rfl
 rw [hw]
 unfold zX
 cases ha:xH x.kind with
 | none =>
  rw [ha] at e1
  simp -implicitDefEqProofs [AS,lQ,e1,kK]
 | some m =>
  rw [ha] at e1
  have hk:1≤x.kind∧x.kind≤26:=by
   unfold xH at ha
   split at ha
   ·cases ha
   ·omega
  have hm:m=-1∧x.kind=4∨0≤m∧¬x.kind=4:=by
   clear e1 e2 e3 e4 hw
   generalize x.kind=k at ha hk
   rcases x7 hk with rfl | rfl | rfl | rfl | rfl | rfl | rfl | rfl | rfl | rfl | rfl | rfl | rfl | rfl | rfl | rfl | rfl | rfl | rfl | rfl | rfl | rfl | rfl | rfl | rfl | rfl <;>
    simp [xH] at ha <;> omega
  simp only [Option.getD_some,Option.isSome_some] at e1
  show _=some (nH.ret (kH.bool (((m == -1 || m == (x.args.length:Int)) && lG x.name (x.kind == 2 || x.kind == 3 || x.kind == 4) && kZ x.num (x.kind == 1 || x.kind == 14 || x.kind == 15 || x.kind == 16)) && oB x.args)),[])
  by_cases har:(m == -1 || m == (x.args.length:Int))=true
  ·rw [har,Bool.true_and]
   have hc:¬0≤m∨(0≤m∧((x.args.length:Int)=m)):=by
    simp only [Bool.or_eq_true,beq_iff_eq] at har
    omega
   have cls:x.kind=1∨x.kind=2∨x.kind=3∨x.kind=4∨(14≤x.kind∧x.kind≤16)∨(5≤x.kind∧x.kind < 14)∨(17≤x.kind):=by omega
   rcases cls with h' | h' | h' | h' | h' | h' | h'
   ·rw [h'] at e1
    have f1:(x.kind == 2 || x.kind == 3 || x.kind == 4)=false:=by simp [h']
    have f2:(x.kind == 1 || x.kind == 14 || x.kind == 15 || x.kind == 16)=true:=by simp [h']
    rw [f1,f2]
    cases hN:lG x.name false
    ·rcases hc with hc | ⟨hc,hc'⟩
     ·simp -implicitDefEqProofs [AS,lQ,e1,e2,e3,e4,hc,hN,h',kK]
     ·simp -implicitDefEqProofs [AS,lQ,e1,e2,e3,e4,hc,hc',hN,h',kK]
    ·cases hU:kZ x.num true
     ·rcases hc with hc | ⟨hc,hc'⟩
      ·simp -implicitDefEqProofs [AS,lQ,e1,e2,e3,e4,hc,hN,hU,h',kK]
      ·simp -implicitDefEqProofs [AS,lQ,e1,e2,e3,e4,hc,hc',hN,hU,h',kK]
     ·rcases hc with hc | ⟨hc,hc'⟩
      ·simp -implicitDefEqProofs [AS,lQ,e1,e2,e3,e4,hc,hN,hU,h',kK]
      ·simp -implicitDefEqProofs [AS,lQ,e1,e2,e3,e4,hc,hc',hN,hU,h',kK]
   ·rw [h'] at e1
    have f1:(x.kind == 2 || x.kind == 3 || x.kind == 4)=true:=by simp [h']
    have f2:(x.kind == 1 || x.kind == 14 || x.kind == 15 || x.kind == 16)=false:=by simp [h']
    rw [f1,f2]
    cases hN:lG x.name true
    ·rcases hc with hc | ⟨hc,hc'⟩
     ·simp -implicitDefEqProofs [AS,lQ,e1,e2,e3,e4,hc,hN,h',kK]
     ·simp -implicitDefEqProofs [AS,lQ,e1,e2,e3,e4,hc,hc',hN,h',kK]
    ·cases hU:kZ x.num false
     ·rcases hc with hc | ⟨hc,hc'⟩
      ·simp -implicitDefEqProofs [AS,lQ,e1,e2,e3,e4,hc,hN,hU,h',kK]
      ·simp -implicitDefEqProofs [AS,lQ,e1,e2,e3,e4,hc,hc',hN,hU,h',kK]
     ·rcases hc with hc | ⟨hc,hc'⟩
      ·simp -implicitDefEqProofs [AS,lQ,e1,e2,e3,e4,hc,hN,hU,h',kK]
      ·simp -implicitDefEqProofs [AS,lQ,e1,e2,e3,e4,hc,hc',hN,hU,h',kK]
   ·rw [h'] at e1
    have f1:(x.kind == 2 || x.kind == 3 || x.kind == 4)=true:=by simp [h']
    have f2:(x.kind == 1 || x.kind == 14 || x.kind == 15 || x.kind == 16)=false:=by simp [h']
    rw [f1,f2]
    cases hN:lG x.name true
    ·rcases hc with hc | ⟨hc,hc'⟩
     ·simp -implicitDefEqProofs [AS,lQ,e1,e2,e3,e4,hc,hN,h',kK]
     ·simp -implicitDefEqProofs [AS,lQ,e1,e2,e3,e4,hc,hc',hN,h',kK]
    ·cases hU:kZ x.num false
     ·rcases hc with hc | ⟨hc,hc'⟩
      ·simp -implicitDefEqProofs [AS,lQ,e1,e2,e3,e4,hc,hN,hU,h',kK]
      ·simp -implicitDefEqProofs [AS,lQ,e1,e2,e3,e4,hc,hc',hN,hU,h',kK]
     ·rcases hc with hc | ⟨hc,hc'⟩
      ·simp -implicitDefEqProofs [AS,lQ,e1,e2,e3,e4,hc,hN,hU,h',kK]
      ·simp -implicitDefEqProofs [AS,lQ,e1,e2,e3,e4,hc,hc',hN,hU,h',kK]
   ·rw [h'] at e1
    have f1:(x.kind == 2 || x.kind == 3 || x.kind == 4)=true:=by simp [h']
    have f2:(x.kind == 1 || x.kind == 14 || x.kind == 15 || x.kind == 16)=false:=by simp [h']
    rw [f1,f2]
    cases hN:lG x.name true
    ·rcases hc with hc | ⟨hc,hc'⟩
     ·simp -implicitDefEqProofs [AS,lQ,e1,e2,e3,e4,hc,hN,h',kK]
     ·simp -implicitDefEqProofs [AS,lQ,e1,e2,e3,e4,hc,hc',hN,h',kK]
    ·cases hU:kZ x.num false
     ·rcases hc with hc | ⟨hc,hc'⟩
      ·simp -implicitDefEqProofs [AS,lQ,e1,e2,e3,e4,hc,hN,hU,h',kK]
      ·simp -implicitDefEqProofs [AS,lQ,e1,e2,e3,e4,hc,hc',hN,hU,h',kK]
     ·rcases hc with hc | ⟨hc,hc'⟩
      ·simp -implicitDefEqProofs [AS,lQ,e1,e2,e3,e4,hc,hN,hU,h',kK]
      ·simp -implicitDefEqProofs [AS,lQ,e1,e2,e3,e4,hc,hc',hN,hU,h',kK]
   ·have n1:¬x.kind=1:=by omega
    have n2:¬x.kind=2:=by omega
    have n3:¬x.kind=3:=by omega
    have n4:¬x.kind=4:=by omega
    obtain⟨g1,g2⟩:=h'
    have n5:x.kind=14∨x.kind=15∨x.kind=16:=by omega
    have f1:(x.kind == 2 || x.kind == 3 || x.kind == 4)=false:=by simp; omega
    have f2:(x.kind == 1 || x.kind == 14 || x.kind == 15 || x.kind == 16)=true:=by simp; omega
    rw [f1,f2]
    cases hN:lG x.name false
    ·rcases hc with hc | ⟨hc,hc'⟩
     ·simp -implicitDefEqProofs [AS,lQ,e1,e2,e3,e4,hc,hN,n1,n2,n3,n4,g1,g2,kK]
     ·simp -implicitDefEqProofs [AS,lQ,e1,e2,e3,e4,hc,hc',hN,n1,n2,n3,n4,g1,g2,kK]
    ·cases hU:kZ x.num true
     ·rcases hc with hc | ⟨hc,hc'⟩
      ·simp -implicitDefEqProofs [AS,lQ,e1,e2,e3,e4,hc,hN,hU,n1,n2,n3,n4,g1,g2,kK]
      ·simp -implicitDefEqProofs [AS,lQ,e1,e2,e3,e4,hc,hc',hN,hU,n1,n2,n3,n4,g1,g2,kK]
     ·rcases hc with hc | ⟨hc,hc'⟩
      ·simp -implicitDefEqProofs [AS,lQ,e1,e2,e3,e4,hc,hN,hU,n1,n2,n3,n4,g1,g2,kK]
      ·simp -implicitDefEqProofs [AS,lQ,e1,e2,e3,e4,hc,hc',hN,hU,n1,n2,n3,n4,g1,g2,kK]
   ·have n1:¬x.kind=1:=by omega
    have n2:¬x.kind=2:=by omega
    have n3:¬x.kind=3:=by omega
    have n4:¬x.kind=4:=by omega
    have g1:¬14≤x.kind:=by omega
    have f1:(x.kind == 2 || x.kind == 3 || x.kind == 4)=false:=by simp; omega
    have f2:(x.kind == 1 || x.kind == 14 || x.kind == 15 || x.kind == 16)=false:=by simp; omega
    rw [f1,f2]
    cases hN:lG x.name false
    ·rcases hc with hc | ⟨hc,hc'⟩
     ·simp -implicitDefEqProofs [AS,lQ,e1,e2,e3,e4,hc,hN,n1,n2,n3,n4,g1,kK]
     ·simp -implicitDefEqProofs [AS,lQ,e1,e2,e3,e4,hc,hc',hN,n1,n2,n3,n4,g1,kK]
    ·cases hU:kZ x.num false
     ·rcases hc with hc | ⟨hc,hc'⟩
      ·simp -implicitDefEqProofs [AS,lQ,e1,e2,e3,e4,hc,hN,hU,n1,n2,n3,n4,g1,kK]
      ·simp -implicitDefEqProofs [AS,lQ,e1,e2,e3,e4,hc,hc',hN,hU,n1,n2,n3,n4,g1,kK]
     ·rcases hc with hc | ⟨hc,hc'⟩
      ·simp -implicitDefEqProofs [AS,lQ,e1,e2,e3,e4,hc,hN,hU,n1,n2,n3,n4,g1,kK]
      ·simp -implicitDefEqProofs [AS,lQ,e1,e2,e3,e4,hc,hc',hN,hU,n1,n2,n3,n4,g1,kK]
   ·have n1:¬x.kind=1:=by omega
    have n2:¬x.kind=2:=by omega
    have n3:¬x.kind=3:=by omega
    have n4:¬x.kind=4:=by omega
    have g1:14≤x.kind:=by omega
    have g2:¬x.kind≤16:=by omega
    have f1:(x.kind == 2 || x.kind == 3 || x.kind == 4)=false:=by simp; omega
    have f2:(x.kind == 1 || x.kind == 14 || x.kind == 15 || x.kind == 16)=false:=by simp; omega
    rw [f1,f2]
    cases hN:lG x.name false
    ·rcases hc with hc | ⟨hc,hc'⟩
     ·simp -implicitDefEqProofs [AS,lQ,e1,e2,e3,e4,hc,hN,n1,n2,n3,n4,g1,g2,kK]
     ·simp -implicitDefEqProofs [AS,lQ,e1,e2,e3,e4,hc,hc',hN,n1,n2,n3,n4,g1,g2,kK]
    ·cases hU:kZ x.num false
     ·rcases hc with hc | ⟨hc,hc'⟩
      ·simp -implicitDefEqProofs [AS,lQ,e1,e2,e3,e4,hc,hN,hU,n1,n2,n3,n4,g1,g2,kK]
      ·simp -implicitDefEqProofs [AS,lQ,e1,e2,e3,e4,hc,hc',hN,hU,n1,n2,n3,n4,g1,g2,kK]
     ·rcases hc with hc | ⟨hc,hc'⟩
      ·simp -implicitDefEqProofs [AS,lQ,e1,e2,e3,e4,hc,hN,hU,n1,n2,n3,n4,g1,g2,kK]
      ·simp -implicitDefEqProofs [AS,lQ,e1,e2,e3,e4,hc,hc',hN,hU,n1,n2,n3,n4,g1,g2,kK]
  ·have hf:(m == -1 || m == (x.args.length:Int))=false:=by simpa using har
   rw [hf]
   simp only [Bool.or_eq_false_iff,beq_eq_false_iff_ne] at hf
   have h0:0≤m:=by omega
   have h1:¬(x.args.length:Int)=m:=fun e=>hf.2 e.symm
   simp -implicitDefEqProofs [AS,lQ,e1,kK,h0,h1]
end
section
open Go Hk
theorem c36:∀(n:Nat) (x:GE),x.size≤n→n≤4611686018427387904→O7 x:=by
 intro n
 induction n with
 | zero=>intro x hn; cases x; simp [GE.size] at hn
 | succ n ih =>
  intro x hn hb
  have key:∀l:List GE,l.length≤GE.oC l:=by
   intro l
   induction l with
   | nil=>simp
   | cons y r ih=>cases y; simp only [GE.oC,GE.size,ab0]; omega
  refine UW x (fun a ha=>?_) ?_
  ·cases x
   simp only [GE.size,GE.args] at hn ha
   have:=GE.qQ ha
   exact ih a (by omega) (by omega)
  ·cases x
   simp only [GE.size,GE.args] at hn ⊢
   have:=key (by assumption:List GE)
   omega
theorem Gf (l:List GE):l.length≤GE.oC l:=by
 induction l with
 | nil=>simp
 | cons y r ih=>cases y; simp only [GE.oC,GE.size,ab0]; omega
theorem ND (l:List GE) (hs:GE.oC l≤4611686018427387904) (h:kL):KK 81 [.slice (l.map GE.cells) .no] h=some (.ret (.bool (oB l)),h) :=
 c81 l (fun x hx=>c36 _ x (GE.qQ hx) hs) (by have:=Gf l; omega) h
theorem awD (x:GE) (hs:x.size≤4611686018427387904) (h:kL):KK 36 [.agg x.cells] h=some (.ret (.bool (nZ x)),h):=c36 _ x (ac8 _) hs h
theorem sB {t:GT}{h:kL}:lO 3 h (.agg t.cells)=some (.ptr h.length 0,h++[.cells t.cells]):=by
 simp [lO,GT.cells,lC]
theorem GT.shut (t:GT):([kH.agg t.cells].all (kH.nO 0))=true:=by simp [GT.cells,kH.nO,kH.pT,qO]
theorem UX (t:GT) (h:kL):KK 67 [.agg t.cells] h=some (.ret (.bool (tU t)),h):=by
 refine lB rfl t.shut (lA (ajO _ _ _) ?_)
 have e1:=X6 t.len true
 have g0:∀h:0 < t.cells.length,t.cells[0]'h=.int .i64 t.elem:=fun _=>rfl
 have g1:∀h:1 < t.cells.length,t.cells[1]'h=.int .i64 t.len:=fun _=>rfl
 have g2:∀h:2 < t.cells.length,t.cells[2]'h=.int .i64 t.label:=fun _=>rfl
 have gl:t.cells.length=3:=rfl
 have hn:kZ t.len true=AT t.len:=rfl
 rw [hn] at e1
 have hl:t.label=0∨t.label=1∨(¬t.label=0∧¬t.label=1):=by omega
 unfold tU
 rcases hl with h1 | h1 | ⟨h1,h2⟩
 ·cases hN:AT t.len
  ·simp -implicitDefEqProofs [Ua,sB,e1,g0,g1,g2,gl,h1,hN,kK]
  ·have hp:=(tR.1 hN).1
   by_cases e1':t.elem=1
   ·simp -implicitDefEqProofs [Ua,sB,e1,g0,g1,g2,gl,h1,hN,e1',kK]
    by_cases h0:t.len=0 <;> simp [h0]
   ·by_cases e0:t.elem=0
    ·simp -implicitDefEqProofs [Ua,sB,e1,g0,g1,g2,gl,h1,hN,e0,kK]
    ·by_cases e2:t.elem=2
     ·have:(0 < t.len)↔¬t.len=0:=by omega
      simp -implicitDefEqProofs [Ua,sB,e1,g0,g1,g2,gl,h1,hN,e2,this,kK]
      by_cases h0:t.len=0 <;> simp [h0]
     ·simp -implicitDefEqProofs [Ua,sB,e1,g0,g1,g2,gl,h1,hN,e0,e1',e2,kK]
 ·cases hN:AT t.len
  ·simp -implicitDefEqProofs [Ua,sB,e1,g0,g1,g2,gl,h1,hN,kK]
  ·have hp:=(tR.1 hN).1
   by_cases e1':t.elem=1
   ·simp -implicitDefEqProofs [Ua,sB,e1,g0,g1,g2,gl,h1,hN,e1',kK]
    by_cases h0:t.len=0 <;> simp [h0]
   ·by_cases e0:t.elem=0
    ·simp -implicitDefEqProofs [Ua,sB,e1,g0,g1,g2,gl,h1,hN,e0,kK]
    ·by_cases e2:t.elem=2
     ·have:(0 < t.len)↔¬t.len=0:=by omega
      simp -implicitDefEqProofs [Ua,sB,e1,g0,g1,g2,gl,h1,hN,e2,this,kK]
      by_cases h0:t.len=0 <;> simp [h0]
     ·simp -implicitDefEqProofs [Ua,sB,e1,g0,g1,g2,gl,h1,hN,e0,e1',e2,kK]
 ·simp -implicitDefEqProofs [Ua,sB,g0,g1,g2,gl,h1,h2,kK]
def mA (n k:Bool) (a:Int) (m b o:Bool):kH:=.agg [.bool n,.bool k,.int .i64 a,.bool m,.bool b,.bool o]
theorem agS (h:kL):KK 160 [.int .i64 1] h=some (.ret (.tuple [mA true false 1 false false false,.bool true]),h):=by
 refine lB rfl rfl (lA (Ag _ _ _) ?_)
 simp -implicitDefEqProofs [Kk,lO,lC,lR,putCells,kW,l_,kK,mA,lD]
theorem agT (h:kL):KK 160 [.int .i64 2] h=some (.ret (.tuple [mA true true 0 false false false,.bool true]),h):=by
 refine lB rfl rfl (lA (Ag _ _ _) ?_)
 simp -implicitDefEqProofs [Kk,lO,lC,lR,putCells,kW,l_,kK,mA,lD]
theorem agU (h:kL):KK 160 [.int .i64 3] h=some (.ret (.tuple [mA true false 1 false false false,.bool true]),h):=by
 refine lB rfl rfl (lA (Ag _ _ _) ?_)
 simp -implicitDefEqProofs [Kk,lO,lC,lR,putCells,kW,l_,kK,mA,lD]
theorem agV (h:kL):KK 160 [.int .i64 4] h=some (.ret (.tuple [mA true false 2 false false false,.bool true]),h):=by
 refine lB rfl rfl (lA (Ag _ _ _) ?_)
 simp -implicitDefEqProofs [Kk,lO,lC,lR,putCells,kW,l_,kK,mA,lD]
theorem agW (h:kL):KK 160 [.int .i64 5] h=some (.ret (.tuple [mA false false 1 false true true,.bool true]),h):=by
 refine lB rfl rfl (lA (Ag _ _ _) ?_)
 simp -implicitDefEqProofs [Kk,lO,lC,lR,putCells,kW,l_,kK,mA,lD]
theorem agX (h:kL):KK 160 [.int .i64 6] h=some (.ret (.tuple [mA true false 1 true true false,.bool true]),h):=by
 refine lB rfl rfl (lA (Ag _ _ _) ?_)
 simp -implicitDefEqProofs [Kk,lO,lC,lR,putCells,kW,l_,kK,mA,lD]
theorem agY (h:kL):KK 160 [.int .i64 7] h=some (.ret (.tuple [mA false false 1 false false false,.bool true]),h):=by
 refine lB rfl rfl (lA (Ag _ _ _) ?_)
 simp -implicitDefEqProofs [Kk,lO,lC,lR,putCells,kW,l_,kK,mA,lD]
theorem agZ (h:kL):KK 160 [.int .i64 8] h=some (.ret (.tuple [mA false false 1 false false false,.bool true]),h):=by
 refine lB rfl rfl (lA (Ag _ _ _) ?_)
 simp -implicitDefEqProofs [Kk,lO,lC,lR,putCells,kW,l_,kK,mA,lD]
theorem agR (k:Int) (hk:¬(1≤k∧k≤8)) (h:kL):KK 160 [.int .i64 k] h=some (.ret (.tuple [mA false false 0 false false false,.bool false]),h):=by
 refine lB rfl rfl (lA (Ag _ _ _) ?_)
 have n1:¬k=1:=by omega
 have n2:¬k=2:=by omega
 have n3:¬k=3:=by omega
 have n4:¬k=4:=by omega
 have n5:¬k=5:=by omega
 have n6:¬k=6:=by omega
 have n7:¬k=7:=by omega
 have n8:¬k=8:=by omega
 simp -implicitDefEqProofs [Kk,n1,n2,n3,n4,n5,n6,n7,n8,lO,lC,lR,putCells,kW,l_,kK,mA,lD]
theorem lF {x:GS}{h:kL}:lO 11 h (.agg x.cells)=some (.ptr h.length 0,h++[.cells x.cells]):=by
 simp [lO,x.tok,x.NK]
theorem GS.shut (x:GS):([kH.agg x.cells].all (kH.nO 0))=true:=by cases x; simp [GS.cells,kH.nO,kH.pT,qO]
theorem mJ {h:kL}:lO 6 h (.agg [.bool false,.bool false,.int .i64 0,.bool false,.bool false,.bool false])=some (.ptr h.length 0,h++[.cells [.bool false,.bool false,.int .i64 0,.bool false,.bool false,.bool false]]):=by
 simp [lO,lC]
theorem LU {t:GT}:sL [.i,.i,.i] (.agg t.cells) (.agg [.int .i64 0,.int .i64 0,.int .i64 0])=some (decide (t=GT.zero)):=by
 obtain⟨a,b,c⟩:=t
 simp only [GT.cells,GT.zero,GT.mk.injEq]
 by_cases h1:a=0 <;> by_cases h2:b=0 <;> by_cases h3:c=0 <;> simp [sL,qS,EF,beq_false_of_ne,h1,h2,h3]
def EA (x:GS):Prop:=∀h,KK 123 [.agg x.cells] h=some (.ret (.bool (tT x)),h)
def xU (l:List GS):Prop:=∀h,KK 66 [.slice (l.map GS.cells) .no] h=some (.ret (.bool (pJ l)),h)
theorem q9 (x:GS):tT x=(lP x.kind x.qZ x.name x.ty x.args x.body.length x.els.length x.has && pJ x.body && pJ x.els):=by cases x; simp only [tT]; rfl
theorem oY:lR [.int .i64 0,.int .i64 0,.int .i64 0] [(0,1),(1,1),(2,1)] []=some (.agg [.int .i64 0,.int .i64 0,.int .i64 0]):=rfl
theorem mI (t:GT):(t == GT.zero)=decide (t=GT.zero):=by by_cases h:t=GT.zero <;> simp [h]
end
section
open Go Hk
set_option maxHeartbeats 40000000 in
set_option maxRecDepth 100000 in
theorem akW (x:GS) (hk:x.kind=1) (hs:GE.oC x.args≤4611686018427387904) (hb:xU x.body) (he:xU x.els):EA x:=by
 intro h
 refine lB rfl x.shut (lA (Ae _ _ _) ?_)
 have e0:=agS
 have e1:=Za x.name
 have e2:=X6 x.qZ
 have e3:=ND x.args hs
 have e4:=UX x.ty
 have eb:=hb
 have ee:=he
 unfold xU at eb ee
 rw [q9]
 cases hN:lG x.name true
 ·
  simp -implicitDefEqProofs [oX,lF,mJ,e0,e1,e2,e3,e4,eb,ee,mA,hk,putCells,kK,lP,lJ,mI,oY,hN]
 ·
  cases hU:kZ x.qZ false
  ·
   simp -implicitDefEqProofs [oX,lF,mJ,e0,e1,e2,e3,e4,eb,ee,mA,hk,putCells,kK,lP,lJ,mI,oY,hN,hU]
  ·
   by_cases hL:x.args.length=1
   ·
    have hL':(x.args.length:Int)=1:=by omega
    cases hE:oB x.args
    ·
     simp -implicitDefEqProofs [oX,lF,mJ,e0,e1,e2,e3,e4,eb,ee,mA,hk,putCells,kK,lP,lJ,mI,oY,hN,hU,hL,hL',hE]
    ·
     have eq:=LU (t:=x.ty)
     by_cases hT:x.ty=GT.zero
     ·
      rw [decide_eq_true hT,hT] at eq
      by_cases hB:x.body.length=0
      ·
       cases hH:x.has
       ·
        by_cases hZ:x.els.length=0
        ·
         cases hP:pJ x.body
         ·
          simp -implicitDefEqProofs [oX,lF,mJ,e0,e1,e2,e3,e4,eb,ee,mA,hk,putCells,kK,lP,lJ,mI,oY,hN,hU,hL,hL',hE,eq,hT,hB,hH,hZ,hP]
         ·
          simp -implicitDefEqProofs [oX,lF,mJ,e0,e1,e2,e3,e4,eb,ee,mA,hk,putCells,kK,lP,lJ,mI,oY,hN,hU,hL,hL',hE,eq,hT,hB,hH,hZ,hP]
        ·
         have hZ':0 < x.els.length:=by omega
         simp -implicitDefEqProofs [oX,lF,mJ,e0,e1,e2,e3,e4,eb,ee,mA,hk,putCells,kK,lP,lJ,mI,oY,hN,hU,hL,hL',hE,eq,hT,hB,hH,hZ,hZ']
       ·
        simp -implicitDefEqProofs [oX,lF,mJ,e0,e1,e2,e3,e4,eb,ee,mA,hk,putCells,kK,lP,lJ,mI,oY,hN,hU,hL,hL',hE,eq,hT,hB,hH]
      ·
       have hB':0 < x.body.length:=by omega
       simp -implicitDefEqProofs [oX,lF,mJ,e0,e1,e2,e3,e4,eb,ee,mA,hk,putCells,kK,lP,lJ,mI,oY,hN,hU,hL,hL',hE,eq,hT,hB,hB']
     ·
      rw [decide_eq_false hT] at eq
      simp -implicitDefEqProofs [oX,lF,mJ,e0,e1,e2,e3,e4,eb,ee,mA,hk,putCells,kK,lP,lJ,mI,oY,hN,hU,hL,hL',hE,eq,hT]
   ·
    have hL':¬(x.args.length:Int)=1:=by omega
    simp -implicitDefEqProofs [oX,lF,mJ,e0,e1,e2,e3,e4,eb,ee,mA,hk,putCells,kK,lP,lJ,mI,oY,hN,hU,hL,hL']
set_option maxHeartbeats 40000000 in
set_option maxRecDepth 100000 in
theorem akX (x:GS) (hk:x.kind=2) (hs:GE.oC x.args≤4611686018427387904) (hb:xU x.body) (he:xU x.els):EA x:=by
 intro h
 refine lB rfl x.shut (lA (Ae _ _ _) ?_)
 have e0:=agT
 have e1:=Za x.name
 have e2:=X6 x.qZ
 have e3:=ND x.args hs
 have e4:=UX x.ty
 have eb:=hb
 have ee:=he
 unfold xU at eb ee
 rw [q9]
 cases hN:lG x.name true
 ·
  simp -implicitDefEqProofs [oX,lF,mJ,e0,e1,e2,e3,e4,eb,ee,mA,hk,putCells,kK,lP,lJ,mI,oY,hN]
 ·
  cases hU:kZ x.qZ false
  ·
   simp -implicitDefEqProofs [oX,lF,mJ,e0,e1,e2,e3,e4,eb,ee,mA,hk,putCells,kK,lP,lJ,mI,oY,hN,hU]
  ·
   by_cases hL:x.args.length=0
   ·
    have hL':(x.args.length:Int)=0:=by omega
    cases hE:oB x.args
    ·
     simp -implicitDefEqProofs [oX,lF,mJ,e0,e1,e2,e3,e4,eb,ee,mA,hk,putCells,kK,lP,lJ,mI,oY,hN,hU,hL,hL',hE]
    ·
     cases hT:tU x.ty
     ·
      simp -implicitDefEqProofs [oX,lF,mJ,e0,e1,e2,e3,e4,eb,ee,mA,hk,putCells,kK,lP,lJ,mI,oY,hN,hU,hL,hL',hE,hT]
     ·
      by_cases hB:x.body.length=0
      ·
       cases hH:x.has
       ·
        by_cases hZ:x.els.length=0
        ·
         cases hP:pJ x.body
         ·
          simp -implicitDefEqProofs [oX,lF,mJ,e0,e1,e2,e3,e4,eb,ee,mA,hk,putCells,kK,lP,lJ,mI,oY,hN,hU,hL,hL',hE,hT,hB,hH,hZ,hP]
         ·
          simp -implicitDefEqProofs [oX,lF,mJ,e0,e1,e2,e3,e4,eb,ee,mA,hk,putCells,kK,lP,lJ,mI,oY,hN,hU,hL,hL',hE,hT,hB,hH,hZ,hP]
        ·
         have hZ':0 < x.els.length:=by omega
         simp -implicitDefEqProofs [oX,lF,mJ,e0,e1,e2,e3,e4,eb,ee,mA,hk,putCells,kK,lP,lJ,mI,oY,hN,hU,hL,hL',hE,hT,hB,hH,hZ,hZ']
       ·
        simp -implicitDefEqProofs [oX,lF,mJ,e0,e1,e2,e3,e4,eb,ee,mA,hk,putCells,kK,lP,lJ,mI,oY,hN,hU,hL,hL',hE,hT,hB,hH]
      ·
       have hB':0 < x.body.length:=by omega
       simp -implicitDefEqProofs [oX,lF,mJ,e0,e1,e2,e3,e4,eb,ee,mA,hk,putCells,kK,lP,lJ,mI,oY,hN,hU,hL,hL',hE,hT,hB,hB']
   ·
    have hL':¬(x.args.length:Int)=0:=by omega
    simp -implicitDefEqProofs [oX,lF,mJ,e0,e1,e2,e3,e4,eb,ee,mA,hk,putCells,kK,lP,lJ,mI,oY,hN,hU,hL,hL']
end
section
open Go Hk
set_option maxHeartbeats 40000000 in
set_option maxRecDepth 100000 in
theorem akY (x:GS) (hk:x.kind=3) (hs:GE.oC x.args≤4611686018427387904) (hb:xU x.body) (he:xU x.els):EA x:=by
 intro h
 refine lB rfl x.shut (lA (Ae _ _ _) ?_)
 have e0:=agU
 have e1:=Za x.name
 have e2:=X6 x.qZ
 have e3:=ND x.args hs
 have e4:=UX x.ty
 have eb:=hb
 have ee:=he
 unfold xU at eb ee
 rw [q9]
 cases hN:lG x.name true
 ·
  simp -implicitDefEqProofs [oX,lF,mJ,e0,e1,e2,e3,e4,eb,ee,mA,hk,putCells,kK,lP,lJ,mI,oY,hN]
 ·
  cases hU:kZ x.qZ false
  ·
   simp -implicitDefEqProofs [oX,lF,mJ,e0,e1,e2,e3,e4,eb,ee,mA,hk,putCells,kK,lP,lJ,mI,oY,hN,hU]
  ·
   by_cases hL:x.args.length=1
   ·
    have hL':(x.args.length:Int)=1:=by omega
    cases hE:oB x.args
    ·
     simp -implicitDefEqProofs [oX,lF,mJ,e0,e1,e2,e3,e4,eb,ee,mA,hk,putCells,kK,lP,lJ,mI,oY,hN,hU,hL,hL',hE]
    ·
     have eq:=LU (t:=x.ty)
     by_cases hT:x.ty=GT.zero
     ·
      rw [decide_eq_true hT,hT] at eq
      by_cases hB:x.body.length=0
      ·
       cases hH:x.has
       ·
        by_cases hZ:x.els.length=0
        ·
         cases hP:pJ x.body
         ·
          simp -implicitDefEqProofs [oX,lF,mJ,e0,e1,e2,e3,e4,eb,ee,mA,hk,putCells,kK,lP,lJ,mI,oY,hN,hU,hL,hL',hE,eq,hT,hB,hH,hZ,hP]
         ·
          simp -implicitDefEqProofs [oX,lF,mJ,e0,e1,e2,e3,e4,eb,ee,mA,hk,putCells,kK,lP,lJ,mI,oY,hN,hU,hL,hL',hE,eq,hT,hB,hH,hZ,hP]
        ·
         have hZ':0 < x.els.length:=by omega
         simp -implicitDefEqProofs [oX,lF,mJ,e0,e1,e2,e3,e4,eb,ee,mA,hk,putCells,kK,lP,lJ,mI,oY,hN,hU,hL,hL',hE,eq,hT,hB,hH,hZ,hZ']
       ·
        simp -implicitDefEqProofs [oX,lF,mJ,e0,e1,e2,e3,e4,eb,ee,mA,hk,putCells,kK,lP,lJ,mI,oY,hN,hU,hL,hL',hE,eq,hT,hB,hH]
      ·
       have hB':0 < x.body.length:=by omega
       simp -implicitDefEqProofs [oX,lF,mJ,e0,e1,e2,e3,e4,eb,ee,mA,hk,putCells,kK,lP,lJ,mI,oY,hN,hU,hL,hL',hE,eq,hT,hB,hB']
     ·
      rw [decide_eq_false hT] at eq
      simp -implicitDefEqProofs [oX,lF,mJ,e0,e1,e2,e3,e4,eb,ee,mA,hk,putCells,kK,lP,lJ,mI,oY,hN,hU,hL,hL',hE,eq,hT]
   ·
    have hL':¬(x.args.length:Int)=1:=by omega
    simp -implicitDefEqProofs [oX,lF,mJ,e0,e1,e2,e3,e4,eb,ee,mA,hk,putCells,kK,lP,lJ,mI,oY,hN,hU,hL,hL']
set_option maxHeartbeats 40000000 in
set_option maxRecDepth 100000 in
theorem akZ (x:GS) (hk:x.kind=4) (hs:GE.oC x.args≤4611686018427387904) (hb:xU x.body) (he:xU x.els):EA x:=by
 intro h
 refine lB rfl x.shut (lA (Ae _ _ _) ?_)
 have e0:=agV
 have e1:=Za x.name
 have e2:=X6 x.qZ
 have e3:=ND x.args hs
 have e4:=UX x.ty
 have eb:=hb
 have ee:=he
 unfold xU at eb ee
 rw [q9]
 cases hN:lG x.name true
 ·
  simp -implicitDefEqProofs [oX,lF,mJ,e0,e1,e2,e3,e4,eb,ee,mA,hk,putCells,kK,lP,lJ,mI,oY,hN]
 ·
  cases hU:kZ x.qZ false
  ·
   simp -implicitDefEqProofs [oX,lF,mJ,e0,e1,e2,e3,e4,eb,ee,mA,hk,putCells,kK,lP,lJ,mI,oY,hN,hU]
  ·
   by_cases hL:x.args.length=2
   ·
    have hL':(x.args.length:Int)=2:=by omega
    cases hE:oB x.args
    ·
     simp -implicitDefEqProofs [oX,lF,mJ,e0,e1,e2,e3,e4,eb,ee,mA,hk,putCells,kK,lP,lJ,mI,oY,hN,hU,hL,hL',hE]
    ·
     have eq:=LU (t:=x.ty)
     by_cases hT:x.ty=GT.zero
     ·
      rw [decide_eq_true hT,hT] at eq
      by_cases hB:x.body.length=0
      ·
       cases hH:x.has
       ·
        by_cases hZ:x.els.length=0
        ·
         cases hP:pJ x.body
         ·
          simp -implicitDefEqProofs [oX,lF,mJ,e0,e1,e2,e3,e4,eb,ee,mA,hk,putCells,kK,lP,lJ,mI,oY,hN,hU,hL,hL',hE,eq,hT,hB,hH,hZ,hP]
         ·
          simp -implicitDefEqProofs [oX,lF,mJ,e0,e1,e2,e3,e4,eb,ee,mA,hk,putCells,kK,lP,lJ,mI,oY,hN,hU,hL,hL',hE,eq,hT,hB,hH,hZ,hP]
        ·
         have hZ':0 < x.els.length:=by omega
         simp -implicitDefEqProofs [oX,lF,mJ,e0,e1,e2,e3,e4,eb,ee,mA,hk,putCells,kK,lP,lJ,mI,oY,hN,hU,hL,hL',hE,eq,hT,hB,hH,hZ,hZ']
       ·
        simp -implicitDefEqProofs [oX,lF,mJ,e0,e1,e2,e3,e4,eb,ee,mA,hk,putCells,kK,lP,lJ,mI,oY,hN,hU,hL,hL',hE,eq,hT,hB,hH]
      ·
       have hB':0 < x.body.length:=by omega
       simp -implicitDefEqProofs [oX,lF,mJ,e0,e1,e2,e3,e4,eb,ee,mA,hk,putCells,kK,lP,lJ,mI,oY,hN,hU,hL,hL',hE,eq,hT,hB,hB']
     ·
      rw [decide_eq_false hT] at eq
      simp -implicitDefEqProofs [oX,lF,mJ,e0,e1,e2,e3,e4,eb,ee,mA,hk,putCells,kK,lP,lJ,mI,oY,hN,hU,hL,hL',hE,eq,hT]
   ·
    have hL':¬(x.args.length:Int)=2:=by omega
    simp -implicitDefEqProofs [oX,lF,mJ,e0,e1,e2,e3,e4,eb,ee,mA,hk,putCells,kK,lP,lJ,mI,oY,hN,hU,hL,hL']
end
end Go.Proofs.YtlddmnojanpdoaaGreatDoor
