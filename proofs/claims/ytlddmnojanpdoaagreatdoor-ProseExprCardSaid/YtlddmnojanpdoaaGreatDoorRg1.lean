/-
  The texts RG.M, RG.A, RG.B, RG.C, RG.D, RG.E, RG.F, RG.G, RG.H, RG.I, RG.J, RG.K, RG.L, RG.N, RG.O, RG.Q, RG.R, RG.S, one behind another. No conditions.
-/
import Derived.Test.YtlddmnojanpdoaaGreatDoorLg1
import Derived.Test.YtlddmnojanpdoaaGreatDoorSg1
set_option linter.unusedVariables false
set_option linter.unusedSimpArgs false
set_option linter.all false
open Bool renaming and_eq_true → ad0, false_eq_true → ac1
open Int renaming cast_ofNat_Int → ad3
open List renaming append_assoc → al8, append_nil → am4, cons_append → ae8, getD → aa5, getElem?_append_right → ae0, length → aa7, length_append → aa6, length_cons → ab0, length_map → al2, length_nil → ab3, map_append → al9, map_cons → af7, map_nil → al1, nil_append → ah4
open Nat renaming add_sub_cancel → am0, le_refl → ac8, zero_add → al0
open Option renaming bind_some → ae3
open Option.some renaming injEq → ab1
open Prod.mk renaming injEq → ae5
namespace Go.Proofs.YtlddmnojanpdoaaGreatDoor
noncomputable section
open Go Hk
def I4 (K:kX) (m:Nat) (s:List kH×kL):Option R :=
 (fun aA aC aB aG=>kM (K 61 [(kH.kN aA),(kH.kN (.str [44]))] aG) (fun aK aE=>kV aK ((kJ 2 aB).bind fun aD=>(kO false 1 aE aD).bind fun aL=>kM (K 60 [(kH.kN aA)] (nB (k_ [0] [aD]) aE)) (fun aM aF=>kS (kU 1 6 [(.int .i64 0),(.str []),(.int .i64 0),(.int .i64 0),(.int .i64 0),(.bool false)] [(0,aM)] (nB (k_ [0] [aD]) (lM (k_ [0] [aD]) aE aF))) fun aN aH=>kS (mB 6 56 (lM (k_ [0] [aD]) (lM (k_ [0] [aD]) aE aF) aH) aL aN) fun aO aI=>(kJ 2 aB).bind fun aP=>(kT 1 aI aP aO).bind fun aJ=>kW m .normal [aA,aC,aB] aJ) (fun _ _=>none)) (kW m (.exit 0) [aA,aC,aB] aE)) (fun _ _=>none)) (aa5 s.1 0 .junk) (aa5 s.1 1 .junk) (aa5 s.1 2 .junk) s.2
def m29 (K:kX) (a0:kH) (h0:kL):Option (nH×kL) :=
 (kS (lO 8 h0 (.agg [(.int .i64 0),(.str []),(.slice [] .nil),(.bool false),(.int .i64 0),(.int .i64 0),(.int .i64 0),(.slice [] .nil)])) fun t0 h1=>kS (lO 8 h1 (.agg [(.int .i64 0),(.str []),(.slice [] .nil),(.bool false),(.int .i64 0),(.int .i64 0),(.int .i64 0),(.slice [] .nil)])) fun t2 h3=>kM (K 57 [(kH.kN a0),(kH.kN (.str [102,110]))] h3) (fun t4 h5=>kM (K 58 [(kH.kN a0),(kH.kN (.int .i64 1))] h5) (fun t6 h7=>kS (lO 4 h7 (.agg [(.int .i64 0),(.int .i64 0),(.int .i64 0),(.str [])])) fun t8 h9=>(kT 4 h9 t8 t6).bind fun aQ=>(kJ 1 t8).bind fun bM=>(kO false 1 aQ bM).bind fun bN=>(kJ 0 t2).bind fun bO=>(kT 1 aQ bO bN).bind fun aR=>(kJ 3 t8).bind fun bP=>(kO false 1 aR bP).bind fun bQ=>(kJ 1 t2).bind fun bR=>(kT 1 aR bR bQ).bind fun a_=>kM (K 57 [(kH.kN a0),(kH.kN (.str [40]))] a_) (fun cE bA=>kM (K 59 [(kH.kN a0),(kH.kN (.str [41]))] bA) (fun bS aJ=>(vS .not bS).bind fun bT=>(kV bT ((kJ 2 t2).bind fun aI=>(kO false 1 aJ aI).bind fun bU=>kM (K 60 [(kH.kN a0)] (nB (k_ [0] [aI]) aJ)) (fun bV aS=>kS (kU 1 6 [(.int .i64 0),(.str []),(.int .i64 0),(.int .i64 0),(.int .i64 0),(.bool false)] [(0,bV)] (nB (k_ [0] [aI]) (lM (k_ [0] [aI]) aJ aS))) fun bW bB=>kS (mB 6 56 (lM (k_ [0] [aI]) (lM (k_ [0] [aI]) aJ aS) bB) bU bW) fun bX bC=>(kJ 2 t2).bind fun bY=>(kT 1 bC bY bX).bind fun aT=>(mL (I4 K (aa7 aT)) ([a0,t0,t2],aT)).bind fun aK=>(fun aC aD aG aU=>Ex.lW aK.1 none (fun aY=>Ex.inBlock 0 aY (some (.normal,[aC,aD,aG],aU)) (fun aZ=>some (aZ,[aC,aD,aG],aU)))) (aa5 aK.2.1 0 .junk) (aa5 aK.2.1 1 .junk) (aa5 aK.2.1 2 .junk) aK.2.2) (fun _ _=>none)) (some (.normal,[a0,t0,t2],aJ))).bind fun aL=>(fun aA aE aB bD=>Ex.sO aL.1 (kM (K 57 [(kH.kN aA),(kH.kN (.str [41]))] bD) (fun cF bE=>kM (K 61 [(kH.kN aA),(kH.kN (.str [58]))] bE) (fun bZ aV=>(kV bZ ((kJ 3 aB).bind fun b7=>(kT 1 aV b7 (.bool true)).bind fun bF=>kM (K 62 [(kH.kN aA)] bF) (fun b8 bG=>kM (K 63 [(kH.kN aA),(kH.kN (.bool true)),(kH.kN b8)] bG) (fun b9 bH=>(kJ 4 aB).bind fun b_=>(kT 3 bH b_ b9).bind fun bI=>some (.normal,[aA,aE,aB],bI)) (fun _ _=>none)) (fun _ _=>none)) (some (.normal,[aA,aE,aB],aV))).bind fun aM=>(fun aN aF aH bJ=>Ex.sO aM.1 (kM (K 64 [(kH.kN aN)] bJ) (fun cA bK=>(kJ 7 aH).bind fun cB=>(kT 1 bK cB cA).bind fun aW=>(kO true 8 aW aH).bind fun cC=>(kT 8 aW aF cC).bind fun bL=>some (.ret,[aF],bL)) (fun _ _=>none))) (aa5 aM.2.1 0 .junk) (aa5 aM.2.1 1 .junk) (aa5 aM.2.1 2 .junk) aM.2.2) (fun _ _=>none)) (fun _ _=>none))) (aa5 aL.2.1 0 .junk) (aa5 aL.2.1 1 .junk) (aa5 aL.2.1 2 .junk) aL.2.2) (fun _ _=>none)) (fun _ _=>none)) (fun _ _=>none)) (fun _ _=>none)).bind fun aP=>(fun aO aX=>Ex.mX aP.1 ((kO true 8 aX aO).bind fun cD=>lZ (aa7 h0) cD aX)) (aa5 aP.2.1 0 .junk) aP.2.2
theorem Wf (K:kX) (a0:kH) (h0:kL):pD Tryz.prog mK mL K 29 [a0] h0=m29 (lT mK K) a0 h0:=by kernel_rfl
def m57 (K:kX) (a0 a1:kH) (h0:kL):Option (nH×kL) :=
 ((kY a0).bind fun t0=>(kJ 3 t0).bind fun t1=>(kJ 0 t1).bind fun t2=>(kO false 1 h0 t2).bind fun t3=>(kR .neq t3 (.int .i64 0)).bind fun t4=>kV t4 (some (.ret,[],h0)) (kM (K 118 [(kH.kN a0)] h0) (fun t5 h6=>(kR .neq t5 a1).bind fun t7=>kV t7 (kM (K 119 [(kH.kN a0),(kH.kN (.int .i64 10))] h6) (fun t8 h9=>some (.ret,[],h9)) (fun _ _=>none)) ((kY a0).bind fun aD=>(kJ 1 aD).bind fun aE=>(kO false 1 h6 aE).bind fun aF=>(kR .add aF (.int .i64 1)).bind fun aG=>(kY a0).bind fun aH=>(kJ 1 aH).bind fun aI=>(kT 1 h6 aI aG).bind fun aB=>some (.normal,[],aB))) (fun _ _=>none))).bind fun aA=>(fun aC=>Ex.mX aA.1 (lZ (aa7 h0) (.tuple []) aC))  aA.2.2
theorem P7 (K:kX) (a0 a1:kH) (h0:kL):pD Tryz.prog mK mL K 57 [a0,a1] h0=m57 (lT mK K) a0 a1 h0:=by kernel_rfl
def m58 (K:kX) (a0 a1:kH) (h0:kL):Option (nH×kL) :=
 (kS (lO 4 h0 (.agg [(.int .i64 0),(.int .i64 0),(.int .i64 0),(.str [])])) fun t0 h1=>(kY a0).bind fun t2=>(kJ 3 t2).bind fun t3=>(kJ 0 t3).bind fun t4=>(kO false 1 h1 t4).bind fun t5=>(kR .neq t5 (.int .i64 0)).bind fun t6=>kV t6 ((lR [(.int .i64 0),(.int .i64 0),(.int .i64 0),(.str [])] [(0,1),(1,1),(2,1),(3,1)] []).bind fun t7=>(kT 4 h1 t0 t7).bind fun h8=>some (.ret,[t0],h8)) ((kY a0).bind fun t9=>(kJ 0 t9).bind fun aD=>(kO false 1 h1 aD).bind fun aN=>(kY a0).bind fun aO=>(kJ 1 aO).bind fun aE=>(kO false 1 h1 aE).bind fun aP=>(k9 4 aN aP).bind fun aF=>(kO true 4 h1 aF).bind fun aQ=>kS (lO 4 (nB (k_ [0,1,2] [aD,aE,aF]) h1) (.agg [(.int .i64 0),(.int .i64 0),(.int .i64 0),(.str [])])) fun aG aJ=>(kT 4 (lM (k_ [0,1,2] [aD,aE,aF]) h1 aJ) aG aQ).bind fun aB=>(kJ 0 aG).bind fun aR=>(kO false 1 aB aR).bind fun aS=>(kR .neq aS a1).bind fun aT=>kV aT (kM (K 119 [(kH.kN a0),(kH.kN (.int .i64 10))] aB) (fun bC aK=>(lR [(.int .i64 0),(.int .i64 0),(.int .i64 0),(.str [])] [(0,1),(1,1),(2,1),(3,1)] []).bind fun aU=>(kT 4 aK t0 aU).bind fun aL=>some (.ret,[t0],aL)) (fun _ _=>none)) ((kY a0).bind fun aV=>(kJ 1 aV).bind fun aW=>(kO false 1 aB aW).bind fun aX=>(kR .add aX (.int .i64 1)).bind fun aY=>(kY a0).bind fun aZ=>(kJ 1 aZ).bind fun a_=>(kT 1 aB a_ aY).bind fun aH=>(kO true 4 aH aG).bind fun bA=>(kT 4 aH t0 bA).bind fun aM=>some (.ret,[t0],aM)))).bind fun aC=>(fun aA aI=>Ex.mX aC.1 ((kO true 4 aI aA).bind fun bB=>lZ (aa7 h0) bB aI)) (aa5 aC.2.1 0 .junk) aC.2.2
theorem P8 (K:kX) (a0 a1:kH) (h0:kL):pD Tryz.prog mK mL K 58 [a0,a1] h0=m58 (lT mK K) a0 a1 h0:=by kernel_rfl
def m59 (K:kX) (a0 a1:kH) (h0:kL):Option (nH×kL) :=
 ((kY a0).bind fun t0=>(kJ 3 t0).bind fun t1=>(kJ 0 t1).bind fun t2=>(kO false 1 h0 t2).bind fun t3=>(kR .eql t3 (.int .i64 0)).bind fun t4=>(kI true t4 (kQ a0 h0) (kQ (.tuple []) h0)).bind (kP (fun t5 h6=>(kI true t4 (kM (K 118 [(kH.kN t5)] h6) (fun t7 h8=>kQ t7 h8) zG) (kQ (.tuple []) h6)).bind (kP (fun t9 aC=>(kI true t4 (kQ a1 aC) (kQ (.tuple []) aC)).bind (kP (fun aG aD=>(kI true t4 ((kR .eql t9 aG).bind fun aH=>kQ aH aD) (kQ (.tuple []) aD)).bind (kP (fun aI aE=>(lL t4 aI (.bool false)).bind fun aJ=>some (.ret,[aJ],aE)) (fun _ _=>none))) (fun _ _=>none))) (fun _ _=>none))) (fun _ _=>none))).bind fun aB=>(fun aA aF=>Ex.mX aB.1 (lZ (aa7 h0) aA aF)) (aa5 aB.2.1 0 .junk) aB.2.2
theorem Wq (K:kX) (a0 a1:kH) (h0:kL):pD Tryz.prog mK mL K 59 [a0,a1] h0=m59 (lT mK K) a0 a1 h0:=by kernel_rfl
def m60 (K:kX) (a0:kH) (h0:kL):Option (nH×kL) :=
 (kS (lO 6 h0 (.agg [(.int .i64 0),(.str []),(.int .i64 0),(.int .i64 0),(.int .i64 0),(.bool false)])) fun t0 h1=>kS (lO 6 h1 (.agg [(.int .i64 0),(.str []),(.int .i64 0),(.int .i64 0),(.int .i64 0),(.bool false)])) fun t2 h3=>kM (K 61 [(kH.kN a0),(kH.kN (.str [111,117,116]))] h3) (fun t4 h5=>(kJ 5 t2).bind fun t6=>(kT 1 h5 t6 t4).bind fun h7=>kM (K 62 [(kH.kN a0)] h7) (fun t8 h9=>kM (K 58 [(kH.kN a0),(kH.kN (.int .i64 1))] h9) (fun aN aH=>kS (lO 4 aH (.agg [(.int .i64 0),(.int .i64 0),(.int .i64 0),(.str [])])) fun aC aI=>(kT 4 aI aC aN).bind fun aD=>(kJ 1 aC).bind fun aO=>(kO false 1 aD aO).bind fun aP=>(kJ 0 t2).bind fun aQ=>(kT 1 aD aQ aP).bind fun aE=>(kJ 3 aC).bind fun aR=>(kO false 1 aE aR).bind fun aS=>(kJ 1 t2).bind fun aT=>(kT 1 aE aT aS).bind fun aJ=>kM (K 57 [(kH.kN a0),(kH.kN (.str [58]))] aJ) (fun aY aK=>kM (K 63 [(kH.kN a0),(kH.kN (.bool false)),(kH.kN t8)] aK) (fun aU aL=>(kJ 2 t2).bind fun aV=>(kT 3 aL aV aU).bind fun aF=>(kO true 6 aF t2).bind fun aW=>(kT 6 aF t0 aW).bind fun aM=>some (.ret,[t0],aM)) (fun _ _=>none)) (fun _ _=>none)) (fun _ _=>none)) (fun _ _=>none)) (fun _ _=>none)).bind fun aB=>(fun aA aG=>Ex.mX aB.1 ((kO true 6 aG aA).bind fun aX=>lZ (aa7 h0) aX aG)) (aa5 aB.2.1 0 .junk) aB.2.2
theorem ajL (K:kX) (a0:kH) (h0:kL):pD Tryz.prog mK mL K 60 [a0] h0=m60 (lT mK K) a0 h0:=by kernel_rfl
def m61 (K:kX) (a0 a1:kH) (h0:kL):Option (nH×kL) :=
 ((kY a0).bind fun t0=>(kJ 3 t0).bind fun t1=>(kJ 0 t1).bind fun t2=>(kO false 1 h0 t2).bind fun t3=>(kR .eql t3 (.int .i64 0)).bind fun t4=>(kI true t4 (kQ a0 h0) (kQ (.tuple []) h0)).bind (kP (fun t5 h6=>(kI true t4 (kM (K 118 [(kH.kN t5)] h6) (fun t7 h8=>kQ t7 h8) zG) (kQ (.tuple []) h6)).bind (kP (fun t9 aD=>(kI true t4 (kQ a1 aD) (kQ (.tuple []) aD)).bind (kP (fun aH aE=>(kI true t4 ((kR .eql t9 aH).bind fun aI=>kQ aI aE) (kQ (.tuple []) aE)).bind (kP (fun aJ aB=>(lL t4 aJ (.bool false)).bind fun aK=>kV aK ((kY a0).bind fun aL=>(kJ 1 aL).bind fun aM=>(kO false 1 aB aM).bind fun aN=>(kR .add aN (.int .i64 1)).bind fun aO=>(kY a0).bind fun aP=>(kJ 1 aP).bind fun aQ=>(kT 1 aB aQ aO).bind fun aF=>some (.ret,[(.bool true)],aF)) (some (.ret,[(.bool false)],aB))) (fun _ _=>none))) (fun _ _=>none))) (fun _ _=>none))) (fun _ _=>none))).bind fun aC=>(fun aA aG=>Ex.mX aC.1 (lZ (aa7 h0) aA aG)) (aa5 aC.2.1 0 .junk) aC.2.2
theorem Wr (K:kX) (a0 a1:kH) (h0:kL):pD Tryz.prog mK mL K 61 [a0,a1] h0=m61 (lT mK K) a0 a1 h0:=by kernel_rfl
def m62 (K:kX) (a0:kH) (h0:kL):Option (nH×kL) :=
 (kM (K 61 [(kH.kN a0),(kH.kN (.str [115,101,99]))] h0) (fun t0 h1=>kV t0 (some (.ret,[(.int .i64 1)],h1)) (kM (K 57 [(kH.kN a0),(kH.kN (.str [112,117,98]))] h1) (fun t2 h3=>some (.ret,[(.int .i64 0)],h3)) (fun _ _=>none))) (fun _ _=>none)).bind fun r4=>(fun aA h6=>Ex.mX r4.1 (lZ (aa7 h0) aA h6)) (aa5 r4.2.1 0 .junk) r4.2.2
theorem P9 (K:kX) (a0:kH) (h0:kL):pD Tryz.prog mK mL K 62 [a0] h0=m62 (lT mK K) a0 h0:=by kernel_rfl
def m63 (K:kX) (a0 a1 a2:kH) (h0:kL):Option (nH×kL) :=
 (kS (lO 3 h0 (.agg [(.int .i64 0),(.int .i64 0),(.int .i64 0)])) fun t0 h1=>(lR [(.int .i64 0),(.int .i64 0),(.int .i64 0)] [(0,1),(1,1),(2,1)] [(2,a2)]).bind fun t2=>kS (lO 3 h1 (.agg [(.int .i64 0),(.int .i64 0),(.int .i64 0)])) fun t3 h4=>(kT 3 h4 t3 t2).bind fun h5=>kM (K 61 [(kH.kN a0),(kH.kN (.str [109,97,115,107]))] h5) (fun t6 h7=>(kV t6 ((kJ 0 t3).bind fun t8=>(kT 1 h7 t8 (.int .i64 1)).bind fun h9=>some (.normal,[a0,t0,t3,(.bool false)],h9)) ((vS .not a1).bind fun aU=>(kI true aU (kQ a0 h7) (kQ (.tuple []) h7)).bind (kP (fun bQ aW=>(kI true aU (kM (K 61 [(kH.kN bQ),(kH.kN (.str [117,56]))] aW) (fun bR bE=>kQ bR bE) zG) (kQ (.tuple []) aW)).bind (kP (fun bS aX=>(lL aU bS (.bool false)).bind fun bT=>(kV bT ((kJ 0 t3).bind fun bU=>(kT 1 aX bU (.int .i64 2)).bind fun bF=>some (.normal,[a0,t0,t3,(.bool true)],bF)) (kM (K 57 [(kH.kN a0),(kH.kN (.str [117,51,50]))] aX) (fun cL aY=>(vS .not a1).bind fun aV=>(kI true aV (kQ a0 aY) (kQ (.tuple []) aY)).bind (kP (fun bV aZ=>(kI true aV (kM (K 59 [(kH.kN bV),(kH.kN (.str [91]))] aZ) (fun bW bG=>kQ bW bG) zG) (kQ (.tuple []) aZ)).bind (kP (fun bX bH=>(lL aV bX (.bool false)).bind fun bY=>some (.normal,[a0,t0,t3,bY],bH)) (fun _ _=>none))) (fun _ _=>none))) (fun _ _=>none))).bind fun aG=>(fun aK aL aO aQ bI=>Ex.sO aG.1 (some (.normal,[aK,aL,aO,aQ],bI))) (aa5 aG.2.1 0 .junk) (aa5 aG.2.1 1 .junk) (aa5 aG.2.1 2 .junk) (aa5 aG.2.1 3 .junk) aG.2.2) (fun _ _=>none))) (fun _ _=>none)))).bind fun aH=>(fun aA aB aC aR a_=>Ex.sO aH.1 ((kV aR (kM (K 57 [(kH.kN aA),(kH.kN (.str [91]))] a_) (fun cM aI=>(kY aA).bind fun bZ=>(kJ 0 bZ).bind fun b7=>(kO false 1 aI b7).bind fun b8=>(kY aA).bind fun b9=>(kJ 1 b9).bind fun b_=>(kO false 1 aI b_).bind fun cA=>(k9 4 b8 cA).bind fun cB=>(kJ 2 cB).bind fun cC=>(kO false 1 aI cC).bind fun cD=>(kR .eql cD (.int .i64 0)).bind fun cE=>(kV cE (kM (K 119 [(kH.kN aA),(kH.kN (.int .i64 10))] aI) (fun cN bJ=>some (.normal,[aA,aB,aC],bJ)) (fun _ _=>none)) (some (.normal,[aA,aB,aC],aI))).bind fun aJ=>(fun aD aM aF bK=>Ex.sO aJ.1 (kM (K 58 [(kH.kN aD),(kH.kN (.int .i64 2))] bK) (fun cF bL=>kS (lO 4 bL (.agg [(.int .i64 0),(.int .i64 0),(.int .i64 0),(.str [])])) fun bD bM=>(kT 4 bM bD cF).bind fun bA=>(kJ 2 bD).bind fun cG=>(kO false 1 bA cG).bind fun cH=>(kJ 1 aF).bind fun cI=>(kT 1 bA cI cH).bind fun bN=>kM (K 57 [(kH.kN aD),(kH.kN (.str [93]))] bN) (fun cO bO=>some (.normal,[aM,aF],bO)) (fun _ _=>none)) (fun _ _=>none))) (aa5 aJ.2.1 0 .junk) (aa5 aJ.2.1 1 .junk) (aa5 aJ.2.1 2 .junk) aJ.2.2) (fun _ _=>none)) (some (.normal,[aB,aC],a_))).bind fun aS=>(fun aE aP bB=>Ex.sO aS.1 ((kO true 3 bB aP).bind fun cJ=>(kT 3 bB aE cJ).bind fun bP=>some (.ret,[aE],bP))) (aa5 aS.2.1 0 .junk) (aa5 aS.2.1 1 .junk) aS.2.2)) (aa5 aH.2.1 0 .junk) (aa5 aH.2.1 1 .junk) (aa5 aH.2.1 2 .junk) (aa5 aH.2.1 3 .junk) aH.2.2) (fun _ _=>none)).bind fun aT=>(fun aN bC=>Ex.mX aT.1 ((kO true 3 bC aN).bind fun cK=>lZ (aa7 h0) cK bC)) (aa5 aT.2.1 0 .junk) aT.2.2
theorem F1 (K:kX) (a0 a1 a2:kH) (h0:kL):pD Tryz.prog mK mL K 63 [a0,a1,a2] h0=m63 (lT mK K) a0 a1 a2 h0:=by kernel_rfl
def F2 (K:kX) (m:Nat) (s:List kH×kL):Option R :=
 (fun aA aB aC h9=>(kY aA).bind fun aL=>(kJ 3 aL).bind fun aM=>(kJ 0 aM).bind fun aN=>(kO false 1 h9 aN).bind fun aO=>(kR .eql aO (.int .i64 0)).bind fun aD=>(kI true aD (kQ aA h9) (kQ (.tuple []) h9)).bind (kP (fun aP aE=>(kI true aD (kM (K 59 [(kH.kN aP),(kH.kN (.str [125]))] aE) (fun aQ aH=>kQ aQ aH) zG) (kQ (.tuple []) aE)).bind (kP (fun aR aF=>(kI true aD ((vS .not aR).bind fun aS=>kQ aS aF) (kQ (.tuple []) aF)).bind (kP (fun aT aG=>(lL aD aT (.bool false)).bind fun aU=>kV aU (kM (K 121 [(kH.kN aA)] aG) (fun aV aI=>kS (kU 1 11 [(.int .i64 0),(.int .i64 0),(.int .i64 0),(.str []),(.int .i64 0),(.int .i64 0),(.int .i64 0),(.slice [] .nil),(.slice [] .nil),(.slice [] .nil),(.bool false)] [(0,aV)] aI) fun aW aJ=>kS (mB 11 144 aJ aC aW) fun aX aK=>kW m .normal [aA,aB,aX] aK) (fun _ _=>none)) (kW m (.exit 0) [aA,aB,aC] aG)) (fun _ _=>none))) (fun _ _=>none))) (fun _ _=>none))) (aa5 s.1 0 .junk) (aa5 s.1 1 .junk) (aa5 s.1 2 .junk) s.2
def m64 (K:kX) (a0:kH) (h0:kL):Option (nH×kL) :=
 ((fun(t1:kH) (h0:kL)=>(fun(t3:kH) (h2:kL)=>kM (K 120 [(kH.kN a0),(kH.kN (.str [123]))] h2) (fun t4 h5=>(mL (F2 K (aa7 h5)) ([a0,t1,t3],h5)).bind fun aA=>(fun aB aC aE aG=>Ex.lW aA.1 none (fun aH=>Ex.inBlock 0 aH (kM (K 122 [(kH.kN aB),(kH.kN (.str [125]))] aG) (fun aL aJ=>some (.ret,[aE],aJ)) (fun _ _=>none)) (fun aI=>some (aI,[aC],aG)))) (aa5 aA.2.1 0 .junk) (aa5 aA.2.1 1 .junk) (aa5 aA.2.1 2 .junk) aA.2.2) (fun _ _=>none)) (.slice [] (.own (aa7 h0))) (h0++[.front 0 0])) (.slice [] (.own (aa7 h0))) (h0++[.front 0 0])).bind fun aF=>(fun aD aK=>Ex.mX aF.1 (lZ (aa7 h0) aD aK)) (aa5 aF.2.1 0 .junk) aF.2.2
theorem Ws (K:kX) (a0:kH) (h0:kL):pD Tryz.prog mK mL K 64 [a0] h0=m64 (lT mK K) a0 h0:=by kernel_rfl
def apS (K:kX) (a0:kH) (h0:kL):Option (nH×kL) :=
 ((kY a0).bind fun t0=>(kJ 0 t0).bind fun t1=>(kO false 1 h0 t1).bind fun t2=>(kY a0).bind fun t3=>(kJ 1 t3).bind fun t4=>(kO false 1 h0 t4).bind fun t5=>(k9 4 t2 t5).bind fun t6=>(kO true 4 h0 t6).bind fun t7=>kS (lO 4 (nB (k_ [0,1,2] [t1,t4,t6]) h0) (.agg [(.int .i64 0),(.int .i64 0),(.int .i64 0),(.str [])])) fun t8 h9=>(kT 4 (lM (k_ [0,1,2] [t1,t4,t6]) h0 h9) t8 t7).bind fun aC=>(kJ 0 t8).bind fun aI=>(kO false 1 aC aI).bind fun aJ=>(kR .eql aJ (.int .i64 3)).bind fun aB=>(kI false aB ((kJ 0 t8).bind fun aK=>kQ aK aC) (kQ (.tuple []) aC)).bind (kP (fun aL aD=>(kI false aB ((kO false 1 aD aL).bind fun aM=>kQ aM aD) (kQ (.tuple []) aD)).bind (kP (fun aN aG=>(kI false aB ((kR .eql aN (.int .i64 4)).bind fun aO=>kQ aO aG) (kQ (.tuple []) aG)).bind (kP (fun aP aE=>(lL aB (.bool true) aP).bind fun aQ=>kV aQ ((kJ 3 t8).bind fun aR=>(kO false 1 aE aR).bind fun aS=>some (.ret,[aS],aE)) (some (.ret,[(.str [])],aE))) (fun _ _=>none))) (fun _ _=>none))) (fun _ _=>none))).bind fun aF=>(fun aA aH=>Ex.mX aF.1 (lZ (aa7 h0) aA aH)) (aa5 aF.2.1 0 .junk) aF.2.2
theorem aaC (K:kX) (a0:kH) (h0:kL):pD Tryz.prog mK mL K 118 [a0] h0=apS (lT mK K) a0 h0:=by kernel_rfl
def aiH (K:kX) (a0 a1:kH) (h0:kL):Option (nH×kL) :=
 ((kY a0).bind fun t0=>(kJ 3 t0).bind fun t1=>(kJ 0 t1).bind fun t2=>(kO false 1 h0 t2).bind fun t3=>(kR .eql t3 (.int .i64 0)).bind fun t4=>(kV t4 ((kY a0).bind fun t5=>(kJ 0 t5).bind fun t6=>(kO false 1 h0 t6).bind fun t7=>(kY a0).bind fun t8=>(kJ 1 t8).bind fun t9=>(kO false 1 h0 t9).bind fun aF=>(k9 4 t7 aF).bind fun aG=>(kJ 1 aG).bind fun aH=>(kO false 1 h0 aH).bind fun aI=>(lR [(.int .i64 0),(.int .i64 0)] [(0,1),(1,1)] [(0,a1),(1,aI)]).bind fun aJ=>(kY a0).bind fun aK=>(kJ 3 aK).bind fun aL=>(kT 2 h0 aL aJ).bind fun aC=>some (.normal,[],aC)) (some (.normal,[],h0))).bind fun aA=>(fun aD=>Ex.sO aA.1 (some (.normal,[],aD)))  aA.2.2).bind fun aB=>(fun aE=>Ex.mX aB.1 (lZ (aa7 h0) (.tuple []) aE))  aB.2.2
theorem Rz (K:kX) (a0 a1:kH) (h0:kL):pD Tryz.prog mK mL K 119 [a0,a1] h0=aiH (lT mK K) a0 a1 h0:=by kernel_rfl
def V4 (K:kX) (a0 a1:kH) (h0:kL):Option (nH×kL) :=
 (kM (K 59 [(kH.kN a0),(kH.kN a1)] h0) (fun t0 h1=>(kI true t0 (kQ a0 h1) (kQ (.tuple []) h1)).bind (kP (fun t2 h3=>(kI true t0 ((kY t2).bind fun t4=>kQ t4 h3) (kQ (.tuple []) h3)).bind (kP (fun t5 h6=>(kI true t0 ((kJ 2 t5).bind fun t7=>kQ t7 h6) (kQ (.tuple []) h6)).bind (kP (fun t8 h9=>(kI true t0 ((kO false 1 h9 t8).bind fun aL=>kQ aL h9) (kQ (.tuple []) h9)).bind (kP (fun aM aD=>(kI true t0 ((kR .geq aM (.int .i64 64)).bind fun aN=>kQ aN aD) (kQ (.tuple []) aD)).bind (kP (fun aO aE=>(lL t0 aO (.bool false)).bind fun aP=>(kV aP (kM (K 119 [(kH.kN a0),(kH.kN (.int .i64 11))] aE) (fun aW aH=>some (.normal,[a0,a1],aH)) (fun _ _=>none)) (some (.normal,[a0,a1],aE))).bind fun aC=>(fun aA aB aI=>Ex.sO aC.1 (kM (K 57 [(kH.kN aA),(kH.kN aB)] aI) (fun aX aF=>(kY aA).bind fun aQ=>(kJ 2 aQ).bind fun aR=>(kO false 1 aF aR).bind fun aS=>(kR .add aS (.int .i64 1)).bind fun aT=>(kY aA).bind fun aU=>(kJ 2 aU).bind fun aV=>(kT 1 aF aV aT).bind fun aJ=>some (.normal,[],aJ)) (fun _ _=>none))) (aa5 aC.2.1 0 .junk) (aa5 aC.2.1 1 .junk) aC.2.2) (fun _ _=>none))) (fun _ _=>none))) (fun _ _=>none))) (fun _ _=>none))) (fun _ _=>none))) (fun _ _=>none)).bind fun aG=>(fun aK=>Ex.mX aG.1 (lZ (aa7 h0) (.tuple []) aK))  aG.2.2
theorem Hr (K:kX) (a0 a1:kH) (h0:kL):pD Tryz.prog mK mL K 120 [a0,a1] h0=V4 (lT mK K) a0 a1 h0:=by kernel_rfl
def Og (K:kX) (a0:kH) (h0:kL):Option (nH×kL) :=
 (kS (lO 11 h0 (.agg [(.int .i64 0),(.int .i64 0),(.int .i64 0),(.str []),(.int .i64 0),(.int .i64 0),(.int .i64 0),(.slice [] .nil),(.slice [] .nil),(.slice [] .nil),(.bool false)])) fun t0 h1=>(kY a0).bind fun t2=>(kJ 0 t2).bind fun t3=>(kO false 1 h1 t3).bind fun t4=>(kY a0).bind fun t5=>(kJ 1 t5).bind fun t6=>(kO false 1 h1 t6).bind fun t7=>(k9 4 t4 t7).bind fun t8=>(kJ 1 t8).bind fun t9=>(kO false 1 h1 t9).bind fun dL=>(lR [(.int .i64 0),(.int .i64 0),(.int .i64 0),(.str []),(.int .i64 0),(.int .i64 0),(.int .i64 0),(.slice [] .nil),(.slice [] .nil),(.slice [] .nil),(.bool false)] [(0,1),(1,1),(2,1),(3,1),(4,3),(7,1),(8,1),(9,1),(10,1)] [(1,dL)]).bind fun dN=>kS (lO 11 (nB (k_ [0,1,2] [t3,t6,t9]) h1) (.agg [(.int .i64 0),(.int .i64 0),(.int .i64 0),(.str []),(.int .i64 0),(.int .i64 0),(.int .i64 0),(.slice [] .nil),(.slice [] .nil),(.slice [] .nil),(.bool false)])) fun aA cL=>(kT 11 (lM (k_ [0,1,2] [t3,t6,t9]) h1 cL) aA dN).bind fun cM=>(kM (K 61 [(kH.kN a0),(kH.kN (.str [108,101,116]))] cM) (fun dO cE=>(kV dO ((kJ 0 aA).bind fun dP=>(kT 1 cE dP (.int .i64 1)).bind fun cN=>kM (K 58 [(kH.kN a0),(kH.kN (.int .i64 1))] cN) (fun dQ cO=>(sM false 1 3 dQ).bind fun dR=>(kJ 3 aA).bind fun dU=>(kT 1 cO dU dR).bind fun cP=>kM (K 57 [(kH.kN a0),(kH.kN (.str [61]))] cP) (fun fC cQ=>kM (K 157 [a0,(.slice [] .nil)] cQ) (fun dV cR=>(kJ 7 aA).bind fun dW=>(kT 1 cR dW dV).bind fun cS=>some (.normal,[t0,aA],cS)) (fun _ _=>none)) (fun _ _=>none)) (fun _ _=>none)) (kM (K 61 [(kH.kN a0),(kH.kN (.str [118,97,114]))] cE) (fun dX cF=>(kV dX ((kJ 0 aA).bind fun dY=>(kT 1 cF dY (.int .i64 2)).bind fun cT=>kM (K 62 [(kH.kN a0)] cT) (fun dZ cU=>kM (K 58 [(kH.kN a0),(kH.kN (.int .i64 1))] cU) (fun d_ cV=>(sM false 1 3 d_).bind fun eA=>(kJ 3 aA).bind fun eB=>(kT 1 cV eB eA).bind fun cW=>kM (K 57 [(kH.kN a0),(kH.kN (.str [58]))] cW) (fun fD cX=>kM (K 63 [(kH.kN a0),(kH.kN (.bool false)),(kH.kN dZ)] cX) (fun eC cY=>(kJ 4 aA).bind fun eD=>(kT 3 cY eD eC).bind fun cZ=>kM (K 57 [(kH.kN a0),(kH.kN (.str [59]))] cZ) (fun fE c6=>some (.normal,[t0,aA],c6)) (fun _ _=>none)) (fun _ _=>none)) (fun _ _=>none)) (fun _ _=>none)) (fun _ _=>none)) (kM (K 61 [(kH.kN a0),(kH.kN (.str [105,102]))] cF) (fun eE cG=>(kV eE ((kJ 0 aA).bind fun eF=>(kT 1 cG eF (.int .i64 5)).bind fun bC=>(kJ 7 aA).bind fun aU=>(kO false 1 bC aU).bind fun eG=>kM (K 158 [(kH.kN a0),(kH.kN (.int .i64 0))] (nB (k_ [0] [aU]) bC)) (fun eH cH=>kS (kU 1 5 [(.int .i64 0),(.int .i64 0),(.int .i64 0),(.str []),(.slice [] .nil)] [(0,eH)] (nB (k_ [0] [aU]) (lM (k_ [0] [aU]) bC cH))) fun eI c7=>kS (mB 5 64 (lM (k_ [0] [aU]) (lM (k_ [0] [aU]) bC cH) c7) eG eI) fun eJ c8=>(kJ 7 aA).bind fun eK=>(kT 1 c8 eK eJ).bind fun c9=>kM (K 64 [(kH.kN a0)] c9) (fun eL c_=>(kJ 8 aA).bind fun eM=>(kT 1 c_ eM eL).bind fun dA=>kM (K 61 [(kH.kN a0),(kH.kN (.str [101,108,115,101]))] dA) (fun eN cI=>(kV eN ((kJ 10 aA).bind fun eO=>(kT 1 cI eO (.bool true)).bind fun dB=>kM (K 64 [(kH.kN a0)] dB) (fun eP dC=>(kJ 9 aA).bind fun eQ=>(kT 1 dC eQ eP).bind fun dD=>some (.normal,[t0,aA],dD)) (fun _ _=>none)) (some (.normal,[t0,aA],cI))).bind fun bE=>(fun bA bB dE=>Ex.sO bE.1 (some (.normal,[bA,bB],dE))) (aa5 bE.2.1 0 .junk) (aa5 bE.2.1 1 .junk) bE.2.2) (fun _ _=>none)) (fun _ _=>none)) (fun _ _=>none)) (kM (K 61 [(kH.kN a0),(kH.kN (.str [102,111,114]))] cG) (fun eR cJ=>(kV eR ((kJ 0 aA).bind fun eS=>(kT 1 cJ eS (.int .i64 6)).bind fun dF=>kM (K 58 [(kH.kN a0),(kH.kN (.int .i64 1))] dF) (fun eT dG=>(sM false 1 3 eT).bind fun eU=>(kJ 3 aA).bind fun eV=>(kT 1 dG eV eU).bind fun dH=>kM (K 57 [(kH.kN a0),(kH.kN (.str [60]))] dH) (fun fF bD=>(kJ 7 aA).bind fun aV=>(kO false 1 bD aV).bind fun eX=>kM (K 158 [(kH.kN a0),(kH.kN (.int .i64 0))] (nB (k_ [0] [aV]) bD)) (fun eY cK=>kS (kU 1 5 [(.int .i64 0),(.int .i64 0),(.int .i64 0),(.str []),(.slice [] .nil)] [(0,eY)] (nB (k_ [0] [aV]) (lM (k_ [0] [aV]) bD cK))) fun eZ dI=>kS (mB 5 64 (lM (k_ [0] [aV]) (lM (k_ [0] [aV]) bD cK) dI) eX eZ) fun e_ dJ=>(kJ 7 aA).bind fun fB=>(kT 1 dJ fB e_).bind fun dK=>kM (K 57 [(kH.kN a0),(kH.kN (.str [109,97,120]))] dK) (fun dM bK=>kM (K 58 [(kH.kN a0),(kH.kN (.int .i64 2))] bK) (fun bV bL=>(sM false 1 2 bV).bind fun bW=>(kJ 2 aA).bind fun bX=>(kT 1 bL bX bW).bind fun bM=>kM (K 64 [(kH.kN a0)] bM) (fun bY bN=>(kJ 8 aA).bind fun bZ=>(kT 1 bN bZ bY).bind fun bO=>some (.normal,[t0,aA],bO)) (fun _ _=>none)) (fun _ _=>none)) (fun _ _=>none)) (fun _ _=>none)) (fun _ _=>none)) (fun _ _=>none)) (kM (K 61 [(kH.kN a0),(kH.kN (.str [114,101,116,117,114,110]))] cJ) (fun b7 aP=>kV b7 ((kJ 0 aA).bind fun b8=>(kT 1 aP b8 (.int .i64 8)).bind fun bP=>kM (K 157 [a0,(.slice [] .nil)] bP) (fun b9 bQ=>(kJ 7 aA).bind fun b_=>(kT 1 bQ b_ b9).bind fun bR=>some (.normal,[t0,aA],bR)) (fun _ _=>none)) ((kO true 11 aP aA).bind fun cA=>kM (K 159 [a0,cA] aP) (fun cB bS=>(kT 11 bS t0 cB).bind fun bT=>some (.ret,[t0,aA],bT)) (fun _ _=>none))) (fun _ _=>none))).bind fun aK=>(fun aC aG aW=>Ex.lW aK.1 (some (.normal,[aC,aG],aW)) (fun bF=>some (bF,[aC,aG],aW))) (aa5 aK.2.1 0 .junk) (aa5 aK.2.1 1 .junk) aK.2.2) (fun _ _=>none))).bind fun aL=>(fun aD aH aX=>Ex.lW aL.1 (some (.normal,[aD,aH],aX)) (fun bG=>some (bG,[aD,aH],aX))) (aa5 aL.2.1 0 .junk) (aa5 aL.2.1 1 .junk) aL.2.2) (fun _ _=>none))).bind fun aM=>(fun aE aI aY=>Ex.lW aM.1 (some (.normal,[aE,aI],aY)) (fun bH=>some (bH,[aE,aI],aY))) (aa5 aM.2.1 0 .junk) (aa5 aM.2.1 1 .junk) aM.2.2) (fun _ _=>none))).bind fun aN=>(fun aF aJ aZ=>Ex.lW aN.1 (some (.normal,[aF,aJ],aZ)) (fun bI=>some (bI,[aF,aJ],aZ))) (aa5 aN.2.1 0 .junk) (aa5 aN.2.1 1 .junk) aN.2.2) (fun _ _=>none)).bind fun aO=>(fun aB aT aQ=>Ex.inBlock 0 aO.1 ((kO true 11 aQ aT).bind fun cC=>(kT 11 aQ aB cC).bind fun bU=>some (.ret,[aB],bU)) (fun bJ=>some (bJ,[aB],aQ))) (aa5 aO.2.1 0 .junk) (aa5 aO.2.1 1 .junk) aO.2.2).bind fun aR=>(fun aS a_=>Ex.mX aR.1 ((kO true 11 a_ aS).bind fun cD=>lZ (aa7 h0) cD a_)) (aa5 aR.2.1 0 .junk) aR.2.2
theorem Cb (K:kX) (a0:kH) (h0:kL):pD Tryz.prog mK mL K 121 [a0] h0=Og (lT mK K) a0 h0:=by kernel_rfl
def aiJ (K:kX) (a0 a1:kH) (h0:kL):Option (nH×kL) :=
 (kM (K 57 [(kH.kN a0),(kH.kN a1)] h0) (fun t0 h1=>(kY a0).bind fun t2=>(kJ 2 t2).bind fun t3=>(kO false 1 h1 t3).bind fun t4=>(kR .sub t4 (.int .i64 1)).bind fun t5=>(kY a0).bind fun t6=>(kJ 2 t6).bind fun t7=>(kT 1 h1 t7 t5).bind fun h8=>some (.normal,[],h8)) (fun _ _=>none)).bind fun r9=>(fun aA=>Ex.mX r9.1 (lZ (aa7 h0) (.tuple []) aA))  r9.2.2
theorem RA (K:kX) (a0 a1:kH) (h0:kL):pD Tryz.prog mK mL K 122 [a0,a1] h0=aiJ (lT mK K) a0 a1 h0:=by kernel_rfl
def aiS (K:kX) (a0 a1:kH) (h0:kL):Option (nH×kL) :=
 ((fun(t1:kH) (h0:kL)=>kM (K 158 [(kH.kN a0),(kH.kN (.int .i64 0))] h0) (fun t2 h3=>kS (lO 5 h3 (.agg [(.int .i64 0),(.int .i64 0),(.int .i64 0),(.str []),(.slice [] .nil)])) fun t4 h5=>(kT 5 h5 t4 t2).bind fun h6=>kM (K 57 [(kH.kN a0),(kH.kN (.str [59]))] h6) (fun t7 h8=>(kO true 5 h8 t4).bind fun t9=>kS (kU 1 5 [(.int .i64 0),(.int .i64 0),(.int .i64 0),(.str []),(.slice [] .nil)] [(0,t9)] h8) fun aF aC=>kS (mB 5 64 aC a1 aF) fun aG aD=>some (.ret,[aG],aD)) (fun _ _=>none)) (fun _ _=>none)) (.slice [] (.own (aa7 h0))) (h0++[.front 0 0])).bind fun aB=>(fun aA aE=>Ex.mX aB.1 (L1 (aa7 h0) aA aE)) (aa5 aB.2.1 0 .junk) aB.2.2
theorem RD (K:kX) (a0 a1:kH) (h0:kL):pD Tryz.prog mK mL K 157 [a0,a1] h0=aiS (lT mK K) a0 a1 h0:=by kernel_rfl
def vP (K:kX) (m:Nat) (s:List kH×kL):Option R :=
 (fun aA aE aF aB aC aH aY=>(kY aA).bind fun b8=>(kJ 3 b8).bind fun b9=>(kJ 0 b9).bind fun b_=>(kO false 1 aY b_).bind fun cA=>(kR .eql cA (.int .i64 0)).bind fun cB=>kV cB (kM (K 118 [(kH.kN aA)] aY) (fun cC bR=>kM (K 185 [(kH.kN cC)] bR) (fun bO bD=>(lK 0 bO).bind fun aJ=>(lK 1 bO).bind fun cD=>(kR .leq aJ aE).bind fun aW=>(kI false aW (kQ aJ bD) (kQ (.tuple []) bD)).bind (kP (fun cE bE=>(kI false aW (kQ aH bE) (kQ (.tuple []) bE)).bind (kP (fun cF bF=>(kI false aW ((kR .gtr cE cF).bind fun cG=>kQ cG bF) (kQ (.tuple []) bF)).bind (kP (fun cH bG=>(lL aW (.bool true) cH).bind fun aU=>(kI false aU (kQ aJ bG) (kQ (.tuple []) bG)).bind (kP (fun cI bH=>(kI false aU ((kR .eql cI (.int .i64 1)).bind fun cJ=>kQ cJ bH) (kQ (.tuple []) bH)).bind (kP (fun cK bI=>(kI false aU (kQ cK bI) (kQ (.tuple []) bI)).bind (kP (fun bP bJ=>(kI true bP (kQ aC bJ) (kQ (.tuple []) bJ)).bind (kP (fun cL bK=>(kI false aU ((lL bP cL (.bool false)).bind fun cM=>kQ cM bK) (kQ (.tuple []) bK)).bind (kP (fun cN aV=>(lL aU (.bool true) cN).bind fun cO=>kV cO ((kO true 5 aV aB).bind fun cP=>(kT 5 aV aF cP).bind fun bS=>kW m .ret [aA,aE,aF,aB,aC,aH] bS) ((kI false aC (kQ aJ aV) (kQ (.tuple []) aV)).bind (kP (fun cQ bL=>(kI false aC ((kR .eql cQ (.int .i64 1)).bind fun cR=>kQ cR bL) (kQ (.tuple []) bL)).bind (kP (fun cS aS=>(lL aC (.bool true) cS).bind fun bQ=>(kY aA).bind fun cT=>(kJ 0 cT).bind fun bA=>(kO false 1 aS bA).bind fun cU=>(kY aA).bind fun cV=>(kJ 1 cV).bind fun bB=>(kO false 1 aS bB).bind fun cW=>(k9 4 cU cW).bind fun cX=>(kJ 1 cX).bind fun bC=>(kO false 1 aS bC).bind fun cY=>(lR [(.int .i64 0),(.int .i64 0),(.int .i64 0),(.str []),(.slice [] .nil)] [(0,1),(1,1),(2,1),(3,1),(4,1)] [(0,cD),(1,cY)]).bind fun cZ=>kS (lO 5 (nB (k_ [0,1,2] [bA,bB,bC]) aS) (.agg [(.int .i64 0),(.int .i64 0),(.int .i64 0),(.str []),(.slice [] .nil)])) fun aK bT=>(kT 5 (lM (k_ [0,1,2] [bA,bB,bC]) aS bT) aK cZ).bind fun bM=>(kY aA).bind fun c6=>(kJ 1 c6).bind fun c7=>(kO false 1 bM c7).bind fun c8=>(kR .add c8 (.int .i64 1)).bind fun c9=>(kY aA).bind fun c_=>(kJ 1 c_).bind fun dA=>(kT 1 bM dA c9).bind fun aZ=>(kJ 4 aK).bind fun dB=>(kO false 1 aZ dB).bind fun dC=>(kO true 5 aZ aB).bind fun dD=>kS (kU 1 5 [(.int .i64 0),(.int .i64 0),(.int .i64 0),(.str []),(.slice [] .nil)] [(0,dD)] aZ) fun dE bU=>kS (mB 5 64 bU dC dE) fun dF bV=>(kJ 4 aK).bind fun dG=>(kT 1 bV dG dF).bind fun aT=>(kR .eql aJ (.int .i64 5)).bind fun dH=>(kV dH (kM (K 58 [(kH.kN aA),(kH.kN (.int .i64 2))] aT) (fun dI bW=>(sM false 1 2 dI).bind fun dJ=>(kJ 2 aK).bind fun dK=>(kT 1 bW dK dJ).bind fun bX=>some (.normal,[aA,aE,aF,aB,bQ,aJ,aK],bX)) (fun _ _=>none)) ((kJ 4 aK).bind fun aQ=>(kO false 1 aT aQ).bind fun dL=>kM (K 158 [(kH.kN aA),(kH.kN aJ)] (nB (k_ [0] [aQ]) aT)) (fun dM bN=>kS (kU 1 5 [(.int .i64 0),(.int .i64 0),(.int .i64 0),(.str []),(.slice [] .nil)] [(0,dM)] (nB (k_ [0] [aQ]) (lM (k_ [0] [aQ]) aT bN))) fun dN bY=>kS (mB 5 64 (lM (k_ [0] [aQ]) (lM (k_ [0] [aQ]) aT bN) bY) dL dN) fun dO bZ=>(kJ 4 aK).bind fun dP=>(kT 1 bZ dP dO).bind fun b7=>some (.normal,[aA,aE,aF,aB,bQ,aJ,aK],b7)) (fun _ _=>none))).bind fun aD=>(fun aL aM aN aG aO aP aI aR=>Ex.sO aD.1 ((kO true 5 aR aI).bind fun a_=>(kT 5 aR aG a_).bind fun aX=>kW m .normal [aL,aM,aN,aG,aO,aP] aX)) (aa5 aD.2.1 0 .junk) (aa5 aD.2.1 1 .junk) (aa5 aD.2.1 2 .junk) (aa5 aD.2.1 3 .junk) (aa5 aD.2.1 4 .junk) (aa5 aD.2.1 5 .junk) (aa5 aD.2.1 6 .junk) aD.2.2) (fun _ _=>none))) (fun _ _=>none)))) (fun _ _=>none))) (fun _ _=>none))) (fun _ _=>none))) (fun _ _=>none))) (fun _ _=>none))) (fun _ _=>none))) (fun _ _=>none))) (fun _ _=>none))) (fun _ _=>none)) (fun _ _=>none)) (kW m (.exit 0) [aA,aE,aF,aB,aC,aH] aY)) (aa5 s.1 0 .junk) (aa5 s.1 1 .junk) (aa5 s.1 2 .junk) (aa5 s.1 3 .junk) (aa5 s.1 4 .junk) (aa5 s.1 5 .junk) s.2
def ap4 (K:kX) (a0 a1:kH) (h0:kL):Option (nH×kL) :=
 (kS (lO 5 h0 (.agg [(.int .i64 0),(.int .i64 0),(.int .i64 0),(.str []),(.slice [] .nil)])) fun t0 h1=>kM (K 184 [(kH.kN a0)] h1) (fun t2 h3=>kS (lO 5 h3 (.agg [(.int .i64 0),(.int .i64 0),(.int .i64 0),(.str []),(.slice [] .nil)])) fun t4 h5=>(kT 5 h5 t4 t2).bind fun h6=>(mL (vP K (aa7 h6)) ([a0,a1,t0,t4,(.bool false),(.int .i64 7)],h6)).bind fun aA=>(fun aM aN aB aF aO aP aC=>Ex.lW aA.1 none (fun aH=>Ex.inBlock 0 aH ((kO true 5 aC aF).bind fun aK=>(kT 5 aC aB aK).bind fun aJ=>some (.ret,[aB],aJ)) (fun aI=>some (aI,[aB],aC)))) (aa5 aA.2.1 0 .junk) (aa5 aA.2.1 1 .junk) (aa5 aA.2.1 2 .junk) (aa5 aA.2.1 3 .junk) (aa5 aA.2.1 4 .junk) (aa5 aA.2.1 5 .junk) aA.2.2) (fun _ _=>none)).bind fun aD=>(fun aE aG=>Ex.mX aD.1 ((kO true 5 aG aE).bind fun aL=>lZ (aa7 h0) aL aG)) (aa5 aD.2.1 0 .junk) aD.2.2
theorem aaY (K:kX) (a0 a1:kH) (h0:kL):pD Tryz.prog mK mL K 158 [a0,a1] h0=ap4 (lT mK K) a0 a1 h0:=by kernel_rfl
def aaZ (K:kX) (a0 a1:kH) (h0:kL):Option (nH×kL) :=
 (kS (lO 11 h0 a1) fun t0 h1=>kS (lO 11 h1 (.agg [(.int .i64 0),(.int .i64 0),(.int .i64 0),(.str []),(.int .i64 0),(.int .i64 0),(.int .i64 0),(.slice [] .nil),(.slice [] .nil),(.slice [] .nil),(.bool false)])) fun t2 h3=>kM (K 58 [(kH.kN a0),(kH.kN (.int .i64 1))] h3) (fun t4 h5=>kS (lO 4 h5 (.agg [(.int .i64 0),(.int .i64 0),(.int .i64 0),(.str [])])) fun t6 h7=>(kT 4 h7 t6 t4).bind fun h8=>kM (K 59 [(kH.kN a0),(kH.kN (.str [40]))] h8) (fun t9 aK=>(kV t9 ((kJ 0 t0).bind fun bI=>(kT 1 aK bI (.int .i64 7)).bind fun aC=>(kJ 7 t0).bind fun aB=>(kO false 1 aC aB).bind fun bJ=>(kO true 4 aC t6).bind fun bK=>kM (K 186 [(kH.kN a0),(kH.kN bK)] (nB (k_ [0] [aB]) aC)) (fun bL aL=>kS (kU 1 5 [(.int .i64 0),(.int .i64 0),(.int .i64 0),(.str []),(.slice [] .nil)] [(0,bL)] (nB (k_ [0] [aB]) (lM (k_ [0] [aB]) aC aL))) fun bM aU=>kS (mB 5 64 (lM (k_ [0] [aB]) (lM (k_ [0] [aB]) aC aL) aU) bJ bM) fun bN aV=>(kJ 7 t0).bind fun bO=>(kT 1 aV bO bN).bind fun aW=>kM (K 57 [(kH.kN a0),(kH.kN (.str [59]))] aW) (fun cE aX=>some (.normal,[t0,t2],aX)) (fun _ _=>none)) (fun _ _=>none)) (kM (K 59 [(kH.kN a0),(kH.kN (.str [91]))] aK) (fun bP aM=>(kV bP ((kJ 0 t0).bind fun bQ=>(kT 1 aM bQ (.int .i64 4)).bind fun aN=>(kJ 3 t6).bind fun bR=>(kO false 1 aN bR).bind fun bS=>(kJ 3 t0).bind fun bT=>(kT 1 aN bT bS).bind fun aO=>(kO true 4 aO t6).bind fun bU=>kM (K 186 [(kH.kN a0),(kH.kN bU)] aO) (fun bV aY=>kS (lO 5 aY (.agg [(.int .i64 0),(.int .i64 0),(.int .i64 0),(.str []),(.slice [] .nil)])) fun aT aZ=>(kT 5 aZ aT bV).bind fun a_=>kM (K 57 [(kH.kN a0),(kH.kN (.str [61]))] a_) (fun cF aP=>(kJ 4 aT).bind fun bW=>(kO false 1 aP bW).bind fun bX=>kM (K 157 [a0,bX] aP) (fun bY bA=>(kJ 7 t0).bind fun bZ=>(kT 1 bA bZ bY).bind fun bB=>some (.normal,[t0,t2],bB)) (fun _ _=>none)) (fun _ _=>none)) (fun _ _=>none)) ((kJ 0 t0).bind fun b7=>(kT 1 aM b7 (.int .i64 3)).bind fun aQ=>(kJ 3 t6).bind fun b8=>(kO false 1 aQ b8).bind fun b9=>(kJ 3 t0).bind fun b_=>(kT 1 aQ b_ b9).bind fun bC=>kM (K 57 [(kH.kN a0),(kH.kN (.str [61]))] bC) (fun cG bD=>kM (K 157 [a0,(.slice [] .nil)] bD) (fun cA bE=>(kJ 7 t0).bind fun cB=>(kT 1 bE cB cA).bind fun bF=>some (.normal,[t0,t2],bF)) (fun _ _=>none)) (fun _ _=>none))).bind fun aH=>(fun aD aF bG=>Ex.sO aH.1 (some (.normal,[aD,aF],bG))) (aa5 aH.2.1 0 .junk) (aa5 aH.2.1 1 .junk) aH.2.2) (fun _ _=>none))).bind fun aI=>(fun aE aA aR=>Ex.sO aI.1 ((kO true 11 aR aE).bind fun cC=>(kT 11 aR aA cC).bind fun bH=>some (.ret,[aA],bH))) (aa5 aI.2.1 0 .junk) (aa5 aI.2.1 1 .junk) aI.2.2) (fun _ _=>none)) (fun _ _=>none)).bind fun aJ=>(fun aG aS=>Ex.mX aJ.1 ((kO true 11 aS aG).bind fun cD=>L1 (aa7 h0) cD aS)) (aa5 aJ.2.1 0 .junk) aJ.2.2
theorem Mq (K:kX) (a0 a1:kH) (h0:kL):pD Tryz.prog mK mL K 159 [a0,a1] h0=aaZ (lT mK K) a0 a1 h0:=by kernel_rfl
def Wa (K:kX) (a0:kH) (h0:kL):Option (nH×kL) :=
 (kS (lO 5 h0 (.agg [(.int .i64 0),(.int .i64 0),(.int .i64 0),(.str []),(.slice [] .nil)])) fun t0 h1=>(kY a0).bind fun t2=>(kJ 3 t2).bind fun t3=>(kJ 0 t3).bind fun t4=>(kO false 1 h1 t4).bind fun t5=>(kR .neq t5 (.int .i64 0)).bind fun t6=>kV t6 ((lR [(.int .i64 0),(.int .i64 0),(.int .i64 0),(.str []),(.slice [] .nil)] [(0,1),(1,1),(2,1),(3,1),(4,1)] []).bind fun t7=>(kT 5 h1 t0 t7).bind fun h8=>some (.ret,[t0],h8)) ((kY a0).bind fun t9=>(kJ 0 t9).bind fun aW=>(kO false 1 h1 aW).bind fun bZ=>(kY a0).bind fun b7=>(kJ 1 b7).bind fun aX=>(kO false 1 h1 aX).bind fun b8=>(k9 4 bZ b8).bind fun b9=>(kJ 1 b9).bind fun aY=>(kO false 1 h1 aY).bind fun b_=>(lR [(.int .i64 0),(.int .i64 0),(.int .i64 0),(.str []),(.slice [] .nil)] [(0,1),(1,1),(2,1),(3,1),(4,1)] [(1,b_)]).bind fun cA=>kS (lO 5 (nB (k_ [0,1,2] [aW,aX,aY]) h1) (.agg [(.int .i64 0),(.int .i64 0),(.int .i64 0),(.str []),(.slice [] .nil)])) fun aE bK=>(kT 5 (lM (k_ [0,1,2] [aW,aX,aY]) h1 bK) aE cA).bind fun bL=>kM (K 118 [(kH.kN a0)] bL) (fun aD aR=>((kR .eql aD (.str [126])).bind fun cB=>(kV cB ((kJ 0 aE).bind fun cC=>(kT 1 aR cC (.int .i64 5)).bind fun bM=>some (.normal,[a0,t0,aE,aD],bM)) ((kR .eql aD (.str [45])).bind fun cD=>(kV cD ((kJ 0 aE).bind fun cE=>(kT 1 aR cE (.int .i64 6)).bind fun bN=>some (.normal,[a0,t0,aE,aD],bN)) ((kR .eql aD (.str [33])).bind fun cF=>kV cF ((kJ 0 aE).bind fun cG=>(kT 1 aR cG (.int .i64 7)).bind fun bO=>some (.normal,[a0,t0,aE,aD],bO)) ((kR .eql aD (.str [40])).bind fun cH=>kV cH (kM (K 120 [(kH.kN a0),(kH.kN (.str [40]))] aR) (fun cY bP=>kM (K 158 [(kH.kN a0),(kH.kN (.int .i64 0))] bP) (fun cI bQ=>kS (lO 5 bQ (.agg [(.int .i64 0),(.int .i64 0),(.int .i64 0),(.str []),(.slice [] .nil)])) fun bG bR=>(kT 5 bR bG cI).bind fun bS=>kM (K 122 [(kH.kN a0),(kH.kN (.str [41]))] bS) (fun cZ aZ=>(kO true 5 aZ bG).bind fun cJ=>(kT 5 aZ t0 cJ).bind fun bT=>some (.ret,[a0,t0,aE,aD],bT)) (fun _ _=>none)) (fun _ _=>none)) (fun _ _=>none)) (kM (K 209 [(kH.kN a0),(kH.kN aD)] aR) (fun cK bU=>(kT 5 bU t0 cK).bind fun bV=>some (.ret,[a0,t0,aE,aD],bV)) (fun _ _=>none))))).bind fun aN=>(fun aF aH aJ aL a_=>Ex.lW aN.1 (some (.normal,[aF,aH,aJ,aL],a_)) (fun bH=>some (bH,[aF,aH,aJ,aL],a_))) (aa5 aN.2.1 0 .junk) (aa5 aN.2.1 1 .junk) (aa5 aN.2.1 2 .junk) (aa5 aN.2.1 3 .junk) aN.2.2)).bind fun aO=>(fun aG aI aK aM bA=>Ex.lW aO.1 (some (.normal,[aG,aI,aK,aM],bA)) (fun bI=>some (bI,[aG,aI,aK,aM],bA))) (aa5 aO.2.1 0 .junk) (aa5 aO.2.1 1 .junk) (aa5 aO.2.1 2 .junk) (aa5 aO.2.1 3 .junk) aO.2.2).bind fun aP=>(fun aA aB aC aT bB=>Ex.inBlock 0 aP.1 (kM (K 120 [(kH.kN aA),(kH.kN aT)] bB) (fun c6 aU=>(kJ 4 aC).bind fun aQ=>(kO false 1 aU aQ).bind fun cL=>kM (K 184 [(kH.kN aA)] (nB (k_ [0] [aQ]) aU)) (fun cM bC=>kS (kU 1 5 [(.int .i64 0),(.int .i64 0),(.int .i64 0),(.str []),(.slice [] .nil)] [(0,cM)] (nB (k_ [0] [aQ]) (lM (k_ [0] [aQ]) aU bC))) fun cN bW=>kS (mB 5 64 (lM (k_ [0] [aQ]) (lM (k_ [0] [aQ]) aU bC) bW) cL cN) fun cO bX=>(kJ 4 aC).bind fun cP=>(kT 1 bX cP cO).bind fun bD=>(kY aA).bind fun cQ=>(kJ 2 cQ).bind fun cR=>(kO false 1 bD cR).bind fun cS=>(kR .sub cS (.int .i64 1)).bind fun cT=>(kY aA).bind fun cU=>(kJ 2 cU).bind fun cV=>(kT 1 bD cV cT).bind fun bE=>(kO true 5 bE aC).bind fun cW=>(kT 5 bE aB cW).bind fun bY=>some (.ret,[aB],bY)) (fun _ _=>none)) (fun _ _=>none)) (fun bJ=>some (bJ,[aB],bB))) (aa5 aP.2.1 0 .junk) (aa5 aP.2.1 1 .junk) (aa5 aP.2.1 2 .junk) (aa5 aP.2.1 3 .junk) aP.2.2) (fun _ _=>none))).bind fun aV=>(fun aS bF=>Ex.mX aV.1 ((kO true 5 bF aS).bind fun cX=>lZ (aa7 h0) cX bF)) (aa5 aV.2.1 0 .junk) aV.2.2
theorem Hs (K:kX) (a0:kH) (h0:kL):pD Tryz.prog mK mL K 184 [a0] h0=Wa (lT mK K) a0 h0:=by kernel_rfl
def E4 (K:kX) (m:Nat) (s:List kH×kL):Option R :=
 (fun aE aG aH aB aC aD aA aF=>(mS aB).bind fun aI=>(kR .lss aA aI).bind fun aJ=>kV aJ ((k9 1 aB aA).bind fun aK=>(kO false 1 aF aK).bind fun aL=>(kR .eql aL aE).bind fun aM=>kV aM ((k9 1 aD aA).bind fun aN=>(kO false 1 aF aN).bind fun aO=>(k9 1 aC aA).bind fun aP=>(kO false 1 aF aP).bind fun aQ=>kW m .ret [aE,aO,aQ,aB,aC,aD,aA] aF) ((kR .add aA (.int .i64 1)).bind fun aR=>kW m .normal [aE,aG,aH,aB,aC,aD,aR] aF)) (kW m (.exit 0) [aE,aG,aH,aB,aC,aD,aA] aF)) (aa5 s.1 0 .junk) (aa5 s.1 1 .junk) (aa5 s.1 2 .junk) (aa5 s.1 3 .junk) (aa5 s.1 4 .junk) (aa5 s.1 5 .junk) (aa5 s.1 6 .junk) s.2
def aa9 (K:kX) (a0:kH) (h0:kL):Option (nH×kL) :=
 ((kR .eql a0 (.str [])).bind fun t0=>kV t0 (some (.ret,[(.int .i64 0),(.int .i64 0)],h0)) (kS (kU 14 1 [(.str [])] [(0,(.str [61,61])),(1,(.str [33,61])),(2,(.str [60])),(3,(.str [60,61])),(4,(.str [62])),(5,(.str [62,61])),(6,(.str [124])),(7,(.str [94])),(8,(.str [38])),(9,(.str [60,60])),(10,(.str [62,62])),(11,(.str [43])),(12,(.str [45])),(13,(.str [42]))] h0) fun t1 h2=>kS (kU 14 1 [(.int .i64 0)] [(0,(.int .i64 17)),(1,(.int .i64 18)),(2,(.int .i64 19)),(3,(.int .i64 20)),(4,(.int .i64 21)),(5,(.int .i64 22)),(6,(.int .i64 12)),(7,(.int .i64 13)),(8,(.int .i64 11)),(9,(.int .i64 14)),(10,(.int .i64 15)),(11,(.int .i64 8)),(12,(.int .i64 9)),(13,(.int .i64 10))] h2) fun t3 h4=>kS (kU 14 1 [(.int .i64 0)] [(0,(.int .i64 1)),(1,(.int .i64 1)),(2,(.int .i64 1)),(3,(.int .i64 1)),(4,(.int .i64 1)),(5,(.int .i64 1)),(6,(.int .i64 2)),(7,(.int .i64 3)),(8,(.int .i64 4)),(9,(.int .i64 5)),(10,(.int .i64 5)),(11,(.int .i64 6)),(12,(.int .i64 6)),(13,(.int .i64 7))] h4) fun t5 h6=>(mL (E4 K (aa7 h6)) ([a0,(.int .i64 0),(.int .i64 0),t1,t3,t5,(.int .i64 0)],h6)).bind fun aA=>(fun aH aB aD aI aJ aK aL aG=>Ex.lW aA.1 none (fun aM=>Ex.inBlock 0 aM (some (.ret,[(.int .i64 0),(.int .i64 0)],aG)) (fun aN=>some (aN,[aB,aD],aG)))) (aa5 aA.2.1 0 .junk) (aa5 aA.2.1 1 .junk) (aa5 aA.2.1 2 .junk) (aa5 aA.2.1 3 .junk) (aa5 aA.2.1 4 .junk) (aa5 aA.2.1 5 .junk) (aa5 aA.2.1 6 .junk) aA.2.2)).bind fun aF=>(fun aC aE aO=>Ex.mX aF.1 (lZ (aa7 h0) (.tuple [aC,aE]) aO)) (aa5 aF.2.1 0 .junk) (aa5 aF.2.1 1 .junk) aF.2.2
theorem abA (K:kX) (a0:kH) (h0:kL):pD Tryz.prog mK mL K 185 [a0] h0=aa9 (lT mK K) a0 h0:=by kernel_rfl
def E5 (K:kX) (m:Nat) (s:List kH×kL):Option R :=
 (fun aA aC aB aG=>kM (K 61 [(kH.kN aA),(kH.kN (.str [44]))] aG) (fun aK aE=>kV aK ((kJ 4 aB).bind fun aD=>(kO false 1 aE aD).bind fun aL=>kM (K 158 [(kH.kN aA),(kH.kN (.int .i64 0))] (nB (k_ [0] [aD]) aE)) (fun aM aF=>kS (kU 1 5 [(.int .i64 0),(.int .i64 0),(.int .i64 0),(.str []),(.slice [] .nil)] [(0,aM)] (nB (k_ [0] [aD]) (lM (k_ [0] [aD]) aE aF))) fun aN aH=>kS (mB 5 64 (lM (k_ [0] [aD]) (lM (k_ [0] [aD]) aE aF) aH) aL aN) fun aO aI=>(kJ 4 aB).bind fun aP=>(kT 1 aI aP aO).bind fun aJ=>kW m .normal [aA,aC,aB] aJ) (fun _ _=>none)) (kW m (.exit 0) [aA,aC,aB] aE)) (fun _ _=>none)) (aa5 s.1 0 .junk) (aa5 s.1 1 .junk) (aa5 s.1 2 .junk) s.2
def Wb (K:kX) (a0 a1:kH) (h0:kL):Option (nH×kL) :=
 (kS (lO 4 h0 a1) fun t0 h1=>kS (lO 5 h1 (.agg [(.int .i64 0),(.int .i64 0),(.int .i64 0),(.str []),(.slice [] .nil)])) fun t2 h3=>(kJ 1 t0).bind fun t4=>(kO false 1 h3 t4).bind fun t5=>(kJ 3 t0).bind fun t6=>(kO false 1 h3 t6).bind fun t7=>(lR [(.int .i64 0),(.int .i64 0),(.int .i64 0),(.str []),(.slice [] .nil)] [(0,1),(1,1),(2,1),(3,1),(4,1)] [(0,(.int .i64 2)),(1,t5),(3,t7)]).bind fun t8=>kS (lO 5 h3 (.agg [(.int .i64 0),(.int .i64 0),(.int .i64 0),(.str []),(.slice [] .nil)])) fun t9 bD=>(kT 5 bD t9 t8).bind fun bE=>kM (K 59 [(kH.kN a0),(kH.kN (.str [40]))] bE) (fun bS aU=>(kV bS ((kJ 0 t9).bind fun bT=>(kT 1 aU bT (.int .i64 4)).bind fun bF=>kM (K 120 [(kH.kN a0),(kH.kN (.str [40]))] bF) (fun cG bG=>kM (K 59 [(kH.kN a0),(kH.kN (.str [41]))] bG) (fun bU aG=>(vS .not bU).bind fun bV=>(kV bV ((kJ 4 t9).bind fun aE=>(kO false 1 aG aE).bind fun bW=>kM (K 158 [(kH.kN a0),(kH.kN (.int .i64 0))] (nB (k_ [0] [aE]) aG)) (fun bX aV=>kS (kU 1 5 [(.int .i64 0),(.int .i64 0),(.int .i64 0),(.str []),(.slice [] .nil)] [(0,bX)] (nB (k_ [0] [aE]) (lM (k_ [0] [aE]) aG aV))) fun bY bH=>kS (mB 5 64 (lM (k_ [0] [aE]) (lM (k_ [0] [aE]) aG aV) bH) bW bY) fun bZ bI=>(kJ 4 t9).bind fun b7=>(kT 1 bI b7 bZ).bind fun aW=>(mL (E5 K (aa7 aW)) ([a0,t2,t9],aW)).bind fun aH=>(fun aA aB aD aX=>Ex.lW aH.1 none (fun bB=>Ex.inBlock 0 bB (some (.normal,[aA,aB,aD],aX)) (fun bC=>some (bC,[aA,aB,aD],aX)))) (aa5 aH.2.1 0 .junk) (aa5 aH.2.1 1 .junk) (aa5 aH.2.1 2 .junk) aH.2.2) (fun _ _=>none)) (some (.normal,[a0,t2,t9],aG))).bind fun aI=>(fun aJ aK aN bJ=>Ex.sO aI.1 (kM (K 122 [(kH.kN aJ),(kH.kN (.str [41]))] bJ) (fun cH bK=>some (.normal,[aK,aN],bK)) (fun _ _=>none))) (aa5 aI.2.1 0 .junk) (aa5 aI.2.1 1 .junk) (aa5 aI.2.1 2 .junk) aI.2.2) (fun _ _=>none)) (fun _ _=>none)) (kM (K 59 [(kH.kN a0),(kH.kN (.str [91]))] aU) (fun b8 aY=>(kV b8 ((kJ 0 t9).bind fun b9=>(kT 1 aY b9 (.int .i64 3)).bind fun bL=>kM (K 120 [(kH.kN a0),(kH.kN (.str [91]))] bL) (fun cI aQ=>(kJ 4 t9).bind fun aF=>(kO false 1 aQ aF).bind fun b_=>kM (K 158 [(kH.kN a0),(kH.kN (.int .i64 0))] (nB (k_ [0] [aF]) aQ)) (fun cA aZ=>kS (kU 1 5 [(.int .i64 0),(.int .i64 0),(.int .i64 0),(.str []),(.slice [] .nil)] [(0,cA)] (nB (k_ [0] [aF]) (lM (k_ [0] [aF]) aQ aZ))) fun cB bM=>kS (mB 5 64 (lM (k_ [0] [aF]) (lM (k_ [0] [aF]) aQ aZ) bM) b_ cB) fun cC bN=>(kJ 4 t9).bind fun cD=>(kT 1 bN cD cC).bind fun bO=>kM (K 122 [(kH.kN a0),(kH.kN (.str [93]))] bO) (fun cJ bP=>some (.normal,[t2,t9],bP)) (fun _ _=>none)) (fun _ _=>none)) (fun _ _=>none)) (some (.normal,[t2,t9],aY))).bind fun aR=>(fun aL aO bQ=>Ex.sO aR.1 (some (.normal,[aL,aO],bQ))) (aa5 aR.2.1 0 .junk) (aa5 aR.2.1 1 .junk) aR.2.2) (fun _ _=>none))).bind fun aS=>(fun aC aP a_=>Ex.sO aS.1 ((kO true 5 a_ aP).bind fun cE=>(kT 5 a_ aC cE).bind fun bR=>some (.ret,[aC],bR))) (aa5 aS.2.1 0 .junk) (aa5 aS.2.1 1 .junk) aS.2.2) (fun _ _=>none)).bind fun aT=>(fun aM bA=>Ex.mX aT.1 ((kO true 5 bA aM).bind fun cF=>some (.ret cF,bA))) (aa5 aT.2.1 0 .junk) aT.2.2
theorem Ht (K:kX) (a0 a1:kH) (h0:kL):pD Tryz.prog mK mL K 186 [a0,a1] h0=Wb (lT mK K) a0 a1 h0:=by kernel_rfl
def E7 (K:kX) (m:Nat) (s:List kH×kL):Option R :=
 (fun aD aH aI aJ aK aL aE aF aB aA aW=>(k9 1 aE aF).bind fun bC=>(kO false 1 aW bC).bind fun bD=>(kR .lss aA bD).bind fun bE=>kV bE ((kR .gtr aA (.int .i64 0)).bind fun bF=>(kV bF (kM (K 57 [(kH.kN aD),(kH.kN (.str [44]))] aW) (fun bM aZ=>some (.normal,[aD,aH,aI,aJ,aK,aL,aE,aF,aB,aA],aZ)) (fun _ _=>none)) (some (.normal,[aD,aH,aI,aJ,aK,aL,aE,aF,aB,aA],aW))).bind fun aG=>(fun aM aP aQ aR aS aT aU aV aC aN aX=>Ex.sO aG.1 ((kJ 4 aC).bind fun aO=>(kO false 1 aX aO).bind fun bG=>kM (K 158 [(kH.kN aM),(kH.kN (.int .i64 0))] (nB (k_ [0] [aO]) aX)) (fun bH aY=>kS (kU 1 5 [(.int .i64 0),(.int .i64 0),(.int .i64 0),(.str []),(.slice [] .nil)] [(0,bH)] (nB (k_ [0] [aO]) (lM (k_ [0] [aO]) aX aY))) fun bI a_=>kS (mB 5 64 (lM (k_ [0] [aO]) (lM (k_ [0] [aO]) aX aY) a_) bG bI) fun bJ bA=>(kJ 4 aC).bind fun bK=>(kT 1 bA bK bJ).bind fun bB=>(kR .add aN (.int .i64 1)).bind fun bL=>kW m .normal [aM,aP,aQ,aR,aS,aT,aU,aV,aC,bL] bB) (fun _ _=>none))) (aa5 aG.2.1 0 .junk) (aa5 aG.2.1 1 .junk) (aa5 aG.2.1 2 .junk) (aa5 aG.2.1 3 .junk) (aa5 aG.2.1 4 .junk) (aa5 aG.2.1 5 .junk) (aa5 aG.2.1 6 .junk) (aa5 aG.2.1 7 .junk) (aa5 aG.2.1 8 .junk) (aa5 aG.2.1 9 .junk) aG.2.2) (kW m (.exit 2) [aD,aH,aI,aJ,aK,aL,aE,aF,aB,aA] aW)) (aa5 s.1 0 .junk) (aa5 s.1 1 .junk) (aa5 s.1 2 .junk) (aa5 s.1 3 .junk) (aa5 s.1 4 .junk) (aa5 s.1 5 .junk) (aa5 s.1 6 .junk) (aa5 s.1 7 .junk) (aa5 s.1 8 .junk) (aa5 s.1 9 .junk) s.2
def tW (K:kX) (m:Nat) (s:List kH×kL):Option R :=
 (fun aC aG aR aI aJ aK a_ aD bF=>(kR .lss aD (.int .i64 5)).bind fun cI=>kV cI (((k9 1 aJ aD).bind fun cJ=>(kO false 1 bF cJ).bind fun cK=>(kR .neq cK aG).bind fun cL=>kV cL (some ((.exit 1),[aC,aG,aR,aI,aJ,aK,a_,aD],bF)) ((k9 1 aK aD).bind fun b9=>(kO false 1 bF b9).bind fun cM=>(kJ 1 aI).bind fun b_=>(kO false 1 bF b_).bind fun cN=>(lR [(.int .i64 0),(.int .i64 0),(.int .i64 0),(.str []),(.slice [] .nil)] [(0,1),(1,1),(2,1),(3,1),(4,1)] [(0,cM),(1,cN)]).bind fun cO=>kS (lO 5 (nB (k_ [0,1] [b9,b_]) bF) (.agg [(.int .i64 0),(.int .i64 0),(.int .i64 0),(.str []),(.slice [] .nil)])) fun cC cE=>(kT 5 (lM (k_ [0,1] [b9,b_]) bF cE) cC cO).bind fun cA=>(kY aC).bind fun cP=>(kJ 1 cP).bind fun cQ=>(kO false 1 cA cQ).bind fun cR=>(kR .add cR (.int .i64 1)).bind fun cS=>(kY aC).bind fun cT=>(kJ 1 cT).bind fun cU=>(kT 1 cA cU cS).bind fun cF=>kM (K 120 [(kH.kN aC),(kH.kN (.str [40]))] cF) (fun cV cB=>(mL (E7 K (aa7 cB)) ([aC,aG,aR,aI,aJ,aK,a_,aD,cC,(.int .i64 0)],cB)).bind fun aL=>(fun aE aH aS aU aW aY bA bC aF bO bE=>Ex.lW aL.1 none (fun cD=>Ex.inBlock 2 cD ((kR .eql aH (.str [114,111,114])).bind fun bW=>(kV bW (kM (K 57 [(kH.kN aE),(kH.kN (.str [44]))] bE) (fun cG bR=>kM (K 58 [(kH.kN aE),(kH.kN (.int .i64 2))] bR) (fun bX bS=>(sM false 1 2 bX).bind fun bY=>(kJ 2 aF).bind fun bZ=>(kT 1 bS bZ bY).bind fun bT=>some (.normal,[aE,aH,aS,aU,aW,aY,bA,bC,aF],bT)) (fun _ _=>none)) (fun _ _=>none)) (some (.normal,[aE,aH,aS,aU,aW,aY,bA,bC,aF],bE))).bind fun aA=>(fun aM bG aP bH bI bJ bK bL bD bU=>Ex.sO aA.1 (kM (K 122 [(kH.kN aM),(kH.kN (.str [41]))] bU) (fun cH bM=>(kO true 5 bM bD).bind fun b7=>(kT 5 bM aP b7).bind fun bV=>some (.ret,[aM,bG,aP,bH,bI,bJ,bK,bL],bV)) (fun _ _=>none))) (aa5 aA.2.1 0 .junk) (aa5 aA.2.1 1 .junk) (aa5 aA.2.1 2 .junk) (aa5 aA.2.1 3 .junk) (aa5 aA.2.1 4 .junk) (aa5 aA.2.1 5 .junk) (aa5 aA.2.1 6 .junk) (aa5 aA.2.1 7 .junk) (aa5 aA.2.1 8 .junk) aA.2.2) (fun bP=>some (bP,[aE,aH,aS,aU,aW,aY,bA,bC],bE)))) (aa5 aL.2.1 0 .junk) (aa5 aL.2.1 1 .junk) (aa5 aL.2.1 2 .junk) (aa5 aL.2.1 3 .junk) (aa5 aL.2.1 4 .junk) (aa5 aL.2.1 5 .junk) (aa5 aL.2.1 6 .junk) (aa5 aL.2.1 7 .junk) (aa5 aL.2.1 8 .junk) (aa5 aL.2.1 9 .junk) aL.2.2) (fun _ _=>none))).bind fun aB=>(fun aN aO aQ aT aV aX aZ bB bN=>Ex.inBlock 1 aB.1 ((kR .add bB (.int .i64 1)).bind fun b8=>kW m .normal [aN,aO,aQ,aT,aV,aX,aZ,b8] bN) (fun bQ=>kW m bQ [aN,aO,aQ,aT,aV,aX,aZ,bB] bN)) (aa5 aB.2.1 0 .junk) (aa5 aB.2.1 1 .junk) (aa5 aB.2.1 2 .junk) (aa5 aB.2.1 3 .junk) (aa5 aB.2.1 4 .junk) (aa5 aB.2.1 5 .junk) (aa5 aB.2.1 6 .junk) (aa5 aB.2.1 7 .junk) aB.2.2) (kW m (.exit 0) [aC,aG,aR,aI,aJ,aK,a_,aD] bF)) (aa5 s.1 0 .junk) (aa5 s.1 1 .junk) (aa5 s.1 2 .junk) (aa5 s.1 3 .junk) (aa5 s.1 4 .junk) (aa5 s.1 5 .junk) (aa5 s.1 6 .junk) (aa5 s.1 7 .junk) s.2
def abF (K:kX) (a0 a1:kH) (h0:kL):Option (nH×kL) :=
 (kS (lO 5 h0 (.agg [(.int .i64 0),(.int .i64 0),(.int .i64 0),(.str []),(.slice [] .nil)])) fun t0 h1=>(kY a0).bind fun t2=>(kJ 0 t2).bind fun t3=>(kO false 1 h1 t3).bind fun t4=>(kY a0).bind fun t5=>(kJ 1 t5).bind fun t6=>(kO false 1 h1 t6).bind fun t7=>(k9 4 t4 t7).bind fun t8=>(kO true 4 h1 t8).bind fun t9=>kS (lO 4 (nB (k_ [0,1,2] [t3,t6,t8]) h1) (.agg [(.int .i64 0),(.int .i64 0),(.int .i64 0),(.str [])])) fun bP bQ=>(kT 4 (lM (k_ [0,1,2] [t3,t6,t8]) h1 bQ) bP t9).bind fun bR=>kS (kU 5 1 [(.str [])] [(0,(.str [109,117,108,104,105])),(1,(.str [99,97,114,114,121])),(2,(.str [115,101,108,101,99,116])),(3,(.str [119,111,114,100])),(4,(.str [114,111,114]))] bR) fun bU bS=>kS (kU 5 1 [(.int .i64 0)] [(0,(.int .i64 23)),(1,(.int .i64 24)),(2,(.int .i64 25)),(3,(.int .i64 26)),(4,(.int .i64 16))] bS) fun bV bT=>kS (kU 5 1 [(.int .i64 0)] [(0,(.int .i64 2)),(1,(.int .i64 2)),(2,(.int .i64 3)),(3,(.int .i64 1)),(4,(.int .i64 1))] bT) fun bW bO=>(mL (tW K (aa7 bO)) ([a0,a1,t0,bP,bU,bV,bW,(.int .i64 0)],bO)).bind fun aB=>(fun aC bJ aA aD bK bL bM bN aE=>Ex.lW aB.1 none (fun aL=>Ex.inBlock 0 aL ((kJ 0 aD).bind fun aS=>(kO false 1 aE aS).bind fun aT=>(kR .eql aT (.int .i64 2)).bind fun aU=>kV aU ((kY aC).bind fun aV=>(kJ 1 aV).bind fun aW=>(kO false 1 aE aW).bind fun aX=>(kR .add aX (.int .i64 1)).bind fun aY=>(kY aC).bind fun aZ=>(kJ 1 aZ).bind fun a_=>(kT 1 aE a_ aY).bind fun aF=>(kJ 1 aD).bind fun bA=>(kO false 1 aF bA).bind fun bB=>(kJ 2 aD).bind fun bC=>(kO false 1 aF bC).bind fun bD=>(lR [(.int .i64 0),(.int .i64 0),(.int .i64 0),(.str []),(.slice [] .nil)] [(0,1),(1,1),(2,1),(3,1),(4,1)] [(0,(.int .i64 1)),(1,bB),(2,bD)]).bind fun bE=>(kT 5 aF aA bE).bind fun aN=>some (.ret,[aA],aN)) (kM (K 58 [(kH.kN aC),(kH.kN (.int .i64 1))] aE) (fun bF aO=>kS (lO 4 aO (.agg [(.int .i64 0),(.int .i64 0),(.int .i64 0),(.str [])])) fun aK aP=>(kT 4 aP aK bF).bind fun aI=>(kO true 4 aI aK).bind fun bG=>kM (K 186 [(kH.kN aC),(kH.kN bG)] aI) (fun bH aQ=>(kT 5 aQ aA bH).bind fun aR=>some (.ret,[aA],aR)) (fun _ _=>none)) (fun _ _=>none))) (fun aM=>some (aM,[aA],aE)))) (aa5 aB.2.1 0 .junk) (aa5 aB.2.1 1 .junk) (aa5 aB.2.1 2 .junk) (aa5 aB.2.1 3 .junk) (aa5 aB.2.1 4 .junk) (aa5 aB.2.1 5 .junk) (aa5 aB.2.1 6 .junk) (aa5 aB.2.1 7 .junk) aB.2.2).bind fun aG=>(fun aH aJ=>Ex.mX aG.1 ((kO true 5 aJ aH).bind fun bI=>lZ (aa7 h0) bI aJ)) (aa5 aG.2.1 0 .junk) aG.2.2
theorem Ms (K:kX) (a0 a1:kH) (h0:kL):pD Tryz.prog mK mL K 209 [a0,a1] h0=abF (lT mK K) a0 a1 h0:=by kernel_rfl
end
section
open Go Hk
def oI (w:List UInt8):Nat×Nat:=match nE w with
 | some (l,k)=>(l+1,k)
 | none=>(0,0)
def oD (t:Token):List UInt8:=if t.kind=3∨t.kind=4 then t.text else []
def uL (L:List Token):Prop:=∀a,(tk L a).kind=3→nE (tk L a).text=none
theorem N9 {w:List UInt8}{l k:Nat}(h:nE w=some (l,k)):l≤6∧((k=14∨k=15)↔l=4):=by
 by_cases h0:w=[61,61]
 ·rw [h0,show nE [61,61]=some (0,17) by decide] at h
  simp only [ab1,ae5] at h
  obtain⟨rfl,rfl⟩:=h; decide
 by_cases h1:w=[33,61]
 ·rw [h1,show nE [33,61]=some (0,18) by decide] at h
  simp only [ab1,ae5] at h
  obtain⟨rfl,rfl⟩:=h; decide
 by_cases h2:w=[60]
 ·rw [h2,show nE [60]=some (0,19) by decide] at h
  simp only [ab1,ae5] at h
  obtain⟨rfl,rfl⟩:=h; decide
 by_cases h3:w=[60,61]
 ·rw [h3,show nE [60,61]=some (0,20) by decide] at h
  simp only [ab1,ae5] at h
  obtain⟨rfl,rfl⟩:=h; decide
 by_cases h4:w=[62]
 ·rw [h4,show nE [62]=some (0,21) by decide] at h
  simp only [ab1,ae5] at h
  obtain⟨rfl,rfl⟩:=h; decide
 by_cases h5:w=[62,61]
 ·rw [h5,show nE [62,61]=some (0,22) by decide] at h
  simp only [ab1,ae5] at h
  obtain⟨rfl,rfl⟩:=h; decide
 by_cases h6:w=[124]
 ·rw [h6,show nE [124]=some (1,12) by decide] at h
  simp only [ab1,ae5] at h
  obtain⟨rfl,rfl⟩:=h; decide
 by_cases h7:w=[94]
 ·rw [h7,show nE [94]=some (2,13) by decide] at h
  simp only [ab1,ae5] at h
  obtain⟨rfl,rfl⟩:=h; decide
 by_cases h8:w=[38]
 ·rw [h8,show nE [38]=some (3,11) by decide] at h
  simp only [ab1,ae5] at h
  obtain⟨rfl,rfl⟩:=h; decide
 by_cases h9:w=[60,60]
 ·rw [h9,show nE [60,60]=some (4,14) by decide] at h
  simp only [ab1,ae5] at h
  obtain⟨rfl,rfl⟩:=h; decide
 by_cases h10:w=[62,62]
 ·rw [h10,show nE [62,62]=some (4,15) by decide] at h
  simp only [ab1,ae5] at h
  obtain⟨rfl,rfl⟩:=h; decide
 by_cases h11:w=[43]
 ·rw [h11,show nE [43]=some (5,8) by decide] at h
  simp only [ab1,ae5] at h
  obtain⟨rfl,rfl⟩:=h; decide
 by_cases h12:w=[45]
 ·rw [h12,show nE [45]=some (5,9) by decide] at h
  simp only [ab1,ae5] at h
  obtain⟨rfl,rfl⟩:=h; decide
 by_cases h13:w=[42]
 ·rw [h13,show nE [42]=some (6,10) by decide] at h
  simp only [ab1,ae5] at h
  obtain⟨rfl,rfl⟩:=h; decide
 exfalso
 unfold nE at h
 rw [if_neg h0,if_neg h1,if_neg h2,if_neg h3,if_neg h4,if_neg h5,if_neg h6,if_neg h7,if_neg h8,if_neg h9,if_neg h10,if_neg h11,if_neg h12,if_neg h13] at h
 cases h
theorem OW {w:List UInt8}:(oI w).1≤7∧((oI w).1≠0→(((oI w).2=14∨(oI w).2=15)↔(oI w).1=5)):=by
 unfold oI
 cases h:nE w with
 | none=>simp
 | some x =>
  obtain⟨l,k⟩:=x
  obtain⟨h1,h2⟩:=N9 h
  simp only
  refine⟨by omega,fun _=>?_⟩
  rw [h2]; omega
theorem Ai {t:Token}(hw:t.kind=3→nE t.text=none) (k:Nat):pM t k=if (oI (oD t)).1=k+1 then some (oI (oD t)).2 else none:=by
 have h0:nE []=none:=by decide
 unfold pM oD oI
 by_cases h4:t.kind=4
 ·simp only [h4,if_true,or_true]
  cases h:nE t.text with
  | none=>simp
  | some x=>obtain⟨l,kk⟩:=x; by_cases h5:l=k <;> simp [h5]
 ·by_cases h3:t.kind=3
  ·simp only [h3,true_or,if_true,hw h3]; simp
  ·simp [h3,h4,h0]
section
variable (L:List Token) (un:PM XE)
def zY (than:Nat):Nat→Nat→Bool→XE→PM XE
 | 0,_,_,_=>wB L 99
 | f+1,qZ,cmp,x=>do
  let t ←oF L
  if (oI (oD t)).1≤than∨qZ < (oI (oD t)).1∨((oI (oD t)).1=1∧cmp=true) then return x
  else
   wC
   if (oI (oD t)).1=5 then
    let c ←qH L 2
    zY than f (oI (oD t)).1 (cmp || decide ((oI (oD t)).1=1)) (.mk (oI (oD t)).2 t.pos c.num [] [x])
   else
    let y ←oP L un (7 - (oI (oD t)).1)
    zY than f (oI (oD t)).1 (cmp || decide ((oI (oD t)).1=1)) (.mk (oI (oD t)).2 t.pos 0 [] [x,y])
def TE (x:XE):PM XE:=do
 let t ←oF L
 match pM t 0 with
 | none=>return x
 | some kind =>
  wC
  let y ←oP L un 6
  return .mk kind t.pos 0 [] [x,y]
def yT (m:Nat) (x:XE):PM XE:=if m=1 then TE L un x else sQ L (oP L un (7 - m)) (m - 1) 131073 x
def uX (than:Nat):Nat→XE→PM XE
 | 0,x=>pure x
 | m+1,x=>if m+1≤than then pure x else do
  let x ←yT L un (m+1) x
  uX than m x
end
theorem AK {α β γ:Type}{x:PM α}{f:α→PM β}{g:β→PM γ}:PM.bind (PM.bind x f) g=PM.bind x fun v=>PM.bind (f v) g:=by
 funext a d
 unfold PM.bind
 cases x a d <;> rfl
theorem MC {α β:Type}{v:α}{f:α→PM β}:PM.bind (pure v) f=f v:=rfl
theorem Cg {α:Type}{x:PM α}:PM.bind x pure=x:=by
 funext a d
 unfold PM.bind
 cases x a d <;> rfl
theorem u9 {α:Type}{x:PM α}:(PM.bind x fun v=>pure v)=x:=Cg
section
variable {L:List Token}{un:PM XE}
theorem JE (j:Nat) (hj:j≤6):PM.bind un (uX L un (7 - j) 7)=oP L un j:=by
 have e:∀x,TE L un x=TE L un x:=fun _=>rfl
 match j,hj with
 | 0,_=>exact Cg
 | 1,_=>simp [uX,yT,mD,oP,AK,u9]
 | 2,_=>simp [uX,yT,mD,oP,AK,u9]
 | 3,_=>simp [uX,yT,mD,oP,AK,u9]
 | 4,_=>simp [uX,yT,mD,oP,AK,u9]
 | 5,_=>simp [uX,yT,mD,oP,AK,u9]
 | 6,_=>simp [uX,yT,mD,oP,AK,u9]
theorem TY:PM.bind un (uX L un 0 7)=A9 L un:=by
 have h:A9 L un=PM.bind (oP L un 6) (TE L un):=rfl
 rw [h,←JE 6 (by omega)]
 simp [uX,yT,mD,AK,Cg,MC]
variable (hK:qF L) (hW:uL L) (hg:lV L 1 (fun d=>d) un)
theorem S6 {next:PM XE}{k a d f:Nat}{x:XE}(hW:uL L) (h:(oI (oD (tk L a))).1≠k+1):sQ L next k (f+1) x a d=.ok x a d:=by
 have hs:pM (tk L a) k=none:=by rw [Ai (hW a),if_neg h]
 simp [sQ,mD,PM.bind,oF,hs,wZ]
theorem Jy {m a d:Nat}{x:XE}(hW:uL L) (hm:1≤m) (h:(oI (oD (tk L a))).1≠m):yT L un m x a d=.ok x a d:=by
 unfold yT
 split
 ·rename_i h1
  have hs:pM (tk L a) 0=none:=by rw [Ai (hW a),if_neg (by omega)]
  simp [TE,mD,PM.bind,oF,hs,wZ]
 ·exact S6 hW (by omega)
theorem Lj {than a d:Nat}{x:XE}(hW:uL L):∀(m:Nat),(oI (oD (tk L a))).1≤than∨m < (oI (oD (tk L a))).1→uX L un than m x a d=.ok x a d
 | 0,_=>rfl
 | m+1,h=>by
  unfold uX
  split
  ·rfl
  ·rename_i hn
   simp only [mD,PM.bind]
   rw [Jy hW (by omega) (by omega)]
   exact Lj hW m (by omega)
theorem Li {than a d:Nat}{x:XE}(hW:uL L):∀(m n:Nat),n=(oI (oD (tk L a))).1→than < n→n≤m→uX L un than m x a d=uX L un than n x a d
 | 0,n,h,h1,h2=>by omega
 | m+1,n,h,h1,h2=>by
  by_cases hn:n=m+1
  ·rw [hn]
  ·rw [←Li hW m n h h1 (by omega)]
   conv=>lhs; unfold uX
   rw [if_neg (by omega)]
   simp only [mD,PM.bind]
   rw [Jy hW (by omega) (by omega)]
include hK
theorem S5 {next:PM XE}{k:Nat}(hn:lV L 1 (fun d=>d) next):∀(f g:Nat) (x:XE) (a d:Nat),a < L.length→L.length < a+f→L.length < a+g→sQ L next k f x a d=sQ L next k g x a d:=by
 intro f
 induction f with
 | zero=>intro g x a d h1 h2; omega
 | succ f ih =>
  intro g x a d h1 h2 h3
  obtain⟨g,rfl⟩:∃j,g=j+1:=⟨g - 1,by omega⟩
  simp only [sQ,mD,PM.bind,oF]
  cases hs:pM (tk L a) k with
  | none=>rfl
  | some kind =>
   have hlt:=o9 (k:=4) hK h1 (by decide) (rA hs)
   simp only [PM.bind,wC]
   split
   ·simp only [PM.bind]
    cases hx:qH L 2 (a+1) d with
    | bad e p a' d'=>rfl
    | ok v a' d' =>
     obtain⟨g1,g2,_⟩:=rL hK (k:=2) (by omega) _ _ _ _ _ hx hlt
     exact ih g _ a' d' g2 (by omega) (by omega)
   ·simp only [PM.bind]
    cases hx:next (a+1) d with
    | bad e p a' d'=>rfl
    | ok v a' d' =>
     obtain⟨g1,g2,_⟩:=hn _ _ _ _ _ hx hlt
     exact ih g _ a' d' g2 (by omega) (by omega)
omit hK in
theorem Tb {than f a d:Nat}{x:XE}:zY L un than (f+1) 1 true x a d=.ok x a d:=by
 simp only [zY,mD,PM.bind,oF]
 split
 ·rfl
 ·rename_i h; exfalso; apply h; simp only [and_true]; omega
include hW hg
theorem Tc {than:Nat}(hL:L.length≤131072):∀(f m:Nat) (x:XE) (a d:Nat),a < L.length→L.length < a+f→m≤7→zY L un than f m false x a d=uX L un than m x a d:=by
 intro f
 induction f with
 | zero=>intro m x a d h1 h2; omega
 | succ f ih =>
  intro m x a d h1 h2 hm
  have hsk:=Ai (hW a)
  have htf:=(OW (w:=oD (tk L a))).2
  simp only [zY,mD,PM.bind,oF]
  obtain⟨n,hn⟩:∃n,n=(oI (oD (tk L a))).1:=⟨_,rfl⟩
  obtain⟨kind,hkind⟩:∃n,n=(oI (oD (tk L a))).2:=⟨_,rfl⟩
  rw [←hn,←hkind] at htf
  simp only [←hn,←hkind] at hsk ⊢
  by_cases hstop:n≤than∨m < n
  ·rw [if_pos (by rcases hstop with h | h <;> simp [h]),Lj hW m (by omega)]; rfl
  ·rw [if_neg (by simp; omega),Li hW m n hn (by omega) (by omega)]
   have hk:pM (tk L a) (n - 1)=some kind:=by rw [hsk,if_pos (by omega)]
   have hlt:=o9 (k:=4) hK h1 (by decide) (rA hk)
   obtain⟨n',hn'⟩:∃j,n=j+1:=⟨n - 1,by omega⟩
   have ht:uX L un than n x a d=PM.bind (yT L un n x) (uX L un than (n - 1)) a d:=by
    rw [hn']
    conv=>lhs; unfold uX
    rw [if_neg (by omega)]; rfl
   rw [ht]
   by_cases h1n:n=1
   ·subst h1n
    simp only [yT,if_true,TE,mD,PM.bind,oF,hk,wC]
    simp only [show ¬(1:Nat)=5 by omega,if_false]
    cases hx:oP L un (7 - 1) (a+1) d with
    | bad e p a' d'=>simp only [PM.bind,hx]
    | ok v a' d' =>
     obtain⟨g1,g2,_⟩:=Aa hK hg 6 _ _ _ _ _ hx hlt
     obtain⟨f,rfl⟩:∃j,f=j+1:=⟨f - 1,by omega⟩
     simp only [PM.bind,hx,decide_true,Bool.or_true,Tb,wZ,Nat.sub_self,uX]
   ·have e14:(kind=14∨kind=15)↔n=5:=htf (by omega)
    have hst:yT L un n x=sQ L (oP L un (7 - n)) (n - 1) (131072+1) x:=by unfold yT; rw [if_neg h1n]
    have hjoin:yT L un n x a d=(if kind=14∨kind=15 then(do
      let c ←qH L 2
      sQ L (oP L un (7 - n)) (n - 1) 131072 (.mk kind (tk L a).pos c.num [] [x]))
     else(do
      let y ←oP L un (7 - n)
      sQ L (oP L un (7 - n)) (n - 1) 131072 (.mk kind (tk L a).pos 0 [] [x,y]))) (a+1) d:=by
     rw [hst,sQ]
     simp only [mD,PM.bind,oF,hk,wC]
    have hgc:=Aa hK hg (7 - n)
    have fin:∀(x':XE) (a':Nat),a < a'→a' < L.length→zY L un than f n false x' a' d=match sQ L (oP L un (7 - n)) (n - 1) 131072 x' a' d with
      | .ok v a'' d''=>uX L un than (n - 1) v a'' d''
      | .bad e p a'' d''=>.bad e p a'' d'':=by
     intro x' a' h3 h4
     rw [ih n x' a' d h4 (by omega) (by omega)]
     have ht':uX L un than n x' a' d=PM.bind (yT L un n x') (uX L un than (n - 1)) a' d:=by
      rw [hn']
      conv=>lhs; unfold uX
      rw [if_neg (by omega)]; rfl
     have hst':yT L un n x'=sQ L (oP L un (7 - n)) (n - 1) 131073 x':=by unfold yT; rw [if_neg h1n]
     rw [ht',PM.bind,hst',S5 hK hgc 131073 131072 x' a' d h4 (by omega) (by omega)]
     cases sQ L (oP L un (7 - n)) (n - 1) 131072 x' a' d <;> rfl
    simp only [PM.bind,hjoin,wC,decide_eq_false h1n,Bool.or_false]
    by_cases h5:n=5
    ·rw [if_pos h5,if_pos (e14.2 h5)]
     simp only [mD,PM.bind]
     cases hx:qH L 2 (a+1) d with
     | bad e p a' d'=>rfl
     | ok v a' d' =>
      obtain⟨g1,g2,g3⟩:=rL hK (k:=2) (by omega) _ _ _ _ _ hx hlt
      have g3:d'=d:=g3
      subst g3
      simp only [fin _ a' (by omega) g2]
      cases sQ L (oP L un (7 - n)) (n - 1) 131072 (XE.mk kind (tk L a).pos v.num [] [x]) a' d' <;> rfl
    ·rw [if_neg h5,if_neg (fun h=>h5 (e14.1 h))]
     simp only [mD,PM.bind]
     cases hx:oP L un (7 - n) (a+1) d with
     | bad e p a' d'=>rfl
     | ok v a' d' =>
      obtain⟨g1,g2,g3⟩:=hgc _ _ _ _ _ hx hlt
      have g3:d'=d:=g3
      subst g3
      simp only [fin _ a' (by omega) g2]
      cases sQ L (oP L un (7 - n)) (n - 1) 131072 (XE.mk kind (tk L a).pos 0 [] [x,v]) a' d' <;> rfl
def Ja (L:List Token) (un:PM XE) (than:Nat):PM XE:=if than=0 then A9 L un else oP L un (7 - than)
theorem Td (hL:L.length≤131072) {than:Nat}(ht:than≤7) {a d:Nat}(ha:a < L.length):PM.bind un (zY L un than 131073 7 false) a d=Ja L un than a d:=by
 have h:PM.bind un (zY L un than 131073 7 false) a d=PM.bind un (uX L un than 7) a d:=by
  unfold PM.bind
  cases hx:un a d with
  | bad e p a' d'=>rfl
  | ok v a' d' =>
   obtain⟨g1,g2,_⟩:=hg _ _ _ _ _ hx ha
   exact Tc hK hW hg hL 131073 7 v a' d' g2 (by omega) (by omega)
 rw [h]
 unfold Ja
 split
 ·rename_i h0; rw [h0,TY]
 ·rw [←JE (7 - than) (by omega),show 7 - (7 - than)=than by omega]
end
end
section
open Go Hk
def RB (L:List Token) (a d e p:Nat):lH:=.cells [.slice (L.map Token.cells) .no,.int .i64 (a:Int),.int .i64 (d:Int),.int .i64 (e:Int),.int .i64 (p:Int)]
def RQ (A:List lH) (L:List Token) (a d e p:Nat) (B:List lH):kL:=A++RB L a d e p::B
section
variable {A B C:List lH}{L:List Token}{a d er p k:Nat}
theorem au7:nR (RQ A L a d er p B) A.length=some [.slice (L.map Token.cells) .no,.int .i64 (a:Int),.int .i64 (d:Int),.int .i64 (er:Int),.int .i64 (p:Int)]:=by simp [RQ,nR,RB]
theorem Ar {a' d' e' p':Nat}:List.set (RQ A L a d er p B) A.length (.cells [.slice (L.map Token.cells) .no,.int .i64 (a':Int),.int .i64 (d':Int),.int .i64 (e':Int),.int .i64 (p':Int)])=RQ A L a' d' e' p' B:=by
 unfold RQ; rw [List.set_append_right _ _ (ac8 _),Nat.sub_self]; rfl
theorem an8 {a' e' p':Nat}:List.set (RQ A L a d er p B) A.length (.cells [.slice (L.map Token.cells) .no,.int .i64 (a':Int),.int .i64 ((d:Int)+1),.int .i64 (e':Int),.int .i64 (p':Int)])=RQ A L a' (d+1) e' p' B:=Ar (d':=d+1)
theorem O5:RQ A L a d er p B++C=RQ A L a d er p (B++C):=by simp [RQ]
theorem Lq:(RQ A L a d er p B).length=HN A B:=by simp [RQ,HN]; omega
theorem Um:nR (RQ A L a d er p (B++C)) (HN A B+k)=nR C k:=by
 unfold nR RQ HN
 rw [ae0 (by omega),show A.length+1+B.length+k - A.length=B.length+k+1 by omega,List.getElem?_cons_succ,ae0 (by omega),show B.length+k - B.length=k by omega]
theorem YA:nR (RQ A L a d er p (B++C)) (HN A B)=nR C 0:=Um (k:=0)
theorem Ky:(RQ A L a d er p (B++C))[HN A B+k]?=C[k]?:=by
 unfold RQ HN
 rw [ae0 (by omega),show A.length+1+B.length+k - A.length=B.length+k+1 by omega,List.getElem?_cons_succ,ae0 (by omega),show B.length+k - B.length=k by omega]
theorem Nf:sN (RQ A L a d er p (B++C)) (HN A B+k)=sN C k:=by unfold sN; rw [Ky]
theorem HX {x:lH}:List.set (RQ A L a d er p (B++C)) (HN A B+k) x=RQ A L a d er p (B++C.set k x):=by
 unfold RQ HN
 rw [List.set_append_right _ _ (by omega),show A.length+1+B.length+k - A.length=B.length+k+1 by omega,List.set_cons_succ,List.set_append_right _ _ (by omega),show B.length+k - B.length=k by omega]
theorem YE {x:lH}:List.set (RQ A L a d er p (B++C)) (HN A B) x=RQ A L a d er p (B++C.set 0 x):=HX (k:=0)
theorem Ng:o8 (RQ A L a d er p (B++C)) (HN A B+k)=RQ A L a d er p (B++o8 C k):=by
 unfold o8
 rw [Ky]
 cases C[k]? with
 | none=>rfl
 | some b=>cases b <;> first | rfl | exact HX
theorem HY {a' d' e' p':Nat}{C':List lH}:mU (RQ A L a d er p (B++C)) (RQ A L a' d' e' p' (B++C')) (HN A B+k)=RQ A L a' d' e' p' (B++mU C C' k):=by
 unfold mU
 rw [Ky]
 cases C[k]? with
 | none=>rfl
 | some b=>cases b <;> first | rfl | exact HX
theorem Bt (h:KB A B):l_ (HN A B) (RQ A L a d er p (B++C))=some (RQ A L a d er p B):=by
 have e:RQ A L a d er p (B++C)=RQ A L a d er p B++C:=O5.symm
 unfold Hk.l_
 rw [e,←Lq (L:=L) (a:=a) (d:=d) (er:=er) (p:=p),List.take_left,Lq]
 exact Ba (h.a _ (ac8 _) _ _ (ac8 _)) (by
  have:o6 (HN A B) (RQ A L a d er p B++C) (RB L a d er p)=some (RB L a d er p):=rfl
  simp only [nA,this,h.b _ (ac8 _) _ _ (ac8 _)])
theorem KA (h:KB A B):l_ (HN A B) (RQ A L a d er p B)=some (RQ A L a d er p B):=by
 have:=Bt (L:=L) (a:=a) (d:=d) (er:=er) (p:=p) (C:=[]) h
 rwa [am4] at this
theorem Yz {v:kH}(h:KB A B):lZ (HN A B) v (RQ A L a d er p (B++C))=some (.ret (v.vL (HN A B) (RQ A L a d er p (B++C))).kN,RQ A L a d er p B):=by simp [lZ,Bt h]
theorem Ul {v:kH}(h:KB A B):lZ (HN A B) v (RQ A L a d er p B)=some (.ret (v.vL (HN A B) (RQ A L a d er p B)).kN,RQ A L a d er p B):=by simp [lZ,KA h]
theorem Hd {rows new:List (List kH)}{sz by_ sz':Nat}{t:Tok}(hc:C[k]?=some (.front rows.length sz')) (hs:sz'=sz∨rows.length=0∧sz'=0) (hr:∀r∈new,r.length=sz) (hn:new≠[])
  (hb:(rows.length+new.length) * by_≤140737488355328) (hb2:rows.length+new.length≤140737488355328) :
  mB sz by_ (RQ A L a d er p (B++C)) (.slice rows (.own (HN A B+k))) (.slice new t) =
   some (.slice (rows++new) (.own (HN A B+k)),RQ A L a d er p (B++C.set k (.front (rows.length+new.length) sz))):=by
 have h1:(new.all fun r=>r.length == sz)=true:=by simpa using hr
 have h2:¬new.length=0:=by simpa using hn
 simp only [mB,p8,h1,if_true,Ky,hc]
 rw [if_pos ⟨trivial,hs,hb,hb2⟩,if_neg h2,HX]
theorem xD (h:KB A (B++C.take k)) (hk:k≤C.length):l_ (HN A B+k) (RQ A L a d er p (B++C))=some (RQ A L a d er p (B++C.take k)):=by
 have:=Bt (L:=L) (a:=a) (d:=d) (er:=er) (p:=p) (C:=C.drop k) h
 rw [Bh,al8,List.take_append_drop,List.length_take,Nat.min_eq_left hk] at this
 exact this
theorem KC {C1 C1' C2:List lH}(hB:KB A B) (hk:k=C1.length) (hs:nA (HN A B+k) (RQ A L a d er p (B++(C1++C2))) C1=some C1') :
  l_ (HN A B+k) (RQ A L a d er p (B++(C1++C2)))=some (RQ A L a d er p (B++C1')):=by
 subst hk
 have e:RQ A L a d er p (B++(C1++C2))=RQ A L a d er p (B++C1)++C2:=by rw [O5,al8]
 have hl:HN A B+C1.length=(RQ A L a d er p (B++C1)).length:=by rw [Lq,Bh]
 have app:∀{m:Nat}{h:kL}{X Y X' Y':List lH},nA m h X=some X'→nA m h Y=some Y'→nA m h (X++Y)=some (X'++Y'):=by
  intro m h X
  induction X with
  | nil=>intro Y X' Y' h1 h2; simp [nA] at h1; subst h1; exact h2
  | cons b r ih =>
   intro Y X' Y' h1 h2
   rw [nS,Option.bind_eq_some_iff] at h1
   obtain⟨b',e1,e2⟩:=h1
   rw [Option.map_eq_some_iff] at e2
   obtain⟨r',e3,rfl⟩:=e2
   rw [ae8,nS,e1,ae3,ih e3 h2]
   rfl
 unfold Hk.l_
 rw [show List.take (HN A B+C1.length) (RQ A L a d er p (B++(C1++C2)))=RQ A L a d er p (B++C1) by rw [e,hl,List.take_left]]
 unfold RQ at hs ⊢
 have hPB:∀m h,o6 m h (RB L a d er p)=some (RB L a d er p):=fun _ _=>rfl
 refine app (hB.a _ (ac8 _) _ _ (by omega)) ?_
 rw [nS,hPB,ae3,app (hB.b _ (ac8 _) _ _ (by omega)) hs]
 rfl
theorem Un {d':Nat}:List.set (RQ A L a d er p B) A.length (.cells [.slice (L.map Token.cells) .no,.int .i64 ((a:Int)+1),.int .i64 (d':Int),.int .i64 0,.int .i64 0])=RQ A L (a+1) d' 0 0 B:=Ar (a':=a+1) (e':=0) (p':=0)
theorem YF {a':Nat}:List.set (RQ A L a d er p B) A.length (.cells [.slice (L.map Token.cells) .no,.int .i64 ((a':Int)+1),.int .i64 ((d:Int)+1),.int .i64 0,.int .i64 0])=RQ A L (a'+1) (d+1) 0 0 B:=Ar (a':=a'+1) (d':=d+1) (e':=0) (p':=0)
theorem YG {a' p':Nat}:List.set (RQ A L a d er p B) A.length (.cells [.slice (L.map Token.cells) .no,.int .i64 (a':Int),.int .i64 ((d:Int)+1),.int .i64 10,.int .i64 (p':Int)])=RQ A L a' (d+1) 10 p' B:=Ar (d':=d+1) (e':=10)
theorem YH {a' p':Nat}:List.set (RQ A L a d er p B) A.length (.cells [.slice (L.map Token.cells) .no,.int .i64 (a':Int),.int .i64 ((d:Int)+1),.int .i64 11,.int .i64 (p':Int)])=RQ A L a' (d+1) 11 p' B:=Ar (d':=d+1) (e':=11)
attribute [simp] YG YH
def GQ (A:List lH) (B:List lH):kL:=A++.gone::B
theorem afO:GQ A B++C=GQ A (B++C):=by simp [GQ]
theorem afP:(GQ A B).length=HN A B:=by simp [GQ,HN]; omega
theorem YB:o8 (RQ A L a d er p B) A.length=GQ A B:=by
 unfold o8
 have:(RQ A L a d er p B)[A.length]?=some (RB L a d er p):=by unfold RQ; rw [ae0 (ac8 _),Nat.sub_self]; rfl
 rw [this]
 simp only [RB,RQ,GQ]
 rw [List.set_append_right _ _ (ac8 _),Nat.sub_self]; rfl
theorem Yk:o8 (GQ A B) A.length=GQ A B:=by
 unfold o8
 have:(GQ A B)[A.length]?=some .gone:=by unfold GQ; rw [ae0 (ac8 _),Nat.sub_self]; rfl
 rw [this]
theorem Se {a' d' e' p':Nat}:mU (RQ A L a d er p B) (RQ A L a' d' e' p' C) A.length=RQ A L a d er p C:=by
 unfold mU
 have:(RQ A L a d er p B)[A.length]?=some (RB L a d er p):=by unfold RQ; rw [ae0 (ac8 _),Nat.sub_self]; rfl
 rw [this]
 simp only [RB,RQ]
 rw [List.set_append_right _ _ (ac8 _),Nat.sub_self]; rfl
theorem R6:mU (RQ A L a d er p B) (GQ A C) A.length=RQ A L a d er p C:=by
 unfold mU
 have:(RQ A L a d er p B)[A.length]?=some (RB L a d er p):=by unfold RQ; rw [ae0 (ac8 _),Nat.sub_self]; rfl
 rw [this]
 simp only [RB,RQ,GQ]
 rw [List.set_append_right _ _ (ac8 _),Nat.sub_self]; rfl
attribute [simp] Un YF afO afP YB Yk Se R6
attribute [simp] au7 Ar an8 Ng HY Nf Lq O5 Um YA Ky HX YE Yz Ul
end
end
section
open Go Hk
def uR {α:Type}(o:Out α) (v:α) (a' e' p':Nat):Prop:=match o with
 | .ok v0 a0 _=>v=v0∧a'=a0∧e'=0∧p'=0
 | .bad e p _ _=>e'=e∧p'=p∧e≠0
def ROk (L:List Token) (dk:Nat→Prop) (f:Nat) (args:List kH) (k:Nat→Nat) {α:Type}(enc:α→kH) (x:PM α):Prop :=
 ∀A B a d,a < L.length→dk d→KB A B→∃v a' e' p',KK f (.ptr A.length 0::args) (RQ A L a d 0 0 B)=some (.ret (enc v),RQ A L a' (k d) e' p' B)∧a' < L.length∧uR (x a d) v a' e' p'
def GX (L:List Token) (dk:Nat→Prop) (f:Nat) (args:List kH) (k:Nat→Nat) (r:kH):Prop :=
 ∀A B a d e p,a < L.length→dk d→KB A B→e≠0→KK f (.ptr A.length 0::args) (RQ A L a d e p B)=some (.ret r,RQ A L a (k d) e p B)
theorem tX {t:Token}{w:List UInt8}(hw:w≠[]):oD t=w↔isS t w=true:=by
 unfold oD isS
 by_cases h3:t.kind=3
 ·simp [h3]
 ·by_cases h4:t.kind=4
  ·simp [h4]
  ·simp [h3,h4,Ne.symm hw]
section
variable {L:List Token}(hL:L.length≤131072)
theorem C9 {A B:List lH}{a d e p:Nat}(ha:a < L.length) (hB:KB A B):KK 118 [.ptr A.length 0] (RQ A L a d e p B)=some (.ret (.str (oD (tk L a))),RQ A L a d e p B):=by
 refine lA (aaC _ _ _) ?_
 simp -implicitDefEqProofs [apS,ha,hB]
 generalize tk L a=t
 obtain⟨k,q,n,x⟩:=t
 by_cases h3:k=3
 ·subst h3; simp -implicitDefEqProofs [Token.cells,oD,hB]
 ·have h3':¬(k:Int)=3:=by omega
  by_cases h4:k=4
  ·subst h4; simp -implicitDefEqProofs [Token.cells,oD,hB]
  ·have h4':¬(k:Int)=4:=by omega
   simp -implicitDefEqProofs [Token.cells,oD,hB,h3,h3',h4,h4']
theorem ab6 {A B:List lH}{a d p:Nat}(e0:Nat) (ha:a < L.length) (hB:KB A B):KK 119 [.ptr A.length 0,.int .i64 (e0:Int)] (RQ A L a d 0 p B)=some (.ret (.tuple []),RQ A L a d e0 (tk L a).pos B):=by
 refine lA (Rz _ _ _ _) ?_
 simp -implicitDefEqProofs [aiH,ha,hB,Token.cells]
theorem arH {A B:List lH}{a d e p:Nat}(e0:Nat) (ha:a < L.length) (hB:KB A B) (he:e≠0):KK 119 [.ptr A.length 0,.int .i64 (e0:Int)] (RQ A L a d e p B)=some (.ret (.tuple []),RQ A L a d e p B):=by
 refine lA (Rz _ _ _ _) ?_
 have he':¬(e:Int)=0:=by omega
 simp -implicitDefEqProofs [aiH,ha,hB,he,he']
include hL
theorem OC {w:List UInt8}(hw:w≠[]) (hK:qF L):ROk L (fun _=>True) 57 [.str w] (fun d=>d) tJ (oA L w):=by
 intro A B a d ha hd hB
 have h184:=fun e p=>C9 (L:=L) (d:=d) (e:=e) (p:=p) ha hB
 have h185:=ab6 (L:=L) (d:=d) (p:=0) 10 ha hB
 simp only [ad3] at h185
 have w1:=uJ (a:=a) (by omega)
 have ht:=tX (t:=tk L a) hw
 cases hs:isS (tk L a) w
 ·have ht':¬oD (tk L a)=w:=fun h=>by rw [ht.1 h] at hs; cases hs
  refine⟨(),a,10,(tk L a).pos,lA (P7 _ _ _ _) ?_,ha,?_⟩
  ·simp -implicitDefEqProofs [m57,ha,hB,h184,h185,ht']
  ·simp [uR,oA,hs]
 ·have ht':=ht.2 hs
  have ha1:=mH hK ha hs
  refine⟨(),a+1,0,0,lA (P7 _ _ _ _) ?_,ha1,?_⟩
  ·simp -implicitDefEqProofs [m57,ha,hB,h184,ht',w1]
  ·simp [uR,oA,hs]
theorem OD {w:List UInt8}:GX L (fun _=>True) 57 [.str w] (fun d=>d) (.tuple []):=by
 intro A B a d e p ha hd hB he
 refine lA (P7 _ _ _ _) ?_
 have he':¬(e:Int)=0:=by omega
 simp -implicitDefEqProofs [m57,ha,hB,he,he']
omit hL in
theorem W2 {w:List UInt8}(hw:w≠[]) {A B:List lH}{a d:Nat}(ha:a < L.length) (hB:KB A B):KK 59 [.ptr A.length 0,.str w] (RQ A L a d 0 0 B)=some (.ret (.bool (isS (tk L a) w)),RQ A L a d 0 0 B):=by
 have h184:=fun e p=>C9 (L:=L) (d:=d) (e:=e) (p:=p) ha hB
 have ht:=tX (t:=tk L a) hw
 refine lA (Wq _ _ _ _) ?_
 cases hs:isS (tk L a) w
 ·have ht':¬oD (tk L a)=w:=fun h=>by rw [ht.1 h] at hs; cases hs
  simp -implicitDefEqProofs [m59,ha,hB,h184,ht']
 ·have ht':=ht.2 hs
  simp -implicitDefEqProofs [m59,ha,hB,h184,ht']
omit hL in
theorem aeS {w:List UInt8}:GX L (fun _=>True) 59 [.str w] (fun d=>d) (.bool false):=by
 intro A B a d e p ha hd hB he
 refine lA (Wq _ _ _ _) ?_
 have he':¬(e:Int)=0:=by omega
 simp -implicitDefEqProofs [m59,ha,hB,he,he']
theorem W4 {w:List UInt8}(hw:w≠[]) {A B:List lH}{a d:Nat}(ha:a < L.length) (hB:KB A B):KK 61 [.ptr A.length 0,.str w] (RQ A L a d 0 0 B)=some (.ret (.bool (isS (tk L a) w)),RQ A L (if isS (tk L a) w then a+1 else a) d 0 0 B):=by
 have h184:=fun e p=>C9 (L:=L) (d:=d) (e:=e) (p:=p) ha hB
 have ht:=tX (t:=tk L a) hw
 have w1:=uJ (a:=a) (by omega)
 refine lA (Wr _ _ _ _) ?_
 cases hs:isS (tk L a) w
 ·have ht':¬oD (tk L a)=w:=fun h=>by rw [ht.1 h] at hs; cases hs
  simp -implicitDefEqProofs [m61,ha,hB,h184,ht']
 ·have ht':=ht.2 hs
  simp -implicitDefEqProofs [m61,ha,hB,h184,ht',w1]
omit hL in
theorem aeT {w:List UInt8}:GX L (fun _=>True) 61 [.str w] (fun d=>d) (.bool false):=by
 intro A B a d e p ha hd hB he
 refine lA (Wr _ _ _ _) ?_
 have he':¬(e:Int)=0:=by omega
 simp -implicitDefEqProofs [m61,ha,hB,he,he']
def acT:Token:=⟨0,0,0,[]⟩
theorem ax9 {k:Nat}(hk:k≠0) (hK:qF L):ROk L (fun _=>True) 58 [.int .i64 (k:Int)] (fun d=>d) xA (qH L k):=by
 intro A B a d ha hd hB
 have h185:=fun C hC=>ab6 (L:=L) (d:=d) (p:=0) (A:=A) (B:=C) 10 ha hC
 simp only [ad3] at h185
 have w1:=uJ (a:=a) (by omega)
 by_cases hs:(tk L a).kind=k
 ·have ha1:=o9 hK ha hk hs
  refine⟨tk L a,a+1,0,0,lA (P8 _ _ _ _) ?_,ha1,?_⟩
  ·simp -implicitDefEqProofs [m58,ha,hB,hs,w1,xA]
  ·simp [uR,qH,hs]
 ·have hs':¬((tk L a).kind:Int)=k:=by omega
  refine⟨acT,a,10,(tk L a).pos,lA (P8 _ _ _ _) ?_,ha,?_⟩
  ·simp -implicitDefEqProofs [m58,ha,hB,h185,hs,hs',w1,xA,acT]
  ·simp [uR,qH,hs]
omit hL in
theorem arE {k:Nat}:GX L (fun _=>True) 58 [.int .i64 (k:Int)] (fun d=>d) (xA acT):=by
 intro A B a d e p ha hd hB he
 refine lA (P8 _ _ _ _) ?_
 have he':¬(e:Int)=0:=by omega
 simp -implicitDefEqProofs [m58,ha,hB,he,he',xA,acT]
theorem ayA {w:List UInt8}(hw:w≠[]) (hK:qF L):ROk L (fun d=>d≤64) 120 [.str w] (fun d=>d+1) tJ (tH L w):=by
 intro A B a d ha hd hB
 have h149:=W2 (L:=L) (d:=d) hw ha hB
 have h185:=ab6 (L:=L) (d:=d) (p:=0) 11 ha hB
 simp only [ad3] at h185
 have w1:=uJ (a:=d) (by omega)
 have h147b:=OD (L:=L) hL (w:=w)
 unfold GX at h147b
 cases hs:isS (tk L a) w
 ·obtain⟨v,a1,e1,p1,g1,g2,g3⟩:=OC hL hw hK A B a d ha trivial hB
  simp only [uR,oA,hs] at g3
  obtain⟨rfl,rfl,g4⟩:=g3
  refine⟨(),a1,10,(tk L a).pos,lA (Hr _ _ _ _) ?_,g2,?_⟩
  ·simp -implicitDefEqProofs [V4,ha,hB,h149,hs,g1,w1]
  ·simp [uR,tH,hs]
 ·by_cases h64:d=64
  ·have h64':(64:Int)≤d:=by omega
   refine⟨(),a,11,(tk L a).pos,lA (Hr _ _ _ _) ?_,ha,?_⟩
   ·have:=h147b A B a d 11 (tk L a).pos ha trivial hB (by omega)
    simp -implicitDefEqProofs [V4,ha,hB,h149,hs,h185,this,h64',w1]
   ·simp [uR,tH,hs,h64]
  ·have h64':¬(64:Int)≤d:=by omega
   obtain⟨v,a1,e1,p1,g1,g2,g3⟩:=OC hL hw hK A B a d ha trivial hB
   simp only [uR,oA,hs,if_true] at g3
   obtain⟨_,rfl,rfl,rfl⟩:=g3
   refine⟨(),a+1,0,0,lA (Hr _ _ _ _) ?_,g2,?_⟩
   ·simp -implicitDefEqProofs [V4,ha,hB,h149,hs,h64,h64',g1,w1]
   ·simp [uR,tH,hs,h64]
theorem aeU {w:List UInt8}:GX L (fun d=>d≤1000) 120 [.str w] (fun d=>d+1) (.tuple []):=by
 intro A B a d e p ha hd hB he
 have h149b:=aeS (L:=L) (w:=w) A B a d e p ha trivial hB he
 have h147b:=OD (L:=L) hL (w:=w) A B a d e p ha trivial hB he
 have w1:=uJ (a:=d) (by omega)
 refine lA (Hr _ _ _ _) ?_
 simp -implicitDefEqProofs [V4,ha,hB,h149b,h147b,w1]
theorem TN {w:List UInt8}(hw:w≠[]) (hK:qF L):ROk L (fun d=>1≤d∧d≤1000) 122 [.str w] (fun d=>d - 1) tJ (tI L w):=by
 intro A B a d ha hd hB
 obtain⟨d,rfl⟩:∃e,d=e+1:=⟨d - 1,by omega⟩
 have w1:=wrapN (a:=d) (by omega)
 obtain⟨v,a1,e1,p1,g1,g2,g3⟩:=OC hL hw hK A B a (d+1) ha trivial hB
 refine⟨(),a1,e1,p1,lA (RA _ _ _ _) ?_,g2,?_⟩
 ·simp -implicitDefEqProofs [aiJ,hB,g1,w1]
 ·cases hs:isS (tk L a) w <;> simpa [uR,oA,tI,hs] using g3
theorem aeV {w:List UInt8}:GX L (fun d=>1≤d∧d≤1000) 122 [.str w] (fun d=>d - 1) (.tuple []):=by
 intro A B a d e p ha hd hB he
 obtain⟨d,rfl⟩:∃e,d=e+1:=⟨d - 1,by omega⟩
 have h147b:=OD (L:=L) hL (w:=w) A B a (d+1) e p ha trivial hB he
 have w1:=wrapN (a:=d) (by omega)
 refine lA (RA _ _ _ _) ?_
 simp -implicitDefEqProofs [aiJ,hB,h147b,w1]
theorem OE (hK:qF L):ROk L (fun _=>True) 62 [] (fun d=>d) Kl (rV L):=by
 intro A B a d ha hd hB
 have h151:=W4 (L:=L) hL (d:=d) (w:=Gc) (by decide) ha hB
 cases hs:isS (tk L a) Gc
 ·obtain⟨v,a1,e1,p1,g1,g2,g3⟩:=OC hL (w:=Km) (by decide) hK A B a d ha trivial hB
  rw [hs] at h151
  simp only [Gc] at h151
  simp only [Km] at g1
  refine⟨0,a1,e1,p1,lA (P9 _ _ _) ?_,g2,?_⟩
  ·simp -implicitDefEqProofs [m62,hB,h151,g1,Kl]
  ·cases hq:isS (tk L a) Km <;> simpa [uR,oA,rV,hs,hq] using g3
 ·rw [hs] at h151
  simp only [Gc] at h151
  refine⟨1,a+1,0,0,lA (P9 _ _ _) ?_,mH hK ha hs,?_⟩
  ·simp -implicitDefEqProofs [m62,hB,h151,Kl]
  ·simp [uR,rV,hs]
theorem arF:GX L (fun _=>True) 62 [] (fun d=>d) (.int .i64 0):=by
 intro A B a d e p ha hd hB he
 have h151b:=fun w=>aeT (L:=L) (w:=w) A B a d e p ha trivial hB he
 have h147b:=fun w=>OD (L:=L) hL (w:=w) A B a d e p ha trivial hB he
 refine lA (P9 _ _ _) ?_
 simp -implicitDefEqProofs [m62,hB,h151b,h147b]
end
end
section
open Go Hk
structure Step (L:List Token) {α:Type}(x:PM α) (a d e p:Nat) (v:α) (a' e' p':Nat):Prop where
 lt:a' < L.length
 ok:e=0→p=0→uR (x a d) v a' e' p'
 bad:e≠0→a'=a∧e'=e∧p'=p
def RC (L:List Token) (dk:Nat→Prop) (f:Nat) (args:List kH) (k:Nat→Nat) {α:Type}(enc:α→kH) (x:PM α):Prop :=
 ∀A B a d e p,a < L.length→dk d→KB A B→(e=0→p=0)→∃v a' e' p',KK f (.ptr A.length 0::args) (RQ A L a d e p B)=some (.ret (enc v),RQ A L a' (k d) e' p' B)∧Step L x a d e p v a' e' p'
section
variable {L:List Token}{α β:Type}{x:PM α}{a d e p a1 e1 p1 a2 e2 p2:Nat}{v:α}{w:β}
theorem Step.zero (s:Step L x a d e p v a1 e1 p1) (h:e=0→p=0):e1=0→p1=0:=by
 intro h1
 by_cases he:e=0
 ·have:=s.ok he (h he)
  unfold uR at this
  cases hx:x a d with
  | ok v0 a0 d0=>rw [hx] at this; exact this.2.2.2
  | bad e0 p0 a0 d0=>rw [hx] at this; simp only at this; omega
 ·obtain⟨_,h2,h3⟩:=s.bad he
  omega
theorem Step.bind {f:α→PM β}{d1:Nat}(s:Step L x a d e p v a1 e1 p1) (hd:∀v' a' d',x a d=.ok v' a' d'→d'=d1) (t:Step L (f v) a1 d1 e1 p1 w a2 e2 p2):Step L (x >>= f) a d e p w a2 e2 p2 where
 lt:=t.lt
 ok:=fun he hp=>by
  have h:=s.ok he hp
  simp only [mD,PM.bind]
  cases hx:x a d with
  | ok v0 a0 d0 =>
   rw [hx] at h
   obtain⟨rfl,rfl,rfl,rfl⟩:=h
   have:=hd _ _ _ hx
   subst this
   exact t.ok rfl rfl
  | bad e0 p0 a0 d0 =>
   rw [hx] at h
   obtain⟨rfl,rfl,h0⟩:=h
   obtain⟨_,h2,h3⟩:=t.bad h0
   exact⟨h2,h3,h0⟩
 bad:=fun he=>by
  obtain⟨rfl,rfl,rfl⟩:=s.bad he
  exact t.bad he
theorem Step.pure (ha:a < L.length):Step L (pure v:PM α) a d e p v a e p where
 lt:=ha
 ok:=fun he hp=>⟨rfl,rfl,he,hp⟩
 bad:=fun _=>⟨rfl,rfl,rfl⟩
theorem Step.any {y:PM β}(s:Step L x a d e p v a1 e1 p1) (he:e≠0):Step L y a d e p w a1 e1 p1 where
 lt:=s.lt
 ok:=fun h=>absurd h he
 bad:=s.bad
theorem Step.here {f:Token→PM α}(s:Step L (f (tk L a)) a d e p v a1 e1 p1):Step L (oF L >>= f) a d e p v a1 e1 p1 :=
 ⟨s.lt,fun he hp=>s.ok he hp,s.bad⟩
theorem Step.stay (ha:a < L.length) (he:e≠0):Step L x a d e p v a e p:=⟨ha,fun h=>absurd h he,fun _=>⟨rfl,rfl,rfl⟩⟩
theorem RC.of {dk:Nat→Prop}{f:Nat}{args:List kH}{k:Nat→Nat}{enc:α→kH}{v0:α}(h1:ROk L dk f args k enc x) (h2:GX L dk f args k (enc v0)):RC L dk f args k enc x:=by
 intro A B a d e p ha hd hB hp
 by_cases he:e=0
 ·subst he
  have:=hp rfl
  subst this
  obtain⟨v,a',e',p',g1,g2,g3⟩:=h1 A B a d ha hd hB
  exact⟨v,a',e',p',g1,g2,fun _ _=>g3,fun h=>absurd rfl h⟩
 ·exact⟨v0,a,e,p,h2 A B a d e p ha hd hB he,Step.stay ha he⟩
end
def vA (e:Nat) (t:Token) (w:List UInt8):Bool:=decide (e=0) && isS t w
section
variable {L:List Token}(hL:L.length≤131072) (hK:qF L)
include hL hK
theorem Br {w:List UInt8}(hw:w≠[]):RC L (fun _=>True) 57 [.str w] (fun d=>d) tJ (oA L w):=.of (OC hL hw hK) (v0:=()) (OD hL)
theorem Jj {k:Nat}(hk:k≠0):RC L (fun _=>True) 58 [.int .i64 (k:Int)] (fun d=>d) xA (qH L k):=.of (ax9 hL hk hK) arE
theorem TK {w:List UInt8}(hw:w≠[]):RC L (fun d=>d≤64) 120 [.str w] (fun d=>d+1) tJ (tH L w):=.of (ayA hL hw hK) (v0:=()) (fun A B a d e p ha hd=>aeU hL A B a d e p ha (by have:d≤64:=hd; omega))
theorem Qk {w:List UInt8}(hw:w≠[]):RC L (fun d=>1≤d∧d≤1000) 122 [.str w] (fun d=>d - 1) tJ (tI L w):=.of (TN hL hw hK) (v0:=()) (aeV hL)
theorem akM:RC L (fun _=>True) 62 [] (fun d=>d) Kl (rV L):=.of (OE hL hK) (v0:=0) (arF hL)
omit hL hK in
theorem Oz {w:List UInt8}(hw:w≠[]) {A B:List lH}{a d e p:Nat}(ha:a < L.length) (hB:KB A B) (hp:e=0→p=0):KK 59 [.ptr A.length 0,.str w] (RQ A L a d e p B)=some (.ret (.bool (vA e (tk L a) w)),RQ A L a d e p B):=by
 by_cases he:e=0
 ·subst he
  have:=hp rfl
  subst this
  rw [W2 hw ha hB]; simp [vA]
 ·rw [aeS A B a d e p ha trivial hB he]; simp [vA,he]
omit hK in
theorem Ko {w:List UInt8}(hw:w≠[]) {A B:List lH}{a d e p:Nat}(ha:a < L.length) (hB:KB A B) (hp:e=0→p=0):KK 61 [.ptr A.length 0,.str w] (RQ A L a d e p B)=some (.ret (.bool (vA e (tk L a) w)),RQ A L (if vA e (tk L a) w=true then a+1 else a) d e p B):=by
 by_cases he:e=0
 ·subst he
  have:=hp rfl
  subst this
  rw [W4 hL hw ha hB]; simp [vA]
 ·rw [aeT A B a d e p ha trivial hB he]; simp [vA,he]
omit hL hK in
theorem aq3 {A B:List lH}{a d e p:Nat}(e0:Nat) (ha:a < L.length) (hB:KB A B) (hp:e=0→p=0) :
  KK 119 [.ptr A.length 0,.int .i64 (e0:Int)] (RQ A L a d e p B)=some (.ret (.tuple []),RQ A L a d (if e=0 then e0 else e) (if e=0 then(tk L a).pos else p) B):=by
 by_cases he:e=0
 ·subst he
  rw [ab6 e0 ha hB]; simp
 ·rw [arH e0 ha hB he]; simp [he]
theorem yK {a e:Nat}{w:List UInt8}(ha:a < L.length) (h:vA e (tk L a) w=true):e=0∧isS (tk L a) w=true∧a+1 < L.length:=by
 simp only [vA,ad0,decide_eq_true_eq] at h
 exact⟨h.1,h.2,mH hK ha h.2⟩
theorem Step.maybe {α:Type}{w:List UInt8}{f:Bool→PM α}{a d e p a1 e1 p1:Nat}{v:α}(s:Step L (f (vA e (tk L a) w)) (if vA e (tk L a) w=true then a+1 else a) d e p v a1 e1 p1):Step L (oW L w >>= f) a d e p v a1 e1 p1 where
 lt:=s.lt
 ok:=fun he hp=>by
  have h:=s.ok he hp
  subst he
  simp only [mD,PM.bind,oW]
  simpa [vA] using h
 bad:=fun he=>by
  obtain⟨h1,h2,h3⟩:=s.bad he
  have:vA e (tk L a) w=false:=by simp [vA,he]
  rw [this] at h1
  exact⟨h1,h2,h3⟩
theorem Step.Cm {α:Type}{w:List UInt8}{f:Bool→PM α}{a d e p a1 e1 p1:Nat}{v:α}(s:Step L (f (vA e (tk L a) w)) a d e p v a1 e1 p1):Step L (Eu L w >>= f) a d e p v a1 e1 p1 where
 lt:=s.lt
 ok:=fun he hp=>by
  have h:=s.ok he hp
  subst he
  simp only [mD,PM.bind,Eu]
  simpa [vA] using h
 bad:=s.bad
theorem aq1 (l:Nat):RC L (fun _=>True) 63 [.bool true,.int .i64 (l:Int)] (fun d=>d) zQ (qG L l):=by
 intro A B a d e p ha hd hB hp
 have hB3:∀x y z x' y' z',KB A (B++[.cells [.int .i64 x,.int .i64 y,.int .i64 z],.cells [.int .i64 x',.int .i64 y',.int .i64 z']]):=fun _ _ _ _ _ _=>hB.app (by simp)
 have h151:=fun C hC=>Ko (L:=L) hL (d:=d) (w:=xK) (by decide) (A:=A) (B:=C) ha hC hp
 cases hs:vA e (tk L a) xK
 ·obtain⟨v,a1,e1,p1,g1,g2⟩:=Br hL hK (w:=Gi) (by decide) A _ a d e p ha trivial (hB3 0 0 0 0 0 l) hp
  simp only [hs,ac1,if_false] at h151
  simp only [xK] at h151
  simp only [Gi,tJ] at g1
  refine⟨⟨0,0,l⟩,a1,e1,p1,lA (F1 _ _ _ _ _) ?_,?_⟩
  ·simp -implicitDefEqProofs [m63,hB,h151,g1,zQ,Ty.cells]
  ·refine⟨g2.lt,fun he hq=>?_,g2.bad⟩
   have g3:=g2.ok he hq
   subst he
   have hs':isS (tk L a) xK=false:=by simpa [vA] using hs
   cases hq2:isS (tk L a) Gi <;> simp [uR,oA,qG,hs',hq2] at g3 ⊢ <;> exact g3
 ·obtain⟨he,hs2,ha1⟩:=yK hL hK ha hs
  simp only [hs,if_true] at h151
  simp only [xK] at h151
  refine⟨⟨1,0,l⟩,a+1,e,p,lA (F1 _ _ _ _ _) ?_,?_⟩
  ·simp -implicitDefEqProofs [m63,hB,h151,zQ,Ty.cells]
  ·refine⟨ha1,fun he hq=>?_,fun h=>absurd he h⟩
   simp [uR,qG,hs2,he,hq]
theorem Step.many {a d e p a1 e1 p1 a2 e2 p2 a3 e3 p3:Nat}{u:Unit}{t:Token}{u':Unit}(s1:Step L (oA L [91]) a d e p u a1 e1 p1) (hp:e=0→p=0)
  (s2:Step L (qH L 2) a1 d (if (tk L a1).num=0 then(if e1=0 then 10 else e1) else e1) (if (tk L a1).num=0 then(if e1=0 then(tk L a1).pos else p1) else p1) t a2 e2 p2)
  (s3:Step L (oA L [93]) a2 d e2 p2 u' a3 e3 p3):Step L (xM L) a d e p t.num a3 e3 p3:=by
 have hg1:=pR (L:=L) hK (w:=[91])
 have hg2:=rL (L:=L) hK (k:=2) (by omega)
 have hg3:=pR (L:=L) hK (w:=[93])
 have ha:∀{v:Unit}{a' d':Nat},oA L [91] a d=.ok v a' d'→d'=d:=fun {v a' d'} h=>by
  unfold oA at h; split at h <;> cases h; rfl
 unfold xM
 refine s1.bind (d1:=d) (fun v' a' d' h=>ha h) (Step.here ?_)
 have hp1:=s1.zero hp
 by_cases hc:(tk L a1).kind=2∧(tk L a1).num=0
 ·rw [if_pos hc]
  by_cases he1:e1=0
  ·simp only [hc.2,he1,if_true] at s2
   obtain⟨q1,q2,q3⟩:=s2.bad (by omega)
   obtain⟨q4,q5,q6⟩:=s3.bad (by omega)
   refine⟨s3.lt,fun _ _=>?_,fun h=>absurd he1 h⟩
   simp [uR,wB]; omega
  ·simp only [hc.2,he1,if_true,if_false] at s2
   obtain⟨q1,q2,q3⟩:=s2.bad (by omega)
   obtain⟨q4,q5,q6⟩:=s3.bad (by omega)
   exact⟨s3.lt,fun h=>absurd h he1,fun _=>⟨by omega,by omega,by omega⟩⟩
 ·rw [if_neg hc]
  have hd2:∀{v:Token}{a' d':Nat},qH L 2 a1 d=.ok v a' d'→d'=d:=fun {v a' d'} h=>by
   unfold qH at h; split at h <;> cases h; rfl
  have hd3:∀{v:Unit}{a' d':Nat},oA L [93] a2 d=.ok v a' d'→d'=d:=fun {v a' d'} h=>by
   unfold oA at h; split at h <;> cases h; rfl
  by_cases hn:(tk L a1).num=0
  ·have hk2:(tk L a1).kind≠2:=fun h=>hc ⟨h,hn⟩
   by_cases he1:e1=0
   ·simp only [hn,he1,if_true] at s2
    obtain⟨q1,q2,q3⟩:=s2.bad (by omega)
    obtain⟨q4,q5,q6⟩:=s3.bad (by omega)
    refine⟨s3.lt,fun _ _=>?_,fun h=>absurd he1 h⟩
    simp [uR,mD,PM.bind,qH,hk2]; omega
   ·simp only [hn,he1,if_true,if_false] at s2
    obtain⟨q1,q2,q3⟩:=s2.bad (by omega)
    obtain⟨q4,q5,q6⟩:=s3.bad (by omega)
    exact⟨s3.lt,fun h=>absurd h he1,fun _=>⟨by omega,by omega,by omega⟩⟩
  ·simp only [hn,if_false] at s2
   exact s2.bind (d1:=d) (fun v' a' d' h=>hd2 h) (s3.bind (d1:=d) (fun v' a' d' h=>hd3 h) (Step.pure s3.lt))
theorem aq0 (l:Nat):RC L (fun _=>True) 63 [.bool false,.int .i64 (l:Int)] (fun d=>d) zQ (uP L l):=by
 intro A B a d e p ha hd hB hp
 have hBy:∀x y z x' y' z',KB A (B++[.cells [.int .i64 x,.int .i64 y,.int .i64 z],.cells [.int .i64 x',.int .i64 y',.int .i64 z']]):=fun _ _ _ _ _ _=>hB.app (by simp)
 have hTd:∀{w:List UInt8}{v:Unit}{a a' d':Nat},oA L w a d=.ok v a' d'→d'=d:=fun {w v a a' d'} h=>by
  unfold oA at h; split at h <;> cases h; rfl
 have h151:=fun w hw C hC=>Ko (L:=L) hL (d:=d) (w:=w) hw (A:=A) (B:=C) ha hC hp
 have hmk:=h151 xK (by decide)
 have hu8:=h151 [117,56] (by decide)
 clear h151
 have many:∀(el a0 e0 p0:Nat),a0 < L.length→(e0=0→p0=0)→∃(n a' e' p':Nat),Step L (xM L) a0 d e0 p0 n a' e' p' ∧
   ∃(t:Token) (a1 e1 p1 a2 e2 p2:Nat),a1 < L.length∧n=t.num ∧
    KK 57 [.ptr A.length 0,.str [91]] (RQ A L a0 d e0 p0 (B++[.cells [.int .i64 0,.int .i64 0,.int .i64 0],.cells [.int .i64 (el:Int),.int .i64 0,.int .i64 (l:Int)]]))=some (.ret (.tuple []),RQ A L a1 d e1 p1 (B++[.cells [.int .i64 0,.int .i64 0,.int .i64 0],.cells [.int .i64 (el:Int),.int .i64 0,.int .i64 (l:Int)]])) ∧
    (e1=0→p1=0) ∧
    KK 58 [.ptr A.length 0,.int .i64 2] (RQ A L a1 d (if (tk L a1).num=0 then(if e1=0 then 10 else e1) else e1) (if (tk L a1).num=0 then(if e1=0 then(tk L a1).pos else p1) else p1) (B++[.cells [.int .i64 0,.int .i64 0,.int .i64 0],.cells [.int .i64 (el:Int),.int .i64 0,.int .i64 (l:Int)]])) =
     some (.ret (.agg t.cells),RQ A L a2 d e2 p2 (B++[.cells [.int .i64 0,.int .i64 0,.int .i64 0],.cells [.int .i64 (el:Int),.int .i64 0,.int .i64 (l:Int)]])) ∧
    KK 57 [.ptr A.length 0,.str [93]] (RQ A L a2 d e2 p2 (B++[.cells [.int .i64 0,.int .i64 0,.int .i64 0],.cells [.int .i64 (el:Int),.int .i64 (t.num:Int),.int .i64 (l:Int)],.cells t.cells])) =
     some (.ret (.tuple []),RQ A L a' d e' p' (B++[.cells [.int .i64 0,.int .i64 0,.int .i64 0],.cells [.int .i64 (el:Int),.int .i64 (t.num:Int),.int .i64 (l:Int)],.cells t.cells])):=by
  intro el a0 e0 p0 ha0 hp0
  obtain⟨u,a1,e1,p1,g1,s1⟩:=Br hL hK (w:=[91]) (by decide) A _ a0 d e0 p0 ha0 trivial (hBy 0 0 0 el 0 l) hp0
  have hp1:=s1.zero hp0
  have hpz:(if (tk L a1).num=0 then(if e1=0 then 10 else e1) else e1)=0→(if (tk L a1).num=0 then(if e1=0 then(tk L a1).pos else p1) else p1)=0:=by
   split
   ·split
    ·intro h; omega
    ·intro h; exact hp1 h
   ·exact hp1
  obtain⟨t,a2,e2,p2,g2,s2⟩:=Jj hL hK (k:=2) (by decide) A _ a1 d _ _ s1.lt trivial (hBy 0 0 0 el 0 l) hpz
  have hp2:=s2.zero hpz
  have hB3:KB A (B++[.cells [.int .i64 0,.int .i64 0,.int .i64 0],.cells [.int .i64 (el:Int),.int .i64 (t.num:Int),.int .i64 (l:Int)],.cells t.cells]):=hB.app (by simp)
  obtain⟨u',a3,e3,p3,g3,s3⟩:=Br hL hK (w:=[93]) (by decide) A _ a2 d e2 p2 s2.lt trivial hB3 hp2
  exact⟨t.num,a3,e3,p3,Step.many hL hK s1 hp0 s2 s3,t,a1,e1,p1,a2,e2,p2,s1.lt,rfl,g1,hp1,g2,g3⟩
 have cells3:∀x y z:Int,[kH.int .i64 x,.int .i64 y,.int .i64 z]=[kH.int .i64 x,.int .i64 y,.int .i64 z]:=fun _ _ _=>rfl
 cases hm:vA e (tk L a) xK
 ·simp only [hm,ac1,if_false] at hmk
  simp only [xK] at hmk
  have hmf:e=0→isS (tk L a) xK=false:=fun he=>by subst he; simpa [vA] using hm
  cases hu:vA e (tk L a) [117,56]
  ·simp only [hu,ac1,if_false] at hu8
   have huf:e=0→isS (tk L a) [117,56]=false:=fun he=>by subst he; simpa [vA] using hu
   obtain⟨u,a1,e1,p1,g1,s1⟩:=Br hL hK (w:=Gi) (by decide) A _ a d e p ha trivial (hBy 0 0 0 0 0 l) hp
   have hp1:=s1.zero hp
   simp only [Gi,tJ] at g1
   have h149:=fun C hC=>Oz (L:=L) (d:=d) (w:=[91]) (by decide) (A:=A) (B:=C) s1.lt hC hp1
   have scal:∀{β:Type}{f:Ty→PM β}{w:β}{a2 e2 p2:Nat},Step L (f ⟨0,0,l⟩) a1 d e1 p1 w a2 e2 p2→Step L (qG L l >>= f) a d e p w a2 e2 p2:=by
    intro β f w a2 e2 p2 t
    refine⟨t.lt,fun he hq=>?_,fun he=>?_⟩
    ·have g3:=s1.ok he hq
     simp only [mD,PM.bind,qG,hmf he,ac1,if_false]
     cases hq2:isS (tk L a) Gi
     ·simp only [uR,oA,hq2,ac1,if_false] at g3
      obtain⟨rfl,rfl,h0⟩:=g3
      obtain⟨_,q2,q3⟩:=t.bad (by omega)
      simp only [ac1,if_false,uR]
      exact⟨q2,q3,h0⟩
     ·simp only [uR,oA,hq2,if_true] at g3
      obtain⟨_,rfl,rfl,rfl⟩:=g3
      simp only [if_true]
      exact t.ok rfl rfl
    ·obtain⟨rfl,rfl,rfl⟩:=s1.bad he
     exact t.bad he
   have fin:∀{v:Ty}{a2 e2 p2:Nat},Step L (Eu L [91] >>= fun b=>if b=true then(xM L >>= fun n=>pure { elem:=0,len:=n,label:=l }) else pure ⟨0,0,l⟩:PM Ty) a1 d e1 p1 v a2 e2 p2→Step L (uP L l) a d e p v a2 e2 p2:=by
    intro v a2 e2 p2 t
    unfold uP
    refine Step.maybe hL hK ?_
    simp only [hu,ac1,if_false]
    refine scal ?_
    simp only [if_true]
    exact t
   cases hb:vA e1 (tk L a1) [91]
   ·rw [hb] at h149
    refine⟨⟨0,0,l⟩,a1,e1,p1,lA (F1 _ _ _ _ _) ?_,?_⟩
    ·simp -implicitDefEqProofs [m63,hB,hmk,hu8,g1,h149,zQ,Ty.cells]
    ·refine fin (Step.Cm hL hK ?_)
     simp only [hb,ac1,if_false]
     exact Step.pure s1.lt
   ·rw [hb] at h149
    obtain⟨n,a',e',p',sm,t,b1,f1,r1,b2,f2,r2,hb1,rfl,k1,hr1,k2,k3⟩:=many 0 a1 e1 p1 s1.lt hp1
    refine⟨⟨0,t.num,l⟩,a',e',p',lA (F1 _ _ _ _ _) ?_,?_⟩
    ·have h185:=fun C hC=>aq3 (L:=L) (a:=b1) (d:=d) (e:=f1) (p:=r1) (A:=A) (B:=C) 10 hb1 hC hr1
     simp only [ad3,Token.cells] at h185 k1 k2 k3
     by_cases hn:(tk L b1).num=0
     ·simp only [hn,if_true] at k2
      simp -implicitDefEqProofs [m63,hB,hmk,hu8,g1,h149,hb1,k1,h185,k2,k3,hn,zQ,Ty.cells]
     ·have hn':¬((tk L b1).num:Int)=0:=by omega
      simp only [hn,if_false] at k2
      simp -implicitDefEqProofs [m63,hB,hmk,hu8,g1,h149,hb1,k1,h185,k2,k3,hn,hn',zQ,Ty.cells]
    ·refine fin (Step.Cm hL hK ?_)
     simp only [hb,if_true]
     refine sm.bind (d1:=d) (fun v' a' d' h=>?_) (Step.pure sm.lt)
     exact(L5 hK _ _ _ _ _ h s1.lt).2.2
  ·obtain⟨he,hs2,ha1⟩:=yK hL hK ha hu
   simp only [hu,if_true] at hu8
   obtain⟨n,a',e',p',sm,t,b1,f1,r1,b2,f2,r2,hb1,rfl,k1,hr1,k2,k3⟩:=many 2 (a+1) e p ha1 hp
   refine⟨⟨2,t.num,l⟩,a',e',p',lA (F1 _ _ _ _ _) ?_,?_⟩
   ·have h185:=fun C hC=>aq3 (L:=L) (a:=b1) (d:=d) (e:=f1) (p:=r1) (A:=A) (B:=C) 10 hb1 hC hr1
    simp only [ad3,Token.cells] at h185 k1 k2 k3
    by_cases hn:(tk L b1).num=0
    ·simp only [hn,if_true] at k2
     simp -implicitDefEqProofs [m63,hB,hmk,hu8,hb1,k1,h185,k2,k3,hn,zQ,Ty.cells]
    ·have hn':¬((tk L b1).num:Int)=0:=by omega
     simp only [hn,if_false] at k2
     simp -implicitDefEqProofs [m63,hB,hmk,hu8,hb1,k1,h185,k2,k3,hn,hn',zQ,Ty.cells]
   ·unfold uP
    refine Step.maybe hL hK ?_
    simp only [hu,if_true]
    refine sm.bind (d1:=d) (fun v' a' d' h=>?_) (Step.pure sm.lt)
    exact(L5 hK _ _ _ _ _ h ha1).2.2
 ·obtain⟨he,hs2,ha1⟩:=yK hL hK ha hm
  simp only [hm,if_true] at hmk
  simp only [xK] at hmk
  have huf:isS (tk L a) [117,56]=false:=by
   simp only [isS,ad0,decide_eq_true_eq,xK] at hs2
   have h1:(tk L a).text=[109,97,115,107]:=of_decide_eq_true hs2.2
   unfold isS
   rw [h1]
   simp
  refine⟨⟨1,0,l⟩,a+1,e,p,lA (F1 _ _ _ _ _) ?_,?_⟩
  ·simp -implicitDefEqProofs [m63,hB,hmk,zQ,Ty.cells]
  ·refine⟨ha1,fun he hq=>?_,fun h=>absurd he h⟩
   simp [uR,uP,mD,PM.bind,oW,qG,huf,hs2,he,hq,wZ]
end
end
section
open Go Hk
theorem lV.dep {L:List Token}{α:Type}{s:Nat}{k:Nat→Nat}{x:PM α}(g:lV L s k x) {a d:Nat}(ha:a < L.length):∀v a' d',x a d=.ok v a' d'→d'=k d:=fun _ _ _ h=>(g _ _ _ _ _ h ha).2.2
theorem Xh {L:List Token}(hK:qF L) {a e:Nat}{w:List UInt8}(ha:a < L.length):(if vA e (tk L a) w=true then a+1 else a) < L.length:=by
 split
 ·rename_i h
  simp only [vA,ad0,decide_eq_true_eq] at h
  exact mH hK ha h.2
 ·exact ha
section
variable {L:List Token}(hL:L.length≤131072) (hK:qF L)
include hL hK
theorem aqZ:RC L (fun _=>True) 60 [] (fun d=>d) (fun x:XP=>.agg x.cells) (uE L):=by
 intro A B a d e p ha hd hB hp
 have h151:=fun C hC=>Ko (L:=L) hL (d:=d) (w:=[111,117,116]) (by decide) (A:=A) (B:=C) ha hC hp
 have ha0:=Xh hK (e:=e) (w:=[111,117,116]) ha
 obtain⟨b,hb⟩:∃b,b=vA e (tk L a) [111,117,116]:=⟨_,rfl⟩
 obtain⟨a0,hae⟩:∃a0,a0=if vA e (tk L a) [111,117,116]=true then a+1 else a:=⟨_,rfl⟩
 rw [←hae] at ha0
 simp only [←hb] at hae
 simp only [←hb,←hae] at h151
 have k6:∀(x z1 z2 z3:Int) (y:List UInt8) (f:Bool) (x' z1' z2' z3':Int) (y':List UInt8) (f':Bool),KB A (B++[.cells [.int .i64 x,.str y,.int .i64 z1,.int .i64 z2,.int .i64 z3,.bool f],.cells [.int .i64 x',.str y',.int .i64 z1',.int .i64 z2',.int .i64 z3',.bool f']]):=fun _ _ _ _ _ _ _ _ _ _ _ _=>hB.app (by simp)
 obtain⟨l,a1,e1,p1,g1,s1⟩:=akM hL hK A _ a0 d e p ha0 trivial (k6 0 0 0 0 [] false 0 0 0 0 [] b) hp
 have hp1:=s1.zero hp
 obtain⟨n,a2,e2,p2,g2,s2⟩:=Jj hL hK (k:=1) (by decide) A _ a1 d e1 p1 s1.lt trivial (k6 0 0 0 0 [] false 0 0 0 0 [] b) hp1
 have hp2:=s2.zero hp1
 have k64:KB A (B++[.cells [.int .i64 0,.str [],.int .i64 0,.int .i64 0,.int .i64 0,.bool false],.cells [.int .i64 (n.pos:Int),.str n.text,.int .i64 0,.int .i64 0,.int .i64 0,.bool b],.cells [.int .i64 (n.kind:Int),.int .i64 (n.pos:Int),.int .i64 (n.num:Int),.str n.text]]):=hB.app (by simp)
 obtain⟨u,a3,e3,p3,g3,s3⟩:=Br hL hK (w:=[58]) (by decide) A _ a2 d e2 p2 s2.lt trivial k64 hp2
 have hp3:=s3.zero hp2
 obtain⟨t,a4,e4,p4,g4,s4⟩:=aq0 hL hK l A _ a3 d e3 p3 s3.lt trivial k64 hp3
 refine⟨⟨n.pos,n.text,t,b⟩,a4,e4,p4,lA (ajL _ _ _) ?_,?_⟩
 ·simp only [ad3,xA,Token.cells,tJ,zQ,Ty.cells] at g1 g2 g3 g4
  simp -implicitDefEqProofs [m60,hB,h151,g1,g2,g3,g4,XP.cells]
 ·unfold uE
  refine Step.maybe hL hK ?_
  rw [←hb,←hae]
  exact s1.bind ((Ab hK).dep ha0) (s2.bind ((rL hK (by omega)).dep s1.lt) (s3.bind ((pR hK).dep s2.lt) (s4.bind ((ET hK).dep s3.lt) (Step.pure s4.lt))))
end
def Es:List (List UInt8×Nat×Nat):=[([61,61],17,1),([33,61],18,1),([60],19,1),([60,61],20,1),([62],21,1),([62,61],22,1),([124],12,2),([94],13,3),([38],11,4),([60,60],14,5),([62,62],15,5),([43],8,6),([45],9,6),([42],10,7)]
def CZ (w:List UInt8):List (List UInt8×Nat×Nat)→Option (Nat×Nat)
 | []=>none
 | (x,k,t)::r=>if x=w then some (t,k) else CZ w r
theorem Qx (w:List UInt8):oI w=(CZ w Es).getD (0,0):=by
 by_cases h0:w=[61,61]
 ·rw [h0]; decide
 by_cases h1:w=[33,61]
 ·rw [h1]; decide
 by_cases h2:w=[60]
 ·rw [h2]; decide
 by_cases h3:w=[60,61]
 ·rw [h3]; decide
 by_cases h4:w=[62]
 ·rw [h4]; decide
 by_cases h5:w=[62,61]
 ·rw [h5]; decide
 by_cases h6:w=[124]
 ·rw [h6]; decide
 by_cases h7:w=[94]
 ·rw [h7]; decide
 by_cases h8:w=[38]
 ·rw [h8]; decide
 by_cases h9:w=[60,60]
 ·rw [h9]; decide
 by_cases h10:w=[62,62]
 ·rw [h10]; decide
 by_cases h11:w=[43]
 ·rw [h11]; decide
 by_cases h12:w=[45]
 ·rw [h12]; decide
 by_cases h13:w=[42]
 ·rw [h13]; decide
 have e1:nE w=none:=by
  unfold nE
  rw [if_neg h0,if_neg h1,if_neg h2,if_neg h3,if_neg h4,if_neg h5,if_neg h6,if_neg h7,if_neg h8,if_neg h9,if_neg h10,if_neg h11,if_neg h12,if_neg h13]
 have e2:CZ w Es=none:=by
  unfold Es
  simp only [CZ]
  rw [if_neg (Ne.symm h0),if_neg (Ne.symm h1),if_neg (Ne.symm h2),if_neg (Ne.symm h3),if_neg (Ne.symm h4),if_neg (Ne.symm h5),if_neg (Ne.symm h6),if_neg (Ne.symm h7),if_neg (Ne.symm h8),if_neg (Ne.symm h9),if_neg (Ne.symm h10),if_neg (Ne.symm h11),if_neg (Ne.symm h12),if_neg (Ne.symm h13)]
 unfold oI
 rw [e1,e2]; rfl
theorem Tr (w:List UInt8) (T:List (List UInt8×Nat×Nat)) (hT:T.length≤100) (h:kL) (hh:l_ 3 h=some h):∀(n i:Nat),T.length < i+n→i≤T.length →
  ∃j:Int,mL (E4 KK 3) ([.str w,.int .i64 0,.int .i64 0,.slice (T.map fun x=>[.str x.1]) (.own 0),.slice (T.map fun x=>[.int .i64 (x.2.1:Int)]) (.own 1),.slice (T.map fun x=>[.int .i64 (x.2.2:Int)]) (.own 2),.int .i64 (i:Int)],h) =
   some (match CZ w (T.drop i) with
    | some (t,k)=>(.ret,[.str w,.int .i64 (t:Nat),.int .i64 (k:Nat),.slice (T.map fun x=>[.str x.1]) (.own 0),.slice (T.map fun x=>[.int .i64 (x.2.1:Int)]) (.own 1),.slice (T.map fun x=>[.int .i64 (x.2.2:Int)]) (.own 2),.int .i64 j],h)
    | none=>(.exit 0,[.str w,.int .i64 0,.int .i64 0,.slice (T.map fun x=>[.str x.1]) (.own 0),.slice (T.map fun x=>[.int .i64 (x.2.1:Int)]) (.own 1),.slice (T.map fun x=>[.int .i64 (x.2.2:Int)]) (.own 2),.int .i64 j],h)):=by
 intro n
 induction n with
 | zero=>intro i a1 a2; omega
 | succ n ih =>
  intro i a1 a2
  rw [mY]
  by_cases hi:i < T.length
  ·have hi':(i:Int) < T.length:=by omega
   have hx:T[i]?=some T[i]:=List.getElem?_eq_getElem hi
   have w1:=uJ (a:=i) (by omega)
   rw [List.drop_eq_getElem_cons hi]
   generalize T[i]=y at *
   obtain⟨x,k,t⟩:=y
   by_cases hw:x=w
   ·refine⟨i,?_⟩
    subst hw
    simp -implicitDefEqProofs [E4,hi',hx,kW,hh,CZ]
   ·obtain⟨j,hj⟩:=ih (i+1) (by omega) hi
    refine⟨j,?_⟩
    simp only [Int.natCast_add,ad3] at hj
    have hl:CZ w ((x,k,t)::T.drop (i+1))=CZ w (T.drop (i+1)):=by rw [CZ,if_neg hw]
    rw [hl,←hj]
    simp -implicitDefEqProofs [E4,hi',hx,hw,kW,hh,w1]
  ·refine⟨i,?_⟩
   have:T.drop i=[]:=List.drop_eq_nil_of_le (by omega)
   rw [this]
   have hi':¬(i:Int) < T.length:=by omega
   simp -implicitDefEqProofs [E4,hi',kW,hh,CZ]
theorem Rt {h:kL}:kU 14 1 [.str []] [(0,(.str [61,61])),(1,(.str [33,61])),(2,(.str [60])),(3,(.str [60,61])),(4,(.str [62])),(5,(.str [62,61])),(6,(.str [124])),(7,(.str [94])),(8,(.str [38])),(9,(.str [60,60])),(10,(.str [62,62])),(11,(.str [43])),(12,(.str [45])),(13,(.str [42]))] h=some (.slice [[(.str [61,61])],[(.str [33,61])],[(.str [60])],[(.str [60,61])],[(.str [62])],[(.str [62,61])],[(.str [124])],[(.str [94])],[(.str [38])],[(.str [60,60])],[(.str [62,62])],[(.str [43])],[(.str [45])],[(.str [42])]] (.own h.length),h++[.front 14 1]):=(rfl)
theorem Ru {h:kL}:kU 14 1 [.int .i64 0] [(0,(.int .i64 17)),(1,(.int .i64 18)),(2,(.int .i64 19)),(3,(.int .i64 20)),(4,(.int .i64 21)),(5,(.int .i64 22)),(6,(.int .i64 12)),(7,(.int .i64 13)),(8,(.int .i64 11)),(9,(.int .i64 14)),(10,(.int .i64 15)),(11,(.int .i64 8)),(12,(.int .i64 9)),(13,(.int .i64 10))] h=some (.slice [[(.int .i64 17)],[(.int .i64 18)],[(.int .i64 19)],[(.int .i64 20)],[(.int .i64 21)],[(.int .i64 22)],[(.int .i64 12)],[(.int .i64 13)],[(.int .i64 11)],[(.int .i64 14)],[(.int .i64 15)],[(.int .i64 8)],[(.int .i64 9)],[(.int .i64 10)]] (.own h.length),h++[.front 14 1]):=(rfl)
theorem Rv {h:kL}:kU 14 1 [.int .i64 0] [(0,(.int .i64 1)),(1,(.int .i64 1)),(2,(.int .i64 1)),(3,(.int .i64 1)),(4,(.int .i64 1)),(5,(.int .i64 1)),(6,(.int .i64 2)),(7,(.int .i64 3)),(8,(.int .i64 4)),(9,(.int .i64 5)),(10,(.int .i64 5)),(11,(.int .i64 6)),(12,(.int .i64 6)),(13,(.int .i64 7))] h=some (.slice [[(.int .i64 1)],[(.int .i64 1)],[(.int .i64 1)],[(.int .i64 1)],[(.int .i64 1)],[(.int .i64 1)],[(.int .i64 2)],[(.int .i64 3)],[(.int .i64 4)],[(.int .i64 5)],[(.int .i64 5)],[(.int .i64 6)],[(.int .i64 6)],[(.int .i64 7)]] (.own h.length),h++[.front 14 1]):=(rfl)
theorem akP (w:List UInt8) (h:kL):KK 185 [.str w] h=some (.ret (.tuple [.int .i64 ((oI w).1:Int),.int .i64 ((oI w).2:Int)]),h):=by
 refine lB rfl rfl (lA (abA _ _ _) ?_)
 by_cases hw:w=[]
 ·subst hw
  have:oI []=(0,0):=by decide
  simp -implicitDefEqProofs [aa9,this,kK]
 ·obtain⟨j,hj⟩:=Tr w Es (by decide) [.front 14 1,.front 14 1,.front 14 1] (by simp [l_]) 15 0 (by decide) (Nat.zero_le _)
  have hl:=Qx w
  rw [List.drop_zero] at hj
  cases hk:CZ w Es with
  | none =>
   rw [hk] at hl hj
   simp only [Es,af7,al1,ad3] at hj
   simp -implicitDefEqProofs [aa9,hw,Rt,Ru,Rv,hj,hl,kK]
  | some x =>
   obtain⟨t,k⟩:=x
   rw [hk] at hl hj
   simp only [Es,af7,al1,ad3] at hj
   simp -implicitDefEqProofs [aa9,hw,Rt,Ru,Rv,hj,hl,kK]
end
section
open Go Hk
def xe0:XE:=.mk 0 0 0 [] []
def DI (L:List Token) (n:Nat) (f:Nat) (args:List kH) {α:Type}(enc:α→kH) (x:PM α):Prop :=
 ∀A B a d e p,a < L.length→n+d=65→(e=0→1≤n)→KB A B→(e=0→p=0)→∃v a' e' p',KK f (.ptr A.length 0::args) (RQ A L a d e p B)=some (.ret (enc v),RQ A L a' d e' p' B)∧Step L x a d e p v a' e' p'
def ROE (L:List Token) (n:Nat) (f:Nat) (args:List kH) {α:Type}(enc:α→kH) (x:PM α):Prop :=
 ∀A B a d,a < L.length→n+d=65→1≤n→KB A B→∃v a' e' p',KK f (.ptr A.length 0::args) (RQ A L a d 0 0 B)=some (.ret (enc v),RQ A L a' d e' p' B)∧Step L x a d 0 0 v a' e' p'
theorem DI.of {L:List Token}{n f:Nat}{args:List kH}{α:Type}{enc:α→kH}{x:PM α}{v0:α}(h1:ROE L n f args enc x) (h2:GX L (fun d=>d≤65) f args (fun d=>d) (enc v0)):DI L n f args enc x:=by
 intro A B a d e p ha hn he hB hp
 by_cases h0:e=0
 ·subst h0
  have:=hp rfl
  subst this
  exact h1 A B a d ha hn (he rfl) hB
 ·exact⟨v0,a,e,p,h2 A B a d e p ha (by show d≤65; omega) hB h0,Step.stay ha h0⟩
theorem Step.congr {L:List Token}{α:Type}{x y:PM α}{a d e p a1 e1 p1:Nat}{v:α}(s:Step L x a d e p v a1 e1 p1) (h:x a d=y a d):Step L y a d e p v a1 e1 p1:=⟨s.lt,fun he hp=>by rw [←h]; exact s.ok he hp,s.bad⟩
section
variable {A B C:List lH}{L:List Token}{a d er p k:Nat}{x y:XE}{t:Tok}
theorem CK (l:List XE) (hc:C[k]?=some (.front l.length (sK l.length 5))) (hl:l.length≤200000) :
  mB 5 64 (RQ A L a d er p (B++C)) (.slice (l.map XE.cells) (.own (HN A B+k))) (.slice [x.cells] t)=some (.slice ((l++[x]).map XE.cells) (.own (HN A B+k)),RQ A L a d er p (B++C.set k (.front (l.length+1) 5))):=by
 have:=Hd (A:=A) (B:=B) (L:=L) (a:=a) (d:=d) (er:=er) (p:=p) (C:=C) (k:=k) (rows:=l.map XE.cells) (new:=[x.cells]) (sz:=5) (by_:=64) (sz':=sK l.length 5) (t:=t)
  (by rw [al2]; exact hc) (by rw [al2]; exact Bl _ _) (by simp) (by simp) (by simp; omega) (by simp; omega)
 simpa using this
theorem xW (hc:C[k]?=some (.front 0 0)):mB 5 64 (RQ A L a d er p (B++C)) (.slice [] (.own (HN A B+k))) (.slice [x.cells] t)=some (.slice [x.cells] (.own (HN A B+k)),RQ A L a d er p (B++C.set k (.front 1 5))):=by
 have:=CK (A:=A) (B:=B) (L:=L) (a:=a) (d:=d) (er:=er) (p:=p) (C:=C) (k:=k) (x:=x) (t:=t) [] (by simpa [sK] using hc) (by simp)
 simpa using this
theorem HW (hc:C[k]?=some (.front 1 5)):mB 5 64 (RQ A L a d er p (B++C)) (.slice [y.cells] (.own (HN A B+k))) (.slice [x.cells] t)=some (.slice [y.cells,x.cells] (.own (HN A B+k)),RQ A L a d er p (B++C.set k (.front 2 5))):=by
 have:=CK (A:=A) (B:=B) (L:=L) (a:=a) (d:=d) (er:=er) (p:=p) (C:=C) (k:=k) (x:=x) (t:=t) [y] (by simpa [sK] using hc) (by simp)
 simpa using this
end
def hx (A B:List lH) (x:XE):List lH:=[.cells [.int .i64 0,.int .i64 0,.int .i64 0,.str [],.slice [] (.own (HN A B+1))],.front 0 0,.cells x.cells,.front 0 0]
def Rh (x:XE):List lH:=[.cells x.cells,.front 0 0,.cells x.cells,.front 0 0]
section
variable {L:List Token}(hL:L.length≤131072) (hK:qF L) (hW:uL L)
include hL hK
omit hL hK in
theorem Ri {A B:List lH}{x:XE}(hB:KB A B):KB A (B++hx A B x):=hB.app (by simp [hx])
omit hL hK in
theorem VD {A B C:List lH}{x:XE}{a d e p:Nat}(hB:KB A B):l_ (HN A B+4) (RQ A L a d e p (B++(hx A B x++C)))=some (RQ A L a d e p (B++hx A B x)):=by
 have:=xD (L:=L) (a:=a) (d:=d) (er:=e) (p:=p) (A:=A) (B:=B) (C:=hx A B x++C) (k:=4) (by simpa [hx] using Ri (x:=x) hB) (by simp [hx])
 simpa [hx] using this
omit hL hK in
theorem SV {A B:List lH}{x:XE}{a d e p:Nat}(hB:KB A B):l_ (HN A B+4) (RQ A L a d e p (B++hx A B x))=some (RQ A L a d e p (B++hx A B x)):=by
 have:=VD (L:=L) (C:=[]) (x:=x) (a:=a) (d:=d) (e:=e) (p:=p) hB
 simpa using this
omit hL hK in
theorem SU {A B:List lH}{x:XE}{a d e p:Nat}(hB:KB A B):l_ (HN A B+4) (RQ A L a d e p (B++Rh x))=some (RQ A L a d e p (B++Rh x)):=by
 have:=xD (L:=L) (a:=a) (d:=d) (er:=e) (p:=p) (A:=A) (B:=B) (C:=Rh x) (k:=4) (by simpa [Rh] using hB.app (by simp)) (by simp [Rh])
 simpa [Rh] using this
omit hL hK in
theorem FP {A B C:List lH}{a d e p i:Nat}{k1 k2 k3:Int}{nm:List UInt8}{rows:List (List kH)}(hB:KB A B) (hi:4≤i) :
  l_ (HN A B+4) (RQ A L a d e p (B++(.cells [.int .i64 0,.int .i64 0,.int .i64 0,.str [],.slice [] (.own (HN A B+1))]::.front 0 0::.cells [.int .i64 k1,.int .i64 k2,.int .i64 k3,.str nm,.slice rows (.own (HN A B+i))]::.front 0 0::C))) =
   some (RQ A L a d e p (B++[.cells [.int .i64 0,.int .i64 0,.int .i64 0,.str [],.slice [] (.own (HN A B+1))],.front 0 0,.cells [.int .i64 k1,.int .i64 k2,.int .i64 k3,.str nm,.slice rows .no],.front 0 0])):=by
 have h1:¬HN A B+i < HN A B+4:=by omega
 have h2:HN A B+1 < HN A B+4:=by omega
 exact KC (C1:=[.cells [.int .i64 0,.int .i64 0,.int .i64 0,.str [],.slice [] (.own (HN A B+1))],.front 0 0,.cells [.int .i64 k1,.int .i64 k2,.int .i64 k3,.str nm,.slice rows (.own (HN A B+i))],.front 0 0]) (C2:=C) hB rfl (by simp [h1,h2])
omit hL hK in
theorem Oh {A B:List lH}{x:XE}{a d e p t m:Nat}{c:Bool}(hB:KB A B) (he:e≠0) :
  vP KK (HN A B+4) ([.ptr A.length 0,.int .i64 (t:Int),.ptr (HN A B) 0,.ptr (HN A B+2) 0,.bool c,.int .i64 (m:Int)],RQ A L a d e p (B++hx A B x)) =
   some (.exit 0,[.ptr A.length 0,.int .i64 (t:Int),.ptr (HN A B) 0,.ptr (HN A B+2) 0,.bool c,.int .i64 (m:Int)],RQ A L a d e p (B++hx A B x)):=by
 have he':¬(e:Int)=0:=by omega
 have ht:=SV (L:=L) (x:=x) (a:=a) (d:=d) (e:=e) (p:=p) hB
 have q1:∀h,kH.mT (HN A B+4) h (.ptr A.length 0)=.ptr A.length 0:=fun h=>lD (by simp [HN]; omega)
 have q2:∀h,kH.mT (HN A B+4) h (.ptr (HN A B) 0)=.ptr (HN A B) 0:=fun h=>lD (by omega)
 have q3:∀h,kH.mT (HN A B+4) h (.ptr (HN A B+2) 0)=.ptr (HN A B+2) 0:=fun h=>lD (by omega)
 simp -implicitDefEqProofs [vP,he,he',kW,ht,q1,q2,q3]
omit hL hK in
theorem Tn {A B:List lH}{x:XE}{a d t m:Nat}{c:Bool}(ha:a < L.length) (hB:KB A B) (hs:(oI (oD (tk L a))).1≤t∨m < (oI (oD (tk L a))).1∨((oI (oD (tk L a))).1=1∧c=true)) :
  vP KK (HN A B+4) ([.ptr A.length 0,.int .i64 (t:Int),.ptr (HN A B) 0,.ptr (HN A B+2) 0,.bool c,.int .i64 (m:Int)],RQ A L a d 0 0 (B++hx A B x)) =
   some (.ret,[.ptr A.length 0,.int .i64 (t:Int),.ptr (HN A B) 0,.ptr (HN A B+2) 0,.bool c,.int .i64 (m:Int)],RQ A L a d 0 0 (B++Rh x)):=by
 have h184:=C9 (L:=L) (d:=d) (e:=0) (p:=0) ha (Ri (x:=x) hB)
 have h253:=akP (oD (tk L a))
 have ht:=SU (L:=L) (x:=x) (a:=a) (d:=d) (e:=0) (p:=0) hB
 have q1:∀h,kH.mT (HN A B+4) h (.ptr A.length 0)=.ptr A.length 0:=fun h=>lD (by simp [HN]; omega)
 have q2:∀h,kH.mT (HN A B+4) h (.ptr (HN A B) 0)=.ptr (HN A B) 0:=fun h=>lD (by omega)
 have q3:∀h,kH.mT (HN A B+4) h (.ptr (HN A B+2) 0)=.ptr (HN A B+2) 0:=fun h=>lD (by omega)
 generalize (oI (oD (tk L a))).1=n at *
 generalize (oI (oD (tk L a))).2=k at *
 simp only [hx,Rh] at h184 ht ⊢
 by_cases h1:n≤t
 ·have h1':(n:Int)≤t:=by omega
  simp -implicitDefEqProofs [vP,ha,hB,h184,h253,h1,h1',kW,ht,q1,q2,q3]
 ·have h1':¬(n:Int)≤t:=by omega
  by_cases h2:m < n
  ·have h2':(m:Int) < n:=by omega
   simp -implicitDefEqProofs [vP,ha,hB,h184,h253,h1,h1',h2,h2',kW,ht,q1,q2,q3]
  ·have h2':¬(m:Int) < n:=by omega
   obtain⟨h3,h4⟩:n=1∧c=true:=by rcases hs with h | h | h; exact absurd h h1; exact absurd h h2; exact h
   subst h3; subst h4
   have h1':¬(1:Int)≤t:=by omega
   have h2':¬(m:Int) < 1:=by omega
   simp -implicitDefEqProofs [vP,ha,hB,h184,h253,h1,h1',h2,h2',kW,ht,q1,q2,q3]
theorem Tl {A B:List lH}{x:XE}{a d t m n kd:Nat}{c:Bool}(ha:a < L.length) (hB:KB A B) (hn:n=(oI (oD (tk L a))).1) (hkd:kd=(oI (oD (tk L a))).2) (h1:¬n≤t) (h2:¬m < n) (h5:n=5)
  (ha1:a+1 < L.length):∃v a2 e2 p2,Step L (qH L 2) (a+1) d 0 0 v a2 e2 p2 ∧
  vP KK (HN A B+4) ([.ptr A.length 0,.int .i64 (t:Int),.ptr (HN A B) 0,.ptr (HN A B+2) 0,.bool c,.int .i64 (m:Int)],RQ A L a d 0 0 (B++hx A B x)) =
   some (.normal,[.ptr A.length 0,.int .i64 (t:Int),.ptr (HN A B) 0,.ptr (HN A B+2) 0,.bool (c || decide (n=1)),.int .i64 (n:Int)],RQ A L a2 d e2 p2 (B++hx A B (.mk kd (tk L a).pos v.num [] [x]))):=by
 have h184:=C9 (L:=L) (d:=d) (e:=0) (p:=0) ha (Ri (x:=x) hB)
 have h253:=akP (oD (tk L a))
 have w1:=uJ (a:=a) (by omega)
 have q1:∀h,kH.mT (HN A B+4) h (.ptr A.length 0)=.ptr A.length 0:=fun h=>lD (by simp [HN]; omega)
 have q2:∀h,kH.mT (HN A B+4) h (.ptr (HN A B) 0)=.ptr (HN A B) 0:=fun h=>lD (by omega)
 have q3:∀h,kH.mT (HN A B+4) h (.ptr (HN A B+2) 0)=.ptr (HN A B+2) 0:=fun h=>lD (by omega)
 have hC:KB A (B++(hx A B x++[.cells [.int .i64 (kd:Int),.int .i64 ((tk L a).pos:Int),.int .i64 0,.str [],.slice [x.cells] (.own (HN A B+5))],.front 1 5,.front 1 5])):=by
  refine hB.app ?_
  simp [hx]
 obtain⟨v,a2,e2,p2,g1,s1⟩:=Jj hL hK (k:=2) (by decide) A _ (a+1) d 0 0 ha1 trivial hC (fun _=>rfl)
 refine⟨v,a2,e2,p2,s1,?_⟩
 rw [←hn,←hkd] at h253
 subst h5
 have h1':¬(5:Int)≤t:=by omega
 have h2':¬(m:Int) < 5:=by omega
 simp only [hx,ae8,ah4,ad3,xA,Token.cells,XE.cells,XE.rows] at h184 g1 h253 ⊢
 cases c <;> simp -implicitDefEqProofs [vP,ha,hB,xW,HW,h184,h253,h1,h1',h2,h2',w1,g1,kW,FP,q1,q2,q3]
theorem P5 {n0:Nat}{y:PM XE}{A B:List lH}{x:XE}{a d t m n kd:Nat}{c:Bool}(ha:a < L.length) (hd:n0+d=65) (h0:1≤n0) (hB:KB A B) (hn:n=(oI (oD (tk L a))).1) (hkd:kd=(oI (oD (tk L a))).2) (h1:¬n≤t) (h2:¬m < n) (h3:¬(n=1∧c=true)) (h5:¬n=5)
  (ha1:a+1 < L.length) (hy:DI L n0 158 [.int .i64 (n:Int)] qV y):∃v a2 e2 p2,Step L y (a+1) d 0 0 v a2 e2 p2 ∧
  vP KK (HN A B+4) ([.ptr A.length 0,.int .i64 (t:Int),.ptr (HN A B) 0,.ptr (HN A B+2) 0,.bool c,.int .i64 (m:Int)],RQ A L a d 0 0 (B++hx A B x)) =
   some (.normal,[.ptr A.length 0,.int .i64 (t:Int),.ptr (HN A B) 0,.ptr (HN A B+2) 0,.bool (c || decide (n=1)),.int .i64 (n:Int)],RQ A L a2 d e2 p2 (B++hx A B (.mk kd (tk L a).pos 0 [] [x,v]))):=by
 have h184:=C9 (L:=L) (d:=d) (e:=0) (p:=0) ha (Ri (x:=x) hB)
 have h253:=akP (oD (tk L a))
 have w1:=uJ (a:=a) (by omega)
 have q1:∀h,kH.mT (HN A B+4) h (.ptr A.length 0)=.ptr A.length 0:=fun h=>lD (by simp [HN]; omega)
 have q2:∀h,kH.mT (HN A B+4) h (.ptr (HN A B) 0)=.ptr (HN A B) 0:=fun h=>lD (by omega)
 have q3:∀h,kH.mT (HN A B+4) h (.ptr (HN A B+2) 0)=.ptr (HN A B+2) 0:=fun h=>lD (by omega)
 have hC:KB A (B++(hx A B x++[.gone,.front 1 5,.front 1 5])):=by
  refine hB.app ?_
  simp [hx]
 obtain⟨v,a2,e2,p2,g1,s1⟩:=hy A _ (a+1) d 0 0 ha1 hd (fun _=>h0) hC (fun _=>rfl)
 refine⟨v,a2,e2,p2,s1,?_⟩
 rw [←hn,←hkd] at h253
 have h1':¬(n:Int)≤t:=by omega
 have h2':¬(m:Int) < n:=by omega
 have h5':¬(n:Int)=5:=by omega
 simp only [hx,ae8,ah4,ad3,qV,XE.cells,XE.rows] at h184 g1 h253 ⊢
 by_cases h1n:n=1
 ·subst h1n
  have hc:c=false:=by cases c; rfl; exact absurd ⟨rfl,rfl⟩ h3
  subst hc
  have h1':¬(1:Int)≤t:=by omega
  have h2':¬(m:Int) < 1:=by omega
  simp only [ad3] at g1 h253 ⊢
  simp -implicitDefEqProofs [vP,ha,hB,xW,HW,h184,h253,h1',h2',w1,g1,kW,FP,q1,q2,q3]
 ·have h1n':¬(n:Int)=1:=by omega
  cases c <;> simp -implicitDefEqProofs [vP,ha,hB,xW,HW,h184,h253,h1,h1',h2,h2',h5,h5',h1n,h1n',w1,g1,kW,FP,q1,q2,q3]
end
end
section
open Go Hk
theorem Step.Rc {L:List Token}{α:Type}{x y:PM α}{a b d a1 e1 p1:Nat}{v:α}(s:Step L y b d 0 0 v a1 e1 p1) (h:x a d=y b d):Step L x a d 0 0 v a1 e1 p1 :=
 ⟨s.lt,fun he hp=>by rw [h]; exact s.ok he hp,fun h=>absurd rfl h⟩
theorem Step.JM {L:List Token}{α:Type}{x:PM α}{a d a1 p1:Nat}{v:α}(s:Step L x a d 0 0 v a1 0 p1):∃d',x a d=.ok v a1 d':=by
 have:=s.ok rfl rfl
 cases hx:x a d with
 | ok v0 a0 d0=>rw [hx] at this; obtain⟨rfl,rfl,_⟩:=this; exact⟨d0,rfl⟩
 | bad e p a0 d0=>rw [hx] at this; obtain⟨h1,_,h2⟩:=this; exact absurd h1.symm h2
section
variable {L:List Token}(hL:L.length≤131072) (hK:qF L) (hW:uL L)
include hL hK hW
theorem Tm {n0 than d : Nat} {A B : List lH} (hB : KB A B) (hd : n0 + d = 65)
    (hy : ∀ t, than < t → t ≤ 7 → DI L n0 158 [.int .i64 (t : Int)] qV (oP L (Dz L n0) (7 - t))) :
    ∀ (f : Nat) (x : XE) (a e p m : Nat) (c : Bool), a < L.length → (e = 0 → L.length < a + f) → m ≤ 7 → (e = 0 → p = 0) → (e = 0 → 1 ≤ n0) →
    ∃ x' a' e' p' c' m', Step L (zY L (Dz L n0) than f m c x) a d e p x' a' e' p' ∧
      (mL (vP KK (HN A B + 4)) ([.ptr A.length 0, .int .i64 (than : Int), .ptr (HN A B) 0, .ptr (HN A B + 2) 0, .bool c, .int .i64 (m : Int)], RQ A L a d e p (B ++ hx A B x)) =
          some (.exit 0, [.ptr A.length 0, .int .i64 (than : Int), .ptr (HN A B) 0, .ptr (HN A B + 2) 0, .bool c', .int .i64 (m' : Nat)], RQ A L a' d e' p' (B ++ hx A B x')) ∨
       mL (vP KK (HN A B + 4)) ([.ptr A.length 0, .int .i64 (than : Int), .ptr (HN A B) 0, .ptr (HN A B + 2) 0, .bool c, .int .i64 (m : Int)], RQ A L a d e p (B ++ hx A B x)) =
          some (.ret, [.ptr A.length 0, .int .i64 (than : Int), .ptr (HN A B) 0, .ptr (HN A B + 2) 0, .bool c', .int .i64 (m' : Nat)], RQ A L a' d e' p' (B ++ Rh x'))) := by
  intro f
  induction f with
  | zero =>
    intro x a e p m c ha hf hm hp h1
    have he : e ≠ 0 := fun h => by have := hf h; omega
    refine ⟨x, a, e, p, c, m, Step.stay ha he, .inl ?_⟩
    rw [mY, Oh hB he]; rfl
  | succ f ih =>
    intro x a e p m c ha hf hm hp h1
    by_cases he : e = 0
    · subst he
      have hp0 := hp rfl
      subst hp0
      have hfl := hf rfl
      have h1n := h1 rfl
      obtain ⟨n, hn⟩ : ∃ n, n = (oI (oD (tk L a))).1 := ⟨_, rfl⟩
      obtain ⟨kd, hkd⟩ : ∃ k, k = (oI (oD (tk L a))).2 := ⟨_, rfl⟩
      by_cases hs : n ≤ than ∨ m < n ∨ (n = 1 ∧ c = true)
      · refine ⟨x, a, 0, 0, c, m, ⟨ha, fun _ _ => ?_, fun h => absurd rfl h⟩, .inr ?_⟩
        · have : zY L (Dz L n0) than (f + 1) m c x a d = .ok x a d := by
            simp only [zY, mD, PM.bind, oF, ← hn]
            rw [if_pos hs]; rfl
          rw [this]; exact ⟨rfl, rfl, rfl, rfl⟩
        · rw [mY, Tn ha hB (by rw [← hn]; exact hs)]; rfl
      · have hs1 : ¬ n ≤ than := fun h => hs (.inl h)
        have hs2 : ¬ m < n := fun h => hs (.inr (.inl h))
        have hs3 : ¬ (n = 1 ∧ c = true) := fun h => hs (.inr (.inr h))
        have hsk : pM (tk L a) (n - 1) = some kd := by rw [Ai (hW a), ← hn, ← hkd, if_pos (by omega)]
        have ha1 := o9 (k := 4) hK ha (by decide) (rA hsk)
        have hn7 : n ≤ 7 := by omega
        by_cases h5 : n = 5
        · obtain ⟨v, a2, e2, p2, s1, g1⟩ := Tl hL hK (x := x) (c := c) ha hB hn hkd hs1 hs2 h5 ha1 (d := d)
          have hp2 := s1.zero (fun _ => rfl)
          obtain ⟨x', a', e', p', c', m', s2, g2⟩ := ih (.mk kd (tk L a).pos v.num [] [x]) a2 e2 p2 n (c || decide (n = 1)) s1.lt (fun h => by
            subst h
            obtain ⟨d', hd'⟩ := s1.JM
            have := (rL hK (k := 2) (by omega) _ _ _ _ _ hd' ha1).1
            omega) hn7 hp2 (fun _ => h1n)
          refine ⟨x', a', e', p', c', m', (Step.bind (f := fun z : Token => zY L (Dz L n0) than f n (c || decide (n = 1)) (.mk kd (tk L a).pos z.num [] [x])) s1 ((rL hK (by omega)).dep ha1) s2).Rc ?_, ?_⟩
          · simp only [zY, mD, PM.bind, oF, ← hn, ← hkd]
            rw [if_neg hs]
            simp only [PM.bind, wC]
            rw [if_pos h5]; rfl
          · rw [mY, g1]
            simpa only [ae3, nP] using g2
        · obtain ⟨v, a2, e2, p2, s1, g1⟩ := P5 hL hK (x := x) (c := c) ha hd h1n hB hn hkd hs1 hs2 hs3 h5 ha1 (hy n (by omega) hn7)
          have hp2 := s1.zero (fun _ => rfl)
          have hgc := Aa hK (L7 hK n0) (7 - n)
          obtain ⟨x', a', e', p', c', m', s2, g2⟩ := ih (.mk kd (tk L a).pos 0 [] [x, v]) a2 e2 p2 n (c || decide (n = 1)) s1.lt (fun h => by
            subst h
            obtain ⟨d', hd'⟩ := s1.JM
            have := (hgc _ _ _ _ _ hd' ha1).1
            omega) hn7 hp2 (fun _ => h1n)
          refine ⟨x', a', e', p', c', m', (Step.bind (f := fun z : XE => zY L (Dz L n0) than f n (c || decide (n = 1)) (.mk kd (tk L a).pos 0 [] [x, z])) s1 (hgc.dep ha1) s2).Rc ?_, ?_⟩
          · simp only [zY, mD, PM.bind, oF, ← hn, ← hkd]
            rw [if_neg hs]
            simp only [PM.bind, wC]
            rw [if_neg h5]; rfl
          · rw [mY, g1]
            simpa only [ae3, nP] using g2
    · refine ⟨x, a, e, p, c, m, Step.stay ha he, .inl ?_⟩
      rw [mY, Oh hB he]; rfl
theorem OB {n0 than:Nat}(ht:than≤7) (hU:DI L n0 184 [] qV (Dz L n0))
  (hy:∀t,than < t→t≤7→DI L n0 158 [.int .i64 (t:Int)] qV (oP L (Dz L n0) (7 - t))):DI L n0 158 [.int .i64 (than:Int)] qV (Ja L (Dz L n0) than):=by
 intro A B a d e p ha hd he hB hp
 have hC:KB A (B++[.cells [.int .i64 0,.int .i64 0,.int .i64 0,.str [],.slice [] (.own (HN A B+1))],.front 0 0]):=hB.app (by simp)
 obtain⟨v,a1,e1,p1,g1,s1⟩:=hU A _ a d e p ha hd he hC hp
 have hp1:=s1.zero hp
 have he1:e1=0→1≤n0:=fun h=>by
  by_cases h0:e=0
  ·exact he h0
  ·obtain⟨_,h2,_⟩:=s1.bad h0; omega
 have hg:=L7 hK n0
 obtain⟨x',a',e',p',c',m',s2,g2⟩:=Tm hL hK hW hB hd hy 131073 v a1 e1 p1 7 false s1.lt (fun _=>by omega) (ac8 7) hp1 he1
 refine⟨x',a',e',p',lA (aaY _ _ _ _) ?_,(s1.bind (hg.dep ha) s2).congr ?_⟩
 ·simp only [hx,Rh,ad3] at g2
  rcases g2 with g2 | g2 <;> simp -implicitDefEqProofs [ap4,hB,g1,g2]
 ·rw [mD,Td hK hW hg hL ht ha]
theorem ax5 {n0:Nat}(hU:DI L n0 184 [] qV (Dz L n0)):∀(j than:Nat),than+j=7→DI L n0 158 [.int .i64 (than:Int)] qV (Ja L (Dz L n0) than):=by
 have key:∀(j than:Nat),than+j=7→∀t,than≤t→t≤7→DI L n0 158 [.int .i64 (t:Int)] qV (Ja L (Dz L n0) t):=by
  intro j
  induction j with
  | zero =>
   intro than h t h1 h2
   exact OB hL hK hW h2 hU fun t' h3 h4=>absurd h3 (by omega)
  | succ j ih =>
   intro than h t h1 h2
   refine OB hL hK hW h2 hU fun t' h3 h4=>?_
   have:=ih (than+1) (by omega) t' (by omega) h4
   unfold Ja at this
   rw [if_neg (by omega)] at this
   exact this
 intro j than h
 exact key j than h than (ac8 _) (by omega)
theorem OA {n0:Nat}(hU:DI L n0 184 [] qV (Dz L n0)):DI L n0 158 [.int .i64 0] qV (AF L n0):=by
 have:=ax5 hL hK hW hU 7 0 rfl
 unfold Ja at this
 rw [if_pos rfl] at this
 exact this
end
end
section
open Go Hk
def Fb (L:List Token) {α:Type}(one:PM α) (n:Nat) (l:List α):PM (List α):=do
 if ←oW L [44] then wJ L one n l else return l
theorem Dv {L:List Token}{α:Type}{one:PM α}{n:Nat}{l:List α}:wJ L one (n+1) l=(one >>= fun x=>Fb L one n (l++[x])):=by
 rw [wJ]; rfl
def yF (L:List Token) (ex:PM XE) (nm:Token):PM XE:=do
 if ←Eu L [40] then zN L ex nm
 else if ←Eu L [91] then
  let l ←uD L ex
  return .mk 3 nm.pos 0 nm.text l
 else return .mk 2 nm.pos 0 nm.text []
theorem Dx {L:List Token}{w:List UInt8}{a d e p a1 p1:Nat}{u:Unit}(s:Step L (tH L w) a d e p u a1 0 p1) (hp:e=0→p=0):d≠64∧e=0:=by
 by_cases he:e=0
 ·subst he
  have:=hp rfl
  subst this
  obtain⟨d',h⟩:=s.JM
  refine⟨fun h64=>?_,rfl⟩
  rw [h64] at h
  unfold tH at h
  split at h
  ·simp only [if_true] at h; cases h
  ·cases h
 ·obtain⟨_,h2,_⟩:=s.bad he; omega
def hb (A B:List lH) (nm:Token) (k:Int) (l:List XE):List lH:=[.cells nm.cells,.cells [.int .i64 0,.int .i64 0,.int .i64 0,.str [],.slice [] (.own (HN A B+2))],.front 0 0,
 .cells [.int .i64 k,.int .i64 (nm.pos:Int),.int .i64 0,.str nm.text,.slice (l.map XE.cells) (.own (HN A B+4))],.front l.length (sK l.length 5)]
section
variable {L:List Token}(hL:L.length≤131072) (hK:qF L) (hW:uL L)
include hL hK
omit hL hK in
theorem NT {A B:List lH}{nm:Token}{k:Int}{l:List XE}(hB:KB A B):KB A (B++(hb A B nm k l++[.front 1 5])):=hB.app (by simp [hb])
omit hL hK in
theorem NU {A B C:List lH}{nm:Token}{k:Int}{l:List XE}{a d e p:Nat}(hB:KB A B):l_ (HN A B+6) (RQ A L a d e p (B++(hb A B nm k l++(.front 1 5::C))))=some (RQ A L a d e p (B++(hb A B nm k l++[.front 1 5]))):=by
 have:=xD (L:=L) (a:=a) (d:=d) (er:=e) (p:=p) (A:=A) (B:=B) (C:=hb A B nm k l++(.front 1 5::C)) (k:=6) (by simpa [hb] using NT (nm:=nm) (k:=k) (l:=l) hB) (by simp [hb])
 simpa [hb] using this
theorem Ts {n0 d:Nat}{A B:List lH}{nm:Token}(hB:KB A B) (hd:n0+d=65) (hE:DI L n0 158 [.int .i64 0] qV (AF L n0)) :
  ∀(f:Nat) (l:List XE) (a e p:Nat),a < L.length→(e=0→L.length < a+f)→(e=0→p=0)→(e=0→1≤n0)→(e=0→l.length≤a)→l.length≤131072 →
  ∃l' a' e' p',Step L (Fb L (AF L n0) f l) a d e p l' a' e' p'∧l'.length≤131072 ∧
   mL (E5 KK (HN A B+6)) ([.ptr A.length 0,.ptr (HN A B+1) 0,.ptr (HN A B+3) 0],RQ A L a d e p (B++(hb A B nm 4 l++[.front 1 5]))) =
    some (.exit 0,[.ptr A.length 0,.ptr (HN A B+1) 0,.ptr (HN A B+3) 0],RQ A L a' d e' p' (B++(hb A B nm 4 l'++[.front 1 5]))):=by
 intro f
 have q1:∀h,kH.mT (HN A B+6) h (.ptr A.length 0)=.ptr A.length 0:=fun h=>lD (by simp [HN]; omega)
 have q2:∀h,kH.mT (HN A B+6) h (.ptr (HN A B+1) 0)=.ptr (HN A B+1) 0:=fun h=>lD (by omega)
 have q3:∀h,kH.mT (HN A B+6) h (.ptr (HN A B+3) 0)=.ptr (HN A B+3) 0:=fun h=>lD (by omega)
 have stop:∀(f:Nat) (l:List XE) (a e p:Nat),a < L.length→(e=0→p=0)→vA e (tk L a) [44]=false→l.length≤131072 →
   ∃l' a' e' p',Step L (Fb L (AF L n0) f l) a d e p l' a' e' p'∧l'.length≤131072 ∧
   mL (E5 KK (HN A B+6)) ([.ptr A.length 0,.ptr (HN A B+1) 0,.ptr (HN A B+3) 0],RQ A L a d e p (B++(hb A B nm 4 l++[.front 1 5]))) =
    some (.exit 0,[.ptr A.length 0,.ptr (HN A B+1) 0,.ptr (HN A B+3) 0],RQ A L a' d e' p' (B++(hb A B nm 4 l'++[.front 1 5]))):=by
  intro f l a e p ha hp hs hl2
  have h151:=Ko (L:=L) hL (d:=d) (w:=[44]) (by decide) ha (NT (nm:=nm) (k:=4) (l:=l) hB) hp
  simp only [hs,ac1,if_false] at h151
  refine⟨l,a,e,p,?_,hl2,?_⟩
  ·unfold Fb
   refine Step.maybe hL hK ?_
   simp only [hs,ac1,if_false]
   exact Step.pure ha
  ·have ht:=NU (L:=L) (C:=[]) (nm:=nm) (k:=4) (l:=l) (a:=a) (d:=d) (e:=e) (p:=p) hB
   rw [mY]
   simp -implicitDefEqProofs [E5,h151,kW,ht,q1,q2,q3]
 induction f with
 | zero =>
  intro l a e p ha hf hp h1 hl hl2
  have he:e≠0:=fun h=>by have:=hf h; omega
  exact stop 0 l a e p ha hp (by simp [vA,he]) hl2
 | succ f ih =>
  intro l a e p ha hf hp h1 hl hl2
  cases hs:vA e (tk L a) [44]
  ·exact stop (f+1) l a e p ha hp hs hl2
  ·obtain⟨he,hs2,ha1⟩:=yK hL hK ha hs
   subst he
   have:=hp rfl
   subst this
   have hfl:=hf rfl
   have hll:=hl rfl
   have h151:=Ko (L:=L) hL (d:=d) (w:=[44]) (by decide) ha (NT (nm:=nm) (k:=4) (l:=l) hB) hp
   simp only [hs,if_true] at h151
   have hC:KB A (B++[.cells nm.cells,.cells [.int .i64 0,.int .i64 0,.int .i64 0,.str [],.slice [] (.own (HN A B+2))],.front 0 0,.gone,.front l.length (sK l.length 5),.front 1 5]):=hB.app (by simp)
   obtain⟨v,a2,e2,p2,g1,s1⟩:=hE A _ (a+1) d 0 0 ha1 hd h1 hC (fun _=>rfl)
   have hp2:=s1.zero (fun _=>rfl)
   have hg:=Bm hK n0
   obtain⟨l',a',e',p',s2,hl3,g2⟩:=ih (l++[v]) a2 e2 p2 s1.lt (fun h=>by
    subst h
    obtain⟨d',hd'⟩:=s1.JM
    have:=(hg _ _ _ _ _ hd' ha1).1
    omega) hp2 (fun _=>h1 rfl) (fun h=>by
    subst h
    obtain⟨d',hd'⟩:=s1.JM
    have:=(hg _ _ _ _ _ hd' ha1).1
    simp; omega) (by simp; omega)
   refine⟨l',a',e',p',?_,hl3,?_⟩
   ·unfold Fb
    refine Step.maybe hL hK ?_
    simp only [hs,if_true]
    rw [Dv]
    exact s1.bind (hg.dep ha1) s2
   ·have ht:=NU (L:=L) (C:=[.front 1 5]) (nm:=nm) (k:=4) (l:=l++[v]) (a:=a2) (d:=d) (e:=e2) (p:=p2) hB
    have hpush:=fun(t:Tok) (C:List lH) hc=>CK (A:=A) (B:=B) (C:=C) (L:=L) (a:=a2) (d:=d) (er:=e2) (p:=p2) (k:=4) (x:=v) (t:=t) l hc (by omega)
    rw [mY,←g2]
    simp only [hb,ae8,ah4,al9,af7,al1,qV,Token.cells,aa6,ab0,ab3,al0,rC] at h151 g1 ht ⊢
    simp -implicitDefEqProofs [E5,h151,g1,hB,hpush,kW,ht,q1,q2,q3]
def RCB (L:List Token) (n0:Nat):Prop:=∀(nm:Token) (A B:List lH) (a d e p:Nat),a < L.length→n0+1+d=65→KB A B→(e=0→p=0) →
 ∃k l a' e' p' C,KK 186 [.ptr A.length 0,.agg nm.cells] (RQ A L a d e p B)=some (.ret (.agg [.int .i64 (k:Nat),.int .i64 (nm.pos:Int),.int .i64 0,.str nm.text,.slice (l.map XE.cells) (.own (HN A B+4))]),RQ A L a' d e' p' (B++C)) ∧
  C[4]?=some (.front l.length (sK l.length 5))∧(∃R:List kH,R.length=5∧Bg (HN A B+5) R∧(C=[.cells nm.cells,.cells R,.front 0 0,.cells R,.front l.length (sK l.length 5)]∨C=[.cells nm.cells,.cells R,.front 0 0,.cells R,.front l.length (sK l.length 5),.front 1 5]))∧Fq (HN A B+C.length) C∧l.length≤131072∧Step L (yF L (AF L n0) nm) a d e p (.mk k nm.pos 0 nm.text l) a' e' p'
theorem aq6 {n0:Nat}(hE:DI L n0 158 [.int .i64 0] qV (AF L n0)):RCB L n0:=by
 intro nm A B a d e p ha hd hB hp
 have hbB:∀k l,KB A (B++hb A B nm k l):=fun k l=>hB.app (by simp [hb])
 have h40:=fun k l=>Oz (L:=L) (d:=d) (w:=[40]) (by decide) ha (hbB k l) hp
 have h91:=fun k l=>Oz (L:=L) (d:=d) (w:=[91]) (by decide) ha (hbB k l) hp
 cases hs:vA e (tk L a) [40]
 ·cases hs2:vA e (tk L a) [91]
  ·have g1:=h40 2 []
   have g2:=h91 2 []
   simp only [hs,hs2,hb,al1,ab3,rD] at g1 g2
   refine⟨2,[],a,e,p,[.cells nm.cells,.cells [.int .i64 2,.int .i64 (nm.pos:Int),.int .i64 0,.str nm.text,.slice [] (.own (HN A B+4))],.front 0 0,.cells [.int .i64 2,.int .i64 (nm.pos:Int),.int .i64 0,.str nm.text,.slice [] (.own (HN A B+4))],.front 0 0],
    lA (Ht _ _ _ _) ?_,rfl,⟨_,rfl,by simp,.inl rfl⟩,by simp,by simp,?_⟩
   ·simp only [Token.cells] at g1 g2
    simp -implicitDefEqProofs [Wb,g1,g2]
   ·unfold yF
    refine Step.Cm hL hK ?_
    simp only [hs,ac1,if_false]
    refine Step.Cm hL hK ?_
    simp only [hs2,ac1,if_false]
    exact Step.pure ha
  ·obtain⟨u,a1,e1,p1,g3,s3⟩:=TK hL hK (w:=[91]) (by decide) A _ a d e p ha (by show d≤64; omega) (hbB 3 []) hp
   have hp1:=s3.zero hp
   have hn1:e1=0→1≤n0:=fun h=>by subst h; have:=(Dx s3 hp).1; omega
   have hC:KB A (B++[.cells nm.cells,.cells [.int .i64 0,.int .i64 0,.int .i64 0,.str [],.slice [] (.own (HN A B+2))],.front 0 0,.gone,.front 0 0]):=hB.app (by simp)
   obtain⟨v,a2,e2,p2,g4,s4⟩:=hE A _ a1 (d+1) e1 p1 s3.lt (by omega) hn1 hC hp1
   have hp2:=s4.zero hp1
   obtain⟨u',a3,e3,p3,g5,s5⟩:=Qk hL hK (w:=[93]) (by decide) A _ a2 (d+1) e2 p2 s4.lt (by show 1≤d+1∧d+1≤1000; omega) (NT (nm:=nm) (k:=3) (l:=[v]) hB) hp2
   have g1:=h40 2 []
   have g2:=h91 2 []
   have hg:=Bm hK n0
   refine⟨3,[v],a3,e3,p3,[.cells nm.cells,.cells [.int .i64 3,.int .i64 (nm.pos:Int),.int .i64 0,.str nm.text,.slice [v.cells] (.own (HN A B+4))],.front 0 0,.cells [.int .i64 3,.int .i64 (nm.pos:Int),.int .i64 0,.str nm.text,.slice [v.cells] (.own (HN A B+4))],.front 1 5,.front 1 5],
    lA (Ht _ _ _ _) ?_,rfl,⟨_,rfl,by simp,.inr rfl⟩,by simp,by simp,?_⟩
   ·simp only [hs,hs2,hb,al1,ab3,rD,ae8,ah4,af7,ab0,al0,rC,Token.cells,tJ,qV,am0,ad3] at g1 g2 g3 g4 g5
    simp -implicitDefEqProofs [Wb,g1,g2,g3,g4,g5,hB,xW]
   ·unfold yF
    refine Step.Cm hL hK ?_
    simp only [hs,ac1,if_false]
    refine Step.Cm hL hK ?_
    simp only [hs2,if_true]
    have:Step L (uD L (AF L n0)) a d e p [v] a3 e3 p3:=by
     unfold uD
     exact s3.bind ((x9 hK).dep ha) (s4.bind (hg.dep s3.lt) (s5.bind ((yX hK).dep s4.lt) (Step.pure s5.lt)))
    exact this.bind ((ES hK hg).dep ha) (Step.pure this.lt)
 ·obtain⟨u,a1,e1,p1,g3,s3⟩:=TK hL hK (w:=[40]) (by decide) A _ a d e p ha (by show d≤64; omega) (hbB 4 []) hp
  have hp1:=s3.zero hp
  have hn1:e1=0→1≤n0:=fun h=>by subst h; have:=(Dx s3 hp).1; omega
  have g1:=h40 2 []
  have h41:=fun k l=>Oz (L:=L) (d:=d+1) (w:=[41]) (by decide) s3.lt (hbB k l) hp1
  have g6:=h41 4 []
  have hg:=Bm hK n0
  cases hs3:vA e1 (tk L a1) [41]
  ·have hC:KB A (B++[.cells nm.cells,.cells [.int .i64 0,.int .i64 0,.int .i64 0,.str [],.slice [] (.own (HN A B+2))],.front 0 0,.gone,.front 0 0]):=hB.app (by simp)
   obtain⟨v,a2,e2,p2,g4,s4⟩:=hE A _ a1 (d+1) e1 p1 s3.lt (by omega) hn1 hC hp1
   have hp2:=s4.zero hp1
   have adv:e2=0→a1+1≤a2:=fun h=>by
    by_cases he1:e1=0
    ·subst he1; subst h
     have:=hp1 rfl
     subst this
     obtain⟨d',hd'⟩:=s4.JM
     exact(hg _ _ _ _ _ hd' s3.lt).1
    ·have:=(s4.bad he1).2.1; omega
   obtain⟨l,a3,e3,p3,s5,hl3,g5⟩:=Ts (nm:=nm) hL hK hB (show n0+(d+1)=65 by omega) hE 131072 [v] a2 e2 p2 s4.lt (fun _=>by omega) hp2 (fun h=>by
    by_cases he1:e1=0
    ·exact hn1 he1
    ·have:=(s4.bad he1).2.1; omega) (fun h=>by have:=adv h; simp; omega) (by simp)
   have hp3:=s5.zero hp2
   obtain⟨u',a4,e4,p4,g7,s6⟩:=Qk hL hK (w:=[41]) (by decide) A _ a3 (d+1) e3 p3 s5.lt (by show 1≤d+1∧d+1≤1000; omega) (NT (nm:=nm) (k:=4) (l:=l) hB) hp3
   refine⟨4,l,a4,e4,p4,[.cells nm.cells,.cells [.int .i64 4,.int .i64 (nm.pos:Int),.int .i64 0,.str nm.text,.slice (l.map XE.cells) (.own (HN A B+4))],.front 0 0,.cells [.int .i64 4,.int .i64 (nm.pos:Int),.int .i64 0,.str nm.text,.slice (l.map XE.cells) (.own (HN A B+4))],.front l.length (sK l.length 5),.front 1 5],
    lA (Ht _ _ _ _) ?_,rfl,⟨_,rfl,by simp,.inr rfl⟩,by simp,hl3,?_⟩
   ·simp only [hs,hs3,hb,al1,ab3,rD,ae8,ah4,af7,ab0,al0,rC,Token.cells,tJ,qV,am0,ad3] at g1 g3 g4 g5 g6 g7
    simp -implicitDefEqProofs [Wb,g1,g3,g4,g5,g6,g7,hB,xW]
   ·unfold yF
    refine Step.Cm hL hK ?_
    simp only [hs,if_true]
    unfold zN xL
    have h1:Step L (wJ L (AF L n0) (131072+1) []) a1 (d+1) e1 p1 l a3 e3 p3:=by
     rw [Dv]
     exact s4.bind (hg.dep s3.lt) s5
    refine s3.bind ((x9 hK).dep ha) (Step.bind (d1:=d+1) (v:=l) (a1:=a3) (e1:=e3) (p1:=p3) ?_ ((D6 hK hg).dep s3.lt) (s6.bind ((yX hK).dep s5.lt) (Step.pure s6.lt)))
    refine Step.Cm hL hK ?_
    simp only [hs3,ac1,if_false]
    exact h1
  ·obtain⟨u',a4,e4,p4,g7,s6⟩:=Qk hL hK (w:=[41]) (by decide) A _ a1 (d+1) e1 p1 s3.lt (by show 1≤d+1∧d+1≤1000; omega) (hbB 4 []) hp1
   refine⟨4,[],a4,e4,p4,[.cells nm.cells,.cells [.int .i64 4,.int .i64 (nm.pos:Int),.int .i64 0,.str nm.text,.slice [] (.own (HN A B+4))],.front 0 0,.cells [.int .i64 4,.int .i64 (nm.pos:Int),.int .i64 0,.str nm.text,.slice [] (.own (HN A B+4))],.front 0 0],
    lA (Ht _ _ _ _) ?_,rfl,⟨_,rfl,by simp,.inl rfl⟩,by simp,by simp,?_⟩
   ·simp only [hs,hs3,hb,al1,ab3,rD,ae8,ah4,Token.cells,tJ,am0] at g1 g3 g6 g7
    simp -implicitDefEqProofs [Wb,g1,g3,g6,g7,hB]
   ·unfold yF
    refine Step.Cm hL hK ?_
    simp only [hs,if_true]
    unfold zN xL
    refine s3.bind ((x9 hK).dep ha) (Step.bind (d1:=d+1) (v:=[]) (a1:=a1) (e1:=e1) (p1:=p1) ?_ ((D6 hK hg).dep s3.lt) (s6.bind ((yX hK).dep s3.lt) (Step.pure s6.lt)))
    refine Step.Cm hL hK ?_
    simp only [hs3,if_true]
    exact Step.pure s3.lt
end
end
section
open Go Hk
def yP:List (List UInt8×Nat×Nat):=[([109,117,108,104,105],23,2),([99,97,114,114,121],24,2),([115,101,108,101,99,116],25,3),([119,111,114,100],26,1),([114,111,114],16,1)]
theorem Mk {h:kL}:kU 5 1 [(.str [])] [(0,(.str [109,117,108,104,105])),(1,(.str [99,97,114,114,121])),(2,(.str [115,101,108,101,99,116])),(3,(.str [119,111,114,100])),(4,(.str [114,111,114]))] h=some (.slice (yP.map fun x=>[.str x.1]) (.own h.length),h++[.front 5 1]):=(rfl)
theorem Ml {h:kL}:kU 5 1 [(.int .i64 0)] [(0,(.int .i64 23)),(1,(.int .i64 24)),(2,(.int .i64 25)),(3,(.int .i64 26)),(4,(.int .i64 16))] h=some (.slice (yP.map fun x=>[.int .i64 (x.2.1:Int)]) (.own h.length),h++[.front 5 1]):=(rfl)
theorem Mm {h:kL}:kU 5 1 [(.int .i64 0)] [(0,(.int .i64 2)),(1,(.int .i64 2)),(2,(.int .i64 3)),(3,(.int .i64 1)),(4,(.int .i64 1))] h=some (.slice (yP.map fun x=>[.int .i64 (x.2.2:Int)]) (.own h.length),h++[.front 5 1]):=(rfl)
def hv (A B:List lH) (tok:Token):List lH:=[.cells [.int .i64 0,.int .i64 0,.int .i64 0,.str [],.slice [] (.own (HN A B+1))],.front 0 0,.cells tok.cells,.front 5 1,.front 5 1,.front 5 1]
def hw (A B:List lH) (tok:Token) (kd:Nat) (num:Nat) (l:List XE):List lH:=[.cells [.int .i64 0,.int .i64 0,.int .i64 0,.str [],.slice [] (.own (HN A B+1))],.front 0 0,.cells tok.cells,.front 5 1,.front 5 1,.front 5 1,
 .cells [.int .i64 (kd:Int),.int .i64 (tok.pos:Int),.int .i64 (num:Int),.str [],.slice (l.map XE.cells) (.own (HN A B+7))],.front l.length (sK l.length 5)]
section
variable {L:List Token}(hL:L.length≤131072) (hK:qF L) (hW:uL L)
include hL hK
omit hL hK in
theorem IP {A B:List lH}{tok:Token}{kd num:Nat}{l:List XE}(hB:KB A B):KB A (B++hw A B tok kd num l):=hB.app (by simp [hw])
omit hL hK in
theorem aeD {A B:List lH}{tok:Token}(hB:KB A B):KB A (B++hv A B tok):=hB.app (by simp [hv])
omit hL hK in
theorem N0 {A B C:List lH}{tok:Token}{kd num:Nat}{l:List XE}{a d e p:Nat}(hB:KB A B):l_ (HN A B+8) (RQ A L a d e p (B++(hw A B tok kd num l++C)))=some (RQ A L a d e p (B++hw A B tok kd num l)):=by
 have:=xD (L:=L) (a:=a) (d:=d) (er:=e) (p:=p) (A:=A) (B:=B) (C:=hw A B tok kd num l++C) (k:=8) (by simpa [hw] using IP (tok:=tok) (kd:=kd) (num:=num) (l:=l) hB) (by simp [hw])
 simpa [hw] using this
def st0 (A B:List lH) (s:List UInt8) (i k:Nat):List kH:=[.ptr A.length 0,.str s,.ptr (HN A B) 0,.ptr (HN A B+2) 0,.slice (yP.map fun x=>[.str x.1]) (.own (HN A B+3)),.slice (yP.map fun x=>[.int .i64 (x.2.1:Int)]) (.own (HN A B+4)),.slice (yP.map fun x=>[.int .i64 (x.2.2:Int)]) (.own (HN A B+5)),.int .i64 (i:Int),.ptr (HN A B+6) 0,.int .i64 (k:Int)]
theorem Tt {n0 d kd many i:Nat}{A B:List lH}{tok:Token}{s w:List UInt8}(hB:KB A B) (hd:n0+d=65) (hT:yP[i]?=some (w,kd,many)) (hm:many≤100) (hE:DI L n0 158 [.int .i64 0] qV (AF L n0)) :
  ∀(r k:Nat) (l:List XE) (a e p:Nat),k+r=many→l.length=k→a < L.length→(e=0→p=0)→(e=0→1≤n0) →
  ∃l' a' e' p',Step L (tG L (AF L n0) r (decide (k=0)) l) a d e p l' a' e' p'∧l'.length=many ∧
   mL (E7 KK (HN A B+8)) (st0 A B s i k,RQ A L a d e p (B++hw A B tok kd 0 l))=some (.exit 2,st0 A B s i many,RQ A L a' d e' p' (B++hw A B tok kd 0 l')):=by
 intro r
 have q1:∀h,kH.mT (HN A B+8) h (.ptr A.length 0)=.ptr A.length 0:=fun h=>lD (by simp [HN]; omega)
 have q2:∀h,kH.mT (HN A B+8) h (.ptr (HN A B) 0)=.ptr (HN A B) 0:=fun h=>lD (by omega)
 have q3:∀h,kH.mT (HN A B+8) h (.ptr (HN A B+2) 0)=.ptr (HN A B+2) 0:=fun h=>lD (by omega)
 have q4:∀h,kH.mT (HN A B+8) h (.ptr (HN A B+6) 0)=.ptr (HN A B+6) 0:=fun h=>lD (by omega)
 have o3:HN A B+3 < HN A B+8:=by omega
 have o4:HN A B+4 < HN A B+8:=by omega
 have o5:HN A B+5 < HN A B+8:=by omega
 have hix:k9 1 (.slice (yP.map fun x=>[.int .i64 (x.2.2:Int)]) (.own (HN A B+5))) (.int .i64 (i:Int))=some (.pptr [.int .i64 (many:Int)]):=by
  rw [EG,hT]; rfl
 induction r with
 | zero =>
  intro k l a e p hk hl ha hp h1
  obtain rfl:k=many:=by omega
  refine⟨l,a,e,p,Step.pure ha,hl,?_⟩
  have ht:=N0 (L:=L) (C:=[]) (tok:=tok) (kd:=kd) (num:=0) (l:=l) (a:=a) (d:=d) (e:=e) (p:=p) hB
  rw [am4] at ht
  rw [mY]
  simp -implicitDefEqProofs [E7,st0,hT,kW,ht,q1,q2,q3,q4]
 | succ r ih =>
  intro k l a e p hk hl ha hp h1
  have hkm:(k:Int) < many:=by omega
  have w1:=uJ (a:=k) (by omega)
  have hg:=Bm hK n0
  have comma:∃a1 e1 p1,a1 < L.length∧(e1=0→p1=0)∧(e1=0→1≤n0) ∧
    (∀{β:Type}{f:PM β}{v:β}{a2 e2 p2:Nat},Step L f a1 d e1 p1 v a2 e2 p2→Step L (if k=0 then f else oA L [44] >>= fun _=>f) a d e p v a2 e2 p2) ∧
    (k=0→a1=a∧e1=e∧p1=p) ∧
    (k≠0→KK 57 [.ptr A.length 0,.str [44]] (RQ A L a d e p (B++hw A B tok kd 0 l))=some (.ret (.tuple []),RQ A L a1 d e1 p1 (B++hw A B tok kd 0 l))):=by
   by_cases hk0:k=0
   ·exact⟨a,e,p,ha,hp,h1,fun s=>by rw [if_pos hk0]; exact s,fun _=>⟨rfl,rfl,rfl⟩,fun h=>absurd hk0 h⟩
   ·obtain⟨u,a1,e1,p1,g1,s1⟩:=Br hL hK (w:=[44]) (by decide) A _ a d e p ha trivial (IP (tok:=tok) (kd:=kd) (num:=0) (l:=l) hB) hp
    refine⟨a1,e1,p1,s1.lt,s1.zero hp,fun h=>?_,fun s=>?_,fun h=>absurd h hk0,fun _=>g1⟩
    ·by_cases h0:e=0
     ·exact h1 h0
     ·have:=(s1.bad h0).2.1; omega
    ·rw [if_neg hk0]
     exact s1.bind ((pR hK).dep ha) s
  obtain⟨a1,e1,p1,ha1,hp1,hn1,hst,hz,hnz⟩:=comma
  have hC:KB A (B++[.cells [.int .i64 0,.int .i64 0,.int .i64 0,.str [],.slice [] (.own (HN A B+1))],.front 0 0,.cells tok.cells,.front 5 1,.front 5 1,.front 5 1,.gone,.front l.length (sK l.length 5)]):=hB.app (by simp)
  obtain⟨v,a2,e2,p2,g2,s2⟩:=hE A _ a1 d e1 p1 ha1 hd hn1 hC hp1
  have hp2:=s2.zero hp1
  obtain⟨l',a',e',p',s3,hl3,g3⟩:=ih (k+1) (l++[v]) a2 e2 p2 (by omega) (by simp [hl]) s2.lt hp2 (fun h=>by
   by_cases h0:e1=0
   ·exact hn1 h0
   ·have:=(s2.bad h0).2.1; omega)
  rw [decide_eq_false (by omega)] at s3
  refine⟨l',a',e',p',?_,hl3,?_⟩
  ·have hs:=hst (Step.bind (f:=fun x=>tG L (AF L n0) r false (l++[x])) s2 (hg.dep ha1) s3)
   unfold tG
   by_cases hk0:k=0
   ·rw [if_pos hk0] at hs
    rw [decide_eq_true hk0]
    exact hs
   ·rw [if_neg hk0] at hs
    rw [decide_eq_false hk0]
    exact hs
  ·have ht:=N0 (L:=L) (C:=[.front 1 5]) (tok:=tok) (kd:=kd) (num:=0) (l:=l++[v]) (a:=a2) (d:=d) (e:=e2) (p:=p2) hB
   have hpush:=fun(t:Tok) (C:List lH) hc=>CK (A:=A) (B:=B) (C:=C) (L:=L) (a:=a2) (d:=d) (er:=e2) (p:=p2) (k:=7) (x:=v) (t:=t) l hc (by omega)
   rw [mY,←g3]
   clear g3 ih s3 s2
   by_cases hk0:k=0
   ·obtain⟨rfl,rfl,rfl⟩:=hz hk0
    have hk0':¬(0:Int) < k:=by omega
    have hk1:¬0 < k:=by omega
    simp only [hw,ae8,ah4,al9,af7,al1,qV,Token.cells,aa6,ab0,ab3,al0,rC,st0,ad3] at g2 ht ⊢
    simp -implicitDefEqProofs [E7,hT,hkm,hk0',hk1,g2,hB,hpush,w1,kW,ht,q1,q2,q3,q4]
   ·have g1:=hnz hk0
    have hk0':(0:Int) < k:=by omega
    have hk1:0 < k:=by omega
    simp only [hw,ae8,ah4,al9,af7,al1,qV,Token.cells,aa6,ab0,ab3,al0,rC,st0,ad3] at g1 g2 ht ⊢
    simp -implicitDefEqProofs [E7,hT,hkm,hk0',hk1,g1,g2,hB,hpush,w1,kW,ht,q1,q2,q3,q4]
omit hL hK in
theorem KS {A B C:List lH}{tok:Token}{a d e p:Nat}{k1 k2 k3:Int}{nm:List UInt8}{rows:List (List kH)}(hB:KB A B) :
  l_ (HN A B+6) (RQ A L a d e p (B++(.cells [.int .i64 k1,.int .i64 k2,.int .i64 k3,.str nm,.slice rows (.own (HN A B+7))]::.front 0 0::.cells [.int .i64 (tok.kind:Int),.int .i64 (tok.pos:Int),.int .i64 (tok.num:Int),.str tok.text]::.front 5 1::.front 5 1::.front 5 1::C))) =
   some (RQ A L a d e p (B++[.cells [.int .i64 k1,.int .i64 k2,.int .i64 k3,.str nm,.slice rows .no],.front 0 0,.cells [.int .i64 (tok.kind:Int),.int .i64 (tok.pos:Int),.int .i64 (tok.num:Int),.str tok.text],.front 5 1,.front 5 1,.front 5 1])):=by
 have h1:¬HN A B+7 < HN A B+6:=by omega
 exact KC (C1:=[.cells [.int .i64 k1,.int .i64 k2,.int .i64 k3,.str nm,.slice rows (.own (HN A B+7))],.front 0 0,.cells [.int .i64 (tok.kind:Int),.int .i64 (tok.pos:Int),.int .i64 (tok.num:Int),.str tok.text],.front 5 1,.front 5 1,.front 5 1]) (C2:=C) hB rfl (by simp [h1])
def Jx (A B:List lH) (s:List UInt8) (i:Nat):List kH:=[.ptr A.length 0,.str s,.ptr (HN A B) 0,.ptr (HN A B+2) 0,.slice (yP.map fun x=>[.str x.1]) (.own (HN A B+3)),.slice (yP.map fun x=>[.int .i64 (x.2.1:Int)]) (.own (HN A B+4)),.slice (yP.map fun x=>[.int .i64 (x.2.2:Int)]) (.own (HN A B+5)),.int .i64 (i:Int)]
omit hL hK in
theorem NZ {A B:List lH}{tok:Token}{a d e p:Nat}(hB:KB A B):l_ (HN A B+6) (RQ A L a d e p (B++hv A B tok))=some (RQ A L a d e p (B++hv A B tok)):=by
 have:=xD (L:=L) (a:=a) (d:=d) (er:=e) (p:=p) (A:=A) (B:=B) (C:=hv A B tok) (k:=6) (by simpa [hv] using aeD (tok:=tok) hB) (by simp [hv])
 simpa [hv] using this
omit hL hK in
theorem Tv {A B:List lH}{tok:Token}{s w:List UInt8}{a d e p i kd many:Nat}(hB:KB A B) (hT:yP[i]?=some (w,kd,many)) (hws:w≠s) (hi:i < 5) :
  tW KK (HN A B+6) (Jx A B s i,RQ A L a d e p (B++hv A B tok))=some (.normal,Jx A B s (i+1),RQ A L a d e p (B++hv A B tok)):=by
 have q1:∀h,kH.mT (HN A B+6) h (.ptr A.length 0)=.ptr A.length 0:=fun h=>lD (by simp [HN]; omega)
 have q2:∀h,kH.mT (HN A B+6) h (.ptr (HN A B) 0)=.ptr (HN A B) 0:=fun h=>lD (by omega)
 have q3:∀h,kH.mT (HN A B+6) h (.ptr (HN A B+2) 0)=.ptr (HN A B+2) 0:=fun h=>lD (by omega)
 have hi':(i:Int) < 5:=by omega
 have w1:=uJ (a:=i) (by omega)
 have ht:=NZ (L:=L) (tok:=tok) (a:=a) (d:=d) (e:=e) (p:=p) hB
 simp -implicitDefEqProofs [tW,Jx,hT,hi',hws,w1,kW,ht,q1,q2,q3]
omit hL hK in
theorem Tu {A B:List lH}{tok:Token}{s:List UInt8}{a d e p:Nat}(hB:KB A B) :
  tW KK (HN A B+6) (Jx A B s 5,RQ A L a d e p (B++hv A B tok))=some (.exit 0,Jx A B s 5,RQ A L a d e p (B++hv A B tok)):=by
 have q1:∀h,kH.mT (HN A B+6) h (.ptr A.length 0)=.ptr A.length 0:=fun h=>lD (by simp [HN]; omega)
 have q2:∀h,kH.mT (HN A B+6) h (.ptr (HN A B) 0)=.ptr (HN A B) 0:=fun h=>lD (by omega)
 have q3:∀h,kH.mT (HN A B+6) h (.ptr (HN A B+2) 0)=.ptr (HN A B+2) 0:=fun h=>lD (by omega)
 have ht:=NZ (L:=L) (tok:=tok) (a:=a) (d:=d) (e:=e) (p:=p) hB
 simp -implicitDefEqProofs [tW,Jx,kW,ht,q1,q2,q3]
theorem Wd {n0:Nat}{A B:List lH}{s:List UInt8}{a d i kd many:Nat}(hB:KB A B) (hd:n0+1+d=65) (hT:yP[i]?=some (s,kd,many)) (hm:many≤100) (hi:i < 5) (ha1:a+1 < L.length) (hE:DI L n0 158 [.int .i64 0] qV (AF L n0)) :
  ∃num l a' e' p',Step L (vQ L (AF L n0) kd many (decide (s=[114,111,114]))) a d 0 0 (.mk kd (tk L a).pos num [] l) a' e' p' ∧
   tW KK (HN A B+6) (Jx A B s i,RQ A L a d 0 0 (B++hv A B (tk L a))) =
    some (.ret,Jx A B s i,RQ A L a' d e' p' (B++[.cells (XE.mk kd (tk L a).pos num [] l).cells,.front 0 0,.cells (tk L a).cells,.front 5 1,.front 5 1,.front 5 1])):=by
 have q1:∀h,kH.mT (HN A B+6) h (.ptr A.length 0)=.ptr A.length 0:=fun h=>lD (by simp [HN]; omega)
 have q2:∀h,kH.mT (HN A B+6) h (.ptr (HN A B) 0)=.ptr (HN A B) 0:=fun h=>lD (by omega)
 have q3:∀h,kH.mT (HN A B+6) h (.ptr (HN A B+2) 0)=.ptr (HN A B+2) 0:=fun h=>lD (by omega)
 have hi':(i:Int) < 5:=by omega
 have w1:=uJ (a:=a) (by omega)
 obtain⟨tok,htok⟩:∃t,t=tk L a:=⟨_,rfl⟩
 rw [←htok]
 have hg:=Bm hK n0
 obtain⟨u,a1,e1,p1,g1,s1⟩:=TK hL hK (w:=[40]) (by decide) A _ (a+1) d 0 0 ha1 (by show d≤64; omega) (IP (tok:=tok) (kd:=kd) (num:=0) (l:=[]) hB) (fun _=>rfl)
 have hp1:=s1.zero (fun _=>rfl)
 have hn1:e1=0→1≤n0:=fun h=>by subst h; have:=(Dx s1 (fun _=>rfl)).1; omega
 obtain⟨l,a2,e2,p2,s2,hl,g2⟩:=Tt hL hK (tok:=tok) (s:=s) hB (show n0+(d+1)=65 by omega) hT hm hE many 0 [] a1 e1 p1 (by omega) rfl s1.lt hp1 hn1
 have hp2:=s2.zero hp1
 have gargs:∀a' d',tG L (AF L n0) many (decide (0=0)) [] a1 (d+1)=.ok l a' d'→d'=d+1:=fun a' d' h=>((II hK hg _ _ _) _ _ _ _ _ h s1.lt).2.2
 have gargs2:∀v a' d',tG L (AF L n0) many (decide (0=0)) [] a1 (d+1)=.ok v a' d'→d'=d+1:=fun v a' d' h=>((II hK hg _ _ _) _ _ _ _ _ h s1.lt).2.2
 by_cases hr:s=[114,111,114]
 ·subst hr
  obtain⟨u3,a3,e3,p3,g3,s3⟩:=Br hL hK (w:=[44]) (by decide) A _ a2 (d+1) e2 p2 s2.lt trivial (IP (tok:=tok) (kd:=kd) (num:=0) (l:=l) hB) hp2
  have hp3:=s3.zero hp2
  obtain⟨nt,a4,e4,p4,g4,s4⟩:=Jj hL hK (k:=2) (by decide) A _ a3 (d+1) e3 p3 s3.lt trivial (IP (tok:=tok) (kd:=kd) (num:=0) (l:=l) hB) hp3
  have hp4:=s4.zero hp3
  obtain⟨u5,a5,e5,p5,g5,s5⟩:=Qk hL hK (w:=[41]) (by decide) A _ a4 (d+1) e4 p4 s4.lt (by show 1≤d+1∧d+1≤1000; omega) (IP (tok:=tok) (kd:=kd) (num:=nt.num) (l:=l) hB) hp4
  refine⟨nt.num,l,a5,e5,p5,?_,?_⟩
  ·have h2:=s1.bind (f:=fun _=>tG L (AF L n0) many true [] >>= fun l=>oA L [44] >>= fun _=>qH L 2 >>= fun n=>tI L [41] >>= fun _=>pure (XE.mk kd tok.pos n.num [] l))
    ((x9 hK).dep ha1) (Step.bind s2 gargs2 (s3.bind ((pR hK).dep s2.lt) (s4.bind ((rL hK (by omega)).dep s3.lt) (s5.bind ((yX hK).dep s4.lt) (Step.pure s5.lt)))))
   refine h2.Rc ?_
   unfold vQ
   simp only [decide_true,if_true,mD,PM.bind,oF,wC,←htok]
  ·simp only [hw,al1,ab3,rD,am0,Token.cells,tJ,xA,st0,ad3] at g1 g2 g3 g4 g5
   simp -implicitDefEqProofs [tW,Jx,hv,hT,hi',w1,g1,g2,g3,g4,g5,ha1,hB,kW,KS,q1,q2,q3,XE.cells,XE.oK]
 ·obtain⟨u5,a5,e5,p5,g5,s5⟩:=Qk hL hK (w:=[41]) (by decide) A _ a2 (d+1) e2 p2 s2.lt (by show 1≤d+1∧d+1≤1000; omega) (IP (tok:=tok) (kd:=kd) (num:=0) (l:=l) hB) hp2
  refine⟨0,l,a5,e5,p5,?_,?_⟩
  ·have h2:=s1.bind (f:=fun _=>tG L (AF L n0) many true [] >>= fun l=>tI L [41] >>= fun _=>pure (XE.mk kd tok.pos 0 [] l))
    ((x9 hK).dep ha1) (Step.bind s2 gargs2 (s5.bind ((yX hK).dep s2.lt) (Step.pure s5.lt)))
   refine h2.Rc ?_
   unfold vQ
   simp only [hr,decide_false,ac1,if_false,mD,PM.bind,oF,wC,←htok]
  ·simp only [hw,al1,ab3,rD,am0,Token.cells,tJ,xA,st0,ad3] at g1 g2 g5
   simp -implicitDefEqProofs [tW,Jx,hv,hT,hi',hr,w1,g1,g2,g5,ha1,hB,kW,KS,q1,q2,q3,XE.cells,XE.oK]
end
end
section
open Go Hk
section
variable {L:List Token}(hL:L.length≤131072) (hK:qF L) (hW:uL L)
include hL hK
omit hL hK in
theorem Ry {A B:List lH}{tok:Token}{s w:List UInt8}{a d e p i kd many:Nat}(hB:KB A B) (hT:yP[i]?=some (w,kd,many)) (hws:w≠s) (hi:i < 5) :
  mL (tW KK (HN A B+6)) (Jx A B s i,RQ A L a d e p (B++hv A B tok))=mL (tW KK (HN A B+6)) (Jx A B s (i+1),RQ A L a d e p (B++hv A B tok)):=by
 rw [mY,Tv hB hT hws hi]; rfl
theorem TM {n0:Nat}(hE:DI L n0 158 [.int .i64 0] qV (AF L n0)) {i kd many:Nat}{s:List UInt8}(hT:yP[i]?=some (s,kd,many)) {A B:List lH}{a d:Nat}(ha:a < L.length) (hd:n0+1+d=65) (hB:KB A B) (hs:isS (tk L a) s=true)
  (hm:many≤100) (hi:i < 5) (hfirst:∀j,j < i→∃w k m,yP[j]?=some (w,k,m)∧w≠s) :
  ∃v a' e' p',KK 209 [.ptr A.length 0,.str s] (RQ A L a d 0 0 B)=some (.ret (qV v),RQ A L a' d e' p' B)∧Step L (vQ L (AF L n0) kd many (decide (s=[114,111,114]))) a d 0 0 v a' e' p':=by
 have ha1:=mH hK ha hs
 obtain⟨num,l,a',e',p',s1,g1⟩:=Wd hL hK hB hd hT hm hi ha1 hE
 refine⟨_,a',e',p',lA (Ms _ _ _ _) ?_,s1⟩
 have hl:mL (tW KK (HN A B+6)) (Jx A B s 0,RQ A L a d 0 0 (B++hv A B (tk L a)))=some (.ret,Jx A B s i,RQ A L a' d e' p' (B++[.cells (XE.mk kd (tk L a).pos num [] l).cells,.front 0 0,.cells (tk L a).cells,.front 5 1,.front 5 1,.front 5 1])):=by
  have key:∀j,j≤i→mL (tW KK (HN A B+6)) (Jx A B s 0,RQ A L a d 0 0 (B++hv A B (tk L a)))=mL (tW KK (HN A B+6)) (Jx A B s j,RQ A L a d 0 0 (B++hv A B (tk L a))):=by
   intro j
   induction j with
   | zero=>intro _; rfl
   | succ j ih =>
    intro hj
    obtain⟨w,k,m,h1,h2⟩:=hfirst j (by omega)
    rw [ih (by omega),Ry hB h1 h2 (by omega)]
  rw [key i (ac8 _),mY,g1]; rfl
 simp only [hv,Jx,ad3,Token.cells] at hl
 simp -implicitDefEqProofs [abF,ha,hB,Mk,Ml,Mm,hl]
theorem TL {n0:Nat}(hBh:RCB L n0) {s:List UInt8}{A B:List lH}{a d:Nat}(ha:a < L.length) (hd:n0+1+d=65) (hB:KB A B)
  (hfirst:∀j,j < 5→∃w k m,yP[j]?=some (w,k,m)∧w≠s) :
  ∃v a' e' p',KK 209 [.ptr A.length 0,.str s] (RQ A L a d 0 0 B)=some (.ret (qV v),RQ A L a' d e' p' B) ∧
   Step L (if (tk L a).kind=2 then(wC >>= fun _=>pure (.mk 1 (tk L a).pos (tk L a).num [] [])) else qH L 1 >>= fun _=>yF L (AF L n0) (tk L a)) a d 0 0 v a' e' p':=by
 have hl:mL (tW KK (HN A B+6)) (Jx A B s 0,RQ A L a d 0 0 (B++hv A B (tk L a)))=some (.exit 0,Jx A B s 5,RQ A L a d 0 0 (B++hv A B (tk L a))):=by
  have key:∀j,j≤5→mL (tW KK (HN A B+6)) (Jx A B s 0,RQ A L a d 0 0 (B++hv A B (tk L a)))=mL (tW KK (HN A B+6)) (Jx A B s j,RQ A L a d 0 0 (B++hv A B (tk L a))):=by
   intro j
   induction j with
   | zero=>intro _; rfl
   | succ j ih =>
    intro hj
    obtain⟨w,k,m,h1,h2⟩:=hfirst j (by omega)
    rw [ih (by omega),Ry hB h1 h2 (by omega)]
  rw [key 5 (ac8 _),mY,Tu hB]; rfl
 have w1:=uJ (a:=a) (by omega)
 by_cases hk:(tk L a).kind=2
 ·have ha1:=o9 (k:=2) hK ha (by decide) hk
  refine⟨.mk 1 (tk L a).pos (tk L a).num [] [],a+1,0,0,lA (Ms _ _ _ _) ?_,?_⟩
  ·simp only [hv,Jx,Token.cells,hk,ad3] at hl
   simp -implicitDefEqProofs [abF,ha,hB,Mk,Ml,Mm,hl,hk,w1,XE.cells,XE.rows]
  ·rw [if_pos hk]
   exact⟨ha1,fun _ _=>⟨rfl,rfl,rfl,rfl⟩,fun h=>absurd rfl h⟩
 ·have hk':¬((tk L a).kind:Int)=2:=by omega
  obtain⟨nm,a1,e1,p1,g1,s1⟩:=Jj hL hK (k:=1) (by decide) A _ a d 0 0 ha trivial (aeD (tok:=tk L a) hB) (fun _=>rfl)
  have hp1:=s1.zero (fun _=>rfl)
  have hB2:KB A (B++(hv A B (tk L a)++[.cells nm.cells])):=hB.app (by simp [hv])
  obtain⟨k,l,a',e',p',C,g2,g3,g4,g5,g6,s2⟩:=hBh nm A _ a1 d e1 p1 s1.lt hd hB2 hp1
  refine⟨.mk k nm.pos 0 nm.text l,a',e',p',lA (Ms _ _ _ _) ?_,?_⟩
  ·simp only [hv,Jx,ad3,Token.cells,xA,ae8,ah4,al8] at hl g1 g2
   simp -implicitDefEqProofs [abF,ha,hB,Mk,Ml,Mm,hl,hk,hk',g1,g2,XE.cells,XE.oK]
  ·rw [if_neg hk]
   refine s1.bind ((rL hK (by omega)).dep ha) ?_
   by_cases he1:e1=0
   ·subst he1
    obtain⟨d',hd'⟩:=s1.JM
    have:nm=tk L a:=by
     unfold qH at hd'
     split at hd'
     ·cases hd'; rfl
     ·cases hd'
    rw [this] at s2 ⊢
    exact s2
   ·exact s2.any he1
theorem ax7 {n0:Nat}(hE:DI L n0 158 [.int .i64 0] qV (AF L n0)) (hBh:RCB L n0) {A B:List lH}{a d:Nat}(ha:a < L.length) (hd:n0+1+d=65) (hB:KB A B) (h40:isS (tk L a) [40]=false) :
  ∃v a' e' p',KK 209 [.ptr A.length 0,.str (oD (tk L a))] (RQ A L a d 0 0 B)=some (.ret (qV v),RQ A L a' d e' p' B)∧Step L (qE L (AF L n0)) a d 0 0 v a' e' p':=by
 have nk:∀{w:List UInt8},isS (tk L a) w=true→¬(tk L a).kind=2:=fun h h2=>by simp [isS,h2] at h
 have pick:∀(i:Nat) (w:List UInt8) (kd many:Nat),yP[i]?=some (w,kd,many)→i < 5→many≤100→w≠[]→oD (tk L a)=w →
   (∀j,j < i→∃w' k m,yP[j]?=some (w',k,m)∧w'≠w) →
   ∃v a' e' p',KK 209 [.ptr A.length 0,.str (oD (tk L a))] (RQ A L a d 0 0 B)=some (.ret (qV v),RQ A L a' d e' p' B)∧Step L (vQ L (AF L n0) kd many (decide (w=[114,111,114]))) a d 0 0 v a' e' p':=by
  intro i w kd many hT hi hm hne hw hf
  rw [hw]
  exact TM hL hK hE hT ha hd hB ((tX hne).1 hw) hm hi hf
 have prim:∀{v:XE}{a' e' p':Nat}{y:PM XE},Step L y a d 0 0 v a' e' p'→qE L (AF L n0) a d=y a d→Step L (qE L (AF L n0)) a d 0 0 v a' e' p':=fun s h=>s.congr h.symm
 have isn:∀{w w':List UInt8},isS (tk L a) w=true→w≠w'→isS (tk L a) w'=false:=by
  intro w w' h hne
  simp only [isS,ad0,decide_eq_true_eq] at h
  unfold isS
  rw [show decide ((tk L a).text=w')=false from decide_eq_false (fun h2=>hne (h.2.symm.trans h2)),Bool.and_false]
 by_cases h0:oD (tk L a)=[109,117,108,104,105]
 ·obtain⟨v,a',e',p',g1,s1⟩:=pick 0 _ 23 2 rfl (by omega) (by omega) (by decide) h0 (fun j hj=>absurd hj (by omega))
  have hs:=(tX (by decide)).1 h0
  refine⟨v,a',e',p',g1,prim s1 ?_⟩
  simp only [qE,mD,PM.bind,oF,nk hs,h40,hs,if_false,if_true,ac1]
  rfl
 by_cases h1:oD (tk L a)=[99,97,114,114,121]
 ·obtain⟨v,a',e',p',g1,s1⟩:=pick 1 _ 24 2 rfl (by omega) (by omega) (by decide) h1 (fun j hj=>by
   obtain rfl:j=0:=by omega
   exact⟨_,_,_,rfl,by decide⟩)
  have hs:=(tX (by decide)).1 h1
  refine⟨v,a',e',p',g1,prim s1 ?_⟩
  simp only [qE,mD,PM.bind,oF,nk hs,h40,isn hs (w':=[109,117,108,104,105]) (by decide),hs,if_false,if_true,ac1]
  rfl
 by_cases h2:oD (tk L a)=[115,101,108,101,99,116]
 ·obtain⟨v,a',e',p',g1,s1⟩:=pick 2 _ 25 3 rfl (by omega) (by omega) (by decide) h2 (fun j hj=>by
   rcases (show j=0∨j=1 by omega) with rfl | rfl <;> exact⟨_,_,_,rfl,by decide⟩)
  have hs:=(tX (by decide)).1 h2
  refine⟨v,a',e',p',g1,prim s1 ?_⟩
  simp only [qE,mD,PM.bind,oF,nk hs,h40,isn hs (w':=[109,117,108,104,105]) (by decide),isn hs (w':=[99,97,114,114,121]) (by decide),hs,if_false,if_true,ac1]
  rfl
 by_cases h3:oD (tk L a)=[119,111,114,100]
 ·obtain⟨v,a',e',p',g1,s1⟩:=pick 3 _ 26 1 rfl (by omega) (by omega) (by decide) h3 (fun j hj=>by
   rcases (show j=0∨j=1∨j=2 by omega) with rfl | rfl | rfl <;> exact⟨_,_,_,rfl,by decide⟩)
  have hs:=(tX (by decide)).1 h3
  refine⟨v,a',e',p',g1,prim s1 ?_⟩
  simp only [qE,mD,PM.bind,oF,nk hs,h40,isn hs (w':=[109,117,108,104,105]) (by decide),isn hs (w':=[99,97,114,114,121]) (by decide),isn hs (w':=[115,101,108,101,99,116]) (by decide),hs,if_false,if_true,ac1]
  rfl
 by_cases h4:oD (tk L a)=[114,111,114]
 ·obtain⟨v,a',e',p',g1,s1⟩:=pick 4 _ 16 1 rfl (by omega) (by omega) (by decide) h4 (fun j hj=>by
   rcases (show j=0∨j=1∨j=2∨j=3 by omega) with rfl | rfl | rfl | rfl <;> exact⟨_,_,_,rfl,by decide⟩)
  have hs:=(tX (by decide)).1 h4
  refine⟨v,a',e',p',g1,prim s1 ?_⟩
  simp only [qE,mD,PM.bind,oF,nk hs,h40,isn hs (w':=[109,117,108,104,105]) (by decide),isn hs (w':=[99,97,114,114,121]) (by decide),isn hs (w':=[115,101,108,101,99,116]) (by decide),isn hs (w':=[119,111,114,100]) (by decide),hs,if_false,if_true,ac1]
  rfl
 ·obtain⟨v,a',e',p',g1,s1⟩:=TL hL hK hBh (s:=oD (tk L a)) ha hd hB (fun j hj=>by
   rcases (show j=0∨j=1∨j=2∨j=3∨j=4 by omega) with rfl | rfl | rfl | rfl | rfl
   ·exact⟨_,_,_,rfl,fun h=>h0 h.symm⟩
   ·exact⟨_,_,_,rfl,fun h=>h1 h.symm⟩
   ·exact⟨_,_,_,rfl,fun h=>h2 h.symm⟩
   ·exact⟨_,_,_,rfl,fun h=>h3 h.symm⟩
   ·exact⟨_,_,_,rfl,fun h=>h4 h.symm⟩)
  have no:∀{w:List UInt8},w≠[]→¬oD (tk L a)=w→isS (tk L a) w=false:=by
   intro w hw h
   cases hs:isS (tk L a) w with
   | false=>rfl
   | true=>exact absurd ((tX hw).2 hs) h
  refine⟨v,a',e',p',g1,prim s1 ?_⟩
  simp only [qE,mD,PM.bind,oF,h40,no (by decide) h0,no (by decide) h1,no (by decide) h2,no (by decide) h3,no (by decide) h4,if_false,ac1]
  by_cases hk:(tk L a).kind=2
  ·rw [if_pos hk,if_pos hk]
  ·rw [if_neg hk,if_neg hk]; rfl
end
end
section
open Go Hk
section
variable {L:List Token}(hL:L.length≤131072) (hK:qF L) (hW:uL L)
theorem aeW:GX L (fun d=>d≤65) 184 [] (fun d=>d) (qV xe0):=by
 intro A B a d e p ha hd hB he
 refine lA (Hs _ _ _) ?_
 have he':¬(e:Int)=0:=by omega
 simp -implicitDefEqProofs [Wa,ha,hB,he,he',qV,xe0,XE.cells,XE.rows]
include hL hK
theorem F7 {n0:Nat}(hU:DI L n0 184 [] qV (Dz L n0)) (s:List UInt8) (kd:Nat) (hk:(s=[126]∧kd=5)∨(s=[45]∧kd=6)∨(s=[33]∧kd=7)) {A B:List lH}{a d:Nat}(ha:a < L.length) (hd:n0+1+d=65) (hB:KB A B) (ht:oD (tk L a)=s) :
  ∃v a' e' p',KK 184 [.ptr A.length 0] (RQ A L a d 0 0 B)=some (.ret (qV v),RQ A L a' d e' p' B)∧Step L (AG L (Dz L n0) kd) a d 0 0 v a' e' p':=by
 have hne:s≠[]:=by rcases hk with ⟨rfl,_⟩ | ⟨rfl,_⟩ | ⟨rfl,_⟩ <;> decide
 have hg:=L7 hK n0
 have htx:(tk L a).text=s:=by
  have:=(tX hne).1 ht
  simp only [isS,ad0,decide_eq_true_eq] at this
  exact this.2
 have w1:=wrapN (a:=d) (by omega)
 have hC:∀k:Int,KB A (B++[.cells [.int .i64 0,.int .i64 0,.int .i64 0,.str [],.slice [] (.own (HN A B+1))],.front 0 0,.cells [.int .i64 k,.int .i64 ((tk L a).pos:Int),.int .i64 0,.str [],.slice [] (.own (HN A B+3))],.front 0 0]):=fun k=>hB.app (by simp)
 have hC2:KB A (B++[.cells [.int .i64 0,.int .i64 0,.int .i64 0,.str [],.slice [] (.own (HN A B+1))],.front 0 0,.gone,.front 0 0]):=hB.app (by simp)
 have h184:=C9 (L:=L) (d:=d) (e:=0) (p:=0) ha (hC 0)
 rw [ht] at h184
 obtain⟨u,a1,e1,p1,g1,s1⟩:=TK hL hK (w:=s) hne A _ a d 0 0 ha (by show d≤64; omega) (hC kd) (fun _=>rfl)
 have hp1:=s1.zero (fun _=>rfl)
 have hn1:e1=0→1≤n0:=fun h=>by subst h; have:=(Dx s1 (fun _=>rfl)).1; omega
 obtain⟨v,a2,e2,p2,g2,s2⟩:=hU A _ a1 (d+1) e1 p1 s1.lt (by omega) hn1 hC2 hp1
 refine⟨.mk kd (tk L a).pos 0 [] [v],a2,e2,p2,lA (Hs _ _ _) ?_,?_⟩
 ·simp only [tJ,qV] at g1 g2
  rcases hk with ⟨rfl,rfl⟩ | ⟨rfl,rfl⟩ | ⟨rfl,rfl⟩ <;> simp only [ad3] at g1 <;>
   simp -implicitDefEqProofs [Wa,ha,hB,h184,g1,g2,xW,w1,XE.cells,XE.rows]
 ·unfold AG
  refine Step.here ?_
  rw [htx]
  refine s1.bind ((x9 hK).dep ha) (s2.bind (hg.dep s1.lt) (Step.bind (d1:=d) (v:=()) (a1:=a2) (e1:=e2) (p1:=p2) ?_ (fun v a' d' h=>?_) (Step.pure s2.lt)))
  ·exact⟨s2.lt,fun h1 h2=>⟨rfl,rfl,h1,h2⟩,fun _=>⟨rfl,rfl,rfl⟩⟩
  ·cases h; rfl
theorem W1 {n0:Nat}(hU:DI L n0 184 [] qV (Dz L n0)) (hE:DI L n0 158 [.int .i64 0] qV (AF L n0)) (hBh:RCB L n0):ROE L (n0+1) 184 [] qV (Dz L (n0+1)):=by
 intro A B a d ha hd _ hB
 have un:∀{v:XE}{a' e' p':Nat}{y:PM XE},Step L y a d 0 0 v a' e' p'→Dz L (n0+1) a d=y a d→Step L (Dz L (n0+1)) a d 0 0 v a' e' p':=fun s h=>s.congr h.symm
 have isn:∀{w w':List UInt8},isS (tk L a) w=true→w≠w'→isS (tk L a) w'=false:=by
  intro w w' h hne
  simp only [isS,ad0,decide_eq_true_eq] at h
  unfold isS
  rw [show decide ((tk L a).text=w')=false from decide_eq_false (fun h2=>hne (h.2.symm.trans h2)),Bool.and_false]
 have no:∀{w:List UInt8},w≠[]→¬oD (tk L a)=w→isS (tk L a) w=false:=by
  intro w hw h
  cases hs:isS (tk L a) w with
  | false=>rfl
  | true=>exact absurd ((tX hw).2 hs) h
 by_cases h1:oD (tk L a)=[126]
 ·obtain⟨v,a',e',p',g1,s1⟩:=F7 hL hK hU [126] 5 (.inl ⟨rfl,rfl⟩) ha hd hB h1
  refine⟨v,a',e',p',g1,un s1 ?_⟩
  simp only [Dz,yG,mD,PM.bind,oF,(tX (by decide)).1 h1,if_true]
 by_cases h2:oD (tk L a)=[45]
 ·obtain⟨v,a',e',p',g1,s1⟩:=F7 hL hK hU [45] 6 (.inr (.inl ⟨rfl,rfl⟩)) ha hd hB h2
  refine⟨v,a',e',p',g1,un s1 ?_⟩
  simp only [Dz,yG,mD,PM.bind,oF,no (by decide) h1,(tX (by decide)).1 h2,if_true,if_false,ac1]
 by_cases h3:oD (tk L a)=[33]
 ·obtain⟨v,a',e',p',g1,s1⟩:=F7 hL hK hU [33] 7 (.inr (.inr ⟨rfl,rfl⟩)) ha hd hB h3
  refine⟨v,a',e',p',g1,un s1 ?_⟩
  simp only [Dz,yG,mD,PM.bind,oF,no (by decide) h1,no (by decide) h2,(tX (by decide)).1 h3,if_true,if_false,ac1]
 have hg:=Bm hK n0
 have hC:KB A (B++[.cells [.int .i64 0,.int .i64 0,.int .i64 0,.str [],.slice [] (.own (HN A B+1))],.front 0 0,.cells [.int .i64 0,.int .i64 ((tk L a).pos:Int),.int .i64 0,.str [],.slice [] (.own (HN A B+3))],.front 0 0]):=hB.app (by simp)
 have h184:=C9 (L:=L) (d:=d) (e:=0) (p:=0) ha hC
 have hun:Dz L (n0+1) a d=qE L (AF L n0) a d:=by
  simp only [Dz,yG,mD,PM.bind,oF,no (by decide) h1,no (by decide) h2,no (by decide) h3,if_false,ac1]
  rfl
 by_cases h4:oD (tk L a)=[40]
 ·have h4s:=(tX (by decide)).1 h4
  have hk2:¬(tk L a).kind=2:=fun h2=>by simp [isS,h2] at h4s
  rw [h4] at h184
  obtain⟨u,a1,e1,p1,g1,s1⟩:=TK hL hK (w:=[40]) (by decide) A _ a d 0 0 ha (by show d≤64; omega) hC (fun _=>rfl)
  have hp1:=s1.zero (fun _=>rfl)
  have hn1:e1=0→1≤n0:=fun h=>by subst h; have:=(Dx s1 (fun _=>rfl)).1; omega
  obtain⟨v,a2,e2,p2,g2,s2⟩:=hE A _ a1 (d+1) e1 p1 s1.lt (by omega) hn1 hC hp1
  have hp2:=s2.zero hp1
  have hC3:KB A (B++[.cells [.int .i64 0,.int .i64 0,.int .i64 0,.str [],.slice [] (.own (HN A B+1))],.front 0 0,.cells [.int .i64 0,.int .i64 ((tk L a).pos:Int),.int .i64 0,.str [],.slice [] (.own (HN A B+3))],.front 0 0,.cells v.cells,.front 0 0]):=hB.app (by simp)
  obtain⟨u3,a3,e3,p3,g3,s3⟩:=Qk hL hK (w:=[41]) (by decide) A _ a2 (d+1) e2 p2 s2.lt (by show 1≤d+1∧d+1≤1000; omega) hC3 hp2
  refine⟨v,a3,e3,p3,lA (Hs _ _ _) ?_,un (y:=tH L [40] >>= fun _=>AF L n0 >>= fun x=>tI L [41] >>= fun _=>pure x) ?_ ?_⟩
  ·simp only [tJ,qV,am0] at g1 g2 g3
   simp -implicitDefEqProofs [Wa,ha,hB,h184,g1,g2,g3]
  ·exact s1.bind ((x9 hK).dep ha) (s2.bind (hg.dep s1.lt) (s3.bind ((yX hK).dep s2.lt) (Step.pure s3.lt)))
  ·rw [hun]
   simp only [qE,mD,PM.bind,oF,hk2,h4s,if_true,if_false]
 ·have h4s:=no (by decide) h4
  obtain⟨v,a',e',p',g1,s1⟩:=ax7 hL hK hE hBh (n0:=n0) ha hd hC h4s
  refine⟨v,a',e',p',lA (Hs _ _ _) ?_,un s1 hun⟩
  simp only [qV] at g1
  simp -implicitDefEqProofs [Wa,ha,hB,h184,h1,h2,h3,h4,g1]
include hW
theorem aq5:∀n,DI L n 184 [] qV (Dz L n)
 | 0=>fun A B a d e p ha hn he hB hp=>by
  have h0:e≠0:=fun h=>absurd (he h) (by omega)
  exact⟨xe0,a,e,p,aeW A B a d e p ha (by show d≤65; omega) hB h0,Step.stay ha h0⟩
 | n+1=>by
  have hU:=aq5 n
  have hE:=OA hL hK hW hU
  exact .of (W1 hL hK hU hE (aq6 hL hK hE)) aeW
theorem qEx (n:Nat):DI L n 158 [.int .i64 0] qV (AF L n):=OA hL hK hW (aq5 hL hK hW n)
theorem qBh (n:Nat):RCB L n:=aq6 hL hK (qEx hL hK hW n)
end
end
section
open Go Hk
theorem WZ {x:XE}{t:Tok}{h:kL}:mB 5 64 h (.slice [] .nil) (.slice [x.cells] t)=some (.slice [x.cells] (.own h.length),h++[.front 1 5]):=by
 simp [mB,p8]
section
variable {L:List Token}(hL:L.length≤131072) (hK:qF L) (hW:uL L)
include hL hK hW
theorem akO (n:Nat):DI L n 157 [.slice [] .nil] Kh (AU L n):=by
 intro A B a d e p ha hn he hB hp
 have hC:KB A (B++[.front 0 0]):=hB.app (by simp)
 obtain⟨v,a1,e1,p1,g1,s1⟩:=qEx hL hK hW n A _ a d e p ha hn he hC hp
 have hp1:=s1.zero hp
 have hC2:KB A (B++[.front 0 0,.cells v.cells,.front 0 0]):=hB.app (by simp)
 obtain⟨u,a2,e2,p2,g2,s2⟩:=Br hL hK (w:=[59]) (by decide) A _ a1 d e1 p1 s1.lt trivial hC2 hp1
 refine⟨[v],a2,e2,p2,lA (RD _ _ _ _) ?_,?_⟩
 ·simp only [qV,tJ] at g1 g2
  have ht:=fun C=>Bt (L:=L) (a:=a2) (d:=d) (er:=e2) (p:=p2) (C:=C) hB
  simp -implicitDefEqProofs [aiS,hB,g1,g2,WZ,Kh,L1,ht]
 ·unfold AU
  exact s1.bind ((Bm hK n).dep ha) (s2.bind ((pR hK).dep s1.lt) (Step.pure s2.lt))
theorem aq4 (n:Nat) {A B B2:List lH}{a d e p j:Nat}{rows:List (List kH)}(ha:a < L.length) (hn:n+d=65) (he:e=0→1≤n) (hB:KB A B) (hB2:KB A B2) (hlen:HN A B2=HN A B) (hj:j < HN A B) (hp:e=0→p=0)
  (hpush:∀a e p D t (x:XE),mB 5 64 (RQ A L a d e p (B++D)) (.slice rows (.own j)) (.slice [x.cells] t)=some (.slice (rows++[x.cells]) (.own j),RQ A L a d e p (B2++D))) :
  ∃x a' e' p',KK 157 [.ptr A.length 0,.slice rows (.own j)] (RQ A L a d e p B)=some (.ret (.slice (rows++[XE.cells x]) (.own j)),RQ A L a' d e' p' B2)∧Step L (AU L n) a d e p [x] a' e' p':=by
 have hC:KB A (B++[.front 0 0]):=hB.app (by simp)
 obtain⟨v,a1,e1,p1,g1,s1⟩:=qEx hL hK hW n A _ a d e p ha hn he hC hp
 have hp1:=s1.zero hp
 have hC2:KB A (B++[.front 0 0,.cells v.cells,.front 0 0]):=hB.app (by simp)
 obtain⟨u,a2,e2,p2,g2,s2⟩:=Br hL hK (w:=[59]) (by decide) A _ a1 d e1 p1 s1.lt trivial hC2 hp1
 refine⟨v,a2,e2,p2,lA (RD _ _ _ _) ?_,?_⟩
 ·simp only [qV,tJ] at g1 g2
  have ht:=fun C=>Bt (L:=L) (a:=a2) (d:=d) (er:=e2) (p:=p2) (C:=C) hB2
  rw [hlen] at ht
  simp -implicitDefEqProofs [aiS,hB,g1,g2,hpush,L1,ht,hj]
 ·unfold AU
  exact s1.bind ((Bm hK n).dep ha) (s2.bind ((pR hK).dep s1.lt) (Step.pure s2.lt))
end
end
section
open Go Hk
def sA (A B:List lH) (k:Int) (pos:Nat) (nm:List UInt8) (s7:kH):List kH:=[.int .i64 k,.int .i64 (pos:Int),.int .i64 0,.str nm,.int .i64 0,.int .i64 0,.int .i64 0,s7,.slice [] (.own (HN A B+6)),.slice [] (.own (HN A B+7)),.bool false]
def sD (A B:List lH) (pos:Nat) (x:lH):List lH:=[.cells [.int .i64 0,.int .i64 0,.int .i64 0,.str [],.int .i64 0,.int .i64 0,.int .i64 0,.slice [] (.own (HN A B+1)),.slice [] (.own (HN A B+2)),.slice [] (.own (HN A B+3)),.bool false],.front 0 0,.front 0 0,.front 0 0,
 .cells (sA A B 0 pos [] (.slice [] (.own (HN A B+5)))),x,.front 0 0,.front 0 0]
def nD (A B:List lH) (k:Int) (pos:Nat) (nm:List UInt8) (s7:kH):List lH:=[.cells (sA A B k pos nm s7),
 .cells [.int .i64 0,.int .i64 0,.int .i64 0,.str [],.int .i64 0,.int .i64 0,.int .i64 0,.slice [] (.own (HN A B+10)),.slice [] (.own (HN A B+11)),.slice [] (.own (HN A B+12)),.bool false],.front 0 0,.front 0 0,.front 0 0]
def nG (A B:List lH):List lH:=[.gone,
 .cells [.int .i64 0,.int .i64 0,.int .i64 0,.str [],.int .i64 0,.int .i64 0,.int .i64 0,.slice [] (.own (HN A B+10)),.slice [] (.own (HN A B+11)),.slice [] (.own (HN A B+12)),.bool false],.front 0 0,.front 0 0,.front 0 0]
def nC (tok R:List kH) (c s:Nat) (E:List lH):List lH:=.cells tok::.cells tok::.cells R::.front 0 0::.cells R::.front c s::E
section
variable {A B C:List lH}{L:List Token}{a d er p k:Nat}{t:Tok}{r:List kH}
theorem Sd (hr:r.length=5) (hc:C[k]?=some (.front 0 0)):mB 5 64 (RQ A L a d er p (B++C)) (.slice [] (.own (HN A B+k))) (.slice [r] t)=some (.slice [r] (.own (HN A B+k)),RQ A L a d er p (B++C.set k (.front 1 5))):=by
 have:=Hd (A:=A) (B:=B) (L:=L) (a:=a) (d:=d) (er:=er) (p:=p) (C:=C) (k:=k) (rows:=[]) (new:=[r]) (sz:=5) (by_:=64) (sz':=0) (t:=t)
  hc (.inr ⟨rfl,rfl⟩) (by simp [hr]) (by simp) (by simp) (by simp)
 simpa using this
theorem Jr {pos:Nat}{x:lH}(hB:KB A B) (hx:x=.front 0 0∨x=.front 1 5):l_ (HN A B+8) (RQ A L a d er p (B++(sD A B pos x++C)))=some (RQ A L a d er p (B++sD A B pos x)):=by
 have:=xD (L:=L) (a:=a) (d:=d) (er:=er) (p:=p) (A:=A) (B:=B) (C:=sD A B pos x++C) (k:=8) (by rcases hx with rfl | rfl <;> simpa [sD,sA] using hB.app (by simp)) (by simp [sD])
 simpa [sD] using this
end
theorem Sv {k q:Int}{nm:List UInt8}{rows:List (List kH)}{id:Nat}{h:kL}:kU 1 5 [.int .i64 0,.int .i64 0,.int .i64 0,.str [],.slice [] .nil] [(0,.agg [.int .i64 k,.int .i64 q,.int .i64 0,.str nm,.slice rows (.own id)])] h =
  some (.slice [[.int .i64 k,.int .i64 q,.int .i64 0,.str nm,.slice rows .no]] (.own h.length),h++[.front 1 5]):=(rfl)
theorem St {L:List Token}{ex:PM XE}{nm:Token}{a d e' p' a' k:Nat}{l:List XE}(s:Step L (yF L ex nm) a d 0 0 (.mk k nm.pos 0 nm.text l) a' e' p') (h1:isS (tk L a) [40]=false) (h2:isS (tk L a) [91]=true):Step L (uD L ex) a d 0 0 l a' e' p':=by
 refine⟨s.lt,fun he hp=>?_,fun h=>absurd rfl h⟩
 have h:=s.ok rfl rfl
 have e:yF L ex nm a d=match uD L ex a d with
   | .ok v a' d'=>.ok (.mk 3 nm.pos 0 nm.text v) a' d'
   | .bad e p a' d'=>.bad e p a' d':=by
  simp only [yF,mD,PM.bind,Eu,h1,h2,if_true,if_false,ac1]
  cases uD L ex a d <;> rfl
 rw [e] at h
 unfold uR at h ⊢
 cases hx:uD L ex a d with
 | ok v a0 d0 =>
  rw [hx] at h
  obtain⟨h1,h2,h3,h4⟩:=h
  refine⟨?_,h2,h3,h4⟩
  simp at h1
  exact h1.2
 | bad e0 p0 a0 d0=>rw [hx] at h; exact h
theorem NB {L:List Token}{ex:PM XE}{nm:Token}{a d e p e' p' a':Nat}{v:XE}(s:Step L (yF L ex nm) a d e p v a' e' p') (h1:isS (tk L a) [40]=true):Step L (zN L ex nm) a d e p v a' e' p' :=
 s.congr (by simp only [yF,mD,PM.bind,Eu,h1,if_true])
section
variable {L:List Token}(hL:L.length≤131072) (hK:qF L) (hW:uL L)
include hL hK hW
set_option maxHeartbeats 1000000 in
theorem ax6 {n:Nat}{A B:List lH}{pos a d e p:Nat}(ha:a < L.length) (hd:n+d=65) (he:e=0→1≤n) (hB:KB A B) (hp:e=0→p=0) :
  ∃k nm l t x a' e' p',KK 159 [.ptr A.length 0,.agg (sA A B 0 pos [] (.slice [] (.own (HN A B+5))))] (RQ A L a d e p (B++sD A B pos (.front 0 0))) =
    some (.ret (.agg (sA A B (k:Nat) pos nm (.slice (l.map XE.cells) t))),RQ A L a' d e' p' (B++sD A B pos x)) ∧
   (t=.no∧x=.front 0 0∨t=.own (HN A B+5)∧x=.front 1 5)∧Step L (o_ L n pos) a d e p (.mk k pos 0 nm ⟨0,0,0⟩ l [] [] false) a' e' p':=by
 have hC1:KB A (B++(sD A B pos (.front 0 0)++nD A B 0 pos [] (.slice [] (.own (HN A B+5))))):=hB.app (by simp [sD,nD,sA])
 obtain⟨nm,a1,e1,p1,g1,s1⟩:=Jj hL hK (k:=1) (by decide) A _ a d e p ha trivial hC1 hp
 have hp1:=s1.zero hp
 have hn1:e1=0→1≤n:=fun h=>by
  by_cases h0:e=0
  ·exact he h0
  ·have:=(s1.bad h0).2.1; omega
 have hC2:KB A (B++(sD A B pos (.front 0 0)++(nD A B 0 pos [] (.slice [] (.own (HN A B+5)))++[.cells nm.cells]))):=hB.app (by simp [sD,nD,sA])
 have h40:=Oz (L:=L) (d:=d) (w:=[40]) (by decide) s1.lt hC2 hp1
 have h91:=Oz (L:=L) (d:=d) (w:=[91]) (by decide) s1.lt hC2 hp1
 have hge:=GC hK n
 cases hs:vA e1 (tk L a1) [40]
 ·cases hs2:vA e1 (tk L a1) [91]
  ·-- a name that is given a value
   have hC3:KB A (B++(sD A B pos (.front 0 0)++(nD A B 3 pos nm.text (.slice [] (.own (HN A B+5)))++[.cells nm.cells]))):=hB.app (by simp [sD,nD,sA])
   obtain⟨u,a2,e2,p2,g2,s2⟩:=Br hL hK (w:=[61]) (by decide) A _ a1 d e1 p1 s1.lt trivial hC3 hp1
   have hp2:=s2.zero hp1
   have hn2:e2=0→1≤n:=fun h=>by
    by_cases h0:e1=0
    ·exact hn1 h0
    ·have:=(s2.bad h0).2.1; omega
   obtain⟨l,a3,e3,p3,g3,s3⟩:=akO hL hK hW n A _ a2 d e2 p2 s2.lt hd hn2 hC3 hp2
   refine⟨3,nm.text,l,.no,.front 0 0,a3,e3,p3,lA (Mq _ _ _ _) ?_,.inl ⟨rfl,rfl⟩,?_⟩
   ·have ht:=fun C=>Jr (L:=L) (a:=a3) (d:=d) (er:=e3) (p:=p3) (C:=C) (pos:=pos) hB (.inl rfl)
    simp only [hs,hs2,sD,nD,sA,ae8,ah4,Token.cells,xA,tJ,Kh,ad3] at g1 h40 h91 g2 g3 ht ⊢
    simp -implicitDefEqProofs [aaZ,hB,g1,h40,h91,g2,g3,ht,L1]
   ·unfold o_
    refine s1.bind ((rL hK (by omega)).dep ha) (Step.Cm hL hK ?_)
    simp only [hs,ac1,if_false]
    refine Step.Cm hL hK ?_
    simp only [hs2,ac1,if_false]
    exact s2.bind ((pR hK).dep s1.lt) (s3.bind (hge.dep s2.lt) (Step.pure s3.lt))
  ·-- a place
   obtain⟨he1,hs3,ha1⟩:=yK hL hK s1.lt hs2
   subst he1
   have:=hp1 rfl
   subst this
   obtain⟨n0,rfl⟩:∃n0,n=n0+1:=⟨n - 1,by have:=hn1 rfl; omega⟩
   have hs40:isS (tk L a1) [40]=false:=by simpa [vA] using hs
   have hC3:KB A (B++(sD A B pos (.front 0 0)++(nD A B 4 pos nm.text (.slice [] (.own (HN A B+5)))++[.cells nm.cells]))):=hB.app (by simp [sD,nD,sA])
   obtain⟨k,l,a2,e2,p2,C,g2,_,⟨R,hR1,hR2,hC⟩,_,hl,s2⟩:=qBh hL hK hW n0 nm A _ a1 d 0 0 s1.lt hd hC3 (fun _=>rfl)
   have hp2:=s2.zero (fun _=>rfl)
   have s2':=St s2 hs40 hs3
   have hm:HN A (B++(sD A B pos (.front 0 0)++(nD A B 4 pos nm.text (.slice [] (.own (HN A B+5)))++[.cells nm.cells])))=HN A B+14:=by simp [sD,nD]
   rw [hm] at g2 hR2
   have hR:∀k,19≤k→Bg (HN A B+k) R:=fun k hk m h hm=>hR2 m h (by omega)
   obtain⟨E0,hE0,rfl⟩:∃E0:List lH,(E0=[]∨E0=[.front 1 5])∧C=.cells nm.cells::.cells R::.front 0 0::.cells R::.front l.length (sK l.length 5)::E0:=by
    rcases hC with rfl | rfl
    ·exact⟨[],.inl rfl,rfl⟩
    ·exact⟨[.front 1 5],.inr rfl,rfl⟩
   have hC4:∀c s,KB A (B++(sD A B pos (.front 0 0)++(nD A B 4 pos nm.text (.slice [] (.own (HN A B+5)))++nC nm.cells R c s (E0++[.cells [.int .i64 (k:Int),.int .i64 (nm.pos:Int),.int .i64 0,.str nm.text,.slice (l.map XE.cells) (.own (HN A B+18))],.front 0 0])))):=fun c s=>hB.app (by
    rcases hE0 with rfl | rfl <;> simp [sD,nD,sA,nC,hR])
   obtain⟨u,a3,e3,p3,g3,s3⟩:=Br hL hK (w:=[61]) (by decide) A _ a2 d e2 p2 s2.lt trivial (hC4 l.length (sK l.length 5)) hp2
   have hp3:=s3.zero hp2
   obtain⟨x,a4,e4,p4,g4,s4⟩:=aq4 hL hK hW (n0+1) (rows:=l.map XE.cells) (j:=HN A B+18) s3.lt hd (fun _=>by omega) (hC4 l.length (sK l.length 5)) (hC4 (l.length+1) 5) (by simp [sD,nD,nC]) (by rcases hE0 with rfl | rfl <;> simp [sD,nD,nC]) hp3
    (fun a e p D t x=>by
     rw [al8 B,CK l (k:=18) rfl (by omega),al8 B,al9]; rfl)
   refine⟨4,nm.text,l++[x],.no,.front 0 0,a4,e4,p4,lA (Mq _ _ _ _) ?_,.inl ⟨rfl,rfl⟩,?_⟩
   ·have ht:=fun C=>Jr (L:=L) (a:=a4) (d:=d) (er:=e4) (p:=p4) (C:=C) (pos:=pos) hB (.inl rfl)
    have hmap:(l++[x]).map XE.cells=l.map XE.cells++[x.cells]:=by simp
    rw [hmap]
    rcases hE0 with rfl | rfl <;>
    ·simp only [hs,hs2,sD,nD,sA,nC,ae8,ah4,Token.cells,xA,tJ,Kh,ad3] at g1 h40 h91 g2 g3 g4 ht ⊢
     simp -implicitDefEqProofs [aaZ,hB,g1,h40,h91,g2,g3,g4,ht,L1]
   ·unfold o_
    refine s1.bind ((rL hK (by omega)).dep ha) (Step.Cm hL hK ?_)
    simp only [hs,ac1,if_false]
    refine Step.Cm hL hK ?_
    simp only [hs2,if_true]
    exact s2'.bind ((ES hK (Bm hK n0)).dep s1.lt) (s3.bind ((pR hK).dep s2.lt) (s4.bind (hge.dep s3.lt) (Step.pure s4.lt)))
 ·-- a call
  obtain⟨he1,hs3,ha1⟩:=yK hL hK s1.lt hs
  subst he1
  have:=hp1 rfl
  subst this
  obtain⟨n0,rfl⟩:∃n0,n=n0+1:=⟨n - 1,by have:=hn1 rfl; omega⟩
  have hC3:KB A (B++(sD A B pos (.front 0 0)++(nG A B++[.cells nm.cells]))):=hB.app (by simp [sD,nG,sA])
  obtain⟨k,l,a2,e2,p2,C,g2,_,⟨R,hR1,hR2,hC⟩,_,hl,s2⟩:=qBh hL hK hW n0 nm A _ a1 d 0 0 s1.lt hd hC3 (fun _=>rfl)
  have hp2:=s2.zero (fun _=>rfl)
  have s2':=NB s2 hs3
  have hm:HN A (B++(sD A B pos (.front 0 0)++(nG A B++[.cells nm.cells])))=HN A B+14:=by simp [sD,nG]
  rw [hm] at g2 hR2
  have hR:∀k,19≤k→Bg (HN A B+k) R:=fun k hk m h hm=>hR2 m h (by omega)
  obtain⟨E0,hE0,rfl⟩:∃E0:List lH,(E0=[]∨E0=[.front 1 5])∧C=.cells nm.cells::.cells R::.front 0 0::.cells R::.front l.length (sK l.length 5)::E0:=by
   rcases hC with rfl | rfl
   ·exact⟨[],.inl rfl,rfl⟩
   ·exact⟨[.front 1 5],.inr rfl,rfl⟩
  have hC4:KB A (B++(sD A B pos (.front 1 5)++(nD A B 7 pos [] (.slice [[.int .i64 (k:Int),.int .i64 (nm.pos:Int),.int .i64 0,.str nm.text,.slice (l.map XE.cells) .no]] (.own (HN A B+5)))++nC nm.cells R l.length (sK l.length 5) (E0++[.front 1 5])))):=hB.app (by
   rcases hE0 with rfl | rfl <;> simp [sD,nD,sA,nC,hR])
  obtain⟨u,a3,e3,p3,g3,s3⟩:=Br hL hK (w:=[59]) (by decide) A _ a2 d e2 p2 s2.lt trivial hC4 hp2
  refine⟨7,[],[.mk k nm.pos 0 nm.text l],.own (HN A B+5),.front 1 5,a3,e3,p3,lA (Mq _ _ _ _) ?_,.inr ⟨rfl,rfl⟩,?_⟩
  ·have ht:=fun C=>Jr (L:=L) (a:=a3) (d:=d) (er:=e3) (p:=p3) (C:=C) (pos:=pos) hB (.inr rfl)
   rcases hE0 with rfl | rfl <;>
   ·simp only [hs,sD,nD,nG,sA,nC,ae8,ah4,Token.cells,xA,tJ,Kh,ad3] at g1 h40 g2 g3 ht ⊢
    simp -implicitDefEqProofs [aaZ,hB,g1,h40,g2,g3,ht,L1,Sv,Sd,XE.cells,XE.oK]
  ·unfold o_
   refine s1.bind ((rL hK (by omega)).dep ha) (Step.Cm hL hK ?_)
   simp only [hs,if_true]
   exact s2'.bind ((L4 hK (Bm hK n0)).dep s1.lt) (s3.bind ((pR hK).dep s2.lt) (Step.pure s3.lt))
end
end
section
open Go Hk
theorem Step.back {L:List Token}{α:Type}{x:PM α}{a d e p a1 e1 p1:Nat}{v:α}(s:Step L x a d e p v a1 e1 p1) (h:e1=0):e=0:=by
 by_cases h0:e=0
 ·exact h0
 ·have:=(s.bad h0).2.1; omega
def oS (A B:List lH) (i:Nat):kH:=.slice [] (.own (HN A B+i))
def sT (A B:List lH) (k pos num:Int) (nm:List UInt8) (e1 e2 e3:Int) (s7 s8 s9:kH) (f:Bool) (x:lH):List lH:=[.cells [.int .i64 0,.int .i64 0,.int .i64 0,.str [],.int .i64 0,.int .i64 0,.int .i64 0,.slice [] (.own (HN A B+1)),.slice [] (.own (HN A B+2)),.slice [] (.own (HN A B+3)),.bool false],.front 0 0,.front 0 0,.front 0 0,
 .cells [.int .i64 k,.int .i64 pos,.int .i64 num,.str nm,.int .i64 e1,.int .i64 e2,.int .i64 e3,s7,s8,s9,.bool f],x,.front 0 0,.front 0 0]
def sG (A B:List lH):List lH:=[.cells [.int .i64 0,.int .i64 0,.int .i64 0,.str [],.int .i64 0,.int .i64 0,.int .i64 0,.slice [] (.own (HN A B+1)),.slice [] (.own (HN A B+2)),.slice [] (.own (HN A B+3)),.bool false],.front 0 0,.front 0 0,.front 0 0,.gone,.front 0 0,.front 0 0,.front 0 0]
section
variable {L:List Token}(hL:L.length≤131072) (hK:qF L) (hW:uL L)
include hL hK hW
def SO (L:List Token) (A B:List lH) (a d e p:Nat) (y:PM XS):Prop:=∃v a' e' p',KK 121 [.ptr A.length 0] (RQ A L a d e p B)=some (.ret (MK v),RQ A L a' d e' p' B)∧Step L y a d e p v a' e' p'
omit hK hW in
theorem BO {A B:List lH}{a d e p:Nat}(ha:a < L.length) (hB:KB A B) (hp:e=0→p=0) (w:List UInt8) (hw:w≠[]) (b:Bool) (hb:vA e (tk L a) w=b) :
  KK 61 [.ptr A.length 0,.str w] (RQ A L a d e p (B++sT A B 0 ((tk L a).pos:Int) 0 [] 0 0 0 (oS A B 5) (oS A B 6) (oS A B 7) false (.front 0 0))) =
   some (.ret (.bool b),RQ A L (if b=true then a+1 else a) d e p (B++sT A B 0 ((tk L a).pos:Int) 0 [] 0 0 0 (oS A B 5) (oS A B 6) (oS A B 7) false (.front 0 0))):=by
 rw [←hb]
 exact Ko (L:=L) hL (w:=w) hw ha (hB.app (by simp [sT,oS])) hp
theorem arV {n:Nat}{bl:PM (List XS)}{A B:List lH}{a d e p:Nat}(ha:a < L.length) (hd:n+d=65) (he:e=0→1≤n) (hB:KB A B) (hp:e=0→p=0) (c1:vA e (tk L a) [108,101,116]=true):SO L A B a d e p (tS L bl n):=by
 have h1:=BO hL (d:=d) ha hB hp _ (by decide) _ c1
 obtain⟨_,_,ha1⟩:=yK hL hK ha c1
 obtain⟨nm,a1,e1,p1,g1,s1⟩:=Jj hL hK (k:=1) (by decide) A (B++sT A B 1 ((tk L a).pos:Int) 0 [] 0 0 0 (oS A B 5) (oS A B 6) (oS A B 7) false (.front 0 0)) (a+1) d e p ha1 trivial (hB.app (by simp [sT,oS])) hp
 have hp1:=s1.zero hp
 have hC:KB A (B++sT A B 1 ((tk L a).pos:Int) 0 nm.text 0 0 0 (oS A B 5) (oS A B 6) (oS A B 7) false (.front 0 0)):=hB.app (by simp [sT,oS])
 obtain⟨u,a2,e2,p2,g2,s2⟩:=Br hL hK (w:=[61]) (by decide) A _ a1 d e1 p1 s1.lt trivial hC hp1
 have hp2:=s2.zero hp1
 obtain⟨l,a3,e3,p3,g3,s3⟩:=akO hL hK hW n A _ a2 d e2 p2 s2.lt hd (fun h=>he (s1.back (s2.back h))) hC hp2
 refine⟨.mk 1 (tk L a).pos 0 nm.text ⟨0,0,0⟩ l [] [] false,a3,e3,p3,lA (Cb _ _ _) ?_,?_⟩
 ·simp only [sT,oS,Token.cells,xA,tJ,Kh,ad3,if_true] at h1 g1 g2 g3
  simp -implicitDefEqProofs [Og,ha,hB,h1,g1,g2,g3,XS.cells,XS.rows]
 ·unfold tS
  refine Step.here (Step.maybe hL hK ?_)
  simp only [c1,if_true]
  exact s1.bind ((rL hK (by omega)).dep ha1) (s2.bind ((pR hK).dep s1.lt) (s3.bind ((GC hK n).dep s2.lt) (Step.pure s3.lt)))
theorem arY {n:Nat}{bl:PM (List XS)}{A B:List lH}{a d e p:Nat}(ha:a < L.length) (hd:n+d=65) (he:e=0→1≤n) (hB:KB A B) (hp:e=0→p=0) (c1:vA e (tk L a) [108,101,116]=false) (c2:vA e (tk L a) [118,97,114]=true):SO L A B a d e p (tS L bl n):=by
 have h1:=BO hL (d:=d) ha hB hp _ (by decide) _ c1
 have h2:=BO hL (d:=d) ha hB hp _ (by decide) _ c2
 obtain⟨_,_,ha1⟩:=yK hL hK ha c2
 have hC0:KB A (B++sT A B 2 ((tk L a).pos:Int) 0 [] 0 0 0 (oS A B 5) (oS A B 6) (oS A B 7) false (.front 0 0)):=hB.app (by simp [sT,oS])
 obtain⟨lb,a0,e0,p0,g0,s0⟩:=akM hL hK A _ (a+1) d e p ha1 trivial hC0 hp
 have hp0:=s0.zero hp
 obtain⟨nm,a1,e1,p1,g1,s1⟩:=Jj hL hK (k:=1) (by decide) A _ a0 d e0 p0 s0.lt trivial hC0 hp0
 have hp1:=s1.zero hp0
 have hC:KB A (B++sT A B 2 ((tk L a).pos:Int) 0 nm.text 0 0 0 (oS A B 5) (oS A B 6) (oS A B 7) false (.front 0 0)):=hB.app (by simp [sT,oS])
 obtain⟨u,a2,e2,p2,g2,s2⟩:=Br hL hK (w:=[58]) (by decide) A _ a1 d e1 p1 s1.lt trivial hC hp1
 have hp2:=s2.zero hp1
 obtain⟨ty,a3,e3,p3,g3,s3⟩:=aq0 hL hK lb A _ a2 d e2 p2 s2.lt trivial hC hp2
 have hp3:=s3.zero hp2
 have hC2:KB A (B++sT A B 2 ((tk L a).pos:Int) 0 nm.text (ty.elem:Int) (ty.len:Int) (ty.label:Int) (oS A B 5) (oS A B 6) (oS A B 7) false (.front 0 0)):=hB.app (by simp [sT,oS])
 obtain⟨u',a4,e4,p4,g4,s4⟩:=Br hL hK (w:=[59]) (by decide) A _ a3 d e3 p3 s3.lt trivial hC2 hp3
 refine⟨.mk 2 (tk L a).pos 0 nm.text ty [] [] [] false,a4,e4,p4,lA (Cb _ _ _) ?_,?_⟩
 ·simp only [sT,oS,Token.cells,xA,tJ,Kh,Kl,zQ,Ty.cells,ad3,if_true,if_false,ac1] at h1 h2 g0 g1 g2 g3 g4
  simp -implicitDefEqProofs [Og,ha,hB,h1,h2,g0,g1,g2,g3,g4,XS.cells,XS.rows]
 ·unfold tS
  refine Step.here (Step.maybe hL hK ?_)
  simp only [c1,if_false,ac1]
  refine Step.maybe hL hK ?_
  simp only [c2,if_true]
  exact s0.bind ((Ab hK).dep ha1) (s1.bind ((rL hK (by omega)).dep s0.lt) (s2.bind ((pR hK).dep s1.lt) (s3.bind ((ET hK).dep s2.lt) (s4.bind ((pR hK).dep s3.lt) (Step.pure s4.lt)))))
theorem ayB {n:Nat}{bl:PM (List XS)}(hb:DI L n 64 [] xZ bl) (hgb:lV L 1 (fun d=>d) bl) {A B:List lH}{a d e p:Nat}(ha:a < L.length) (hd:n+d=65) (he:e=0→1≤n) (hB:KB A B) (hp:e=0→p=0) (c1:vA e (tk L a) [108,101,116]=false) (c2:vA e (tk L a) [118,97,114]=false) (c3:vA e (tk L a) [105,102]=true):SO L A B a d e p (tS L bl n):=by
 have h1:=BO hL (d:=d) ha hB hp _ (by decide) _ c1
 have h2:=BO hL (d:=d) ha hB hp _ (by decide) _ c2
 have h3:=BO hL (d:=d) ha hB hp _ (by decide) _ c3
 obtain⟨_,_,ha1⟩:=yK hL hK ha c3
 obtain⟨x,a1,e1,p1,g1,s1⟩:=qEx hL hK hW n A (B++sG A B) (a+1) d e p ha1 hd he (hB.app (by simp [sG])) hp
 have hp1:=s1.zero hp
 obtain⟨b,a2,e2,p2,g2,s2⟩:=hb A (B++(sT A B 5 ((tk L a).pos:Int) 0 [] 0 0 0 (.slice [x.cells] (.own (HN A B+5))) (oS A B 6) (oS A B 7) false (.front 1 5)++[.front 1 5])) a1 d e1 p1 s1.lt hd (fun h=>he (s1.back h)) (hB.app (by simp [sT,oS])) hp1
 have hp2:=s2.zero hp1
 have hC:∀f,KB A (B++(sT A B 5 ((tk L a).pos:Int) 0 [] 0 0 0 (.slice [x.cells] (.own (HN A B+5))) (.slice (b.map XS.cells) .no) (oS A B 7) f (.front 1 5)++[.front 1 5])):=fun f=>hB.app (by simp [sT,oS])
 have h4:=Ko (L:=L) hL (d:=d) (w:=[101,108,115,101]) (by decide) s2.lt (hC false) hp2
 have stp:∀{v a' e' p'},Step L (do if ←oW L [101,108,115,101] then(do let e ←bl; return .mk 5 (tk L a).pos 0 [] ⟨0,0,0⟩ [x] b e true) else return .mk 5 (tk L a).pos 0 [] ⟨0,0,0⟩ [x] b [] false:PM XS) a2 d e2 p2 v a' e' p'→Step L (tS L bl n) a d e p v a' e' p':=by
  intro v a' e' p' s
  unfold tS
  refine Step.here (Step.maybe hL hK ?_)
  simp only [c1,if_false,ac1]
  refine Step.maybe hL hK ?_
  simp only [c2,if_false,ac1]
  refine Step.maybe hL hK ?_
  simp only [c3,if_true]
  exact s1.bind ((Bm hK n).dep ha1) (s2.bind (hgb.dep s1.lt) s)
 cases c4:vA e2 (tk L a2) [101,108,115,101]
 ·refine⟨.mk 5 (tk L a).pos 0 [] ⟨0,0,0⟩ [x] b [] false,a2,e2,p2,lA (Cb _ _ _) ?_,stp ?_⟩
  ·simp only [c4,sT,sG,oS,qV,xZ,ae8,ah4,ad3,if_true,if_false,ac1] at h1 h2 h3 g1 g2 h4
   simp -implicitDefEqProofs [Og,ha,hB,h1,h2,h3,g1,g2,h4,xW,XS.cells,XS.rows,XS.oK]
  ·refine Step.maybe hL hK ?_
   simp only [c4,if_false,ac1]
   exact Step.pure s2.lt
 ·obtain⟨he2,_,ha3⟩:=yK hL hK s2.lt c4
  obtain⟨b2,a3,e3,p3,g3,s3⟩:=hb A _ (a2+1) d e2 p2 ha3 hd (fun h=>he (s1.back (s2.back h))) (hC true) hp2
  refine⟨.mk 5 (tk L a).pos 0 [] ⟨0,0,0⟩ [x] b b2 true,a3,e3,p3,lA (Cb _ _ _) ?_,stp ?_⟩
  ·simp only [c4,sT,sG,oS,qV,xZ,ae8,ah4,ad3,if_true,if_false,ac1] at h1 h2 h3 g1 g2 h4 g3
   simp -implicitDefEqProofs [Og,ha,hB,h1,h2,h3,g1,g2,h4,g3,xW,XS.cells,XS.rows,XS.oK]
  ·refine Step.maybe hL hK ?_
   simp only [c4,if_true]
   exact s3.bind (hgb.dep ha3) (Step.pure s3.lt)
theorem arU {n:Nat}{bl:PM (List XS)}(hb:DI L n 64 [] xZ bl) (hgb:lV L 1 (fun d=>d) bl) {A B:List lH}{a d e p:Nat}(ha:a < L.length) (hd:n+d=65) (he:e=0→1≤n) (hB:KB A B) (hp:e=0→p=0) (c1:vA e (tk L a) [108,101,116]=false) (c2:vA e (tk L a) [118,97,114]=false) (c3:vA e (tk L a) [105,102]=false) (c4:vA e (tk L a) [102,111,114]=true):SO L A B a d e p (tS L bl n):=by
 have h1:=BO hL (d:=d) ha hB hp _ (by decide) _ c1
 have h2:=BO hL (d:=d) ha hB hp _ (by decide) _ c2
 have h3:=BO hL (d:=d) ha hB hp _ (by decide) _ c3
 have h4:=BO hL (d:=d) ha hB hp _ (by decide) _ c4
 obtain⟨_,_,ha1⟩:=yK hL hK ha c4
 obtain⟨nm,a1,e1,p1,g1,s1⟩:=Jj hL hK (k:=1) (by decide) A (B++sT A B 6 ((tk L a).pos:Int) 0 [] 0 0 0 (oS A B 5) (oS A B 6) (oS A B 7) false (.front 0 0)) (a+1) d e p ha1 trivial (hB.app (by simp [sT,oS])) hp
 have hp1:=s1.zero hp
 obtain⟨u,a2,e2,p2,g2,s2⟩:=Br hL hK (w:=[60]) (by decide) A (B++sT A B 6 ((tk L a).pos:Int) 0 nm.text 0 0 0 (oS A B 5) (oS A B 6) (oS A B 7) false (.front 0 0)) a1 d e1 p1 s1.lt trivial (hB.app (by simp [sT,oS])) hp1
 have hp2:=s2.zero hp1
 obtain⟨x,a3,e3,p3,g3,s3⟩:=qEx hL hK hW n A (B++sG A B) a2 d e2 p2 s2.lt hd (fun h=>he (s1.back (s2.back h))) (hB.app (by simp [sG])) hp2
 have hp3:=s3.zero hp2
 have hC:∀m:Int,KB A (B++(sT A B 6 ((tk L a).pos:Int) m nm.text 0 0 0 (.slice [x.cells] (.own (HN A B+5))) (oS A B 6) (oS A B 7) false (.front 1 5)++[.front 1 5])):=fun m=>hB.app (by simp [sT,oS])
 obtain⟨u',a4,e4,p4,g4,s4⟩:=Br hL hK (w:=[109,97,120]) (by decide) A _ a3 d e3 p3 s3.lt trivial (hC 0) hp3
 have hp4:=s4.zero hp3
 obtain⟨m,a5,e5,p5,g5,s5⟩:=Jj hL hK (k:=2) (by decide) A _ a4 d e4 p4 s4.lt trivial (hC 0) hp4
 have hp5:=s5.zero hp4
 obtain⟨b,a6,e6,p6,g6,s6⟩:=hb A _ a5 d e5 p5 s5.lt hd (fun h=>he (s1.back (s2.back (s3.back (s4.back (s5.back h)))))) (hC m.num) hp5
 refine⟨.mk 6 (tk L a).pos m.num nm.text ⟨0,0,0⟩ [x] b [] false,a6,e6,p6,lA (Cb _ _ _) ?_,?_⟩
 ·simp only [sT,sG,oS,Token.cells,xA,tJ,qV,xZ,ae8,ah4,ad3,if_true,if_false,ac1] at h1 h2 h3 h4 g1 g2 g3 g4 g5 g6
  simp -implicitDefEqProofs [Og,ha,hB,h1,h2,h3,h4,g1,g2,g3,g4,g5,g6,xW,XS.cells,XS.rows,XS.oK]
 ·unfold tS
  refine Step.here (Step.maybe hL hK ?_)
  simp only [c1,if_false,ac1]
  refine Step.maybe hL hK ?_
  simp only [c2,if_false,ac1]
  refine Step.maybe hL hK ?_
  simp only [c3,if_false,ac1]
  refine Step.maybe hL hK ?_
  simp only [c4,if_true]
  exact s1.bind ((rL hK (by omega)).dep ha1) (s2.bind ((pR hK).dep s1.lt) (s3.bind ((Bm hK n).dep s2.lt) (s4.bind ((pR hK).dep s3.lt) (s5.bind ((rL hK (by omega)).dep s4.lt) (s6.bind (hgb.dep s5.lt) (Step.pure s6.lt))))))
theorem arX {n:Nat}{bl:PM (List XS)}{A B:List lH}{a d e p:Nat}(ha:a < L.length) (hd:n+d=65) (he:e=0→1≤n) (hB:KB A B) (hp:e=0→p=0) (c1:vA e (tk L a) [108,101,116]=false) (c2:vA e (tk L a) [118,97,114]=false) (c3:vA e (tk L a) [105,102]=false) (c4:vA e (tk L a) [102,111,114]=false) (c5:vA e (tk L a) [114,101,116,117,114,110]=true):SO L A B a d e p (tS L bl n):=by
 have h1:=BO hL (d:=d) ha hB hp _ (by decide) _ c1
 have h2:=BO hL (d:=d) ha hB hp _ (by decide) _ c2
 have h3:=BO hL (d:=d) ha hB hp _ (by decide) _ c3
 have h4:=BO hL (d:=d) ha hB hp _ (by decide) _ c4
 have h5:=BO hL (d:=d) ha hB hp _ (by decide) _ c5
 obtain⟨_,_,ha1⟩:=yK hL hK ha c5
 obtain⟨l,a1,e1,p1,g1,s1⟩:=akO hL hK hW n A (B++sT A B 8 ((tk L a).pos:Int) 0 [] 0 0 0 (oS A B 5) (oS A B 6) (oS A B 7) false (.front 0 0)) (a+1) d e p ha1 hd he (hB.app (by simp [sT,oS])) hp
 refine⟨.mk 8 (tk L a).pos 0 [] ⟨0,0,0⟩ l [] [] false,a1,e1,p1,lA (Cb _ _ _) ?_,?_⟩
 ·simp only [sT,oS,Kh,ad3,if_true,if_false,ac1] at h1 h2 h3 h4 h5 g1
  simp -implicitDefEqProofs [Og,ha,hB,h1,h2,h3,h4,h5,g1,XS.cells,XS.rows]
 ·unfold tS
  refine Step.here (Step.maybe hL hK ?_)
  simp only [c1,if_false,ac1]
  refine Step.maybe hL hK ?_
  simp only [c2,if_false,ac1]
  refine Step.maybe hL hK ?_
  simp only [c3,if_false,ac1]
  refine Step.maybe hL hK ?_
  simp only [c4,if_false,ac1]
  refine Step.maybe hL hK ?_
  simp only [c5,if_true]
  exact s1.bind ((GC hK n).dep ha1) (Step.pure s1.lt)
theorem arW {n:Nat}{bl:PM (List XS)}{A B:List lH}{a d e p:Nat}(ha:a < L.length) (hd:n+d=65) (he:e=0→1≤n) (hB:KB A B) (hp:e=0→p=0) (c1:vA e (tk L a) [108,101,116]=false) (c2:vA e (tk L a) [118,97,114]=false) (c3:vA e (tk L a) [105,102]=false) (c4:vA e (tk L a) [102,111,114]=false) (c5:vA e (tk L a) [114,101,116,117,114,110]=false):SO L A B a d e p (tS L bl n):=by
 have h1:=BO hL (d:=d) ha hB hp _ (by decide) _ c1
 have h2:=BO hL (d:=d) ha hB hp _ (by decide) _ c2
 have h3:=BO hL (d:=d) ha hB hp _ (by decide) _ c3
 have h4:=BO hL (d:=d) ha hB hp _ (by decide) _ c4
 have h5:=BO hL (d:=d) ha hB hp _ (by decide) _ c5
 obtain⟨k,nm,l,t,x,a1,e1,p1,g1,ht,s1⟩:=ax6 hL hK hW (pos:=(tk L a).pos) ha hd he hB hp
 refine⟨.mk k (tk L a).pos 0 nm ⟨0,0,0⟩ l [] [] false,a1,e1,p1,lA (Cb _ _ _) ?_,?_⟩
 ·simp only [sT,oS,sD,sA,ad3,if_false,ac1] at h1 h2 h3 h4 h5 g1
  rcases ht with ⟨rfl,rfl⟩ | ⟨rfl,rfl⟩ <;>
   simp -implicitDefEqProofs [Og,ha,hB,h1,h2,h3,h4,h5,g1,XS.cells,XS.rows]
 ·unfold tS
  refine Step.here (Step.maybe hL hK ?_)
  simp only [c1,if_false,ac1]
  refine Step.maybe hL hK ?_
  simp only [c2,if_false,ac1]
  refine Step.maybe hL hK ?_
  simp only [c3,if_false,ac1]
  refine Step.maybe hL hK ?_
  simp only [c4,if_false,ac1]
  refine Step.maybe hL hK ?_
  simp only [c5,if_false,ac1]
  exact s1
theorem ax4 {n:Nat}{bl:PM (List XS)}(hb:DI L n 64 [] xZ bl) (hgb:lV L 1 (fun d=>d) bl):DI L n 121 [] MK (tS L bl n):=by
 intro A B a d e p ha hd he hB hp
 cases c1:vA e (tk L a) [108,101,116]
 ·cases c2:vA e (tk L a) [118,97,114]
  ·cases c3:vA e (tk L a) [105,102]
   ·cases c4:vA e (tk L a) [102,111,114]
    ·cases c5:vA e (tk L a) [114,101,116,117,114,110]
     ·exact arW hL hK hW ha hd he hB hp c1 c2 c3 c4 c5
     ·exact arX hL hK hW ha hd he hB hp c1 c2 c3 c4 c5
    ·exact arU hL hK hW hb hgb ha hd he hB hp c1 c2 c3 c4
   ·exact ayB hL hK hW hb hgb ha hd he hB hp c1 c2 c3
  ·exact arY hL hK hW ha hd he hB hp c1 c2
 ·exact arV hL hK hW ha hd he hB hp c1
end
end
section
open Go Hk
theorem XK {x:XS}{h:kL}:kU 1 11 [.int .i64 0,.int .i64 0,.int .i64 0,.str [],.int .i64 0,.int .i64 0,.int .i64 0,.slice [] .nil,.slice [] .nil,.slice [] .nil,.bool false] [(0,.agg x.cells)] h=some (.slice [x.cells] (.own h.length),h++[.front 1 11]) :=
 uM (XS.row.len x) rfl (XS.row.pure x) (XS.row.ok x)
section
variable {L:List Token}(hL:L.length≤131072) (hK:qF L) (hW:uL L)
include hL hK
omit hL hK in
theorem Ip {A B C:List lH}{a d e p x y:Nat}(hB:KB A B):l_ (HN A B+2) (RQ A L a d e p (B++(.front 0 0::.front x y::C)))=some (RQ A L a d e p (B++[.front 0 0,.front x y])):=by
 have:=xD (L:=L) (a:=a) (d:=d) (er:=e) (p:=p) (A:=A) (B:=B) (C:=.front 0 0::.front x y::C) (k:=2) (by simpa using hB.app (C:=[.front 0 0,.front x y]) (by simp)) (by simp)
 simpa using this
omit hL hK in
theorem Mt {A B:List lH}{a d e p:Nat}{l:List XS}(hB:KB A B) (he:e≠0) :
  mL (F2 KK (HN A B+2)) ([.ptr A.length 0,.slice [] (.own (HN A B)),.slice (l.map XS.cells) (.own (HN A B+1))],RQ A L a d e p (B++[.front 0 0,.front l.length (sK l.length 11)])) =
   some (.exit 0,[.ptr A.length 0,.slice [] (.own (HN A B)),.slice (l.map XS.cells) (.own (HN A B+1))],RQ A L a d e p (B++[.front 0 0,.front l.length (sK l.length 11)])):=by
 have he':¬(e:Int)=0:=by omega
 have hsp:∀h,kH.mT (HN A B+2) h (.ptr A.length 0)=.ptr A.length 0:=fun h=>lD (by simp [HN]; omega)
 have ht:=Ip (L:=L) (C:=[]) (a:=a) (d:=d) (e:=e) (p:=p) (x:=l.length) (y:=sK l.length 11) hB
 rw [mY]
 simp -implicitDefEqProofs [F2,he,he',kW,ht,hsp]
theorem Wt {n d:Nat}{st:PM XS}(hs:DI L n 121 [] MK st) (hg:lV L 1 (fun d=>d) st) {A B:List lH}(hB:KB A B) (hd:n+d=65) :
  ∀(f:Nat) (l:List XS) (a e p:Nat),a < L.length→(e=0→L.length < a+f)→(e=0→p=0)→(e=0→1≤n)→(e=0→l.length≤a) →
  ∃l' a' e' p',Step L (vK L st f l) a d e p l' a' e' p' ∧
   mL (F2 KK (HN A B+2)) ([.ptr A.length 0,.slice [] (.own (HN A B)),.slice (l.map XS.cells) (.own (HN A B+1))],RQ A L a d e p (B++[.front 0 0,.front l.length (sK l.length 11)])) =
    some (.exit 0,[.ptr A.length 0,.slice [] (.own (HN A B)),.slice (l'.map XS.cells) (.own (HN A B+1))],RQ A L a' d e' p' (B++[.front 0 0,.front l'.length (sK l'.length 11)])):=by
 intro f
 have hsp:∀h,kH.mT (HN A B+2) h (.ptr A.length 0)=.ptr A.length 0:=fun h=>lD (by simp [HN]; omega)
 induction f with
 | zero =>
  intro l a e p ha hf hp h1 hl
  have he:e≠0:=fun h=>by have:=hf h; omega
  exact⟨l,a,e,p,Step.stay ha he,Mt hB he⟩
 | succ f ih =>
  intro l a e p ha hf hp h1 hl
  by_cases he:e≠0
  ·exact⟨l,a,e,p,Step.stay ha he,Mt hB he⟩
  have he:e=0:=by omega
  subst he
  have:=hp rfl
  subst this
  have hfl:=hf rfl
  have hll:=hl rfl
  have hKB:KB A (B++[.front 0 0,.front l.length (sK l.length 11)]):=hB.app (by simp)
  have h149:=Oz (L:=L) (d:=d) (w:=[125]) (by decide) ha hKB hp
  cases h3:vA 0 (tk L a) [125]
  ·rw [h3] at h149
   obtain⟨v,a2,e2,p2,g1,s1⟩:=hs A _ a d 0 0 ha hd h1 hKB (fun _=>rfl)
   have hp2:=s1.zero (fun _=>rfl)
   have adv:e2=0→a+1≤a2:=fun h=>by
    subst h
    obtain⟨d',hd'⟩:=s1.JM
    exact(hg _ _ _ _ _ hd' ha).1
   obtain⟨l',a',e',p',s2,g2⟩:=ih (l++[v]) a2 e2 p2 s1.lt (fun h=>by have:=adv h; omega) hp2 (fun _=>h1 rfl) (fun h=>by have:=adv h; simp; omega)
   refine⟨l',a',e',p',?_,?_⟩
   ·rw [vK]
    refine Step.Cm hL hK ?_
    simp only [h3,ac1,if_false]
    exact s1.bind (hg.dep ha) s2
   ·have b2:=fun t=>Hd (A:=A) (B:=B) (L:=L) (a:=a2) (d:=d) (er:=e2) (p:=p2) (C:=[.front 0 0,.front l.length (sK l.length 11),.front 1 11]) (k:=1) (rows:=l.map XS.cells) (new:=[v.cells]) (sz:=11) (by_:=144) (sz':=sK l.length 11) (t:=t) (by simp) (by rw [al2]; exact Bl _ _) (by simp) (by simp) (by simp; omega) (by simp; omega)
    simp only [al2,List.length_singleton,List.set_cons_succ,List.set_cons_zero] at b2
    have ht:=fun C=>Ip (L:=L) (C:=C) (a:=a2) (d:=d) (e:=e2) (p:=p2) (x:=l.length+1) (y:=11) hB
    rw [mY,←g2]
    simp only [MK,al9,af7,al1,aa6,ab0,ab3,al0,rC] at g1 ⊢
    simp -implicitDefEqProofs [F2,h149,g1,XK,b2,kW,ht,hsp]
  ·rw [h3] at h149
   refine⟨l,a,0,0,?_,?_⟩
   ·rw [vK]
    refine Step.Cm hL hK ?_
    simp only [h3,if_true]
    exact Step.pure ha
   ·have ht:=Ip (L:=L) (C:=[]) (a:=a) (d:=d) (e:=0) (p:=0) (x:=l.length) (y:=sK l.length 11) hB
    rw [mY]
    simp -implicitDefEqProofs [F2,h149,kW,ht,hsp]
omit hK in
theorem arG:GX L (fun d=>d≤65) 64 [] (fun d=>d) (xZ []):=by
 intro A B a d e p ha hd hB he
 have hKB:KB A (B++[.front 0 0,.front 0 0]):=hB.app (by simp)
 have hd':d≤65:=hd
 have g1:=aeU hL (w:=[123]) A _ a d e p ha (by show d≤1000; omega) hKB he
 have g2:=Mt (L:=L) (a:=a) (d:=d+1) (p:=p) (l:=[]) hB he
 have g3:=aeV hL (w:=[125]) A _ a (d+1) e p ha (by show 1≤d+1∧d+1≤1000; omega) hKB he
 refine lA (Ws _ _ _) ?_
 simp only [al1,ab3,rD,am0] at g2 g3
 simp -implicitDefEqProofs [m64,hB,g1,g2,g3]
theorem aq2 {n:Nat}(hs:DI L n 121 [] MK (tS L (rN L n) n)):DI L (n+1) 64 [] xZ (rN L (n+1)):=by
 intro A B a d e p ha hd he hB hp
 have hg:=L6 hK (z_ hK n) n
 have hKB:KB A (B++[.front 0 0,.front 0 0]):=hB.app (by simp)
 obtain⟨u,a1,e1,p1,g1,s1⟩:=TK hL hK (w:=[123]) (by decide) A _ a d e p ha (by show d≤64; omega) hKB hp
 have hp1:=s1.zero hp
 have hn1:e1=0→1≤n:=fun h=>by subst h; have:=(Dx s1 hp).1; omega
 obtain⟨l,a2,e2,p2,s2,g2⟩:=Wt hL hK hs hg hB (show n+(d+1)=65 by omega) 131073 [] a1 e1 p1 s1.lt (fun _=>by omega) hp1 hn1 (fun _=>by simp)
 have hp2:=s2.zero hp1
 have hKB2:KB A (B++[.front 0 0,.front l.length (sK l.length 11)]):=hB.app (by simp)
 obtain⟨u',a3,e3,p3,g3,s3⟩:=Qk hL hK (w:=[125]) (by decide) A _ a2 (d+1) e2 p2 s2.lt (by show 1≤d+1∧d+1≤1000; omega) hKB2 hp2
 refine⟨l,a3,e3,p3,lA (Ws _ _ _) ?_,?_⟩
 ·simp only [tJ,al1,ab3,rD,am0] at g1 g2 g3
  simp -implicitDefEqProofs [m64,hB,g1,g2,g3]
 ·unfold rN
  exact s1.bind ((x9 hK).dep ha) (s2.bind ((Hi hg _ _).dep s1.lt) (s3.bind ((yX hK).dep s2.lt) (Step.pure s3.lt)))
include hW
theorem akN:∀n,DI L n 64 [] xZ (rN L n)
 | 0=>fun A B a d e p ha hn he hB hp=>by
  have h0:e≠0:=fun h=>absurd (he h) (by omega)
  exact⟨[],a,e,p,arG hL A B a d e p ha (by show d≤65; omega) hB h0,Step.stay ha h0⟩
 | n+1=>aq2 hL hK (ax4 hL hK hW (akN n) (z_ hK n))
end
end
section
open Go Hk
theorem JQ {x:XP}{h:kL}:kU 1 6 [.int .i64 0,.str [],.int .i64 0,.int .i64 0,.int .i64 0,.bool false] [(0,.agg x.cells)] h=some (.slice [x.cells] (.own h.length),h++[.front 1 6]) :=
 uM (XP.row.len x) rfl (XP.row.pure x) (XP.row.ok x)
def fT (A B:List lH) (pos:Int) (nm:List UInt8) (s2:kH) (has:Bool) (e1 e2 e3:Int) (s7:kH) (x:lH) (E:List lH):List lH :=
 .cells [.int .i64 0,.str [],.slice [] (.own (HN A B+1)),.bool false,.int .i64 0,.int .i64 0,.int .i64 0,.slice [] (.own (HN A B+2))]::.front 0 0::.front 0 0 ::
 .cells [.int .i64 pos,.str nm,s2,.bool has,.int .i64 e1,.int .i64 e2,.int .i64 e3,s7]::x::.front 0 0::E
def fG (A B:List lH) (x:lH) (E:List lH):List lH :=
 .cells [.int .i64 0,.str [],.slice [] (.own (HN A B+1)),.bool false,.int .i64 0,.int .i64 0,.int .i64 0,.slice [] (.own (HN A B+2))]::.front 0 0::.front 0 0 ::
 .gone::x::.front 0 0::E
section
variable {A B C:List lH}{L:List Token}{a d er p k:Nat}{x y:XP}{t:Tok}
theorem Nh (l:List XP) (hc:C[k]?=some (.front l.length (sK l.length 6))) (hl:l.length≤200000) :
  mB 6 56 (RQ A L a d er p (B++C)) (.slice (l.map XP.cells) (.own (HN A B+k))) (.slice [x.cells] t)=some (.slice ((l++[x]).map XP.cells) (.own (HN A B+k)),RQ A L a d er p (B++C.set k (.front (l.length+1) 6))):=by
 have:=Hd (A:=A) (B:=B) (L:=L) (a:=a) (d:=d) (er:=er) (p:=p) (C:=C) (k:=k) (rows:=l.map XP.cells) (new:=[x.cells]) (sz:=6) (by_:=56) (sz':=sK l.length 6) (t:=t)
  (by rw [al2]; exact hc) (by rw [al2]; exact Bl _ _) (by simpa using XP.row.len x) (by simp) (by simp; omega) (by simp; omega)
 simpa using this
theorem Kz (hc:C[k]?=some (.front 0 0)):mB 6 56 (RQ A L a d er p (B++C)) (.slice [] (.own (HN A B+k))) (.slice [x.cells] t)=some (.slice [x.cells] (.own (HN A B+k)),RQ A L a d er p (B++C.set k (.front 1 6))):=by
 have:=Nh (A:=A) (B:=B) (L:=L) (a:=a) (d:=d) (er:=er) (p:=p) (C:=C) (k:=k) (x:=x) (t:=t) [] (by simpa [sK] using hc) (by simp)
 simpa using this
end
section
variable {L:List Token}(hL:L.length≤131072) (hK:qF L) (hW:uL L)
include hL hK
def fP (A B:List lH) (nm:Token) (l:List XP) (E:List lH):List lH:=fT A B nm.pos nm.text (.slice (l.map XP.cells) (.own (HN A B+4))) false 0 0 0 (.slice [] (.own (HN A B+5))) (.front l.length (sK l.length 6)) (.cells nm.cells::E)
omit hL hK in
theorem NO {A B E:List lH}{nm:Token}{l:List XP}(hB:KB A B) (hE:Fq (HN A B+(E.length+7)) E):KB A (B++fP A B nm l E):=hB.app (by simp [fP,fT,hE])
omit hL hK in
theorem NP {A B C:List lH}{nm:Token}{l:List XP}{a d e p:Nat}(hB:KB A B):l_ (HN A B+8) (RQ A L a d e p (B++fP A B nm l (.front 1 6::C)))=some (RQ A L a d e p (B++fP A B nm l [.front 1 6])):=by
 have:=xD (L:=L) (a:=a) (d:=d) (er:=e) (p:=p) (A:=A) (B:=B) (C:=fP A B nm l (.front 1 6::C)) (k:=8) (by simpa [fP,fT] using NO (E:=[.front 1 6]) (nm:=nm) (l:=l) hB (by simp)) (by simp [fP,fT])
 simpa [fP,fT] using this
theorem Wg {d:Nat}{A B:List lH}{nm:Token}(hB:KB A B) :
  ∀(f:Nat) (l:List XP) (a e p:Nat),a < L.length→(e=0→L.length < a+f)→(e=0→p=0)→(e=0→l.length≤a) →
  ∃l' a' e' p',Step L (Fb L (uE L) f l) a d e p l' a' e' p' ∧
   mL (I4 KK (HN A B+8)) ([.ptr A.length 0,.ptr (HN A B) 0,.ptr (HN A B+3) 0],RQ A L a d e p (B++fP A B nm l [.front 1 6])) =
    some (.exit 0,[.ptr A.length 0,.ptr (HN A B) 0,.ptr (HN A B+3) 0],RQ A L a' d e' p' (B++fP A B nm l' [.front 1 6])):=by
 intro f
 have q1:∀h,kH.mT (HN A B+8) h (.ptr A.length 0)=.ptr A.length 0:=fun h=>lD (by simp [HN]; omega)
 have q2:∀h,kH.mT (HN A B+8) h (.ptr (HN A B) 0)=.ptr (HN A B) 0:=fun h=>lD (by omega)
 have q3:∀h,kH.mT (HN A B+8) h (.ptr (HN A B+3) 0)=.ptr (HN A B+3) 0:=fun h=>lD (by omega)
 have hKB:∀l,KB A (B++fP A B nm l [.front 1 6]):=fun l=>NO hB (by simp)
 have stop:∀(f:Nat) (l:List XP) (a e p:Nat),a < L.length→(e=0→p=0)→vA e (tk L a) [44]=false →
   ∃l' a' e' p',Step L (Fb L (uE L) f l) a d e p l' a' e' p' ∧
   mL (I4 KK (HN A B+8)) ([.ptr A.length 0,.ptr (HN A B) 0,.ptr (HN A B+3) 0],RQ A L a d e p (B++fP A B nm l [.front 1 6])) =
    some (.exit 0,[.ptr A.length 0,.ptr (HN A B) 0,.ptr (HN A B+3) 0],RQ A L a' d e' p' (B++fP A B nm l' [.front 1 6])):=by
  intro f l a e p ha hp hs
  have h151:=Ko (L:=L) hL (d:=d) (w:=[44]) (by decide) ha (hKB l) hp
  simp only [hs,ac1,if_false] at h151
  refine⟨l,a,e,p,?_,?_⟩
  ·unfold Fb
   refine Step.maybe hL hK ?_
   simp only [hs,ac1,if_false]
   exact Step.pure ha
  ·have ht:=NP (L:=L) (C:=[]) (nm:=nm) (l:=l) (a:=a) (d:=d) (e:=e) (p:=p) hB
   rw [mY]
   simp -implicitDefEqProofs [I4,h151,kW,ht,q1,q2,q3]
 induction f with
 | zero =>
  intro l a e p ha hf hp hl
  have he:e≠0:=fun h=>by have:=hf h; omega
  exact stop 0 l a e p ha hp (by simp [vA,he])
 | succ f ih =>
  intro l a e p ha hf hp hl
  cases hs:vA e (tk L a) [44]
  ·exact stop (f+1) l a e p ha hp hs
  ·obtain⟨he,hs2,ha1⟩:=yK hL hK ha hs
   subst he
   have:=hp rfl
   subst this
   have hfl:=hf rfl
   have hll:=hl rfl
   have h151:=Ko (L:=L) hL (d:=d) (w:=[44]) (by decide) ha (hKB l) hp
   simp only [hs,if_true] at h151
   have hC:KB A (B++fG A B (.front l.length (sK l.length 6)) [.cells nm.cells,.front 1 6]):=hB.app (by simp [fG])
   obtain⟨v,a2,e2,p2,g1,s1⟩:=aqZ hL hK A _ (a+1) d 0 0 ha1 trivial hC (fun _=>rfl)
   have hp2:=s1.zero (fun _=>rfl)
   have hg:=EU hK
   have adv:e2=0→a+1+1≤a2:=fun h=>by
    subst h
    obtain⟨d',hd'⟩:=s1.JM
    exact(hg _ _ _ _ _ hd' ha1).1
   obtain⟨l',a',e',p',s2,g2⟩:=ih (l++[v]) a2 e2 p2 s1.lt (fun h=>by have:=adv h; omega) hp2 (fun h=>by have:=adv h; simp; omega)
   refine⟨l',a',e',p',?_,?_⟩
   ·unfold Fb
    refine Step.maybe hL hK ?_
    simp only [hs,if_true]
    rw [Dv]
    exact s1.bind (hg.dep ha1) s2
   ·have ht:=NP (L:=L) (C:=[.front 1 6]) (nm:=nm) (l:=l++[v]) (a:=a2) (d:=d) (e:=e2) (p:=p2) hB
    have hpush:=fun(t:Tok) (C:List lH) hc=>Nh (A:=A) (B:=B) (C:=C) (L:=L) (a:=a2) (d:=d) (er:=e2) (p:=p2) (k:=4) (x:=v) (t:=t) l hc (by omega)
    rw [mY,←g2]
    simp only [fP,fT,fG,ae8,ah4,al9,af7,al1,Token.cells,aa6,ab0,ab3,al0,rC] at h151 g1 ht ⊢
    simp -implicitDefEqProofs [I4,h151,g1,hB,JQ,hpush,kW,ht,q1,q2,q3]
include hW
theorem Vj {A B E:List lH}{nm:Token}{ps:List XP}{a e p:Nat}(ha:a < L.length) (hB:KB A B) (hE:Fq (HN A B+(E.length+7)) E) (hp:e=0→p=0) :
  ∃(ty:Ty) (b:List XS) (a' e' p':Nat),Step L (do if ←oW L [58] then(do let l ←rV L; let ty ←qG L l; let b ←rN L 65; return ⟨nm.pos,nm.text,ps,true,ty,b⟩) else(do let b ←rN L 65; return ⟨nm.pos,nm.text,ps,false,⟨0,0,0⟩,b⟩):PM XF) a 0 e p ⟨nm.pos,nm.text,ps,vA e (tk L a) [58],ty,b⟩ a' e' p' ∧
   KK 61 [.ptr A.length 0,.str [58]] (RQ A L a 0 e p (B++fP A B nm ps E))=some (.ret (.bool (vA e (tk L a) [58])),RQ A L (if vA e (tk L a) [58]=true then a+1 else a) 0 e p (B++fP A B nm ps E)) ∧
   (vA e (tk L a) [58]=true→∃l a1 e1 p1 a2 e2 p2, 
    KK 62 [.ptr A.length 0] (RQ A L (a+1) 0 e p (B++fT A B nm.pos nm.text (.slice (ps.map XP.cells) (.own (HN A B+4))) true 0 0 0 (.slice [] (.own (HN A B+5))) (.front ps.length (sK ps.length 6)) (.cells nm.cells::E))) =
     some (.ret (.int .i64 (l:Nat)),RQ A L a1 0 e1 p1 (B++fT A B nm.pos nm.text (.slice (ps.map XP.cells) (.own (HN A B+4))) true 0 0 0 (.slice [] (.own (HN A B+5))) (.front ps.length (sK ps.length 6)) (.cells nm.cells::E))) ∧
    KK 63 [.ptr A.length 0,.bool true,.int .i64 (l:Nat)] (RQ A L a1 0 e1 p1 (B++fT A B nm.pos nm.text (.slice (ps.map XP.cells) (.own (HN A B+4))) true 0 0 0 (.slice [] (.own (HN A B+5))) (.front ps.length (sK ps.length 6)) (.cells nm.cells::E))) =
     some (.ret (.agg ty.cells),RQ A L a2 0 e2 p2 (B++fT A B nm.pos nm.text (.slice (ps.map XP.cells) (.own (HN A B+4))) true 0 0 0 (.slice [] (.own (HN A B+5))) (.front ps.length (sK ps.length 6)) (.cells nm.cells::E))) ∧
    KK 64 [.ptr A.length 0] (RQ A L a2 0 e2 p2 (B++fT A B nm.pos nm.text (.slice (ps.map XP.cells) (.own (HN A B+4))) true ty.elem ty.len ty.label (.slice [] (.own (HN A B+5))) (.front ps.length (sK ps.length 6)) (.cells nm.cells::E))) =
     some (.ret (xZ b),RQ A L a' 0 e' p' (B++fT A B nm.pos nm.text (.slice (ps.map XP.cells) (.own (HN A B+4))) true ty.elem ty.len ty.label (.slice [] (.own (HN A B+5))) (.front ps.length (sK ps.length 6)) (.cells nm.cells::E)))) ∧
   (vA e (tk L a) [58]=false→ty=⟨0,0,0⟩∧KK 64 [.ptr A.length 0] (RQ A L a 0 e p (B++fP A B nm ps E))=some (.ret (xZ b),RQ A L a' 0 e' p' (B++fP A B nm ps E))):=by
 have hKB:KB A (B++fP A B nm ps E):=NO hB hE
 have h151:=Ko (L:=L) hL (d:=0) (w:=[58]) (by decide) ha hKB hp
 have hT:∀x y z:Int,KB A (B++fT A B nm.pos nm.text (.slice (ps.map XP.cells) (.own (HN A B+4))) true x y z (.slice [] (.own (HN A B+5))) (.front ps.length (sK ps.length 6)) (.cells nm.cells::E)):=fun x y z=>hB.app (by simp [fT,hE])
 have hgb:=z_ hK 65
 cases hs:vA e (tk L a) [58]
 ·rw [hs] at h151
  obtain⟨b,a',e',p',g1,s1⟩:=akN hL hK hW 65 A _ a 0 e p ha rfl (fun _=>by omega) hKB hp
  refine⟨⟨0,0,0⟩,b,a',e',p',?_,h151,(fun h=>by cases h),fun _=>⟨rfl,g1⟩⟩
  refine Step.maybe hL hK ?_
  simp only [hs,ac1,if_false]
  exact s1.bind (hgb.dep ha) (Step.pure s1.lt)
 ·rw [hs] at h151
  obtain⟨_,_,ha1⟩:=yK hL hK ha hs
  obtain⟨l,a1,e1,p1,g1,s1⟩:=akM hL hK A _ (a+1) 0 e p ha1 trivial (hT 0 0 0) hp
  have hp1:=s1.zero hp
  obtain⟨ty,a2,e2,p2,g2,s2⟩:=aq1 hL hK l A _ a1 0 e1 p1 s1.lt trivial (hT 0 0 0) hp1
  have hp2:=s2.zero hp1
  obtain⟨b,a',e',p',g3,s3⟩:=akN hL hK hW 65 A _ a2 0 e2 p2 s2.lt rfl (fun _=>by omega) (hT ty.elem ty.len ty.label) hp2
  refine⟨ty,b,a',e',p',?_,h151,(fun _=>⟨l,a1,e1,p1,a2,e2,p2,g1,g2,g3⟩),fun h=>by cases h⟩
  refine Step.maybe hL hK ?_
  simp only [hs,if_true]
  exact s1.bind ((Ab hK).dep ha1) (s2.bind ((CV hK).dep s1.lt) (s3.bind (hgb.dep s2.lt) (Step.pure s3.lt)))
set_option maxHeartbeats 1000000 in
theorem q78 {A B:List lH}{a e p:Nat}(ha:a < L.length) (hB:KB A B) (hp:e=0→p=0):∃v a' e' p',KK 29 [.ptr A.length 0] (RQ A L a 0 e p B)=some (.ret (Zk v),RQ A L a' 0 e' p' B)∧Step L (wI L) a 0 e p v a' e' p':=by
 have hT:∀(x y z pos:Int) nm E,Fq (HN A B+(E.length+6)) E→KB A (B++fT A B pos nm (.slice [] (.own (HN A B+4))) false x y z (.slice [] (.own (HN A B+5))) (.front 0 0) E):=fun x y z pos nm E hE=>hB.app (by simp [fT,hE])
 obtain⟨u,a1,e1,p1,g1,s1⟩:=Br hL hK (w:=[102,110]) (by decide) A _ a 0 e p ha trivial (hT 0 0 0 0 [] [] (by simp)) hp
 have hp1:=s1.zero hp
 obtain⟨nm,a2,e2,p2,g2,s2⟩:=Jj hL hK (k:=1) (by decide) A _ a1 0 e1 p1 s1.lt trivial (hT 0 0 0 0 [] [] (by simp)) hp1
 have hp2:=s2.zero hp1
 have hKB:∀l,KB A (B++fP A B nm l []):=fun l=>NO hB (by simp)
 have hKB1:∀l,KB A (B++fP A B nm l [.front 1 6]):=fun l=>NO hB (by simp)
 obtain⟨u3,a3,e3,p3,g3,s3⟩:=Br hL hK (w:=[40]) (by decide) A _ a2 0 e2 p2 s2.lt trivial (hKB []) hp2
 have hp3:=s3.zero hp2
 have h149:=Oz (L:=L) (d:=0) (w:=[41]) (by decide) s3.lt (hKB []) hp3
 have hg:=EU hK
 have stp:∀{ps a4 e4 p4 u5 a5 e5 p5 v a' e' p'},Step L (xL L [41] (uE L)) a3 0 e3 p3 ps a4 e4 p4→Step L (oA L [41]) a4 0 e4 p4 u5 a5 e5 p5 →
   Step L (do if ←oW L [58] then(do let l ←rV L; let ty ←qG L l; let b ←rN L 65; return ⟨nm.pos,nm.text,ps,true,ty,b⟩) else(do let b ←rN L 65; return ⟨nm.pos,nm.text,ps,false,⟨0,0,0⟩,b⟩):PM XF) a5 0 e5 p5 v a' e' p'→Step L (wI L) a 0 e p v a' e' p':=by
  intro ps a4 e4 p4 u5 a5 e5 p5 v a' e' p' s4 s5 s6
  unfold wI
  exact s1.bind ((pR hK).dep ha) (s2.bind ((rL hK (by omega)).dep s1.lt) (s3.bind ((pR hK).dep s2.lt) (s4.bind ((D6 hK hg).dep s3.lt) (s5.bind ((pR hK).dep s4.lt) s6))))
 cases hs:vA e3 (tk L a3) [41]
 ·have hC:KB A (B++fG A B (.front 0 0) [.cells nm.cells]):=hB.app (by simp [fG])
  obtain⟨v,a4,e4,p4,g4,s4⟩:=aqZ hL hK A _ a3 0 e3 p3 s3.lt trivial hC hp3
  have hp4:=s4.zero hp3
  have adv:e4=0→a3+1≤a4:=fun h=>by
   have he3:=s4.back h
   subst he3; subst h
   have:=hp3 rfl
   subst this
   obtain⟨d',hd'⟩:=s4.JM
   exact(hg _ _ _ _ _ hd' s3.lt).1
  obtain⟨ps,a5,e5,p5,s5,g5⟩:=Wg (d:=0) (nm:=nm) hL hK hB 131072 [v] a4 e4 p4 s4.lt (fun _=>by omega) hp4 (fun h=>by have:=adv h; simp; omega)
  have hp5:=s5.zero hp4
  obtain⟨u6,a6,e6,p6,g6,s6⟩:=Br hL hK (w:=[41]) (by decide) A _ a5 0 e5 p5 s5.lt trivial (hKB1 ps) hp5
  have hp6:=s6.zero hp5
  obtain⟨ty,b,a',e',p',s7,g7,g8,g9⟩:=Vj hL hK hW (nm:=nm) (ps:=ps) (E:=[.front 1 6]) s6.lt hB (by simp) hp6
  refine⟨_,a',e',p',lA (Wf _ _ _) ?_,stp (ps:=ps) (a4:=a5) (e4:=e5) (p4:=p5) ?_ s6 s7⟩
  ·cases hs2:vA e6 (tk L a6) [58]
   ·obtain⟨rfl,g10⟩:=g9 hs2
    simp only [hs,hs2,fP,fT,fG,ae8,ah4,af7,al1,ab0,ab3,al0,rC,rD,Token.cells,xA,tJ,xZ,ad3,if_false,ac1] at g1 g2 g3 h149 g4 g5 g6 g7 g10
    simp -implicitDefEqProofs [m29,hB,g1,g2,g3,h149,g4,JQ,Kz,g5,g6,g7,g10,XF.cells]
   ·obtain⟨l,b1,f1,r1,b2,f2,r2,k1,k2,k3⟩:=g8 hs2
    simp only [hs,hs2,fP,fT,fG,ae8,ah4,af7,al1,ab0,ab3,al0,rC,rD,Token.cells,Ty.cells,xA,tJ,xZ,ad3,if_true] at g1 g2 g3 h149 g4 g5 g6 g7 k1 k2 k3
    simp -implicitDefEqProofs [m29,hB,g1,g2,g3,h149,g4,JQ,Kz,g5,g6,g7,k1,k2,k3,XF.cells]
  ·unfold xL
   refine Step.Cm hL hK ?_
   simp only [hs,ac1,if_false]
   show Step L (wJ L (uE L) (131072+1) []) a3 0 e3 p3 ps a5 e5 p5
   rw [Dv]
   exact s4.bind (hg.dep s3.lt) s5
 ·obtain⟨u6,a6,e6,p6,g6,s6⟩:=Br hL hK (w:=[41]) (by decide) A _ a3 0 e3 p3 s3.lt trivial (hKB []) hp3
  have hp6:=s6.zero hp3
  obtain⟨ty,b,a',e',p',s7,g7,g8,g9⟩:=Vj hL hK hW (nm:=nm) (ps:=[]) (E:=[]) s6.lt hB (by simp) hp6
  refine⟨_,a',e',p',lA (Wf _ _ _) ?_,stp (ps:=[]) (a4:=a3) (e4:=e3) (p4:=p3) ?_ s6 s7⟩
  ·cases hs2:vA e6 (tk L a6) [58]
   ·obtain⟨rfl,g10⟩:=g9 hs2
    simp only [hs,hs2,fP,fT,fG,al1,ab3,rD,Token.cells,xA,tJ,xZ,ad3,if_false,ac1] at g1 g2 g3 h149 g6 g7 g10
    simp -implicitDefEqProofs [m29,hB,g1,g2,g3,h149,g6,g7,g10,XF.cells]
   ·obtain⟨l,b1,f1,r1,b2,f2,r2,k1,k2,k3⟩:=g8 hs2
    simp only [hs,hs2,fP,fT,fG,al1,ab3,rD,Token.cells,Ty.cells,xA,tJ,xZ,ad3,if_true] at g1 g2 g3 h149 g6 g7 k1 k2 k3
    simp -implicitDefEqProofs [m29,hB,g1,g2,g3,h149,g6,g7,k1,k2,k3,XF.cells]
  ·unfold xL
   refine Step.Cm hL hK ?_
   simp only [hs,if_true]
   exact Step.pure s3.lt
end
end
section
open Go Hk
theorem TC {l:List UInt8}{at_ n:Nat}{t:Token}(h:tV l at_=some (t,n)) (hk:t.kind=3):t.text∈tK:=by
 cases l with
 | nil=>simp [tV] at h
 | cons b r =>
  simp only [tV] at h
  split at h
  ·split at h
   ·cases h
   ·simp only [ab1,ae5] at h
    obtain⟨rfl,_⟩:=h
    simp only at hk ⊢
    split at hk
    ·assumption
    ·cases hk
  ·split at h
   ·split at h
    ·cases h
    ·simp only [ab1,ae5] at h
     obtain⟨rfl,_⟩:=h
     cases hk
   ·split at h
    ·cases h
    ·simp only [ab1,ae5] at h
     obtain⟨rfl,_⟩:=h
     cases hk
theorem QK:∀w∈tK,nE w=none:=by decide
theorem T2 {s:List UInt8}{l:List Token}{n:Nat}(h:∀x∈l,Fact s x):uL (l++[⟨0,n,0,[]⟩]):=by
 intro a hk
 by_cases ha:a < l.length
 ·have e:tk (l++[(⟨0,n,0,[]⟩:Token)]) a=tk l a:=by simp [tk,List.getElem?_append_left ha]
  rw [e] at hk ⊢
  have hf:=(h _ (MS ha)).2.1.2.2.2.2 [] 0
  exact QK _ (TC (t:=E9 (tk l a) 0) hf hk)
 ·have e:(tk (l++[(⟨0,n,0,[]⟩:Token)]) a).kind=0:=by
   unfold tk
   rw [ae0 (by omega)]
   cases h2:a - l.length with
   | zero=>rfl
   | succ i=>rfl
  omega
theorem as0 (x:XF):(∀c,c∈x.cells→c.lY=true)=True:=eq_true (by simpa using XF.row.ok x)
theorem QM (x:XF) {h:kL}{os:List kH}:o0 h os x.cells=x.cells:=qB (by simp [XF.cells,kH.isNil])
theorem ac5 (x:XF):x.cells.take 8=x.cells:=rfl
def pA (e0 p0:Nat):List lH:=[.cells [.slice [] (.own 1)],.front 0 0,.cells [.int .i64 0,.int .i64 0],.cells [.int .i64 (e0:Int),.int .i64 (p0:Int)]]
def pB (l:List XF):List lH:=[.cells [.slice (l.map XF.cells) (.own 6)],.front l.length (sK l.length 8)]
section
variable {L:List Token}(hL:L.length≤131072) (hK:qF L) (hW:uL L)
include hL hK hW
omit hL hK hW in
theorem aqS {e0 p0:Nat}{l:List XF}:KB (pA e0 p0) (pB l):=⟨fun n hn=>by simp [HN,pA,pB] at hn ⊢; omega,fun n hn=>by simp [HN,pA,pB] at hn ⊢; omega⟩
omit hL hK hW in
theorem WR {e0 p0 d e p:Int}{rows rows':List (List kH)}{n sz:Nat}{C:List lH}{a:Int}:l_ 7 (.cells [.slice [] (.own 1)]::.front 0 0::.cells [.int .i64 0,.int .i64 0]::.cells [.int .i64 e0,.int .i64 p0]::.cells [.slice rows' .no,.int .i64 a,.int .i64 d,.int .i64 e,.int .i64 p]::.cells [.slice rows (.own 6)]::.front n sz::C) =
  some [.cells [.slice [] (.own 1)],.front 0 0,.cells [.int .i64 0,.int .i64 0],.cells [.int .i64 e0,.int .i64 p0],.cells [.slice rows' .no,.int .i64 a,.int .i64 d,.int .i64 e,.int .i64 p],.cells [.slice rows (.own 6)],.front n sz]:=by
 simp [l_]
theorem V5 (e0 p0:Nat):∀(f:Nat) (l:List XF) (a e p:Nat),a < L.length→(e=0→L.length < a+f)→(e=0→p=0)→(e=0→l.length≤a) →
  ∃l' a' e' p',Step L (pI L f l) a 0 e p l' a' e' p' ∧
   mL (FW KK 7) ([.ptr 0 0,.ptr 2 0,.ptr 4 0,.ptr 5 0],RQ (pA e0 p0) L a 0 e p (pB l))=some (.exit 0,[.ptr 0 0,.ptr 2 0,.ptr 4 0,.ptr 5 0],RQ (pA e0 p0) L a' 0 e' p' (pB l')):=by
 intro f
 have htr:=fun d e p rows rows' n sz C a=>WR (e0:=(e0:Int)) (p0:=(p0:Int)) (d:=d) (e:=e) (p:=p) (rows:=rows) (rows':=rows') (n:=n) (sz:=sz) (C:=C) (a:=a)
 have q0:∀h,kH.mT 7 h (.ptr 0 0)=.ptr 0 0:=fun h=>lD (by omega)
 have q2:∀h,kH.mT 7 h (.ptr 2 0)=.ptr 2 0:=fun h=>lD (by omega)
 have q4:∀h,kH.mT 7 h (.ptr 4 0)=.ptr 4 0:=fun h=>lD (by omega)
 have q5:∀h,kH.mT 7 h (.ptr 5 0)=.ptr 5 0:=fun h=>lD (by omega)
 have bad:∀(l:List XF) (a e p:Nat),e≠0→mL (FW KK 7) ([.ptr 0 0,.ptr 2 0,.ptr 4 0,.ptr 5 0],RQ (pA e0 p0) L a 0 e p (pB l))=some (.exit 0,[.ptr 0 0,.ptr 2 0,.ptr 4 0,.ptr 5 0],RQ (pA e0 p0) L a 0 e p (pB l)):=by
  intro l a e p he
  have he':¬(e:Int)=0:=by omega
  rw [mY]
  simp -implicitDefEqProofs [FW,RQ,RB,pA,pB,he,he',kW,htr,q0,q2,q4,q5]
 induction f with
 | zero =>
  intro l a e p ha hf hp hl
  have he:e≠0:=fun h=>by have:=hf h; omega
  exact⟨l,a,e,p,Step.stay ha he,bad l a e p he⟩
 | succ f ih =>
  intro l a e p ha hf hp hl
  by_cases he:e≠0
  ·exact⟨l,a,e,p,Step.stay ha he,bad l a e p he⟩
  have he:e=0:=by omega
  subst he
  have:=hp rfl
  subst this
  have hfl:=hf rfl
  have hll:=hl rfl
  by_cases hk:(tk L a).kind=0
  ·refine⟨l,a,0,0,?_,?_⟩
   ·rw [pI]
    refine Step.here ?_
    rw [if_pos hk]
    exact Step.pure ha
   ·rw [mY]
    simp -implicitDefEqProofs [FW,RQ,RB,pA,pB,ha,hk,kW,htr,q0,q2,q4,q5]
  ·have hk':¬((tk L a).kind:Int)=0:=by omega
   have hg:=IJ hK
   obtain⟨v,a2,e2,p2,g1,s1⟩:=q78 hL hK hW (A:=pA e0 p0) (B:=pB l) (e:=0) (p:=0) ha aqS (fun _=>rfl)
   have hp2:=s1.zero (fun _=>rfl)
   have adv:e2=0→a+1≤a2:=fun h=>by
    subst h
    obtain⟨d',hd'⟩:=s1.JM
    exact(hg _ _ _ _ _ hd' ha).1
   obtain⟨l',a',e',p',s2,g2⟩:=ih (l++[v]) a2 e2 p2 s1.lt (fun h=>by have:=adv h; omega) hp2 (fun h=>by have:=adv h; simp; omega)
   refine⟨l',a',e',p',?_,?_⟩
   ·rw [pI]
    refine Step.here ?_
    rw [if_neg hk]
    exact s1.bind (hg.dep ha) s2
   ·have b2:∀(x0 x1 x2 x3 x4 x5:lH) (u:List lH) (t:Tok),mB 8 104 (x0::x1::x2::x3::x4::x5::.front l.length (sK l.length 8)::u) (.slice (l.map XF.cells) (.own 6)) (.slice [v.cells] t) =
      some (.slice (l.map XF.cells++[v.cells]) (.own 6),x0::x1::x2::x3::x4::x5::.front (l.length+1) 8::u):=by
     intro x0 x1 x2 x3 x4 x5 u t
     have hb1:(l.length+1) * 104≤140737488355328:=by omega
     have hb2:l.length+1≤140737488355328:=by omega
     have hf:sK l.length 8=8∨l=[]∧sK l.length 8=0:=by
      rcases Bl l.length 8 with h | h
      ·exact .inl h
      ·exact .inr ⟨List.length_eq_zero_iff.1 h.1,h.2⟩
     simp [mB,p8,hb1,hb2]
     exact fun h=>hf.resolve_left h
    rw [mY,←g2]
    simp only [RQ,RB,pA,pB,Zk,ae8,ah4,ab0,ab3,al9,af7,al1,aa6,al0,Nat.reduceAdd,rC,ad3] at g1 ⊢
    simp -implicitDefEqProofs [FW,ha,hk,hk',g1,b2,as0,QM,ac5,kW,htr,q0,q2,q4,q5]
end
theorem c12 (s:List UInt8) (h:kL):KK 12 [.str s] h=some (.ret (.tuple [.agg [.slice ((oQ s).1.map XF.cells) .no],.agg [.int .i64 ((oQ s).2.1:Int),.int .i64 ((oQ s).2.2:Int)]]),h):=by
 refine lB rfl rfl (lA (aiK _ _ _) ?_)
 have h21:=c28 s
 unfold oQ
 by_cases he:(oL s).2.1=0
 ·have he':(((oL s).2.1:Nat):Int)=0:=by omega
  obtain⟨l0,hl0,hf0,_⟩:=Dr he
  have hlen:=CX s
  have hL:(oL s).1.length≤131072:=by omega
  have hK:qF (oL s).1:=by rw [hl0]; exact BP
  have hW:uL (oL s).1:=by rw [hl0]; exact T2 hf0
  have h0:0 < (oL s).1.length:=by rw [hl0]; simp
  rw [if_pos he]
  obtain⟨l',a',e',p',s1,h1⟩:=V5 hL hK hW 0 (oL s).2.2 131073 [] 0 0 0 h0 (fun _=>by omega) (fun _=>rfl) (fun _=>by simp)
  have h2:=s1.ok rfl rfl
  simp only [RQ,RB,pA,pB,al1,ab3,rD,ae8,ah4,ad3] at h1
  simp -implicitDefEqProofs [m12,h21,he,h1]
  unfold uR at h2
  cases q:pI (oL s).1 131073 [] 0 0 with
  | ok l a d =>
   rw [q] at h2
   obtain⟨rfl,rfl,rfl,rfl⟩:=h2
   simp -implicitDefEqProofs [kK]
  | bad e p a d =>
   rw [q] at h2
   obtain⟨rfl,rfl,h3⟩:=h2
   have h3':¬(e':Int)=0:=by omega
   simp -implicitDefEqProofs [h3,h3',kK]
 ·have he':¬(((oL s).2.1:Nat):Int)=0:=by omega
  rw [if_neg he]
  simp -implicitDefEqProofs [m12,h21,he,he',kK]
end
end Go.Proofs.YtlddmnojanpdoaaGreatDoor
