/-
  The texts WG.TM, WG.JB, WG.JC, WG.JD, WG.JE, WG.JF, WG.JO, WG.JG, WG.JH, WG.JI, WG.JR, WG.JJ, WG.JK, WG.JL, WG.JM, WG.JS, WG.JT, WG.JU, WG.JV, WG.JW, WG.JX, WG.JY, WG.JN, one behind another. No conditions.
-/
import Derived.Test.YtlddmnojanpdoaaGreatDoorPLg1
import Derived.Test.YtlddmnojanpdoaaGreatDoorPSg1
import Derived.Test.YtlddmnojanpdoaaGreatDoorPWgt1
import Derived.Test.YtlddmnojanpdoaaGreatDoorPWg2
set_option linter.unusedVariables false
set_option linter.unusedSimpArgs false
set_option linter.all false
open Bool renaming and_eq_true → ad2
open Int renaming cast_ofNat_Int → ac7, natCast_add → ag1
open List renaming all_eq_true → ah1, append_assoc → af9, cons_append → af2, drop_eq_getElem_cons → af5, getD → ad1, getElem?_append_right → ac9, length → aa0, length_append → ac2, length_cons → ac8, length_map → al0, length_nil → ad0, map_cons → aj2, map_nil → al1, nil_append → ah4
open Nat renaming le_refl → ac5, zero_add → al6, zero_le → ah9
namespace Go.Proofs.YtlddmnojanpdoaaGreatDoor
noncomputable section
open Go Hk
def ai2 (K:lB) (a0 a1 a2:kM) (pv:Option kM) (h0:kP):Option kP :=
 ((zO 141 (.agg [(iq 0),(iq 0)]) (Option.getD pv .niliface)).bind fun t0=>(lH 0 t0).bind fun t1=>(lH 1 t0).bind fun t2=>kQ (lK 2 h0 (.agg [(iq 0),(iq 0)])) fun t3 h4=>(kR 2 h4 t3 t1).bind fun h5=>(lF t2 ((kO 0 t3).bind fun t6=>(kT true 2 h5 t6).bind fun t7=>(kR 1 (nL (kY [0] [t6]) h5) a0 (iq 0)).bind fun h8=>(kR 1 (nL (kY [0] [t6]) (lP (kY [0] [t6]) h5 h8)) a1 (iq 0)).bind fun h9=>(kR 2 (lP (kY [0] [t6]) (lP (kY [0] [t6]) h5 h8) h9) a2 t7).bind fun h10=>kS (aa0 h5) .normal ([]:List kM) h10) (kS (aa0 h5) .normal ([]:List kM) h5)).bind fun r11=>(fun h12=>Ex.uC r11.1 (some (.normal,[],h12)))  r11.2.2).bind fun r=>Ex.Wu r.1 (l9 (aa0 h0) r.2.2)
def acP (K:lB) (caps:List kM) (pv:Option kM) (h0:kP):Option kP:=ai2 K (ad1 caps 0 .junk) (ad1 caps 1 .junk) (ad1 caps 2 .junk) pv h0
def ND (K:lB) (m:Nat) (s:St):Option R :=
 uq8 s fun aE aF aG aH aD aB aC aA aI=>aq .lss aA aC ((kX 8 aB aA).bind fun aO=>(kT true 8 aI aO).bind fun aP=>kQ (lK 8 aI (.agg [(iq 0),(.str []),(.slice [] .nil),(.bool false),(iq 0),(iq 0),(iq 0),(.slice [] .nil)])) fun aK aL=>(kR 8 aL aK aP).bind fun aJ=>(kT true 8 aJ aK).bind fun aQ=>kU (rR K 92 aD aQ aJ) (fun aT aN=>(kV .add aA (iq 1)).bind fun aR=>some (.normal,[aE,aF,aG,aH,aD,aB,aC,aR],aN)) (fun aS aM=>some ((.pan aS),[aE,aF,aG,aH,aD,aB,aC,aA],aM))) (some ((.exit 0),[aE,aF,aG,aH,aD,aB,aC,aA],aI))
def m45 (K:lB) (a0:kM) (h0:kP):OH :=
 (kQ (lK 1 h0 a0) fun t0 h1=>kQ (lK 1 h1 (iq 0)) fun t2 h3=>kQ (lK 1 h3 (iq 0)) fun t4 h5=>kQ (lK 2 h5 (.agg [(iq 0),(iq 0)])) fun t6 h7=>(kT true 1 h7 t0).bind fun t8=>qX K 14 t8 h7 fun t9 aL=>(lH 0 t9).bind fun b_=>(lH 1 t9).bind fun aZ=>aq .neq aZ (iq 0) ((lS [(iq 0),(iq 0)] [(0,1),(1,1)] [(0,aZ)]).bind fun bK=>(kR 1 aL t2 (iq 0)).bind fun bC=>(kR 1 bC t4 (iq 0)).bind fun bD=>(kR 2 bD t6 bK).bind fun bE=>some (.ret,[t2,t4,t6],bE)) (((fun(bL:kM) (bF:kP)=>(lS [.nilmap,.nilmap,(iq 0),(.str []),(.slice [] .nil),(.bool false),(iq 0),(iq 0),(iq 0),(.slice [] .nil)] [(0,1),(1,1),(2,8)] [(0,bL)]).bind fun bM=>kQ (lK 10 bF bM) fun bN aM=>fq 0 t0 aM fun a_=>(mN a_).bind fun bO=>(mI (ND K (aa0 aM)) ([t0,t2,t4,t6,bN,a_,bO,(iq 0)],aM)).bind fun aX=>uq8 aX.2 fun aD aA aB aC aF aU aV aW aN=>Ex.lV aX.1 none (fun bA=>Ex.inBlock 0 bA (fq 0 aD aN fun bP=>kU (rR K 93 aF bP aN) (fun cA aG=>(kZ aF).bind fun bQ=>fq 0 bQ aG fun bR=>bif oL .string (.str [109,97,105,110]) then(q7 (.agg [(iq 0),(.str []),(.slice [] .nil),(.bool false),(iq 0),(iq 0),(iq 0),(.slice [] .nil),(iq 0)]) false aG bR (.str [109,97,105,110])).bind fun bS=>(sP false 1 8 bS).bind fun bT=>(kO 0 aD).bind fun aR=>(kT false 1 aG aR).bind fun bU=>(kO 0 aD).bind fun aS=>(kT false 1 aG aS).bind fun bV=>(mN bV).bind fun bW=>(kV .sub bW (iq 1)).bind fun bX=>(kX 8 bU bX).bind fun bY=>(kO 0 bY).bind fun aT=>(kT false 1 aG aT).bind fun bZ=>(lS [(iq 0),(iq 0)] [(0,1),(1,1)] []).bind fun b8=>(kR 1 (nL (kY [0,1,2] [aR,aS,aT]) aG) aA bT).bind fun bH=>(kR 1 (lP (kY [0,1,2] [aR,aS,aT]) aG bH) aB bZ).bind fun bI=>(kR 2 bI aC b8).bind fun bJ=>some (.ret,[aA,aB,aC],bJ) else none) (fun b9 bG=>some ((.pan b9),[aA,aB,aC],bG))) (fun bB=>some (bB,[aA,aB,aC],aN)))) (.map (aa0 aL)) (aL++[.map []])).bind fun aK=>Ex.Rx aK.1 (Option.map (fun hh=>(.ret,aK.2.1,hh)) (acP K [t2,t4,t6] none aK.2.2)) (fun vv=>Option.map (fun hh=>(.ret,[t2,t4,t6],hh)) (acP K [t2,t4,t6] (some vv) aK.2.2)))).bind fun aY=>AE aY.2 fun aH aI aJ aE=>Ex.nA aY.1 ((kT false 1 aE aH).bind fun aO=>(kT false 1 aE aI).bind fun aP=>(kT true 2 aE aJ).bind fun aQ=>lY (aa0 h0) (.tuple [aO,aP,aQ]) aE)
theorem aA3 K a0 h0:o6 Tryz.prog mJ mI K 45 [a0] h0=m45 (lT mJ K) a0 h0:=by kernel_rfl
def Ee (K:lB) (m:Nat) (s:St):Option R :=
 EB s fun aD aE aB aC aA aL=>aq .lss aA aC ((kX 6 aB aA).bind fun aX=>(kT true 6 aL aX).bind fun aY=>kQ (lK 6 aL (.agg [(iq 0),(.str []),(iq 0),(iq 0),(iq 0),(.bool false)])) fun aF aT=>(kR 6 aT aF aY).bind fun aI=>fq 1 aF aI fun aZ=>(kO 2 aF).bind fun a_=>(kT true 3 aI a_).bind fun bA=>fq 5 aF aI fun bB=>(vT .not bB).bind fun bC=>(lS [(iq 0),(iq 0),(iq 0),(.bool false)] [(0,3),(3,1)] [(0,bA),(1,bC)]).bind fun bD=>fq 0 aF aI fun bE=>kU (uk4 K 132 aD aZ bD bE aI) (fun bW aM=>fq 5 aF aM fun bF=>(vT .not bF).bind fun aJ=>(lQ false aJ ((kO 2 aF).bind fun bG=>nM bG aM) (nM (.tuple []) aM)).bind (nT (fun bH aQ=>(lQ false aJ ((kO 1 bH).bind fun bI=>nM bI aQ) (nM (.tuple []) aQ)).bind (nT (fun bJ aN=>(lQ false aJ ((kT false 1 aN bJ).bind fun bK=>nM bK aN) (nM (.tuple []) aN)).bind (nT (fun bL aR=>(lQ false aJ ((kV .gtr bL (iq 0)).bind fun bM=>nM bM aR) (nM (.tuple []) aR)).bind (nT (fun bN aS=>(lN aJ (.bool true) bN).bind fun bO=>fq 0 aF aS fun bP=>kU (Bv K 131 bO (iq 14) bP aS) (fun bX aO=>(kO 2 aF).bind fun bQ=>fq 1 bQ aO fun bR=>(kV .leq bR (iq 16384)).bind fun bS=>fq 0 aF aO fun bT=>kU (Bv K 131 bS (iq 18) bT aO) (fun aW aK=>(kV .add aA (iq 1)).bind fun aP=>kS m .normal [aD,aE,aB,aC,aP] aK) (fun bV aV=>kS m (.pan bV) [aD,aE,aB,aC,aA] aV)) (fun aH aG=>kS m (.pan aH) [aD,aE,aB,aC,aA] aG)) (fun aH aG=>kS m (.pan aH) [aD,aE,aB,aC,aA] aG))) (fun aH aG=>kS m (.pan aH) [aD,aE,aB,aC,aA] aG))) (fun aH aG=>kS m (.pan aH) [aD,aE,aB,aC,aA] aG))) (fun aH aG=>kS m (.pan aH) [aD,aE,aB,aC,aA] aG))) (fun bU aU=>kS m (.pan bU) [aD,aE,aB,aC,aA] aU)) (kS m (.exit 0) [aD,aE,aB,aC,aA] aL)
def NK (K:lB) (m:Nat) (s:St):Option R :=
 BE s fun aD aE aF aB aC aA aG=>aq .lss aA aC ((kX 11 aB aA).bind fun aM=>(kT true 11 aG aM).bind fun aN=>kQ (lK 11 aG (.agg [(iq 0),(iq 0),(iq 0),(.str []),(iq 0),(iq 0),(iq 0),(.slice [] .nil),(.slice [] .nil),(.slice [] .nil),(.bool false)])) fun aI aK=>(kR 11 aK aI aN).bind fun aH=>(kT true 11 aH aI).bind fun aO=>fq 7 aE aH fun aP=>(mN aP).bind fun aQ=>(kV .sub aQ (iq 1)).bind fun aR=>(kV .eql aA aR).bind fun aS=>kU (Bv K 133 aD aO aS aH) (fun aX aJ=>fq 0 aI aJ fun aT=>(kV .eql aT (iq 8)).bind fun aU=>(kV .add aA (iq 1)).bind fun aV=>kS m .normal [aD,aE,aU,aB,aC,aV] aJ) (fun aW aL=>kS m (.pan aW) [aD,aE,aF,aB,aC,aA] aL)) (kS m (.exit 2) [aD,aE,aF,aB,aC,aA] aG)
def m92 (K:lB) (a0 a1:kM) (h0:kP):OH :=
 (kQ (lK 8 h0 a1) fun t2 h3=>(kZ a0).bind fun t6=>(kO 0 t6).bind fun t7=>(kT false 1 h3 t7).bind fun t8=>(kO 1 t2).bind fun t9=>(kT false 1 h3 t9).bind fun b9=>bif oL .string b9 then(q7 (.agg [(iq 0),(.str []),(.slice [] .nil),(.bool false),(iq 0),(iq 0),(iq 0),(.slice [] .nil),(iq 0)]) true h3 t8 b9).bind fun b_=>(lH 0 b_).bind fun cD=>(lH 1 b_).bind fun cE=>kQ (lK 9 h3 (.agg [(iq 0),(.str []),(.slice [] .nil),(.bool false),(iq 0),(iq 0),(iq 0),(.slice [] .nil),(iq 0)])) fun cF bY=>IE (kY [0,1,2] [t7,t9,t8]) h3 bY ((kR 9 bY cF cD).bind fun bZ=>(vT .not cE).bind fun cH=>fq 0 t2 bZ fun cI=>kU (Bv K 131 cH (iq 13) cI bZ) (fun cR aY=>(kT true 8 aY t2).bind fun cJ=>(fun(cK:kM) (bJ:kP)=>IE (kY [0] [t2]) aY bJ ((kZ a0).bind fun cL=>(kO 1 cL).bind fun cM=>(kR 1 bJ cM cK).bind fun b8=>IE (kY [0] [t2]) bJ b8 ((kZ a0).bind fun cN=>(kO 2 cN).bind fun cO=>(kR 8 b8 cO cJ).bind fun bK=>fq 2 t2 bK fun cA=>(mN cA).bind fun cP=>(mI (Ee K (aa0 bK)) ([a0,t2,cA,cP,(iq 0)],bK)).bind fun aS=>EB aS.2 fun aN aD aZ a_ bA aE=>Ex.lV aS.1 none (fun bE=>Ex.inBlock 0 bE (fq 7 aD aE fun aV=>(mN aV).bind fun bL=>(mI (NK K (aa0 aE)) ([aN,aD,(.bool false),aV,bL,(iq 0)],aE)).bind fun aT=>BE aT.2 fun aB aA aO bB bC bD aF=>Ex.lV aT.1 none (fun bG=>Ex.inBlock 2 bG (fq 3 aA aF fun bM=>(vT .not bM).bind fun aW=>(lQ false aW (nM aO aF) (nM (.tuple []) aF)).bind (nT (fun bN aP=>(lN aW (.bool true) bN).bind fun bO=>fq 0 aA aP fun bP=>kU (Bv K 131 bO (iq 14) bP aP) (fun cG aC=>(kZ aB).bind fun bQ=>(kO 0 bQ).bind fun aJ=>(kT false 1 aC aJ).bind fun bR=>(kO 1 aA).bind fun aK=>(kT false 1 aC aK).bind fun aX=>(kT true 8 aC aA).bind fun bS=>fq 7 aA aC fun bT=>kU (rR K 135 aB bT aC) (fun bU aI=>IE (kY [0,1,2] [aJ,aK,aA]) aC aI ((kV .add (iq 1) bU).bind fun bV=>kU (rR K 134 aB bV aI) (fun bW aQ=>IE (kY [0,1,2] [aJ,aK,aA]) aI aQ ((lS [(iq 0),(.str []),(.slice [] .nil),(.bool false),(iq 0),(iq 0),(iq 0),(.slice [] .nil),(iq 0)] [(0,8),(8,1)] [(0,bS),(1,bW)]).bind fun bX=>bif oL .string aX then(Ad aQ bR aX bX).bind fun bI=>some (.normal,([]:List kM),bI) else none)) (fun aM aH=>some ((.pan aM),([]:List kM),aH)))) (fun aM aH=>some ((.pan aM),([]:List kM),aH))) (fun aL aG=>some ((.pan aL),([]:List kM),aG))) (fun aL aG=>some ((.pan aL),([]:List kM),aG)))) (fun bH=>some (bH,([]:List kM),aF)))) (fun bF=>some (bF,([]:List kM),aE)))))) (.map (aa0 aY)) (aY++[.map []])) (fun cQ cB=>some ((.pan cQ),([]:List kM),cB))) else none).bind fun aU=>(fun aR=>Ex.uZ aU.1 (some (.ret (.tuple []),aR)) (fun v=>some (vG.pan v,aR)))  aU.2.2
theorem Sp K a0 a1 h0:o6 Tryz.prog mJ mI K 92 [a0,a1] h0=m92 (lT mJ K) a0 a1 h0:=by kernel_rfl
def Jo (K:lB) (m:Nat) (s:St):Option R :=
 BE s fun aD aE aF aB aC aA aS=>aq .lss aA aC ((kX 6 aB aA).bind fun bC=>(kT true 6 aS bC).bind fun bD=>kQ (lK 6 aS (.agg [(iq 0),(.str []),(iq 0),(iq 0),(iq 0),(.bool false)])) fun aO aX=>(kR 6 aX aO bD).bind fun aT=>(kO 2 aO).bind fun bE=>fq 0 bE aT fun bF=>(kV .neq bF (iq 1)).bind fun bG=>fq 0 aO aT fun bH=>kU (Bv K 131 bG (iq 17) bH aT) (fun bV aM=>fq 5 aO aM fun bI=>(lF bI ((kO 2 aO).bind fun bJ=>(kT true 3 aM bJ).bind fun bK=>kU (yK K 136 bK aM) (fun bL a_=>(kV .add aF bL).bind fun bM=>(Ho bM (iq 65537)).bind fun bN=>kS (aa0 aM) .normal [aD,aE,bN,aB,aC,aA] a_) (fun bT aZ=>kS (aa0 aM) (.pan bT) [aD,aE,aF,aB,aC,aA] aZ)) ((kO 2 aO).bind fun bO=>(kT true 3 aM bO).bind fun bP=>kU (yK K 136 bP aM) (fun bQ bB=>(kV .add aE bQ).bind fun bR=>(Ho bR (iq 65537)).bind fun aU=>kS (aa0 aM) .normal [aD,aU,aF,aB,aC,aA] bB) (fun bU bA=>kS (aa0 aM) (.pan bU) [aD,aE,aF,aB,aC,aA] bA))).bind fun aP=>BE aP.2 fun aJ aK aL aG aH aI aN=>Ex.lV aP.1 ((kV .add aI (iq 1)).bind fun aV=>kS m .normal [aJ,aK,aL,aG,aH,aV] aN) (fun aQ=>Ex.inBlock 1 aQ ((kV .add aI (iq 1)).bind fun aW=>kS m .normal [aJ,aK,aL,aG,aH,aW] aN) (fun aR=>kS m aR [aJ,aK,aL,aG,aH,aI] aN))) (fun bS aY=>kS m (.pan bS) [aD,aE,aF,aB,aC,aA] aY)) (kS m (.exit 0) [aD,aE,aF,aB,aC,aA] aS)
def m93 (K:lB) (a0 a1:kM) (h0:kP):OH :=
 ((mN a1).bind fun t2=>(kV .gtr t2 (iq 0)).bind fun t3=>(lQ true t3 (nM a1 h0) (nM (.tuple []) h0)).bind (nT (fun t4 h5=>(lQ true t3 (nM a1 h5) (nM (.tuple []) h5)).bind (nT (fun t6 h7=>(lQ true t3 ((mN t6).bind fun t8=>nM t8 h7) (nM (.tuple []) h7)).bind (nT (fun t9 bA=>(lQ true t3 ((kV .sub t9 (iq 1)).bind fun bJ=>nM bJ bA) (nM (.tuple []) bA)).bind (nT (fun bK bB=>(lQ true t3 ((kX 8 t4 bK).bind fun bM=>nM bM bB) (nM (.tuple []) bB)).bind (nT (fun bN bC=>(lQ true t3 ((kO 1 bN).bind fun bO=>nM bO bC) (nM (.tuple []) bC)).bind (nT (fun bP aT=>(lQ true t3 ((kT false 1 aT bP).bind fun bQ=>nM bQ aT) (nM (.tuple []) aT)).bind (nT (fun bR bD=>(lQ true t3 ((kV .eql bR (.str [109,97,105,110])).bind fun bS=>nM bS bD) (nM (.tuple []) bD)).bind (nT (fun bT bG=>(lN t3 bT (.bool false)).bind fun bU=>kU (Bv K 131 bU (iq 17) (iq 0) bG) (fun cB bE=>(mN a1).bind fun bV=>(kV .sub bV (iq 1)).bind fun bW=>(kX 8 a1 bW).bind fun bX=>(kT true 8 bE bX).bind fun bY=>kQ (lK 8 bE (.agg [(iq 0),(.str []),(.slice [] .nil),(.bool false),(iq 0),(iq 0),(iq 0),(.slice [] .nil)])) fun aM bH=>(kR 8 bH aM bY).bind fun aU=>fq 3 aM aU fun bZ=>(vT .not bZ).bind fun b8=>fq 0 aM aU fun b9=>kU (Bv K 131 b8 (iq 17) b9 aU) (fun cD aV=>fq 2 aM aV fun bF=>(mN bF).bind fun b_=>(mI (Jo K (aa0 aV)) ([aM,(iq 0),(iq 0),bF,b_,(iq 0)],aV)).bind fun aK=>BE aK.2 fun aE aF aG aN aO aP aC=>Ex.lV aK.1 none (fun aQ=>Ex.inBlock 0 aQ ((kV .leq aF (iq 65536)).bind fun aD=>(lQ true aD (nM aG aC) (nM (.tuple []) aC)).bind (nT (fun aW aH=>(lQ true aD ((kV .leq aW (iq 65536)).bind fun aX=>nM aX aH) (nM (.tuple []) aH)).bind (nT (fun aY aI=>(lN aD aY (.bool false)).bind fun aZ=>fq 0 aE aI fun a_=>kU (Bv K 131 aZ (iq 18) a_ aI) (fun bL aS=>some (.normal,([]:List kM),aS)) (fun aB aA=>some ((.pan aB),([]:List kM),aA))) (fun aB aA=>some ((.pan aB),([]:List kM),aA)))) (fun aB aA=>some ((.pan aB),([]:List kM),aA)))) (fun aR=>some (aR,([]:List kM),aC)))) (fun cA bI=>some ((.pan cA),([]:List kM),bI))) (fun v0 h1=>some ((.pan v0),([]:List kM),h1))) (fun v0 h1=>some ((.pan v0),([]:List kM),h1)))) (fun v0 h1=>some ((.pan v0),([]:List kM),h1)))) (fun v0 h1=>some ((.pan v0),([]:List kM),h1)))) (fun v0 h1=>some ((.pan v0),([]:List kM),h1)))) (fun v0 h1=>some ((.pan v0),([]:List kM),h1)))) (fun v0 h1=>some ((.pan v0),([]:List kM),h1)))) (fun v0 h1=>some ((.pan v0),([]:List kM),h1)))) (fun v0 h1=>some ((.pan v0),([]:List kM),h1)))).bind fun aL=>(fun aJ=>Ex.uZ aL.1 (lY (aa0 h0) (.tuple []) aJ) (fun v=>rE (aa0 h0) v aJ))  aL.2.2
theorem aBz K a0 a1 h0:o6 Tryz.prog mJ mI K 93 [a0,a1] h0=m93 (lT mJ K) a0 a1 h0:=by kernel_rfl
def ah2 (K:lB) (a0 a1 a2:kM) (h0:kP):OH :=
 ((vT .not a0).bind fun t2=>lF t2 ((lS [(iq 0),(iq 0)] [(0,1),(1,1)] [(0,a1),(1,a2)]).bind fun t5=>(lS [(iq 0),(iq 0)] [(0,2)] [(0,t5)]).bind fun t6=>EM (.iface 141 t6) h0 (fun v3 h4=>some ((.pan v3),([]:List kM),h4))) (some (.normal,([]:List kM),h0))).bind fun r7=>(fun h8=>Ex.uZ r7.1 (lY (aa0 h0) (.tuple []) h8) (fun v=>rE (aa0 h0) v h8))  r7.2.2
theorem Zf K a0 a1 a2 h0:o6 Tryz.prog mJ mI K 131 [a0,a1,a2] h0=ah2 (lT mJ K) a0 a1 a2 h0:=by kernel_rfl
def aAo (K:lB) (a0 a1 a2 a3:kM) (h0:kP):OH :=
 (kQ (lK 4 h0 a2) fun t2 h3=>(kZ a0).bind fun t6=>fq 1 t6 h3 fun t8=>bif oL .string a1 then(q7 (.agg [(iq 0),(iq 0),(iq 0),(.bool false)]) true h3 t8 a1).bind fun t9=>(lH 0 t9).bind fun aH=>(lH 1 t9).bind fun aI=>kQ (lK 4 h3 (.agg [(iq 0),(iq 0),(iq 0),(.bool false)])) fun aJ aD=>(kR 4 aD aJ aH).bind fun aE=>(vT .not aI).bind fun aK=>kU (Bv K 131 aK (iq 13) a3 aE) (fun aP aA=>(kZ a0).bind fun aL=>fq 1 aL aA fun aM=>(kT true 4 aA t2).bind fun aN=>bif oL .string a1 then(Ad aA aM a1 aN).bind fun aG=>some (.normal,([]:List kM),aG) else none) (fun aO aF=>some ((.pan aO),([]:List kM),aF)) else none).bind fun aC=>(fun aB=>Ex.uZ aC.1 (lY (aa0 h0) (.tuple []) aB) (fun v=>rE (aa0 h0) v aB))  aC.2.2
theorem aqR K a0 a1 a2 a3 h0:o6 Tryz.prog mJ mI K 132 [a0,a1,a2,a3] h0=aAo (lT mJ K) a0 a1 a2 a3 h0:=by kernel_rfl
def z8 (K:lB) (a0 a1 a2:kM) (h0:kP):OH :=
 (kQ (lK 11 h0 a1) fun t2 h3=>fq 0 t2 h3 fun t7=>(kV .eql t7 (iq 1)).bind fun iP=>(lF iP ((kO 3 t2).bind fun cE=>(kT false 1 h3 cE).bind fun iT=>fq 7 t2 h3 fun iX=>(kX 5 iX (iq 0)).bind fun iZ=>(kT true 5 h3 iZ).bind fun jA=>(kO 1 t2).bind fun cF=>(kT false 1 h3 cF).bind fun jD=>kU (rR K 164 a0 jA (nL (kY [0,1] [cE,cF]) h3)) (fun jE iE=>(lS [(iq 0),(iq 0),(iq 0),(.bool false)] [(0,3),(3,1)] [(0,jE),(1,(.bool true))]).bind fun jG=>kU (uk4 K 132 a0 iT jG jD (lP (kY [0,1] [cE,cF]) h3 iE)) (fun t24 iF=>kS (aa0 h3) .normal ([]:List kM) iF) (fun gV cQ=>kS (aa0 h3) (.pan gV) ([]:List kM) cQ)) (fun v h'=>(fun gV cQ=>kS (aa0 h3) (.pan gV) ([]:List kM) cQ) v (lP (kY [0,1] [cE,cF]) h3 h'))) ((kV .eql t7 (iq 2)).bind fun jI=>(lF jI (fq 3 t2 h3 fun jK=>(kO 4 t2).bind fun jL=>(kT true 3 h3 jL).bind fun jM=>(lS [(iq 0),(iq 0),(iq 0),(.bool false)] [(0,3),(3,1)] [(0,jM),(1,(.bool false))]).bind fun jN=>fq 1 t2 h3 fun jO=>kU (uk4 K 132 a0 jK jN jO h3) (fun t38 dI=>(kO 4 t2).bind fun jP=>fq 1 jP dI fun jQ=>(kV .leq jQ (iq 16384)).bind fun jR=>fq 1 t2 dI fun jS=>kU (Bv K 131 jR (iq 18) jS dI) (fun t48 iI=>kS (aa0 h3) .normal ([]:List kM) iI) (fun kJ iH=>kS (aa0 h3) (.pan kJ) ([]:List kM) iH)) (fun kI iG=>kS (aa0 h3) (.pan kI) ([]:List kM) iG)) ((kV .eql t7 (iq 3)).bind fun jT=>(lF jT (fq 7 t2 h3 fun jU=>(kX 5 jU (iq 0)).bind fun jV=>(kT true 5 h3 jV).bind fun jW=>kU (rR K 164 a0 jW h3) (fun jX iK=>kQ (lK 3 iK (.agg [(iq 0),(iq 0),(iq 0)])) fun gU iL=>(kR 3 iL gU jX).bind fun dJ=>fq 3 t2 dJ fun jY=>fq 1 t2 dJ fun jZ=>kU (Bv K 165 a0 jY jZ dJ) (fun j4 iN=>kQ (lK 4 iN (.agg [(iq 0),(iq 0),(iq 0),(.bool false)])) fun cD iO=>(kR 4 iO cD j4).bind fun dK=>(kO 0 cD).bind fun j5=>fq 1 j5 dK fun j6=>(kV .eql j6 (iq 0)).bind fun cG=>(lQ true cG ((kO 3 cD).bind fun j7=>nM j7 dK) (nM (.tuple []) dK)).bind (nT (fun j8 dL=>(lQ true cG ((kT false 1 dL j8).bind fun j9=>nM j9 dL) (nM (.tuple []) dL)).bind (nT (fun j_ iA=>(lQ true cG ((vT .not j_).bind fun kA=>nM kA iA) (nM (.tuple []) iA)).bind (nT (fun kB iB=>(lN cG kB (.bool false)).bind fun aU=>(lQ true aU ((kO 0 cD).bind fun kC=>nM kC iB) (nM (.tuple []) iB)).bind (nT (fun kD iC=>(lQ true aU ((kO 0 kD).bind fun kE=>nM kE iC) (nM (.tuple []) iC)).bind (nT (fun kF dM=>(lQ true aU ((kT false 1 dM kF).bind fun kG=>nM kG dM) (nM (.tuple []) dM)).bind (nT (fun kH iD=>(lQ true aU ((kO 0 gU).bind fun dN=>nM dN iD) (nM (.tuple []) iD)).bind (nT (fun dO aJ=>(lQ true aU ((kT false 1 aJ dO).bind fun dP=>nM dP aJ) (nM (.tuple []) aJ)).bind (nT (fun dQ aX=>(lQ true aU ((kV .eql kH dQ).bind fun dR=>nM dR aX) (nM (.tuple []) aX)).bind (nT (fun dU aY=>(lN aU dU (.bool false)).bind fun dV=>fq 1 t2 aY fun dW=>kU (Bv K 131 dV (iq 14) dW aY) (fun iQ aF=>fq 2 gU aF fun dX=>(kO 0 cD).bind fun dY=>fq 2 dY aF fun dZ=>(kO 1 t2).bind fun aH=>(kT false 1 aF aH).bind fun d_=>kU (rR K 166 dX dZ (nL (kY [0] [aH]) aF)) (fun eA cR=>kU (Bv K 131 eA (iq 15) d_ (lP (kY [0] [aH]) aF cR)) (fun iR cS=>kS (aa0 h3) .normal ([]:List kM) cS) (fun aV aK=>kS (aa0 h3) (.pan aV) ([]:List kM) aK)) (fun v h'=>(fun aV aK=>kS (aa0 h3) (.pan aV) ([]:List kM) aK) v (lP (kY [0] [aH]) aF h'))) (fun aE aD=>kS (aa0 h3) (.pan aE) ([]:List kM) aD)) (fun aE aD=>kS (aa0 h3) (.pan aE) ([]:List kM) aD))) (fun aE aD=>kS (aa0 h3) (.pan aE) ([]:List kM) aD))) (fun aE aD=>kS (aa0 h3) (.pan aE) ([]:List kM) aD))) (fun aE aD=>kS (aa0 h3) (.pan aE) ([]:List kM) aD))) (fun aE aD=>kS (aa0 h3) (.pan aE) ([]:List kM) aD))) (fun aE aD=>kS (aa0 h3) (.pan aE) ([]:List kM) aD))) (fun aE aD=>kS (aa0 h3) (.pan aE) ([]:List kM) aD))) (fun aE aD=>kS (aa0 h3) (.pan aE) ([]:List kM) aD))) (fun aE aD=>kS (aa0 h3) (.pan aE) ([]:List kM) aD))) (fun kL iM=>kS (aa0 h3) (.pan kL) ([]:List kM) iM)) (fun kK iJ=>kS (aa0 h3) (.pan kK) ([]:List kM) iJ)) ((kV .eql t7 (iq 4)).bind fun eB=>(lF eB ((kT true 11 h3 t2).bind fun eC=>kU (rR K 167 a0 eC h3) (fun iS cU=>kS (aa0 h3) .normal ([]:List kM) cU) (fun gW cT=>kS (aa0 h3) (.pan gW) ([]:List kM) cT)) ((kV .eql t7 (iq 5)).bind fun eD=>(lF eD (fq 7 t2 h3 fun eE=>(kX 5 eE (iq 0)).bind fun eF=>(kT true 5 h3 eF).bind fun eG=>kU (Bv K 168 a0 eG (iq 1) h3) (fun iU aZ=>fq 8 t2 aZ fun eH=>kU (rR K 169 a0 eH aZ) (fun iV a_=>fq 9 t2 a_ fun eI=>kU (rR K 169 a0 eI a_) (fun iW cY=>kS (aa0 h3) .normal ([]:List kM) cY) (fun gZ cX=>kS (aa0 h3) (.pan gZ) ([]:List kM) cX)) (fun gY cW=>kS (aa0 h3) (.pan gY) ([]:List kM) cW)) (fun gX cV=>kS (aa0 h3) (.pan gX) ([]:List kM) cV)) ((kV .eql t7 (iq 6)).bind fun eJ=>(lF eJ (fq 7 t2 h3 fun eK=>(kX 5 eK (iq 0)).bind fun eL=>(kT true 5 h3 eL).bind fun eM=>kU (Bv K 168 a0 eM (iq 0) h3) (fun iY aL=>fq 3 t2 aL fun eN=>(lS [(iq 0),(iq 0),(iq 0)] [(0,1),(1,1),(2,1)] []).bind fun eO=>(lS [(iq 0),(iq 0),(iq 0),(.bool false)] [(0,3),(3,1)] [(0,eO),(1,(.bool true))]).bind fun eP=>fq 1 t2 aL fun eQ=>kU (uk4 K 132 a0 eN eP eQ aL) (fun i_ aM=>fq 2 t2 aM fun eR=>(kV .leq eR (iq 65536)).bind fun eS=>fq 1 t2 aM fun eT=>kU (Bv K 131 eS (iq 18) eT aM) (fun jB bA=>fq 8 t2 bA fun eU=>kU (rR K 169 a0 eU bA) (fun jC aN=>(kZ a0).bind fun eV=>fq 1 eV aN fun eX=>fq 3 t2 aN fun cB=>bif oL .string cB then(DZ aN eX cB).bind fun dA=>kS (aa0 h3) .normal ([]:List kM) dA else none) (fun hO c_=>kS (aa0 h3) (.pan hO) ([]:List kM) c_)) (fun hI c7=>kS (aa0 h3) (.pan hI) ([]:List kM) c7)) (fun hD c6=>kS (aa0 h3) (.pan hD) ([]:List kM) c6)) (fun g_ cZ=>kS (aa0 h3) (.pan g_) ([]:List kM) cZ)) ((kV .eql t7 (iq 7)).bind fun eY=>(lF eY (fq 7 t2 h3 fun eZ=>(kX 5 eZ (iq 0)).bind fun e_=>(kT true 5 h3 e_).bind fun fB=>kU (rR K 170 a0 fB h3) (fun jF dC=>kS (aa0 h3) .normal ([]:List kM) dC) (fun hQ dB=>kS (aa0 h3) (.pan hQ) ([]:List kM) dB)) ((kV .eql t7 (iq 8)).bind fun fC=>(lF fC (fq 7 t2 h3 fun fD=>(kX 5 fD (iq 0)).bind fun fE=>(kT true 5 h3 fE).bind fun fF=>kU (rR K 164 a0 fF h3) (fun fH dE=>kQ (lK 3 dE (.agg [(iq 0),(iq 0),(iq 0)])) fun aT dF=>(kR 3 dF aT fH).bind fun bB=>(lQ true a2 (nM a0 bB) (nM (.tuple []) bB)).bind (nT (fun fI bC=>(lQ true a2 ((kZ fI).bind fun fJ=>nM fJ bC) (nM (.tuple []) bC)).bind (nT (fun fK bD=>(lQ true a2 ((kO 2 fK).bind fun fL=>nM fL bD) (nM (.tuple []) bD)).bind (nT (fun fM bE=>(lQ true a2 ((kO 3 fM).bind fun fN=>nM fN bE) (nM (.tuple []) bE)).bind (nT (fun fO aO=>(lQ true a2 ((kT false 1 aO fO).bind fun fQ=>nM fQ aO) (nM (.tuple []) aO)).bind (nT (fun fR bF=>(lN a2 fR (.bool false)).bind fun aC=>(lQ true aC ((kO 0 aT).bind fun fS=>nM fS bF) (nM (.tuple []) bF)).bind (nT (fun fU aP=>(lQ true aC ((kT false 1 aP fU).bind fun fV=>nM fV aP) (nM (.tuple []) aP)).bind (nT (fun fX bG=>(lQ true aC (nM a0 bG) (nM (.tuple []) bG)).bind (nT (fun fY bH=>(lQ true aC ((kZ fY).bind fun fZ=>nM fZ bH) (nM (.tuple []) bH)).bind (nT (fun f_ bI=>(lQ true aC ((kO 2 f_).bind fun gA=>nM gA bI) (nM (.tuple []) bI)).bind (nT (fun gB bJ=>(lQ true aC ((kO 4 gB).bind fun gC=>nM gC bJ) (nM (.tuple []) bJ)).bind (nT (fun gD bK=>(lQ true aC ((kO 0 gD).bind fun gE=>nM gE bK) (nM (.tuple []) bK)).bind (nT (fun gF aQ=>(lQ true aC ((kT false 1 aQ gF).bind fun gG=>nM gG aQ) (nM (.tuple []) aQ)).bind (nT (fun gH bL=>(lQ true aC ((kV .eql fX gH).bind fun gI=>nM gI bL) (nM (.tuple []) bL)).bind (nT (fun gJ bM=>(lN aC gJ (.bool false)).bind fun gK=>fq 1 t2 bM fun gL=>kU (Bv K 131 gK (iq 14) gL bM) (fun jH aG=>fq 2 aT aG fun gM=>(kZ a0).bind fun gN=>(kO 2 gN).bind fun gO=>(kO 4 gO).bind fun gP=>fq 2 gP aG fun gQ=>(kO 1 t2).bind fun aI=>(kT false 1 aG aI).bind fun gR=>kU (rR K 166 gM gQ (nL (kY [0] [aI]) aG)) (fun gT dG=>kU (Bv K 131 gT (iq 15) gR (lP (kY [0] [aI]) aG dG)) (fun jJ dH=>kS (aa0 h3) .normal ([]:List kM) dH) (fun aW aR=>kS (aa0 h3) (.pan aW) ([]:List kM) aR)) (fun v h'=>(fun aW aR=>kS (aa0 h3) (.pan aW) ([]:List kM) aR) v (lP (kY [0] [aI]) aG h'))) (fun aB aA=>kS (aa0 h3) (.pan aB) ([]:List kM) aA)) (fun aB aA=>kS (aa0 h3) (.pan aB) ([]:List kM) aA))) (fun aB aA=>kS (aa0 h3) (.pan aB) ([]:List kM) aA))) (fun aB aA=>kS (aa0 h3) (.pan aB) ([]:List kM) aA))) (fun aB aA=>kS (aa0 h3) (.pan aB) ([]:List kM) aA))) (fun aB aA=>kS (aa0 h3) (.pan aB) ([]:List kM) aA))) (fun aB aA=>kS (aa0 h3) (.pan aB) ([]:List kM) aA))) (fun aB aA=>kS (aa0 h3) (.pan aB) ([]:List kM) aA))) (fun aB aA=>kS (aa0 h3) (.pan aB) ([]:List kM) aA))) (fun aB aA=>kS (aa0 h3) (.pan aB) ([]:List kM) aA))) (fun aB aA=>kS (aa0 h3) (.pan aB) ([]:List kM) aA))) (fun aB aA=>kS (aa0 h3) (.pan aB) ([]:List kM) aA))) (fun aB aA=>kS (aa0 h3) (.pan aB) ([]:List kM) aA))) (fun aB aA=>kS (aa0 h3) (.pan aB) ([]:List kM) aA))) (fun aB aA=>kS (aa0 h3) (.pan aB) ([]:List kM) aA))) (fun h_ dD=>kS (aa0 h3) (.pan h_) ([]:List kM) dD)) (kS (aa0 h3) .normal ([]:List kM) h3)).bind fun bV=>(fun bN=>Ex.lV bV.1 (kS (aa0 h3) .normal ([]:List kM) bN) (fun cH=>kS (aa0 h3) cH ([]:List kM) bN))  bV.2.2)).bind fun bW=>(fun bO=>Ex.lV bW.1 (kS (aa0 h3) .normal ([]:List kM) bO) (fun cI=>kS (aa0 h3) cI ([]:List kM) bO))  bW.2.2)).bind fun bX=>(fun bP=>Ex.lV bX.1 (kS (aa0 h3) .normal ([]:List kM) bP) (fun cJ=>kS (aa0 h3) cJ ([]:List kM) bP))  bX.2.2)).bind fun bY=>(fun bQ=>Ex.lV bY.1 (kS (aa0 h3) .normal ([]:List kM) bQ) (fun cK=>kS (aa0 h3) cK ([]:List kM) bQ))  bY.2.2)).bind fun bZ=>(fun bR=>Ex.lV bZ.1 (kS (aa0 h3) .normal ([]:List kM) bR) (fun cL=>kS (aa0 h3) cL ([]:List kM) bR))  bZ.2.2)).bind fun b8=>(fun bS=>Ex.lV b8.1 (kS (aa0 h3) .normal ([]:List kM) bS) (fun cM=>kS (aa0 h3) cM ([]:List kM) bS))  b8.2.2)).bind fun b9=>(fun bT=>Ex.lV b9.1 (kS (aa0 h3) .normal ([]:List kM) bT) (fun cN=>kS (aa0 h3) cN ([]:List kM) bT))  b9.2.2)).bind fun b_=>(fun aS=>Ex.lV b_.1 (some (.normal,([]:List kM),aS)) (fun cO=>Ex.inBlock 0 cO (some (.normal,([]:List kM),aS)) (fun cP=>some (cP,([]:List kM),aS))))  b_.2.2).bind fun cA=>(fun bU=>Ex.uZ cA.1 (lY (aa0 h0) (.tuple []) bU) (fun v=>rE (aa0 h0) v bU))  cA.2.2
theorem wV K a0 a1 a2 h0:o6 Tryz.prog mJ mI K 133 [a0,a1,a2] h0=z8 (lT mJ K) a0 a1 a2 h0:=by kernel_rfl
def aFm (K:lB) (a0 a1:kM) (h0:kP):OH :=
 ((Ho a1 (iq 65537)).bind fun t0=>some (.ret,[t0],h0)).bind fun r1=>sM r1.2 fun aA h3=>Ex.nA r1.1 (lY (aa0 h0) aA h3)
theorem aqS K a0 a1 h0:o6 Tryz.prog mJ mI K 134 [a0,a1] h0=aFm (lT mJ K) a0 a1 h0:=by kernel_rfl
def HU (K:lB) (m:Nat) (s:St):Option R :=
 BE s fun aC aI aM aE aB aA h7=>aq .lss aA aB ((kX 11 aE aA).bind fun t9=>(kT true 11 h7 t9).bind fun a_=>kQ (lK 11 h7 (.agg [(iq 0),(iq 0),(iq 0),(.str []),(iq 0),(iq 0),(iq 0),(.slice [] .nil),(.slice [] .nil),(.slice [] .nil),(.bool false)])) fun aF aX=>(kR 11 aX aF a_).bind fun aK=>fq 7 aF aK fun bA=>(kO 4 aF).bind fun bB=>(kO 1 bB).bind fun aR=>(kT false 1 aK aR).bind fun bC=>o_ K 171 aC bA (nL (kY [0] [aR]) aK) fun bD aS=>(kV .add (iq 1) bD).bind fun bE=>(kV .add bE bC).bind fun bF=>(kV .add aM bF).bind fun aV=>(kO 8 aF).bind fun bG=>(kT false 1 (lP (kY [0] [aR]) aK aS) bG).bind fun bH=>o_ K 135 aC bH (lP (kY [0] [aR]) aK aS) fun aW aJ=>fq 0 aF aJ fun bI=>(kV .eql bI (iq 6)).bind fun bJ=>(lF bJ (fq 2 aF aJ fun bK=>(kV .add bK (iq 1)).bind fun bL=>(kV .add (iq 1) aW).bind fun bM=>(kV .mul bL bM).bind fun bN=>kS (aa0 aJ) .normal [aC,aI,aV,aF,bN,aE,aB,aA] aJ) (kS (aa0 aJ) .normal [aC,aI,aV,aF,aW,aE,aB,aA] aJ)).bind fun aU=>uq8 aU.2 fun aD aL aN aO aP aQ aG aH aT=>Ex.uC aU.1 ((kV .add aN aP).bind fun bO=>fq 9 aO aT fun bP=>o_ K 135 aD bP aT fun bQ aY=>(kV .add bO bQ).bind fun bR=>o_ K 134 aD bR aY fun bS aZ=>(kV .add aH (iq 1)).bind fun bT=>kS m .normal [aD,aL,bS,aQ,aG,bT] aZ)) (kS m (.exit 0) [aC,aI,aM,aE,aB,aA] h7)
def aAp (K:lB) (a0 a1:kM) (h0:kP):OH :=
 ((mN a1).bind fun t0=>(mI (HU K (aa0 h0)) ([a0,(iq 0),(iq 0),a1,t0,(iq 0)],h0)).bind fun aG=>BE aG.2 fun aI aA aC aJ aD aE aF=>Ex.lV aG.1 none (fun aK=>Ex.inBlock 0 aK (some (.ret,[aC],aF)) (fun aL=>some (aL,[aA],aF)))).bind fun aH=>sM aH.2 fun aB aM=>Ex.nA aH.1 (lY (aa0 h0) aB aM)
theorem Zg K a0 a1 h0:o6 Tryz.prog mJ mI K 135 [a0,a1] h0=aAp (lT mJ K) a0 a1 h0:=by kernel_rfl
def aqT (K:lB) (a0:kM) (h0:kP):OH :=
 (kQ (lK 3 h0 a0) fun t0 h1=>fq 1 t0 h1 fun t3=>aq .eql t3 (iq 0) (some (.ret,[(iq 4)],h1)) (fq 0 t0 h1 fun t6=>aq .eql t6 (iq 2) (fq 1 t0 h1 fun t9=>(kV .add t9 (iq 3)).bind fun aD=>(kV .quo aD (iq 4)).bind fun aE=>(kV .mul aE (iq 4)).bind fun aF=>some (.ret,[aF],h1)) (fq 1 t0 h1 fun aG=>(kV .mul (iq 4) aG).bind fun aH=>some (.ret,[aH],h1)))).bind fun aB=>sM aB.2 fun aA aC=>Ex.nA aB.1 (lY (aa0 h0) aA aC)
theorem aqU K a0 h0:o6 Tryz.prog mJ mI K 136 [a0] h0=aqT (lT mJ K) a0 h0:=by kernel_rfl
def FH (K:lB) (m:Nat) (s:St):Option R :=
 uq8 s fun aE aF aG aD aH aB aC aA aI=>aq .lss aA aC ((kX 5 aB aA).bind fun aU=>(kT true 5 aI aU).bind fun aV=>kQ (lK 5 aI (.agg [(iq 0),(iq 0),(iq 0),(.str []),(.slice [] .nil)])) fun aN aO=>(kR 5 aO aN aV).bind fun aL=>(kT true 5 aL aN).bind fun aW=>kU (rR K 164 aE aW aL) (fun aX aQ=>kQ (lK 3 aQ (.agg [(iq 0),(iq 0),(iq 0)])) fun aK aR=>(kR 3 aR aK aX).bind fun aJ=>fq 2 aD aJ fun aY=>fq 2 aK aJ fun aZ=>(CS aY aZ).bind fun a_=>(kO 2 aD).bind fun bA=>(kR 1 aJ bA a_).bind fun aM=>fq 0 aK aM fun bB=>kQ (kW 1 1 [(iq 0)] [(0,bB)] aM) fun bC aS=>kQ (mG 1 8 aS aH bC) fun bD aT=>(kV .add aA (iq 1)).bind fun bE=>kS m .normal [aE,aF,aG,aD,bD,aB,aC,bE] aT) (fun bF aP=>kS m (.pan bF) [aE,aF,aG,aD,aH,aB,aC,aA] aP)) (kS m (.exit 1) [aE,aF,aG,aD,aH,aB,aC,aA] aI)
def Nx (K:lB) (a0 a1:kM) (h0:kP):OH :=
 (kQ (lK 5 h0 a1) fun t2 h3=>kQ (lK 3 h3 (.agg [(iq 0),(iq 0),(iq 0)])) fun t4 h5=>fq 0 t2 h5 fun t9=>aq .eql t9 (iq 1) ((lS [(iq 0),(iq 0),(iq 0)] [(0,1),(1,1),(2,1)] []).bind fun cH=>(kR 3 h5 t4 cH).bind fun bU=>some (.ret,[t4],bU)) (aq .eql t9 (iq 2) (fq 3 t2 h5 fun cK=>fq 1 t2 h5 fun cL=>kU (Bv K 165 a0 cK cL h5) (fun cM bW=>kQ (lK 4 bW (.agg [(iq 0),(iq 0),(iq 0),(.bool false)])) fun bK bX=>(kR 4 bX bK cM).bind fun aX=>(kO 0 bK).bind fun cN=>fq 1 cN aX fun cO=>(kV .eql cO (iq 0)).bind fun cP=>fq 1 t2 aX fun cQ=>kU (Bv K 131 cP (iq 14) cQ aX) (fun dM bQ=>(kO 0 bK).bind fun cR=>(kT true 3 bQ cR).bind fun cS=>(kR 3 bQ t4 cS).bind fun bZ=>some (.ret,[t4],bZ)) (fun dI bY=>some ((.pan dI),[t4],bY))) (fun dH bV=>some ((.pan dH),[t4],bV))) (aq .eql t9 (iq 3) (fq 3 t2 h5 fun cT=>fq 4 t2 h5 fun cU=>(kX 5 cU (iq 0)).bind fun cV=>(kT true 5 h5 cV).bind fun cW=>fq 1 t2 h5 fun cX=>kU (uk4 K 195 a0 cT cW cX h5) (fun cY b9=>(sP true 3 0 cY).bind fun cZ=>(sP false 1 2 cZ).bind fun c6=>(lS [(iq 0),(iq 0),(iq 0)] [(0,1),(1,1),(2,1)] [(2,c6)]).bind fun c7=>(kR 3 b9 t4 c7).bind fun b_=>some (.ret,[t4],b_)) (fun dJ b8=>some ((.pan dJ),[t4],b8))) (aq .eql t9 (iq 4) ((kT true 5 h5 t2).bind fun c_=>kU (rR K 170 a0 c_ h5) (fun dA cB=>kQ (lK 8 cB (.agg [(iq 0),(.str []),(.slice [] .nil),(.bool false),(iq 0),(iq 0),(iq 0),(.slice [] .nil)])) fun bL cD=>(kR 8 cD bL dA).bind fun aY=>fq 3 bL aY fun dB=>fq 1 t2 aY fun dC=>kU (Bv K 131 dB (iq 14) dC aY) (fun dN bR=>(kO 4 bL).bind fun dD=>(kT true 3 bR dD).bind fun dE=>(kR 3 bR t4 dE).bind fun cF=>some (.ret,[t4],cF)) (fun dL cE=>some ((.pan dL),[t4],cE))) (fun dK cA=>some ((.pan dK),[t4],cA))) ((lS [(iq 0),(iq 0),(iq 0)] [(0,1),(1,1),(2,1)] []).bind fun dF=>kQ (lK 3 h5 (.agg [(iq 0),(iq 0),(iq 0)])) fun bT cG=>(kR 3 cG bT dF).bind fun bS=>(fun(dG:kM) (aZ:kP)=>fq 4 t2 aZ fun aL=>(mN aL).bind fun a_=>(mI (FH K (aa0 aZ)) ([a0,t2,t4,bT,dG,aL,a_,(iq 0)],aZ)).bind fun Vj=>uq8 Vj.2 fun bP aB aA aC aH aN aO aP aD=>Ex.lV Vj.1 none (fun aQ=>Ex.inBlock 1 aQ (fq 0 aB aD fun bA=>kU (rR K 196 bA aH aD) (fun aM aI=>(lH 0 aM).bind fun bB=>(lH 1 aM).bind fun bC=>fq 1 aB aI fun bD=>kU (Bv K 131 bC (iq 14) bD aI) (fun cI aE=>fq 2 aB aE fun bE=>(kV .lss bE (iq 32)).bind fun bF=>fq 1 aB aE fun bG=>kU (Bv K 131 bF (iq 18) bG aE) (fun cJ aV=>(kO 0 aC).bind fun bH=>(kR 1 aV bH bB).bind fun aJ=>(kT true 3 aJ aC).bind fun bI=>(kR 3 aJ aA bI).bind fun aW=>some (.ret,[aA],aW)) (fun bO aU=>some ((.pan bO),[aA],aU))) (fun bN aT=>some ((.pan bN),[aA],aT))) (fun bM aS=>some ((.pan bM),[aA],aS))) (fun aR=>some (aR,[aA],aD)))) (.slice [] (.own (aa0 bS))) (bS++[.front 0 0])))))).bind fun aK=>sM aK.2 fun aG aF=>Ex.uZ aK.1 ((kT true 3 aF aG).bind fun bJ=>lY (aa0 h0) bJ aF) (fun v=>rE (aa0 h0) v aF)
theorem arF K a0 a1 h0:o6 Tryz.prog mJ mI K 164 [a0,a1] h0=Nx (lT mJ K) a0 a1 h0:=by kernel_rfl
def aAz (K:lB) (a0 a1 a2:kM) (h0:kP):OH :=
 (kQ (lK 4 h0 (.agg [(iq 0),(iq 0),(iq 0),(.bool false)])) fun t2 h3=>(kZ a0).bind fun t6=>fq 1 t6 h3 fun t8=>bif oL .string a1 then(q7 (.agg [(iq 0),(iq 0),(iq 0),(.bool false)]) true h3 t8 a1).bind fun t9=>(lH 0 t9).bind fun aJ=>(lH 1 t9).bind fun aK=>kQ (lK 4 h3 (.agg [(iq 0),(iq 0),(iq 0),(.bool false)])) fun aE aF=>(kR 4 aF aE aJ).bind fun aG=>kU (Bv K 131 aK (iq 12) a2 aG) (fun aO aC=>(kT true 4 aC aE).bind fun aL=>(kR 4 aC t2 aL).bind fun aI=>some (.ret,[t2],aI)) (fun aN aH=>some ((.pan aN),[t2],aH)) else none).bind fun aD=>sM aD.2 fun aA aB=>Ex.uZ aD.1 ((kT true 4 aB aA).bind fun aM=>lY (aa0 h0) aM aB) (fun v=>rE (aa0 h0) v aB)
theorem arG K a0 a1 a2 h0:o6 Tryz.prog mJ mI K 165 [a0,a1,a2] h0=aAz (lT mJ K) a0 a1 a2 h0:=by kernel_rfl
def aAA (K:lB) (a0 a1:kM) (h0:kP):OH :=
 ((kV .eql a0 (iq 0)).bind fun t0=>lG false t0 (some a1) h0 fun t1 h2=>lG false t0 (kV .eql t1 (iq 1)) h2 fun t4 h5=>(lN t0 (.bool true) t4).bind fun t6=>some (.ret,[t6],h5)).bind fun r7=>sM r7.2 fun aA h9=>Ex.nA r7.1 (lY (aa0 h0) aA h9)
theorem arH K a0 a1 h0:o6 Tryz.prog mJ mI K 166 [a0,a1] h0=aAA (lT mJ K) a0 a1 h0:=by kernel_rfl
def UT (K:lB) (a0 a1:kM) (h0:kP):OH :=
 (kQ (lK 11 h0 a1) fun t2 h3=>fq 7 t2 h3 fun t7=>(kX 5 t7 (iq 0)).bind fun t8=>(kT true 5 h3 t8).bind fun t9=>kU (Bv K 168 a0 t9 (iq 0) h3) (fun cE aH=>fq 7 t2 aH fun bC=>(kX 5 bC (iq 1)).bind fun bD=>(kT true 5 aH bD).bind fun bE=>kU (rR K 164 a0 bE aH) (fun bF aW=>kQ (lK 3 aW (.agg [(iq 0),(iq 0),(iq 0)])) fun aN aX=>(kR 3 aX aN bF).bind fun aI=>fq 3 t2 aI fun bG=>fq 1 t2 aI fun bH=>kU (Bv K 165 a0 bG bH aI) (fun bI aZ=>kQ (lK 4 aZ (.agg [(iq 0),(iq 0),(iq 0),(.bool false)])) fun aD a_=>(kR 4 a_ aD bI).bind fun aJ=>(kO 0 aD).bind fun bJ=>fq 1 bJ aJ fun bK=>(kV .gtr bK (iq 0)).bind fun aE=>(lQ true aE ((kO 3 aD).bind fun bL=>nM bL aJ) (nM (.tuple []) aJ)).bind (nT (fun bM aK=>(lQ true aE ((kT false 1 aK bM).bind fun bN=>nM bN aK) (nM (.tuple []) aK)).bind (nT (fun bO aP=>(lQ true aE ((vT .not bO).bind fun bP=>nM bP aP) (nM (.tuple []) aP)).bind (nT (fun bQ aQ=>(lN aE bQ (.bool false)).bind fun aF=>(lQ true aF ((kO 0 aN).bind fun bR=>nM bR aQ) (nM (.tuple []) aQ)).bind (nT (fun bS aL=>(lQ true aF ((kT false 1 aL bS).bind fun bT=>nM bT aL) (nM (.tuple []) aL)).bind (nT (fun bU aR=>(lQ true aF ((kV .eql bU (iq 0)).bind fun bV=>nM bV aR) (nM (.tuple []) aR)).bind (nT (fun bW aS=>(lN aF bW (.bool false)).bind fun bX=>fq 1 t2 aS fun bY=>kU (Bv K 131 bX (iq 14) bY aS) (fun cF aC=>fq 2 aN aC fun bZ=>(kO 0 aD).bind fun b8=>fq 2 b8 aC fun b9=>(kO 1 t2).bind fun aG=>(kT false 1 aC aG).bind fun b_=>kU (rR K 166 bZ b9 (nL (kY [0] [aG]) aC)) (fun cA bA=>kU (Bv K 131 cA (iq 15) b_ (lP (kY [0] [aG]) aC bA)) (fun cG bB=>some (.normal,([]:List kM),bB)) (fun aO aM=>some ((.pan aO),([]:List kM),aM))) (fun v h'=>(fun aO aM=>some ((.pan aO),([]:List kM),aM)) v (lP (kY [0] [aG]) aC h'))) (fun aB aA=>some ((.pan aB),([]:List kM),aA))) (fun aB aA=>some ((.pan aB),([]:List kM),aA)))) (fun aB aA=>some ((.pan aB),([]:List kM),aA)))) (fun aB aA=>some ((.pan aB),([]:List kM),aA)))) (fun aB aA=>some ((.pan aB),([]:List kM),aA)))) (fun aB aA=>some ((.pan aB),([]:List kM),aA)))) (fun aB aA=>some ((.pan aB),([]:List kM),aA)))) (fun cD aY=>some ((.pan cD),([]:List kM),aY))) (fun cB aV=>some ((.pan cB),([]:List kM),aV))) (fun v4 h5=>some ((.pan v4),([]:List kM),h5))).bind fun aU=>(fun aT=>Ex.uZ aU.1 (lY (aa0 h0) (.tuple []) aT) (fun v=>rE (aa0 h0) v aT))  aU.2.2
theorem arI K a0 a1 h0:o6 Tryz.prog mJ mI K 167 [a0,a1] h0=UT (lT mJ K) a0 a1 h0:=by kernel_rfl
def arJ (K:lB) (a0 a1 a2:kM) (h0:kP):OH :=
 (kQ (lK 5 h0 a1) fun t2 h3=>(kT true 5 h3 t2).bind fun t6=>kU (rR K 164 a0 t6 h3) (fun t7 h8=>kQ (lK 3 h8 (.agg [(iq 0),(iq 0),(iq 0)])) fun t9 aE=>(kR 3 aE t9 t7).bind fun aA=>fq 0 t9 aA fun aI=>(kV .eql aI a2).bind fun aJ=>fq 1 t2 aA fun aK=>kU (Bv K 131 aJ (iq 14) aK aA) (fun aQ aB=>fq 2 t9 aB fun aL=>(kV .eql aL (iq 0)).bind fun aM=>fq 1 t2 aB fun aN=>kU (Bv K 131 aM (iq 15) aN aB) (fun aR aH=>some (.normal,([]:List kM),aH)) (fun aP aG=>some ((.pan aP),([]:List kM),aG))) (fun aO aF=>some ((.pan aO),([]:List kM),aF))) (fun v4 h5=>some ((.pan v4),([]:List kM),h5))).bind fun aD=>(fun aC=>Ex.uZ aD.1 (lY (aa0 h0) (.tuple []) aC) (fun v=>rE (aa0 h0) v aC))  aD.2.2
theorem arK K a0 a1 a2 h0:o6 Tryz.prog mJ mI K 168 [a0,a1,a2] h0=arJ (lT mJ K) a0 a1 a2 h0:=by kernel_rfl
def HW (K:lB) (m:Nat) (s:St):Option R :=
 EB s fun aB aE aC aD aA h8=>aq .lss aA aD ((kX 11 aC aA).bind fun aK=>(kT true 11 h8 aK).bind fun aL=>kQ (lK 11 h8 (.agg [(iq 0),(iq 0),(iq 0),(.str []),(iq 0),(iq 0),(iq 0),(.slice [] .nil),(.slice [] .nil),(.slice [] .nil),(.bool false)])) fun aG aH=>(kR 11 aH aG aL).bind fun aF=>(kT true 11 aF aG).bind fun aM=>kU (Bv K 133 aB aM (.bool false) aF) (fun aP aJ=>(kV .add aA (iq 1)).bind fun aN=>kS m .normal [aB,aE,aC,aD,aN] aJ) (fun aO aI=>kS m (.pan aO) [aB,aE,aC,aD,aA] aI)) (kS m (.exit 0) [aB,aE,aC,aD,aA] h8)
def FI (K:lB) (m:Nat) (s:St):Option R :=
 B9 s fun aD aB aC aA aN=>aq .lss aA aC ((kX 11 aB aA).bind fun aY=>(kT true 11 aN aY).bind fun aZ=>kQ (lK 11 aN (.agg [(iq 0),(iq 0),(iq 0),(.str []),(iq 0),(iq 0),(iq 0),(.slice [] .nil),(.slice [] .nil),(.slice [] .nil),(.bool false)])) fun aL aW=>(kR 11 aW aL aZ).bind fun aO=>fq 0 aL aO fun a_=>(kV .eql a_ (iq 1)).bind fun aM=>(lQ false aM ((kO 0 aL).bind fun bA=>nM bA aO) (nM (.tuple []) aO)).bind (nT (fun bB aP=>(lQ false aM ((kT false 1 aP bB).bind fun bC=>nM bC aP) (nM (.tuple []) aP)).bind (nT (fun bD aR=>(lQ false aM ((kV .eql bD (iq 2)).bind fun bE=>nM bE aR) (nM (.tuple []) aR)).bind (nT (fun bF aI=>(lN aM (.bool true) bF).bind fun bG=>(lF bG ((kZ aD).bind fun bH=>fq 1 bH aI fun bI=>fq 3 aL aI fun aT=>bif oL .string aT then(DZ aI bI aT).bind fun aX=>kS (aa0 aI) .normal [aD,aB,aC,aA] aX else none) (kS (aa0 aI) .normal [aD,aB,aC,aA] aI)).bind fun aS=>B9 aS.2 fun aH aE aF aG aQ=>Ex.lV aS.1 ((kV .add aG (iq 1)).bind fun bJ=>kS m .normal [aH,aE,aF,bJ] aQ) (fun aU=>Ex.inBlock 3 aU ((kV .add aG (iq 1)).bind fun bK=>kS m .normal [aH,aE,aF,bK] aQ) (fun aV=>kS m aV [aH,aE,aF,aG] aQ))) (fun aK aJ=>kS m (.pan aK) [aD,aB,aC,aA] aJ))) (fun aK aJ=>kS m (.pan aK) [aD,aB,aC,aA] aJ))) (fun aK aJ=>kS m (.pan aK) [aD,aB,aC,aA] aJ))) (kS m (.exit 2) [aD,aB,aC,aA] aN)
def aAB (K:lB) (a0 a1:kM) (h0:kP):OH :=
 ((mN a1).bind fun t2=>(mI (HW K (aa0 h0)) ([a0,a1,a1,t2,(iq 0)],h0)).bind fun aJ=>EB aJ.2 fun aC aA aN aO aE aD=>Ex.lV aJ.1 none (fun aP=>Ex.inBlock 0 aP ((mN aA).bind fun aT=>(mI (FI K (aa0 aD)) ([aC,aA,aT,(iq 0)],aD)).bind fun aK=>B9 aK.2 fun aM aF aG aH aI=>Ex.lV aK.1 none (fun aR=>Ex.inBlock 2 aR (some (.normal,([]:List kM),aI)) (fun aS=>some (aS,([]:List kM),aI)))) (fun aQ=>some (aQ,([]:List kM),aD)))).bind fun aL=>(fun aB=>Ex.uZ aL.1 (lY (aa0 h0) (.tuple []) aB) (fun v=>rE (aa0 h0) v aB))  aL.2.2
theorem arL K a0 a1 h0:o6 Tryz.prog mJ mI K 169 [a0,a1] h0=aAB (lT mJ K) a0 a1 h0:=by kernel_rfl
def HX (K:lB) (m:Nat) (s:St):Option R :=
 uq7 s fun aD aE aF aG aB aC aA aI=>aq .lss aA aC ((kX 6 aB aA).bind fun aN=>(kT true 6 aI aN).bind fun aO=>kQ (lK 6 aI (.agg [(iq 0),(.str []),(iq 0),(iq 0),(iq 0),(.bool false)])) fun aJ aK=>(kR 6 aK aJ aO).bind fun aH=>(kT true 6 aH aJ).bind fun aP=>fq 4 aE aH fun aQ=>(kX 5 aQ aA).bind fun aR=>(kT true 5 aH aR).bind fun aS=>kU (Bv K 197 aD aP aS aH) (fun aV aM=>(kV .add aA (iq 1)).bind fun aT=>kS m .normal [aD,aE,aF,aG,aB,aC,aT] aM) (fun aU aL=>kS m (.pan aU) [aD,aE,aF,aG,aB,aC,aA] aL)) (kS m (.exit 0) [aD,aE,aF,aG,aB,aC,aA] aI)
def ah6 (K:lB) (a0 a1:kM) (h0:kP):OH :=
 (kQ (lK 5 h0 a1) fun t2 h3=>kQ (lK 8 h3 (.agg [(iq 0),(.str []),(.slice [] .nil),(.bool false),(iq 0),(iq 0),(iq 0),(.slice [] .nil)])) fun t4 h5=>(kZ a0).bind fun t8=>(kO 0 t8).bind fun t9=>(kT false 1 h5 t9).bind fun aI=>(kO 3 t2).bind fun aJ=>(kT false 1 h5 aJ).bind fun aQ=>bif oL .string aQ then(q7 (.agg [(iq 0),(.str []),(.slice [] .nil),(.bool false),(iq 0),(iq 0),(iq 0),(.slice [] .nil),(iq 0)]) true h5 aI aQ).bind fun aR=>(lH 0 aR).bind fun bA=>(lH 1 aR).bind fun bB=>kQ (lK 9 (nL (kY [0,1,2] [t9,aJ,aI]) h5) (.agg [(iq 0),(.str []),(.slice [] .nil),(.bool false),(iq 0),(iq 0),(iq 0),(.slice [] .nil),(iq 0)])) fun aE aX=>(kR 9 (lP (kY [0,1,2] [t9,aJ,aI]) h5 aX) aE bA).bind fun aN=>fq 1 t2 aN fun bC=>kU (Bv K 131 bB (iq 12) bC aN) (fun bR aD=>(kO 0 aE).bind fun bD=>fq 2 bD aD fun bE=>(mN bE).bind fun bF=>fq 4 t2 aD fun bG=>(mN bG).bind fun bH=>(kV .eql bF bH).bind fun bI=>fq 1 t2 aD fun bJ=>kU (Bv K 131 bI (iq 16) bJ aD) (fun bS aF=>(kO 0 aE).bind fun bK=>fq 2 bK aF fun aS=>(mN aS).bind fun bL=>(mI (HX K (aa0 aF)) ([a0,t2,t4,aE,aS,bL,(iq 0)],aF)).bind fun aO=>uq7 aO.2 fun aT aU aA aC aK aL aM aG=>Ex.lV aO.1 none (fun aV=>Ex.inBlock 0 aV ((kO 0 aC).bind fun bM=>(kT true 8 aG bM).bind fun bN=>(kR 8 aG aA bN).bind fun a_=>some (.ret,[aA],a_)) (fun aW=>some (aW,[aA],aG)))) (fun bQ aZ=>some ((.pan bQ),[t4],aZ))) (fun bP aY=>some ((.pan bP),[t4],aY)) else none).bind fun aP=>sM aP.2 fun aB aH=>Ex.uZ aP.1 ((kT true 8 aH aB).bind fun bO=>lY (aa0 h0) bO aH) (fun v=>rE (aa0 h0) v aH)
theorem arM K a0 a1 h0:o6 Tryz.prog mJ mI K 170 [a0,a1] h0=ah6 (lT mJ K) a0 a1 h0:=by kernel_rfl
def FJ (K:lB) (m:Nat) (s:St):Option R :=
 BE s fun aB aH aJ aC aD aA h7=>aq .lss aA aD ((kX 5 aC aA).bind fun t9=>(kT true 5 h7 t9).bind fun aV=>kQ (lK 5 h7 (.agg [(iq 0),(iq 0),(iq 0),(.str []),(.slice [] .nil)])) fun aN aS=>(kR 5 aS aN aV).bind fun aO=>fq 4 aN aO fun aW=>o_ K 171 aB aW aO fun aX aE=>(kV .add (iq 1) aX).bind fun aY=>(kV .add aJ aY).bind fun aQ=>fq 0 aN aE fun aZ=>(kV .eql aZ (iq 4)).bind fun a_=>(lF a_ ((kZ aB).bind fun bA=>fq 0 bA aE fun bB=>fq 3 aN aE fun aR=>bif oL .string aR then(q7 (.agg [(iq 0),(.str []),(.slice [] .nil),(.bool false),(iq 0),(iq 0),(iq 0),(.slice [] .nil),(iq 0)]) false aE bB aR).bind fun bC=>(sP false 1 8 bC).bind fun bD=>(kV .add aQ bD).bind fun bE=>kS (aa0 aE) .normal [aB,aH,bE,aC,aD,aA] aE else none) (kS (aa0 aE) .normal [aB,aH,aQ,aC,aD,aA] aE)).bind fun aP=>BE aP.2 fun aF aI aK aL aM aG aT=>Ex.uC aP.1 (o_ K 134 aF aK aT fun bF aU=>(kV .add aG (iq 1)).bind fun bG=>kS m .normal [aF,aI,bF,aL,aM,bG] aU)) (kS m (.exit 0) [aB,aH,aJ,aC,aD,aA] h7)
def aAD (K:lB) (a0 a1:kM) (h0:kP):OH :=
 ((mN a1).bind fun t0=>(mI (FJ K (aa0 h0)) ([a0,(iq 0),(iq 0),a1,t0,(iq 0)],h0)).bind fun aF=>BE aF.2 fun aH aA aC aI aJ aD aE=>Ex.lV aF.1 none (fun aK=>Ex.inBlock 0 aK (some (.ret,[aC],aE)) (fun aL=>some (aL,[aA],aE)))).bind fun aG=>sM aG.2 fun aB aM=>Ex.nA aG.1 (lY (aa0 h0) aB aM)
theorem Zi K a0 a1 h0:o6 Tryz.prog mJ mI K 171 [a0,a1] h0=aAD (lT mJ K) a0 a1 h0:=by kernel_rfl
def arY (K:lB) (a0 a1 a2 a3:kM) (h0:kP):OH :=
 (kQ (lK 5 h0 a2) fun t2 h3=>kQ (lK 4 h3 (.agg [(iq 0),(iq 0),(iq 0),(.bool false)])) fun t4 h5=>(kT true 5 h5 t2).bind fun t8=>kU (Bv K 168 a0 t8 (iq 0) h5) (fun t9 aG=>kU (Bv K 165 a0 a1 a3 aG) (fun aM aI=>kQ (lK 4 aI (.agg [(iq 0),(iq 0),(iq 0),(.bool false)])) fun aC aJ=>(kR 4 aJ aC aM).bind fun aD=>(kO 0 aC).bind fun aN=>fq 1 aN aD fun aO=>(kV .gtr aO (iq 0)).bind fun aP=>kU (Bv K 131 aP (iq 14) a3 aD) (fun aU aE=>(kT true 4 aE aC).bind fun aQ=>(kR 4 aE t4 aQ).bind fun aL=>some (.ret,[t4],aL)) (fun aT aK=>some ((.pan aT),[t4],aK))) (fun aS aH=>some ((.pan aS),[t4],aH))) (fun v6 h7=>some ((.pan v6),[t4],h7))).bind fun aF=>sM aF.2 fun aA aB=>Ex.uZ aF.1 ((kT true 4 aB aA).bind fun aR=>lY (aa0 h0) aR aB) (fun v=>rE (aa0 h0) v aB)
theorem arZ K a0 a1 a2 a3 h0:o6 Tryz.prog mJ mI K 195 [a0,a1,a2,a3] h0=arY (lT mJ K) a0 a1 a2 a3 h0:=by kernel_rfl
def FL (K:lB) (m:Nat) (s:St):Option R :=
 uq8 s fun aE aF aG aH aC aD aB aA h9=>aq .lss aA aB ((kX 1 aD aA).bind fun aK=>(kT false 1 h9 aK).bind fun aL=>lG true aC (some aL) h9 fun aM aI=>lG true aC (kV .eql aM (iq 0)) aI fun aN aJ=>(lN aC aN (.bool false)).bind fun aO=>(kV .add aA (iq 1)).bind fun aP=>kS m .normal [aE,aF,aG,aH,aO,aD,aB,aP] aJ) (kS m (.exit 0) [aE,aF,aG,aH,aC,aD,aB,aA] h9)
def acI (K:lB) (a0 a1:kM) (h0:kP):OH :=
 ((mN a1).bind fun t0=>(mI (FL K (aa0 h0)) ([a0,a1,(iq 0),(.bool false),(.bool true),a1,t0,(iq 0)],h0)).bind fun aS=>uq8 aS.2 fun aB aA aG aI aE aU aN aO aF=>Ex.lV aS.1 none (fun aV=>Ex.inBlock 0 aV (aq .eql aB (iq 7) ((kX 1 aA (iq 0)).bind fun bG=>(kT false 1 aF bG).bind fun bH=>(kV .eql bH (iq 1)).bind fun bI=>some (.ret,[(iq 1),bI],aF)) (aq .eql aB (iq 26) ((kX 1 aA (iq 0)).bind fun bJ=>(kT false 1 aF bJ).bind fun bK=>(kV .eql bK (iq 1)).bind fun bL=>some (.ret,[(iq 0),bL],aF)) ((kV .eql aB (iq 11)).bind fun aK=>lG false aK (some aB) aF fun bM aX=>lG false aK (kV .eql bM (iq 12)) aX fun bN aY=>(lN aK (.bool true) bN).bind fun aL=>lG false aL (some aB) aY fun bO aZ=>lG false aL (kV .eql bO (iq 13)) aZ fun bP aC=>(lN aL (.bool true) bP).bind fun bQ=>lF bQ ((kX 1 aA (iq 0)).bind fun bR=>(kT false 1 aC bR).bind fun bS=>(kX 1 aA (iq 0)).bind fun bT=>(kT false 1 aC bT).bind fun bU=>(kX 1 aA (iq 1)).bind fun bV=>(kT false 1 aC bV).bind fun bW=>(kV .eql bU bW).bind fun bX=>some (.ret,[bS,bX],aC)) (aq .eql aB (iq 25) ((kX 1 aA (iq 1)).bind fun bY=>(kT false 1 aC bY).bind fun bZ=>(kX 1 aA (iq 0)).bind fun b8=>(kT false 1 aC b8).bind fun b9=>(kV .eql b9 (iq 1)).bind fun aD=>lG true aD (some aA) aC fun b_ a_=>lG true aD (kX 1 b_ (iq 1)) a_ fun cA aP=>lG true aD (kT false 1 aP cA) aP fun cB bA=>lG true aD (some aA) bA fun cD bB=>lG true aD (kX 1 cD (iq 2)) bB fun cE aQ=>lG true aD (kT false 1 aQ cE) aQ fun cF bC=>lG true aD (kV .eql cB cF) bC fun cG bD=>(lN aD cG (.bool false)).bind fun cH=>some (.ret,[bZ,cH],bD)) ((kV .geq aB (iq 17)).bind fun aM=>lG true aM (some aB) aC fun cI bE=>lG true aM (kV .leq cI (iq 22)) bE fun cJ aR=>(lN aM cJ (.bool false)).bind fun cK=>lF cK (some (.ret,[(iq 1),aE],aR)) (some (.ret,[(iq 0),aE],aR))))))) (fun aW=>some (aW,[aG,aI],aF)))).bind fun aT=>wN aT.2 fun aH aJ bF=>Ex.nA aT.1 (lY (aa0 h0) (.tuple [aH,aJ]) bF)
theorem ar0 K a0 a1 h0:o6 Tryz.prog mJ mI K 196 [a0,a1] h0=acI (lT mJ K) a0 a1 h0:=by kernel_rfl
def Ji (K:lB) (a0 a1 a2:kM) (h0:kP):OH :=
 (kQ (lK 6 h0 a1) fun t2 h3=>kQ (lK 5 h3 a2) fun t4 h5=>(kO 2 t2).bind fun t8=>fq 1 t8 h5 fun dP=>aq .eql dP (iq 0) ((kT true 5 h5 t4).bind fun dR=>kU (rR K 164 a0 dR h5) (fun dU dG=>kQ (lK 3 dG (.agg [(iq 0),(iq 0),(iq 0)])) fun c7 dH=>(kR 3 dH c7 dU).bind fun bG=>fq 0 c7 bG fun dW=>(kO 2 t2).bind fun dX=>fq 0 dX bG fun dY=>(kV .eql dW dY).bind fun dZ=>fq 1 t4 bG fun d_=>kU (Bv K 131 dZ (iq 14) d_ bG) (fun fM aO=>fq 2 c7 aO fun eA=>(kO 2 t2).bind fun eB=>fq 2 eB aO fun eC=>(kO 1 t4).bind fun bI=>(kT false 1 aO bI).bind fun eD=>kU (rR K 166 eA eC (nL (kY [0] [bI]) aO)) (fun eE dJ=>kU (Bv K 131 eE (iq 15) eD (lP (kY [0] [bI]) aO dJ)) (fun fN dK=>some (.ret,([]:List kM),dK)) (fun c_ bL=>some ((.pan c_),([]:List kM),bL))) (fun v h'=>(fun c_ bL=>some ((.pan c_),([]:List kM),bL)) v (lP (kY [0] [bI]) aO h'))) (fun fJ dI=>some ((.pan fJ),([]:List kM),dI))) (fun fI dF=>some ((.pan fI),([]:List kM),dF))) (fq 0 t4 h5 fun eF=>(kV .eql eF (iq 2)).bind fun eG=>fq 1 t4 h5 fun eH=>kU (Bv K 131 eG (iq 14) eH h5) (fun fO bM=>fq 3 t4 bM fun eI=>fq 1 t4 bM fun eJ=>kU (Bv K 165 a0 eI eJ bM) (fun eK dN=>kQ (lK 4 dN (.agg [(iq 0),(iq 0),(iq 0),(.bool false)])) fun aP dO=>(kR 4 dO aP eK).bind fun bH=>(kO 0 aP).bind fun eL=>fq 0 eL bH fun eM=>(kO 2 t2).bind fun eN=>fq 0 eN bH fun eO=>(kV .eql eM eO).bind fun aI=>(lQ true aI ((kO 0 aP).bind fun eP=>nM eP bH) (nM (.tuple []) bH)).bind (nT (fun eQ dA=>(lQ true aI ((kO 1 eQ).bind fun eR=>nM eR dA) (nM (.tuple []) dA)).bind (nT (fun eS bN=>(lQ true aI ((kT false 1 bN eS).bind fun eT=>nM eT bN) (nM (.tuple []) bN)).bind (nT (fun eU dB=>(lQ true aI ((kO 2 t2).bind fun eV=>nM eV dB) (nM (.tuple []) dB)).bind (nT (fun eX dC=>(lQ true aI ((kO 1 eX).bind fun eY=>nM eY dC) (nM (.tuple []) dC)).bind (nT (fun eZ bO=>(lQ true aI ((kT false 1 bO eZ).bind fun e_=>nM e_ bO) (nM (.tuple []) bO)).bind (nT (fun fB dD=>(lQ true aI ((kV .eql eU fB).bind fun fC=>nM fC dD) (nM (.tuple []) dD)).bind (nT (fun fD dE=>(lN aI fD (.bool false)).bind fun aQ=>(lQ true aQ ((kO 5 t2).bind fun fE=>nM fE dE) (nM (.tuple []) dE)).bind (nT (fun fF bP=>(lQ true aQ ((kT false 1 bP fF).bind fun fH=>nM fH bP) (nM (.tuple []) bP)).bind (nT (fun bQ aR=>(lQ true aQ (nM bQ aR) (nM (.tuple []) aR)).bind (nT (fun aN aS=>(lQ true aN ((kO 3 aP).bind fun bR=>nM bR aS) (nM (.tuple []) aS)).bind (nT (fun bS aJ=>(lQ true aN ((kT false 1 aJ bS).bind fun bT=>nM bT aJ) (nM (.tuple []) aJ)).bind (nT (fun bU aT=>(lQ true aQ ((lN aN bU (.bool false)).bind fun bV=>nM bV aT) (nM (.tuple []) aT)).bind (nT (fun bW aU=>(lQ true aQ ((vT .not bW).bind fun bX=>nM bX aU) (nM (.tuple []) aU)).bind (nT (fun bY aV=>(lN aQ bY (.bool false)).bind fun bZ=>fq 1 t4 aV fun b8=>kU (Bv K 131 bZ (iq 14) b8 aV) (fun dQ aF=>(kO 0 aP).bind fun b9=>fq 2 b9 aF fun b_=>(kO 2 t2).bind fun cA=>fq 2 cA aF fun cB=>(kO 1 t4).bind fun aH=>(kT false 1 aF aH).bind fun cD=>kU (rR K 166 b_ cB (nL (kY [0] [aH]) aF)) (fun aG aW=>(lQ true aG ((kO 5 t2).bind fun cE=>nM cE (lP (kY [0] [aH]) aF aW)) (nM (.tuple []) (lP (kY [0] [aH]) aF aW))).bind (nT (fun cF aK=>(lQ true aG ((kT false 1 aK cF).bind fun cG=>nM cG aK) (nM (.tuple []) aK)).bind (nT (fun cH aX=>(lQ true aG ((vT .not cH).bind fun cI=>nM cI aX) (nM (.tuple []) aX)).bind (nT (fun cJ aY=>(lQ true aG (nM cJ aY) (nM (.tuple []) aY)).bind (nT (fun aE aZ=>(lQ false aE ((kO 0 aP).bind fun cK=>nM cK aZ) (nM (.tuple []) aZ)).bind (nT (fun cL a_=>(lQ false aE ((kO 2 cL).bind fun cM=>nM cM a_) (nM (.tuple []) a_)).bind (nT (fun cN aL=>(lQ false aE ((kT false 1 aL cN).bind fun cO=>nM cO aL) (nM (.tuple []) aL)).bind (nT (fun cP bA=>(lQ false aE ((kO 2 t2).bind fun cQ=>nM cQ bA) (nM (.tuple []) bA)).bind (nT (fun cR bB=>(lQ false aE ((kO 2 cR).bind fun cS=>nM cS bB) (nM (.tuple []) bB)).bind (nT (fun cT aM=>(lQ false aE ((kT false 1 aM cT).bind fun cU=>nM cU aM) (nM (.tuple []) aM)).bind (nT (fun cV bC=>(lQ false aE ((kV .eql cP cV).bind fun cW=>nM cW bC) (nM (.tuple []) bC)).bind (nT (fun cX bD=>(lQ true aG ((lN aE (.bool true) cX).bind fun cY=>nM cY bD) (nM (.tuple []) bD)).bind (nT (fun cZ bJ=>(lN aG cZ (.bool false)).bind fun c6=>kU (Bv K 131 c6 (iq 15) cD bJ) (fun dV bK=>some (.normal,([]:List kM),bK)) (fun aB aA=>some ((.pan aB),([]:List kM),aA))) (fun aB aA=>some ((.pan aB),([]:List kM),aA)))) (fun aB aA=>some ((.pan aB),([]:List kM),aA)))) (fun aB aA=>some ((.pan aB),([]:List kM),aA)))) (fun aB aA=>some ((.pan aB),([]:List kM),aA)))) (fun aB aA=>some ((.pan aB),([]:List kM),aA)))) (fun aB aA=>some ((.pan aB),([]:List kM),aA)))) (fun aB aA=>some ((.pan aB),([]:List kM),aA)))) (fun aB aA=>some ((.pan aB),([]:List kM),aA)))) (fun aB aA=>some ((.pan aB),([]:List kM),aA)))) (fun aB aA=>some ((.pan aB),([]:List kM),aA)))) (fun aB aA=>some ((.pan aB),([]:List kM),aA)))) (fun aB aA=>some ((.pan aB),([]:List kM),aA)))) (fun v h'=>(fun aB aA=>some ((.pan aB),([]:List kM),aA)) v (lP (kY [0] [aH]) aF h'))) (fun aD aC=>some ((.pan aD),([]:List kM),aC))) (fun aD aC=>some ((.pan aD),([]:List kM),aC)))) (fun aD aC=>some ((.pan aD),([]:List kM),aC)))) (fun aD aC=>some ((.pan aD),([]:List kM),aC)))) (fun aD aC=>some ((.pan aD),([]:List kM),aC)))) (fun aD aC=>some ((.pan aD),([]:List kM),aC)))) (fun aD aC=>some ((.pan aD),([]:List kM),aC)))) (fun aD aC=>some ((.pan aD),([]:List kM),aC)))) (fun aD aC=>some ((.pan aD),([]:List kM),aC)))) (fun aD aC=>some ((.pan aD),([]:List kM),aC)))) (fun aD aC=>some ((.pan aD),([]:List kM),aC)))) (fun aD aC=>some ((.pan aD),([]:List kM),aC)))) (fun aD aC=>some ((.pan aD),([]:List kM),aC)))) (fun aD aC=>some ((.pan aD),([]:List kM),aC)))) (fun aD aC=>some ((.pan aD),([]:List kM),aC)))) (fun fL dM=>some ((.pan fL),([]:List kM),dM))) (fun fK dL=>some ((.pan fK),([]:List kM),dL)))).bind fun bF=>(fun bE=>Ex.uZ bF.1 (lY (aa0 h0) (.tuple []) bE) (fun v=>rE (aa0 h0) v bE))  bF.2.2
theorem ar1 K a0 a1 a2 h0:o6 Tryz.prog mJ mI K 197 [a0,a1,a2] h0=Ji (lT mJ K) a0 a1 a2 h0:=by kernel_rfl
def m20 (K:lB) (a0:kM) (h0:kP):OH :=
 (kQ (lK 1 h0 a0) fun t0 h1=>kQ (lK 2 h1 (.agg [(iq 0),(iq 0)])) fun t2 h3=>(kT true 1 h3 t0).bind fun t4=>qX K 45 t4 h3 fun t5 h6=>(lH 0 t5).bind fun t7=>(lH 1 t5).bind fun t8=>(lH 2 t5).bind fun t9=>kQ (lK 2 h6 (.agg [(iq 0),(iq 0)])) fun aE aF=>(kR 2 aF aE t9).bind fun aB=>aq .gtr t7 (iq 65536) ((lS [(iq 0),(iq 0)] [(0,1),(1,1)] [(0,(iq 18)),(1,t8)]).bind fun aI=>(kR 2 aB t2 aI).bind fun aG=>some (.ret,[t2],aG)) ((kT true 2 aB aE).bind fun aJ=>(kR 2 aB t2 aJ).bind fun aH=>some (.ret,[t2],aH))).bind fun aD=>sM aD.2 fun aA aC=>Ex.nA aD.1 ((kT true 2 aC aA).bind fun aK=>lY (aa0 h0) aK aC)
theorem aAI K a0 h0:o6 Tryz.prog mJ mI K 20 [a0] h0=m20 (lT mJ K) a0 h0:=by kernel_rfl
def m22 (K:lB) (a0:kM) (h0:kP):OH :=
 (kQ (lK 1 h0 a0) fun t0 h1=>(kT true 1 h1 t0).bind fun t2=>qX K 45 t2 h1 fun t3 h4=>(lH 0 t3).bind fun t5=>(lH 1 t3).bind fun t6=>(lH 2 t3).bind fun t7=>kQ (lK 2 h4 (.agg [(iq 0),(iq 0)])) fun t8 h9=>(kR 2 h9 t8 t7).bind fun aC=>some (.ret,[t5],aC)).bind fun aB=>sM aB.2 fun aA aD=>Ex.nA aB.1 (lY (aa0 h0) aA aD)
theorem aAK K a0 h0:o6 Tryz.prog mJ mI K 22 [a0] h0=m22 (lT mJ K) a0 h0:=by kernel_rfl
def m24 (K:lB) (h0:kP):OH :=
 (qX K 12 (.str [102,110,32,109,97,105,110,40,115,101,99,32,107,58,32,117,56,91,52,93,44,32,111,117,116,32,112,117,98,32,111,58,32,117,51,50,91,49,93,41,32,123,32,111,91,48,93,32,61,32,107,91,48,93,59,32,125]) h0 fun t0 h1=>(lH 0 t0).bind fun t2=>(lH 1 t0).bind fun t3=>kQ (lK 1 h1 (.agg [(.slice [] .nil)])) fun t4 h5=>kQ (lK 2 h5 (.agg [(iq 0),(iq 0)])) fun t6 h7=>(kR 1 h7 t4 t2).bind fun h8=>(kR 2 h8 t6 t3).bind fun h9=>qX K 12 (.str [102,110,32,109,97,105,110,40,115,101,99,32,107,58,32,117,56,91,52,93,44,32,111,117,116,32,115,101,99,32,111,58,32,117,51,50,91,49,93,41,32,123,32,111,91,48,93,32,61,32,107,91,48,93,59,32,125]) h9 fun aL aM=>(lH 0 aL).bind fun aW=>(lH 1 aL).bind fun aX=>kQ (lK 1 aM (.agg [(.slice [] .nil)])) fun aD aN=>kQ (lK 2 aN (.agg [(iq 0),(iq 0)])) fun aY aO=>(kR 1 aO aD aW).bind fun aP=>(kR 2 aP aY aX).bind fun aE=>(kT true 1 aE t4).bind fun aZ=>qX K 20 aZ aE fun a_ aF=>(lS [(iq 0),(iq 0)] [(0,1),(1,1)] [(0,(iq 15)),(1,(iq 43))]).bind fun bA=>(rX [.i,.i] a_ bA).bind fun aA=>lG true (.bool aA) (kT true 1 aF aD) aF fun bB aG=>gq true (.bool aA) (kU (yK K 20 bB aG) (fun bC aQ=>nM bC aQ) yS) aG fun bD aR=>lG true (.bool aA) (lS [(iq 0),(iq 0)] [(0,1),(1,1)] []) aR fun bE aH=>gq true (.bool aA) ((rX [.i,.i] bD bE).bind fun bF=>nM (.bool bF) aH) aH fun bG aI=>(lN (.bool aA) bG (.bool false)).bind fun aC=>lG true aC (kT true 1 aI aD) aI fun bH aJ=>gq true aC (kU (yK K 22 bH aJ) (fun bI aS=>nM bI aS) yS) aJ fun bJ aT=>lG true aC (kV .eql bJ (iq 5)) aT fun bK aU=>(lN aC bK (.bool false)).bind fun bL=>some (.ret,[bL],aU)).bind fun aK=>sM aK.2 fun aB aV=>Ex.nA aK.1 (lY (aa0 h0) aB aV)
theorem aAL K h0:o6 Tryz.prog mJ mI K 24 [] h0=m24 (lT mJ K) h0:=by kernel_rfl
end
section
open Go Hk
def mS.cells (t:mS):List kM:=[.int .i64 t.ty.elem,.int .i64 t.ty.len,.int .i64 t.ty.label,.bool t.fixed]
def CJ (N:Nm mS):List (kM×kM):=N.map fun p=>(.str p.1,.agg p.2.cells)
def CI (F:Kn):List (kM×kM):=F.map fun p=>(.str p.1,.agg (p.2.1.cells++[.int .i64 p.2.2]))
def Ai (a n:Nat) (f:GF):List kM:=.map a::.map n::f.cells
def TQ (A:List lE) (F:Kn) (f:GF) (Q:List lE) (N:Nm mS) (B:List lE):kP:=A++(.map (CI F)::.cells (Ai A.length (A.length+2+Q.length) f)::(Q++(.map (CJ N)::B)))
def TN (A Q B:List lE):Nat:=A.length+3+Q.length+B.length
structure KT (A Q B:List lE):Prop where
 a:∀n,TN A Q B≤n→De n A
 q:∀n,TN A Q B≤n→De n Q
 b:∀n,TN A Q B≤n→De n B
section
variable {A Q B C:List lE}{F:Kn}{f:GF}{N N':Nm mS}{k:Nat}
theorem Mf:TN A Q (B++C)=TN A Q B+C.length:=by simp [TN]; omega
theorem KT.app (h:KT A Q B) (hC:De (TN A Q B+C.length) C):KT A Q (B++C):=by
 refine⟨fun n hn=>?_,fun n hn=>?_,fun n hn=>?_⟩
 ·rw [Mf] at hn
  exact(h.a (TN A Q B) (ac5 _)).mono (by omega)
 ·rw [Mf] at hn
  exact(h.q (TN A Q B) (ac5 _)).mono (by omega)
 ·rw [Mf] at hn
  exact Fu ((h.b (TN A Q B) (ac5 _)).mono (by omega)) (hC.mono hn)
theorem aeU:TQ A F f Q N B++C=TQ A F f Q N (B++C):=by simp [TQ]
theorem VZ:(TQ A F f Q N B).length=TN A Q B:=by simp [TQ,TN]; omega
theorem Mh:TQ A F f Q N B=(A++(.map (CI F)::.cells (Ai A.length (A.length+2+Q.length) f)::(Q++[.map (CJ N)])))++B:=by simp [TQ]
theorem Q4:(A++(lE.map (CI F)::lE.cells (Ai A.length (A.length+2+Q.length) f)::(Q++[lE.map (CJ N)]))).length=A.length+3+Q.length:=by simp; omega
theorem Kb:(TQ A F f Q N (B++C))[TN A Q B+k]?=C[k]?:=by
 rw [Mh,←af9,ac9 (by rw [ac2,Q4]; unfold TN; omega),ac2,Q4]
 unfold TN
 rw [show A.length+3+Q.length+B.length+k - (A.length+3+Q.length+B.length)=k by omega]
theorem aeZ:mY (TQ A F f Q N (B++C)) (TN A Q B+k)=mY C k:=by unfold mY; rw [Kb]
theorem anT:mY (TQ A F f Q N (B++C)) (TN A Q B)=mY C 0:=aeZ (k:=0)
theorem TG:qL (TQ A F f Q N (B++C)) (TN A Q B+k)=qL C k:=by unfold qL; rw [Kb]
theorem Mg {x:lE}:List.set (TQ A F f Q N (B++C)) (TN A Q B+k) x=TQ A F f Q N (B++C.set k x):=by
 rw [Mh,Mh,←af9,←af9,List.set_append_right _ _ (by rw [ac2,Q4]; unfold TN; omega),ac2,Q4]
 unfold TN
 rw [show A.length+3+Q.length+B.length+k - (A.length+3+Q.length+B.length)=k by omega]
theorem anX {x:lE}:List.set (TQ A F f Q N (B++C)) (TN A Q B) x=TQ A F f Q N (B++C.set 0 x):=Mg (k:=0)
theorem aII:mY (TQ A F f Q N B) (A.length+1)=some (Ai A.length (A.length+2+Q.length) f):=by
 unfold mY TQ
 rw [ac9 (by omega),show A.length+1 - A.length=1 by omega]; rfl
theorem aEe:zC (TQ A F f Q N B) (.map A.length)=some (CI F):=by
 unfold zC TQ
 simp only [ac9 (ac5 _),Nat.sub_self,List.getElem?_cons_zero]
theorem V3:(TQ A F f Q N B)[A.length+2+Q.length]?=some (.map (CJ N)):=by
 unfold TQ
 rw [ac9 (by omega),show A.length+2+Q.length - A.length=Q.length+2 by omega,List.getElem?_cons_succ,List.getElem?_cons_succ,ac9 (ac5 _),Nat.sub_self]; rfl
theorem aIJ:zC (TQ A F f Q N B) (.map (A.length+2+Q.length))=some (CJ N):=by
 unfold zC; simp only [V3]
theorem Ye:List.set (TQ A F f Q N B) (A.length+2+Q.length) (.map (CJ N'))=TQ A F f Q N' B:=by
 unfold TQ
 rw [List.set_append_right _ _ (by omega),show A.length+2+Q.length - A.length=Q.length+2 by omega,List.set_cons_succ,List.set_cons_succ,List.set_append_right _ _ (ac5 _),Nat.sub_self]; rfl
theorem yH {α:Type}(enc:α→kM) (s:List UInt8):∀l:Nm α,CQ (.str s) (l.map fun p=>(.str p.1,enc p.2))=some ((look l s).map enc)
 | []=>rfl
 | (k,v)::r=>by
  have ih:=yH enc s r
  show(match F9 (kM.str s) (kM.str k) with | some true=>some (some (enc v)) | some false=>CQ (.str s) (r.map fun(p:List UInt8×α)=>(kM.str p.1,enc p.2)) | none=>none)=some ((if k=s then some v else look r s).map enc)
  by_cases h:k=s
  ·subst h; simp [F9]
  ·have h':¬s=k:=fun e=>h e.symm
   have hb:(s == k)=false:=by simp [h']
   simp [F9,h,hb,ih]
theorem MA {α:Type}(enc:α→kM) (s:List UInt8) (v:α):∀l:Nm α,look l s=none→BJ (.str s) (enc v) (l.map fun p=>(.str p.1,enc p.2))=(l++[(s,v)]).map fun p=>(.str p.1,enc p.2)
 | [],_=>rfl
 | (k,w)::r,h=>by
  have h:(if k=s then some w else look r s)=none:=h
  by_cases hk:k=s
  ·rw [if_pos hk] at h; cases h
  ·rw [if_neg hk] at h
   have ih:=MA enc s v r h
   have h':¬s=k:=fun e=>hk e.symm
   show(match F9 (kM.str s) (kM.str k) with | some true=>(kM.str k,enc v)::(r.map fun(p:List UInt8×α)=>(kM.str p.1,enc p.2)) | _=>(kM.str k,enc w)::BJ (.str s) (enc v) (r.map fun(p:List UInt8×α)=>(kM.str p.1,enc p.2)))=_
   have hb:(s == k)=false:=by simp [h']
   simp [F9,hb,ih]
theorem TW {α:Type}(enc:α→kM) (s:List UInt8):∀l:Nm α,BI (.str s) (l.map fun p=>(.str p.1,enc p.2))=(Dx l s).map fun p=>(.str p.1,enc p.2)
 | []=>rfl
 | (k,w)::r=>by
  have ih:=TW enc s r
  show(match F9 (kM.str s) (kM.str k) with | some true=>(r.map fun(p:List UInt8×α)=>(kM.str p.1,enc p.2)) | _=>(kM.str k,enc w)::BI (.str s) (r.map fun(p:List UInt8×α)=>(kM.str p.1,enc p.2)))=(if k=s then r else(k,w)::Dx r s).map fun(p:List UInt8×α)=>(kM.str p.1,enc p.2)
  by_cases hk:k=s
  ·subst hk; simp [F9]
  ·have h':¬s=k:=fun e=>hk e.symm
   have hb:(s == k)=false:=by simp [h']
   simp [F9,hb,hk,ih]
theorem anU {z:kM}{s:List UInt8}:q7 z true (TQ A F f Q N B) (.map (A.length+2+Q.length)) (.str s)=some (match look N s with | some t=>.tuple [.agg t.cells,.bool true] | none=>.tuple [z,.bool false]):=by
 unfold q7
 rw [aIJ]
 simp only [CJ,yH (fun t:mS=>kM.agg t.cells)]
 cases look N s <;> rfl
theorem ae3 {z:kM}{s:List UInt8}:q7 z true (TQ A F f Q N B) (.map A.length) (.str s)=some (match look F s with | some t=>.tuple [.agg (t.1.cells++[.int .i64 t.2]),.bool true] | none=>.tuple [z,.bool false]):=by
 unfold q7
 rw [aEe]
 simp only [CI,yH (fun t:GF×Int=>kM.agg (t.1.cells++[.int .i64 t.2]))]
 cases look F s <;> rfl
theorem ae2 {z:kM}{s:List UInt8}:q7 z false (TQ A F f Q N B) (.map A.length) (.str s)=some (match look F s with | some t=>.agg (t.1.cells++[.int .i64 t.2]) | none=>z):=by
 unfold q7
 rw [aEe]
 simp only [CI,yH (fun t:GF×Int=>kM.agg (t.1.cells++[.int .i64 t.2]))]
 cases look F s <;> rfl
theorem axR {s:List UInt8}{t:mS}(h:look N s=none):Ad (TQ A F f Q N B) (.map (A.length+2+Q.length)) (.str s) (.agg t.cells)=some (TQ A F f Q (N++[(s,t)]) B):=by
 unfold Ad
 simp only [V3]
 simp only [CJ,yH (fun t:mS=>kM.agg t.cells),MA (fun t:mS=>kM.agg t.cells) s t N h]
 exact congrArg some Ye
theorem aeW {s:List UInt8}:DZ (TQ A F f Q N B) (.map (A.length+2+Q.length)) (.str s)=some (TQ A F f Q (Dx N s) B):=by
 unfold DZ
 simp only [V3]
 simp only [CJ,yH (fun t:mS=>kM.agg t.cells),TW (fun t:mS=>kM.agg t.cells)]
 rw [if_pos ⟨rfl,rfl⟩]
 exact congrArg some Ye
end
end
section
open Go Hk
section
variable {A Q B C:List lE}{F:Kn}{f:GF}{N N':Nm mS}{k:Nat}
theorem TH:oB (TQ A F f Q N (B++C)) (TN A Q B+k)=TQ A F f Q N (B++oB C k):=by
 unfold oB
 rw [Kb]
 cases C[k]? with
 | none=>rfl
 | some b=>cases b <;> first | rfl | exact Mg
theorem aaJ:oB (TQ A F f Q N (B++C)) (TN A Q B)=TQ A F f Q N (B++oB C 0):=TH (k:=0)
theorem Mi {C':List lE}:mL (TQ A F f Q N (B++C)) (TQ A F f Q N' (B++C')) (TN A Q B+k)=TQ A F f Q N' (B++mL C C' k):=by
 unfold mL
 rw [Kb]
 cases C[k]? with
 | none=>rfl
 | some b=>cases b <;> first | rfl | exact Mg
theorem TI {C':List lE}:mL (TQ A F f Q N (B++C)) (TQ A F f Q N' (B++C')) (TN A Q B)=TQ A F f Q N' (B++mL C C' 0):=Mi (k:=0)
theorem Ir {m i:Nat}{h:kP}(hi:i < m):kM.mO m h (.map i)=.map i:=by simp [kM.mO,kM.nP,kM.pE,qA,hi]
theorem axG {n a b:Nat}(ha:a < n) (hb:b < n):B_ n (Ai a b f):=fun m x hm=>by
 have h1:=Ir (m:=m) (i:=a) (h:=x) (by omega)
 have h2:=Ir (m:=m) (i:=b) (h:=x) (by omega)
 simp [Ai,GF.cells,h1,h2,kM.mD]
theorem Ld {n:Nat}{N:Nm mS}:De n [.map (CJ N)]:=fun m x hm=>by
 have:(CJ N).all (fun e=>e.2.nP m)=true:=by
  simp [CJ,kM.nP,mS.cells,kM.pE,qA]
 simp [pF,this]
theorem Tv {n:Nat}{F:Kn}:De n [.map (CI F)]:=fun m x hm=>by
 have:(CI F).all (fun e=>e.2.nP m)=true:=by
  simp [CI,kM.nP,GF.cells,kM.pE,qA]
 simp [pF,this]
theorem ae5 (h:KT A Q B) {m:Nat}{x:kP}(hm:TN A Q B≤m):nK m x (TQ A F f Q N B)=some (TQ A F f Q N B):=by
 unfold TQ
 have hm':A.length+3+Q.length+B.length≤m:=hm
 refine sN (h.a m hm m x (ac5 _)) ?_
 show nK m x ([.map (CI F)]++([.cells (Ai A.length (A.length+2+Q.length) f)]++(Q++([.map (CJ N)]++B))))=_
 exact sN (Tv m x (ac5 _)) (sN (IJ (axG (by omega) (by omega)) DW m x (ac5 _)) (sN (h.q m hm m x (ac5 _)) (sN (Ld m x (ac5 _)) (h.b m hm m x (ac5 _)))))
theorem wZ (h:KT A Q B):l9 (TN A Q B) (TQ A F f Q N (B++C))=some (TQ A F f Q N B):=by
 have e:TQ A F f Q N (B++C)=TQ A F f Q N B++C:=aeU.symm
 unfold Hk.l9
 rw [e]
 conv=>lhs; rw [show TN A Q B=(TQ A F f Q N B).length from VZ.symm,List.take_left]
 exact ae5 h (by rw [VZ]; exact ac5 _)
theorem tR (h:KT A Q B):l9 (TN A Q B) (TQ A F f Q N B)=some (TQ A F f Q N B):=by
 have:=wZ (F:=F) (f:=f) (N:=N) (C:=[]) h
 rwa [List.append_nil] at this
theorem anS {v:kM}(h:KT A Q B):lY (TN A Q B) v (TQ A F f Q N (B++C))=some (.ret (v.vM (TN A Q B) (TQ A F f Q N (B++C))).mV,TQ A F f Q N B):=by simp [lY,wZ h]
theorem anR {v:kM}(h:KT A Q B):rE (TN A Q B) v (TQ A F f Q N (B++C))=some (.pan (v.vM (TN A Q B) (TQ A F f Q N (B++C))).mV,TQ A F f Q N B):=by simp [rE,wZ h]
theorem aeY {v:kM}(h:KT A Q B):lY (TN A Q B) v (TQ A F f Q N B)=some (.ret (v.vM (TN A Q B) (TQ A F f Q N B)).mV,TQ A F f Q N B):=by simp [lY,tR h]
theorem aeX {v:kM}(h:KT A Q B):rE (TN A Q B) v (TQ A F f Q N B)=some (.pan (v.vM (TN A Q B) (TQ A F f Q N B)).mV,TQ A F f Q N B):=by simp [rE,tR h]
end
def AG (e p:Int):kM:=.iface 141 (.agg [.int .i64 e,.int .i64 p])
theorem agU {m:Nat}{h:kP}{e p:Int}:kM.vM m h (.iface 141 (.agg [.int .i64 e,.int .i64 p]))=.iface 141 (.agg [.int .i64 e,.int .i64 p]):=(rfl)
theorem Wz {e p:Int}:(kM.iface 141 (.agg [.int .i64 e,.int .i64 p])).mV=.iface 141 (.agg [.int .i64 e,.int .i64 p]):=(rfl)
def TR.res {α:Type}(enc:α→kM) (h:kP):TR α→vG×kP
 | .ok v=>(.ret (enc v),h)
 | .bad e p=>(.pan (AG e p),h)
section
variable {α:Type}{enc:α→kM}{v:α}{e p:Int}{h:kP}
theorem aG4:(TR.ok v).res enc h=(.ret (enc v),h):=rfl
theorem aCF:(TR.bad e p:TR α).res enc h=(.pan (AG e p),h):=rfl
end
def aHc:GT→kM:=fun t=>.agg t.cells
def ak3:mS→kM:=fun t=>.agg t.cells
def fEn:GF→kM:=fun f=>.agg f.cells
attribute [simp] TH aaJ Mi TI Mf VZ aeU aeZ anT Kb Mg anX TG aII anU ae3 ae2 anS anR aeY aeX KT.app aG4 aCF tQ IZ AG agU Wz aHc ak3 fEn Ai mS.cells GT.cells GF.cells oL EM
section
variable {A Q B:List lE}{F:Kn}{f:GF}{N:Nm mS}
theorem MJ (hK:KT A Q B) (b:Bool) (e p:Int):KK 131 [.bool b,.int .i64 e,.int .i64 p] (TQ A F f Q N B)=some ((rG b e p).res tQ (TQ A F f Q N B)):=by
 refine k9 (Zf _ _ _ _ _) ?_
 unfold rG
 cases b
 ·simp -implicitDefEqProofs [ah2,hK]
 ·simp -implicitDefEqProofs [ah2,hK]
theorem ayZ (a b:Int) (h:kP):KK 166 [.int .i64 a,.int .i64 b] h=some (.ret (.bool (q9 a b)),h):=by
 refine lA rfl rfl (k9 (arH _ _ _ _) ?_)
 unfold q9
 by_cases h1:a=0
 ·simp -implicitDefEqProofs [aAA,h1,kN]
 ·by_cases h2:b=1 <;> simp -implicitDefEqProofs [aAA,h1,h2,kN]
theorem afX (hK:KT A Q B) (s:List UInt8) (p:Int):KK 165 [.ptr (A.length+1) 0,.str s,.int .i64 p] (TQ A F f Q N B)=some ((vX N s p).res ak3 (TQ A F f Q N B)):=by
 refine k9 (arG _ _ _ _ _) ?_
 have h131:=fun B hK b e p=>MJ (A:=A) (Q:=Q) (F:=F) (f:=f) (N:=N) (B:=B) hK b e p
 unfold vX
 cases hl:look N s with
 | none=>simp -implicitDefEqProofs [aAz,hK,hl,h131,rG]
 | some t=>simp -implicitDefEqProofs [aAz,hK,hl,h131,rG]
end
end
section
open Go Hk
section
variable {A Q B:List lE}{F:Kn}{f:GF}{N:Nm mS}
theorem anV {s:List UInt8}{t:mS}(h:look N s=none):Ad (TQ A F f Q N B) (.map (A.length+2+Q.length)) (.str s) (.agg [.int .i64 t.ty.elem,.int .i64 t.ty.len,.int .i64 t.ty.label,.bool t.fixed])=some (TQ A F f Q (N++[(s,t)]) B):=axR h
theorem aoL (hK:KT A Q B) (s:List UInt8) (t:mS) (p:Int):∃N',KK 132 [.ptr (A.length+1) 0,.str s,.agg t.cells,.int .i64 p] (TQ A F f Q N B)=some (match As N s t p with
  | .ok N1=>(.ret (.tuple []),TQ A F f Q N1 B)
  | .bad e q=>(.pan (AG e q),TQ A F f Q N' B)):=by
 refine⟨N,k9 (aqR _ _ _ _ _ _) ?_⟩
 have h131:=fun B hK b e p=>MJ (A:=A) (Q:=Q) (F:=F) (f:=f) (N:=N) (B:=B) hK b e p
 unfold As
 cases hl:look N s with
 | none =>
  have hp:=fun B=>anV (A:=A) (Q:=Q) (F:=F) (f:=f) (B:=B) (t:=t) hl
  simp -implicitDefEqProofs [aAo,hK,hl,h131,rG,hp]
 | some u=>simp -implicitDefEqProofs [aAo,hK,hl,h131,rG]
def Q6 (A Q:List lE) (F:Kn) (f:GF) (N:Nm mS) (x:GE):Prop:=∀B,KT A Q B→KK 164 [.ptr (A.length+1) 0,.agg x.cells] (TQ A F f Q N B)=some ((xD F N x).res aHc (TQ A F f Q N B))
def Ig (F:Kn) (N:Nm mS) (elem:Int) (x:GE):TR Unit:=(xD F N x).bind fun t=>(rG (t.elem == elem) 14 x.pos).bind fun _=>rG (t.label == 0) 15 x.pos
theorem aoN (hK:KT A Q B) (x:GE) (elem:Int) (hv:Q6 A Q F f N x):KK 168 [.ptr (A.length+1) 0,.agg x.cells,.int .i64 elem] (TQ A F f Q N B)=some ((Ig F N elem x).res tQ (TQ A F f Q N B)):=by
 refine k9 (arK _ _ _ _ _) ?_
 have h131:=fun B hK b e p=>MJ (A:=A) (Q:=Q) (F:=F) (f:=f) (N:=N) (B:=B) hK b e p
 unfold Q6 at hv
 unfold Ig
 obtain⟨k,p,n,nm,args⟩:=x
 simp only [GE.cells] at hv ⊢
 cases hr:xD F N (.mk k p n nm args) with
 | bad e q =>
  rw [hr] at hv
  simp -implicitDefEqProofs [arJ,hK,hv,TR.bind]
 | ok t =>
  rw [hr] at hv
  obtain⟨el,ln,lb⟩:=t
  by_cases h1:el=elem
  ·by_cases h2:lb=0 <;> simp -implicitDefEqProofs [arJ,hK,hv,h131,h1,h2,rG,TR.bind,GE.pos]
  ·simp -implicitDefEqProofs [arJ,hK,hv,h131,h1,rG,TR.bind,GE.pos]
def ahL (F:Kn) (N:Nm mS) (name:List UInt8) (x:GE) (p:Int):TR mS:=(Ig F N 0 x).bind fun _=>(vX N name p).bind fun t=>(rG (decide (0 < t.ty.len)) 14 p).bind fun _=>.ok t
theorem aJq (hK:KT A Q B) (name:List UInt8) (x:GE) (p:Int) (hv:Q6 A Q F f N x):KK 195 [.ptr (A.length+1) 0,.str name,.agg x.cells,.int .i64 p] (TQ A F f Q N B)=some ((ahL F N name x p).res ak3 (TQ A F f Q N B)):=by
 refine k9 (arZ _ _ _ _ _ _) ?_
 have h131:=fun B hK b e p=>MJ (A:=A) (Q:=Q) (F:=F) (f:=f) (N:=N) (B:=B) hK b e p
 have h168:=fun B hK=>aoN (A:=A) (Q:=Q) (F:=F) (f:=f) (N:=N) (B:=B) hK x 0 hv
 have h165:=fun B hK=>afX (A:=A) (Q:=Q) (F:=F) (f:=f) (N:=N) (B:=B) hK name p
 unfold ahL
 obtain⟨k,q,n,nm,args⟩:=x
 simp only [GE.cells] at h168 ⊢
 cases hr:Ig F N 0 (.mk k q n nm args) with
 | bad e q =>
  rw [hr] at h168
  simp -implicitDefEqProofs [arY,hK,h168,TR.bind]
 | ok u =>
  rw [hr] at h168
  cases hn:vX N name p with
  | bad e q =>
   rw [hn] at h165
   simp -implicitDefEqProofs [arY,hK,h168,h165,TR.bind]
  | ok t =>
   rw [hn] at h165
   obtain⟨⟨el,ln,lb⟩,fx⟩:=t
   by_cases h1:0 < ln <;> simp -implicitDefEqProofs [arY,hK,h168,h165,h131,h1,rG,TR.bind]
def YP (F:Kn) (N:Nm mS) (q:GP) (x:GE):TR Unit:=if q.ty.len=0 then(xD F N x).bind fun t=>(rG (t.elem == q.ty.elem) 14 x.pos).bind fun _=>rG (q9 t.label q.ty.label) 15 x.pos else MB N q x.kind x.pos x.name
set_option maxHeartbeats 4000000 in
theorem aJs (hK:KT A Q B) (q:GP) (x:GE) (hv:Q6 A Q F f N x):KK 197 [.ptr (A.length+1) 0,.agg q.cells,.agg x.cells] (TQ A F f Q N B)=some ((YP F N q x).res tQ (TQ A F f Q N B)):=by
 refine k9 (ar1 _ _ _ _ _) ?_
 have h131:=fun B hK b e p=>MJ (A:=A) (Q:=Q) (F:=F) (f:=f) (N:=N) (B:=B) hK b e p
 have h166:=ayZ
 unfold Q6 at hv
 unfold YP
 obtain⟨k,p,n,nm,args⟩:=x
 obtain⟨qp,qn,⟨qe,ql,qb⟩,qo⟩:=q
 simp only [GE.cells,GP.cells] at hv ⊢
 by_cases hq:ql=0
 ·subst hq
  rw [if_pos rfl]
  cases hr:xD F N (.mk k p n nm args) with
  | bad e q =>
   rw [hr] at hv
   simp -implicitDefEqProofs [Ji,hK,hv,TR.bind]
  | ok t =>
   rw [hr] at hv
   obtain⟨el,ln,lb⟩:=t
   by_cases h1:el=qe
   ·cases h2:q9 lb qb <;> simp -implicitDefEqProofs [Ji,hK,hv,h131,h166,h1,h2,rG,TR.bind,GE.pos]
   ·simp -implicitDefEqProofs [Ji,hK,hv,h131,h166,h1,rG,TR.bind,GE.pos]
 ·rw [if_neg hq]
  have h165:=fun B hK=>afX (A:=A) (Q:=Q) (F:=F) (f:=f) (N:=N) (B:=B) hK nm p
  unfold MB
  by_cases hk:k=2
  ·cases hn:vX N nm p with
   | bad e q =>
    rw [hn] at h165
    simp -implicitDefEqProofs [Ji,hK,hq,h165,h131,hk,rG,TR.bind,GE.pos,GE.kind,GE.name,hn]
   | ok t =>
    rw [hn] at h165
    obtain⟨⟨el,ln,lb⟩,fx⟩:=t
    by_cases h1:el=qe
    ·by_cases h2:ln=ql
     ·cases qo
      ·cases h3:q9 lb qb <;> simp -implicitDefEqProofs [Ji,hK,hq,h165,h131,h166,hk,h1,h2,h3,rG,TR.bind,GE.pos,GE.kind,GE.name,hn]
      ·cases fx
       ·cases h3:q9 lb qb
        ·simp -implicitDefEqProofs [Ji,hK,hq,h165,h131,h166,hk,h1,h2,h3,rG,TR.bind,GE.pos,GE.kind,GE.name,hn]
        ·by_cases h4:lb=qb
         ·have h4:=eq_true h4
          simp -implicitDefEqProofs [Ji,hK,hq,h165,h131,h166,hk,h1,h2,h3,h4,rG,TR.bind,GE.pos,GE.kind,GE.name,hn]
         ·simp -implicitDefEqProofs [Ji,hK,hq,h165,h131,h166,hk,h1,h2,h3,h4,rG,TR.bind,GE.pos,GE.kind,GE.name,hn]
       ·simp -implicitDefEqProofs [Ji,hK,hq,h165,h131,h166,hk,h1,h2,rG,TR.bind,GE.pos,GE.kind,GE.name,hn]
     ·simp -implicitDefEqProofs [Ji,hK,hq,h165,h131,h166,hk,h1,h2,rG,TR.bind,GE.pos,GE.kind,GE.name,hn]
    ·simp -implicitDefEqProofs [Ji,hK,hq,h165,h131,h166,hk,h1,rG,TR.bind,GE.pos,GE.kind,GE.name,hn]
  ·simp -implicitDefEqProofs [Ji,hK,hq,h131,hk,rG,TR.bind,GE.pos,GE.kind,GE.name]
end
end
section
open Go Hk
def Ao (l:List Int):List (List kM):=l.map fun e=>[.int .i64 e]
theorem Qw (l:List Int) (hl:l.length≤1000000) (k:Int):∀(u:List Int) (i:Nat) (w:Bool),l.drop i=u→i≤l.length →
  mI (FL KK 0) ([.int .i64 k,.slice (Ao l) .no,.int .i64 0,.bool false,.bool w,.slice (Ao l) .no,.int .i64 (l.length:Int),.int .i64 (i:Int)],[])=some (.exit 0,[.int .i64 k,.slice (Ao l) .no,.int .i64 0,.bool false,.bool (w && u.all (· == 0)),.slice (Ao l) .no,.int .i64 (l.length:Int),.int .i64 (l.length:Int)],[])
 | [],i,w,hd,hi=>by
  have hge:l.length≤i:=by simpa using hd
  have e:i=l.length:=by omega
  subst e
  rw [lZ]
  simp -implicitDefEqProofs [FL,kS,l9]
 | c::u,i,w,hd,hi=>by
  have hlt:i < l.length:=by
   rcases Nat.lt_or_ge i l.length with hx | hx
   ·exact hx
   ·rw [List.drop_eq_nil_of_le hx] at hd; cases hd
  have hc:l[i]'hlt=c:=by
   have:=af5 hlt
   rw [hd] at this
   exact(List.cons.inj this).1.symm
  have hd2:l.drop (i+1)=u:=by
   have:=af5 hlt
   rw [hd] at this
   exact(List.cons.inj this).2.symm
  have w1:=rS (a:=i) (by omega)
  have ih:=fun w=>Qw l hl k u (i+1) w hd2 hlt
  simp only [Ao,ag1,ac7] at ih ⊢
  rw [lZ]
  cases w
  ·simp -implicitDefEqProofs [FL,hlt,hc,kS,l9,w1,ih]
  ·by_cases h0:c=0
   ·simp -implicitDefEqProofs [FL,hlt,hc,h0,kS,l9,w1,ih]
   ·simp -implicitDefEqProofs [FL,hlt,hc,h0,kS,l9,w1,ih]
theorem aJr (k n:Int) (name:List UInt8) (l:List Int) (hk:rL k n name l.length=true) (h5:5≤k) (h:kP):KK 196 [.int .i64 k,.slice (Ao l) .no] h=some (.ret (.tuple [.int .i64 (QC k l).1,.bool (QC k l).2]),h):=by
 have hr:1≤k∧k≤26:=by
  unfold rL tT at hk
  split at hk
  ·cases hk
  ·rename_i m hm
   split at hm
   ·cases hm
   ·omega
 have hlen:l.length=(if k=25 then 3 else if k≤7∨k=14∨k=15∨k=16∨k=26 then 1 else 2):=by
  have hc:k=5∨k=6∨k=7∨k=8∨k=9∨k=10∨k=11∨k=12∨k=13∨k=14∨k=15∨k=16∨k=17∨k=18∨k=19∨k=20∨k=21∨k=22∨k=23∨k=24∨k=25∨k=26:=by omega
  rcases hc with rfl | rfl | rfl | rfl | rfl | rfl | rfl | rfl | rfl | rfl | rfl | rfl | rfl | rfl | rfl | rfl | rfl | rfl | rfl | rfl | rfl | rfl <;>
   (simp [rL,tT] at hk ⊢; omega)
 have hs:([kM.int .i64 k,.slice (Ao l) .no].all (kM.nP 0))=true:=by simp [kM.nP,kM.pE,qA]
 refine lA rfl hs (k9 (ar0 _ _ _ _) ?_)
 have hl:l.length≤1000000:=by rw [hlen]; split <;> (try split) <;> omega
 have lp:=Qw l hl k l 0 true rfl (ah9 _)
 simp only [Bool.true_and,ac7] at lp
 unfold QC
 by_cases h25:k=25
 ·subst h25
  match l,hlen with
  | [a,b,c],_ =>
   simp only [Ao,aj2,al1] at lp ⊢
   simp -implicitDefEqProofs at lp
   by_cases ha:a=1
   ·subst ha
    by_cases hb:b=c
    ·subst hb; simp -implicitDefEqProofs [acI,lp,nZ,kN]
    ·simp -implicitDefEqProofs [acI,lp,nZ,kN,hb]
   ·simp -implicitDefEqProofs [acI,lp,nZ,kN,ha]
 ·rw [if_neg h25] at hlen
  by_cases h1:k≤7∨k=14∨k=15∨k=16∨k=26
  ·rw [if_pos h1] at hlen
   match l,hlen with
   | [a],_ =>
    simp only [Ao,aj2,al1] at lp ⊢
    simp -implicitDefEqProofs at lp
    have hc:k=5∨k=6∨k=7∨k=14∨k=15∨k=16∨k=26:=by omega
    rcases hc with rfl | rfl | rfl | rfl | rfl | rfl | rfl <;> simp -implicitDefEqProofs [acI,lp,nZ,kN] <;> rfl
  ·rw [if_neg h1] at hlen
   match l,hlen with
   | [a,b],_ =>
    simp only [Ao,aj2,al1] at lp ⊢
    simp -implicitDefEqProofs at lp
    have hc:k=8∨k=9∨k=10∨k=11∨k=12∨k=13∨k=17∨k=18∨k=19∨k=20∨k=21∨k=22∨k=23∨k=24:=by omega
    rcases hc with rfl | rfl | rfl | rfl | rfl | rfl | rfl | rfl | rfl | rfl | rfl | rfl | rfl | rfl <;> simp -implicitDefEqProofs [acI,lp,nZ,kN] <;> rfl
end
section
open Go Hk
def Fw (mb cb:lE) (A:List lE) (Q:List lE) (N:Nm mS) (B:List lE):kP:=A++(mb::cb::(Q++(.map (CJ N)::B)))
section
variable {A Q B C C' B':List lE}{F:Kn}{f:GF}{N N':Nm mS}{k:Nat}{mb cb:lE}
theorem anY:Fw mb cb A Q N B++C=Fw mb cb A Q N (B++C):=by simp [Fw]
theorem anZ:(Fw mb cb A Q N B).length=TN A Q B:=by simp [Fw,TN]; omega
theorem IL:Fw mb cb A Q N B=(A++(mb::cb::(Q++[.map (CJ N)])))++B:=by simp [Fw]
theorem Lf:(A++(mb::cb::(Q++[lE.map (CJ N)]))).length=A.length+3+Q.length:=by simp; omega
theorem axS:(Fw mb cb A Q N (B++C))[TN A Q B+k]?=C[k]?:=by
 rw [IL,←af9,ac9 (by rw [ac2,Lf]; unfold TN; omega),ac2,Lf]
 unfold TN
 rw [show A.length+3+Q.length+B.length+k - (A.length+3+Q.length+B.length)=k by omega]
theorem Yf {x:lE}:List.set (Fw mb cb A Q N (B++C)) (TN A Q B+k) x=Fw mb cb A Q N (B++C.set k x):=by
 rw [IL,IL,←af9,←af9,List.set_append_right _ _ (by rw [ac2,Lf]; unfold TN; omega),ac2,Lf]
 unfold TN
 rw [show A.length+3+Q.length+B.length+k - (A.length+3+Q.length+B.length)=k by omega]
theorem PT:oB (Fw mb cb A Q N (B++C)) (TN A Q B+k)=Fw mb cb A Q N (B++oB C k):=by
 unfold oB
 rw [axS]
 cases C[k]? with
 | none=>rfl
 | some b=>cases b <;> first | rfl | exact Yf
theorem V5:oB (Fw mb cb A Q N (B++C)) (TN A Q B)=Fw mb cb A Q N (B++oB C 0):=PT (k:=0)
theorem Kc:mL (TQ A F f Q N (B++C)) (Fw mb cb A Q N (B++C')) (TN A Q B+k)=Fw mb cb A Q N (B++mL C C' k):=by
 unfold mL
 rw [Kb]
 cases C[k]? with
 | none=>rfl
 | some b=>cases b <;> first | rfl | exact Yf
theorem Q5:mL (TQ A F f Q N (B++C)) (Fw mb cb A Q N (B++C')) (TN A Q B)=Fw mb cb A Q N (B++mL C C' 0):=Kc (k:=0)
theorem aeV:(TQ A F f Q N B)[A.length+1]?=some (.cells (Ai A.length (A.length+2+Q.length) f)):=by
 unfold TQ
 rw [ac9 (by omega),show A.length+1 - A.length=1 by omega]; rfl
theorem ae4:(TQ A F f Q N B)[A.length]?=some (.map (CI F)):=by
 unfold TQ
 rw [ac9 (ac5 _),Nat.sub_self]; rfl
theorem ae0:oB (TQ A F f Q N B) (A.length+1)=Fw (.map (CI F)) .gone A Q N B:=by
 unfold oB
 rw [aeV]
 show List.set (TQ A F f Q N B) (A.length+1) .gone=_
 unfold TQ Fw
 rw [List.set_append_right _ _ (by omega),show A.length+1 - A.length=1 by omega]; rfl
theorem ae1 {es:List (kM×kM)}:oB (Fw (.map es) cb A Q N B) A.length=Fw .gone cb A Q N B:=by
 have h:(Fw (.map es) cb A Q N B)[A.length]?=some (.map es):=by
  unfold Fw
  rw [ac9 (ac5 _),Nat.sub_self]; rfl
 unfold oB
 rw [h]
 show List.set (Fw (.map es) cb A Q N B) A.length .gone=_
 unfold Fw
 rw [List.set_append_right _ _ (ac5 _),Nat.sub_self]; rfl
theorem V4:mL (TQ A F f Q N B) (Fw mb cb A Q N' B') (A.length+1)=Fw mb (.cells (Ai A.length (A.length+2+Q.length) f)) A Q N' B':=by
 unfold mL
 rw [aeV]
 show List.set (Fw mb cb A Q N' B') (A.length+1) (.cells (Ai A.length (A.length+2+Q.length) f))=_
 unfold Fw
 rw [List.set_append_right _ _ (by omega),show A.length+1 - A.length=1 by omega]; rfl
theorem Mj:mL (TQ A F f Q N B) (Fw mb (.cells (Ai A.length (A.length+2+Q.length) f)) A Q N' B') A.length=TQ A F f Q N' B':=by
 unfold mL
 rw [ae4]
 show List.set (Fw mb (.cells (Ai A.length (A.length+2+Q.length) f)) A Q N' B') A.length (.map (CI F))=_
 unfold TQ Fw
 rw [List.set_append_right _ _ (ac5 _),Nat.sub_self]; rfl
theorem TJ:mL (TQ A F f Q N B) (Fw mb (.cells (.map A.length::.map (A.length+2+Q.length)::.int .i64 f.pos::.str f.name::.slice (f.params.map GP.cells) .no::.bool f.has::.int .i64 f.result.elem::.int .i64 f.result.len::.int .i64 f.result.label::[.slice (f.body.map GS.cells) .no])) A Q N' B') A.length=TQ A F f Q N' B':=Mj
theorem We {i:Nat}:pK (.map i)=some i:=(rfl)
theorem aeT {a b:Nat}:TN A Q B+a+b=TN A Q B+(a+b):=Nat.add_assoc _ _ _
end
attribute [simp] anY anZ PT V5 Kc Q5 ae0 ae1 V4 Mj TJ We aeT
section
variable {A Q B:List lE}{F:Kn}{f:GF}{N:Nm mS}
def cC (A Q B : List lE) (k p n : Int) (nm : List UInt8) (args : List GE) (g : GF) (c : Int) : List lE :=
  [.cells [.int .i64 k, .int .i64 p, .int .i64 n, .str nm, .slice (args.map GE.cells) .no],
   .cells [.int .i64 0, .str [], .slice [] (.own (TN A Q B + 2)), .bool false, .int .i64 0, .int .i64 0, .int .i64 0, .slice [] (.own (TN A Q B + 3))], .front 0 0, .front 0 0,
   .cells [.int .i64 g.pos, .str g.name, .slice (g.params.map GP.cells) .no, .bool g.has, .int .i64 g.result.elem, .int .i64 g.result.len, .int .i64 g.result.label, .slice (g.body.map GS.cells) .no, .int .i64 c], .front 0 0, .front 0 0]
theorem Qv (hK:KT A Q B) (k p n:Int) (nm:List UInt8) (args:List GE) (g:GF) (c:Int) (hv:∀y∈args,Q6 A Q F f N y) (hl:args.length≤4611686018427387904) (hlen:g.params.length=args.length):∀(u:List GE) (v:List GP) (i:Nat),args.drop i=u→g.params.drop i=v→i≤args.length →
  ∃j:Int,mI (HX KK (TN A Q B+7)) ([.ptr (A.length+1) 0,.ptr (TN A Q B) 0,.ptr (TN A Q B+1) 0,.ptr (TN A Q B+4) 0,.slice (g.params.map GP.cells) .no,.int .i64 (args.length:Int),.int .i64 (i:Int)],TQ A F f Q N (B++cC A Q B k p n nm args g c)) =
   some (match rU F N v u with
    | .ok _=>(.exit 0,[.ptr (A.length+1) 0,.ptr (TN A Q B) 0,.ptr (TN A Q B+1) 0,.ptr (TN A Q B+4) 0,.slice (g.params.map GP.cells) .no,.int .i64 (args.length:Int),.int .i64 (args.length:Int)],TQ A F f Q N (B++cC A Q B k p n nm args g c))
    | .bad e q=>(.pan (AG e q),[.ptr (A.length+1) 0,.ptr (TN A Q B) 0,.ptr (TN A Q B+1) 0,.ptr (TN A Q B+4) 0,.slice (g.params.map GP.cells) .no,.int .i64 (args.length:Int),.int .i64 j],TQ A F f Q N (B++cC A Q B k p n nm args g c)))
 | [],v,i,hd,hd2,hi=>by
  have hge:args.length≤i:=by simpa using hd
  have e:i=args.length:=by omega
  subst e
  have hv0:v=[]:=by rw [←hd2,←hlen]; simp
  subst hv0
  have hKC:KT A Q (B++cC A Q B k p n nm args g c):=hK.app (by simp [cC])
  have htr:=tR (F:=F) (f:=f) (N:=N) hKC
  have hm:TN A Q (B++cC A Q B k p n nm args g c)=TN A Q B+7:=by simp [cC]
  rw [hm] at htr
  refine⟨0,?_⟩
  rw [lZ]
  have q:∀h i,i < A.length+3+Q.length+B.length+7→kM.mO (TN A Q B+7) h (.ptr i 0)=.ptr i 0:=fun h i hi=>lC (by unfold TN; exact hi)
  have q0:=fun h=>q h (A.length+1) (by omega)
  have q1:=fun h=>q h (TN A Q B) (by unfold TN; omega)
  have q2:=fun h=>q h (TN A Q B+1) (by unfold TN; omega)
  have q3:=fun h=>q h (TN A Q B+4) (by unfold TN; omega)
  simp -implicitDefEqProofs [HX,rU,kS,htr,q0,q1,q2,q3]
 | x::u,[],i,hd,hd2,hi=>by
  have h1:g.params.length≤i:=by simpa using hd2
  rw [List.drop_eq_nil_of_le (by omega)] at hd
  cases hd
 | x::u,y::v,i,hd,hd2,hi=>by
  have hlt:i < args.length:=by
   rcases Nat.lt_or_ge i args.length with hx | hx
   ·exact hx
   ·rw [List.drop_eq_nil_of_le hx] at hd; cases hd
  have hlt2:i < g.params.length:=by omega
  have ha:=af5 hlt
  rw [hd] at ha
  have hx:args[i]'hlt=x:=(List.cons.inj ha).1.symm
  have hd3:args.drop (i+1)=u:=(List.cons.inj ha).2.symm
  have hb:=af5 hlt2
  rw [hd2] at hb
  have hy:g.params[i]'hlt2=y:=(List.cons.inj hb).1.symm
  have hd4:g.params.drop (i+1)=v:=(List.cons.inj hb).2.symm
  have hvx:=hv x (hx ▸ List.getElem_mem hlt)
  have h197:=fun B hK=>aJs (A:=A) (Q:=Q) (F:=F) (f:=f) (N:=N) (B:=B) hK y x hvx
  have w1:=rS (a:=i) (by omega)
  have hKC:KT A Q (B++cC A Q B k p n nm args g c):=hK.app (by simp [cC])
  have htr:=fun C=>wZ (C:=C) (F:=F) (f:=f) (N:=N) hKC
  have hm:TN A Q (B++cC A Q B k p n nm args g c)=TN A Q B+7:=by simp [cC]
  rw [hm] at htr
  have q:∀h i,i < A.length+3+Q.length+B.length+7→kM.mO (TN A Q B+7) h (.ptr i 0)=.ptr i 0:=fun h i hi=>lC (by unfold TN; exact hi)
  have q0:=fun h=>q h (A.length+1) (by omega)
  have q1:=fun h=>q h (TN A Q B) (by unfold TN; omega)
  have q2:=fun h=>q h (TN A Q B+1) (by unfold TN; omega)
  have q3:=fun h=>q h (TN A Q B+4) (by unfold TN; omega)
  obtain⟨j,ih⟩:=Qv hK k p n nm args g c hv hl hlen u v (i+1) hd3 hd4 hlt
  have e:rU F N (y::v) (x::u)=(YP F N y x).bind fun _=>rU F N v u:=by rw [rU]; rfl
  rw [e]
  obtain⟨yp,yn,⟨ye,yl,yb⟩,yo⟩:=y
  obtain⟨xk,xp,xn,xm,xa⟩:=x
  simp only [cC,GP.cells,GE.cells,ag1,ac7,af9,af2,ah4] at h197 htr ih ⊢
  cases hr:YP F N ⟨yp,yn,⟨ye,yl,yb⟩,yo⟩ (.mk xk xp xn xm xa) with
  | bad e2 q2' =>
   rw [hr] at h197
   refine⟨i,?_⟩
   rw [lZ]
   simp -implicitDefEqProofs [HX,hlt,hlt2,hlen,hx,hy,GP.cells,GE.cells,h197,hK,TR.bind,kS,htr,q0,q1,q2,q3]
  | ok _ =>
   rw [hr] at h197
   refine⟨j,?_⟩
   rw [lZ]
   simp -implicitDefEqProofs [HX,hlt,hlt2,hlen,hx,hy,GP.cells,GE.cells,h197,hK,TR.bind,kS,htr,q0,q1,q2,q3,w1,ih]
end
section
variable {A Q B:List lE}{F:Kn}{f:GF}{N:Nm mS}
theorem aEC (hK:KT A Q B) (x:GE) (hv:∀y∈x.args,Q6 A Q F f N y) (hl:x.args.length≤4611686018427387904):KK 170 [.ptr (A.length+1) 0,.agg x.cells] (TQ A F f Q N B)=some ((Ci F N x).res fEn (TQ A F f Q N B)):=by
 refine k9 (arM _ _ _ _) ?_
 have h131:=fun B hK b e p=>MJ (A:=A) (Q:=Q) (F:=F) (f:=f) (N:=N) (B:=B) hK b e p
 unfold Ci
 obtain⟨k,p,n,nm,args⟩:=x
 simp only [GE.cells,GE.name,GE.pos,GE.args] at hv hl ⊢
 cases hf:look F nm with
 | none=>simp -implicitDefEqProofs [ah6,hK,hf,h131,rG]
 | some a =>
  obtain⟨⟨gp,gn,gps,gh,⟨ge,gl,gb⟩,gbody⟩,c⟩:=a
  by_cases hlen:gps.length=args.length
  ·obtain⟨j,hlp⟩:=Qv hK k p n nm args ⟨gp,gn,gps,gh,⟨ge,gl,gb⟩,gbody⟩ c hv hl hlen args gps 0 rfl rfl (ah9 _)
   simp only [cC,ac7] at hlp
   cases hr:rU F N gps args with
   | bad e q =>
    rw [hr] at hlp
    simp -implicitDefEqProofs [ah6,hK,hf,h131,rG,hlen,GE.nO,TR.bind,hlp,hr]
   | ok _ =>
    rw [hr] at hlp
    simp -implicitDefEqProofs [ah6,hK,hf,h131,rG,hlen,GE.nO,TR.bind,hlp,hr]
  ·have hlen':((gps.length:Int)=args.length)=False:=eq_false (by omega)
   simp -implicitDefEqProofs [ah6,hK,hf,h131,rG,hlen,hlen',GE.nO,TR.bind]
end
end
section
open Go Hk
def FQ (A:List lE) (F:Kn) (w:kM) (f:List kM) (B:List lE):kP:=A++(.map (CI F)::.cells (.map A.length::w::f)::B)
def FN (A B:List lE):Nat:=A.length+2+B.length
structure FK (A B:List lE) (w:kM) (f:List kM):Prop where
 a:De (FN A B) A
 b:De (FN A B) B
 w:B_ (FN A B) (w::f)
 l:f.length=8
section
variable {A Q B C:List lE}{F:Kn}{f:List kM}{w:kM}{N N':Nm mS}{k:Nat}
theorem Ca:FN A (B++C)=FN A B+C.length:=by simp [FN]; omega
theorem axH {n m:Nat}{cs:List kM}(h:B_ n cs) (hm:n≤m):B_ m cs:=fun a b c=>h a b (by omega)
theorem FK.app (h:FK A B w f) (hC:De (FN A B+C.length) C):FK A (B++C) w f :=
 ⟨by rw [Ca]; exact h.a.mono (by omega),by rw [Ca]; exact Fu (h.b.mono (by omega)) hC,by rw [Ca]; exact axH h.w (by omega),h.l⟩
theorem IG:FQ A F w f B++C=FQ A F w f (B++C):=by simp [FQ]
theorem Gq:(FQ A F w f B).length=FN A B:=by simp [FQ,FN]; omega
theorem L3:FQ A F w f B=(A++[.map (CI F),.cells (.map A.length::w::f)])++B:=by simp [FQ]
theorem Q0:(A++[lE.map (CI F),lE.cells (.map A.length::w::f)]).length=A.length+2:=by simp
theorem L0:(FQ A F w f (B++C))[FN A B+k]?=C[k]?:=by
 rw [L3,←af9,ac9 (by rw [ac2,Q0]; unfold FN; omega),ac2,Q0]
 unfold FN
 rw [show A.length+2+B.length+k - (A.length+2+B.length)=k by omega]
theorem IH:(FQ A F w f (B++C))[FN A B]?=C[0]?:=L0 (k:=0)
theorem L1:mY (FQ A F w f (B++C)) (FN A B+k)=mY C k:=by unfold mY; rw [L0]
theorem Lc:mY (FQ A F w f (B++C)) (FN A B)=mY C 0:=L1 (k:=0)
theorem EF:qL (FQ A F w f (B++C)) (FN A B+k)=qL C k:=by unfold qL; rw [L0]
theorem Fq:qL (FQ A F w f (B++C)) (FN A B)=qL C 0:=EF (k:=0)
theorem L2 {x:lE}:List.set (FQ A F w f (B++C)) (FN A B+k) x=FQ A F w f (B++C.set k x):=by
 rw [L3,L3,←af9,←af9,List.set_append_right _ _ (by rw [ac2,Q0]; unfold FN; omega),ac2,Q0]
 unfold FN
 rw [show A.length+2+B.length+k - (A.length+2+B.length)=k by omega]
theorem Fs {x:lE}:List.set (FQ A F w f (B++C)) (FN A B) x=FQ A F w f (B++C.set 0 x):=L2 (k:=0)
theorem aD5:mY (FQ A F w f B) (A.length+1)=some (.map A.length::w::f):=by
 unfold mY FQ
 rw [ac9 (by omega),show A.length+1 - A.length=1 by omega]; rfl
theorem X_ {a:kM}{g:List kM}:List.set (FQ A F w f B) (A.length+1) (.cells (.map A.length::a::g))=FQ A F a g B:=by
 unfold FQ
 rw [List.set_append_right _ _ (by omega),show A.length+1 - A.length=1 by omega]; rfl
theorem aD6:zC (FQ A F w f B) (.map A.length)=some (CI F):=by
 unfold zC FQ
 simp only [ac9 (ac5 _),Nat.sub_self,List.getElem?_cons_zero]
theorem ad6 {z:kM}{s:List UInt8}:q7 z true (FQ A F w f B) (.map A.length) (.str s)=some (match look F s with | some t=>.tuple [.agg (t.1.cells++[.int .i64 t.2]),.bool true] | none=>.tuple [z,.bool false]):=by
 unfold q7
 rw [aD6]
 simp only [CI,yH (fun t:GF×Int=>kM.agg (t.1.cells++[.int .i64 t.2]))]
 cases look F s <;> rfl
theorem Tn {z:kM}{s:List UInt8}:q7 z false (FQ A F w f B) (.map A.length) (.str s)=some (match look F s with | some t=>.agg (t.1.cells++[.int .i64 t.2]) | none=>z):=by
 unfold q7
 rw [aD6]
 simp only [CI,yH (fun t:GF×Int=>kM.agg (t.1.cells++[.int .i64 t.2]))]
 cases look F s <;> rfl
theorem ad7 (h:FK A B w f) {m:Nat}{x:kP}(hm:FN A B≤m):nK m x (FQ A F w f B)=some (FQ A F w f B):=by
 unfold FQ
 have hm':A.length+2+B.length≤m:=hm
 refine sN (h.a m x hm) ?_
 show nK m x ([.map (CI F)]++([.cells (.map A.length::w::f)]++B))=_
 refine sN (Tv m x (ac5 _)) (sN (IJ ?_ DW m x (ac5 _)) (h.b m x hm))
 intro m1 x1 h1
 have hw:=h.w m1 x1 (by omega)
 have h2:=Ir (m:=m1) (i:=A.length) (h:=x1) (by omega)
 have h6:kM.mD (.map A.length)=true:=rfl
 rw [nI,h2,h6,hw]
 rfl
theorem Dr (h:FK A B w f):l9 (FN A B) (FQ A F w f (B++C))=some (FQ A F w f B):=by
 have e:FQ A F w f (B++C)=FQ A F w f B++C:=IG.symm
 unfold Hk.l9
 rw [e]
 conv=>lhs; rw [show FN A B=(FQ A F w f B).length from Gq.symm,List.take_left]
 exact ad7 h (by rw [Gq]; exact ac5 _)
theorem zI (h:FK A B w f):l9 (FN A B) (FQ A F w f B)=some (FQ A F w f B):=by
 have:=Dr (F:=F) (f:=f) (C:=[]) h
 rwa [List.append_nil] at this
theorem amT {v:kM}(h:FK A B w f):lY (FN A B) v (FQ A F w f (B++C))=some (.ret (v.vM (FN A B) (FQ A F w f (B++C))).mV,FQ A F w f B):=by simp [lY,Dr h]
theorem amS {v:kM}(h:FK A B w f):rE (FN A B) v (FQ A F w f (B++C))=some (.pan (v.vM (FN A B) (FQ A F w f (B++C))).mV,FQ A F w f B):=by simp [rE,Dr h]
theorem ad5 {v:kM}(h:FK A B w f):lY (FN A B) v (FQ A F w f B)=some (.ret (v.vM (FN A B) (FQ A F w f B)).mV,FQ A F w f B):=by simp [lY,zI h]
theorem ad4 {v:kM}(h:FK A B w f):rE (FN A B) v (FQ A F w f B)=some (.pan (v.vM (FN A B) (FQ A F w f B)).mV,FQ A F w f B):=by simp [rE,zI h]
theorem auT {g:GF}:FQ A F (.map (A.length+2+Q.length)) g.cells (Q++.map (CJ N)::B)=TQ A F g Q N B:=by simp [FQ,TQ,Ai]
theorem agA {ids:List Nat}{x:Option R}:IE ids (FQ A F w f B) (FQ A F w f (B++C)) x=x:=by
 induction ids with
 | nil=>rfl
 | cons i r ih =>
  rw [IE,if_pos,ih]
  intro b hb
  rw [←IG]
  rw [List.getElem?_append_left]
  ·exact hb
  ·exact(List.getElem?_eq_some_iff.1 hb).1
theorem agC {ids:List Nat}{h:kP}{x:Option R}:IE ids h h x=x:=by
 induction ids with
 | nil=>rfl
 | cons i r ih=>rw [IE,if_pos (fun _ h=>h),ih]
theorem aoW {ids:List Nat}{h:kP}{j:Nat}{b:lE}{x:Option R}(hj:∀i∈ids,i≠j):IE ids h (h.set j b) x=x:=by
 induction ids with
 | nil=>rfl
 | cons i r ih =>
  rw [IE,if_pos,ih (fun a ha=>hj a (by simp [ha]))]
  intro b' hb
  rw [List.getElem?_set_ne (Ne.symm (hj i (by simp)))]
  exact hb
theorem agB {ids:List Nat}{x:Option R}{a:kM}{g:List kM}(hj:∀i∈ids,i≠A.length+1):IE ids (FQ A F w f B) (FQ A F a g B) x=x:=by
 have e:FQ A F a g B=List.set (FQ A F w f B) (A.length+1) (.cells (.map A.length::a::g)):=X_.symm
 rw [e]
 exact aoW hj
theorem aEB {h:kP}(ht:l9 h.length h=some h) (b:Bool) (e p:Int):KK 131 [.bool b,.int .i64 e,.int .i64 p] h=some ((rG b e p).res tQ h):=by
 refine k9 (Zf _ _ _ _ _) ?_
 unfold rG
 cases b
 ·simp -implicitDefEqProofs [ah2,rE,ht]
 ·simp -implicitDefEqProofs [ah2,lY,ht]
theorem Yu (hK:FK A B w f) (b:Bool) (e p:Int):KK 131 [.bool b,.int .i64 e,.int .i64 p] (FQ A F w f B)=some ((rG b e p).res tQ (FQ A F w f B)) :=
 aEB (by rw [Gq]; exact zI hK) b e p
end
section
variable {A Q B C:List lE}{F:Kn}{f:GF}{N N':Nm mS}
theorem aIK {cs:List kM}{D:List lE}:mY (TQ A F f (C++.cells cs::D) N B) (A.length+2+C.length)=some cs:=by
 unfold mY TQ
 rw [ac9 (by omega),show A.length+2+C.length - A.length=C.length+2 by omega,List.getElem?_cons_succ,List.getElem?_cons_succ,af9,ac9 (ac5 _),Nat.sub_self]; rfl
theorem anW {s:List UInt8}{g:GF}{c:Int}(h:look F s=none):Ad (TQ A F f Q N B) (.map A.length) (.str s) (.agg (g.cells++[.int .i64 c]))=some (TQ A (F++[(s,(g,c))]) f Q N B):=by
 have hm:(TQ A F f Q N B)[A.length]?=some (.map (CI F)):=ae4
 unfold Ad
 simp only [hm]
 simp only [CI,yH (fun t:GF×Int=>kM.agg (t.1.cells++[.int .i64 t.2])),MA (fun t:GF×Int=>kM.agg (t.1.cells++[.int .i64 t.2])) s (g,c) F h]
 refine congrArg some ?_
 unfold TQ
 rw [List.set_append_right _ _ (ac5 _),Nat.sub_self]; rfl
end
end
section
open Go Hk
section
variable {A Q B:List lE}{F:Kn}{f:GF}{N:Nm mS}
def fz (n:Nat):Nat:=if n=0 then 0 else 1
def vC (k p n:Int) (nm:List UInt8) (args:List GE) (lab:Int) (m:Nat):List lE :=
 [.cells [.int .i64 k,.int .i64 p,.int .i64 n,.str nm,.slice (args.map GE.cells) .no],.cells [.int .i64 0,.int .i64 0,.int .i64 0],.cells [.int .i64 0,.int .i64 0,.int .i64 lab],.front m (fz m)]
theorem aLj {x0 x1 x2:lE}{U:List lE}{es:List Int}{e:Int}{t:Tok}(h:es.length≤1000000) :
  mG 1 8 (TQ A F f Q N (B++x0::x1::x2::.front es.length (fz es.length)::U)) (.slice (Ao es) (.own (TN A Q B+3))) (.slice [[.int .i64 e]] t)=some (.slice (Ao (es++[e])) (.own (TN A Q B+3)),TQ A F f Q N (B++x0::x1::x2::.front (es.length+1) (fz (es.length+1))::U)):=by
 have hb1:(es.length+1) * 8≤140737488355328:=by omega
 have hb2:es.length+1≤140737488355328:=by omega
 have hf:(fz es.length=1∨es=[]∧fz es.length=0):=by
  cases es with
  | nil=>exact .inr ⟨rfl,rfl⟩
  | cons a r=>exact .inl rfl
 have hl:(Ao es).length=es.length:=by simp [Ao]
 have hat:(TQ A F f Q N (B++x0::x1::x2::.front es.length (fz es.length)::U))[TN A Q B+3]?=some (.front es.length (fz es.length)):=Kb (k:=3)
 have hr:pY 1 (TQ A F f Q N (B++x0::x1::x2::.front es.length (fz es.length)::U)) (.slice [[.int .i64 e]] t)=some [[.int .i64 e]]:=by simp [pY]
 have hset:List.set (TQ A F f Q N (B++x0::x1::x2::.front es.length (fz es.length)::U)) (TN A Q B+3) (.front (es.length+1) 1)=TQ A F f Q N (B++x0::x1::x2::.front (es.length+1) (fz (es.length+1))::U):=Mg (k:=3)
 unfold mG
 rw [hr]
 simp only [hat]
 rw [if_pos ⟨hl,by rcases hf with h | h; exact .inl h; exact .inr ⟨by rw [h.1]; rfl,h.2⟩,hb1,hb2⟩,if_neg (by simp)]
 simp only [ac8,ad0,al6,hset,Ao,List.map_append,aj2,al1]
theorem Yt {e:Int}{h:kP}:kW 1 1 [.int .i64 0] [(0,.int .i64 e)] h=some (.slice [[.int .i64 e]] (.own h.length),h++[.front 1 1]):=(rfl)
theorem Qu (hK:KT A Q B) (k p n:Int) (nm:List UInt8) (args:List GE) (hv:∀y∈args,Q6 A Q F f N y) (hl:args.length≤1000):∀(u:List GE) (i:Nat) (lab:Int) (es:List Int),args.drop i=u→i≤args.length→es.length=i →
  ∃(j lab':Int) (es':List Int),mI (FH KK (TN A Q B+4)) ([.ptr (A.length+1) 0,.ptr (TN A Q B) 0,.ptr (TN A Q B+1) 0,.ptr (TN A Q B+2) 0,.slice (Ao es) (.own (TN A Q B+3)),.slice (args.map GE.cells) .no,.int .i64 (args.length:Int),.int .i64 (i:Int)],TQ A F f Q N (B++vC k p n nm args lab es.length)) =
   some (match wO F N u with
    | .ok l=>(.exit 1,[.ptr (A.length+1) 0,.ptr (TN A Q B) 0,.ptr (TN A Q B+1) 0,.ptr (TN A Q B+2) 0,.slice (Ao (es++l.map GT.elem)) (.own (TN A Q B+3)),.slice (args.map GE.cells) .no,.int .i64 (args.length:Int),.int .i64 (args.length:Int)],TQ A F f Q N (B++vC k p n nm args (Sr l lab) (es++l.map GT.elem).length))
    | .bad e q=>(.pan (AG e q),[.ptr (A.length+1) 0,.ptr (TN A Q B) 0,.ptr (TN A Q B+1) 0,.ptr (TN A Q B+2) 0,.slice (Ao es') (.own (TN A Q B+3)),.slice (args.map GE.cells) .no,.int .i64 (args.length:Int),.int .i64 j],TQ A F f Q N (B++vC k p n nm args lab' es'.length)))
 | [],i,lab,es,hd,hi,he=>by
  have hge:args.length≤i:=by simpa using hd
  have e:i=args.length:=by omega
  subst e
  have hKC:KT A Q (B++vC k p n nm args lab es.length):=hK.app (by simp [vC])
  have htr:=tR (F:=F) (f:=f) (N:=N) hKC
  have hm:TN A Q (B++vC k p n nm args lab es.length)=TN A Q B+4:=by simp [vC]
  rw [hm] at htr
  have q:∀h i,i < A.length+3+Q.length+B.length+4→kM.mO (TN A Q B+4) h (.ptr i 0)=.ptr i 0:=fun h i hi=>lC (by unfold TN; exact hi)
  have q0:=fun h=>q h (A.length+1) (by omega)
  have q1:=fun h=>q h (TN A Q B) (by unfold TN; omega)
  have q2:=fun h=>q h (TN A Q B+1) (by unfold TN; omega)
  have q3:=fun h=>q h (TN A Q B+2) (by unfold TN; omega)
  refine⟨0,0,[],?_⟩
  rw [lZ]
  simp -implicitDefEqProofs [FH,wO,Sr,kS,htr,q0,q1,q2,q3]
 | x::u,i,lab,es,hd,hi,he=>by
  have hlt:i < args.length:=by
   rcases Nat.lt_or_ge i args.length with hx | hx
   ·exact hx
   ·rw [List.drop_eq_nil_of_le hx] at hd; cases hd
  have ha:=af5 hlt
  rw [hd] at ha
  have hx:args[i]'hlt=x:=(List.cons.inj ha).1.symm
  have hd3:args.drop (i+1)=u:=(List.cons.inj ha).2.symm
  have hvx:=hv x (hx ▸ List.getElem_mem hlt)
  have w1:=rS (a:=i) (by omega)
  have hKC:∀lab m,KT A Q (B++vC k p n nm args lab m):=fun lab m=>hK.app (by simp [vC])
  have htr:=fun lab m C=>wZ (C:=C) (F:=F) (f:=f) (N:=N) (hKC lab m)
  have hm:∀lab m,TN A Q (B++vC k p n nm args lab m)=TN A Q B+4:=fun lab m=>by simp [vC]
  simp only [hm] at htr
  have q:∀h i,i < A.length+3+Q.length+B.length+4→kM.mO (TN A Q B+4) h (.ptr i 0)=.ptr i 0:=fun h i hi=>lC (by unfold TN; exact hi)
  have q0:=fun h=>q h (A.length+1) (by omega)
  have q1:=fun h=>q h (TN A Q B) (by unfold TN; omega)
  have q2:=fun h=>q h (TN A Q B+1) (by unfold TN; omega)
  have q3:=fun h=>q h (TN A Q B+2) (by unfold TN; omega)
  have hap:=fun x0 x1 x2 U e t=>aLj (A:=A) (Q:=Q) (F:=F) (f:=f) (N:=N) (B:=B) (x0:=x0) (x1:=x1) (x2:=x2) (U:=U) (es:=es) (e:=e) (t:=t) (by omega)
  obtain⟨xk,xp,xn,xm,xa⟩:=x
  unfold Q6 at hvx
  rw [wO]
  simp only [vC,GE.cells,ag1,ac7,af9,af2,ah4] at hvx htr ⊢
  cases hr:xD F N (.mk xk xp xn xm xa) with
  | bad e2 q2' =>
   rw [hr] at hvx
   refine⟨i,lab,es,?_⟩
   rw [lZ]
   simp -implicitDefEqProofs [FH,hlt,hx,GE.cells,hvx,hK,TR.bind,kS,htr,q0,q1,q2,q3]
  | ok t =>
   rw [hr] at hvx
   obtain⟨te,tl,tb⟩:=t
   obtain⟨j,lab',es',ih⟩:=Qu hK k p n nm args hv hl u (i+1) (max lab tb) (es++[te]) hd3 hlt (by simp [he])
   simp only [vC,ag1,ac7,af9,af2,ah4,ac2,ac8,ad0,al6] at ih
   refine⟨j,lab',es',?_⟩
   rw [lZ]
   cases hr2:wO F N u with
   | bad e3 q3' =>
    rw [hr2] at ih
    simp -implicitDefEqProofs [FH,hlt,hx,GE.cells,hvx,hK,TR.bind,kS,htr,q0,q1,q2,q3,w1,Yt,hap,ih]
   | ok l =>
    rw [hr2] at ih
    simp -implicitDefEqProofs [FH,hlt,hx,GE.cells,hvx,hK,TR.bind,kS,htr,q0,q1,q2,q3,w1,Yt,hap,ih,Sr]
end
end
section
open Go Hk
section
variable {A Q:List lE}{F:Kn}{f:GF}{N:Nm mS}
theorem yI {c:List kM}{r:List (List kM)}{t:Tok}(hc:c.length=5):kX 5 (.slice (c::r) t) (.int .i64 0)=some (.pptr c):=by rw [nZ]; simp [hc]
theorem alC (x:GE) (hk:x.kind=4):xD F N x=(Ci F N x).bind fun g=>(rG g.has 14 x.pos).bind fun _=>.ok g.result:=by
 obtain⟨k,p,n,nm,args⟩:=x
 have hk:k=4:=hk
 subst hk
 rw [xD]
 unfold Ci
 simp only [GE.name,GE.args,GE.pos]
 rw [if_neg (by decide),if_neg (by decide),if_neg (by decide),if_pos trivial]
 cases look F nm with
 | none=>rfl
 | some a =>
  obtain⟨g,c⟩:=a
  simp only
  cases rG (g.params.length == args.length) 16 p with
  | bad e q=>rfl
  | ok _ =>
   simp only [TR.bind]
   cases rU F N g.params args <;> rfl
theorem ayY:∀(M:Nat) (x:GE),x.size≤M→nU x=true→x.size≤4611686018427387904→Q6 A Q F f N x
 | 0,.mk k p n nm args,hs,_,_=>by simp only [GE.size] at hs; omega
 | M+1,.mk k p n nm args,hs,hw,hb=>by
  intro B hK
  simp only [nU,ad2] at hw
  simp only [GE.size] at hs hb
  have hwa:∀z∈args,nU z=true:=fun z hz=>ah1.1 (wG args ▸ hw.2) z hz
  have hv:∀z∈args,Q6 A Q F f N z:=fun z hz=>by
   have:=GE.oO hz
   exact ayY M z (by omega) (hwa z hz) (by omega)
  have hal:args.length≤4611686018427387904:=by
   have:∀l:List GE,l.length≤GE.nJ l:=fun l=>by
    induction l with
    | nil=>exact ah9 _
    | cons x r ih =>
     have:1≤x.size:=by cases x; simp only [GE.size]; omega
     simp only [ac8,GE.nJ]; omega
   have:=this args
   omega
  have h131:=fun B hK b e p=>MJ (A:=A) (Q:=Q) (F:=F) (f:=f) (N:=N) (B:=B) hK b e p
  refine k9 (arF _ _ _ _) ?_
  have hr:1≤k∧k≤26:=by
   have hk:=hw.1
   unfold rL tT at hk
   split at hk
   ·cases hk
   ·rename_i m hm
    split at hm
    ·cases hm
    ·omega
  by_cases h1:k=1
  ·subst h1
   rw [xD]
   simp -implicitDefEqProofs [Nx,GE.cells,hK,GT.zero]
  by_cases h2:k=2
  ·subst h2
   have h165:=fun B hK=>afX (A:=A) (Q:=Q) (F:=F) (f:=f) (N:=N) (B:=B) hK nm p
   rw [xD,if_neg h1,if_pos rfl]
   cases hn:vX N nm p with
   | bad e q =>
    rw [hn] at h165
    simp -implicitDefEqProofs [Nx,GE.cells,hK,h165,TR.bind]
   | ok t =>
    rw [hn] at h165
    obtain⟨⟨el,ln,lb⟩,fx⟩:=t
    by_cases hl0:ln=0 <;> simp -implicitDefEqProofs [Nx,GE.cells,hK,h165,h131,hl0,rG,TR.bind]
  by_cases h3:k=3
  ·subst h3
   have hlen:args.length=1:=by
    have:=hw.1
    simp [rL,tT] at this
    omega
   match args,hlen,hv with
   | [y],_,hv =>
    have h195:=fun B hK=>aJq (A:=A) (Q:=Q) (F:=F) (f:=f) (N:=N) (B:=B) hK nm y p (hv y (by simp))
    have e:xD F N (.mk 3 p n nm [y])=(ahL F N nm y p).bind fun t=>.ok ⟨0,0,t.ty.label⟩:=by
     rw [xD,if_neg h1,if_neg h2,if_pos rfl,CM]
     unfold ahL
     show(Ig F N 0 y).bind _=_
     cases Ig F N 0 y with
     | bad e q=>rfl
     | ok _ =>
      simp only [TR.bind]
      cases vX N nm p with
      | bad e q=>rfl
      | ok t =>
       simp only
       cases rG (decide (0 < t.ty.len)) 14 p <;> rfl
    rw [e]
    obtain⟨yk,yp,yn,ym,ya⟩:=y
    simp only [GE.cells] at h195
    cases hr1:ahL F N nm (.mk yk yp yn ym ya) p with
    | bad e q =>
     rw [hr1] at h195
     simp -implicitDefEqProofs [Nx,GE.cells,GE.rows,yI,hK,h195,TR.bind]
    | ok t =>
     rw [hr1] at h195
     obtain⟨⟨el,ln,lb⟩,fx⟩:=t
     simp -implicitDefEqProofs [Nx,GE.cells,GE.rows,yI,hK,h195,TR.bind]
  by_cases h4:k=4
  ·subst h4
   have h170:=fun B hK=>aEC (A:=A) (Q:=Q) (F:=F) (f:=f) (N:=N) (B:=B) hK (.mk 4 p n nm args) hv hal
   rw [alC _ rfl]
   simp only [GE.cells,GE.pos] at h170 ⊢
   cases hr1:Ci F N (.mk 4 p n nm args) with
   | bad e q =>
    rw [hr1] at h170
    simp -implicitDefEqProofs [Nx,hK,h170,TR.bind]
   | ok g =>
    rw [hr1] at h170
    obtain⟨gp,gn,gps,gh,⟨ge,gl,gb⟩,gbody⟩:=g
    cases gh <;> simp -implicitDefEqProofs [Nx,hK,h170,h131,rG,TR.bind]
  have h5:5≤k:=by omega
  have hal3:args.length≤1000:=by
   have:=hw.1
   have hc:k=5∨k=6∨k=7∨k=8∨k=9∨k=10∨k=11∨k=12∨k=13∨k=14∨k=15∨k=16∨k=17∨k=18∨k=19∨k=20∨k=21∨k=22∨k=23∨k=24∨k=25∨k=26:=by omega
   rcases hc with rfl | rfl | rfl | rfl | rfl | rfl | rfl | rfl | rfl | rfl | rfl | rfl | rfl | rfl | rfl | rfl | rfl | rfl | rfl | rfl | rfl | rfl <;>
    (simp [rL,tT] at this; omega)
  rw [xD,if_neg h1,if_neg h2,if_neg h3,if_neg h4]
  obtain⟨j,lab',es',hlp⟩:=Qu (F:=F) (f:=f) (N:=N) hK k p n nm args hv hal3 args 0 0 [] rfl (ah9 _) rfl
  simp only [vC,ac7,ah4,ad0,show fz 0=0 from rfl,show Ao []=[] from rfl] at hlp
  cases hr1:wO F N args with
  | bad e q =>
   rw [hr1] at hlp
   simp -implicitDefEqProofs [Nx,GE.cells,GE.nO,hK,h1,h2,h3,h4,hlp,TR.bind]
  | ok l =>
   rw [hr1] at hlp
   have hll:(l.map GT.elem).length=args.length:=by
    have:∀(u:List GE) (l:List GT),wO F N u=.ok l→l.length=u.length:=fun u=>by
     induction u with
     | nil=>intro l h; rw [wO] at h; cases h; rfl
     | cons x r ih =>
      intro l h
      rw [wO] at h
      cases hx:xD F N x with
      | bad e q=>rw [hx] at h; cases h
      | ok t =>
       rw [hx] at h
       cases hr:wO F N r with
       | bad e q=>rw [hr] at h; cases h
       | ok l' =>
        rw [hr] at h
        cases h
        simp [ih l' hr]
    rw [al0,this args l hr1]
   have h196:=aJr k n nm (l.map GT.elem) (by rw [hll]; exact hw.1) h5
   simp only [ah4] at hlp
   cases hm:(QC k (l.map GT.elem)).2
   ·rw [hm] at h196
    simp -implicitDefEqProofs [Nx,GE.cells,GE.nO,hK,h1,h2,h3,h4,hlp,h196,h131,hm,rG,TR.bind]
   ·rw [hm] at h196
    by_cases hn:n < 32 <;> simp -implicitDefEqProofs [Nx,GE.cells,GE.nO,hK,h1,h2,h3,h4,hlp,h196,h131,hm,hn,rG,TR.bind]
end
end
section
open Go Hk
def stR (A:List lE) (F:Kn) (f:GF) (Q B:List lE) (N':Nm mS):TR (Nm mS)→vG×kP
 | .ok N1=>(.ret (.tuple []),TQ A F f Q N1 B)
 | .bad e p=>(.pan (AG e p),TQ A F f Q N' B)
section
variable {A Q B:List lE}{F:Kn}{f:GF}{N N' N1:Nm mS}{e p:Int}
theorem aGQ:stR A F f Q B N' (.ok N1)=(.ret (.tuple []),TQ A F f Q N1 B):=rfl
theorem aCs:stR A F f Q B N' (.bad e p)=(.pan (AG e p),TQ A F f Q N' B):=rfl
end
attribute [simp] aGQ aCs
def StC (A Q:List lE) (F:Kn) (f:GF) (s:GS):Prop:=∀(last:Bool) (N:Nm mS) (B:List lE),KT A Q B→∃N',KK 133 [.ptr (A.length+1) 0,.agg s.cells,.bool last] (TQ A F f Q N B)=some (stR A F f Q B N' (y6 F f last N s))
section
variable {A Q B:List lE}{F:Kn}{f:GF}
theorem Ny (hK:KT A Q B) (l:List GS) (hs:∀s∈l,StC A Q F f s) (hl:l.length≤4611686018427387904):∀(u:List GS) (i:Nat) (N:Nm mS),l.drop i=u→i≤l.length →
  ∃(j:Int) (N':Nm mS),mI (HW KK (TN A Q B)) ([.ptr (A.length+1) 0,.slice (l.map GS.cells) .no,.slice (l.map GS.cells) .no,.int .i64 (l.length:Int),.int .i64 (i:Int)],TQ A F f Q N B) =
   some (match tH F f N u with
    | .ok N1=>(.exit 0,[.ptr (A.length+1) 0,.slice (l.map GS.cells) .no,.slice (l.map GS.cells) .no,.int .i64 (l.length:Int),.int .i64 (l.length:Int)],TQ A F f Q N1 B)
    | .bad e q=>(.pan (AG e q),[.ptr (A.length+1) 0,.slice (l.map GS.cells) .no,.slice (l.map GS.cells) .no,.int .i64 (l.length:Int),.int .i64 j],TQ A F f Q N' B))
 | [],i,N,hd,hi=>by
  have hge:l.length≤i:=by simpa using hd
  have e:i=l.length:=by omega
  subst e
  have htr:=fun N=>tR (F:=F) (f:=f) (N:=N) hK
  have q0:∀h,kM.mO (TN A Q B) h (.ptr (A.length+1) 0)=.ptr (A.length+1) 0:=fun h=>lC (by unfold TN; omega)
  refine⟨0,[],?_⟩
  rw [lZ]
  simp -implicitDefEqProofs [HW,tH,kS,htr,q0]
 | x::u,i,N,hd,hi=>by
  have hlt:i < l.length:=by
   rcases Nat.lt_or_ge i l.length with hx | hx
   ·exact hx
   ·rw [List.drop_eq_nil_of_le hx] at hd; cases hd
  have ha:=af5 hlt
  rw [hd] at ha
  have hx:l[i]'hlt=x:=(List.cons.inj ha).1.symm
  have hd3:l.drop (i+1)=u:=(List.cons.inj ha).2.symm
  have w1:=rS (a:=i) (by omega)
  have htr:=fun N C=>wZ (F:=F) (f:=f) (N:=N) (C:=C) hK
  have q0:∀h,kM.mO (TN A Q B) h (.ptr (A.length+1) 0)=.ptr (A.length+1) 0:=fun h=>lC (by unfold TN; omega)
  obtain⟨xk,xp,xm,xn,⟨te,tl,tb⟩,xa,xb,xe,xh⟩:=x
  have hK2:KT A Q (B++[.cells (GS.cells (.mk xk xp xm xn ⟨te,tl,tb⟩ xa xb xe xh)),.front 0 0,.front 0 0,.front 0 0]):=hK.app (by simp [GS.cells])
  obtain⟨N2,h133⟩:=hs _ (hx ▸ List.getElem_mem hlt) false N _ hK2
  rw [tH]
  simp only [GS.cells] at h133
  cases hr:y6 F f false N (.mk xk xp xm xn ⟨te,tl,tb⟩ xa xb xe xh) with
  | bad e2 q2' =>
   rw [hr] at h133
   refine⟨i,N2,?_⟩
   rw [lZ]
   simp -implicitDefEqProofs [HW,hlt,hx,GS.cells,h133,hK,TR.bind,kS,htr,q0]
  | ok N1 =>
   rw [hr] at h133
   obtain⟨j,N3,ih⟩:=Ny hK l hs hl u (i+1) N1 hd3 hlt
   simp only [ag1,ac7] at ih
   refine⟨j,N3,?_⟩
   rw [lZ]
   simp -implicitDefEqProofs [HW,hlt,hx,GS.cells,h133,hK,TR.bind,kS,htr,q0,w1,ih]
theorem Nz (hK:KT A Q B) (l:List GS) (hl:l.length≤4611686018427387904):∀(u:List GS) (i:Nat) (N:Nm mS),l.drop i=u→i≤l.length →
  mI (FI KK (TN A Q B)) ([.ptr (A.length+1) 0,.slice (l.map GS.cells) .no,.int .i64 (l.length:Int),.int .i64 (i:Int)],TQ A F f Q N B) =
   some (.exit 2,[.ptr (A.length+1) 0,.slice (l.map GS.cells) .no,.int .i64 (l.length:Int),.int .i64 (l.length:Int)],TQ A F f Q (zP u N) B)
 | [],i,N,hd,hi=>by
  have hge:l.length≤i:=by simpa using hd
  have e:i=l.length:=by omega
  subst e
  have htr:=fun N=>tR (F:=F) (f:=f) (N:=N) hK
  have q0:∀h,kM.mO (TN A Q B) h (.ptr (A.length+1) 0)=.ptr (A.length+1) 0:=fun h=>lC (by unfold TN; omega)
  rw [lZ]
  simp -implicitDefEqProofs [FI,zP,kS,htr,q0]
 | x::u,i,N,hd,hi=>by
  have hlt:i < l.length:=by
   rcases Nat.lt_or_ge i l.length with hx | hx
   ·exact hx
   ·rw [List.drop_eq_nil_of_le hx] at hd; cases hd
  have ha:=af5 hlt
  rw [hd] at ha
  have hx:l[i]'hlt=x:=(List.cons.inj ha).1.symm
  have hd3:l.drop (i+1)=u:=(List.cons.inj ha).2.symm
  have w1:=rS (a:=i) (by omega)
  have htr:=fun N C=>wZ (F:=F) (f:=f) (N:=N) (C:=C) hK
  have htr2:∀N C,De (TN A Q B+C.length) C→l9 (TN A Q B+C.length) (TQ A F f Q N (B++C))=some (TQ A F f Q N (B++C)):=fun N C hC=>by
   have:=tR (F:=F) (f:=f) (N:=N) (hK.app hC)
   rwa [Mf] at this
  have q0:∀h,kM.mO (TN A Q B) h (.ptr (A.length+1) 0)=.ptr (A.length+1) 0:=fun h=>lC (by unfold TN; omega)
  have q1:∀h,kM.mO (TN A Q B+4) h (.ptr (A.length+1) 0)=.ptr (A.length+1) 0:=fun h=>lC (by unfold TN; omega)
  obtain⟨xk,xp,xm,xn,⟨te,tl,tb⟩,xa,xb,xe,xh⟩:=x
  have ih:=fun N=>Nz hK l hl u (i+1) N hd3 hlt
  simp only [ag1,ac7] at ih
  have hdel:=fun N B s=>aeW (A:=A) (Q:=Q) (F:=F) (f:=f) (N:=N) (B:=B) (s:=s)
  have htr3:=fun N=>htr2 N [.cells (GS.cells (.mk xk xp xm xn ⟨te,tl,tb⟩ xa xb xe xh)),.front 0 0,.front 0 0,.front 0 0] (by simp [GS.cells])
  simp only [GS.cells,ac8,ad0,al6,Nat.reduceAdd] at htr3
  rw [lZ,zP]
  by_cases h1:xk=1
  ·subst h1
   simp -implicitDefEqProofs [FI,hlt,hx,GS.cells,hK,kS,htr,htr3,hdel,q0,q1,w1,ih]
  ·by_cases h2:xk=2
   ·subst h2
    simp -implicitDefEqProofs [FI,hlt,hx,GS.cells,hK,kS,htr,htr3,hdel,q0,q1,w1,ih,h1]
   ·simp -implicitDefEqProofs [FI,hlt,hx,GS.cells,hK,kS,htr,htr3,hdel,q0,q1,w1,ih,h1,h2]
theorem ay0 (hK:KT A Q B) (l:List GS) (hs:∀s∈l,StC A Q F f s) (hl:l.length≤4611686018427387904) (N:Nm mS):∃N',KK 169 [.ptr (A.length+1) 0,.slice (l.map GS.cells) .no] (TQ A F f Q N B)=some (stR A F f Q B N' ((tH F f N l).bind fun N1=>.ok (zP l N1))):=by
 obtain⟨j,N2,h0⟩:=Ny hK l hs hl l 0 N rfl (ah9 _)
 have h1:=fun N=>Nz (F:=F) (f:=f) hK l hl l 0 N rfl (ah9 _)
 simp only [ac7] at h0 h1
 refine⟨N2,k9 (arL _ _ _ _) ?_⟩
 cases hr:tH F f N l with
 | bad e q =>
  rw [hr] at h0
  simp -implicitDefEqProofs [aAB,hK,h0,h1,TR.bind]
 | ok N1 =>
  rw [hr] at h0
  simp -implicitDefEqProofs [aAB,hK,h0,h1,TR.bind]
end
end
section
open Go Hk
section
variable {A Q B C:List lE}{F:Kn}{f:GF}
theorem Qz (hK:KT A Q B) (x3:Nat) (hx3:x3 < TN A Q B) (l:List GP) (hl:l.length≤4611686018427387904):∀(u:List GP) (i:Nat) (N:Nm mS),l.drop i=u→i≤l.length →
  ∃(j:Int) (N':Nm mS),mI (Ee KK (TN A Q B)) ([.ptr (A.length+1) 0,.ptr x3 0,.slice (l.map GP.cells) .no,.int .i64 (l.length:Int),.int .i64 (i:Int)],TQ A F f Q N B) =
   some (match vE N u with
    | .ok N1=>(.exit 0,[.ptr (A.length+1) 0,.ptr x3 0,.slice (l.map GP.cells) .no,.int .i64 (l.length:Int),.int .i64 (l.length:Int)],TQ A F f Q N1 B)
    | .bad e q=>(.pan (AG e q),[.ptr (A.length+1) 0,.ptr x3 0,.slice (l.map GP.cells) .no,.int .i64 (l.length:Int),.int .i64 j],TQ A F f Q N' B))
 | [],i,N,hd,hi=>by
  have hge:l.length≤i:=by simpa using hd
  have e:i=l.length:=by omega
  subst e
  have htr:=fun N=>tR (F:=F) (f:=f) (N:=N) hK
  have q0:∀h,kM.mO (TN A Q B) h (.ptr (A.length+1) 0)=.ptr (A.length+1) 0:=fun h=>lC (by unfold TN; omega)
  have q3:∀h,kM.mO (TN A Q B) h (.ptr x3 0)=.ptr x3 0:=fun h=>lC hx3
  refine⟨0,[],?_⟩
  rw [lZ]
  simp -implicitDefEqProofs [Ee,vE,kS,htr,q0,q3]
 | x::u,i,N,hd,hi=>by
  have hlt:i < l.length:=by
   rcases Nat.lt_or_ge i l.length with hx | hx
   ·exact hx
   ·rw [List.drop_eq_nil_of_le hx] at hd; cases hd
  have ha:=af5 hlt
  rw [hd] at ha
  have hx:l[i]'hlt=x:=(List.cons.inj ha).1.symm
  have hd3:l.drop (i+1)=u:=(List.cons.inj ha).2.symm
  have w1:=rS (a:=i) (by omega)
  have htr:=fun N C=>wZ (F:=F) (f:=f) (N:=N) (C:=C) hK
  have q0:∀h,kM.mO (TN A Q B) h (.ptr (A.length+1) 0)=.ptr (A.length+1) 0:=fun h=>lC (by unfold TN; omega)
  have q3:∀h,kM.mO (TN A Q B) h (.ptr x3 0)=.ptr x3 0:=fun h=>lC hx3
  have h131:=fun N B hK b e p=>MJ (A:=A) (Q:=Q) (F:=F) (f:=f) (N:=N) (B:=B) hK b e p
  obtain⟨xp,xn,⟨te,tl,tb⟩,xo⟩:=x
  have hK2:KT A Q (B++[.cells (GP.cells ⟨xp,xn,⟨te,tl,tb⟩,xo⟩)]):=hK.app (by simp [GP.cells])
  obtain⟨N2,h132⟩:=aoL (F:=F) (f:=f) (N:=N) hK2 xn ⟨⟨te,tl,tb⟩,!xo⟩ xp
  rw [vE]
  simp only [GP.cells,mS.cells] at h132
  cases hr:As N xn ⟨⟨te,tl,tb⟩,!xo⟩ xp with
  | bad e2 q2' =>
   rw [hr] at h132
   refine⟨i,N2,?_⟩
   rw [lZ]
   simp -implicitDefEqProofs [Ee,hlt,hx,GP.cells,h132,hK,TR.bind,kS,htr,q0,q3]
  | ok N1 =>
   rw [hr] at h132
   obtain⟨j,N3,ih⟩:=Qz hK x3 hx3 l hl u (i+1) N1 hd3 hlt
   simp only [ag1,ac7] at ih
   by_cases h1:xo=false∨0 < tl
   ·have h1':(!xo || decide (0 < tl))=true:=by rcases h1 with h1 | h1 <;> simp [h1]
    by_cases h2:tl≤16384
    ·refine⟨j,N3,?_⟩
     rw [lZ]
     cases xo
     ·simp only [Bool.not_false] at h132
      simp -implicitDefEqProofs [Ee,hlt,hx,GP.cells,h132,h131,hK,h2,rG,TR.bind,kS,htr,q0,q3,w1,ih]
     ·have h3:0 < tl:=by simpa using h1
      simp only [Bool.not_true] at h132
      simp -implicitDefEqProofs [Ee,hlt,hx,GP.cells,h132,h131,hK,h2,h3,rG,TR.bind,kS,htr,q0,q3,w1,ih]
    ·refine⟨i,N1,?_⟩
     rw [lZ]
     cases xo
     ·simp only [Bool.not_false] at h132
      simp -implicitDefEqProofs [Ee,hlt,hx,GP.cells,h132,h131,hK,h2,rG,TR.bind,kS,htr,q0,q3,w1]
     ·have h3:0 < tl:=by simpa using h1
      simp only [Bool.not_true] at h132
      simp -implicitDefEqProofs [Ee,hlt,hx,GP.cells,h132,h131,hK,h2,h3,rG,TR.bind,kS,htr,q0,q3,w1]
   ·have h3:xo=true:=by cases xo <;> simp_all
    subst h3
    simp only [Bool.not_true] at h132
    have h4:¬0 < tl:=fun h=>h1 (.inr h)
    refine⟨i,N1,?_⟩
    rw [lZ]
    simp -implicitDefEqProofs [Ee,hlt,hx,GP.cells,h132,h131,hK,h4,rG,TR.bind,kS,htr,q0,q3,w1]
theorem QA {g:GF}(hK:KT A Q B) (x3:Nat) (hx3:x3 < TN A Q B) (hq:∀N B,mY (TQ A F f Q N B) x3=some g.cells) (hs:∀s∈g.body,StC A Q F f s) (hl:g.body.length≤4611686018427387904):∀(u:List GS) (i:Nat) (N:Nm mS) (b:Bool),g.body.drop i=u→i≤g.body.length →
  ∃(j:Int) (b':Bool) (N':Nm mS),mI (NK KK (TN A Q B)) ([.ptr (A.length+1) 0,.ptr x3 0,.bool b,.slice (g.body.map GS.cells) .no,.int .i64 (g.body.length:Int),.int .i64 (i:Int)],TQ A F f Q N B) =
   some (match yL F f N u with
    | .ok N1=>(.exit 2,[.ptr (A.length+1) 0,.ptr x3 0,.bool (tV u b),.slice (g.body.map GS.cells) .no,.int .i64 (g.body.length:Int),.int .i64 (g.body.length:Int)],TQ A F f Q N1 B)
    | .bad e q=>(.pan (AG e q),[.ptr (A.length+1) 0,.ptr x3 0,.bool b',.slice (g.body.map GS.cells) .no,.int .i64 (g.body.length:Int),.int .i64 j],TQ A F f Q N' B))
 | [],i,N,b,hd,hi=>by
  have hge:g.body.length≤i:=by simpa using hd
  have e:i=g.body.length:=by omega
  subst e
  have htr:=fun N=>tR (F:=F) (f:=f) (N:=N) hK
  have q0:∀h,kM.mO (TN A Q B) h (.ptr (A.length+1) 0)=.ptr (A.length+1) 0:=fun h=>lC (by unfold TN; omega)
  have q3:∀h,kM.mO (TN A Q B) h (.ptr x3 0)=.ptr x3 0:=fun h=>lC hx3
  refine⟨0,false,[],?_⟩
  rw [lZ]
  simp -implicitDefEqProofs [NK,yL,tV,kS,htr,q0,q3]
 | x::u,i,N,b,hd,hi=>by
  have hlt:i < g.body.length:=by
   rcases Nat.lt_or_ge i g.body.length with hx | hx
   ·exact hx
   ·rw [List.drop_eq_nil_of_le hx] at hd; cases hd
  have ha:=af5 hlt
  rw [hd] at ha
  have hx:g.body[i]'hlt=x:=(List.cons.inj ha).1.symm
  have hd3:g.body.drop (i+1)=u:=(List.cons.inj ha).2.symm
  have w1:=rS (a:=i) (by omega)
  have w2:IntKind.wrap .i64 ((g.body.length:Int) - 1)=(g.body.length:Int) - 1:=by rw [wrap64] <;> omega
  have hlu:u.length=g.body.length - (i+1):=by rw [←hd3,List.length_drop]
  have hlast:decide ((i:Int)=(g.body.length:Int) - 1)=u.isEmpty:=by
   cases u with
   | nil =>
    simp only [ad0] at hlu
    simp only [List.isEmpty_nil,decide_eq_true_eq]; omega
   | cons y r =>
    simp only [ac8] at hlu
    simp only [List.isEmpty_cons,decide_eq_false_iff_not]; omega
  have htr:=fun N C=>wZ (F:=F) (f:=f) (N:=N) (C:=C) hK
  have q0:∀h,kM.mO (TN A Q B) h (.ptr (A.length+1) 0)=.ptr (A.length+1) 0:=fun h=>lC (by unfold TN; omega)
  have q3:∀h,kM.mO (TN A Q B) h (.ptr x3 0)=.ptr x3 0:=fun h=>lC hx3
  obtain⟨gp,gn,gps,gh,⟨ge,gl,gb⟩,gbody⟩:=g
  simp only [GF.cells] at hq
  simp only at hx hd3 hlt hlu hlast w2 hl hs ⊢
  obtain⟨xk,xp,xm,xn,⟨te,tl,tb⟩,xa,xb,xe,xh⟩:=x
  have hs1:=hs _ (hx ▸ List.getElem_mem hlt)
  have ih:=fun N1=>QA (g:=⟨gp,gn,gps,gh,⟨ge,gl,gb⟩,gbody⟩) hK x3 hx3 hq hs hl u (i+1) N1 (decide (xk=8)) hd3 hlt
  have hK2:KT A Q (B++[.cells (GS.cells (.mk xk xp xm xn ⟨te,tl,tb⟩ xa xb xe xh)),.front 0 0,.front 0 0,.front 0 0]):=hK.app (by simp [GS.cells])
  obtain⟨N2,h133⟩:=hs1 u.isEmpty N _ hK2
  rw [yL]
  simp only [GS.cells] at h133
  cases hr:y6 F f u.isEmpty N (.mk xk xp xm xn ⟨te,tl,tb⟩ xa xb xe xh) with
  | bad e2 q2' =>
   rw [hr] at h133
   refine⟨i,b,N2,?_⟩
   rw [lZ]
   simp -implicitDefEqProofs [NK,hlt,hx,GS.cells,h133,hK,hq,w2,hlast,TR.bind,kS,htr,q0,q3]
  | ok N1 =>
   rw [hr] at h133
   obtain⟨j,b',N3,ih⟩:=ih N1
   simp only [ag1,ac7] at ih
   refine⟨j,b',N3,?_⟩
   rw [lZ,tV,show(xk == 8)=decide (xk=8) from rfl]
   simp -implicitDefEqProofs [NK,hlt,hx,GS.cells,h133,hK,hq,w2,hlast,TR.bind,kS,htr,q0,q3,w1,ih]
end
end
section
open Go Hk
theorem at0 {k m:Int}{name:List UInt8}{ty:GT}{args:List GE}{nb ne:Nat}{has:Bool}(h:lR k m name ty args nb ne has=true) :
  1≤k∧k≤8∧nH args=true∧args.length=(if k=2 then 0 else if k=4 then 2 else 1)∧(k=7→P6 args=true):=by
 have hr:1≤k∧k≤8:=by
  unfold lR lL at h
  split at h
  ·cases h
  ·rename_i m hm
   split at hm
   ·cases hm
   ·omega
 have hc:k=1∨k=2∨k=3∨k=4∨k=5∨k=6∨k=7∨k=8:=by omega
 rcases hc with rfl | rfl | rfl | rfl | rfl | rfl | rfl | rfl <;> simp [lR,lL] at h ⊢ <;> simp_all [nH]
section
variable {A Q B:List lE}{F:Kn}{f:GF}{N:Nm mS}
def Oz (F:Kn) (N:Nm mS) (p:Int) (name:List UInt8) (x y:GE):TR Unit:=(Ig F N 0 x).bind fun _=>(xD F N y).bind fun v=>(vX N name p).bind fun t=>(rG (decide (0 < t.ty.len) && !t.fixed && v.elem == 0) 14 p).bind fun _=>rG (q9 v.label t.ty.label) 15 p
theorem Wg {c d:List kM}{r:List (List kM)}{t:Tok}(hc:d.length=5):kX 5 (.slice (c::d::r) t) (.int .i64 1)=some (.pptr d):=by rw [nZ]; simp [hc]
theorem aJk (hK:KT A Q B) (p m:Int) (name:List UInt8) (ty:GT) (x y:GE) (body els:List GS) (has:Bool) (hx:Q6 A Q F f N x) (hy:Q6 A Q F f N y):KK 167 [.ptr (A.length+1) 0,.agg (GS.mk 4 p m name ty [x,y] body els has).cells] (TQ A F f Q N B)=some ((Oz F N p name x y).res tQ (TQ A F f Q N B)):=by
 refine k9 (arI _ _ _ _) ?_
 have h131:=fun B hK b e p=>MJ (A:=A) (Q:=Q) (F:=F) (f:=f) (N:=N) (B:=B) hK b e p
 have h165:=fun B hK=>afX (A:=A) (Q:=Q) (F:=F) (f:=f) (N:=N) (B:=B) hK name p
 have h168:=fun B hK=>aoN (A:=A) (Q:=Q) (F:=F) (f:=f) (N:=N) (B:=B) hK x 0 hx
 have h166:=ayZ
 have h164:=hy
 unfold Q6 at h164
 unfold Oz
 obtain⟨xk,xp,xn,xm,xa⟩:=x
 obtain⟨yk,yp,yn,ym,ya⟩:=y
 obtain⟨te,tl,tb⟩:=ty
 simp only [GE.cells,GS.cells,aj2,al1] at h164 h168 ⊢
 cases hr1:Ig F N 0 (.mk xk xp xn xm xa) with
 | bad e q =>
  rw [hr1] at h168
  simp -implicitDefEqProofs [UT,yI,Wg,hK,h168,TR.bind]
 | ok _ =>
  rw [hr1] at h168
  cases hr2:xD F N (.mk yk yp yn ym ya) with
  | bad e q =>
   rw [hr2] at h164
   simp -implicitDefEqProofs [UT,yI,Wg,hK,h168,h164,TR.bind]
  | ok v =>
   rw [hr2] at h164
   obtain⟨ve,vl,vb⟩:=v
   cases hr3:vX N name p with
   | bad e q =>
    rw [hr3] at h165
    simp -implicitDefEqProofs [UT,yI,Wg,hK,h168,h164,h165,TR.bind]
   | ok t =>
    rw [hr3] at h165
    obtain⟨⟨ue,ul,ub⟩,fx⟩:=t
    by_cases h1:0 < ul
    ·cases fx
     ·by_cases h2:ve=0
      ·cases h3:q9 vb ub <;> simp -implicitDefEqProofs [UT,yI,Wg,hK,h168,h164,h165,h131,h166,h1,h2,h3,rG,TR.bind]
      ·simp -implicitDefEqProofs [UT,yI,Wg,hK,h168,h164,h165,h131,h166,h1,h2,rG,TR.bind]
     ·simp -implicitDefEqProofs [UT,yI,Wg,hK,h168,h164,h165,h131,h166,h1,rG,TR.bind]
    ·simp -implicitDefEqProofs [UT,yI,Wg,hK,h168,h164,h165,h131,h166,h1,rG,TR.bind]
end
end
section
open Go Hk
section
variable {A Q:List lE}{F:Kn}{f:GF}
theorem ajX {N:Nm mS}{elem:Int}{x:GE}{r:List GE}:CM F N elem (x::r)=Ig F N elem x:=by rw [CM]; rfl
theorem awS (l:List GS):GS.rows l=l.map GS.cells:=GS.nO l
set_option maxHeartbeats 40000000 in
theorem ayN:∀(M:Nat) (s:GS),s.size≤M→pX s=true→s.size≤4611686018427387904→StC A Q F f s
 | 0,.mk k p m name ty args body els has,hs,_,_=>by simp only [GS.size] at hs; omega
 | M+1,.mk k p m name ty args body els has,hs,hw,hb=>by
  intro last N B hK
  simp only [pX,ad2] at hw
  simp only [GS.size] at hs hb
  obtain⟨hk1,hk8,hwa,hlen,hcall⟩:=at0 hw.1.1
  have wB:=hw.1.2
  have wE:=hw.2
  rw [wH] at wB wE
  rw [wG] at hwa
  have hB:∀z∈body,StC A Q F f z:=fun z hz=>by
   have:=GS.oO hz
   exact ayN M z (by omega) (ah1.1 wB z hz) (by omega)
  have hE:∀z∈els,StC A Q F f z:=fun z hz=>by
   have:=GS.oO hz
   exact ayN M z (by omega) (ah1.1 wE z hz) (by omega)
  have hlS:∀l:List GS,l.length≤GS.nJ l:=fun l=>by
   induction l with
   | nil=>exact ah9 _
   | cons x r ih =>
    have:1≤x.size:=by cases x; simp only [GS.size]; omega
    simp only [ac8,GS.nJ]; omega
  have hlE:∀l:List GE,l.length≤GE.nJ l:=fun l=>by
   induction l with
   | nil=>exact ah9 _
   | cons x r ih =>
    have:1≤x.size:=by cases x; simp only [GE.size]; omega
    simp only [ac8,GE.nJ]; omega
  have hlb:=hlS body
  have hle:=hlS els
  have hv:∀N,∀z∈args,Q6 A Q F f N z:=fun N z hz=>by
   have:=GE.oO hz
   exact ayY z.size z (ac5 _) (ah1.1 hwa z hz) (by omega)
  have h131:=fun N B hK b e p=>MJ (A:=A) (Q:=Q) (F:=F) (f:=f) (N:=N) (B:=B) hK b e p
  have h166:=ayZ
  have hK1:KT A Q (B++[.cells (GS.cells (.mk k p m name ty args body els has))]):=hK.app (by simp [GS.cells])
  have htr:=fun N C=>wZ (F:=F) (f:=f) (N:=N) (C:=C) hK1
  have htr0:=fun N=>tR (F:=F) (f:=f) (N:=N) hK1
  have hm1:TN A Q (B++[.cells (GS.cells (.mk k p m name ty args body els has))])=TN A Q B+1:=by simp
  rw [hm1] at htr htr0
  obtain⟨te,tl,tb⟩:=ty
  have hc:k=1∨k=2∨k=3∨k=4∨k=5∨k=6∨k=7∨k=8:=by omega
  rcases hc with rfl | rfl | rfl | rfl | rfl | rfl | rfl | rfl
  ·-- let
   match args,hlen,hv with
   | [y],_,hv =>
    have h164:=hv N y (by simp)
    unfold Q6 at h164
    obtain⟨yk,yp,yn,ym,ya⟩:=y
    simp only [GS.cells,GE.cells,aj2,al1,af9,af2,ah4] at h164 htr htr0 hK1 ⊢
    simp only [y6,if_pos]
    show ∃N',_=some (stR A F f Q B N' ((xD F N (.mk yk yp yn ym ya)).bind fun t=>As N name ⟨t,true⟩ p))
    cases hr1:xD F N (.mk yk yp yn ym ya) with
    | bad e q =>
     rw [hr1] at h164
     refine⟨N,k9 (wV _ _ _ _ _) ?_⟩
     simp -implicitDefEqProofs [z8,yI,hK,h164,TR.bind,kS,htr,htr0]
    | ok v =>
     rw [hr1] at h164
     obtain⟨ve,vl,vb⟩:=v
     obtain⟨N2,h132⟩:=aoL (F:=F) (f:=f) (N:=N) hK1 name ⟨⟨ve,vl,vb⟩,true⟩ p
     refine⟨N2,k9 (wV _ _ _ _ _) ?_⟩
     simp only [mS.cells] at h132
     simp only [TR.bind]
     cases hr2:As N name ⟨⟨ve,vl,vb⟩,true⟩ p with
     | bad e q =>
      rw [hr2] at h132
      simp -implicitDefEqProofs [z8,yI,hK,h164,h132,TR.bind,kS,htr,htr0]
     | ok N1 =>
      rw [hr2] at h132
      simp -implicitDefEqProofs [z8,yI,hK,h164,h132,TR.bind,kS,htr,htr0]
  ·-- var
   have h0:args=[]:=List.length_eq_zero_iff.1 (by simpa using hlen)
   subst h0
   obtain⟨N2,h132⟩:=aoL (F:=F) (f:=f) (N:=N) hK1 name ⟨⟨te,tl,tb⟩,false⟩ p
   simp only [mS.cells,GS.cells,al1,af9,af2,ah4] at h132 htr htr0 hK1 ⊢
   rw [y6,if_neg (by decide),if_pos rfl]
   cases hr2:As N name ⟨⟨te,tl,tb⟩,false⟩ p with
   | bad e q =>
    rw [hr2] at h132
    refine⟨N2,k9 (wV _ _ _ _ _) ?_⟩
    simp -implicitDefEqProofs [z8,hK,h132,TR.bind,kS,htr,htr0]
   | ok N1 =>
    rw [hr2] at h132
    refine⟨N1,k9 (wV _ _ _ _ _) ?_⟩
    by_cases h1:tl≤16384 <;> simp -implicitDefEqProofs [z8,hK,h132,h131,h1,rG,TR.bind,kS,htr,htr0]
  ·-- set
   match args,hlen,hv with
   | [y],_,hv =>
    have h164:=hv N y (by simp)
    have h165:=fun B hK=>afX (A:=A) (Q:=Q) (F:=F) (f:=f) (N:=N) (B:=B) hK name p
    unfold Q6 at h164
    obtain⟨yk,yp,yn,ym,ya⟩:=y
    simp only [GS.cells,GE.cells,aj2,al1,af9,af2,ah4] at h164 htr htr0 hK1 ⊢
    rw [y6,if_neg (by decide),if_neg (by decide),if_pos rfl]
    show ∃N',_=some (stR A F f Q B N' ((xD F N (.mk yk yp yn ym ya)).bind fun v=>(vX N name p).bind fun t=>(rG (t.ty.len == 0 && !t.fixed && t.ty.elem == v.elem) 14 p).bind fun _=>(rG (q9 v.label t.ty.label) 15 p).bind fun _=>.ok N))
    refine⟨N,k9 (wV _ _ _ _ _) ?_⟩
    cases hr1:xD F N (.mk yk yp yn ym ya) with
    | bad e q =>
     rw [hr1] at h164
     simp -implicitDefEqProofs [z8,yI,hK,h164,TR.bind,kS,htr,htr0]
    | ok v =>
     rw [hr1] at h164
     obtain⟨ve,vl,vb⟩:=v
     cases hr3:vX N name p with
     | bad e q =>
      rw [hr3] at h165
      simp -implicitDefEqProofs [z8,yI,hK,h164,h165,TR.bind,kS,htr,htr0]
     | ok t =>
      rw [hr3] at h165
      obtain⟨⟨ue,ul,ub⟩,fx⟩:=t
      by_cases h1:ul=0
      ·cases fx
       ·by_cases h2:ue=ve
        ·cases h3:q9 vb ub <;> simp -implicitDefEqProofs [z8,yI,hK,h164,h165,h131,h166,h1,h2,h3,rG,TR.bind,kS,htr,htr0]
        ·simp -implicitDefEqProofs [z8,yI,hK,h164,h165,h131,h166,h1,h2,rG,TR.bind,kS,htr,htr0]
       ·simp -implicitDefEqProofs [z8,yI,hK,h164,h165,h131,h166,h1,rG,TR.bind,kS,htr,htr0]
      ·simp -implicitDefEqProofs [z8,yI,hK,h164,h165,h131,h166,h1,rG,TR.bind,kS,htr,htr0]
  ·-- store
   match args,hlen,hv with
   | [x,y],_,hv =>
    have h167:=fun B hK=>aJk (B:=B) (F:=F) (f:=f) (N:=N) hK p m name ⟨te,tl,tb⟩ x y body els has (hv N x (by simp)) (hv N y (by simp))
    simp only [GS.cells,aj2,al1,af9,af2,ah4] at h167 htr htr0 hK1 ⊢
    rw [y6,if_neg (by decide),if_neg (by decide),if_neg (by decide),if_pos rfl,ajX]
    have e:((Ig F N 0 x).bind fun _=>(Gk F N [x,y].tail).bind fun v=>(vX N name p).bind fun t=>(rG (decide (0 < t.ty.len) && !t.fixed && v.elem == 0) 14 p).bind fun _=>(rG (q9 v.label t.ty.label) 15 p).bind fun _=>.ok N)=(Oz F N p name x y).bind fun _=>.ok N:=by
     unfold Oz
     show((Ig F N 0 x).bind fun _=>(xD F N y).bind fun v=>(vX N name p).bind fun t=>(rG (decide (0 < t.ty.len) && !t.fixed && v.elem == 0) 14 p).bind fun _=>(rG (q9 v.label t.ty.label) 15 p).bind fun _=>TR.ok N)=_
     cases Ig F N 0 x with
     | bad e q=>rfl
     | ok _ =>
      simp only [TR.bind]
      cases xD F N y with
      | bad e q=>rfl
      | ok v =>
       simp only
       cases vX N name p with
       | bad e q=>rfl
       | ok t =>
        simp only
        cases rG (decide (0 < t.ty.len) && !t.fixed && v.elem == 0) 14 p <;> rfl
    rw [e]
    refine⟨N,k9 (wV _ _ _ _ _) ?_⟩
    cases hr1:Oz F N p name x y with
    | bad e q =>
     rw [hr1] at h167
     simp -implicitDefEqProofs [z8,hK,h167,TR.bind,kS,htr,htr0]
    | ok _ =>
     rw [hr1] at h167
     simp -implicitDefEqProofs [z8,hK,h167,TR.bind,kS,htr,htr0]
  ·-- if
   match args,hlen,hv with
   | [x],_,hv =>
    have h168:=fun B hK=>aoN (A:=A) (Q:=Q) (F:=F) (f:=f) (N:=N) (B:=B) hK x 1 (hv N x (by simp))
    have h169b:=fun N=>ay0 (F:=F) (f:=f) hK1 body hB (by omega) N
    have h169e:=fun N=>ay0 (F:=F) (f:=f) hK1 els hE (by omega) N
    obtain⟨xk,xp,xn,xm,xa⟩:=x
    simp only [GS.cells,GE.cells,awS,aj2,al1,af9,af2,ah4] at h168 h169b h169e htr htr0 hK1 ⊢
    rw [y6,if_neg (by decide),if_neg (by decide),if_neg (by decide),if_neg (by decide),if_pos rfl,ajX]
    cases hr1:Ig F N 1 (.mk xk xp xn xm xa) with
    | bad e q =>
     rw [hr1] at h168
     refine⟨N,k9 (wV _ _ _ _ _) ?_⟩
     simp -implicitDefEqProofs [z8,yI,hK,h168,TR.bind,kS,htr,htr0]
    | ok _ =>
     rw [hr1] at h168
     obtain⟨N2,h1⟩:=h169b N
     simp only [TR.bind]
     cases hr2:tH F f N body with
     | bad e q =>
      rw [hr2] at h1
      simp only [TR.bind] at h1
      refine⟨N2,k9 (wV _ _ _ _ _) ?_⟩
      simp -implicitDefEqProofs [z8,yI,hK,h168,h1,TR.bind,kS,htr,htr0]
     | ok N1 =>
      rw [hr2] at h1
      simp only [TR.bind] at h1
      obtain⟨N3,h2⟩:=h169e (zP body N1)
      refine⟨N3,k9 (wV _ _ _ _ _) ?_⟩
      cases hr3:tH F f (zP body N1) els with
      | bad e q =>
       rw [hr3] at h2
       simp only [TR.bind] at h2
       simp -implicitDefEqProofs [z8,yI,hK,h168,h1,h2,hr3,TR.bind,kS,htr,htr0]
      | ok N4 =>
       rw [hr3] at h2
       simp only [TR.bind] at h2
       simp -implicitDefEqProofs [z8,yI,hK,h168,h1,h2,hr3,TR.bind,kS,htr,htr0]
  ·-- for
   match args,hlen,hv with
   | [x],_,hv =>
    have h168:=fun B hK=>aoN (A:=A) (Q:=Q) (F:=F) (f:=f) (N:=N) (B:=B) hK x 0 (hv N x (by simp))
    have h169b:=fun N=>ay0 (F:=F) (f:=f) hK1 body hB (by omega) N
    obtain⟨N2,h132⟩:=aoL (F:=F) (f:=f) (N:=N) hK1 name ⟨GT.zero,true⟩ p
    have hdel:=fun N B s=>aeW (A:=A) (Q:=Q) (F:=F) (f:=f) (N:=N) (B:=B) (s:=s)
    obtain⟨xk,xp,xn,xm,xa⟩:=x
    simp only [mS.cells,GT.zero,GS.cells,GE.cells,awS,aj2,al1,af9,af2,ah4] at h132 h168 h169b htr htr0 hK1 ⊢
    rw [y6,if_neg (by decide),if_neg (by decide),if_neg (by decide),if_neg (by decide),if_neg (by decide),if_pos rfl,ajX]
    simp only [GT.zero]
    cases hr1:Ig F N 0 (.mk xk xp xn xm xa) with
    | bad e q =>
     rw [hr1] at h168
     refine⟨N,k9 (wV _ _ _ _ _) ?_⟩
     simp -implicitDefEqProofs [z8,yI,hK,h168,TR.bind,kS,htr,htr0]
    | ok _ =>
     rw [hr1] at h168
     simp only [TR.bind]
     cases hr2:As N name ⟨⟨0,0,0⟩,true⟩ p with
     | bad e q =>
      rw [hr2] at h132
      refine⟨N2,k9 (wV _ _ _ _ _) ?_⟩
      simp -implicitDefEqProofs [z8,yI,hK,h168,h132,TR.bind,kS,htr,htr0]
     | ok N1 =>
      rw [hr2] at h132
      by_cases hmost:m≤65536
      ·obtain⟨N3,h1⟩:=h169b N1
       refine⟨N3,k9 (wV _ _ _ _ _) ?_⟩
       cases hr3:tH F f N1 body with
       | bad e q =>
        rw [hr3] at h1
        simp only [TR.bind] at h1
        simp -implicitDefEqProofs [z8,yI,hK,h168,h132,h131,hmost,rG,h1,hr3,TR.bind,kS,htr,htr0]
       | ok N4 =>
        rw [hr3] at h1
        simp only [TR.bind] at h1
        simp -implicitDefEqProofs [z8,yI,hK,h168,h132,h131,hmost,rG,h1,hr3,hdel,TR.bind,kS,htr,htr0]
      ·refine⟨N1,k9 (wV _ _ _ _ _) ?_⟩
       simp -implicitDefEqProofs [z8,yI,hK,h168,h132,h131,hmost,rG,TR.bind,kS,htr,htr0]
  ·-- call
   match args,hlen,hv,hcall with
   | [x],_,hv,hcall =>
    have hxk:x.kind=4:=by simpa [P6] using hcall rfl
    have hxl:x.args.length≤4611686018427387904:=by
     have h1:=hlE x.args
     cases x with
     | mk xk xp xn xm xa =>
      simp only [GE.nJ,GE.size,GE.args] at hb h1 ⊢
      omega
    have hxv:∀z∈x.args,Q6 A Q F f N z:=fun z hz=>by
     have h1:=ah1.1 hwa x (by simp)
     cases x with
     | mk xk xp xn xm xa =>
      simp only [nU,ad2] at h1
      have h2:=h1.2
      rw [wG] at h2
      have h3:=GE.oO (l:=xa) hz
      simp only [GE.nJ,GE.size] at hb
      exact ayY z.size z (ac5 _) (ah1.1 h2 z hz) (by omega)
    have h170:=fun B hK=>aEC (A:=A) (Q:=Q) (F:=F) (f:=f) (N:=N) (B:=B) hK x hxv hxl
    obtain⟨xk,xp,xn,xm,xa⟩:=x
    simp only [GS.cells,GE.cells,aj2,al1,af9,af2,ah4] at h170 htr htr0 hK1 ⊢
    rw [y6,if_neg (by decide),if_neg (by decide),if_neg (by decide),if_neg (by decide),if_neg (by decide),if_neg (by decide),if_pos rfl]
    refine⟨N,k9 (wV _ _ _ _ _) ?_⟩
    cases hr1:Ci F N (.mk xk xp xn xm xa) with
    | bad e q =>
     rw [hr1] at h170
     simp -implicitDefEqProofs [z8,yI,hK,h170,TR.bind,kS,htr,htr0]
    | ok g =>
     rw [hr1] at h170
     simp -implicitDefEqProofs [z8,yI,hK,h170,TR.bind,kS,htr,htr0]
  ·-- return
   match args,hlen,hv with
   | [y],_,hv =>
    have h164:=hv N y (by simp)
    unfold Q6 at h164
    obtain⟨yk,yp,yn,ym,ya⟩:=y
    simp only [GS.cells,GE.cells,aj2,al1,af9,af2,ah4] at h164 htr htr0 hK1 ⊢
    rw [y6,if_neg (by decide),if_neg (by decide),if_neg (by decide),if_neg (by decide),if_neg (by decide),if_neg (by decide),if_neg (by decide),if_pos rfl]
    show ∃N',_=some (stR A F f Q B N' ((xD F N (.mk yk yp yn ym ya)).bind fun v=>(rG (last && f.has && v.elem == f.result.elem) 14 p).bind fun _=>(rG (q9 v.label f.result.label) 15 p).bind fun _=>.ok N))
    refine⟨N,k9 (wV _ _ _ _ _) ?_⟩
    cases hr1:xD F N (.mk yk yp yn ym ya) with
    | bad e q =>
     rw [hr1] at h164
     simp -implicitDefEqProofs [z8,yI,hK,h164,TR.bind,kS,htr,htr0]
    | ok v =>
     rw [hr1] at h164
     obtain⟨ve,vl,vb⟩:=v
     cases last
     ·simp -implicitDefEqProofs [z8,yI,hK,h164,h131,h166,rG,TR.bind,kS,htr,htr0]
     ·cases hh:f.has
      ·simp -implicitDefEqProofs [z8,yI,hK,h164,h131,h166,hh,rG,TR.bind,kS,htr,htr0]
      ·by_cases h2:ve=f.result.elem
       ·cases h3:q9 vb f.result.label <;> simp -implicitDefEqProofs [z8,yI,hK,h164,h131,h166,hh,h2,h3,rG,TR.bind,kS,htr,htr0]
       ·simp -implicitDefEqProofs [z8,yI,hK,h164,h131,h166,hh,h2,rG,TR.bind,kS,htr,htr0]
end
end
section
open Go Hk
def OkN (F:Kn):Prop:=∀p∈F,0≤p.2.2∧p.2.2≤65537
theorem Qn {F:Kn}(hF:OkN F) {s:List UInt8}{g:GF}{c:Int}(h:look F s=some (g,c)):0≤c∧c≤65537:=by
 induction F with
 | nil=>cases h
 | cons a r ih =>
  obtain⟨n,t⟩:=a
  have h:(if n=s then some t else look r s)=some (g,c):=h
  split at h
  ·cases h
   exact hF (n,(g,c)) (by simp)
  ·exact ih (fun p hp=>hF p (by simp [hp])) h
section
variable {F:Kn}(hF:OkN F)
include hF
mutual
theorem YF:∀x:GE,1≤Al F x∧Al F x≤131075
 | .mk k p n name args=>by
  have h:=EU args 0 (by decide) (by decide)
  rw [Al]
  split
  ·cases hl:look F name with
   | none=>simp only; omega
   | some a =>
    obtain⟨g,c⟩:=a
    have:=Qn hF hl
    simp only; omega
  ·omega
theorem EU:∀(l:List GE) (n:Int),0≤n→n≤65537→0≤oX F l n∧oX F l n≤65537
 | [],n,h1,h2=>by rw [oX]; exact⟨h1,h2⟩
 | x::r,n,h1,h2=>by
  have h:=YF x
  rw [oX]
  exact EU r _ (by unfold D_; omega) (by unfold D_; omega)
end
end
section
variable {A Q B:List lE}{F:Kn}{f:GF}{N:Nm mS}
theorem ayO (hK:KT A Q B) (n:Int):KK 134 [.ptr (A.length+1) 0,.int .i64 n] (TQ A F f Q N B)=some (.ret (.int .i64 (D_ n)),TQ A F f Q N B):=by
 refine k9 (aqS _ _ _ _) ?_
 simp -implicitDefEqProofs [aFm,hK,D_]
def EsC (A Q:List lE) (F:Kn) (f:GF) (N:Nm mS) (l:List GE):Prop:=∀B,KT A Q B→KK 171 [.ptr (A.length+1) 0,.slice (l.map GE.cells) .no] (TQ A F f Q N B)=some (.ret (.int .i64 (oX F l 0)),TQ A F f Q N B)
theorem Jg (hF:OkN F) (hK:KT A Q B) (l:List GE) (ih:∀x∈l,EsC A Q F f N x.args) (hl:l.length≤4611686018427387904):∀(u:List GE) (i:Nat) (n:Int),l.drop i=u→i≤l.length→0≤n→n≤65537 →
  mI (FJ KK (TN A Q B)) ([.ptr (A.length+1) 0,.int .i64 0,.int .i64 n,.slice (l.map GE.cells) .no,.int .i64 (l.length:Int),.int .i64 (i:Int)],TQ A F f Q N B) =
   some (.exit 0,[.ptr (A.length+1) 0,.int .i64 0,.int .i64 (oX F u n),.slice (l.map GE.cells) .no,.int .i64 (l.length:Int),.int .i64 (l.length:Int)],TQ A F f Q N B)
 | [],i,n,hd,hi,_,_=>by
  have hge:l.length≤i:=by simpa using hd
  have e:i=l.length:=by omega
  subst e
  have htr:=tR (F:=F) (f:=f) (N:=N) hK
  have q0:∀h,kM.mO (TN A Q B) h (.ptr (A.length+1) 0)=.ptr (A.length+1) 0:=fun h=>lC (by unfold TN; omega)
  rw [lZ]
  simp -implicitDefEqProofs [FJ,oX,kS,htr,q0]
 | x::u,i,n,hd,hi,hn1,hn2=>by
  have hlt:i < l.length:=by
   rcases Nat.lt_or_ge i l.length with hx | hx
   ·exact hx
   ·rw [List.drop_eq_nil_of_le hx] at hd; cases hd
  have ha:=af5 hlt
  rw [hd] at ha
  have hx:l[i]'hlt=x:=(List.cons.inj ha).1.symm
  have hd3:l.drop (i+1)=u:=(List.cons.inj ha).2.symm
  have w1:=rS (a:=i) (by omega)
  have hb:=YF hF x
  have hrec:=Jg hF hK l ih hl u (i+1) (D_ (n+Al F x)) hd3 hlt (by unfold D_; omega) (by unfold D_; omega)
  have h171:=ih x (hx ▸ List.getElem_mem hlt)
  obtain⟨xk,xp,xn,xm,xa⟩:=x
  unfold EsC at h171
  have hba:=EU hF xa 0 (by decide) (by decide)
  have hK1:KT A Q (B++[.cells (GE.cells (.mk xk xp xn xm xa)),.front 0 0]):=hK.app (by simp [GE.cells])
  have htr:=fun N C=>wZ (F:=F) (f:=f) (N:=N) (C:=C) hK
  have htr1:=fun N=>tR (F:=F) (f:=f) (N:=N) hK1
  have hm1:TN A Q (B++[.cells (GE.cells (.mk xk xp xn xm xa)),.front 0 0])=TN A Q B+2:=by simp
  rw [hm1] at htr1
  have q0:∀h,kM.mO (TN A Q B) h (.ptr (A.length+1) 0)=.ptr (A.length+1) 0:=fun h=>lC (by unfold TN; omega)
  have q1:∀h,kM.mO (TN A Q B+2) h (.ptr (A.length+1) 0)=.ptr (A.length+1) 0:=fun h=>lC (by unfold TN; omega)
  have h134:=fun B hK n=>ayO (A:=A) (Q:=Q) (F:=F) (f:=f) (N:=N) (B:=B) hK n
  have e1:IntKind.wrap .i64 (1+oX F xa 0)=1+oX F xa 0:=by rw [wrap64] <;> omega
  have e2:IntKind.wrap .i64 (n+(1+oX F xa 0))=n+(1+oX F xa 0):=by rw [wrap64] <;> omega
  simp only [GE.cells,GE.nO,GE.args,ag1,ac7,af9,af2,ah4] at h171 hrec htr1 hK1 ⊢
  rw [lZ,oX]
  by_cases hk:xk=4
  ·subst hk
   cases hl2:look F xm with
   | none =>
    have e3:IntKind.wrap .i64 (n+(1+oX F xa 0)+0)=n+(1+oX F xa 0):=by rw [wrap64] <;> omega
    have e5:Al F (.mk 4 xp xn xm xa)=1+oX F xa 0:=by rw [Al,if_pos rfl,hl2]; simp
    rw [e5] at hrec ⊢
    simp -implicitDefEqProofs [FJ,hlt,hx,GE.cells,GE.nO,h171,hK,kS,htr,htr1,q0,q1,w1,e1,e2,e3,hl2,h134,hrec]
   | some a =>
    obtain⟨⟨gp,gn,gps,gh,⟨ge,gl,gb⟩,gbody⟩,c⟩:=a
    have hc:=Qn hF hl2
    have e3:IntKind.wrap .i64 (n+(1+oX F xa 0)+c)=n+(1+oX F xa 0+c):=by rw [wrap64] <;> omega
    have e5:Al F (.mk 4 xp xn xm xa)=1+oX F xa 0+c:=by rw [Al,if_pos rfl,hl2]
    rw [e5] at hrec ⊢
    simp -implicitDefEqProofs [FJ,hlt,hx,GE.cells,GE.nO,h171,hK,kS,htr,htr1,q0,q1,w1,e1,e2,e3,hl2,h134,hrec]
  ·have e5:Al F (.mk xk xp xn xm xa)=1+oX F xa 0:=by rw [Al,if_neg hk]; omega
   rw [e5] at hrec ⊢
   simp -implicitDefEqProofs [FJ,hlt,hx,GE.cells,GE.nO,h171,hK,kS,htr,htr1,q0,q1,w1,e1,e2,hk,h134,hrec]
theorem aJl (hF:OkN F):∀(M:Nat) (l:List GE),GE.nJ l≤M→GE.nJ l≤4611686018427387904→EsC A Q F f N l:=by
 have hlE:∀l:List GE,l.length≤GE.nJ l:=fun l=>by
  induction l with
  | nil=>exact ah9 _
  | cons x r ih =>
   have:1≤x.size:=by cases x; simp only [GE.size]; omega
   simp only [ac8,GE.nJ]; omega
 intro M
 induction M with
 | zero =>
  intro l h1 h2 B hK
  have h3:=hlE l
  obtain rfl:=List.length_eq_zero_iff.1 (by omega:l.length=0)
  have hlp:=Jg (f:=f) (N:=N) hF hK [] (fun x hx=>by cases hx) (ah9 _) [] 0 0 rfl (ah9 _) (by decide) (by decide)
  refine k9 (Zi _ _ _ _) ?_
  simp only [ad0,al1,ac7] at hlp
  simp -implicitDefEqProofs [aAD,hK,hlp]
 | succ M ihM =>
  intro l h1 h2 B hK
  have h3:=hlE l
  have hlp:=Jg (f:=f) (N:=N) hF hK l (fun x hx=>by
   have h4:=GE.oO hx
   cases x with
   | mk k p n nm args =>
    simp only [GE.size] at h4
    exact ihM args (by omega) (by omega)) (by omega) l 0 0 rfl (ah9 _) (by decide) (by decide)
  refine k9 (Zi _ _ _ _) ?_
  simp only [ac7] at hlp
  simp -implicitDefEqProofs [aAD,hK,hlp]
end
end
section
open Go Hk
theorem akS {k m:Int}{name:List UInt8}{ty:GT}{args:List GE}{nb ne:Nat}{has:Bool}(h:lR k m name ty args nb ne has=true):(0≤ty.len∧ty.len≤4294967295)∧(k=6→0≤m∧m≤4294967295):=by
 unfold lR at h
 split at h
 ·cases h
 ·simp only [ad2] at h
  obtain⟨⟨⟨⟨⟨⟨⟨⟨a1,a2⟩,a3⟩,a4⟩,a5⟩,a6⟩,a7⟩,a8⟩,a9⟩:=h
  refine⟨?_,fun hk=>?_⟩
  ·by_cases hk:(k == 2)=true
   ·rw [if_pos hk] at a5
    unfold sK at a5
    simp only [ad2] at a5
    simpa [zF] using a5.1.2
   ·rw [if_neg hk] at a5
    have:ty=GT.zero:=by simpa using a5
    subst this
    exact⟨by decide,by decide⟩
  ·subst hk
   simpa [k_,zF] using a4
theorem awE {m b:Int}(h1:0≤m) (h2:m≤4294967295) (h3:0≤b) (h4:b≤65537):0≤(m+1) * (1+b)∧(m+1) * (1+b)≤281483566645248:=by
 refine⟨Int.mul_nonneg (by omega) (by omega),?_⟩
 have:=Int.mul_le_mul (a:=m+1) (b:=1+b) (c:=4294967296) (d:=65538) (by omega) (by omega) (by omega) (by omega)
 omega
section
variable {F:Kn}(hF:OkN F)
include hF
mutual
theorem ZQ:∀x:GS,pX x=true→1≤Bm F x∧Bm F x≤300000000000000
 | .mk k p m name ty args body els has,h=>by
  simp only [pX,ad2] at h
  obtain⟨⟨h1,h2⟩,h3⟩:=akS h.1.1
  have e1:=EU hF args 0 (by decide) (by decide)
  have e2:=Cy body 0 h.1.2 (by decide) (by decide)
  have e3:=Cy els 0 h.2 (by decide) (by decide)
  rw [Bm]
  by_cases hk:k=6
  ·have:=awE (h3 hk).1 (h3 hk).2 e2.1 e2.2
   rw [if_pos hk]; omega
  ·rw [if_neg hk]; omega
theorem Cy:∀(l:List GS) (n:Int),nW l=true→0≤n→n≤65537→0≤oY F l n∧oY F l n≤65537
 | [],n,_,h1,h2=>by rw [oY]; exact⟨h1,h2⟩
 | x::r,n,h,h1,h2=>by
  simp only [nW,ad2] at h
  have hx:=ZQ x h.1
  rw [oY]
  exact Cy r _ h.2 (by unfold D_; omega) (by unfold D_; omega)
end
end
section
variable {A Q B:List lE}{F:Kn}{f:GF}{N:Nm mS}
def SsC (A Q:List lE) (F:Kn) (f:GF) (N:Nm mS) (l:List GS):Prop:=∀B,KT A Q B→KK 135 [.ptr (A.length+1) 0,.slice (l.map GS.cells) .no] (TQ A F f Q N B)=some (.ret (.int .i64 (oY F l 0)),TQ A F f Q N B)
theorem Jf (hF:OkN F) (hK:KT A Q B) (l:List GS) (hw:∀x∈l,pX x=true) (ihA:∀x∈l,EsC A Q F f N x.args) (ihB:∀x∈l,SsC A Q F f N x.body) (ihE:∀x∈l,SsC A Q F f N x.els) (hl:l.length≤4611686018427387904):∀(u:List GS) (i:Nat) (n:Int),l.drop i=u→i≤l.length→0≤n→n≤65537 →
  mI (HU KK (TN A Q B)) ([.ptr (A.length+1) 0,.int .i64 0,.int .i64 n,.slice (l.map GS.cells) .no,.int .i64 (l.length:Int),.int .i64 (i:Int)],TQ A F f Q N B) =
   some (.exit 0,[.ptr (A.length+1) 0,.int .i64 0,.int .i64 (oY F u n),.slice (l.map GS.cells) .no,.int .i64 (l.length:Int),.int .i64 (l.length:Int)],TQ A F f Q N B)
 | [],i,n,hd,hi,_,_=>by
  have hge:l.length≤i:=by simpa using hd
  have e:i=l.length:=by omega
  subst e
  have htr:=tR (F:=F) (f:=f) (N:=N) hK
  have q0:∀h,kM.mO (TN A Q B) h (.ptr (A.length+1) 0)=.ptr (A.length+1) 0:=fun h=>lC (by unfold TN; omega)
  rw [lZ]
  simp -implicitDefEqProofs [HU,oY,kS,htr,q0]
 | x::u,i,n,hd,hi,hn1,hn2=>by
  have hlt:i < l.length:=by
   rcases Nat.lt_or_ge i l.length with hx | hx
   ·exact hx
   ·rw [List.drop_eq_nil_of_le hx] at hd; cases hd
  have ha:=af5 hlt
  rw [hd] at ha
  have hx:l[i]'hlt=x:=(List.cons.inj ha).1.symm
  have hd3:l.drop (i+1)=u:=(List.cons.inj ha).2.symm
  have hmem:x∈l:=hx ▸ List.getElem_mem hlt
  have hwx:=hw x hmem
  have w1:=rS (a:=i) (by omega)
  have hb:=ZQ hF x hwx
  have hrec:=Jf hF hK l hw ihA ihB ihE hl u (i+1) (D_ (n+Bm F x)) hd3 hlt (by unfold D_; omega) (by unfold D_; omega)
  have h171:=ihA x hmem
  have h135:=ihB x hmem
  have h135':=ihE x hmem
  obtain⟨xk,xp,xm,xn,⟨te,tl,tb⟩,xa,xb,xe,xh⟩:=x
  unfold EsC at h171
  unfold SsC at h135 h135'
  simp only [pX,ad2] at hwx
  obtain⟨⟨t1,t2⟩,t3⟩:=akS hwx.1.1
  simp only at t1 t2
  have ea:=EU hF xa 0 (by decide) (by decide)
  have eb:=Cy hF xb 0 hwx.1.2 (by decide) (by decide)
  have ee:=Cy hF xe 0 hwx.2 (by decide) (by decide)
  have hK1:KT A Q (B++[.cells (GS.cells (.mk xk xp xm xn ⟨te,tl,tb⟩ xa xb xe xh)),.front 0 0,.front 0 0,.front 0 0]):=hK.app (by simp [GS.cells])
  have htr:=fun N C=>wZ (F:=F) (f:=f) (N:=N) (C:=C) hK
  have htr1:=fun N=>tR (F:=F) (f:=f) (N:=N) hK1
  have hm1:TN A Q (B++[.cells (GS.cells (.mk xk xp xm xn ⟨te,tl,tb⟩ xa xb xe xh)),.front 0 0,.front 0 0,.front 0 0])=TN A Q B+4:=by simp
  rw [hm1] at htr1
  have q0:∀h,kM.mO (TN A Q B) h (.ptr (A.length+1) 0)=.ptr (A.length+1) 0:=fun h=>lC (by unfold TN; omega)
  have q1:∀h,kM.mO (TN A Q B+4) h (.ptr (A.length+1) 0)=.ptr (A.length+1) 0:=fun h=>lC (by unfold TN; omega)
  have q2:∀h,kM.mO (TN A Q B+4) h (.ptr (TN A Q B) 0)=.ptr (TN A Q B) 0:=fun h=>lC (by omega)
  have h134:=fun B hK n=>ayO (A:=A) (Q:=Q) (F:=F) (f:=f) (N:=N) (B:=B) hK n
  have e1:IntKind.wrap .i64 (1+oX F xa 0)=1+oX F xa 0:=by rw [wrap64] <;> omega
  have e2:IntKind.wrap .i64 (1+oX F xa 0+tl)=1+oX F xa 0+tl:=by rw [wrap64] <;> omega
  have e3:IntKind.wrap .i64 (n+(1+oX F xa 0+tl))=n+(1+oX F xa 0+tl):=by rw [wrap64] <;> omega
  simp only [GS.cells,GS.nO,GS.args,GS.body,GS.els,ag1,ac7,af9,af2,ah4] at h171 h135 h135' hrec htr1 hK1 ⊢
  rw [lZ,oY]
  by_cases hk:xk=6
  ·subst hk
   have hm:=t3 rfl
   have hmul:=awE hm.1 hm.2 eb.1 eb.2
   have e4:IntKind.wrap .i64 (xm+1)=xm+1:=by rw [wrap64] <;> omega
   have e5:IntKind.wrap .i64 (1+oY F xb 0)=1+oY F xb 0:=by rw [wrap64] <;> omega
   have e6:IntKind.wrap .i64 ((xm+1) * (1+oY F xb 0))=(xm+1) * (1+oY F xb 0):=by rw [wrap64] <;> omega
   have e9:Bm F (.mk 6 xp xm xn ⟨te,tl,tb⟩ xa xb xe xh)=(1+oX F xa 0+tl)+(xm+1) * (1+oY F xb 0)+oY F xe 0:=by rw [Bm,if_pos rfl]
   rw [e9] at hrec ⊢
   obtain⟨W,hW⟩:∃W,W=(xm+1) * (1+oY F xb 0):=⟨_,rfl⟩
   rw [←hW] at hmul hrec ⊢
   have e7:IntKind.wrap .i64 (n+(1+oX F xa 0+tl)+W)=n+(1+oX F xa 0+tl)+W:=by rw [wrap64] <;> omega
   have e8:IntKind.wrap .i64 (n+(1+oX F xa 0+tl)+W+oY F xe 0)=n+(1+oX F xa 0+tl+W+oY F xe 0):=by rw [wrap64] <;> omega
   have e6':IntKind.wrap .i64 ((xm+1) * (1+oY F xb 0))=W:=by rw [e6,hW]
   simp -implicitDefEqProofs [HU,hlt,hx,GS.cells,GS.nO,h171,h135,h135',hK,kS,htr,htr1,q0,q1,q2,w1,e1,e2,e3,e4,e5,e6',e7,e8,h134,hrec]
  ·have e9:Bm F (.mk xk xp xm xn ⟨te,tl,tb⟩ xa xb xe xh)=(1+oX F xa 0+tl)+oY F xb 0+oY F xe 0:=by rw [Bm,if_neg hk]
   rw [e9] at hrec ⊢
   have e7:IntKind.wrap .i64 (n+(1+oX F xa 0+tl)+oY F xb 0)=n+(1+oX F xa 0+tl)+oY F xb 0:=by rw [wrap64] <;> omega
   have e8:IntKind.wrap .i64 (n+(1+oX F xa 0+tl)+oY F xb 0+oY F xe 0)=n+(1+oX F xa 0+tl+oY F xb 0+oY F xe 0):=by rw [wrap64] <;> omega
   simp -implicitDefEqProofs [HU,hlt,hx,GS.cells,GS.nO,h171,h135,h135',hK,kS,htr,htr1,q0,q1,q2,w1,e1,e2,e3,e7,e8,hk,h134,hrec]
theorem aJa (hF:OkN F):∀(M:Nat) (l:List GS),GS.nJ l≤M→nW l=true→GS.nJ l≤4611686018427387904→SsC A Q F f N l:=by
 have hlS:∀l:List GS,l.length≤GS.nJ l:=fun l=>by
  induction l with
  | nil=>exact ah9 _
  | cons x r ih =>
   have:1≤x.size:=by cases x; simp only [GS.size]; omega
   simp only [ac8,GS.nJ]; omega
 intro M
 induction M with
 | zero =>
  intro l h1 hw h2 B hK
  have h3:=hlS l
  obtain rfl:=List.length_eq_zero_iff.1 (by omega:l.length=0)
  have hlp:=Jf (f:=f) (N:=N) hF hK [] (fun x hx=>by cases hx) (fun x hx=>by cases hx) (fun x hx=>by cases hx) (fun x hx=>by cases hx) (ah9 _) [] 0 0 rfl (ah9 _) (by decide) (by decide)
  refine k9 (Zg _ _ _ _) ?_
  simp only [ad0,al1,ac7] at hlp
  simp -implicitDefEqProofs [aAp,hK,hlp]
 | succ M ihM =>
  intro l h1 hw h2 B hK
  have h3:=hlS l
  rw [wH] at hw
  have hwl:=fun x hx=>ah1.1 hw x hx
  have hlp:=Jf (f:=f) (N:=N) hF hK l hwl (fun x hx=>by
   have h4:=GS.oO hx
   cases x with
   | mk k p m name ty args body els has =>
    simp only [GS.size] at h4
    exact aJl hF _ args (ac5 _) (by omega)) (fun x hx=>by
   have h4:=GS.oO hx
   have h5:=hwl x hx
   cases x with
   | mk k p m name ty args body els has =>
    simp only [GS.size] at h4
    simp only [pX,ad2] at h5
    exact ihM body (by omega) h5.1.2 (by omega)) (fun x hx=>by
   have h4:=GS.oO hx
   have h5:=hwl x hx
   cases x with
   | mk k p m name ty args body els has =>
    simp only [GS.size] at h4
    simp only [pX,ad2] at h5
    exact ihM els (by omega) h5.2 (by omega)) (by omega) l 0 0 rfl (ah9 _) (by decide) (by decide)
  refine k9 (Zg _ _ _ _) ?_
  simp only [ac7] at hlp
  simp -implicitDefEqProofs [aAp,hK,hlp]
end
end
section
open Go Hk
section
variable {A C:List lE}{F:Kn}{f:List kM}{w:kM}
attribute [local simp] IG Gq Ca L0 IH L1 Lc EF Fq L2 Fs aD5 ad6 Tn agA agC
theorem Yv {ids:List Nat}{x:Option R}{B D:List lE}(h:B <+: D):IE ids (FQ A F w f B) (FQ A F w f D) x=x:=by
 obtain⟨E,rfl⟩:=h
 exact agA
theorem aoT {ids:List Nat}{x:Option R}{a:lE}{D:List lE}:IE ids (FQ A F w f (C++[a])) (FQ A F w f (C++a::D)) x=x:=Yv ⟨D,by simp⟩
theorem aoU {ids:List Nat}{x:Option R}{a b c d e:lE}:IE ids (FQ A F w f (C++[a,b,c,d])) (FQ A F w f (C++[a,b,c,d,e])) x=x:=Yv ⟨[e],by simp⟩
theorem LZ {a b:Nat}:FN A C+a+b=FN A C+(a+b):=Nat.add_assoc _ _ _
attribute [local simp] aoT aoU LZ
def qF (A C:List lE) (g:GF):List lE:=C++[.cells g.cells,.cells [.int .i64 0,.str [],.slice [] (.own (FN A C+2)),.bool false,.int .i64 0,.int .i64 0,.int .i64 0,.slice [] (.own (FN A C+3)),.int .i64 0],.front 0 0,.front 0 0]
theorem len8 {f:List kM}(h:f.length=8):∃x0 x1 x2 x3 x4 x5 x6 x7,f=[x0,x1,x2,x3,x4,x5,x6,x7]:=by
 match f,h with
 | [x0,x1,x2,x3,x4,x5,x6,x7],_=>exact⟨x0,x1,x2,x3,x4,x5,x6,x7,rfl⟩
theorem auV (hK:FK A C w f) (g:GF):KT A (qF A C g) []:=by
 have hn:TN A (qF A C g) []=FN A C+5:=by simp [TN,FN,qF]; omega
 refine⟨fun n h=>?_,fun n h=>?_,fun _ _=>DW⟩
 ·exact hK.a.mono (by omega)
 ·rw [hn] at h
  refine Fu (hK.b.mono (by omega)) ?_
  have h2:FN A C+2 < n:=by omega
  have h3:FN A C+3 < n:=by omega
  simp [GF.cells,h2,h3]
set_option maxRecDepth 100000 in
theorem aJJ (hF:OkN F) (hK:FK A C w f) (g:GF) (hg:o0 g=true) (hp:g.params.length≤4400000000) (hb:GS.nJ g.body≤4400000000) (hl:look F g.name=none):∃N',KK 92 [.ptr (A.length+1) 0,.agg g.cells] (FQ A F w f C)=some (match AH F g with
  | .ok F1=>(.ret (.tuple []),TQ A F1 g (qF A C g) N' [])
  | .bad e p=>(.pan (AG e p),TQ A F g (qF A C g) N' [])):=by
 obtain⟨x0,x1,x2,x3,x4,x5,x6,x7,rfl⟩:∃x0 x1 x2 x3 x4 x5 x6 x7,f=[x0,x1,x2,x3,x4,x5,x6,x7]:=len8 hK.l
 have h131:=fun w f B hK b e p=>Yu (A:=A) (F:=F) (f:=f) (w:=w) (B:=B) hK b e p
 have hKT:=auV hK g
 have hTN:FN A C < TN A (qF A C g) []:=by simp [TN,FN,qF]; omega
 have hq:∀N B,mY (TQ A F g (qF A C g) N B) (FN A C)=some g.cells:=fun N B=>aIK
 have hK1:FK A (C++[.cells g.cells,.cells [.int .i64 0,.str [],.slice [] (.own (FN A C+2)),.bool false,.int .i64 0,.int .i64 0,.int .i64 0,.slice [] (.own (FN A C+3)),.int .i64 0],.front 0 0,.front 0 0]) w _:=hK.app (by simp [GF.cells])
 have hset:∀(w a:kM) (f g:List kM) (B:List lE),List.set (FQ A F w f B) (A.length+1) (.cells (.map A.length::a::g))=FQ A F a g B:=fun w a f g B=>X_
 have hchk:∀(w a:kM) (f:List kM) (B:List lE) (x:Option R),IE [FN A C] (FQ A F w f B) (FQ A F a f B) x=x:=fun w a f B x=>agB (by simp [FN]; omega)
 have hconv:FQ A F (.map (FN A C+4)) g.cells (C++[.cells g.cells,.cells [.int .i64 0,.str [],.slice [] (.own (FN A C+2)),.bool false,.int .i64 0,.int .i64 0,.int .i64 0,.slice [] (.own (FN A C+3)),.int .i64 0],.front 0 0,.front 0 0,.map []])=TQ A F g (qF A C g) [] []:=by
  rw [←auT]
  have e:A.length+2+(qF A C g).length=FN A C+4:=by simp [qF,FN]; omega
  rw [e]; simp [qF,CJ]
 have hbl:g.body.length≤4611686018427387904:=by
  have:∀l:List GS,l.length≤GS.nJ l:=fun l=>by
   induction l with
   | nil=>exact ah9 _
   | cons x r ih =>
    have:1≤x.size:=by cases x; simp only [GS.size]; omega
    simp only [ac8,GS.nJ]; omega
  have:=this g.body; omega
 simp only [o0,ad2] at hg
 have hws:=hg.1.1.2
 obtain⟨j0,N0,hlp0⟩:=Qz (F:=F) (f:=g) hKT (FN A C) hTN g.params (by omega) g.params 0 [] rfl (ah9 _)
 have hs:∀s∈g.body,StC A (qF A C g) F g s:=fun s hs=>by
  have h4:=GS.oO hs
  rw [wH] at hws
  exact ayN _ s (ac5 _) (ah1.1 hws s hs) (by omega)
 have hlp1:=fun N b=>QA (F:=F) (f:=g) (g:=g) hKT (FN A C) hTN hq hs hbl g.body 0 N b rfl (ah9 _)
 have h135:=fun N=>aJa (A:=A) (Q:=qF A C g) (f:=g) (N:=N) hF _ g.body (ac5 _) hws (by omega) [] hKT
 have hcb:=Cy hF g.body 0 hws (by decide) (by decide)
 have h134:=fun N n=>ayO (A:=A) (Q:=qF A C g) (F:=F) (f:=g) (N:=N) hKT n
 have h131':=fun N b e p=>MJ (A:=A) (Q:=qF A C g) (F:=F) (f:=g) (N:=N) hKT b e p
 have hput:=fun N c=>anW (A:=A) (Q:=qF A C g) (F:=F) (f:=g) (N:=N) (B:=[]) (g:=g) (c:=c) hl
 have e1:IntKind.wrap .i64 (1+oY F g.body 0)=1+oY F g.body 0:=by rw [wrap64] <;> omega
 generalize qF A C g=Q at *
 unfold AH
 rw [hl]
 obtain⟨gp,gn,gps,gh,⟨ge,gl,gb⟩,gbody⟩:=g
 simp only [GF.cells,af2,ah4,ac7] at hl hlp0 hlp1 h135 hq hK1 hset hconv hput e1 ⊢
 cases hr0:vE [] gps with
 | bad e q =>
  rw [hr0] at hlp0
  refine⟨N0,k9 (Sp _ _ _ _) ?_⟩
  simp -implicitDefEqProofs [m92,hK,hK1,hl,h131,rG,hset,hchk,hconv,hq,hlp0,TR.bind]
 | ok N1 =>
  rw [hr0] at hlp0
  obtain⟨j1,b1,N2,hlp1⟩:=hlp1 N1 false
  cases hr1:yL F ⟨gp,gn,gps,gh,⟨ge,gl,gb⟩,gbody⟩ N1 gbody with
  | bad e q =>
   rw [hr1] at hlp1
   refine⟨N2,k9 (Sp _ _ _ _) ?_⟩
   simp -implicitDefEqProofs [m92,hK,hK1,hl,h131,rG,hset,hchk,hconv,hq,hlp0,hlp1,TR.bind,hr1]
  | ok N3 =>
   rw [hr1] at hlp1
   refine⟨N3,k9 (Sp _ _ _ _) ?_⟩
   cases gh <;> cases hlr:tV gbody false <;> rw [hlr] at hlp1 <;> simp -implicitDefEqProofs [m92,hK,hK1,hl,h131,rG,hset,hchk,hconv,hq,hlp0,hlp1,TR.bind,hr1,hlr,h131',h135,h134,e1,hput]
set_option maxRecDepth 100000 in
theorem c92 (hF:OkN F) (hK:FK A C w f) (g:GF) (hg:o0 g=true) (hp:g.params.length≤4400000000) (hb:GS.nJ g.body≤4400000000):∃w' f' C',FK A C' w' f'∧KK 92 [.ptr (A.length+1) 0,.agg g.cells] (FQ A F w f C)=some (match AH F g with
  | .ok F1=>(.ret (.tuple []),FQ A F1 w' f' C')
  | .bad e p=>(.pan (AG e p),FQ A F w' f' C')):=by
 cases hl:look F g.name with
 | some t =>
  have h131:=fun w f B hK b e p=>Yu (A:=A) (F:=F) (f:=f) (w:=w) (B:=B) hK b e p
  obtain⟨gp,gn,gps,gh,⟨ge,gl,gb⟩,gbody⟩:=g
  obtain⟨⟨tp,tn,tps,th,⟨te,tl,tb⟩,tbody⟩,tc⟩:=t
  have hK1:FK A (C++[.cells (GF.cells ⟨gp,gn,gps,gh,⟨ge,gl,gb⟩,gbody⟩),.cells (GF.cells ⟨tp,tn,tps,th,⟨te,tl,tb⟩,tbody⟩++[.int .i64 tc]),.front 0 0,.front 0 0]) w f:=hK.app (by simp [GF.cells])
  refine⟨w,f,_,hK1,k9 (Sp _ _ _ _) ?_⟩
  simp only [GF.cells,af2,ah4] at hK1
  simp only at hl
  simp -implicitDefEqProofs [m92,hK,hl,hK1,h131,rG,AH]
 | none =>
  obtain⟨N',h⟩:=aJJ (f:=f) hF hK g hg hp hb hl
  have hKT:=auV hK g
  refine⟨.map (A.length+2+(qF A C g).length),g.cells,qF A C g++[.map (CJ N')],⟨?_,?_,?_,rfl⟩,?_⟩
  ·have:=hKT.a _ (ac5 _); exact this.mono (by simp [TN,FN]; omega)
  ·have:=hKT.q _ (ac5 _); exact Fu (this.mono (by simp [TN,FN]; omega)) Ld
  ·intro m x hm
   have h1:A.length+2+(qF A C g).length < m:=by simp [FN] at hm; omega
   simp [Ir h1,nI,kM.mD,GF.cells]
  ·rw [h]
   cases AH F g <;> simp only [auT]
end
end
section
open Go Hk
theorem ak0 {n:Int}(h1:0≤n) (h2:n≤4294967295):0≤Int.tdiv (n+3) 4∧Int.tdiv (n+3) 4≤1073741825:=by
 rw [Int.tdiv_eq_ediv_of_nonneg (by omega)]; omega
theorem aoK {t:GT}(h1:0≤t.len) (h2:t.len≤4294967295):0≤Br t∧Br t≤17179869180:=by
 have:=ak0 h1 h2
 unfold Br
 split
 ·omega
 ·split <;> omega
theorem aKW {n:Int}:kV .quo (.int .i64 n) (.int .i64 4)=some (.int .i64 (IntKind.wrap .i64 (n.tdiv 4))):=(rfl)
theorem aJb {t:GT}(h1:0≤t.len) (h2:t.len≤4294967295) (h:kP):KK 136 [.agg [.int .i64 t.elem,.int .i64 t.len,.int .i64 t.label]] h=some (.ret (.int .i64 (Br t)),h):=by
 refine lA rfl rfl (k9 (aqU _ _ _) ?_)
 have h3:=ak0 h1 h2
 obtain⟨te,tl,tb⟩:=t
 simp only at h1 h2 h3
 have w1:IntKind.wrap .i64 (tl+3)=tl+3:=by rw [wrap64] <;> omega
 have w2:IntKind.wrap .i64 (Int.tdiv (tl+3) 4 * 4)=Int.tdiv (tl+3) 4 * 4:=by rw [wrap64] <;> omega
 have w3:IntKind.wrap .i64 (4 * tl)=4 * tl:=by rw [wrap64] <;> omega
 have w4:IntKind.wrap .i64 (Int.tdiv (tl+3) 4)=Int.tdiv (tl+3) 4:=by rw [wrap64] <;> omega
 unfold Br
 by_cases e1:tl=0
 ·simp -implicitDefEqProofs [aqT,e1,kN]
 ·by_cases e2:te=2
  ·simp -implicitDefEqProofs [aqT,e1,e2,w1,w2,w4,aKW,kN]
  ·simp -implicitDefEqProofs [aqT,e1,e2,w3,kN]
section
variable {A B:List lE}{F:Kn}{f:List kM}{w:kM}
attribute [local simp] IG Gq Ca L0 IH L1 Lc EF Fq L2 Fs amT amS ad5 ad4 FK.app
theorem NL (hK:FK A B w f) (x4:Nat) (hx4:x4 < FN A B) (l:List GP) (hw:∀q∈l,0≤q.ty.len∧q.ty.len≤4294967295) (hl:l.length≤4611686018427387904):∀(u:List GP) (i:Nat) (a b:Int),l.drop i=u→i≤l.length→0≤a→a≤65537→0≤b→b≤65537 →
  ∃(j a' b':Int),mI (Jo KK (FN A B)) ([.ptr x4 0,.int .i64 a,.int .i64 b,.slice (l.map GP.cells) .no,.int .i64 (l.length:Int),.int .i64 (i:Int)],FQ A F w f B) =
   some (match EZ u a b with
    | .ok (a1,b1)=>(.exit 0,[.ptr x4 0,.int .i64 a1,.int .i64 b1,.slice (l.map GP.cells) .no,.int .i64 (l.length:Int),.int .i64 (l.length:Int)],FQ A F w f B)
    | .bad e q=>(.pan (AG e q),[.ptr x4 0,.int .i64 a',.int .i64 b',.slice (l.map GP.cells) .no,.int .i64 (l.length:Int),.int .i64 j],FQ A F w f B))
 | [],i,a,b,hd,hi,_,_,_,_=>by
  have hge:l.length≤i:=by simpa using hd
  have e:i=l.length:=by omega
  subst e
  have htr:=zI (F:=F) (f:=f) hK
  have q3:∀h,kM.mO (FN A B) h (.ptr x4 0)=.ptr x4 0:=fun h=>lC hx4
  refine⟨0,0,0,?_⟩
  rw [lZ]
  simp -implicitDefEqProofs [Jo,EZ,kS,htr,q3]
 | x::u,i,a,b,hd,hi,ha1,ha2,hb1,hb2=>by
  have hlt:i < l.length:=by
   rcases Nat.lt_or_ge i l.length with hx | hx
   ·exact hx
   ·rw [List.drop_eq_nil_of_le hx] at hd; cases hd
  have ha:=af5 hlt
  rw [hd] at ha
  have hx:l[i]'hlt=x:=(List.cons.inj ha).1.symm
  have hd3:l.drop (i+1)=u:=(List.cons.inj ha).2.symm
  have hxw:=hw x (hx ▸ List.getElem_mem hlt)
  have w1:=rS (a:=i) (by omega)
  have htr:=fun C=>Dr (F:=F) (f:=f) (C:=C) hK
  have q3:∀h,kM.mO (FN A B) h (.ptr x4 0)=.ptr x4 0:=fun h=>lC hx4
  have q4:∀h,kM.mO (FN A B+1) h (.ptr x4 0)=.ptr x4 0:=fun h=>lC (by omega)
  have h131:=fun B hK b e p=>Yu (A:=A) (F:=F) (f:=f) (w:=w) (B:=B) hK b e p
  have h136:=fun h=>aJb (t:=x.ty) hxw.1 hxw.2 h
  have hbb:=aoK (t:=x.ty) hxw.1 hxw.2
  obtain⟨xp,xn,⟨te,tl,tb⟩,xo⟩:=x
  simp only at h136 hbb
  have hK2:FK A (B++[.cells (GP.cells ⟨xp,xn,⟨te,tl,tb⟩,xo⟩)]) w f:=hK.app (by simp [GP.cells])
  have htr2:=zI (F:=F) (f:=f) hK2
  simp only [GP.cells,Ca,ac8,ad0,al6] at htr2
  rw [EZ]
  by_cases h1:te=1
  ·refine⟨i,a,b,?_⟩
   rw [lZ]
   simp -implicitDefEqProofs [Jo,hlt,hx,GP.cells,h131,hK,h1,rG,TR.bind,kS,htr,q3]
  ·generalize hW:Br ⟨te,tl,tb⟩=W at *
   have w2:IntKind.wrap .i64 (a+W)=a+W:=by rw [wrap64] <;> omega
   have w3:IntKind.wrap .i64 (b+W)=b+W:=by rw [wrap64] <;> omega
   cases xo
   ·obtain⟨j,a',b',ih⟩:=NL hK x4 hx4 l hw hl u (i+1) (min (a+W) 65537) b hd3 hlt (by omega) (by omega) hb1 hb2
    simp only [ag1,ac7] at ih
    refine⟨j,a',b',?_⟩
    rw [lZ]
    simp -implicitDefEqProofs [Jo,hlt,hx,GP.cells,h131,h136,hW,hK,h1,rG,TR.bind,kS,htr,htr2,q3,q4,w1,w2,ih]
   ·obtain⟨j,a',b',ih⟩:=NL hK x4 hx4 l hw hl u (i+1) a (min (b+W) 65537) hd3 hlt ha1 ha2 (by omega) (by omega)
    simp only [ag1,ac7] at ih
    refine⟨j,a',b',?_⟩
    rw [lZ]
    simp -implicitDefEqProofs [Jo,hlt,hx,GP.cells,h131,h136,hW,hK,h1,rG,TR.bind,kS,htr,htr2,q3,q4,w1,w3,ih]
theorem yW {sz:Nat}{r:List GF}{row:List kM}{t:Tok}:kX sz (.slice (r.map GF.cells++[row]) t) (.int .i64 (r.length:Int))=if row.length=sz then some (.pptr row) else none:=by
 rw [nZ,if_pos (by omega),Int.toNat_natCast,ac9 (by simp),al0,Nat.sub_self]
 rfl
theorem c93 (hK:FK A B w f) (l:List GF) (hw:∀g∈l,∀q∈g.params,0≤q.ty.len∧q.ty.len≤4294967295) (hp:∀g∈l,g.params.length≤4611686018427387904) (hl:l.length≤4611686018427387904):KK 93 [.ptr (A.length+1) 0,.slice (l.map GF.cells) .no] (FQ A F w f B)=some ((DJ l).res tQ (FQ A F w f B)):=by
 refine k9 (aBz _ _ _ _) ?_
 have h131:=fun B hK b e p=>Yu (A:=A) (F:=F) (f:=f) (w:=w) (B:=B) hK b e p
 unfold DJ
 rcases List.eq_nil_or_concat l with rfl | ⟨r,g,rfl⟩
 ·simp -implicitDefEqProofs [m93,h131,hK,rG,TR.bind]
 ·rw [List.concat_eq_append] at hw hp hl ⊢
  have hgl:(r++[g]).getLast?=some g:=by simp
  have hw:=hw g (by simp)
  have hp:=hp g (by simp)
  rw [hgl]
  obtain⟨gp,gn,gps,gh,⟨ge,gl,gb⟩,gbody⟩:=g
  have hK2:FK A (B++[.cells (GF.cells ⟨gp,gn,gps,gh,⟨ge,gl,gb⟩,gbody⟩),.front 0 0,.front 0 0]) w f:=hK.app (by simp [GF.cells])
  obtain⟨j,a',b',hlp⟩:=NL (F:=F) (f:=f) hK2 (FN A B) (by simp [FN]) gps hw hp gps 0 0 0 rfl (ah9 _) (by decide) (by decide) (by decide) (by decide)
  have w0:IntKind.wrap .i64 (r.length:Int)=(r.length:Int):=by rw [wrap64] <;> simp at hl ⊢ <;> omega
  simp only [GF.cells,Ca,ac8,ad0,al6,Nat.reduceAdd,ac7] at hlp
  by_cases h1:gn=Bi
  ·unfold Bi at h1
   subst h1
   cases gh
   ·cases hr:EZ gps 0 0 with
    | bad e q =>
     rw [hr] at hlp
     simp -implicitDefEqProofs [m93,Bi,h131,hK,w0,yW,rG,TR.bind,hlp,hr]
    | ok ab =>
     obtain⟨a1,b1⟩:=ab
     rw [hr] at hlp
     by_cases h2:a1≤65536 <;> by_cases h3:b1≤65536 <;> simp -implicitDefEqProofs [m93,Bi,h131,hK,w0,yW,h2,h3,rG,TR.bind,hlp,hr]
   ·simp -implicitDefEqProofs [m93,Bi,h131,hK,w0,yW,rG,TR.bind]
  ·unfold Bi at h1
   simp -implicitDefEqProofs [m93,Bi,h131,hK,w0,yW,h1,rG,TR.bind]
end
end
section
open Go Hk
theorem agX {F F1:Kn}{g:GF}(hF:OkN F) (hg:o0 g=true) (h:AH F g=.ok F1):OkN F1:=by
 unfold AH at h
 cases hl:look F g.name with
 | some t=>rw [hl] at h; cases h
 | none =>
  rw [hl] at h
  simp only [o0,ad2] at hg
  have hb:=Cy hF g.body 0 hg.1.1.2 (by decide) (by decide)
  simp only at h
  cases h1:vE [] g.params with
  | bad e p=>rw [h1] at h; cases h
  | ok N =>
   rw [h1] at h
   simp only [TR.bind] at h
   cases h2:yL F g N g.body with
   | bad e p=>rw [h2] at h; cases h
   | ok N2 =>
    rw [h2] at h
    simp only [rG] at h
    split at h
    ·rename_i e
     split at e
     ·cases h
      intro p hp
      rcases List.mem_append.1 hp with hp | hp
      ·exact hF p hp
      ·obtain rfl:=List.mem_singleton.1 hp
       simp only [D_]; omega
     ·cases e
    ·cases h
section
variable {A:List lE}
attribute [local simp] IG Gq Ca L0 IH L1 Lc EF Fq L2 Fs FK.app LZ
def Tp (g:GF):Prop:=o0 g=true∧g.params.length≤4400000000∧GS.nJ g.body≤4400000000
theorem UW (m:Nat) (v1 v2 v3 v4:kM) (l:List GF) (hl:l.length≤4611686018427387904) (hw:∀g∈l,Tp g):∀(u:List GF) (i:Nat) (F:Kn) (w:kM) (f:List kM) (C:List lE),OkN F→FK A C w f→l.drop i=u→i≤l.length →
  ∃(j:Int) (w':kM) (f':List kM) (C':List lE) (F':Kn),FK A C' w' f'∧mI (ND KK m) ([v1,v2,v3,v4,.ptr (A.length+1) 0,.slice (l.map GF.cells) .no,.int .i64 (l.length:Int),.int .i64 (i:Int)],FQ A F w f C) =
   some (match uG F u with
    | .ok F1=>(.exit 0,[v1,v2,v3,v4,.ptr (A.length+1) 0,.slice (l.map GF.cells) .no,.int .i64 (l.length:Int),.int .i64 (l.length:Int)],FQ A F1 w' f' C')
    | .bad e q=>(.pan (AG e q),[v1,v2,v3,v4,.ptr (A.length+1) 0,.slice (l.map GF.cells) .no,.int .i64 (l.length:Int),.int .i64 j],FQ A F' w' f' C'))
 | [],i,F,w,f,C,hF,hK,hd,hi=>by
  have hge:l.length≤i:=by simpa using hd
  have e:i=l.length:=by omega
  subst e
  refine⟨0,w,f,C,F,hK,?_⟩
  rw [lZ]
  simp -implicitDefEqProofs [ND,uG]
 | x::u,i,F,w,f,C,hF,hK,hd,hi=>by
  have hlt:i < l.length:=by
   rcases Nat.lt_or_ge i l.length with hx | hx
   ·exact hx
   ·rw [List.drop_eq_nil_of_le hx] at hd; cases hd
  have ha:=af5 hlt
  rw [hd] at ha
  have hx:l[i]'hlt=x:=(List.cons.inj ha).1.symm
  have hd3:l.drop (i+1)=u:=(List.cons.inj ha).2.symm
  obtain⟨hx1,Kv,hx3⟩:=hw x (hx ▸ List.getElem_mem hlt)
  have w1:=rS (a:=i) (by omega)
  have hK2:FK A (C++[.cells x.cells,.front 0 0,.front 0 0]) w f:=hK.app (by simp [GF.cells])
  obtain⟨w1',f1,C1,hK3,h92⟩:=c92 (f:=f) hF hK2 x hx1 Kv hx3
  rw [uG]
  cases hr:AH F x with
  | bad e q =>
   rw [hr] at h92
   refine⟨i,w1',f1,C1,F,hK3,?_⟩
   rw [lZ]
   obtain⟨gp,gn,gps,gh,⟨ge,gl,gb⟩,gbody⟩:=x
   simp only [GF.cells] at h92
   simp -implicitDefEqProofs [ND,hlt,hx,h92,TR.bind]
  | ok F1 =>
   rw [hr] at h92
   obtain⟨j,w2,f2,C2,F2,hK4,ih⟩:=UW m v1 v2 v3 v4 l hl hw u (i+1) F1 w1' f1 C1 (agX hF hx1 hr) hK3 hd3 hlt
   refine⟨j,w2,f2,C2,F2,hK4,?_⟩
   rw [lZ]
   obtain⟨gp,gn,gps,gh,⟨ge,gl,gb⟩,gbody⟩:=x
   simp only [GF.cells] at h92
   simp only [ag1,ac7] at ih
   simp -implicitDefEqProofs [ND,hlt,hx,h92,TR.bind,w1,ih]
end
end
section
open Go Hk
def LA (v:kM) (a b c d:Int):List lE:=[.cells [v],.cells [.int .i64 a],.cells [.int .i64 b],.cells [.int .i64 c,.int .i64 d]]
section
variable {rows:List (List kM)}{t:Tok}{v w:kM}{a b c d:Int}{F:Kn}{f:List kM}{B:List lE}{x:kM}
theorem aeF:(LA v a b c d).length=4:=rfl
theorem am7:mY (FQ (LA v a b c d) F w f B) 0=some [v]:=rfl
theorem am8:mY (FQ (LA v a b c d) F w f B) 1=some [.int .i64 a]:=rfl
theorem am9:mY (FQ (LA v a b c d) F w f B) 2=some [.int .i64 b]:=rfl
theorem anA:mY (FQ (LA v a b c d) F w f B) 3=some [.int .i64 c,.int .i64 d]:=rfl
theorem anB {z:Int}:List.set (FQ (LA v a b c d) F w f B) 1 (.cells [.int .i64 z])=FQ (LA v z b c d) F w f B:=rfl
theorem anC {z:Int}:List.set (FQ (LA v a b c d) F w f B) 2 (.cells [.int .i64 z])=FQ (LA v a z c d) F w f B:=rfl
theorem anD {y z:Int}:List.set (FQ (LA v a b c d) F w f B) 3 (.cells [.int .i64 y,.int .i64 z])=FQ (LA v a b y z) F w f B:=rfl
def LH (a b c d:Int):List lE:=[.gone,.cells [.int .i64 a],.cells [.int .i64 b],.cells [.int .i64 c,.int .i64 d]]
theorem aeH:oB (FQ (LA v a b c d) F w f B) 0=FQ (LH a b c d) F w f B:=rfl
theorem aeG:oB (FQ (LH a b c d) F w f B) 0=FQ (LH a b c d) F w f B:=rfl
theorem am5:mY (FQ (LH a b c d) F w f B) 1=some [.int .i64 a]:=rfl
theorem am6 {z:Int}:List.set (FQ (LH a b c d) F w f B) 1 (.cells [.int .i64 z])=FQ (LH z b c d) F w f B:=rfl
theorem VW {a' b' c' d':Int}:mL (FQ (LA v a b c d) F w f B) (FQ (LH a' b' c' d') F w f B) 0=FQ (LA v a' b' c' d') F w f B:=rfl
theorem Tw {a' b' c' d':Int}:mL (FQ (LA v a b c d) F w f B) (FQ (LA v a' b' c' d') F w f B) 0=FQ (LA v a' b' c' d') F w f B:=rfl
theorem aeI {z:kM}{s:List UInt8}:q7 z false (FQ (LA v a b c d) F w f B) (.map 4) (.str s)=some (match look F s with | some t=>.agg (t.1.cells++[.int .i64 t.2]) | none=>z):=Tn
theorem aIF:mY (FQ (LA v a b c d) F w f B) 5=some (.map 4::w::f):=aD5
theorem LFK (h:FK (LA v a b c d) B w f) {a' b' c' d':Int}:FK (LA v a' b' c' d') B w f:=by
 refine⟨?_,h.b,h.w,h.l⟩
 have:=h.a
 simp only [LA,Df,FN,ac8,ad0] at this ⊢
 exact⟨this.1,by simp [DW]⟩
end
section
variable {A B C:List lE}{F:Kn}{w:kM}{f:List kM}
theorem Z7:oB (FQ A F w f (B++C)) (FN A B)=FQ A F w f (B++oB C 0):=by
 unfold oB
 rw [IH]
 cases C[0]? with
 | none=>rfl
 | some b=>cases b <;> first | rfl | exact Fs
theorem To {A':List lE}{F':Kn}{w':kM}{f':List kM}{C':List lE}(h:A'.length=A.length):mL (FQ A F w f (B++C)) (FQ A' F' w' f' (B++C')) (FN A B)=FQ A' F' w' f' (B++mL C C' 0):=by
 have e:FN A B=FN A' B:=by simp [FN,h]
 unfold mL
 rw [IH,e]
 cases C[0]? with
 | none=>rfl
 | some b=>cases b <;> first | rfl | exact Fs
end
section
variable {l:List GF}
attribute [local simp] IG Gq Ca L0 IH L1 Lc EF Fq L2 Fs FK.app LZ aeF am7 am8 am9 anA anB anC anD aeH aeG am5 am6 VW Tw aeI aIF
def Gl:TR (Int×Int)→kM
 | .ok (c,p)=>.tuple [.int .i64 c,.int .i64 p,.agg [.int .i64 0,.int .i64 0]]
 | .bad e p=>.tuple [.int .i64 0,.int .i64 0,.agg [.int .i64 e,.int .i64 p]]
theorem acQ {F:Kn}{w:kM}{f:List kM}{B:List lE}{v:kM}{a b c d:Int}(hK:FK (LA v a b c d) B w f):acP KK [.ptr 1 0,.ptr 2 0,.ptr 3 0] none (FQ (LA v a b c d) F w f B)=some (FQ (LA v a b c d) F w f B):=by
 have htr:=fun C=>Dr (F:=F) (f:=f) (C:=C) hK
 have htr0:=zI (F:=F) (f:=f) hK
 have hK2:FK (LA v a b c d) (B++[.cells [.int .i64 0,.int .i64 0]]) w f:=hK.app (by simp)
 have htr2:=zI (F:=F) (f:=f) hK2
 simp only [Ca,ac8,ad0,al6] at htr2
 simp -implicitDefEqProofs [acP,ai2,kS,htr,htr0,htr2]
theorem QB {F:Kn}{w:kM}{f:List kM}{B:List lE}{v:kM}{e p:Int}(hK:FK (LA v 0 0 0 0) B w f):acP KK [.ptr 1 0,.ptr 2 0,.ptr 3 0] (some (AG e p)) (FQ (LA v 0 0 0 0) F w f B)=some (FQ (LA v 0 0 e p) F w f B):=by
 have htr:=fun C=>Dr (F:=F) (f:=f) (C:=C) (LFK hK (a':=0) (b':=0) (c':=e) (d':=p))
 have hK2:FK (LA v 0 0 e p) (B++[.cells [.int .i64 e,.int .i64 p]]) w f:=(LFK hK).app (by simp)
 have htr2:=zI (F:=F) (f:=f) hK2
 have hN:FN (LA v 0 0 e p) B=FN (LA v 0 0 0 0) B:=rfl
 simp only [Ca,ac8,ad0,al6,hN] at htr2 htr
 simp -implicitDefEqProofs [acP,ai2,kS,htr,htr2,Z7,To,hN]
theorem aIE {v:kM}(hv:∀m x,v.mO m x=v) (hc:v.mD=true):FK (LA v 0 0 0 0) [.front 0 0,.front 0 0] .nilmap [.int .i64 0,.str [],.slice [] (.own 6),.bool false,.int .i64 0,.int .i64 0,.int .i64 0,.slice [] (.own 7)]:=by
 refine⟨?_,?_,?_,rfl⟩
 ·simp only [LA,Df]
  exact⟨(CO (fun m x _=>hv m x) hc).2 QZ,by simp [DW]⟩
 ·simp [DW]
 ·refine(CO (fun m x _=>rfl) rfl).2 ?_
  simp [FN,LA]
theorem c45 {T:List UInt8}(O0:∀h,KK 14 [.agg [.slice (l.map GF.cells) .no]] h=some (.ret (.tuple [.str T,.int .i64 (qE l).2]),h)) (hw:(qE l).2=0→∀g∈l,Tp g) (hl:l.length≤4611686018427387904) (h:kP) :
  KK 45 [.agg [.slice (l.map GF.cells) .no]] h=some (.ret (Gl (Bh l)),h):=by
 refine lA rfl (by simp [kM.nP,kM.pE,qA]) (k9 (aA3 _ _ _) ?_)
 have hsan:∀(h:kP) (a b c d:Int),(kM.vM 0 h (.tuple [.int .i64 a,.int .i64 b,.agg [.int .i64 c,.int .i64 d]])).mV=.tuple [.int .i64 a,.int .i64 b,.agg [.int .i64 c,.int .i64 d]]:=fun _ _ _ _ _=>rfl
 unfold Bh
 by_cases hp:(qE l).2=0
 ·have hw:=hw hp
  rw [hp] at O0
  rw [if_neg (by omega)]
  have hK0:=aIE (v:=.slice (l.map GF.cells) .no) (fun _ _=>rfl) rfl
  obtain⟨j,w',f',C',F',hK,hlp⟩:=UW 8 (.ptr 0 0) (.ptr 1 0) (.ptr 2 0) (.ptr 3 0) l hl hw l 0 [] _ _ _ (fun p hp=>by cases hp) hK0 rfl (ah9 _)
  have h93:=fun F=>c93 (F:=F) hK l (fun g hg q hq=>by
   have h1:=(hw g hg).1
   simp only [o0,ad2] at h1
   have h2:=ah1.1 h1.1.2 q hq
   simp only [uV,sK,ad2] at h2
   simpa [zF] using h2.2.1.2) (fun g hg=>by have:=(hw g hg).2.1; omega) hl
  have hN:=fun e p=>QB (F:=F') (w:=w') (f:=f') (e:=e) (p:=p) hK
  have hconv:[.cells [.slice (l.map GF.cells) .no],.cells [.int .i64 0],.cells [.int .i64 0],.cells [.int .i64 0,.int .i64 0],.map [],.cells [.map 4,.nilmap,.int .i64 0,.str [],.slice [] (.own 6),.bool false,.int .i64 0,.int .i64 0,.int .i64 0,.slice [] (.own 7)],.front 0 0,.front 0 0]=FQ (LA (.slice (l.map GF.cells) .no) 0 0 0 0) [] .nilmap [.int .i64 0,.str [],.slice [] (.own 6),.bool false,.int .i64 0,.int .i64 0,.int .i64 0,.slice [] (.own 7)] [.front 0 0,.front 0 0]:=rfl
  simp only [aeF,Nat.reduceAdd,ac7] at hlp h93
  have hcn:kM.mD .nilmap=true:=rfl
  simp only [AG] at hN
  cases hr:uG [] l with
  | bad e p =>
   rw [hr] at hlp
   simp -implicitDefEqProofs [m45,hsan,O0,hconv,hcn,hlp,hN,TR.bind,Gl,kN]
  | ok F1 =>
   rw [hr] at hlp
   have h93:=h93 F1
   cases hm:DJ l with
   | bad e p =>
    rw [hm] at h93
    have hN:=QB (F:=F1) (w:=w') (f:=f') (e:=e) (p:=p) hK
    simp only [AG] at hN
    simp -implicitDefEqProofs [m45,hsan,O0,hconv,hcn,hlp,h93,hN,TR.bind,Gl,kN]
   | ok u =>
    rw [hm] at h93
    obtain⟨r,g,hrg⟩:∃r g,l=r++[g]:=by
     rcases List.eq_nil_or_concat l with rfl | ⟨r,g,rfl⟩
     ·cases hm
     ·exact⟨r,g,List.concat_eq_append ..⟩
    have hgl:l.getLast?=some g:=by rw [hrg]; simp
    have hln:(l.length:Int)=(r.length:Int)+1:=by rw [hrg]; simp
    have w0:IntKind.wrap .i64 ((l.length:Int) - 1)=(r.length:Int):=by rw [wrap64] <;> omega
    have hix:kX 8 (.slice (l.map GF.cells) .no) (.int .i64 (r.length:Int))=some (.pptr g.cells):=by
     rw [hrg,List.map_append]
     exact yW
    have hN:=fun a b c d=>acQ (F:=F1) (w:=w') (f:=f') (LFK hK (a':=a) (b':=b) (c':=c) (d':=d))
    obtain⟨gp,gn,gps,gh,⟨ge,gl,gb⟩,gbody⟩:=g
    simp only [GF.cells] at hix
    cases hlm:look F1 Bi with
    | none =>
     have hlm2:=hlm
     unfold Bi at hlm
     simp -implicitDefEqProofs [m45,hsan,O0,hconv,hcn,hlp,h93,hN,TR.bind,Gl,kN,w0,hix,hgl,hlm,hlm2]
    | some t =>
     have hlm2:=hlm
     unfold Bi at hlm
     obtain⟨⟨tp,tn,tps,th,⟨te,tl,tb⟩,tbody⟩,tc⟩:=t
     simp -implicitDefEqProofs [m45,hsan,O0,hconv,hcn,hlp,h93,hN,TR.bind,Gl,kN,w0,hix,hgl,hlm,hlm2]
 ·rw [if_pos hp]
  simp -implicitDefEqProofs [m45,hsan,O0,hp,Gl,kN]
end
end
section
open Go Hk
section
variable {l:List GF}{T:List UInt8}
theorem c20 (O0:∀h,KK 14 [.agg [.slice (l.map GF.cells) .no]] h=some (.ret (.tuple [.str T,.int .i64 (qE l).2]),h)) (hw:(qE l).2=0→∀g∈l,Tp g) (hl:l.length≤4611686018427387904) (h:kP) :
  KK 20 [.agg [.slice (l.map GF.cells) .no]] h=some (.ret (.agg [.int .i64 (rD l).1,.int .i64 (rD l).2]),h):=by
 refine lA rfl (by simp [kM.nP,kM.pE,qA]) (k9 (aAI _ _ _) ?_)
 have h45:=c45 O0 hw hl
 unfold rD
 cases hr:Bh l with
 | bad e p =>
  rw [hr] at h45
  simp only [Gl] at h45
  simp -implicitDefEqProofs [m20,h45,kN]
 | ok cp =>
  obtain⟨c,p⟩:=cp
  rw [hr] at h45
  simp only [Gl] at h45
  by_cases hc:65536 < c
  ·simp -implicitDefEqProofs [m20,h45,kN,hc]
  ·simp -implicitDefEqProofs [m20,h45,kN,hc]
theorem c22 (O0:∀h,KK 14 [.agg [.slice (l.map GF.cells) .no]] h=some (.ret (.tuple [.str T,.int .i64 (qE l).2]),h)) (hw:(qE l).2=0→∀g∈l,Tp g) (hl:l.length≤4611686018427387904) (h:kP) :
  KK 22 [.agg [.slice (l.map GF.cells) .no]] h=some (.ret (.int .i64 (Bx l)),h):=by
 refine lA rfl (by simp [kM.nP,kM.pE,qA]) (k9 (aAK _ _ _) ?_)
 have h45:=c45 O0 hw hl
 unfold Bx
 cases hr:Bh l with
 | bad e p =>
  rw [hr] at h45
  simp only [Gl] at h45
  simp -implicitDefEqProofs [m22,h45,kN]
 | ok cp =>
  obtain⟨c,p⟩:=cp
  rw [hr] at h45
  simp only [Gl] at h45
  simp -implicitDefEqProofs [m22,h45,kN]
end
end
section
open Go Hk

end
section
open Go Hk

end
section
open Go Hk
section
variable {α β:Type}{P:α→Prop}{Q:β→Prop}
end
def Hf (N:Nm mS):Prop:=∀p∈N,p.2.ty.label=0
def OkG (f:GF):Prop:=f.result.label=0∧∀q∈f.params,q.ty.label=0
def OkK (F:Kn):Prop:=∀p∈F,OkG p.2.1
section
variable {N:Nm mS}(hN:Hf N)
include hN
end
section
variable {F:Kn}{N:Nm mS}(hF:OkK F) (hN:Hf N)
include hF hN
end
section
variable {F:Kn}{f:GF}(hF:OkK F) (hf:OkG f)
include hF hf
end
end
end Go.Proofs.YtlddmnojanpdoaaGreatDoor
