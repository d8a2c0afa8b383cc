/-
  The texts TY.T1, TY.T2, TY.P1, TY.P2, TY.P3, TY.C2, TY.Q2, TY.Q3, TY.H7, TY.H8, TY.H9, TY.H10, TY.H11, TY.H12, TY.H13, TY.T3, TY.P5, TY.P6, TY.P7, TY.P8, TY.P9, TY.P10, TY.P11, TY.T4, TY.P12, TY.T5, TY.P13, TY.P14, TY.P15, TY.R24, TY.R25, TY.R26, TY.R27, TY.R29, TY.W19, one behind another. No conditions.
-/
import Derived.Test.YtkeoalhglkfbkaaDoorTyr1
import Derived.Test.YtkeoalhglkfbkaaDoorIx1
import Derived.Test.YtkeoalhglkfbkaaDoorTyh1
import Derived.Test.YtkeoalhglkfbkaaDoorIxa1
import Derived.Test.YtkeoalhglkfbkaaDoorIxu1
set_option linter.unusedVariables false
set_option linter.unusedSimpArgs false
set_option linter.unusedSectionVars false
set_option linter.all false

namespace Go.Proofs.YtkeoalhglkfbkaaDoor
open Go Hk
noncomputable def alH (mm:Nat) (aA:R):Option (nZ×kU) :=
 (fun aB=>Ex.nK aA.1 (mX mm (.tuple []) aB))  aA.2.2
theorem atA (y0:Int) (y1:Int) (h:kU) (id tot j:Nat) (xs:List Span):RO 2 id h (some (Vc Span.cells 2 xs)) tot (j * 2) (.agg [(.int .i64 y0),(.int .i64 y1)])=tb (sN tot xs j) fun x=>tm (AY tot xs j (⟨y0,y1⟩:Span)) fun zs=>h.set id (Vc Span.cells 2 zs):=adV (enc:=Span.cells) (⟨y0,y1⟩:Span) (fun _=>rfl) (by decide) rfl rfl
noncomputable def Tr (K:lD) (aI:kS) (aA:kS) (aB:kS) (aG:kS) (aF:kU) (aD:kS) (aE:kS) (aC:kS):Option R :=
 lP aI ((nE [(.int .i64 0),(.int .i64 0)] [(0,1),(1,1)] [(0,aA),(1,aA)]).bind fun aJ=>ix 2 aB aG fun aK=>(lT 2 aF aK aJ).bind fun aH=>lJ (List.length aF) .normal [aB,aA,aG,aD,aE,aC] aH) (lJ (List.length aF) .normal [aB,aA,aG,aD,aE,aC] aF)
noncomputable def F3 (aE:Bool) (o1:Int) (o0:Nat) (aD:Int) (aA:(List Span)):Option ((List Span)) :=
 tc aE (tb ((zQ o0 aD)) fun aB=>tb ((sN o0 aA aB)) fun Uu=>tb ((AY o0 aA aB (⟨o1,o1⟩:Span))) fun aC=>some aC) (some aA)
theorem asE (w41:Bool) (o1:Int) (o0:Nat) (u31:Int) (w42:(List Span)) (o2:(List Int)) (w21:Int) (w39:Int):(Tr KK (.bool w41) (.int .i64 o1) (.vslice 0 o0 0 o0 2) (.int .i64 u31) ([Vc Span.cells 2 w42]:kU) (.slice (Rw (ci .i64) o2) .no) (.int .i64 w21) (.int .i64 w39))=tm (F3 w41 o1 o0 u31 w42) fun r=>(.normal,[(.vslice 0 o0 0 o0 2),(.int .i64 o1),(.int .i64 u31),(.slice (Rw (ci .i64) o2) .no),(.int .i64 w21),(.int .i64 w39)],([Vc Span.cells 2 r]:kU)):=by
 simp +contextual -implicitDefEqProofs (maxSteps:=2000000) [-lQ,-lF,-k9,-k_,-lG,-lN,-lC,Tr,F3,atA]
theorem atB (y0:Int) (h:kU) (id tot j:Nat) (xs:List Span):RO 1 id h (some (Vc Span.cells 2 xs)) tot (j * 2) (.int .i64 y0)=tb (sN tot xs j) fun x=>tm (AY tot xs j (⟨y0,x.last⟩:Span)) fun zs=>h.set id (Vc Span.cells 2 zs):=Uw (enc:=Span.cells) (sz:=2) (m:=1) (v:=(.int .i64 y0)) (off:=0) (fun(x:Span)=>(⟨y0,x.last⟩:Span)) (fun _=>rfl) rfl (by decide) (by decide) rfl (fun _=>rfl)
theorem atC (y0:Int) (h:kU) (id tot j:Nat) (xs:List Span):RO 1 id h (some (Vc Span.cells 2 xs)) tot (j * 2+1) (.int .i64 y0)=tb (sN tot xs j) fun x=>tm (AY tot xs j (⟨x.first,y0⟩:Span)) fun zs=>h.set id (Vc Span.cells 2 zs):=Uw (enc:=Span.cells) (sz:=2) (m:=1) (v:=(.int .i64 y0)) (off:=1) (fun(x:Span)=>(⟨x.first,y0⟩:Span)) (fun _=>rfl) rfl (by decide) (by decide) rfl (fun _=>rfl)
noncomputable def O9 (K:lD) (m:Nat) (s:List kS×kU):Option R :=
 (fun aD aH aF aG aA aL=>bo .lss aA aG fun aQ=>lP aQ (ix 1 aF aA fun t30=>ld false 1 aL t30 fun aN=>ix 2 aD aN fun aR=>fa 0 aR fun aS=>ld false 1 aL aS fun aT=>bo .lss aT (.int .i64 0) fun aU=>(Tr K aU aH aD aN aL aF aG aA).bind fun Ic=>(fun aB aE aC aJ aK aI aM=>Ex.uO Ic.1 (ix 2 aB aC fun aV=>fa 0 aV fun aW=>ld false 1 aM aW fun aX=>(xO aX aE).bind fun aY=>ix 2 aB aC fun aZ=>fa 1 aZ fun a6=>ld false 1 aM a6 fun a7=>(Ay a7 aE).bind fun a8=>ix 2 aB aC fun a_=>fa 0 a_ fun bA=>(lT 1 aM bA aY).bind fun aO=>ix 2 aB aC fun bB=>fa 1 bB fun bD=>(lT 1 aO bD a8).bind fun aP=>bo .add aI (.int .i64 1) fun bE=>lJ m .normal [aB,aE,aJ,aK,bE] aP)) (gd Ic.2.1 0) (gd Ic.2.1 1) (gd Ic.2.1 2) (gd Ic.2.1 3) (gd Ic.2.1 4) (gd Ic.2.1 5) Ic.2.2) (lJ m (.exit 0) [aD,aH,aF,aG,aA] aL)) (gd s.1 0) (gd s.1 1) (gd s.1 2) (gd s.1 3) (gd s.1 4) s.2
noncomputable def DQ (o0:Nat) (o1:Int) (o2:(List Int)) (aO:Int) (aA:Int×(List Span)):Option (Ey×Int×(List Span)) :=
 tc (decide (aA.1 < aO)) (tb ((pF o2 aA.1)) fun aB=>tb ((zQ o0 aB)) fun aF=>tb ((sN o0 aA.2 aF)) fun aJ=>tb (F3 (decide (aJ.first < 0)) o1 o0 aB aA.2) fun Ic=>tb ((zQ o0 aB)) fun aG=>tb ((sN o0 Ic aG)) fun aK=>tb ((zQ o0 aB)) fun aH=>tb ((sN o0 Ic aH)) fun aL=>tb ((zQ o0 aB)) fun aC=>tb ((sN o0 Ic aC)) fun aM=>tb ((AY o0 Ic aC (⟨(min aK.first o1),aM.last⟩:Span))) fun aE=>tb ((zQ o0 aB)) fun aD=>tb ((sN o0 aE aD)) fun aN=>tb ((AY o0 aE aD (⟨aN.first,(max aL.last o1)⟩:Span))) fun aI=>some (.n,((IntKind.wrap .i64 (aA.1+1)),aI))) (some ((.x 0),(aA.1,aA.2)))
theorem anE (o0:Nat) (o1:Int) (o2:(List Int)) (w21:Int) (s22:Int×(List Span)):O9 KK 1 ([(.vslice 0 o0 0 o0 2),(.int .i64 o1),(.slice (Rw (ci .i64) o2) .no),(.int .i64 w21),(.int .i64 s22.1)],([Vc Span.cells 2 s22.2]:kU))=tm (DQ o0 o1 o2 w21 s22) fun r=>(r.1.ex,[(.vslice 0 o0 0 o0 2),(.int .i64 o1),(.slice (Rw (ci .i64) o2) .no),(.int .i64 w21),(.int .i64 r.2.1)],([Vc Span.cells 2 r.2.2]:kU)):=by
 simp +contextual -implicitDefEqProofs (maxSteps:=2000000) [-lQ,-lF,-k9,-k_,-lG,-lN,-lC,O9,DQ,asE,atB,atC]
theorem asF (o0:Nat) (o1:Int) (o2:(List Int)) (w21:Int) (i4:Int) (i5:(List Span)):mQ (O9 KK 1) ([(.vslice 0 o0 0 o0 2),(.int .i64 o1),(.slice (Rw (ci .i64) o2) .no),(.int .i64 w21),(.int .i64 i4)],([Vc Span.cells 2 i5]:kU))=tm (vB (DQ o0 o1 o2 w21) (i4,i5)) fun r=>(r.1.ex,[(.vslice 0 o0 0 o0 2),(.int .i64 o1),(.slice (Rw (ci .i64) o2) .no),(.int .i64 w21),(.int .i64 r.2.1)],([Vc Span.cells 2 r.2.2]:kU)):=by
 exact w_ (enc:=fun s22=>([(.vslice 0 o0 0 o0 2),(.int .i64 o1),(.slice (Rw (ci .i64) o2) .no),(.int .i64 w21),(.int .i64 s22.1)],([Vc Span.cells 2 s22.2]:kU))) (fun s22=>anE o0 o1 o2 w21 s22) (i4,i5)
noncomputable def m83 (K:lD) (a0 a1 a2:kS) (h0:kU):Option (nZ×kU) :=
 (ln a2 fun aJ=>(mQ (O9 K (List.length h0)) ([a0,a1,a2,aJ,(.int .i64 0)],h0)).bind fun aA=>(fun aD aE aF aG aB aC=>Ex.mC aA.1 none (fun aH=>Ex.inBlock 0 aH (some (.normal,[],aC)) (fun aI=>some (aI,[],aC)))) (gd aA.2.1 0) (gd aA.2.1 1) (gd aA.2.1 2) (gd aA.2.1 3) (gd aA.2.1 4) aA.2.2).bind (alH (List.length h0))
theorem Lj (K:lD) (a0 a1 a2:kS) (h0:kU):qA Tryd.prog nA mQ K 83 [a0,a1,a2] h0=m83 (mP nA K) a0 a1 a2 h0:=by kernel_rfl
noncomputable def t83 (o0:Nat) (o1:Int) (o2:(List Int)) (o3:(List Span)):Option ((List Span)) :=
 tb (vB (DQ o0 o1 o2 ((List.length o2:Nat):Int)) (0,o3)) fun aA=>uF aA.1 none fun aB=>wR 0 aB (some aA.2.2) fun aC=>Qz aC (some aA.2.2)
theorem b83 (o0:Nat) (o1:Int) (o2:(List Int)) (o3:(List Span)):m83 KK (.vslice 0 o0 0 o0 2) (.int .i64 o1) (.slice (Rw (ci .i64) o2) .no) ([Vc Span.cells 2 o3]:kU)=tm (t83 o0 o1 o2 o3) fun r=>(.ret (.tuple []),([Vc Span.cells 2 r]:kU)):=by
 simp +contextual -implicitDefEqProofs (maxSteps:=2000000) [-lQ,-lF,-k9,-k_,-lG,-lN,-lC,m83,t83,asF,alH]
noncomputable def Ni (mm:Nat) (aB:R):Option (nZ×kU) :=
 (fun aA aC=>Ex.nK aB.1 (mX mm aA aC)) (gd aB.2.1 0) aB.2.2
noncomputable def TD (K:lD) (a0:kS) (aC:kU) (aE:kS) (aB:kS):Option R :=
 (lX a0).bind fun aF=>fa 2 aF fun t49=>(lT 1 aC t49 aE).bind fun aA=>(lX a0).bind fun aG=>fa 1 aG fun aH=>ld false 1 aA aH fun aI=>bo .add aB (.int .i64 1) fun aJ=>(Ay aI aJ).bind fun aK=>(lX a0).bind fun aL=>fa 1 aL fun aM=>(lT 1 aA aM aK).bind fun aD=>some (.ret,[aB],aD)
noncomputable def Iu (o1:mT) (aB:Bool) (aA:Int):Option (Int×mT) :=
 some (aA,(⟨o1.slots,(max o1.most (IntKind.wrap .i64 (aA+1))),aB⟩:mT))
theorem ab9 (o1:mT) (w38:Bool) (w47:Bool) (u24:Int):((TD KK (.ptr 0 0) ([.cells [(.slice (Rw (ci .i64) o1.slots) .no),(.int .i64 o1.most),(.bool w38)]]:kU) (.bool w47) (.int .i64 u24))).bind (Ni 1)=tm (Iu o1 w47 u24) fun r=>(.ret (.int .i64 r.1),([.cells [(.slice (Rw (ci .i64) r.2.slots) .no),(.int .i64 r.2.most),(.bool r.2.bad)]]:kU)):=by
 simp +contextual -implicitDefEqProofs (maxSteps:=2000000) [-lQ,-lF,-k9,-k_,-lG,-lN,-lC,TD,Iu,Ni]
noncomputable def TC (K:lD) (aA:kS) (aD:kS) (aB:kU) (a0:kS):Option R :=
 gS false aA (kY aD aB) aB fun t39 aC=>gS false aA (bo .geq t39 (.int .i64 1048576) fun aF=>kY aF aC) aC fun aG aE=>(mA aA (.bool true) aG).bind fun aH=>TD K a0 aE aH aD
noncomputable def It (aB:Bool) (aA:Int) (o1:mT):Option (Int×mT) :=
 tc aB (Iu o1 true aA) (Iu o1 (decide (1048576≤aA)) aA)
theorem asP (w37:Bool) (u24:Int) (o1:mT) (w38:Bool):((TC KK (.bool w37) (.int .i64 u24) ([.cells [(.slice (Rw (ci .i64) o1.slots) .no),(.int .i64 o1.most),(.bool w38)]]:kU) (.ptr 0 0))).bind (Ni 1)=tm (It w37 u24 o1) fun r=>(.ret (.int .i64 r.1),([.cells [(.slice (Rw (ci .i64) r.2.slots) .no),(.int .i64 r.2.most),(.bool r.2.bad)]]:kU)):=by
 simp +contextual -implicitDefEqProofs (maxSteps:=2000000) [-lQ,-lF,-k9,-k_,-lG,-lN,-lC,TC,It,Ni,ab9]
noncomputable def m99 (K:lD) (a0 a1:kS) (h0:kU):Option (nZ×kU) :=
 ((lX a0).bind fun aE=>fa 0 aE fun aF=>ld false 1 h0 aF fun aG=>ix 1 aG a1 fun aH=>ld false 1 h0 aH fun aC=>(lX a0).bind fun aI=>fa 2 aI fun t27=>ld false 1 h0 t27 fun aA=>gS false aA (kY aC h0) h0 fun aJ aB=>gS false aA (bo .lss aJ (.int .i64 0) fun aK=>kY aK aB) aB fun aL aD=>(mA aA (.bool true) aL).bind fun aM=>TC K aM aC aD a0).bind (Ni (List.length h0))
theorem Ll (K:lD) (a0 a1:kS) (h0:kU):qA Tryd.prog nA mQ K 99 [a0,a1] h0=m99 (mP nA K) a0 a1 h0:=by kernel_rfl
noncomputable def t99 (o0:Int) (o1:mT):Option (Int×mT) :=
 tb ((pF o1.slots o0)) fun aA=>tc o1.bad (It true aA o1) (It (decide (aA < 0)) aA o1)
theorem b99 (o0:Int) (o1:mT):m99 KK (.ptr 0 0) (.int .i64 o0) ([.cells [(.slice (Rw (ci .i64) o1.slots) .no),(.int .i64 o1.most),(.bool o1.bad)]]:kU)=tm (t99 o0 o1) fun r=>(.ret (.int .i64 r.1),([.cells [(.slice (Rw (ci .i64) r.2.slots) .no),(.int .i64 r.2.most),(.bool r.2.bad)]]:kU)):=by
 simp +contextual -implicitDefEqProofs (maxSteps:=2000000) [-lQ,-lF,-k9,-k_,-lG,-lN,-lC,m99,t99,Ni,ab9,asP]
noncomputable def alK (mm:Nat) (aB:R):Option (nZ×kU) :=
 (fun aA aC=>Ex.nK aB.1 (mX mm aA aC)) (gd aB.2.1 0) aB.2.2
theorem anS (y0:Int) (h:kU):lU 1 1 [(.int .i64 0)] [(0,(.int .i64 y0))] h=some (.slice (Rw (ci .i64) [y0]) (.own h.length),h++[pR 1 (List.length [y0])]):=by
 rfl
noncomputable def Pb (K:lD) (m:Nat) (s:List kS×kU):Option R :=
 (fun aD aE aB aC aA aF=>bo .lss aA aC fun aI=>lP aI (ix 1 aB aA fun aJ=>ld false 1 aF aJ fun aK=>(xO aK (.int .i64 1048576)).bind fun aL=>lK (lU 1 1 [(.int .i64 0)] [(0,aL)] aF) fun aM aG=>lK (nG 1 8 aG aE aM) fun aN aH=>bo .add aA (.int .i64 1) fun aO=>lJ m .normal [aD,aN,aB,aC,aO] aH) (lJ m (.exit 0) [aD,aE,aB,aC,aA] aF)) (gd s.1 0) (gd s.1 1) (gd s.1 2) (gd s.1 3) (gd s.1 4) s.2
noncomputable def F4 (p0:(List Int)) (aD:Int) (aA:(List Int)×Int):Option (Ey×(List Int)×Int) :=
 tc (decide (aA.2 < aD)) (tb ((pF p0 aA.2)) fun aC=>tb ((yF 8 aA.1 [(min aC 1048576)])) fun aB=>some (.n,(aB,(IntKind.wrap .i64 (aA.2+1))))) (some ((.x 0),(aA.1,aA.2)))
theorem anH (p0:(List Int)) (w25:Int) (s26:(List Int)×Int):Pb KK 2 ([(.slice (Rw (ci .i64) []) (.own 0)),(.slice (Rw (ci .i64) s26.1) (.own 1)),(.slice (Rw (ci .i64) p0) .no),(.int .i64 w25),(.int .i64 s26.2)],([.front 0 0,pR 1 (List.length s26.1)]:kU))=tm (F4 p0 w25 s26) fun r=>(r.1.ex,[(.slice (Rw (ci .i64) []) (.own 0)),(.slice (Rw (ci .i64) r.2.1) (.own 1)),(.slice (Rw (ci .i64) p0) .no),(.int .i64 w25),(.int .i64 r.2.2)],([.front 0 0,pR 1 (List.length r.2.1)]:kU)):=by
 simp +contextual -implicitDefEqProofs (maxSteps:=2000000) [-lQ,-lF,-k9,-k_,-lG,-lN,-lC,Pb,F4,anS]
theorem asK (p0:(List Int)) (w25:Int) (i4:Int):mQ (Pb KK 2) ([(.slice (Rw (ci .i64) []) (.own 0)),(.slice (Rw (ci .i64) []) (.own 1)),(.slice (Rw (ci .i64) p0) .no),(.int .i64 w25),(.int .i64 i4)],([.front 0 0,.front 0 0]:kU))=tm (vB (F4 p0 w25) ([],i4)) fun r=>(r.1.ex,[(.slice (Rw (ci .i64) []) (.own 0)),(.slice (Rw (ci .i64) r.2.1) (.own 1)),(.slice (Rw (ci .i64) p0) .no),(.int .i64 w25),(.int .i64 r.2.2)],([.front 0 0,pR 1 (List.length r.2.1)]:kU)):=by
 exact w_ (enc:=fun s26=>([(.slice (Rw (ci .i64) []) (.own 0)),(.slice (Rw (ci .i64) s26.1) (.own 1)),(.slice (Rw (ci .i64) p0) .no),(.int .i64 w25),(.int .i64 s26.2)],([.front 0 0,pR 1 (List.length s26.1)]:kU))) (fun s26=>anH p0 w25 s26) ([],i4)
noncomputable def m97 (K:lD) (a0:kS) (h0:kU):Option (nZ×kU) :=
 ((fun(aK:kS) (aC:kU)=>(fun(aL:kS) (aD:kU)=>ln a0 fun aM=>(mQ (Pb K (List.length aD)) ([aK,aL,a0,aM,(.int .i64 0)],aD)).bind fun F6=>(fun aA aB aF aG aH aE=>Ex.mC F6.1 none (fun aI=>Ex.inBlock 0 aI (some (.ret,[aB],aE)) (fun aJ=>some (aJ,[aA],aE)))) (gd F6.2.1 0) (gd F6.2.1 1) (gd F6.2.1 2) (gd F6.2.1 3) (gd F6.2.1 4) F6.2.2) (.slice (Rw (ci .i64) []) (.own (List.length aC))) (aC++[.front 0 0])) (.slice (Rw (ci .i64) []) (.own (List.length h0))) (h0++[.front 0 0])).bind (alK (List.length h0))
theorem aq6 (K:lD) (a0:kS) (h0:kU):qA Tryd.prog nA mQ K 97 [a0] h0=m97 (mP nA K) a0 h0:=by kernel_rfl
noncomputable def t97 (p0:(List Int)):Option ((List Int)) :=
 tb (vB (F4 p0 ((List.length p0:Nat):Int)) ([],0)) fun F6=>uF F6.1 none fun aA=>wR 0 aA (some F6.2.1) fun aB=>Qz aB (some [])
theorem b97 (p0:(List Int)):m97 KK (.slice (Rw (ci .i64) p0) .no) []=tm (t97 p0) fun r=>(.ret (.slice (Rw (ci .i64) r) .no),[]):=by
 simp +contextual -implicitDefEqProofs (maxSteps:=2000000) [-lQ,-lF,-k9,-k_,-lG,-lN,-lC,m97,t97,asK,alK]
theorem LA (p0:(List Int)) (h:kU):KK 97 [(.slice (Rw (ci .i64) p0) .no)] h=tm (t97 p0) fun r=>(.ret (.slice (Rw (ci .i64) r) .no),h):=rY rfl rfl (aq6 ..) (b97 p0)
noncomputable def alL (mm:Nat) (aA:R):Option (nZ×kU) :=
 (fun aB aC=>Ex.nK aA.1 ((kW true 6 aC aB).bind fun aD=>mX mm aD aC)) (gd aA.2.1 0) aA.2.2
theorem aw0 (o2:Int) (o6:mT) (o0:Int) (o1:Int) (o3:Int) (o4:Int) (o5:Int):KK 99 [(.ptr 0 0),(.int .i64 o2)] ([.cells [(.slice (Rw (ci .i64) o6.slots) .no),(.int .i64 o6.most),(.bool o6.bad)],.cells [(.int .i64 o0),(.int .i64 o1),(.int .i64 o2),(.int .i64 o3),(.int .i64 o4),(.int .i64 o5)],.cells [(.int .i64 0),(.int .i64 0),(.int .i64 0),(.int .i64 0),(.int .i64 0),(.int .i64 0)]]:kU)=tm (t99 o2 o6) fun r=>(.ret (.int .i64 r.1),([.cells [(.slice (Rw (ci .i64) r.2.slots) .no),(.int .i64 r.2.most),(.bool r.2.bad)],.cells [(.int .i64 o0),(.int .i64 o1),(.int .i64 o2),(.int .i64 o3),(.int .i64 o4),(.int .i64 o5)],.cells [(.int .i64 0),(.int .i64 0),(.int .i64 0),(.int .i64 0),(.int .i64 0),(.int .i64 0)]]:kU)):=by
 refine xT (ids:=[0]) rfl rfl ?_ ?_ rfl ?_ (Ll ..) (b99 o2 o6) fun r=>?_
 all_goals simp
noncomputable def Tx (K:lD) (aG:kS) (aB:kS) (aA:kU) (a0:kS) (aC:kS) (aD:kS):Option R :=
 lP aG (fa 2 aB fun aH=>ld false 1 aA aH fun aI=>ca (K 99 [(kS.k8 a0),(kS.k8 aI)] aA) fun aJ aE=>fa 2 aB fun aK=>(lT 1 aE aK aJ).bind fun aF=>lJ (List.length aA) .normal [a0,aB,aC,aD] aF) (lJ (List.length aA) .normal [a0,aB,aC,aD] aA)
noncomputable def PD (aB:Bool) (o6:mT) (o0:Int) (o1:Int) (o2:Int) (o3:Int) (o4:Int) (o5:Int):Option (mT×Op) :=
 tc aB (tb ((t99 o2 o6)) fun aA=>some (aA.2,(⟨o0,o1,aA.1,o3,o4,o5⟩:Op))) (some (o6,(⟨o0,o1,o2,o3,o4,o5⟩:Op)))
theorem asL (w31:Bool) (o6:mT) (o0:Int) (o1:Int) (o2:Int) (o3:Int) (o4:Int) (o5:Int) (w30:Int):(Tx KK (.bool w31) (.ptr 1 0) ([.cells [(.slice (Rw (ci .i64) o6.slots) .no),(.int .i64 o6.most),(.bool o6.bad)],.cells [(.int .i64 o0),(.int .i64 o1),(.int .i64 o2),(.int .i64 o3),(.int .i64 o4),(.int .i64 o5)],.cells [(.int .i64 0),(.int .i64 0),(.int .i64 0),(.int .i64 0),(.int .i64 0),(.int .i64 0)]]:kU) (.ptr 0 0) (.ptr 2 0) (.int .i64 w30))=tm (PD w31 o6 o0 o1 o2 o3 o4 o5) fun r=>(.normal,[(.ptr 0 0),(.ptr 1 0),(.ptr 2 0),(.int .i64 w30)],([.cells [(.slice (Rw (ci .i64) r.1.slots) .no),(.int .i64 r.1.most),(.bool r.1.bad)],.cells [(.int .i64 r.2.kind),(.int .i64 r.2.dst),(.int .i64 r.2.a),(.int .i64 r.2.b),(.int .i64 r.2.c),(.int .i64 r.2.imm)],.cells [(.int .i64 0),(.int .i64 0),(.int .i64 0),(.int .i64 0),(.int .i64 0),(.int .i64 0)]]:kU)):=by
 simp +contextual -implicitDefEqProofs (maxSteps:=2000000) [-lQ,-lF,-k9,-k_,-lG,-lN,-lC,Tx,PD,aw0]
theorem aw1 (w54:Int) (w48:(List Int)) (w49:Int) (w50:Bool) (w51:Int) (w52:Int) (w53:Int) (w55:Int) (w56:Int):KK 99 [(.ptr 0 0),(.int .i64 w54)] ([.cells [(.slice (Rw (ci .i64) w48) .no),(.int .i64 w49),(.bool w50)],.cells [(.int .i64 w51),(.int .i64 w52),(.int .i64 w53),(.int .i64 w54),(.int .i64 w55),(.int .i64 w56)],.cells [(.int .i64 0),(.int .i64 0),(.int .i64 0),(.int .i64 0),(.int .i64 0),(.int .i64 0)]]:kU)=tm (t99 w54 (⟨w48,w49,w50⟩:mT)) fun r=>(.ret (.int .i64 r.1),([.cells [(.slice (Rw (ci .i64) r.2.slots) .no),(.int .i64 r.2.most),(.bool r.2.bad)],.cells [(.int .i64 w51),(.int .i64 w52),(.int .i64 w53),(.int .i64 w54),(.int .i64 w55),(.int .i64 w56)],.cells [(.int .i64 0),(.int .i64 0),(.int .i64 0),(.int .i64 0),(.int .i64 0),(.int .i64 0)]]:kU)):=by
 refine xT (ids:=[0]) rfl rfl ?_ ?_ rfl ?_ (Ll ..) (b99 w54 (⟨w48,w49,w50⟩:mT)) fun r=>?_
 all_goals simp
noncomputable def Tz (K:lD) (aH:kS) (aA:kS) (aE:kU) (aB:kS) (aC:kS) (aD:kS):Option R :=
 lP aH (fa 3 aA fun aI=>ld false 1 aE aI fun aJ=>ca (K 99 [(kS.k8 aB),(kS.k8 aJ)] aE) fun aK aF=>fa 3 aA fun aL=>(lT 1 aF aL aK).bind fun aG=>lJ (List.length aE) .normal [aB,aA,aC,aD] aG) (lJ (List.length aE) .normal [aB,aA,aC,aD] aE)
noncomputable def PE (aK:Bool) (aB:(List Int)) (aC:Int) (aD:Bool) (aE:Int) (aF:Int) (aG:Int) (aH:Int) (aI:Int) (aJ:Int):Option (mT×Op) :=
 tc aK (tb ((t99 aH (⟨aB,aC,aD⟩:mT))) fun aA=>some (aA.2,(⟨aE,aF,aG,aA.1,aI,aJ⟩:Op))) (some ((⟨aB,aC,aD⟩:mT),(⟨aE,aF,aG,aH,aI,aJ⟩:Op)))
theorem asM (w47:Bool) (w48:(List Int)) (w49:Int) (w50:Bool) (w51:Int) (w52:Int) (w53:Int) (w54:Int) (w55:Int) (w56:Int) (w46:Int):(Tz KK (.bool w47) (.ptr 1 0) ([.cells [(.slice (Rw (ci .i64) w48) .no),(.int .i64 w49),(.bool w50)],.cells [(.int .i64 w51),(.int .i64 w52),(.int .i64 w53),(.int .i64 w54),(.int .i64 w55),(.int .i64 w56)],.cells [(.int .i64 0),(.int .i64 0),(.int .i64 0),(.int .i64 0),(.int .i64 0),(.int .i64 0)]]:kU) (.ptr 0 0) (.ptr 2 0) (.int .i64 w46))=tm (PE w47 w48 w49 w50 w51 w52 w53 w54 w55 w56) fun r=>(.normal,[(.ptr 0 0),(.ptr 1 0),(.ptr 2 0),(.int .i64 w46)],([.cells [(.slice (Rw (ci .i64) r.1.slots) .no),(.int .i64 r.1.most),(.bool r.1.bad)],.cells [(.int .i64 r.2.kind),(.int .i64 r.2.dst),(.int .i64 r.2.a),(.int .i64 r.2.b),(.int .i64 r.2.c),(.int .i64 r.2.imm)],.cells [(.int .i64 0),(.int .i64 0),(.int .i64 0),(.int .i64 0),(.int .i64 0),(.int .i64 0)]]:kU)):=by
 simp +contextual -implicitDefEqProofs (maxSteps:=2000000) [-lQ,-lF,-k9,-k_,-lG,-lN,-lC,Tz,PE,aw1]
theorem aw2 (w80:Int) (w73:(List Int)) (w74:Int) (w75:Bool) (w76:Int) (w77:Int) (w78:Int) (w79:Int) (w81:Int):KK 99 [(.ptr 0 0),(.int .i64 w80)] ([.cells [(.slice (Rw (ci .i64) w73) .no),(.int .i64 w74),(.bool w75)],.cells [(.int .i64 w76),(.int .i64 w77),(.int .i64 w78),(.int .i64 w79),(.int .i64 w80),(.int .i64 w81)],.cells [(.int .i64 0),(.int .i64 0),(.int .i64 0),(.int .i64 0),(.int .i64 0),(.int .i64 0)]]:kU)=tm (t99 w80 (⟨w73,w74,w75⟩:mT)) fun r=>(.ret (.int .i64 r.1),([.cells [(.slice (Rw (ci .i64) r.2.slots) .no),(.int .i64 r.2.most),(.bool r.2.bad)],.cells [(.int .i64 w76),(.int .i64 w77),(.int .i64 w78),(.int .i64 w79),(.int .i64 w80),(.int .i64 w81)],.cells [(.int .i64 0),(.int .i64 0),(.int .i64 0),(.int .i64 0),(.int .i64 0),(.int .i64 0)]]:kU)):=by
 refine xT (ids:=[0]) rfl rfl ?_ ?_ rfl ?_ (Ll ..) (b99 w80 (⟨w73,w74,w75⟩:mT)) fun r=>?_
 all_goals simp
noncomputable def TA (K:lD) (aG:kS) (aA:kS) (aD:kU) (aB:kS) (aC:kS):Option R :=
 lP aG (fa 4 aA fun aH=>ld false 1 aD aH fun t83=>ca (K 99 [(kS.k8 aB),(kS.k8 t83)] aD) fun aI aE=>fa 4 aA fun aJ=>(lT 1 aE aJ aI).bind fun aF=>lJ (List.length aD) .normal [aB,aA,aC] aF) (lJ (List.length aD) .normal [aB,aA,aC] aD)
noncomputable def PF (aK:Bool) (aB:(List Int)) (aC:Int) (aD:Bool) (aE:Int) (aF:Int) (aG:Int) (aH:Int) (aI:Int) (aJ:Int):Option (mT×Op) :=
 tc aK (tb ((t99 aI (⟨aB,aC,aD⟩:mT))) fun aA=>some (aA.2,(⟨aE,aF,aG,aH,aA.1,aJ⟩:Op))) (some ((⟨aB,aC,aD⟩:mT),(⟨aE,aF,aG,aH,aI,aJ⟩:Op)))
theorem asN (w72:Bool) (w73:(List Int)) (w74:Int) (w75:Bool) (w76:Int) (w77:Int) (w78:Int) (w79:Int) (w80:Int) (w81:Int):(TA KK (.bool w72) (.ptr 1 0) ([.cells [(.slice (Rw (ci .i64) w73) .no),(.int .i64 w74),(.bool w75)],.cells [(.int .i64 w76),(.int .i64 w77),(.int .i64 w78),(.int .i64 w79),(.int .i64 w80),(.int .i64 w81)],.cells [(.int .i64 0),(.int .i64 0),(.int .i64 0),(.int .i64 0),(.int .i64 0),(.int .i64 0)]]:kU) (.ptr 0 0) (.ptr 2 0))=tm (PF w72 w73 w74 w75 w76 w77 w78 w79 w80 w81) fun r=>(.normal,[(.ptr 0 0),(.ptr 1 0),(.ptr 2 0)],([.cells [(.slice (Rw (ci .i64) r.1.slots) .no),(.int .i64 r.1.most),(.bool r.1.bad)],.cells [(.int .i64 r.2.kind),(.int .i64 r.2.dst),(.int .i64 r.2.a),(.int .i64 r.2.b),(.int .i64 r.2.c),(.int .i64 r.2.imm)],.cells [(.int .i64 0),(.int .i64 0),(.int .i64 0),(.int .i64 0),(.int .i64 0),(.int .i64 0)]]:kU)):=by
 simp +contextual -implicitDefEqProofs (maxSteps:=2000000) [-lQ,-lF,-k9,-k_,-lG,-lN,-lC,TA,PF,aw2]
theorem aw3 (w99:Int) (w104:(List Int)) (w105:Int) (w106:Bool) (w98:Int) (w100:Int) (w101:Int) (w102:Int) (w103:Int):KK 99 [(.ptr 0 0),(.int .i64 w99)] ([.cells [(.slice (Rw (ci .i64) w104) .no),(.int .i64 w105),(.bool w106)],.cells [(.int .i64 w98),(.int .i64 w99),(.int .i64 w100),(.int .i64 w101),(.int .i64 w102),(.int .i64 w103)],.cells [(.int .i64 0),(.int .i64 0),(.int .i64 0),(.int .i64 0),(.int .i64 0),(.int .i64 0)]]:kU)=tm (t99 w99 (⟨w104,w105,w106⟩:mT)) fun r=>(.ret (.int .i64 r.1),([.cells [(.slice (Rw (ci .i64) r.2.slots) .no),(.int .i64 r.2.most),(.bool r.2.bad)],.cells [(.int .i64 w98),(.int .i64 w99),(.int .i64 w100),(.int .i64 w101),(.int .i64 w102),(.int .i64 w103)],.cells [(.int .i64 0),(.int .i64 0),(.int .i64 0),(.int .i64 0),(.int .i64 0),(.int .i64 0)]]:kU)):=by
 refine xT (ids:=[0]) rfl rfl ?_ ?_ rfl ?_ (Ll ..) (b99 w99 (⟨w104,w105,w106⟩:mT)) fun r=>?_
 all_goals simp
noncomputable def TB (K:lD) (t95:kS) (aA:kS) (aC:kU) (aD:kS) (aB:kS):Option R :=
 lP t95 (fa 1 aA fun aG=>ld false 1 aC aG fun aH=>ca (K 99 [(kS.k8 aD),(kS.k8 aH)] aC) fun aI aE=>fa 1 aA fun aJ=>(lT 1 aE aJ aI).bind fun aF=>lJ (List.length aC) .normal [aA,aB] aF) (lJ (List.length aC) .normal [aA,aB] aC)
noncomputable def PG (LA:Bool) (aF:(List Int)) (aG:Int) (aH:Bool) (aI:Int) (aJ:Int) (aB:Int) (aC:Int) (aD:Int) (aE:Int):Option (mT×Op) :=
 tc LA (tb ((t99 aJ (⟨aF,aG,aH⟩:mT))) fun aA=>some (aA.2,(⟨aI,aA.1,aB,aC,aD,aE⟩:Op))) (some ((⟨aF,aG,aH⟩:mT),(⟨aI,aJ,aB,aC,aD,aE⟩:Op)))
theorem asO (LA:Bool) (w104:(List Int)) (w105:Int) (w106:Bool) (w98:Int) (w99:Int) (w100:Int) (w101:Int) (w102:Int) (w103:Int):(TB KK (.bool LA) (.ptr 1 0) ([.cells [(.slice (Rw (ci .i64) w104) .no),(.int .i64 w105),(.bool w106)],.cells [(.int .i64 w98),(.int .i64 w99),(.int .i64 w100),(.int .i64 w101),(.int .i64 w102),(.int .i64 w103)],.cells [(.int .i64 0),(.int .i64 0),(.int .i64 0),(.int .i64 0),(.int .i64 0),(.int .i64 0)]]:kU) (.ptr 0 0) (.ptr 2 0))=tm (PG LA w104 w105 w106 w98 w99 w100 w101 w102 w103) fun r=>(.normal,[(.ptr 1 0),(.ptr 2 0)],([.cells [(.slice (Rw (ci .i64) r.1.slots) .no),(.int .i64 r.1.most),(.bool r.1.bad)],.cells [(.int .i64 r.2.kind),(.int .i64 r.2.dst),(.int .i64 r.2.a),(.int .i64 r.2.b),(.int .i64 r.2.c),(.int .i64 r.2.imm)],.cells [(.int .i64 0),(.int .i64 0),(.int .i64 0),(.int .i64 0),(.int .i64 0),(.int .i64 0)]]:kU)):=by
 simp +contextual -implicitDefEqProofs (maxSteps:=2000000) [-lQ,-lF,-k9,-k_,-lG,-lN,-lC,TB,PG,aw3]
noncomputable def m98 (K:lD) (a0 a1:kS) (h0:kU):Option (nZ×kU) :=
 (lK (mH 6 h0 a1) fun aV aX=>lK (mH 6 aX (.agg [(.int .i64 0),(.int .i64 0),(.int .i64 0),(.int .i64 0),(.int .i64 0),(.int .i64 0)])) fun a8 aT=>ld true 6 aT aV fun a_=>ca (K 74 [(kS.k8 a_)] aT) fun bA aY=>ln bA fun aW=>bo .gtr aW (.int .i64 0) fun bB=>(Tx K bB aV aY a0 a8 aW).bind fun aF=>(fun aI aL aN aD aZ=>Ex.uO aF.1 (bo .gtr aD (.int .i64 1) fun bD=>(Tz K bD aL aZ aI aN aD).bind fun JF=>(fun aJ aM aO aQ a6=>Ex.uO JF.1 (bo .gtr aQ (.int .i64 2) fun bE=>(TA K bE aM a6 aJ aO).bind fun aH=>(fun aK aC aP aU=>Ex.uO aH.1 (ld true 6 aU aC fun bF=>ca (K 73 [(kS.k8 bF)] aU) fun t95 a7=>(TB K t95 aC a7 aK aP).bind fun aB=>(fun aE aA aG=>Ex.uO aB.1 (ld true 6 aG aE fun aS=>(lT 6 aG aA aS).bind fun aR=>some (.ret,[aA],aR))) (gd aB.2.1 0) (gd aB.2.1 1) aB.2.2)) (gd aH.2.1 0) (gd aH.2.1 1) (gd aH.2.1 2) aH.2.2)) (gd JF.2.1 0) (gd JF.2.1 1) (gd JF.2.1 2) (gd JF.2.1 3) JF.2.2)) (gd aF.2.1 0) (gd aF.2.1 1) (gd aF.2.1 2) (gd aF.2.1 3) aF.2.2).bind (alL (List.length h0))
theorem aq7 (K:lD) (a0 a1:kS) (h0:kU):qA Tryd.prog nA mQ K 98 [a0,a1] h0=m98 (mP nA K) a0 a1 h0:=by kernel_rfl
noncomputable def t98 (o0:Int) (o1:Int) (o2:Int) (o3:Int) (o4:Int) (o5:Int) (o6:mT):Option (Op×mT) :=
 tb ((t74 (⟨o0,o1,o2,o3,o4,o5⟩:Op))) fun EW=>tb (PD (decide (0 < ((List.length EW:Nat):Int))) o6 o0 o1 o2 o3 o4 o5) fun aB=>tb (PE (decide (1 < ((List.length EW:Nat):Int))) aB.1.slots aB.1.most aB.1.bad aB.2.kind aB.2.dst aB.2.a aB.2.b aB.2.c aB.2.imm) fun JF=>tb (PF (decide (2 < ((List.length EW:Nat):Int))) JF.1.slots JF.1.most JF.1.bad JF.2.kind JF.2.dst JF.2.a JF.2.b JF.2.c JF.2.imm) fun aA=>tb ((t73 aA.2)) fun LA=>tb (PG LA aA.1.slots aA.1.most aA.1.bad aA.2.kind aA.2.dst aA.2.a aA.2.b aA.2.c aA.2.imm) fun aC=>some (aC.2,aC.1)
theorem b98 (o0:Int) (o1:Int) (o2:Int) (o3:Int) (o4:Int) (o5:Int) (o6:mT):m98 KK (.ptr 0 0) (.agg [(.int .i64 o0),(.int .i64 o1),(.int .i64 o2),(.int .i64 o3),(.int .i64 o4),(.int .i64 o5)]) ([.cells [(.slice (Rw (ci .i64) o6.slots) .no),(.int .i64 o6.most),(.bool o6.bad)]]:kU)=tm (t98 o0 o1 o2 o3 o4 o5 o6) fun r=>(.ret (.agg [(.int .i64 r.1.kind),(.int .i64 r.1.dst),(.int .i64 r.1.a),(.int .i64 r.1.b),(.int .i64 r.1.c),(.int .i64 r.1.imm)]),([.cells [(.slice (Rw (ci .i64) r.2.slots) .no),(.int .i64 r.2.most),(.bool r.2.bad)]]:kU)):=by
 simp +contextual -implicitDefEqProofs (maxSteps:=2000000) [-lQ,-lF,-k9,-k_,-lG,-lN,-lC,m98,t98,aB9,asL,asM,asN,r73,asO,alL]
noncomputable def alE (mm:Nat) (aA:R):Option (nZ×kU) :=
 (fun aB aC aD=>Ex.nK aA.1 ((kW true 5 aD aB).bind fun aE=>mX mm (.tuple [aE,aC]) aD)) (gd aA.2.1 0) (gd aA.2.1 1) aA.2.2
theorem awW (u98:Op) (p0:IR) (w106:(List Int)) (w107:Int) (w108:Bool) (w63:(List lR)) (u70:lR) (s81:(List Op)×Int×mT):KK 98 [(.ptr 4 0),(.agg [(.int .i64 u98.kind),(.int .i64 u98.dst),(.int .i64 u98.a),(.int .i64 u98.b),(.int .i64 u98.c),(.int .i64 u98.imm)])] ([.cells [(.int .i64 p0.temps),(.slice (Rw mL.cells p0.arrays) .no),(.slice (Rw lR.cells p0.blocks) .no),(.int .i64 p0.inn),(.int .i64 p0.out)],.cells [(.int .i64 0),(.slice (Rw mL.cells []) (.own 2)),(.slice (Rw lR.cells []) (.own 3)),(.int .i64 0),(.int .i64 0)],.front 0 0,.front 0 0,.cells [(.slice (Rw (ci .i64) w106) .no),(.int .i64 w107),(.bool w108)],pR 5 (List.length w63),.cells [(.slice (Rw Op.cells u70.ops) .no),(.int .i64 u70.term.kind),(.int .i64 u70.term.a),(.int .i64 u70.term.yes),(.int .i64 u70.term.no)],.front 0 0,pR 6 (List.length s81.1),.cells [(.int .i64 u98.kind),(.int .i64 u98.dst),(.int .i64 u98.a),(.int .i64 u98.b),(.int .i64 u98.c),(.int .i64 u98.imm)]]:kU)=tm (t98 u98.kind u98.dst u98.a u98.b u98.c u98.imm (⟨w106,w107,w108⟩:mT)) fun r=>(.ret (.agg [(.int .i64 r.1.kind),(.int .i64 r.1.dst),(.int .i64 r.1.a),(.int .i64 r.1.b),(.int .i64 r.1.c),(.int .i64 r.1.imm)]),([.cells [(.int .i64 p0.temps),(.slice (Rw mL.cells p0.arrays) .no),(.slice (Rw lR.cells p0.blocks) .no),(.int .i64 p0.inn),(.int .i64 p0.out)],.cells [(.int .i64 0),(.slice (Rw mL.cells []) (.own 2)),(.slice (Rw lR.cells []) (.own 3)),(.int .i64 0),(.int .i64 0)],.front 0 0,.front 0 0,.cells [(.slice (Rw (ci .i64) r.2.slots) .no),(.int .i64 r.2.most),(.bool r.2.bad)],pR 5 (List.length w63),.cells [(.slice (Rw Op.cells u70.ops) .no),(.int .i64 u70.term.kind),(.int .i64 u70.term.a),(.int .i64 u70.term.yes),(.int .i64 u70.term.no)],.front 0 0,pR 6 (List.length s81.1),.cells [(.int .i64 u98.kind),(.int .i64 u98.dst),(.int .i64 u98.a),(.int .i64 u98.b),(.int .i64 u98.c),(.int .i64 u98.imm)]]:kU)):=by
 refine xT (ids:=[4]) rfl rfl ?_ ?_ rfl ?_ (aq7 ..) (b98 u98.kind u98.dst u98.a u98.b u98.c u98.imm (⟨w106,w107,w108⟩:mT)) fun r=>?_
 all_goals simp
theorem anP (y0:Int) (y1:Int) (y2:Int) (y3:Int) (y4:Int) (y5:Int) (h:kU):lU 1 6 [(.int .i64 0),(.int .i64 0),(.int .i64 0),(.int .i64 0),(.int .i64 0),(.int .i64 0)] [(0,(.agg [(.int .i64 y0),(.int .i64 y1),(.int .i64 y2),(.int .i64 y3),(.int .i64 y4),(.int .i64 y5)]))] h=some (.slice (Rw Op.cells [(⟨y0,y1,y2,y3,y4,y5⟩:Op)]) (.own h.length),h++[pR 6 (List.length [(⟨y0,y1,y2,y3,y4,y5⟩:Op)])]):=by
 rfl
noncomputable def O3 (K:lD) (m:Nat) (s:List kS×kU):Option R :=
 (fun aJ aK aL aI aM aD aE aF aG aH aB aC aA aS=>bo .lss aA aC fun t96=>lP t96 (ix 6 aB aA fun t97=>ld true 6 aS t97 fun t99=>lK (mH 6 aS (.agg [(.int .i64 0),(.int .i64 0),(.int .i64 0),(.int .i64 0),(.int .i64 0),(.int .i64 0)])) fun t100 aO=>(lT 6 aO t100 t99).bind fun aN=>ld true 6 aN t100 fun aT=>ca (K 98 [(kS.k8 aI),(kS.k8 aT)] aN) fun aU aP=>lK (lU 1 6 [(.int .i64 0),(.int .i64 0),(.int .i64 0),(.int .i64 0),(.int .i64 0),(.int .i64 0)] [(0,aU)] aP) fun aV aQ=>lK (nG 6 48 aQ aE aV) fun aW aR=>bo .add aA (.int .i64 1) fun aX=>lJ m .normal [aJ,aK,aL,aI,aM,aD,aW,aF,aG,aH,aB,aC,aX] aR) (lJ m (.exit 2) [aJ,aK,aL,aI,aM,aD,aE,aF,aG,aH,aB,aC,aA] aS)) (gd s.1 0) (gd s.1 1) (gd s.1 2) (gd s.1 3) (gd s.1 4) (gd s.1 5) (gd s.1 6) (gd s.1 7) (gd s.1 8) (gd s.1 9) (gd s.1 10) (gd s.1 11) (gd s.1 12) s.2
noncomputable def FT (aE:lR) (aF:Int) (aA:(List Op)×Int×mT):Option (Ey×(List Op)×Int×mT) :=
 tc (decide (aA.2.1 < aF)) (tb ((pF aE.ops aA.2.1)) fun aB=>tb ((t98 aB.kind aB.dst aB.a aB.b aB.c aB.imm aA.2.2)) fun aC=>tb ((yF 48 aA.1 [aC.1])) fun aD=>some (.n,(aD,(IntKind.wrap .i64 (aA.2.1+1)),aC.2))) (some ((.x 2),(aA.1,aA.2.1,aA.2.2)))
theorem anB (w63:(List lR)) (p0:IR) (w51:Int) (w64:Int) (u70:lR) (w80:Int) (s81:(List Op)×Int×mT):O3 KK 9 ([(.ptr 0 0),(.ptr 1 0),(.int .i64 0),(.ptr 4 0),(.slice (Rw lR.cells w63) (.own 5)),(.ptr 6 0),(.slice (Rw Op.cells s81.1) (.own 8)),(.slice (Rw lR.cells p0.blocks) .no),(.int .i64 w51),(.int .i64 w64),(.slice (Rw Op.cells u70.ops) .no),(.int .i64 w80),(.int .i64 s81.2.1)],([.cells [(.int .i64 p0.temps),(.slice (Rw mL.cells p0.arrays) .no),(.slice (Rw lR.cells p0.blocks) .no),(.int .i64 p0.inn),(.int .i64 p0.out)],.cells [(.int .i64 0),(.slice (Rw mL.cells []) (.own 2)),(.slice (Rw lR.cells []) (.own 3)),(.int .i64 0),(.int .i64 0)],.front 0 0,.front 0 0,.cells [(.slice (Rw (ci .i64) s81.2.2.slots) .no),(.int .i64 s81.2.2.most),(.bool s81.2.2.bad)],pR 5 (List.length w63),.cells [(.slice (Rw Op.cells u70.ops) .no),(.int .i64 u70.term.kind),(.int .i64 u70.term.a),(.int .i64 u70.term.yes),(.int .i64 u70.term.no)],.front 0 0,pR 6 (List.length s81.1)]:kU))=tm (FT u70 w80 s81) fun r=>(r.1.ex,[(.ptr 0 0),(.ptr 1 0),(.int .i64 0),(.ptr 4 0),(.slice (Rw lR.cells w63) (.own 5)),(.ptr 6 0),(.slice (Rw Op.cells r.2.1) (.own 8)),(.slice (Rw lR.cells p0.blocks) .no),(.int .i64 w51),(.int .i64 w64),(.slice (Rw Op.cells u70.ops) .no),(.int .i64 w80),(.int .i64 r.2.2.1)],([.cells [(.int .i64 p0.temps),(.slice (Rw mL.cells p0.arrays) .no),(.slice (Rw lR.cells p0.blocks) .no),(.int .i64 p0.inn),(.int .i64 p0.out)],.cells [(.int .i64 0),(.slice (Rw mL.cells []) (.own 2)),(.slice (Rw lR.cells []) (.own 3)),(.int .i64 0),(.int .i64 0)],.front 0 0,.front 0 0,.cells [(.slice (Rw (ci .i64) r.2.2.2.slots) .no),(.int .i64 r.2.2.2.most),(.bool r.2.2.2.bad)],pR 5 (List.length w63),.cells [(.slice (Rw Op.cells u70.ops) .no),(.int .i64 u70.term.kind),(.int .i64 u70.term.a),(.int .i64 u70.term.yes),(.int .i64 u70.term.no)],.front 0 0,pR 6 (List.length r.2.1)]:kU)):=by
 simp +contextual -implicitDefEqProofs (maxSteps:=2000000) [-lQ,-lF,-k9,-k_,-lG,-lN,-lC,O3,FT,awW,anP]
theorem ar5 (w63:(List lR)) (p0:IR) (w51:Int) (w64:Int) (u70:lR) (w80:Int) (w66:(List Int)) (w67:Int) (w68:Bool) (i8:Int) (n5:Nat) (hn5:n5=(List.length w63)):mQ (O3 KK 9) ([(.ptr 0 0),(.ptr 1 0),(.int .i64 0),(.ptr 4 0),(.slice (Rw lR.cells w63) (.own 5)),(.ptr 6 0),(.slice (Rw Op.cells []) (.own 8)),(.slice (Rw lR.cells p0.blocks) .no),(.int .i64 w51),(.int .i64 w64),(.slice (Rw Op.cells u70.ops) .no),(.int .i64 w80),(.int .i64 i8)],([.cells [(.int .i64 p0.temps),(.slice (Rw mL.cells p0.arrays) .no),(.slice (Rw lR.cells p0.blocks) .no),(.int .i64 p0.inn),(.int .i64 p0.out)],.cells [(.int .i64 0),(.slice (Rw mL.cells []) (.own 2)),(.slice (Rw lR.cells []) (.own 3)),(.int .i64 0),(.int .i64 0)],.front 0 0,.front 0 0,.cells [(.slice (Rw (ci .i64) w66) .no),(.int .i64 w67),(.bool w68)],pR 5 n5,.cells [(.slice (Rw Op.cells u70.ops) .no),(.int .i64 u70.term.kind),(.int .i64 u70.term.a),(.int .i64 u70.term.yes),(.int .i64 u70.term.no)],.front 0 0,.front 0 0]:kU))=tm (vB (FT u70 w80) ([],i8,(⟨w66,w67,w68⟩:mT))) fun r=>(r.1.ex,[(.ptr 0 0),(.ptr 1 0),(.int .i64 0),(.ptr 4 0),(.slice (Rw lR.cells w63) (.own 5)),(.ptr 6 0),(.slice (Rw Op.cells r.2.1) (.own 8)),(.slice (Rw lR.cells p0.blocks) .no),(.int .i64 w51),(.int .i64 w64),(.slice (Rw Op.cells u70.ops) .no),(.int .i64 w80),(.int .i64 r.2.2.1)],([.cells [(.int .i64 p0.temps),(.slice (Rw mL.cells p0.arrays) .no),(.slice (Rw lR.cells p0.blocks) .no),(.int .i64 p0.inn),(.int .i64 p0.out)],.cells [(.int .i64 0),(.slice (Rw mL.cells []) (.own 2)),(.slice (Rw lR.cells []) (.own 3)),(.int .i64 0),(.int .i64 0)],.front 0 0,.front 0 0,.cells [(.slice (Rw (ci .i64) r.2.2.2.slots) .no),(.int .i64 r.2.2.2.most),(.bool r.2.2.2.bad)],pR 5 (List.length w63),.cells [(.slice (Rw Op.cells u70.ops) .no),(.int .i64 u70.term.kind),(.int .i64 u70.term.a),(.int .i64 u70.term.yes),(.int .i64 u70.term.no)],.front 0 0,pR 6 (List.length r.2.1)]:kU)):=by
 subst hn5; exact w_ (enc:=fun s81=>([(.ptr 0 0),(.ptr 1 0),(.int .i64 0),(.ptr 4 0),(.slice (Rw lR.cells w63) (.own 5)),(.ptr 6 0),(.slice (Rw Op.cells s81.1) (.own 8)),(.slice (Rw lR.cells p0.blocks) .no),(.int .i64 w51),(.int .i64 w64),(.slice (Rw Op.cells u70.ops) .no),(.int .i64 w80),(.int .i64 s81.2.1)],([.cells [(.int .i64 p0.temps),(.slice (Rw mL.cells p0.arrays) .no),(.slice (Rw lR.cells p0.blocks) .no),(.int .i64 p0.inn),(.int .i64 p0.out)],.cells [(.int .i64 0),(.slice (Rw mL.cells []) (.own 2)),(.slice (Rw lR.cells []) (.own 3)),(.int .i64 0),(.int .i64 0)],.front 0 0,.front 0 0,.cells [(.slice (Rw (ci .i64) s81.2.2.slots) .no),(.int .i64 s81.2.2.most),(.bool s81.2.2.bad)],pR 5 (List.length w63),.cells [(.slice (Rw Op.cells u70.ops) .no),(.int .i64 u70.term.kind),(.int .i64 u70.term.a),(.int .i64 u70.term.yes),(.int .i64 u70.term.no)],.front 0 0,pR 6 (List.length s81.1)]:kU))) (fun s81=>anB w63 p0 w51 w64 u70 w80 s81) ([],i8,(⟨w66,w67,w68⟩:mT))
theorem awX (u70:lR) (p0:IR) (w141:(List Int)) (w142:Int) (w143:Bool) (w63:(List lR)) (w137:(List Op)):KK 99 [(.ptr 4 0),(.int .i64 u70.term.a)] ([.cells [(.int .i64 p0.temps),(.slice (Rw mL.cells p0.arrays) .no),(.slice (Rw lR.cells p0.blocks) .no),(.int .i64 p0.inn),(.int .i64 p0.out)],.cells [(.int .i64 0),(.slice (Rw mL.cells []) (.own 2)),(.slice (Rw lR.cells []) (.own 3)),(.int .i64 0),(.int .i64 0)],.front 0 0,.front 0 0,.cells [(.slice (Rw (ci .i64) w141) .no),(.int .i64 w142),(.bool w143)],pR 5 (List.length w63),.cells [(.slice (Rw Op.cells u70.ops) .no),(.int .i64 u70.term.kind),(.int .i64 u70.term.a),(.int .i64 u70.term.yes),(.int .i64 u70.term.no)],.front 0 0,pR 6 (List.length w137)]:kU)=tm (t99 u70.term.a (⟨w141,w142,w143⟩:mT)) fun r=>(.ret (.int .i64 r.1),([.cells [(.int .i64 p0.temps),(.slice (Rw mL.cells p0.arrays) .no),(.slice (Rw lR.cells p0.blocks) .no),(.int .i64 p0.inn),(.int .i64 p0.out)],.cells [(.int .i64 0),(.slice (Rw mL.cells []) (.own 2)),(.slice (Rw lR.cells []) (.own 3)),(.int .i64 0),(.int .i64 0)],.front 0 0,.front 0 0,.cells [(.slice (Rw (ci .i64) r.2.slots) .no),(.int .i64 r.2.most),(.bool r.2.bad)],pR 5 (List.length w63),.cells [(.slice (Rw Op.cells u70.ops) .no),(.int .i64 u70.term.kind),(.int .i64 u70.term.a),(.int .i64 u70.term.yes),(.int .i64 u70.term.no)],.front 0 0,pR 6 (List.length w137)]:kU)):=by
 refine xT (ids:=[4]) rfl rfl ?_ ?_ rfl ?_ (Ll ..) (b99 u70.term.a (⟨w141,w142,w143⟩:mT)) fun r=>?_
 all_goals simp
noncomputable def Tk (K:lD) (aN:kS) (aA:kS) (aG:kU) (aB:kS) (aH:kS) (aI:kS) (aJ:kS) (aK:kS) (aC:kS) (aD:kS) (aE:kS) (aF:kS):Option R :=
 lP aN (fa 1 aA fun aO=>fa 1 aO fun aP=>ld false 1 aG aP fun aQ=>ca (K 99 [(kS.k8 aB),(kS.k8 aQ)] aG) fun aR aL=>fa 1 aA fun aS=>fa 1 aS fun aT=>(lT 1 aL aT aR).bind fun aM=>lJ (List.length aG) .normal [aH,aI,aJ,aB,aK,aA,aC,aD,aE,aF] aM) (lJ (List.length aG) .normal [aH,aI,aJ,aB,aK,aA,aC,aD,aE,aF] aG)
noncomputable def L4 (aF:Bool) (aC:(List Int)) (aD:Int) (aE:Bool) (aA:lR):Option (mT×lR) :=
 tc aF (tb ((t99 aA.term.a (⟨aC,aD,aE⟩:mT))) fun aB=>some (aB.2,(⟨aA.ops,(⟨aA.term.kind,aB.1,aA.term.yes,aA.term.no⟩:Term)⟩:lR))) (some ((⟨aC,aD,aE⟩:mT),aA))
theorem ar4 (w140:Bool) (p0:IR) (w141:(List Int)) (w142:Int) (w143:Bool) (w63:(List lR)) (u70:lR) (w137:(List Op)) (w51:Int) (w64:Int):(Tk KK (.bool w140) (.ptr 6 0) ([.cells [(.int .i64 p0.temps),(.slice (Rw mL.cells p0.arrays) .no),(.slice (Rw lR.cells p0.blocks) .no),(.int .i64 p0.inn),(.int .i64 p0.out)],.cells [(.int .i64 0),(.slice (Rw mL.cells []) (.own 2)),(.slice (Rw lR.cells []) (.own 3)),(.int .i64 0),(.int .i64 0)],.front 0 0,.front 0 0,.cells [(.slice (Rw (ci .i64) w141) .no),(.int .i64 w142),(.bool w143)],pR 5 (List.length w63),.cells [(.slice (Rw Op.cells u70.ops) .no),(.int .i64 u70.term.kind),(.int .i64 u70.term.a),(.int .i64 u70.term.yes),(.int .i64 u70.term.no)],.front 0 0,pR 6 (List.length w137)]:kU) (.ptr 4 0) (.ptr 0 0) (.ptr 1 0) (.int .i64 0) (.slice (Rw lR.cells w63) (.own 5)) (.slice (Rw Op.cells w137) (.own 8)) (.slice (Rw lR.cells p0.blocks) .no) (.int .i64 w51) (.int .i64 w64))=tm (L4 w140 w141 w142 w143 u70) fun r=>(.normal,[(.ptr 0 0),(.ptr 1 0),(.int .i64 0),(.ptr 4 0),(.slice (Rw lR.cells w63) (.own 5)),(.ptr 6 0),(.slice (Rw Op.cells w137) (.own 8)),(.slice (Rw lR.cells p0.blocks) .no),(.int .i64 w51),(.int .i64 w64)],([.cells [(.int .i64 p0.temps),(.slice (Rw mL.cells p0.arrays) .no),(.slice (Rw lR.cells p0.blocks) .no),(.int .i64 p0.inn),(.int .i64 p0.out)],.cells [(.int .i64 0),(.slice (Rw mL.cells []) (.own 2)),(.slice (Rw lR.cells []) (.own 3)),(.int .i64 0),(.int .i64 0)],.front 0 0,.front 0 0,.cells [(.slice (Rw (ci .i64) r.1.slots) .no),(.int .i64 r.1.most),(.bool r.1.bad)],pR 5 (List.length w63),.cells [(.slice (Rw Op.cells r.2.ops) .no),(.int .i64 r.2.term.kind),(.int .i64 r.2.term.a),(.int .i64 r.2.term.yes),(.int .i64 r.2.term.no)],.front 0 0,pR 6 (List.length w137)]:kU)):=by
 simp +contextual -implicitDefEqProofs (maxSteps:=2000000) [-lQ,-lF,-k9,-k_,-lG,-lN,-lC,Tk,L4,awX]
theorem anQ (y0:List Op) (y1:Int) (y2:Int) (y3:Int) (y4:Int) (h:kU):lU 1 5 [(.slice (Rw Op.cells []) .nil),(.int .i64 0),(.int .i64 0),(.int .i64 0),(.int .i64 0)] [(0,(.agg [(.slice (Rw Op.cells y0) (.own 8)),(.int .i64 y1),(.int .i64 y2),(.int .i64 y3),(.int .i64 y4)]))] h=some (.slice (Rw lR.cells [(⟨y0,(⟨y1,y2,y3,y4⟩:Term)⟩:lR)]) (.own h.length),h++[pR 5 (List.length [(⟨y0,(⟨y1,y2,y3,y4⟩:Term)⟩:lR)])]):=by
 rfl
noncomputable def Tj (K:lD) (aH:kS) (aI:kS) (bD:kU) (a7:kS) (a8:kS) (a_:kS) (bA:kS) (bB:kS) (aV:kS):Option R :=
 ix 5 aH aI fun bX=>ld true 5 bD bX fun bY=>lK (mH 5 bD (.agg [(.slice (Rw Op.cells []) .nil),(.int .i64 0),(.int .i64 0),(.int .i64 0),(.int .i64 0)])) fun bT bW=>(lT 5 bW bT bY).bind fun bU=>(fun(bZ:kS) (bL:kU)=>fa 0 bT fun b6=>ld false 1 bL b6 fun bV=>ln bV fun b7=>(mQ (O3 K (List.length bL)) ([a7,a8,a_,bA,bB,bT,bZ,aH,aV,aI,bV,b7,(.int .i64 0)],bL)).bind fun aA=>(fun aG aJ aK aL aM aC aO aD aE aF bE bF bG aT=>Ex.mC aA.1 none (fun bH=>Ex.inBlock 2 bH (fa 1 aC fun bM=>fa 0 bM fun bN=>ld false 1 aT bN fun bO=>bo .eql bO (.int .i64 2) fun bP=>(Tk K bP aC aT aL aG aJ aK aM aO aD aE aF).bind fun aB=>(fun aU aW aX aY aZ aN aP aQ aR aS a6=>Ex.uO aB.1 (fa 1 aN fun t165=>ld true 4 a6 t165 fun t166=>(nE [(.slice (Rw Op.cells []) .nil),(.int .i64 0),(.int .i64 0),(.int .i64 0),(.int .i64 0)] [(0,1),(1,4)] [(0,aP),(1,t166)]).bind fun bQ=>lK (lU 1 5 [(.slice (Rw Op.cells []) .nil),(.int .i64 0),(.int .i64 0),(.int .i64 0),(.int .i64 0)] [(0,bQ)] a6) fun bR bJ=>lK (nG 5 56 bJ aZ bR) fun bS bK=>lJ (List.length bD) .normal [aU,aW,aX,aY,bS,aQ,aR,aS] bK)) (gd aB.2.1 0) (gd aB.2.1 1) (gd aB.2.1 2) (gd aB.2.1 3) (gd aB.2.1 4) (gd aB.2.1 5) (gd aB.2.1 6) (gd aB.2.1 7) (gd aB.2.1 8) (gd aB.2.1 9) aB.2.2) (fun bI=>lJ (List.length bD) bI [aG,aJ,aK,aL,aM,aD,aE,aF] aT))) (gd aA.2.1 0) (gd aA.2.1 1) (gd aA.2.1 2) (gd aA.2.1 3) (gd aA.2.1 4) (gd aA.2.1 5) (gd aA.2.1 6) (gd aA.2.1 7) (gd aA.2.1 8) (gd aA.2.1 9) (gd aA.2.1 10) (gd aA.2.1 11) (gd aA.2.1 12) aA.2.2) (.slice (Rw Op.cells []) (.own (List.length bU))) (bU++[.front 0 0])
noncomputable def L3 (p0:IR) (aH:Int) (aI:(List Int)) (aJ:Int) (aK:Bool) (aG:(List lR)):Option (Ey×(List lR)×mT) :=
 tb ((pF p0.blocks aH)) fun aC=>tb (vB (FT aC ((List.length aC.ops:Nat):Int)) ([],0,(⟨aI,aJ,aK⟩:mT))) fun aA=>uF aA.1 none fun aD=>wR 2 aD (tb (L4 (decide (aC.term.kind=2)) aA.2.2.2.slots aA.2.2.2.most aA.2.2.2.bad aC) fun aB=>tb ((yF 56 aG [(⟨aA.2.1,aB.2.term⟩:lR)])) fun aF=>some (.n,(aF,aB.1))) fun aE=>some (aE,(aG,aA.2.2.2))
theorem ar3 (p0:IR) (w64:Int) (w66:(List Int)) (w67:Int) (w68:Bool) (w63:(List lR)) (w51:Int):(Tj KK (.slice (Rw lR.cells p0.blocks) .no) (.int .i64 w64) ([.cells [(.int .i64 p0.temps),(.slice (Rw mL.cells p0.arrays) .no),(.slice (Rw lR.cells p0.blocks) .no),(.int .i64 p0.inn),(.int .i64 p0.out)],.cells [(.int .i64 0),(.slice (Rw mL.cells []) (.own 2)),(.slice (Rw lR.cells []) (.own 3)),(.int .i64 0),(.int .i64 0)],.front 0 0,.front 0 0,.cells [(.slice (Rw (ci .i64) w66) .no),(.int .i64 w67),(.bool w68)],pR 5 (List.length w63)]:kU) (.ptr 0 0) (.ptr 1 0) (.int .i64 0) (.ptr 4 0) (.slice (Rw lR.cells w63) (.own 5)) (.int .i64 w51))=tm (L3 p0 w64 w66 w67 w68 w63) fun r=>(r.1.ex,[(.ptr 0 0),(.ptr 1 0),(.int .i64 0),(.ptr 4 0),(.slice (Rw lR.cells r.2.1) (.own 5)),(.slice (Rw lR.cells p0.blocks) .no),(.int .i64 w51),(.int .i64 w64)],([.cells [(.int .i64 p0.temps),(.slice (Rw mL.cells p0.arrays) .no),(.slice (Rw lR.cells p0.blocks) .no),(.int .i64 p0.inn),(.int .i64 p0.out)],.cells [(.int .i64 0),(.slice (Rw mL.cells []) (.own 2)),(.slice (Rw lR.cells []) (.own 3)),(.int .i64 0),(.int .i64 0)],.front 0 0,.front 0 0,.cells [(.slice (Rw (ci .i64) r.2.2.slots) .no),(.int .i64 r.2.2.most),(.bool r.2.2.bad)],pR 5 (List.length r.2.1)]:kU)):=by
 simp +contextual -implicitDefEqProofs (maxSteps:=2000000) [-lQ,-lF,-k9,-k_,-lG,-lN,-lC,Tj,L3,ar5,ar4,anQ]
noncomputable def O4 (K:lD) (m:Nat) (s:List kS×kU):Option R :=
 (fun aM aN aO aP aQ aH aB aC aU=>bo .lss aC aB fun aV=>lP aV ((Tj K aH aC aU aM aN aO aP aQ aB).bind fun aA=>(fun aG aI aJ aK aL aD aE aF aR=>Ex.inBlock 1 aA.1 (bo .add aF (.int .i64 1) fun aT=>lJ m .normal [aG,aI,aJ,aK,aL,aD,aE,aT] aR) (fun aS=>lJ m aS [aG,aI,aJ,aK,aL,aD,aE,aF] aR)) (gd aA.2.1 0) (gd aA.2.1 1) (gd aA.2.1 2) (gd aA.2.1 3) (gd aA.2.1 4) (gd aA.2.1 5) (gd aA.2.1 6) (gd aA.2.1 7) aA.2.2) (lJ m (.exit 0) [aM,aN,aO,aP,aQ,aH,aB,aC] aU)) (gd s.1 0) (gd s.1 1) (gd s.1 2) (gd s.1 3) (gd s.1 4) (gd s.1 5) (gd s.1 6) (gd s.1 7) s.2
noncomputable def FU (p0:IR) (aD:Int) (aB:(List lR)×Int×mT):Option (Ey×(List lR)×Int×mT) :=
 tc (decide (aB.2.1 < aD)) (tb (L3 p0 aB.2.1 aB.2.2.slots aB.2.2.most aB.2.2.bad aB.1) fun aA=>wR 1 aA.1 (some (.n,(aA.2.1,(IntKind.wrap .i64 (aB.2.1+1)),aA.2.2))) fun aC=>some (aC,(aA.2.1,aB.2.1,aA.2.2))) (some ((.x 0),(aB.1,aB.2.1,aB.2.2)))
theorem anC (p0:IR) (w51:Int) (s52:(List lR)×Int×mT):O4 KK 6 ([(.ptr 0 0),(.ptr 1 0),(.int .i64 0),(.ptr 4 0),(.slice (Rw lR.cells s52.1) (.own 5)),(.slice (Rw lR.cells p0.blocks) .no),(.int .i64 w51),(.int .i64 s52.2.1)],([.cells [(.int .i64 p0.temps),(.slice (Rw mL.cells p0.arrays) .no),(.slice (Rw lR.cells p0.blocks) .no),(.int .i64 p0.inn),(.int .i64 p0.out)],.cells [(.int .i64 0),(.slice (Rw mL.cells []) (.own 2)),(.slice (Rw lR.cells []) (.own 3)),(.int .i64 0),(.int .i64 0)],.front 0 0,.front 0 0,.cells [(.slice (Rw (ci .i64) s52.2.2.slots) .no),(.int .i64 s52.2.2.most),(.bool s52.2.2.bad)],pR 5 (List.length s52.1)]:kU))=tm (FU p0 w51 s52) fun r=>(r.1.ex,[(.ptr 0 0),(.ptr 1 0),(.int .i64 0),(.ptr 4 0),(.slice (Rw lR.cells r.2.1) (.own 5)),(.slice (Rw lR.cells p0.blocks) .no),(.int .i64 w51),(.int .i64 r.2.2.1)],([.cells [(.int .i64 p0.temps),(.slice (Rw mL.cells p0.arrays) .no),(.slice (Rw lR.cells p0.blocks) .no),(.int .i64 p0.inn),(.int .i64 p0.out)],.cells [(.int .i64 0),(.slice (Rw mL.cells []) (.own 2)),(.slice (Rw lR.cells []) (.own 3)),(.int .i64 0),(.int .i64 0)],.front 0 0,.front 0 0,.cells [(.slice (Rw (ci .i64) r.2.2.2.slots) .no),(.int .i64 r.2.2.2.most),(.bool r.2.2.2.bad)],pR 5 (List.length r.2.1)]:kU)):=by
 simp +contextual -implicitDefEqProofs (maxSteps:=2000000) [-lQ,-lF,-k9,-k_,-lG,-lN,-lC,O4,FU,ar3]
theorem ar6 (p0:IR) (w51:Int) (r39:(List Int)) (i4:Int):mQ (O4 KK 6) ([(.ptr 0 0),(.ptr 1 0),(.int .i64 0),(.ptr 4 0),(.slice (Rw lR.cells []) (.own 5)),(.slice (Rw lR.cells p0.blocks) .no),(.int .i64 w51),(.int .i64 i4)],([.cells [(.int .i64 p0.temps),(.slice (Rw mL.cells p0.arrays) .no),(.slice (Rw lR.cells p0.blocks) .no),(.int .i64 p0.inn),(.int .i64 p0.out)],.cells [(.int .i64 0),(.slice (Rw mL.cells []) (.own 2)),(.slice (Rw lR.cells []) (.own 3)),(.int .i64 0),(.int .i64 0)],.front 0 0,.front 0 0,.cells [(.slice (Rw (ci .i64) r39) .no),(.int .i64 0),(.bool false)],.front 0 0]:kU))=tm (vB (FU p0 w51) ([],i4,(⟨r39,0,false⟩:mT))) fun r=>(r.1.ex,[(.ptr 0 0),(.ptr 1 0),(.int .i64 0),(.ptr 4 0),(.slice (Rw lR.cells r.2.1) (.own 5)),(.slice (Rw lR.cells p0.blocks) .no),(.int .i64 w51),(.int .i64 r.2.2.1)],([.cells [(.int .i64 p0.temps),(.slice (Rw mL.cells p0.arrays) .no),(.slice (Rw lR.cells p0.blocks) .no),(.int .i64 p0.inn),(.int .i64 p0.out)],.cells [(.int .i64 0),(.slice (Rw mL.cells []) (.own 2)),(.slice (Rw lR.cells []) (.own 3)),(.int .i64 0),(.int .i64 0)],.front 0 0,.front 0 0,.cells [(.slice (Rw (ci .i64) r.2.2.2.slots) .no),(.int .i64 r.2.2.2.most),(.bool r.2.2.2.bad)],pR 5 (List.length r.2.1)]:kU)):=by
 exact w_ (enc:=fun s52=>([(.ptr 0 0),(.ptr 1 0),(.int .i64 0),(.ptr 4 0),(.slice (Rw lR.cells s52.1) (.own 5)),(.slice (Rw lR.cells p0.blocks) .no),(.int .i64 w51),(.int .i64 s52.2.1)],([.cells [(.int .i64 p0.temps),(.slice (Rw mL.cells p0.arrays) .no),(.slice (Rw lR.cells p0.blocks) .no),(.int .i64 p0.inn),(.int .i64 p0.out)],.cells [(.int .i64 0),(.slice (Rw mL.cells []) (.own 2)),(.slice (Rw lR.cells []) (.own 3)),(.int .i64 0),(.int .i64 0)],.front 0 0,.front 0 0,.cells [(.slice (Rw (ci .i64) s52.2.2.slots) .no),(.int .i64 s52.2.2.most),(.bool s52.2.2.bad)],pR 5 (List.length s52.1)]:kU))) (fun s52=>anC p0 w51 s52) ([],i4,(⟨r39,0,false⟩:mT))
noncomputable def m49 (K:lD) (a0 a1:kS) (h0:kU):Option (nZ×kU) :=
 (lK (mH 5 h0 a0) fun aL bA=>lK (mH 5 bA (.agg [(.int .i64 0),(.slice (Rw mL.cells []) .nil),(.slice (Rw lR.cells []) .nil),(.int .i64 0),(.int .i64 0)])) fun aJ a6=>ld true 5 a6 aL fun bF=>ca (K 30 [(kS.k8 bF)] a6) fun a8 aK=>bo .neq a8 (.int .i64 0) fun bG=>lP bG ((nE [(.int .i64 0),(.slice (Rw mL.cells []) .nil),(.slice (Rw lR.cells []) .nil),(.int .i64 0),(.int .i64 0)] [(0,1),(1,1),(2,1),(3,1),(4,1)] []).bind fun bH=>(lT 5 aK aJ bH).bind fun bB=>some (.ret,[aJ,a8],bB)) (ln a1 fun bI=>fa 0 aL fun bJ=>ld false 1 aK bJ fun bK=>bo .neq bI bK fun bL=>lP bL ((nE [(.int .i64 0),(.slice (Rw mL.cells []) .nil),(.slice (Rw lR.cells []) .nil),(.int .i64 0),(.int .i64 0)] [(0,1),(1,1),(2,1),(3,1),(4,1)] []).bind fun bM=>(lT 5 aK aJ bM).bind fun bD=>some (.ret,[aJ,(.int .i64 2)],bD)) (ca (K 97 [(kS.k8 a1)] aK) fun bN bE=>(nE [(.slice (Rw (ci .i64) []) .nil),(.int .i64 0),(.bool false)] [(0,1),(1,1),(2,1)] [(0,bN)]).bind fun bO=>lK (mH 3 bE bO) fun bP a7=>(fun(bQ:kS) (aV:kU)=>fa 2 aL fun bR=>ld false 1 aV bR fun a_=>ln a_ fun bS=>(mQ (O4 K (List.length aV)) ([aL,aJ,(.int .i64 0),bP,bQ,a_,bS,(.int .i64 0)],aV)).bind fun aC=>(fun aA aB aF aE aG aM aN aO aD=>Ex.mC aC.1 none (fun aP=>Ex.inBlock 0 aP ((lX aE).bind fun aW=>fa 2 aW fun aX=>ld false 1 aD aX fun aY=>lP aY ((nE [(.int .i64 0),(.slice (Rw mL.cells []) .nil),(.slice (Rw lR.cells []) .nil),(.int .i64 0),(.int .i64 0)] [(0,1),(1,1),(2,1),(3,1),(4,1)] []).bind fun aZ=>(lT 5 aD aB aZ).bind fun aR=>some (.ret,[aB,(.int .i64 2)],aR)) ((lX aE).bind fun t202=>fa 1 t202 fun t203=>ld false 1 aD t203 fun t204=>fa 2 aA fun t205=>(lT 1 (rG (mY [0] [t203]) aD) t205 aG).bind fun aS=>fa 0 aA fun t207=>(lT 1 (oA (mY [0] [t203]) aD aS) t207 t204).bind fun aH=>fa 1 aA fun t209=>ld false 1 aH t209 fun t210=>lK (nG 4 32 aH (.slice (Rw mL.cells []) .nil) t210) fun t211 aT=>fa 1 aA fun t214=>(lT 1 aT t214 t211).bind fun aI=>ld true 5 aI aA fun t216=>(lT 5 aI aB t216).bind fun aU=>some (.ret,[aB,(.int .i64 0)],aU))) (fun aQ=>some (aQ,[aB,aF],aD)))) (gd aC.2.1 0) (gd aC.2.1 1) (gd aC.2.1 2) (gd aC.2.1 3) (gd aC.2.1 4) (gd aC.2.1 5) (gd aC.2.1 6) (gd aC.2.1 7) aC.2.2) (.slice (Rw lR.cells []) (.own (List.length a7))) (a7++[.front 0 0])))).bind (alE (List.length h0))
theorem aqB (K:lD) (a0 a1:kS) (h0:kU):qA Tryd.prog nA mQ K 49 [a0,a1] h0=m49 (mP nA K) a0 a1 h0:=by kernel_rfl
noncomputable def t49 (p0:IR) (p1:(List Int)):Option (IR×Int) :=
 tb ((t30 p0)) fun EW=>tc (!decide (EW=0)) (some ((⟨0,[],[],0,0⟩:IR),EW)) (tc (!decide (((List.length p1:Nat):Int)=p0.temps)) (some ((⟨0,[],[],0,0⟩:IR),2)) (tb ((t97 p1)) fun aE=>tb (vB (FU p0 ((List.length p0.blocks:Nat):Int)) ([],0,(⟨aE,0,false⟩:mT))) fun aA=>uF aA.1 none fun aB=>wR 0 aB (tc aA.2.2.2.bad (some ((⟨0,[],[],0,0⟩:IR),2)) (tc (List.isEmpty p0.arrays) (some ((⟨aA.2.2.2.most,[],aA.2.1,p0.inn,p0.out⟩:IR),0)) (tb ((yF 32 [] p0.arrays)) fun aD=>some ((⟨aA.2.2.2.most,aD,aA.2.1,p0.inn,p0.out⟩:IR),0)))) fun aC=>Qz aC (some ((⟨0,[],[],0,0⟩:IR),0))))
theorem b49 (p0:IR) (p1:(List Int)):m49 KK (.agg [(.int .i64 p0.temps),(.slice (Rw mL.cells p0.arrays) .no),(.slice (Rw lR.cells p0.blocks) .no),(.int .i64 p0.inn),(.int .i64 p0.out)]) (.slice (Rw (ci .i64) p1) .no) []=tm (t49 p0 p1) fun r=>(.ret (.tuple [(.agg [(.int .i64 r.1.temps),(.slice (Rw mL.cells r.1.arrays) .no),(.slice (Rw lR.cells r.1.blocks) .no),(.int .i64 r.1.inn),(.int .i64 r.1.out)]),(.int .i64 r.2)]),[]):=by
 simp +contextual -implicitDefEqProofs (maxSteps:=2000000) [-lQ,-lF,-k9,-k_,-lG,-lN,-lC,m49,t49,Ib,LA,ar6,alE]
theorem Ic (p0:IR) (p1:(List Int)) (h:kU):KK 49 [(.agg [(.int .i64 p0.temps),(.slice (Rw mL.cells p0.arrays) .no),(.slice (Rw lR.cells p0.blocks) .no),(.int .i64 p0.inn),(.int .i64 p0.out)]),(.slice (Rw (ci .i64) p1) .no)] h=tm (t49 p0 p1) fun r=>(.ret (.tuple [(.agg [(.int .i64 r.1.temps),(.slice (Rw mL.cells r.1.arrays) .no),(.slice (Rw lR.cells r.1.blocks) .no),(.int .i64 r.1.inn),(.int .i64 r.1.out)]),(.int .i64 r.2)]),h):=rY rfl rfl (aqB ..) (b49 p0 p1)
end Go.Proofs.YtkeoalhglkfbkaaDoor


namespace Go.Proofs.YtkeoalhglkfbkaaDoor
open Go Hk
end Go.Proofs.YtkeoalhglkfbkaaDoor


namespace Go.Proofs.YtkeoalhglkfbkaaDoor
open Go Hk
theorem oY {α:Type}{xs:List α}{i:Nat}:pF xs (i:Int)=xs[i]?:=by simp [pF]
theorem vA {α:Type}{by_:Nat}{xs ys:List α}(hb:by_≤100) (hl:xs.length≤4000000) (hy:ys.length≤4000000):yF by_ xs ys=some (xs++ys):=by
 unfold yF
 rw [if_pos]
 have:(xs.length+ys.length) * by_≤8000000 * 100:=Nat.mul_le_mul (by omega) hb
 omega
def sl (l:List Int) (t:Int):Int:=l.getD t.toNat 0
def AW (l:List Int) (t:Int):Bool:=decide (0≤sl l t) && decide (sl l t < 1048576)
def uR (l:List Int) (t:Int):Int:=min (sl l t) 1048576
def Ab (l:List Int):List Int:=l.map fun s=>min s 1048576
def xS (l:List Int) (r:mT) (t:Int):mT:=⟨r.slots,max r.most (IntKind.wrap .i64 (uR l t+1)),r.bad || !AW l t⟩
theorem DO {l:List Int}{ts:List Int}{r:mT}:(ts.foldl (xS l) r).slots=r.slots:=by
 induction ts generalizing r with
 | nil=>rfl
 | cons t ts ih=>rw [List.foldl_cons,ih]; rfl
theorem ay7 {l:List Int}(hl:l.length≤2000000):t97 l=some (Ab l):=by
 have key:∀(d i:Nat),l.length=i+d→vB (F4 l ((l.length:Nat):Int)) (Ab (l.take i),(i:Int))=some (.x 0,(Ab l,(l.length:Int))):=by
  intro d
  induction d with
  | zero =>
   intro i hi
   obtain rfl:i=l.length:=by omega
   rw [List.take_length]
   refine qQ ?_ (by simp)
   simp [F4]
  | succ d ih =>
   intro i hi
   rw [←ih (i+1) (by omega)]
   refine rJ ?_
   have hil:i < l.length:=by omega
   have e1:pF l (i:Int)=some l[i]:=by rw [oY,List.getElem?_eq_getElem hil]
   have e2:yF 8 (Ab (l.take i)) [min l[i] 1048576]=some (Ab (l.take (i+1))):=by
    rw [vA (by omega) (by simp [Ab]; omega) (by simp),List.take_succ_eq_append_getElem hil]
    simp only [Ab,List.map_append,List.map_cons,List.map_nil]
   have w1:IntKind.i64.wrap ((i:Int)+1)=((i+1:Nat):Int):=by rw [wrap64 (by omega) (by omega),Int.natCast_add]; rfl
   have hii:(i:Int) < (l.length:Int):=by omega
   simp only [F4,e1,hii,decide_true,oE,mE,e2,w1]
 have:=key l.length 0 (by omega)
 have e0:((0:Nat):Int)=0:=rfl
 have e1:Ab (l.take 0)=[]:=rfl
 rw [e0,e1] at this
 simp [t97,this]
theorem alW {l:List Int}{t:Int}{r:mT}(h0:0≤t) (h1:t.toNat < l.length) (hr:r.slots=Ab l):t99 t r=some (uR l t,xS l r t):=by
 have e1:pF r.slots t=some (uR l t):=by
  rw [hr]
  unfold pF
  rw [if_pos h0]
  unfold Ab uR sl
  rw [List.getElem?_map,List.getElem?_eq_getElem h1,List.getD_eq_getElem?_getD,List.getElem?_eq_getElem h1]
  rfl
 have e2:(!AW l t)=(decide (uR l t < 0) || decide (1048576≤uR l t)):=by
  unfold AW uR
  rw [Bool.eq_iff_iff]
  simp
  omega
 unfold t99
 rw [e1,mE]
 unfold xS
 rw [e2]
 obtain⟨rs,rm,rb⟩:=r
 cases rb
 ·by_cases h2:uR l t < 0 <;> simp [It,Iu,h2]
 ·simp [It,Iu]
def C0 (o:Op):List Int:=mU o++if (mM o.kind).dst=true then [o.dst] else []
def Ln (l:List Int) (o:Op):Op :=
 ⟨o.kind,if (mM o.kind).dst=true then uR l o.dst else o.dst,if 1≤(mM o.kind).src then uR l o.a else o.a,if 2≤(mM o.kind).src then uR l o.b else o.b,if 3≤(mM o.kind).src then uR l o.c else o.c,o.imm⟩
theorem ay8 {l:List Int}{o:Op}{r:mT}(ht:∀t∈C0 o,0≤t∧t.toNat < l.length) (hr:r.slots=Ab l):t98 o.kind o.dst o.a o.b o.c o.imm r=some (Ln l o,(C0 o).foldl (xS l) r):=by
 have hs:=yY o.kind
 have key:∀(t:Int) (r:mT),t∈C0 o→r.slots=Ab l→t99 t r=some (uR l t,xS l r t):=fun t r hm hr=>alW (ht t hm).1 (ht t hm).2 hr
 have eta:∀r:mT,(⟨r.slots,r.most,r.bad⟩:mT)=r:=fun r=>rfl
 have hsl:∀(r:mT) t,(xS l r t).slots=r.slots:=fun r t=>rfl
 unfold t98
 simp only [t74,mE]
 unfold Ln C0 at *
 unfold mU at *
 generalize hf:(mM o.kind).src=n at *
 cases hd:(mM o.kind).dst <;> rw [hd] at key ht <;>
  rcases (show n=0∨n=1∨n=2∨n=3 by omega) with rfl | rfl | rfl | rfl <;>
  simp [PD,PE,PF,PG,t73,hd,eta,key,hr,hsl]
theorem ac4 {l:List Int}{b:lR}(hb:b.ops.length≤2000000) (ht:∀o∈b.ops,∀t∈C0 o,0≤t∧t.toNat < l.length):∀(d i:Nat) (r:mT),b.ops.length=i+d→r.slots=Ab l →
  vB (FT b ((b.ops.length:Nat):Int)) ((b.ops.take i).map (Ln l),(i:Int),r)=some (.x 2,(b.ops.map (Ln l),(b.ops.length:Int),((b.ops.drop i).flatMap C0).foldl (xS l) r)):=by
 intro d
 induction d with
 | zero =>
  intro i r hi hr
  obtain rfl:i=b.ops.length:=by omega
  rw [List.take_length,List.drop_length]
  refine qQ ?_ (by simp)
  simp [FT]
 | succ d ih =>
  intro i r hi hr
  have hil:i < b.ops.length:=by omega
  have hm:b.ops[i]∈b.ops:=List.getElem_mem hil
  have e3:(b.ops.drop i).flatMap C0=C0 b.ops[i]++(b.ops.drop (i+1)).flatMap C0:=by rw [List.drop_eq_getElem_cons hil,List.flatMap_cons]
  rw [e3,List.foldl_append,←ih (i+1) _ (by omega) (by rw [DO]; exact hr)]
  refine rJ ?_
  have e1:pF b.ops (i:Int)=some b.ops[i]:=by rw [oY,List.getElem?_eq_getElem hil]
  have e4:=ay8 (ht _ hm) hr
  have e2:yF 48 ((b.ops.take i).map (Ln l)) [Ln l b.ops[i]]=some ((b.ops.take (i+1)).map (Ln l)):=by
   rw [vA (by omega) (by simp; omega) (by simp),List.take_succ_eq_append_getElem hil]
   simp only [List.map_append,List.map_cons,List.map_nil]
  have w1:IntKind.i64.wrap ((i:Int)+1)=((i+1:Nat):Int):=by rw [wrap64 (by omega) (by omega),Int.natCast_add]; rfl
  have hii:(i:Int) < (b.ops.length:Int):=by omega
  simp only [FT,e1,hii,decide_true,oE,mE,e4,e2,w1]
def BF (b:lR):List Int:=b.ops.flatMap C0++if b.term.kind=2 then [b.term.a] else []
def GG (l:List Int) (b:lR):lR:=⟨b.ops.map (Ln l),if b.term.kind=2 then⟨b.term.kind,uR l b.term.a,b.term.yes,b.term.no⟩ else b.term⟩
def InT (p:IR) (l:List Int):Prop:=(∀b∈p.blocks,b.ops.length≤2000000∧∀t∈BF b,0≤t∧t.toNat < l.length)∧p.blocks.length≤2000000
theorem ac3 {p:IR}{l:List Int}{i:Nat}{b:lR}{r:mT}{bs:List lR}(hb:p.blocks[i]?=some b) (hi:InT p l) (hr:r.slots=Ab l) (hbs:bs.length≤2000000) :
  L3 p (i:Int) r.slots r.most r.bad bs=some (.n,(bs++[GG l b],(BF b).foldl (xS l) r)):=by
 obtain⟨h1,h2⟩:=hi.1 b (List.mem_of_getElem? hb)
 have g:=ac4 (l:=l) h1 (fun o ho t ht=>h2 t (by unfold BF; exact List.mem_append_left _ (List.mem_flatMap.2 ⟨o,ho,ht⟩))) b.ops.length 0 r (by omega) hr
 have e0:((0:Nat):Int)=0:=rfl
 simp only [List.take_zero,List.map_nil,List.drop_zero,e0] at g
 have eta:(⟨r.slots,r.most,r.bad⟩:mT)=r:=rfl
 have e1:pF p.blocks (i:Int)=some b:=by rw [oY,hb]
 unfold L3
 rw [e1,mE,eta,g,mE]
 simp only [uF,wR,beq_self_eq_true,cond_true]
 generalize hR:(b.ops.flatMap C0).foldl (xS l) r=R at *
 have hRs:R.slots=Ab l:=by rw [←hR,DO,hr]
 have eR:(⟨R.slots,R.most,R.bad⟩:mT)=R:=rfl
 unfold GG BF
 rw [List.foldl_append,hR]
 by_cases hk:b.term.kind=2
 ·have hm:b.term.a∈BF b:=by unfold BF; rw [if_pos hk]; simp
  have e5:=alW (r:=R) (h2 _ hm).1 (h2 _ hm).2 hRs
  simp only [L4,hk,decide_true,oE,eR,e5,mE,if_true]
  rw [vA (by omega) (by omega) (by simp)]
  simp [hk]
 ·simp only [L4,hk,decide_false,pK,eR,mE,if_false]
  rw [vA (by omega) (by omega) (by simp)]
  simp
theorem ac5 {p:IR}{l:List Int}(hi:InT p l):∀(d i:Nat) (r:mT),p.blocks.length=i+d→r.slots=Ab l →
  vB (FU p ((p.blocks.length:Nat):Int)) ((p.blocks.take i).map (GG l),(i:Int),r)=some (.x 0,(p.blocks.map (GG l),(p.blocks.length:Int),((p.blocks.drop i).flatMap BF).foldl (xS l) r)):=by
 have hn:=hi.2
 intro d
 induction d with
 | zero =>
  intro i r hd hr
  obtain rfl:i=p.blocks.length:=by omega
  rw [List.take_length,List.drop_length]
  refine qQ ?_ (by simp)
  simp [FU]
 | succ d ih =>
  intro i r hd hr
  have hil:i < p.blocks.length:=by omega
  have e3:(p.blocks.drop i).flatMap BF=BF p.blocks[i]++(p.blocks.drop (i+1)).flatMap BF:=by rw [List.drop_eq_getElem_cons hil,List.flatMap_cons]
  rw [e3,List.foldl_append,←ih (i+1) _ (by omega) (by rw [DO]; exact hr)]
  refine rJ ?_
  have e4:=ac3 (bs:=(p.blocks.take i).map (GG l)) (List.getElem?_eq_getElem hil) hi hr (by simp; omega)
  have e2:(p.blocks.take i).map (GG l)++[GG l p.blocks[i]]=(p.blocks.take (i+1)).map (GG l):=by
   rw [List.take_succ_eq_append_getElem hil]; simp only [List.map_append,List.map_cons,List.map_nil]
  have w1:IntKind.i64.wrap ((i:Int)+1)=((i+1:Nat):Int):=by rw [wrap64 (by omega) (by omega),Int.natCast_add]; rfl
  have hii:(i:Int) < (p.blocks.length:Int):=by omega
  rw [e2] at e4
  simp only [FU,hii,decide_true,oE,e4,mE,w1,AI]
def C5:IR:=⟨0,[],[],0,0⟩
def Ax (p:IR):List Int:=p.blocks.flatMap BF
def Qs (p:IR) (l:List Int):IR×Int :=
 if mN p≠0 then(C5,mN p) else if (l.length:Int)≠p.temps then(C5,2) else
 if ((Ax p).foldl (xS l) ⟨Ab l,0,false⟩).bad=true then(C5,2) else(⟨((Ax p).foldl (xS l) ⟨Ab l,0,false⟩).most,p.arrays,p.blocks.map (GG l),p.inn,p.out⟩,0)
theorem ZB {p:IR}{l:List Int}(h0:mN p=0) (hl:(l.length:Int)=p.temps):InT p l:=by
 obtain⟨hp,_⟩:=qJ h0
 refine⟨fun b hb=>⟨by have:=hp.len b hb; omega,fun t ht=>?_⟩,by have:=hp.nb; omega⟩
 have key:0≤t∧t < p.temps:=by
  unfold BF at ht
  rcases List.mem_append.1 ht with h | h
  ·obtain⟨o,ho,h⟩:=List.mem_flatMap.1 h
   unfold C0 at h
   rcases List.mem_append.1 h with h | h
   ·exact hp.use b hb o ho t h
   ·by_cases hd:(mM o.kind).dst=true
    ·rw [if_pos hd] at h; simp at h; subst h; exact hp.made b hb o ho hd
    ·rw [if_neg hd] at h; simp at h
  ·by_cases hk:b.term.kind=2
   ·rw [if_pos hk] at h; simp at h; subst h; exact hp.term b hb hk
   ·rw [if_neg hk] at h; simp at h
 omega
theorem ay5 (p:IR) (l:List Int):t49 p l=some (Qs p l):=by
 unfold t49 Qs
 simp only [t30,mE]
 by_cases h0:mN p=0
 ·by_cases hl:(l.length:Int)=p.temps
  ·have hi:=ZB h0 hl
   obtain⟨hp,_⟩:=qJ h0
   obtain⟨l00,_,_⟩:=n_ h0
   have hal:=l00.a1
   have hll:l.length≤2000000:=by have:=hp.temps; omega
   have g:=ac5 hi p.blocks.length 0 ⟨Ab l,0,false⟩ (by omega) rfl
   have e0:((0:Nat):Int)=0:=rfl
   simp only [List.take_zero,List.map_nil,List.drop_zero,e0] at g
   have ea:yF 32 [] p.arrays=some p.arrays:=by rw [vA (by omega) (by simp) (by omega)]; rfl
   have fa:(p.blocks.flatMap BF)=Ax p:=rfl
   rw [fa] at g
   generalize (Ax p).foldl (xS l) ⟨Ab l,0,false⟩=R at *
   rw [ay7 hll,mE,g,mE]
   simp only [h0,hl,uF,wR,beq_self_eq_true,cond_true,decide_true,Bool.not_true,pK,ea,mE,ne_eq,not_true_eq_false,if_false]
   cases hR:R.bad with
   | true=>simp [C5]
   | false =>
    cases ha:p.arrays with
    | nil=>simp
    | cons x r=>simp
  ·simp [h0,hl,C5]
 ·simp [h0,C5]
end Go.Proofs.YtkeoalhglkfbkaaDoor


namespace Go.Proofs.YtkeoalhglkfbkaaDoor
open Go Hk
def y7 (l:List Int) (m:Int) (ts:List Int):Int:=ts.foldl (fun m t=>max m (IntKind.wrap .i64 (sl l t+1))) m
section
variable {l L us:List Int}{j:Nat}{e m t:Int}
end
section
variable {l:List Int}
end
end Go.Proofs.YtkeoalhglkfbkaaDoor


namespace Go.Proofs.YtkeoalhglkfbkaaDoor
open Go Hk
section
variable {l:List Int}
theorem QG:∀(ts:List Int) (r:mT),(ts.foldl (xS l) r).bad=(r.bad || ts.any fun t=>!AW l t):=by
 intro ts
 induction ts with
 | nil=>intro r; simp
 | cons t ts ih=>intro r; rw [List.foldl_cons,ih]; simp [xS,Bool.or_assoc]
theorem L7 {t:Int}(h:AW l t=true):uR l t=sl l t:=by
 unfold AW at h; simp only [Bool.and_eq_true,decide_eq_true_eq] at h; unfold uR; omega
theorem M0:∀(ts:List Int) (r:mT),(∀t∈ts,AW l t=true)→(ts.foldl (xS l) r).most=y7 l r.most ts:=by
 intro ts
 induction ts with
 | nil=>intro r _; rfl
 | cons t ts ih =>
  intro r h
  rw [List.foldl_cons,ih _ (fun t ht=>h t (List.mem_cons_of_mem _ ht))]
  simp only [y7,List.foldl_cons,xS,L7 (h t List.mem_cons_self)]
end
end Go.Proofs.YtkeoalhglkfbkaaDoor


namespace Go.Proofs.YtkeoalhglkfbkaaDoor
open Go Hk
noncomputable def t27 (p:IR):Option (List (List Int)×List (List Int)×Int):=some (qW p,rN p,mN p)
theorem EW (p:IR) (h:kU):KK 27 [.agg [.int .i64 p.temps,.slice (Rw mL.cells p.arrays) .no,.slice (Rw lR.cells p.blocks) .no,.int .i64 p.inn,.int .i64 p.out]] h=tm (t27 p) fun r=>(.ret (.tuple [.slice (Rw (AB (ci .i64)) r.1) .no,.slice (Rw (AB (ci .i64)) r.2.1) .no,.int .i64 r.2.2]),h):=c27 p h
end Go.Proofs.YtkeoalhglkfbkaaDoor


namespace Hk.PS
variable {e:Nat→Int}
def tk (e:Nat→Int) (ps:List (Nat×Nat)) (s:Nat) (f:Int):Bool:=ps.any fun p=>p.2 == s && decide (f≤e p.1)
theorem PH {ps:List (Nat×Nat)}{s:Nat}{f:Int}:tk e ps s f=true↔∃p∈ps,p.2=s∧f≤e p.1:=by
 simp [tk]
theorem XX {ps bs:List (Nat×Nat)}{s:Nat}{f:Int}:tk e (ps++bs) s f=(tk e ps s f || tk e bs s f):=by simp [tk]
def U3 (e:Nat→Int) (ps:List (Nat×Nat)) (f:Int):Nat→Nat→Nat
 | 0,s=>s
 | n+1,s=>if tk e ps s f then U3 e ps f n (s+1) else s
theorem Hm {ps:List (Nat×Nat)}{f:Int}:∀{n s s':Nat},s≤s'→s' < U3 e ps f n s→tk e ps s' f=true
 | 0,s,s',h1,h2=>by simp [U3] at h2; omega
 | n+1,s,s',h1,h2=>by
  unfold U3 at h2
  split at h2
  ·rename_i h
   by_cases es:s=s'
   ·subst es; exact h
   ·exact Hm (n:=n) (s:=s+1) (by omega) h2
  ·omega
theorem uW {α:Type}{P:List α→Prop}(h0:P []) (h1:∀l x,P l→P (l++[x])) (l:List α):P l:=by
 have:∀r:List α,P r.reverse:=by
  intro r
  induction r with
  | nil=>exact h0
  | cons x r ih=>rw [List.reverse_cons]; exact h1 _ _ ih
 have:=this l.reverse
 rwa [List.reverse_reverse] at this
theorem Vt (e:Nat→Int) (ps:List (Nat×Nat)) (f:Int):∃s≤ps.length,tk e ps s f=false:=by
 by_cases h:∃s≤ps.length,tk e ps s f=false
 ·exact h
 ·exfalso
  have h2:List.range (ps.length+1) ⊆ ps.map (·.2):=by
   intro s hs
   have hs:=List.mem_range.1 hs
   cases ht:tk e ps s f with
   | false=>exact absurd ⟨s,by omega,ht⟩ h
   | true =>
    obtain⟨p,hp,h1,_⟩:=PH.1 ht
    exact List.mem_map.2 ⟨p,hp,h1⟩
  have:=List.Nodup.length_le_of_subset List.nodup_range h2
  simp at this
  omega
def qT (e:Nat→Int) (ps:List (Nat×Nat)) (f:Int):Nat:=U3 e ps f (ps.length+1) 0
theorem FK (ps:List (Nat×Nat)) (f:Int):tk e ps (qT e ps f) f=false:=by
 obtain⟨s,h1,h2⟩:=Vt e ps f
 cases h:tk e ps (qT e ps f) f with
 | false=>rfl
 | true =>
  have hle:qT e ps f≤s:=by
   by_cases hc:qT e ps f≤s
   ·exact hc
   ·have:=Hm (e:=e) (ps:=ps) (f:=f) (n:=ps.length+1) (s:=0) (Nat.zero_le s) (by unfold qT at hc; omega)
    rw [h2] at this; cases this
  have key:∀(n s0:Nat),tk e ps (U3 e ps f n s0) f=true→U3 e ps f n s0=s0+n:=by
   intro n
   induction n with
   | zero=>intro s0 _; rfl
   | succ n ih =>
    intro s0 h
    unfold U3 at h ⊢
    split
    ·rename_i hc
     rw [if_pos hc] at h
     rw [ih _ h]; omega
    ·rename_i hc
     rw [if_neg hc] at h
     exact absurd h hc
  have:=key _ _ h
  unfold qT at hle
  omega
theorem Be {ps:List (Nat×Nat)}{f:Int}{s:Nat}(h:s < qT e ps f):tk e ps s f=true:=Hm (Nat.zero_le _) h
theorem Rq {ps:List (Nat×Nat)}{f:Int}{t:Nat}(ht:tk e ps t f=false) (hb:∀s < t,tk e ps s f=true):qT e ps f=t:=by
 have h1:¬qT e ps f < t:=fun h=>by have:=hb _ h; rw [FK] at this; cases this
 have h2:¬t < qT e ps f:=fun h=>by have:=Be h; rw [ht] at this; cases this
 omega
def gS (f e:Nat→Int) (ord:List Nat):List (Nat×Nat):=ord.foldl (fun ps t=>ps++[(t,qT e ps (f t))]) []
def nS (ps:List (Nat×Nat)):Nat:=ps.foldl (fun n p=>max n (p.2+1)) 0
theorem Ar {ps:List (Nat×Nat)}{p:Nat×Nat}:nS (ps++[p])=max (nS ps) (p.2+1):=by simp [nS]
theorem alM {ps:List (Nat×Nat)}:∀p∈ps,p.2 < nS ps:=by
 induction ps using uW with
 | h0=>intro p hp; cases hp
 | h1 ps q ih =>
  intro p hp
  rw [Ar]
  rcases List.mem_append.1 hp with h | h
  ·have:=ih p h; omega
  ·simp at h; subst h; omega
structure PI (e:Nat→Int) (ps:List (Nat×Nat)) (n:Nat) (F:List Int) (U:List (Int×Int)) (cur:Int):Prop where
 perm:(F++U.map (·.1)).Perm ((List.range n).map Int.ofNat)
 taken:∀f,cur≤f→∀s:Nat,tk e ps s f=true↔∃x∈U,x.1=(s:Int)∧f≤x.2
 num:n=nS ps
theorem PI.empty (cur:Int):PI e [] 0 [] [] cur:=⟨by simp,fun f _ s=>by simp [tk],rfl⟩
theorem PI.later {ps:List (Nat×Nat)}{n:Nat}{F:List Int}{U:List (Int×Int)}{cur cur':Int}(h:PI e ps n F U cur) (hc:cur≤cur'):PI e ps n F U cur' :=
 ⟨h.perm,fun f hf=>h.taken f (by omega),h.num⟩
theorem PI.free {ps:List (Nat×Nat)}{n:Nat}{F F':List Int}{U U':List (Int×Int)}{cur:Int}{x:Int×Int}(h:PI e ps n F U cur) (hU:(x::U').Perm U) (hF:F'.Perm (x.1::F)) (hx:x.2 < cur):PI e ps n F' U' cur:=by
 refine⟨?_,fun f hf s=>?_,h.num⟩
 ·refine List.Perm.trans ?_ h.perm
  have h1:(F'++U'.map (·.1)).Perm (x.1::F++U'.map (·.1)):=List.Perm.append_right _ hF
  have h2:(F++(x::U').map (·.1)).Perm (F++U.map (·.1)):=List.Perm.append_left _ (hU.map _)
  refine List.Perm.trans h1 (List.Perm.trans ?_ h2)
  simp only [List.map_cons,List.cons_append]
  exact List.perm_middle.symm
 ·rw [h.taken f hf s]
  constructor
  ·rintro⟨y,hy,h1,h2⟩
   rcases List.mem_cons.1 (hU.mem_iff.2 hy) with rfl | h3
   ·omega
   ·exact⟨y,h3,h1,h2⟩
  ·rintro⟨y,hy,h1,h2⟩
   exact⟨y,hU.mem_iff.1 (List.mem_cons_of_mem _ hy),h1,h2⟩
theorem PI.least {ps:List (Nat×Nat)}{n:Nat}{F:List Int}{U:List (Int×Int)}{cur s:Int}(h:PI e ps n F U cur) (hU:∀x∈U,cur≤x.2) (hs:s∈F) (hm:∀y∈F,s≤y):s=(qT e ps cur:Int)∧qT e ps cur < n:=by
 have hmem:s∈(List.range n).map Int.ofNat:=h.perm.mem_iff.1 (List.mem_append_left _ hs)
 obtain⟨k,hk,rfl⟩:=List.mem_map.1 hmem
 have hk:=List.mem_range.1 hk
 have hof:Int.ofNat k=(k:Int):=rfl
 rw [hof] at hs hm ⊢
 have hnd:(F++U.map (·.1)).Nodup:=h.perm.nodup_iff.2 (by
  rw [List.nodup_iff_pairwise_ne,List.pairwise_map]
  refine(List.nodup_iff_pairwise_ne.1 (List.nodup_range (n:=n))).imp ?_
  intro a b hab hc; exact hab (Int.ofNat.inj hc))
 have hdis:=(List.nodup_append.1 hnd).2.2
 have e1:qT e ps cur=k:=by
  refine Rq ?_ fun s' hs'=>?_
  ·cases hb:tk e ps k cur with
   | false=>rfl
   | true =>
    obtain⟨x,hx,h1,h2⟩:=(h.taken cur (Int.le_refl _) k).1 hb
    exact absurd h1.symm (hdis _ hs _ (List.mem_map.2 ⟨x,hx,rfl⟩))
  ·rw [h.taken cur (Int.le_refl _) s']
   have hm':(s':Int)∈F++U.map (·.1):=h.perm.mem_iff.2 (List.mem_map.2 ⟨s',List.mem_range.2 (by omega),rfl⟩)
   rcases List.mem_append.1 hm' with h1 | h1
   ·have:=hm _ h1; omega
   ·obtain⟨x,hx,h2⟩:=List.mem_map.1 h1
    exact⟨x,hx,h2,hU x hx⟩
 exact⟨by rw [e1],by omega⟩
theorem PI.more {ps:List (Nat×Nat)}{n:Nat}{U:List (Int×Int)}{cur:Int}(h:PI e ps n [] U cur) (hU:∀x∈U,cur≤x.2):qT e ps cur=n:=by
 refine Rq ?_ fun s' hs'=>?_
 ·cases hb:tk e ps n cur with
  | false=>rfl
  | true =>
   obtain⟨x,hx,h1,h2⟩:=(h.taken cur (Int.le_refl _) n).1 hb
   have:=h.perm.mem_iff.1 (List.mem_append_right _ (List.mem_map.2 ⟨x,hx,rfl⟩))
   rw [h1] at this
   obtain⟨k,hk,e1⟩:=List.mem_map.1 this
   have:=List.mem_range.1 hk
   have hof:Int.ofNat k=(k:Int):=rfl
   omega
 ·rw [h.taken cur (Int.le_refl _) s']
  have hm':(s':Int)∈([]:List Int)++U.map (·.1):=h.perm.mem_iff.2 (List.mem_map.2 ⟨s',List.mem_range.2 (by omega),rfl⟩)
  rcases List.mem_append.1 hm' with h1 | h1
  ·cases h1
  ·obtain⟨x,hx,h2⟩:=List.mem_map.1 h1
   exact⟨x,hx,h2,hU x hx⟩
theorem PI.aBs {ps:List (Nat×Nat)}{n n':Nat}{F F':List Int}{U U':List (Int×Int)}{cur:Int}{t:Nat}(h:PI e ps n F U cur)
  (hp:(F'++U'.map (·.1)).Perm ((List.range n').map Int.ofNat)) (hU:U'.Perm ((((qT e ps cur:Nat):Int),e t)::U)) (hn:n'=max n (qT e ps cur+1)) (ht:cur≤e t):PI e (ps++[(t,qT e ps cur)]) n' F' U' cur:=by
 refine⟨hp,fun f hf s=>?_,by rw [Ar,←h.num]; exact hn⟩
 rw [XX,Bool.or_eq_true,h.taken f hf s]
 constructor
 ·rintro(⟨x,hx,h1,h2⟩ | h1)
  ·exact⟨x,hU.mem_iff.2 (List.mem_cons_of_mem _ hx),h1,h2⟩
  ·simp [tk] at h1
   exact⟨_,hU.mem_iff.2 (List.mem_cons_self ..),by simp [h1.1],h1.2⟩
 ·rintro⟨x,hx,h1,h2⟩
  rcases List.mem_cons.1 (hU.mem_iff.1 hx) with rfl | h3
  ·refine .inr ?_
   simp [tk]
   exact⟨Int.ofNat.inj h1,h2⟩
  ·exact .inl ⟨x,h3,h1,h2⟩
end Hk.PS


namespace Hk.PS
variable {f e:Nat→Int}
theorem Ao (ord:List Nat) (t:Nat):gS f e (ord++[t])=gS f e ord++[(t,qT e (gS f e ord) (f t))]:=by simp [gS]
theorem AH (ord:List Nat):(gS f e ord).map (·.1)=ord:=by
 induction ord using uW with
 | h0=>rfl
 | h1 l t ih=>rw [Ao,List.map_append,ih]; rfl
theorem QI (ord:List Nat):(gS f e ord).Pairwise fun p q=>f q.1≤e p.1→p.2≠q.2:=by
 induction ord using uW with
 | h0=>exact List.Pairwise.nil
 | h1 l t ih =>
  rw [Ao,List.pairwise_append]
  refine⟨ih,List.pairwise_singleton _ _,fun p hp q hq hle=>?_⟩
  simp only [List.mem_singleton] at hq
  subst hq
  intro heq
  have:=FK (e:=e) (gS f e l) (f t)
  rw [show tk e (gS f e l) (qT e (gS f e l) (f t)) (f t)=true from PH.2 ⟨p,hp,heq,hle⟩] at this
  cases this
theorem GP (ps:List (Nat×Nat)) (c:Int):qT e ps c≤ps.length:=by
 obtain⟨s,h1,h2⟩:=Vt e ps c
 by_cases h:qT e ps c≤s
 ·omega
 ·have:=Be (e:=e) (ps:=ps) (f:=c) (s:=s) (by omega)
  rw [h2] at this; cases this
theorem ayD (ord:List Nat):nS (gS f e ord)≤ord.length:=by
 induction ord using uW with
 | h0=>exact Nat.le_refl _
 | h1 l t ih =>
  rw [Ao,Ar,List.length_append]
  have h1:=GP (e:=e) (gS f e l) (f t)
  have h2:(gS f e l).length=l.length:=by rw [←List.length_map (f:=(·.1)),AH]
  simp; omega
end Hk.PS


namespace Go.Proofs.YtkeoalhglkfbkaaDoor
open Go Hk
def tG (sp:List Span) (k:Nat):List Int:=((List.range k).filter fun t=>decide (0≤((sp[t]?).map (·.first)).getD (-1))).map Int.ofNat
def uU (n k:Nat):List Int:=List.replicate k (-1)++List.replicate (n - k) 0
theorem Xm {sp:List Span}{k:Nat}{s:Span}(h:sp[k]?=some s):tG sp (k+1)=if 0≤s.first then tG sp k++[(k:Int)] else tG sp k:=by
 unfold tG
 rw [List.range_succ,List.filter_append,List.map_append]
 by_cases hf:0≤s.first <;> simp [h,hf]
theorem Ph {sp:List Span}{k:Nat}:(tG sp k).length≤k:=by
 unfold tG
 rw [List.length_map]
 have:=List.length_filter_le (fun t=>decide (0≤((sp[t]?).map (·.first)).getD (-1))) (List.range k)
 simpa using this
theorem TX {n k:Nat}(h:k < n):(uU n k).set k (-1)=uU n (k+1):=by
 unfold uU
 have e:n - k=(n - (k+1))+1:=by omega
 rw [List.set_append_right _ _ (by simp),List.length_replicate,Nat.sub_self,e,List.replicate_succ,List.set_cons_zero,List.replicate_succ',List.append_assoc]
 rfl
@[simp high] theorem aAy {b0 b1 b2 b3:mI}{R:Hk.kU}{O:List Int}{k:Nat}{v:Int}(hk:k < O.length):lT 1 (b0::b1::b2::b3::.cells (O.map nO)::R) (.ptr 4 k) (.int .i64 v)=some (b0::b1::b2::b3::.cells ((O.set k v).map nO)::R):=by
 have hc:∃x,O[k]?=some x:=⟨_,List.getElem?_eq_getElem hk⟩
 have hd:∃y r,(O.map nO).drop k=y::r∧qI (b0::b1::b2::b3::.cells (O.map nO)::R) y (.int .i64 v)=.int .i64 v:=by
  rw [List.drop_eq_getElem_cons (by simpa using hk)]
  exact⟨_,_,rfl,rfl⟩
 obtain⟨y,r,hd,hk2⟩:=hd
 have e:pV (b0::b1::b2::b3::.cells (O.map nO)::R) ((O.map nO).drop k) [.int .i64 v]=[.int .i64 v]:=by
  rw [hd]; simp only [pV,hk2]
 have g:nC (b0::b1::b2::b3::.cells (O.map nO)::R) 4=some (O.map nO):=rfl
 unfold lT
 simp only [g,kS.cells,e]
 rw [if_pos (by simp [kS.mV]; omega)]
 congr 1
 have:putCells (O.map nO) k [.int .i64 v]=(O.set k v).map nO:=by
  unfold putCells
  rw [List.map_set,List.set_eq_take_append_cons_drop,if_pos (by simpa using hk)]
  simp [nO]
 rw [this]; rfl
@[simp high] theorem aAw {b0 b1 b2 b3:mI}{R:Hk.kU}{O:List Int}{k:Nat}(hk:k < O.length):kW false 1 (b0::b1::b2::b3::.cells (O.map nO)::R) (.ptr 4 k)=some (.int .i64 (rd O k)):=by
 have g:nC (b0::b1::b2::b3::.cells (O.map nO)::R) 4=some (O.map nO):=rfl
 unfold kW
 simp only [g,apart,cond_false,List.getElem?_map,CJ hk]
 rfl
theorem Sg {id sz n:Nat}(h:n≠0):Vs id sz n=.vslice id n 0 n sz:=if_neg h
theorem N3 {α:Type}{enc:α→List kS}{sz:Nat}{xs:List α}(h:xs.length≠0):Vb enc sz xs=Vc enc sz xs:=if_neg h
theorem KI {H:Hk.kU}{id:Nat}{o:List Int}{k:Int}{T:Hk.Tok}(hb:H[id]?=some (Vb (ci .i64) 1 o)) (ho:o.length≤1000000) :
  nJ 1 8 H (Vs id 1 o.length) (.slice [[.int .i64 k]] T)=some (Vs id 1 (o++[k]).length,H.set id (Vb (ci .i64) 1 (o++[k]))):=by
 have h:=J0 (enc:=ci .i64) (sz:=1) (by_:=8) (id:=id) (h:=H) (xs:=o) (ys:=[k]) (T:=T) (fun _=>rfl) (by simp) hb
 have e:yF 8 o [k]=some (o++[k]):=by unfold yF; rw [if_pos (by simp; omega)]
 rw [e,yS] at h
 have n0:(o++[k]).length≠0:=by simp
 rw [Sg n0,N3 n0]
 exact h
@[simp] theorem avB {m:Nat}{h:Hk.kU}{o:List Int}:oQ m h (Vb (ci .i64) 1 o)=some (Vb (ci .i64) 1 o):=by
 unfold Vb; split
 ·rfl
 ·exact Cd (fun x=>by simp)
@[simp] theorem aAh {m n:Nat}{h:Hk.kU}(hm:5 < m):kS.oL m h (Vs 5 1 n)=Vs 5 1 n:=by
 unfold Vs; split
 ·simp [kS.oL,kS.oH,hm]
 ·simp [kS.oL,kS.oH,hm]
@[simp] theorem aeI {m:Nat}{h:Hk.kU}{O:List Int}:m_ m h (O.map nO)=some (O.map nO):=by
 induction O with
 | nil=>rfl
 | cons x r ih=>simp only [List.map_cons,qM,ih]; rfl
@[simp] theorem aCc {m id off len sz:Nat}{h:Hk.kU}(hm:id < m):kS.oL m h (.mslice id off len sz)=.mslice id off len sz:=by simp [kS.oL,kS.oH,hm]
section
variable {p:List kS}{sp:List Span}{n k:Nat}
def MK (p:List kS) (sp:List Span) (O o:List Int):Hk.kU:=[.cells p,.front 0 0,.cells [.slice (Rw Span.cells sp) .no],.front 0 0,.cells (O.map nO),Vb (ci .i64) 1 o]
theorem af3 (hp:∀m h,m_ m h p=some p) (hn:sp.length=n) (hn2:n≤1000000) (hk:k < n) :
  Dy KK 6 ([.slice [] (.own 1),.int .i64 0,.int .i64 0,.ptr 2 0,.mslice 4 0 n 1,Vs 5 1 (tG sp k).length,.slice (Rw Span.cells sp) .no,.int .i64 (n:Int),.int .i64 (k:Int)],MK p sp (uU n k) (tG sp k)) =
   some (.normal,[.slice [] (.own 1),.int .i64 0,.int .i64 0,.ptr 2 0,.mslice 4 0 n 1,Vs 5 1 (tG sp (k+1)).length,.slice (Rw Span.cells sp) .no,.int .i64 (n:Int),.int .i64 ((k+1:Nat):Int)],MK p sp (uU n (k+1)) (tG sp (k+1))):=by
 have hsk:sp[k]?=some sp[k]:=List.getElem?_eq_getElem (by omega)
 have e1:pF sp (k:Int)=some sp[k]:=by simp [pF,hsk]
 have w1:IntKind.i64.wrap ((k:Int)+1)=((k+1:Nat):Int):=by rw [wrap64 (by omega) (by omega)]; omega
 have hol:k < (uU n k).length:=by unfold uU; simp; omega
 have hset:=TX hk
 have hord:=Xm hsk
 have hle:=Ph (sp:=sp) (k:=k)
 have htap:yF 8 (tG sp k) [(k:Int)]=some (tG sp k++[(k:Int)]):=by
  unfold yF; rw [if_pos (by simp; omega)]
 have hix:kX 1 (.mslice 4 0 n 1) (.int .i64 (k:Int))=some (.ptr 4 k):=by simp [kX,hk]
 generalize uU n k=O at *
 generalize tG sp k=o at *
 rw [hord]
 rw [←hset]
 have bx:∀(b0 b1 b2 b3 b4 b5:mI) x y,lT 2 [b0,b1,b2,b3,b4,b5,.cells [.int .i64 0,.int .i64 0]] (.ptr 6 0) (.agg [.int .i64 x,.int .i64 y])=some [b0,b1,b2,b3,b4,b5,.cells [.int .i64 x,.int .i64 y]]:=fun _ _ _ _ _ _ _ _=>rfl
 by_cases hf:0≤sp[k].first
 ·have ha:=fun H T h=>KI (H:=H) (id:=5) (o:=o) (k:=(k:Int)) (T:=T) h (by omega)
  simp [Dy,MK,e1,w1,hk,hol,hf,hp,hix,lU,pD,nB,kS.uV,rowsOf,ha,bx,-lY,-List.map_set]
 ·simp [Dy,MK,e1,w1,hk,hol,hf,hp,hix,bx,-lY,-List.map_set]
end
end Go.Proofs.YtkeoalhglkfbkaaDoor


namespace Go.Proofs.YtkeoalhglkfbkaaDoor
open Go Hk
def UH (id:Nat) (S:List rD) (n:Nat):kS:=if S=[] then .slice [] (.own id) else .vslice id S.length 0 n 2
def FH (id:Nat) (S:List Int) (n:Nat):kS:=if S=[] then .slice [] (.own id) else .vslice id S.length 0 n 1
section
variable {id m:Nat}{S:List Int}{U:List rD}{n:Nat}{h:Hk.kU}
theorem YD:UC id U n=.cells [UH id U n,.func 90 [] []]:=by unfold UC UH; split <;> rfl
theorem aj3:FC id S n=.cells [FH id S n,.func 89 [] []]:=by unfold FC FH; split <;> rfl
theorem YF (hn:n≤U.length):lS (UH id U n)=some (.int .i64 (n:Int)):=by
 unfold UH; split
 ·rename_i h; subst h
  have:n=0:=by simpa using hn
  subst this; rfl
 ·rfl
theorem amG (hn:n≤S.length):lS (FH id S n)=some (.int .i64 (n:Int)):=by
 unfold FH; split
 ·rename_i h; subst h
  have:n=0:=by simpa using hn
  subst this; rfl
 ·rfl
theorem YE (h0:0 < n) (hn:n≤U.length):kX 2 (UH id U n) (.int .i64 0)=some (.vptr id U.length 0):=by
 have hne:U≠[]:=by intro e; subst e; simp at hn; omega
 rw [UH,if_neg hne]
 simp only [kX]
 rw [if_pos ⟨by omega,by omega,trivial⟩]; rfl
theorem Xz (hm:id < m):oQ m h (FC id S n)=some (FC id S n):=by
 rw [aj3]; unfold FH; split <;> simp [hm,kS.mV]
theorem XA (hm:id < m):oQ m h (UC id U n)=some (UC id U n):=by
 rw [YD]; unfold UH; split <;> simp [hm,kS.mV]
@[simp] theorem au9:oQ m h (FV S)=some (FV S):=by
 unfold FV; split
 ·rfl
 ·exact Cd (fun x=>by simp)
@[simp] theorem avA:oQ m h (UV U)=some (UV U):=by
 unfold UV; split
 ·rfl
 ·exact Cd (fun x=>by simp)
end
def HS (p:List kS) (sp:List Span) (O o:List Int) (SF:List Int) (nF:Nat) (SU:List rD) (nU:Nat):Hk.kU :=
 [.cells p,.front 0 0,.cells [.slice (Rw Span.cells sp) .no],.front 0 0,.cells (O.map nO),Vb (ci .i64) 1 o,FC 7 SF nF,FV SF,UC 9 SU nU,UV SU]
theorem F7 {p:List kS}(hp:∀m h,m_ m h p=some p) {sp:List Span}{O o SF:List Int}{nF nU:Nat}{SU:List rD}:nW 10 (HS p sp O o SF nF SU nU) ((HS p sp O o SF nF SU nU).take 10)=some (HS p sp O o SF nF SU nU):=by
 have e:(HS p sp O o SF nF SU nU).take 10=HS p sp O o SF nF SU nU:=rfl
 rw [e]
 generalize hH:HS p sp O o SF nF SU nU=H
 conv=>lhs; rw [←hH]
 rw [←hH]
 simp [HS,hp,Xz,XA,-List.map_set]
section
variable {p:List kS}(hp:∀m h,m_ m h p=some p) {sp:List Span}{O o SF:List Int}{nF nU N t k ns:Nat}{SU:List rD}{s:Span}
include hp
theorem U9 (hs:sp[t]?=some s) (hU:nU≤SU.length) (h:nU=0∨0 < nU∧¬(rt SU 0).last < s.first) :
  Fy KK 10 ([.slice [] (.own 1),.int .i64 0,.int .i64 0,.ptr 2 0,.mslice 4 0 N 1,.ptr 6 0,.ptr 8 0,.int .i64 (ns:Int),.int .i64 (t:Int),Vs 5 1 o.length,.int .i64 (o.length:Int),.int .i64 (k:Int)],HS p sp O o SF nF SU nU) =
   some (.exit 4,[.slice [] (.own 1),.int .i64 0,.int .i64 0,.ptr 2 0,.mslice 4 0 N 1,.ptr 6 0,.ptr 8 0,.int .i64 (ns:Int),.int .i64 (t:Int),Vs 5 1 o.length,.int .i64 (o.length:Int),.int .i64 (k:Int)],HS p sp O o SF nF SU nU):=by
 have hl:=YF (id:=9) hU
 have ht:=F7 hp (sp:=sp) (O:=O) (o:=o) (SF:=SF) (nF:=nF) (SU:=SU) (nU:=nU)
 have l8:kW false 1 (HS p sp O o SF nF SU nU) (.ptr 8 0)=some (UH 9 SU nU):=by simp [HS,YD]
 have l2:kW false 1 (HS p sp O o SF nF SU nU) (.ptr 2 0)=some (.slice (Rw Span.cells sp) .no):=by simp [HS]
 have hlen:(HS p sp O o SF nF SU nU).length=10:=rfl
 have e1:pF sp (t:Int)=some s:=by simp [pF,hs]
 rcases h with h0 | ⟨h0,hlt⟩
 ·generalize HS p sp O o SF nF SU nU=H at *
  subst h0
  simp [Fy,l8,hl,ht]
 ·have hne:SU≠[]:=by intro e; subst e; simp at hU; omega
  have hi:=YE (id:=9) h0 hU
  have ld:kW false 1 (HS p sp O o SF nF SU nU) (.vptr 9 SU.length 1)=some (.int .i64 (rt SU 0).last):=by
   have e9:(HS p sp O o SF nF SU nU)[9]?=some (Vc rD.cells 2 SU):=by unfold HS UV; rw [if_neg hne]; rfl
   have:=Dp (enc:=rD.cells) (sz:=2) (h:=HS p sp O o SF nF SU nU) (id:=9) (xs:=SU) (tot:=SU.length) (j:=0) (off:=1) (fun _=>rfl) e9 (by omega)
   rw [Nat.zero_mul,Nat.zero_add,sN,if_pos rfl,DL (List.length_pos_iff.2 hne)] at this
   exact this
  generalize HS p sp O o SF nF SU nU=H at *
  have hz:(0:Int) < (nU:Int):=by omega
  simp [Fy,l8,l2,hl,ht,h0,hi,ld,e1,hlt,-lH,-oC]
theorem af5 (hs:sp[t]?=some s) (hU:nU+1≤SU.length) (hUl:SU.length≤1000000) (hUh:PQ.kU rD.last (SU.take (nU+1))) (hF:nF≤SF.length) (hFl:SF.length≤1000000) (hFh:PQ.kU (fun x=>x) (SF.take nF)) (h:(rt SU 0).last < s.first) :
  ∃SF' SU',Fy KK 10 ([.slice [] (.own 1),.int .i64 0,.int .i64 0,.ptr 2 0,.mslice 4 0 N 1,.ptr 6 0,.ptr 8 0,.int .i64 (ns:Int),.int .i64 (t:Int),Vs 5 1 o.length,.int .i64 (o.length:Int),.int .i64 (k:Int)],HS p sp O o SF nF SU (nU+1)) =
   some (.normal,[.slice [] (.own 1),.int .i64 0,.int .i64 0,.ptr 2 0,.mslice 4 0 N 1,.ptr 6 0,.ptr 8 0,.int .i64 (ns:Int),.int .i64 (t:Int),Vs 5 1 o.length,.int .i64 (o.length:Int),.int .i64 (k:Int)],HS p sp O o SF' (nF+1) SU' nU) ∧
   SU'.length=SU.length∧PQ.kU rD.last (SU'.take nU)∧(rt SU 0::SU'.take nU).Perm (SU.take (nU+1)) ∧
   nF+1≤SF'.length∧SF'.length≤max SF.length (nF+1)∧PQ.kU (fun x=>x) (SF'.take (nF+1))∧(SF'.take (nF+1)).Perm ((rt SU 0).slot::SF.take nF):=by
 obtain⟨SU',k1,k2,k3,k4⟩:=c92 (b0:=.cells p) (b1:=.front 0 0) (b2:=.cells [.slice (Rw Span.cells sp) .no]) (b3:=.front 0 0) (b4:=.cells (O.map nO)) (b5:=Vb (ci .i64) 1 o) (b8:=FC 7 SF nF) (b9:=FV SF) hU hUl hUh
 obtain⟨SF',j1,j2,j3,j4,j5⟩:=c91 (b0:=.cells p) (b1:=.front 0 0) (b2:=.cells [.slice (Rw Span.cells sp) .no]) (b3:=.front 0 0) (b4:=.cells (O.map nO)) (b5:=Vb (ci .i64) 1 o) (b8:=UC 9 SU' nU) (b9:=UV SU') (rt SU 0).slot hF hFl hFh
 refine⟨SF',SU',?_,k2,k3,k4,j2,j3,j4,j5⟩
 have hl:=YF (id:=9) hU
 have ht:=F7 hp (sp:=sp) (O:=O) (o:=o) (SF:=SF') (nF:=nF+1) (SU:=SU') (nU:=nU)
 have l8:kW false 1 (HS p sp O o SF nF SU (nU+1)) (.ptr 8 0)=some (UH 9 SU (nU+1)):=by simp [HS,YD]
 have l2:kW false 1 (HS p sp O o SF nF SU (nU+1)) (.ptr 2 0)=some (.slice (Rw Span.cells sp) .no):=by simp [HS]
 have e1:pF sp (t:Int)=some s:=by simp [pF,hs]
 have hne:SU≠[]:=by intro e; subst e; simp at hU
 have hi:=YE (id:=9) (Nat.succ_pos nU) hU
 have ld:kW false 1 (HS p sp O o SF nF SU (nU+1)) (.vptr 9 SU.length 1)=some (.int .i64 (rt SU 0).last):=by
  have e9:(HS p sp O o SF nF SU (nU+1))[9]?=some (Vc rD.cells 2 SU):=by unfold HS UV; rw [if_neg hne]; rfl
  have:=Dp (enc:=rD.cells) (sz:=2) (h:=HS p sp O o SF nF SU (nU+1)) (id:=9) (xs:=SU) (tot:=SU.length) (j:=0) (off:=1) (fun _=>rfl) e9 (by omega)
  rw [Nat.zero_mul,Nat.zero_add,sN,if_pos rfl,DL (List.length_pos_iff.2 hne)] at this
  exact this
 have k1:KK 92 [.ptr 8 0] (HS p sp O o SF nF SU (nU+1))=some (.ret (.agg [.int .i64 (rt SU 0).slot,.int .i64 (rt SU 0).last]),HS p sp O o SF nF SU' nU):=k1
 have j1:KK 91 [.ptr 6 0,.int .i64 (rt SU 0).slot] (HS p sp O o SF nF SU' nU)=some (.ret (.tuple []),HS p sp O o SF' (nF+1) SU' nU):=j1
 generalize HS p sp O o SF nF SU (nU+1)=H at *
 generalize HS p sp O o SF nF SU' nU=H1 at *
 generalize HS p sp O o SF' (nF+1) SU' nU=H2 at *
 simp [Fy,l8,l2,hl,ht,hi,ld,e1,h,k1,j1,-lH,-oC]
end
end Go.Proofs.YtkeoalhglkfbkaaDoor


namespace Go.Proofs.YtkeoalhglkfbkaaDoor
open Go Hk
def pr (l:List rD):List (Int×Int):=l.map fun x=>(x.slot,x.last)
structure HG (N:Nat) (SF:List Int) (nF:Nat) (SU:List rD) (nU:Nat):Prop where
 f1:nF≤SF.length
 f2:SF.length≤N
 f3:PQ.kU (fun x=>x) (SF.take nF)
 u1:nU≤SU.length
 u2:SU.length≤N
 u3:PQ.kU rD.last (SU.take nU)
theorem Yy {e:Nat→Int}{ps:List (Nat×Nat)}{n:Nat}{F:List Int}{U:List (Int×Int)}{cur:Int}(h:PS.PI e ps n F U cur):F.length+U.length=n:=by
 have:=h.perm.length_eq
 simpa using this
section
variable {p:List kS}(hp:∀m h,m_ m h p=some p) {sp:List Span}{O o:List Int}{N t k ns:Nat}{s:Span}{e:Nat→Int}{ps:List (Nat×Nat)}
include hp
theorem af4 (hs:sp[t]?=some s) (hN:N≤1000000) (hns:ns≤N):∀(nU nF:Nat) (SF:List Int) (SU:List rD),HG N SF nF SU nU→PS.PI e ps ns (SF.take nF) (pr (SU.take nU)) s.first →
  ∃SF' nF' SU' nU',mQ (Fy KK 10) ([.slice [] (.own 1),.int .i64 0,.int .i64 0,.ptr 2 0,.mslice 4 0 N 1,.ptr 6 0,.ptr 8 0,.int .i64 (ns:Int),.int .i64 (t:Int),Vs 5 1 o.length,.int .i64 (o.length:Int),.int .i64 (k:Int)],HS p sp O o SF nF SU nU) =
   some (.exit 4,[.slice [] (.own 1),.int .i64 0,.int .i64 0,.ptr 2 0,.mslice 4 0 N 1,.ptr 6 0,.ptr 8 0,.int .i64 (ns:Int),.int .i64 (t:Int),Vs 5 1 o.length,.int .i64 (o.length:Int),.int .i64 (k:Int)],HS p sp O o SF' nF' SU' nU') ∧
   HG N SF' nF' SU' nU'∧PS.PI e ps ns (SF'.take nF') (pr (SU'.take nU')) s.first∧∀x∈pr (SU'.take nU'),s.first≤x.2:=by
 intro nU
 induction nU with
 | zero =>
  intro nF SF SU hg hpi
  refine⟨SF,nF,SU,0,?_,hg,hpi,by simp [pr]⟩
  rw [mW,U9 hp hs hg.u1 (.inl rfl)]; rfl
 | succ nU ih =>
  intro nF SF SU hg hpi
  by_cases hlt:(rt SU 0).last < s.first
  ·obtain⟨SF',SU',h1,h2,h3,h4,h5,h6,h7,h8⟩:=af5 hp (O:=O) (o:=o) (N:=N) (k:=k) (ns:=ns) hs hg.u1 (by have:=hg.u2; omega) hg.u3 hg.f1 (by have:=hg.f2; omega) hg.f3 hlt
   have hc:=Yy hpi
   simp only [pr,List.length_map,List.length_take] at hc
   have g1:=hg.f1
   have g2:=hg.u1
   have g3:=hg.f2
   have g4:=hg.u2
   have hpi':PS.PI e ps ns (SF'.take (nF+1)) (pr (SU'.take nU)) s.first:=hpi.free (x:=((rt SU 0).slot,(rt SU 0).last)) (h4.map fun x:rD=>(x.slot,x.last)) h8 hlt
   obtain⟨SF2,nF2,SU2,nU2,r1,r2⟩:=ih (nF+1) SF' SU' ⟨h5,by omega,h7,by omega,by omega,h3⟩ hpi'
   refine⟨SF2,nF2,SU2,nU2,?_,r2⟩
   rw [mW,h1]
   simp only [Option.bind_some,qN]
   exact r1
  ·refine⟨SF,nF,SU,nU+1,?_,hg,hpi,fun x hx=>?_⟩
   ·rw [mW,U9 hp hs hg.u1 (.inr ⟨by omega,hlt⟩)]; rfl
   ·obtain⟨y,hy,rfl⟩:=List.mem_map.1 hx
    obtain⟨j,hj⟩:=List.getElem?_of_mem hy
    have hjl:j < (SU.take (nU+1)).length:=(List.getElem?_eq_some_iff.1 hj).1
    have hmin:=PQ.QK hg.u3 j hjl
    have hn:=hg.u1
    rw [Nc hn (by omega),PQ.U8 hj] at hmin
    simp only
    omega
end
end Go.Proofs.YtkeoalhglkfbkaaDoor


namespace Go.Proofs.YtkeoalhglkfbkaaDoor
open Go Hk
theorem amF {id:Nat}{S:List Int}{n:Nat}{C:Hk.kU}{c0 c1 c2 c3 c4 c5:mI}:kW false 1 (c0::c1::c2::c3::c4::c5::FC id S n::C) (.ptr 6 0)=some (FH id S n):=by simp [aj3]
theorem asU {S:List Int}{n:Nat}(hn:n≤S.length) (hh:PQ.kU (fun x=>x) (S.take n)):∀y∈S.take n,rd S 0≤y:=by
 intro y hy
 obtain⟨j,hj⟩:=List.getElem?_of_mem hy
 have hjl:j < (S.take n).length:=(List.getElem?_eq_some_iff.1 hj).1
 have hmin:=PQ.QK hh j hjl
 have hjn:j < n:=by rw [List.length_take] at hjl; omega
 rw [Nb hn (by omega),PQ.U8 hj] at hmin
 exact hmin
theorem acA {S:List Int}{n:Nat}(hn:n≤S.length) (h0:0 < n):rd S 0∈S.take n:=by
 have:(S.take n)[0]?=some (rd S 0):=by rw [List.getElem?_take_of_lt h0,CJ (by omega)]
 exact List.mem_of_getElem? this
structure L2 (N:Nat) (e:Nat→Int) (ps:List (Nat×Nat)) (ns:Nat) (SF:List Int) (nF:Nat) (SU:List rD) (nU:Nat) (cur:Int):Prop where
 hg:HG N SF nF SU nU
 pi:PS.PI e ps ns (SF.take nF) (pr (SU.take nU)) cur
 b:ns≤N
section
variable {p:List kS}(hp:∀m h,m_ m h p=some p) {sp:List Span}{O o:List Int}{N t k ns nF nU:Nat}{SF:List Int}{SU:List rD}{s:Span}{e:Nat→Int}{ps:List (Nat×Nat)}{cur:Int}
include hp
theorem af7 (hk : o[k]? = some (t : Int)) (hol : o.length ≤ 1000000) (hs : sp[t]? = some s) (hN : N ≤ 1000000) (ht : t < N) (hO : O.length = N) (hc : cur ≤ s.first) (hfl : s.first ≤ s.last) (he : e t = s.last) (hps : ps.length < N) (L : L2 N e ps ns SF nF SU nU cur) :
    ∃ (SF' : List Int) (nF' : Nat) (SU' : List rD) (nU' ns' : Nat), Dz KK 10 ([.slice [] (.own 1), .int .i64 0, .int .i64 0, .ptr 2 0, .mslice 4 0 N 1, .ptr 6 0, .ptr 8 0, .int .i64 (ns : Int), Vs 5 1 o.length, .int .i64 (o.length : Int), .int .i64 (k : Int)], HS p sp O o SF nF SU nU) =
      some (.normal, [.slice [] (.own 1), .int .i64 0, .int .i64 0, .ptr 2 0, .mslice 4 0 N 1, .ptr 6 0, .ptr 8 0, .int .i64 (ns' : Int), Vs 5 1 o.length, .int .i64 (o.length : Int), .int .i64 ((k + 1 : Nat) : Int)], HS p sp (O.set t ((PS.qT e ps s.first : Nat) : Int)) o SF' nF' SU' nU') ∧
      L2 N e (ps ++ [(t, PS.qT e ps s.first)]) ns' SF' nF' SU' nU' s.first := by
  have hkl : k < o.length := (List.getElem?_eq_some_iff.1 hk).1
  have hnsN := L.b
  obtain ⟨SF1, nF1, SU1, nU1, e1, g1, p1, q1⟩ := af4 hp (O := O) (o := o) (k := k) hs hN hnsN nU nF SF SU L.hg (L.pi.later hc)
  have hsl := PS.GP (e := e) ps s.first
  obtain ⟨SF2, nF2, ns2, f1, f2, f3, f4, f5, f6, fcode⟩ : ∃ (SF2 : List Int) (nF2 ns2 : Nat), nF2 + 1 ≤ SF2.length ∧ SF2.length ≤ N ∧ PQ.kU (fun x => x) (SF2.take (nF2 + 1)) ∧
      (SF2.take (nF2 + 1) ++ (pr (SU1.take nU1)).map (·.1)).Perm ((List.range ns2).map Int.ofNat) ∧ rd SF2 0 = ((PS.qT e ps s.first : Nat) : Int) ∧ ns2 = max ns (PS.qT e ps s.first + 1) ∧
      ((nF1 = 0 ∧ KK 91 [.ptr 6 0, .int .i64 (ns : Int)] (HS p sp O o SF1 nF1 SU1 nU1) = some (.ret (.tuple []), HS p sp O o SF2 (nF2 + 1) SU1 nU1) ∧ ns2 = ns + 1) ∨
       (0 < nF1 ∧ SF2 = SF1 ∧ nF2 + 1 = nF1 ∧ ns2 = ns)) := by
    have g11 := g1.f1
    have g12 := g1.f2
    rcases Nat.eq_zero_or_pos nF1 with h0 | h0
    · subst h0
      have hmore := PS.PI.more (by simpa using p1) q1
      obtain ⟨S', j1, j2, j3, j4, j5⟩ := c91 (b0 := .cells p) (b1 := .front 0 0) (b2 := .cells [.slice (Rw Span.cells sp) .no]) (b3 := .front 0 0) (b4 := .cells (O.map nO)) (b5 := Vb (ci .i64) 1 o) (b8 := UC 9 SU1 nU1) (b9 := UV SU1) (S := SF1) (n := 0) (ns : Int) (Nat.zero_le _) (by omega) g1.f3
      have hone : S'.take (0 + 1) = [(ns : Int)] := by
        simp only [List.take_zero] at j5
        exact List.perm_singleton.1 j5
      refine ⟨S', 0, ns + 1, j2, by omega, j4, ?_, ?_, by omega, .inl ⟨rfl, j1, rfl⟩⟩
      · have hp1 := p1.perm
        simp only [List.take_zero, List.nil_append] at hp1
        rw [hone, List.range_succ, List.map_append]
        exact (List.perm_append_comm (l₁ := [(ns : Int)])).trans (List.Perm.append_right _ hp1)
      · have := acA (S := S') (n := 0 + 1) j2 (by omega)
        rw [hone] at this
        simp at this
        rw [this, hmore]
    · obtain ⟨m, rfl⟩ : ∃ m, nF1 = m + 1 := ⟨nF1 - 1, by omega⟩
      obtain ⟨h1, h2⟩ := p1.least (s := rd SF1 0) q1 (acA g11 h0) (asU g11 g1.f3)
      exact ⟨SF1, m, ns, g11, g12, g1.f3, p1.perm, h1, by omega, .inr ⟨h0, rfl, rfl, rfl⟩⟩
  generalize hslot : PS.qT e ps s.first = slot at *
  obtain ⟨SF3, t1, t2, t3, t4⟩ := c93 (b0 := .cells p) (b1 := .front 0 0) (b2 := .cells [.slice (Rw Span.cells sp) .no]) (b3 := .front 0 0) (b4 := .cells (O.map nO)) (b5 := Vb (ci .i64) 1 o) (b8 := UC 9 SU1 nU1) (b9 := UV SU1) f1 (by omega) f3
  have g13 := g1.u1
  have g14 := g1.u2
  obtain ⟨SU4, v1, v2, v3, v4, v5⟩ := c94 (b0 := .cells p) (b1 := .front 0 0) (b2 := .cells [.slice (Rw Span.cells sp) .no]) (b3 := .front 0 0) (b4 := .cells ((O.set t (slot : Int)).map nO)) (b5 := Vb (ci .i64) 1 o) (b8 := FC 7 SF3 nF2) (b9 := FV SF3) ⟨(slot : Int), s.last⟩ g13 (by omega) g1.u3
  have hcount : nU1 + 1 ≤ N := by
    have := f4.length_eq
    simp only [pr, List.length_append, List.length_map, List.length_take, List.length_range] at this
    omega
  refine ⟨SF3, nF2, SU4, nU1 + 1, ns2, ?_, ⟨⟨by omega, by omega, t3, v2, by omega, v4⟩, ?_, by omega⟩⟩
  · have t1 : KK 93 [.ptr 6 0] (HS p sp O o SF2 (nF2 + 1) SU1 nU1) = some (.ret (.int .i64 (slot : Int)), HS p sp O o SF3 nF2 SU1 nU1) := by rw [← f5]; exact t1
    have v1 : KK 94 [.ptr 8 0, .agg [.int .i64 (slot : Int), .int .i64 s.last]] (HS p sp (O.set t (slot : Int)) o SF3 nF2 SU1 nU1) = some (.ret (.tuple []), HS p sp (O.set t (slot : Int)) o SF3 nF2 SU4 (nU1 + 1)) := v1
    have ht := F7 hp (sp := sp) (O := O.set t (slot : Int)) (o := o) (SF := SF3) (nF := nF2) (SU := SU4) (nU := nU1 + 1)
    have hlen : (HS p sp O o SF nF SU nU).length = 10 := rfl
    have hfl1 := amG (id := 7) (n := nF1) (S := SF1) g1.f1
    have l6 : kW false 1 (HS p sp O o SF1 nF1 SU1 nU1) (.ptr 6 0) = some (FH 7 SF1 nF1) := amF
    have lo : kW false 1 (HS p sp O o SF nF SU nU) (.vptr 5 o.length k) = some (.int .i64 (t : Int)) := by
      have ho : o.length ≠ 0 := by omega
      have e5 : (HS p sp O o SF nF SU nU)[5]? = some (Vc (ci .i64) 1 o) := by show some (Vb (ci .i64) 1 o) = _; rw [N3 ho]
      have := Dp (enc := ci .i64) (sz := 1) (h := HS p sp O o SF nF SU nU) (id := 5) (xs := o) (tot := o.length) (j := k) (off := 0) (fun _ => rfl) e5 (by omega)
      rw [Nat.mul_one, Nat.add_zero, sN, if_pos rfl, hk] at this
      exact this
    have hio : kX 1 (Vs 5 1 o.length) (.int .i64 (k : Int)) = some (.vptr 5 o.length k) := by
      rw [Sg (by omega)]
      simp [kX, hkl]
    have Da : kX 1 (.mslice 4 0 N 1) (.int .i64 (t : Int)) = some (.ptr 4 t) := by simp [kX, ht]; omega
    have st : lT 1 (HS p sp O o SF3 nF2 SU1 nU1) (.ptr 4 t) (.int .i64 (slot : Int)) = some (HS p sp (O.set t (slot : Int)) o SF3 nF2 SU1 nU1) := aAy (by omega)
    have ldt : kW false 1 (HS p sp (O.set t (slot : Int)) o SF3 nF2 SU1 nU1) (.ptr 4 t) = some (.int .i64 (slot : Int)) := by
      have h4 := aAw (b0 := .cells p) (b1 := .front 0 0) (b2 := .cells [.slice (Rw Span.cells sp) .no]) (b3 := .front 0 0) (R := [Vb (ci .i64) 1 o, FC 7 SF3 nF2, FV SF3, UC 9 SU1 nU1, UV SU1]) (O := O.set t (slot : Int)) (k := t) (by simp; omega)
      have h5 : rd (O.set t (slot : Int)) t = (slot : Int) := by
        have := CJ (S := O.set t (slot : Int)) (j := t) (by simp; omega)
        rw [List.getElem?_set_self (by omega)] at this
        exact (Option.some.inj this).symm
      rw [h5] at h4; exact h4
    have l2 : kW false 1 (HS p sp (O.set t (slot : Int)) o SF3 nF2 SU1 nU1) (.ptr 2 0) = some (.slice (Rw Span.cells sp) .no) := by simp [HS]
    have es : pF sp (t : Int) = some s := by simp [pF, hs]
    have w1 : IntKind.i64.wrap ((k : Int) + 1) = ((k + 1 : Nat) : Int) := by rw [wrap64 (by omega) (by omega)]; omega
    have w2 : IntKind.i64.wrap ((ns : Int) + 1) = ((ns + 1 : Nat) : Int) := by rw [wrap64 (by omega) (by omega)]; omega
    generalize HS p sp O o SF nF SU nU = H0 at *
    generalize HS p sp (O.set t (slot : Int)) o SF3 nF2 SU4 (nU1 + 1) = H5 at *
    generalize HS p sp (O.set t (slot : Int)) o SF3 nF2 SU1 nU1 = H4 at *
    generalize HS p sp O o SF3 nF2 SU1 nU1 = H3 at *
    rcases fcode with ⟨hn0, k1, hns2⟩ | ⟨hn0, hSF, hnF, hns2⟩
    · subst hns2
      subst hn0
      generalize HS p sp O o SF2 (nF2 + 1) SU1 nU1 = H2 at *
      generalize HS p sp O o SF1 0 SU1 nU1 = H1 at *
      simp [Dz, hlen, hkl, hio, lo, e1, l6, hfl1, k1, t1, Da, st, ldt, l2, es, v1, ht, w1, w2, -lH, -oC, -lY]
    · subst hns2
      subst hSF
      subst hnF
      generalize HS p sp O o SF2 (nF2 + 1) SU1 nU1 = H1 at *
      have hz : ¬ ((nF2 : Int) + 1 = 0) := by omega
      simp [hz, Dz, hlen, hkl, hio, lo, e1, l6, hfl1, t1, Da, st, ldt, l2, es, v1, ht, w1, w2, -lH, -oC, -lY]
  · have hpi := p1.aBs (t := t) (n' := ns2) (F' := SF3.take nF2) (U' := pr (SU4.take (nU1 + 1))) ?_ ?_ ?_ ?_
    · rw [hslot] at hpi; exact hpi
    · have h1 : (pr (SU4.take (nU1 + 1))).Perm (pr (⟨(slot : Int), s.last⟩ :: SU1.take nU1)) := v5.map _
      have h2 : ((SF3.take nF2) ++ (pr (SU4.take (nU1 + 1))).map (·.1)).Perm ((SF3.take nF2) ++ (slot : Int) :: (pr (SU1.take nU1)).map (·.1)) := List.Perm.append_left _ (h1.map _)
      refine h2.trans (List.perm_middle.trans ?_)
      rw [← f5]
      exact (List.Perm.append_right _ t4).trans f4
    · rw [hslot, he]; exact v5.map _
    · rw [hslot]; exact f6
    · rw [he]; exact hfl
end
end Go.Proofs.YtkeoalhglkfbkaaDoor


namespace Go.Proofs.YtkeoalhglkfbkaaDoor
open Go Hk
def fS (sp:List Span) (t:Nat):Int:=((sp[t]?).map (·.first)).getD (-1)
def eS (sp:List Span) (t:Nat):Int:=((sp[t]?).map (·.last)).getD (-1)
def Mz (sp:List Span) (x:Int):Int:=(zP (Rw Span.cells sp) x).getD 0
theorem Rk {sp:List Span}{t:Nat}(h:t < sp.length):zP (Rw Span.cells sp) (t:Int)=some (fS sp t):=by
 unfold zP fS Rw
 rw [if_pos (by omega)]
 simp [List.getElem?_eq_getElem h]
theorem U6 {sp:List Span}{t:Nat}(h:t < sp.length):Mz sp (t:Int)=fS sp t:=by unfold Mz; rw [Rk h]; rfl
def uP (sp:List Span):List Int:=Ce (sE (Mz sp)) (tG sp sp.length)
def oG (sp:List Span):List Nat:=(uP sp).map Int.toNat
theorem Rb {sp:List Span}{x:Int}:x∈tG sp sp.length↔∃t:Nat,x=(t:Int)∧t < sp.length∧0≤fS sp t:=by
 unfold tG fS
 rw [List.mem_map]
 constructor
 ·rintro⟨t,ht,rfl⟩
  rw [List.mem_filter,List.mem_range,decide_eq_true_eq] at ht
  exact⟨t,rfl,ht.1,ht.2⟩
 ·rintro⟨t,rfl,h1,h2⟩
  exact⟨t,by rw [List.mem_filter,List.mem_range,decide_eq_true_eq]; exact⟨h1,h2⟩,rfl⟩
theorem DD {sp:List Span}{x:Int}:x∈uP sp↔∃t:Nat,x=(t:Int)∧t < sp.length∧0≤fS sp t:=by
 unfold uP; rw [u_.mem_iff,Rb]
theorem abS {sp:List Span}:(uP sp).length≤sp.length:=by
 unfold uP; rw [u_.length_eq]; exact Ph
theorem Vl {sp:List Span}:uP sp=(oG sp).map Int.ofNat:=by
 unfold oG
 rw [List.map_map]
 have:∀x∈uP sp,(Int.ofNat∘Int.toNat) x=x:=by
  intro x hx
  obtain⟨t,rfl,_⟩:=DD.1 hx
  rfl
 rw [List.map_congr_left this,List.map_id']
theorem tA {sp:List Span}{t:Nat}:t∈oG sp↔t < sp.length∧0≤fS sp t:=by
 unfold oG
 rw [List.mem_map]
 constructor
 ·rintro⟨x,hx,rfl⟩
  obtain⟨t,rfl,h1,h2⟩:=DD.1 hx
  exact⟨h1,h2⟩
 ·rintro⟨h1,h2⟩
  exact⟨(t:Int),DD.2 ⟨t,rfl,h1,h2⟩,rfl⟩
theorem Lr {sp:List Span}:(oG sp).length≤sp.length:=by unfold oG; rw [List.length_map]; exact abS
theorem A9 {sp:List Span}:(oG sp).Pairwise fun a b=>fS sp a < fS sp b∨fS sp a=fS sp b∧a≤b:=by
 have h:=GQ (key:=Mz sp) (l:=tG sp sp.length)
 have h2:(uP sp).Pairwise fun a b=>sE (Mz sp) a b=true:=h
 unfold oG
 rw [List.pairwise_map]
 refine List.Pairwise.imp_of_mem ?_ h2
 intro a b ha hb hab
 obtain⟨t,rfl,ht,_⟩:=DD.1 ha
 obtain⟨u,rfl,hu,_⟩:=DD.1 hb
 simp only [sE,Bool.or_eq_true,Bool.and_eq_true,decide_eq_true_eq,U6 ht,U6 hu] at hab
 simp only [Int.toNat_natCast]
 omega
theorem CE {sp:List Span}:(oG sp).Nodup:=by
 have h:(tG sp sp.length).Nodup:=by
  unfold tG
  rw [List.nodup_iff_pairwise_ne,List.pairwise_map]
  refine(List.nodup_iff_pairwise_ne.1 (List.Pairwise.filter _ (List.nodup_range (n:=sp.length)))).imp ?_
  intro a b hab hc; exact hab (Int.ofNat.inj hc)
 have h2:(uP sp).Nodup:=(u_.nodup_iff).2 h
 rw [Vl] at h2
 rw [List.nodup_iff_pairwise_ne,List.pairwise_map] at h2
 rw [List.nodup_iff_pairwise_ne]
 exact h2.imp fun h e=>h (by rw [e])
def wQ (n:Nat) (ps:List (Nat×Nat)):List Int:=ps.foldl (fun O q=>O.set q.1 (q.2:Int)) (List.replicate n (-1))
theorem vV {n:Nat}{ps:List (Nat×Nat)}:(wQ n ps).length=n:=by
 induction ps using PS.uW with
 | h0=>simp [wQ]
 | h1 l q ih=>unfold wQ at ih ⊢; rw [List.foldl_append]; simpa using ih
theorem DE {n:Nat}{ps:List (Nat×Nat)}{q:Nat×Nat}:wQ n (ps++[q])=(wQ n ps).set q.1 (q.2:Int):=by simp [wQ]
section
variable {p:List kS}(hp:∀m h,m_ m h p=some p) {sp:List Span}{n:Nat}
include hp
theorem af2 (hn:sp.length=n) (hn2:n≤1000000):∀(d k:Nat),n=k+d →
  mQ (Dy KK 6) ([.slice [] (.own 1),.int .i64 0,.int .i64 0,.ptr 2 0,.mslice 4 0 n 1,Vs 5 1 (tG sp k).length,.slice (Rw Span.cells sp) .no,.int .i64 (n:Int),.int .i64 (k:Int)],MK p sp (uU n k) (tG sp k)) =
   some (.exit 0,[.slice [] (.own 1),.int .i64 0,.int .i64 0,.ptr 2 0,.mslice 4 0 n 1,Vs 5 1 (tG sp n).length,.slice (Rw Span.cells sp) .no,.int .i64 (n:Int),.int .i64 (n:Int)],MK p sp (uU n n) (tG sp n)):=by
 intro d
 induction d with
 | zero =>
  intro k hk
  obtain rfl:k=n:=by omega
  rw [mW]
  have:Dy KK 6 ([.slice [] (.own 1),.int .i64 0,.int .i64 0,.ptr 2 0,.mslice 4 0 k 1,Vs 5 1 (tG sp k).length,.slice (Rw Span.cells sp) .no,.int .i64 (k:Int),.int .i64 (k:Int)],MK p sp (uU k k) (tG sp k)) =
   some (.exit 0,[.slice [] (.own 1),.int .i64 0,.int .i64 0,.ptr 2 0,.mslice 4 0 k 1,Vs 5 1 (tG sp k).length,.slice (Rw Span.cells sp) .no,.int .i64 (k:Int),.int .i64 (k:Int)],MK p sp (uU k k) (tG sp k)):=by
   simp [Dy,MK,hp,-List.map_set]
  rw [this]; rfl
 | succ d ih =>
  intro k hk
  rw [mW,af3 hp hn hn2 (by omega)]
  simp only [Option.bind_some,qN]
  exact ih (k+1) (by omega)
end
end Go.Proofs.YtkeoalhglkfbkaaDoor


namespace Go.Proofs.YtkeoalhglkfbkaaDoor
open Go Hk
theorem UN (o:List Int):(Rw (ci .i64) o).flatten=o.map nO:=by
 induction o with
 | nil=>rfl
 | cons y s ih=>simp only [Rw,List.map_cons,List.flatten_cons] at ih ⊢; rw [ih]; rfl
theorem Sk (o:List Int):IE (o.map nO)=some o:=by
 induction o with
 | nil=>rfl
 | cons y s ih=>simp only [List.map_cons,nO,IE] at ih ⊢; rw [ih]; rfl
theorem c85 {p:List kS}{sp:List Span}{O:List Int}(hn:sp.length≤1000000) :
  KK 85 [kS.k8 (Vs 5 1 (tG sp sp.length).length),kS.k8 (.func 86 [] [.ptr 2 0])] (MK p sp O (tG sp sp.length))=some (.ret (.tuple []),MK p sp O (uP sp)):=by
 have e:KK 85 [kS.k8 (Vs 5 1 (tG sp sp.length).length),kS.k8 (.func 86 [] [.ptr 2 0])] (MK p sp O (tG sp sp.length))=I6 86 [kS.k8 (Vs 5 1 (tG sp sp.length).length),.func 86 [] [.ptr 2 0]] (MK p sp O (tG sp sp.length)):=by
  show Ji Tryd.prog nA 85 _ _=_
  rw [Ol]; rfl
 rw [e]
 have hmem:∀x∈tG sp sp.length,∃t:Nat,x=(t:Int)∧t < sp.length:=fun x hx=>by
  obtain⟨t,h1,h2,_⟩:=Rb.1 hx; exact⟨t,h1,h2⟩
 have hle:=Ph (sp:=sp) (k:=sp.length)
 have hord:uP sp=Ce (sE (Mz sp)) (tG sp sp.length):=rfl
 rw [hord]
 generalize tG sp sp.length=o at *
 by_cases h0:o.length=0
 ·have:o=[]:=List.eq_nil_of_length_eq_zero h0
  subst this
  rfl
 ·have hvs:kS.k8 (Vs 5 1 o.length)=.vslice 5 o.length 0 o.length 1:=by rw [Sg h0]; rfl
  have hvb:MK p sp O o=[.cells p,.front 0 0,.cells [.slice (Rw Span.cells sp) .no],.front 0 0,.cells (O.map nO),.vec o.length 1 (o.map nO)]:=by
   unfold MK; rw [N3 h0,Vc,UN]
  have hall:((Rw Span.cells sp).all fun r=>r.length == 2)=true:=by simp [Rw,Span.cells]
  have hkey:(o.all fun x=>(zP (Rw Span.cells sp) x).isSome)=true:=by
   rw [List.all_eq_true]
   intro x hx
   obtain⟨t,rfl,ht⟩:=hmem x hx
   rw [Rk ht]; rfl
  have hsl:(Ce (sE (Mz sp)) o).length=o.length:=u_.length_eq
  rw [hvs,hvb]
  have htk:IE ((o.map nO).take o.length)=some o:=by rw [List.take_of_length_le (by simp),Sk]
  have hg:mZ [.cells p,.front 0 0,.cells [.slice (Rw Span.cells sp) .no],.front 0 0,.cells (O.map nO),.vec o.length 1 (o.map nO)] 5 o.length=some (1,o.map nO):=by simp [mZ]
  have h2:([.cells p,.front 0 0,.cells [.slice (Rw Span.cells sp) .no],.front 0 0,.cells (O.map nO),.vec o.length 1 (o.map nO)]:Hk.kU)[2]?=some (.cells [.slice (Rw Span.cells sp) .no]):=rfl
  have hc0:([.slice (Rw Span.cells sp) .no]:List kS)[0]?=some (.slice (Rw Span.cells sp) .no):=rfl
  simp only [I6,hg,h2,hc0,htk]
  rw [if_pos ⟨trivial,by omega,trivial,by omega,by simp,by omega,hall,hkey⟩]
  have hvb2:MK p sp O (Ce (sE (Mz sp)) o)=[.cells p,.front 0 0,.cells [.slice (Rw Span.cells sp) .no],.front 0 0,.cells (O.map nO),.vec o.length 1 ((Ce (sE (Mz sp)) o).map nO)]:=by
   unfold MK; rw [N3 (by omega),Vc,UN,hsl]
  rw [hvb2]
  have hpc:putCells (o.map nO) 0 ((Ce (sE fun x=>(zP (Rw Span.cells sp) x).getD 0) o).map (kS.int .i64))=(Ce (sE (Mz sp)) o).map nO:=by
   unfold putCells
   rw [List.take_zero,List.nil_append,Nat.zero_add,List.drop_eq_nil_of_le (by rw [List.length_map,List.length_map]; have:(Ce (sE fun x=>(zP (Rw Span.cells sp) x).getD 0) o).length=o.length:=u_.length_eq; omega),List.append_nil]
   rfl
  rw [hpc]; rfl
section
variable {p:List kS}(hp:∀m h,m_ m h p=some p) {sp:List Span}{n:Nat}
include hp
theorem af6 (hn:sp.length=n) (hn2:n≤1000000) (hfe:∀s∈sp,0≤s.first→s.first≤s.last):∀(d k:Nat) (SF:List Int) (nF:Nat) (SU:List rD) (nU ns:Nat) (cur:Int),(oG sp).length=k+d →
  (∀j,k≤j→(h:j < (oG sp).length)→cur≤fS sp (oG sp)[j])→L2 n (eS sp) (PS.gS (fS sp) (eS sp) ((oG sp).take k)) ns SF nF SU nU cur →
  ∃(SF':List Int) (nF':Nat) (SU':List rD) (nU':Nat),mQ (Dz KK 10) ([.slice [] (.own 1),.int .i64 0,.int .i64 0,.ptr 2 0,.mslice 4 0 n 1,.ptr 6 0,.ptr 8 0,.int .i64 (ns:Int),Vs 5 1 (uP sp).length,.int .i64 ((uP sp).length:Int),.int .i64 (k:Int)],HS p sp (wQ n (PS.gS (fS sp) (eS sp) ((oG sp).take k))) (uP sp) SF nF SU nU) =
   some (.exit 2,[.slice [] (.own 1),.int .i64 0,.int .i64 0,.ptr 2 0,.mslice 4 0 n 1,.ptr 6 0,.ptr 8 0,.int .i64 ((PS.nS (PS.gS (fS sp) (eS sp) (oG sp)):Nat):Int),Vs 5 1 (uP sp).length,.int .i64 ((uP sp).length:Int),.int .i64 ((oG sp).length:Int)],HS p sp (wQ n (PS.gS (fS sp) (eS sp) (oG sp))) (uP sp) SF' nF' SU' nU'):=by
 have hol:(uP sp).length=(oG sp).length:=by unfold oG; simp
 intro d
 induction d with
 | zero =>
  intro k SF nF SU nU ns cur hk _ L
  have hk':k=(oG sp).length:=by omega
  rw [hk',List.take_length] at L ⊢
  refine⟨SF,nF,SU,nU,?_⟩
  have hns:ns=PS.nS (PS.gS (fS sp) (eS sp) (oG sp)):=L.pi.num
  rw [←hns,mW]
  have ht:=F7 hp (sp:=sp) (O:=wQ n (PS.gS (fS sp) (eS sp) (oG sp))) (o:=uP sp) (SF:=SF) (nF:=nF) (SU:=SU) (nU:=nU)
  generalize HS p sp (wQ n (PS.gS (fS sp) (eS sp) (oG sp))) (uP sp) SF nF SU nU=H at *
  have:Dz KK 10 ([.slice [] (.own 1),.int .i64 0,.int .i64 0,.ptr 2 0,.mslice 4 0 n 1,.ptr 6 0,.ptr 8 0,.int .i64 (ns:Int),Vs 5 1 (uP sp).length,.int .i64 ((uP sp).length:Int),.int .i64 ((oG sp).length:Int)],H) =
   some (.exit 2,[.slice [] (.own 1),.int .i64 0,.int .i64 0,.ptr 2 0,.mslice 4 0 n 1,.ptr 6 0,.ptr 8 0,.int .i64 (ns:Int),Vs 5 1 (uP sp).length,.int .i64 ((uP sp).length:Int),.int .i64 ((oG sp).length:Int)],H):=by
   simp [Dz,hol,ht]
  rw [this]; rfl
 | succ d ih =>
  intro k SF nF SU nU ns cur hk hcur L
  have hkl:k < (oG sp).length:=by omega
  obtain⟨ht1,ht2⟩:=tA.1 (List.getElem_mem hkl)
  have hsp:sp[(oG sp)[k]]?=some sp[(oG sp)[k]]:=List.getElem?_eq_getElem ht1
  have hf:fS sp (oG sp)[k]=sp[(oG sp)[k]].first:=by unfold fS; rw [hsp]; rfl
  have he:eS sp (oG sp)[k]=sp[(oG sp)[k]].last:=by unfold eS; rw [hsp]; rfl
  have hok:(uP sp)[k]?=some (((oG sp)[k]:Nat):Int):=by
   rw [Vl,List.getElem?_map,List.getElem?_eq_getElem hkl]; rfl
  have hlen:(PS.gS (fS sp) (eS sp) ((oG sp).take k)).length=k:=by
   rw [←List.length_map (f:=(·.1)),PS.AH,List.length_take]; omega
  have hsl:=Lr (sp:=sp)
  obtain⟨SF',nF',SU',nU',ns',h1,h2⟩:=af7 hp (O:=wQ n (PS.gS (fS sp) (eS sp) ((oG sp).take k))) (o:=uP sp) hok (by omega) hsp hn2 (by omega) vV (by have:=hcur k (Nat.le_refl _) hkl; omega) (hfe _ (List.getElem_mem ht1) (by omega)) he (by omega) L
  have hstep:PS.gS (fS sp) (eS sp) ((oG sp).take (k+1))=PS.gS (fS sp) (eS sp) ((oG sp).take k)++[((oG sp)[k],PS.qT (eS sp) (PS.gS (fS sp) (eS sp) ((oG sp).take k)) sp[(oG sp)[k]].first)]:=by
   rw [List.take_succ_eq_append_getElem hkl,PS.Ao,hf]
  rw [←hstep] at h2
  obtain⟨SF2,nF2,SU2,nU2,h3⟩:=ih (k+1) SF' nF' SU' nU' ns' _ (by omega) (fun j hj hjl=>by
   have:=List.pairwise_iff_getElem.1 (A9 (sp:=sp)) k j hkl hjl (by omega)
   rw [←hf]
   omega) h2
  refine⟨SF2,nF2,SU2,nU2,?_⟩
  rw [mW,h1]
  simp only [Option.bind_some,qN]
  rw [hstep,DE] at h3
  exact h3
end
end Go.Proofs.YtkeoalhglkfbkaaDoor


namespace Go.Proofs.YtkeoalhglkfbkaaDoor
open Go Hk
def Mx (sp:List Span):List (Nat×Nat):=PS.gS (fS sp) (eS sp) (oG sp)
def sM (sp:List Span):List Int:=wQ sp.length (Mx sp)
def AX (sp:List Span):Int:=((PS.nS (Mx sp):Nat):Int)
theorem Xo {n:Nat}{f e:Nat→Int}:uU n n=wQ n (PS.gS f e []):=by simp [uU,wQ,PS.gS]
theorem Pm (O:List Int):nB (O.map nO)=some (O.map nO):=by
 induction O with
 | nil=>rfl
 | cons x r ih=>simp only [List.map_cons,nB,ih]; rfl
theorem Rl (O:List Int):rowsOf O.length 1 (O.map nO)=Rw (ci .i64) O:=by
 induction O with
 | nil=>rfl
 | cons x r ih=>simp only [List.length_cons,List.map_cons,rowsOf,List.take_succ_cons,List.take_zero,List.drop_succ_cons,List.drop_zero,ih]; rfl
theorem ai5 {b0 b1 b2 b3:mI}{R:Hk.kU}{O:List Int}{n:Nat}(hO:O.length=n):kS.oH 0 (b0::b1::b2::b3::.cells (O.map nO)::R) (.mslice 4 0 n 1)=.slice (Rw (ci .i64) O) .no:=by
 subst hO
 have g:(b0::b1::b2::b3::.cells (O.map nO)::R:Hk.kU)[4]?=some (.cells (O.map nO)):=rfl
 have ht:(((O.map nO).drop 0).take (O.length * 1))=O.map nO:=by rw [List.drop_zero,Nat.mul_one,List.take_of_length_le (by simp)]
 simp only [kS.oH,g,ht,Pm]
 simp [Rl]
@[simp] theorem ak7 {f:Nat}{x y:List kS}:kS.pP (.func f x y)=false:=(rfl)
@[simp] theorem Su {f:Nat}{x y:List kS}:kS.cells (.func f x y)=[.func f x y]:=(rfl)
theorem RC {i f:Nat}:nT i [.slice [] .nil,.func f [] []]=([.slice [] (.own i),.func f [] []],[.front 0 0]):=rfl
theorem c47 {p:IR}{sp:List Span}{n:Nat}(hn:sp.length=n) (hn2:n≤1000000) (hfe:∀s∈sp,0≤s.first→s.first≤s.last)
  (h45:∀h,KK 45 [.agg [.int .i64 p.temps,.slice (Rw mL.cells p.arrays) .no,.slice (Rw lR.cells p.blocks) .no,.int .i64 p.inn,.int .i64 p.out]] h=some (.ret (.tuple [.slice (Rw Span.cells sp) .no,.int .i64 0]),h)) (h:Hk.kU) :
  KK 47 [.agg [.int .i64 p.temps,.slice (Rw mL.cells p.arrays) .no,.slice (Rw lR.cells p.blocks) .no,.int .i64 p.inn,.int .i64 p.out]] h =
   some (.ret (.tuple [.slice (Rw (ci .i64) (sM sp)) .no,.int .i64 (AX sp),.int .i64 0]),h):=by
 refine mD rfl rfl (mR (aaU _ _ _) ?_)
 have hp:∀m h,m_ m h [.int .i64 p.temps,.slice (Rw mL.cells p.arrays) .no,.slice (Rw lR.cells p.blocks) .no,.int .i64 p.inn,.int .i64 p.out]=some [.int .i64 p.temps,.slice (Rw mL.cells p.arrays) .no,.slice (Rw lR.cells p.blocks) .no,.int .i64 p.inn,.int .i64 p.out]:=fun m h=>by simp
 have hl0:=af2 hp (sp:=sp) (n:=n) hn hn2 n 0 (by omega)
 have hs:=c85 (p:=[.int .i64 p.temps,.slice (Rw mL.cells p.arrays) .no,.slice (Rw lR.cells p.blocks) .no,.int .i64 p.inn,.int .i64 p.out]) (sp:=sp) (O:=uU n n) (by omega)
 obtain⟨SF,nF,SU,nU,hl2⟩:=af6 hp hn hn2 hfe (oG sp).length 0 [] 0 [] 0 0 0 (by omega) (fun j _ hj=>(tA.1 (List.getElem_mem hj)).2)
  ⟨⟨Nat.le_refl _,Nat.zero_le _,fun j _ hj=>by simp at hj,Nat.le_refl _,Nat.zero_le _,fun j _ hj=>by simp at hj⟩,PS.PI.empty 0,Nat.zero_le _⟩
 have hmk:∀H:Hk.kU,H.length=4→qO 1 8 [.int .i64 0] (.int .i64 (n:Int)) H=some (.mslice 4 0 n 1,H++[.cells ((uU n 0).map nO)]):=by
  intro H hH
  unfold qO
  simp only [Int.toNat_natCast]
  rw [if_pos ⟨by omega,by omega,by omega⟩,hH]
  have:(List.replicate n [kS.int .i64 0]).flatten=(uU n 0).map nO:=by
   simp [uU,nO]
  rw [this]
 subst hn
 have hle:(tG sp sp.length).length=(uP sp).length:=u_.length_eq.symm
 rw [hle] at hl0 hs
 have hl0':mQ (Dy KK 6) ([.slice [] (.own 1),.int .i64 0,.int .i64 0,.ptr 2 0,.mslice 4 0 sp.length 1,.slice [] (.own 5),.slice (Rw Span.cells sp) .no,.int .i64 (sp.length:Int),.int .i64 0],[.cells [.int .i64 p.temps,.slice (Rw mL.cells p.arrays) .no,.slice (Rw lR.cells p.blocks) .no,.int .i64 p.inn,.int .i64 p.out],.front 0 0,.cells [.slice (Rw Span.cells sp) .no],.front 0 0,.cells ((uU sp.length 0).map nO),.front 0 0])=some (.exit 0,[.slice [] (.own 1),.int .i64 0,.int .i64 0,.ptr 2 0,.mslice 4 0 sp.length 1,Vs 5 1 (uP sp).length,.slice (Rw Span.cells sp) .no,.int .i64 (sp.length:Int),.int .i64 (sp.length:Int)],MK [.int .i64 p.temps,.slice (Rw mL.cells p.arrays) .no,.slice (Rw lR.cells p.blocks) .no,.int .i64 p.inn,.int .i64 p.out] sp (uU sp.length sp.length) (tG sp sp.length)):=hl0
 have hl2':mQ (Dz KK 10) ([.slice [] (.own 1),.int .i64 0,.int .i64 0,.ptr 2 0,.mslice 4 0 sp.length 1,.ptr 6 0,.ptr 8 0,.int .i64 0,Vs 5 1 (uP sp).length,.int .i64 ((uP sp).length:Int),.int .i64 0],
  [.cells [.int .i64 p.temps,.slice (Rw mL.cells p.arrays) .no,.slice (Rw lR.cells p.blocks) .no,.int .i64 p.inn,.int .i64 p.out],.front 0 0,.cells [.slice (Rw Span.cells sp) .no],.front 0 0,.cells ((uU sp.length sp.length).map nO),Vb (ci .i64) 1 (uP sp),.cells [.slice [] (.own 7),.func 89 [] []],.front 0 0,.cells [.slice [] (.own 9),.func 90 [] []],.front 0 0]) =
  some (.exit 2,[.slice [] (.own 1),.int .i64 0,.int .i64 0,.ptr 2 0,.mslice 4 0 sp.length 1,.ptr 6 0,.ptr 8 0,.int .i64 (AX sp),Vs 5 1 (uP sp).length,.int .i64 ((uP sp).length:Int),.int .i64 ((oG sp).length:Int)],HS [.int .i64 p.temps,.slice (Rw mL.cells p.arrays) .no,.slice (Rw lR.cells p.blocks) .no,.int .i64 p.inn,.int .i64 p.out] sp (sM sp) (uP sp) SF nF SU nU):=by
   rw [Xo (f:=fS sp) (e:=eS sp)]; exact hl2
 have hfin:=fun b0 b1 b2 b3 R=>ai5 (b0:=b0) (b1:=b1) (b2:=b2) (b3:=b3) (R:=R) (O:=sM sp) (n:=sp.length) vV
 have hs':KK 85 [kS.k8 (Vs 5 1 (uP sp).length),kS.k8 (.func 86 [] [.ptr 2 0])] (MK [.int .i64 p.temps,.slice (Rw mL.cells p.arrays) .no,.slice (Rw lR.cells p.blocks) .no,.int .i64 p.inn,.int .i64 p.out] sp (uU sp.length sp.length) (tG sp sp.length))=some (.ret (.tuple []),[.cells [.int .i64 p.temps,.slice (Rw mL.cells p.arrays) .no,.slice (Rw lR.cells p.blocks) .no,.int .i64 p.inn,.int .i64 p.out],.front 0 0,.cells [.slice (Rw Span.cells sp) .no],.front 0 0,.cells ((uU sp.length sp.length).map nO),Vb (ci .i64) 1 (uP sp)]):=hs
 clear hl0 hs hl2
 generalize MK [.int .i64 p.temps,.slice (Rw mL.cells p.arrays) .no,.slice (Rw lR.cells p.blocks) .no,.int .i64 p.inn,.int .i64 p.out] sp (uU sp.length sp.length) (tG sp sp.length)=H0 at *
 simp [m47,h45,hmk,hl0',-List.map_set,hs',Km,hl2',HS,RC]
 simp only [kS.oL,List.map_cons,List.map_nil,hfin]
 rfl
end Go.Proofs.YtkeoalhglkfbkaaDoor


namespace Go.Proofs.YtkeoalhglkfbkaaDoor
open Go Hk
noncomputable def aaR (mm:Nat) (aA:R):Option (nZ×kU) :=
 (fun aB aC aD=>Ex.nK aA.1 (mX mm (.tuple [aB,aC]) aD)) (gd aA.2.1 0) (gd aA.2.1 1) aA.2.2
theorem arA (n:Int) (h:kU):nM 2 16 [(.int .i64 0),(.int .i64 0)] (.int .i64 n) h=tm (tmk 16 ((⟨0,0⟩:Span):Span) n) fun l=>(.vslice h.length l.length 0 l.length 2,h++[Vc Span.cells 2 l]):=Bn rfl
theorem as6 (y0:Int) (y1:Int) (h:kU) (id tot j:Nat) (xs:List Span):RO 2 id h (some (Vc Span.cells 2 xs)) tot (j * 2) (.agg [(.int .i64 y0),(.int .i64 y1)])=tb (sN tot xs j) fun x=>tm (AY tot xs j (⟨y0,y1⟩:Span)) fun zs=>h.set id (Vc Span.cells 2 zs):=adV (enc:=Span.cells) (⟨y0,y1⟩:Span) (fun _=>rfl) (by decide) rfl rfl
noncomputable def OZ (K:lD) (m:Nat) (s:List kS×kU):Option R :=
 (fun aD aE aF aG aH aC aB aA aI=>bo .lss aA aB fun aK=>lP aK ((nE [(.int .i64 0),(.int .i64 0)] [(0,1),(1,1)] [(0,(.int .i64 (-1))),(1,(.int .i64 (-1)))]).bind fun aL=>ix 2 aC aA fun aM=>(lT 2 aI aM aL).bind fun aJ=>bo .add aA (.int .i64 1) fun aN=>lJ m .normal [aD,aE,aF,aG,aH,aC,aB,aN] aJ) (lJ m (.exit 0) [aD,aE,aF,aG,aH,aC,aB,aA] aI)) (gd s.1 0) (gd s.1 1) (gd s.1 2) (gd s.1 3) (gd s.1 4) (gd s.1 5) (gd s.1 6) (gd s.1 7) s.2
noncomputable def Ip (aB:(List Span)) (aE:Int) (aA:Int×(List Span)):Option (Ey×Int×(List Span)) :=
 tc (decide (aA.1 < aE)) (tb ((zQ (List.length aB) aA.1)) fun aC=>tb ((sN (List.length aB) aA.2 aC)) fun aF=>tb ((AY (List.length aB) aA.2 aC (⟨(-1),(-1)⟩:Span))) fun aD=>some (.n,((IntKind.wrap .i64 (aA.1+1)),aD))) (some ((.x 0),(aA.1,aA.2)))
theorem am7 (w40:(List (List Int))) (w41:(List (List Int))) (l38:(List Span)) (w44:Int) (p0:IR) (s45:Int×(List Span)):OZ KK 3 ([(.ptr 0 0),(.slice (Rw Span.cells []) (.own 1)),(.int .i64 0),(.slice (Rw (AB (ci .i64)) w40) .no),(.slice (Rw (AB (ci .i64)) w41) .no),(.vslice 2 (List.length l38) 0 (List.length l38) 2),(.int .i64 w44),(.int .i64 s45.1)],([.cells [(.int .i64 p0.temps),(.slice (Rw mL.cells p0.arrays) .no),(.slice (Rw lR.cells p0.blocks) .no),(.int .i64 p0.inn),(.int .i64 p0.out)],.front 0 0,Vc Span.cells 2 s45.2]:kU))=tm (Ip l38 w44 s45) fun r=>(r.1.ex,[(.ptr 0 0),(.slice (Rw Span.cells []) (.own 1)),(.int .i64 0),(.slice (Rw (AB (ci .i64)) w40) .no),(.slice (Rw (AB (ci .i64)) w41) .no),(.vslice 2 (List.length l38) 0 (List.length l38) 2),(.int .i64 w44),(.int .i64 r.2.1)],([.cells [(.int .i64 p0.temps),(.slice (Rw mL.cells p0.arrays) .no),(.slice (Rw lR.cells p0.blocks) .no),(.int .i64 p0.inn),(.int .i64 p0.out)],.front 0 0,Vc Span.cells 2 r.2.2]:kU)):=by
 simp +contextual -implicitDefEqProofs (maxSteps:=2000000) [-lQ,-lF,-k9,-k_,-lG,-lN,-lC,OZ,Ip,as6]
theorem arY (w40:(List (List Int))) (w41:(List (List Int))) (l38:(List Span)) (w44:Int) (p0:IR) (i6:Int) (i8:(List Span)):mQ (OZ KK 3) ([(.ptr 0 0),(.slice (Rw Span.cells []) (.own 1)),(.int .i64 0),(.slice (Rw (AB (ci .i64)) w40) .no),(.slice (Rw (AB (ci .i64)) w41) .no),(.vslice 2 (List.length l38) 0 (List.length l38) 2),(.int .i64 w44),(.int .i64 i6)],([.cells [(.int .i64 p0.temps),(.slice (Rw mL.cells p0.arrays) .no),(.slice (Rw lR.cells p0.blocks) .no),(.int .i64 p0.inn),(.int .i64 p0.out)],.front 0 0,Vc Span.cells 2 i8]:kU))=tm (vB (Ip l38 w44) (i6,i8)) fun r=>(r.1.ex,[(.ptr 0 0),(.slice (Rw Span.cells []) (.own 1)),(.int .i64 0),(.slice (Rw (AB (ci .i64)) w40) .no),(.slice (Rw (AB (ci .i64)) w41) .no),(.vslice 2 (List.length l38) 0 (List.length l38) 2),(.int .i64 w44),(.int .i64 r.2.1)],([.cells [(.int .i64 p0.temps),(.slice (Rw mL.cells p0.arrays) .no),(.slice (Rw lR.cells p0.blocks) .no),(.int .i64 p0.inn),(.int .i64 p0.out)],.front 0 0,Vc Span.cells 2 r.2.2]:kU)):=by
 exact w_ (enc:=fun s45=>([(.ptr 0 0),(.slice (Rw Span.cells []) (.own 1)),(.int .i64 0),(.slice (Rw (AB (ci .i64)) w40) .no),(.slice (Rw (AB (ci .i64)) w41) .no),(.vslice 2 (List.length l38) 0 (List.length l38) 2),(.int .i64 w44),(.int .i64 s45.1)],([.cells [(.int .i64 p0.temps),(.slice (Rw mL.cells p0.arrays) .no),(.slice (Rw lR.cells p0.blocks) .no),(.int .i64 p0.inn),(.int .i64 p0.out)],.front 0 0,Vc Span.cells 2 s45.2]:kU))) (fun s45=>am7 w40 w41 l38 w44 p0 s45) (i6,i8)
theorem awR (l38:(List Span)) (w96:Int) (u107:(List Int)) (p0:IR) (w99:(List Span)) (u101:lR):KK 83 [(.vslice 2 (List.length l38) 0 (List.length l38) 2),(.int .i64 w96),(.slice (Rw (ci .i64) u107) .no)] ([.cells [(.int .i64 p0.temps),(.slice (Rw mL.cells p0.arrays) .no),(.slice (Rw lR.cells p0.blocks) .no),(.int .i64 p0.inn),(.int .i64 p0.out)],.front 0 0,Vc Span.cells 2 w99,.cells [(.slice (Rw Op.cells u101.ops) .no),(.int .i64 u101.term.kind),(.int .i64 u101.term.a),(.int .i64 u101.term.yes),(.int .i64 u101.term.no)],.front 0 0]:kU)=tm (t83 (List.length l38) w96 u107 w99) fun r=>(.ret (.tuple []),([.cells [(.int .i64 p0.temps),(.slice (Rw mL.cells p0.arrays) .no),(.slice (Rw lR.cells p0.blocks) .no),(.int .i64 p0.inn),(.int .i64 p0.out)],.front 0 0,Vc Span.cells 2 r,.cells [(.slice (Rw Op.cells u101.ops) .no),(.int .i64 u101.term.kind),(.int .i64 u101.term.a),(.int .i64 u101.term.yes),(.int .i64 u101.term.no)],.front 0 0]:kU)):=by
 refine xT (ids:=[2]) rfl rfl ?_ ?_ rfl ?_ (Lj ..) (b83 (List.length l38) w96 u107 w99) fun r=>?_
 all_goals simp
theorem awS (l38:(List Span)) (w145:Int) (r142:(List Int)) (p0:IR) (w146:(List Span)) (u101:lR) (u134:Op):KK 83 [(.vslice 2 (List.length l38) 0 (List.length l38) 2),(.int .i64 w145),(.slice (Rw (ci .i64) r142) .no)] ([.cells [(.int .i64 p0.temps),(.slice (Rw mL.cells p0.arrays) .no),(.slice (Rw lR.cells p0.blocks) .no),(.int .i64 p0.inn),(.int .i64 p0.out)],.front 0 0,Vc Span.cells 2 w146,.cells [(.slice (Rw Op.cells u101.ops) .no),(.int .i64 u101.term.kind),(.int .i64 u101.term.a),(.int .i64 u101.term.yes),(.int .i64 u101.term.no)],.front 0 0,.cells [(.int .i64 u134.kind),(.int .i64 u134.dst),(.int .i64 u134.a),(.int .i64 u134.b),(.int .i64 u134.c),(.int .i64 u134.imm)]]:kU)=tm (t83 (List.length l38) w145 r142 w146) fun r=>(.ret (.tuple []),([.cells [(.int .i64 p0.temps),(.slice (Rw mL.cells p0.arrays) .no),(.slice (Rw lR.cells p0.blocks) .no),(.int .i64 p0.inn),(.int .i64 p0.out)],.front 0 0,Vc Span.cells 2 r,.cells [(.slice (Rw Op.cells u101.ops) .no),(.int .i64 u101.term.kind),(.int .i64 u101.term.a),(.int .i64 u101.term.yes),(.int .i64 u101.term.no)],.front 0 0,.cells [(.int .i64 u134.kind),(.int .i64 u134.dst),(.int .i64 u134.a),(.int .i64 u134.b),(.int .i64 u134.c),(.int .i64 u134.imm)]]:kU)):=by
 refine xT (ids:=[2]) rfl rfl ?_ ?_ rfl ?_ (Lj ..) (b83 (List.length l38) w145 r142 w146) fun r=>?_
 all_goals simp
theorem anO (y0:Int) (h:kU):lU 1 1 [(.int .i64 0)] [(0,(.int .i64 y0))] h=some (.slice (Rw (ci .i64) [y0]) (.own h.length),h++[pR 1 1]):=by
 rfl
theorem awT (l38:(List Span)) (w152:Int) (w161:(List Int)) (p0:IR) (r147:(List Span)) (u101:lR) (u134:Op):KK 83 [(.vslice 2 (List.length l38) 0 (List.length l38) 2),(.int .i64 w152),(.slice (Rw (ci .i64) w161) .no)] ([.cells [(.int .i64 p0.temps),(.slice (Rw mL.cells p0.arrays) .no),(.slice (Rw lR.cells p0.blocks) .no),(.int .i64 p0.inn),(.int .i64 p0.out)],.front 0 0,Vc Span.cells 2 r147,.cells [(.slice (Rw Op.cells u101.ops) .no),(.int .i64 u101.term.kind),(.int .i64 u101.term.a),(.int .i64 u101.term.yes),(.int .i64 u101.term.no)],.front 0 0,.cells [(.int .i64 u134.kind),(.int .i64 u134.dst),(.int .i64 u134.a),(.int .i64 u134.b),(.int .i64 u134.c),(.int .i64 u134.imm)],pR 1 1]:kU)=tm (t83 (List.length l38) w152 w161 r147) fun r=>(.ret (.tuple []),([.cells [(.int .i64 p0.temps),(.slice (Rw mL.cells p0.arrays) .no),(.slice (Rw lR.cells p0.blocks) .no),(.int .i64 p0.inn),(.int .i64 p0.out)],.front 0 0,Vc Span.cells 2 r,.cells [(.slice (Rw Op.cells u101.ops) .no),(.int .i64 u101.term.kind),(.int .i64 u101.term.a),(.int .i64 u101.term.yes),(.int .i64 u101.term.no)],.front 0 0,.cells [(.int .i64 u134.kind),(.int .i64 u134.dst),(.int .i64 u134.a),(.int .i64 u134.b),(.int .i64 u134.c),(.int .i64 u134.imm)],pR 1 1]:kU)):=by
 refine xT (ids:=[2]) rfl rfl ?_ ?_ rfl ?_ (Lj ..) (b83 (List.length l38) w152 w161 r147) fun r=>?_
 all_goals simp
noncomputable def Th (K:lD) (m:Nat) (aS:kS) (aR:kS) (aO:kU) (aA:kS) (aB:kS) (aK:kS) (aL:kS) (aM:kS) (aN:kS) (aC:kS) (aD:kS) (aE:kS) (aF:kS) (aG:kS) (aH:kS) (aI:kS) (aJ:kS):Option R :=
 lP aS (fa 1 aR fun aT=>ld false 1 aO aT fun aU=>lK (lU 1 1 [(.int .i64 0)] [(0,aU)] aO) fun aV aP=>ca (K 83 [(kS.k8 aA),(kS.k8 aB),(kS.k8 aV)] aP) fun aW aQ=>lJ m .normal [aK,aL,aM,aN,aA,aB,aC,aD,aE,aF,aG,aH,aI,aJ] aQ) (lJ m .normal [aK,aL,aM,aN,aA,aB,aC,aD,aE,aF,aG,aH,aI,aJ] aO)
noncomputable def FO (aB:Bool) (aA:(List Span)) (aD:Op) (aF:(List Span)) (aE:Int):Option ((List Span)) :=
 tc aB (tb ((t83 (List.length aF) aE [aD.dst] aA)) fun aC=>some aC) (some aA)
theorem arX (r151:Bool) (p0:IR) (r147:(List Span)) (u101:lR) (u134:Op) (l38:(List Span)) (w152:Int) (w78:(List (List Int))) (w79:(List (List Int))) (w97:Int) (w82:Int) (w115:Int) (w153:Int):(Th KK 6 (.bool r151) (.ptr 5 0) ([.cells [(.int .i64 p0.temps),(.slice (Rw mL.cells p0.arrays) .no),(.slice (Rw lR.cells p0.blocks) .no),(.int .i64 p0.inn),(.int .i64 p0.out)],.front 0 0,Vc Span.cells 2 r147,.cells [(.slice (Rw Op.cells u101.ops) .no),(.int .i64 u101.term.kind),(.int .i64 u101.term.a),(.int .i64 u101.term.yes),(.int .i64 u101.term.no)],.front 0 0,.cells [(.int .i64 u134.kind),(.int .i64 u134.dst),(.int .i64 u134.a),(.int .i64 u134.b),(.int .i64 u134.c),(.int .i64 u134.imm)]]:kU) (.vslice 2 (List.length l38) 0 (List.length l38) 2) (.int .i64 w152) (.slice (Rw Span.cells []) (.own 1)) (.int .i64 0) (.slice (Rw (AB (ci .i64)) w78) .no) (.slice (Rw (AB (ci .i64)) w79) .no) (.int .i64 w97) (.ptr 3 0) (.slice (Rw lR.cells p0.blocks) .no) (.int .i64 w82) (.int .i64 w97) (.slice (Rw Op.cells u101.ops) .no) (.int .i64 w115) (.int .i64 w153))=tm (FO r151 r147 u134 l38 w152) fun r=>(.normal,[(.slice (Rw Span.cells []) (.own 1)),(.int .i64 0),(.slice (Rw (AB (ci .i64)) w78) .no),(.slice (Rw (AB (ci .i64)) w79) .no),(.vslice 2 (List.length l38) 0 (List.length l38) 2),(.int .i64 w152),(.int .i64 w97),(.ptr 3 0),(.slice (Rw lR.cells p0.blocks) .no),(.int .i64 w82),(.int .i64 w97),(.slice (Rw Op.cells u101.ops) .no),(.int .i64 w115),(.int .i64 w153)],([.cells [(.int .i64 p0.temps),(.slice (Rw mL.cells p0.arrays) .no),(.slice (Rw lR.cells p0.blocks) .no),(.int .i64 p0.inn),(.int .i64 p0.out)],.front 0 0,Vc Span.cells 2 r,.cells [(.slice (Rw Op.cells u101.ops) .no),(.int .i64 u101.term.kind),(.int .i64 u101.term.a),(.int .i64 u101.term.yes),(.int .i64 u101.term.no)],.front 0 0,.cells [(.int .i64 u134.kind),(.int .i64 u134.dst),(.int .i64 u134.a),(.int .i64 u134.b),(.int .i64 u134.c),(.int .i64 u134.imm)]]:kU)):=by
 simp +contextual -implicitDefEqProofs (maxSteps:=2000000) [-lQ,-lF,-k9,-k_,-lG,-lN,-lC,Th,FO,anO,awT]
noncomputable def O0 (K:lD) (m:Nat) (s:List kS×kU):Option R :=
 (fun aL aM aN aO aE aF aG aH aI aJ aK aC aD aB aY=>bo .lss aB aD fun bI=>lP bI (ix 6 aC aB fun bJ=>ld true 6 aY bJ fun bK=>lK (mH 6 aY (.agg [(.int .i64 0),(.int .i64 0),(.int .i64 0),(.int .i64 0),(.int .i64 0),(.int .i64 0)])) fun aP bF=>(lT 6 bF aP bK).bind fun bB=>ld true 6 bB aP fun bL=>ca (K 74 [(kS.k8 bL)] bB) fun bM bG=>ca (K 83 [(kS.k8 aE),(kS.k8 aF),(kS.k8 bM)] bG) fun bR bD=>ld true 6 bD aP fun bN=>ca (K 73 [(kS.k8 bN)] bD) fun bO bE=>(Th K (List.length bE) bO aP bE aE aF aL aM aN aO aG aH aI aJ aK aC aD aB).bind fun aA=>(fun aZ a6 a7 a8 a_ bA aQ aR aS aT aU aV aW aX bH=>Ex.uO aA.1 (bo .add bA (.int .i64 1) fun bP=>bo .add aX (.int .i64 1) fun bQ=>lJ m .normal [aZ,a6,a7,a8,a_,bP,aQ,aR,aS,aT,aU,aV,aW,bQ] bH)) (gd aA.2.1 0) (gd aA.2.1 1) (gd aA.2.1 2) (gd aA.2.1 3) (gd aA.2.1 4) (gd aA.2.1 5) (gd aA.2.1 6) (gd aA.2.1 7) (gd aA.2.1 8) (gd aA.2.1 9) (gd aA.2.1 10) (gd aA.2.1 11) (gd aA.2.1 12) (gd aA.2.1 13) aA.2.2) (lJ m (.exit 4) [aL,aM,aN,aO,aE,aF,aG,aH,aI,aJ,aK,aC,aD,aB] aY)) (gd s.1 0) (gd s.1 1) (gd s.1 2) (gd s.1 3) (gd s.1 4) (gd s.1 5) (gd s.1 6) (gd s.1 7) (gd s.1 8) (gd s.1 9) (gd s.1 10) (gd s.1 11) (gd s.1 12) (gd s.1 13) s.2
noncomputable def FP (aI:(List Span)) (aG:lR) (aH:Int) (aA:Int×Int×(List Span)):Option (Ey×Int×Int×(List Span)) :=
 tc (decide (aA.2.1 < aH)) (tb ((pF aG.ops aA.2.1)) fun aB=>tb ((t74 aB)) fun aC=>tb ((t83 (List.length aI) aA.1 aC aA.2.2)) fun aD=>tb ((t73 aB)) fun aE=>tb (FO aE aD aB aI aA.1) fun aF=>some (.n,((IntKind.wrap .i64 (aA.1+1)),(IntKind.wrap .i64 (aA.2.1+1)),aF))) (some ((.x 4),(aA.1,aA.2.1,aA.2.2)))
theorem am8 (w78:(List (List Int))) (w79:(List (List Int))) (l38:(List Span)) (w97:Int) (p0:IR) (w82:Int) (u101:lR) (w115:Int) (s116:Int×Int×(List Span)):O0 KK 5 ([(.slice (Rw Span.cells []) (.own 1)),(.int .i64 0),(.slice (Rw (AB (ci .i64)) w78) .no),(.slice (Rw (AB (ci .i64)) w79) .no),(.vslice 2 (List.length l38) 0 (List.length l38) 2),(.int .i64 s116.1),(.int .i64 w97),(.ptr 3 0),(.slice (Rw lR.cells p0.blocks) .no),(.int .i64 w82),(.int .i64 w97),(.slice (Rw Op.cells u101.ops) .no),(.int .i64 w115),(.int .i64 s116.2.1)],([.cells [(.int .i64 p0.temps),(.slice (Rw mL.cells p0.arrays) .no),(.slice (Rw lR.cells p0.blocks) .no),(.int .i64 p0.inn),(.int .i64 p0.out)],.front 0 0,Vc Span.cells 2 s116.2.2,.cells [(.slice (Rw Op.cells u101.ops) .no),(.int .i64 u101.term.kind),(.int .i64 u101.term.a),(.int .i64 u101.term.yes),(.int .i64 u101.term.no)],.front 0 0]:kU))=tm (FP l38 u101 w115 s116) fun r=>(r.1.ex,[(.slice (Rw Span.cells []) (.own 1)),(.int .i64 0),(.slice (Rw (AB (ci .i64)) w78) .no),(.slice (Rw (AB (ci .i64)) w79) .no),(.vslice 2 (List.length l38) 0 (List.length l38) 2),(.int .i64 r.2.1),(.int .i64 w97),(.ptr 3 0),(.slice (Rw lR.cells p0.blocks) .no),(.int .i64 w82),(.int .i64 w97),(.slice (Rw Op.cells u101.ops) .no),(.int .i64 w115),(.int .i64 r.2.2.1)],([.cells [(.int .i64 p0.temps),(.slice (Rw mL.cells p0.arrays) .no),(.slice (Rw lR.cells p0.blocks) .no),(.int .i64 p0.inn),(.int .i64 p0.out)],.front 0 0,Vc Span.cells 2 r.2.2.2,.cells [(.slice (Rw Op.cells u101.ops) .no),(.int .i64 u101.term.kind),(.int .i64 u101.term.a),(.int .i64 u101.term.yes),(.int .i64 u101.term.no)],.front 0 0]:kU)):=by
 simp +contextual -implicitDefEqProofs (maxSteps:=2000000) [-lQ,-lF,-k9,-k_,-lG,-lN,-lC,O0,FP,Nt,awS,r73,arX]
theorem arZ (w78:(List (List Int))) (w79:(List (List Int))) (l38:(List Span)) (w97:Int) (p0:IR) (w82:Int) (u101:lR) (w115:Int) (i5:Int) (i12:Int) (i14:(List Span)):mQ (O0 KK 5) ([(.slice (Rw Span.cells []) (.own 1)),(.int .i64 0),(.slice (Rw (AB (ci .i64)) w78) .no),(.slice (Rw (AB (ci .i64)) w79) .no),(.vslice 2 (List.length l38) 0 (List.length l38) 2),(.int .i64 i5),(.int .i64 w97),(.ptr 3 0),(.slice (Rw lR.cells p0.blocks) .no),(.int .i64 w82),(.int .i64 w97),(.slice (Rw Op.cells u101.ops) .no),(.int .i64 w115),(.int .i64 i12)],([.cells [(.int .i64 p0.temps),(.slice (Rw mL.cells p0.arrays) .no),(.slice (Rw lR.cells p0.blocks) .no),(.int .i64 p0.inn),(.int .i64 p0.out)],.front 0 0,Vc Span.cells 2 i14,.cells [(.slice (Rw Op.cells u101.ops) .no),(.int .i64 u101.term.kind),(.int .i64 u101.term.a),(.int .i64 u101.term.yes),(.int .i64 u101.term.no)],.front 0 0]:kU))=tm (vB (FP l38 u101 w115) (i5,i12,i14)) fun r=>(r.1.ex,[(.slice (Rw Span.cells []) (.own 1)),(.int .i64 0),(.slice (Rw (AB (ci .i64)) w78) .no),(.slice (Rw (AB (ci .i64)) w79) .no),(.vslice 2 (List.length l38) 0 (List.length l38) 2),(.int .i64 r.2.1),(.int .i64 w97),(.ptr 3 0),(.slice (Rw lR.cells p0.blocks) .no),(.int .i64 w82),(.int .i64 w97),(.slice (Rw Op.cells u101.ops) .no),(.int .i64 w115),(.int .i64 r.2.2.1)],([.cells [(.int .i64 p0.temps),(.slice (Rw mL.cells p0.arrays) .no),(.slice (Rw lR.cells p0.blocks) .no),(.int .i64 p0.inn),(.int .i64 p0.out)],.front 0 0,Vc Span.cells 2 r.2.2.2,.cells [(.slice (Rw Op.cells u101.ops) .no),(.int .i64 u101.term.kind),(.int .i64 u101.term.a),(.int .i64 u101.term.yes),(.int .i64 u101.term.no)],.front 0 0]:kU)):=by
 exact w_ (enc:=fun s116=>([(.slice (Rw Span.cells []) (.own 1)),(.int .i64 0),(.slice (Rw (AB (ci .i64)) w78) .no),(.slice (Rw (AB (ci .i64)) w79) .no),(.vslice 2 (List.length l38) 0 (List.length l38) 2),(.int .i64 s116.1),(.int .i64 w97),(.ptr 3 0),(.slice (Rw lR.cells p0.blocks) .no),(.int .i64 w82),(.int .i64 w97),(.slice (Rw Op.cells u101.ops) .no),(.int .i64 w115),(.int .i64 s116.2.1)],([.cells [(.int .i64 p0.temps),(.slice (Rw mL.cells p0.arrays) .no),(.slice (Rw lR.cells p0.blocks) .no),(.int .i64 p0.inn),(.int .i64 p0.out)],.front 0 0,Vc Span.cells 2 s116.2.2,.cells [(.slice (Rw Op.cells u101.ops) .no),(.int .i64 u101.term.kind),(.int .i64 u101.term.a),(.int .i64 u101.term.yes),(.int .i64 u101.term.no)],.front 0 0]:kU))) (fun s116=>am8 w78 w79 l38 w97 p0 w82 u101 w115 s116) (i5,i12,i14)
theorem afH (y0:Int) (h:kU):lU 1 1 [(.int .i64 0)] [(0,(.int .i64 y0))] h=some (.slice (Rw (ci .i64) [y0]) (.own h.length),h++[pR 1 1]):=by
 rfl
theorem anZ (l38:(List Span)) (w203:Int) (w215:(List Int)) (p0:IR) (w207:(List Span)) (u101:lR):KK 83 [(.vslice 2 (List.length l38) 0 (List.length l38) 2),(.int .i64 w203),(.slice (Rw (ci .i64) w215) .no)] ([.cells [(.int .i64 p0.temps),(.slice (Rw mL.cells p0.arrays) .no),(.slice (Rw lR.cells p0.blocks) .no),(.int .i64 p0.inn),(.int .i64 p0.out)],.front 0 0,Vc Span.cells 2 w207,.cells [(.slice (Rw Op.cells u101.ops) .no),(.int .i64 u101.term.kind),(.int .i64 u101.term.a),(.int .i64 u101.term.yes),(.int .i64 u101.term.no)],.front 0 0,pR 1 1]:kU)=tm (t83 (List.length l38) w203 w215 w207) fun r=>(.ret (.tuple []),([.cells [(.int .i64 p0.temps),(.slice (Rw mL.cells p0.arrays) .no),(.slice (Rw lR.cells p0.blocks) .no),(.int .i64 p0.inn),(.int .i64 p0.out)],.front 0 0,Vc Span.cells 2 r,.cells [(.slice (Rw Op.cells u101.ops) .no),(.int .i64 u101.term.kind),(.int .i64 u101.term.a),(.int .i64 u101.term.yes),(.int .i64 u101.term.no)],.front 0 0,pR 1 1]:kU)):=by
 refine xT (ids:=[2]) rfl rfl ?_ ?_ rfl ?_ (Lj ..) (b83 (List.length l38) w203 w215 w207) fun r=>?_
 all_goals simp
noncomputable def OY (K:lD) (m:Nat) (t202:kS) (aK:kS) (aL:kU) (aA:kS) (aB:kS) (aG:kS) (aH:kS) (aI:kS) (aJ:kS) (aC:kS) (aD:kS) (aE:kS) (aF:kS):Option R :=
 lP t202 (fa 1 aK fun t208=>fa 1 t208 fun t209=>ld false 1 aL t209 fun t210=>lK (lU 1 1 [(.int .i64 0)] [(0,t210)] aL) fun t211 aM=>ca (K 83 [(kS.k8 aA),(kS.k8 aB),(kS.k8 t211)] aM) fun t213 aN=>lJ m .normal [aG,aH,aI,aJ,aA,aB,aC,aD,aE,aF] aN) (lJ m .normal [aG,aH,aI,aJ,aA,aB,aC,aD,aE,aF] aL)
noncomputable def EI (aD:Bool) (aA:(List Span)) (aB:lR) (aE:(List Span)) (aC:Int):Option ((List Span)) :=
 tc aD (tb ((t83 (List.length aE) aC [aB.term.a] aA)) fun arU=>some arU) (some aA)
theorem aiV (w206:Bool) (p0:IR) (w207:(List Span)) (u101:lR) (l38:(List Span)) (w203:Int) (w78:(List (List Int))) (w79:(List (List Int))) (w97:Int) (w82:Int):(OY KK 5 (.bool w206) (.ptr 3 0) ([.cells [(.int .i64 p0.temps),(.slice (Rw mL.cells p0.arrays) .no),(.slice (Rw lR.cells p0.blocks) .no),(.int .i64 p0.inn),(.int .i64 p0.out)],.front 0 0,Vc Span.cells 2 w207,.cells [(.slice (Rw Op.cells u101.ops) .no),(.int .i64 u101.term.kind),(.int .i64 u101.term.a),(.int .i64 u101.term.yes),(.int .i64 u101.term.no)],.front 0 0]:kU) (.vslice 2 (List.length l38) 0 (List.length l38) 2) (.int .i64 w203) (.slice (Rw Span.cells []) (.own 1)) (.int .i64 0) (.slice (Rw (AB (ci .i64)) w78) .no) (.slice (Rw (AB (ci .i64)) w79) .no) (.int .i64 w97) (.slice (Rw lR.cells p0.blocks) .no) (.int .i64 w82) (.int .i64 w97))=tm (EI w206 w207 u101 l38 w203) fun r=>(.normal,[(.slice (Rw Span.cells []) (.own 1)),(.int .i64 0),(.slice (Rw (AB (ci .i64)) w78) .no),(.slice (Rw (AB (ci .i64)) w79) .no),(.vslice 2 (List.length l38) 0 (List.length l38) 2),(.int .i64 w203),(.int .i64 w97),(.slice (Rw lR.cells p0.blocks) .no),(.int .i64 w82),(.int .i64 w97)],([.cells [(.int .i64 p0.temps),(.slice (Rw mL.cells p0.arrays) .no),(.slice (Rw lR.cells p0.blocks) .no),(.int .i64 p0.inn),(.int .i64 p0.out)],.front 0 0,Vc Span.cells 2 r,.cells [(.slice (Rw Op.cells u101.ops) .no),(.int .i64 u101.term.kind),(.int .i64 u101.term.a),(.int .i64 u101.term.yes),(.int .i64 u101.term.no)],.front 0 0]:kU)):=by
 simp +contextual -implicitDefEqProofs (maxSteps:=2000000) [-lQ,-lF,-k9,-k_,-lG,-lN,-lC,OY,EI,afH,anZ]
theorem an0 (l38:(List Span)) (w234:Int) (u230:(List Int)) (p0:IR) (r217:(List Span)) (u101:lR):KK 83 [(.vslice 2 (List.length l38) 0 (List.length l38) 2),(.int .i64 w234),(.slice (Rw (ci .i64) u230) .no)] ([.cells [(.int .i64 p0.temps),(.slice (Rw mL.cells p0.arrays) .no),(.slice (Rw lR.cells p0.blocks) .no),(.int .i64 p0.inn),(.int .i64 p0.out)],.front 0 0,Vc Span.cells 2 r217,.cells [(.slice (Rw Op.cells u101.ops) .no),(.int .i64 u101.term.kind),(.int .i64 u101.term.a),(.int .i64 u101.term.yes),(.int .i64 u101.term.no)],.front 0 0]:kU)=tm (t83 (List.length l38) w234 u230 r217) fun r=>(.ret (.tuple []),([.cells [(.int .i64 p0.temps),(.slice (Rw mL.cells p0.arrays) .no),(.slice (Rw lR.cells p0.blocks) .no),(.int .i64 p0.inn),(.int .i64 p0.out)],.front 0 0,Vc Span.cells 2 r,.cells [(.slice (Rw Op.cells u101.ops) .no),(.int .i64 u101.term.kind),(.int .i64 u101.term.a),(.int .i64 u101.term.yes),(.int .i64 u101.term.no)],.front 0 0]:kU)):=by
 refine xT (ids:=[2]) rfl rfl ?_ ?_ rfl ?_ (Lj ..) (b83 (List.length l38) w234 u230 r217) fun r=>?_
 all_goals simp
noncomputable def Tg (K:lD) (m:Nat) (aI:kS) (aC:kS) (b6:kU) (aX:kS) (aY:kS) (aZ:kS) (bG:kS) (bH:kS) (bI:kS) (a_:kS):Option R :=
 ix 5 aI aC fun t100=>ld true 5 b6 t100 fun bQ=>lK (mH 5 b6 (.agg [(.slice (Rw Op.cells []) .nil),(.int .i64 0),(.int .i64 0),(.int .i64 0),(.int .i64 0)])) fun a7 bO=>(lT 5 bO a7 bQ).bind fun bD=>ix 1 aX aC fun bR=>ld false 1 bD bR fun bS=>ca (K 83 [(kS.k8 aY),(kS.k8 aZ),(kS.k8 bS)] bD) fun b7 a6=>fa 0 a7 fun bT=>ld false 1 a6 bT fun bF=>ln bF fun bU=>(mQ (O0 K (List.length a6)) ([bG,bH,aX,bI,aY,aZ,aC,a7,aI,a_,aC,bF,bU,(.int .i64 0)],a6)).bind fun aA=>(fun aH aJ aK aL aN aP aS aD aE aF aG bJ bK bL aR=>Ex.mC aA.1 none (fun bM=>Ex.inBlock 4 bM (fa 1 aD fun bV=>fa 0 bV fun bW=>ld false 1 aR bW fun t201=>bo .eql t201 (.int .i64 2) fun t202=>(OY K (List.length aR) t202 aD aR aN aP aH aJ aK aL aS aE aF aG).bind fun aB=>(fun a8 bA bB aM aO aQ aT aU aV aW bE=>Ex.uO aB.1 (ix 1 aM aT fun bX=>ld false 1 bE bX fun bY=>ca (K 83 [(kS.k8 aO),(kS.k8 aQ),(kS.k8 bY)] bE) fun b_ bP=>bo .add aQ (.int .i64 1) fun bZ=>lJ m .normal [a8,bA,bB,aM,aO,bZ,aU,aV,aW] bP)) (gd aB.2.1 0) (gd aB.2.1 1) (gd aB.2.1 2) (gd aB.2.1 3) (gd aB.2.1 4) (gd aB.2.1 5) (gd aB.2.1 6) (gd aB.2.1 7) (gd aB.2.1 8) (gd aB.2.1 9) aB.2.2) (fun bN=>lJ m bN [aH,aJ,aK,aL,aN,aP,aE,aF,aG] aR))) (gd aA.2.1 0) (gd aA.2.1 1) (gd aA.2.1 2) (gd aA.2.1 3) (gd aA.2.1 4) (gd aA.2.1 5) (gd aA.2.1 6) (gd aA.2.1 7) (gd aA.2.1 8) (gd aA.2.1 9) (gd aA.2.1 10) (gd aA.2.1 11) (gd aA.2.1 12) (gd aA.2.1 13) aA.2.2
noncomputable def LZ (p0:IR) (aK:Int) (aO:(List Span)) (aM:(List (List Int))) (aC:(List Span)) (aL:Int) (aN:(List (List Int))):Option (Ey×Int×(List Span)) :=
 tb ((pF p0.blocks aK)) fun aB=>tb ((pF aM aK)) fun aI=>tb ((t83 (List.length aC) aL aI aO)) fun aF=>tb (vB (FP aC aB ((List.length aB.ops:Nat):Int)) (aL,0,aF)) fun aA=>uF aA.1 none fun aD=>wR 4 aD (tb (EI (decide (aB.term.kind=2)) aA.2.2.2 aB aC aA.2.1) fun aG=>tb ((pF aN aK)) fun aJ=>tb ((t83 (List.length aC) aA.2.1 aJ aG)) fun aH=>some (.n,((IntKind.wrap .i64 (aA.2.1+1)),aH))) fun aE=>some (aE,(aA.2.1,aA.2.2.2))
theorem arW (p0:IR) (w97:Int) (w99:(List Span)) (w78:(List (List Int))) (l38:(List Span)) (w96:Int) (w79:(List (List Int))) (w82:Int):(Tg KK 3 (.slice (Rw lR.cells p0.blocks) .no) (.int .i64 w97) ([.cells [(.int .i64 p0.temps),(.slice (Rw mL.cells p0.arrays) .no),(.slice (Rw lR.cells p0.blocks) .no),(.int .i64 p0.inn),(.int .i64 p0.out)],.front 0 0,Vc Span.cells 2 w99]:kU) (.slice (Rw (AB (ci .i64)) w78) .no) (.vslice 2 (List.length l38) 0 (List.length l38) 2) (.int .i64 w96) (.slice (Rw Span.cells []) (.own 1)) (.int .i64 0) (.slice (Rw (AB (ci .i64)) w79) .no) (.int .i64 w82))=tm (LZ p0 w97 w99 w78 l38 w96 w79) fun r=>(r.1.ex,[(.slice (Rw Span.cells []) (.own 1)),(.int .i64 0),(.slice (Rw (AB (ci .i64)) w78) .no),(.slice (Rw (AB (ci .i64)) w79) .no),(.vslice 2 (List.length l38) 0 (List.length l38) 2),(.int .i64 r.2.1),(.slice (Rw lR.cells p0.blocks) .no),(.int .i64 w82),(.int .i64 w97)],([.cells [(.int .i64 p0.temps),(.slice (Rw mL.cells p0.arrays) .no),(.slice (Rw lR.cells p0.blocks) .no),(.int .i64 p0.inn),(.int .i64 p0.out)],.front 0 0,Vc Span.cells 2 r.2.2]:kU)):=by
 simp +contextual -implicitDefEqProofs (maxSteps:=2000000) [-lQ,-lF,-k9,-k_,-lG,-lN,-lC,Tg,LZ,awR,arZ,aiV,an0]
noncomputable def Jw (K:lD) (m:Nat) (s:List kS×kU):Option R :=
 (fun aN aO aP aQ aR aS aH aB aC aV=>bo .lss aC aB fun t95=>lP t95 ((Tg K (List.length aV) aH aC aV aP aR aS aN aO aQ aB).bind fun aA=>(fun aG aI aJ aK aL aM aD aE aF aT=>Ex.inBlock 3 aA.1 (bo .add aF (.int .i64 1) fun aW=>lJ m .normal [aG,aI,aJ,aK,aL,aM,aD,aE,aW] aT) (fun aU=>lJ m aU [aG,aI,aJ,aK,aL,aM,aD,aE,aF] aT)) (gd aA.2.1 0) (gd aA.2.1 1) (gd aA.2.1 2) (gd aA.2.1 3) (gd aA.2.1 4) (gd aA.2.1 5) (gd aA.2.1 6) (gd aA.2.1 7) (gd aA.2.1 8) aA.2.2) (lJ m (.exit 2) [aN,aO,aP,aQ,aR,aS,aH,aB,aC] aV)) (gd s.1 0) (gd s.1 1) (gd s.1 2) (gd s.1 3) (gd s.1 4) (gd s.1 5) (gd s.1 6) (gd s.1 7) (gd s.1 8) s.2
noncomputable def EJ (aE:(List (List Int))) (aF:(List (List Int))) (aD:(List Span)) (p0:IR) (aG:Int) (aB:Int×Int×(List Span)):Option (Ey×Int×Int×(List Span)) :=
 tc (decide (aB.2.1 < aG)) (tb (LZ p0 aB.2.1 aB.2.2 aE aD aB.1 aF) fun aA=>wR 3 aA.1 (some (.n,(aA.2.1,(IntKind.wrap .i64 (aB.2.1+1)),aA.2.2))) fun aC=>some (aC,(aA.2.1,aB.2.1,aA.2.2))) (some ((.x 2),(aB.1,aB.2.1,aB.2.2)))
theorem afC (w78:(List (List Int))) (w79:(List (List Int))) (l38:(List Span)) (p0:IR) (w82:Int) (s84:Int×Int×(List Span)):Jw KK 3 ([(.slice (Rw Span.cells []) (.own 1)),(.int .i64 0),(.slice (Rw (AB (ci .i64)) w78) .no),(.slice (Rw (AB (ci .i64)) w79) .no),(.vslice 2 (List.length l38) 0 (List.length l38) 2),(.int .i64 s84.1),(.slice (Rw lR.cells p0.blocks) .no),(.int .i64 w82),(.int .i64 s84.2.1)],([.cells [(.int .i64 p0.temps),(.slice (Rw mL.cells p0.arrays) .no),(.slice (Rw lR.cells p0.blocks) .no),(.int .i64 p0.inn),(.int .i64 p0.out)],.front 0 0,Vc Span.cells 2 s84.2.2]:kU))=tm (EJ w78 w79 l38 p0 w82 s84) fun r=>(r.1.ex,[(.slice (Rw Span.cells []) (.own 1)),(.int .i64 0),(.slice (Rw (AB (ci .i64)) w78) .no),(.slice (Rw (AB (ci .i64)) w79) .no),(.vslice 2 (List.length l38) 0 (List.length l38) 2),(.int .i64 r.2.1),(.slice (Rw lR.cells p0.blocks) .no),(.int .i64 w82),(.int .i64 r.2.2.1)],([.cells [(.int .i64 p0.temps),(.slice (Rw mL.cells p0.arrays) .no),(.slice (Rw lR.cells p0.blocks) .no),(.int .i64 p0.inn),(.int .i64 p0.out)],.front 0 0,Vc Span.cells 2 r.2.2.2]:kU)):=by
 simp +contextual -implicitDefEqProofs (maxSteps:=2000000) [-lQ,-lF,-k9,-k_,-lG,-lN,-lC,Jw,EJ,arW]
theorem aiW (w78:(List (List Int))) (w79:(List (List Int))) (l38:(List Span)) (p0:IR) (w82:Int) (i5:Int) (i8:Int) (i10:(List Span)):mQ (Jw KK 3) ([(.slice (Rw Span.cells []) (.own 1)),(.int .i64 0),(.slice (Rw (AB (ci .i64)) w78) .no),(.slice (Rw (AB (ci .i64)) w79) .no),(.vslice 2 (List.length l38) 0 (List.length l38) 2),(.int .i64 i5),(.slice (Rw lR.cells p0.blocks) .no),(.int .i64 w82),(.int .i64 i8)],([.cells [(.int .i64 p0.temps),(.slice (Rw mL.cells p0.arrays) .no),(.slice (Rw lR.cells p0.blocks) .no),(.int .i64 p0.inn),(.int .i64 p0.out)],.front 0 0,Vc Span.cells 2 i10]:kU))=tm (vB (EJ w78 w79 l38 p0 w82) (i5,i8,i10)) fun r=>(r.1.ex,[(.slice (Rw Span.cells []) (.own 1)),(.int .i64 0),(.slice (Rw (AB (ci .i64)) w78) .no),(.slice (Rw (AB (ci .i64)) w79) .no),(.vslice 2 (List.length l38) 0 (List.length l38) 2),(.int .i64 r.2.1),(.slice (Rw lR.cells p0.blocks) .no),(.int .i64 w82),(.int .i64 r.2.2.1)],([.cells [(.int .i64 p0.temps),(.slice (Rw mL.cells p0.arrays) .no),(.slice (Rw lR.cells p0.blocks) .no),(.int .i64 p0.inn),(.int .i64 p0.out)],.front 0 0,Vc Span.cells 2 r.2.2.2]:kU)):=by
 exact w_ (enc:=fun s84=>([(.slice (Rw Span.cells []) (.own 1)),(.int .i64 0),(.slice (Rw (AB (ci .i64)) w78) .no),(.slice (Rw (AB (ci .i64)) w79) .no),(.vslice 2 (List.length l38) 0 (List.length l38) 2),(.int .i64 s84.1),(.slice (Rw lR.cells p0.blocks) .no),(.int .i64 w82),(.int .i64 s84.2.1)],([.cells [(.int .i64 p0.temps),(.slice (Rw mL.cells p0.arrays) .no),(.slice (Rw lR.cells p0.blocks) .no),(.int .i64 p0.inn),(.int .i64 p0.out)],.front 0 0,Vc Span.cells 2 s84.2.2]:kU))) (fun s84=>afC w78 w79 l38 p0 w82 s84) (i5,i8,i10)
noncomputable def m45 (K:lD) (a0:kS) (h0:kU):Option (nZ×kU) :=
 (lK (mH 5 h0 a0) fun aT a6=>(fun(bF:kS) (a7:kU)=>ld true 5 a7 aT fun bG=>ca (K 27 [(kS.k8 bG)] a7) fun aU aM=>(lZ 0 aU).bind fun bH=>(lZ 1 aU).bind fun bI=>(lZ 2 aU).bind fun t30=>bo .neq t30 (.int .i64 0) fun bJ=>lP bJ ((fun(bK:kS) (bE:kU)=>some (.ret,[bK,t30],bE)) (.slice (Rw Span.cells []) (.own (List.length aM))) (aM++[.front 0 0])) (fa 0 aT fun bL=>ld false 1 aM bL fun bM=>lK (nM 2 16 [(.int .i64 0),(.int .i64 0)] bM aM) fun a_ a8=>ln a_ fun t39=>(mQ (OZ K (List.length a8)) ([aT,bF,(.int .i64 0),bH,bI,a_,t39,(.int .i64 0)],a8)).bind fun aB=>(fun aI aC aD aJ aK aL aV aW aN=>Ex.mC aB.1 none (fun bB=>Ex.inBlock 0 bB (fa 2 aI fun bN=>ld false 1 aN bN fun bA=>ln bA fun bO=>(mQ (Jw K (List.length aN)) ([aC,aD,aJ,aK,aL,(.int .i64 0),bA,bO,(.int .i64 0)],aN)).bind fun aA=>(fun aE aF aX aY aG aZ aO aP aQ aH=>Ex.mC aA.1 none (fun aR=>Ex.inBlock 2 aR (some (.ret,[aG,(.int .i64 0)],aH)) (fun aS=>some (aS,[aE,aF],aH)))) (gd aA.2.1 0) (gd aA.2.1 1) (gd aA.2.1 2) (gd aA.2.1 3) (gd aA.2.1 4) (gd aA.2.1 5) (gd aA.2.1 6) (gd aA.2.1 7) (gd aA.2.1 8) aA.2.2) (fun bD=>some (bD,[aC,aD],aN)))) (gd aB.2.1 0) (gd aB.2.1 1) (gd aB.2.1 2) (gd aB.2.1 3) (gd aB.2.1 4) (gd aB.2.1 5) (gd aB.2.1 6) (gd aB.2.1 7) aB.2.2)) (.slice (Rw Span.cells []) (.own (List.length a6))) (a6++[.front 0 0])).bind (aaR (List.length h0))
theorem ap8 (K:lD) (a0:kS) (h0:kU):qA Tryd.prog nA mQ K 45 [a0] h0=m45 (mP nA K) a0 h0:=by kernel_rfl
end Go.Proofs.YtkeoalhglkfbkaaDoor


namespace Go.Proofs.YtkeoalhglkfbkaaDoor
open Go Hk
def ET (s:Span) (a:Int):Span:=if s.first < 0 then⟨a,a⟩ else⟨min s.first a,max s.last a⟩
def EX (l:List Span) (a:Int) (t:Int):List Span:=match l[t.toNat]? with
 | some s=>l.set t.toNat (ET s a)
 | none=>l
theorem ajW {l:List Span}{a t:Int}:(EX l a t).length=l.length:=by unfold EX; split <;> simp
theorem RI {a:Int}:∀{ts:List Int}{l:List Span},(ts.foldl (EX · a) l).length=l.length
 | [],_=>rfl
 | t::ts,l=>by rw [List.foldl_cons,RI,ajW]
theorem Ry {l:List Span}{n:Nat}{a:Int}{ts:List Int}(hn:l.length=n) (ha:0≤a) (hl:ts.length≤2000000) (ht:∀t∈ts,0≤t∧t.toNat < n):t83 n a ts l=some (ts.foldl (EX · a) l):=by
 have key:∀(d i:Nat),ts.length=i+d→vB (DQ n a ts ((ts.length:Nat):Int)) ((i:Int),(ts.take i).foldl (EX · a) l)=some (.x 0,((ts.length:Int),ts.foldl (EX · a) l)):=by
  intro d
  induction d with
  | zero =>
   intro i hi
   obtain rfl:i=ts.length:=by omega
   rw [List.take_length]
   refine qQ ?_ (by simp)
   simp [DQ]
  | succ d ih =>
   intro i hi
   rw [←ih (i+1) (by omega)]
   refine rJ ?_
   have hil:i < ts.length:=by omega
   have e1:pF ts (i:Int)=some ts[i]:=by rw [oY,List.getElem?_eq_getElem hil]
   have w1:IntKind.i64.wrap ((i:Int)+1)=((i+1:Nat):Int):=by rw [wrap64 (by omega) (by omega),Int.natCast_add]; rfl
   have hii:(i:Int) < (ts.length:Int):=by omega
   obtain⟨h0,h1⟩:=ht _ (List.getElem_mem hil)
   have hLl:((ts.take i).foldl (EX · a) l).length=n:=by rw [RI,hn]
   have hstep:(ts.take (i+1)).foldl (EX · a) l=EX ((ts.take i).foldl (EX · a) l) a ts[i]:=by
    rw [List.take_succ_eq_append_getElem hil,List.foldl_append]; rfl
   rw [hstep]
   generalize (ts.take i).foldl (EX · a) l=L at *
   generalize ts[i]=t at *
   have hin:zQ n t=some t.toNat:=by unfold zQ; rw [if_pos ⟨h0,by omega⟩]
   have hg:∀(L:List Span),L.length=n→sN n L t.toNat=L[t.toNat]?:=fun L h=>by unfold sN; rw [if_pos h]
   have hs:∀(L:List Span) (x:Span),L.length=n→AY n L t.toNat x=some (L.set t.toNat x):=fun L x h=>by unfold AY; rw [if_pos ⟨h,by omega⟩]
   have hLt:L[t.toNat]?=some L[t.toNat]:=List.getElem?_eq_getElem (by omega)
   have hU:EX L a t=L.set t.toNat (ET L[t.toNat] a):=by unfold EX; rw [hLt]
   rw [hU]
   generalize L[t.toNat]=s at *
   have hset:∀x:Span,(L.set t.toNat x)[t.toNat]?=some x:=fun x=>List.getElem?_set_self (by omega)
   have hlen:∀x:Span,(L.set t.toNat x).length=n:=fun x=>by rw [List.length_set]; exact hLl
   by_cases hf:s.first < 0
   ·have hj:F3 true a n t L=some (L.set t.toNat ⟨a,a⟩):=by simp [F3,hin,hg L hLl,hLt,hs L _ hLl]
    have hE:ET s a=⟨a,a⟩:=by unfold ET; rw [if_pos hf]
    simp only [DQ,e1,hii,decide_true,oE,mE,hin,hg L hLl,hLt,hf,hj,hg _ (hlen _),hset,hs _ _ (hlen _),List.set_set,w1,hE]
    simp
   ·have hj:F3 false a n t L=some L:=by simp [F3]
    have hE:ET s a=⟨min s.first a,max s.last a⟩:=by unfold ET; rw [if_neg hf]
    simp only [DQ,e1,hii,decide_true,oE,mE,hin,hg L hLl,hLt,hf,decide_false,hj,hs L _ hLl,hg _ (hlen _),hset,hs _ _ (hlen _),List.set_set,w1,hE]
 have:=key ts.length 0 (by omega)
 have e0:((0:Nat):Int)=0:=rfl
 rw [e0,List.take_zero,List.foldl_nil] at this
 simp [t83,this]
def rW (m:List Bool):Span:=(m.foldl (fun(st:Nat×Span) b=>(st.1+1,if b then ET st.2 (st.1:Int) else st.2)) (0,⟨-1,-1⟩)).2
theorem XE (m:List Bool) (st:Nat×Span):(m.foldl (fun(st:Nat×Span) b=>(st.1+1,if b then ET st.2 (st.1:Int) else st.2)) st).1=st.1+m.length:=by
 induction m generalizing st with
 | nil=>rfl
 | cons b m ih=>rw [List.foldl_cons,ih]; simp; omega
theorem uB (m:List Bool) (b:Bool):rW (m++[b])=if b then ET (rW m) (m.length:Int) else rW m:=by
 unfold rW
 rw [List.foldl_append]
 have:=XE m (0,⟨-1,-1⟩)
 simp only [Nat.zero_add] at this
 simp only [List.foldl_cons,List.foldl_nil,this]
theorem SG {s:Span}{a:Int}(ha:0≤a):ET (ET s a) a=ET s a:=by
 unfold ET
 by_cases h:s.first < 0
 ·simp only [h,if_true]
  rw [if_neg (by omega)]
  simp
 ·simp only [h,if_false]
  have:¬(min s.first a < 0):=by omega
  rw [if_neg this]
  congr 1 <;> omega
def LS (N:Nat) (F:Nat→List Bool):List Span:=(List.range N).map fun t=>rW (F t)
theorem wT {N:Nat}{F:Nat→List Bool}:(LS N F).length=N:=by simp [LS]
theorem P4 {N:Nat}{F G:Nat→List Bool}(h:∀t,t < N→F t=G t):LS N F=LS N G:=by
 unfold LS
 refine List.map_congr_left fun t ht=>?_
 rw [h t (List.mem_range.1 ht)]
theorem amO {N a:Nat}{M:Nat→List Bool}{c:Nat→Bool}(hM:∀t,(M t).length=a) (u:Int):EX (LS N fun t=>M t++[c t]) (a:Int) u=LS N fun t=>M t++[c t || decide (t=u.toNat)]:=by
 apply List.ext_getElem?
 intro j
 unfold EX
 by_cases hu:u.toNat < N
 ·have e:(LS N fun t=>M t++[c t])[u.toNat]?=some (rW (M u.toNat++[c u.toNat])):=by
   unfold LS; rw [List.getElem?_map,List.getElem?_range hu]; rfl
  rw [e]
  simp only
  rw [List.getElem?_set]
  by_cases hj:u.toNat=j
  ·subst hj
   rw [if_pos rfl,if_pos (by rw [wT]; exact hu)]
   unfold LS
   rw [List.getElem?_map,List.getElem?_range hu]
   simp only [Option.map_some,decide_true,Bool.or_true]
   rw [uB,uB,hM]
   cases c u.toNat with
   | true=>simp [SG (Int.natCast_nonneg a)]
   | false=>simp
  ·rw [if_neg hj]
   unfold LS
   rw [List.getElem?_map,List.getElem?_map]
   by_cases hjN:j < N
   ·rw [List.getElem?_range hjN]
    have:¬j=u.toNat:=fun e=>hj e.symm
    simp [this]
   ·have:(List.range N)[j]?=none:=by simp; omega
    rw [this]; rfl
 ·have e:(LS N fun t=>M t++[c t])[u.toNat]?=none:=by
   rw [List.getElem?_eq_none_iff,wT]; omega
  rw [e]
  simp only
  unfold LS
  rw [List.getElem?_map,List.getElem?_map]
  by_cases hjN:j < N
  ·rw [List.getElem?_range hjN]
   have:¬j=u.toNat:=by omega
   simp [this]
  ·have:(List.range N)[j]?=none:=by simp; omega
   rw [this]; rfl
def xK (ts:List Int) (t:Nat):Bool:=ts.any fun u=>decide (t=u.toNat)
theorem D_ {N a:Nat}{M:Nat→List Bool}(hM:∀t,(M t).length=a):∀(ts:List Int) (c:Nat→Bool),ts.foldl (EX · (a:Int)) (LS N fun t=>M t++[c t])=LS N fun t=>M t++[c t || xK ts t]
 | [],c=>by simp [xK]
 | u::ts,c=>by
  rw [List.foldl_cons,amO hM,D_ hM ts]
  refine P4 fun t _=>?_
  simp [xK,Bool.or_assoc]
end Go.Proofs.YtkeoalhglkfbkaaDoor


namespace Go.Proofs.YtkeoalhglkfbkaaDoor
open Go Hk
def Mf (o:Op) (t:Nat):Bool:=xK (mU o) t || ((mM o.kind).dst && decide (t=o.dst.toNat))
def tE (b:lR) (t:Nat):Bool:=decide (b.term.kind=2) && decide (t=b.term.a.toNat)
def sC (c:Bool):List Bool→List Bool
 | []=>[]
 | x::r=>(c || x)::r
def mB (inn out:Bool) (b:lR) (t:Nat):List Bool:=sC inn (b.ops.map (fun o=>Mf o t)++[tE b t || out])
theorem E6 (l:List Bool):sC false l=l:=by cases l <;> simp [sC]
theorem Q_ (c:Bool) (l:List Bool):(sC c l).length=l.length:=by cases l <;> rfl
theorem aa9 {i o:Bool}{b:lR}{t:Nat}:(mB i o b t).length=b.ops.length+1:=by simp [mB,Q_]
open Classical in
noncomputable def xA (p:IR) (k:Nat) (t:Nat):List Bool:=match p.blocks[k]? with
 | some b=>mB (decide (Reach p.blocks (t:Int) k)) (decide (pO p.blocks (t:Int) b.term)) b t
 | none=>[]
noncomputable def s_ (p:IR) (k:Nat) (t:Nat):List Bool:=(List.range k).flatMap fun i=>xA p i t
theorem Aq {p:IR}{k t:Nat}:s_ p (k+1) t=s_ p k t++xA p k t:=by simp [s_,List.range_succ]
noncomputable def mF (p:IR):List Span:=LS p.temps.toNat (s_ p p.blocks.length)
theorem P_ {N:Nat}{f:Nat→List Bool}:(LS N fun t=>f t++[false])=LS N f:=by
 unfold LS; refine List.map_congr_left fun t _=>?_; rw [uB]; rfl
section
variable {p:IR}(hp:yT p) {N:Nat}(hN:(N:Int)=p.temps)
include hp hN
theorem acZ {b:lR}(hb:b∈p.blocks) {l38:List Span}(hl:l38.length=N):∀(d k a:Nat) (D:Nat→List Bool) (c:Nat→Bool),b.ops.length=k+d→(∀t,(D t).length=a)→a+d≤4000000000000 →
  ∃(D':Nat→List Bool) (c':Nat→Bool),vB (FP l38 b ((b.ops.length:Nat):Int)) ((a:Int),(k:Int),LS N fun t=>D t++[c t])=some (.x 4,(((a+d:Nat):Int),(b.ops.length:Int),LS N fun t=>D' t++[c' t])) ∧
   (∀t,(D' t).length=a+d)∧∀t e,D' t++[c' t || e]=D t++sC (c t) ((b.ops.drop k).map (fun o=>Mf o t)++[e]):=by
 intro d
 induction d with
 | zero =>
  intro k a D c hk hD ha
  obtain rfl:k=b.ops.length:=by omega
  refine⟨D,c,qQ ?_ (by simp),hD,fun t e=>by simp [sC]⟩
  simp [FP]
 | succ d ih =>
  intro k a D c hk hD ha
  have hil:k < b.ops.length:=by omega
  have hm:=List.getElem_mem hil
  have h1:=hp.len b hb
  have hset:∀(f:Nat→List Bool),LS N f=LS N fun t=>f t++[false]:=fun f=>by
   unfold LS; refine List.map_congr_left fun t _=>?_; rw [uB]; rfl
  obtain⟨D',c',e1,e2,e3⟩:=ih (k+1) (a+1) (fun t=>D t++[c t || Mf b.ops[k] t]) (fun _=>false) (by omega) (fun t=>by simp [hD]) (by omega)
  refine⟨D',c',?_,fun t=>by rw [e2]; omega,fun t e=>?_⟩
  ·rw [show a+(d+1)=a+1+d by omega,←e1]
   refine rJ ?_
   have ei:pF b.ops (k:Int)=some b.ops[k]:=by rw [oY,List.getElem?_eq_getElem hil]
   have hii:(k:Int) < (b.ops.length:Int):=by omega
   have w1:IntKind.i64.wrap ((k:Int)+1)=((k+1:Nat):Int):=by rw [wrap64 (by omega) (by omega),Int.natCast_add]; rfl
   have w2:IntKind.i64.wrap ((a:Int)+1)=((a+1:Nat):Int):=by rw [wrap64 (by omega) (by omega),Int.natCast_add]; rfl
   have hu:=hp.use b hb _ hm
   have hd:=hp.made b hb _ hm
   have hul:(mU b.ops[k]).length≤2000000:=by
    unfold mU; rw [List.length_take]; simp; omega
   generalize b.ops[k]=o at *
   have h83:=Ry (l:=LS N fun t=>D t++[c t]) (n:=N) (a:=(a:Int)) (ts:=mU o) wT (by omega) hul (fun t ht=>by have:=hu t ht; omega)
   rw [D_ hD] at h83
   simp only [FP,hl,ei,hii,decide_true,oE,mE,t74,t73,h83,w1,w2]
   cases hdst:(mM o.kind).dst with
   | false =>
    have hj:FO false (LS N fun t=>D t++[c t || xK (mU o) t]) o l38 (a:Int)=some (LS N fun t=>D t++[c t || xK (mU o) t]):=by simp [FO]
    rw [hj,mE,hset (fun t=>D t++[c t || xK (mU o) t])]
    simp only [Mf,hdst,Bool.false_and,Bool.or_false]
   | true =>
    have hd':=hd hdst
    have h83':=Ry (l:=LS N fun t=>D t++[c t || xK (mU o) t]) (n:=N) (a:=(a:Int)) (ts:=[o.dst]) wT (by omega) (by simp) (fun t ht=>by simp at ht; subst ht; omega)
    have h2:=D_ (N:=N) hD [o.dst] (fun t=>c t || xK (mU o) t)
    rw [h2] at h83'
    have hj:FO true (LS N fun t=>D t++[c t || xK (mU o) t]) o l38 (a:Int)=some (LS N fun t=>D t++[(c t || xK (mU o) t) || xK [o.dst] t]):=by
     simp only [FO,oE,hl,h83',mE]
    rw [hj,mE,hset (fun t=>D t++[(c t || xK (mU o) t) || xK [o.dst] t])]
    simp only [Mf,hdst,Bool.true_and,xK,List.any_cons,List.any_nil,Bool.or_false,Bool.or_assoc]
  ·rw [e3,E6,List.drop_eq_getElem_cons hil,List.map_cons,List.cons_append,List.append_assoc]
   rfl
open Classical in
theorem afS {k:Nat}(hk:k < p.blocks.length) {t:Nat}(ht:t < N):xK (rI p k) t=decide (Reach p.blocks (t:Int) k):=by
 rw [Bool.eq_iff_iff]
 unfold xK
 rw [List.any_eq_true,decide_eq_true_iff]
 constructor
 ·rintro⟨u,hu,h⟩
  obtain⟨h0,_,h2⟩:=AK.1 hu
  have:(t:Int)=u:=by have:=of_decide_eq_true h; omega
  rw [this]; exact h2
 ·intro h
  exact⟨(t:Int),AK.2 ⟨by omega,by omega,h⟩,by simp⟩
open Classical in
theorem Zy {k:Nat}{b:lR}(hb:p.blocks[k]?=some b) {t:Nat}(ht:t < N):xK (pT p k) t=decide (pO p.blocks (t:Int) b.term):=by
 rw [Bool.eq_iff_iff]
 unfold xK
 rw [List.any_eq_true,decide_eq_true_iff]
 constructor
 ·rintro⟨u,hu,h⟩
  obtain⟨h0,_,h2⟩:=(tW hb).1 hu
  have:(t:Int)=u:=by have:=of_decide_eq_true h; omega
  rw [this]; exact h2
 ·intro h
  exact⟨(t:Int),(tW hb).2 ⟨by omega,by omega,h⟩,by simp⟩
theorem acX {k a:Nat}{b:lR}(hb:p.blocks[k]?=some b) (h0:mN p=0) {l38:List Span}(hl:l38.length=N) {D:Nat→List Bool}(hD:∀t,(D t).length=a) (ha:a≤2000000000000) :
  LZ p (k:Int) (LS N fun t=>D t++[false]) (qW p) l38 (a:Int) (rN p)=some (.n,(((a+(b.ops.length+1):Nat):Int),LS N fun t=>(D t++xA p k t)++[false])):=by
 have hbm:=List.mem_of_getElem? hb
 have hkl:k < p.blocks.length:=(List.getElem?_eq_some_iff.1 hb).1
 have hlen:=hp.len b hbm
 have eb:pF p.blocks (k:Int)=some b:=by rw [oY,hb]
 have ei:pF (qW p) (k:Int)=some (rI p k):=by
  rw [oY,qW,if_pos h0,List.getElem?_map,List.getElem?_range hkl]; rfl
 have eo:pF (rN p) (k:Int)=some (pT p k):=by
  rw [oY,rN,if_pos h0,List.getElem?_map,List.getElem?_range hkl]; rfl
 have hin:∀t∈rI p k,0≤t∧t.toNat < N:=fun t ht=>by obtain⟨h1,h2,_⟩:=AK.1 ht; omega
 have hout:∀t∈pT p k,0≤t∧t.toNat < N:=fun t ht=>by obtain⟨h1,h2,_⟩:=(tW hb).1 ht; omega
 have hil:(rI p k).length≤2000000:=(Em p).1 _ (List.mem_of_getElem? (by rw [←oY]; exact ei))
 have hol:(pT p k).length≤2000000:=(Hr p).1 _ (List.mem_of_getElem? (by rw [←oY]; exact eo))
 have s1:=Ry (l:=LS N fun t=>D t++[false]) (n:=N) (a:=(a:Int)) (ts:=rI p k) wT (by omega) hil hin
 rw [D_ hD] at s1
 obtain⟨D',c',g1,g2,g3⟩:=acZ hp hN hbm hl b.ops.length 0 a D (fun t=>false || xK (rI p k) t) (by omega) hD (by omega)
 have n0:((0:Nat):Int)=0:=rfl
 rw [n0] at g1
 have s2:∃c2:Nat→Bool,EI (decide (b.term.kind=2)) (LS N fun t=>D' t++[c' t]) b l38 ((a+b.ops.length:Nat):Int)=some (LS N fun t=>D' t++[c2 t])∧∀t,c2 t=(c' t || tE b t):=by
  by_cases hk2:b.term.kind=2
  ·have ht:=hp.term b hbm hk2
   have s:=Ry (l:=LS N fun t=>D' t++[c' t]) (n:=N) (a:=((a+b.ops.length:Nat):Int)) (ts:=[b.term.a]) wT (by omega) (by simp) (fun t h=>by simp at h; subst h; omega)
   rw [D_ g2] at s
   refine⟨fun t=>c' t || xK [b.term.a] t,?_,fun t=>by simp [tE,hk2,xK]⟩
   simp only [EI,hk2,decide_true,oE,hl,s,mE]
  ·refine⟨c',?_,fun t=>by simp [tE,hk2]⟩
   simp only [EI,hk2,decide_false,pK]
 obtain⟨c2,s2,hc2⟩:=s2
 have s3:=Ry (l:=LS N fun t=>D' t++[c2 t]) (n:=N) (a:=((a+b.ops.length:Nat):Int)) (ts:=pT p k) wT (by omega) hol hout
 rw [D_ g2] at s3
 have w1:IntKind.i64.wrap (((a+b.ops.length:Nat):Int)+1)=((a+(b.ops.length+1):Nat):Int):=by rw [wrap64 (by omega) (by omega)]; omega
 unfold LZ
 simp only [eb,ei,mE,hl,s1,g1,uF,wR,beq_self_eq_true,cond_true,s2,eo,s3,w1]
 have hfin:(LS N fun t=>D' t++[c2 t || xK (pT p k) t])=LS N fun t=>(D t++xA p k t)++[false]:=by
  rw [P_]
  refine P4 fun t ht=>?_
  have:=g3 t (tE b t || xK (pT p k) t)
  rw [List.drop_zero] at this
  rw [hc2,Bool.or_assoc,this]
  unfold xA
  rw [hb]
  simp only [mB,Bool.false_or,afS hp hN hkl ht,Zy hp hN hb ht]
 rw [hfin]
omit hN in
theorem B5:∀(k t:Nat),k≤p.blocks.length→(s_ p k t).length=((p.blocks.take k).map fun b=>b.ops.length+1).sum∧((p.blocks.take k).map fun b=>b.ops.length+1).sum≤k * 1048577
 | 0,t,_=>by simp [s_]
 | k+1,t,hk=>by
  have hkl:k < p.blocks.length:=by omega
  obtain⟨h1,h2⟩:=B5 k t (by omega)
  have h3:=hp.len _ (List.getElem_mem hkl)
  rw [Aq,List.length_append,h1,List.take_succ_eq_append_getElem hkl,List.map_append,List.sum_append]
  have:(xA p k t).length=p.blocks[k].ops.length+1:=by unfold xA; rw [List.getElem?_eq_getElem hkl]; exact aa9
  rw [this]
  simp only [List.map_cons,List.map_nil,List.sum_cons,List.sum_nil]
  omega
theorem XR (h0:mN p=0) {l38:List Span}(hl:l38.length=N):∀(d k:Nat),p.blocks.length=k+d →
  vB (EJ (qW p) (rN p) l38 p ((p.blocks.length:Nat):Int)) (((((p.blocks.take k).map fun b=>b.ops.length+1).sum:Nat):Int),(k:Int),LS N fun t=>s_ p k t++[false]) =
   some (.x 2,(((((p.blocks.take p.blocks.length).map fun b=>b.ops.length+1).sum:Nat):Int),(p.blocks.length:Int),LS N fun t=>s_ p p.blocks.length t++[false])):=by
 intro d
 induction d with
 | zero =>
  intro k hk
  obtain rfl:k=p.blocks.length:=by omega
  refine qQ ?_ (by simp)
  simp [EJ]
 | succ d ih =>
  intro k hk
  have hkl:k < p.blocks.length:=by omega
  rw [←ih (k+1) (by omega)]
  refine rJ ?_
  have hnb:=hp.nb
  have hle:∀t,(s_ p k t).length=((p.blocks.take k).map fun b=>b.ops.length+1).sum:=fun t=>(B5 hp k t (by omega)).1
  have hle2:=(B5 hp k 0 (by omega)).2
  have hb:p.blocks[k]?=some p.blocks[k]:=List.getElem?_eq_getElem hkl
  have hs:((p.blocks.take (k+1)).map fun b=>b.ops.length+1).sum=((p.blocks.take k).map fun b=>b.ops.length+1).sum+(p.blocks[k].ops.length+1):=by
   rw [List.take_succ_eq_append_getElem hkl,List.map_append,List.sum_append]; simp
  have hg:=acX hp hN hb h0 hl hle (by have:k * 1048577≤1048576 * 1048577:=Nat.mul_le_mul_right _ (by omega); omega)
  have hii:(k:Int) < (p.blocks.length:Int):=by omega
  have w1:IntKind.i64.wrap ((k:Int)+1)=((k+1:Nat):Int):=by rw [wrap64 (by omega) (by omega),Int.natCast_add]; rfl
  simp only [EJ,hii,decide_true,oE,hg,mE,wR,w1,hs,Aq]
theorem acY {l38:List Span}(hl:l38.length=N) (hN2:N≤2000000):∀(d k:Nat) (R:List Span),N=k+d→R.length=d →
  vB (Ip l38 ((l38.length:Nat):Int)) ((k:Int),List.replicate k ⟨-1,-1⟩++R)=some (.x 0,((N:Int),List.replicate N ⟨-1,-1⟩)):=by
 intro d
 induction d with
 | zero =>
  intro k R hk hR
  obtain rfl:k=N:=by omega
  have:R=[]:=List.eq_nil_of_length_eq_zero hR
  subst this
  refine qQ ?_ (by simp)
  simp [Ip,hl]
 | succ d ih =>
  intro k R hk hR
  obtain⟨x,R,rfl⟩:∃x r,R=x::r:=by cases R with | nil=>simp at hR | cons x r=>exact⟨x,r,rfl⟩
  rw [←ih (k+1) R (by omega) (by simpa using hR)]
  refine rJ ?_
  have hii:(k:Int) < (l38.length:Int):=by omega
  have w1:IntKind.i64.wrap ((k:Int)+1)=((k+1:Nat):Int):=by rw [wrap64 (by omega) (by omega),Int.natCast_add]; rfl
  have e1:zQ l38.length (k:Int)=some k:=by unfold zQ; rw [if_pos (by omega)]; rfl
  have hlen:(List.replicate k (⟨-1,-1⟩:Span)++x::R).length=l38.length:=by simp at hR ⊢; omega
  have e2:sN l38.length (List.replicate k ⟨-1,-1⟩++x::R) k=some x:=by
   unfold sN; rw [if_pos hlen,List.getElem?_append_right (by simp)]; simp
  have e3:AY l38.length (List.replicate k ⟨-1,-1⟩++x::R) k ⟨-1,-1⟩=some (List.replicate (k+1) ⟨-1,-1⟩++R):=by
   unfold AY
   rw [if_pos ⟨hlen,by rw [hlen]; omega⟩,List.set_append_right _ _ (by simp),List.length_replicate,Nat.sub_self,List.set_cons_zero,List.replicate_succ',List.append_assoc]
   rfl
  simp only [Ip,hii,decide_true,oE,e1,mE,e2,e3,w1]
end
theorem DH:∀{a b x y:List kS},nB a=some x→nB b=some y→nB (a++b)=some (x++y)
 | [],b,x,y,h1,h2=>by simp only [nB,Option.some.injEq] at h1; subst h1; exact h2
 | v::a,b,x,y,h1,h2=>by
  simp only [nB] at h1
  split at h1
  ·rename_i u w e1 e2
   cases h1
   simp only [List.cons_append,nB,e1,DH e2 h2]
  ·cases h1
theorem FF {α:Type}{enc:α→List kS}(hp:∀x,nB (enc x)=some (enc x)):∀xs:List α,nB (Rw enc xs).flatten=some (Rw enc xs).flatten
 | []=>rfl
 | x::r=>by
  have e:(Rw enc (x::r)).flatten=enc x++(Rw enc r).flatten:=rfl
  rw [e]; exact DH (hp x) (FF hp r)
theorem Ih {α:Type}{enc:α→List kS}{sz:Nat}(he:∀x,(enc x).length=sz):∀xs:List α,rowsOf xs.length sz (Rw enc xs).flatten=Rw enc xs
 | []=>rfl
 | x::r=>by
  have e:(Rw enc (x::r)).flatten=enc x++(Rw enc r).flatten:=rfl
  rw [List.length_cons,rowsOf,e,←he x,List.take_left,List.drop_left,he x,Ih he r]; rfl
theorem Py {α:Type}{enc:α→List kS}{sz id m:Nat}{h:kU}{xs:List α}(hm:¬id < m) (he:∀x,(enc x).length=sz) (hp:∀x,nB (enc x)=some (enc x)) (hb:h[id]?=some (Vc enc sz xs)) :
  kS.oH m h (.vslice id xs.length 0 xs.length sz)=.slice (Rw enc xs) .no:=by
 have hl:=w7 he xs
 have ht:(((Rw enc xs).flatten.drop 0).take (xs.length * sz))=(Rw enc xs).flatten:=by rw [List.drop_zero,List.take_of_length_le (by rw [hl]; exact Nat.le_refl _)]
 have hd:decide (id < m)=false:=decide_eq_false hm
 unfold kS.oH
 simp only [hd,cond_false,hb,Vc,ht,FF hp,Ih he,hl,Nat.zero_add,Nat.le_refl,and_self,decide_true,cond_true]
theorem c45 (p:IR) (h:kU):KK 45 [.agg [.int .i64 p.temps,.slice (Rw mL.cells p.arrays) .no,.slice (Rw lR.cells p.blocks) .no,.int .i64 p.inn,.int .i64 p.out]] h =
  some (.ret (.tuple [.slice (Rw Span.cells (if mN p=0 then mF p else [])) .no,.int .i64 (mN p)]),h):=by
 refine mD rfl rfl (mR (ap8 _ _ _) ?_)
 by_cases h0:mN p=0
 ·obtain⟨hp,hl⟩:=qJ h0
  obtain⟨_,lp,_,_,_⟩:=n_ h0
  have ht0:=lp.t0
  have ht1:=lp.t1
  have hN:((p.temps.toNat:Nat):Int)=p.temps:=by omega
  have hmk:tmk 16 (⟨0,0⟩:Span) p.temps=some (List.replicate p.temps.toNat ⟨0,0⟩):=by
   unfold tmk; rw [if_pos ⟨by omega,by omega,by omega⟩]
  generalize hl38:List.replicate p.temps.toNat (⟨0,0⟩:Span)=l38 at hmk
  have hlen:l38.length=p.temps.toNat:=by rw [←hl38]; simp
  have l2:=acY hp hN (l38:=l38) hlen (by omega) p.temps.toNat 0 l38 (by omega) hlen
  have l14:=XR hp hN h0 (l38:=l38) hlen p.blocks.length 0 (by omega)
  have n0:((0:Nat):Int)=0:=rfl
  have hR:(LS p.temps.toNat fun t=>s_ p 0 t++[false])=List.replicate p.temps.toNat ⟨-1,-1⟩:=by
   unfold LS s_
   rw [List.eq_replicate_iff]
   refine⟨by simp,fun x hx=>?_⟩
   obtain⟨t,_,rfl⟩:=List.mem_map.1 hx
   rfl
  rw [hR] at l14
  simp only [n0,List.replicate_zero,List.nil_append,List.take_zero,List.map_nil,List.sum_nil] at l2 l14
  rw [P_] at l14
  have hs:(LS p.temps.toNat (s_ p p.blocks.length))=mF p:=rfl
  rw [hs] at l14
  have hsl:(mF p).length=l38.length:=by rw [hlen]; exact wT
  rw [if_pos h0]
  have hfz:∀(b0 b1:mI) (R:kU),kS.oH 0 (b0::b1::Vc Span.cells 2 (mF p)::R) (.vslice 2 l38.length 0 l38.length 2)=.slice (Rw Span.cells (mF p)) .no:=by
   intro b0 b1 R
   rw [←hsl]
   exact Py (enc:=Span.cells) (by omega) (fun _=>rfl) (fun _=>rfl) rfl
  simp -implicitDefEqProofs [-lQ,-lF,-k9,-k_,-lG,-lN,-lC,m45,EW,t27,h0,arA,hmk,arY,aiW,l2,l14,aaR]
  simp only [kS.oL,List.map_cons,List.map_nil,hfz]
  rfl
 ·rw [if_neg h0]
  simp -implicitDefEqProofs [-lQ,-lF,-k9,-k_,-lG,-lN,-lC,m45,EW,t27,h0,aaR]
end Go.Proofs.YtkeoalhglkfbkaaDoor


namespace Go.Proofs.YtkeoalhglkfbkaaDoor
open Go Hk
section
variable {p:IR}(hp:yT p) (hl:∀b∈p.blocks,rH b.term=pW b.term)
include hp hl
end
end Go.Proofs.YtkeoalhglkfbkaaDoor


namespace Go.Proofs.YtkeoalhglkfbkaaDoor
open Go Hk
theorem EC (m:List Bool):(rW m).first≤(rW m).last∧(rW m).last < m.length∧-1≤(rW m).first∧((rW m).first < 0→(rW m).last=-1):=by
 induction m using PS.uW with
 | h0=>exact⟨by decide,by decide,by decide,fun _=>rfl⟩
 | h1 l b ih =>
  obtain⟨h1,h2,h3,h4⟩:=ih
  rw [uB]
  have hl:((l++[b]).length:Int)=(l.length:Int)+1:=by simp
  rw [hl]
  cases b with
  | false=>simp only [Bool.false_eq_true,if_false]; exact⟨h1,by omega,h3,h4⟩
  | true =>
   simp only [if_true]
   unfold ET
   by_cases hf:(rW l).first < 0
   ·rw [if_pos hf]; exact⟨Int.le_refl _,by show(l.length:Int) < _; omega,by show(-1:Int)≤(l.length:Int); omega,fun h=>by have:(l.length:Int) < 0:=h; omega⟩
   ·rw [if_neg hf]
    refine⟨?_,?_,?_,?_⟩ <;> simp only <;> omega
theorem LK (m:List Bool):rW (m++[true])=⟨if (rW m).first < 0 then(m.length:Int) else(rW m).first,(m.length:Int)⟩:=by
 obtain⟨h1,h2,h3,h4⟩:=EC m
 rw [uB,if_pos rfl]
 unfold ET
 by_cases hf:(rW m).first < 0
 ·rw [if_pos hf,if_pos hf]
 ·rw [if_neg hf,if_neg hf]
  congr 1 <;> omega
section
variable {p:IR}{A:List Span}{M:List Bool}{t:Int}
end
section
variable {p:IR}(hp:yT p) (hl:∀b∈p.blocks,rH b.term=pW b.term) {N:Nat}(hN:(N:Int)=p.temps)
include hp hl hN
end
end Go.Proofs.YtkeoalhglkfbkaaDoor


namespace Go.Proofs.YtkeoalhglkfbkaaDoor
open Go Hk
theorem AR {n:Nat}{ps:List (Nat×Nat)}(hd:(ps.map (·.1)).Nodup) {t:Nat}(ht:t < n):(∀s,(t,s)∈ps→(wQ n ps)[t]?=some (s:Int))∧(t ∉ ps.map (·.1)→(wQ n ps)[t]?=some (-1)):=by
 induction ps using PS.uW with
 | h0=>exact⟨fun s h=>by simp at h,fun _=>by simp [wQ,ht]⟩
 | h1 l q ih =>
  rw [List.map_append,List.nodup_append] at hd
  obtain⟨hd1,_,hd3⟩:=hd
  obtain⟨i1,i2⟩:=ih hd1
  have hq:q.1 ∉ l.map (·.1):=fun h=>hd3 _ h q.1 (by simp) rfl
  rw [DE]
  refine⟨fun s hs=>?_,fun hs=>?_⟩
  ·rw [List.getElem?_set]
   rcases List.mem_append.1 hs with h | h
   ·have hne:q.1≠t:=fun e=>hq (e ▸ List.mem_map.2 ⟨_,h,rfl⟩)
    rw [if_neg hne]; exact i1 s h
   ·simp only [List.mem_singleton] at h
    subst h
    rw [if_pos rfl,if_pos (by rw [vV]; exact ht)]
  ·rw [List.getElem?_set]
   have hne:q.1≠t:=fun e=>hs (by simp [e])
   rw [if_neg hne]
   exact i2 fun h=>hs (by simp only [List.map_append,List.mem_append]; exact .inl h)
section
variable {sp:List Span}{N:Nat}(hN:sp.length=N) (hN2:N≤1000000)
include hN hN2
end
end Go.Proofs.YtkeoalhglkfbkaaDoor


namespace Go.Proofs.YtkeoalhglkfbkaaDoor
open Go Hk
section
variable {sp:List Span}{N:Nat}(hN:sp.length=N) (hN2:N≤1000000)
include hN hN2
end
end Go.Proofs.YtkeoalhglkfbkaaDoor


namespace Go.Proofs.YtkeoalhglkfbkaaDoor
open Go Hk
theorem UY {p:IR}(h0:mN p≠0) (h:Hk.kU) :
  KK 47 [.agg [.int .i64 p.temps,.slice (Rw mL.cells p.arrays) .no,.slice (Rw lR.cells p.blocks) .no,.int .i64 p.inn,.int .i64 p.out]] h =
   some (.ret (.tuple [.slice (Rw (ci .i64) []) .no,.int .i64 0,.int .i64 (mN p)]),h):=by
 refine mD rfl rfl (mR (aaU _ _ _) ?_)
 have k45:=c45 p
 rw [if_neg h0] at k45
 simp [m47,k45,h0,RC]
 rfl
end Go.Proofs.YtkeoalhglkfbkaaDoor


namespace Go.Proofs.YtkeoalhglkfbkaaDoor
open Go Hk
theorem ED {p:IR}:∀s∈mF p,0≤s.first→s.first≤s.last:=by
 intro s hs _
 unfold mF LS at hs
 obtain⟨t,_,rfl⟩:=List.mem_map.1 hs
 exact(EC _).1
end Go.Proofs.YtkeoalhglkfbkaaDoor


namespace Go.Proofs.YtkeoalhglkfbkaaDoor
open Go Hk
theorem CN {sp:List Span}:(sM sp).length=sp.length:=vV
end Go.Proofs.YtkeoalhglkfbkaaDoor


namespace Go.Proofs.YtkeoalhglkfbkaaDoor
open Go Hk
end Go.Proofs.YtkeoalhglkfbkaaDoor


namespace Go.Proofs.YtkeoalhglkfbkaaDoor
open Go Hk
def wP (sp:List Span) (t j:Nat):Bool:=decide (0≤fS sp j) && (decide (fS sp j≤fS sp t) && decide (fS sp t≤eS sp j))
section
variable {sp:List Span}(hfe:∀s∈sp,0≤s.first→s.first≤s.last)
include hfe
theorem Zo {t:Nat}(ht:t < sp.length) (h0:0≤fS sp t):fS sp t≤eS sp t:=by
 have e1:fS sp t=sp[t].first:=by unfold fS; rw [List.getElem?_eq_getElem ht]; rfl
 have e2:eS sp t=sp[t].last:=by unfold eS; rw [List.getElem?_eq_getElem ht]; rfl
 rw [e1] at h0 ⊢
 rw [e2]
 exact hfe _ (List.getElem_mem ht) h0
omit hfe in
theorem Eh:(Mx sp).map (·.1)=oG sp:=PS.AH _
omit hfe in
theorem BZ:((Mx sp).map (·.1)).Nodup:=by rw [Eh]; exact CE
theorem Ij {i t:Nat}(hi:i < sp.length) (ht:t < sp.length) (hne:i≠t) (ha:wP sp t i=true):(sM sp)[i]?≠(sM sp)[t]?:=by
 unfold wP at ha
 simp only [Bool.and_eq_true,decide_eq_true_eq] at ha
 obtain⟨a1,a2,a3⟩:=ha
 have mi:i∈(Mx sp).map (·.1):=by rw [Eh]; exact tA.2 ⟨hi,a1⟩
 have mt:t∈(Mx sp).map (·.1):=by rw [Eh]; exact tA.2 ⟨ht,by omega⟩
 obtain⟨p,hp,hp1⟩:=List.mem_map.1 mi
 obtain⟨q,hq,hq1⟩:=List.mem_map.1 mt
 have e1:(sM sp)[i]?=some (p.2:Int):=(AR BZ hi).1 p.2 (by rw [←hp1]; exact hp)
 have e2:(sM sp)[t]?=some (q.2:Int):=(AR BZ ht).1 q.2 (by rw [←hq1]; exact hq)
 rw [e1,e2]
 intro he
 have he:p.2=q.2:=by have:=Option.some.inj he; omega
 have hpw:=PS.QI (f:=fS sp) (e:=eS sp) (oG sp)
 rw [List.pairwise_iff_getElem] at hpw
 obtain⟨a,ha,rfl⟩:=List.mem_iff_getElem.1 hp
 obtain⟨b,hb,rfl⟩:=List.mem_iff_getElem.1 hq
 have hft:=Zo hfe ht (by omega)
 rcases Nat.lt_trichotomy a b with h | h | h
 ·exact hpw a b ha hb h (by show fS sp (Mx sp)[b].1≤eS sp (Mx sp)[a].1; rw [hp1,hq1]; exact a3) he
 ·subst h; exact hne (hp1.symm.trans hq1)
 ·exact hpw b a hb ha h (by show fS sp (Mx sp)[a].1≤eS sp (Mx sp)[b].1; rw [hp1,hq1]; omega) he.symm
omit hfe in
theorem Vp {t:Nat}(ht:t < sp.length):∃z,(sM sp)[t]?=some z∧(0≤z↔0≤fS sp t)∧z < AX sp∨(sM sp)[t]?=some z∧z=-1∧¬0≤fS sp t:=by
 by_cases h0:0≤fS sp t
 ·have mt:t∈(Mx sp).map (·.1):=by rw [Eh]; exact tA.2 ⟨ht,h0⟩
  obtain⟨q,hq,hq1⟩:=List.mem_map.1 mt
  have hlt:=PS.alM q hq
  refine⟨(q.2:Int),.inl ⟨(AR BZ ht).1 q.2 (by rw [←hq1]; exact hq),⟨fun _=>h0,fun _=>by omega⟩,?_⟩⟩
  unfold AX; omega
 ·refine⟨-1,.inr ⟨(AR BZ ht).2 fun h=>?_,rfl,h0⟩⟩
  rw [Eh] at h
  exact h0 (tA.1 h).2
omit hfe in
theorem LJ:0≤AX sp:=by unfold AX; omega
end
section
variable {sp:List Span}(hfe:∀s∈sp,0≤s.first→s.first≤s.last) (hN2:sp.length≤1000000)
include hfe hN2
end
end Go.Proofs.YtkeoalhglkfbkaaDoor


namespace Go.Proofs.YtkeoalhglkfbkaaDoor
open Go Hk
section
variable {sp:List Span}(hfl:∀s∈sp,s.first≤s.last) (hN2:sp.length≤1000000)
include hfl hN2
end
end Go.Proofs.YtkeoalhglkfbkaaDoor


namespace Go.Proofs.YtkeoalhglkfbkaaDoor
open Go Hk
end Go.Proofs.YtkeoalhglkfbkaaDoor


namespace Go.Proofs.YtkeoalhglkfbkaaDoor
open Go Hk
theorem C3 {p:IR}(h0:mN p=0) {i:Nat}{b:lR}(hb:p.blocks[i]?=some b):∀(post pre:List Op),b.ops=pre++post→∀t,pA post b.term (nN p.blocks b.term) t→0≤t∧t < p.temps:=by
 obtain⟨hp,_⟩:=qJ h0
 have hm:=List.mem_of_getElem? hb
 intro post
 induction post with
 | nil =>
  intro pre _ t ht
  rcases ht with ⟨h1,h2⟩ | ⟨j,_,h2⟩
  ·have:=hp.term b hm h1
   rw [h2] at this; exact this
  ·exact Bb hp h2
 | cons o r ih =>
  intro pre e t ht
  rw [rL] at ht
  rcases ht with h1 | ⟨h1,_⟩
  ·exact hp.use b hm o (by rw [e]; simp) t h1
  ·exact ih (pre++[o]) (by rw [e]; simp) t h1
theorem Lq {p:IR}(h0:mN p=0):∀b∈p.blocks,abN p.temps p.blocks.length b:=by
 obtain⟨r1,_,_⟩:=Hb h0
 intro b hb
 obtain⟨g1,g2,_⟩:=r1 b hb
 refine⟨fun o ho=>(g1 o ho).1,?_⟩
 rcases g2 with g2 | g2
 ·exact g2
 ·exact .inr (.inr g2)
end Go.Proofs.YtkeoalhglkfbkaaDoor


namespace Go.Proofs.YtkeoalhglkfbkaaDoor
open Go Hk
theorem Uj {m:List Bool}:∀{k:Nat},m[k]?=some true→0≤(rW m).first∧(rW m).first≤k∧(k:Int)≤(rW m).last:=by
 induction m using PS.uW with
 | h0=>intro k h; simp at h
 | h1 l b ih =>
  intro k h
  obtain⟨i1,i2,i3,i4⟩:=EC l
  by_cases hk:k < l.length
  ·rw [List.getElem?_append_left hk] at h
   obtain⟨a,c,d⟩:=ih h
   rw [uB]
   cases b with
   | false=>exact⟨a,c,d⟩
   | true =>
    rw [if_pos rfl]
    unfold ET
    rw [if_neg (by omega)]
    refine⟨?_,?_,?_⟩ <;> simp only <;> omega
  ·have hkl:k=l.length:=by
    have:=(List.getElem?_eq_some_iff.1 h).1
    simp at this
    omega
   subst hkl
   rw [List.getElem?_append_right (Nat.le_refl _),Nat.sub_self] at h
   simp only [List.getElem?_cons_zero,Option.some.injEq] at h
   subst h
   rw [LK]
   refine⟨?_,?_,Int.le_refl _⟩
   ·simp only; split <;> omega
   ·simp only; split <;> omega
theorem Ui {m:List Bool}(h:0≤(rW m).first):∃k:Nat,m[k]?=some true:=by
 induction m using PS.uW with
 | h0=>exact absurd h (by decide)
 | h1 l b ih =>
  cases b with
  | true=>exact⟨l.length,by simp⟩
  | false =>
   rw [uB,if_neg (by decide)] at h
   obtain⟨k,hk⟩:=ih h
   exact⟨k,by rw [List.getElem?_append_left (List.getElem?_eq_some_iff.1 hk).1]; exact hk⟩
theorem Q4 (ps:List (Nat×Nat)):PS.nS ps=0∨∃q∈ps,PS.nS ps=q.2+1:=by
 induction ps using PS.uW with
 | h0=>exact .inl rfl
 | h1 l q ih =>
  rw [PS.Ar]
  rcases Nat.le_total (PS.nS l) (q.2+1) with h | h
  ·exact .inr ⟨q,by simp,Nat.max_eq_right h⟩
  ·rw [Nat.max_eq_left h]
   rcases ih with ih | ⟨x,hx,e⟩
   ·exact .inl ih
   ·exact .inr ⟨x,by simp [hx],e⟩
theorem NN {x:Term}{S:Int→Prop}{t:Int}:∀{post:List Op},pA post x S t→(∃(j:Nat) (o:Op),post[j]?=some o∧t∈mU o)∨(x.kind=2∧x.a=t)∨S t
 | [],h=>.inr h
 | o::r,h=>by
  rw [rL] at h
  rcases h with h | ⟨h,_⟩
  ·exact .inl ⟨0,o,rfl,h⟩
  ·rcases NN h with ⟨j,u,h1,h2⟩ | h
   ·exact .inl ⟨j+1,u,h1,h2⟩
   ·exact .inr h
theorem RK {x:Term}{S:Int→Prop}{t:Int}(pre:List Op):∀{post:List Op},pA post x S t→pA (pre++post) x S t∨∃(j:Nat) (o:Op),pre[j]?=some o∧(mM o.kind).dst=true∧o.dst=t:=by
 induction pre using PS.uW with
 | h0=>intro post h; exact .inl h
 | h1 l o ih =>
  intro post h
  by_cases hd:(mM o.kind).dst=true∧o.dst=t
  ·exact .inr ⟨l.length,o,by simp,hd⟩
  ·have h2:pA (o::post) x S t:=(rL o post x S t).2 (.inr ⟨h,hd⟩)
   rcases ih h2 with h3 | ⟨j,u,h3,h4⟩
   ·exact .inl (by simpa using h3)
   ·exact .inr ⟨j,u,by rw [List.getElem?_append_left (List.getElem?_eq_some_iff.1 h3).1]; exact h3,h4⟩
section
variable {p:IR}
def abL (p:IR) (i:Nat):Nat:=((p.blocks.take i).map fun b=>b.ops.length+1).sum
theorem QZ {i t:Nat}:∀(d:Nat),∃r,s_ p (i+d) t=s_ p i t++r
 | 0=>⟨[],by simp⟩
 | d+1=>by
  obtain⟨r,hr⟩:=QZ (i:=i) (t:=t) d
  exact⟨r++xA p (i+d) t,by rw [←Nat.add_assoc,Aq,hr,List.append_assoc]⟩
theorem QY {i t:Nat}{b:lR}(hb:p.blocks[i]?=some b):(xA p i t).length=b.ops.length+1:=by
 unfold xA
 rw [hb]
 exact aa9
theorem abM (h0:mN p=0) {i t:Nat}(hi:i≤p.blocks.length):(s_ p i t).length=abL p i:=by
 obtain⟨hp,_⟩:=qJ h0
 exact(B5 hp i t hi).1
theorem aiB (h0:mN p=0) {i t k:Nat}{b:lR}(hb:p.blocks[i]?=some b) (hk:k < b.ops.length+1):(s_ p p.blocks.length t)[abL p i+k]?=(xA p i t)[k]?:=by
 have hi:i < p.blocks.length:=(List.getElem?_eq_some_iff.1 hb).1
 obtain⟨r,hr⟩:=QZ (p:=p) (i:=i+1) (t:=t) (p.blocks.length - (i+1))
 rw [show i+1+(p.blocks.length - (i+1))=p.blocks.length by omega,Aq] at hr
 have hl:=abM h0 (i:=i) (t:=t) (by omega)
 have hkl:=QY (t:=t) hb
 rw [hr,List.append_assoc,List.getElem?_append_right (by omega),hl,Nat.add_sub_cancel_left,List.getElem?_append_left (by omega)]
theorem Nj {t:Nat}:∀{n x:Nat},(s_ p n t)[x]?=some true→∃i k:Nat,i < n∧(xA p i t)[k]?=some true
 | 0,x,h=>by simp [s_] at h
 | n+1,x,h=>by
  rw [Aq,List.getElem?_append] at h
  split at h
  ·obtain⟨i,k,h1,h2⟩:=Nj h
   exact⟨i,k,by omega,h2⟩
  ·exact⟨n,_,by omega,h⟩
open Classical in
theorem GI {i t k:Nat}{b:lR}{o:Op}(hb:p.blocks[i]?=some b) (ho:b.ops[k]?=some o) (h:Mf o t=true):(xA p i t)[k]?=some true:=by
 unfold xA
 rw [hb]
 simp only
 unfold mB
 have hk:k < b.ops.length:=(List.getElem?_eq_some_iff.1 ho).1
 have e:(b.ops.map (fun o=>Mf o t)++[tE b t || decide (pO p.blocks (t:Int) b.term)])[k]?=some true:=by
  rw [List.getElem?_append_left (by simpa using hk),List.getElem?_map,ho]; simp [h]
 generalize (b.ops.map (fun o=>Mf o t)++[tE b t || decide (pO p.blocks (t:Int) b.term)])=l at e
 cases l with
 | nil=>simp at e
 | cons x r =>
  cases k with
  | zero=>simp only [List.getElem?_cons_zero,Option.some.injEq] at e; subst e; simp [sC]
  | succ k=>simpa [sC] using e
open Classical in
theorem QX {i t:Nat}{b:lR}(hb:p.blocks[i]?=some b) (h:(b.term.kind=2∧b.term.a=(t:Int))∨pO p.blocks (t:Int) b.term):(xA p i t)[b.ops.length]?=some true:=by
 unfold xA
 rw [hb]
 simp only
 unfold mB
 have h2:(tE b t || decide (pO p.blocks (t:Int) b.term))=true:=by
  rcases h with ⟨a,c⟩ | h
  ·simp [tE,a,c]
  ·simp [h]
 rw [h2]
 have e:(b.ops.map (fun o=>Mf o t)++[true])[b.ops.length]?=some true:=by
  rw [List.getElem?_append_right (by simp)]; simp
 generalize hl:(b.ops.map (fun o=>Mf o t)++[true])=l at e
 generalize b.ops.length=k at e
 cases l with
 | nil=>simp at e
 | cons x r =>
  cases k with
  | zero=>simp only [List.getElem?_cons_zero,Option.some.injEq] at e; subst e; simp [sC]
  | succ k=>simpa [sC] using e
open Classical in
theorem aiA {i t:Nat}{b:lR}(hb:p.blocks[i]?=some b) (h:Reach p.blocks (t:Int) i):(xA p i t)[0]?=some true:=by
 unfold xA
 rw [hb]
 simp only
 unfold mB
 rw [decide_eq_true h]
 cases hl:(b.ops.map (fun o=>Mf o t)++[tE b t || decide (pO p.blocks (t:Int) b.term)]) with
 | nil=>have:=congrArg List.length hl; simp at this
 | cons x r=>simp [sC]
theorem I2 {t:Int}{k:Nat}(h:Reach p.blocks t k):t∈Ax p:=by
 induction h with
 | here hb hf =>
  rename_i k b
  have hm:=List.mem_of_getElem? hb
  unfold Ax
  refine List.mem_flatMap.2 ⟨b,hm,?_⟩
  unfold BF
  rcases QD hf with ⟨o,ho,ht⟩ | ⟨h1,h2⟩
  ·refine List.mem_append.2 (.inl (List.mem_flatMap.2 ⟨o,ho,?_⟩))
   unfold C0
   exact List.mem_append.2 (.inl ht)
  ·refine List.mem_append.2 (.inr ?_)
   rw [if_pos h1]
   simp [h2]
 | step _ _ _ _ ih=>exact ih
open Classical in
theorem TE (h0:mN p=0) {i t k:Nat}(h:(xA p i t)[k]?=some true):(t:Int)∈Ax p:=by
 obtain⟨hp,_⟩:=qJ h0
 unfold xA at h
 cases hb:p.blocks[i]? with
 | none=>rw [hb] at h; simp at h
 | some b =>
  rw [hb] at h
  simp only at h
  have hm:=List.mem_of_getElem? hb
  have hany:true∈mB (decide (Reach p.blocks (t:Int) i)) (decide (pO p.blocks (t:Int) b.term)) b t:=List.mem_of_getElem? h
  have hop:∀o∈b.ops,Mf o t=true→(t:Int)∈Ax p:=by
   intro o ho hc
   unfold Ax
   refine List.mem_flatMap.2 ⟨b,hm,?_⟩
   unfold BF
   refine List.mem_append.2 (.inl (List.mem_flatMap.2 ⟨o,ho,?_⟩))
   unfold C0
   unfold Mf at hc
   rw [Bool.or_eq_true] at hc
   rcases hc with hc | hc
   ·unfold xK at hc
    obtain⟨u,hu,e⟩:=List.any_eq_true.1 hc
    have e:=of_decide_eq_true e
    have:=hp.use b hm o ho u hu
    have:(t:Int)=u:=by omega
    rw [this]
    exact List.mem_append.2 (.inl hu)
   ·simp only [Bool.and_eq_true,decide_eq_true_eq] at hc
    have:=hp.made b hm o ho hc.1
    have:(t:Int)=o.dst:=by omega
    rw [if_pos hc.1,this]
    exact List.mem_append.2 (.inr (by simp))
  have hfrom:(∃x∈b.ops.map (fun o=>Mf o t)++[tE b t || decide (pO p.blocks (t:Int) b.term)],x=true)∨Reach p.blocks (t:Int) i:=by
   unfold mB at hany
   generalize (b.ops.map (fun o=>Mf o t)++[tE b t || decide (pO p.blocks (t:Int) b.term)])=l at hany
   cases l with
   | nil=>simp [sC] at hany
   | cons x r =>
    simp only [sC,List.mem_cons] at hany
    rcases hany with h | h
    ·have h:=h.symm
     rw [Bool.or_eq_true,decide_eq_true_eq] at h
     rcases h with h | h
     ·exact .inr h
     ·exact .inl ⟨x,by simp,h⟩
    ·exact .inl ⟨true,by simp [h],rfl⟩
  rcases hfrom with ⟨x,hx,rfl⟩ | hr
  ·rcases List.mem_append.1 hx with hx | hx
   ·obtain⟨o,ho,e⟩:=List.mem_map.1 hx
    exact hop o ho e
   ·simp only [List.mem_singleton] at hx
    have hx:=hx.symm
    rw [Bool.or_eq_true,decide_eq_true_eq] at hx
    rcases hx with hx | ⟨j,_,hr⟩
    ·unfold tE at hx
     simp only [Bool.and_eq_true,decide_eq_true_eq] at hx
     have:=hp.term b hm hx.1
     have:(t:Int)=b.term.a:=by omega
     unfold Ax
     refine List.mem_flatMap.2 ⟨b,hm,?_⟩
     unfold BF
     refine List.mem_append.2 (.inr ?_)
     rw [if_pos hx.1,this]; simp
    ·exact I2 hr
  ·exact I2 hr
end
end Go.Proofs.YtkeoalhglkfbkaaDoor


namespace Go.Proofs.YtkeoalhglkfbkaaDoor
open Go Hk
section
variable {p:IR}(h0:mN p=0) (hT:p.temps≤60)
theorem FL:(mF p).length=p.temps.toNat:=wT
theorem Zp {t:Nat}(ht:t < p.temps.toNat):fS (mF p) t=(rW (s_ p p.blocks.length t)).first∧eS (mF p) t=(rW (s_ p p.blocks.length t)).last:=by
 have:(mF p)[t]?=some (rW (s_ p p.blocks.length t)):=by
  unfold mF LS
  rw [List.getElem?_map,List.getElem?_range ht]; rfl
 unfold fS eS
 rw [this]
 exact⟨rfl,rfl⟩
include h0
theorem Cr {i t k:Nat}{b:lR}(hb:p.blocks[i]?=some b) (ht:t < p.temps.toNat) (hk:(xA p i t)[k]?=some true):0≤fS (mF p) t∧fS (mF p) t≤((abL p i+k:Nat):Int)∧((abL p i+k:Nat):Int)≤eS (mF p) t:=by
 have hkl:k < b.ops.length+1:=by rw [←QY (t:=t) hb]; exact(List.getElem?_eq_some_iff.1 hk).1
 have:=aiB h0 (t:=t) hb hkl
 rw [hk] at this
 rw [(Zp ht).1,(Zp ht).2]
 exact Uj this
theorem JH {t:Int}(h1:0≤t) (h2:t < p.temps) (hf:0≤fS (mF p) t.toNat):0≤sl (sM (mF p)) t∧sl (sM (mF p)) t < AX (mF p):=by
 have hl:t.toNat < (mF p).length:=by rw [FL]; omega
 obtain⟨z,hz⟩:=Vp (sp:=mF p) hl
 have e:∀z,(sM (mF p))[t.toNat]?=some z→sl (sM (mF p)) t=z:=by
  intro z hz; unfold sl; rw [List.getD_eq_getElem?_getD,hz]; rfl
 rcases hz with ⟨a,c,d⟩ | ⟨a,c,d⟩
 ·rw [e z a]; exact⟨c.2 hf,d⟩
 ·exact absurd hf d
theorem Ug {t u:Int}{x:Int}(t0:0≤t) (t1:t < p.temps) (u0:0≤u) (u1:u < p.temps) (hne:t≠u)
  (ht:0≤fS (mF p) t.toNat∧fS (mF p) t.toNat≤x∧x≤eS (mF p) t.toNat) (hu:0≤fS (mF p) u.toNat∧fS (mF p) u.toNat≤x∧x≤eS (mF p) u.toNat) :
  sl (sM (mF p)) t≠sl (sM (mF p)) u:=by
 have hl:t.toNat < (mF p).length:=by rw [FL]; omega
 have hl2:u.toNat < (mF p).length:=by rw [FL]; omega
 have g1:t.toNat < (sM (mF p)).length:=by rw [CN]; exact hl
 have g2:u.toNat < (sM (mF p)).length:=by rw [CN]; exact hl2
 have key:(sM (mF p))[t.toNat]?≠(sM (mF p))[u.toNat]?:=by
  rcases Int.le_total (fS (mF p) t.toNat) (fS (mF p) u.toNat) with h | h
  ·refine Ij ED hl hl2 (by omega) ?_
   unfold wP
   simp only [Bool.and_eq_true,decide_eq_true_eq]
   omega
  ·refine Ne.symm (Ij ED hl2 hl (by omega) ?_)
   unfold wP
   simp only [Bool.and_eq_true,decide_eq_true_eq]
   omega
 intro e
 apply key
 unfold sl at e
 rw [List.getD_eq_getElem?_getD,List.getD_eq_getElem?_getD] at e
 rw [List.getElem?_eq_getElem g1,List.getElem?_eq_getElem g2] at e ⊢
 exact congrArg some e
theorem I8 {i:Nat}{b:lR}(hb:p.blocks[i]?=some b) {pre post:List Op}(hops:b.ops=pre++post) {t:Int}(ht:pA post b.term (nN p.blocks b.term) t) :
  0≤t∧t < p.temps∧∃k,pre.length≤k∧(xA p i t.toNat)[k]?=some true:=by
 obtain⟨t0,t1⟩:=C3 h0 hb post pre hops t ht
 refine⟨t0,t1,?_⟩
 have et:((t.toNat:Nat):Int)=t:=by omega
 rcases NN ht with ⟨j,o,h1,h2⟩ | h
 ·refine⟨pre.length+j,by omega,GI hb (o:=o) ?_ ?_⟩
  ·rw [hops,List.getElem?_append_right (by omega),Nat.add_sub_cancel_left]; exact h1
  ·unfold Mf xK
   rw [Bool.or_eq_true]
   exact .inl (List.any_eq_true.2 ⟨t,h2,by simp⟩)
 ·refine⟨b.ops.length,by rw [hops]; simp,QX hb ?_⟩
  rw [et]; exact h
theorem Ro:Yd (sl (sM (mF p))) p.blocks:=by
 obtain⟨hp,_⟩:=qJ h0
 intro i b pre o post hb hops hd t t0 ht hne
 have hm:=List.mem_of_getElem? hb
 have hmo:o∈b.ops:=by rw [hops]; simp
 obtain⟨d0,d1⟩:=hp.made b hm o hmo hd
 have hops2:b.ops=(pre++[o])++post:=by rw [hops]; simp
 obtain⟨_,t1,k2,hk2,hk2t⟩:=I8 h0 hb hops2 ht
 have eo:b.ops[pre.length]?=some o:=by rw [hops]; simp
 have hod:(xA p i o.dst.toNat)[pre.length]?=some true:=GI hb eo (by unfold Mf; simp [hd])
 have ht2:pA (o::post) b.term (nN p.blocks b.term) t:=(rL o post b.term _ t).2 (.inr ⟨ht,fun⟨_,h⟩=>hne h.symm⟩)
 have hback:∃k1,k1≤pre.length∧(xA p i t.toNat)[k1]?=some true:=by
  rcases RK pre ht2 with h | ⟨j,u,h1,h2,h3⟩
  ·refine⟨0,Nat.zero_le _,aiA hb ?_⟩
   have et:((t.toNat:Nat):Int)=t:=by omega
   rw [et,yD hb]
   unfold Ch
   rw [hops]; exact h
  ·have hjl:=(List.getElem?_eq_some_iff.1 h1).1
   refine⟨j,by omega,GI hb (o:=u) ?_ ?_⟩
   ·rw [hops,List.getElem?_append_left hjl]; exact h1
   ·unfold Mf; simp [h2,h3]
 obtain⟨k1,hk1,hk1t⟩:=hback
 have s1:=Cr h0 hb (by omega) hk1t
 have s2:=Cr h0 hb (by omega) hk2t
 have s3:=Cr h0 hb (by omega) hod
 rw [List.length_append,List.length_singleton] at hk2
 exact Ug h0 t0 t1 d0 d1 hne (x:=((abL p i+pre.length:Nat):Int)) ⟨s1.1,by omega,by omega⟩ s3
theorem GO {i:Nat}{b:lR}(hb:p.blocks[i]?=some b) {pre post:List Op}(hops:b.ops=pre++post) {t:Int}(ht:pA post b.term (nN p.blocks b.term) t) :
  0≤t∧t < p.temps∧0≤sl (sM (mF p)) t:=by
 obtain⟨t0,t1,k,_,hk⟩:=I8 h0 hb hops ht
 exact⟨t0,t1,(JH h0 t0 t1 (Cr h0 hb (by omega) hk).1).1⟩
theorem CQ {t:Int}(ht:t∈Ax p):0≤t∧t < p.temps∧0≤sl (sM (mF p)) t∧sl (sM (mF p)) t < AX (mF p):=by
 obtain⟨hp,_⟩:=qJ h0
 unfold Ax at ht
 obtain⟨b,hm,ht⟩:=List.mem_flatMap.1 ht
 obtain⟨i,hi,rfl⟩:=List.mem_iff_getElem.1 hm
 have hb:p.blocks[i]?=some p.blocks[i]:=List.getElem?_eq_getElem hi
 generalize p.blocks[i]=b at *
 unfold BF at ht
 rcases List.mem_append.1 ht with ht | ht
 ·obtain⟨o,ho,ht⟩:=List.mem_flatMap.1 ht
  obtain⟨k,hk,rfl⟩:=List.mem_iff_getElem.1 ho
  have hko:b.ops[k]?=some b.ops[k]:=List.getElem?_eq_getElem hk
  generalize b.ops[k]=o at *
  unfold C0 at ht
  rcases List.mem_append.1 ht with ht | ht
  ·obtain⟨t0,t1⟩:=hp.use b hm o ho t ht
   have hod:(xA p i t.toNat)[k]?=some true:=GI hb hko (by
    unfold Mf xK
    rw [Bool.or_eq_true]
    exact .inl (List.any_eq_true.2 ⟨t,ht,by simp⟩))
   exact⟨t0,t1,JH h0 t0 t1 (Cr h0 hb (by omega) hod).1⟩
  ·by_cases hd:(mM o.kind).dst=true
   ·rw [if_pos hd] at ht
    simp only [List.mem_singleton] at ht
    subst ht
    obtain⟨t0,t1⟩:=hp.made b hm o ho hd
    have hod:(xA p i o.dst.toNat)[k]?=some true:=GI hb hko (by unfold Mf; simp [hd])
    exact⟨t0,t1,JH h0 t0 t1 (Cr h0 hb (by omega) hod).1⟩
   ·rw [if_neg hd] at ht; simp at ht
 ·by_cases hk:b.term.kind=2
  ·rw [if_pos hk] at ht
   simp only [List.mem_singleton] at ht
   subst ht
   obtain⟨t0,t1⟩:=hp.term b hm hk
   have et:((b.term.a.toNat:Nat):Int)=b.term.a:=by omega
   have hod:(xA p i b.term.a.toNat)[b.ops.length]?=some true:=QX hb (.inl ⟨hk,et.symm⟩)
   exact⟨t0,t1,JH h0 t0 t1 (Cr h0 hb (by omega) hod).1⟩
  ·rw [if_neg hk] at ht; simp at ht
theorem Pz:AX (mF p)≤p.temps:=by
 have ht0:=(n_ h0).2.1.t0
 have h1:=PS.ayD (f:=fS (mF p)) (e:=eS (mF p)) (oG (mF p))
 have h2:=Lr (sp:=mF p)
 rw [FL] at h2
 unfold AX Mx
 omega
include hT
theorem JI {t:Int}(ht:t∈Ax p):AW (sM (mF p)) t=true:=by
 obtain⟨_,_,a,c⟩:=CQ h0 ht
 have:=Pz h0
 unfold AW
 simp only [Bool.and_eq_true,decide_eq_true_eq]
 omega
theorem aiC {m:Int}:∀{ts:List Int},(∀t∈ts,t∈Ax p)→0≤m→m≤AX (mF p)→0≤y7 (sM (mF p)) m ts∧y7 (sM (mF p)) m ts≤AX (mF p)∧m≤y7 (sM (mF p)) m ts∧∀t∈ts,sl (sM (mF p)) t+1≤y7 (sM (mF p)) m ts:=by
 intro ts
 induction ts generalizing m with
 | nil=>intro _ a c; exact⟨a,c,Int.le_refl _,fun t h=>by simp at h⟩
 | cons t ts ih =>
  intro h a c
  obtain⟨_,_,g1,g2⟩:=CQ h0 (h t (by simp))
  have hn:=Pz h0
  have w:IntKind.i64.wrap (sl (sM (mF p)) t+1)=sl (sM (mF p)) t+1:=wrap64 (by omega) (by omega)
  have e:y7 (sM (mF p)) m (t::ts)=y7 (sM (mF p)) (max m (sl (sM (mF p)) t+1)) ts:=by
   unfold y7
   rw [List.foldl_cons,w]
  rw [e]
  obtain⟨i1,i2,i3,i4⟩:=ih (m:=max m (sl (sM (mF p)) t+1)) (fun u hu=>h u (by simp [hu])) (by omega) (by omega)
  refine⟨i1,i2,by omega,fun u hu=>?_⟩
  rcases List.mem_cons.1 hu with rfl | hu
  ·omega
  ·exact i4 u hu
theorem abB:y7 (sM (mF p)) 0 (Ax p)=AX (mF p):=by
 obtain⟨i1,i2,_,i4⟩:=aiC h0 hT (m:=0) (ts:=Ax p) (fun t h=>h) (Int.le_refl _) LJ
 rcases Q4 (Mx (mF p)) with h | ⟨q,hq,h⟩
 ·have:AX (mF p)=0:=by unfold AX; rw [h]; rfl
  omega
 ·have hm:q.1∈(Mx (mF p)).map (·.1):=List.mem_map.2 ⟨q,hq,rfl⟩
  rw [Eh] at hm
  obtain⟨a,c⟩:=tA.1 hm
  have hlt:q.1 < p.temps.toNat:=by rw [FL] at a; exact a
  rw [(Zp hlt).1] at c
  obtain⟨x,hx⟩:=Ui c
  obtain⟨i,k,_,hk⟩:=Nj hx
  have:=i4 _ (TE h0 hk)
  have e:sl (sM (mF p)) (q.1:Int)=(q.2:Int):=by
   have hg:(sM (mF p))[q.1]?=some (q.2:Int):=(AR BZ a).1 q.2 hq
   unfold sl
   rw [Int.toNat_natCast,List.getD_eq_getElem?_getD,hg]; rfl
  rw [e] at this
  have:AX (mF p)=(q.2:Int)+1:=by unfold AX; rw [h]; rfl
  omega
theorem abA {b:lR}(hm:b∈p.blocks):GG (sM (mF p)) b=Ie (sl (sM (mF p))) b:=by
 have hin:∀t∈BF b,t∈Ax p:=fun t ht=>List.mem_flatMap.2 ⟨b,hm,ht⟩
 unfold GG Ie
 congr 1
 ·refine List.map_congr_left fun o ho=>?_
  have ho2:∀t∈C0 o,AW (sM (mF p)) t=true:=fun t ht=>JI h0 hT (hin t (by unfold BF; exact List.mem_append_left _ (List.mem_flatMap.2 ⟨o,ho,ht⟩)))
  have hs:=yY o.kind
  unfold C0 mU at ho2
  unfold Ln xE
  generalize (mM o.kind).src=n at *
  have key:∀t,t∈[o.a,o.b,o.c].take n→uR (sM (mF p)) t=sl (sM (mF p)) t:=fun t h=>L7 (ho2 t (List.mem_append_left _ h))
  have kd:(if (mM o.kind).dst=true then uR (sM (mF p)) o.dst else o.dst)=(if (mM o.kind).dst=true then sl (sM (mF p)) o.dst else o.dst):=by
   by_cases hd:(mM o.kind).dst=true
   ·rw [if_pos hd,if_pos hd,L7 (ho2 _ (by rw [if_pos hd]; simp))]
   ·rw [if_neg hd,if_neg hd]
  rw [kd]
  rcases (show n=0∨n=1∨n=2∨n=3 by omega) with rfl | rfl | rfl | rfl
  ·rfl
  ·have k1:=key o.a (by simp)
   simp [k1]
  ·have k1:=key o.a (by simp)
   have k2:=key o.b (by simp)
   simp [k1,k2]
  ·have k1:=key o.a (by simp)
   have k2:=key o.b (by simp)
   have k3:=key o.c (by simp)
   simp [k1,k2,k3]
 ·unfold Jn
  by_cases h:b.term.kind=2
  ·rw [if_pos h,if_pos h,L7 (JI h0 hT (hin _ (by unfold BF; rw [if_pos h]; simp)))]
  ·rw [if_neg h,if_neg h]
noncomputable def tR (p:IR):IR:=⟨AX (mF p),p.arrays,p.blocks.map (Ie (sl (sM (mF p)))),p.inn,p.out⟩
theorem Sn:Qs p (sM (mF p))=(tR p,0):=by
 have hl:((sM (mF p)).length:Int)=p.temps:=by
  have ht0:=(n_ h0).2.1.t0
  rw [CN,FL]; omega
 have hbad:((Ax p).foldl (xS (sM (mF p))) ⟨Ab (sM (mF p)),0,false⟩).bad=false:=by
  rw [QG]
  simp only [Bool.false_or,List.any_eq_false]
  intro t ht
  simp [JI h0 hT ht]
 unfold Qs
 rw [if_neg (by simp [h0]),if_neg (by simp [hl]),hbad,if_neg (by decide),M0 _ _ (fun t ht=>JI h0 hT ht),abB h0 hT]
 unfold tR
 congr 2
 exact List.map_congr_left fun b hb=>abA h0 hT hb
end
end Go.Proofs.YtkeoalhglkfbkaaDoor


namespace Go.Proofs.YtkeoalhglkfbkaaDoor
open Go Hk
theorem MV {p:IR}(l0:aeQ p) (h1:mO p.inn 0 65536=true) (h2:mO p.out 0 65536=true) (h3:p.inn.tmod 4=0) (h4:p.out.tmod 4=0) (h5:0≤p.temps) (hne:p.blocks≠[]) (ha:A3 p.inn p.out 0 p.arrays=true)
  (hb:∀b∈p.blocks,(∀o∈b.ops,JB p o=true)∧wN (p:=p) b.term=true):mN p=0:=by
 have hl:pC p=true:=tV.2 l0
 unfold mN
 rw [hl,if_neg (by decide),if_pos ⟨h1,h2,h3,h4,h5,hne⟩,if_pos]
 simp only [Bool.and_eq_true,List.all_eq_true]
 refine⟨ha,fun c hc=>?_⟩
 simp only [Jh,Bool.and_eq_true,List.all_eq_true]
 exact hb c hc
theorem Gg {p:IR}(h:mN p=0):mO p.inn 0 65536=true∧mO p.out 0 65536=true∧p.inn.tmod 4=0∧p.out.tmod 4=0:=by
 obtain⟨l0,_⟩:=n_ h
 have hl:pC p=true:=tV.2 l0
 unfold mN at h
 rw [hl,if_neg (by decide)] at h
 split at h
 ·rename_i hc; exact⟨hc.1,hc.2.1,hc.2.2.1,hc.2.2.2.1⟩
 ·exact absurd h (by decide)
theorem Q9 {σ:Int→Int}:∀l:List lR,vF (l.map (Ie σ))=vF l
 | []=>rfl
 | b::r=>by
  have e:(Ie σ b).ops.length=b.ops.length:=by simp [Ie]
  simp only [List.map_cons,vF,Q9 r,e]
theorem We {σ:Int→Int}{o:Op}:mM (xE σ o).kind=mM o.kind:=rfl
section
variable {p:IR}(h0:mN p=0) (hT:p.temps≤60)
include h0 hT
theorem acG:mN (tR p)=0:=by
 obtain⟨l0,lm,hne,harr,hb⟩:=n_ h0
 obtain⟨c1,c2,c3,c4⟩:=Gg h0
 have hn:=Pz h0
 have hn0:=LJ (sp:=mF p)
 have hlen:(tR p).blocks.length=p.blocks.length:=by simp [tR]
 refine MV ⟨?_,l0.a1,?_,?_,l0.r1⟩ c1 c2 c3 c4 hn0 ?_ harr ?_
 ·show AX (mF p)≤1048576
  omega
 ·rw [hlen]; exact l0.b1
 ·show vF (p.blocks.map _)≤1048576
  rw [Q9]; exact l0.o1
 ·intro h
  have:=congrArg List.length h
  rw [hlen] at this
  exact hne (List.length_eq_zero_iff.1 this)
 ·intro c hc
  obtain⟨b,hbm,rfl⟩:=List.mem_map.1 hc
  obtain⟨g1,g2⟩:=hb b hbm
  have hin:∀t∈BF b,0≤sl (sM (mF p)) t∧sl (sM (mF p)) t≤AX (mF p) - 1:=fun t ht=>by
   obtain⟨_,_,a,c⟩:=CQ h0 (List.mem_flatMap.2 ⟨b,hbm,ht⟩:t∈Ax p)
   omega
  refine⟨fun u hu=>?_,?_⟩
  ·obtain⟨o,ho,rfl⟩:=List.mem_map.1 hu
   have hino:∀t∈C0 o,0≤sl (sM (mF p)) t∧sl (sM (mF p)) t≤AX (mF p) - 1:=fun t ht=>hin t (by unfold BF; exact List.mem_append_left _ (List.mem_flatMap.2 ⟨o,ho,ht⟩))
   have hg:=g1 o ho
   unfold JB at hg ⊢
   rw [NM,We]
   have himm:(xE (sl (sM (mF p))) o).imm=o.imm:=rfl
   have hmem:De (tR p) (xE (sl (sM (mF p))) o)=De p o:=rfl
   rw [himm,hmem]
   simp only [Bool.and_eq_true,decide_eq_true_eq] at hg ⊢
   obtain⟨f1,f2,f3,⟨f4,f5,f6,f7⟩,f8,f9⟩:=hg
   refine⟨f1,f2,?_,⟨?_,?_,?_,?_⟩,?_,f9⟩
   ·rw [List.all_eq_true]
    intro t ht
    obtain⟨u,hu,rfl⟩:=List.mem_map.1 ht
    have:=hino u (by unfold C0; exact List.mem_append_left _ hu)
    simp only [mO,Bool.and_eq_true,decide_eq_true_eq]
    exact this
   ·unfold xE
    simp only
    by_cases hd:(mM o.kind).dst=true
    ·simp [hd]
    ·simp only [hd,if_false] at f4 ⊢; exact f4
   ·unfold xE
    simp only
    by_cases hd:1≤(mM o.kind).src
    ·simp [hd]
    ·simp only [hd,if_false] at f5 ⊢; exact f5
   ·unfold xE
    simp only
    by_cases hd:2≤(mM o.kind).src
    ·simp [hd]
    ·simp only [hd,if_false] at f6 ⊢; exact f6
   ·unfold xE
    simp only
    by_cases hd:3≤(mM o.kind).src
    ·simp [hd]
    ·simp only [hd,if_false] at f7 ⊢; exact f7
   ·rw [Bool.or_eq_true] at f8 ⊢
    rcases f8 with f8 | f8
    ·exact .inl f8
    ·by_cases hd:(mM o.kind).dst=true
     ·right
      have:=hino o.dst (by unfold C0; rw [if_pos hd]; simp)
      have e:(xE (sl (sM (mF p))) o).dst=sl (sM (mF p)) o.dst:=by unfold xE; simp [hd]
      rw [e]
      simp only [mO,Bool.and_eq_true,decide_eq_true_eq]
      exact this
     ·left; simp [hd]
  ·have hbl:((tR p).blocks.length:Int)=p.blocks.length:=by rw [hlen]
   show wN (p:=tR p) (Jn (sl (sM (mF p))) b.term)=true
   unfold wN at g2 ⊢
   rw [hbl]
   unfold Jn
   by_cases k2:b.term.kind=2
   ·rw [if_pos k2]
    have k1:¬b.term.kind=1:=by omega
    simp only [k1,k2,if_true,if_false] at g2 ⊢
    rw [if_neg (by decide)] at g2 ⊢
    simp only [Bool.and_eq_true] at g2 ⊢
    refine⟨?_,g2.2⟩
    have:=hin b.term.a (by unfold BF; rw [if_pos k2]; simp)
    simp only [mO,Bool.and_eq_true,decide_eq_true_eq]
    exact this
   ·rw [if_neg k2]
    by_cases k1:b.term.kind=1
    ·rw [if_pos k1] at g2 ⊢
     exact g2
    ·rw [if_neg k1,if_neg k2] at g2 ⊢
     exact g2
theorem Vr (n:Nat) (t:Int):tg (List.replicate n 0) t=0:=by
 unfold tg
 rw [List.getD_eq_getElem?_getD,List.getElem?_replicate]
 split <;> rfl
theorem XC (inp:List UInt8) (n:Int):Dh (tR p) inp n=Dh p inp n:=by
 have hq0:=acG h0 hT
 unfold Dh
 rw [if_pos h0,if_pos hq0]
 have e1:(tR p).inn=p.inn:=rfl
 have e2:(tR p).arrays=p.arrays:=rfl
 have e3:(tR p).temps=AX (mF p):=rfl
 have e4:(tR p).out=p.out:=rfl
 have e5:(tR p).blocks=p.blocks.map (Ie (sl (sM (mF p)))):=rfl
 rw [e1,e2,e3,e4,e5]
 by_cases hc:(inp.length:Int)=p.inn∧mO n 0 67108864=true
 ·rw [if_pos hc,if_pos hc]
  have hR:=GR h0 hc.1
  have hn0:=LJ (sp:=mF p)
  have ht0:=(n_ h0).2.1.t0
  cases hbl:p.blocks with
  | nil=>exact absurd hbl (n_ h0).2.2.1
  | cons b rb =>
   simp only [List.map_cons]
   have hb0:p.blocks[0]?=some b:=by rw [hbl]; rfl
   have hpl:R_ (sl (sM (mF p))) p.temps (AX (mF p)).toNat p.blocks:=by
    refine⟨fun i b hb t t0 t1 ht=>(GO h0 hb (pre:=[]) (post:=b.ops) rfl ht).2.2,fun i b hb o ho hd=>?_⟩
    have:=CQ h0 (t:=o.dst) (List.mem_flatMap.2 ⟨b,List.mem_of_getElem? hb,by
     unfold BF
     refine List.mem_append_left _ (List.mem_flatMap.2 ⟨o,ho,?_⟩)
     unfold C0
     rw [if_pos hd]; simp⟩)
    exact⟨this.2.2.1,by omega⟩
   have hgo:=Zv GV RJ (arrays:=p.arrays) (Ro h0) hpl (Lq h0) (fun i b hb pre post hops t ht=>GO h0 hb hops ht) n.toNat 0 b [] b.ops
    ⟨List.replicate p.temps.toNat 0,qU p.arrays inp⟩ ⟨List.replicate (AX (mF p)).toNat 0,qU p.arrays inp⟩ hb0 rfl rfl (by simp; omega) (by simp) (fun t _=>by rw [Vr h0 hT,Vr h0 hT])
   rw [hbl] at hgo
   simp only [List.map_cons] at hgo
   have er:(Ie (sl (sM (mF p))) b).term=Jn (sl (sM (mF p))) b.term:=rfl
   have er2:(Ie (sl (sM (mF p))) b).ops=b.ops.map (xE (sl (sM (mF p)))):=rfl
   rw [er,er2,hgo]
 ·rw [if_neg hc,if_neg hc]
end
section
variable {p:IR}(h0:mN p=0)
include h0
end
end Go.Proofs.YtkeoalhglkfbkaaDoor


namespace Go.Proofs.YtkeoalhglkfbkaaDoor
open Go Hk
theorem aBj (p:IR) (l:List Int) (h:kU):KK 49 [.agg p.cells,.slice (ints l) .no] h=some (.ret (.tuple [.agg (Qs p l).1.cells,.int .i64 (Qs p l).2]),h) :=
 (Ic p l h).trans (by rw [ay5]; rfl)
theorem c19 (p:IR) (inp:List UInt8) (n:Int) (h:kU):KK 19 [.agg p.cells,.str inp,.int .i64 n] h=some (.ret (.bool true),h):=by
 refine mD rfl rfl (mR (apD _ _ _ _ _) ?_)
 have a0:mH 5 [] (.agg p.cells)=some (.ptr 0 0,[.cells p.cells]):=by simp [IR.cells]
 have l00:kW true 5 [.cells p.cells] (.ptr 0 0)=some (.agg p.cells):=by simp [IR.cells]
 have u0:(kS.agg p.cells).k8=.agg p.cells:=rfl
 obtain⟨b,hb60,g43⟩:=c43 p
 have g44:=c44
 by_cases n0:n < 0
 ·simp -implicitDefEqProofs [m19,-lH,-lV,-mH,a0,n0,g44,lM]
 by_cases n1:3000 < n
 ·simp -implicitDefEqProofs [m19,-lH,-lV,-mH,a0,n0,n1,g44,lM]
 cases b with
 | false=>simp -implicitDefEqProofs [m19,-lH,-lV,-mH,a0,l00,u0,n0,n1,g43,g44,lM]
 | true =>
  have hT:=hb60 rfl
  by_cases h0:mN p=0
  ·have ht0:=(n_ h0).2.1.t0
   have g47:∀h,KK 47 [.agg p.cells] h=some (.ret (.tuple [.slice (ints (sM (mF p))) .no,.int .i64 (AX (mF p)),.int .i64 0]),h) :=
    fun h=>c47 (p:=p) (sp:=mF p) (n:=p.temps.toNat) FL (by omega) ED (fun h=>by have:=c45 p h; rw [if_pos h0,h0] at this; exact this) h
   have g49:∀h,KK 49 [.agg p.cells,.slice (ints (sM (mF p))) .no] h=some (.ret (.tuple [.agg (tR p).cells,.int .i64 0]),h):=fun h=>by
    rw [aBj,Sn h0 hT]
   have g51:=c51 p inp n
   have g51':=c51 (tR p) inp n
   rw [XC h0 hT] at g51'
   have hle:=Pz h0
   have f0:kV 0 (.ptr 0 0)=some (.ptr 0 0):=rfl
   have f1:kV 0 (.ptr 1 0)=some (.ptr 1 0):=rfl
   have a1:mH 5 [.cells p.cells] (.agg [.int .i64 0,.slice [] .nil,.slice [] .nil,.int .i64 0,.int .i64 0])=some (.ptr 1 0,[.cells p.cells,.cells [.int .i64 0,.slice [] (.own 2),.slice [] (.own 3),.int .i64 0,.int .i64 0],.front 0 0,.front 0 0]):=by simp
   have st:lT 5 [.cells p.cells,.cells [.int .i64 0,.slice [] (.own 2),.slice [] (.own 3),.int .i64 0,.int .i64 0],.front 0 0,.front 0 0] (.ptr 1 0) (.agg (tR p).cells)=some [.cells p.cells,.cells (tR p).cells,.front 0 0,.front 0 0]:=by simp [IR.cells]
   have l01:kW true 5 [.cells p.cells,.cells (tR p).cells,.front 0 0,.front 0 0] (.ptr 0 0)=some (.agg p.cells):=by simp [IR.cells]
   have l1:kW true 5 [.cells p.cells,.cells (tR p).cells,.front 0 0,.front 0 0] (.ptr 1 0)=some (.agg (tR p).cells):=by simp [IR.cells]
   have lt0:kW false 1 [.cells p.cells,.cells (tR p).cells,.front 0 0,.front 0 0] (.ptr 0 0)=some (.int .i64 p.temps):=by simp [IR.cells]
   have lt1:kW false 1 [.cells p.cells,.cells (tR p).cells,.front 0 0,.front 0 0] (.ptr 1 0)=some (.int .i64 (AX (mF p))):=by simp [IR.cells,tR]
   have u1:(kS.agg (tR p).cells).k8=.agg (tR p).cells:=rfl
   have us:∀s:List UInt8,(kS.str s).k8=.str s:=fun s=>rfl
   have ui:∀s:Int,(kS.int .i64 s).k8=.int .i64 s:=fun s=>rfl
   have ul:∀s:List Int,(kS.slice (ints s) .no).k8=.slice (ints s) .no:=fun s=>rfl
   generalize AX (mF p)=sn at *
   generalize sM (mF p)=sl_ at *
   generalize (tR p).cells=qc at *
   generalize Dh p inp n=r1 at *
   generalize ([.cells p.cells,.cells [.int .i64 0,.slice [] (.own 2),.slice [] (.own 3),.int .i64 0,.int .i64 0],.front 0 0,.front 0 0]:kU)=X1 at *
   generalize ([.cells p.cells,.cells qc,.front 0 0,.front 0 0]:kU)=X2 at *
   simp -implicitDefEqProofs [m19,-lH,-lV,-lY,-mH,a0,a1,n0,n1,l00,l01,l1,lt0,lt1,f0,f1,hle,u0,u1,us,ui,ul,g43,g44,g47,g49,g51,g51',st,lZ,lM]
  ·have g47:∀h,KK 47 [.agg p.cells] h=some (.ret (.tuple [.slice [] .no,.int .i64 0,.int .i64 (mN p)]),h):=fun h=>UY h0 h
   have g30:=c30 p
   generalize mN p=e at *
   simp -implicitDefEqProofs [m19,-lH,-lV,-lY,-mH,a0,n0,n1,l00,u0,g43,g44,g47,g30,h0,lZ,lM]
end Go.Proofs.YtkeoalhglkfbkaaDoor


namespace Go.Proofs.YtkeoalhglkfbkaaDoor
open Go Hk
theorem axS (p:IR) (s:List UInt8) (n:Int) (_:s.length≤maxLen) (_:(Lit.int .i64 n).wf=true):Ji Tryd.prog nA 19 [.agg p.cells,.str s,.int .i64 n] []=some (.ret (.bool true),[]):=abJ rfl (c19 p s n [])
end Go.Proofs.YtkeoalhglkfbkaaDoor
