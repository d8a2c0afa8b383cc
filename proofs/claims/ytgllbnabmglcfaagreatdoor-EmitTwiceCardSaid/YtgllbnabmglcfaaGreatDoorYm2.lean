/-
  The texts YM.T1, YM.P1, YM.S2, YM.S3, YM.TD, YM.S4, YM.S5, YM.ME, YM.W1, YM.S6, one behind another. No conditions.
-/
import Derived.Test.YtgllbnabmglcfaaGreatDoorYm1
set_option linter.unusedVariables false
set_option linter.unusedSimpArgs false
set_option linter.all false
open Int renaming natCast_add → as1
open List renaming drop_eq_getElem_cons → ao4, getD → aa7, getElem?_eq_getElem → ac6, length → aa8, map_cons → aq7
open Nat renaming le_refl → ai1
namespace Go.Proofs.YtgllbnabmglcfaaGreatDoor
noncomputable section
open Go Hk
noncomputable def adW (mm:Nat) (aA:R):Option (nB×lD) :=
 (fun aB=>Ex.nR aA.1 (nJ mm (.tuple []) aB))  aA.2.2
theorem akK (y0:Int) (y1:Int) (h:lD) (id tot j:Nat) (xs:List Span):SK 2 id h (some (Vc Span.cells 2 xs)) tot (j*2) (.agg [(.int .i64 y0),(.int .i64 y1)])=tb (xR tot xs j) fun x=>tm (FN tot xs j (⟨y0,y1⟩:Span)) fun zs=>h.set id (Vc Span.cells 2 zs):=XR (enc:=Span.cells) (⟨y0,y1⟩:Span) (fun _=>rfl) (by decide) rfl rfl
noncomputable def Qz (K:lN) (aH:lC) (aA:lC) (aB:lC) (t32:lC) (aF:lD) (aD:lC) (aE:lC) (aC:lC):Option R :=
 lS aH ((mD [(.int .i64 0),(.int .i64 0)] [(0,1),(1,1)] [(0,aA),(1,aA)]).bind fun aI=>ix 2 aB t32 fun aJ=>(lW 2 aF aJ aI).bind fun aG=>lX (aa8 aF) .normal [aB,aA,t32,aD,aE,aC] aG) (lX (aa8 aF) .normal [aB,aA,t32,aD,aE,aC] aF)
noncomputable def AH (w41:Bool) (o1:Int) (o0:Nat) (u31:Int) (w42:(List Span)):Option ((List Span)) :=
 tc w41 (tb ((MH o0 u31)) fun j45=>tb ((xR o0 w42 j45)) fun u47=>tb ((FN o0 w42 j45 (⟨o1,o1⟩:Span))) fun l48=>some l48) (some w42)
theorem abN (w41:Bool) (o1:Int) (o0:Nat) (u31:Int) (w42:(List Span)) (o2:(List Int)) (w21:Int) (w39:Int):(Qz KK (.bool w41) (.int .i64 o1) (.vslice 0 o0 0 o0 2) (.int .i64 u31) ([Vc Span.cells 2 w42]:lD) (.slice (Rw (ci .i64) o2) .no) (.int .i64 w21) (.int .i64 w39))=tm (AH w41 o1 o0 u31 w42) fun r=>(.normal,[(.vslice 0 o0 0 o0 2),(.int .i64 o1),(.int .i64 u31),(.slice (Rw (ci .i64) o2) .no),(.int .i64 w21),(.int .i64 w39)],([Vc Span.cells 2 r]:lD)):=by
 simp +contextual -implicitDefEqProofs (maxSteps:=2000000) [-lM,-lF,-lE,-lG,-lK,-lI,-lH,Qz,AH,akK]
theorem akL (y0:Int) (h:lD) (id tot j:Nat) (xs:List Span):SK 1 id h (some (Vc Span.cells 2 xs)) tot (j*2) (.int .i64 y0)=tb (xR tot xs j) fun x=>tm (FN tot xs j (⟨y0,x.last⟩:Span)) fun zs=>h.set id (Vc Span.cells 2 zs):=Rr (enc:=Span.cells) (sz:=2) (m:=1) (v:=(.int .i64 y0)) (off:=0) (fun(x:Span)=>(⟨y0,x.last⟩:Span)) (fun _=>rfl) rfl (by decide) (by decide) rfl (fun _=>rfl)
theorem akM (y0:Int) (h:lD) (id tot j:Nat) (xs:List Span):SK 1 id h (some (Vc Span.cells 2 xs)) tot (j*2+1) (.int .i64 y0)=tb (xR tot xs j) fun x=>tm (FN tot xs j (⟨x.first,y0⟩:Span)) fun zs=>h.set id (Vc Span.cells 2 zs):=Rr (enc:=Span.cells) (sz:=2) (m:=1) (v:=(.int .i64 y0)) (off:=1) (fun(x:Span)=>(⟨x.first,y0⟩:Span)) (fun _=>rfl) rfl (by decide) (by decide) rfl (fun _=>rfl)
noncomputable def L5 (K:lN) (m:Nat) (s:List lC×lD):Option R :=
 (fun aD aI aF aG aA aM=>bo .lss aA aG fun t29=>lS t29 (ix 1 aF aA fun t30=>ld false 1 aM t30 fun t32=>ix 2 aD t32 fun aQ=>fa 0 aQ fun aR=>ld false 1 aM aR fun t36=>bo .lss t36 (.int .i64 0) fun aS=>(Qz K aS aI aD t32 aM aF aG aA).bind fun aH=>(fun aB aE aC aK aL aJ aN=>Ex.qZ aH.1 (ix 2 aB aC fun aT=>fa 0 aT fun aU=>ld false 1 aN aU fun t60=>(Ck t60 aE).bind fun aV=>ix 2 aB aC fun aW=>fa 1 aW fun aX=>ld false 1 aN aX fun aY=>(Dj aY aE).bind fun aZ=>ix 2 aB aC fun a_=>fa 0 a_ fun bB=>(lW 1 aN bB aV).bind fun aO=>ix 2 aB aC fun bC=>fa 1 bC fun bD=>(lW 1 aO bD aZ).bind fun aP=>bo .add aJ (.int .i64 1) fun bE=>lX m .normal [aB,aE,aK,aL,bE] aP)) (gd aH.2.1 0) (gd aH.2.1 1) (gd aH.2.1 2) (gd aH.2.1 3) (gd aH.2.1 4) (gd aH.2.1 5) aH.2.2) (lX m (.exit 0) [aD,aI,aF,aG,aA] aM)) (gd s.1 0) (gd s.1 1) (gd s.1 2) (gd s.1 3) (gd s.1 4) s.2
noncomputable def yH (o0:Nat) (o1:Int) (o2:(List Int)) (w21:Int) (s22:Int×(List Span)):Option (Ey×Int×(List Span)) :=
 tc (decide (s22.1<w21)) (tb ((oV o2 s22.1)) fun u31=>tb ((MH o0 u31)) fun j34=>tb ((xR o0 s22.2 j34)) fun u37=>tb (AH (decide (u37.first<0)) o1 o0 u31 s22.2) fun r49=>tb ((MH o0 u31)) fun j58=>tb ((xR o0 r49 j58)) fun u61=>tb ((MH o0 u31)) fun j64=>tb ((xR o0 r49 j64)) fun u67=>tb ((MH o0 u31)) fun j70=>tb ((xR o0 r49 j70)) fun u73=>tb ((FN o0 r49 j70 (⟨(min u61.first o1),u73.last⟩:Span))) fun l74=>tb ((MH o0 u31)) fun j76=>tb ((xR o0 l74 j76)) fun u79=>tb ((FN o0 l74 j76 (⟨u79.first,(max u67.last o1)⟩:Span))) fun l80=>some (.n,((IntKind.wrap .i64 (s22.1+1)),l80))) (some ((.x 0),(s22.1,s22.2)))
theorem Zo (o0:Nat) (o1:Int) (o2:(List Int)) (w21:Int) (s22:Int×(List Span)):L5 KK 1 ([(.vslice 0 o0 0 o0 2),(.int .i64 o1),(.slice (Rw (ci .i64) o2) .no),(.int .i64 w21),(.int .i64 s22.1)],([Vc Span.cells 2 s22.2]:lD))=tm (yH o0 o1 o2 w21 s22) fun r=>(r.1.ex,[(.vslice 0 o0 0 o0 2),(.int .i64 o1),(.slice (Rw (ci .i64) o2) .no),(.int .i64 w21),(.int .i64 r.2.1)],([Vc Span.cells 2 r.2.2]:lD)):=by
 simp +contextual -implicitDefEqProofs (maxSteps:=2000000) [-lM,-lF,-lE,-lG,-lK,-lI,-lH,L5,yH,abN,akL,akM]
theorem abO (o0:Nat) (o1:Int) (o2:(List Int)) (w21:Int) (i4:Int) (i5:(List Span)):mX (L5 KK 1) ([(.vslice 0 o0 0 o0 2),(.int .i64 o1),(.slice (Rw (ci .i64) o2) .no),(.int .i64 w21),(.int .i64 i4)],([Vc Span.cells 2 i5]:lD))=tm (tY (yH o0 o1 o2 w21) (i4,i5)) fun r=>(r.1.ex,[(.vslice 0 o0 0 o0 2),(.int .i64 o1),(.slice (Rw (ci .i64) o2) .no),(.int .i64 w21),(.int .i64 r.2.1)],([Vc Span.cells 2 r.2.2]:lD)):=by
 exact uP (enc:=fun s22=>([(.vslice 0 o0 0 o0 2),(.int .i64 o1),(.slice (Rw (ci .i64) o2) .no),(.int .i64 w21),(.int .i64 s22.1)],([Vc Span.cells 2 s22.2]:lD))) (fun s22=>Zo o0 o1 o2 w21 s22) (i4,i5)
noncomputable def m72 (K:lN) (a0 a1 a2:lC) (h0:lD):Option (nB×lD) :=
 (ln a2 fun aJ=>(mX (L5 K (aa8 h0)) ([a0,a1,a2,aJ,(.int .i64 0)],h0)).bind fun aA=>(fun aD aE aF aG aB aC=>Ex.mO aA.1 none (fun aH=>Ex.inBlock 0 aH (some (.normal,[],aC)) (fun aI=>some (aI,[],aC)))) (gd aA.2.1 0) (gd aA.2.1 1) (gd aA.2.1 2) (gd aA.2.1 3) (gd aA.2.1 4) aA.2.2).bind (adW (aa8 h0))
theorem HJ (K:lN) (a0 a1 a2:lC) (h0:lD):qG Tryz.prog mY mX K 72 [a0,a1,a2] h0=m72 (mH mY K) a0 a1 a2 h0:=by kernel_rfl
noncomputable def Ef (o0:Nat) (o1:Int) (o2:(List Int)) (o3:(List Span)):Option ((List Span)) :=
 tb (tY (yH o0 o1 o2 ((aa8 o2:Nat):Int)) (0,o3)) fun r82=>xD r82.1 none fun e83=>xF 0 e83 (some r82.2.2) fun e90=>JC e90 (some r82.2.2)
theorem Vd (o0:Nat) (o1:Int) (o2:(List Int)) (o3:(List Span)):m72 KK (.vslice 0 o0 0 o0 2) (.int .i64 o1) (.slice (Rw (ci .i64) o2) .no) ([Vc Span.cells 2 o3]:lD)=tm (Ef o0 o1 o2 o3) fun r=>(.ret (.tuple []),([Vc Span.cells 2 r]:lD)):=by
 simp +contextual -implicitDefEqProofs (maxSteps:=2000000) [-lM,-lF,-lE,-lG,-lK,-lI,-lH,m72,Ef,abO,adW]
noncomputable def JO (mm:Nat) (aB:R):Option (nB×lD) :=
 (fun aA aC=>Ex.nR aB.1 (nJ mm aA aC)) (gd aB.2.1 0) aB.2.2
noncomputable def Qs (K:lN) (a0:lC) (aC:lD) (aE:lC) (aB:lC):Option R :=
 (l_ a0).bind fun aF=>fa 2 aF fun aG=>(lW 1 aC aG aE).bind fun aA=>(l_ a0).bind fun aH=>fa 1 aH fun aI=>ld false 1 aA aI fun t53=>bo .add aB (.int .i64 1) fun aJ=>(Dj t53 aJ).bind fun aK=>(l_ a0).bind fun aL=>fa 1 aL fun aM=>(lW 1 aA aM aK).bind fun aD=>some (.ret,[aB],aD)
noncomputable def B_ (o1:mG) (w47:Bool) (u24:Int):Option (Int×mG) :=
 some (u24,(⟨o1.slots,(max o1.most (IntKind.wrap .i64 (u24+1))),w47⟩:mG))
theorem Ss (o1:mG) (w38:Bool) (w47:Bool) (u24:Int):((Qs KK (.ptr 0 0) ([.cells [(.slice (Rw (ci .i64) o1.slots) .no),(.int .i64 o1.most),(.bool w38)]]:lD) (.bool w47) (.int .i64 u24))).bind (JO 1)=tm (B_ o1 w47 u24) fun r=>(.ret (.int .i64 r.1),([.cells [(.slice (Rw (ci .i64) r.2.slots) .no),(.int .i64 r.2.most),(.bool r.2.bad)]]:lD)):=by
 simp +contextual -implicitDefEqProofs (maxSteps:=2000000) [-lM,-lF,-lE,-lG,-lK,-lI,-lH,Qs,B_,JO]
noncomputable def Qr (K:lN) (aA:lC) (aD:lC) (aB:lD) (a0:lC):Option R :=
 gS false aA (lV aD aB) aB fun aF aC=>gS false aA (bo .geq aF (.int .i64 1048576) fun aG=>lV aG aC) aC fun aH aE=>(mJ aA (.bool true) aH).bind fun aI=>Qs K a0 aE aI aD
noncomputable def B9 (w37:Bool) (u24:Int) (o1:mG):Option (Int×mG) :=
 tc w37 (B_ o1 true u24) (B_ o1 (decide (1048576≤u24)) u24)
theorem abM (w37:Bool) (u24:Int) (o1:mG) (w38:Bool):((Qr KK (.bool w37) (.int .i64 u24) ([.cells [(.slice (Rw (ci .i64) o1.slots) .no),(.int .i64 o1.most),(.bool w38)]]:lD) (.ptr 0 0))).bind (JO 1)=tm (B9 w37 u24 o1) fun r=>(.ret (.int .i64 r.1),([.cells [(.slice (Rw (ci .i64) r.2.slots) .no),(.int .i64 r.2.most),(.bool r.2.bad)]]:lD)):=by
 simp +contextual -implicitDefEqProofs (maxSteps:=2000000) [-lM,-lF,-lE,-lG,-lK,-lI,-lH,Qr,B9,JO,Ss]
noncomputable def m52 (K:lN) (a0 a1:lC) (h0:lD):Option (nB×lD) :=
 ((l_ a0).bind fun aD=>fa 0 aD fun aE=>ld false 1 h0 aE fun aF=>ix 1 aF a1 fun t23=>ld false 1 h0 t23 fun aB=>(l_ a0).bind fun t26=>fa 2 t26 fun aG=>ld false 1 h0 aG fun t28=>gS false t28 (lV aB h0) h0 fun t29 aA=>gS false t28 (bo .lss t29 (.int .i64 0) fun t31=>lV t31 aA) aA fun t32 aC=>(mJ t28 (.bool true) t32).bind fun aH=>Qr K aH aB aC a0).bind (JO (aa8 h0))
theorem HH (K:lN) (a0 a1:lC) (h0:lD):qG Tryz.prog mY mX K 52 [a0,a1] h0=m52 (mH mY K) a0 a1 h0:=by kernel_rfl
noncomputable def C7 (o0:Int) (o1:mG):Option (Int×mG) :=
 tb ((oV o1.slots o0)) fun u24=>tc o1.bad (B9 true u24 o1) (B9 (decide (u24<0)) u24 o1)
theorem Va (o0:Int) (o1:mG):m52 KK (.ptr 0 0) (.int .i64 o0) ([.cells [(.slice (Rw (ci .i64) o1.slots) .no),(.int .i64 o1.most),(.bool o1.bad)]]:lD)=tm (C7 o0 o1) fun r=>(.ret (.int .i64 r.1),([.cells [(.slice (Rw (ci .i64) r.2.slots) .no),(.int .i64 r.2.most),(.bool r.2.bad)]]:lD)):=by
 simp +contextual -implicitDefEqProofs (maxSteps:=2000000) [-lM,-lF,-lE,-lG,-lK,-lI,-lH,m52,C7,JO,Ss,abM]
noncomputable def adT (mm:Nat) (Ml:R):Option (nB×lD) :=
 (fun aA aB=>Ex.nR Ml.1 (nJ mm aA aB)) (gd Ml.2.1 0) Ml.2.2
theorem afM (y0:Int) (h:lD):lR 1 1 [(.int .i64 0)] [(0,(.int .i64 y0))] h=some (.slice (Rw (ci .i64) [y0]) (.own h.length),h++[oK 1 (aa8 [y0])]):=by
 rfl
noncomputable def LX (K:lN) (m:Nat) (s:List lC×lD):Option R :=
 (fun aD aE aB aC aA aF=>bo .lss aA aC fun aI=>lS aI (ix 1 aB aA fun aJ=>ld false 1 aF aJ fun t36=>(Ck t36 (.int .i64 1048576)).bind fun aK=>lQ (lR 1 1 [(.int .i64 0)] [(0,aK)] aF) fun aL aG=>lQ (nC 1 8 aG aE aL) fun aM aH=>bo .add aA (.int .i64 1) fun aN=>lX m .normal [aD,aM,aB,aC,aN] aH) (lX m (.exit 0) [aD,aE,aB,aC,aA] aF)) (gd s.1 0) (gd s.1 1) (gd s.1 2) (gd s.1 3) (gd s.1 4) s.2
noncomputable def AG (p0:(List Int)) (w25:Int) (s26:(List Int)×Int):Option (Ey×(List Int)×Int) :=
 tc (decide (s26.2<w25)) (tb ((oV p0 s26.2)) fun u35=>tb ((p7 8 s26.1 [(min u35 1048576)])) fun l42=>some (.n,(l42,(IntKind.wrap .i64 (s26.2+1))))) (some ((.x 0),(s26.1,s26.2)))
theorem Zn (p0:(List Int)) (w25:Int) (s26:(List Int)×Int):LX KK 2 ([(.slice (Rw (ci .i64) []) (.own 0)),(.slice (Rw (ci .i64) s26.1) (.own 1)),(.slice (Rw (ci .i64) p0) .no),(.int .i64 w25),(.int .i64 s26.2)],([.front 0 0,oK 1 (aa8 s26.1)]:lD))=tm (AG p0 w25 s26) fun r=>(r.1.ex,[(.slice (Rw (ci .i64) []) (.own 0)),(.slice (Rw (ci .i64) r.2.1) (.own 1)),(.slice (Rw (ci .i64) p0) .no),(.int .i64 w25),(.int .i64 r.2.2)],([.front 0 0,oK 1 (aa8 r.2.1)]:lD)):=by
 simp +contextual -implicitDefEqProofs (maxSteps:=2000000) [-lM,-lF,-lE,-lG,-lK,-lI,-lH,LX,AG,afM]
theorem abH (p0:(List Int)) (w25:Int) (i4:Int):mX (LX KK 2) ([(.slice (Rw (ci .i64) []) (.own 0)),(.slice (Rw (ci .i64) []) (.own 1)),(.slice (Rw (ci .i64) p0) .no),(.int .i64 w25),(.int .i64 i4)],([.front 0 0,.front 0 0]:lD))=tm (tY (AG p0 w25) ([],i4)) fun r=>(r.1.ex,[(.slice (Rw (ci .i64) []) (.own 0)),(.slice (Rw (ci .i64) r.2.1) (.own 1)),(.slice (Rw (ci .i64) p0) .no),(.int .i64 w25),(.int .i64 r.2.2)],([.front 0 0,oK 1 (aa8 r.2.1)]:lD)):=by
 exact uP (enc:=fun s26=>([(.slice (Rw (ci .i64) []) (.own 0)),(.slice (Rw (ci .i64) s26.1) (.own 1)),(.slice (Rw (ci .i64) p0) .no),(.int .i64 w25),(.int .i64 s26.2)],([.front 0 0,oK 1 (aa8 s26.1)]:lD))) (fun s26=>Zn p0 w25 s26) ([],i4)
noncomputable def m50 (K:lN) (a0:lC) (h0:lD):Option (nB×lD) :=
 ((fun(aL:lC) (aD:lD)=>(fun(t23:lC) (aE:lD)=>ln a0 fun t24=>(mX (LX K (aa8 aE)) ([aL,t23,a0,t24,(.int .i64 0)],aE)).bind fun aA=>(fun aB aC aG aH aI aF=>Ex.mO aA.1 none (fun aJ=>Ex.inBlock 0 aJ (some (.ret,[aC],aF)) (fun aK=>some (aK,[aB],aF)))) (gd aA.2.1 0) (gd aA.2.1 1) (gd aA.2.1 2) (gd aA.2.1 3) (gd aA.2.1 4) aA.2.2) (.slice (Rw (ci .i64) []) (.own (aa8 aD))) (aD++[.front 0 0])) (.slice (Rw (ci .i64) []) (.own (aa8 h0))) (h0++[.front 0 0])).bind (adT (aa8 h0))
theorem aiF (K:lN) (a0:lC) (h0:lD):qG Tryz.prog mY mX K 50 [a0] h0=m50 (mH mY K) a0 h0:=by kernel_rfl
noncomputable def Um (p0:(List Int)):Option ((List Int)) :=
 tb (tY (AG p0 ((aa8 p0:Nat):Int)) ([],0)) fun r44=>xD r44.1 none fun e45=>xF 0 e45 (some r44.2.1) fun e52=>JC e52 (some [])
theorem at7 (p0:(List Int)):m50 KK (.slice (Rw (ci .i64) p0) .no) []=tm (Um p0) fun r=>(.ret (.slice (Rw (ci .i64) r) .no),[]):=by
 simp +contextual -implicitDefEqProofs (maxSteps:=2000000) [-lM,-lF,-lE,-lG,-lK,-lI,-lH,m50,Um,abH,adT]
theorem av3 (p0:(List Int)) (h:lD):KK 50 [(.slice (Rw (ci .i64) p0) .no)] h=tm (Um p0) fun r=>(.ret (.slice (Rw (ci .i64) r) .no),h):=nZ rfl rfl (aiF ..) (at7 p0)
noncomputable def adU (mm:Nat) (aA:R):Option (nB×lD) :=
 (fun aB aC=>Ex.nR aA.1 ((lP true 6 aC aB).bind fun aD=>nJ mm aD aC)) (gd aA.2.1 0) aA.2.2
theorem an8 (o2:Int) (o6:mG) (o0:Int) (o1:Int) (o3:Int) (o4:Int) (o5:Int):KK 52 [(.ptr 0 0),(.int .i64 o2)] ([.cells [(.slice (Rw (ci .i64) o6.slots) .no),(.int .i64 o6.most),(.bool o6.bad)],.cells [(.int .i64 o0),(.int .i64 o1),(.int .i64 o2),(.int .i64 o3),(.int .i64 o4),(.int .i64 o5)],.cells [(.int .i64 0),(.int .i64 0),(.int .i64 0),(.int .i64 0),(.int .i64 0),(.int .i64 0)]]:lD)=tm (C7 o2 o6) fun r=>(.ret (.int .i64 r.1),([.cells [(.slice (Rw (ci .i64) r.2.slots) .no),(.int .i64 r.2.most),(.bool r.2.bad)],.cells [(.int .i64 o0),(.int .i64 o1),(.int .i64 o2),(.int .i64 o3),(.int .i64 o4),(.int .i64 o5)],.cells [(.int .i64 0),(.int .i64 0),(.int .i64 0),(.int .i64 0),(.int .i64 0),(.int .i64 0)]]:lD)):=by
 refine xL (ids:=[0]) rfl rfl ?_ ?_ rfl ?_ (HH ..) (Va o2 o6) fun r=>?_
 all_goals simp
noncomputable def Qn (K:lN) (t29:lC) (aB:lC) (aA:lD) (a0:lC) (aC:lC) (t28:lC):Option R :=
 lS t29 (fa 2 aB fun t32=>ld false 1 aA t32 fun aF=>ca (K 52 [(lC.lL a0),(lC.lL aF)] aA) fun aG aD=>fa 2 aB fun aH=>(lW 1 aD aH aG).bind fun aE=>lX (aa8 aA) .normal [a0,aB,aC,t28] aE) (lX (aa8 aA) .normal [a0,aB,aC,t28] aA)
noncomputable def Gx (w31:Bool) (o6:mG) (o0:Int) (o1:Int) (o2:Int) (o3:Int) (o4:Int) (o5:Int):Option (mG×Op) :=
 tc w31 (tb ((C7 o2 o6)) fun Xd=>some (Xd.2,(⟨o0,o1,Xd.1,o3,o4,o5⟩:Op))) (some (o6,(⟨o0,o1,o2,o3,o4,o5⟩:Op)))
theorem abI (w31:Bool) (o6:mG) (o0:Int) (o1:Int) (o2:Int) (o3:Int) (o4:Int) (o5:Int) (w30:Int):(Qn KK (.bool w31) (.ptr 1 0) ([.cells [(.slice (Rw (ci .i64) o6.slots) .no),(.int .i64 o6.most),(.bool o6.bad)],.cells [(.int .i64 o0),(.int .i64 o1),(.int .i64 o2),(.int .i64 o3),(.int .i64 o4),(.int .i64 o5)],.cells [(.int .i64 0),(.int .i64 0),(.int .i64 0),(.int .i64 0),(.int .i64 0),(.int .i64 0)]]:lD) (.ptr 0 0) (.ptr 2 0) (.int .i64 w30))=tm (Gx w31 o6 o0 o1 o2 o3 o4 o5) fun r=>(.normal,[(.ptr 0 0),(.ptr 1 0),(.ptr 2 0),(.int .i64 w30)],([.cells [(.slice (Rw (ci .i64) r.1.slots) .no),(.int .i64 r.1.most),(.bool r.1.bad)],.cells [(.int .i64 r.2.kind),(.int .i64 r.2.dst),(.int .i64 r.2.a),(.int .i64 r.2.b),(.int .i64 r.2.c),(.int .i64 r.2.imm)],.cells [(.int .i64 0),(.int .i64 0),(.int .i64 0),(.int .i64 0),(.int .i64 0),(.int .i64 0)]]:lD)):=by
 simp +contextual -implicitDefEqProofs (maxSteps:=2000000) [-lM,-lF,-lE,-lG,-lK,-lI,-lH,Qn,Gx,an8]
theorem an9 (w54:Int) (w48:(List Int)) (w49:Int) (w50:Bool) (w51:Int) (w52:Int) (w53:Int) (w55:Int) (w56:Int):KK 52 [(.ptr 0 0),(.int .i64 w54)] ([.cells [(.slice (Rw (ci .i64) w48) .no),(.int .i64 w49),(.bool w50)],.cells [(.int .i64 w51),(.int .i64 w52),(.int .i64 w53),(.int .i64 w54),(.int .i64 w55),(.int .i64 w56)],.cells [(.int .i64 0),(.int .i64 0),(.int .i64 0),(.int .i64 0),(.int .i64 0),(.int .i64 0)]]:lD)=tm (C7 w54 (⟨w48,w49,w50⟩:mG)) fun r=>(.ret (.int .i64 r.1),([.cells [(.slice (Rw (ci .i64) r.2.slots) .no),(.int .i64 r.2.most),(.bool r.2.bad)],.cells [(.int .i64 w51),(.int .i64 w52),(.int .i64 w53),(.int .i64 w54),(.int .i64 w55),(.int .i64 w56)],.cells [(.int .i64 0),(.int .i64 0),(.int .i64 0),(.int .i64 0),(.int .i64 0),(.int .i64 0)]]:lD)):=by
 refine xL (ids:=[0]) rfl rfl ?_ ?_ rfl ?_ (HH ..) (Va w54 (⟨w48,w49,w50⟩:mG)) fun r=>?_
 all_goals simp
noncomputable def Qo (K:lN) (aH:lC) (aA:lC) (aE:lD) (aB:lC) (aC:lC) (aD:lC):Option R :=
 lS aH (fa 3 aA fun aI=>ld false 1 aE aI fun aJ=>ca (K 52 [(lC.lL aB),(lC.lL aJ)] aE) fun aK aF=>fa 3 aA fun aL=>(lW 1 aF aL aK).bind fun aG=>lX (aa8 aE) .normal [aB,aA,aC,aD] aG) (lX (aa8 aE) .normal [aB,aA,aC,aD] aE)
noncomputable def Gy (w47:Bool) (w48:(List Int)) (w49:Int) (w50:Bool) (w51:Int) (w52:Int) (w53:Int) (w54:Int) (w55:Int) (w56:Int):Option (mG×Op) :=
 tc w47 (tb ((C7 w54 (⟨w48,w49,w50⟩:mG))) fun r61=>some (r61.2,(⟨w51,w52,w53,r61.1,w55,w56⟩:Op))) (some ((⟨w48,w49,w50⟩:mG),(⟨w51,w52,w53,w54,w55,w56⟩:Op)))
theorem abJ (w47:Bool) (w48:(List Int)) (w49:Int) (w50:Bool) (w51:Int) (w52:Int) (w53:Int) (w54:Int) (w55:Int) (w56:Int) (w46:Int):(Qo KK (.bool w47) (.ptr 1 0) ([.cells [(.slice (Rw (ci .i64) w48) .no),(.int .i64 w49),(.bool w50)],.cells [(.int .i64 w51),(.int .i64 w52),(.int .i64 w53),(.int .i64 w54),(.int .i64 w55),(.int .i64 w56)],.cells [(.int .i64 0),(.int .i64 0),(.int .i64 0),(.int .i64 0),(.int .i64 0),(.int .i64 0)]]:lD) (.ptr 0 0) (.ptr 2 0) (.int .i64 w46))=tm (Gy w47 w48 w49 w50 w51 w52 w53 w54 w55 w56) fun r=>(.normal,[(.ptr 0 0),(.ptr 1 0),(.ptr 2 0),(.int .i64 w46)],([.cells [(.slice (Rw (ci .i64) r.1.slots) .no),(.int .i64 r.1.most),(.bool r.1.bad)],.cells [(.int .i64 r.2.kind),(.int .i64 r.2.dst),(.int .i64 r.2.a),(.int .i64 r.2.b),(.int .i64 r.2.c),(.int .i64 r.2.imm)],.cells [(.int .i64 0),(.int .i64 0),(.int .i64 0),(.int .i64 0),(.int .i64 0),(.int .i64 0)]]:lD)):=by
 simp +contextual -implicitDefEqProofs (maxSteps:=2000000) [-lM,-lF,-lE,-lG,-lK,-lI,-lH,Qo,Gy,an9]
theorem aoA (w80:Int) (w73:(List Int)) (w74:Int) (w75:Bool) (w76:Int) (w77:Int) (w78:Int) (w79:Int) (w81:Int):KK 52 [(.ptr 0 0),(.int .i64 w80)] ([.cells [(.slice (Rw (ci .i64) w73) .no),(.int .i64 w74),(.bool w75)],.cells [(.int .i64 w76),(.int .i64 w77),(.int .i64 w78),(.int .i64 w79),(.int .i64 w80),(.int .i64 w81)],.cells [(.int .i64 0),(.int .i64 0),(.int .i64 0),(.int .i64 0),(.int .i64 0),(.int .i64 0)]]:lD)=tm (C7 w80 (⟨w73,w74,w75⟩:mG)) fun r=>(.ret (.int .i64 r.1),([.cells [(.slice (Rw (ci .i64) r.2.slots) .no),(.int .i64 r.2.most),(.bool r.2.bad)],.cells [(.int .i64 w76),(.int .i64 w77),(.int .i64 w78),(.int .i64 w79),(.int .i64 w80),(.int .i64 w81)],.cells [(.int .i64 0),(.int .i64 0),(.int .i64 0),(.int .i64 0),(.int .i64 0),(.int .i64 0)]]:lD)):=by
 refine xL (ids:=[0]) rfl rfl ?_ ?_ rfl ?_ (HH ..) (Va w80 (⟨w73,w74,w75⟩:mG)) fun r=>?_
 all_goals simp
noncomputable def Qp (K:lN) (t70:lC) (aA:lC) (aD:lD) (aB:lC) (aC:lC):Option R :=
 lS t70 (fa 4 aA fun aG=>ld false 1 aD aG fun aH=>ca (K 52 [(lC.lL aB),(lC.lL aH)] aD) fun aI aE=>fa 4 aA fun aJ=>(lW 1 aE aJ aI).bind fun aF=>lX (aa8 aD) .normal [aB,aA,aC] aF) (lX (aa8 aD) .normal [aB,aA,aC] aD)
noncomputable def Gz (w72:Bool) (w73:(List Int)) (w74:Int) (w75:Bool) (w76:Int) (w77:Int) (w78:Int) (w79:Int) (w80:Int) (w81:Int):Option (mG×Op) :=
 tc w72 (tb ((C7 w80 (⟨w73,w74,w75⟩:mG))) fun r86=>some (r86.2,(⟨w76,w77,w78,w79,r86.1,w81⟩:Op))) (some ((⟨w73,w74,w75⟩:mG),(⟨w76,w77,w78,w79,w80,w81⟩:Op)))
theorem abK (w72:Bool) (w73:(List Int)) (w74:Int) (w75:Bool) (w76:Int) (w77:Int) (w78:Int) (w79:Int) (w80:Int) (w81:Int):(Qp KK (.bool w72) (.ptr 1 0) ([.cells [(.slice (Rw (ci .i64) w73) .no),(.int .i64 w74),(.bool w75)],.cells [(.int .i64 w76),(.int .i64 w77),(.int .i64 w78),(.int .i64 w79),(.int .i64 w80),(.int .i64 w81)],.cells [(.int .i64 0),(.int .i64 0),(.int .i64 0),(.int .i64 0),(.int .i64 0),(.int .i64 0)]]:lD) (.ptr 0 0) (.ptr 2 0))=tm (Gz w72 w73 w74 w75 w76 w77 w78 w79 w80 w81) fun r=>(.normal,[(.ptr 0 0),(.ptr 1 0),(.ptr 2 0)],([.cells [(.slice (Rw (ci .i64) r.1.slots) .no),(.int .i64 r.1.most),(.bool r.1.bad)],.cells [(.int .i64 r.2.kind),(.int .i64 r.2.dst),(.int .i64 r.2.a),(.int .i64 r.2.b),(.int .i64 r.2.c),(.int .i64 r.2.imm)],.cells [(.int .i64 0),(.int .i64 0),(.int .i64 0),(.int .i64 0),(.int .i64 0),(.int .i64 0)]]:lD)):=by
 simp +contextual -implicitDefEqProofs (maxSteps:=2000000) [-lM,-lF,-lE,-lG,-lK,-lI,-lH,Qp,Gz,aoA]
theorem aoB (w99:Int) (w104:(List Int)) (w105:Int) (w106:Bool) (w98:Int) (w100:Int) (w101:Int) (w102:Int) (w103:Int):KK 52 [(.ptr 0 0),(.int .i64 w99)] ([.cells [(.slice (Rw (ci .i64) w104) .no),(.int .i64 w105),(.bool w106)],.cells [(.int .i64 w98),(.int .i64 w99),(.int .i64 w100),(.int .i64 w101),(.int .i64 w102),(.int .i64 w103)],.cells [(.int .i64 0),(.int .i64 0),(.int .i64 0),(.int .i64 0),(.int .i64 0),(.int .i64 0)]]:lD)=tm (C7 w99 (⟨w104,w105,w106⟩:mG)) fun r=>(.ret (.int .i64 r.1),([.cells [(.slice (Rw (ci .i64) r.2.slots) .no),(.int .i64 r.2.most),(.bool r.2.bad)],.cells [(.int .i64 w98),(.int .i64 w99),(.int .i64 w100),(.int .i64 w101),(.int .i64 w102),(.int .i64 w103)],.cells [(.int .i64 0),(.int .i64 0),(.int .i64 0),(.int .i64 0),(.int .i64 0),(.int .i64 0)]]:lD)):=by
 refine xL (ids:=[0]) rfl rfl ?_ ?_ rfl ?_ (HH ..) (Va w99 (⟨w104,w105,w106⟩:mG)) fun r=>?_
 all_goals simp
noncomputable def Qq (K:lN) (aK:lC) (aA:lC) (aC:lD) (aD:lC) (aB:lC):Option R :=
 lS aK (fa 1 aA fun aG=>ld false 1 aC aG fun aH=>ca (K 52 [(lC.lL aD),(lC.lL aH)] aC) fun aI aE=>fa 1 aA fun aJ=>(lW 1 aE aJ aI).bind fun aF=>lX (aa8 aC) .normal [aA,aB] aF) (lX (aa8 aC) .normal [aA,aB] aC)
noncomputable def GA (r97:Bool) (w104:(List Int)) (w105:Int) (w106:Bool) (w98:Int) (w99:Int) (w100:Int) (w101:Int) (w102:Int) (w103:Int):Option (mG×Op) :=
 tc r97 (tb ((C7 w99 (⟨w104,w105,w106⟩:mG))) fun r111=>some (r111.2,(⟨w98,r111.1,w100,w101,w102,w103⟩:Op))) (some ((⟨w104,w105,w106⟩:mG),(⟨w98,w99,w100,w101,w102,w103⟩:Op)))
theorem abL (r97:Bool) (w104:(List Int)) (w105:Int) (w106:Bool) (w98:Int) (w99:Int) (w100:Int) (w101:Int) (w102:Int) (w103:Int):(Qq KK (.bool r97) (.ptr 1 0) ([.cells [(.slice (Rw (ci .i64) w104) .no),(.int .i64 w105),(.bool w106)],.cells [(.int .i64 w98),(.int .i64 w99),(.int .i64 w100),(.int .i64 w101),(.int .i64 w102),(.int .i64 w103)],.cells [(.int .i64 0),(.int .i64 0),(.int .i64 0),(.int .i64 0),(.int .i64 0),(.int .i64 0)]]:lD) (.ptr 0 0) (.ptr 2 0))=tm (GA r97 w104 w105 w106 w98 w99 w100 w101 w102 w103) fun r=>(.normal,[(.ptr 1 0),(.ptr 2 0)],([.cells [(.slice (Rw (ci .i64) r.1.slots) .no),(.int .i64 r.1.most),(.bool r.1.bad)],.cells [(.int .i64 r.2.kind),(.int .i64 r.2.dst),(.int .i64 r.2.a),(.int .i64 r.2.b),(.int .i64 r.2.c),(.int .i64 r.2.imm)],.cells [(.int .i64 0),(.int .i64 0),(.int .i64 0),(.int .i64 0),(.int .i64 0),(.int .i64 0)]]:lD)):=by
 simp +contextual -implicitDefEqProofs (maxSteps:=2000000) [-lM,-lF,-lE,-lG,-lK,-lI,-lH,Qq,GA,aoB]
noncomputable def m51 (K:lN) (a0 a1:lC) (h0:lD):Option (nB×lD) :=
 (lQ (nA 6 h0 a1) fun aW aX=>lQ (nA 6 aX (.agg [(.int .i64 0),(.int .i64 0),(.int .i64 0),(.int .i64 0),(.int .i64 0),(.int .i64 0)])) fun bC aU=>ld true 6 aU aW fun t24=>ca (K 36 [(lC.lL t24)] aU) fun bD aY=>ln bD fun t28=>bo .gtr t28 (.int .i64 0) fun t29=>(Qn K t29 aW aY a0 bC t28).bind fun aF=>(fun aJ aM aO aD aZ=>Ex.qZ aF.1 (bo .gtr aD (.int .i64 1) fun bE=>(Qo K bE aM aZ aJ aO aD).bind fun aG=>(fun aK aN aP aR a_=>Ex.qZ aG.1 (bo .gtr aR (.int .i64 2) fun t70=>(Qp K t70 aN a_ aK aP).bind fun aI=>(fun aL aC aQ aV=>Ex.qZ aI.1 (ld true 6 aV aC fun bF=>ca (K 73 [(lC.lL bF)] aV) fun bG bB=>(Qq K bG aC bB aL aQ).bind fun aB=>(fun aE aA aH=>Ex.qZ aB.1 (ld true 6 aH aE fun aT=>(lW 6 aH aA aT).bind fun aS=>some (.ret,[aA],aS))) (gd aB.2.1 0) (gd aB.2.1 1) aB.2.2)) (gd aI.2.1 0) (gd aI.2.1 1) (gd aI.2.1 2) aI.2.2)) (gd aG.2.1 0) (gd aG.2.1 1) (gd aG.2.1 2) (gd aG.2.1 3) aG.2.2)) (gd aF.2.1 0) (gd aF.2.1 1) (gd aF.2.1 2) (gd aF.2.1 3) aF.2.2).bind (adU (aa8 h0))
theorem aiG (K:lN) (a0 a1:lC) (h0:lD):qG Tryz.prog mY mX K 51 [a0,a1] h0=m51 (mH mY K) a0 a1 h0:=by kernel_rfl
noncomputable def Un (o0:Int) (o1:Int) (o2:Int) (o3:Int) (o4:Int) (o5:Int) (o6:mG):Option (Op×mG) :=
 tb ((Jq (⟨o0,o1,o2,o3,o4,o5⟩:Op))) fun r27=>tb (Gx (decide (0<((aa8 r27:Nat):Int))) o6 o0 o1 o2 o3 o4 o5) fun r39=>tb (Gy (decide (1<((aa8 r27:Nat):Int))) r39.1.slots r39.1.most r39.1.bad r39.2.kind r39.2.dst r39.2.a r39.2.b r39.2.c r39.2.imm) fun r64=>tb (Gz (decide (2<((aa8 r27:Nat):Int))) r64.1.slots r64.1.most r64.1.bad r64.2.kind r64.2.dst r64.2.a r64.2.b r64.2.c r64.2.imm) fun r89=>tb ((IF r89.2)) fun r97=>tb (GA r97 r89.1.slots r89.1.most r89.1.bad r89.2.kind r89.2.dst r89.2.a r89.2.b r89.2.c r89.2.imm) fun r114=>some (r114.2,r114.1)
theorem auA (o0:Int) (o1:Int) (o2:Int) (o3:Int) (o4:Int) (o5:Int) (o6:mG):m51 KK (.ptr 0 0) (.agg [(.int .i64 o0),(.int .i64 o1),(.int .i64 o2),(.int .i64 o3),(.int .i64 o4),(.int .i64 o5)]) ([.cells [(.slice (Rw (ci .i64) o6.slots) .no),(.int .i64 o6.most),(.bool o6.bad)]]:lD)=tm (Un o0 o1 o2 o3 o4 o5 o6) fun r=>(.ret (.agg [(.int .i64 r.1.kind),(.int .i64 r.1.dst),(.int .i64 r.1.a),(.int .i64 r.1.b),(.int .i64 r.1.c),(.int .i64 r.1.imm)]),([.cells [(.slice (Rw (ci .i64) r.2.slots) .no),(.int .i64 r.2.most),(.bool r.2.bad)]]:lD)):=by
 simp +contextual -implicitDefEqProofs (maxSteps:=2000000) [-lM,-lF,-lE,-lG,-lK,-lI,-lH,m51,Un,aqF,abI,abJ,abK,aj6,abL,adU]
noncomputable def adM (mm:Nat) (aA:R):Option (nB×lD) :=
 (fun aB aC aD=>Ex.nR aA.1 ((lP true 5 aD aB).bind fun aE=>nJ mm (.tuple [aE,aC]) aD)) (gd aA.2.1 0) (gd aA.2.1 1) aA.2.2
theorem an3 (u98:Op) (p0:IR) (w106:(List Int)) (w107:Int) (w108:Bool) (w63:(List mF)) (u70:mF) (s81:(List Op)×Int×mG):KK 51 [(.ptr 4 0),(.agg [(.int .i64 u98.kind),(.int .i64 u98.dst),(.int .i64 u98.a),(.int .i64 u98.b),(.int .i64 u98.c),(.int .i64 u98.imm)])] ([.cells [(.int .i64 p0.temps),(.slice (Rw mV.cells p0.arrays) .no),(.slice (Rw mF.cells p0.blocks) .no),(.int .i64 p0.inn),(.int .i64 p0.out)],.cells [(.int .i64 0),(.slice (Rw mV.cells []) (.own 2)),(.slice (Rw mF.cells []) (.own 3)),(.int .i64 0),(.int .i64 0)],.front 0 0,.front 0 0,.cells [(.slice (Rw (ci .i64) w106) .no),(.int .i64 w107),(.bool w108)],oK 5 (aa8 w63),.cells [(.slice (Rw Op.cells u70.ops) .no),(.int .i64 u70.term.kind),(.int .i64 u70.term.a),(.int .i64 u70.term.yes),(.int .i64 u70.term.no)],.front 0 0,oK 6 (aa8 s81.1),.cells [(.int .i64 u98.kind),(.int .i64 u98.dst),(.int .i64 u98.a),(.int .i64 u98.b),(.int .i64 u98.c),(.int .i64 u98.imm)]]:lD)=tm (Un u98.kind u98.dst u98.a u98.b u98.c u98.imm (⟨w106,w107,w108⟩:mG)) fun r=>(.ret (.agg [(.int .i64 r.1.kind),(.int .i64 r.1.dst),(.int .i64 r.1.a),(.int .i64 r.1.b),(.int .i64 r.1.c),(.int .i64 r.1.imm)]),([.cells [(.int .i64 p0.temps),(.slice (Rw mV.cells p0.arrays) .no),(.slice (Rw mF.cells p0.blocks) .no),(.int .i64 p0.inn),(.int .i64 p0.out)],.cells [(.int .i64 0),(.slice (Rw mV.cells []) (.own 2)),(.slice (Rw mF.cells []) (.own 3)),(.int .i64 0),(.int .i64 0)],.front 0 0,.front 0 0,.cells [(.slice (Rw (ci .i64) r.2.slots) .no),(.int .i64 r.2.most),(.bool r.2.bad)],oK 5 (aa8 w63),.cells [(.slice (Rw Op.cells u70.ops) .no),(.int .i64 u70.term.kind),(.int .i64 u70.term.a),(.int .i64 u70.term.yes),(.int .i64 u70.term.no)],.front 0 0,oK 6 (aa8 s81.1),.cells [(.int .i64 u98.kind),(.int .i64 u98.dst),(.int .i64 u98.a),(.int .i64 u98.b),(.int .i64 u98.c),(.int .i64 u98.imm)]]:lD)):=by
 refine xL (ids:=[4]) rfl rfl ?_ ?_ rfl ?_ (aiG ..) (auA u98.kind u98.dst u98.a u98.b u98.c u98.imm (⟨w106,w107,w108⟩:mG)) fun r=>?_
 all_goals simp
theorem afG (y0:Int) (y1:Int) (y2:Int) (y3:Int) (y4:Int) (y5:Int) (h:lD):lR 1 6 [(.int .i64 0),(.int .i64 0),(.int .i64 0),(.int .i64 0),(.int .i64 0),(.int .i64 0)] [(0,(.agg [(.int .i64 y0),(.int .i64 y1),(.int .i64 y2),(.int .i64 y3),(.int .i64 y4),(.int .i64 y5)]))] h=some (.slice (Rw Op.cells [(⟨y0,y1,y2,y3,y4,y5⟩:Op)]) (.own h.length),h++[oK 6 (aa8 [(⟨y0,y1,y2,y3,y4,y5⟩:Op)])]):=by
 rfl
noncomputable def LK (K:lN) (m:Nat) (s:List lC×lD):Option R :=
 (fun aJ aK aL aI aM aD aE aF aG aH aB aC aA aT=>bo .lss aA aC fun aZ=>lS aZ (ix 6 aB aA fun a_=>ld true 6 aT a_ fun bB=>lQ (nA 6 aT (.agg [(.int .i64 0),(.int .i64 0),(.int .i64 0),(.int .i64 0),(.int .i64 0),(.int .i64 0)])) fun aO aP=>(lW 6 aP aO bB).bind fun aN=>ld true 6 aN aO fun aU=>ca (K 51 [(lC.lL aI),(lC.lL aU)] aN) fun aV aQ=>lQ (lR 1 6 [(.int .i64 0),(.int .i64 0),(.int .i64 0),(.int .i64 0),(.int .i64 0),(.int .i64 0)] [(0,aV)] aQ) fun aW aR=>lQ (nC 6 48 aR aE aW) fun aX aS=>bo .add aA (.int .i64 1) fun aY=>lX m .normal [aJ,aK,aL,aI,aM,aD,aX,aF,aG,aH,aB,aC,aY] aS) (lX m (.exit 2) [aJ,aK,aL,aI,aM,aD,aE,aF,aG,aH,aB,aC,aA] aT)) (gd s.1 0) (gd s.1 1) (gd s.1 2) (gd s.1 3) (gd s.1 4) (gd s.1 5) (gd s.1 6) (gd s.1 7) (gd s.1 8) (gd s.1 9) (gd s.1 10) (gd s.1 11) (gd s.1 12) s.2
noncomputable def AB (u70:mF) (w80:Int) (s81:(List Op)×Int×mG):Option (Ey×(List Op)×Int×mG) :=
 tc (decide (s81.2.1<w80)) (tb ((oV u70.ops s81.2.1)) fun u98=>tb ((Un u98.kind u98.dst u98.a u98.b u98.c u98.imm s81.2.2)) fun r109=>tb ((p7 48 s81.1 [r109.1])) fun l114=>some (.n,(l114,(IntKind.wrap .i64 (s81.2.1+1)),r109.2))) (some ((.x 2),(s81.1,s81.2.1,s81.2.2)))
theorem Zj (w63:(List mF)) (p0:IR) (w51:Int) (w64:Int) (u70:mF) (w80:Int) (s81:(List Op)×Int×mG):LK KK 9 ([(.ptr 0 0),(.ptr 1 0),(.int .i64 0),(.ptr 4 0),(.slice (Rw mF.cells w63) (.own 5)),(.ptr 6 0),(.slice (Rw Op.cells s81.1) (.own 8)),(.slice (Rw mF.cells p0.blocks) .no),(.int .i64 w51),(.int .i64 w64),(.slice (Rw Op.cells u70.ops) .no),(.int .i64 w80),(.int .i64 s81.2.1)],([.cells [(.int .i64 p0.temps),(.slice (Rw mV.cells p0.arrays) .no),(.slice (Rw mF.cells p0.blocks) .no),(.int .i64 p0.inn),(.int .i64 p0.out)],.cells [(.int .i64 0),(.slice (Rw mV.cells []) (.own 2)),(.slice (Rw mF.cells []) (.own 3)),(.int .i64 0),(.int .i64 0)],.front 0 0,.front 0 0,.cells [(.slice (Rw (ci .i64) s81.2.2.slots) .no),(.int .i64 s81.2.2.most),(.bool s81.2.2.bad)],oK 5 (aa8 w63),.cells [(.slice (Rw Op.cells u70.ops) .no),(.int .i64 u70.term.kind),(.int .i64 u70.term.a),(.int .i64 u70.term.yes),(.int .i64 u70.term.no)],.front 0 0,oK 6 (aa8 s81.1)]:lD))=tm (AB u70 w80 s81) fun r=>(r.1.ex,[(.ptr 0 0),(.ptr 1 0),(.int .i64 0),(.ptr 4 0),(.slice (Rw mF.cells w63) (.own 5)),(.ptr 6 0),(.slice (Rw Op.cells r.2.1) (.own 8)),(.slice (Rw mF.cells p0.blocks) .no),(.int .i64 w51),(.int .i64 w64),(.slice (Rw Op.cells u70.ops) .no),(.int .i64 w80),(.int .i64 r.2.2.1)],([.cells [(.int .i64 p0.temps),(.slice (Rw mV.cells p0.arrays) .no),(.slice (Rw mF.cells p0.blocks) .no),(.int .i64 p0.inn),(.int .i64 p0.out)],.cells [(.int .i64 0),(.slice (Rw mV.cells []) (.own 2)),(.slice (Rw mF.cells []) (.own 3)),(.int .i64 0),(.int .i64 0)],.front 0 0,.front 0 0,.cells [(.slice (Rw (ci .i64) r.2.2.2.slots) .no),(.int .i64 r.2.2.2.most),(.bool r.2.2.2.bad)],oK 5 (aa8 w63),.cells [(.slice (Rw Op.cells u70.ops) .no),(.int .i64 u70.term.kind),(.int .i64 u70.term.a),(.int .i64 u70.term.yes),(.int .i64 u70.term.no)],.front 0 0,oK 6 (aa8 r.2.1)]:lD)):=by
 simp +contextual -implicitDefEqProofs (maxSteps:=2000000) [-lM,-lF,-lE,-lG,-lK,-lI,-lH,LK,AB,an3,afG]
theorem abB (w63:(List mF)) (p0:IR) (w51:Int) (w64:Int) (u70:mF) (w80:Int) (w66:(List Int)) (w67:Int) (w68:Bool) (i8:Int) (n5:Nat) (hn5:n5=(aa8 w63)):mX (LK KK 9) ([(.ptr 0 0),(.ptr 1 0),(.int .i64 0),(.ptr 4 0),(.slice (Rw mF.cells w63) (.own 5)),(.ptr 6 0),(.slice (Rw Op.cells []) (.own 8)),(.slice (Rw mF.cells p0.blocks) .no),(.int .i64 w51),(.int .i64 w64),(.slice (Rw Op.cells u70.ops) .no),(.int .i64 w80),(.int .i64 i8)],([.cells [(.int .i64 p0.temps),(.slice (Rw mV.cells p0.arrays) .no),(.slice (Rw mF.cells p0.blocks) .no),(.int .i64 p0.inn),(.int .i64 p0.out)],.cells [(.int .i64 0),(.slice (Rw mV.cells []) (.own 2)),(.slice (Rw mF.cells []) (.own 3)),(.int .i64 0),(.int .i64 0)],.front 0 0,.front 0 0,.cells [(.slice (Rw (ci .i64) w66) .no),(.int .i64 w67),(.bool w68)],oK 5 n5,.cells [(.slice (Rw Op.cells u70.ops) .no),(.int .i64 u70.term.kind),(.int .i64 u70.term.a),(.int .i64 u70.term.yes),(.int .i64 u70.term.no)],.front 0 0,.front 0 0]:lD))=tm (tY (AB u70 w80) ([],i8,(⟨w66,w67,w68⟩:mG))) fun r=>(r.1.ex,[(.ptr 0 0),(.ptr 1 0),(.int .i64 0),(.ptr 4 0),(.slice (Rw mF.cells w63) (.own 5)),(.ptr 6 0),(.slice (Rw Op.cells r.2.1) (.own 8)),(.slice (Rw mF.cells p0.blocks) .no),(.int .i64 w51),(.int .i64 w64),(.slice (Rw Op.cells u70.ops) .no),(.int .i64 w80),(.int .i64 r.2.2.1)],([.cells [(.int .i64 p0.temps),(.slice (Rw mV.cells p0.arrays) .no),(.slice (Rw mF.cells p0.blocks) .no),(.int .i64 p0.inn),(.int .i64 p0.out)],.cells [(.int .i64 0),(.slice (Rw mV.cells []) (.own 2)),(.slice (Rw mF.cells []) (.own 3)),(.int .i64 0),(.int .i64 0)],.front 0 0,.front 0 0,.cells [(.slice (Rw (ci .i64) r.2.2.2.slots) .no),(.int .i64 r.2.2.2.most),(.bool r.2.2.2.bad)],oK 5 (aa8 w63),.cells [(.slice (Rw Op.cells u70.ops) .no),(.int .i64 u70.term.kind),(.int .i64 u70.term.a),(.int .i64 u70.term.yes),(.int .i64 u70.term.no)],.front 0 0,oK 6 (aa8 r.2.1)]:lD)):=by
 subst hn5;exact uP (enc:=fun s81=>([(.ptr 0 0),(.ptr 1 0),(.int .i64 0),(.ptr 4 0),(.slice (Rw mF.cells w63) (.own 5)),(.ptr 6 0),(.slice (Rw Op.cells s81.1) (.own 8)),(.slice (Rw mF.cells p0.blocks) .no),(.int .i64 w51),(.int .i64 w64),(.slice (Rw Op.cells u70.ops) .no),(.int .i64 w80),(.int .i64 s81.2.1)],([.cells [(.int .i64 p0.temps),(.slice (Rw mV.cells p0.arrays) .no),(.slice (Rw mF.cells p0.blocks) .no),(.int .i64 p0.inn),(.int .i64 p0.out)],.cells [(.int .i64 0),(.slice (Rw mV.cells []) (.own 2)),(.slice (Rw mF.cells []) (.own 3)),(.int .i64 0),(.int .i64 0)],.front 0 0,.front 0 0,.cells [(.slice (Rw (ci .i64) s81.2.2.slots) .no),(.int .i64 s81.2.2.most),(.bool s81.2.2.bad)],oK 5 (aa8 w63),.cells [(.slice (Rw Op.cells u70.ops) .no),(.int .i64 u70.term.kind),(.int .i64 u70.term.a),(.int .i64 u70.term.yes),(.int .i64 u70.term.no)],.front 0 0,oK 6 (aa8 s81.1)]:lD))) (fun s81=>Zj w63 p0 w51 w64 u70 w80 s81) ([],i8,(⟨w66,w67,w68⟩:mG))
theorem an4 (u70:mF) (p0:IR) (w141:(List Int)) (w142:Int) (w143:Bool) (w63:(List mF)) (w137:(List Op)):KK 52 [(.ptr 4 0),(.int .i64 u70.term.a)] ([.cells [(.int .i64 p0.temps),(.slice (Rw mV.cells p0.arrays) .no),(.slice (Rw mF.cells p0.blocks) .no),(.int .i64 p0.inn),(.int .i64 p0.out)],.cells [(.int .i64 0),(.slice (Rw mV.cells []) (.own 2)),(.slice (Rw mF.cells []) (.own 3)),(.int .i64 0),(.int .i64 0)],.front 0 0,.front 0 0,.cells [(.slice (Rw (ci .i64) w141) .no),(.int .i64 w142),(.bool w143)],oK 5 (aa8 w63),.cells [(.slice (Rw Op.cells u70.ops) .no),(.int .i64 u70.term.kind),(.int .i64 u70.term.a),(.int .i64 u70.term.yes),(.int .i64 u70.term.no)],.front 0 0,oK 6 (aa8 w137)]:lD)=tm (C7 u70.term.a (⟨w141,w142,w143⟩:mG)) fun r=>(.ret (.int .i64 r.1),([.cells [(.int .i64 p0.temps),(.slice (Rw mV.cells p0.arrays) .no),(.slice (Rw mF.cells p0.blocks) .no),(.int .i64 p0.inn),(.int .i64 p0.out)],.cells [(.int .i64 0),(.slice (Rw mV.cells []) (.own 2)),(.slice (Rw mF.cells []) (.own 3)),(.int .i64 0),(.int .i64 0)],.front 0 0,.front 0 0,.cells [(.slice (Rw (ci .i64) r.2.slots) .no),(.int .i64 r.2.most),(.bool r.2.bad)],oK 5 (aa8 w63),.cells [(.slice (Rw Op.cells u70.ops) .no),(.int .i64 u70.term.kind),(.int .i64 u70.term.a),(.int .i64 u70.term.yes),(.int .i64 u70.term.no)],.front 0 0,oK 6 (aa8 w137)]:lD)):=by
 refine xL (ids:=[4]) rfl rfl ?_ ?_ rfl ?_ (HH ..) (Va u70.term.a (⟨w141,w142,w143⟩:mG)) fun r=>?_
 all_goals simp
noncomputable def PR (K:lN) (t136:lC) (aA:lC) (aG:lD) (aB:lC) (aH:lC) (aI:lC) (aJ:lC) (aK:lC) (aC:lC) (aD:lC) (aE:lC) (aF:lC):Option R :=
 lS t136 (fa 1 aA fun t144=>fa 1 t144 fun t145=>ld false 1 aG t145 fun t146=>ca (K 52 [(lC.lL aB),(lC.lL t146)] aG) fun t147 aL=>fa 1 aA fun aN=>fa 1 aN fun aO=>(lW 1 aL aO t147).bind fun aM=>lX (aa8 aG) .normal [aH,aI,aJ,aB,aK,aA,aC,aD,aE,aF] aM) (lX (aa8 aG) .normal [aH,aI,aJ,aB,aK,aA,aC,aD,aE,aF] aG)
noncomputable def Ed (w140:Bool) (w141:(List Int)) (w142:Int) (w143:Bool) (u70:mF):Option (mG×mF) :=
 tc w140 (tb ((C7 u70.term.a (⟨w141,w142,w143⟩:mG))) fun r149=>some (r149.2,(⟨u70.ops,(⟨u70.term.kind,r149.1,u70.term.yes,u70.term.no⟩:Term)⟩:mF))) (some ((⟨w141,w142,w143⟩:mG),u70))
theorem abA (w140:Bool) (p0:IR) (w141:(List Int)) (w142:Int) (w143:Bool) (w63:(List mF)) (u70:mF) (w137:(List Op)) (w51:Int) (w64:Int):(PR KK (.bool w140) (.ptr 6 0) ([.cells [(.int .i64 p0.temps),(.slice (Rw mV.cells p0.arrays) .no),(.slice (Rw mF.cells p0.blocks) .no),(.int .i64 p0.inn),(.int .i64 p0.out)],.cells [(.int .i64 0),(.slice (Rw mV.cells []) (.own 2)),(.slice (Rw mF.cells []) (.own 3)),(.int .i64 0),(.int .i64 0)],.front 0 0,.front 0 0,.cells [(.slice (Rw (ci .i64) w141) .no),(.int .i64 w142),(.bool w143)],oK 5 (aa8 w63),.cells [(.slice (Rw Op.cells u70.ops) .no),(.int .i64 u70.term.kind),(.int .i64 u70.term.a),(.int .i64 u70.term.yes),(.int .i64 u70.term.no)],.front 0 0,oK 6 (aa8 w137)]:lD) (.ptr 4 0) (.ptr 0 0) (.ptr 1 0) (.int .i64 0) (.slice (Rw mF.cells w63) (.own 5)) (.slice (Rw Op.cells w137) (.own 8)) (.slice (Rw mF.cells p0.blocks) .no) (.int .i64 w51) (.int .i64 w64))=tm (Ed w140 w141 w142 w143 u70) fun r=>(.normal,[(.ptr 0 0),(.ptr 1 0),(.int .i64 0),(.ptr 4 0),(.slice (Rw mF.cells w63) (.own 5)),(.ptr 6 0),(.slice (Rw Op.cells w137) (.own 8)),(.slice (Rw mF.cells p0.blocks) .no),(.int .i64 w51),(.int .i64 w64)],([.cells [(.int .i64 p0.temps),(.slice (Rw mV.cells p0.arrays) .no),(.slice (Rw mF.cells p0.blocks) .no),(.int .i64 p0.inn),(.int .i64 p0.out)],.cells [(.int .i64 0),(.slice (Rw mV.cells []) (.own 2)),(.slice (Rw mF.cells []) (.own 3)),(.int .i64 0),(.int .i64 0)],.front 0 0,.front 0 0,.cells [(.slice (Rw (ci .i64) r.1.slots) .no),(.int .i64 r.1.most),(.bool r.1.bad)],oK 5 (aa8 w63),.cells [(.slice (Rw Op.cells r.2.ops) .no),(.int .i64 r.2.term.kind),(.int .i64 r.2.term.a),(.int .i64 r.2.term.yes),(.int .i64 r.2.term.no)],.front 0 0,oK 6 (aa8 w137)]:lD)):=by
 simp +contextual -implicitDefEqProofs (maxSteps:=2000000) [-lM,-lF,-lE,-lG,-lK,-lI,-lH,PR,Ed,an4]
theorem afH (y0:List Op) (y1:Int) (y2:Int) (y3:Int) (y4:Int) (h:lD):lR 1 5 [(.slice (Rw Op.cells []) .nil),(.int .i64 0),(.int .i64 0),(.int .i64 0),(.int .i64 0)] [(0,(.agg [(.slice (Rw Op.cells y0) (.own 8)),(.int .i64 y1),(.int .i64 y2),(.int .i64 y3),(.int .i64 y4)]))] h=some (.slice (Rw mF.cells [(⟨y0,(⟨y1,y2,y3,y4⟩:Term)⟩:mF)]) (.own h.length),h++[oK 5 (aa8 [(⟨y0,(⟨y1,y2,y3,y4⟩:Term)⟩:mF)])]):=by
 rfl
noncomputable def PO (K:lN) (aH:lC) (aI:lC) (bG:lD) (bB:lC) (bC:lC) (bD:lC) (bE:lC) (bF:lC) (aV:lC):Option R :=
 ix 5 aH aI fun bY=>ld true 5 bG bY fun bZ=>lQ (nA 5 bG (.agg [(.slice (Rw Op.cells []) .nil),(.int .i64 0),(.int .i64 0),(.int .i64 0),(.int .i64 0)])) fun bU bX=>(lW 5 bX bU bZ).bind fun bV=>(fun(b_:lC) (bO:lD)=>fa 0 bU fun cA=>ld false 1 bO cA fun bW=>ln bW fun cB=>(mX (LK K (aa8 bO)) ([bB,bC,bD,bE,bF,bU,b_,aH,aV,aI,bW,cB,(.int .i64 0)],bO)).bind fun aA=>(fun aG aJ aK aL aM aC aO aD aE aF bH bI bJ aT=>Ex.mO aA.1 none (fun bK=>Ex.inBlock 2 bK (fa 1 aC fun t133=>fa 0 t133 fun t134=>ld false 1 aT t134 fun t135=>bo .eql t135 (.int .i64 2) fun t136=>(PR K t136 aC aT aL aG aJ aK aM aO aD aE aF).bind fun aB=>(fun aU aW aX aY aZ aN aP aQ aR aS a_=>Ex.qZ aB.1 (fa 1 aN fun bP=>ld true 4 a_ bP fun bQ=>(mD [(.slice (Rw Op.cells []) .nil),(.int .i64 0),(.int .i64 0),(.int .i64 0),(.int .i64 0)] [(0,1),(1,4)] [(0,aP),(1,bQ)]).bind fun bR=>lQ (lR 1 5 [(.slice (Rw Op.cells []) .nil),(.int .i64 0),(.int .i64 0),(.int .i64 0),(.int .i64 0)] [(0,bR)] a_) fun bS bM=>lQ (nC 5 56 bM aZ bS) fun bT bN=>lX (aa8 bG) .normal [aU,aW,aX,aY,bT,aQ,aR,aS] bN)) (gd aB.2.1 0) (gd aB.2.1 1) (gd aB.2.1 2) (gd aB.2.1 3) (gd aB.2.1 4) (gd aB.2.1 5) (gd aB.2.1 6) (gd aB.2.1 7) (gd aB.2.1 8) (gd aB.2.1 9) aB.2.2) (fun bL=>lX (aa8 bG) bL [aG,aJ,aK,aL,aM,aD,aE,aF] aT))) (gd aA.2.1 0) (gd aA.2.1 1) (gd aA.2.1 2) (gd aA.2.1 3) (gd aA.2.1 4) (gd aA.2.1 5) (gd aA.2.1 6) (gd aA.2.1 7) (gd aA.2.1 8) (gd aA.2.1 9) (gd aA.2.1 10) (gd aA.2.1 11) (gd aA.2.1 12) aA.2.2) (.slice (Rw Op.cells []) (.own (aa8 bV))) (bV++[.front 0 0])
noncomputable def Ec (p0:IR) (w64:Int) (w66:(List Int)) (w67:Int) (w68:Bool) (w63:(List mF)):Option (Ey×(List mF)×mG) :=
 tb ((oV p0.blocks w64)) fun u70=>tb (tY (AB u70 ((aa8 u70.ops:Nat):Int)) ([],0,(⟨w66,w67,w68⟩:mG))) fun r116=>xD r116.1 none fun e117=>xF 2 e117 (tb (Ed (decide (u70.term.kind=2)) r116.2.2.2.slots r116.2.2.2.most r116.2.2.2.bad u70) fun r153=>tb ((p7 56 w63 [(⟨r116.2.1,r153.2.term⟩:mF)])) fun l172=>some (.n,(l172,r153.1))) fun e132=>some (e132,(w63,r116.2.2.2))
theorem aa9 (p0:IR) (w64:Int) (w66:(List Int)) (w67:Int) (w68:Bool) (w63:(List mF)) (w51:Int):(PO KK (.slice (Rw mF.cells p0.blocks) .no) (.int .i64 w64) ([.cells [(.int .i64 p0.temps),(.slice (Rw mV.cells p0.arrays) .no),(.slice (Rw mF.cells p0.blocks) .no),(.int .i64 p0.inn),(.int .i64 p0.out)],.cells [(.int .i64 0),(.slice (Rw mV.cells []) (.own 2)),(.slice (Rw mF.cells []) (.own 3)),(.int .i64 0),(.int .i64 0)],.front 0 0,.front 0 0,.cells [(.slice (Rw (ci .i64) w66) .no),(.int .i64 w67),(.bool w68)],oK 5 (aa8 w63)]:lD) (.ptr 0 0) (.ptr 1 0) (.int .i64 0) (.ptr 4 0) (.slice (Rw mF.cells w63) (.own 5)) (.int .i64 w51))=tm (Ec p0 w64 w66 w67 w68 w63) fun r=>(r.1.ex,[(.ptr 0 0),(.ptr 1 0),(.int .i64 0),(.ptr 4 0),(.slice (Rw mF.cells r.2.1) (.own 5)),(.slice (Rw mF.cells p0.blocks) .no),(.int .i64 w51),(.int .i64 w64)],([.cells [(.int .i64 p0.temps),(.slice (Rw mV.cells p0.arrays) .no),(.slice (Rw mF.cells p0.blocks) .no),(.int .i64 p0.inn),(.int .i64 p0.out)],.cells [(.int .i64 0),(.slice (Rw mV.cells []) (.own 2)),(.slice (Rw mF.cells []) (.own 3)),(.int .i64 0),(.int .i64 0)],.front 0 0,.front 0 0,.cells [(.slice (Rw (ci .i64) r.2.2.slots) .no),(.int .i64 r.2.2.most),(.bool r.2.2.bad)],oK 5 (aa8 r.2.1)]:lD)):=by
 simp +contextual -implicitDefEqProofs (maxSteps:=2000000) [-lM,-lF,-lE,-lG,-lK,-lI,-lH,PO,Ec,abB,abA,afH]
noncomputable def LL (K:lN) (m:Nat) (s:List lC×lD):Option R :=
 (fun aM aN aO aP aQ aH aB aC aU=>bo .lss aC aB fun aV=>lS aV ((PO K aH aC aU aM aN aO aP aQ aB).bind fun aA=>(fun aG aI aJ aK aL aD aE aF aR=>Ex.inBlock 1 aA.1 (bo .add aF (.int .i64 1) fun aT=>lX m .normal [aG,aI,aJ,aK,aL,aD,aE,aT] aR) (fun aS=>lX m aS [aG,aI,aJ,aK,aL,aD,aE,aF] aR)) (gd aA.2.1 0) (gd aA.2.1 1) (gd aA.2.1 2) (gd aA.2.1 3) (gd aA.2.1 4) (gd aA.2.1 5) (gd aA.2.1 6) (gd aA.2.1 7) aA.2.2) (lX m (.exit 0) [aM,aN,aO,aP,aQ,aH,aB,aC] aU)) (gd s.1 0) (gd s.1 1) (gd s.1 2) (gd s.1 3) (gd s.1 4) (gd s.1 5) (gd s.1 6) (gd s.1 7) s.2
noncomputable def AD (p0:IR) (w51:Int) (s52:(List mF)×Int×mG):Option (Ey×(List mF)×Int×mG) :=
 tc (decide (s52.2.1<w51)) (tb (Ec p0 s52.2.1 s52.2.2.slots s52.2.2.most s52.2.2.bad s52.1) fun r173=>xF 1 r173.1 (some (.n,(r173.2.1,(IntKind.wrap .i64 (s52.2.1+1)),r173.2.2))) fun e183=>some (e183,(r173.2.1,s52.2.1,r173.2.2))) (some ((.x 0),(s52.1,s52.2.1,s52.2.2)))
theorem Zk (p0:IR) (w51:Int) (s52:(List mF)×Int×mG):LL KK 6 ([(.ptr 0 0),(.ptr 1 0),(.int .i64 0),(.ptr 4 0),(.slice (Rw mF.cells s52.1) (.own 5)),(.slice (Rw mF.cells p0.blocks) .no),(.int .i64 w51),(.int .i64 s52.2.1)],([.cells [(.int .i64 p0.temps),(.slice (Rw mV.cells p0.arrays) .no),(.slice (Rw mF.cells p0.blocks) .no),(.int .i64 p0.inn),(.int .i64 p0.out)],.cells [(.int .i64 0),(.slice (Rw mV.cells []) (.own 2)),(.slice (Rw mF.cells []) (.own 3)),(.int .i64 0),(.int .i64 0)],.front 0 0,.front 0 0,.cells [(.slice (Rw (ci .i64) s52.2.2.slots) .no),(.int .i64 s52.2.2.most),(.bool s52.2.2.bad)],oK 5 (aa8 s52.1)]:lD))=tm (AD p0 w51 s52) fun r=>(r.1.ex,[(.ptr 0 0),(.ptr 1 0),(.int .i64 0),(.ptr 4 0),(.slice (Rw mF.cells r.2.1) (.own 5)),(.slice (Rw mF.cells p0.blocks) .no),(.int .i64 w51),(.int .i64 r.2.2.1)],([.cells [(.int .i64 p0.temps),(.slice (Rw mV.cells p0.arrays) .no),(.slice (Rw mF.cells p0.blocks) .no),(.int .i64 p0.inn),(.int .i64 p0.out)],.cells [(.int .i64 0),(.slice (Rw mV.cells []) (.own 2)),(.slice (Rw mF.cells []) (.own 3)),(.int .i64 0),(.int .i64 0)],.front 0 0,.front 0 0,.cells [(.slice (Rw (ci .i64) r.2.2.2.slots) .no),(.int .i64 r.2.2.2.most),(.bool r.2.2.2.bad)],oK 5 (aa8 r.2.1)]:lD)):=by
 simp +contextual -implicitDefEqProofs (maxSteps:=2000000) [-lM,-lF,-lE,-lG,-lK,-lI,-lH,LL,AD,aa9]
theorem abC (p0:IR) (w51:Int) (r39:(List Int)) (i4:Int):mX (LL KK 6) ([(.ptr 0 0),(.ptr 1 0),(.int .i64 0),(.ptr 4 0),(.slice (Rw mF.cells []) (.own 5)),(.slice (Rw mF.cells p0.blocks) .no),(.int .i64 w51),(.int .i64 i4)],([.cells [(.int .i64 p0.temps),(.slice (Rw mV.cells p0.arrays) .no),(.slice (Rw mF.cells p0.blocks) .no),(.int .i64 p0.inn),(.int .i64 p0.out)],.cells [(.int .i64 0),(.slice (Rw mV.cells []) (.own 2)),(.slice (Rw mF.cells []) (.own 3)),(.int .i64 0),(.int .i64 0)],.front 0 0,.front 0 0,.cells [(.slice (Rw (ci .i64) r39) .no),(.int .i64 0),(.bool false)],.front 0 0]:lD))=tm (tY (AD p0 w51) ([],i4,(⟨r39,0,false⟩:mG))) fun r=>(r.1.ex,[(.ptr 0 0),(.ptr 1 0),(.int .i64 0),(.ptr 4 0),(.slice (Rw mF.cells r.2.1) (.own 5)),(.slice (Rw mF.cells p0.blocks) .no),(.int .i64 w51),(.int .i64 r.2.2.1)],([.cells [(.int .i64 p0.temps),(.slice (Rw mV.cells p0.arrays) .no),(.slice (Rw mF.cells p0.blocks) .no),(.int .i64 p0.inn),(.int .i64 p0.out)],.cells [(.int .i64 0),(.slice (Rw mV.cells []) (.own 2)),(.slice (Rw mF.cells []) (.own 3)),(.int .i64 0),(.int .i64 0)],.front 0 0,.front 0 0,.cells [(.slice (Rw (ci .i64) r.2.2.2.slots) .no),(.int .i64 r.2.2.2.most),(.bool r.2.2.2.bad)],oK 5 (aa8 r.2.1)]:lD)):=by
 exact uP (enc:=fun s52=>([(.ptr 0 0),(.ptr 1 0),(.int .i64 0),(.ptr 4 0),(.slice (Rw mF.cells s52.1) (.own 5)),(.slice (Rw mF.cells p0.blocks) .no),(.int .i64 w51),(.int .i64 s52.2.1)],([.cells [(.int .i64 p0.temps),(.slice (Rw mV.cells p0.arrays) .no),(.slice (Rw mF.cells p0.blocks) .no),(.int .i64 p0.inn),(.int .i64 p0.out)],.cells [(.int .i64 0),(.slice (Rw mV.cells []) (.own 2)),(.slice (Rw mF.cells []) (.own 3)),(.int .i64 0),(.int .i64 0)],.front 0 0,.front 0 0,.cells [(.slice (Rw (ci .i64) s52.2.2.slots) .no),(.int .i64 s52.2.2.most),(.bool s52.2.2.bad)],oK 5 (aa8 s52.1)]:lD))) (fun s52=>Zk p0 w51 s52) ([],i4,(⟨r39,0,false⟩:mG))
noncomputable def m22 (K:lN) (a0 a1:lC) (h0:lD):Option (nB×lD) :=
 (lQ (nA 5 h0 a0) fun aM bO=>lQ (nA 5 bO (.agg [(.int .i64 0),(.slice (Rw mV.cells []) .nil),(.slice (Rw mF.cells []) .nil),(.int .i64 0),(.int .i64 0)])) fun aK bK=>ld true 5 bK aM fun t24=>ca (K 9 [(lC.lL t24)] bK) fun bM aL=>bo .neq bM (.int .i64 0) fun t28=>lS t28 ((mD [(.int .i64 0),(.slice (Rw mV.cells []) .nil),(.slice (Rw mF.cells []) .nil),(.int .i64 0),(.int .i64 0)] [(0,1),(1,1),(2,1),(3,1),(4,1)] []).bind fun t29=>(lW 5 aL aK t29).bind fun bP=>some (.ret,[aK,bM],bP)) (ln a1 fun t31=>fa 0 aM fun t32=>ld false 1 aL t32 fun bS=>bo .neq t31 bS fun bT=>lS bT ((mD [(.int .i64 0),(.slice (Rw mV.cells []) .nil),(.slice (Rw mF.cells []) .nil),(.int .i64 0),(.int .i64 0)] [(0,1),(1,1),(2,1),(3,1),(4,1)] []).bind fun bU=>(lW 5 aL aK bU).bind fun bQ=>some (.ret,[aK,(.int .i64 2)],bQ)) (ca (K 50 [(lC.lL a1)] aL) fun bV bR=>(mD [(.slice (Rw (ci .i64) []) .nil),(.int .i64 0),(.bool false)] [(0,1),(1,1),(2,1)] [(0,bV)]).bind fun bW=>lQ (nA 3 bR bW) fun bX bL=>(fun(bY:lC) (aW:lD)=>fa 2 aM fun bZ=>ld false 1 aW bZ fun bN=>ln bN fun b_=>(mX (LL K (aa8 aW)) ([aM,aK,(.int .i64 0),bX,bY,bN,b_,(.int .i64 0)],aW)).bind fun aC=>(fun aA aB aG aE aH aN aO aP aD=>Ex.mO aC.1 none (fun aQ=>Ex.inBlock 0 aQ ((l_ aE).bind fun aX=>fa 2 aX fun aY=>ld false 1 aD aY fun aZ=>lS aZ ((mD [(.int .i64 0),(.slice (Rw mV.cells []) .nil),(.slice (Rw mF.cells []) .nil),(.int .i64 0),(.int .i64 0)] [(0,1),(1,1),(2,1),(3,1),(4,1)] []).bind fun a_=>(lW 5 aD aB a_).bind fun aS=>some (.ret,[aB,(.int .i64 2)],aS)) ((l_ aE).bind fun bB=>fa 1 bB fun aF=>ld false 1 aD aF fun bC=>fa 2 aA fun bD=>(lW 1 (r_ (mI [0] [aF]) aD) bD aH).bind fun aT=>fa 0 aA fun bE=>(lW 1 (nL (mI [0] [aF]) aD aT) bE bC).bind fun aI=>fa 1 aA fun bF=>ld false 1 aI bF fun bG=>lQ (nC 4 32 aI (.slice (Rw mV.cells []) .nil) bG) fun bH aU=>fa 1 aA fun bI=>(lW 1 aU bI bH).bind fun aJ=>ld true 5 aJ aA fun bJ=>(lW 5 aJ aB bJ).bind fun aV=>some (.ret,[aB,(.int .i64 0)],aV))) (fun aR=>some (aR,[aB,aG],aD)))) (gd aC.2.1 0) (gd aC.2.1 1) (gd aC.2.1 2) (gd aC.2.1 3) (gd aC.2.1 4) (gd aC.2.1 5) (gd aC.2.1 6) (gd aC.2.1 7) aC.2.2) (.slice (Rw mF.cells []) (.own (aa8 bL))) (bL++[.front 0 0])))).bind (adM (aa8 h0))
theorem ahT (K:lN) (a0 a1:lC) (h0:lD):qG Tryz.prog mY mX K 22 [a0,a1] h0=m22 (mH mY K) a0 a1 h0:=by kernel_rfl
noncomputable def Uf (p0:IR) (p1:(List Int)):Option (IR×Int) :=
 tb ((Yi p0)) fun r27=>tc (!decide (r27=0)) (some ((⟨0,[],[],0,0⟩:IR),r27)) (tc (!decide (((aa8 p1:Nat):Int)=p0.temps)) (some ((⟨0,[],[],0,0⟩:IR),2)) (tb ((Um p1)) fun r39=>tb (tY (AD p0 ((aa8 p0.blocks:Nat):Int)) ([],0,(⟨r39,0,false⟩:mG))) fun r185=>xD r185.1 none fun e186=>xF 0 e186 (tc r185.2.2.2.bad (some ((⟨0,[],[],0,0⟩:IR),2)) (tc (List.isEmpty p0.arrays) (some ((⟨r185.2.2.2.most,[],r185.2.1,p0.inn,p0.out⟩:IR),0)) (tb ((p7 32 [] p0.arrays)) fun l213=>some ((⟨r185.2.2.2.most,l213,r185.2.1,p0.inn,p0.out⟩:IR),0)))) fun e196=>JC e196 (some ((⟨0,[],[],0,0⟩:IR),0))))
theorem at2 (p0:IR) (p1:(List Int)):m22 KK (.agg [(.int .i64 p0.temps),(.slice (Rw mV.cells p0.arrays) .no),(.slice (Rw mF.cells p0.blocks) .no),(.int .i64 p0.inn),(.int .i64 p0.out)]) (.slice (Rw (ci .i64) p1) .no) []=tm (Uf p0 p1) fun r=>(.ret (.tuple [(.agg [(.int .i64 r.1.temps),(.slice (Rw mV.cells r.1.arrays) .no),(.slice (Rw mF.cells r.1.blocks) .no),(.int .i64 r.1.inn),(.int .i64 r.1.out)]),(.int .i64 r.2)]),[]):=by
 simp +contextual -implicitDefEqProofs (maxSteps:=2000000) [-lM,-lF,-lE,-lG,-lK,-lI,-lH,m22,Uf,rt9,av3,abC,adM]
theorem aqD (p0:IR) (p1:(List Int)) (h:lD):KK 22 [(.agg [(.int .i64 p0.temps),(.slice (Rw mV.cells p0.arrays) .no),(.slice (Rw mF.cells p0.blocks) .no),(.int .i64 p0.inn),(.int .i64 p0.out)]),(.slice (Rw (ci .i64) p1) .no)] h=tm (Uf p0 p1) fun r=>(.ret (.tuple [(.agg [(.int .i64 r.1.temps),(.slice (Rw mV.cells r.1.arrays) .no),(.slice (Rw mF.cells r.1.blocks) .no),(.int .i64 r.1.inn),(.int .i64 r.1.out)]),(.int .i64 r.2)]),h):=nZ rfl rfl (ahT ..) (at2 p0 p1)
end
section
open Go Hk
theorem o_ {α:Type}{xs:List α}{i:Nat}:oV xs (i:Int)=xs[i]?:=by simp [oV]
theorem oL {α:Type}{by_:Nat}{xs ys:List α}(hb:by_≤100) (hl:xs.length≤4000000) (hy:ys.length≤4000000):p7 by_ xs ys=some (xs++ys):=by
 unfold p7
 rw [if_pos]
 have:(xs.length+ys.length)*by_≤8000000*100:=Nat.mul_le_mul (by omega) hb
 omega
noncomputable def sl (l:List Int) (t:Int):Int:=l.getD t.toNat 0
noncomputable def okT (l:List Int) (t:Int):Bool:=decide (0≤sl l t)&&decide (sl l t<1048576)
noncomputable def uR (l:List Int) (t:Int):Int:=min (sl l t) 1048576
noncomputable def yX (l:List Int):List Int:=l.map fun s=>min s 1048576
noncomputable def zV (l:List Int) (r:mG) (t:Int):mG:=⟨r.slots,max r.most (IntKind.wrap .i64 (uR l t+1)),r.bad || !okT l t⟩
theorem Bw {l:List Int}{ts:List Int}{r:mG}:(ts.foldl (zV l) r).slots=r.slots:=by
 induction ts generalizing r with
 | nil=>rfl
 | cons t ts ih=>rw [List.foldl_cons,ih];rfl
theorem ak0 {l:List Int}(hl:l.length≤2000000):Um l=some (yX l):=by
 have key:∀(d i:Nat),l.length=i+d→tY (AG l ((l.length:Nat):Int)) (yX (l.take i),(i:Int))=some (.x 0,(yX l,(l.length:Int))):=by
  intro d
  induction d with
  | zero =>
   intro i hi
   obtain rfl:i=l.length:=by omega
   rw [List.take_length]
   refine p5 ?_ (by simp)
   simp [AG]
  | succ d ih =>
   intro i hi
   rw [←ih (i+1) (by omega)]
   refine q_ ?_
   have hil:i<l.length:=by omega
   have e1:oV l (i:Int)=some l[i]:=by rw [o_,ac6 hil]
   have e2:p7 8 (yX (l.take i)) [min l[i] 1048576]=some (yX (l.take (i+1))):=by
    rw [oL (by omega) (by simp [yX];omega) (by simp),List.take_succ_eq_append_getElem hil]
    simp only [yX,List.map_append,aq7,List.map_nil]
   have w1:IntKind.i64.wrap ((i:Int)+1)=((i+1:Nat):Int):=by rw [wrap64 (by omega) (by omega),as1];rfl
   have hii:(i:Int)<(l.length:Int):=by omega
   simp only [AG,e1,hii,decide_true,oM,mR,e2,w1]
 have:=key l.length 0 (by omega)
 have e0:((0:Nat):Int)=0:=rfl
 have e1:yX (l.take 0)=[]:=rfl
 rw [e0,e1] at this
 simp [Um,this]
theorem XK {l:List Int}{t:Int}{r:mG}(h0:0≤t) (h1:t.toNat<l.length) (hr:r.slots=yX l):C7 t r=some (uR l t,zV l r t):=by
 have e1:oV r.slots t=some (uR l t):=by
  rw [hr]
  unfold oV
  rw [if_pos h0]
  unfold yX uR sl
  rw [List.getElem?_map,ac6 h1,List.getD_eq_getElem?_getD,ac6 h1]
  rfl
 have e2:(!okT l t)=(decide (uR l t<0) || decide (1048576≤uR l t)):=by
  unfold okT uR
  rw [Bool.eq_iff_iff]
  simp
  omega
 unfold C7
 rw [e1,mR]
 unfold zV
 rw [e2]
 obtain⟨rs,rm,rb⟩:=r
 cases rb
 ·by_cases h2:uR l t<0 <;> simp [B9,B_,h2]
 ·simp [B9,B_]
noncomputable def Uy (o:Op):List Int:=oO o++if (nK o.kind).dst=true then [o.dst] else []
noncomputable def NT (l:List Int) (o:Op):Op :=
 ⟨o.kind,if (nK o.kind).dst=true then uR l o.dst else o.dst,if 1≤(nK o.kind).src then uR l o.a else o.a,if 2≤(nK o.kind).src then uR l o.b else o.b,if 3≤(nK o.kind).src then uR l o.c else o.c,o.imm⟩
theorem ak1 {l:List Int}{o:Op}{r:mG}(ht:∀t∈Uy o,0≤t∧t.toNat<l.length) (hr:r.slots=yX l):Un o.kind o.dst o.a o.b o.c o.imm r=some (NT l o,(Uy o).foldl (zV l) r):=by
 have hs:=ND o.kind
 have key:∀(t:Int) (r:mG),t∈Uy o→r.slots=yX l→C7 t r=some (uR l t,zV l r t):=fun t r hm hr=>XK (ht t hm).1 (ht t hm).2 hr
 have eta:∀r:mG,(⟨r.slots,r.most,r.bad⟩:mG)=r:=fun r=>rfl
 have hsl:∀(r:mG) t,(zV l r t).slots=r.slots:=fun r t=>rfl
 unfold Un
 simp only [Jq,mR]
 unfold NT Uy at *
 unfold oO at *
 generalize hf:(nK o.kind).src=n at *
 cases hd:(nK o.kind).dst <;> rw [hd] at key ht <;>
  rcases (show n=0∨n=1∨n=2∨n=3 by omega) with rfl | rfl | rfl | rfl <;>
  simp [Gx,Gy,Gz,GA,IF,hd,eta,key,hr,hsl]
theorem Uh {l:List Int}{b:mF}(hb:b.ops.length≤2000000) (ht:∀o∈b.ops,∀t∈Uy o,0≤t∧t.toNat<l.length):∀(d i:Nat) (r:mG),b.ops.length=i+d→r.slots=yX l →
  tY (AB b ((b.ops.length:Nat):Int)) ((b.ops.take i).map (NT l),(i:Int),r)=some (.x 2,(b.ops.map (NT l),(b.ops.length:Int),((b.ops.drop i).flatMap Uy).foldl (zV l) r)):=by
 intro d
 induction d with
 | zero =>
  intro i r hi hr
  obtain rfl:i=b.ops.length:=by omega
  rw [List.take_length,List.drop_length]
  refine p5 ?_ (by simp)
  simp [AB]
 | succ d ih =>
  intro i r hi hr
  have hil:i<b.ops.length:=by omega
  have hm:b.ops[i]∈b.ops:=List.getElem_mem hil
  have e3:(b.ops.drop i).flatMap Uy=Uy b.ops[i]++(b.ops.drop (i+1)).flatMap Uy:=by rw [ao4 hil,List.flatMap_cons]
  rw [e3,List.foldl_append,←ih (i+1) _ (by omega) (by rw [Bw];exact hr)]
  refine q_ ?_
  have e1:oV b.ops (i:Int)=some b.ops[i]:=by rw [o_,ac6 hil]
  have e4:=ak1 (ht _ hm) hr
  have e2:p7 48 ((b.ops.take i).map (NT l)) [NT l b.ops[i]]=some ((b.ops.take (i+1)).map (NT l)):=by
   rw [oL (by omega) (by simp;omega) (by simp),List.take_succ_eq_append_getElem hil]
   simp only [List.map_append,aq7,List.map_nil]
  have w1:IntKind.i64.wrap ((i:Int)+1)=((i+1:Nat):Int):=by rw [wrap64 (by omega) (by omega),as1];rfl
  have hii:(i:Int)<(b.ops.length:Int):=by omega
  simp only [AB,e1,hii,decide_true,oM,mR,e4,e2,w1]
noncomputable def Ue (b:mF):List Int:=b.ops.flatMap Uy++if b.term.kind=2 then [b.term.a] else []
noncomputable def F2 (l:List Int) (b:mF):mF:=⟨b.ops.map (NT l),if b.term.kind=2 then⟨b.term.kind,uR l b.term.a,b.term.yes,b.term.no⟩ else b.term⟩
noncomputable def InT (p:IR) (l:List Int):Prop:=(∀b∈p.blocks,b.ops.length≤2000000∧∀t∈Ue b,0≤t∧t.toNat<l.length)∧p.blocks.length≤2000000
theorem Ug {p:IR}{l:List Int}{i:Nat}{b:mF}{r:mG}{bs:List mF}(hb:p.blocks[i]?=some b) (hi:InT p l) (hr:r.slots=yX l) (hbs:bs.length≤2000000) :
  Ec p (i:Int) r.slots r.most r.bad bs=some (.n,(bs++[F2 l b],(Ue b).foldl (zV l) r)):=by
 obtain⟨h1,h2⟩:=hi.1 b (List.mem_of_getElem? hb)
 have g:=Uh (l:=l) h1 (fun o ho t ht=>h2 t (by unfold Ue;exact List.mem_append_left _ (List.mem_flatMap.2 ⟨o,ho,ht⟩))) b.ops.length 0 r (by omega) hr
 have e0:((0:Nat):Int)=0:=rfl
 simp only [List.take_zero,List.map_nil,List.drop_zero,e0] at g
 have eta:(⟨r.slots,r.most,r.bad⟩:mG)=r:=rfl
 have e1:oV p.blocks (i:Int)=some b:=by rw [o_,hb]
 unfold Ec
 rw [e1,mR,eta,g,mR]
 simp only [xD,xF,beq_self_eq_true,cond_true]
 generalize hR:(b.ops.flatMap Uy).foldl (zV l) r=R at *
 have hRs:R.slots=yX l:=by rw [←hR,Bw,hr]
 have eR:(⟨R.slots,R.most,R.bad⟩:mG)=R:=rfl
 unfold F2 Ue
 rw [List.foldl_append,hR]
 by_cases hk:b.term.kind=2
 ·have hm:b.term.a∈Ue b:=by unfold Ue;rw [if_pos hk];simp
  have e5:=XK (r:=R) (h2 _ hm).1 (h2 _ hm).2 hRs
  simp only [Ed,hk,decide_true,oM,eR,e5,mR,if_true]
  rw [oL (by omega) (by omega) (by simp)]
  simp [hk]
 ·simp only [Ed,hk,decide_false,pS,eR,mR,if_false]
  rw [oL (by omega) (by omega) (by simp)]
  simp
theorem Ui {p:IR}{l:List Int}(hi:InT p l):∀(d i:Nat) (r:mG),p.blocks.length=i+d→r.slots=yX l →
  tY (AD p ((p.blocks.length:Nat):Int)) ((p.blocks.take i).map (F2 l),(i:Int),r)=some (.x 0,(p.blocks.map (F2 l),(p.blocks.length:Int),((p.blocks.drop i).flatMap Ue).foldl (zV l) r)):=by
 have hn:=hi.2
 intro d
 induction d with
 | zero =>
  intro i r hd hr
  obtain rfl:i=p.blocks.length:=by omega
  rw [List.take_length,List.drop_length]
  refine p5 ?_ (by simp)
  simp [AD]
 | succ d ih =>
  intro i r hd hr
  have hil:i<p.blocks.length:=by omega
  have e3:(p.blocks.drop i).flatMap Ue=Ue p.blocks[i]++(p.blocks.drop (i+1)).flatMap Ue:=by rw [ao4 hil,List.flatMap_cons]
  rw [e3,List.foldl_append,←ih (i+1) _ (by omega) (by rw [Bw];exact hr)]
  refine q_ ?_
  have e4:=Ug (bs:=(p.blocks.take i).map (F2 l)) (ac6 hil) hi hr (by simp;omega)
  have e2:(p.blocks.take i).map (F2 l)++[F2 l p.blocks[i]]=(p.blocks.take (i+1)).map (F2 l):=by
   rw [List.take_succ_eq_append_getElem hil];simp only [List.map_append,aq7,List.map_nil]
  have w1:IntKind.i64.wrap ((i:Int)+1)=((i+1:Nat):Int):=by rw [wrap64 (by omega) (by omega),as1];rfl
  have hii:(i:Int)<(p.blocks.length:Int):=by omega
  rw [e2] at e4
  simp only [AD,hii,decide_true,oM,e4,mR,w1,Hx]
noncomputable def Ff:IR:=⟨0,[],[],0,0⟩
noncomputable def YD (p:IR):List Int:=p.blocks.flatMap Ue
noncomputable def YF (p:IR) (l:List Int):IR×Int :=
 if oR p≠0 then(Ff,oR p) else if (l.length:Int)≠p.temps then(Ff,2) else
 if ((YD p).foldl (zV l) ⟨yX l,0,false⟩).bad=true then(Ff,2) else(⟨((YD p).foldl (zV l) ⟨yX l,0,false⟩).most,p.arrays,p.blocks.map (F2 l),p.inn,p.out⟩,0)
theorem agA {p:IR}{l:List Int}(h0:oR p=0) (hl:(l.length:Int)=p.temps):InT p l:=by
 obtain⟨hp,_⟩:=zL h0
 refine⟨fun b hb=>⟨by have:=hp.len b hb;omega,fun t ht=>?_⟩,by have:=hp.nb;omega⟩
 have key:0≤t∧t<p.temps:=by
  unfold Ue at ht
  rcases List.mem_append.1 ht with h | h
  ·obtain⟨o,ho,h⟩:=List.mem_flatMap.1 h
   unfold Uy at h
   rcases List.mem_append.1 h with h | h
   ·exact hp.use b hb o ho t h
   ·by_cases hd:(nK o.kind).dst=true
    ·rw [if_pos hd] at h;simp at h;subst h;exact hp.made b hb o ho hd
    ·rw [if_neg hd] at h;simp at h
  ·by_cases hk:b.term.kind=2
   ·rw [if_pos hk] at h;simp at h;subst h;exact hp.term b hb hk
   ·rw [if_neg hk] at h;simp at h
 omega
theorem akZ (p:IR) (l:List Int):Uf p l=some (YF p l):=by
 unfold Uf YF
 simp only [Yi,mR]
 by_cases h0:oR p=0
 ·by_cases hl:(l.length:Int)=p.temps
  ·have hi:=agA h0 hl
   obtain⟨hp,_⟩:=zL h0
   obtain⟨l00,_,_⟩:=xY h0
   have hal:=l00.a1
   have hll:l.length≤2000000:=by have:=hp.temps;omega
   have g:=Ui hi p.blocks.length 0 ⟨yX l,0,false⟩ (by omega) rfl
   have e0:((0:Nat):Int)=0:=rfl
   simp only [List.take_zero,List.map_nil,List.drop_zero,e0] at g
   have ea:p7 32 [] p.arrays=some p.arrays:=by rw [oL (by omega) (by simp) (by omega)];rfl
   have fa:(p.blocks.flatMap Ue)=YD p:=rfl
   rw [fa] at g
   generalize (YD p).foldl (zV l) ⟨yX l,0,false⟩=R at *
   rw [ak0 hll,mR,g,mR]
   simp only [h0,hl,xD,xF,beq_self_eq_true,cond_true,decide_true,Bool.not_true,pS,ea,mR,ne_eq,not_true_eq_false,if_false]
   cases hR:R.bad with
   | true=>simp [Ff]
   | false =>
    cases ha:p.arrays with
    | nil=>simp
    | cons x r=>simp
  ·simp [h0,hl,Ff]
 ·simp [h0,Ff]
end
section
open Go Hk
noncomputable def xS (n:Nat) (l:List Ins):Prop:=l.length≤n∧∀i∈l,wA i
theorem xS.mono {n m:Nat}{l:List Ins}(h:xS n l) (hm:n≤m):xS m l:=⟨Nat.le_trans h.1 hm,h.2⟩
theorem xS.nil {n:Nat}:xS n []:=⟨Nat.zero_le _,fun _ h=>by cases h⟩
theorem xS.app {n m:Nat}{l k:List Ins}(h:xS n l) (g:xS m k):xS (n+m) (l++k) :=
 ⟨by rw [List.length_append];exact Nat.add_le_add h.1 g.1,fun i hi=>(List.mem_append.1 hi).elim (h.2 i) (g.2 i)⟩
theorem xS.cons {n:Nat}{l:List Ins}{i:Ins}(hi:wA i) (h:xS n l):xS (n+1) (i::l) :=
 ⟨Nat.succ_le_succ h.1,fun j hj=>(List.mem_cons.1 hj).elim (fun e=>e ▸ hi) (h.2 j)⟩
theorem sQ {r n:Int}(h0:0≤r) (h1:r≤7):xS 2 (q9 r n) :=
 .cons (Su h0 (by omega) (VO n)) (.cons (Xl h0 (by omega) (XG n)) .nil)
theorem SA {r n:Int}(h0:0≤r) (h1:r≤7):t60 r n=some (q9 r n):=by
 have a:¬r<0:=by omega
 have b:¬7<r:=by omega
 have e:Rk .i64 n 16=some (n.fdiv (2^min (Int.toNat 16) (IntKind.bits .i64))):=by
  unfold Rk;rw [if_neg (by omega)]
 simp [t60,Iw,a,b,e,q9,Tx,XF]
theorem J9 (p q r:Int):∃b,t134 p q r=some b:=by
 unfold t134 DV B3 DW DX
 by_cases h1:0≤p <;> by_cases h2:p≤65535 <;> by_cases h3:q=0 <;> by_cases h4:q=1 <;> by_cases h5:0≤r <;> simp [h1,h2,h3,h4,h5]
theorem J_ (p:Int):∃b,t135 p=some b:=by
 unfold t135;by_cases h1:p=0 <;> by_cases h2:p=1 <;> simp [h1,h2]
theorem aj9 {r:Int}(h0:0≤r) (h1:r≤6):wA ⟨19,r,7,0,0,0,0,false⟩:=by
 rcases (show r=0∨r=1∨r=2∨r=3∨r=4∨r=5∨r=6 by omega) with rfl | rfl | rfl | rfl | rfl | rfl | rfl <;> exact fun _=>rfl
theorem akA {r:Int}(h0:0≤r) (h1:r≤6):wA ⟨20,r,7,0,0,0,0,false⟩:=by
 rcases (show r=0∨r=1∨r=2∨r=3∨r=4∨r=5∨r=6 by omega) with rfl | rfl | rfl | rfl | rfl | rfl | rfl <;> exact fun _=>rfl
theorem Xx (off rail:Int) {r:Int}(h0:0≤r) (h1:r≤6):∃L,t129 off rail r=some L∧xS 3 L:=by
 obtain⟨b,hb⟩:=J9 off rail r
 obtain⟨c,hc⟩:=J_ rail
 cases b
 ·exact⟨[],by simp [t129,hb],.nil⟩
 ·exact⟨_,by simp [t129,hb,hc,SA];rw [oL (by omega) (by simp [q9]) (by simp)];rfl,(sQ (by omega) (by omega)).app (.cons (aj9 h0 h1) (.nil (n:=0)))⟩
theorem akS (off rail:Int) {r:Int}(h0:0≤r) (h1:r≤6):∃L,t139 off rail r=some L∧xS 3 L:=by
 obtain⟨b,hb⟩:=J9 off rail r
 obtain⟨c,hc⟩:=J_ rail
 cases b
 ·exact⟨[],by simp [t139,hb],.nil⟩
 ·exact⟨_,by simp [t139,hb,hc,SA];rw [oL (by omega) (by simp [q9]) (by simp)];rfl,(sQ (by omega) (by omega)).app (.cons (akA h0 h1) (.nil (n:=0)))⟩
theorem E8 (p:Int):∃b,t130 p=some b:=by
 unfold t130 DT;by_cases h1:p<0 <;> by_cases h2:16382<p <;> simp [h1,h2]
theorem Ka (p:Int):∃b,t140 p=some b:=by
 unfold t140 D2;by_cases h1:0≤p <;> simp [h1]
theorem lits {l:List Ins}(h:l.all (fun i=>decide (t8 i=some true))=true):xS l.length l :=
 ⟨ai1 _,fun i hi _=>of_decide_eq_true (List.all_eq_true.1 h i hi)⟩
end
section
open Go Hk
structure Yp (o:Op) (s:oE):Prop where
 sh:o.kind=11∨o.kind=12∨o.kind=13→0≤o.imm∧o.imm<32
 sp:o.kind=18∨o.kind=19→0≤s.off∧s.off≤65535
 dst:¬(o.kind=1∨o.kind=11∨o.kind=12∨o.kind=13∨o.kind=18∨o.kind=19)→(nK o.kind).dst=true
theorem akT (o:Op) (s:oE):∃b,t141 o s=some b∧(b=true→0≤s.off∧s.off≤65535):=by
 unfold t141 D3 D4 D5 B7
 by_cases h1:s.elem=1 <;> by_cases h2:s.elem=4 <;> by_cases h3:0≤s.off <;> by_cases h4:s.off≤65535 <;> cases s.inp <;> simp [h1,h2,h3,h4] <;> omega
theorem E9 (w:Bool) (o:Op) (s:oE):∃b,Ax w o s=some b∧(b=true→Yp o s):=by
 cases w with
 | true=>exact⟨false,rfl,fun h=>by cases h⟩
 | false =>
  obtain⟨b,h5,h6⟩:=akT o s
  unfold Ax
  by_cases k1:o.kind=1
  ·refine⟨decide (0≤o.imm)&&decide (o.imm≤4294967295),?_,fun _=>⟨by omega,by omega,by omega⟩⟩
   by_cases h1:0≤o.imm <;> simp [k1,DZ,h1]
  by_cases k2:o.kind=11∨o.kind=12∨o.kind=13
  ·refine⟨decide (0≤o.imm)&&decide (o.imm<32),?_,fun h=>⟨fun _=>by simpa using h,by omega,by omega⟩⟩
   rcases k2 with k2 | k2 | k2 <;> by_cases h1:0≤o.imm <;> simp [k2,B4,B5,D0,h1]
  by_cases k3:o.kind=18∨o.kind=19
  ·refine⟨b,?_,fun h=>⟨by omega,fun _=>h6 h,by omega⟩⟩
   rcases k3 with k3 | k3 <;> simp [k3,B4,B5,DY,h5]
  ·refine⟨(nK o.kind).dst,?_,fun h=>⟨by omega,by omega,fun _=>h⟩⟩
   have e1:¬o.kind=11:=by omega
   have e2:¬o.kind=12:=by omega
   have e3:¬o.kind=13:=by omega
   have e4:¬o.kind=18:=by omega
   have e5:¬o.kind=19:=by omega
   simp [k1,e1,e2,e3,e4,e5,B4,B5,DY,t73,IF]
theorem rZ {i:Nat}(h:i≤4000000):IntKind.i64.wrap ((i:Int)+1)=((i+1:Nat):Int):=by
 rw [wrap64 (by omega) (by omega),as1];rfl
theorem Uc {l:List Int}(hl:l.length≤4000000):∀(d i:Nat),l.length=i+d→∃e j,tY (yE l (l.length:Int)) (i:Int)=some (e,j)∧(e=.r∨e=.x 0):=by
 intro d
 induction d with
 | zero =>
  intro i hi
  refine⟨.x 0,_,p5 (s':=(i:Int)) ?_ (by simp),.inr rfl⟩
  have:¬(i:Int)<(l.length:Int):=by omega
  simp [yE,this]
 | succ d ih =>
  intro i hi
  have hil:i<l.length:=by omega
  obtain⟨b,hb⟩:=Ka l[i]
  have e1:oV l (i:Int)=some l[i]:=by rw [o_,ac6 hil]
  have hii:(i:Int)<(l.length:Int):=by omega
  cases b
  ·exact⟨.r,_,p5 (s':=(i:Int)) (by simp [yE,hii,e1,hb]) (by simp),.inl rfl⟩
  ·obtain⟨e,j,h1,h2⟩:=ih (i+1) (by omega)
   refine⟨e,j,?_,h2⟩
   rw [←h1]
   exact q_ (by simp [yE,hii,e1,hb,rZ (show i≤4000000 by omega)])
theorem Km (o:Op):(oO o).length≤3:=by
 unfold oO;rw [List.length_take];exact Nat.min_le_right ..
theorem akQ (o:Op) (s:oE) (rail:Int):∃b,t136 o s rail=some b∧(b=true→Yp o s):=by
 obtain⟨e,j,h1,h2⟩:=Uc (l:=oO o) (by have:=Km o;omega) (oO o).length 0 (by omega)
 have e0:((0:Nat):Int)=0:=rfl
 rw [e0] at h1
 unfold t136
 simp only [t36,Jq,mR,h1]
 rcases h2 with rfl | rfl
 ·exact⟨false,rfl,fun h=>by cases h⟩
 ·simp only [xD,xF,beq_self_eq_true,cond_true,t73,IF,mR]
  have key:∀w,∃b,B6 w rail o s=some b∧(b=true→Yp o s):=by
   intro w
   unfold B6
   cases w
   ·cases (!decide (rail=0))
    ·exact E9 false o s
    ·exact E9 _ o s
   ·exact E9 true o s
  cases (nK o.kind).dst
  ·exact key false
  ·obtain⟨b,hb⟩:=Ka o.dst
   simp only [oM,hb,mR]
   exact key (!b)
theorem ad4 {i:Int}(h0:0≤i) (h1:i<32):wA ⟨5,3,0,0,0,i,0,false⟩∧wA ⟨5,4,0,0,0,i,0,false⟩:=by
 have h2:i≤31:=by omega
 constructor <;> intro _ <;>
 simp [t8,t15,By,Bz,BA,BC,BD,BE,BF,BG,Ay,t30,C5,t31,BI,t32,Ix,Iy,ID,h0,h2]
theorem ad5 {p i:Int}(hp:p=6∨p=8) (h0:1≤i) (h1:i<32):wA ⟨p,3,0,0,0,i,0,false⟩:=by
 have h2:i≤31:=by omega
 rcases hp with rfl | rfl <;> intro _ <;>
 simp [t8,t15,By,Bz,BA,BC,BD,BE,BF,BG,Ay,t30,C5,My,MB,t31,BI,t32,Ix,Iy,ID,Ke,Kf,Kg,h0,h2]
theorem Q0 {p i:Int}(hp:p=5∨p=6∨p=8) (h0:0≤i) (h1:i<32):∃x,t142 p 3 0 i=some x∧wA x:=by
 by_cases hi:i=0
 ·subst hi;exact⟨_,by simp [t142,yG];rfl,fun _=>rfl⟩
 ·refine⟨_,by simp [t142,yG,hi];rfl,?_⟩
  rcases hp with rfl | rfl | rfl
  ·exact(ad4 h0 h1).1
  ·exact ad5 (.inl rfl) (by omega) h1
  ·exact ad5 (.inr rfl) (by omega) h1
end
noncomputable section
open Go Hk
noncomputable def VY (mm:Nat) (aB:R):Option (nB×lD) :=
 (fun aA aC=>Ex.nR aB.1 (Je mm aA aC)) (gd aB.2.1 0) aB.2.2
theorem Y2 (y0:Int) (y1:Int) (y2:Int) (y3:Int) (y4:Int) (y5:Int) (y6:Int) (y7:Int) (y8:Int) (y9:Bool) (h:lD):lR 1 10 [(.int .i64 0),(.int .i64 0),(.int .i64 0),(.int .i64 0),(.int .i64 0),(.int .i64 0),(.int .i64 0),(.int .i64 0),(.int .i64 0),(.bool false)] [(0,(.agg [(.int .i64 y0),(.int .i64 y1),(.int .i64 y2),(.int .i64 y3),(.int .i64 y4),(.int .i64 y5),(.int .i64 y6),(.int .i64 y7),(.int .i64 y8),(.bool y9)]))] h=some (.slice (Rw mT.cells [(⟨y0,y1,(⟨y2,y3,y4,y5,y6,y7,y8,y9⟩:Ins)⟩:mT)]) (.own h.length),h++[oK 10 1]):=by
 rfl
noncomputable def Gf (K:lN) (m:Nat) (s:List lC×lD):Option R :=
 (fun aD aE aB aC aA aF=>bo .lss aA aC fun aL=>lS aL (ix 8 aB aA fun aM=>ld true 8 aF aM fun t36=>lQ (nA 8 aF (.agg [(.int .i64 0),(.int .i64 0),(.int .i64 0),(.int .i64 0),(.int .i64 0),(.int .i64 0),(.int .i64 0),(.bool false)])) fun aH aI=>(lW 8 aI aH t36).bind fun aG=>ld true 8 aG aH fun aN=>(mD [(.int .i64 0),(.int .i64 0),(.int .i64 0),(.int .i64 0),(.int .i64 0),(.int .i64 0),(.int .i64 0),(.int .i64 0),(.int .i64 0),(.bool false)] [(0,1),(1,1),(2,8)] [(2,aN)]).bind fun aO=>lQ (lR 1 10 [(.int .i64 0),(.int .i64 0),(.int .i64 0),(.int .i64 0),(.int .i64 0),(.int .i64 0),(.int .i64 0),(.int .i64 0),(.int .i64 0),(.bool false)] [(0,aO)] aG) fun aP aJ=>lQ (nC 10 80 aJ aE aP) fun aQ aK=>bo .add aA (.int .i64 1) fun aR=>lX m .normal [aD,aQ,aB,aC,aR] aK) (lX m (.exit 0) [aD,aE,aB,aC,aA] aF)) (gd s.1 0) (gd s.1 1) (gd s.1 2) (gd s.1 3) (gd s.1 4) s.2
noncomputable def Av (p0:(List Ins)) (aD:Int) (aA:(List mT)×Int):Option (Ey×(List mT)×Int) :=
 tc (decide (aA.2<aD)) (tb ((oV p0 aA.2)) fun aC=>tb ((p7 80 aA.1 [(⟨0,0,aC⟩:mT)])) fun aB=>some (.n,(aB,(IntKind.wrap .i64 (aA.2+1))))) (some ((.x 0),(aA.1,aA.2)))
set_option maxHeartbeats 4000000 in
theorem YP (p0:(List Ins)) (w25:Int) (s26:(List mT)×Int):Gf KK 2 ([(.slice (Rw mT.cells []) (.own 0)),(.slice (Rw mT.cells s26.1) (.own 1)),(.slice (Rw Ins.cells p0) .no),(.int .i64 w25),(.int .i64 s26.2)],([.front 0 0,oK 10 (aa8 s26.1)]:lD))=tm (Av p0 w25 s26) fun r=>(r.1.ex,[(.slice (Rw mT.cells []) (.own 0)),(.slice (Rw mT.cells r.2.1) (.own 1)),(.slice (Rw Ins.cells p0) .no),(.int .i64 w25),(.int .i64 r.2.2)],([.front 0 0,oK 10 (aa8 r.2.1)]:lD)):=by
 simp +contextual -implicitDefEqProofs (maxSteps:=2000000) [-lM,-lF,-lE,-lG,-lK,-lI,-lH,Gf,Av,Y2]
theorem aaQ (p0:(List Ins)) (w25:Int) (i4:Int):mX (Gf KK 2) ([(.slice (Rw mT.cells []) (.own 0)),(.slice (Rw mT.cells []) (.own 1)),(.slice (Rw Ins.cells p0) .no),(.int .i64 w25),(.int .i64 i4)],([.front 0 0,.front 0 0]:lD))=tm (tY (Av p0 w25) ([],i4)) fun r=>(r.1.ex,[(.slice (Rw mT.cells []) (.own 0)),(.slice (Rw mT.cells r.2.1) (.own 1)),(.slice (Rw Ins.cells p0) .no),(.int .i64 w25),(.int .i64 r.2.2)],([.front 0 0,oK 10 (aa8 r.2.1)]:lD)):=by
 exact uP (enc:=fun s26=>([(.slice (Rw mT.cells []) (.own 0)),(.slice (Rw mT.cells s26.1) (.own 1)),(.slice (Rw Ins.cells p0) .no),(.int .i64 w25),(.int .i64 s26.2)],([.front 0 0,oK 10 (aa8 s26.1)]:lD))) (fun s26=>YP p0 w25 s26) ([],i4)
noncomputable def ag2 (K:lN) (a0:lC) (h0:lD):Option (nB×lD) :=
 ((fun(aL:lC) (aD:lD)=>(fun(t23:lC) (aE:lD)=>ln a0 fun t24=>(mX (Gf K (aa8 aE)) ([aL,t23,a0,t24,(.int .i64 0)],aE)).bind fun aA=>(fun aB aC aG aH aI aF=>Ex.mO aA.1 none (fun aJ=>Ex.inBlock 0 aJ (some (.ret,[aC],aF)) (fun aK=>some (aK,[aB],aF)))) (gd aA.2.1 0) (gd aA.2.1 1) (gd aA.2.1 2) (gd aA.2.1 3) (gd aA.2.1 4) aA.2.2) (.slice (Rw mT.cells []) (.own (aa8 aD))) (aD++[.front 0 0])) (.slice (Rw mT.cells []) (.own (aa8 h0))) (h0++[.front 0 0])).bind (VY (aa8 h0))
theorem ZZ (K:lN) (a0:lC) (h0:lD):qG Tryz.prog mY mX K 131 [a0] h0=ag2 (mH mY K) a0 h0:=by kernel_rfl
noncomputable def t131 (p0:(List Ins)):Option ((List mT)) :=
 tb (tY (Av p0 ((aa8 p0:Nat):Int)) ([],0)) fun aA=>xD aA.1 none fun aB=>xF 0 aB (some aA.2.1) fun aC=>JC aC (some [])
set_option maxHeartbeats 4000000 in
theorem atJ (p0:(List Ins)):ag2 KK (.slice (Rw Ins.cells p0) .no) []=tm (t131 p0) fun r=>(.ret (.slice (Rw mT.cells r) (.own 0)),[oK 10 (aa8 r)]):=by
 simp +contextual -implicitDefEqProofs (maxSteps:=2000000) [-lM,-lF,-lE,-lG,-lK,-lI,-lH,ag2,t131,aaQ,VY]
theorem apM (p0:(List Ins)) (h:lD):KK 131 [(.slice (Rw Ins.cells p0) .no)] h=tm (t131 p0) fun r=>(.ret (.slice (Rw mT.cells r) (.own (aa8 h))),h++[oK 10 (aa8 r)]):=F_ rfl rfl (ZZ ..) (atJ p0) fun r=>wN
noncomputable def V3 (mm:Nat) (Cq:R):Option (nB×lD) :=
 (fun aA aB=>Ex.nR Cq.1 (nJ mm aA aB)) (gd Cq.2.1 0) Cq.2.2
noncomputable def ag4 (K:lN) (a0 a1:lC) (h0:lD):Option (nB×lD) :=
 (lQ (nA 1 h0 a0) fun aC aA=>bo .eql a1 (.int .i64 (-1)) fun aD=>lS aD (fa 0 aC fun t23=>ld true 1 aA t23 fun t24=>ca (K 14 [(lC.lL t24)] aA) fun aE aB=>some (.ret,[aE],aB)) (some (.ret,[a1],aA))).bind (V3 (aa8 h0))
theorem Z1 (K:lN) (a0 a1:lC) (h0:lD):qG Tryz.prog mY mX K 133 [a0,a1] h0=ag4 (mH mY K) a0 a1 h0:=by kernel_rfl
noncomputable def t133 (p0:AO) (p1:Int):Option (Int) :=
 tc (decide (p1=(-1))) (tb ((t14 p0.lay)) fun aA=>some aA) (some p1)
set_option maxHeartbeats 4000000 in
theorem atL (p0:AO) (p1:Int):ag4 KK (.agg [(.int .i64 p0.lay.n)]) (.int .i64 p1) []=tm (t133 p0 p1) fun r=>(.ret (.int .i64 r),[]):=by
 simp +contextual -implicitDefEqProofs (maxSteps:=2000000) [-lM,-lF,-lE,-lG,-lK,-lI,-lH,ag4,t133,Yf,V3]
theorem apN (p0:AO) (p1:Int) (h:lD):KK 133 [(.agg [(.int .i64 p0.lay.n)]),(.int .i64 p1)] h=tm (t133 p0 p1) fun r=>(.ret (.int .i64 r),h):=nZ rfl rfl (Z1 ..) (atL p0 p1)
noncomputable def VW (mm:Nat) (aB:R):Option (nB×lD) :=
 (fun aA aC=>Ex.nR aB.1 ((lP true 10 aC aA).bind fun t36=>nJ mm t36 aC)) (gd aB.2.1 0) aB.2.2
noncomputable def agY (K:lN) (a0 a1 a2:lC) (h0:lD):Option (nB×lD) :=
 (lQ (nA 1 h0 a0) fun aG aC=>lQ (nA 8 aC a2) fun aB aD=>lQ (nA 10 aD (.agg [(.int .i64 0),(.int .i64 0),(.int .i64 0),(.int .i64 0),(.int .i64 0),(.int .i64 0),(.int .i64 0),(.int .i64 0),(.int .i64 0),(.bool false)])) fun t24 aA=>ld true 1 aA aG fun t26=>ld true 8 aA aB fun aH=>ca (K 133 [(lC.lL t26),(lC.lL a1)] (r_ (mI [0] [aB]) aA)) fun t28 aE=>(mD [(.int .i64 0),(.int .i64 0),(.int .i64 0),(.int .i64 0),(.int .i64 0),(.int .i64 0),(.int .i64 0),(.int .i64 0),(.int .i64 0),(.bool false)] [(0,1),(1,1),(2,8)] [(0,(.int .i64 2)),(1,t28),(2,aH)]).bind fun t31=>(lW 10 (nL (mI [0] [aB]) aA aE) t24 t31).bind fun aF=>some (.ret,[t24],aF)).bind (VW (aa8 h0))
theorem ZV (K:lN) (a0 a1 a2:lC) (h0:lD):qG Tryz.prog mY mX K 128 [a0,a1,a2] h0=agY (mH mY K) a0 a1 a2 h0:=by kernel_rfl
noncomputable def t128 (p0:AO) (p1:Int) (p2:Ins):Option (mT) :=
 tb ((t133 p0 p1)) fun Eh=>some (⟨2,Eh,p2⟩:mT)
set_option maxHeartbeats 4000000 in
theorem atF (p0:AO) (p1:Int) (p2:Ins):agY KK (.agg [(.int .i64 p0.lay.n)]) (.int .i64 p1) (.agg [(.int .i64 p2.op),(.int .i64 p2.rd),(.int .i64 p2.rn),(.int .i64 p2.rm),(.int .i64 p2.ra),(.int .i64 p2.imm),(.int .i64 p2.cond),(.bool p2.wide)]) []=tm (t128 p0 p1 p2) fun r=>(.ret (.agg [(.int .i64 r.kind),(.int .i64 r.label),(.int .i64 r.ins.op),(.int .i64 r.ins.rd),(.int .i64 r.ins.rn),(.int .i64 r.ins.rm),(.int .i64 r.ins.ra),(.int .i64 r.ins.imm),(.int .i64 r.ins.cond),(.bool r.ins.wide)]),[]):=by
 simp +contextual -implicitDefEqProofs (maxSteps:=2000000) [-lM,-lF,-lE,-lG,-lK,-lI,-lH,agY,t128,apN,VW]
theorem wO (p0:AO) (p1:Int) (p2:Ins) (h:lD):KK 128 [(.agg [(.int .i64 p0.lay.n)]),(.int .i64 p1),(.agg [(.int .i64 p2.op),(.int .i64 p2.rd),(.int .i64 p2.rn),(.int .i64 p2.rm),(.int .i64 p2.ra),(.int .i64 p2.imm),(.int .i64 p2.cond),(.bool p2.wide)])] h=tm (t128 p0 p1 p2) fun r=>(.ret (.agg [(.int .i64 r.kind),(.int .i64 r.label),(.int .i64 r.ins.op),(.int .i64 r.ins.rd),(.int .i64 r.ins.rn),(.int .i64 r.ins.rm),(.int .i64 r.ins.ra),(.int .i64 r.ins.imm),(.int .i64 r.ins.cond),(.bool r.ins.wide)]),h):=nZ rfl rfl (ZV ..) (atF p0 p1 p2)
theorem apL (x0_0:Int) (p1:Int) (x2_0:Int) (x2_1:Int) (x2_2:Int) (x2_3:Int) (x2_4:Int) (x2_5:Int) (x2_6:Int) (x2_7:Bool) (h:lD):KK 128 [(.agg [(.int .i64 x0_0)]),(.int .i64 p1),(.agg [(.int .i64 x2_0),(.int .i64 x2_1),(.int .i64 x2_2),(.int .i64 x2_3),(.int .i64 x2_4),(.int .i64 x2_5),(.int .i64 x2_6),(.bool x2_7)])] h=tm (t128 (⟨(⟨x0_0⟩:Lay)⟩:AO) p1 (⟨x2_0,x2_1,x2_2,x2_3,x2_4,x2_5,x2_6,x2_7⟩:Ins)) fun r=>(.ret (.agg [(.int .i64 r.kind),(.int .i64 r.label),(.int .i64 r.ins.op),(.int .i64 r.ins.rd),(.int .i64 r.ins.rn),(.int .i64 r.ins.rm),(.int .i64 r.ins.ra),(.int .i64 r.ins.imm),(.int .i64 r.ins.cond),(.bool r.ins.wide)]),h):=wO (⟨(⟨x0_0⟩:Lay)⟩:AO) p1 (⟨x2_0,x2_1,x2_2,x2_3,x2_4,x2_5,x2_6,x2_7⟩:Ins) h
noncomputable def VT (mm:Nat) (aB:R):Option (nB×lD) :=
 (fun aA aC=>Ex.nR aB.1 (nJ mm aA aC)) (gd aB.2.1 0) aB.2.2
theorem Y0 (y0:Int) (y1:Int) (y2:Int) (y3:Int) (y4:Int) (y5:Int) (y6:Int) (y7:Int) (y8:Int) (y9:Bool) (h:lD):lR 1 10 [(.int .i64 0),(.int .i64 0),(.int .i64 0),(.int .i64 0),(.int .i64 0),(.int .i64 0),(.int .i64 0),(.int .i64 0),(.int .i64 0),(.bool false)] [(0,(.agg [(.int .i64 y0),(.int .i64 y1),(.int .i64 y2),(.int .i64 y3),(.int .i64 y4),(.int .i64 y5),(.int .i64 y6),(.int .i64 y7),(.int .i64 y8),(.bool y9)]))] h=some (.slice (Rw mT.cells [(⟨y0,y1,(⟨y2,y3,y4,y5,y6,y7,y8,y9⟩:Ins)⟩:mT)]) (.own h.length),h++[oK 10 1]):=by
 rfl
noncomputable def agV (K:lN) (a0 a1:lC) (h0:lD):Option (nB×lD) :=
 (lQ (nA 1 h0 a0) fun aE aA=>(fun(t23:lC) (aB:lD)=>(mD [(.int .i64 0),(.int .i64 0),(.int .i64 0),(.int .i64 0),(.int .i64 0),(.int .i64 0),(.int .i64 0),(.int .i64 0),(.int .i64 0),(.bool false)] [(0,1),(1,1),(2,8)] [(0,(.int .i64 1)),(1,a1)]).bind fun t24=>lQ (lR 1 10 [(.int .i64 0),(.int .i64 0),(.int .i64 0),(.int .i64 0),(.int .i64 0),(.int .i64 0),(.int .i64 0),(.int .i64 0),(.int .i64 0),(.bool false)] [(0,t24)] aB) fun aD aC=>some (.ret,[aD],aC)) (.slice (Rw mT.cells []) (.own (aa8 aA))) (aA++[.front 0 0])).bind (VT (aa8 h0))
theorem ZS (K:lN) (a0 a1:lC) (h0:lD):qG Tryz.prog mY mX K 125 [a0,a1] h0=agV (mH mY K) a0 a1 h0:=by kernel_rfl
noncomputable def t125 (p0:AO) (p1:Int):Option ((List mT)) :=
 some [(⟨1,p1,(⟨0,0,0,0,0,0,0,false⟩:Ins)⟩:mT)]
set_option maxHeartbeats 4000000 in
theorem atC (p0:AO) (p1:Int):agV KK (.agg [(.int .i64 p0.lay.n)]) (.int .i64 p1) []=tm (t125 p0 p1) fun r=>(.ret (.slice (Rw mT.cells r) .no),[]):=by
 simp +contextual -implicitDefEqProofs (maxSteps:=2000000) [-lM,-lF,-lE,-lG,-lK,-lI,-lH,agV,t125,Y0,VT]
theorem CV (p0:AO) (p1:Int) (h:lD):KK 125 [(.agg [(.int .i64 p0.lay.n)]),(.int .i64 p1)] h=tm (t125 p0 p1) fun r=>(.ret (.slice (Rw mT.cells r) .no),h):=nZ rfl rfl (ZS ..) (atC p0 p1)
noncomputable def VU (mm:Nat) (MR:R):Option (nB×lD) :=
 (fun aA aB=>Ex.nR MR.1 (Je mm aA aB)) (gd MR.2.1 0) MR.2.2
noncomputable def agW (K:lN) (a0:lC) (h0:lD):Option (nB×lD) :=
 (lQ (nA 1 h0 a0) fun aE aA=>(fun(t23:lC) (aB:lD)=>(fun(aD:lC) (aC:lD)=>some (.ret,[aD],aC)) (.slice (Rw mT.cells []) (.own (aa8 aB))) (aB++[.front 0 0])) (.slice (Rw mT.cells []) (.own (aa8 aA))) (aA++[.front 0 0])).bind (VU (aa8 h0))
theorem ZT (K:lN) (a0:lC) (h0:lD):qG Tryz.prog mY mX K 126 [a0] h0=agW (mH mY K) a0 h0:=by kernel_rfl
noncomputable def t126 (p0:AO):Option ((List mT)) :=
 some []
set_option maxHeartbeats 4000000 in
theorem atD (p0:AO):agW KK (.agg [(.int .i64 p0.lay.n)]) []=tm (t126 p0) fun r=>(.ret (.slice (Rw mT.cells r) (.own 0)),[oK 10 (aa8 r)]):=by
 simp +contextual -implicitDefEqProofs (maxSteps:=2000000) [-lM,-lF,-lE,-lG,-lK,-lI,-lH,agW,t126,VU]
theorem aaN (p0:AO) (h:lD):KK 126 [(.agg [(.int .i64 p0.lay.n)])] h=tm (t126 p0) fun r=>(.ret (.slice (Rw mT.cells r) (.own (aa8 h))),h++[oK 10 (aa8 r)]):=F_ rfl rfl (ZT ..) (atD p0) fun r=>wN
noncomputable def VV (mm:Nat) (aB:R):Option (nB×lD) :=
 (fun aA aC=>Ex.nR aB.1 (nJ mm aA aC)) (gd aB.2.1 0) aB.2.2
noncomputable def agX (K:lN) (a0 a1 a2:lC) (h0:lD):Option (nB×lD) :=
 (lQ (nA 1 h0 a0) fun aJ aC=>lQ (nA 6 aC a1) fun aG aD=>lQ (nA 3 aD a2) fun t24 aB=>(fun(aK:lC) (aA:lD)=>ld true 6 aA aG fun t28=>ld true 3 aA t24 fun t29=>ca (K 132 [(lC.lL t28),(lC.lL t29),(lC.lL (.int .i64 0))] aA) fun t30 aE=>(nI 0 t30).bind fun aH=>(nI 1 t30).bind fun aL=>ca (K 131 [(lC.lL aH)] aE) fun aI aF=>some (.ret,[aI],aF)) (.slice (Rw mT.cells []) (.own (aa8 aB))) (aB++[.front 0 0])).bind (VV (aa8 h0))
theorem ZU (K:lN) (a0 a1 a2:lC) (h0:lD):qG Tryz.prog mY mX K 127 [a0,a1,a2] h0=agX (mH mY K) a0 a1 a2 h0:=by kernel_rfl
noncomputable def t127 (p0:AO) (p1:Op) (p2:oE):Option ((List mT)) :=
 tb ((t132 p1 p2 0)) fun JU=>tb ((t131 JU.1)) fun aA=>some aA
set_option maxHeartbeats 4000000 in
theorem atE (p0:AO) (p1:Op) (p2:oE):agX KK (.agg [(.int .i64 p0.lay.n)]) (.agg [(.int .i64 p1.kind),(.int .i64 p1.dst),(.int .i64 p1.a),(.int .i64 p1.b),(.int .i64 p1.c),(.int .i64 p1.imm)]) (.agg [(.int .i64 p2.elem),(.int .i64 p2.off),(.bool p2.inp)]) []=tm (t127 p0 p1 p2) fun r=>(.ret (.slice (Rw mT.cells r) .no),[]):=by
 simp +contextual -implicitDefEqProofs (maxSteps:=2000000) [-lM,-lF,-lE,-lG,-lK,-lI,-lH,agX,t127,sI,apM,VV]
theorem apK (p0:AO) (p1:Op) (p2:oE) (h:lD):KK 127 [(.agg [(.int .i64 p0.lay.n)]),(.agg [(.int .i64 p1.kind),(.int .i64 p1.dst),(.int .i64 p1.a),(.int .i64 p1.b),(.int .i64 p1.c),(.int .i64 p1.imm)]),(.agg [(.int .i64 p2.elem),(.int .i64 p2.off),(.bool p2.inp)])] h=tm (t127 p0 p1 p2) fun r=>(.ret (.slice (Rw mT.cells r) .no),h):=nZ rfl rfl (ZU ..) (atE p0 p1 p2)
noncomputable def VR (mm:Nat) (aA:R):Option (nB×lD) :=
 (fun aB aC=>Ex.nR aA.1 (nJ mm aB aC)) (gd aA.2.1 0) aA.2.2
theorem YU (y0:Int) (y1:Int) (y2:Int) (y3:Int) (y4:Int) (y5:Int) (y6:Int) (y7:Int) (y8:Int) (y9:Bool) (h:lD):lR 1 10 [(.int .i64 0),(.int .i64 0),(.int .i64 0),(.int .i64 0),(.int .i64 0),(.int .i64 0),(.int .i64 0),(.int .i64 0),(.int .i64 0),(.bool false)] [(0,(.agg [(.int .i64 y0),(.int .i64 y1),(.int .i64 y2),(.int .i64 y3),(.int .i64 y4),(.int .i64 y5),(.int .i64 y6),(.int .i64 y7),(.int .i64 y8),(.bool y9)]))] h=some (.slice (Rw mT.cells [(⟨y0,y1,(⟨y2,y3,y4,y5,y6,y7,y8,y9⟩:Ins)⟩:mT)]) (.own h.length),h++[oK 10 1]):=by
 rfl
theorem YV (y0:Int) (y1:Int) (y2:Int) (y3:Int) (y4:Int) (y5:Int) (y6:Int) (y7:Int) (y8:Int) (y9:Bool) (h:lD):lR 1 10 [(.int .i64 0),(.int .i64 0),(.int .i64 0),(.int .i64 0),(.int .i64 0),(.int .i64 0),(.int .i64 0),(.int .i64 0),(.int .i64 0),(.bool false)] [(0,(.agg [(.int .i64 y0),(.int .i64 y1),(.int .i64 y2),(.int .i64 y3),(.int .i64 y4),(.int .i64 y5),(.int .i64 y6),(.int .i64 y7),(.int .i64 y8),(.bool y9)]))] h=some (.slice (Rw mT.cells [(⟨y0,y1,(⟨y2,y3,y4,y5,y6,y7,y8,y9⟩:Ins)⟩:mT)]) (.own h.length),h++[oK 10 1]):=by
 rfl
theorem YW (y0:Int) (y1:Int) (y2:Int) (y3:Int) (y4:Int) (y5:Int) (y6:Int) (y7:Bool) (h:lD):lR 1 8 [(.int .i64 0),(.int .i64 0),(.int .i64 0),(.int .i64 0),(.int .i64 0),(.int .i64 0),(.int .i64 0),(.bool false)] [(0,(.agg [(.int .i64 y0),(.int .i64 y1),(.int .i64 y2),(.int .i64 y3),(.int .i64 y4),(.int .i64 y5),(.int .i64 y6),(.bool y7)]))] h=some (.slice (Rw Ins.cells [(⟨y0,y1,y2,y3,y4,y5,y6,y7⟩:Ins)]) (.own h.length),h++[oK 8 1]):=by
 rfl
theorem YX (y0:Int) (y1:Int) (y2:Int) (y3:Int) (y4:Int) (y5:Int) (y6:Int) (y7:Int) (y8:Int) (y9:Bool) (h:lD):lR 1 10 [(.int .i64 0),(.int .i64 0),(.int .i64 0),(.int .i64 0),(.int .i64 0),(.int .i64 0),(.int .i64 0),(.int .i64 0),(.int .i64 0),(.bool false)] [(0,(.agg [(.int .i64 y0),(.int .i64 y1),(.int .i64 y2),(.int .i64 y3),(.int .i64 y4),(.int .i64 y5),(.int .i64 y6),(.int .i64 y7),(.int .i64 y8),(.bool y9)]))] h=some (.slice (Rw mT.cells [(⟨y0,y1,(⟨y2,y3,y4,y5,y6,y7,y8,y9⟩:Ins)⟩:mT)]) (.own h.length),h++[oK 10 1]):=by
 rfl
theorem YY (y0:Int) (y1:Int) (y2:Int) (y3:Int) (y4:Int) (y5:Int) (y6:Int) (y7:Bool) (y8:Int) (y9:Int) (y10:Int) (y11:Int) (y12:Int) (y13:Int) (y14:Int) (y15:Bool) (h:lD):lR 2 8 [(.int .i64 0),(.int .i64 0),(.int .i64 0),(.int .i64 0),(.int .i64 0),(.int .i64 0),(.int .i64 0),(.bool false)] [(0,(.agg [(.int .i64 y0),(.int .i64 y1),(.int .i64 y2),(.int .i64 y3),(.int .i64 y4),(.int .i64 y5),(.int .i64 y6),(.bool y7)])),(1,(.agg [(.int .i64 y8),(.int .i64 y9),(.int .i64 y10),(.int .i64 y11),(.int .i64 y12),(.int .i64 y13),(.int .i64 y14),(.bool y15)]))] h=some (.slice (Rw Ins.cells [(⟨y0,y1,y2,y3,y4,y5,y6,y7⟩:Ins),(⟨y8,y9,y10,y11,y12,y13,y14,y15⟩:Ins)]) (.own h.length),h++[oK 8 2]):=by
 rfl
theorem YZ (y0:Int) (y1:Int) (y2:Int) (y3:Int) (y4:Int) (y5:Int) (y6:Int) (y7:Int) (y8:Int) (y9:Bool) (y10:Int) (y11:Int) (y12:Int) (y13:Int) (y14:Int) (y15:Int) (y16:Int) (y17:Int) (y18:Int) (y19:Bool) (h:lD):lR 2 10 [(.int .i64 0),(.int .i64 0),(.int .i64 0),(.int .i64 0),(.int .i64 0),(.int .i64 0),(.int .i64 0),(.int .i64 0),(.int .i64 0),(.bool false)] [(0,(.agg [(.int .i64 y0),(.int .i64 y1),(.int .i64 y2),(.int .i64 y3),(.int .i64 y4),(.int .i64 y5),(.int .i64 y6),(.int .i64 y7),(.int .i64 y8),(.bool y9)])),(1,(.agg [(.int .i64 y10),(.int .i64 y11),(.int .i64 y12),(.int .i64 y13),(.int .i64 y14),(.int .i64 y15),(.int .i64 y16),(.int .i64 y17),(.int .i64 y18),(.bool y19)]))] h=some (.slice (Rw mT.cells [(⟨y0,y1,(⟨y2,y3,y4,y5,y6,y7,y8,y9⟩:Ins)⟩:mT),(⟨y10,y11,(⟨y12,y13,y14,y15,y16,y17,y18,y19⟩:Ins)⟩:mT)]) (.own h.length),h++[oK 10 2]):=by
 rfl
noncomputable def agU (K:lN) (a0 a1 a2:lC) (h0:lD):Option (nB×lD) :=
 (lQ (nA 1 h0 a0) fun aA a_=>lQ (nA 4 a_ a2) fun aG aW=>(fun(cX:lC) (bB:lD)=>(mD [(.int .i64 0),(.int .i64 0),(.int .i64 0),(.int .i64 0),(.int .i64 0),(.int .i64 0),(.int .i64 0),(.bool false)] [(0,1),(1,1),(2,1),(3,1),(4,1),(5,1),(6,1),(7,1)] [(0,(.int .i64 24))]).bind fun t26=>lQ (nA 8 bB (.agg [(.int .i64 0),(.int .i64 0),(.int .i64 0),(.int .i64 0),(.int .i64 0),(.int .i64 0),(.int .i64 0),(.bool false)])) fun aF bC=>(lW 8 bC aF t26).bind fun aC=>fa 0 aG fun t30=>ld false 1 aC t30 fun t31=>bo .eql t31 (.int .i64 1) fun t32=>lS t32 (ld true 1 aC aA fun bQ=>fa 2 aG fun bR=>ld false 1 aC bR fun bS=>ld true 8 aC aF fun t36=>ca (K 128 [(lC.lL bQ),(lC.lL bS),(lC.lL t36)] aC) fun bT bD=>lQ (lR 1 10 [(.int .i64 0),(.int .i64 0),(.int .i64 0),(.int .i64 0),(.int .i64 0),(.int .i64 0),(.int .i64 0),(.int .i64 0),(.int .i64 0),(.bool false)] [(0,bT)] bD) fun bU bE=>some (.ret,[bU],bE)) (bo .eql t31 (.int .i64 3) fun bV=>lS bV (ld true 1 aC aA fun bW=>fa 0 aA fun bX=>fa 0 bX fun bY=>ld false 1 aC bY fun bZ=>ld true 8 aC aF fun b_=>ca (K 128 [(lC.lL bW),(lC.lL bZ),(lC.lL b_)] aC) fun cA bF=>lQ (lR 1 10 [(.int .i64 0),(.int .i64 0),(.int .i64 0),(.int .i64 0),(.int .i64 0),(.int .i64 0),(.int .i64 0),(.int .i64 0),(.int .i64 0),(.bool false)] [(0,cA)] bF) fun cB bG=>some (.ret,[cB],bG)) ((mD [(.int .i64 0),(.int .i64 0),(.int .i64 0),(.int .i64 0),(.int .i64 0),(.int .i64 0),(.int .i64 0),(.bool false)] [(0,1),(1,1),(2,1),(3,1),(4,1),(5,1),(6,1),(7,1)] [(0,(.int .i64 23)),(3,(.int .i64 1))]).bind fun t53=>lQ (nA 8 aC (.agg [(.int .i64 0),(.int .i64 0),(.int .i64 0),(.int .i64 0),(.int .i64 0),(.int .i64 0),(.int .i64 0),(.bool false)])) fun aV bH=>(lW 8 bH aV t53).bind fun aX=>fa 1 aG fun cC=>ld false 1 aX cC fun cD=>ca (K 130 [(lC.lL cD)] aX) fun cE bI=>ca (K 129 [(lC.lL cE),(lC.lL (.int .i64 0)),(lC.lL (.int .i64 0))] bI) fun cF bJ=>ca (K 60 [(lC.lL (.int .i64 1)),(lC.lL (.int .i64 4294967295))] bJ) fun cG bK=>lQ (nC 8 64 bK cF cG) fun cH aD=>ld true 8 aD aV fun cI=>ld true 1 aD aA fun cJ=>fa 2 aG fun t73=>ld false 1 aD t73 fun cK=>(mD [(.int .i64 0),(.int .i64 0),(.int .i64 0),(.int .i64 0),(.int .i64 0),(.int .i64 0),(.int .i64 0),(.bool false)] [(0,1),(1,1),(2,1),(3,1),(4,1),(5,1),(6,1),(7,1)] [(0,(.int .i64 25)),(6,(.int .i64 0))]).bind fun cL=>lQ (lR 1 8 [(.int .i64 0),(.int .i64 0),(.int .i64 0),(.int .i64 0),(.int .i64 0),(.int .i64 0),(.int .i64 0),(.bool false)] [(0,cI)] (r_ (mI [0,1] [aA,t73]) aD)) fun cM aL=>lQ (nC 8 64 (r_ (mI [0,1] [aA,t73]) (nL (mI [0,1] [aA,t73]) aD aL)) cH cM) fun cN aY=>ca (K 131 [(lC.lL cN)] (r_ (mI [0,1] [aA,t73]) (nL (mI [0,1] [aA,t73]) (nL (mI [0,1] [aA,t73]) aD aL) aY))) fun cO bL=>ca (K 128 [(lC.lL cJ),(lC.lL cK),(lC.lL cL)] (nL (mI [0,1] [aA,t73]) (nL (mI [0,1] [aA,t73]) (nL (mI [0,1] [aA,t73]) aD aL) aY) bL)) fun cP bM=>lQ (lR 1 10 [(.int .i64 0),(.int .i64 0),(.int .i64 0),(.int .i64 0),(.int .i64 0),(.int .i64 0),(.int .i64 0),(.int .i64 0),(.int .i64 0),(.bool false)] [(0,cP)] bM) fun cQ bN=>lQ (nC 10 80 bN cO cQ) fun cR aZ=>(mD [(.int .i64 0),(.int .i64 0),(.int .i64 0),(.int .i64 0),(.int .i64 0),(.int .i64 0),(.int .i64 0),(.bool false)] [(0,1),(1,1),(2,1),(3,1),(4,1),(5,1),(6,1),(7,1)] [(0,(.int .i64 3)),(1,(.int .i64 1))]).bind fun cS=>ld true 8 aZ aV fun cT=>lQ (lR 2 8 [(.int .i64 0),(.int .i64 0),(.int .i64 0),(.int .i64 0),(.int .i64 0),(.int .i64 0),(.int .i64 0),(.bool false)] [(0,cS),(1,cT)] aZ) fun cU bO=>ca (K 131 [(lC.lL cU)] bO) fun cV bP=>lQ (nC 10 80 bP cR cV) fun cW aB=>ld true 1 aB aA fun aM=>(mD [(.int .i64 0),(.int .i64 0),(.int .i64 0),(.int .i64 0),(.int .i64 0),(.int .i64 0),(.int .i64 0),(.bool false)] [(0,1),(1,1),(2,1),(3,1),(4,1),(5,1),(6,1),(7,1)] [(0,(.int .i64 25)),(6,(.int .i64 1))]).bind fun aN=>ld true 1 aB aA fun aO=>fa 3 aG fun aE=>ld false 1 aB aE fun aP=>ld true 8 aB aF fun aQ=>ca (K 128 [(lC.lL aM),(lC.lL (.int .i64 (-1))),(lC.lL aN)] (r_ (mI [0,1,2] [aA,aE,aF]) aB)) fun aR aH=>ca (K 128 [(lC.lL aO),(lC.lL aP),(lC.lL aQ)] (nL (mI [0,1,2] [aA,aE,aF]) aB aH)) fun aS aI=>lQ (lR 2 10 [(.int .i64 0),(.int .i64 0),(.int .i64 0),(.int .i64 0),(.int .i64 0),(.int .i64 0),(.int .i64 0),(.int .i64 0),(.int .i64 0),(.bool false)] [(0,aR),(1,aS)] aI) fun aT aJ=>lQ (nC 10 80 aJ cW aT) fun aU aK=>some (.ret,[aU],aK)))) (.slice (Rw mT.cells []) (.own (aa8 aW))) (aW++[.front 0 0])).bind (VR (aa8 h0))
theorem ZR (K:lN) (a0 a1 a2:lC) (h0:lD):qG Tryz.prog mY mX K 124 [a0,a1,a2] h0=agU (mH mY K) a0 a1 a2 h0:=by kernel_rfl
noncomputable def t124 (p0:AO) (p1:Int) (p2:Term):Option ((List mT)) :=
 tc (decide (p2.kind=1)) (tb ((t128 p0 p2.yes (⟨24,0,0,0,0,0,0,false⟩:Ins))) fun aH=>some [aH]) (tc (decide (p2.kind=3)) (tb ((t128 p0 p0.lay.n (⟨24,0,0,0,0,0,0,false⟩:Ins))) fun aI=>some [aI]) (tb ((t130 p2.a)) fun aJ=>tb ((t129 aJ 0 0)) fun aK=>tb ((t60 1 4294967295)) fun aL=>tb ((p7 64 aK aL)) fun aE=>tb ((p7 64 aE [(⟨23,0,0,1,0,0,0,false⟩:Ins)])) fun aF=>tb ((t131 aF)) fun aM=>tb ((t128 p0 p2.yes (⟨25,0,0,0,0,0,0,false⟩:Ins))) fun aN=>tb ((p7 80 aM [aN])) fun aG=>tb ((t131 [(⟨3,1,0,0,0,0,0,false⟩:Ins),(⟨23,0,0,1,0,0,0,false⟩:Ins)])) fun aO=>tb ((p7 80 aG aO)) fun aA=>tb ((t128 p0 (-1) (⟨25,0,0,0,0,0,1,false⟩:Ins))) fun aC=>tb ((t128 p0 p2.no (⟨24,0,0,0,0,0,0,false⟩:Ins))) fun aD=>tb ((p7 80 aA [aC,aD])) fun aB=>some aB))
set_option maxHeartbeats 4000000 in
theorem atB (p0:AO) (p1:Int) (p2:Term):agU KK (.agg [(.int .i64 p0.lay.n)]) (.int .i64 p1) (.agg [(.int .i64 p2.kind),(.int .i64 p2.a),(.int .i64 p2.yes),(.int .i64 p2.no)]) []=tm (t124 p0 p1 p2) fun r=>(.ret (.slice (Rw mT.cells r) .no),[]):=by
 simp +contextual -implicitDefEqProofs (maxSteps:=2000000) [-lM,-lF,-lE,-lG,-lK,-lI,-lH,agU,t124,apL,YU,YV,ai6,aaO,Ei,YW,apM,YX,YY,YZ,VR]
theorem apJ (p0:AO) (p1:Int) (p2:Term) (h:lD):KK 124 [(.agg [(.int .i64 p0.lay.n)]),(.int .i64 p1),(.agg [(.int .i64 p2.kind),(.int .i64 p2.a),(.int .i64 p2.yes),(.int .i64 p2.no)])] h=tm (t124 p0 p1 p2) fun r=>(.ret (.slice (Rw mT.cells r) .no),h):=nZ rfl rfl (ZR ..) (atB p0 p1 p2)
end
section
open Go Hk
theorem Xy (p:Int):∃c,t135 p=some c∧(c=537133056∨c=537395200∨c=0):=by
 unfold t135;by_cases h1:p=0 <;> by_cases h2:p=1 <;> simp [h1,h2]
theorem akU (o:Op) (s:oE) (rail:Int) (ho:0≤s.off∧s.off≤65535):∃L,t147 o s rail=some L∧xS 7 L:=by
 obtain⟨c,hc,hv⟩:=Xy rail
 obtain⟨b,hb,hbv⟩:∃b,D6 (decide (s.elem=4))=some b∧(0≤b∧b<32):=by
  unfold D6;by_cases h:s.elem=4 <;> simp [h]
 obtain⟨r,hr,hrv⟩:∃r,D7 s c=some r∧(r=536936448∨r=537133056∨r=537395200∨r=0):=by
  unfold D7;cases s.inp <;> simp <;> omega
 obtain⟨n,hn,hnv⟩:∃n,Rk .i64 r 16=some n∧(0≤n∧n≤65535):=by
  rcases hrv with rfl | rfl | rfl | rfl <;> exact⟨_,rfl,by decide⟩
 obtain⟨x,hx,hxv⟩:∃x,t142 5 4 0 b=some x∧wA x:=by
  by_cases hi:b=0
  ·subst hi;exact⟨_,by simp [t142,yG];rfl,fun _=>rfl⟩
  ·exact⟨_,by simp [t142,yG,hi],(ad4 hbv.1 hbv.2).2⟩
 obtain⟨y,hy,z,hz,hzv⟩:∃y,D8 (decide (o.kind=19))=some y∧∃z,D9 (decide (s.elem=1)) y=some z∧wA z:=by
  by_cases h1:o.kind=19 <;> by_cases h2:s.elem=1 <;> simp [D8,D9,h1,h2] <;> exact fun _=>rfl
 refine⟨[x,⟨3,5,0,0,0,s.off,0,false⟩,⟨14,6,4,5,0,0,0,false⟩,⟨3,5,0,0,0,0,0,false⟩,⟨4,5,0,0,0,n,0,false⟩,⟨18,5,6,0,16,0,0,false⟩,z],?_,
  .cons hxv (.cons (Su (by omega) (by omega) ho) (.cons (fun _=>rfl) (.cons (fun _=>rfl) (.cons (Xl (by omega) (by omega) hnv) (.cons (fun _=>rfl) (.cons hzv .nil))))))⟩
 unfold t147
 simp only [hc,mR,hb,hr,hn,hx,t146,hy,hz]
 rw [oL (by omega) (by simp) (by simp)]
 rfl
theorem Xz {k:Int}(h:3≤k∧k≤5∨7≤k∧k≤9):∃c,t148 k=some c∧wA ⟨c,3,0,1,0,0,0,false⟩:=by
 rcases (show k=3∨k=4∨k=5∨k=7∨k=8∨k=9 by omega) with rfl | rfl | rfl | rfl | rfl | rfl <;> exact⟨_,rfl,fun _=>rfl⟩
noncomputable def adF:List Ins:=[⟨11,4,1,0,0,0,0,false⟩,⟨9,5,0,0,0,0,0,false⟩,⟨12,6,5,1,0,0,0,false⟩,⟨15,5,0,1,0,0,0,false⟩,⟨10,2,6,5,0,0,0,false⟩,⟨12,6,4,2,0,0,0,false⟩,⟨7,3,0,6,0,31,0,false⟩]
noncomputable def ad6:List Ins:=[⟨13,4,0,1,0,0,0,false⟩,⟨3,5,0,0,0,0,0,false⟩,⟨15,6,5,4,0,0,0,false⟩,⟨12,2,4,6,0,0,0,false⟩,⟨6,4,0,2,0,31,0,false⟩,⟨3,5,0,0,0,1,0,false⟩,⟨15,3,4,5,0,0,0,false⟩]
noncomputable def RP:List Ins:=[⟨10,4,0,1,0,0,0,false⟩,⟨14,5,0,1,0,0,0,false⟩,⟨12,6,0,1,0,0,0,false⟩,⟨11,2,6,5,0,0,0,false⟩,⟨12,6,4,2,0,0,0,false⟩,⟨6,3,0,6,0,31,0,false⟩]
noncomputable def Sw:List Ins:=[⟨10,4,0,2,0,0,0,false⟩,⟨11,5,1,2,0,0,0,false⟩,⟨12,3,4,5,0,0,0,false⟩]
theorem akR {o : Op} {s : oE} (rail : Int) (h : Yp o s) : ∃ L, t138 o s rail = some L ∧ xS 7 L := by
  have one : ∀ {x : Ins}, wA x → xS 7 [x] := fun hx => (xS.cons hx (.nil (n := 0))).mono (by omega)
  unfold t138
  by_cases k1 : o.kind = 1
  · exact ⟨_, by simp [k1, SA]; rfl, (sQ (by omega) (by omega)).mono (by omega)⟩
  by_cases k2 : o.kind = 2
  · exact ⟨_, by simp [k2, t142, yG]; rfl, one fun _ => rfl⟩
  by_cases k3 : o.kind = 6
  · exact ⟨_, by simp [k3]; rfl, one fun _ => rfl⟩
  by_cases k4 : o.kind = 10
  · exact ⟨_, by simp [k4]; rfl, one fun _ => rfl⟩
  by_cases k5 : o.kind = 11
  · obtain ⟨x, hx, sx⟩ := Q0 (p := 5) (by omega) (h.sh (by omega)).1 (h.sh (by omega)).2
    exact ⟨_, by simp [k5, hx], one sx⟩
  by_cases k6 : o.kind = 12
  · obtain ⟨x, hx, sx⟩ := Q0 (p := 6) (by omega) (h.sh (by omega)).1 (h.sh (by omega)).2
    exact ⟨_, by simp [k6, hx], one sx⟩
  by_cases k7 : o.kind = 13
  · obtain ⟨x, hx, sx⟩ := Q0 (p := 8) (by omega) (h.sh (by omega)).1 (h.sh (by omega)).2
    exact ⟨_, by simp [k7, hx], one sx⟩
  by_cases k8 : o.kind = 14
  · exact ⟨adF, by simp [k8, show t143 = some adF from rfl], lits (by rfl)⟩
  by_cases k9 : o.kind = 15
  · exact ⟨ad6, by simp [k9, show t144 = some ad6 from rfl], lits (by rfl)⟩
  by_cases k10 : o.kind = 16
  · exact ⟨RP, by simp [k10, show t145 = some RP from rfl], (lits (l := RP) (by rfl)).mono (by simp [RP])⟩
  by_cases k11 : o.kind = 17
  · exact ⟨Sw, by simp [k11, t146, Sw], (lits (l := Sw) (by rfl)).mono (by simp [Sw])⟩
  by_cases k12 : o.kind = 18 ∨ o.kind = 19
  · obtain ⟨L, hL, fL⟩ := akU o s rail (h.sp k12)
    refine ⟨L, ?_, fL⟩
    rcases k12 with k | k <;> simp [k, D1, hL]
  · have hd := h.dst (by omega)
    obtain ⟨c, hc, sc⟩ := Xz (k := o.kind) (by
      unfold nK at hd
      split at hd; · omega
      split at hd; · omega
      split at hd; · omega
      split at hd; · omega
      split at hd; · omega
      split at hd <;> cases hd)
    have e4 : ¬ o.kind = 18 := by omega
    have e5 : ¬ o.kind = 19 := by omega
    exact ⟨_, by simp [k1, k2, k3, k4, k5, k6, k7, k8, k9, k10, k11, e4, e5, D1, hc, t146], one sc⟩
end
section
open Go Hk
theorem Ub {rail:Int}{l:List Int}(hl:l.length≤3):∀(d i:Nat) (A:List Ins),l.length=i+d→xS (3*i) A→∃L j,tY (Aw rail l (l.length:Int)) (A,(i:Int))=some (.x 0,(L,j))∧xS 9 L:=by
 intro d
 induction d with
 | zero =>
  intro i A hi hA
  refine⟨A,_,p5 (s':=(A,(i:Int))) ?_ (by simp),hA.mono (by omega)⟩
  have:¬(i:Int)<(l.length:Int):=by omega
  simp [Aw,this]
 | succ d ih =>
  intro i A hi hA
  have hil:i<l.length:=by omega
  obtain⟨b,hb⟩:=E8 l[i]
  obtain⟨G,hG,fG⟩:=Xx b rail (r:=(i:Int)) (by omega) (by omega)
  have e1:oV l (i:Int)=some l[i]:=by rw [o_,ac6 hil]
  have hii:(i:Int)<(l.length:Int):=by omega
  obtain⟨L,j,h1,h2⟩:=ih (i+1) (A++G) (by omega) ((hA.app fG).mono (by omega))
  refine⟨L,j,?_,h2⟩
  rw [←h1]
  refine q_ ?_
  have e2:p7 64 A G=some (A++G):=oL (by omega) (by have:=hA.1;omega) (by have:=fG.1;omega)
  simp [Aw,hii,e1,hb,hG,e2,rZ (show i≤4000000 by omega)]
theorem Ox {x y:List Ins}(hx:x.length≤1000) (hy:y.length≤1000):t137 [x,y]=some (x++y):=by
 have w1:IntKind.i64.wrap 1=1:=rfl
 have w2:IntKind.i64.wrap 2=2:=rfl
 have e:tY (yF [x,y] ((aa8 [x,y]:Nat):Int)) ([],0)=some (.x 0,(x++y,2)):=by
  rw [q_ (s':=(x,(1:Int))),q_ (s':=(x++y,(2:Int))),p5 (s':=(x++y,(2:Int))) (e:=.x 0)]
  ·simp [yF]
  ·simp
  ·simp [yF,oV,oL (show 64≤100 by omega) (show x.length≤4000000 by omega) (show y.length≤4000000 by omega),w2]
  ·simp [yF,oV,oL (xs:=([]:List Ins)) (show 64≤100 by omega) (by simp) (show x.length≤4000000 by omega),w1]
 unfold t137
 rw [e]
 rfl
theorem akP (o:Op) (s:oE) (rail:Int):∃L e,t132 o s rail=some (L,e)∧xS 19 L:=by
 obtain⟨b,hb,hm⟩:=akQ o s rail
 cases b
 ·exact⟨[],2,by simp [t132,hb],.nil⟩
 have hm:=hm rfl
 obtain⟨U,j,hU,fU⟩:=Ub (rail:=rail) (l:=oO o) (Km o) (oO o).length 0 [] (by omega) .nil
 have e0:((0:Nat):Int)=0:=rfl
 rw [e0] at hU
 obtain⟨N,hN,fN⟩:=akR rail hm
 have hj:=Ox (x:=U) (y:=N) (by have:=fU.1;omega) (by have:=fN.1;omega)
 obtain⟨d,hd⟩:=E8 o.dst
 obtain⟨P,hP,fP⟩:=akS d rail (r:=3) (by omega) (by omega)
 have hk:=Ox (x:=U++N) (y:=P) (by have:=(fU.app fN).1;omega) (by have:=fP.1;omega)
 cases hf:(nK o.kind).dst
 ·exact⟨U++N,0,by simp [t132,hb,t36,Jq,hU,xD,xF,hN,hj,t73,IF,hf,DU],(fU.app fN).mono (by omega)⟩
 ·exact⟨U++N++P,0,by simp [t132,hb,t36,Jq,hU,xD,xF,hN,hj,t73,IF,hf,DU,hd,hP,hk],(fU.app fN).app fP⟩
theorem QZ {l:List Ins}(hl:l.length≤2000000):t131 l=some (qY l):=by
 have key:∀(d i:Nat),l.length=i+d→tY (Av l (l.length:Int)) (qY (l.take i),(i:Int))=some (.x 0,(qY l,(l.length:Int))):=by
  intro d
  induction d with
  | zero =>
   intro i hi
   obtain rfl:i=l.length:=by omega
   rw [List.take_length]
   refine p5 ?_ (by simp)
   simp [Av]
  | succ d ih =>
   intro i hi
   rw [←ih (i+1) (by omega)]
   refine q_ ?_
   have hil:i<l.length:=by omega
   have e1:oV l (i:Int)=some l[i]:=by rw [o_,ac6 hil]
   have e2:p7 80 (qY (l.take i)) [⟨0,0,l[i]⟩]=some (qY (l.take (i+1))):=by
    rw [oL (by omega) (by simp [qY];omega) (by simp),List.take_succ_eq_append_getElem hil]
    simp only [qY,List.map_append,aq7,List.map_nil]
   have hii:(i:Int)<(l.length:Int):=by omega
   simp [Av,hii,e1,e2,rZ (show i≤4000000 by omega)]
 have:=key l.length 0 (by omega)
 have e0:((0:Nat):Int)=0:=rfl
 have e1:qY (l.take 0)=[]:=rfl
 rw [e0,e1] at this
 simp [t131,this,xD,xF]
theorem akO (p:AO) (o:Op) (s:oE):∃L,t127 p o s=some (qY L)∧xS 19 L:=by
 obtain⟨L,e,h,f⟩:=akP o s 0
 exact⟨L,by simp [t127,h,QZ (show L.length≤2000000 by have:=f.1;omega)],f⟩
noncomputable def Ux (n k:Int):Int:=if k=-1 then IntKind.wrap .i64 (n+1) else k
theorem QY (p:AO) (k:Int) (i:Ins):t128 p k i=some ⟨2,Ux p.lay.n k,i⟩:=by
 unfold t128 t133 Ux
 by_cases h:k=-1 <;> simp [h,t14]
noncomputable def KU (n:Int) (t:Term) (G:List Ins):List mT :=
 if t.kind=1 then [Ns (Ux n t.yes)] else if t.kind=3 then [Ns (Ux n n)] else
 qY (G++q9 1 4294967295++[⟨23,0,0,1,0,0,0,false⟩])++[IK 0 (Ux n t.yes)]++qY [⟨3,1,0,0,0,0,0,false⟩,⟨23,0,0,1,0,0,0,false⟩]++[IK 1 (Ux n (-1)),Ns (Ux n t.no)]
theorem akN (p:AO) (k:Int) (t:Term):∃G,t124 p k t=some (KU p.lay.n t G)∧xS 3 G:=by
 obtain⟨d,hd⟩:=E8 t.a
 obtain⟨G,hG,fG⟩:=Xx d 0 (r:=0) (by omega) (by omega)
 refine⟨G,?_,fG⟩
 have hl:=fG.1
 unfold t124 KU
 by_cases k1:t.kind=1
 ·simp [k1,QY,Ns]
 by_cases k3:t.kind=3
 ·simp [k3,QY,Ns]
 have a1:p7 64 G (q9 1 4294967295)=some (G++q9 1 4294967295):=oL (by omega) (by omega) (by simp [q9])
 have a2:p7 64 (G++q9 1 4294967295) [(⟨23,0,0,1,0,0,0,false⟩:Ins)]=some (G++q9 1 4294967295++[⟨23,0,0,1,0,0,0,false⟩]):=oL (by omega) (by simp [q9];omega) (by simp)
 have a3:=QZ (l:=G++q9 1 4294967295++[⟨23,0,0,1,0,0,0,false⟩]) (by simp [q9];omega)
 have a4:=QZ (l:=[⟨3,1,0,0,0,0,0,false⟩,⟨23,0,0,1,0,0,0,false⟩]) (by simp)
 have a5:∀(x y:List mT),x.length≤2000000→y.length≤2000000→p7 80 x y=some (x++y):=fun x y hx hy=>oL (by omega) (by omega) (by omega)
 simp only [k1,k3,decide_false,pS,if_false,hd,hG,mR,SA (show(0:Int)≤1 by omega) (show(1:Int)≤7 by omega),a1,a2,a3,a4,QY]
 rw [a5 _ _ (by simp [qY,q9];omega) (by simp)]
 simp only [mR]
 rw [a5 _ _ (by simp [qY,q9];omega) (by simp [qY])]
 simp only [mR]
 rw [a5 _ _ (by simp [qY,q9];omega) (by simp)]
 simp [IK,Ns]
end
noncomputable section
open Go Hk
noncomputable def m10 (K:lN) (a0:lC) (h0:lD):Option (nB×lD) :=
 (lQ (nA 5 h0 a0) fun t0 h1=>lQ (nA 5 h1 (.agg [(.int .i64 0),(.slice [] .nil),(.slice [] .nil),(.int .i64 0),(.int .i64 0)])) fun t2 h3=>lQ (nA 3 h3 (.agg [(.int .i64 0),(.slice [] .nil),(.int .i64 0)])) fun t4 h5=>(lP true 5 h5 t0).bind fun t6=>lY (K 21 [(lC.lL t6)] h5) (fun t7 h8=>(nI 0 t7).bind fun t9=>(nI 1 t7).bind fun aV=>(nI 2 t7).bind fun aH=>(lZ .neq aH (.int .i64 0)).bind fun t12=>lS t12 ((mD [(.int .i64 0),(.slice [] .nil),(.slice [] .nil),(.int .i64 0),(.int .i64 0)] [(0,1),(1,1),(2,1),(3,1),(4,1)] []).bind fun t13=>(mD [(.int .i64 0),(.slice [] .nil),(.int .i64 0)] [(0,1),(1,1),(2,1)] []).bind fun t14=>(lW 5 h8 t2 t13).bind fun aJ=>(lW 3 aJ t4 t14).bind fun aK=>some (.ret,[t2,t4,aH],aK)) ((lP true 5 h8 t0).bind fun aQ=>lY (K 22 [(lC.lL aQ),(lC.lL t9)] h8) (fun aI aL=>(nI 0 aI).bind fun aR=>(nI 1 aI).bind fun aW=>(lW 5 aL t0 aR).bind fun aG=>(lP true 5 aG t0).bind fun t23=>lY (K 23 [(lC.lL t23)] aG) (fun t24 aM=>(nI 0 t24).bind fun t26=>(nI 1 t24).bind fun aS=>lQ (nA 3 aM (.agg [(.int .i64 0),(.slice [] .nil),(.int .i64 0)])) fun t28 aN=>(lW 3 aN t28 t26).bind fun aE=>(lP true 5 aE t0).bind fun t31=>(lP true 3 aE t28).bind fun t32=>(lW 5 (r_ (mI [0] [t28]) aE) t2 t31).bind fun aO=>(lW 3 (nL (mI [0] [t28]) aE aO) t4 t32).bind fun aP=>some (.ret,[t2,t4,aS],aP)) (fun _ _=>none)) (fun _ _=>none))) (fun _ _=>none)).bind fun aA=>(fun aB aC aD aF=>Ex.nR aA.1 ((lP true 5 aF aB).bind fun aT=>(lP true 3 aF aC).bind fun aU=>nJ (aa8 h0) (.tuple [aT,aU,aD]) aF)) (aa7 aA.2.1 0 .junk) (aa7 aA.2.1 1 .junk) (aa7 aA.2.1 2 .junk) aA.2.2
theorem agS (K:lN) (a0:lC) (h0:lD):qG Tryz.prog mY mX K 10 [a0] h0=m10 (mH mY K) a0 h0:=by kernel_rfl
noncomputable def Lg (K:lN) (m:Nat) (s:List lC×lD):Option R :=
 (fun aD aN aL aM aO aE aF aG aH aI aJ aK aB aC aA aS=>(lZ .lss aA aC).bind fun aX=>lS aX ((lU 6 aB aA).bind fun aY=>(lP true 6 aS aY).bind fun aZ=>lQ (nA 6 aS (.agg [(.int .i64 0),(.int .i64 0),(.int .i64 0),(.int .i64 0),(.int .i64 0),(.int .i64 0)])) fun aQ aT=>(lW 6 aT aQ aZ).bind fun aP=>(lP true 6 aP aQ).bind fun a_=>(lO 1 aL).bind fun bB=>(lP false 1 aP bB).bind fun bC=>(lP true 3 aP aM).bind fun bD=>(lP true 6 aP aQ).bind fun bE=>(match aD with | .iface t66 w67=>(Dk Tryz.prog (.meth "hauberk/emit.op" t66)).bind fun bJ=>lY (K 24 [(lC.lL bC),(lC.lL bD),(lC.lL bE)] (r_ (mI [0] [aQ]) aP)) (fun bF aU=>(wE Tryz.prog "hauberk/emit.op" aD).bind fun aR=>lY (qQ mY K aR.1 (oT mY aR.1 (aR.2::[a_,bF])) (nL (mI [0] [aQ]) aP aU)) (fun bG aV=>lQ (nC 10 80 aV aF bG) fun bH aW=>(lZ .add aA (.int .i64 1)).bind fun bI=>lX m .normal [aD,aN,aL,aM,aO,aE,bH,aG,aH,aI,aJ,aK,aB,aC,bI] aW) (fun _ _=>none)) (fun _ _=>none) | _=>none)) (lX m (.exit 2) [aD,aN,aL,aM,aO,aE,aF,aG,aH,aI,aJ,aK,aB,aC,aA] aS)) (aa7 s.1 0 .junk) (aa7 s.1 1 .junk) (aa7 s.1 2 .junk) (aa7 s.1 3 .junk) (aa7 s.1 4 .junk) (aa7 s.1 5 .junk) (aa7 s.1 6 .junk) (aa7 s.1 7 .junk) (aa7 s.1 8 .junk) (aa7 s.1 9 .junk) (aa7 s.1 10 .junk) (aa7 s.1 11 .junk) (aa7 s.1 12 .junk) (aa7 s.1 13 .junk) (aa7 s.1 14 .junk) s.2
noncomputable def Lh (K:lN) (m:Nat) (s:List lC×lD):Option R :=
 (fun aS aY a_ bC bE aK aM aD aE aA bK=>(lZ .lss aA aE).bind fun cB=>lS cB (((lU 5 aD aA).bind fun t26=>(lP true 5 bK t26).bind fun cC=>lQ (nA 5 bK (.agg [(.slice [] .nil),(.int .i64 0),(.int .i64 0),(.int .i64 0),(.int .i64 0)])) fun t28 bY=>(lW 5 bY t28 cC).bind fun bZ=>(wE Tryz.prog "hauberk/emit.enter" aS).bind fun bM=>lY (qQ mY K bM.1 (oT mY bM.1 (bM.2::[aA])) bZ) (fun t31 b_=>lQ (nC 10 80 b_ aM t31) fun cD bO=>(lO 0 t28).bind fun t36=>(lP false 1 bO t36).bind fun bV=>(mP bV).bind fun cE=>(mX (Lg K (aa8 bO)) ([aS,aY,a_,bC,bE,aK,cD,aA,t28,aD,aE,aA,bV,cE,(.int .i64 0)],bO)).bind fun aC=>(fun aT aZ bB bD bF aL aN bH bI aO aP aQ bS bT bU bP=>Ex.mO aC.1 none (fun bW=>Ex.inBlock 2 bW ((lO 1 bI).bind fun cF=>(lP true 4 bP cF).bind fun cG=>(wE Tryz.prog "hauberk/emit.end" aT).bind fun bG=>lY (qQ mY K bG.1 (oT mY bG.1 (bG.2::[bH,cG])) bP) (fun cH cA=>lQ (nC 10 80 cA aN cH) fun bQ bN=>lX (aa8 bK) .normal [aT,aZ,bB,bD,bF,aL,bQ,aO,aP,aQ] bN) (fun _ _=>none)) (fun bX=>lX (aa8 bK) bX [aT,aZ,bB,bD,bF,aL,aN,aO,aP,aQ] bP))) (aa7 aC.2.1 0 .junk) (aa7 aC.2.1 1 .junk) (aa7 aC.2.1 2 .junk) (aa7 aC.2.1 3 .junk) (aa7 aC.2.1 4 .junk) (aa7 aC.2.1 5 .junk) (aa7 aC.2.1 6 .junk) (aa7 aC.2.1 7 .junk) (aa7 aC.2.1 8 .junk) (aa7 aC.2.1 9 .junk) (aa7 aC.2.1 10 .junk) (aa7 aC.2.1 11 .junk) (aa7 aC.2.1 12 .junk) (aa7 aC.2.1 13 .junk) (aa7 aC.2.1 14 .junk) aC.2.2) (fun _ _=>none)).bind fun aB=>(fun aR aU aV aW aX aF aG aH aI aJ bJ=>Ex.inBlock 1 aB.1 ((lZ .add aJ (.int .i64 1)).bind fun bR=>lX m .normal [aR,aU,aV,aW,aX,aF,aG,aH,aI,bR] bJ) (fun bL=>lX m bL [aR,aU,aV,aW,aX,aF,aG,aH,aI,aJ] bJ)) (aa7 aB.2.1 0 .junk) (aa7 aB.2.1 1 .junk) (aa7 aB.2.1 2 .junk) (aa7 aB.2.1 3 .junk) (aa7 aB.2.1 4 .junk) (aa7 aB.2.1 5 .junk) (aa7 aB.2.1 6 .junk) (aa7 aB.2.1 7 .junk) (aa7 aB.2.1 8 .junk) (aa7 aB.2.1 9 .junk) aB.2.2) (lX m (.exit 0) [aS,aY,a_,bC,bE,aK,aM,aD,aE,aA] bK)) (aa7 s.1 0 .junk) (aa7 s.1 1 .junk) (aa7 s.1 2 .junk) (aa7 s.1 3 .junk) (aa7 s.1 4 .junk) (aa7 s.1 5 .junk) (aa7 s.1 6 .junk) (aa7 s.1 7 .junk) (aa7 s.1 8 .junk) (aa7 s.1 9 .junk) s.2
noncomputable def m11 (K:lN) (a0 a1 a2 a3 a4:lC) (h0:lD):Option (nB×lD) :=
 (lQ (nA 5 h0 a0) fun t0 h1=>lQ (nA 3 h1 a1) fun t2 h3=>lQ (nA 1 h3 a3) fun t4 h5=>(fun(t7:lC) (h6:lD)=>(wE Tryz.prog "hauberk/emit.first" a2).bind fun aV=>lY (qQ mY K aV.1 (oT mY aV.1 (aV.2::[])) h6) (fun t8 h9=>(lO 2 t0).bind fun bO=>(lP false 1 h9 bO).bind fun t12=>(mP t12).bind fun t13=>(mX (Lh K (aa8 h9)) ([a2,a4,t0,t2,t4,t7,t8,t12,t13,(.int .i64 0)],h9)).bind fun aB=>(fun aN aE aF aG aA aH aJ aQ aR aS aL=>Ex.mO aB.1 none (fun aT=>Ex.inBlock 0 aT ((lO 0 aA).bind fun t131=>(lP false 1 aL t131).bind fun t132=>(wE Tryz.prog "hauberk/emit.enter" aN).bind fun aK=>lY (qQ mY K aK.1 (oT mY aK.1 (aK.2::[t132])) aL) (fun t133 aW=>lQ (nC 10 80 aW aJ t133) fun t136 aC=>(lO 0 aG).bind fun t138=>(lP false 1 aC t138).bind fun t139=>(lO 4 aF).bind fun t140=>(lP false 1 aC t140).bind fun t141=>(lP true 1 aC aA).bind fun t142=>(lP true 1 aC aA).bind fun t143=>lY (K 14 [(lC.lL t142)] (r_ (mI [0,1,2] [t138,t140,aA]) aC)) (fun t144 aO=>lY (K 26 [(lC.lL t143)] (r_ (mI [0,1] [t138,t140]) (nL (mI [0,1,2] [t138,t140,aA]) aC aO))) (fun t146 aX=>lY (K 25 [(lC.lL t139),(lC.lL t141),(lC.lL aE),(lC.lL t144),(lC.lL t146)] (nL (mI [0,1] [t138,t140]) (nL (mI [0,1,2] [t138,t140,aA]) aC aO) aX)) (fun t148 aY=>lQ (nC 10 80 aY t136 t148) fun bE aD=>(lP true 5 aD aF).bind fun bF=>(lP true 3 aD aG).bind fun bG=>(lP true 1 aD aA).bind fun bH=>(lP true 1 aD aA).bind fun bI=>lY (K 13 [(lC.lL bF),(lC.lL bG)] (r_ (mI [0,1] [aA,aA]) aD)) (fun bJ aP=>lY (K 14 [(lC.lL bH)] (r_ (mI [0] [aA]) (nL (mI [0,1] [aA,aA]) aD aP))) (fun bK aZ=>lY (K 28 [(lC.lL bI)] (nL (mI [0] [aA]) (nL (mI [0,1] [aA,aA]) aD aP) aZ)) (fun bL a_=>lY (K 27 [(lC.lL bJ),(lC.lL aE),(lC.lL bK),(lC.lL bL)] a_) (fun bM bB=>lQ (nC 10 80 bB bE bM) fun bN bC=>some (.ret,[bN],bC)) (fun _ _=>none)) (fun _ _=>none)) (fun _ _=>none)) (fun _ _=>none)) (fun _ _=>none)) (fun _ _=>none)) (fun _ _=>none)) (fun _ _=>none)) (fun aU=>some (aU,[aH],aL)))) (aa7 aB.2.1 0 .junk) (aa7 aB.2.1 1 .junk) (aa7 aB.2.1 2 .junk) (aa7 aB.2.1 3 .junk) (aa7 aB.2.1 4 .junk) (aa7 aB.2.1 5 .junk) (aa7 aB.2.1 6 .junk) (aa7 aB.2.1 7 .junk) (aa7 aB.2.1 8 .junk) (aa7 aB.2.1 9 .junk) aB.2.2) (fun _ _=>none)) (.slice [] (.own (aa8 h5))) (h5++[.front 0 0])).bind fun aM=>(fun aI bD=>Ex.nR aM.1 (nJ (aa8 h0) aI bD)) (aa7 aM.2.1 0 .junk) aM.2.2
theorem agT (K:lN) (a0 a1 a2 a3 a4:lC) (h0:lD):qG Tryz.prog mY mX K 11 [a0,a1,a2,a3,a4] h0=m11 (mH mY K) a0 a1 a2 a3 a4 h0:=by kernel_rfl
noncomputable def m7 (K:lN) (a0 a1:lC) (h0:lD):Option (nB×lD) :=
 (lQ (nA 5 h0 a0) fun t0 h1=>(fun(t3:lC) (h2:lD)=>lQ (nA 3 h2 (.agg [(.int .i64 0),(.int .i64 0),(.int .i64 0)])) fun t4 h5=>(lZ .lss a1 (.int .i64 0)).bind fun t6=>(lJ false t6 (lV a1 h5) (lV (.tuple []) h5)).bind (l9 (fun t7 h8=>(lJ false t6 ((lZ .gtr t7 (.int .i64 2)).bind fun t9=>lV t9 h8) (lV (.tuple []) h8)).bind (l9 (fun bZ aY=>(mJ t6 (.bool true) bZ).bind fun t12=>lS t12 ((mD [(.int .i64 0),(.int .i64 0),(.int .i64 0)] [(0,1),(1,1),(2,1)] []).bind fun t13=>(fun(t15:lC) (bK:lD)=>(lW 3 bK t4 t13).bind fun bL=>some (.ret,[t15,t4,(.int .i64 0),(.int .i64 2)],bL)) (.slice [] (.own (aa8 aY))) (aY++[.front 0 0])) ((lP true 5 aY t0).bind fun b_=>lY (K 9 [(lC.lL b_)] aY) (fun bF aZ=>(lZ .neq bF (.int .i64 0)).bind fun cA=>lS cA ((mD [(.int .i64 0),(.int .i64 0),(.int .i64 0)] [(0,1),(1,1),(2,1)] []).bind fun cB=>(fun(t23:lC) (bM:lD)=>(lW 3 bM t4 cB).bind fun bN=>some (.ret,[t23,t4,(.int .i64 0),bF],bN)) (.slice [] (.own (aa8 aZ))) (aZ++[.front 0 0])) ((lP true 5 aZ t0).bind fun cC=>lY (K 10 [(lC.lL cC)] aZ) (fun t26 bO=>(nI 0 t26).bind fun t28=>(nI 1 t26).bind fun t29=>(nI 2 t26).bind fun t30=>lQ (nA 5 bO (.agg [(.int .i64 0),(.slice [] .nil),(.slice [] .nil),(.int .i64 0),(.int .i64 0)])) fun t31 bP=>lQ (nA 3 bP (.agg [(.int .i64 0),(.slice [] .nil),(.int .i64 0)])) fun bD bQ=>(lW 5 bQ t31 t28).bind fun bR=>(lW 3 bR bD t29).bind fun a_=>(lZ .neq t30 (.int .i64 0)).bind fun cD=>lS cD ((mD [(.int .i64 0),(.int .i64 0),(.int .i64 0)] [(0,1),(1,1),(2,1)] []).bind fun cE=>(fun(cF:lC) (bS:lD)=>(lW 3 bS t4 cE).bind fun bT=>some (.ret,[cF,t4,(.int .i64 0),t30],bT)) (.slice [] (.own (aa8 a_))) (a_++[.front 0 0])) ((lO 2 t31).bind fun cG=>(lP false 1 a_ cG).bind fun cH=>(mP cH).bind fun cI=>(mD [(.int .i64 0)] [(0,1)] [(0,cI)]).bind fun cJ=>lQ (nA 1 a_ (.agg [(.int .i64 0)])) fun aS bU=>(lW 1 bU aS cJ).bind fun aP=>(lP true 1 aP aS).bind fun cK=>(mD [(.int .i64 0)] [(0,1)] [(0,cK)]).bind fun cL=>(lZ .eql a1 (.int .i64 2)).bind fun cM=>(lS cM ((lP true 1 aP aS).bind fun cN=>(mD [(.int .i64 0)] [(0,1)] [(0,cN)]).bind fun t53=>lX (aa8 aP) .normal [a1,t3,t4,(.int .i64 0),(.int .i64 0),t31,bD,aS,(.iface 57 t53)] aP) (lX (aa8 aP) .normal [a1,t3,t4,(.int .i64 0),(.int .i64 0),t31,bD,aS,(.iface 54 cL)] aP)).bind fun aD=>(fun aG aH aI aK aL aE aA aB aN bB=>Ex.qZ aD.1 ((lP true 5 bB aE).bind fun cO=>(lP true 3 bB aA).bind fun cP=>(lP true 1 bB aB).bind fun cQ=>(lZ .eql aG (.int .i64 2)).bind fun cR=>lY (K 11 [(lC.lL cO),(lC.lL cP),(lC.lL aN),(lC.lL cQ),(lC.lL cR)] bB) (fun bG bC=>(lZ .eql aG (.int .i64 1)).bind fun cS=>(lS cS (lY (K 12 [(lC.lL bG)] bC) (fun cT bV=>lX (aa8 bC) .normal [aH,aI,aK,aL,aE,aA,aB,cT] bV) (fun _ _=>none)) (lX (aa8 bC) .normal [aH,aI,aK,aL,aE,aA,aB,bG] bC)).bind fun aF=>(fun bH aJ bI bJ aX aM aC aO aR=>Ex.qZ aF.1 ((lP true 5 aR aX).bind fun cU=>(lP true 3 aR aM).bind fun cV=>(lP true 1 aR aC).bind fun cW=>lY (K 13 [(lC.lL cU),(lC.lL cV)] (r_ (mI [0] [aC]) aR)) (fun cX bW=>lY (K 14 [(lC.lL cW)] (nL (mI [0] [aC]) aR bW)) (fun cY bX=>(lW 3 bX aJ cX).bind fun bY=>some (.ret,[aO,aJ,cY,(.int .i64 0)],bY)) (fun _ _=>none)) (fun _ _=>none))) (aa7 aF.2.1 0 .junk) (aa7 aF.2.1 1 .junk) (aa7 aF.2.1 2 .junk) (aa7 aF.2.1 3 .junk) (aa7 aF.2.1 4 .junk) (aa7 aF.2.1 5 .junk) (aa7 aF.2.1 6 .junk) (aa7 aF.2.1 7 .junk) aF.2.2) (fun _ _=>none))) (aa7 aD.2.1 0 .junk) (aa7 aD.2.1 1 .junk) (aa7 aD.2.1 2 .junk) (aa7 aD.2.1 3 .junk) (aa7 aD.2.1 4 .junk) (aa7 aD.2.1 5 .junk) (aa7 aD.2.1 6 .junk) (aa7 aD.2.1 7 .junk) (aa7 aD.2.1 8 .junk) aD.2.2)) (fun _ _=>none))) (fun _ _=>none))) (fun _ _=>none))) (fun _ _=>none))) (.slice [] (.own (aa8 h1))) (h1++[.front 0 0])).bind fun aQ=>(fun aT aU aV aW bE=>Ex.nR aQ.1 ((lP true 3 bE aU).bind fun cZ=>nJ (aa8 h0) (.tuple [aT,cZ,aV,aW]) bE)) (aa7 aQ.2.1 0 .junk) (aa7 aQ.2.1 1 .junk) (aa7 aQ.2.1 2 .junk) (aa7 aQ.2.1 3 .junk) aQ.2.2
theorem Sb (K:lN) (a0 a1:lC) (h0:lD):qG Tryz.prog mY mX K 7 [a0,a1] h0=m7 (mH mY K) a0 a1 h0:=by kernel_rfl
end
noncomputable section
open Go Hk
structure Wrt (tw:Nat) (n:Int) (fiL:List mT) (enL:Int→List mT) (opL:Op→oE→Option (List mT)) (enD:Int→Term→Option (List mT)) where
 ff:Nat
 fe:Nat
 fo:Nat
 fd:Nat
 hf:yU Tryz.prog tw "hauberk/emit.first" = some ff
 he:yU Tryz.prog tw "hauberk/emit.enter" = some fe
 ho:yU Tryz.prog tw "hauberk/emit.op" = some fo
 hd:yU Tryz.prog tw "hauberk/emit.end" = some fd
 kf:∀h,qQ mY KK ff (oT mY ff [.agg [.int .i64 n]]) h=some (.ret (.slice (Rw mT.cells fiL) (.own h.length)),h++[oK 10 fiL.length])
 ke:∀k h,qQ mY KK fe (oT mY fe [.agg [.int .i64 n],.int .i64 k]) h=some (.ret (.slice (Rw mT.cells (enL k)) .no),h)
 ko:∀(o:Op) (s:oE) h,qQ mY KK fo (oT mY fo [.agg [.int .i64 n],.agg [.int .i64 o.kind,.int .i64 o.dst,.int .i64 o.a,.int .i64 o.b,.int .i64 o.c,.int .i64 o.imm],.agg [.int .i64 s.elem,.int .i64 s.off,.bool s.inp]]) h=tm (opL o s) fun r=>(.ret (.slice (Rw mT.cells r) .no),h)
 kd:∀(k:Int) (t:Term) h,qQ mY KK fd (oT mY fd [.agg [.int .i64 n],.int .i64 k,.agg [.int .i64 t.kind,.int .i64 t.a,.int .i64 t.yes,.int .i64 t.no]]) h=tm (enD k t) fun r=>(.ret (.slice (Rw mT.cells r) .no),h)
section
variable {tw:Nat}{n:Int}{fiL:List mT}{enL:Int→List mT}{opL:Op→oE→Option (List mT)}{enD:Int→Term→Option (List mT)}(w:Wrt tw n fiL enL opL enD)
theorem DQ {m:Nat}{h:lD}:lC.pV m h (.iface tw (.agg [.int .i64 n]))=.iface tw (.agg [.int .i64 n]):=rfl
theorem Pa {name:String}{v:lC}:wE Tryz.prog name (.iface tw v)=(yU Tryz.prog tw name).map fun f=>(f,v):=rfl
theorem YE {name:String}:Dk Tryz.prog (.meth name tw)=(yU Tryz.prog tw name).map fun _=>.meth name tw:=rfl
noncomputable def w0 (q:IR) (f:u5) (b:mF) (opL:Op→oE→Option (List mT)) (s:List mT×Int):Option (Ey×(List mT×Int)) :=
 tc (decide (s.2<(b.ops.length:Int))) (tb (oV b.ops s.2) fun o=>tb (t24 q.arrays f o) fun p=>tb (opL o p) fun x=>tb (p7 80 s.1 x) fun l=>some (.n,(l,IntKind.wrap .i64 (s.2+1)))) (some (.x 2,s))
noncomputable def qA (q:IR):mC:=.cells [.int .i64 q.temps,.slice (Rw mV.cells q.arrays) .no,.slice (Rw mF.cells q.blocks) .no,.int .i64 q.inn,.int .i64 q.out]
noncomputable def fA (f:u5):mC:=.cells [.int .i64 f.image,.slice (Rw (ci .i64) f.arrays) .no,.int .i64 f.size]
noncomputable def bA (b:mF):mC:=.cells [.slice (Rw Op.cells b.ops) .no,.int .i64 b.term.kind,.int .i64 b.term.a,.int .i64 b.term.yes,.int .i64 b.term.no]
include w
set_option maxHeartbeats 4000000 in
theorem awZ (q:IR) (f:u5) (tb_:Bool) (ln:Int) (k:Int) (b:mF) (nb:Int) (s:List mT×Int) :
  Lg KK 7 ([.iface tw (.agg [.int .i64 n]),.bool tb_,.ptr 0 0,.ptr 1 0,.ptr 2 0,.slice [] (.own 3),.slice (Rw mT.cells s.1) (.own 4),.int .i64 k,.ptr 5 0,.slice (Rw mF.cells q.blocks) .no,.int .i64 nb,.int .i64 k,.slice (Rw Op.cells b.ops) .no,.int .i64 (b.ops.length:Int),.int .i64 s.2],
   [qA q,fA f,.cells [.int .i64 ln],.front 0 0,oK 10 s.1.length,bA b,.front 0 0]) =
  tm (w0 q f b opL s) fun r=>(r.1.ex,[.iface tw (.agg [.int .i64 n]),.bool tb_,.ptr 0 0,.ptr 1 0,.ptr 2 0,.slice [] (.own 3),.slice (Rw mT.cells r.2.1) (.own 4),.int .i64 k,.ptr 5 0,.slice (Rw mF.cells q.blocks) .no,.int .i64 nb,.int .i64 k,.slice (Rw Op.cells b.ops) .no,.int .i64 (b.ops.length:Int),.int .i64 r.2.2],
   [qA q,fA f,.cells [.int .i64 ln],.front 0 0,oK 10 r.2.1.length,bA b,.front 0 0]):=by
 have ko:=w.ko
 simp +contextual -implicitDefEqProofs (maxSteps:=2000000) [-lM,-lF,-lE,-lG,-lK,-lI,-lH,Lg,w0,qA,fA,bA,Pa,YE,w.ho,ko,Ap,DQ]
noncomputable def wS (n:Int) (tw:Nat) (q:IR) (f:u5) (tb_:Bool) (ln:Int) (s:List mT×Int):List lC×lD :=
 ([.iface tw (.agg [.int .i64 n]),.bool tb_,.ptr 0 0,.ptr 1 0,.ptr 2 0,.slice [] (.own 3),.slice (Rw mT.cells s.1) (.own 4),.slice (Rw mF.cells q.blocks) .no,.int .i64 (q.blocks.length:Int),.int .i64 s.2],
  [qA q,fA f,.cells [.int .i64 ln],.front 0 0,oK 10 s.1.length])
noncomputable def w1 (q:IR) (f:u5) (enL:Int→List mT) (opL:Op→oE→Option (List mT)) (enD:Int→Term→Option (List mT)) (s:List mT×Int):Option (Ey×(List mT×Int)) :=
 tc (decide (s.2<(q.blocks.length:Int))) (tb (oV q.blocks s.2) fun b=>tb (p7 80 s.1 (enL s.2)) fun l=>tb (tY (w0 q f b opL) (l,0)) fun r=>xD r.1 none fun e =>
  xF 2 e (tb (enD s.2 b.term) fun x=>tb (p7 80 r.2.1 x) fun y=>some (.n,(y,IntKind.wrap .i64 (s.2+1)))) fun e=>xF 1 e (some (.n,(r.2.1,IntKind.wrap .i64 (s.2+1)))) fun e=>some (e,(r.2.1,s.2))) (some (.x 0,s))
theorem aw0 (q:IR) (f:u5) (tb_:Bool) (ln:Int) (k:Int) (b:mF) (nb:Int) (l:List mT) (j:Int) :
  mX (Lg KK 7) ([.iface tw (.agg [.int .i64 n]),.bool tb_,.ptr 0 0,.ptr 1 0,.ptr 2 0,.slice [] (.own 3),.slice (Rw mT.cells l) (.own 4),.int .i64 k,.ptr 5 0,.slice (Rw mF.cells q.blocks) .no,.int .i64 nb,.int .i64 k,.slice (Rw Op.cells b.ops) .no,.int .i64 (b.ops.length:Int),.int .i64 j],
   [qA q,fA f,.cells [.int .i64 ln],.front 0 0,oK 10 l.length,bA b,.front 0 0]) =
  tm (tY (w0 q f b opL) (l,j)) fun r=>(r.1.ex,[.iface tw (.agg [.int .i64 n]),.bool tb_,.ptr 0 0,.ptr 1 0,.ptr 2 0,.slice [] (.own 3),.slice (Rw mT.cells r.2.1) (.own 4),.int .i64 k,.ptr 5 0,.slice (Rw mF.cells q.blocks) .no,.int .i64 nb,.int .i64 k,.slice (Rw Op.cells b.ops) .no,.int .i64 (b.ops.length:Int),.int .i64 r.2.2],
   [qA q,fA f,.cells [.int .i64 ln],.front 0 0,oK 10 r.2.1.length,bA b,.front 0 0]) :=
 uP (enc:=fun s:List mT×Int=>([.iface tw (.agg [.int .i64 n]),.bool tb_,.ptr 0 0,.ptr 1 0,.ptr 2 0,.slice [] (.own 3),.slice (Rw mT.cells s.1) (.own 4),.int .i64 k,.ptr 5 0,.slice (Rw mF.cells q.blocks) .no,.int .i64 nb,.int .i64 k,.slice (Rw Op.cells b.ops) .no,.int .i64 (b.ops.length:Int),.int .i64 s.2],
   [qA q,fA f,.cells [.int .i64 ln],.front 0 0,oK 10 s.1.length,bA b,.front 0 0])) (fun s=>awZ w q f tb_ ln k b nb s) (l,j)
set_option maxHeartbeats 4000000 in
theorem aw2 (q:IR) (f:u5) (tb_:Bool) (ln:Int) (s:List mT×Int):Lh KK 5 (wS n tw q f tb_ ln s)=tm (w1 q f enL opL enD s) fun r=>(r.1.ex,wS n tw q f tb_ ln r.2):=by
 have ke:=w.ke
 have kd:=w.kd
 have kl:=aw0 w q f tb_ ln
 simp only [qA,fA,bA] at kl
 simp +contextual -implicitDefEqProofs (maxSteps:=2000000) [-lM,-lF,-lE,-lG,-lK,-lI,-lH,Lh,w1,wS,qA,fA,Pa,w.he,w.hd,ke,kd,kl,DQ]
theorem aw3 (q:IR) (f:u5) (tb_:Bool) (ln:Int) (l:List mT) (i:Int) :
  mX (Lh KK 5) (wS n tw q f tb_ ln (l,i))=tm (tY (w1 q f enL opL enD) (l,i)) fun r=>(r.1.ex,wS n tw q f tb_ ln r.2) :=
 uP (enc:=fun s=>wS n tw q f tb_ ln s) (fun s=>aw2 w q f tb_ ln s) (l,i)
noncomputable def wT (q:IR) (f:u5) (fiL:List mT) (enL:Int→List mT) (opL:Op→oE→Option (List mT)) (enD:Int→Term→Option (List mT)) (tb_:Bool) (ln:Int):Option (List mT) :=
 tb (tY (w1 q f enL opL enD) (fiL,0)) fun r=>xD r.1 none fun e=>xF 0 e
  (tb (p7 80 r.2.1 (enL ln)) fun a=>tb (t14 ⟨ln⟩) fun h=>tb (t26 ⟨ln⟩) fun g=>tb (p7 80 a (NG f.image q.out tb_ h g)) fun b =>
   tb (t13 q f) fun z=>tb (t14 ⟨ln⟩) fun h=>tb (t28 ⟨ln⟩) fun v=>tb (p7 80 b (NH z tb_ h v)) fun c=>some c) fun e=>JC e (some [])
set_option maxHeartbeats 4000000 in
theorem c11 (q:IR) (f:u5) (tb_:Bool) (ln:Int) (hp:lD) :
  KK 11 [.agg [.int .i64 q.temps,.slice (Rw mV.cells q.arrays) .no,.slice (Rw mF.cells q.blocks) .no,.int .i64 q.inn,.int .i64 q.out],.agg [.int .i64 f.image,.slice (Rw (ci .i64) f.arrays) .no,.int .i64 f.size],
   .iface tw (.agg [.int .i64 n]),.agg [.int .i64 ln],.bool tb_] hp=tm (wT q f fiL enL opL enD tb_ ln) fun r=>(.ret (.slice (Rw mT.cells r) .no),hp):=by
 refine nZ rfl rfl (agT ..) ?_
 have kf:=w.kf
 have ke:=w.ke
 have kl:=aw3 w q f tb_ ln
 simp only [wS,qA,fA] at kl
 simp +contextual -implicitDefEqProofs (maxSteps:=2000000) [-lM,-lF,-lE,-lG,-lK,-lI,-lH,m11,wT,Pa,w.hf,w.he,kf,ke,kl,DQ,ai7,avZ,av0,TY,c25,c27,show Rw mT.cells []=[] from rfl]
end
end
section
open Go Hk
noncomputable def OkP (P:Int→Prop) (x:mT):Prop:=(x.kind=0→wA x.ins)∧(x.kind=2→P x.label)
noncomputable def agM (X:List mT):List Int:=X.filterMap fun x=>if x.kind=1 then some x.label else none
structure Good (P:Int→Prop) (m:Nat) (ls:List Int) (X:List mT):Prop where
 len:X.length≤m
 ok:∀x∈X,OkP P x
 lb:agM X=ls
section
variable {P:Int→Prop}{m k:Nat}{ls ms:List Int}{X Y:List mT}
theorem Good.nil:Good P 0 [] []:=⟨ai1 _,fun _ h=>(by cases h),rfl⟩
theorem Good.app (h:Good P m ls X) (g:Good P k ms Y):Good P (m+k) (ls++ms) (X++Y) :=
 ⟨by rw [List.length_append];exact Nat.add_le_add h.len g.len,fun x hx=>(List.mem_append.1 hx).elim (h.ok x) (g.ok x),by unfold agM;rw [List.filterMap_append];exact congr (congrArg _ h.lb) g.lb⟩
theorem Good.mono (h:Good P m ls X) (hm:m≤k):Good P k ls X:=⟨Nat.le_trans h.len hm,h.ok,h.lb⟩
theorem Good.cons {x:mT}{l:List Int}(hx:Good P 1 l [x]) (h:Good P m ls X):Good P (1+m) (l++ls) (x::X):=hx.app h
theorem Good.ins {L:List Ins}(h:xS m L):Good P m [] (qY L):=by
 refine⟨by simp [qY,h.1],fun x hx=>?_,?_⟩
 ·obtain⟨i,hi,rfl⟩:=List.mem_map.1 hx
  exact⟨fun _=>h.2 i hi,fun h=>by cases h⟩
 ·unfold agM qY
  rw [List.filterMap_map,List.filterMap_eq_nil_iff]
  intro i _;rfl
theorem Good.lab {n:Int}:Good P 1 [n] [CM n]:=⟨ai1 _,fun x hx=>by rw [List.mem_singleton.1 hx];exact⟨fun h=>(by cases h),fun h=>(by cases h)⟩,rfl⟩
theorem Good.bra {n:Int}(h:P n):Good P 1 [] [Ns n]:=⟨ai1 _,fun x hx=>by rw [List.mem_singleton.1 hx];exact⟨fun h=>(by cases h),fun _=>h⟩,rfl⟩
theorem Good.when {c n:Int}(h:P n):Good P 1 [] [IK c n]:=⟨ai1 _,fun x hx=>by rw [List.mem_singleton.1 hx];exact⟨fun h=>(by cases h),fun _=>h⟩,rfl⟩
end
section
variable {P:Int→Prop}
structure aeG (P:Int→Prop) (n:Int) (t:Term):Prop where
 jump:t.kind=1→P (Ux n t.yes)
 halt:t.kind=3→P (Ux n n)
 bran:t.kind≠1→t.kind≠3→P (Ux n t.yes)∧P (Ux n (-1))∧P (Ux n t.no)
theorem aoF:xS 1 [⟨23,0,0,1,0,0,0,false⟩]:=lits (by rfl)
theorem VB {n:Int}{t:Term}{G:List Ins}(h:aeG P n t) (hG:xS 3 G):Good P 20 [] (KU n t G):=by
 unfold KU
 split
 ·rename_i k;exact(Good.bra (h.jump k)).mono (by omega)
 ·split
  ·rename_i k;exact(Good.bra (h.halt k)).mono (by omega)
  ·rename_i k1 k3
   obtain⟨a,b,c⟩:=h.bran k1 k3
   exact(((((Good.ins ((hG.app (sQ (by omega) (by omega))).app aoF)).app (Good.when a)).app (Good.ins (lits (l:=[⟨3,1,0,0,0,0,0,false⟩,⟨23,0,0,1,0,0,0,false⟩]) (by rfl)))).app ((Good.when b).cons (Good.bra c))).mono (by simp))
theorem De {r b f:Int}(h:(t8 ⟨18,r,f,0,16,0,0,false⟩=some true)) (h0:0≤r) (h1:r≤7):xS 3 (Fj r b f) :=
 .cons (Su h0 (by omega) (by omega)) (.cons (Xl h0 (by omega) (XG b)) (.cons (fun _=>h) .nil))
theorem JI {out first:Int}{body:List mT}{m:Nat}(h1:P first) (h2:P (inc first)) (hb:Good P m [] body):Good P (m+12) [first,inc first] (HD out first body):=by
 unfold HD
 have a:=Good.ins (P:=P) (lits (l:=[⟨3,1,0,0,0,0,0,false⟩]) (by rfl))
 have b:=Good.ins (P:=P) ((sQ (r:=2) (n:=out) (by omega) (by omega)).app (lits (l:=[⟨23,0,1,2,0,0,0,false⟩]) (by rfl)))
 have c:=Good.ins (P:=P) (lits (l:=stepG) (by rfl))
 have g:=(((a.app ((Good.lab (n:=first)).cons b)).app ((Good.when (c:=2) h2).cons hb)).app c).app ((Good.bra h1).cons (Good.lab (n:=inc first)))
 exact⟨Nat.le_trans g.len (by simp [stepG];omega),g.ok,g.lb.trans (by simp)⟩
theorem Hv {image out h first:Int}(h1:P first) (h2:P (inc first)):Good P 40 [first,inc first] (NG image out false h first):=by
 have a:xS 10 (Mb image false++[⟨19,0,5,0,0,0,0,false⟩,⟨20,0,6,0,0,0,0,false⟩]):=by
  have x:xS 2 ([⟨3,3,0,0,0,Tx image,0,false⟩,⟨14,4,1,3,0,0,0,false⟩]:List Ins):=.cons (Su (by omega) (by omega) (VO image)) (.cons (fun _=>rfl) .nil)
  exact((((x.app (De (r:=5) (b:=0x20040000) (f:=4) rfl (by omega) (by omega))).app (xS.nil (n:=0))).app (De (r:=6) (b:=0x20020000) (f:=1) rfl (by omega) (by omega))).app (lits (l:=[⟨19,0,5,0,0,0,0,false⟩,⟨20,0,6,0,0,0,0,false⟩]) (by rfl))).mono (by simp)
 have b:xS 6 (q9 5 0x20100000++q9 0 0xc0de600d++[⟨20,0,5,0,0,0,0,false⟩,⟨2,0,0,0,0,0,0,false⟩]++[]) :=
  ((((sQ (by omega) (by omega)).app (sQ (by omega) (by omega))).app (xS.cons (i:=⟨20,0,5,0,0,0,0,false⟩) (fun _=>rfl) (xS.cons (i:=⟨2,0,0,0,0,0,0,false⟩) (fun h=>absurd rfl h) (xS.nil (n:=0))))).app (xS.nil (n:=0))).mono (by omega)
 have g:=((JI h1 h2 (Good.ins a) (out:=out)).app Good.nil).app (Good.ins b)
 exact⟨Nat.le_trans g.len (by omega),g.ok,g.lb.trans (by simp)⟩
theorem JJ {h:Int}(hh:P h):Good P 4 [] (SM h) :=
 ((Good.ins (lits (l:=[⟨19,0,5,0,0,0,0,false⟩,⟨3,2,0,0,0,0,0,false⟩,⟨23,0,0,2,0,0,0,false⟩]) (by rfl))).app (Good.when hh))
noncomputable def X_ (first k:Int):Int:=IntKind.wrap .i64 (first+k)
noncomputable def Dz (first k:Int):Int:=IntKind.wrap .i64 (X_ first 6+k)
noncomputable def qB (h first:Int):List Int:=[h,X_ first 0,inc (X_ first 0),X_ first 2,inc (X_ first 2),X_ first 4,inc (X_ first 4),Dz first 0,inc (Dz first 0),Dz first 2,inc (Dz first 2),Dz first 4,inc (Dz first 4)]
theorem Hw {s:Sz}{h first:Int}(hp:∀x∈qB h first,P x):Good P 160 (qB h first) (NH s false h first):=by
 have w:∀b,(t8 ⟨18,5,1,0,16,0,0,false⟩=some true)→xS 5 ([⟨3,0,0,0,0,0,0,false⟩]++Fj 5 b 1++[⟨20,0,5,0,0,0,0,false⟩]):=fun b hb =>
  (((lits (l:=[⟨3,0,0,0,0,0,0,false⟩]) (by rfl)).app (De hb (by omega) (by omega))).app (lits (l:=[⟨20,0,5,0,0,0,0,false⟩]) (by rfl)))
 have lk:∀b,Good P 7 [] (qY (Fj 5 b 1)++SM h):=fun b=>(Good.ins (De rfl (by omega) (by omega))).app (JJ (hp h (by simp [qB])))
 have st:xS 4 ([⟨3,0,0,0,0,0,0,false⟩]++q9 5 0x20100000++[⟨20,0,5,0,0,0,0,false⟩]) :=
  ((lits (l:=[⟨3,0,0,0,0,0,0,false⟩]) (by rfl)).app (sQ (by omega) (by omega))).app (lits (l:=[⟨20,0,5,0,0,0,0,false⟩]) (by rfl))
 have en:xS 6 (q9 5 0x20200000++q9 0 0x0bad0bad++[⟨20,0,5,0,0,0,0,false⟩,⟨2,0,0,0,0,0,0,false⟩]++[]) :=
  ((((sQ (by omega) (by omega)).app (sQ (by omega) (by omega))).app (xS.cons (i:=⟨20,0,5,0,0,0,0,false⟩) (fun _=>rfl) (xS.cons (i:=⟨2,0,0,0,0,0,0,false⟩) (fun h=>absurd rfl h) (xS.nil (n:=0))))).app (xS.nil (n:=0))).mono (by omega)
 have lp:∀(n x:Int) (b:List mT) (m:Nat),x∈qB h first→inc x∈qB h first→Good P m [] b→Good P (m+12) [x,inc x] (HD n x b):=fun n x b m h1 h2 hb=>JI (hp _ h1) (hp _ h2) hb
 have g:=((((((((((Good.lab (n:=h)).cons (Good.ins st)).app
  (lp s.outt (X_ first 0) _ _ (by simp [qB]) (by simp [qB]) (Good.ins (w 0x20020000 rfl)))).app
  (lp s.rail (X_ first 2) _ _ (by simp [qB]) (by simp [qB]) (Good.ins (w 0x20040000 rfl)))).app
  (lp s.rail (X_ first 4) _ _ (by simp [qB]) (by simp [qB]) (Good.ins (w 0x20080000 rfl)))).app
  (lp s.outt (Dz first 0) _ _ (by simp [qB]) (by simp [qB]) (lk 0x20020000))).app
  (lp s.rail (Dz first 2) _ _ (by simp [qB]) (by simp [qB]) (lk 0x20040000))).app
  (lp s.rail (Dz first 4) _ _ (by simp [qB]) (by simp [qB]) (lk 0x20080000))).app
  (Good.ins (sQ (r:=5) (n:=0x20100000) (by omega) (by omega)))).app (JJ (hp h (by simp [qB])))).app (Good.ins en)
 exact⟨Nat.le_trans g.len (by omega),g.ok,g.lb⟩
end
end
end Go.Proofs.YtgllbnabmglcfaaGreatDoor
