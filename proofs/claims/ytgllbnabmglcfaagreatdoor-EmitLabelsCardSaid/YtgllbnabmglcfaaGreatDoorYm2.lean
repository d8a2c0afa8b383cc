/-
  The texts YM.T1, YM.P1, YM.S2, YM.S3, YM.TD, YM.S4, YM.S5, YM.ME, YM.W1, YM.S6, one behind another. No conditions.
-/
import Derived.Test.YtgllbnabmglcfaaGreatDoorYm1
set_option linter.unusedVariables false
set_option linter.unusedSimpArgs false
set_option linter.all false
open Int renaming natCast_add → ax3
open List renaming drop_eq_getElem_cons → ar7, getD → ac5, getElem?_eq_getElem → ag8, length → aa5, length_append → au9, map_cons → as6, mem_append → au0
open Nat renaming le_refl → ak5, le_trans → ax9
namespace Go.Proofs.YtgllbnabmglcfaaGreatDoor
noncomputable section
open Go Hk
noncomputable def aiM (mm:Nat) (aA:R):Option (nT×lT) :=
 (fun aB=>Ex.oA aA.1 (nZ mm (.tuple []) aB))  aA.2.2
theorem ap4 (y0:Int) (y1:Int) (h:lT) (id tot j:Nat) (xs:List Span):Tg 2 id h (some (Vc Span.cells 2 xs)) tot (j*2) (.agg [(.int .i64 y0),(.int .i64 y1)])=tb (vC tot xs j) fun x=>tm (DG tot xs j (⟨y0,y1⟩:Span)) fun zs=>h.set id (Vc Span.cells 2 zs):=ZQ (enc:=Span.cells) (⟨y0,y1⟩:Span) (fun _=>rfl) (by decide) rfl rfl
noncomputable def Sg (K:mA) (aH:lS) (aA:lS) (aB:lS) (t32:lS) (aF:lT) (aD:lS) (aE:lS) (aC:lS):Option R :=
 mH aH ((mV [(.int .i64 0),(.int .i64 0)] [(0,1),(1,1)] [(0,aA),(1,aA)]).bind fun aI=>ix 2 aB t32 fun aJ=>(mL 2 aF aJ aI).bind fun aG=>mK (aa5 aF) .normal [aB,aA,t32,aD,aE,aC] aG) (mK (aa5 aF) .normal [aB,aA,t32,aD,aE,aC] aF)
noncomputable def A7 (w41:Bool) (o1:Int) (o0:Nat) (u31:Int) (w42:(List Span)):Option ((List Span)) :=
 tc w41 (tb ((DF o0 u31)) fun j45=>tb ((vC o0 w42 j45)) fun u47=>tb ((DG o0 w42 j45 (⟨o1,o1⟩:Span))) fun l48=>some l48) (some w42)
theorem af1 (w41:Bool) (o1:Int) (o0:Nat) (u31:Int) (w42:(List Span)) (o2:(List Int)) (w21:Int) (w39:Int):(Sg KK (.bool w41) (.int .i64 o1) (.vslice 0 o0 0 o0 2) (.int .i64 u31) ([Vc Span.cells 2 w42]:lT) (.slice (Rw (ci .i64) o2) .no) (.int .i64 w21) (.int .i64 w39))=tm (A7 w41 o1 o0 u31 w42) fun r=>(.normal,[(.vslice 0 o0 0 o0 2),(.int .i64 o1),(.int .i64 u31),(.slice (Rw (ci .i64) o2) .no),(.int .i64 w21),(.int .i64 w39)],([Vc Span.cells 2 r]:lT)):=by
 simp [-l9,-lV,-lU,-lW,-lZ,-lY,-lX,Sg,A7,ap4]
theorem ap5 (y0:Int) (h:lT) (id tot j:Nat) (xs:List Span):Tg 1 id h (some (Vc Span.cells 2 xs)) tot (j*2) (.int .i64 y0)=tb (vC tot xs j) fun x=>tm (DG tot xs j (⟨y0,x.last⟩:Span)) fun zs=>h.set id (Vc Span.cells 2 zs):=Th (enc:=Span.cells) (sz:=2) (m:=1) (v:=(.int .i64 y0)) (off:=0) (fun(x:Span)=>(⟨y0,x.last⟩:Span)) (fun _=>rfl) rfl (by decide) (by decide) rfl (fun _=>rfl)
theorem ap6 (y0:Int) (h:lT) (id tot j:Nat) (xs:List Span):Tg 1 id h (some (Vc Span.cells 2 xs)) tot (j*2+1) (.int .i64 y0)=tb (vC tot xs j) fun x=>tm (DG tot xs j (⟨x.first,y0⟩:Span)) fun zs=>h.set id (Vc Span.cells 2 zs):=Th (enc:=Span.cells) (sz:=2) (m:=1) (v:=(.int .i64 y0)) (off:=1) (fun(x:Span)=>(⟨x.first,y0⟩:Span)) (fun _=>rfl) rfl (by decide) (by decide) rfl (fun _=>rfl)
noncomputable def Nk (K:mA) (m:Nat) (s:List lS×lT):Option R :=
 (fun aD aI aF aG aA aM=>bo .lss aA aG fun t29=>mH t29 (ix 1 aF aA fun t30=>ld false 1 aM t30 fun t32=>ix 2 aD t32 fun aQ=>fa 0 aQ fun aR=>ld false 1 aM aR fun t36=>bo .lss t36 (.int .i64 0) fun aS=>(Sg K aS aI aD t32 aM aF aG aA).bind fun aH=>(fun aB aE aC aK aL aJ aN=>Ex.rQ aH.1 (ix 2 aB aC fun aT=>fa 0 aT fun aU=>ld false 1 aN aU fun t60=>(CS t60 aE).bind fun aV=>ix 2 aB aC fun aW=>fa 1 aW fun aX=>ld false 1 aN aX fun aY=>(DR aY aE).bind fun aZ=>ix 2 aB aC fun a_=>fa 0 a_ fun bB=>(mL 1 aN bB aV).bind fun aO=>ix 2 aB aC fun bC=>fa 1 bC fun bD=>(mL 1 aO bD aZ).bind fun aP=>bo .add aJ (.int .i64 1) fun bE=>mK m .normal [aB,aE,aK,aL,bE] aP)) (gd aH.2.1 0) (gd aH.2.1 1) (gd aH.2.1 2) (gd aH.2.1 3) (gd aH.2.1 4) (gd aH.2.1 5) aH.2.2) (mK m (.exit 0) [aD,aI,aF,aG,aA] aM)) (gd s.1 0) (gd s.1 1) (gd s.1 2) (gd s.1 3) (gd s.1 4) s.2
noncomputable def zA (o0:Nat) (o1:Int) (o2:(List Int)) (w21:Int) (s22:Int×(List Span)):Option (Ey×Int×(List Span)) :=
 tc (decide (s22.1<w21)) (tb ((o8 o2 s22.1)) fun u31=>tb ((DF o0 u31)) fun j34=>tb ((vC o0 s22.2 j34)) fun u37=>tb (A7 (decide (u37.first<0)) o1 o0 u31 s22.2) fun r49=>tb ((DF o0 u31)) fun j58=>tb ((vC o0 r49 j58)) fun u61=>tb ((DF o0 u31)) fun j64=>tb ((vC o0 r49 j64)) fun u67=>tb ((DF o0 u31)) fun j70=>tb ((vC o0 r49 j70)) fun u73=>tb ((DG o0 r49 j70 (⟨(min u61.first o1),u73.last⟩:Span))) fun l74=>tb ((DF o0 u31)) fun j76=>tb ((vC o0 l74 j76)) fun u79=>tb ((DG o0 l74 j76 (⟨u79.first,(max u67.last o1)⟩:Span))) fun l80=>some (.n,((IntKind.wrap .i64 (s22.1+1)),l80))) (some ((.x 0),(s22.1,s22.2)))
theorem acK (o0:Nat) (o1:Int) (o2:(List Int)) (w21:Int) (s22:Int×(List Span)):Nk KK 1 ([(.vslice 0 o0 0 o0 2),(.int .i64 o1),(.slice (Rw (ci .i64) o2) .no),(.int .i64 w21),(.int .i64 s22.1)],([Vc Span.cells 2 s22.2]:lT))=tm (zA o0 o1 o2 w21 s22) fun r=>(r.1.ex,[(.vslice 0 o0 0 o0 2),(.int .i64 o1),(.slice (Rw (ci .i64) o2) .no),(.int .i64 w21),(.int .i64 r.2.1)],([Vc Span.cells 2 r.2.2]:lT)):=by
 simp [-l9,-lV,-lU,-lW,-lZ,-lY,-lX,Nk,zA,af1,ap5,ap6]
theorem af2 (o0:Nat) (o1:Int) (o2:(List Int)) (w21:Int) (i4:Int) (i5:(List Span)):nL (Nk KK 1) ([(.vslice 0 o0 0 o0 2),(.int .i64 o1),(.slice (Rw (ci .i64) o2) .no),(.int .i64 w21),(.int .i64 i4)],([Vc Span.cells 2 i5]:lT))=tm (sG (zA o0 o1 o2 w21) (i4,i5)) fun r=>(r.1.ex,[(.vslice 0 o0 0 o0 2),(.int .i64 o1),(.slice (Rw (ci .i64) o2) .no),(.int .i64 w21),(.int .i64 r.2.1)],([Vc Span.cells 2 r.2.2]:lT)):=by
 exact s7 (enc:=fun s22=>([(.vslice 0 o0 0 o0 2),(.int .i64 o1),(.slice (Rw (ci .i64) o2) .no),(.int .i64 w21),(.int .i64 s22.1)],([Vc Span.cells 2 s22.2]:lT))) (fun s22=>acK o0 o1 o2 w21 s22) (i4,i5)
noncomputable def m72 (K:mA) (a0 a1 a2:lS) (h0:lT):Option (nT×lT) :=
 (ln a2 fun aJ=>(nL (Nk K (aa5 h0)) ([a0,a1,a2,aJ,(.int .i64 0)],h0)).bind fun aA=>(fun aD aE aF aG aB aC=>Ex.nC aA.1 none (fun aH=>Ex.inBlock 0 aH (some (.normal,[],aC)) (fun aI=>some (aI,[],aC)))) (gd aA.2.1 0) (gd aA.2.1 1) (gd aA.2.1 2) (gd aA.2.1 3) (gd aA.2.1 4) aA.2.2).bind (aiM (aa5 h0))
theorem IS (K:mA) (a0 a1 a2:lS) (h0:lT):p9 Tryz.prog nM nL K 72 [a0,a1,a2] h0=m72 (mW nM K) a0 a1 a2 h0:=by kernel_rfl
noncomputable def EU (o0:Nat) (o1:Int) (o2:(List Int)) (o3:(List Span)):Option ((List Span)) :=
 tb (sG (zA o0 o1 o2 ((aa5 o2:Nat):Int)) (0,o3)) fun r82=>uW r82.1 none fun e83=>vA 0 e83 (some r82.2.2) fun e90=>Ga e90 (some r82.2.2)
theorem WX (o0:Nat) (o1:Int) (o2:(List Int)) (o3:(List Span)):m72 KK (.vslice 0 o0 0 o0 2) (.int .i64 o1) (.slice (Rw (ci .i64) o2) .no) ([Vc Span.cells 2 o3]:lT)=tm (EU o0 o1 o2 o3) fun r=>(.ret (.tuple []),([Vc Span.cells 2 r]:lT)):=by
 simp [-l9,-lV,-lU,-lW,-lZ,-lY,-lX,m72,EU,af2,aiM]
noncomputable def KS (mm:Nat) (aB:R):Option (nT×lT) :=
 (fun aA aC=>Ex.oA aB.1 (nZ mm aA aC)) (gd aB.2.1 0) aB.2.2
noncomputable def R_ (K:mA) (a0:lS) (aC:lT) (aE:lS) (aB:lS):Option R :=
 (mO a0).bind fun aF=>fa 2 aF fun aG=>(mL 1 aC aG aE).bind fun aA=>(mO a0).bind fun aH=>fa 1 aH fun aI=>ld false 1 aA aI fun t53=>bo .add aB (.int .i64 1) fun aJ=>(DR t53 aJ).bind fun aK=>(mO a0).bind fun aL=>fa 1 aL fun aM=>(mL 1 aA aM aK).bind fun aD=>some (.ret,[aB],aD)
noncomputable def CE (o1:m_) (w47:Bool) (u24:Int):Option (Int×m_) :=
 some (u24,(⟨o1.slots,(max o1.most (IntKind.wrap .i64 (u24+1))),w47⟩:m_))
theorem Ul (o1:m_) (w38:Bool) (w47:Bool) (u24:Int):((R_ KK (.ptr 0 0) ([.cells [(.slice (Rw (ci .i64) o1.slots) .no),(.int .i64 o1.most),(.bool w38)]]:lT) (.bool w47) (.int .i64 u24))).bind (KS 1)=tm (CE o1 w47 u24) fun r=>(.ret (.int .i64 r.1),([.cells [(.slice (Rw (ci .i64) r.2.slots) .no),(.int .i64 r.2.most),(.bool r.2.bad)]]:lT)):=by
 simp [-l9,-lV,-lU,-lW,-lZ,-lY,-lX,R_,CE,KS]
noncomputable def R9 (K:mA) (aA:lS) (aD:lS) (aB:lT) (a0:lS):Option R :=
 gS false aA (mM aD aB) aB fun aF aC=>gS false aA (bo .geq aF (.int .i64 1048576) fun aG=>mM aG aC) aC fun aH aE=>(nA aA (.bool true) aH).bind fun aI=>R_ K a0 aE aI aD
noncomputable def CD (w37:Bool) (u24:Int) (o1:m_):Option (Int×m_) :=
 tc w37 (CE o1 true u24) (CE o1 (decide (1048576≤u24)) u24)
theorem af0 (w37:Bool) (u24:Int) (o1:m_) (w38:Bool):((R9 KK (.bool w37) (.int .i64 u24) ([.cells [(.slice (Rw (ci .i64) o1.slots) .no),(.int .i64 o1.most),(.bool w38)]]:lT) (.ptr 0 0))).bind (KS 1)=tm (CD w37 u24 o1) fun r=>(.ret (.int .i64 r.1),([.cells [(.slice (Rw (ci .i64) r.2.slots) .no),(.int .i64 r.2.most),(.bool r.2.bad)]]:lT)):=by
 simp +contextual [-l9,-lV,-lU,-lW,-lZ,-lY,-lX,R9,CD,KS,Ul]
noncomputable def m52 (K:mA) (a0 a1:lS) (h0:lT):Option (nT×lT) :=
 ((mO a0).bind fun aD=>fa 0 aD fun aE=>ld false 1 h0 aE fun aF=>ix 1 aF a1 fun t23=>ld false 1 h0 t23 fun aB=>(mO a0).bind fun t26=>fa 2 t26 fun aG=>ld false 1 h0 aG fun t28=>gS false t28 (mM aB h0) h0 fun t29 aA=>gS false t28 (bo .lss t29 (.int .i64 0) fun t31=>mM t31 aA) aA fun t32 aC=>(nA t28 (.bool true) t32).bind fun aH=>R9 K aH aB aC a0).bind (KS (aa5 h0))
theorem IQ (K:mA) (a0 a1:lS) (h0:lT):p9 Tryz.prog nM nL K 52 [a0,a1] h0=m52 (mW nM K) a0 a1 h0:=by kernel_rfl
noncomputable def DA (o0:Int) (o1:m_):Option (Int×m_) :=
 tb ((o8 o1.slots o0)) fun u24=>tc o1.bad (CD true u24 o1) (CD (decide (u24<0)) u24 o1)
theorem WW (o0:Int) (o1:m_):m52 KK (.ptr 0 0) (.int .i64 o0) ([.cells [(.slice (Rw (ci .i64) o1.slots) .no),(.int .i64 o1.most),(.bool o1.bad)]]:lT)=tm (DA o0 o1) fun r=>(.ret (.int .i64 r.1),([.cells [(.slice (Rw (ci .i64) r.2.slots) .no),(.int .i64 r.2.most),(.bool r.2.bad)]]:lT)):=by
 simp +contextual [-l9,-lV,-lU,-lW,-lZ,-lY,-lX,m52,DA,KS,Ul,af0]
noncomputable def aiJ (mm:Nat) (NC:R):Option (nT×lT) :=
 (fun aA aB=>Ex.oA NC.1 (nZ mm aA aB)) (gd NC.2.1 0) NC.2.2
theorem akK (y0:Int) (h:lT):mD 1 1 [(.int .i64 0)] [(0,(.int .i64 y0))] h=some (.slice (Rw (ci .i64) [y0]) (.own h.length),h++[oR 1 (aa5 [y0])]):=by
 rfl
noncomputable def Nf (K:mA) (m:Nat) (s:List lS×lT):Option R :=
 (fun aD aE aB aC aA aF=>bo .lss aA aC fun aI=>mH aI (ix 1 aB aA fun aJ=>ld false 1 aF aJ fun t36=>(CS t36 (.int .i64 1048576)).bind fun aK=>mC (mD 1 1 [(.int .i64 0)] [(0,aK)] aF) fun aL aG=>mC (nD 1 8 aG aE aL) fun aM aH=>bo .add aA (.int .i64 1) fun aN=>mK m .normal [aD,aM,aB,aC,aN] aH) (mK m (.exit 0) [aD,aE,aB,aC,aA] aF)) (gd s.1 0) (gd s.1 1) (gd s.1 2) (gd s.1 3) (gd s.1 4) s.2
noncomputable def A6 (p0:(List Int)) (w25:Int) (s26:(List Int)×Int):Option (Ey×(List Int)×Int) :=
 tc (decide (s26.2<w25)) (tb ((o8 p0 s26.2)) fun u35=>tb ((pD 8 s26.1 [(min u35 1048576)])) fun l42=>some (.n,(l42,(IntKind.wrap .i64 (s26.2+1))))) (some ((.x 0),(s26.1,s26.2)))
theorem acJ (p0:(List Int)) (w25:Int) (s26:(List Int)×Int):Nf KK 2 ([(.slice (Rw (ci .i64) []) (.own 0)),(.slice (Rw (ci .i64) s26.1) (.own 1)),(.slice (Rw (ci .i64) p0) .no),(.int .i64 w25),(.int .i64 s26.2)],([.front 0 0,oR 1 (aa5 s26.1)]:lT))=tm (A6 p0 w25 s26) fun r=>(r.1.ex,[(.slice (Rw (ci .i64) []) (.own 0)),(.slice (Rw (ci .i64) r.2.1) (.own 1)),(.slice (Rw (ci .i64) p0) .no),(.int .i64 w25),(.int .i64 r.2.2)],([.front 0 0,oR 1 (aa5 r.2.1)]:lT)):=by
 simp [-l9,-lV,-lU,-lW,-lZ,-lY,-lX,Nf,A6,akK]
theorem afV (p0:(List Int)) (w25:Int) (i4:Int):nL (Nf KK 2) ([(.slice (Rw (ci .i64) []) (.own 0)),(.slice (Rw (ci .i64) []) (.own 1)),(.slice (Rw (ci .i64) p0) .no),(.int .i64 w25),(.int .i64 i4)],([.front 0 0,.front 0 0]:lT))=tm (sG (A6 p0 w25) ([],i4)) fun r=>(r.1.ex,[(.slice (Rw (ci .i64) []) (.own 0)),(.slice (Rw (ci .i64) r.2.1) (.own 1)),(.slice (Rw (ci .i64) p0) .no),(.int .i64 w25),(.int .i64 r.2.2)],([.front 0 0,oR 1 (aa5 r.2.1)]:lT)):=by
 exact s7 (enc:=fun s26=>([(.slice (Rw (ci .i64) []) (.own 0)),(.slice (Rw (ci .i64) s26.1) (.own 1)),(.slice (Rw (ci .i64) p0) .no),(.int .i64 w25),(.int .i64 s26.2)],([.front 0 0,oR 1 (aa5 s26.1)]:lT))) (fun s26=>acJ p0 w25 s26) ([],i4)
noncomputable def m50 (K:mA) (a0:lS) (h0:lT):Option (nT×lT) :=
 ((fun(aL:lS) (aD:lT)=>(fun(t23:lS) (aE:lT)=>ln a0 fun t24=>(nL (Nf K (aa5 aE)) ([aL,t23,a0,t24,(.int .i64 0)],aE)).bind fun aA=>(fun aB aC aG aH aI aF=>Ex.nC aA.1 none (fun aJ=>Ex.inBlock 0 aJ (some (.ret,[aC],aF)) (fun aK=>some (aK,[aB],aF)))) (gd aA.2.1 0) (gd aA.2.1 1) (gd aA.2.1 2) (gd aA.2.1 3) (gd aA.2.1 4) aA.2.2) (.slice (Rw (ci .i64) []) (.own (aa5 aD))) (aD++[.front 0 0])) (.slice (Rw (ci .i64) []) (.own (aa5 h0))) (h0++[.front 0 0])).bind (aiJ (aa5 h0))
theorem anU (K:mA) (a0:lS) (h0:lT):p9 Tryz.prog nM nL K 50 [a0] h0=m50 (mW nM K) a0 h0:=by kernel_rfl
noncomputable def V3 (p0:(List Int)):Option ((List Int)) :=
 tb (sG (A6 p0 ((aa5 p0:Nat):Int)) ([],0)) fun r44=>uW r44.1 none fun e45=>vA 0 e45 (some r44.2.1) fun e52=>Ga e52 (some [])
theorem aAH (p0:(List Int)):m50 KK (.slice (Rw (ci .i64) p0) .no) []=tm (V3 p0) fun r=>(.ret (.slice (Rw (ci .i64) r) .no),[]):=by
 simp [-l9,-lV,-lU,-lW,-lZ,-lY,-lX,m50,V3,afV,aiJ]
theorem aBO (p0:(List Int)) (h:lT):KK 50 [(.slice (Rw (ci .i64) p0) .no)] h=tm (V3 p0) fun r=>(.ret (.slice (Rw (ci .i64) r) .no),h):=oE rfl rfl (anU ..) (aAH p0)
noncomputable def aiK (mm:Nat) (aA:R):Option (nT×lT) :=
 (fun aB aC=>Ex.oA aA.1 ((mF true 6 aC aB).bind fun aD=>nZ mm aD aC)) (gd aA.2.1 0) aA.2.2
theorem auC (o2:Int) (o6:m_) (o0:Int) (o1:Int) (o3:Int) (o4:Int) (o5:Int):KK 52 [(.ptr 0 0),(.int .i64 o2)] ([.cells [(.slice (Rw (ci .i64) o6.slots) .no),(.int .i64 o6.most),(.bool o6.bad)],.cells [(.int .i64 o0),(.int .i64 o1),(.int .i64 o2),(.int .i64 o3),(.int .i64 o4),(.int .i64 o5)],.cells [(.int .i64 0),(.int .i64 0),(.int .i64 0),(.int .i64 0),(.int .i64 0),(.int .i64 0)]]:lT)=tm (DA o2 o6) fun r=>(.ret (.int .i64 r.1),([.cells [(.slice (Rw (ci .i64) r.2.slots) .no),(.int .i64 r.2.most),(.bool r.2.bad)],.cells [(.int .i64 o0),(.int .i64 o1),(.int .i64 o2),(.int .i64 o3),(.int .i64 o4),(.int .i64 o5)],.cells [(.int .i64 0),(.int .i64 0),(.int .i64 0),(.int .i64 0),(.int .i64 0),(.int .i64 0)]]:lT)):=by
 refine yA (ids:=[0]) rfl rfl ?_ ?_ rfl ?_ (IQ ..) (WW o2 o6) fun r=>?_
 all_goals simp
noncomputable def R5 (K:mA) (t29:lS) (aB:lS) (aA:lT) (a0:lS) (aC:lS) (t28:lS):Option R :=
 mH t29 (fa 2 aB fun t32=>ld false 1 aA t32 fun aF=>ca (K 52 [(lS.l_ a0),(lS.l_ aF)] aA) fun aG aD=>fa 2 aB fun aH=>(mL 1 aD aH aG).bind fun aE=>mK (aa5 aA) .normal [a0,aB,aC,t28] aE) (mK (aa5 aA) .normal [a0,aB,aC,t28] aA)
noncomputable def Hq (w31:Bool) (o6:m_) (o0:Int) (o1:Int) (o2:Int) (o3:Int) (o4:Int) (o5:Int):Option (m_×Op) :=
 tc w31 (tb ((DA o2 o6)) fun Pz=>some (Pz.2,(⟨o0,o1,Pz.1,o3,o4,o5⟩:Op))) (some (o6,(⟨o0,o1,o2,o3,o4,o5⟩:Op)))
theorem afW (w31:Bool) (o6:m_) (o0:Int) (o1:Int) (o2:Int) (o3:Int) (o4:Int) (o5:Int) (w30:Int):(R5 KK (.bool w31) (.ptr 1 0) ([.cells [(.slice (Rw (ci .i64) o6.slots) .no),(.int .i64 o6.most),(.bool o6.bad)],.cells [(.int .i64 o0),(.int .i64 o1),(.int .i64 o2),(.int .i64 o3),(.int .i64 o4),(.int .i64 o5)],.cells [(.int .i64 0),(.int .i64 0),(.int .i64 0),(.int .i64 0),(.int .i64 0),(.int .i64 0)]]:lT) (.ptr 0 0) (.ptr 2 0) (.int .i64 w30))=tm (Hq w31 o6 o0 o1 o2 o3 o4 o5) fun r=>(.normal,[(.ptr 0 0),(.ptr 1 0),(.ptr 2 0),(.int .i64 w30)],([.cells [(.slice (Rw (ci .i64) r.1.slots) .no),(.int .i64 r.1.most),(.bool r.1.bad)],.cells [(.int .i64 r.2.kind),(.int .i64 r.2.dst),(.int .i64 r.2.a),(.int .i64 r.2.b),(.int .i64 r.2.c),(.int .i64 r.2.imm)],.cells [(.int .i64 0),(.int .i64 0),(.int .i64 0),(.int .i64 0),(.int .i64 0),(.int .i64 0)]]:lT)):=by
 simp [-l9,-lV,-lU,-lW,-lZ,-lY,-lX,R5,Hq,auC]
theorem auD (w54:Int) (w48:(List Int)) (w49:Int) (w50:Bool) (w51:Int) (w52:Int) (w53:Int) (w55:Int) (w56:Int):KK 52 [(.ptr 0 0),(.int .i64 w54)] ([.cells [(.slice (Rw (ci .i64) w48) .no),(.int .i64 w49),(.bool w50)],.cells [(.int .i64 w51),(.int .i64 w52),(.int .i64 w53),(.int .i64 w54),(.int .i64 w55),(.int .i64 w56)],.cells [(.int .i64 0),(.int .i64 0),(.int .i64 0),(.int .i64 0),(.int .i64 0),(.int .i64 0)]]:lT)=tm (DA w54 (⟨w48,w49,w50⟩:m_)) fun r=>(.ret (.int .i64 r.1),([.cells [(.slice (Rw (ci .i64) r.2.slots) .no),(.int .i64 r.2.most),(.bool r.2.bad)],.cells [(.int .i64 w51),(.int .i64 w52),(.int .i64 w53),(.int .i64 w54),(.int .i64 w55),(.int .i64 w56)],.cells [(.int .i64 0),(.int .i64 0),(.int .i64 0),(.int .i64 0),(.int .i64 0),(.int .i64 0)]]:lT)):=by
 refine yA (ids:=[0]) rfl rfl ?_ ?_ rfl ?_ (IQ ..) (WW w54 (⟨w48,w49,w50⟩:m_)) fun r=>?_
 all_goals simp
noncomputable def R6 (K:mA) (aH:lS) (aA:lS) (aE:lT) (aB:lS) (aC:lS) (aD:lS):Option R :=
 mH aH (fa 3 aA fun aI=>ld false 1 aE aI fun aJ=>ca (K 52 [(lS.l_ aB),(lS.l_ aJ)] aE) fun aK aF=>fa 3 aA fun aL=>(mL 1 aF aL aK).bind fun aG=>mK (aa5 aE) .normal [aB,aA,aC,aD] aG) (mK (aa5 aE) .normal [aB,aA,aC,aD] aE)
noncomputable def Hr (w47:Bool) (w48:(List Int)) (w49:Int) (w50:Bool) (w51:Int) (w52:Int) (w53:Int) (w54:Int) (w55:Int) (w56:Int):Option (m_×Op) :=
 tc w47 (tb ((DA w54 (⟨w48,w49,w50⟩:m_))) fun r61=>some (r61.2,(⟨w51,w52,w53,r61.1,w55,w56⟩:Op))) (some ((⟨w48,w49,w50⟩:m_),(⟨w51,w52,w53,w54,w55,w56⟩:Op)))
theorem afX (w47:Bool) (w48:(List Int)) (w49:Int) (w50:Bool) (w51:Int) (w52:Int) (w53:Int) (w54:Int) (w55:Int) (w56:Int) (w46:Int):(R6 KK (.bool w47) (.ptr 1 0) ([.cells [(.slice (Rw (ci .i64) w48) .no),(.int .i64 w49),(.bool w50)],.cells [(.int .i64 w51),(.int .i64 w52),(.int .i64 w53),(.int .i64 w54),(.int .i64 w55),(.int .i64 w56)],.cells [(.int .i64 0),(.int .i64 0),(.int .i64 0),(.int .i64 0),(.int .i64 0),(.int .i64 0)]]:lT) (.ptr 0 0) (.ptr 2 0) (.int .i64 w46))=tm (Hr w47 w48 w49 w50 w51 w52 w53 w54 w55 w56) fun r=>(.normal,[(.ptr 0 0),(.ptr 1 0),(.ptr 2 0),(.int .i64 w46)],([.cells [(.slice (Rw (ci .i64) r.1.slots) .no),(.int .i64 r.1.most),(.bool r.1.bad)],.cells [(.int .i64 r.2.kind),(.int .i64 r.2.dst),(.int .i64 r.2.a),(.int .i64 r.2.b),(.int .i64 r.2.c),(.int .i64 r.2.imm)],.cells [(.int .i64 0),(.int .i64 0),(.int .i64 0),(.int .i64 0),(.int .i64 0),(.int .i64 0)]]:lT)):=by
 simp [-l9,-lV,-lU,-lW,-lZ,-lY,-lX,R6,Hr,auD]
theorem auE (w80:Int) (w73:(List Int)) (w74:Int) (w75:Bool) (w76:Int) (w77:Int) (w78:Int) (w79:Int) (w81:Int):KK 52 [(.ptr 0 0),(.int .i64 w80)] ([.cells [(.slice (Rw (ci .i64) w73) .no),(.int .i64 w74),(.bool w75)],.cells [(.int .i64 w76),(.int .i64 w77),(.int .i64 w78),(.int .i64 w79),(.int .i64 w80),(.int .i64 w81)],.cells [(.int .i64 0),(.int .i64 0),(.int .i64 0),(.int .i64 0),(.int .i64 0),(.int .i64 0)]]:lT)=tm (DA w80 (⟨w73,w74,w75⟩:m_)) fun r=>(.ret (.int .i64 r.1),([.cells [(.slice (Rw (ci .i64) r.2.slots) .no),(.int .i64 r.2.most),(.bool r.2.bad)],.cells [(.int .i64 w76),(.int .i64 w77),(.int .i64 w78),(.int .i64 w79),(.int .i64 w80),(.int .i64 w81)],.cells [(.int .i64 0),(.int .i64 0),(.int .i64 0),(.int .i64 0),(.int .i64 0),(.int .i64 0)]]:lT)):=by
 refine yA (ids:=[0]) rfl rfl ?_ ?_ rfl ?_ (IQ ..) (WW w80 (⟨w73,w74,w75⟩:m_)) fun r=>?_
 all_goals simp
noncomputable def R7 (K:mA) (t70:lS) (aA:lS) (aD:lT) (aB:lS) (aC:lS):Option R :=
 mH t70 (fa 4 aA fun aG=>ld false 1 aD aG fun aH=>ca (K 52 [(lS.l_ aB),(lS.l_ aH)] aD) fun aI aE=>fa 4 aA fun aJ=>(mL 1 aE aJ aI).bind fun aF=>mK (aa5 aD) .normal [aB,aA,aC] aF) (mK (aa5 aD) .normal [aB,aA,aC] aD)
noncomputable def Hs (w72:Bool) (w73:(List Int)) (w74:Int) (w75:Bool) (w76:Int) (w77:Int) (w78:Int) (w79:Int) (w80:Int) (w81:Int):Option (m_×Op) :=
 tc w72 (tb ((DA w80 (⟨w73,w74,w75⟩:m_))) fun r86=>some (r86.2,(⟨w76,w77,w78,w79,r86.1,w81⟩:Op))) (some ((⟨w73,w74,w75⟩:m_),(⟨w76,w77,w78,w79,w80,w81⟩:Op)))
theorem afY (w72:Bool) (w73:(List Int)) (w74:Int) (w75:Bool) (w76:Int) (w77:Int) (w78:Int) (w79:Int) (w80:Int) (w81:Int):(R7 KK (.bool w72) (.ptr 1 0) ([.cells [(.slice (Rw (ci .i64) w73) .no),(.int .i64 w74),(.bool w75)],.cells [(.int .i64 w76),(.int .i64 w77),(.int .i64 w78),(.int .i64 w79),(.int .i64 w80),(.int .i64 w81)],.cells [(.int .i64 0),(.int .i64 0),(.int .i64 0),(.int .i64 0),(.int .i64 0),(.int .i64 0)]]:lT) (.ptr 0 0) (.ptr 2 0))=tm (Hs w72 w73 w74 w75 w76 w77 w78 w79 w80 w81) fun r=>(.normal,[(.ptr 0 0),(.ptr 1 0),(.ptr 2 0)],([.cells [(.slice (Rw (ci .i64) r.1.slots) .no),(.int .i64 r.1.most),(.bool r.1.bad)],.cells [(.int .i64 r.2.kind),(.int .i64 r.2.dst),(.int .i64 r.2.a),(.int .i64 r.2.b),(.int .i64 r.2.c),(.int .i64 r.2.imm)],.cells [(.int .i64 0),(.int .i64 0),(.int .i64 0),(.int .i64 0),(.int .i64 0),(.int .i64 0)]]:lT)):=by
 simp [-l9,-lV,-lU,-lW,-lZ,-lY,-lX,R7,Hs,auE]
theorem auF (w99:Int) (w104:(List Int)) (w105:Int) (w106:Bool) (w98:Int) (w100:Int) (w101:Int) (w102:Int) (w103:Int):KK 52 [(.ptr 0 0),(.int .i64 w99)] ([.cells [(.slice (Rw (ci .i64) w104) .no),(.int .i64 w105),(.bool w106)],.cells [(.int .i64 w98),(.int .i64 w99),(.int .i64 w100),(.int .i64 w101),(.int .i64 w102),(.int .i64 w103)],.cells [(.int .i64 0),(.int .i64 0),(.int .i64 0),(.int .i64 0),(.int .i64 0),(.int .i64 0)]]:lT)=tm (DA w99 (⟨w104,w105,w106⟩:m_)) fun r=>(.ret (.int .i64 r.1),([.cells [(.slice (Rw (ci .i64) r.2.slots) .no),(.int .i64 r.2.most),(.bool r.2.bad)],.cells [(.int .i64 w98),(.int .i64 w99),(.int .i64 w100),(.int .i64 w101),(.int .i64 w102),(.int .i64 w103)],.cells [(.int .i64 0),(.int .i64 0),(.int .i64 0),(.int .i64 0),(.int .i64 0),(.int .i64 0)]]:lT)):=by
 refine yA (ids:=[0]) rfl rfl ?_ ?_ rfl ?_ (IQ ..) (WW w99 (⟨w104,w105,w106⟩:m_)) fun r=>?_
 all_goals simp
noncomputable def R8 (K:mA) (aK:lS) (aA:lS) (aC:lT) (aD:lS) (aB:lS):Option R :=
 mH aK (fa 1 aA fun aG=>ld false 1 aC aG fun aH=>ca (K 52 [(lS.l_ aD),(lS.l_ aH)] aC) fun aI aE=>fa 1 aA fun aJ=>(mL 1 aE aJ aI).bind fun aF=>mK (aa5 aC) .normal [aA,aB] aF) (mK (aa5 aC) .normal [aA,aB] aC)
noncomputable def Ht (r97:Bool) (w104:(List Int)) (w105:Int) (w106:Bool) (w98:Int) (w99:Int) (w100:Int) (w101:Int) (w102:Int) (w103:Int):Option (m_×Op) :=
 tc r97 (tb ((DA w99 (⟨w104,w105,w106⟩:m_))) fun r111=>some (r111.2,(⟨w98,r111.1,w100,w101,w102,w103⟩:Op))) (some ((⟨w104,w105,w106⟩:m_),(⟨w98,w99,w100,w101,w102,w103⟩:Op)))
theorem afZ (r97:Bool) (w104:(List Int)) (w105:Int) (w106:Bool) (w98:Int) (w99:Int) (w100:Int) (w101:Int) (w102:Int) (w103:Int):(R8 KK (.bool r97) (.ptr 1 0) ([.cells [(.slice (Rw (ci .i64) w104) .no),(.int .i64 w105),(.bool w106)],.cells [(.int .i64 w98),(.int .i64 w99),(.int .i64 w100),(.int .i64 w101),(.int .i64 w102),(.int .i64 w103)],.cells [(.int .i64 0),(.int .i64 0),(.int .i64 0),(.int .i64 0),(.int .i64 0),(.int .i64 0)]]:lT) (.ptr 0 0) (.ptr 2 0))=tm (Ht r97 w104 w105 w106 w98 w99 w100 w101 w102 w103) fun r=>(.normal,[(.ptr 1 0),(.ptr 2 0)],([.cells [(.slice (Rw (ci .i64) r.1.slots) .no),(.int .i64 r.1.most),(.bool r.1.bad)],.cells [(.int .i64 r.2.kind),(.int .i64 r.2.dst),(.int .i64 r.2.a),(.int .i64 r.2.b),(.int .i64 r.2.c),(.int .i64 r.2.imm)],.cells [(.int .i64 0),(.int .i64 0),(.int .i64 0),(.int .i64 0),(.int .i64 0),(.int .i64 0)]]:lT)):=by
 simp [-l9,-lV,-lU,-lW,-lZ,-lY,-lX,R8,Ht,auF]
noncomputable def m51 (K:mA) (a0 a1:lS) (h0:lT):Option (nT×lT) :=
 (mC (nP 6 h0 a1) fun aW aX=>mC (nP 6 aX (.agg [(.int .i64 0),(.int .i64 0),(.int .i64 0),(.int .i64 0),(.int .i64 0),(.int .i64 0)])) fun bC aU=>ld true 6 aU aW fun t24=>ca (K 36 [(lS.l_ t24)] aU) fun bD aY=>ln bD fun t28=>bo .gtr t28 (.int .i64 0) fun t29=>(R5 K t29 aW aY a0 bC t28).bind fun aF=>(fun aJ aM aO aD aZ=>Ex.rQ aF.1 (bo .gtr aD (.int .i64 1) fun bE=>(R6 K bE aM aZ aJ aO aD).bind fun aG=>(fun aK aN aP aR a_=>Ex.rQ aG.1 (bo .gtr aR (.int .i64 2) fun t70=>(R7 K t70 aN a_ aK aP).bind fun aI=>(fun aL aC aQ aV=>Ex.rQ aI.1 (ld true 6 aV aC fun bF=>ca (K 73 [(lS.l_ bF)] aV) fun bG bB=>(R8 K bG aC bB aL aQ).bind fun aB=>(fun aE aA aH=>Ex.rQ aB.1 (ld true 6 aH aE fun aT=>(mL 6 aH aA aT).bind fun aS=>some (.ret,[aA],aS))) (gd aB.2.1 0) (gd aB.2.1 1) aB.2.2)) (gd aI.2.1 0) (gd aI.2.1 1) (gd aI.2.1 2) aI.2.2)) (gd aG.2.1 0) (gd aG.2.1 1) (gd aG.2.1 2) (gd aG.2.1 3) aG.2.2)) (gd aF.2.1 0) (gd aF.2.1 1) (gd aF.2.1 2) (gd aF.2.1 3) aF.2.2).bind (aiK (aa5 h0))
theorem anV (K:mA) (a0 a1:lS) (h0:lT):p9 Tryz.prog nM nL K 51 [a0,a1] h0=m51 (mW nM K) a0 a1 h0:=by kernel_rfl
noncomputable def V4 (o0:Int) (o1:Int) (o2:Int) (o3:Int) (o4:Int) (o5:Int) (o6:m_):Option (Op×m_) :=
 tb ((Kv (⟨o0,o1,o2,o3,o4,o5⟩:Op))) fun r27=>tb (Hq (decide (0<((aa5 r27:Nat):Int))) o6 o0 o1 o2 o3 o4 o5) fun r39=>tb (Hr (decide (1<((aa5 r27:Nat):Int))) r39.1.slots r39.1.most r39.1.bad r39.2.kind r39.2.dst r39.2.a r39.2.b r39.2.c r39.2.imm) fun r64=>tb (Hs (decide (2<((aa5 r27:Nat):Int))) r64.1.slots r64.1.most r64.1.bad r64.2.kind r64.2.dst r64.2.a r64.2.b r64.2.c r64.2.imm) fun r89=>tb ((JO r89.2)) fun r97=>tb (Ht r97 r89.1.slots r89.1.most r89.1.bad r89.2.kind r89.2.dst r89.2.a r89.2.b r89.2.c r89.2.imm) fun r114=>some (r114.2,r114.1)
theorem aAI (o0:Int) (o1:Int) (o2:Int) (o3:Int) (o4:Int) (o5:Int) (o6:m_):m51 KK (.ptr 0 0) (.agg [(.int .i64 o0),(.int .i64 o1),(.int .i64 o2),(.int .i64 o3),(.int .i64 o4),(.int .i64 o5)]) ([.cells [(.slice (Rw (ci .i64) o6.slots) .no),(.int .i64 o6.most),(.bool o6.bad)]]:lT)=tm (V4 o0 o1 o2 o3 o4 o5 o6) fun r=>(.ret (.agg [(.int .i64 r.1.kind),(.int .i64 r.1.dst),(.int .i64 r.1.a),(.int .i64 r.1.b),(.int .i64 r.1.c),(.int .i64 r.1.imm)]),([.cells [(.slice (Rw (ci .i64) r.2.slots) .no),(.int .i64 r.2.most),(.bool r.2.bad)]]:lT)):=by
 simp [-l9,-lV,-lU,-lW,-lZ,-lY,-lX,m51,V4,awU,afW,afX,afY,apQ,afZ,aiK]
noncomputable def aiB (mm:Nat) (aA:R):Option (nT×lT) :=
 (fun aB aC aD=>Ex.oA aA.1 ((mF true 5 aD aB).bind fun aE=>nZ mm (.tuple [aE,aC]) aD)) (gd aA.2.1 0) (gd aA.2.1 1) aA.2.2
theorem at5 (u98:Op) (p0:IR) (w106:(List Int)) (w107:Int) (w108:Bool) (w63:(List mU)) (u70:mU) (s81:(List Op)×Int×m_):KK 51 [(.ptr 4 0),(.agg [(.int .i64 u98.kind),(.int .i64 u98.dst),(.int .i64 u98.a),(.int .i64 u98.b),(.int .i64 u98.c),(.int .i64 u98.imm)])] ([.cells [(.int .i64 p0.temps),(.slice (Rw nH.cells p0.arrays) .no),(.slice (Rw mU.cells p0.blocks) .no),(.int .i64 p0.inn),(.int .i64 p0.out)],.cells [(.int .i64 0),(.slice (Rw nH.cells []) (.own 2)),(.slice (Rw mU.cells []) (.own 3)),(.int .i64 0),(.int .i64 0)],.front 0 0,.front 0 0,.cells [(.slice (Rw (ci .i64) w106) .no),(.int .i64 w107),(.bool w108)],oR 5 (aa5 w63),.cells [(.slice (Rw Op.cells u70.ops) .no),(.int .i64 u70.term.kind),(.int .i64 u70.term.a),(.int .i64 u70.term.yes),(.int .i64 u70.term.no)],.front 0 0,oR 6 (aa5 s81.1),.cells [(.int .i64 u98.kind),(.int .i64 u98.dst),(.int .i64 u98.a),(.int .i64 u98.b),(.int .i64 u98.c),(.int .i64 u98.imm)]]:lT)=tm (V4 u98.kind u98.dst u98.a u98.b u98.c u98.imm (⟨w106,w107,w108⟩:m_)) fun r=>(.ret (.agg [(.int .i64 r.1.kind),(.int .i64 r.1.dst),(.int .i64 r.1.a),(.int .i64 r.1.b),(.int .i64 r.1.c),(.int .i64 r.1.imm)]),([.cells [(.int .i64 p0.temps),(.slice (Rw nH.cells p0.arrays) .no),(.slice (Rw mU.cells p0.blocks) .no),(.int .i64 p0.inn),(.int .i64 p0.out)],.cells [(.int .i64 0),(.slice (Rw nH.cells []) (.own 2)),(.slice (Rw mU.cells []) (.own 3)),(.int .i64 0),(.int .i64 0)],.front 0 0,.front 0 0,.cells [(.slice (Rw (ci .i64) r.2.slots) .no),(.int .i64 r.2.most),(.bool r.2.bad)],oR 5 (aa5 w63),.cells [(.slice (Rw Op.cells u70.ops) .no),(.int .i64 u70.term.kind),(.int .i64 u70.term.a),(.int .i64 u70.term.yes),(.int .i64 u70.term.no)],.front 0 0,oR 6 (aa5 s81.1),.cells [(.int .i64 u98.kind),(.int .i64 u98.dst),(.int .i64 u98.a),(.int .i64 u98.b),(.int .i64 u98.c),(.int .i64 u98.imm)]]:lT)):=by
 refine yA (ids:=[4]) rfl rfl ?_ ?_ rfl ?_ (anV ..) (aAI u98.kind u98.dst u98.a u98.b u98.c u98.imm (⟨w106,w107,w108⟩:m_)) fun r=>?_
 all_goals simp
theorem akE (y0:Int) (y1:Int) (y2:Int) (y3:Int) (y4:Int) (y5:Int) (h:lT):mD 1 6 [(.int .i64 0),(.int .i64 0),(.int .i64 0),(.int .i64 0),(.int .i64 0),(.int .i64 0)] [(0,(.agg [(.int .i64 y0),(.int .i64 y1),(.int .i64 y2),(.int .i64 y3),(.int .i64 y4),(.int .i64 y5)]))] h=some (.slice (Rw Op.cells [(⟨y0,y1,y2,y3,y4,y5⟩:Op)]) (.own h.length),h++[oR 6 (aa5 [(⟨y0,y1,y2,y3,y4,y5⟩:Op)])]):=by
 rfl
noncomputable def M4 (K:mA) (m:Nat) (s:List lS×lT):Option R :=
 (fun aJ aK aL aI aM aD aE aF aG aH aB aC aA aT=>bo .lss aA aC fun aZ=>mH aZ (ix 6 aB aA fun a_=>ld true 6 aT a_ fun bB=>mC (nP 6 aT (.agg [(.int .i64 0),(.int .i64 0),(.int .i64 0),(.int .i64 0),(.int .i64 0),(.int .i64 0)])) fun aO aP=>(mL 6 aP aO bB).bind fun aN=>ld true 6 aN aO fun aU=>ca (K 51 [(lS.l_ aI),(lS.l_ aU)] aN) fun aV aQ=>mC (mD 1 6 [(.int .i64 0),(.int .i64 0),(.int .i64 0),(.int .i64 0),(.int .i64 0),(.int .i64 0)] [(0,aV)] aQ) fun aW aR=>mC (nD 6 48 aR aE aW) fun aX aS=>bo .add aA (.int .i64 1) fun aY=>mK m .normal [aJ,aK,aL,aI,aM,aD,aX,aF,aG,aH,aB,aC,aY] aS) (mK m (.exit 2) [aJ,aK,aL,aI,aM,aD,aE,aF,aG,aH,aB,aC,aA] aT)) (gd s.1 0) (gd s.1 1) (gd s.1 2) (gd s.1 3) (gd s.1 4) (gd s.1 5) (gd s.1 6) (gd s.1 7) (gd s.1 8) (gd s.1 9) (gd s.1 10) (gd s.1 11) (gd s.1 12) s.2
noncomputable def A2 (u70:mU) (w80:Int) (s81:(List Op)×Int×m_):Option (Ey×(List Op)×Int×m_) :=
 tc (decide (s81.2.1<w80)) (tb ((o8 u70.ops s81.2.1)) fun u98=>tb ((V4 u98.kind u98.dst u98.a u98.b u98.c u98.imm s81.2.2)) fun r109=>tb ((pD 48 s81.1 [r109.1])) fun l114=>some (.n,(l114,(IntKind.wrap .i64 (s81.2.1+1)),r109.2))) (some ((.x 2),(s81.1,s81.2.1,s81.2.2)))
theorem acF (w63:(List mU)) (p0:IR) (w51:Int) (w64:Int) (u70:mU) (w80:Int) (s81:(List Op)×Int×m_):M4 KK 9 ([(.ptr 0 0),(.ptr 1 0),(.int .i64 0),(.ptr 4 0),(.slice (Rw mU.cells w63) (.own 5)),(.ptr 6 0),(.slice (Rw Op.cells s81.1) (.own 8)),(.slice (Rw mU.cells p0.blocks) .no),(.int .i64 w51),(.int .i64 w64),(.slice (Rw Op.cells u70.ops) .no),(.int .i64 w80),(.int .i64 s81.2.1)],([.cells [(.int .i64 p0.temps),(.slice (Rw nH.cells p0.arrays) .no),(.slice (Rw mU.cells p0.blocks) .no),(.int .i64 p0.inn),(.int .i64 p0.out)],.cells [(.int .i64 0),(.slice (Rw nH.cells []) (.own 2)),(.slice (Rw mU.cells []) (.own 3)),(.int .i64 0),(.int .i64 0)],.front 0 0,.front 0 0,.cells [(.slice (Rw (ci .i64) s81.2.2.slots) .no),(.int .i64 s81.2.2.most),(.bool s81.2.2.bad)],oR 5 (aa5 w63),.cells [(.slice (Rw Op.cells u70.ops) .no),(.int .i64 u70.term.kind),(.int .i64 u70.term.a),(.int .i64 u70.term.yes),(.int .i64 u70.term.no)],.front 0 0,oR 6 (aa5 s81.1)]:lT))=tm (A2 u70 w80 s81) fun r=>(r.1.ex,[(.ptr 0 0),(.ptr 1 0),(.int .i64 0),(.ptr 4 0),(.slice (Rw mU.cells w63) (.own 5)),(.ptr 6 0),(.slice (Rw Op.cells r.2.1) (.own 8)),(.slice (Rw mU.cells p0.blocks) .no),(.int .i64 w51),(.int .i64 w64),(.slice (Rw Op.cells u70.ops) .no),(.int .i64 w80),(.int .i64 r.2.2.1)],([.cells [(.int .i64 p0.temps),(.slice (Rw nH.cells p0.arrays) .no),(.slice (Rw mU.cells p0.blocks) .no),(.int .i64 p0.inn),(.int .i64 p0.out)],.cells [(.int .i64 0),(.slice (Rw nH.cells []) (.own 2)),(.slice (Rw mU.cells []) (.own 3)),(.int .i64 0),(.int .i64 0)],.front 0 0,.front 0 0,.cells [(.slice (Rw (ci .i64) r.2.2.2.slots) .no),(.int .i64 r.2.2.2.most),(.bool r.2.2.2.bad)],oR 5 (aa5 w63),.cells [(.slice (Rw Op.cells u70.ops) .no),(.int .i64 u70.term.kind),(.int .i64 u70.term.a),(.int .i64 u70.term.yes),(.int .i64 u70.term.no)],.front 0 0,oR 6 (aa5 r.2.1)]:lT)):=by
 simp [-l9,-lV,-lU,-lW,-lZ,-lY,-lX,M4,A2,at5,akE]
theorem afP (w63:(List mU)) (p0:IR) (w51:Int) (w64:Int) (u70:mU) (w80:Int) (w66:(List Int)) (w67:Int) (w68:Bool) (i8:Int) (n5:Nat) (hn5:n5=(aa5 w63)):nL (M4 KK 9) ([(.ptr 0 0),(.ptr 1 0),(.int .i64 0),(.ptr 4 0),(.slice (Rw mU.cells w63) (.own 5)),(.ptr 6 0),(.slice (Rw Op.cells []) (.own 8)),(.slice (Rw mU.cells p0.blocks) .no),(.int .i64 w51),(.int .i64 w64),(.slice (Rw Op.cells u70.ops) .no),(.int .i64 w80),(.int .i64 i8)],([.cells [(.int .i64 p0.temps),(.slice (Rw nH.cells p0.arrays) .no),(.slice (Rw mU.cells p0.blocks) .no),(.int .i64 p0.inn),(.int .i64 p0.out)],.cells [(.int .i64 0),(.slice (Rw nH.cells []) (.own 2)),(.slice (Rw mU.cells []) (.own 3)),(.int .i64 0),(.int .i64 0)],.front 0 0,.front 0 0,.cells [(.slice (Rw (ci .i64) w66) .no),(.int .i64 w67),(.bool w68)],oR 5 n5,.cells [(.slice (Rw Op.cells u70.ops) .no),(.int .i64 u70.term.kind),(.int .i64 u70.term.a),(.int .i64 u70.term.yes),(.int .i64 u70.term.no)],.front 0 0,.front 0 0]:lT))=tm (sG (A2 u70 w80) ([],i8,(⟨w66,w67,w68⟩:m_))) fun r=>(r.1.ex,[(.ptr 0 0),(.ptr 1 0),(.int .i64 0),(.ptr 4 0),(.slice (Rw mU.cells w63) (.own 5)),(.ptr 6 0),(.slice (Rw Op.cells r.2.1) (.own 8)),(.slice (Rw mU.cells p0.blocks) .no),(.int .i64 w51),(.int .i64 w64),(.slice (Rw Op.cells u70.ops) .no),(.int .i64 w80),(.int .i64 r.2.2.1)],([.cells [(.int .i64 p0.temps),(.slice (Rw nH.cells p0.arrays) .no),(.slice (Rw mU.cells p0.blocks) .no),(.int .i64 p0.inn),(.int .i64 p0.out)],.cells [(.int .i64 0),(.slice (Rw nH.cells []) (.own 2)),(.slice (Rw mU.cells []) (.own 3)),(.int .i64 0),(.int .i64 0)],.front 0 0,.front 0 0,.cells [(.slice (Rw (ci .i64) r.2.2.2.slots) .no),(.int .i64 r.2.2.2.most),(.bool r.2.2.2.bad)],oR 5 (aa5 w63),.cells [(.slice (Rw Op.cells u70.ops) .no),(.int .i64 u70.term.kind),(.int .i64 u70.term.a),(.int .i64 u70.term.yes),(.int .i64 u70.term.no)],.front 0 0,oR 6 (aa5 r.2.1)]:lT)):=by
 subst hn5;exact s7 (enc:=fun s81=>([(.ptr 0 0),(.ptr 1 0),(.int .i64 0),(.ptr 4 0),(.slice (Rw mU.cells w63) (.own 5)),(.ptr 6 0),(.slice (Rw Op.cells s81.1) (.own 8)),(.slice (Rw mU.cells p0.blocks) .no),(.int .i64 w51),(.int .i64 w64),(.slice (Rw Op.cells u70.ops) .no),(.int .i64 w80),(.int .i64 s81.2.1)],([.cells [(.int .i64 p0.temps),(.slice (Rw nH.cells p0.arrays) .no),(.slice (Rw mU.cells p0.blocks) .no),(.int .i64 p0.inn),(.int .i64 p0.out)],.cells [(.int .i64 0),(.slice (Rw nH.cells []) (.own 2)),(.slice (Rw mU.cells []) (.own 3)),(.int .i64 0),(.int .i64 0)],.front 0 0,.front 0 0,.cells [(.slice (Rw (ci .i64) s81.2.2.slots) .no),(.int .i64 s81.2.2.most),(.bool s81.2.2.bad)],oR 5 (aa5 w63),.cells [(.slice (Rw Op.cells u70.ops) .no),(.int .i64 u70.term.kind),(.int .i64 u70.term.a),(.int .i64 u70.term.yes),(.int .i64 u70.term.no)],.front 0 0,oR 6 (aa5 s81.1)]:lT))) (fun s81=>acF w63 p0 w51 w64 u70 w80 s81) ([],i8,(⟨w66,w67,w68⟩:m_))
theorem at6 (u70:mU) (p0:IR) (w141:(List Int)) (w142:Int) (w143:Bool) (w63:(List mU)) (w137:(List Op)):KK 52 [(.ptr 4 0),(.int .i64 u70.term.a)] ([.cells [(.int .i64 p0.temps),(.slice (Rw nH.cells p0.arrays) .no),(.slice (Rw mU.cells p0.blocks) .no),(.int .i64 p0.inn),(.int .i64 p0.out)],.cells [(.int .i64 0),(.slice (Rw nH.cells []) (.own 2)),(.slice (Rw mU.cells []) (.own 3)),(.int .i64 0),(.int .i64 0)],.front 0 0,.front 0 0,.cells [(.slice (Rw (ci .i64) w141) .no),(.int .i64 w142),(.bool w143)],oR 5 (aa5 w63),.cells [(.slice (Rw Op.cells u70.ops) .no),(.int .i64 u70.term.kind),(.int .i64 u70.term.a),(.int .i64 u70.term.yes),(.int .i64 u70.term.no)],.front 0 0,oR 6 (aa5 w137)]:lT)=tm (DA u70.term.a (⟨w141,w142,w143⟩:m_)) fun r=>(.ret (.int .i64 r.1),([.cells [(.int .i64 p0.temps),(.slice (Rw nH.cells p0.arrays) .no),(.slice (Rw mU.cells p0.blocks) .no),(.int .i64 p0.inn),(.int .i64 p0.out)],.cells [(.int .i64 0),(.slice (Rw nH.cells []) (.own 2)),(.slice (Rw mU.cells []) (.own 3)),(.int .i64 0),(.int .i64 0)],.front 0 0,.front 0 0,.cells [(.slice (Rw (ci .i64) r.2.slots) .no),(.int .i64 r.2.most),(.bool r.2.bad)],oR 5 (aa5 w63),.cells [(.slice (Rw Op.cells u70.ops) .no),(.int .i64 u70.term.kind),(.int .i64 u70.term.a),(.int .i64 u70.term.yes),(.int .i64 u70.term.no)],.front 0 0,oR 6 (aa5 w137)]:lT)):=by
 refine yA (ids:=[4]) rfl rfl ?_ ?_ rfl ?_ (IQ ..) (WW u70.term.a (⟨w141,w142,w143⟩:m_)) fun r=>?_
 all_goals simp
noncomputable def Rm (K:mA) (t136:lS) (aA:lS) (aG:lT) (aB:lS) (aH:lS) (aI:lS) (aJ:lS) (aK:lS) (aC:lS) (aD:lS) (aE:lS) (aF:lS):Option R :=
 mH t136 (fa 1 aA fun t144=>fa 1 t144 fun t145=>ld false 1 aG t145 fun t146=>ca (K 52 [(lS.l_ aB),(lS.l_ t146)] aG) fun t147 aL=>fa 1 aA fun t150=>fa 1 t150 fun t151=>(mL 1 aL t151 t147).bind fun aM=>mK (aa5 aG) .normal [aH,aI,aJ,aB,aK,aA,aC,aD,aE,aF] aM) (mK (aa5 aG) .normal [aH,aI,aJ,aB,aK,aA,aC,aD,aE,aF] aG)
noncomputable def ES (w140:Bool) (w141:(List Int)) (w142:Int) (w143:Bool) (u70:mU):Option (m_×mU) :=
 tc w140 (tb ((DA u70.term.a (⟨w141,w142,w143⟩:m_))) fun Y7=>some (Y7.2,(⟨u70.ops,(⟨u70.term.kind,Y7.1,u70.term.yes,u70.term.no⟩:Term)⟩:mU))) (some ((⟨w141,w142,w143⟩:m_),u70))
theorem afO (w140:Bool) (p0:IR) (w141:(List Int)) (w142:Int) (w143:Bool) (w63:(List mU)) (u70:mU) (w137:(List Op)) (w51:Int) (w64:Int):(Rm KK (.bool w140) (.ptr 6 0) ([.cells [(.int .i64 p0.temps),(.slice (Rw nH.cells p0.arrays) .no),(.slice (Rw mU.cells p0.blocks) .no),(.int .i64 p0.inn),(.int .i64 p0.out)],.cells [(.int .i64 0),(.slice (Rw nH.cells []) (.own 2)),(.slice (Rw mU.cells []) (.own 3)),(.int .i64 0),(.int .i64 0)],.front 0 0,.front 0 0,.cells [(.slice (Rw (ci .i64) w141) .no),(.int .i64 w142),(.bool w143)],oR 5 (aa5 w63),.cells [(.slice (Rw Op.cells u70.ops) .no),(.int .i64 u70.term.kind),(.int .i64 u70.term.a),(.int .i64 u70.term.yes),(.int .i64 u70.term.no)],.front 0 0,oR 6 (aa5 w137)]:lT) (.ptr 4 0) (.ptr 0 0) (.ptr 1 0) (.int .i64 0) (.slice (Rw mU.cells w63) (.own 5)) (.slice (Rw Op.cells w137) (.own 8)) (.slice (Rw mU.cells p0.blocks) .no) (.int .i64 w51) (.int .i64 w64))=tm (ES w140 w141 w142 w143 u70) fun r=>(.normal,[(.ptr 0 0),(.ptr 1 0),(.int .i64 0),(.ptr 4 0),(.slice (Rw mU.cells w63) (.own 5)),(.ptr 6 0),(.slice (Rw Op.cells w137) (.own 8)),(.slice (Rw mU.cells p0.blocks) .no),(.int .i64 w51),(.int .i64 w64)],([.cells [(.int .i64 p0.temps),(.slice (Rw nH.cells p0.arrays) .no),(.slice (Rw mU.cells p0.blocks) .no),(.int .i64 p0.inn),(.int .i64 p0.out)],.cells [(.int .i64 0),(.slice (Rw nH.cells []) (.own 2)),(.slice (Rw mU.cells []) (.own 3)),(.int .i64 0),(.int .i64 0)],.front 0 0,.front 0 0,.cells [(.slice (Rw (ci .i64) r.1.slots) .no),(.int .i64 r.1.most),(.bool r.1.bad)],oR 5 (aa5 w63),.cells [(.slice (Rw Op.cells r.2.ops) .no),(.int .i64 r.2.term.kind),(.int .i64 r.2.term.a),(.int .i64 r.2.term.yes),(.int .i64 r.2.term.no)],.front 0 0,oR 6 (aa5 w137)]:lT)):=by
 simp [-l9,-lV,-lU,-lW,-lZ,-lY,-lX,Rm,ES,at6]
theorem akF (y0:List Op) (y1:Int) (y2:Int) (y3:Int) (y4:Int) (h:lT):mD 1 5 [(.slice (Rw Op.cells []) .nil),(.int .i64 0),(.int .i64 0),(.int .i64 0),(.int .i64 0)] [(0,(.agg [(.slice (Rw Op.cells y0) (.own 8)),(.int .i64 y1),(.int .i64 y2),(.int .i64 y3),(.int .i64 y4)]))] h=some (.slice (Rw mU.cells [(⟨y0,(⟨y1,y2,y3,y4⟩:Term)⟩:mU)]) (.own h.length),h++[oR 5 (aa5 [(⟨y0,(⟨y1,y2,y3,y4⟩:Term)⟩:mU)])]):=by
 rfl
noncomputable def Rl (K:mA) (aG:lS) (aH:lS) (bF:lT) (a_:lS) (bB:lS) (bC:lS) (bD:lS) (bE:lS) (aU:lS):Option R :=
 ix 5 aG aH fun bV=>ld true 5 bF bV fun bW=>mC (nP 5 bF (.agg [(.slice (Rw Op.cells []) .nil),(.int .i64 0),(.int .i64 0),(.int .i64 0),(.int .i64 0)])) fun bR bU=>(mL 5 bU bR bW).bind fun bS=>(fun(bX:lS) (bN:lT)=>fa 0 bR fun bY=>ld false 1 bN bY fun bT=>ln bT fun bZ=>(nL (M4 K (aa5 bN)) ([a_,bB,bC,bD,bE,bR,bX,aG,aU,aH,bT,bZ,(.int .i64 0)],bN)).bind fun aA=>(fun aF aI aJ aK aL aB aN aC aD aE bG bH bI aS=>Ex.nC aA.1 none (fun bJ=>Ex.inBlock 2 bJ (fa 1 aB fun t133=>fa 0 t133 fun t134=>ld false 1 aS t134 fun t135=>bo .eql t135 (.int .i64 2) fun t136=>(Rm K t136 aB aS aK aF aI aJ aL aN aC aD aE).bind fun Ai=>(fun aT aV aW aX aY aM aO aP aQ aR aZ=>Ex.rQ Ai.1 (fa 1 aM fun t165=>ld true 4 aZ t165 fun t166=>(mV [(.slice (Rw Op.cells []) .nil),(.int .i64 0),(.int .i64 0),(.int .i64 0),(.int .i64 0)] [(0,1),(1,4)] [(0,aO),(1,t166)]).bind fun bO=>mC (mD 1 5 [(.slice (Rw Op.cells []) .nil),(.int .i64 0),(.int .i64 0),(.int .i64 0),(.int .i64 0)] [(0,bO)] aZ) fun bP bL=>mC (nD 5 56 bL aY bP) fun bQ bM=>mK (aa5 bF) .normal [aT,aV,aW,aX,bQ,aP,aQ,aR] bM)) (gd Ai.2.1 0) (gd Ai.2.1 1) (gd Ai.2.1 2) (gd Ai.2.1 3) (gd Ai.2.1 4) (gd Ai.2.1 5) (gd Ai.2.1 6) (gd Ai.2.1 7) (gd Ai.2.1 8) (gd Ai.2.1 9) Ai.2.2) (fun bK=>mK (aa5 bF) bK [aF,aI,aJ,aK,aL,aC,aD,aE] aS))) (gd aA.2.1 0) (gd aA.2.1 1) (gd aA.2.1 2) (gd aA.2.1 3) (gd aA.2.1 4) (gd aA.2.1 5) (gd aA.2.1 6) (gd aA.2.1 7) (gd aA.2.1 8) (gd aA.2.1 9) (gd aA.2.1 10) (gd aA.2.1 11) (gd aA.2.1 12) aA.2.2) (.slice (Rw Op.cells []) (.own (aa5 bS))) (bS++[.front 0 0])
noncomputable def ER (p0:IR) (w64:Int) (w66:(List Int)) (w67:Int) (w68:Bool) (w63:(List mU)):Option (Ey×(List mU)×m_) :=
 tb ((o8 p0.blocks w64)) fun u70=>tb (sG (A2 u70 ((aa5 u70.ops:Nat):Int)) ([],0,(⟨w66,w67,w68⟩:m_))) fun r116=>uW r116.1 none fun e117=>vA 2 e117 (tb (ES (decide (u70.term.kind=2)) r116.2.2.2.slots r116.2.2.2.most r116.2.2.2.bad u70) fun Ai=>tb ((pD 56 w63 [(⟨r116.2.1,Ai.2.term⟩:mU)])) fun l172=>some (.n,(l172,Ai.1))) fun e132=>some (e132,(w63,r116.2.2.2))
theorem afN (p0:IR) (w64:Int) (w66:(List Int)) (w67:Int) (w68:Bool) (w63:(List mU)) (w51:Int):(Rl KK (.slice (Rw mU.cells p0.blocks) .no) (.int .i64 w64) ([.cells [(.int .i64 p0.temps),(.slice (Rw nH.cells p0.arrays) .no),(.slice (Rw mU.cells p0.blocks) .no),(.int .i64 p0.inn),(.int .i64 p0.out)],.cells [(.int .i64 0),(.slice (Rw nH.cells []) (.own 2)),(.slice (Rw mU.cells []) (.own 3)),(.int .i64 0),(.int .i64 0)],.front 0 0,.front 0 0,.cells [(.slice (Rw (ci .i64) w66) .no),(.int .i64 w67),(.bool w68)],oR 5 (aa5 w63)]:lT) (.ptr 0 0) (.ptr 1 0) (.int .i64 0) (.ptr 4 0) (.slice (Rw mU.cells w63) (.own 5)) (.int .i64 w51))=tm (ER p0 w64 w66 w67 w68 w63) fun r=>(r.1.ex,[(.ptr 0 0),(.ptr 1 0),(.int .i64 0),(.ptr 4 0),(.slice (Rw mU.cells r.2.1) (.own 5)),(.slice (Rw mU.cells p0.blocks) .no),(.int .i64 w51),(.int .i64 w64)],([.cells [(.int .i64 p0.temps),(.slice (Rw nH.cells p0.arrays) .no),(.slice (Rw mU.cells p0.blocks) .no),(.int .i64 p0.inn),(.int .i64 p0.out)],.cells [(.int .i64 0),(.slice (Rw nH.cells []) (.own 2)),(.slice (Rw mU.cells []) (.own 3)),(.int .i64 0),(.int .i64 0)],.front 0 0,.front 0 0,.cells [(.slice (Rw (ci .i64) r.2.2.slots) .no),(.int .i64 r.2.2.most),(.bool r.2.2.bad)],oR 5 (aa5 r.2.1)]:lT)):=by
 simp [-l9,-lV,-lU,-lW,-lZ,-lY,-lX,Rl,ER,afP,afO,akF]
noncomputable def M6 (K:mA) (m:Nat) (s:List lS×lT):Option R :=
 (fun aM aN aO aP aQ aH aB aC aU=>bo .lss aC aB fun aV=>mH aV ((Rl K aH aC aU aM aN aO aP aQ aB).bind fun aA=>(fun aG aI aJ aK aL aD aE aF aR=>Ex.inBlock 1 aA.1 (bo .add aF (.int .i64 1) fun aT=>mK m .normal [aG,aI,aJ,aK,aL,aD,aE,aT] aR) (fun aS=>mK m aS [aG,aI,aJ,aK,aL,aD,aE,aF] aR)) (gd aA.2.1 0) (gd aA.2.1 1) (gd aA.2.1 2) (gd aA.2.1 3) (gd aA.2.1 4) (gd aA.2.1 5) (gd aA.2.1 6) (gd aA.2.1 7) aA.2.2) (mK m (.exit 0) [aM,aN,aO,aP,aQ,aH,aB,aC] aU)) (gd s.1 0) (gd s.1 1) (gd s.1 2) (gd s.1 3) (gd s.1 4) (gd s.1 5) (gd s.1 6) (gd s.1 7) s.2
noncomputable def A3 (p0:IR) (w51:Int) (s52:(List mU)×Int×m_):Option (Ey×(List mU)×Int×m_) :=
 tc (decide (s52.2.1<w51)) (tb (ER p0 s52.2.1 s52.2.2.slots s52.2.2.most s52.2.2.bad s52.1) fun r173=>vA 1 r173.1 (some (.n,(r173.2.1,(IntKind.wrap .i64 (s52.2.1+1)),r173.2.2))) fun e183=>some (e183,(r173.2.1,s52.2.1,r173.2.2))) (some ((.x 0),(s52.1,s52.2.1,s52.2.2)))
theorem acG (p0:IR) (w51:Int) (s52:(List mU)×Int×m_):M6 KK 6 ([(.ptr 0 0),(.ptr 1 0),(.int .i64 0),(.ptr 4 0),(.slice (Rw mU.cells s52.1) (.own 5)),(.slice (Rw mU.cells p0.blocks) .no),(.int .i64 w51),(.int .i64 s52.2.1)],([.cells [(.int .i64 p0.temps),(.slice (Rw nH.cells p0.arrays) .no),(.slice (Rw mU.cells p0.blocks) .no),(.int .i64 p0.inn),(.int .i64 p0.out)],.cells [(.int .i64 0),(.slice (Rw nH.cells []) (.own 2)),(.slice (Rw mU.cells []) (.own 3)),(.int .i64 0),(.int .i64 0)],.front 0 0,.front 0 0,.cells [(.slice (Rw (ci .i64) s52.2.2.slots) .no),(.int .i64 s52.2.2.most),(.bool s52.2.2.bad)],oR 5 (aa5 s52.1)]:lT))=tm (A3 p0 w51 s52) fun r=>(r.1.ex,[(.ptr 0 0),(.ptr 1 0),(.int .i64 0),(.ptr 4 0),(.slice (Rw mU.cells r.2.1) (.own 5)),(.slice (Rw mU.cells p0.blocks) .no),(.int .i64 w51),(.int .i64 r.2.2.1)],([.cells [(.int .i64 p0.temps),(.slice (Rw nH.cells p0.arrays) .no),(.slice (Rw mU.cells p0.blocks) .no),(.int .i64 p0.inn),(.int .i64 p0.out)],.cells [(.int .i64 0),(.slice (Rw nH.cells []) (.own 2)),(.slice (Rw mU.cells []) (.own 3)),(.int .i64 0),(.int .i64 0)],.front 0 0,.front 0 0,.cells [(.slice (Rw (ci .i64) r.2.2.2.slots) .no),(.int .i64 r.2.2.2.most),(.bool r.2.2.2.bad)],oR 5 (aa5 r.2.1)]:lT)):=by
 simp [-l9,-lV,-lU,-lW,-lZ,-lY,-lX,M6,A3,afN]
theorem afQ (p0:IR) (w51:Int) (r39:(List Int)) (i4:Int):nL (M6 KK 6) ([(.ptr 0 0),(.ptr 1 0),(.int .i64 0),(.ptr 4 0),(.slice (Rw mU.cells []) (.own 5)),(.slice (Rw mU.cells p0.blocks) .no),(.int .i64 w51),(.int .i64 i4)],([.cells [(.int .i64 p0.temps),(.slice (Rw nH.cells p0.arrays) .no),(.slice (Rw mU.cells p0.blocks) .no),(.int .i64 p0.inn),(.int .i64 p0.out)],.cells [(.int .i64 0),(.slice (Rw nH.cells []) (.own 2)),(.slice (Rw mU.cells []) (.own 3)),(.int .i64 0),(.int .i64 0)],.front 0 0,.front 0 0,.cells [(.slice (Rw (ci .i64) r39) .no),(.int .i64 0),(.bool false)],.front 0 0]:lT))=tm (sG (A3 p0 w51) ([],i4,(⟨r39,0,false⟩:m_))) fun r=>(r.1.ex,[(.ptr 0 0),(.ptr 1 0),(.int .i64 0),(.ptr 4 0),(.slice (Rw mU.cells r.2.1) (.own 5)),(.slice (Rw mU.cells p0.blocks) .no),(.int .i64 w51),(.int .i64 r.2.2.1)],([.cells [(.int .i64 p0.temps),(.slice (Rw nH.cells p0.arrays) .no),(.slice (Rw mU.cells p0.blocks) .no),(.int .i64 p0.inn),(.int .i64 p0.out)],.cells [(.int .i64 0),(.slice (Rw nH.cells []) (.own 2)),(.slice (Rw mU.cells []) (.own 3)),(.int .i64 0),(.int .i64 0)],.front 0 0,.front 0 0,.cells [(.slice (Rw (ci .i64) r.2.2.2.slots) .no),(.int .i64 r.2.2.2.most),(.bool r.2.2.2.bad)],oR 5 (aa5 r.2.1)]:lT)):=by
 exact s7 (enc:=fun s52=>([(.ptr 0 0),(.ptr 1 0),(.int .i64 0),(.ptr 4 0),(.slice (Rw mU.cells s52.1) (.own 5)),(.slice (Rw mU.cells p0.blocks) .no),(.int .i64 w51),(.int .i64 s52.2.1)],([.cells [(.int .i64 p0.temps),(.slice (Rw nH.cells p0.arrays) .no),(.slice (Rw mU.cells p0.blocks) .no),(.int .i64 p0.inn),(.int .i64 p0.out)],.cells [(.int .i64 0),(.slice (Rw nH.cells []) (.own 2)),(.slice (Rw mU.cells []) (.own 3)),(.int .i64 0),(.int .i64 0)],.front 0 0,.front 0 0,.cells [(.slice (Rw (ci .i64) s52.2.2.slots) .no),(.int .i64 s52.2.2.most),(.bool s52.2.2.bad)],oR 5 (aa5 s52.1)]:lT))) (fun s52=>acG p0 w51 s52) ([],i4,(⟨r39,0,false⟩:m_))
noncomputable def m22 (K:mA) (a0 a1:lS) (h0:lT):Option (nT×lT) :=
 (mC (nP 5 h0 a0) fun aM bO=>mC (nP 5 bO (.agg [(.int .i64 0),(.slice (Rw nH.cells []) .nil),(.slice (Rw mU.cells []) .nil),(.int .i64 0),(.int .i64 0)])) fun aK bK=>ld true 5 bK aM fun t24=>ca (K 9 [(lS.l_ t24)] bK) fun bM aL=>bo .neq bM (.int .i64 0) fun t28=>mH t28 ((mV [(.int .i64 0),(.slice (Rw nH.cells []) .nil),(.slice (Rw mU.cells []) .nil),(.int .i64 0),(.int .i64 0)] [(0,1),(1,1),(2,1),(3,1),(4,1)] []).bind fun t29=>(mL 5 aL aK t29).bind fun bP=>some (.ret,[aK,bM],bP)) (ln a1 fun t31=>fa 0 aM fun t32=>ld false 1 aL t32 fun bS=>bo .neq t31 bS fun bT=>mH bT ((mV [(.int .i64 0),(.slice (Rw nH.cells []) .nil),(.slice (Rw mU.cells []) .nil),(.int .i64 0),(.int .i64 0)] [(0,1),(1,1),(2,1),(3,1),(4,1)] []).bind fun bU=>(mL 5 aL aK bU).bind fun bQ=>some (.ret,[aK,(.int .i64 2)],bQ)) (ca (K 50 [(lS.l_ a1)] aL) fun bV bR=>(mV [(.slice (Rw (ci .i64) []) .nil),(.int .i64 0),(.bool false)] [(0,1),(1,1),(2,1)] [(0,bV)]).bind fun bW=>mC (nP 3 bR bW) fun bX bL=>(fun(bY:lS) (aW:lT)=>fa 2 aM fun bZ=>ld false 1 aW bZ fun bN=>ln bN fun b_=>(nL (M6 K (aa5 aW)) ([aM,aK,(.int .i64 0),bX,bY,bN,b_,(.int .i64 0)],aW)).bind fun aC=>(fun aA aB aG aE aH aN aO aP aD=>Ex.nC aC.1 none (fun aQ=>Ex.inBlock 0 aQ ((mO aE).bind fun aX=>fa 2 aX fun aY=>ld false 1 aD aY fun aZ=>mH aZ ((mV [(.int .i64 0),(.slice (Rw nH.cells []) .nil),(.slice (Rw mU.cells []) .nil),(.int .i64 0),(.int .i64 0)] [(0,1),(1,1),(2,1),(3,1),(4,1)] []).bind fun a_=>(mL 5 aD aB a_).bind fun aS=>some (.ret,[aB,(.int .i64 2)],aS)) ((mO aE).bind fun bB=>fa 1 bB fun aF=>ld false 1 aD aF fun bC=>fa 2 aA fun bD=>(mL 1 (rZ (mX [0] [aF]) aD) bD aH).bind fun aT=>fa 0 aA fun bE=>(mL 1 (oD (mX [0] [aF]) aD aT) bE bC).bind fun aI=>fa 1 aA fun bF=>ld false 1 aI bF fun bG=>mC (nD 4 32 aI (.slice (Rw nH.cells []) .nil) bG) fun bH aU=>fa 1 aA fun bI=>(mL 1 aU bI bH).bind fun aJ=>ld true 5 aJ aA fun bJ=>(mL 5 aJ aB bJ).bind fun aV=>some (.ret,[aB,(.int .i64 0)],aV))) (fun aR=>some (aR,[aB,aG],aD)))) (gd aC.2.1 0) (gd aC.2.1 1) (gd aC.2.1 2) (gd aC.2.1 3) (gd aC.2.1 4) (gd aC.2.1 5) (gd aC.2.1 6) (gd aC.2.1 7) aC.2.2) (.slice (Rw mU.cells []) (.own (aa5 bL))) (bL++[.front 0 0])))).bind (aiB (aa5 h0))
theorem am8 (K:mA) (a0 a1:lS) (h0:lT):p9 Tryz.prog nM nL K 22 [a0,a1] h0=m22 (mW nM K) a0 a1 h0:=by kernel_rfl
noncomputable def VT (p0:IR) (p1:(List Int)):Option (IR×Int) :=
 tb ((Wf p0)) fun r27=>tc (!decide (r27=0)) (some ((⟨0,[],[],0,0⟩:IR),r27)) (tc (!decide (((aa5 p1:Nat):Int)=p0.temps)) (some ((⟨0,[],[],0,0⟩:IR),2)) (tb ((V3 p1)) fun r39=>tb (sG (A3 p0 ((aa5 p0.blocks:Nat):Int)) ([],0,(⟨r39,0,false⟩:m_))) fun r185=>uW r185.1 none fun e186=>vA 0 e186 (tc r185.2.2.2.bad (some ((⟨0,[],[],0,0⟩:IR),2)) (tc (List.isEmpty p0.arrays) (some ((⟨r185.2.2.2.most,[],r185.2.1,p0.inn,p0.out⟩:IR),0)) (tb ((pD 32 [] p0.arrays)) fun l213=>some ((⟨r185.2.2.2.most,l213,r185.2.1,p0.inn,p0.out⟩:IR),0)))) fun e196=>Ga e196 (some ((⟨0,[],[],0,0⟩:IR),0))))
theorem aAC (p0:IR) (p1:(List Int)):m22 KK (.agg [(.int .i64 p0.temps),(.slice (Rw nH.cells p0.arrays) .no),(.slice (Rw mU.cells p0.blocks) .no),(.int .i64 p0.inn),(.int .i64 p0.out)]) (.slice (Rw (ci .i64) p1) .no) []=tm (VT p0 p1) fun r=>(.ret (.tuple [(.agg [(.int .i64 r.1.temps),(.slice (Rw nH.cells r.1.arrays) .no),(.slice (Rw mU.cells r.1.blocks) .no),(.int .i64 r.1.inn),(.int .i64 r.1.out)]),(.int .i64 r.2)]),[]):=by
 simp [-l9,-lV,-lU,-lW,-lZ,-lY,-lX,m22,VT,rt9,aBO,afQ,aiB]
theorem awS (p0:IR) (p1:(List Int)) (h:lT):KK 22 [(.agg [(.int .i64 p0.temps),(.slice (Rw nH.cells p0.arrays) .no),(.slice (Rw mU.cells p0.blocks) .no),(.int .i64 p0.inn),(.int .i64 p0.out)]),(.slice (Rw (ci .i64) p1) .no)] h=tm (VT p0 p1) fun r=>(.ret (.tuple [(.agg [(.int .i64 r.1.temps),(.slice (Rw nH.cells r.1.arrays) .no),(.slice (Rw mU.cells r.1.blocks) .no),(.int .i64 r.1.inn),(.int .i64 r.1.out)]),(.int .i64 r.2)]),h):=oE rfl rfl (am8 ..) (aAC p0 p1)
end
section
open Go Hk
theorem pJ {α:Type}{xs:List α}{i:Nat}:o8 xs (i:Int)=xs[i]?:=by simp [o8]
theorem oI {α:Type}{by_:Nat}{xs ys:List α}(hb:by_≤100) (hl:xs.length≤4000000) (hy:ys.length≤4000000):pD by_ xs ys=some (xs++ys):=by
 unfold pD
 rw [if_pos]
 have:(xs.length+ys.length)*by_≤8000000*100:=Nat.mul_le_mul (by omega) hb
 omega
noncomputable def sl (l:List Int) (t:Int):Int:=l.getD t.toNat 0
noncomputable def okT (l:List Int) (t:Int):Bool:=decide (0≤sl l t)&&decide (sl l t<1048576)
noncomputable def uR (l:List Int) (t:Int):Int:=min (sl l t) 1048576
noncomputable def zT (l:List Int):List Int:=l.map fun s=>min s 1048576
noncomputable def An (l:List Int) (r:m_) (t:Int):m_:=⟨r.slots,max r.most (IntKind.wrap .i64 (uR l t+1)),r.bad || !okT l t⟩
theorem BZ {l:List Int}{ts:List Int}{r:m_}:(ts.foldl (An l) r).slots=r.slots:=by
 induction ts generalizing r with
 | nil=>rfl
 | cons t ts ih=>rw [List.foldl_cons,ih];rfl
theorem aqO {l:List Int}(hl:l.length≤2000000):V3 l=some (zT l):=by
 have key:∀(d i:Nat),l.length=i+d→sG (A6 l ((l.length:Nat):Int)) (zT (l.take i),(i:Int))=some (.x 0,(zT l,(l.length:Int))):=by
  intro d
  induction d with
  | zero =>
   intro i hi
   obtain rfl:i=l.length:=by omega
   rw [List.take_length]
   refine pM ?_ (by simp)
   simp [A6]
  | succ d ih =>
   intro i hi
   rw [←ih (i+1) (by omega)]
   refine p5 ?_
   have hil:i<l.length:=by omega
   have e1:o8 l (i:Int)=some l[i]:=by rw [pJ,ag8 hil]
   have e2:pD 8 (zT (l.take i)) [min l[i] 1048576]=some (zT (l.take (i+1))):=by
    rw [oI (by omega) (by simp [zT];omega) (by simp),List.take_succ_eq_append_getElem hil]
    simp only [zT,List.map_append,as6,List.map_nil]
   have w1:IntKind.i64.wrap ((i:Int)+1)=((i+1:Nat):Int):=by rw [wrap64 (by omega) (by omega),ax3];rfl
   have hii:(i:Int)<(l.length:Int):=by omega
   simp only [A6,e1,hii,decide_true,nV,mN,e2,w1]
 have:=key l.length 0 (by omega)
 have e0:((0:Nat):Int)=0:=rfl
 have e1:zT (l.take 0)=[]:=rfl
 rw [e0,e1] at this
 simp [V3,this]
theorem ZJ {l:List Int}{t:Int}{r:m_}(h0:0≤t) (h1:t.toNat<l.length) (hr:r.slots=zT l):DA t r=some (uR l t,An l r t):=by
 have e1:o8 r.slots t=some (uR l t):=by
  rw [hr]
  unfold o8
  rw [if_pos h0]
  unfold zT uR sl
  rw [List.getElem?_map,ag8 h1,List.getD_eq_getElem?_getD,ag8 h1]
  rfl
 have e2:(!okT l t)=(decide (uR l t<0) || decide (1048576≤uR l t)):=by
  unfold okT uR
  rw [Bool.eq_iff_iff]
  simp
  omega
 unfold DA
 rw [e1,mN]
 unfold An
 rw [e2]
 obtain⟨rs,rm,rb⟩:=r
 cases rb
 ·by_cases h2:uR l t<0 <;> simp [CD,CE,h2]
 ·simp [CD,CE]
noncomputable def We (o:Op):List Int:=pK o++if (oH o.kind).dst=true then [o.dst] else []
noncomputable def Pc (l:List Int) (o:Op):Op :=
 ⟨o.kind,if (oH o.kind).dst=true then uR l o.dst else o.dst,if 1≤(oH o.kind).src then uR l o.a else o.a,if 2≤(oH o.kind).src then uR l o.b else o.b,if 3≤(oH o.kind).src then uR l o.c else o.c,o.imm⟩
theorem aqP {l:List Int}{o:Op}{r:m_}(ht:∀t∈We o,0≤t∧t.toNat<l.length) (hr:r.slots=zT l):V4 o.kind o.dst o.a o.b o.c o.imm r=some (Pc l o,(We o).foldl (An l) r):=by
 have hs:=OX o.kind
 have key:∀(t:Int) (r:m_),t∈We o→r.slots=zT l→DA t r=some (uR l t,An l r t):=fun t r hm hr=>ZJ (ht t hm).1 (ht t hm).2 hr
 have eta:∀r:m_,(⟨r.slots,r.most,r.bad⟩:m_)=r:=fun r=>rfl
 have hsl:∀(r:m_) t,(An l r t).slots=r.slots:=fun r t=>rfl
 unfold V4
 simp only [Kv,mN]
 unfold Pc We at *
 unfold pK at *
 generalize hf:(oH o.kind).src=n at *
 cases hd:(oH o.kind).dst <;> rw [hd] at key ht <;>
  rcases (show n=0∨n=1∨n=2∨n=3 by omega) with rfl | rfl | rfl | rfl <;>
  simp [Hq,Hr,Hs,Ht,JO,hd,eta,key,hr,hsl]
theorem VV {l:List Int}{b:mU}(hb:b.ops.length≤2000000) (ht:∀o∈b.ops,∀t∈We o,0≤t∧t.toNat<l.length):∀(d i:Nat) (r:m_),b.ops.length=i+d→r.slots=zT l →
  sG (A2 b ((b.ops.length:Nat):Int)) ((b.ops.take i).map (Pc l),(i:Int),r)=some (.x 2,(b.ops.map (Pc l),(b.ops.length:Int),((b.ops.drop i).flatMap We).foldl (An l) r)):=by
 intro d
 induction d with
 | zero =>
  intro i r hi hr
  obtain rfl:i=b.ops.length:=by omega
  rw [List.take_length,List.drop_length]
  refine pM ?_ (by simp)
  simp [A2]
 | succ d ih =>
  intro i r hi hr
  have hil:i<b.ops.length:=by omega
  have hm:b.ops[i]∈b.ops:=List.getElem_mem hil
  have e3:(b.ops.drop i).flatMap We=We b.ops[i]++(b.ops.drop (i+1)).flatMap We:=by rw [ar7 hil,List.flatMap_cons]
  rw [e3,List.foldl_append,←ih (i+1) _ (by omega) (by rw [BZ];exact hr)]
  refine p5 ?_
  have e1:o8 b.ops (i:Int)=some b.ops[i]:=by rw [pJ,ag8 hil]
  have e4:=aqP (ht _ hm) hr
  have e2:pD 48 ((b.ops.take i).map (Pc l)) [Pc l b.ops[i]]=some ((b.ops.take (i+1)).map (Pc l)):=by
   rw [oI (by omega) (by simp;omega) (by simp),List.take_succ_eq_append_getElem hil]
   simp only [List.map_append,as6,List.map_nil]
  have w1:IntKind.i64.wrap ((i:Int)+1)=((i+1:Nat):Int):=by rw [wrap64 (by omega) (by omega),ax3];rfl
  have hii:(i:Int)<(b.ops.length:Int):=by omega
  simp only [A2,e1,hii,decide_true,nV,mN,e4,e2,w1]
noncomputable def VR (b:mU):List Int:=b.ops.flatMap We++if b.term.kind=2 then [b.term.a] else []
noncomputable def CK (l:List Int) (b:mU):mU:=⟨b.ops.map (Pc l),if b.term.kind=2 then⟨b.term.kind,uR l b.term.a,b.term.yes,b.term.no⟩ else b.term⟩
noncomputable def InT (p:IR) (l:List Int):Prop:=(∀b∈p.blocks,b.ops.length≤2000000∧∀t∈VR b,0≤t∧t.toNat<l.length)∧p.blocks.length≤2000000
theorem VU {p:IR}{l:List Int}{i:Nat}{b:mU}{r:m_}{bs:List mU}(hb:p.blocks[i]?=some b) (hi:InT p l) (hr:r.slots=zT l) (hbs:bs.length≤2000000) :
  ER p (i:Int) r.slots r.most r.bad bs=some (.n,(bs++[CK l b],(VR b).foldl (An l) r)):=by
 obtain⟨h1,h2⟩:=hi.1 b (List.mem_of_getElem? hb)
 have g:=VV (l:=l) h1 (fun o ho t ht=>h2 t (by unfold VR;exact List.mem_append_left _ (List.mem_flatMap.2 ⟨o,ho,ht⟩))) b.ops.length 0 r (by omega) hr
 have e0:((0:Nat):Int)=0:=rfl
 simp only [List.take_zero,List.map_nil,List.drop_zero,e0] at g
 have eta:(⟨r.slots,r.most,r.bad⟩:m_)=r:=rfl
 have e1:o8 p.blocks (i:Int)=some b:=by rw [pJ,hb]
 unfold ER
 rw [e1,mN,eta,g,mN]
 simp only [uW,vA,beq_self_eq_true,cond_true]
 generalize hR:(b.ops.flatMap We).foldl (An l) r=R at *
 have hRs:R.slots=zT l:=by rw [←hR,BZ,hr]
 have eR:(⟨R.slots,R.most,R.bad⟩:m_)=R:=rfl
 unfold CK VR
 rw [List.foldl_append,hR]
 by_cases hk:b.term.kind=2
 ·have hm:b.term.a∈VR b:=by unfold VR;rw [if_pos hk];simp
  have e5:=ZJ (r:=R) (h2 _ hm).1 (h2 _ hm).2 hRs
  simp only [ES,hk,decide_true,nV,eR,e5,mN,if_true]
  rw [oI (by omega) (by omega) (by simp)]
  simp [hk]
 ·simp only [ES,hk,decide_false,oJ,eR,mN,if_false]
  rw [oI (by omega) (by omega) (by simp)]
  simp
theorem VW {p:IR}{l:List Int}(hi:InT p l):∀(d i:Nat) (r:m_),p.blocks.length=i+d→r.slots=zT l →
  sG (A3 p ((p.blocks.length:Nat):Int)) ((p.blocks.take i).map (CK l),(i:Int),r)=some (.x 0,(p.blocks.map (CK l),(p.blocks.length:Int),((p.blocks.drop i).flatMap VR).foldl (An l) r)):=by
 have hn:=hi.2
 intro d
 induction d with
 | zero =>
  intro i r hd hr
  obtain rfl:i=p.blocks.length:=by omega
  rw [List.take_length,List.drop_length]
  refine pM ?_ (by simp)
  simp [A3]
 | succ d ih =>
  intro i r hd hr
  have hil:i<p.blocks.length:=by omega
  have e3:(p.blocks.drop i).flatMap VR=VR p.blocks[i]++(p.blocks.drop (i+1)).flatMap VR:=by rw [ar7 hil,List.flatMap_cons]
  rw [e3,List.foldl_append,←ih (i+1) _ (by omega) (by rw [BZ];exact hr)]
  refine p5 ?_
  have e4:=VU (bs:=(p.blocks.take i).map (CK l)) (ag8 hil) hi hr (by simp;omega)
  have e2:(p.blocks.take i).map (CK l)++[CK l p.blocks[i]]=(p.blocks.take (i+1)).map (CK l):=by
   rw [List.take_succ_eq_append_getElem hil];simp only [List.map_append,as6,List.map_nil]
  have w1:IntKind.i64.wrap ((i:Int)+1)=((i+1:Nat):Int):=by rw [wrap64 (by omega) (by omega),ax3];rfl
  have hii:(i:Int)<(p.blocks.length:Int):=by omega
  rw [e2] at e4
  simp only [A3,hii,decide_true,nV,e4,mN,w1,Dh]
noncomputable def DC:IR:=⟨0,[],[],0,0⟩
noncomputable def aaZ (p:IR):List Int:=p.blocks.flatMap VR
noncomputable def aa1 (p:IR) (l:List Int):IR×Int :=
 if pB p≠0 then(DC,pB p) else if (l.length:Int)≠p.temps then(DC,2) else
 if ((aaZ p).foldl (An l) ⟨zT l,0,false⟩).bad=true then(DC,2) else(⟨((aaZ p).foldl (An l) ⟨zT l,0,false⟩).most,p.arrays,p.blocks.map (CK l),p.inn,p.out⟩,0)
theorem alD {p:IR}{l:List Int}(h0:pB p=0) (hl:(l.length:Int)=p.temps):InT p l:=by
 obtain⟨hp,_⟩:=Ae h0
 refine⟨fun b hb=>⟨by have:=hp.len b hb;omega,fun t ht=>?_⟩,by have:=hp.nb;omega⟩
 have key:0≤t∧t<p.temps:=by
  unfold VR at ht
  rcases au0.1 ht with h | h
  ·obtain⟨o,ho,h⟩:=List.mem_flatMap.1 h
   unfold We at h
   rcases au0.1 h with h | h
   ·exact hp.use b hb o ho t h
   ·by_cases hd:(oH o.kind).dst=true
    ·rw [if_pos hd] at h;simp at h;subst h;exact hp.made b hb o ho hd
    ·rw [if_neg hd] at h;simp at h
  ·by_cases hk:b.term.kind=2
   ·rw [if_pos hk] at h;simp at h;subst h;exact hp.term b hb hk
   ·rw [if_neg hk] at h;simp at h
 omega
theorem aqN (p:IR) (l:List Int):VT p l=some (aa1 p l):=by
 unfold VT aa1
 simp only [Wf,mN]
 by_cases h0:pB p=0
 ·by_cases hl:(l.length:Int)=p.temps
  ·have hi:=alD h0 hl
   obtain⟨hp,_⟩:=Ae h0
   obtain⟨l00,_,_⟩:=uK h0
   have hal:=l00.a1
   have hll:l.length≤2000000:=by have:=hp.temps;omega
   have g:=VW hi p.blocks.length 0 ⟨zT l,0,false⟩ (by omega) rfl
   have e0:((0:Nat):Int)=0:=rfl
   simp only [List.take_zero,List.map_nil,List.drop_zero,e0] at g
   have ea:pD 32 [] p.arrays=some p.arrays:=by rw [oI (by omega) (by simp) (by omega)];rfl
   have fa:(p.blocks.flatMap VR)=aaZ p:=rfl
   rw [fa] at g
   generalize (aaZ p).foldl (An l) ⟨zT l,0,false⟩=R at *
   rw [aqO hll,mN,g,mN]
   simp only [h0,hl,uW,vA,beq_self_eq_true,cond_true,decide_true,Bool.not_true,oJ,ea,mN,ne_eq,not_true_eq_false,if_false]
   cases hR:R.bad with
   | true=>simp [DC]
   | false =>
    cases ha:p.arrays with
    | nil=>simp
    | cons x r=>simp
  ·simp [h0,hl,DC]
 ·simp [h0,DC]
end
section
open Go Hk
noncomputable def tA (n:Nat) (l:List Ins):Prop:=l.length≤n∧∀i∈l,wV i
theorem tA.mono {n m:Nat}{l:List Ins}(h:tA n l) (hm:n≤m):tA m l:=⟨ax9 h.1 hm,h.2⟩
theorem tA.nil {n:Nat}:tA n []:=⟨Nat.zero_le _,fun _ h=>by cases h⟩
theorem tA.app {n m:Nat}{l k:List Ins}(h:tA n l) (g:tA m k):tA (n+m) (l++k) :=
 ⟨by rw [au9];exact Nat.add_le_add h.1 g.1,fun i hi=>(au0.1 hi).elim (h.2 i) (g.2 i)⟩
theorem tA.cons {n:Nat}{l:List Ins}{i:Ins}(hi:wV i) (h:tA n l):tA (n+1) (i::l) :=
 ⟨Nat.succ_le_succ h.1,fun j hj=>(List.mem_cons.1 hj).elim (fun e=>e ▸ hi) (h.2 j)⟩
theorem rE {r n:Int}(h0:0≤r) (h1:r≤7):tA 2 (p8 r n) :=
 .cons (PK h0 (by omega) (Q9 n)) (.cons (Zk h0 (by omega) (ZG n)) .nil)
theorem JB {r n:Int}(h0:0≤r) (h1:r≤7):t60 r n=some (p8 r n):=by
 have a:¬r<0:=by omega
 have b:¬7<r:=by omega
 have e:Tb .i64 n 16=some (n.fdiv (2^min (Int.toNat 16) (IntKind.bits .i64))):=by
  unfold Tb;rw [if_neg (by omega)]
 simp [t60,JC,a,b,e,p8,Q8,ZF]
theorem Li (p q r:Int):∃b,t134 p q r=some b:=by
 unfold t134 Eu Cv Ew Ez
 by_cases h1:0≤p <;> by_cases h2:p≤65535 <;> by_cases h3:q=0 <;> by_cases h4:q=1 <;> by_cases h5:0≤r <;> simp [h1,h2,h3,h4,h5]
theorem Lj (p:Int):∃b,t135 p=some b:=by
 unfold t135;by_cases h1:p=0 <;> by_cases h2:p=1 <;> simp [h1,h2]
theorem apT {r:Int}(h0:0≤r) (h1:r≤6):wV ⟨19,r,7,0,0,0,0,false⟩:=by
 rcases (show r=0∨r=1∨r=2∨r=3∨r=4∨r=5∨r=6 by omega) with rfl | rfl | rfl | rfl | rfl | rfl | rfl <;> exact fun _=>rfl
theorem apU {r:Int}(h0:0≤r) (h1:r≤6):wV ⟨20,r,7,0,0,0,0,false⟩:=by
 rcases (show r=0∨r=1∨r=2∨r=3∨r=4∨r=5∨r=6 by omega) with rfl | rfl | rfl | rfl | rfl | rfl | rfl <;> exact fun _=>rfl
theorem Jf (off rail:Int) {r:Int}(h0:0≤r) (h1:r≤6):∃L,t129 off rail r=some L∧tA 3 L:=by
 obtain⟨b,hb⟩:=Li off rail r
 obtain⟨c,hc⟩:=Lj rail
 cases b
 ·exact⟨[],by simp [t129,hb],.nil⟩
 ·exact⟨_,by simp [t129,hb,hc,JB];rw [oI (by omega) (by simp [p8]) (by simp)];rfl,(rE (by omega) (by omega)).app (.cons (apT h0 h1) (.nil (n:=0)))⟩
theorem SV (off rail:Int) {r:Int}(h0:0≤r) (h1:r≤6):∃L,t139 off rail r=some L∧tA 3 L:=by
 obtain⟨b,hb⟩:=Li off rail r
 obtain⟨c,hc⟩:=Lj rail
 cases b
 ·exact⟨[],by simp [t139,hb],.nil⟩
 ·exact⟨_,by simp [t139,hb,hc,JB];rw [oI (by omega) (by simp [p8]) (by simp)];rfl,(rE (by omega) (by omega)).app (.cons (apU h0 h1) (.nil (n:=0)))⟩
theorem Cu (p:Int):∃b,t130 p=some b:=by
 unfold t130 Er;by_cases h1:p<0 <;> by_cases h2:16382<p <;> simp [h1,h2]
theorem Lk (p:Int):∃b,t140 p=some b:=by
 unfold t140 EF;by_cases h1:0≤p <;> simp [h1]
theorem lits {l:List Ins}(h:l.all (fun i=>decide (t8 i=some true))=true):tA l.length l :=
 ⟨ak5 _,fun i hi _=>of_decide_eq_true (List.all_eq_true.1 h i hi)⟩
end
section
open Go Hk
structure aaL (o:Op) (s:oW):Prop where
 sh:o.kind=11∨o.kind=12∨o.kind=13→0≤o.imm∧o.imm<32
 sp:o.kind=18∨o.kind=19→0≤s.off∧s.off≤65535
 dst:¬(o.kind=1∨o.kind=11∨o.kind=12∨o.kind=13∨o.kind=18∨o.kind=19)→(oH o.kind).dst=true
theorem ap9 (o:Op) (s:oW):∃b,t141 o s=some b∧(b=true→0≤s.off∧s.off≤65535):=by
 unfold t141 EG EH EI CA
 by_cases h1:s.elem=1 <;> by_cases h2:s.elem=4 <;> by_cases h3:0≤s.off <;> by_cases h4:s.off≤65535 <;> cases s.inp <;> simp [h1,h2,h3,h4] <;> omega
theorem FG (w:Bool) (o:Op) (s:oW):∃b,AS w o s=some b∧(b=true→aaL o s):=by
 cases w with
 | true=>exact⟨false,rfl,fun h=>by cases h⟩
 | false =>
  obtain⟨b,h5,h6⟩:=ap9 o s
  unfold AS
  by_cases k1:o.kind=1
  ·refine⟨decide (0≤o.imm)&&decide (o.imm≤4294967295),?_,fun _=>⟨by omega,by omega,by omega⟩⟩
   by_cases h1:0≤o.imm <;> simp [k1,EB,h1]
  by_cases k2:o.kind=11∨o.kind=12∨o.kind=13
  ·refine⟨decide (0≤o.imm)&&decide (o.imm<32),?_,fun h=>⟨fun _=>by simpa using h,by omega,by omega⟩⟩
   rcases k2 with k2 | k2 | k2 <;> by_cases h1:0≤o.imm <;> simp [k2,Cw,Cy,EC,h1]
  by_cases k3:o.kind=18∨o.kind=19
  ·refine⟨b,?_,fun h=>⟨by omega,fun _=>h6 h,by omega⟩⟩
   rcases k3 with k3 | k3 <;> simp [k3,Cw,Cy,EA,h5]
  ·refine⟨(oH o.kind).dst,?_,fun h=>⟨by omega,by omega,fun _=>h⟩⟩
   have e1:¬o.kind=11:=by omega
   have e2:¬o.kind=12:=by omega
   have e3:¬o.kind=13:=by omega
   have e4:¬o.kind=18:=by omega
   have e5:¬o.kind=19:=by omega
   simp [k1,e1,e2,e3,e4,e5,Cw,Cy,EA,t73,JO]
theorem qL {i:Nat}(h:i≤4000000):IntKind.i64.wrap ((i:Int)+1)=((i+1:Nat):Int):=by
 rw [wrap64 (by omega) (by omega),ax3];rfl
theorem VO {l:List Int}(hl:l.length≤4000000):∀(d i:Nat),l.length=i+d→∃e j,sG (yV l (l.length:Int)) (i:Int)=some (e,j)∧(e=.r∨e=.x 0):=by
 intro d
 induction d with
 | zero =>
  intro i hi
  refine⟨.x 0,_,pM (s':=(i:Int)) ?_ (by simp),.inr rfl⟩
  have:¬(i:Int)<(l.length:Int):=by omega
  simp [yV,this]
 | succ d ih =>
  intro i hi
  have hil:i<l.length:=by omega
  obtain⟨b,hb⟩:=Lk l[i]
  have e1:o8 l (i:Int)=some l[i]:=by rw [pJ,ag8 hil]
  have hii:(i:Int)<(l.length:Int):=by omega
  cases b
  ·exact⟨.r,_,pM (s':=(i:Int)) (by simp [yV,hii,e1,hb]) (by simp),.inl rfl⟩
  ·obtain⟨e,j,h1,h2⟩:=ih (i+1) (by omega)
   refine⟨e,j,?_,h2⟩
   rw [←h1]
   exact p5 (by simp [yV,hii,e1,hb,qL (show i≤4000000 by omega)])
theorem Ly (o:Op):(pK o).length≤3:=by
 unfold pK;rw [List.length_take];exact Nat.min_le_right ..
theorem ap7 (o:Op) (s:oW) (rail:Int):∃b,t136 o s rail=some b∧(b=true→aaL o s):=by
 obtain⟨e,j,h1,h2⟩:=VO (l:=pK o) (by have:=Ly o;omega) (pK o).length 0 (by omega)
 have e0:((0:Nat):Int)=0:=rfl
 rw [e0] at h1
 unfold t136
 simp only [t36,Kv,mN,h1]
 rcases h2 with rfl | rfl
 ·exact⟨false,rfl,fun h=>by cases h⟩
 ·simp only [uW,vA,beq_self_eq_true,cond_true,t73,JO,mN]
  have key:∀w,∃b,Cz w rail o s=some b∧(b=true→aaL o s):=by
   intro w
   unfold Cz
   cases w
   ·cases (!decide (rail=0))
    ·exact FG false o s
    ·exact FG _ o s
   ·exact FG true o s
  cases (oH o.kind).dst
  ·exact key false
  ·obtain⟨b,hb⟩:=Lk o.dst
   simp only [nV,hb,mN]
   exact key (!b)
theorem aiZ {i:Int}(h0:0≤i) (h1:i<32):wV ⟨5,3,0,0,0,i,0,false⟩∧wV ⟨5,4,0,0,0,i,0,false⟩:=by
 have h2:i≤31:=by omega
 constructor <;> intro _ <;>
 simp [t8,t15,AT,AU,AV,AW,AX,AY,AZ,A0,zO,t30,B1,t31,B2,t32,Gz,GA,GB,h0,h2]
theorem ai0 {p i:Int}(hp:p=6∨p=8) (h0:1≤i) (h1:i<32):wV ⟨p,3,0,0,0,i,0,false⟩:=by
 have h2:i≤31:=by omega
 rcases hp with rfl | rfl <;> intro _ <;>
 simp [t8,t15,AT,AU,AV,AW,AX,AY,AZ,A0,zO,t30,B1,Jn,Jo,t31,B2,t32,Gz,GA,GB,JE,JF,JG,h0,h2]
theorem SX {p i:Int}(hp:p=5∨p=6∨p=8) (h0:0≤i) (h1:i<32):∃x,t142 p 3 0 i=some x∧wV x:=by
 by_cases hi:i=0
 ·subst hi;exact⟨_,by simp [t142,yX];rfl,fun _=>rfl⟩
 ·refine⟨_,by simp [t142,yX,hi];rfl,?_⟩
  rcases hp with rfl | rfl | rfl
  ·exact(aiZ h0 h1).1
  ·exact ai0 (.inl rfl) (by omega) h1
  ·exact ai0 (.inr rfl) (by omega) h1
end
noncomputable section
open Go Hk
noncomputable def XH (mm:Nat) (aB:R):Option (nT×lT) :=
 (fun aA aC=>Ex.oA aB.1 (De mm aA aC)) (gd aB.2.1 0) aB.2.2
theorem abQ (y0:Int) (y1:Int) (y2:Int) (y3:Int) (y4:Int) (y5:Int) (y6:Int) (y7:Int) (y8:Int) (y9:Bool) (h:lT):mD 1 10 [(.int .i64 0),(.int .i64 0),(.int .i64 0),(.int .i64 0),(.int .i64 0),(.int .i64 0),(.int .i64 0),(.int .i64 0),(.int .i64 0),(.bool false)] [(0,(.agg [(.int .i64 y0),(.int .i64 y1),(.int .i64 y2),(.int .i64 y3),(.int .i64 y4),(.int .i64 y5),(.int .i64 y6),(.int .i64 y7),(.int .i64 y8),(.bool y9)]))] h=some (.slice (Rw mS.cells [(⟨y0,y1,(⟨y2,y3,y4,y5,y6,y7,y8,y9⟩:Ins)⟩:mS)]) (.own h.length),h++[oR 10 1]):=by
 rfl
noncomputable def G0 (K:mA) (m:Nat) (s:List lS×lT):Option R :=
 (fun aD aE aB aC aA aF=>bo .lss aA aC fun aL=>mH aL (ix 8 aB aA fun aM=>ld true 8 aF aM fun t36=>mC (nP 8 aF (.agg [(.int .i64 0),(.int .i64 0),(.int .i64 0),(.int .i64 0),(.int .i64 0),(.int .i64 0),(.int .i64 0),(.bool false)])) fun aH aI=>(mL 8 aI aH t36).bind fun aG=>ld true 8 aG aH fun aN=>(mV [(.int .i64 0),(.int .i64 0),(.int .i64 0),(.int .i64 0),(.int .i64 0),(.int .i64 0),(.int .i64 0),(.int .i64 0),(.int .i64 0),(.bool false)] [(0,1),(1,1),(2,8)] [(2,aN)]).bind fun aO=>mC (mD 1 10 [(.int .i64 0),(.int .i64 0),(.int .i64 0),(.int .i64 0),(.int .i64 0),(.int .i64 0),(.int .i64 0),(.int .i64 0),(.int .i64 0),(.bool false)] [(0,aO)] aG) fun aP aJ=>mC (nD 10 80 aJ aE aP) fun aQ aK=>bo .add aA (.int .i64 1) fun aR=>mK m .normal [aD,aQ,aB,aC,aR] aK) (mK m (.exit 0) [aD,aE,aB,aC,aA] aF)) (gd s.1 0) (gd s.1 1) (gd s.1 2) (gd s.1 3) (gd s.1 4) s.2
noncomputable def xI (p0:(List Ins)) (aD:Int) (aA:(List mS)×Int):Option (Ey×(List mS)×Int) :=
 tc (decide (aA.2<aD)) (tb ((o8 p0 aA.2)) fun aC=>tb ((pD 80 aA.1 [(⟨0,0,aC⟩:mS)])) fun aB=>some (.n,(aB,(IntKind.wrap .i64 (aA.2+1))))) (some ((.x 0),(aA.1,aA.2)))
theorem abA (p0:(List Ins)) (w25:Int) (s26:(List mS)×Int):G0 KK 2 ([(.slice (Rw mS.cells []) (.own 0)),(.slice (Rw mS.cells s26.1) (.own 1)),(.slice (Rw Ins.cells p0) .no),(.int .i64 w25),(.int .i64 s26.2)],([.front 0 0,oR 10 (aa5 s26.1)]:lT))=tm (xI p0 w25 s26) fun r=>(r.1.ex,[(.slice (Rw mS.cells []) (.own 0)),(.slice (Rw mS.cells r.2.1) (.own 1)),(.slice (Rw Ins.cells p0) .no),(.int .i64 w25),(.int .i64 r.2.2)],([.front 0 0,oR 10 (aa5 r.2.1)]:lT)):=by
 simp [-l9,-lV,-lU,-lW,-lZ,-lY,-lX,G0,xI,abQ]
theorem aeY (p0:(List Ins)) (w25:Int) (i4:Int):nL (G0 KK 2) ([(.slice (Rw mS.cells []) (.own 0)),(.slice (Rw mS.cells []) (.own 1)),(.slice (Rw Ins.cells p0) .no),(.int .i64 w25),(.int .i64 i4)],([.front 0 0,.front 0 0]:lT))=tm (sG (xI p0 w25) ([],i4)) fun r=>(r.1.ex,[(.slice (Rw mS.cells []) (.own 0)),(.slice (Rw mS.cells r.2.1) (.own 1)),(.slice (Rw Ins.cells p0) .no),(.int .i64 w25),(.int .i64 r.2.2)],([.front 0 0,oR 10 (aa5 r.2.1)]:lT)):=by
 exact s7 (enc:=fun s26=>([(.slice (Rw mS.cells []) (.own 0)),(.slice (Rw mS.cells s26.1) (.own 1)),(.slice (Rw Ins.cells p0) .no),(.int .i64 w25),(.int .i64 s26.2)],([.front 0 0,oR 10 (aa5 s26.1)]:lT))) (fun s26=>abA p0 w25 s26) ([],i4)
noncomputable def al1 (K:mA) (a0:lS) (h0:lT):Option (nT×lT) :=
 ((fun(aL:lS) (aD:lT)=>(fun(t23:lS) (aE:lT)=>ln a0 fun t24=>(nL (G0 K (aa5 aE)) ([aL,t23,a0,t24,(.int .i64 0)],aE)).bind fun aA=>(fun aB aC aG aH aI aF=>Ex.nC aA.1 none (fun aJ=>Ex.inBlock 0 aJ (some (.ret,[aC],aF)) (fun aK=>some (aK,[aB],aF)))) (gd aA.2.1 0) (gd aA.2.1 1) (gd aA.2.1 2) (gd aA.2.1 3) (gd aA.2.1 4) aA.2.2) (.slice (Rw mS.cells []) (.own (aa5 aD))) (aD++[.front 0 0])) (.slice (Rw mS.cells []) (.own (aa5 h0))) (h0++[.front 0 0])).bind (XH (aa5 h0))
theorem adL (K:mA) (a0:lS) (h0:lT):p9 Tryz.prog nM nL K 131 [a0] h0=al1 (mW nM K) a0 h0:=by kernel_rfl
noncomputable def t131 (p0:(List Ins)):Option ((List mS)) :=
 tb (sG (xI p0 ((aa5 p0:Nat):Int)) ([],0)) fun aA=>uW aA.1 none fun aB=>vA 0 aB (some aA.2.1) fun aC=>Ga aC (some [])
theorem az4 (p0:(List Ins)):al1 KK (.slice (Rw Ins.cells p0) .no) []=tm (t131 p0) fun r=>(.ret (.slice (Rw mS.cells r) (.own 0)),[oR 10 (aa5 r)]):=by
 simp [-l9,-lV,-lU,-lW,-lZ,-lY,-lX,al1,t131,aeY,XH]
theorem avT (p0:(List Ins)) (h:lT):KK 131 [(.slice (Rw Ins.cells p0) .no)] h=tm (t131 p0) fun r=>(.ret (.slice (Rw mS.cells r) (.own (aa5 h))),h++[oR 10 (aa5 r)]):=w9 rfl rfl (adL ..) (az4 p0) fun r=>q7
noncomputable def XK (mm:Nat) (Bd:R):Option (nT×lT) :=
 (fun aA aB=>Ex.oA Bd.1 (nZ mm aA aB)) (gd Bd.2.1 0) Bd.2.2
noncomputable def al3 (K:mA) (a0 a1:lS) (h0:lT):Option (nT×lT) :=
 (mC (nP 1 h0 a0) fun aC aA=>bo .eql a1 (.int .i64 (-1)) fun aD=>mH aD (fa 0 aC fun t23=>ld true 1 aA t23 fun t24=>ca (K 14 [(lS.l_ t24)] aA) fun aE aB=>some (.ret,[aE],aB)) (some (.ret,[a1],aA))).bind (XK (aa5 h0))
theorem adN (K:mA) (a0 a1:lS) (h0:lT):p9 Tryz.prog nM nL K 133 [a0,a1] h0=al3 (mW nM K) a0 a1 h0:=by kernel_rfl
noncomputable def t133 (p0:Bf) (p1:Int):Option (Int) :=
 tc (decide (p1=(-1))) (tb ((t14 p0.lay)) fun aA=>some aA) (some p1)
theorem az6 (p0:Bf) (p1:Int):al3 KK (.agg [(.int .i64 p0.lay.n)]) (.int .i64 p1) []=tm (t133 p0 p1) fun r=>(.ret (.int .i64 r),[]):=by
 simp [-l9,-lV,-lU,-lW,-lZ,-lY,-lX,al3,t133,Qo,XK]
theorem avU (p0:Bf) (p1:Int) (h:lT):KK 133 [(.agg [(.int .i64 p0.lay.n)]),(.int .i64 p1)] h=tm (t133 p0 p1) fun r=>(.ret (.int .i64 r),h):=oE rfl rfl (adN ..) (az6 p0 p1)
noncomputable def XF (mm:Nat) (aB:R):Option (nT×lT) :=
 (fun aA aC=>Ex.oA aB.1 ((mF true 10 aC aA).bind fun t36=>nZ mm t36 aC)) (gd aB.2.1 0) aB.2.2
noncomputable def alX (K:mA) (a0 a1 a2:lS) (h0:lT):Option (nT×lT) :=
 (mC (nP 1 h0 a0) fun aG aC=>mC (nP 8 aC a2) fun aB aD=>mC (nP 10 aD (.agg [(.int .i64 0),(.int .i64 0),(.int .i64 0),(.int .i64 0),(.int .i64 0),(.int .i64 0),(.int .i64 0),(.int .i64 0),(.int .i64 0),(.bool false)])) fun t24 aA=>ld true 1 aA aG fun t26=>ld true 8 aA aB fun aH=>ca (K 133 [(lS.l_ t26),(lS.l_ a1)] (rZ (mX [0] [aB]) aA)) fun t28 aE=>(mV [(.int .i64 0),(.int .i64 0),(.int .i64 0),(.int .i64 0),(.int .i64 0),(.int .i64 0),(.int .i64 0),(.int .i64 0),(.int .i64 0),(.bool false)] [(0,1),(1,1),(2,8)] [(0,(.int .i64 2)),(1,t28),(2,aH)]).bind fun t31=>(mL 10 (oD (mX [0] [aB]) aA aE) t24 t31).bind fun aF=>some (.ret,[t24],aF)).bind (XF (aa5 h0))
theorem adI (K:mA) (a0 a1 a2:lS) (h0:lT):p9 Tryz.prog nM nL K 128 [a0,a1,a2] h0=alX (mW nM K) a0 a1 a2 h0:=by kernel_rfl
noncomputable def t128 (p0:Bf) (p1:Int) (p2:Ins):Option (mS) :=
 tb ((t133 p0 p1)) fun AM=>some (⟨2,AM,p2⟩:mS)
theorem az1 (p0:Bf) (p1:Int) (p2:Ins):alX KK (.agg [(.int .i64 p0.lay.n)]) (.int .i64 p1) (.agg [(.int .i64 p2.op),(.int .i64 p2.rd),(.int .i64 p2.rn),(.int .i64 p2.rm),(.int .i64 p2.ra),(.int .i64 p2.imm),(.int .i64 p2.cond),(.bool p2.wide)]) []=tm (t128 p0 p1 p2) fun r=>(.ret (.agg [(.int .i64 r.kind),(.int .i64 r.label),(.int .i64 r.ins.op),(.int .i64 r.ins.rd),(.int .i64 r.ins.rn),(.int .i64 r.ins.rm),(.int .i64 r.ins.ra),(.int .i64 r.ins.imm),(.int .i64 r.ins.cond),(.bool r.ins.wide)]),[]):=by
 simp [-l9,-lV,-lU,-lW,-lZ,-lY,-lX,alX,t128,avU,XF]
theorem x7 (p0:Bf) (p1:Int) (p2:Ins) (h:lT):KK 128 [(.agg [(.int .i64 p0.lay.n)]),(.int .i64 p1),(.agg [(.int .i64 p2.op),(.int .i64 p2.rd),(.int .i64 p2.rn),(.int .i64 p2.rm),(.int .i64 p2.ra),(.int .i64 p2.imm),(.int .i64 p2.cond),(.bool p2.wide)])] h=tm (t128 p0 p1 p2) fun r=>(.ret (.agg [(.int .i64 r.kind),(.int .i64 r.label),(.int .i64 r.ins.op),(.int .i64 r.ins.rd),(.int .i64 r.ins.rn),(.int .i64 r.ins.rm),(.int .i64 r.ins.ra),(.int .i64 r.ins.imm),(.int .i64 r.ins.cond),(.bool r.ins.wide)]),h):=oE rfl rfl (adI ..) (az1 p0 p1 p2)
theorem avS (x0_0:Int) (p1:Int) (x2_0:Int) (x2_1:Int) (x2_2:Int) (x2_3:Int) (x2_4:Int) (x2_5:Int) (x2_6:Int) (x2_7:Bool) (h:lT):KK 128 [(.agg [(.int .i64 x0_0)]),(.int .i64 p1),(.agg [(.int .i64 x2_0),(.int .i64 x2_1),(.int .i64 x2_2),(.int .i64 x2_3),(.int .i64 x2_4),(.int .i64 x2_5),(.int .i64 x2_6),(.bool x2_7)])] h=tm (t128 (⟨(⟨x0_0⟩:Lay)⟩:Bf) p1 (⟨x2_0,x2_1,x2_2,x2_3,x2_4,x2_5,x2_6,x2_7⟩:Ins)) fun r=>(.ret (.agg [(.int .i64 r.kind),(.int .i64 r.label),(.int .i64 r.ins.op),(.int .i64 r.ins.rd),(.int .i64 r.ins.rn),(.int .i64 r.ins.rm),(.int .i64 r.ins.ra),(.int .i64 r.ins.imm),(.int .i64 r.ins.cond),(.bool r.ins.wide)]),h):=x7 (⟨(⟨x0_0⟩:Lay)⟩:Bf) p1 (⟨x2_0,x2_1,x2_2,x2_3,x2_4,x2_5,x2_6,x2_7⟩:Ins) h
noncomputable def XC (mm:Nat) (aB:R):Option (nT×lT) :=
 (fun aA aC=>Ex.oA aB.1 (nZ mm aA aC)) (gd aB.2.1 0) aB.2.2
theorem abO (y0:Int) (y1:Int) (y2:Int) (y3:Int) (y4:Int) (y5:Int) (y6:Int) (y7:Int) (y8:Int) (y9:Bool) (h:lT):mD 1 10 [(.int .i64 0),(.int .i64 0),(.int .i64 0),(.int .i64 0),(.int .i64 0),(.int .i64 0),(.int .i64 0),(.int .i64 0),(.int .i64 0),(.bool false)] [(0,(.agg [(.int .i64 y0),(.int .i64 y1),(.int .i64 y2),(.int .i64 y3),(.int .i64 y4),(.int .i64 y5),(.int .i64 y6),(.int .i64 y7),(.int .i64 y8),(.bool y9)]))] h=some (.slice (Rw mS.cells [(⟨y0,y1,(⟨y2,y3,y4,y5,y6,y7,y8,y9⟩:Ins)⟩:mS)]) (.own h.length),h++[oR 10 1]):=by
 rfl
noncomputable def alU (K:mA) (a0 a1:lS) (h0:lT):Option (nT×lT) :=
 (mC (nP 1 h0 a0) fun aE aA=>(fun(t23:lS) (aB:lT)=>(mV [(.int .i64 0),(.int .i64 0),(.int .i64 0),(.int .i64 0),(.int .i64 0),(.int .i64 0),(.int .i64 0),(.int .i64 0),(.int .i64 0),(.bool false)] [(0,1),(1,1),(2,8)] [(0,(.int .i64 1)),(1,a1)]).bind fun t24=>mC (mD 1 10 [(.int .i64 0),(.int .i64 0),(.int .i64 0),(.int .i64 0),(.int .i64 0),(.int .i64 0),(.int .i64 0),(.int .i64 0),(.int .i64 0),(.bool false)] [(0,t24)] aB) fun aD aC=>some (.ret,[aD],aC)) (.slice (Rw mS.cells []) (.own (aa5 aA))) (aA++[.front 0 0])).bind (XC (aa5 h0))
theorem adF (K:mA) (a0 a1:lS) (h0:lT):p9 Tryz.prog nM nL K 125 [a0,a1] h0=alU (mW nM K) a0 a1 h0:=by kernel_rfl
noncomputable def t125 (p0:Bf) (p1:Int):Option ((List mS)) :=
 some [(⟨1,p1,(⟨0,0,0,0,0,0,0,false⟩:Ins)⟩:mS)]
theorem azY (p0:Bf) (p1:Int):alU KK (.agg [(.int .i64 p0.lay.n)]) (.int .i64 p1) []=tm (t125 p0 p1) fun r=>(.ret (.slice (Rw mS.cells r) .no),[]):=by
 simp [-l9,-lV,-lU,-lW,-lZ,-lY,-lX,alU,t125,abO,XC]
theorem Dq (p0:Bf) (p1:Int) (h:lT):KK 125 [(.agg [(.int .i64 p0.lay.n)]),(.int .i64 p1)] h=tm (t125 p0 p1) fun r=>(.ret (.slice (Rw mS.cells r) .no),h):=oE rfl rfl (adF ..) (azY p0 p1)
noncomputable def XD (mm:Nat) (EW:R):Option (nT×lT) :=
 (fun aA aB=>Ex.oA EW.1 (De mm aA aB)) (gd EW.2.1 0) EW.2.2
noncomputable def alV (K:mA) (a0:lS) (h0:lT):Option (nT×lT) :=
 (mC (nP 1 h0 a0) fun aE aA=>(fun(t23:lS) (aB:lT)=>(fun(aD:lS) (aC:lT)=>some (.ret,[aD],aC)) (.slice (Rw mS.cells []) (.own (aa5 aB))) (aB++[.front 0 0])) (.slice (Rw mS.cells []) (.own (aa5 aA))) (aA++[.front 0 0])).bind (XD (aa5 h0))
theorem adG (K:mA) (a0:lS) (h0:lT):p9 Tryz.prog nM nL K 126 [a0] h0=alV (mW nM K) a0 h0:=by kernel_rfl
noncomputable def t126 (p0:Bf):Option ((List mS)) :=
 some []
theorem azZ (p0:Bf):alV KK (.agg [(.int .i64 p0.lay.n)]) []=tm (t126 p0) fun r=>(.ret (.slice (Rw mS.cells r) (.own 0)),[oR 10 (aa5 r)]):=by
 simp [-l9,-lV,-lU,-lW,-lZ,-lY,-lX,alV,t126,XD]
theorem aeV (p0:Bf) (h:lT):KK 126 [(.agg [(.int .i64 p0.lay.n)])] h=tm (t126 p0) fun r=>(.ret (.slice (Rw mS.cells r) (.own (aa5 h))),h++[oR 10 (aa5 r)]):=w9 rfl rfl (adG ..) (azZ p0) fun r=>q7
noncomputable def XE (mm:Nat) (aB:R):Option (nT×lT) :=
 (fun aA aC=>Ex.oA aB.1 (nZ mm aA aC)) (gd aB.2.1 0) aB.2.2
noncomputable def alW (K:mA) (a0 a1 a2:lS) (h0:lT):Option (nT×lT) :=
 (mC (nP 1 h0 a0) fun aJ aC=>mC (nP 6 aC a1) fun aG aD=>mC (nP 3 aD a2) fun t24 aB=>(fun(aK:lS) (aA:lT)=>ld true 6 aA aG fun t28=>ld true 3 aA t24 fun t29=>ca (K 132 [(lS.l_ t28),(lS.l_ t29),(lS.l_ (.int .i64 0))] aA) fun t30 aE=>(nO 0 t30).bind fun aH=>(nO 1 t30).bind fun aL=>ca (K 131 [(lS.l_ aH)] aE) fun aI aF=>some (.ret,[aI],aF)) (.slice (Rw mS.cells []) (.own (aa5 aB))) (aB++[.front 0 0])).bind (XE (aa5 h0))
theorem adH (K:mA) (a0 a1 a2:lS) (h0:lT):p9 Tryz.prog nM nL K 127 [a0,a1,a2] h0=alW (mW nM K) a0 a1 a2 h0:=by kernel_rfl
noncomputable def t127 (p0:Bf) (p1:Op) (p2:oW):Option ((List mS)) :=
 tb ((t132 p1 p2 0)) fun Hf=>tb ((t131 Hf.1)) fun aA=>some aA
theorem az0 (p0:Bf) (p1:Op) (p2:oW):alW KK (.agg [(.int .i64 p0.lay.n)]) (.agg [(.int .i64 p1.kind),(.int .i64 p1.dst),(.int .i64 p1.a),(.int .i64 p1.b),(.int .i64 p1.c),(.int .i64 p1.imm)]) (.agg [(.int .i64 p2.elem),(.int .i64 p2.off),(.bool p2.inp)]) []=tm (t127 p0 p1 p2) fun r=>(.ret (.slice (Rw mS.cells r) .no),[]):=by
 simp [-l9,-lV,-lU,-lW,-lZ,-lY,-lX,alW,t127,sK,avT,XE]
theorem avR (p0:Bf) (p1:Op) (p2:oW) (h:lT):KK 127 [(.agg [(.int .i64 p0.lay.n)]),(.agg [(.int .i64 p1.kind),(.int .i64 p1.dst),(.int .i64 p1.a),(.int .i64 p1.b),(.int .i64 p1.c),(.int .i64 p1.imm)]),(.agg [(.int .i64 p2.elem),(.int .i64 p2.off),(.bool p2.inp)])] h=tm (t127 p0 p1 p2) fun r=>(.ret (.slice (Rw mS.cells r) .no),h):=oE rfl rfl (adH ..) (az0 p0 p1 p2)
noncomputable def XB (mm:Nat) (aA:R):Option (nT×lT) :=
 (fun aB aC=>Ex.oA aA.1 (nZ mm aB aC)) (gd aA.2.1 0) aA.2.2
theorem abI (y0:Int) (y1:Int) (y2:Int) (y3:Int) (y4:Int) (y5:Int) (y6:Int) (y7:Int) (y8:Int) (y9:Bool) (h:lT):mD 1 10 [(.int .i64 0),(.int .i64 0),(.int .i64 0),(.int .i64 0),(.int .i64 0),(.int .i64 0),(.int .i64 0),(.int .i64 0),(.int .i64 0),(.bool false)] [(0,(.agg [(.int .i64 y0),(.int .i64 y1),(.int .i64 y2),(.int .i64 y3),(.int .i64 y4),(.int .i64 y5),(.int .i64 y6),(.int .i64 y7),(.int .i64 y8),(.bool y9)]))] h=some (.slice (Rw mS.cells [(⟨y0,y1,(⟨y2,y3,y4,y5,y6,y7,y8,y9⟩:Ins)⟩:mS)]) (.own h.length),h++[oR 10 1]):=by
 rfl
theorem abJ (y0:Int) (y1:Int) (y2:Int) (y3:Int) (y4:Int) (y5:Int) (y6:Int) (y7:Int) (y8:Int) (y9:Bool) (h:lT):mD 1 10 [(.int .i64 0),(.int .i64 0),(.int .i64 0),(.int .i64 0),(.int .i64 0),(.int .i64 0),(.int .i64 0),(.int .i64 0),(.int .i64 0),(.bool false)] [(0,(.agg [(.int .i64 y0),(.int .i64 y1),(.int .i64 y2),(.int .i64 y3),(.int .i64 y4),(.int .i64 y5),(.int .i64 y6),(.int .i64 y7),(.int .i64 y8),(.bool y9)]))] h=some (.slice (Rw mS.cells [(⟨y0,y1,(⟨y2,y3,y4,y5,y6,y7,y8,y9⟩:Ins)⟩:mS)]) (.own h.length),h++[oR 10 1]):=by
 rfl
theorem abK (y0:Int) (y1:Int) (y2:Int) (y3:Int) (y4:Int) (y5:Int) (y6:Int) (y7:Bool) (h:lT):mD 1 8 [(.int .i64 0),(.int .i64 0),(.int .i64 0),(.int .i64 0),(.int .i64 0),(.int .i64 0),(.int .i64 0),(.bool false)] [(0,(.agg [(.int .i64 y0),(.int .i64 y1),(.int .i64 y2),(.int .i64 y3),(.int .i64 y4),(.int .i64 y5),(.int .i64 y6),(.bool y7)]))] h=some (.slice (Rw Ins.cells [(⟨y0,y1,y2,y3,y4,y5,y6,y7⟩:Ins)]) (.own h.length),h++[oR 8 1]):=by
 rfl
theorem abL (y0:Int) (y1:Int) (y2:Int) (y3:Int) (y4:Int) (y5:Int) (y6:Int) (y7:Int) (y8:Int) (y9:Bool) (h:lT):mD 1 10 [(.int .i64 0),(.int .i64 0),(.int .i64 0),(.int .i64 0),(.int .i64 0),(.int .i64 0),(.int .i64 0),(.int .i64 0),(.int .i64 0),(.bool false)] [(0,(.agg [(.int .i64 y0),(.int .i64 y1),(.int .i64 y2),(.int .i64 y3),(.int .i64 y4),(.int .i64 y5),(.int .i64 y6),(.int .i64 y7),(.int .i64 y8),(.bool y9)]))] h=some (.slice (Rw mS.cells [(⟨y0,y1,(⟨y2,y3,y4,y5,y6,y7,y8,y9⟩:Ins)⟩:mS)]) (.own h.length),h++[oR 10 1]):=by
 rfl
theorem abM (y0:Int) (y1:Int) (y2:Int) (y3:Int) (y4:Int) (y5:Int) (y6:Int) (y7:Bool) (y8:Int) (y9:Int) (y10:Int) (y11:Int) (y12:Int) (y13:Int) (y14:Int) (y15:Bool) (h:lT):mD 2 8 [(.int .i64 0),(.int .i64 0),(.int .i64 0),(.int .i64 0),(.int .i64 0),(.int .i64 0),(.int .i64 0),(.bool false)] [(0,(.agg [(.int .i64 y0),(.int .i64 y1),(.int .i64 y2),(.int .i64 y3),(.int .i64 y4),(.int .i64 y5),(.int .i64 y6),(.bool y7)])),(1,(.agg [(.int .i64 y8),(.int .i64 y9),(.int .i64 y10),(.int .i64 y11),(.int .i64 y12),(.int .i64 y13),(.int .i64 y14),(.bool y15)]))] h=some (.slice (Rw Ins.cells [(⟨y0,y1,y2,y3,y4,y5,y6,y7⟩:Ins),(⟨y8,y9,y10,y11,y12,y13,y14,y15⟩:Ins)]) (.own h.length),h++[oR 8 2]):=by
 rfl
theorem abN (y0:Int) (y1:Int) (y2:Int) (y3:Int) (y4:Int) (y5:Int) (y6:Int) (y7:Int) (y8:Int) (y9:Bool) (y10:Int) (y11:Int) (y12:Int) (y13:Int) (y14:Int) (y15:Int) (y16:Int) (y17:Int) (y18:Int) (y19:Bool) (h:lT):mD 2 10 [(.int .i64 0),(.int .i64 0),(.int .i64 0),(.int .i64 0),(.int .i64 0),(.int .i64 0),(.int .i64 0),(.int .i64 0),(.int .i64 0),(.bool false)] [(0,(.agg [(.int .i64 y0),(.int .i64 y1),(.int .i64 y2),(.int .i64 y3),(.int .i64 y4),(.int .i64 y5),(.int .i64 y6),(.int .i64 y7),(.int .i64 y8),(.bool y9)])),(1,(.agg [(.int .i64 y10),(.int .i64 y11),(.int .i64 y12),(.int .i64 y13),(.int .i64 y14),(.int .i64 y15),(.int .i64 y16),(.int .i64 y17),(.int .i64 y18),(.bool y19)]))] h=some (.slice (Rw mS.cells [(⟨y0,y1,(⟨y2,y3,y4,y5,y6,y7,y8,y9⟩:Ins)⟩:mS),(⟨y10,y11,(⟨y12,y13,y14,y15,y16,y17,y18,y19⟩:Ins)⟩:mS)]) (.own h.length),h++[oR 10 2]):=by
 rfl
noncomputable def alT (K:mA) (a0 a1 a2:lS) (h0:lT):Option (nT×lT) :=
 (mC (nP 1 h0 a0) fun aA a_=>mC (nP 4 a_ a2) fun aG aW=>(fun(cX:lS) (bB:lT)=>(mV [(.int .i64 0),(.int .i64 0),(.int .i64 0),(.int .i64 0),(.int .i64 0),(.int .i64 0),(.int .i64 0),(.bool false)] [(0,1),(1,1),(2,1),(3,1),(4,1),(5,1),(6,1),(7,1)] [(0,(.int .i64 24))]).bind fun t26=>mC (nP 8 bB (.agg [(.int .i64 0),(.int .i64 0),(.int .i64 0),(.int .i64 0),(.int .i64 0),(.int .i64 0),(.int .i64 0),(.bool false)])) fun aF bC=>(mL 8 bC aF t26).bind fun aC=>fa 0 aG fun t30=>ld false 1 aC t30 fun t31=>bo .eql t31 (.int .i64 1) fun t32=>mH t32 (ld true 1 aC aA fun bQ=>fa 2 aG fun bR=>ld false 1 aC bR fun bS=>ld true 8 aC aF fun t36=>ca (K 128 [(lS.l_ bQ),(lS.l_ bS),(lS.l_ t36)] aC) fun bT bD=>mC (mD 1 10 [(.int .i64 0),(.int .i64 0),(.int .i64 0),(.int .i64 0),(.int .i64 0),(.int .i64 0),(.int .i64 0),(.int .i64 0),(.int .i64 0),(.bool false)] [(0,bT)] bD) fun bU bE=>some (.ret,[bU],bE)) (bo .eql t31 (.int .i64 3) fun bV=>mH bV (ld true 1 aC aA fun bW=>fa 0 aA fun bX=>fa 0 bX fun bY=>ld false 1 aC bY fun bZ=>ld true 8 aC aF fun b_=>ca (K 128 [(lS.l_ bW),(lS.l_ bZ),(lS.l_ b_)] aC) fun cA bF=>mC (mD 1 10 [(.int .i64 0),(.int .i64 0),(.int .i64 0),(.int .i64 0),(.int .i64 0),(.int .i64 0),(.int .i64 0),(.int .i64 0),(.int .i64 0),(.bool false)] [(0,cA)] bF) fun cB bG=>some (.ret,[cB],bG)) ((mV [(.int .i64 0),(.int .i64 0),(.int .i64 0),(.int .i64 0),(.int .i64 0),(.int .i64 0),(.int .i64 0),(.bool false)] [(0,1),(1,1),(2,1),(3,1),(4,1),(5,1),(6,1),(7,1)] [(0,(.int .i64 23)),(3,(.int .i64 1))]).bind fun t53=>mC (nP 8 aC (.agg [(.int .i64 0),(.int .i64 0),(.int .i64 0),(.int .i64 0),(.int .i64 0),(.int .i64 0),(.int .i64 0),(.bool false)])) fun aV bH=>(mL 8 bH aV t53).bind fun aX=>fa 1 aG fun cC=>ld false 1 aX cC fun cD=>ca (K 130 [(lS.l_ cD)] aX) fun cE bI=>ca (K 129 [(lS.l_ cE),(lS.l_ (.int .i64 0)),(lS.l_ (.int .i64 0))] bI) fun cF bJ=>ca (K 60 [(lS.l_ (.int .i64 1)),(lS.l_ (.int .i64 4294967295))] bJ) fun cG bK=>mC (nD 8 64 bK cF cG) fun cH aD=>ld true 8 aD aV fun cI=>ld true 1 aD aA fun cJ=>fa 2 aG fun t73=>ld false 1 aD t73 fun cK=>(mV [(.int .i64 0),(.int .i64 0),(.int .i64 0),(.int .i64 0),(.int .i64 0),(.int .i64 0),(.int .i64 0),(.bool false)] [(0,1),(1,1),(2,1),(3,1),(4,1),(5,1),(6,1),(7,1)] [(0,(.int .i64 25)),(6,(.int .i64 0))]).bind fun cL=>mC (mD 1 8 [(.int .i64 0),(.int .i64 0),(.int .i64 0),(.int .i64 0),(.int .i64 0),(.int .i64 0),(.int .i64 0),(.bool false)] [(0,cI)] (rZ (mX [0,1] [aA,t73]) aD)) fun cM aL=>mC (nD 8 64 (rZ (mX [0,1] [aA,t73]) (oD (mX [0,1] [aA,t73]) aD aL)) cH cM) fun cN aY=>ca (K 131 [(lS.l_ cN)] (rZ (mX [0,1] [aA,t73]) (oD (mX [0,1] [aA,t73]) (oD (mX [0,1] [aA,t73]) aD aL) aY))) fun cO bL=>ca (K 128 [(lS.l_ cJ),(lS.l_ cK),(lS.l_ cL)] (oD (mX [0,1] [aA,t73]) (oD (mX [0,1] [aA,t73]) (oD (mX [0,1] [aA,t73]) aD aL) aY) bL)) fun cP bM=>mC (mD 1 10 [(.int .i64 0),(.int .i64 0),(.int .i64 0),(.int .i64 0),(.int .i64 0),(.int .i64 0),(.int .i64 0),(.int .i64 0),(.int .i64 0),(.bool false)] [(0,cP)] bM) fun cQ bN=>mC (nD 10 80 bN cO cQ) fun cR aZ=>(mV [(.int .i64 0),(.int .i64 0),(.int .i64 0),(.int .i64 0),(.int .i64 0),(.int .i64 0),(.int .i64 0),(.bool false)] [(0,1),(1,1),(2,1),(3,1),(4,1),(5,1),(6,1),(7,1)] [(0,(.int .i64 3)),(1,(.int .i64 1))]).bind fun cS=>ld true 8 aZ aV fun cT=>mC (mD 2 8 [(.int .i64 0),(.int .i64 0),(.int .i64 0),(.int .i64 0),(.int .i64 0),(.int .i64 0),(.int .i64 0),(.bool false)] [(0,cS),(1,cT)] aZ) fun cU bO=>ca (K 131 [(lS.l_ cU)] bO) fun cV bP=>mC (nD 10 80 bP cR cV) fun cW aB=>ld true 1 aB aA fun aM=>(mV [(.int .i64 0),(.int .i64 0),(.int .i64 0),(.int .i64 0),(.int .i64 0),(.int .i64 0),(.int .i64 0),(.bool false)] [(0,1),(1,1),(2,1),(3,1),(4,1),(5,1),(6,1),(7,1)] [(0,(.int .i64 25)),(6,(.int .i64 1))]).bind fun aN=>ld true 1 aB aA fun aO=>fa 3 aG fun aE=>ld false 1 aB aE fun aP=>ld true 8 aB aF fun aQ=>ca (K 128 [(lS.l_ aM),(lS.l_ (.int .i64 (-1))),(lS.l_ aN)] (rZ (mX [0,1,2] [aA,aE,aF]) aB)) fun aR aH=>ca (K 128 [(lS.l_ aO),(lS.l_ aP),(lS.l_ aQ)] (oD (mX [0,1,2] [aA,aE,aF]) aB aH)) fun aS aI=>mC (mD 2 10 [(.int .i64 0),(.int .i64 0),(.int .i64 0),(.int .i64 0),(.int .i64 0),(.int .i64 0),(.int .i64 0),(.int .i64 0),(.int .i64 0),(.bool false)] [(0,aR),(1,aS)] aI) fun aT aJ=>mC (nD 10 80 aJ cW aT) fun aU aK=>some (.ret,[aU],aK)))) (.slice (Rw mS.cells []) (.own (aa5 aW))) (aW++[.front 0 0])).bind (XB (aa5 h0))
theorem adE (K:mA) (a0 a1 a2:lS) (h0:lT):p9 Tryz.prog nM nL K 124 [a0,a1,a2] h0=alT (mW nM K) a0 a1 a2 h0:=by kernel_rfl
noncomputable def t124 (p0:Bf) (p1:Int) (p2:Term):Option ((List mS)) :=
 tc (decide (p2.kind=1)) (tb ((t128 p0 p2.yes (⟨24,0,0,0,0,0,0,false⟩:Ins))) fun aH=>some [aH]) (tc (decide (p2.kind=3)) (tb ((t128 p0 p0.lay.n (⟨24,0,0,0,0,0,0,false⟩:Ins))) fun aI=>some [aI]) (tb ((t130 p2.a)) fun aJ=>tb ((t129 aJ 0 0)) fun aK=>tb ((t60 1 4294967295)) fun aL=>tb ((pD 64 aK aL)) fun aE=>tb ((pD 64 aE [(⟨23,0,0,1,0,0,0,false⟩:Ins)])) fun aF=>tb ((t131 aF)) fun aM=>tb ((t128 p0 p2.yes (⟨25,0,0,0,0,0,0,false⟩:Ins))) fun aN=>tb ((pD 80 aM [aN])) fun aG=>tb ((t131 [(⟨3,1,0,0,0,0,0,false⟩:Ins),(⟨23,0,0,1,0,0,0,false⟩:Ins)])) fun aO=>tb ((pD 80 aG aO)) fun aA=>tb ((t128 p0 (-1) (⟨25,0,0,0,0,0,1,false⟩:Ins))) fun aC=>tb ((t128 p0 p2.no (⟨24,0,0,0,0,0,0,false⟩:Ins))) fun aD=>tb ((pD 80 aA [aC,aD])) fun aB=>some aB))
theorem azX (p0:Bf) (p1:Int) (p2:Term):alT KK (.agg [(.int .i64 p0.lay.n)]) (.int .i64 p1) (.agg [(.int .i64 p2.kind),(.int .i64 p2.a),(.int .i64 p2.yes),(.int .i64 p2.no)]) []=tm (t124 p0 p1 p2) fun r=>(.ret (.slice (Rw mS.cells r) .no),[]):=by
 simp [-l9,-lV,-lU,-lW,-lZ,-lY,-lX,alT,t124,avS,abI,abJ,aeW,VA,DE,abK,avT,abL,abM,abN,XB]
theorem Sx (p0:Bf) (p1:Int) (p2:Term) (h:lT):KK 124 [(.agg [(.int .i64 p0.lay.n)]),(.int .i64 p1),(.agg [(.int .i64 p2.kind),(.int .i64 p2.a),(.int .i64 p2.yes),(.int .i64 p2.no)])] h=tm (t124 p0 p1 p2) fun r=>(.ret (.slice (Rw mS.cells r) .no),h):=oE rfl rfl (adE ..) (azX p0 p1 p2)
end
section
open Go Hk
theorem Zx (p:Int):∃c,t135 p=some c∧(c=537133056∨c=537395200∨c=0):=by
 unfold t135;by_cases h1:p=0 <;> by_cases h2:p=1 <;> simp [h1,h2]
theorem aqA (o:Op) (s:oW) (rail:Int) (ho:0≤s.off∧s.off≤65535):∃L,t147 o s rail=some L∧tA 7 L:=by
 obtain⟨c,hc,hv⟩:=Zx rail
 obtain⟨b,hb,hbv⟩:∃b,EJ (decide (s.elem=4))=some b∧(0≤b∧b<32):=by
  unfold EJ;by_cases h:s.elem=4 <;> simp [h]
 obtain⟨r,hr,hrv⟩:∃r,EK s c=some r∧(r=536936448∨r=537133056∨r=537395200∨r=0):=by
  unfold EK;cases s.inp <;> simp <;> omega
 obtain⟨n,hn,hnv⟩:∃n,Tb .i64 r 16=some n∧(0≤n∧n≤65535):=by
  rcases hrv with rfl | rfl | rfl | rfl <;> exact⟨_,rfl,by decide⟩
 obtain⟨x,hx,hxv⟩:∃x,t142 5 4 0 b=some x∧wV x:=by
  by_cases hi:b=0
  ·subst hi;exact⟨_,by simp [t142,yX];rfl,fun _=>rfl⟩
  ·exact⟨_,by simp [t142,yX,hi],(aiZ hbv.1 hbv.2).2⟩
 obtain⟨y,hy,z,hz,hzv⟩:∃y,EL (decide (o.kind=19))=some y∧∃z,EM (decide (s.elem=1)) y=some z∧wV z:=by
  by_cases h1:o.kind=19 <;> by_cases h2:s.elem=1 <;> simp [EL,EM,h1,h2] <;> exact fun _=>rfl
 refine⟨[x,⟨3,5,0,0,0,s.off,0,false⟩,⟨14,6,4,5,0,0,0,false⟩,⟨3,5,0,0,0,0,0,false⟩,⟨4,5,0,0,0,n,0,false⟩,⟨18,5,6,0,16,0,0,false⟩,z],?_,
  .cons hxv (.cons (PK (by omega) (by omega) ho) (.cons (fun _=>rfl) (.cons (fun _=>rfl) (.cons (Zk (by omega) (by omega) hnv) (.cons (fun _=>rfl) (.cons hzv .nil))))))⟩
 unfold t147
 simp only [hc,mN,hb,hr,hn,hx,t146,hy,hz]
 rw [oI (by omega) (by simp) (by simp)]
 rfl
theorem Zy {k:Int}(h:3≤k∧k≤5∨7≤k∧k≤9):∃c,t148 k=some c∧wV ⟨c,3,0,1,0,0,0,false⟩:=by
 rcases (show k=3∨k=4∨k=5∨k=7∨k=8∨k=9 by omega) with rfl | rfl | rfl | rfl | rfl | rfl <;> exact⟨_,rfl,fun _=>rfl⟩
noncomputable def ah4:List Ins:=[⟨11,4,1,0,0,0,0,false⟩,⟨9,5,0,0,0,0,0,false⟩,⟨12,6,5,1,0,0,0,false⟩,⟨15,5,0,1,0,0,0,false⟩,⟨10,2,6,5,0,0,0,false⟩,⟨12,6,4,2,0,0,0,false⟩,⟨7,3,0,6,0,31,0,false⟩]
noncomputable def ai1:List Ins:=[⟨13,4,0,1,0,0,0,false⟩,⟨3,5,0,0,0,0,0,false⟩,⟨15,6,5,4,0,0,0,false⟩,⟨12,2,4,6,0,0,0,false⟩,⟨6,4,0,2,0,31,0,false⟩,⟨3,5,0,0,0,1,0,false⟩,⟨15,3,4,5,0,0,0,false⟩]
noncomputable def TJ:List Ins:=[⟨10,4,0,1,0,0,0,false⟩,⟨14,5,0,1,0,0,0,false⟩,⟨12,6,0,1,0,0,0,false⟩,⟨11,2,6,5,0,0,0,false⟩,⟨12,6,4,2,0,0,0,false⟩,⟨6,3,0,6,0,31,0,false⟩]
noncomputable def Un:List Ins:=[⟨10,4,0,2,0,0,0,false⟩,⟨11,5,1,2,0,0,0,false⟩,⟨12,3,4,5,0,0,0,false⟩]
theorem ap8 {o : Op} {s : oW} (rail : Int) (h : aaL o s) : ∃ L, t138 o s rail = some L ∧ tA 7 L := by
  have one : ∀ {x : Ins}, wV x → tA 7 [x] := fun hx => (tA.cons hx (.nil (n := 0))).mono (by omega)
  unfold t138
  by_cases k1 : o.kind = 1
  · exact ⟨_, by simp [k1, JB]; rfl, (rE (by omega) (by omega)).mono (by omega)⟩
  by_cases k2 : o.kind = 2
  · exact ⟨_, by simp [k2, t142, yX]; rfl, one fun _ => rfl⟩
  by_cases k3 : o.kind = 6
  · exact ⟨_, by simp [k3]; rfl, one fun _ => rfl⟩
  by_cases k4 : o.kind = 10
  · exact ⟨_, by simp [k4]; rfl, one fun _ => rfl⟩
  by_cases k5 : o.kind = 11
  · obtain ⟨x, hx, sx⟩ := SX (p := 5) (by omega) (h.sh (by omega)).1 (h.sh (by omega)).2
    exact ⟨_, by simp [k5, hx], one sx⟩
  by_cases k6 : o.kind = 12
  · obtain ⟨x, hx, sx⟩ := SX (p := 6) (by omega) (h.sh (by omega)).1 (h.sh (by omega)).2
    exact ⟨_, by simp [k6, hx], one sx⟩
  by_cases k7 : o.kind = 13
  · obtain ⟨x, hx, sx⟩ := SX (p := 8) (by omega) (h.sh (by omega)).1 (h.sh (by omega)).2
    exact ⟨_, by simp [k7, hx], one sx⟩
  by_cases k8 : o.kind = 14
  · exact ⟨ah4, by simp [k8, show t143 = some ah4 from rfl], lits (by rfl)⟩
  by_cases k9 : o.kind = 15
  · exact ⟨ai1, by simp [k9, show t144 = some ai1 from rfl], lits (by rfl)⟩
  by_cases k10 : o.kind = 16
  · exact ⟨TJ, by simp [k10, show t145 = some TJ from rfl], (lits (l := TJ) (by rfl)).mono (by simp [TJ])⟩
  by_cases k11 : o.kind = 17
  · exact ⟨Un, by simp [k11, t146, Un], (lits (l := Un) (by rfl)).mono (by simp [Un])⟩
  by_cases k12 : o.kind = 18 ∨ o.kind = 19
  · obtain ⟨L, hL, fL⟩ := aqA o s rail (h.sp k12)
    refine ⟨L, ?_, fL⟩
    rcases k12 with k | k <;> simp [k, ED, hL]
  · have hd := h.dst (by omega)
    obtain ⟨c, hc, sc⟩ := Zy (k := o.kind) (by
      unfold oH at hd
      split at hd; · omega
      split at hd; · omega
      split at hd; · omega
      split at hd; · omega
      split at hd; · omega
      split at hd <;> cases hd)
    have e4 : ¬ o.kind = 18 := by omega
    have e5 : ¬ o.kind = 19 := by omega
    exact ⟨_, by simp [k1, k2, k3, k4, k5, k6, k7, k8, k9, k10, k11, e4, e5, ED, hc, t146], one sc⟩
end
section
open Go Hk
theorem VN {rail:Int}{l:List Int}(hl:l.length≤3):∀(d i:Nat) (A:List Ins),l.length=i+d→tA (3*i) A→∃L j,sG (AR rail l (l.length:Int)) (A,(i:Int))=some (.x 0,(L,j))∧tA 9 L:=by
 intro d
 induction d with
 | zero =>
  intro i A hi hA
  refine⟨A,_,pM (s':=(A,(i:Int))) ?_ (by simp),hA.mono (by omega)⟩
  have:¬(i:Int)<(l.length:Int):=by omega
  simp [AR,this]
 | succ d ih =>
  intro i A hi hA
  have hil:i<l.length:=by omega
  obtain⟨b,hb⟩:=Cu l[i]
  obtain⟨G,hG,fG⟩:=Jf b rail (r:=(i:Int)) (by omega) (by omega)
  have e1:o8 l (i:Int)=some l[i]:=by rw [pJ,ag8 hil]
  have hii:(i:Int)<(l.length:Int):=by omega
  obtain⟨L,j,h1,h2⟩:=ih (i+1) (A++G) (by omega) ((hA.app fG).mono (by omega))
  refine⟨L,j,?_,h2⟩
  rw [←h1]
  refine p5 ?_
  have e2:pD 64 A G=some (A++G):=oI (by omega) (by have:=hA.1;omega) (by have:=fG.1;omega)
  simp [AR,hii,e1,hb,hG,e2,qL (show i≤4000000 by omega)]
theorem PW {x y:List Ins}(hx:x.length≤1000) (hy:y.length≤1000):t137 [x,y]=some (x++y):=by
 have w1:IntKind.i64.wrap 1=1:=rfl
 have w2:IntKind.i64.wrap 2=2:=rfl
 have e:sG (yW [x,y] ((aa5 [x,y]:Nat):Int)) ([],0)=some (.x 0,(x++y,2)):=by
  rw [p5 (s':=(x,(1:Int))),p5 (s':=(x++y,(2:Int))),pM (s':=(x++y,(2:Int))) (e:=.x 0)]
  ·simp [yW]
  ·simp
  ·simp [yW,o8,oI (show 64≤100 by omega) (show x.length≤4000000 by omega) (show y.length≤4000000 by omega),w2]
  ·simp [yW,o8,oI (xs:=([]:List Ins)) (show 64≤100 by omega) (by simp) (show x.length≤4000000 by omega),w1]
 unfold t137
 rw [e]
 rfl
theorem SS (o:Op) (s:oW) (rail:Int):∃L e,t132 o s rail=some (L,e)∧tA 19 L:=by
 obtain⟨b,hb,hm⟩:=ap7 o s rail
 cases b
 ·exact⟨[],2,by simp [t132,hb],.nil⟩
 have hm:=hm rfl
 obtain⟨U,j,hU,fU⟩:=VN (rail:=rail) (l:=pK o) (Ly o) (pK o).length 0 [] (by omega) .nil
 have e0:((0:Nat):Int)=0:=rfl
 rw [e0] at hU
 obtain⟨N,hN,fN⟩:=ap8 rail hm
 have hj:=PW (x:=U) (y:=N) (by have:=fU.1;omega) (by have:=fN.1;omega)
 obtain⟨d,hd⟩:=Cu o.dst
 obtain⟨P,hP,fP⟩:=SV d rail (r:=3) (by omega) (by omega)
 have hk:=PW (x:=U++N) (y:=P) (by have:=(fU.app fN).1;omega) (by have:=fP.1;omega)
 cases hf:(oH o.kind).dst
 ·exact⟨U++N,0,by simp [t132,hb,t36,Kv,hU,uW,vA,hN,hj,t73,JO,hf,Et],(fU.app fN).mono (by omega)⟩
 ·exact⟨U++N++P,0,by simp [t132,hb,t36,Kv,hU,uW,vA,hN,hj,t73,JO,hf,Et,hd,hP,hk],(fU.app fN).app fP⟩
theorem NK {l:List Ins}(hl:l.length≤2000000):t131 l=some (oK l):=by
 have key:∀(d i:Nat),l.length=i+d→sG (xI l (l.length:Int)) (oK (l.take i),(i:Int))=some (.x 0,(oK l,(l.length:Int))):=by
  intro d
  induction d with
  | zero =>
   intro i hi
   obtain rfl:i=l.length:=by omega
   rw [List.take_length]
   refine pM ?_ (by simp)
   simp [xI]
  | succ d ih =>
   intro i hi
   rw [←ih (i+1) (by omega)]
   refine p5 ?_
   have hil:i<l.length:=by omega
   have e1:o8 l (i:Int)=some l[i]:=by rw [pJ,ag8 hil]
   have e2:pD 80 (oK (l.take i)) [⟨0,0,l[i]⟩]=some (oK (l.take (i+1))):=by
    rw [oI (by omega) (by simp [oK];omega) (by simp),List.take_succ_eq_append_getElem hil]
    simp only [oK,List.map_append,as6,List.map_nil]
   have hii:(i:Int)<(l.length:Int):=by omega
   simp [xI,hii,e1,e2,qL (show i≤4000000 by omega)]
 have:=key l.length 0 (by omega)
 have e0:((0:Nat):Int)=0:=rfl
 have e1:oK (l.take 0)=[]:=rfl
 rw [e0,e1] at this
 simp [t131,this,uW,vA]
theorem Zw (p:Bf) (o:Op) (s:oW):∃L,t127 p o s=some (oK L)∧tA 19 L:=by
 obtain⟨L,e,h,f⟩:=SS o s 0
 exact⟨L,by simp [t127,h,NK (show L.length≤2000000 by have:=f.1;omega)],f⟩
noncomputable def Up (n k:Int):Int:=if k=-1 then IntKind.wrap .i64 (n+1) else k
theorem SR (p:Bf) (k:Int) (i:Ins):t128 p k i=some ⟨2,Up p.lay.n k,i⟩:=by
 unfold t128 t133 Up
 by_cases h:k=-1 <;> simp [h,t14]
noncomputable def Mj (n:Int) (t:Term) (G:List Ins):List mS :=
 if t.kind=1 then [GL (Up n t.yes)] else if t.kind=3 then [GL (Up n n)] else
 oK (G++p8 1 4294967295++[⟨23,0,0,1,0,0,0,false⟩])++[wH 0 (Up n t.yes)]++oK [⟨3,1,0,0,0,0,0,false⟩,⟨23,0,0,1,0,0,0,false⟩]++[wH 1 (Up n (-1)),GL (Up n t.no)]
theorem Zv (p:Bf) (k:Int) (t:Term):∃G,t124 p k t=some (Mj p.lay.n t G)∧tA 3 G:=by
 obtain⟨d,hd⟩:=Cu t.a
 obtain⟨G,hG,fG⟩:=Jf d 0 (r:=0) (by omega) (by omega)
 refine⟨G,?_,fG⟩
 have hl:=fG.1
 unfold t124 Mj
 by_cases k1:t.kind=1
 ·simp [k1,SR,GL]
 by_cases k3:t.kind=3
 ·simp [k3,SR,GL]
 have a1:pD 64 G (p8 1 4294967295)=some (G++p8 1 4294967295):=oI (by omega) (by omega) (by simp [p8])
 have a2:pD 64 (G++p8 1 4294967295) [(⟨23,0,0,1,0,0,0,false⟩:Ins)]=some (G++p8 1 4294967295++[⟨23,0,0,1,0,0,0,false⟩]):=oI (by omega) (by simp [p8];omega) (by simp)
 have a3:=NK (l:=G++p8 1 4294967295++[⟨23,0,0,1,0,0,0,false⟩]) (by simp [p8];omega)
 have a4:=NK (l:=[⟨3,1,0,0,0,0,0,false⟩,⟨23,0,0,1,0,0,0,false⟩]) (by simp)
 have a5:∀(x y:List mS),x.length≤2000000→y.length≤2000000→pD 80 x y=some (x++y):=fun x y hx hy=>oI (by omega) (by omega) (by omega)
 simp only [k1,k3,decide_false,oJ,if_false,hd,hG,mN,JB (show(0:Int)≤1 by omega) (show(1:Int)≤7 by omega),a1,a2,a3,a4,SR]
 rw [a5 _ _ (by simp [oK,p8];omega) (by simp)]
 simp only [mN]
 rw [a5 _ _ (by simp [oK,p8];omega) (by simp [oK])]
 simp only [mN]
 rw [a5 _ _ (by simp [oK,p8];omega) (by simp)]
 simp [wH,GL]
end
noncomputable section
open Go Hk
noncomputable def m10 (K:mA) (a0:lS) (h0:lT):Option (nT×lT) :=
 (mC (nP 5 h0 a0) fun t0 h1=>mC (nP 5 h1 (.agg [(.int .i64 0),(.slice [] .nil),(.slice [] .nil),(.int .i64 0),(.int .i64 0)])) fun t2 h3=>mC (nP 3 h3 (.agg [(.int .i64 0),(.slice [] .nil),(.int .i64 0)])) fun t4 h5=>(mF true 5 h5 t0).bind fun t6=>mR (K 21 [(lS.l_ t6)] h5) (fun t7 h8=>(nO 0 t7).bind fun t9=>(nO 1 t7).bind fun aV=>(nO 2 t7).bind fun aH=>(mP .neq aH (.int .i64 0)).bind fun t12=>mH t12 ((mV [(.int .i64 0),(.slice [] .nil),(.slice [] .nil),(.int .i64 0),(.int .i64 0)] [(0,1),(1,1),(2,1),(3,1),(4,1)] []).bind fun t13=>(mV [(.int .i64 0),(.slice [] .nil),(.int .i64 0)] [(0,1),(1,1),(2,1)] []).bind fun t14=>(mL 5 h8 t2 t13).bind fun aJ=>(mL 3 aJ t4 t14).bind fun aK=>some (.ret,[t2,t4,aH],aK)) ((mF true 5 h8 t0).bind fun aQ=>mR (K 22 [(lS.l_ aQ),(lS.l_ t9)] h8) (fun aI aL=>(nO 0 aI).bind fun aR=>(nO 1 aI).bind fun aW=>(mL 5 aL t0 aR).bind fun aG=>(mF true 5 aG t0).bind fun t23=>mR (K 23 [(lS.l_ t23)] aG) (fun t24 aM=>(nO 0 t24).bind fun t26=>(nO 1 t24).bind fun aS=>mC (nP 3 aM (.agg [(.int .i64 0),(.slice [] .nil),(.int .i64 0)])) fun t28 aN=>(mL 3 aN t28 t26).bind fun aE=>(mF true 5 aE t0).bind fun t31=>(mF true 3 aE t28).bind fun t32=>(mL 5 (rZ (mX [0] [t28]) aE) t2 t31).bind fun aO=>(mL 3 (oD (mX [0] [t28]) aE aO) t4 t32).bind fun aP=>some (.ret,[t2,t4,aS],aP)) (fun _ _=>none)) (fun _ _=>none))) (fun _ _=>none)).bind fun aA=>(fun aB aC aD aF=>Ex.oA aA.1 ((mF true 5 aF aB).bind fun aT=>(mF true 3 aF aC).bind fun aU=>nZ (aa5 h0) (.tuple [aT,aU,aD]) aF)) (ac5 aA.2.1 0 .junk) (ac5 aA.2.1 1 .junk) (ac5 aA.2.1 2 .junk) aA.2.2
theorem alR (K:mA) (a0:lS) (h0:lT):p9 Tryz.prog nM nL K 10 [a0] h0=m10 (mW nM K) a0 h0:=by kernel_rfl
noncomputable def Mv (K:mA) (m:Nat) (s:List lS×lT):Option R :=
 (fun aD aN aL aM aO aE aF aG aH aI aJ aK aB aC aA aS=>(mP .lss aA aC).bind fun aX=>mH aX ((mI 6 aB aA).bind fun aY=>(mF true 6 aS aY).bind fun aZ=>mC (nP 6 aS (.agg [(.int .i64 0),(.int .i64 0),(.int .i64 0),(.int .i64 0),(.int .i64 0),(.int .i64 0)])) fun aQ aT=>(mL 6 aT aQ aZ).bind fun aP=>(mF true 6 aP aQ).bind fun a_=>(mG 1 aL).bind fun bB=>(mF false 1 aP bB).bind fun bC=>(mF true 3 aP aM).bind fun bD=>(mF true 6 aP aQ).bind fun bE=>(match aD with | .iface t66 w67=>(DT Tryz.prog (.meth "hauberk/emit.op" t66)).bind fun bJ=>mR (K 24 [(lS.l_ bC),(lS.l_ bD),(lS.l_ bE)] (rZ (mX [0] [aQ]) aP)) (fun bF aU=>(wY Tryz.prog "hauberk/emit.op" aD).bind fun aR=>mR (rI nM K aR.1 (pO nM aR.1 (aR.2::[a_,bF])) (oD (mX [0] [aQ]) aP aU)) (fun bG aV=>mC (nD 10 80 aV aF bG) fun bH aW=>(mP .add aA (.int .i64 1)).bind fun bI=>mK m .normal [aD,aN,aL,aM,aO,aE,bH,aG,aH,aI,aJ,aK,aB,aC,bI] aW) (fun _ _=>none)) (fun _ _=>none) | _=>none)) (mK m (.exit 2) [aD,aN,aL,aM,aO,aE,aF,aG,aH,aI,aJ,aK,aB,aC,aA] aS)) (ac5 s.1 0 .junk) (ac5 s.1 1 .junk) (ac5 s.1 2 .junk) (ac5 s.1 3 .junk) (ac5 s.1 4 .junk) (ac5 s.1 5 .junk) (ac5 s.1 6 .junk) (ac5 s.1 7 .junk) (ac5 s.1 8 .junk) (ac5 s.1 9 .junk) (ac5 s.1 10 .junk) (ac5 s.1 11 .junk) (ac5 s.1 12 .junk) (ac5 s.1 13 .junk) (ac5 s.1 14 .junk) s.2
noncomputable def Mw (K:mA) (m:Nat) (s:List lS×lT):Option R :=
 (fun aS aY a_ bC bE aK aM aD aE aA bK=>(mP .lss aA aE).bind fun cB=>mH cB (((mI 5 aD aA).bind fun t26=>(mF true 5 bK t26).bind fun cC=>mC (nP 5 bK (.agg [(.slice [] .nil),(.int .i64 0),(.int .i64 0),(.int .i64 0),(.int .i64 0)])) fun t28 bY=>(mL 5 bY t28 cC).bind fun bZ=>(wY Tryz.prog "hauberk/emit.enter" aS).bind fun bM=>mR (rI nM K bM.1 (pO nM bM.1 (bM.2::[aA])) bZ) (fun t31 b_=>mC (nD 10 80 b_ aM t31) fun cD bO=>(mG 0 t28).bind fun t36=>(mF false 1 bO t36).bind fun bV=>(nK bV).bind fun cE=>(nL (Mv K (aa5 bO)) ([aS,aY,a_,bC,bE,aK,cD,aA,t28,aD,aE,aA,bV,cE,(.int .i64 0)],bO)).bind fun aC=>(fun aT aZ bB bD bF aL aN bH bI aO aP aQ bS bT bU bP=>Ex.nC aC.1 none (fun bW=>Ex.inBlock 2 bW ((mG 1 bI).bind fun cF=>(mF true 4 bP cF).bind fun cG=>(wY Tryz.prog "hauberk/emit.end" aT).bind fun bG=>mR (rI nM K bG.1 (pO nM bG.1 (bG.2::[bH,cG])) bP) (fun cH cA=>mC (nD 10 80 cA aN cH) fun bQ bN=>mK (aa5 bK) .normal [aT,aZ,bB,bD,bF,aL,bQ,aO,aP,aQ] bN) (fun _ _=>none)) (fun bX=>mK (aa5 bK) bX [aT,aZ,bB,bD,bF,aL,aN,aO,aP,aQ] bP))) (ac5 aC.2.1 0 .junk) (ac5 aC.2.1 1 .junk) (ac5 aC.2.1 2 .junk) (ac5 aC.2.1 3 .junk) (ac5 aC.2.1 4 .junk) (ac5 aC.2.1 5 .junk) (ac5 aC.2.1 6 .junk) (ac5 aC.2.1 7 .junk) (ac5 aC.2.1 8 .junk) (ac5 aC.2.1 9 .junk) (ac5 aC.2.1 10 .junk) (ac5 aC.2.1 11 .junk) (ac5 aC.2.1 12 .junk) (ac5 aC.2.1 13 .junk) (ac5 aC.2.1 14 .junk) aC.2.2) (fun _ _=>none)).bind fun aB=>(fun aR aU aV aW aX aF aG aH aI aJ bJ=>Ex.inBlock 1 aB.1 ((mP .add aJ (.int .i64 1)).bind fun bR=>mK m .normal [aR,aU,aV,aW,aX,aF,aG,aH,aI,bR] bJ) (fun bL=>mK m bL [aR,aU,aV,aW,aX,aF,aG,aH,aI,aJ] bJ)) (ac5 aB.2.1 0 .junk) (ac5 aB.2.1 1 .junk) (ac5 aB.2.1 2 .junk) (ac5 aB.2.1 3 .junk) (ac5 aB.2.1 4 .junk) (ac5 aB.2.1 5 .junk) (ac5 aB.2.1 6 .junk) (ac5 aB.2.1 7 .junk) (ac5 aB.2.1 8 .junk) (ac5 aB.2.1 9 .junk) aB.2.2) (mK m (.exit 0) [aS,aY,a_,bC,bE,aK,aM,aD,aE,aA] bK)) (ac5 s.1 0 .junk) (ac5 s.1 1 .junk) (ac5 s.1 2 .junk) (ac5 s.1 3 .junk) (ac5 s.1 4 .junk) (ac5 s.1 5 .junk) (ac5 s.1 6 .junk) (ac5 s.1 7 .junk) (ac5 s.1 8 .junk) (ac5 s.1 9 .junk) s.2
noncomputable def m11 (K:mA) (a0 a1 a2 a3 a4:lS) (h0:lT):Option (nT×lT) :=
 (mC (nP 5 h0 a0) fun t0 h1=>mC (nP 3 h1 a1) fun t2 h3=>mC (nP 1 h3 a3) fun t4 h5=>(fun(t7:lS) (h6:lT)=>(wY Tryz.prog "hauberk/emit.first" a2).bind fun aU=>mR (rI nM K aU.1 (pO nM aU.1 (aU.2::[])) h6) (fun t8 h9=>(mG 2 t0).bind fun bF=>(mF false 1 h9 bF).bind fun t12=>(nK t12).bind fun t13=>(nL (Mw K (aa5 h9)) ([a2,a4,t0,t2,t4,t7,t8,t12,t13,(.int .i64 0)],h9)).bind fun aB=>(fun aM aE aF aG aA aH aJ aP aQ aR aL=>Ex.nC aB.1 none (fun aS=>Ex.inBlock 0 aS ((mG 0 aA).bind fun t131=>(mF false 1 aL t131).bind fun t132=>(wY Tryz.prog "hauberk/emit.enter" aM).bind fun aK=>mR (rI nM K aK.1 (pO nM aK.1 (aK.2::[t132])) aL) (fun t133 aV=>mC (nD 10 80 aV aJ t133) fun t136 aC=>(mG 0 aG).bind fun t138=>(mF false 1 aC t138).bind fun t139=>(mG 4 aF).bind fun t140=>(mF false 1 aC t140).bind fun t141=>(mF true 1 aC aA).bind fun t142=>(mF true 1 aC aA).bind fun t143=>mR (K 14 [(lS.l_ t142)] (rZ (mX [0,1,2] [t138,t140,aA]) aC)) (fun t144 aN=>mR (K 26 [(lS.l_ t143)] (rZ (mX [0,1] [t138,t140]) (oD (mX [0,1,2] [t138,t140,aA]) aC aN))) (fun t146 aW=>mR (K 25 [(lS.l_ t139),(lS.l_ t141),(lS.l_ aE),(lS.l_ t144),(lS.l_ t146)] (oD (mX [0,1] [t138,t140]) (oD (mX [0,1,2] [t138,t140,aA]) aC aN) aW)) (fun t148 aX=>mC (nD 10 80 aX t136 t148) fun t150 aD=>(mF true 5 aD aF).bind fun bD=>(mF true 3 aD aG).bind fun t153=>(mF true 1 aD aA).bind fun t154=>(mF true 1 aD aA).bind fun t155=>mR (K 13 [(lS.l_ bD),(lS.l_ t153)] (rZ (mX [0,1] [aA,aA]) aD)) (fun t156 aO=>mR (K 14 [(lS.l_ t154)] (rZ (mX [0] [aA]) (oD (mX [0,1] [aA,aA]) aD aO))) (fun bE aY=>mR (K 28 [(lS.l_ t155)] (oD (mX [0] [aA]) (oD (mX [0,1] [aA,aA]) aD aO) aY)) (fun t160 aZ=>mR (K 27 [(lS.l_ t156),(lS.l_ aE),(lS.l_ bE),(lS.l_ t160)] aZ) (fun t162 a_=>mC (nD 10 80 a_ t150 t162) fun t164 bB=>some (.ret,[t164],bB)) (fun _ _=>none)) (fun _ _=>none)) (fun _ _=>none)) (fun _ _=>none)) (fun _ _=>none)) (fun _ _=>none)) (fun _ _=>none)) (fun _ _=>none)) (fun aT=>some (aT,[aH],aL)))) (ac5 aB.2.1 0 .junk) (ac5 aB.2.1 1 .junk) (ac5 aB.2.1 2 .junk) (ac5 aB.2.1 3 .junk) (ac5 aB.2.1 4 .junk) (ac5 aB.2.1 5 .junk) (ac5 aB.2.1 6 .junk) (ac5 aB.2.1 7 .junk) (ac5 aB.2.1 8 .junk) (ac5 aB.2.1 9 .junk) aB.2.2) (fun _ _=>none)) (.slice [] (.own (aa5 h5))) (h5++[.front 0 0])).bind fun Py=>(fun aI bC=>Ex.oA Py.1 (nZ (aa5 h0) aI bC)) (ac5 Py.2.1 0 .junk) Py.2.2
theorem alS (K:mA) (a0 a1 a2 a3 a4:lS) (h0:lT):p9 Tryz.prog nM nL K 11 [a0,a1,a2,a3,a4] h0=m11 (mW nM K) a0 a1 a2 a3 a4 h0:=by kernel_rfl
noncomputable def m7 (K:mA) (a0 a1:lS) (h0:lT):Option (nT×lT) :=
 (mC (nP 5 h0 a0) fun t0 h1=>(fun(t3:lS) (h2:lT)=>mC (nP 3 h2 (.agg [(.int .i64 0),(.int .i64 0),(.int .i64 0)])) fun t4 h5=>(mP .lss a1 (.int .i64 0)).bind fun t6=>(mE false t6 (mM a1 h5) (mM (.tuple []) h5)).bind (mY (fun t7 h8=>(mE false t6 ((mP .gtr t7 (.int .i64 2)).bind fun t9=>mM t9 h8) (mM (.tuple []) h8)).bind (mY (fun bZ aY=>(nA t6 (.bool true) bZ).bind fun t12=>mH t12 ((mV [(.int .i64 0),(.int .i64 0),(.int .i64 0)] [(0,1),(1,1),(2,1)] []).bind fun t13=>(fun(t15:lS) (bK:lT)=>(mL 3 bK t4 t13).bind fun bL=>some (.ret,[t15,t4,(.int .i64 0),(.int .i64 2)],bL)) (.slice [] (.own (aa5 aY))) (aY++[.front 0 0])) ((mF true 5 aY t0).bind fun b_=>mR (K 9 [(lS.l_ b_)] aY) (fun bF aZ=>(mP .neq bF (.int .i64 0)).bind fun cA=>mH cA ((mV [(.int .i64 0),(.int .i64 0),(.int .i64 0)] [(0,1),(1,1),(2,1)] []).bind fun cB=>(fun(t23:lS) (bM:lT)=>(mL 3 bM t4 cB).bind fun bN=>some (.ret,[t23,t4,(.int .i64 0),bF],bN)) (.slice [] (.own (aa5 aZ))) (aZ++[.front 0 0])) ((mF true 5 aZ t0).bind fun cC=>mR (K 10 [(lS.l_ cC)] aZ) (fun t26 bO=>(nO 0 t26).bind fun t28=>(nO 1 t26).bind fun t29=>(nO 2 t26).bind fun t30=>mC (nP 5 bO (.agg [(.int .i64 0),(.slice [] .nil),(.slice [] .nil),(.int .i64 0),(.int .i64 0)])) fun t31 bP=>mC (nP 3 bP (.agg [(.int .i64 0),(.slice [] .nil),(.int .i64 0)])) fun bD bQ=>(mL 5 bQ t31 t28).bind fun bR=>(mL 3 bR bD t29).bind fun a_=>(mP .neq t30 (.int .i64 0)).bind fun cD=>mH cD ((mV [(.int .i64 0),(.int .i64 0),(.int .i64 0)] [(0,1),(1,1),(2,1)] []).bind fun cE=>(fun(cF:lS) (bS:lT)=>(mL 3 bS t4 cE).bind fun bT=>some (.ret,[cF,t4,(.int .i64 0),t30],bT)) (.slice [] (.own (aa5 a_))) (a_++[.front 0 0])) ((mG 2 t31).bind fun cG=>(mF false 1 a_ cG).bind fun cH=>(nK cH).bind fun cI=>(mV [(.int .i64 0)] [(0,1)] [(0,cI)]).bind fun cJ=>mC (nP 1 a_ (.agg [(.int .i64 0)])) fun aS bU=>(mL 1 bU aS cJ).bind fun aP=>(mF true 1 aP aS).bind fun cK=>(mV [(.int .i64 0)] [(0,1)] [(0,cK)]).bind fun cL=>(mP .eql a1 (.int .i64 2)).bind fun cM=>(mH cM ((mF true 1 aP aS).bind fun cN=>(mV [(.int .i64 0)] [(0,1)] [(0,cN)]).bind fun t53=>mK (aa5 aP) .normal [a1,t3,t4,(.int .i64 0),(.int .i64 0),t31,bD,aS,(.iface 57 t53)] aP) (mK (aa5 aP) .normal [a1,t3,t4,(.int .i64 0),(.int .i64 0),t31,bD,aS,(.iface 54 cL)] aP)).bind fun aD=>(fun aG aH aI aK aL aE aA aB aN bB=>Ex.rQ aD.1 ((mF true 5 bB aE).bind fun cO=>(mF true 3 bB aA).bind fun cP=>(mF true 1 bB aB).bind fun cQ=>(mP .eql aG (.int .i64 2)).bind fun cR=>mR (K 11 [(lS.l_ cO),(lS.l_ cP),(lS.l_ aN),(lS.l_ cQ),(lS.l_ cR)] bB) (fun bG bC=>(mP .eql aG (.int .i64 1)).bind fun cS=>(mH cS (mR (K 12 [(lS.l_ bG)] bC) (fun cT bV=>mK (aa5 bC) .normal [aH,aI,aK,aL,aE,aA,aB,cT] bV) (fun _ _=>none)) (mK (aa5 bC) .normal [aH,aI,aK,aL,aE,aA,aB,bG] bC)).bind fun aF=>(fun bH aJ bI bJ aX aM aC aO aR=>Ex.rQ aF.1 ((mF true 5 aR aX).bind fun cU=>(mF true 3 aR aM).bind fun cV=>(mF true 1 aR aC).bind fun cW=>mR (K 13 [(lS.l_ cU),(lS.l_ cV)] (rZ (mX [0] [aC]) aR)) (fun cX bW=>mR (K 14 [(lS.l_ cW)] (oD (mX [0] [aC]) aR bW)) (fun cY bX=>(mL 3 bX aJ cX).bind fun bY=>some (.ret,[aO,aJ,cY,(.int .i64 0)],bY)) (fun _ _=>none)) (fun _ _=>none))) (ac5 aF.2.1 0 .junk) (ac5 aF.2.1 1 .junk) (ac5 aF.2.1 2 .junk) (ac5 aF.2.1 3 .junk) (ac5 aF.2.1 4 .junk) (ac5 aF.2.1 5 .junk) (ac5 aF.2.1 6 .junk) (ac5 aF.2.1 7 .junk) aF.2.2) (fun _ _=>none))) (ac5 aD.2.1 0 .junk) (ac5 aD.2.1 1 .junk) (ac5 aD.2.1 2 .junk) (ac5 aD.2.1 3 .junk) (ac5 aD.2.1 4 .junk) (ac5 aD.2.1 5 .junk) (ac5 aD.2.1 6 .junk) (ac5 aD.2.1 7 .junk) (ac5 aD.2.1 8 .junk) aD.2.2)) (fun _ _=>none))) (fun _ _=>none))) (fun _ _=>none))) (fun _ _=>none))) (.slice [] (.own (aa5 h1))) (h1++[.front 0 0])).bind fun aQ=>(fun aT aU aV aW bE=>Ex.oA aQ.1 ((mF true 3 bE aU).bind fun cZ=>nZ (aa5 h0) (.tuple [aT,cZ,aV,aW]) bE)) (ac5 aQ.2.1 0 .junk) (ac5 aQ.2.1 1 .junk) (ac5 aQ.2.1 2 .junk) (ac5 aQ.2.1 3 .junk) aQ.2.2
theorem KT (K:mA) (a0 a1:lS) (h0:lT):p9 Tryz.prog nM nL K 7 [a0,a1] h0=m7 (mW nM K) a0 a1 h0:=by kernel_rfl
end
noncomputable section
open Go Hk
structure Wrt (tw:Nat) (n:Int) (fiL:List mS) (enL:Int→List mS) (opL:Op→oW→Option (List mS)) (enD:Int→Term→Option (List mS)) where
 ff:Nat
 fe:Nat
 fo:Nat
 fd:Nat
 hf:zQ Tryz.prog tw "hauberk/emit.first" = some ff
 he:zQ Tryz.prog tw "hauberk/emit.enter" = some fe
 ho:zQ Tryz.prog tw "hauberk/emit.op" = some fo
 hd:zQ Tryz.prog tw "hauberk/emit.end" = some fd
 kf:∀h,rI nM KK ff (pO nM ff [.agg [.int .i64 n]]) h=some (.ret (.slice (Rw mS.cells fiL) (.own h.length)),h++[oR 10 fiL.length])
 ke:∀k h,rI nM KK fe (pO nM fe [.agg [.int .i64 n],.int .i64 k]) h=some (.ret (.slice (Rw mS.cells (enL k)) .no),h)
 ko:∀(o:Op) (s:oW) h,rI nM KK fo (pO nM fo [.agg [.int .i64 n],.agg [.int .i64 o.kind,.int .i64 o.dst,.int .i64 o.a,.int .i64 o.b,.int .i64 o.c,.int .i64 o.imm],.agg [.int .i64 s.elem,.int .i64 s.off,.bool s.inp]]) h=tm (opL o s) fun r=>(.ret (.slice (Rw mS.cells r) .no),h)
 kd:∀(k:Int) (t:Term) h,rI nM KK fd (pO nM fd [.agg [.int .i64 n],.int .i64 k,.agg [.int .i64 t.kind,.int .i64 t.a,.int .i64 t.yes,.int .i64 t.no]]) h=tm (enD k t) fun r=>(.ret (.slice (Rw mS.cells r) .no),h)
section
variable {tw:Nat}{n:Int}{fiL:List mS}{enL:Int→List mS}{opL:Op→oW→Option (List mS)}{enD:Int→Term→Option (List mS)}(w:Wrt tw n fiL enL opL enD)
theorem Ct {m:Nat}{h:lT}:lS.qJ m h (.iface tw (.agg [.int .i64 n]))=.iface tw (.agg [.int .i64 n]):=rfl
theorem QE {name:String}{v:lS}:wY Tryz.prog name (.iface tw v)=(zQ Tryz.prog tw name).map fun f=>(f,v):=rfl
theorem aa0 {name:String}:DT Tryz.prog (.meth name tw)=(zQ Tryz.prog tw name).map fun _=>.meth name tw:=rfl
noncomputable def w0 (q:IR) (f:uV) (b:mU) (opL:Op→oW→Option (List mS)) (s:List mS×Int):Option (Ey×(List mS×Int)) :=
 tc (decide (s.2<(b.ops.length:Int))) (tb (o8 b.ops s.2) fun o=>tb (t24 q.arrays f o) fun p=>tb (opL o p) fun x=>tb (pD 80 s.1 x) fun l=>some (.n,(l,IntKind.wrap .i64 (s.2+1)))) (some (.x 2,s))
noncomputable def qA (q:IR):mT:=.cells [.int .i64 q.temps,.slice (Rw nH.cells q.arrays) .no,.slice (Rw mU.cells q.blocks) .no,.int .i64 q.inn,.int .i64 q.out]
noncomputable def fA (f:uV):mT:=.cells [.int .i64 f.image,.slice (Rw (ci .i64) f.arrays) .no,.int .i64 f.size]
noncomputable def bA (b:mU):mT:=.cells [.slice (Rw Op.cells b.ops) .no,.int .i64 b.term.kind,.int .i64 b.term.a,.int .i64 b.term.yes,.int .i64 b.term.no]
include w
set_option maxHeartbeats 4000000 in
theorem aCo (q:IR) (f:uV) (tb_:Bool) (ln:Int) (k:Int) (b:mU) (nb:Int) (s:List mS×Int) :
  Mv KK 7 ([.iface tw (.agg [.int .i64 n]),.bool tb_,.ptr 0 0,.ptr 1 0,.ptr 2 0,.slice [] (.own 3),.slice (Rw mS.cells s.1) (.own 4),.int .i64 k,.ptr 5 0,.slice (Rw mU.cells q.blocks) .no,.int .i64 nb,.int .i64 k,.slice (Rw Op.cells b.ops) .no,.int .i64 (b.ops.length:Int),.int .i64 s.2],
   [qA q,fA f,.cells [.int .i64 ln],.front 0 0,oR 10 s.1.length,bA b,.front 0 0]) =
  tm (w0 q f b opL s) fun r=>(r.1.ex,[.iface tw (.agg [.int .i64 n]),.bool tb_,.ptr 0 0,.ptr 1 0,.ptr 2 0,.slice [] (.own 3),.slice (Rw mS.cells r.2.1) (.own 4),.int .i64 k,.ptr 5 0,.slice (Rw mU.cells q.blocks) .no,.int .i64 nb,.int .i64 k,.slice (Rw Op.cells b.ops) .no,.int .i64 (b.ops.length:Int),.int .i64 r.2.2],
   [qA q,fA f,.cells [.int .i64 ln],.front 0 0,oR 10 r.2.1.length,bA b,.front 0 0]):=by
 have ko:=w.ko
 simp +contextual -implicitDefEqProofs (maxSteps:=2000000) [-l9,-lV,-lU,-lW,-lZ,-lY,-lX,Mv,w0,qA,fA,bA,QE,aa0,w.ho,ko,yE,Ct]
noncomputable def wS (n:Int) (tw:Nat) (q:IR) (f:uV) (tb_:Bool) (ln:Int) (s:List mS×Int):List lS×lT :=
 ([.iface tw (.agg [.int .i64 n]),.bool tb_,.ptr 0 0,.ptr 1 0,.ptr 2 0,.slice [] (.own 3),.slice (Rw mS.cells s.1) (.own 4),.slice (Rw mU.cells q.blocks) .no,.int .i64 (q.blocks.length:Int),.int .i64 s.2],
  [qA q,fA f,.cells [.int .i64 ln],.front 0 0,oR 10 s.1.length])
noncomputable def w1 (q:IR) (f:uV) (enL:Int→List mS) (opL:Op→oW→Option (List mS)) (enD:Int→Term→Option (List mS)) (s:List mS×Int):Option (Ey×(List mS×Int)) :=
 tc (decide (s.2<(q.blocks.length:Int))) (tb (o8 q.blocks s.2) fun b=>tb (pD 80 s.1 (enL s.2)) fun l=>tb (sG (w0 q f b opL) (l,0)) fun r=>uW r.1 none fun e =>
  vA 2 e (tb (enD s.2 b.term) fun x=>tb (pD 80 r.2.1 x) fun y=>some (.n,(y,IntKind.wrap .i64 (s.2+1)))) fun e=>vA 1 e (some (.n,(r.2.1,IntKind.wrap .i64 (s.2+1)))) fun e=>some (e,(r.2.1,s.2))) (some (.x 0,s))
theorem aCp (q:IR) (f:uV) (tb_:Bool) (ln:Int) (k:Int) (b:mU) (nb:Int) (l:List mS) (j:Int) :
  nL (Mv KK 7) ([.iface tw (.agg [.int .i64 n]),.bool tb_,.ptr 0 0,.ptr 1 0,.ptr 2 0,.slice [] (.own 3),.slice (Rw mS.cells l) (.own 4),.int .i64 k,.ptr 5 0,.slice (Rw mU.cells q.blocks) .no,.int .i64 nb,.int .i64 k,.slice (Rw Op.cells b.ops) .no,.int .i64 (b.ops.length:Int),.int .i64 j],
   [qA q,fA f,.cells [.int .i64 ln],.front 0 0,oR 10 l.length,bA b,.front 0 0]) =
  tm (sG (w0 q f b opL) (l,j)) fun r=>(r.1.ex,[.iface tw (.agg [.int .i64 n]),.bool tb_,.ptr 0 0,.ptr 1 0,.ptr 2 0,.slice [] (.own 3),.slice (Rw mS.cells r.2.1) (.own 4),.int .i64 k,.ptr 5 0,.slice (Rw mU.cells q.blocks) .no,.int .i64 nb,.int .i64 k,.slice (Rw Op.cells b.ops) .no,.int .i64 (b.ops.length:Int),.int .i64 r.2.2],
   [qA q,fA f,.cells [.int .i64 ln],.front 0 0,oR 10 r.2.1.length,bA b,.front 0 0]) :=
 s7 (enc:=fun s:List mS×Int=>([.iface tw (.agg [.int .i64 n]),.bool tb_,.ptr 0 0,.ptr 1 0,.ptr 2 0,.slice [] (.own 3),.slice (Rw mS.cells s.1) (.own 4),.int .i64 k,.ptr 5 0,.slice (Rw mU.cells q.blocks) .no,.int .i64 nb,.int .i64 k,.slice (Rw Op.cells b.ops) .no,.int .i64 (b.ops.length:Int),.int .i64 s.2],
   [qA q,fA f,.cells [.int .i64 ln],.front 0 0,oR 10 s.1.length,bA b,.front 0 0])) (fun s=>aCo w q f tb_ ln k b nb s) (l,j)
set_option maxHeartbeats 4000000 in
theorem aCr (q:IR) (f:uV) (tb_:Bool) (ln:Int) (s:List mS×Int):Mw KK 5 (wS n tw q f tb_ ln s)=tm (w1 q f enL opL enD s) fun r=>(r.1.ex,wS n tw q f tb_ ln r.2):=by
 have ke:=w.ke
 have kd:=w.kd
 have kl:=aCp w q f tb_ ln
 simp only [qA,fA,bA] at kl
 simp +contextual -implicitDefEqProofs (maxSteps:=2000000) [-l9,-lV,-lU,-lW,-lZ,-lY,-lX,Mw,w1,wS,qA,fA,QE,w.he,w.hd,ke,kd,kl,Ct]
theorem aCs (q:IR) (f:uV) (tb_:Bool) (ln:Int) (l:List mS) (i:Int) :
  nL (Mw KK 5) (wS n tw q f tb_ ln (l,i))=tm (sG (w1 q f enL opL enD) (l,i)) fun r=>(r.1.ex,wS n tw q f tb_ ln r.2) :=
 s7 (enc:=fun s=>wS n tw q f tb_ ln s) (fun s=>aCr w q f tb_ ln s) (l,i)
noncomputable def wT (q:IR) (f:uV) (fiL:List mS) (enL:Int→List mS) (opL:Op→oW→Option (List mS)) (enD:Int→Term→Option (List mS)) (tb_:Bool) (ln:Int):Option (List mS) :=
 tb (sG (w1 q f enL opL enD) (fiL,0)) fun r=>uW r.1 none fun e=>vA 0 e
  (tb (pD 80 r.2.1 (enL ln)) fun a=>tb (t14 ⟨ln⟩) fun h=>tb (t26 ⟨ln⟩) fun g=>tb (pD 80 a (IC f.image q.out tb_ h g)) fun b =>
   tb (t13 q f) fun z=>tb (t14 ⟨ln⟩) fun h=>tb (t28 ⟨ln⟩) fun v=>tb (pD 80 b (CW z tb_ h v)) fun c=>some c) fun e=>Ga e (some [])
set_option maxHeartbeats 4000000 in
theorem c11 (q:IR) (f:uV) (tb_:Bool) (ln:Int) (hp:lT) :
  KK 11 [.agg [.int .i64 q.temps,.slice (Rw nH.cells q.arrays) .no,.slice (Rw mU.cells q.blocks) .no,.int .i64 q.inn,.int .i64 q.out],.agg [.int .i64 f.image,.slice (Rw (ci .i64) f.arrays) .no,.int .i64 f.size],
   .iface tw (.agg [.int .i64 n]),.agg [.int .i64 ln],.bool tb_] hp=tm (wT q f fiL enL opL enD tb_ ln) fun r=>(.ret (.slice (Rw mS.cells r) .no),hp):=by
 refine oE rfl rfl (alS ..) ?_
 have kf:=w.kf
 have ke:=w.ke
 have kl:=aCs w q f tb_ ln
 simp only [wS,qA,fA] at kl
 simp +contextual -implicitDefEqProofs (maxSteps:=2000000) [-l9,-lV,-lU,-lW,-lZ,-lY,-lX,m11,wT,QE,w.hf,w.he,kf,ke,kl,Ct,afE,aBJ,aBK,Ud,c25,c27,show Rw mS.cells []=[] from rfl]
end
end
section
open Go Hk
noncomputable def OkP (P:Int→Prop) (x:mS):Prop:=(x.kind=0→wV x.ins)∧(x.kind=2→P x.label)
noncomputable def qY (X:List mS):List Int:=X.filterMap fun x=>if x.kind=1 then some x.label else none
structure Good (P:Int→Prop) (m:Nat) (ls:List Int) (X:List mS):Prop where
 len:X.length≤m
 ok:∀x∈X,OkP P x
 lb:qY X=ls
section
variable {P:Int→Prop}{m k:Nat}{ls ms:List Int}{X Y:List mS}
theorem Good.nil:Good P 0 [] []:=⟨ak5 _,fun _ h=>(by cases h),rfl⟩
theorem Good.app (h:Good P m ls X) (g:Good P k ms Y):Good P (m+k) (ls++ms) (X++Y) :=
 ⟨by rw [au9];exact Nat.add_le_add h.len g.len,fun x hx=>(au0.1 hx).elim (h.ok x) (g.ok x),by unfold qY;rw [List.filterMap_append];exact congr (congrArg _ h.lb) g.lb⟩
theorem Good.mono (h:Good P m ls X) (hm:m≤k):Good P k ls X:=⟨ax9 h.len hm,h.ok,h.lb⟩
theorem Good.cons {x:mS}{l:List Int}(hx:Good P 1 l [x]) (h:Good P m ls X):Good P (1+m) (l++ls) (x::X):=hx.app h
theorem Good.ins {L:List Ins}(h:tA m L):Good P m [] (oK L):=by
 refine⟨by simp [oK,h.1],fun x hx=>?_,?_⟩
 ·obtain⟨i,hi,rfl⟩:=List.mem_map.1 hx
  exact⟨fun _=>h.2 i hi,fun h=>by cases h⟩
 ·unfold qY oK
  rw [List.filterMap_map,List.filterMap_eq_nil_iff]
  intro i _;rfl
theorem Good.lab {n:Int}:Good P 1 [n] [yH n]:=⟨ak5 _,fun x hx=>by rw [List.mem_singleton.1 hx];exact⟨fun h=>(by cases h),fun h=>(by cases h)⟩,rfl⟩
theorem Good.bra {n:Int}(h:P n):Good P 1 [] [GL n]:=⟨ak5 _,fun x hx=>by rw [List.mem_singleton.1 hx];exact⟨fun h=>(by cases h),fun _=>h⟩,rfl⟩
theorem Good.when {c n:Int}(h:P n):Good P 1 [] [wH c n]:=⟨ak5 _,fun x hx=>by rw [List.mem_singleton.1 hx];exact⟨fun h=>(by cases h),fun _=>h⟩,rfl⟩
end
section
variable {P:Int→Prop}
structure ajE (P:Int→Prop) (n:Int) (t:Term):Prop where
 jump:t.kind=1→P (Up n t.yes)
 halt:t.kind=3→P (Up n n)
 bran:t.kind≠1→t.kind≠3→P (Up n t.yes)∧P (Up n (-1))∧P (Up n t.no)
theorem ahK:tA 1 [⟨23,0,0,1,0,0,0,false⟩]:=lits (by rfl)
theorem OZ {n:Int}{t:Term}{G:List Ins}(h:ajE P n t) (hG:tA 3 G):Good P 20 [] (Mj n t G):=by
 unfold Mj
 split
 ·rename_i k;exact(Good.bra (h.jump k)).mono (by omega)
 ·split
  ·rename_i k;exact(Good.bra (h.halt k)).mono (by omega)
  ·rename_i k1 k3
   obtain⟨a,b,c⟩:=h.bran k1 k3
   exact(((((Good.ins ((hG.app (rE (by omega) (by omega))).app ahK)).app (Good.when a)).app (Good.ins (lits (l:=[⟨3,1,0,0,0,0,0,false⟩,⟨23,0,0,1,0,0,0,false⟩]) (by rfl)))).app ((Good.when b).cons (Good.bra c))).mono (by simp))
theorem xS {r b f:Int}(h:(t8 ⟨18,r,f,0,16,0,0,false⟩=some true)) (h0:0≤r) (h1:r≤7):tA 3 (F2 r b f) :=
 .cons (PK h0 (by omega) (by omega)) (.cons (Zk h0 (by omega) (ZG b)) (.cons (fun _=>h) .nil))
theorem Cg {out first:Int}{body:List mS}{m:Nat}(h1:P first) (h2:P (inc first)) (hb:Good P m [] body):Good P (m+12) [first,inc first] (IK out first body):=by
 unfold IK
 have a:=Good.ins (P:=P) (lits (l:=[⟨3,1,0,0,0,0,0,false⟩]) (by rfl))
 have b:=Good.ins (P:=P) ((rE (r:=2) (n:=out) (by omega) (by omega)).app (lits (l:=[⟨23,0,1,2,0,0,0,false⟩]) (by rfl)))
 have c:=Good.ins (P:=P) (lits (l:=stepG) (by rfl))
 have g:=(((a.app ((Good.lab (n:=first)).cons b)).app ((Good.when (c:=2) h2).cons hb)).app c).app ((Good.bra h1).cons (Good.lab (n:=inc first)))
 exact⟨ax9 g.len (by simp [stepG];omega),g.ok,g.lb.trans (by simp)⟩
theorem Dg {image out h first:Int}(h1:P first) (h2:P (inc first)):Good P 40 [first,inc first] (IC image out false h first):=by
 have a:tA 10 (Eg image false++[⟨19,0,5,0,0,0,0,false⟩,⟨20,0,6,0,0,0,0,false⟩]):=by
  have x:tA 2 ([⟨3,3,0,0,0,Q8 image,0,false⟩,⟨14,4,1,3,0,0,0,false⟩]:List Ins):=.cons (PK (by omega) (by omega) (Q9 image)) (.cons (fun _=>rfl) .nil)
  exact((((x.app (xS (r:=5) (b:=0x20040000) (f:=4) rfl (by omega) (by omega))).app (tA.nil (n:=0))).app (xS (r:=6) (b:=0x20020000) (f:=1) rfl (by omega) (by omega))).app (lits (l:=[⟨19,0,5,0,0,0,0,false⟩,⟨20,0,6,0,0,0,0,false⟩]) (by rfl))).mono (by simp)
 have b:tA 6 (p8 5 0x20100000++p8 0 0xc0de600d++[⟨20,0,5,0,0,0,0,false⟩,⟨2,0,0,0,0,0,0,false⟩]++[]) :=
  ((((rE (by omega) (by omega)).app (rE (by omega) (by omega))).app (tA.cons (i:=⟨20,0,5,0,0,0,0,false⟩) (fun _=>rfl) (tA.cons (i:=⟨2,0,0,0,0,0,0,false⟩) (fun h=>absurd rfl h) (tA.nil (n:=0))))).app (tA.nil (n:=0))).mono (by omega)
 have g:=((Cg h1 h2 (Good.ins a) (out:=out)).app Good.nil).app (Good.ins b)
 exact⟨ax9 g.len (by omega),g.ok,g.lb.trans (by simp)⟩
theorem KM {h:Int}(hh:P h):Good P 4 [] (Uw h) :=
 ((Good.ins (lits (l:=[⟨19,0,5,0,0,0,0,false⟩,⟨3,2,0,0,0,0,0,false⟩,⟨23,0,0,2,0,0,0,false⟩]) (by rfl))).app (Good.when hh))
noncomputable def Oc (first k:Int):Int:=IntKind.wrap .i64 (first+k)
noncomputable def x4 (first k:Int):Int:=IntKind.wrap .i64 (Oc first 6+k)
noncomputable def pI (h first:Int):List Int:=[h,Oc first 0,inc (Oc first 0),Oc first 2,inc (Oc first 2),Oc first 4,inc (Oc first 4),x4 first 0,inc (x4 first 0),x4 first 2,inc (x4 first 2),x4 first 4,inc (x4 first 4)]
theorem AE {s:Sz}{h first:Int}(hp:∀x∈pI h first,P x):Good P 160 (pI h first) (CW s false h first):=by
 have w:∀b,(t8 ⟨18,5,1,0,16,0,0,false⟩=some true)→tA 5 ([⟨3,0,0,0,0,0,0,false⟩]++F2 5 b 1++[⟨20,0,5,0,0,0,0,false⟩]):=fun b hb =>
  (((lits (l:=[⟨3,0,0,0,0,0,0,false⟩]) (by rfl)).app (xS hb (by omega) (by omega))).app (lits (l:=[⟨20,0,5,0,0,0,0,false⟩]) (by rfl)))
 have lk:∀b,Good P 7 [] (oK (F2 5 b 1)++Uw h):=fun b=>(Good.ins (xS rfl (by omega) (by omega))).app (KM (hp h (by simp [pI])))
 have st:tA 4 ([⟨3,0,0,0,0,0,0,false⟩]++p8 5 0x20100000++[⟨20,0,5,0,0,0,0,false⟩]) :=
  ((lits (l:=[⟨3,0,0,0,0,0,0,false⟩]) (by rfl)).app (rE (by omega) (by omega))).app (lits (l:=[⟨20,0,5,0,0,0,0,false⟩]) (by rfl))
 have en:tA 6 (p8 5 0x20200000++p8 0 0x0bad0bad++[⟨20,0,5,0,0,0,0,false⟩,⟨2,0,0,0,0,0,0,false⟩]++[]) :=
  ((((rE (by omega) (by omega)).app (rE (by omega) (by omega))).app (tA.cons (i:=⟨20,0,5,0,0,0,0,false⟩) (fun _=>rfl) (tA.cons (i:=⟨2,0,0,0,0,0,0,false⟩) (fun h=>absurd rfl h) (tA.nil (n:=0))))).app (tA.nil (n:=0))).mono (by omega)
 have lp:∀(n x:Int) (b:List mS) (m:Nat),x∈pI h first→inc x∈pI h first→Good P m [] b→Good P (m+12) [x,inc x] (IK n x b):=fun n x b m h1 h2 hb=>Cg (hp _ h1) (hp _ h2) hb
 have g:=((((((((((Good.lab (n:=h)).cons (Good.ins st)).app
  (lp s.outt (Oc first 0) _ _ (by simp [pI]) (by simp [pI]) (Good.ins (w 0x20020000 rfl)))).app
  (lp s.rail (Oc first 2) _ _ (by simp [pI]) (by simp [pI]) (Good.ins (w 0x20040000 rfl)))).app
  (lp s.rail (Oc first 4) _ _ (by simp [pI]) (by simp [pI]) (Good.ins (w 0x20080000 rfl)))).app
  (lp s.outt (x4 first 0) _ _ (by simp [pI]) (by simp [pI]) (lk 0x20020000))).app
  (lp s.rail (x4 first 2) _ _ (by simp [pI]) (by simp [pI]) (lk 0x20040000))).app
  (lp s.rail (x4 first 4) _ _ (by simp [pI]) (by simp [pI]) (lk 0x20080000))).app
  (Good.ins (rE (r:=5) (n:=0x20100000) (by omega) (by omega)))).app (KM (hp h (by simp [pI])))).app (Good.ins en)
 exact⟨ax9 g.len (by omega),g.ok,g.lb⟩
end
end
end Go.Proofs.YtgllbnabmglcfaaGreatDoor
