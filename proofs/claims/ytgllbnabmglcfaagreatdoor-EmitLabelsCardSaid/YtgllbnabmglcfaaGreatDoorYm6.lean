/-
  The texts YM.FR, YM.TR, YM.MR, YM.RA, YM.RB, YM.RC, YM.RD, YM.RE, YM.RF, YM.L3, YM.T8, YM.W4, YM.RG, one behind another. No conditions.
-/
import Derived.Test.YtgllbnabmglcfaaGreatDoorYm5
import Derived.Test.YtgllbnabmglcfaaGreatDoorIm5
import Derived.Test.YtgllbnabmglcfaaGreatDoorVk3
import Derived.Test.YtgllbnabmglcfaaGreatDoorRows
import Derived.Lib.LaidTab
import Derived.LaidMore
import Derived.MakeChecks
import Derived.LaidHandle
import Derived.WalkKit
import Derived.SevenTiedAt
import Derived.Test.YtgllbnabmglcfaaGreatDoorYm2
import Derived.Test.YtgllbnabmglcfaaGreatDoorYm1
set_option linter.unusedVariables false
set_option linter.unusedSimpArgs false
set_option linter.all false
open Bool renaming and_eq_true → aq1
open List renaming append_assoc → aw8, drop_eq_getElem_cons → ar7, getD → ac5, getElem?_eq_getElem → ag8, getElem?_eq_some_iff → ag0, getElem?_map → ak4, length → aa5, length_append → au9, length_cons → ar8, length_map → au7, mem_append → au0, mem_of_getElem? → aj8, nil_append → av6, replicate → ak7
open Nat renaming le_trans → ax9
open Option renaming bind_some → ak6, map_eq_some_iff → ah7
open Option.some renaming injEq → ah5
namespace Go.Proofs.YtgllbnabmglcfaaGreatDoor
section
open Go Hk
theorem mainIs:Tryz.pinned.checked.prog.mainIs=some (true, "5d86905073ea4312d0e70af0f18e02a7751f33671d963c476094b2adc27c966c".toList):=by kernel_rfl
theorem ac8:false=Tryz.pinned.checked.prog.looks []:=by kernel_rfl
theorem ajZ {a b:Bool}(h:a=true) (g:b=true):(a&&b)=true:=by rw [h,g];rfl
theorem own:ownKnob Tryz.prog.godebug=none:=by kernel_rfl
theorem laidOut:laidOutB Tryz.prog=true:=by kernel_rfl
theorem follows:Tryz.prog.follows .mixedOrders=true:=by kernel_rfl
theorem auX:tK Tryz.prog nM:=by
 refine⟨fun f hf=>(by cases hf),fun f g hf=>?_,fun f k hf=>(by cases hf)⟩
 have hf':f=40∧g=41:=by
  unfold nM at hf
  simp only [] at hf
  split at hf
  ·rename_i h0;exact⟨h0,(Option.some.inj hf).symm⟩
  ·cases hf
 obtain⟨rfl,rfl⟩:=hf'
 exact Zn
theorem au5:Tryz.prog.globalNamed "math/bits.deBruijn64tab" = some 0:=by kernel_rfl
theorem aBV:(Tryz.prog.globals[0]?).map (·.type)=some 185:=by kernel_rfl
noncomputable def US:List Int:=[0,1,56,2,57,49,28,3,61,58,42,50,38,29,17,4,62,47,59,36,45,43,51,22,53,39,33,30,24,18,12,5,63,55,48,27,60,41,37,16,46,35,44,21,52,32,23,11,54,26,40,15,34,20,31,10,25,14,19,9,13,8,7,6]
noncomputable def TS:List (String×DataW Unit):=[("math/bits.deBruijn64tab",Rows.laid_math_bits_deBruijn64tab)]
theorem WR {W:World}(h:laidMetH Tryz.prog TS W):Lib.TabIs Tryz.prog W "math/bits.deBruijn64tab" .u8 US:=by
 rw [MakeChecks.laidMetH_plain _ _ _ (by kernel_rfl)] at h
 obtain⟨ps,⟨g1,t1,cs1,f1,p1,q1,hg1,ht1,hv1,hd1,_,_⟩,_,_⟩:=h
 obtain rfl:=Option.some.inj (au5.symm.trans hg1)
 obtain rfl:=Option.some.inj (aBV.symm.trans ht1)
 unfold Lib.TabIs
 have e:(Rows.laid_math_bits_deBruijn64tab:DataW Unit)=Lib.tabData .u8 US:=by kernel_rfl
 rw [e] at hd1
 rw [hv1,←Lib.cells_of_tab (k:=.u8) Tryz.underlying185 Tryz.underlying5 (by kernel_rfl) (by kernel_rfl) hd1]
theorem alB {W:World}(h:laidMetH Tryz.prog TS W):qC nM (gh W) [] W:=by
 have hT:=WR h
 refine⟨fun g cs hg=>?_,fun g n hg=>(by cases hg)⟩
 have hg':g=0∧cs=vY:=by
  unfold nM at hg
  simp only [] at hg
  split at hg
  ·rename_i h0;exact⟨h0,(Option.some.inj hg).symm⟩
  ·cases hg
 obtain⟨rfl,rfl⟩:=hg'
 have eG:vY=US.map (lS.int .u8):=rfl
 rw [eG]
 refine .pptr _ 0 0 (fun j=>.int .u8 (US.getD j 0)) ?_ ?_ ?_
 ·intro j v hv
  have hj:j<US.length:=by
   have:=(ag0.1 hv).1
   simpa using this
  simpa [gh] using hT.cell au5 j hj
 ·intro j v hv
  simp only [ak4,ah7] at hv
  obtain⟨z,_,rfl⟩:=hv
  rfl
 ·intro j v hv
  simp only [ak4,ah7] at hv
  obtain⟨z,hz,rfl⟩:=hv
  have:US.getD j 0=z:=by simp [ac5,hz]
  rw [this]
  exact .int _ _
theorem agM (args:Array Value) (os:Os):laidMetH Tryz.prog TS ((World.doorLaid Tryz.prog 600 os).forCall (fun _ _=>0) ⟨#[],args,[]⟩).memory :=
 laidMetH_of_parts3 (fuel:=8) (laidMet_of_run' 8 (by kernel_rfl) (by kernel_rfl)) (by kernel_rfl) (by kernel_rfl)
theorem aq0 (args:Array Value) (os:Os):((World.doorLaid Tryz.prog 600 os).forCall (fun _ _=>0) ⟨#[],args,[]⟩).variablesRefB Tryz.prog=true:=by kernel_rfl
theorem axN (args:Array Value) (os:Os):((((World.doorLaid Tryz.prog 600 os).forCall (fun _ _=>0) ⟨#[],args,[]⟩).heap.toList.drop Tryz.prog.globals.size).take ((begin Tryz.prog (fun _ _=>0) default).world.heap.size-Tryz.prog.globals.size)) =
   (begin Tryz.prog (fun _ _=>0) default).world.heap.toList.drop Tryz.prog.globals.size:=by kernel_rfl
theorem vG (n:Nat):Rd Tryz.prog n 3 (fun z:Int=>[.int .i64 z]) (fun z=>(Lit.int .i64 z).wf=true):=.int Tryz.underlying3
theorem aBN (n:Nat):Rd Tryz.prog n 71 Op.cells (fun _=>True):=by
 refine Rd.mono (n:=n+1) (by omega) ?_
 refine(Rd.struct (n:=n) (total:=6) Tryz.underlying71 (by kernel_rfl)
  (.cons (sz:=1) rfl (by kernel_rfl) (vG n) (.cons (sz:=1) rfl (by kernel_rfl) (vG n) (.cons (sz:=1) rfl (by kernel_rfl) (vG n) (.cons (sz:=1) rfl (by kernel_rfl) (vG n) (.cons (sz:=1) rfl (by kernel_rfl) (vG n) (.cons (sz:=1) rfl (by kernel_rfl) (vG n) .nil))))))).to
  (fun z=>(⟨z.1,z.2.1,z.2.2.1,z.2.2.2.1,z.2.2.2.2.1,z.2.2.2.2.2.1⟩:Op)) (fun z=>rfl) (fun _ _=>trivial)
theorem awJ (n:Nat):Rd Tryz.prog n 68 nH.cells (fun _=>True):=by
 refine Rd.mono (n:=n+1) (by omega) ?_
 refine(Rd.struct (n:=n) (total:=4) Tryz.underlying68 (by kernel_rfl)
  (.cons (sz:=1) rfl (by kernel_rfl) (vG n) (.cons (sz:=1) rfl (by kernel_rfl) (vG n) (.cons (sz:=1) rfl (by kernel_rfl) (vG n) (.cons (sz:=1) rfl (by kernel_rfl) (vG n) .nil))))).to
  (fun z=>(⟨z.1,z.2.1,z.2.2.1,z.2.2.2.1⟩:nH)) (fun z=>rfl) (fun _ _=>trivial)
theorem apM (n:Nat):Rd Tryz.prog n 43 Term.cells (fun _=>True):=by
 refine Rd.mono (n:=n+1) (by omega) ?_
 refine(Rd.struct (n:=n) (total:=4) Tryz.underlying43 (by kernel_rfl)
  (.cons (sz:=1) rfl (by kernel_rfl) (vG n) (.cons (sz:=1) rfl (by kernel_rfl) (vG n) (.cons (sz:=1) rfl (by kernel_rfl) (vG n) (.cons (sz:=1) rfl (by kernel_rfl) (vG n) .nil))))).to
  (fun z=>(⟨z.1,z.2.1,z.2.2.1,z.2.2.2.1⟩:Term)) (fun z=>rfl) (fun _ _=>trivial)
theorem awL (n:Nat):Rd Tryz.prog n 41 (fun l:List Op=>[.slice (l.map Op.cells) .no]) (fun l=>l.length≤maxLen∧∀o∈l,True) :=
 Rd.mono (n:=n+1) (by omega) (Rd.slice (sz:=5) Tryz.underlying41 (by kernel_rfl) (fun _=>rfl) (aBN n))
theorem awK (n:Nat):Rd Tryz.prog n 45 mU.cells (fun _=>True):=by
 refine Rd.mono (n:=n+1) (by omega) ?_
 refine(Rd.struct (n:=n) (total:=5) Tryz.underlying45 (by kernel_rfl)
  (.cons (sz:=1) rfl (by kernel_rfl) (awL n) (.cons (sz:=4) rfl (by kernel_rfl) (apM n) .nil))).to
  (fun z=>(⟨z.1,z.2.1⟩:mU)) (fun z=>rfl) (fun _ _=>trivial)
theorem apK (n:Nat):Rd Tryz.prog n 22 (fun l:List nH=>[.slice (l.map nH.cells) .no]) (fun l=>l.length≤maxLen∧∀o∈l,True) :=
 Rd.mono (n:=n+1) (by omega) (Rd.slice (sz:=3) Tryz.underlying22 (by kernel_rfl) (fun _=>rfl) (awJ n))
theorem apL (n:Nat):Rd Tryz.prog n 23 (fun l:List mU=>[.slice (l.map mU.cells) .no]) (fun l=>l.length≤maxLen∧∀o∈l,True) :=
 Rd.mono (n:=n+1) (by omega) (Rd.slice (sz:=4) Tryz.underlying23 (by kernel_rfl) (fun _=>rfl) (awK n))
theorem aBM (n:Nat):Rd Tryz.prog n 25 IR.cells (fun _=>True):=by
 refine Rd.mono (n:=n+1) (by omega) ?_
 refine(Rd.struct (n:=n) (total:=5) Tryz.underlying25 (by kernel_rfl)
  (.cons (sz:=1) rfl (by kernel_rfl) (vG n) (.cons (sz:=1) rfl (by kernel_rfl) (apK n) (.cons (sz:=1) rfl (by kernel_rfl) (apL n) (.cons (sz:=1) rfl (by kernel_rfl) (vG n) (.cons (sz:=1) rfl (by kernel_rfl) (vG n) .nil)))))).to
  (fun z=>(⟨z.1,z.2.1,z.2.2.1,z.2.2.2.1,z.2.2.2.2.1⟩:IR)) (fun z=>rfl) (fun _ _=>trivial)
theorem atN {W:World}{b:Nat}{V:Value}(h:Value.okWide Tryz.prog W .any b 25 V):∃C,V=.agg C:=by
 simp only [Value.okWide,Tryz.underlying25] at h
 obtain⟨cs,h,_⟩:=h
 exact⟨cs,h⟩
theorem aoF {W:World}{b:Nat}{V:Value}(h:Value.okWide Tryz.prog W .any b 3 V):∀C,V≠.agg C:=by
 intro C hC
 subst hC
 simp [Value.okWide,Tryz.underlying3,Cell.okWide,Cell.ok] at h
end
noncomputable section
open Go Hk
structure LD where
 lay:Lay
 deriving DecidableEq
noncomputable def LD.cells (x:LD):List lS:=[.int .i64 x.lay.n]
@[simp] theorem LD.pW (x:LD):x.cells=[.int .i64 x.lay.n]:=(rfl)
noncomputable def X9 (mm:Nat) (EW:R):Option (nT×lT) :=
 (fun aA aB=>Ex.oA EW.1 (nZ mm aA aB)) (gd EW.2.1 0) EW.2.2
noncomputable def amZ (K:mA) (a0:lS) (h0:lT):Option (nT×lT) :=
 (bo .add a0 (.int .i64 1) fun aB=>bo .and aB (.int .i64 65535) fun aA=>bo .xor aA (.int .i64 65535) fun aC=>bo .shl aC (.int .u64 16) fun t23=>bo .or aA t23 fun aD=>some (.ret,[aD],h0)).bind (X9 (aa5 h0))
theorem aeI (K:mA) (a0:lS) (h0:lT):p9 Tryz.prog nM nL K 164 [a0] h0=amZ (mW nM K) a0 h0:=by kernel_rfl
noncomputable def t164 (p0:Int):Option (Int) :=
 tb ((agA .i64 (aqM .i64 (GS .i64 (IntKind.wrap .i64 (p0+1)) 65535) 65535) 16)) fun aA=>some (tor .i64 (GS .i64 (IntKind.wrap .i64 (p0+1)) 65535) aA)
theorem aAz (p0:Int):amZ KK (.int .i64 p0) []=tm (t164 p0) fun r=>(.ret (.int .i64 r),[]):=by
 simp [-l9,-lV,-lU,-lW,-lZ,-lY,-lX,amZ,t164,X9]
theorem SA (p0:Int) (h:lT):KK 164 [(.int .i64 p0)] h=tm (t164 p0) fun r=>(.ret (.int .i64 r),h):=oE rfl rfl (aeI ..) (aAz p0)
noncomputable def X7 (mm:Nat) (yE:R):Option (nT×lT) :=
 (fun aA aB=>Ex.oA yE.1 ((mF true 10 aB aA).bind fun aC=>nZ mm aC aB)) (gd yE.2.1 0) yE.2.2
noncomputable def amX (K:mA) (a0:lS) (h0:lT):Option (nT×lT) :=
 (mC (nP 10 h0 (.agg [(.int .i64 0),(.int .i64 0),(.int .i64 0),(.int .i64 0),(.int .i64 0),(.int .i64 0),(.int .i64 0),(.int .i64 0),(.int .i64 0),(.bool false)])) fun aA aB=>(mV [(.int .i64 0),(.int .i64 0),(.int .i64 0),(.int .i64 0),(.int .i64 0),(.int .i64 0),(.int .i64 0),(.int .i64 0),(.int .i64 0),(.bool false)] [(0,1),(1,1),(2,8)] [(0,(.int .i64 1)),(1,a0)]).bind fun aD=>(mL 10 aB aA aD).bind fun aC=>some (.ret,[aA],aC)).bind (X7 (aa5 h0))
theorem aeG (K:mA) (a0:lS) (h0:lT):p9 Tryz.prog nM nL K 162 [a0] h0=amX (mW nM K) a0 h0:=by kernel_rfl
noncomputable def t162 (p0:Int):Option (mS) :=
 some (⟨1,p0,(⟨0,0,0,0,0,0,0,false⟩:Ins)⟩:mS)
theorem aAx (p0:Int):amX KK (.int .i64 p0) []=tm (t162 p0) fun r=>(.ret (.agg [(.int .i64 r.kind),(.int .i64 r.label),(.int .i64 r.ins.op),(.int .i64 r.ins.rd),(.int .i64 r.ins.rn),(.int .i64 r.ins.rm),(.int .i64 r.ins.ra),(.int .i64 r.ins.imm),(.int .i64 r.ins.cond),(.bool r.ins.wide)]),[]):=by
 simp [-l9,-lV,-lU,-lW,-lZ,-lY,-lX,amX,t162,X7]
theorem VC (p0:Int) (h:lT):KK 162 [(.int .i64 p0)] h=tm (t162 p0) fun r=>(.ret (.agg [(.int .i64 r.kind),(.int .i64 r.label),(.int .i64 r.ins.op),(.int .i64 r.ins.rd),(.int .i64 r.ins.rn),(.int .i64 r.ins.rm),(.int .i64 r.ins.ra),(.int .i64 r.ins.imm),(.int .i64 r.ins.cond),(.bool r.ins.wide)]),h):=oE rfl rfl (aeG ..) (aAx p0)
noncomputable def X4 (mm:Nat) (aB:R):Option (nT×lT) :=
 (fun aA aC=>Ex.oA aB.1 ((mF true 10 aC aA).bind fun t28=>nZ mm t28 aC)) (gd aB.2.1 0) aB.2.2
noncomputable def amT (K:mA) (a0:lS) (h0:lT):Option (nT×lT) :=
 (mC (nP 10 h0 (.agg [(.int .i64 0),(.int .i64 0),(.int .i64 0),(.int .i64 0),(.int .i64 0),(.int .i64 0),(.int .i64 0),(.int .i64 0),(.int .i64 0),(.bool false)])) fun aA aB=>(mV [(.int .i64 0),(.int .i64 0),(.int .i64 0),(.int .i64 0),(.int .i64 0),(.int .i64 0),(.int .i64 0),(.bool false)] [(0,1),(1,1),(2,1),(3,1),(4,1),(5,1),(6,1),(7,1)] [(0,(.int .i64 24))]).bind fun aD=>(mV [(.int .i64 0),(.int .i64 0),(.int .i64 0),(.int .i64 0),(.int .i64 0),(.int .i64 0),(.int .i64 0),(.int .i64 0),(.int .i64 0),(.bool false)] [(0,1),(1,1),(2,8)] [(0,(.int .i64 2)),(1,a0),(2,aD)]).bind fun t23=>(mL 10 aB aA t23).bind fun aC=>some (.ret,[aA],aC)).bind (X4 (aa5 h0))
theorem aeD (K:mA) (a0:lS) (h0:lT):p9 Tryz.prog nM nL K 159 [a0] h0=amT (mW nM K) a0 h0:=by kernel_rfl
noncomputable def t159 (p0:Int):Option (mS) :=
 some (⟨2,p0,(⟨24,0,0,0,0,0,0,false⟩:Ins)⟩:mS)
theorem aAu (p0:Int):amT KK (.int .i64 p0) []=tm (t159 p0) fun r=>(.ret (.agg [(.int .i64 r.kind),(.int .i64 r.label),(.int .i64 r.ins.op),(.int .i64 r.ins.rd),(.int .i64 r.ins.rn),(.int .i64 r.ins.rm),(.int .i64 r.ins.ra),(.int .i64 r.ins.imm),(.int .i64 r.ins.cond),(.bool r.ins.wide)]),[]):=by
 simp [-l9,-lV,-lU,-lW,-lZ,-lY,-lX,amT,t159,X4]
theorem Px (p0:Int) (h:lT):KK 159 [(.int .i64 p0)] h=tm (t159 p0) fun r=>(.ret (.agg [(.int .i64 r.kind),(.int .i64 r.label),(.int .i64 r.ins.op),(.int .i64 r.ins.rd),(.int .i64 r.ins.rn),(.int .i64 r.ins.rm),(.int .i64 r.ins.ra),(.int .i64 r.ins.imm),(.int .i64 r.ins.cond),(.bool r.ins.wide)]),h):=oE rfl rfl (aeD ..) (aAu p0)
noncomputable def Ya (mm:Nat) (aB:R):Option (nT×lT) :=
 (fun aA aC=>Ex.oA aB.1 ((mF true 10 aC aA).bind fun t28=>nZ mm t28 aC)) (gd aB.2.1 0) aB.2.2
noncomputable def am1 (K:mA) (a0 a1:lS) (h0:lT):Option (nT×lT) :=
 (mC (nP 10 h0 (.agg [(.int .i64 0),(.int .i64 0),(.int .i64 0),(.int .i64 0),(.int .i64 0),(.int .i64 0),(.int .i64 0),(.int .i64 0),(.int .i64 0),(.bool false)])) fun aA aB=>(mV [(.int .i64 0),(.int .i64 0),(.int .i64 0),(.int .i64 0),(.int .i64 0),(.int .i64 0),(.int .i64 0),(.bool false)] [(0,1),(1,1),(2,1),(3,1),(4,1),(5,1),(6,1),(7,1)] [(0,(.int .i64 25)),(6,a0)]).bind fun aD=>(mV [(.int .i64 0),(.int .i64 0),(.int .i64 0),(.int .i64 0),(.int .i64 0),(.int .i64 0),(.int .i64 0),(.int .i64 0),(.int .i64 0),(.bool false)] [(0,1),(1,1),(2,8)] [(0,(.int .i64 2)),(1,a1),(2,aD)]).bind fun t23=>(mL 10 aB aA t23).bind fun aC=>some (.ret,[aA],aC)).bind (Ya (aa5 h0))
theorem aeK (K:mA) (a0 a1:lS) (h0:lT):p9 Tryz.prog nM nL K 166 [a0,a1] h0=am1 (mW nM K) a0 a1 h0:=by kernel_rfl
noncomputable def t166 (p0:Int) (p1:Int):Option (mS) :=
 some (⟨2,p1,(⟨25,0,0,0,0,0,p0,false⟩:Ins)⟩:mS)
theorem aAB (p0:Int) (p1:Int):am1 KK (.int .i64 p0) (.int .i64 p1) []=tm (t166 p0 p1) fun r=>(.ret (.agg [(.int .i64 r.kind),(.int .i64 r.label),(.int .i64 r.ins.op),(.int .i64 r.ins.rd),(.int .i64 r.ins.rn),(.int .i64 r.ins.rm),(.int .i64 r.ins.ra),(.int .i64 r.ins.imm),(.int .i64 r.ins.cond),(.bool r.ins.wide)]),[]):=by
 simp [-l9,-lV,-lU,-lW,-lZ,-lY,-lX,am1,t166,Ya]
theorem Py (p0:Int) (p1:Int) (h:lT):KK 166 [(.int .i64 p0),(.int .i64 p1)] h=tm (t166 p0 p1) fun r=>(.ret (.agg [(.int .i64 r.kind),(.int .i64 r.label),(.int .i64 r.ins.op),(.int .i64 r.ins.rd),(.int .i64 r.ins.rn),(.int .i64 r.ins.rm),(.int .i64 r.ins.ra),(.int .i64 r.ins.imm),(.int .i64 r.ins.cond),(.bool r.ins.wide)]),h):=oE rfl rfl (aeK ..) (aAB p0 p1)
noncomputable def X_ (mm:Nat) (CX:R):Option (nT×lT) :=
 (fun aA aB=>Ex.oA CX.1 (De mm aA aB)) (gd CX.2.1 0) CX.2.2
theorem acD (y0:Int) (y1:Int) (y2:Int) (y3:Int) (y4:Int) (y5:Int) (y6:Int) (y7:Bool) (h:lT):mD 1 8 [(.int .i64 0),(.int .i64 0),(.int .i64 0),(.int .i64 0),(.int .i64 0),(.int .i64 0),(.int .i64 0),(.bool false)] [(0,(.agg [(.int .i64 y0),(.int .i64 y1),(.int .i64 y2),(.int .i64 y3),(.int .i64 y4),(.int .i64 y5),(.int .i64 y6),(.bool y7)]))] h=some (.slice (Rw Ins.cells [(⟨y0,y1,y2,y3,y4,y5,y6,y7⟩:Ins)]) (.own h.length),h++[oR 8 1]):=by
 rfl
noncomputable def am0 (K:mA) (a0:lS) (h0:lT):Option (nT×lT) :=
 ((fun(aE:lS) (aA:lT)=>bo .eql a0 (.int .i64 0) fun aD=>mH aD ((mV [(.int .i64 0),(.int .i64 0),(.int .i64 0),(.int .i64 0),(.int .i64 0),(.int .i64 0),(.int .i64 0),(.bool false)] [(0,1),(1,1),(2,1),(3,1),(4,1),(5,1),(6,1),(7,1)] [(0,(.int .i64 3)),(1,(.int .i64 1))]).bind fun t23=>mC (mD 1 8 [(.int .i64 0),(.int .i64 0),(.int .i64 0),(.int .i64 0),(.int .i64 0),(.int .i64 0),(.int .i64 0),(.bool false)] [(0,t23)] aA) fun t24 aB=>some (.ret,[t24],aB)) (ca (K 60 [(lS.l_ (.int .i64 1)),(lS.l_ a0)] aA) fun t26 aC=>some (.ret,[t26],aC))) (.slice (Rw Ins.cells []) (.own (aa5 h0))) (h0++[.front 0 0])).bind (X_ (aa5 h0))
theorem aeJ (K:mA) (a0:lS) (h0:lT):p9 Tryz.prog nM nL K 165 [a0] h0=am0 (mW nM K) a0 h0:=by kernel_rfl
noncomputable def t165 (p0:Int):Option ((List Ins)) :=
 tc (decide (p0=0)) (some [(⟨3,1,0,0,0,0,0,false⟩:Ins)]) (tb ((t60 1 p0)) fun Bd=>some Bd)
theorem aAA (p0:Int):am0 KK (.int .i64 p0) []=tm (t165 p0) fun r=>(.ret (.slice (Rw Ins.cells r) (.own 0)),[oR 8 (aa5 r)]):=by
 simp [-l9,-lV,-lU,-lW,-lZ,-lY,-lX,am0,t165,acD,DE,X_]
theorem aBI (p0:Int) (h:lT):KK 165 [(.int .i64 p0)] h=tm (t165 p0) fun r=>(.ret (.slice (Rw Ins.cells r) (.own (aa5 h))),h++[oR 8 (aa5 r)]):=w9 rfl rfl (aeJ ..) (aAA p0) fun r=>q7
noncomputable def X8 (mm:Nat) (aB:R):Option (nT×lT) :=
 (fun aA aC=>Ex.oA aB.1 (De mm aA aC)) (gd aB.2.1 0) aB.2.2
theorem acC (y0:Int) (y1:Int) (y2:Int) (y3:Int) (y4:Int) (y5:Int) (y6:Int) (y7:Int) (y8:Int) (y9:Bool) (h:lT):mD 1 10 [(.int .i64 0),(.int .i64 0),(.int .i64 0),(.int .i64 0),(.int .i64 0),(.int .i64 0),(.int .i64 0),(.int .i64 0),(.int .i64 0),(.bool false)] [(0,(.agg [(.int .i64 y0),(.int .i64 y1),(.int .i64 y2),(.int .i64 y3),(.int .i64 y4),(.int .i64 y5),(.int .i64 y6),(.int .i64 y7),(.int .i64 y8),(.bool y9)]))] h=some (.slice (Rw mS.cells [(⟨y0,y1,(⟨y2,y3,y4,y5,y6,y7,y8,y9⟩:Ins)⟩:mS)]) (.own h.length),h++[oR 10 1]):=by
 rfl
noncomputable def G9 (K:mA) (m:Nat) (s:List lS×lT):Option R :=
 (fun aD aE aB aC aA aF=>bo .lss aA aC fun aL=>mH aL (ix 8 aB aA fun aM=>ld true 8 aF aM fun t36=>mC (nP 8 aF (.agg [(.int .i64 0),(.int .i64 0),(.int .i64 0),(.int .i64 0),(.int .i64 0),(.int .i64 0),(.int .i64 0),(.bool false)])) fun aH aI=>(mL 8 aI aH t36).bind fun aG=>ld true 8 aG aH fun aN=>(mV [(.int .i64 0),(.int .i64 0),(.int .i64 0),(.int .i64 0),(.int .i64 0),(.int .i64 0),(.int .i64 0),(.int .i64 0),(.int .i64 0),(.bool false)] [(0,1),(1,1),(2,8)] [(2,aN)]).bind fun aO=>mC (mD 1 10 [(.int .i64 0),(.int .i64 0),(.int .i64 0),(.int .i64 0),(.int .i64 0),(.int .i64 0),(.int .i64 0),(.int .i64 0),(.int .i64 0),(.bool false)] [(0,aO)] aG) fun aP aJ=>mC (nD 10 80 aJ aE aP) fun aQ aK=>bo .add aA (.int .i64 1) fun aR=>mK m .normal [aD,aQ,aB,aC,aR] aK) (mK m (.exit 0) [aD,aE,aB,aC,aA] aF)) (gd s.1 0) (gd s.1 1) (gd s.1 2) (gd s.1 3) (gd s.1 4) s.2
noncomputable def CB (p0:(List Ins)) (aD:Int) (aA:(List mS)×Int):Option (Ey×(List mS)×Int) :=
 tc (decide (aA.2<aD)) (tb ((o8 p0 aA.2)) fun aC=>tb ((pD 80 aA.1 [(⟨0,0,aC⟩:mS)])) fun aB=>some (.n,(aB,(IntKind.wrap .i64 (aA.2+1))))) (some ((.x 0),(aA.1,aA.2)))
theorem abG (p0:(List Ins)) (w25:Int) (s26:(List mS)×Int):G9 KK 2 ([(.slice (Rw mS.cells []) (.own 0)),(.slice (Rw mS.cells s26.1) (.own 1)),(.slice (Rw Ins.cells p0) .no),(.int .i64 w25),(.int .i64 s26.2)],([.front 0 0,oR 10 (aa5 s26.1)]:lT))=tm (CB p0 w25 s26) fun r=>(r.1.ex,[(.slice (Rw mS.cells []) (.own 0)),(.slice (Rw mS.cells r.2.1) (.own 1)),(.slice (Rw Ins.cells p0) .no),(.int .i64 w25),(.int .i64 r.2.2)],([.front 0 0,oR 10 (aa5 r.2.1)]:lT)):=by
 simp [-l9,-lV,-lU,-lW,-lZ,-lY,-lX,G9,CB,acC]
theorem afI (p0:(List Ins)) (w25:Int) (i4:Int):nL (G9 KK 2) ([(.slice (Rw mS.cells []) (.own 0)),(.slice (Rw mS.cells []) (.own 1)),(.slice (Rw Ins.cells p0) .no),(.int .i64 w25),(.int .i64 i4)],([.front 0 0,.front 0 0]:lT))=tm (sG (CB p0 w25) ([],i4)) fun r=>(r.1.ex,[(.slice (Rw mS.cells []) (.own 0)),(.slice (Rw mS.cells r.2.1) (.own 1)),(.slice (Rw Ins.cells p0) .no),(.int .i64 w25),(.int .i64 r.2.2)],([.front 0 0,oR 10 (aa5 r.2.1)]:lT)):=by
 exact s7 (enc:=fun s26=>([(.slice (Rw mS.cells []) (.own 0)),(.slice (Rw mS.cells s26.1) (.own 1)),(.slice (Rw Ins.cells p0) .no),(.int .i64 w25),(.int .i64 s26.2)],([.front 0 0,oR 10 (aa5 s26.1)]:lT))) (fun s26=>abG p0 w25 s26) ([],i4)
noncomputable def amY (K:mA) (a0:lS) (h0:lT):Option (nT×lT) :=
 ((fun(aL:lS) (aD:lT)=>(fun(t23:lS) (aE:lT)=>ln a0 fun t24=>(nL (G9 K (aa5 aE)) ([aL,t23,a0,t24,(.int .i64 0)],aE)).bind fun aA=>(fun aB aC aG aH aI aF=>Ex.nC aA.1 none (fun aJ=>Ex.inBlock 0 aJ (some (.ret,[aC],aF)) (fun aK=>some (aK,[aB],aF)))) (gd aA.2.1 0) (gd aA.2.1 1) (gd aA.2.1 2) (gd aA.2.1 3) (gd aA.2.1 4) aA.2.2) (.slice (Rw mS.cells []) (.own (aa5 aD))) (aD++[.front 0 0])) (.slice (Rw mS.cells []) (.own (aa5 h0))) (h0++[.front 0 0])).bind (X8 (aa5 h0))
theorem aeH (K:mA) (a0:lS) (h0:lT):p9 Tryz.prog nM nL K 163 [a0] h0=amY (mW nM K) a0 h0:=by kernel_rfl
noncomputable def t163 (p0:(List Ins)):Option ((List mS)) :=
 tb (sG (CB p0 ((aa5 p0:Nat):Int)) ([],0)) fun aA=>uW aA.1 none fun aB=>vA 0 aB (some aA.2.1) fun aC=>Ga aC (some [])
theorem aAy (p0:(List Ins)):amY KK (.slice (Rw Ins.cells p0) .no) []=tm (t163 p0) fun r=>(.ret (.slice (Rw mS.cells r) (.own 0)),[oR 10 (aa5 r)]):=by
 simp [-l9,-lV,-lU,-lW,-lZ,-lY,-lX,amY,t163,afI,X8]
theorem s_ (p0:(List Ins)) (h:lT):KK 163 [(.slice (Rw Ins.cells p0) .no)] h=tm (t163 p0) fun r=>(.ret (.slice (Rw mS.cells r) (.own (aa5 h))),h++[oR 10 (aa5 r)]):=w9 rfl rfl (aeH ..) (aAy p0) fun r=>q7
noncomputable def X6 (mm:Nat) (aB:R):Option (nT×lT) :=
 (fun aA aC=>Ex.oA aB.1 (nZ mm aA aC)) (gd aB.2.1 0) aB.2.2
theorem acA (y0:Int) (y1:Int) (y2:Int) (y3:Int) (y4:Int) (y5:Int) (y6:Int) (y7:Bool) (h:lT):mD 1 8 [(.int .i64 0),(.int .i64 0),(.int .i64 0),(.int .i64 0),(.int .i64 0),(.int .i64 0),(.int .i64 0),(.bool false)] [(0,(.agg [(.int .i64 y0),(.int .i64 y1),(.int .i64 y2),(.int .i64 y3),(.int .i64 y4),(.int .i64 y5),(.int .i64 y6),(.bool y7)]))] h=some (.slice (Rw Ins.cells [(⟨y0,y1,y2,y3,y4,y5,y6,y7⟩:Ins)]) (.own h.length),h++[oR 8 1]):=by
 rfl
theorem acB (y0:Int) (y1:Int) (y2:Int) (y3:Int) (y4:Int) (y5:Int) (y6:Int) (y7:Int) (y8:Int) (y9:Bool) (h:lT):mD 1 10 [(.int .i64 0),(.int .i64 0),(.int .i64 0),(.int .i64 0),(.int .i64 0),(.int .i64 0),(.int .i64 0),(.int .i64 0),(.int .i64 0),(.bool false)] [(0,(.agg [(.int .i64 y0),(.int .i64 y1),(.int .i64 y2),(.int .i64 y3),(.int .i64 y4),(.int .i64 y5),(.int .i64 y6),(.int .i64 y7),(.int .i64 y8),(.bool y9)]))] h=some (.slice (Rw mS.cells [(⟨y0,y1,(⟨y2,y3,y4,y5,y6,y7,y8,y9⟩:Ins)⟩:mS)]) (.own h.length),h++[oR 10 1]):=by
 rfl
noncomputable def amW (K:mA) (a0 a1 a2:lS) (h0:lT):Option (nT×lT) :=
 ((fun(aN:lS) (aA:lT)=>ca (K 165 [(lS.l_ a0)] aA) fun aI aB=>(mV [(.int .i64 0),(.int .i64 0),(.int .i64 0),(.int .i64 0),(.int .i64 0),(.int .i64 0),(.int .i64 0),(.bool false)] [(0,1),(1,1),(2,1),(3,1),(4,1),(5,1),(6,1),(7,1)] [(0,(.int .i64 23)),(2,(.int .i64 0)),(3,(.int .i64 1))]).bind fun aJ=>mC (mD 1 8 [(.int .i64 0),(.int .i64 0),(.int .i64 0),(.int .i64 0),(.int .i64 0),(.int .i64 0),(.int .i64 0),(.bool false)] [(0,aJ)] aB) fun t26 aC=>mC (nD 8 64 aC aI t26) fun t28 aD=>ca (K 163 [(lS.l_ t28)] aD) fun t31 aE=>ca (K 166 [(lS.l_ a1),(lS.l_ a2)] aE) fun aK aF=>mC (mD 1 10 [(.int .i64 0),(.int .i64 0),(.int .i64 0),(.int .i64 0),(.int .i64 0),(.int .i64 0),(.int .i64 0),(.int .i64 0),(.int .i64 0),(.bool false)] [(0,aK)] aF) fun aL aG=>mC (nD 10 80 aG t31 aL) fun aM aH=>some (.ret,[aM],aH)) (.slice (Rw mS.cells []) (.own (aa5 h0))) (h0++[.front 0 0])).bind (X6 (aa5 h0))
theorem aeF (K:mA) (a0 a1 a2:lS) (h0:lT):p9 Tryz.prog nM nL K 161 [a0,a1,a2] h0=amW (mW nM K) a0 a1 a2 h0:=by kernel_rfl
noncomputable def t161 (p0:Int) (p1:Int) (p2:Int):Option ((List mS)) :=
 tb ((t165 p0)) fun yE=>tb ((pD 64 yE [(⟨23,0,0,1,0,0,0,false⟩:Ins)])) fun aA=>tb ((t163 aA)) fun aC=>tb ((t166 p1 p2)) fun Pz=>tb ((pD 80 aC [Pz])) fun aB=>some aB
theorem aAw (p0:Int) (p1:Int) (p2:Int):amW KK (.int .i64 p0) (.int .i64 p1) (.int .i64 p2) []=tm (t161 p0 p1 p2) fun r=>(.ret (.slice (Rw mS.cells r) .no),[]):=by
 simp [-l9,-lV,-lU,-lW,-lZ,-lY,-lX,amW,t161,aBI,acA,s_,Py,acB,X6]
theorem Fz (p0:Int) (p1:Int) (p2:Int) (h:lT):KK 161 [(.int .i64 p0),(.int .i64 p1),(.int .i64 p2)] h=tm (t161 p0 p1 p2) fun r=>(.ret (.slice (Rw mS.cells r) .no),h):=oE rfl rfl (aeF ..) (aAw p0 p1 p2)
noncomputable def X3 (mm:Nat) (aB:R):Option (nT×lT) :=
 (fun aA aC=>Ex.oA aB.1 (De mm aA aC)) (gd aB.2.1 0) aB.2.2
noncomputable def G8 (K:mA) (m:Nat) (s:List lS×lT):Option R :=
 (fun aB aC aD aA aE=>bo .lss aA (.int .i64 2) fun t30=>mH t30 (ca (K 164 [(lS.l_ aB)] aE) fun t31 aF=>ca (K 60 [(lS.l_ (.int .i64 3)),(lS.l_ t31)] aF) fun aK aG=>mC (nD 8 64 aG aD aK) fun aL aH=>ca (K 139 [(lS.l_ (.int .i64 0)),(lS.l_ aA),(lS.l_ (.int .i64 3))] aH) fun aM aI=>mC (nD 8 64 aI aL aM) fun aN aJ=>bo .add aA (.int .i64 1) fun aO=>mK m .normal [aB,aC,aN,aO] aJ) (mK m (.exit 0) [aB,aC,aD,aA] aE)) (gd s.1 0) (gd s.1 1) (gd s.1 2) (gd s.1 3) s.2
noncomputable def y_ (p0:Int) (aA:(List Ins)×Int):Option (Ey×(List Ins)×Int) :=
 tc (decide (aA.2<2)) (tb ((t164 p0)) fun aD=>tb ((t60 3 aD)) fun Pz=>tb ((pD 64 aA.1 Pz)) fun aB=>tb ((t139 0 aA.2 3)) fun aE=>tb ((pD 64 aB aE)) fun aC=>some (.n,(aC,(IntKind.wrap .i64 (aA.2+1))))) (some ((.x 0),(aA.1,aA.2)))
theorem abF (p0:Int) (s24:(List Ins)×Int):G8 KK 2 ([(.int .i64 p0),(.slice (Rw mS.cells []) (.own 0)),(.slice (Rw Ins.cells s24.1) (.own 1)),(.int .i64 s24.2)],([.front 0 0,oR 8 (aa5 s24.1)]:lT))=tm (y_ p0 s24) fun r=>(r.1.ex,[(.int .i64 p0),(.slice (Rw mS.cells []) (.own 0)),(.slice (Rw Ins.cells r.2.1) (.own 1)),(.int .i64 r.2.2)],([.front 0 0,oR 8 (aa5 r.2.1)]:lT)):=by
 simp [-l9,-lV,-lU,-lW,-lZ,-lY,-lX,G8,y_,SA,DE,CL]
theorem afH (p0:Int) (i3:Int):nL (G8 KK 2) ([(.int .i64 p0),(.slice (Rw mS.cells []) (.own 0)),(.slice (Rw Ins.cells []) (.own 1)),(.int .i64 i3)],([.front 0 0,.front 0 0]:lT))=tm (sG (y_ p0) ([],i3)) fun r=>(r.1.ex,[(.int .i64 p0),(.slice (Rw mS.cells []) (.own 0)),(.slice (Rw Ins.cells r.2.1) (.own 1)),(.int .i64 r.2.2)],([.front 0 0,oR 8 (aa5 r.2.1)]:lT)):=by
 exact s7 (enc:=fun s24=>([(.int .i64 p0),(.slice (Rw mS.cells []) (.own 0)),(.slice (Rw Ins.cells s24.1) (.own 1)),(.int .i64 s24.2)],([.front 0 0,oR 8 (aa5 s24.1)]:lT))) (fun s24=>abF p0 s24) ([],i3)
noncomputable def amS (K:mA) (a0:lS) (h0:lT):Option (nT×lT) :=
 ((fun(aL:lS) (aD:lT)=>(fun(t23:lS) (aE:lT)=>(nL (G8 K (aa5 aE)) ([a0,aL,t23,(.int .i64 0)],aE)).bind fun aA=>(fun aG aB aC aH aF=>Ex.nC aA.1 none (fun aI=>Ex.inBlock 0 aI (ca (K 163 [(lS.l_ aC)] aF) fun aM aK=>some (.ret,[aM],aK)) (fun aJ=>some (aJ,[aB],aF)))) (gd aA.2.1 0) (gd aA.2.1 1) (gd aA.2.1 2) (gd aA.2.1 3) aA.2.2) (.slice (Rw Ins.cells []) (.own (aa5 aD))) (aD++[.front 0 0])) (.slice (Rw mS.cells []) (.own (aa5 h0))) (h0++[.front 0 0])).bind (X3 (aa5 h0))
theorem aeB (K:mA) (a0:lS) (h0:lT):p9 Tryz.prog nM nL K 157 [a0] h0=amS (mW nM K) a0 h0:=by kernel_rfl
noncomputable def t157 (p0:Int):Option ((List mS)) :=
 tb (sG (y_ p0) ([],0)) fun aA=>uW aA.1 none fun aB=>vA 0 aB (tb ((t163 aA.2.1)) fun aD=>some aD) fun aC=>Ga aC (some [])
theorem aAt (p0:Int):amS KK (.int .i64 p0) []=tm (t157 p0) fun r=>(.ret (.slice (Rw mS.cells r) (.own 0)),[oR 10 (aa5 r)]):=by
 simp [-l9,-lV,-lU,-lW,-lZ,-lY,-lX,amS,t157,afH,s_,X3]
theorem av1 (p0:Int) (h:lT):KK 157 [(.int .i64 p0)] h=tm (t157 p0) fun r=>(.ret (.slice (Rw mS.cells r) (.own (aa5 h))),h++[oR 10 (aa5 r)]):=w9 rfl rfl (aeB ..) (aAt p0) fun r=>q7
noncomputable def X2 (mm:Nat) (aB:R):Option (nT×lT) :=
 (fun aA aC=>Ex.oA aB.1 (nZ mm aA aC)) (gd aB.2.1 0) aB.2.2
theorem ab9 (y0:Int) (y1:Int) (y2:Int) (y3:Int) (y4:Int) (y5:Int) (y6:Int) (y7:Int) (y8:Int) (y9:Bool) (h:lT):mD 1 10 [(.int .i64 0),(.int .i64 0),(.int .i64 0),(.int .i64 0),(.int .i64 0),(.int .i64 0),(.int .i64 0),(.int .i64 0),(.int .i64 0),(.bool false)] [(0,(.agg [(.int .i64 y0),(.int .i64 y1),(.int .i64 y2),(.int .i64 y3),(.int .i64 y4),(.int .i64 y5),(.int .i64 y6),(.int .i64 y7),(.int .i64 y8),(.bool y9)]))] h=some (.slice (Rw mS.cells [(⟨y0,y1,(⟨y2,y3,y4,y5,y6,y7,y8,y9⟩:Ins)⟩:mS)]) (.own h.length),h++[oR 10 1]):=by
 rfl
noncomputable def G7 (K:mA) (m:Nat) (s:List lS×lT):Option R :=
 (fun aB aC aD aE aA aF=>bo .lss aA (.int .i64 2) fun aM=>mH aM (ca (K 129 [(lS.l_ (.int .i64 0)),(lS.l_ aA),(lS.l_ (.int .i64 0))] aF) fun t36 aG=>ca (K 163 [(lS.l_ t36)] aG) fun aN aH=>mC (nD 10 80 aH aE aN) fun aO aI=>ca (K 164 [(lS.l_ aB)] aI) fun aP aJ=>ca (K 161 [(lS.l_ aP),(lS.l_ (.int .i64 1)),(lS.l_ aC)] aJ) fun aQ aK=>mC (nD 10 80 aK aO aQ) fun aR aL=>bo .add aA (.int .i64 1) fun aS=>mK m .normal [aB,aC,aD,aR,aS] aL) (mK m (.exit 0) [aB,aC,aD,aE,aA] aF)) (gd s.1 0) (gd s.1 1) (gd s.1 2) (gd s.1 3) (gd s.1 4) s.2
noncomputable def yZ (p0:Int) (p1:Int) (aA:(List mS)×Int):Option (Ey×(List mS)×Int) :=
 tc (decide (aA.2<2)) (tb ((t129 0 aA.2 0)) fun aD=>tb ((t163 aD)) fun aE=>tb ((pD 80 aA.1 aE)) fun aB=>tb ((t164 p0)) fun aF=>tb ((t161 aF 1 p1)) fun aG=>tb ((pD 80 aB aG)) fun aC=>some (.n,(aC,(IntKind.wrap .i64 (aA.2+1))))) (some ((.x 0),(aA.1,aA.2)))
theorem abE (p0:Int) (p1:Int) (s28:(List mS)×Int):G7 KK 2 ([(.int .i64 p0),(.int .i64 p1),(.slice (Rw mS.cells []) (.own 0)),(.slice (Rw mS.cells s28.1) (.own 1)),(.int .i64 s28.2)],([.front 0 0,oR 10 (aa5 s28.1)]:lT))=tm (yZ p0 p1 s28) fun r=>(r.1.ex,[(.int .i64 p0),(.int .i64 p1),(.slice (Rw mS.cells []) (.own 0)),(.slice (Rw mS.cells r.2.1) (.own 1)),(.int .i64 r.2.2)],([.front 0 0,oR 10 (aa5 r.2.1)]:lT)):=by
 simp [-l9,-lV,-lU,-lW,-lZ,-lY,-lX,G7,yZ,VA,s_,SA,Fz]
theorem afG (p0:Int) (p1:Int) (i3:(List mS)) (i4:Int) (n1:Nat) (hn1:n1=(aa5 i3)):nL (G7 KK 2) ([(.int .i64 p0),(.int .i64 p1),(.slice (Rw mS.cells []) (.own 0)),(.slice (Rw mS.cells i3) (.own 1)),(.int .i64 i4)],([.front 0 0,oR 10 n1]:lT))=tm (sG (yZ p0 p1) (i3,i4)) fun r=>(r.1.ex,[(.int .i64 p0),(.int .i64 p1),(.slice (Rw mS.cells []) (.own 0)),(.slice (Rw mS.cells r.2.1) (.own 1)),(.int .i64 r.2.2)],([.front 0 0,oR 10 (aa5 r.2.1)]:lT)):=by
 subst hn1;exact s7 (enc:=fun s28=>([(.int .i64 p0),(.int .i64 p1),(.slice (Rw mS.cells []) (.own 0)),(.slice (Rw mS.cells s28.1) (.own 1)),(.int .i64 s28.2)],([.front 0 0,oR 10 (aa5 s28.1)]:lT))) (fun s28=>abE p0 p1 s28) (i3,i4)
noncomputable def amR (K:mA) (a0 a1:lS) (h0:lT):Option (nT×lT) :=
 ((fun(aM:lS) (aK:lT)=>ca (K 162 [(lS.l_ a0)] aK) fun aN aL=>mC (mD 1 10 [(.int .i64 0),(.int .i64 0),(.int .i64 0),(.int .i64 0),(.int .i64 0),(.int .i64 0),(.int .i64 0),(.int .i64 0),(.int .i64 0),(.bool false)] [(0,aN)] aL) fun aO aE=>(nL (G7 K (aa5 aE)) ([a0,a1,aM,aO,(.int .i64 0)],aE)).bind fun aA=>(fun aG aH aB aC aD aF=>Ex.nC aA.1 none (fun aI=>Ex.inBlock 0 aI (some (.ret,[aC],aF)) (fun aJ=>some (aJ,[aB],aF)))) (gd aA.2.1 0) (gd aA.2.1 1) (gd aA.2.1 2) (gd aA.2.1 3) (gd aA.2.1 4) aA.2.2) (.slice (Rw mS.cells []) (.own (aa5 h0))) (h0++[.front 0 0])).bind (X2 (aa5 h0))
theorem aeA (K:mA) (a0 a1:lS) (h0:lT):p9 Tryz.prog nM nL K 156 [a0,a1] h0=amR (mW nM K) a0 a1 h0:=by kernel_rfl
noncomputable def t156 (p0:Int) (p1:Int):Option ((List mS)) :=
 tb ((t162 p0)) fun yE=>tb (sG (yZ p0 p1) ([yE],0)) fun aA=>uW aA.1 none fun aB=>vA 0 aB (some aA.2.1) fun aC=>Ga aC (some [])
theorem aAs (p0:Int) (p1:Int):amR KK (.int .i64 p0) (.int .i64 p1) []=tm (t156 p0 p1) fun r=>(.ret (.slice (Rw mS.cells r) .no),[]):=by
 simp [-l9,-lV,-lU,-lW,-lZ,-lY,-lX,amR,t156,VC,ab9,afG,X2]
theorem aBH (p0:Int) (p1:Int) (h:lT):KK 156 [(.int .i64 p0),(.int .i64 p1)] h=tm (t156 p0 p1) fun r=>(.ret (.slice (Rw mS.cells r) .no),h):=oE rfl rfl (aeA ..) (aAs p0 p1)
noncomputable def X5 (mm:Nat) (Bk:R):Option (nT×lT) :=
 (fun aA aB=>Ex.oA Bk.1 (De mm aA aB)) (gd Bk.2.1 0) Bk.2.2
noncomputable def amV (K:mA) (a0 a1:lS) (h0:lT):Option (nT×lT) :=
 ((fun(aG:lS) (aA:lT)=>ca (K 130 [(lS.l_ a0)] aA) fun aE aB=>ca (K 129 [(lS.l_ aE),(lS.l_ a1),(lS.l_ (.int .i64 0))] aB) fun aF aC=>ca (K 163 [(lS.l_ aF)] aC) fun t28 aD=>some (.ret,[t28],aD)) (.slice (Rw mS.cells []) (.own (aa5 h0))) (h0++[.front 0 0])).bind (X5 (aa5 h0))
theorem aeE (K:mA) (a0 a1:lS) (h0:lT):p9 Tryz.prog nM nL K 160 [a0,a1] h0=amV (mW nM K) a0 a1 h0:=by kernel_rfl
noncomputable def t160 (p0:Int) (p1:Int):Option ((List mS)) :=
 tb ((t130 p0)) fun yE=>tb ((t129 yE p1 0)) fun aA=>tb ((t163 aA)) fun AM=>some AM
theorem aAv (p0:Int) (p1:Int):amV KK (.int .i64 p0) (.int .i64 p1) []=tm (t160 p0 p1) fun r=>(.ret (.slice (Rw mS.cells r) (.own 0)),[oR 10 (aa5 r)]):=by
 simp [-l9,-lV,-lU,-lW,-lZ,-lY,-lX,amV,t160,aeW,VA,s_,X5]
theorem aoQ (p0:Int) (p1:Int) (h:lT):KK 160 [(.int .i64 p0),(.int .i64 p1)] h=tm (t160 p0 p1) fun r=>(.ret (.slice (Rw mS.cells r) (.own (aa5 h))),h++[oR 10 (aa5 r)]):=w9 rfl rfl (aeE ..) (aAv p0 p1) fun r=>q7
noncomputable def X0 (mm:Nat) (aB:R):Option (nT×lT) :=
 (fun aA aC=>Ex.oA aB.1 (nZ mm aA aC)) (gd aB.2.1 0) aB.2.2
theorem ab7 (y0:Int) (y1:Int) (y2:Int) (y3:Int) (y4:Int) (y5:Int) (y6:Int) (y7:Int) (y8:Int) (y9:Bool) (y10:Int) (y11:Int) (y12:Int) (y13:Int) (y14:Int) (y15:Int) (y16:Int) (y17:Int) (y18:Int) (y19:Bool) (h:lT):mD 2 10 [(.int .i64 0),(.int .i64 0),(.int .i64 0),(.int .i64 0),(.int .i64 0),(.int .i64 0),(.int .i64 0),(.int .i64 0),(.int .i64 0),(.bool false)] [(0,(.agg [(.int .i64 y0),(.int .i64 y1),(.int .i64 y2),(.int .i64 y3),(.int .i64 y4),(.int .i64 y5),(.int .i64 y6),(.int .i64 y7),(.int .i64 y8),(.bool y9)])),(1,(.agg [(.int .i64 y10),(.int .i64 y11),(.int .i64 y12),(.int .i64 y13),(.int .i64 y14),(.int .i64 y15),(.int .i64 y16),(.int .i64 y17),(.int .i64 y18),(.bool y19)]))] h=some (.slice (Rw mS.cells [(⟨y0,y1,(⟨y2,y3,y4,y5,y6,y7,y8,y9⟩:Ins)⟩:mS),(⟨y10,y11,(⟨y12,y13,y14,y15,y16,y17,y18,y19⟩:Ins)⟩:mS)]) (.own h.length),h++[oR 10 2]):=by
 rfl
theorem ab8 (y0:Int) (y1:Int) (y2:Int) (y3:Int) (y4:Int) (y5:Int) (y6:Int) (y7:Int) (y8:Int) (y9:Bool) (y10:Int) (y11:Int) (y12:Int) (y13:Int) (y14:Int) (y15:Int) (y16:Int) (y17:Int) (y18:Int) (y19:Bool) (h:lT):mD 2 10 [(.int .i64 0),(.int .i64 0),(.int .i64 0),(.int .i64 0),(.int .i64 0),(.int .i64 0),(.int .i64 0),(.int .i64 0),(.int .i64 0),(.bool false)] [(0,(.agg [(.int .i64 y0),(.int .i64 y1),(.int .i64 y2),(.int .i64 y3),(.int .i64 y4),(.int .i64 y5),(.int .i64 y6),(.int .i64 y7),(.int .i64 y8),(.bool y9)])),(1,(.agg [(.int .i64 y10),(.int .i64 y11),(.int .i64 y12),(.int .i64 y13),(.int .i64 y14),(.int .i64 y15),(.int .i64 y16),(.int .i64 y17),(.int .i64 y18),(.bool y19)]))] h=some (.slice (Rw mS.cells [(⟨y0,y1,(⟨y2,y3,y4,y5,y6,y7,y8,y9⟩:Ins)⟩:mS),(⟨y10,y11,(⟨y12,y13,y14,y15,y16,y17,y18,y19⟩:Ins)⟩:mS)]) (.own h.length),h++[oR 10 2]):=by
 rfl
noncomputable def amO (K:mA) (a0 a1:lS) (h0:lT):Option (nT×lT) :=
 ((fun(aO:lS) (aA:lT)=>bo .lss a0 (.int .i64 0) fun aJ=>mH aJ (ca (K 159 [(lS.l_ a1)] aA) fun t23 aB=>ca (K 159 [(lS.l_ a1)] aB) fun t26 aC=>mC (mD 2 10 [(.int .i64 0),(.int .i64 0),(.int .i64 0),(.int .i64 0),(.int .i64 0),(.int .i64 0),(.int .i64 0),(.int .i64 0),(.int .i64 0),(.bool false)] [(0,t23),(1,t26)] aC) fun t29 aD=>some (.ret,[t29],aD)) (ca (K 157 [(lS.l_ a0)] aA) fun t31 aE=>ca (K 159 [(lS.l_ a0)] aE) fun aK aF=>ca (K 159 [(lS.l_ a0)] aF) fun aL aG=>mC (mD 2 10 [(.int .i64 0),(.int .i64 0),(.int .i64 0),(.int .i64 0),(.int .i64 0),(.int .i64 0),(.int .i64 0),(.int .i64 0),(.int .i64 0),(.bool false)] [(0,aK),(1,aL)] aG) fun aM aH=>mC (nD 10 80 aH t31 aM) fun aN aI=>some (.ret,[aN],aI))) (.slice (Rw mS.cells []) (.own (aa5 h0))) (h0++[.front 0 0])).bind (X0 (aa5 h0))
theorem ad7 (K:mA) (a0 a1:lS) (h0:lT):p9 Tryz.prog nM nL K 153 [a0,a1] h0=amO (mW nM K) a0 a1 h0:=by kernel_rfl
noncomputable def t153 (p0:Int) (p1:Int):Option ((List mS)) :=
 tc (decide (p0<0)) (tb ((t159 p1)) fun aB=>tb ((t159 p1)) fun Bd=>some [aB,Bd]) (tb ((t157 p0)) fun aC=>tb ((t159 p0)) fun Pz=>tb ((t159 p0)) fun aD=>tb ((pD 80 aC [Pz,aD])) fun aA=>some aA)
theorem aAp (p0:Int) (p1:Int):amO KK (.int .i64 p0) (.int .i64 p1) []=tm (t153 p0 p1) fun r=>(.ret (.slice (Rw mS.cells r) .no),[]):=by
 simp [-l9,-lV,-lU,-lW,-lZ,-lY,-lX,amO,t153,Px,ab7,av1,ab8,X0]
theorem Ai (p0:Int) (p1:Int) (h:lT):KK 153 [(.int .i64 p0),(.int .i64 p1)] h=tm (t153 p0 p1) fun r=>(.ret (.slice (Rw mS.cells r) .no),h):=oE rfl rfl (ad7 ..) (aAp p0 p1)
noncomputable def Fl (mm:Nat) (Sx:R):Option (nT×lT) :=
 (fun aA aB aC=>Ex.oA Sx.1 (nZ mm (.tuple [aA,aB]) aC)) (gd Sx.2.1 0) (gd Sx.2.1 1) Sx.2.2
theorem Me (y0:Int) (y1:Int) (y2:Int) (y3:Int) (y4:Int) (y5:Int) (y6:Int) (y7:Int) (y8:Int) (y9:Bool) (h:lT):mD 1 10 [(.int .i64 0),(.int .i64 0),(.int .i64 0),(.int .i64 0),(.int .i64 0),(.int .i64 0),(.int .i64 0),(.int .i64 0),(.int .i64 0),(.bool false)] [(0,(.agg [(.int .i64 y0),(.int .i64 y1),(.int .i64 y2),(.int .i64 y3),(.int .i64 y4),(.int .i64 y5),(.int .i64 y6),(.int .i64 y7),(.int .i64 y8),(.bool y9)]))] h=some (.slice (Rw mS.cells [(⟨y0,y1,(⟨y2,y3,y4,y5,y6,y7,y8,y9⟩:Ins)⟩:mS)]) (.own h.length),h++[oR 10 1]):=by
 rfl
noncomputable def M1 (K:mA) (bH:lS) (aD:lT) (aC:lS) (a1:lS) (a2:lS):Option R :=
 mH bH ((fun(bI:lS) (aV:lT)=>some (.ret,[bI,(.int .i64 2)],aV)) (.slice (Rw mS.cells []) (.own (aa5 aD))) (aD++[.front 0 0])) (fa 1 aC fun bJ=>ld false 1 aD bJ fun bK=>ca (K 160 [(lS.l_ bK),(lS.l_ (.int .i64 0))] aD) fun bL aW=>ca (K 161 [(lS.l_ (.int .i64 4294967295)),(lS.l_ (.int .i64 0)),(lS.l_ a1)] aW) fun t60 aX=>mC (nD 10 80 aX bL t60) fun bM aY=>ca (K 161 [(lS.l_ (.int .i64 0)),(lS.l_ (.int .i64 1)),(lS.l_ a2)] aY) fun bN aZ=>mC (nD 10 80 aZ bM bN) fun bO aT=>fa 1 aC fun bP=>ld false 1 aT bP fun t73=>ca (K 160 [(lS.l_ t73),(lS.l_ (.int .i64 1))] aT) fun bQ a_=>mC (nD 10 80 a_ bO bQ) fun bR bB=>ca (K 161 [(lS.l_ (.int .i64 0)),(lS.l_ (.int .i64 1)),(lS.l_ a2)] bB) fun bS bC=>mC (nD 10 80 bC bR bS) fun bT aU=>fa 3 aC fun bU=>ld false 1 aU bU fun bV=>ca (K 153 [(lS.l_ bV),(lS.l_ a2)] aU) fun bW bD=>mC (nD 10 80 bD bT bW) fun bX bE=>ca (K 162 [(lS.l_ a1)] bE) fun bY bF=>mC (mD 1 10 [(.int .i64 0),(.int .i64 0),(.int .i64 0),(.int .i64 0),(.int .i64 0),(.int .i64 0),(.int .i64 0),(.int .i64 0),(.int .i64 0),(.bool false)] [(0,bY)] bF) fun bZ bG=>mC (nD 10 80 bG bX bZ) fun b_ aA=>fa 1 aC fun aJ=>ld false 1 aA aJ fun aK=>ca (K 160 [(lS.l_ aK),(lS.l_ (.int .i64 1))] aA) fun aL aE=>mC (nD 10 80 aE b_ aL) fun aM aF=>ca (K 161 [(lS.l_ (.int .i64 4294967295)),(lS.l_ (.int .i64 1)),(lS.l_ a2)] aF) fun aN aG=>mC (nD 10 80 aG aM aN) fun aO aB=>fa 2 aC fun aP=>ld false 1 aB aP fun aQ=>ca (K 153 [(lS.l_ aQ),(lS.l_ a2)] aB) fun aR aH=>mC (nD 10 80 aH aO aR) fun aS aI=>some (.ret,[aS,(.int .i64 0)],aI))
noncomputable def yY (aT:Bool) (p0:Term) (p1:Int) (p2:Int):Option ((List mS)×Int) :=
 tc aT (some ([],2)) (tb ((t160 p0.a 0)) fun aM=>tb ((t161 4294967295 0 p1)) fun aN=>tb ((pD 80 aM aN)) fun aH=>tb ((t161 0 1 p2)) fun aO=>tb ((pD 80 aH aO)) fun aI=>tb ((t160 p0.a 1)) fun aP=>tb ((pD 80 aI aP)) fun aJ=>tb ((t161 0 1 p2)) fun aQ=>tb ((pD 80 aJ aQ)) fun aK=>tb ((t153 p0.no p2)) fun aR=>tb ((pD 80 aK aR)) fun aL=>tb ((t162 p1)) fun aS=>tb ((pD 80 aL [aS])) fun aA=>tb ((t160 p0.a 1)) fun aE=>tb ((pD 80 aA aE)) fun aB=>tb ((t161 4294967295 1 p2)) fun aF=>tb ((pD 80 aB aF)) fun aC=>tb ((t153 p0.yes p2)) fun aG=>tb ((pD 80 aC aG)) fun aD=>some (aD,0))
theorem Uh (w52:Bool) (p0:Term) (p1:Int) (p2:Int):((M1 KK (.bool w52) ([.cells [(.int .i64 p0.kind),(.int .i64 p0.a),(.int .i64 p0.yes),(.int .i64 p0.no)],.front 0 0]:lT) (.ptr 0 0) (.int .i64 p1) (.int .i64 p2))).bind (Fl 0)=tm (yY w52 p0 p1 p2) fun r=>(.ret (.tuple [(.slice (Rw mS.cells r.1) .no),(.int .i64 r.2)]),[]):=by
 cases w52 <;> simp [-l9,-lV,-lU,-lW,-lZ,-lY,-lX,M1,yY,aoQ,Fz,Ai,VC,Me,Fl]
noncomputable def M0 (K:mA) (t36:lS) (aD:lS) (aB:lT) (a1:lS) (a2:lS):Option R :=
 gS false t36 (fa 1 aD fun aF=>mM aF aB) aB fun aG aA=>gS false t36 (ld false 1 aA aG fun aH=>mM aH aA) aA fun aI aC=>gS false t36 (bo .geq aI (.int .i64 16383) fun aJ=>mM aJ aC) aC fun aK aE=>(nA t36 (.bool true) aK).bind fun aL=>M1 K aL aE aD a1 a2
noncomputable def EN (aA:Bool) (p0:Term) (p1:Int) (p2:Int):Option ((List mS)×Int) :=
 tc aA (yY true p0 p1 p2) (yY (decide (16383≤p0.a)) p0 p1 p2)
theorem afF (w39:Bool) (p0:Term) (p1:Int) (p2:Int):((M0 KK (.bool w39) (.ptr 0 0) ([.cells [(.int .i64 p0.kind),(.int .i64 p0.a),(.int .i64 p0.yes),(.int .i64 p0.no)],.front 0 0]:lT) (.int .i64 p1) (.int .i64 p2))).bind (Fl 0)=tm (EN w39 p0 p1 p2) fun r=>(.ret (.tuple [(.slice (Rw mS.cells r.1) .no),(.int .i64 r.2)]),[]):=by
 cases w39 <;> simp [-l9,-lV,-lU,-lW,-lZ,-lY,-lX,M0,EN,aoQ,Fz,Ai,VC,Me,Fl,Uh]
noncomputable def amP (K:mA) (a0 a1 a2:lS) (h0:lT):Option (nT×lT) :=
 (mC (nP 4 h0 a0) fun aC aD=>(fun(t23:lS) (aA:lT)=>fa 0 aC fun t24=>ld false 1 aA t24 fun aG=>bo .neq aG (.int .i64 2) fun t26=>gS false t26 (fa 1 aC fun aH=>mM aH aA) aA fun t28 aB=>gS false t26 (ld false 1 aB t28 fun t30=>mM t30 aB) aB fun t31 aE=>gS false t26 (bo .lss t31 (.int .i64 0) fun aI=>mM aI aE) aE fun aJ aF=>(nA t26 (.bool true) aJ).bind fun t36=>M0 K t36 aC aF a1 a2) (.slice (Rw mS.cells []) (.own (aa5 aD))) (aD++[.front 0 0])).bind (Fl (aa5 h0))
theorem ad8 (K:mA) (a0 a1 a2:lS) (h0:lT):p9 Tryz.prog nM nL K 154 [a0,a1,a2] h0=amP (mW nM K) a0 a1 a2 h0:=by kernel_rfl
noncomputable def t154 (p0:Term) (p1:Int) (p2:Int):Option ((List mS)×Int) :=
 tc (!decide (p0.kind=2)) (EN true p0 p1 p2) (EN (decide (p0.a<0)) p0 p1 p2)
theorem aAq (p0:Term) (p1:Int) (p2:Int):amP KK (.agg [(.int .i64 p0.kind),(.int .i64 p0.a),(.int .i64 p0.yes),(.int .i64 p0.no)]) (.int .i64 p1) (.int .i64 p2) []=tm (t154 p0 p1 p2) fun r=>(.ret (.tuple [(.slice (Rw mS.cells r.1) .no),(.int .i64 r.2)]),[]):=by
 simp +contextual [-l9,-lV,-lU,-lW,-lZ,-lY,-lX,amP,t154,aoQ,Fz,Ai,VC,Me,Fl,Uh,afF]
theorem avZ (p0:Term) (p1:Int) (p2:Int) (h:lT):KK 154 [(.agg [(.int .i64 p0.kind),(.int .i64 p0.a),(.int .i64 p0.yes),(.int .i64 p0.no)]),(.int .i64 p1),(.int .i64 p2)] h=tm (t154 p0 p1 p2) fun r=>(.ret (.tuple [(.slice (Rw mS.cells r.1) .no),(.int .i64 r.2)]),h):=oE rfl rfl (ad8 ..) (aAq p0 p1 p2)
noncomputable def X1 (mm:Nat) (EW:R):Option (nT×lT) :=
 (fun aA aB=>Ex.oA EW.1 (nZ mm aA aB)) (gd EW.2.1 0) EW.2.2
noncomputable def amQ (K:mA) (a0 a1:lS) (h0:lT):Option (nT×lT) :=
 (mC (nP 1 h0 a0) fun aB aA=>fa 0 aB fun aC=>ld false 1 aA aC fun t23=>bo .add t23 (.int .i64 2) fun t24=>bo .add t24 a1 fun aD=>some (.ret,[aD],aA)).bind (X1 (aa5 h0))
theorem ad9 (K:mA) (a0 a1:lS) (h0:lT):p9 Tryz.prog nM nL K 155 [a0,a1] h0=amQ (mW nM K) a0 a1 h0:=by kernel_rfl
noncomputable def t155 (p0:Lay) (p1:Int):Option (Int) :=
 some (IntKind.wrap .i64 ((IntKind.wrap .i64 (p0.n+2))+p1))
theorem aAr (p0:Lay) (p1:Int):amQ KK (.agg [(.int .i64 p0.n)]) (.int .i64 p1) []=tm (t155 p0 p1) fun r=>(.ret (.int .i64 r),[]):=by
 simp [-l9,-lV,-lU,-lW,-lZ,-lY,-lX,amQ,t155,X1]
theorem av0 (p0:Lay) (p1:Int) (h:lT):KK 155 [(.agg [(.int .i64 p0.n)]),(.int .i64 p1)] h=tm (t155 p0 p1) fun r=>(.ret (.int .i64 r),h):=oE rfl rfl (ad9 ..) (aAr p0 p1)
noncomputable def XZ (mm:Nat) (aB:R):Option (nT×lT) :=
 (fun aA aC=>Ex.oA aB.1 (De mm aA aC)) (gd aB.2.1 0) aB.2.2
noncomputable def amN (K:mA) (a0:lS) (h0:lT):Option (nT×lT) :=
 (mC (nP 1 h0 a0) fun aD aA=>(fun(t23:lS) (aB:lT)=>ca (K 157 [(lS.l_ (.int .i64 0))] aB) fun t24 aC=>some (.ret,[t24],aC)) (.slice (Rw mS.cells []) (.own (aa5 aA))) (aA++[.front 0 0])).bind (XZ (aa5 h0))
theorem ad5 (K:mA) (a0:lS) (h0:lT):p9 Tryz.prog nM nL K 151 [a0] h0=amN (mW nM K) a0 h0:=by kernel_rfl
noncomputable def t151 (p0:LD):Option ((List mS)) :=
 tb ((t157 0)) fun EW=>some EW
theorem aAo (p0:LD):amN KK (.agg [(.int .i64 p0.lay.n)]) []=tm (t151 p0) fun r=>(.ret (.slice (Rw mS.cells r) (.own 0)),[oR 10 (aa5 r)]):=by
 simp [-l9,-lV,-lU,-lW,-lZ,-lY,-lX,amN,t151,av1,XZ]
theorem Ny (p0:LD) (h:lT):KK 151 [(.agg [(.int .i64 p0.lay.n)])] h=tm (t151 p0) fun r=>(.ret (.slice (Rw mS.cells r) (.own (aa5 h))),h++[oR 10 (aa5 r)]):=w9 rfl rfl (ad5 ..) (aAo p0) fun r=>q7
noncomputable def XY (mm:Nat) (Hf:R):Option (nT×lT) :=
 (fun aA aB=>Ex.oA Hf.1 (nZ mm aA aB)) (gd Hf.2.1 0) Hf.2.2
noncomputable def amM (K:mA) (a0 a1:lS) (h0:lT):Option (nT×lT) :=
 (mC (nP 1 h0 a0) fun aE aA=>(fun(t23:lS) (aB:lT)=>fa 0 aE fun t24=>ld true 1 aB t24 fun aF=>ca (K 14 [(lS.l_ aF)] aB) fun t26 aC=>ca (K 156 [(lS.l_ a1),(lS.l_ t26)] aC) fun t29 aD=>some (.ret,[t29],aD)) (.slice (Rw mS.cells []) (.own (aa5 aA))) (aA++[.front 0 0])).bind (XY (aa5 h0))
theorem ad4 (K:mA) (a0 a1:lS) (h0:lT):p9 Tryz.prog nM nL K 150 [a0,a1] h0=amM (mW nM K) a0 a1 h0:=by kernel_rfl
noncomputable def t150 (p0:LD) (p1:Int):Option ((List mS)) :=
 tb ((t14 p0.lay)) fun Bd=>tb ((t156 p1 Bd)) fun Bk=>some Bk
theorem aAn (p0:LD) (p1:Int):amM KK (.agg [(.int .i64 p0.lay.n)]) (.int .i64 p1) []=tm (t150 p0 p1) fun r=>(.ret (.slice (Rw mS.cells r) .no),[]):=by
 simp [-l9,-lV,-lU,-lW,-lZ,-lY,-lX,amM,t150,Qo,aBH,XY]
theorem avY (p0:LD) (p1:Int) (h:lT):KK 150 [(.agg [(.int .i64 p0.lay.n)]),(.int .i64 p1)] h=tm (t150 p0 p1) fun r=>(.ret (.slice (Rw mS.cells r) .no),h):=oE rfl rfl (ad4 ..) (aAn p0 p1)
noncomputable def XX (mm:Nat) (aB:R):Option (nT×lT) :=
 (fun aA aC=>Ex.oA aB.1 (nZ mm aA aC)) (gd aB.2.1 0) aB.2.2
noncomputable def amK (K:mA) (a0 a1 a2:lS) (h0:lT):Option (nT×lT) :=
 (mC (nP 1 h0 a0) fun aC aJ=>mC (nP 4 aJ a2) fun aB aF=>(fun(bE:lS) (aA:lT)=>fa 0 aB fun t26=>ld false 1 aA t26 fun aH=>bo .eql aH (.int .i64 1) fun t28=>mH t28 (fa 2 aB fun t29=>ld false 1 aA t29 fun t30=>fa 0 aC fun t31=>ld true 1 aA t31 fun t32=>ca (K 14 [(lS.l_ t32)] (rZ (mX [0] [t29]) aA)) fun aQ aK=>ca (K 153 [(lS.l_ t30),(lS.l_ aQ)] (oD (mX [0] [t29]) aA aK)) fun t36 aL=>some (.ret,[t36],aL)) (bo .eql aH (.int .i64 3) fun aR=>mH aR (fa 0 aC fun aS=>fa 0 aS fun aE=>ld false 1 aA aE fun aT=>fa 0 aC fun aU=>ld true 1 aA aU fun aV=>ca (K 14 [(lS.l_ aV)] (rZ (mX [0] [aE]) aA)) fun aW aM=>ca (K 153 [(lS.l_ aT),(lS.l_ aW)] (oD (mX [0] [aE]) aA aM)) fun aX aN=>some (.ret,[aX],aN)) (ld true 4 aA aB fun aY=>fa 0 aC fun aZ=>ld true 1 aA aZ fun t53=>fa 0 aC fun aD=>ld true 1 aA aD fun a_=>ca (K 155 [(lS.l_ t53),(lS.l_ a1)] (rZ (mX [0,1] [aB,aD]) aA)) fun bB aG=>ca (K 14 [(lS.l_ a_)] (rZ (mX [0] [aB]) (oD (mX [0,1] [aB,aD]) aA aG))) fun bC aO=>ca (K 154 [(lS.l_ aY),(lS.l_ bB),(lS.l_ bC)] (oD (mX [0] [aB]) (oD (mX [0,1] [aB,aD]) aA aG) aO)) fun aI aP=>(nO 0 aI).bind fun bD=>(nO 1 aI).bind fun bF=>some (.ret,[bD],aP)))) (.slice (Rw mS.cells []) (.own (aa5 aF))) (aF++[.front 0 0])).bind (XX (aa5 h0))
theorem ad3 (K:mA) (a0 a1 a2:lS) (h0:lT):p9 Tryz.prog nM nL K 149 [a0,a1,a2] h0=amK (mW nM K) a0 a1 a2 h0:=by kernel_rfl
noncomputable def t149 (p0:LD) (p1:Int) (p2:Term):Option ((List mS)) :=
 tc (decide (p2.kind=1)) (tb ((t14 p0.lay)) fun aA=>tb ((t153 p2.yes aA)) fun aB=>some aB) (tc (decide (p2.kind=3)) (tb ((t14 p0.lay)) fun aC=>tb ((t153 p0.lay.n aC)) fun aD=>some aD) (tb ((t155 p0.lay p1)) fun aE=>tb ((t14 p0.lay)) fun aF=>tb ((t154 p2 aE aF)) fun aG=>some aG.1))
theorem aAm (p0:LD) (p1:Int) (p2:Term):amK KK (.agg [(.int .i64 p0.lay.n)]) (.int .i64 p1) (.agg [(.int .i64 p2.kind),(.int .i64 p2.a),(.int .i64 p2.yes),(.int .i64 p2.no)]) []=tm (t149 p0 p1 p2) fun r=>(.ret (.slice (Rw mS.cells r) .no),[]):=by
 simp [-l9,-lV,-lU,-lW,-lZ,-lY,-lX,amK,t149,Qo,Ai,av0,avZ,XX]
theorem Y7 (p0:LD) (p1:Int) (p2:Term) (h:lT):KK 149 [(.agg [(.int .i64 p0.lay.n)]),(.int .i64 p1),(.agg [(.int .i64 p2.kind),(.int .i64 p2.a),(.int .i64 p2.yes),(.int .i64 p2.no)])] h=tm (t149 p0 p1 p2) fun r=>(.ret (.slice (Rw mS.cells r) .no),h):=oE rfl rfl (ad3 ..) (aAm p0 p1 p2)
end
noncomputable section
open Go Hk
noncomputable def vZ (K:mA) (m:Nat) (s:List lS×lT):Option R :=
 (fun aC aD aE aF aB aA aG=>(mP .lss aA (.int .i64 2)).bind fun t15=>mH t15 ((mF true 6 aG aC).bind fun aN=>(mF true 3 aG aD).bind fun aO=>mR (K 132 [(lS.l_ aN),(lS.l_ aO),(lS.l_ aA)] aG) (fun aI aH=>(nO 0 aI).bind fun aP=>(nO 1 aI).bind fun aJ=>(mP .neq aJ (.int .i64 0)).bind fun aQ=>mH aQ ((fun(t24:lS) (aK:lT)=>mK m .ret [aC,aD,t24,aJ,aB,aA] aK) (.slice [] (.own (aa5 aH))) (aH++[.front 0 0])) (mR (K 163 [(lS.l_ aP)] aH) (fun aR aL=>mC (nD 10 80 aL aB aR) fun aS aM=>(mP .add aA (.int .i64 1)).bind fun t29=>mK m .normal [aC,aD,aE,aF,aS,t29] aM) (fun _ _=>none))) (fun _ _=>none)) (mK m (.exit 0) [aC,aD,aE,aF,aB,aA] aG)) (ac5 s.1 0 .junk) (ac5 s.1 1 .junk) (ac5 s.1 2 .junk) (ac5 s.1 3 .junk) (ac5 s.1 4 .junk) (ac5 s.1 5 .junk) s.2
noncomputable def aeC (K:mA) (a0 a1:lS) (h0:lT):Option (nT×lT) :=
 (mC (nP 6 h0 a0) fun t0 h1=>mC (nP 3 h1 a1) fun t2 h3=>(fun(t5:lS) (h4:lT)=>(fun(t7:lS) (h6:lT)=>(nL (vZ K (aa5 h6)) ([t0,t2,t5,(.int .i64 0),t7,(.int .i64 0)],h6)).bind fun AM=>(fun aI aJ aA aC aE aG aH=>Ex.nC AM.1 none (fun aK=>Ex.inBlock 0 aK (some (.ret,[aE,(.int .i64 0)],aH)) (fun aL=>some (aL,[aA,aC],aH)))) (ac5 AM.2.1 0 .junk) (ac5 AM.2.1 1 .junk) (ac5 AM.2.1 2 .junk) (ac5 AM.2.1 3 .junk) (ac5 AM.2.1 4 .junk) (ac5 AM.2.1 5 .junk) AM.2.2) (.slice [] (.own (aa5 h4))) (h4++[.front 0 0])) (.slice [] (.own (aa5 h3))) (h3++[.front 0 0])).bind fun aF=>(fun aB aD aM=>Ex.oA aF.1 (nZ (aa5 h0) (.tuple [aB,aD]) aM)) (ac5 aF.2.1 0 .junk) (ac5 aF.2.1 1 .junk) aF.2.2
theorem M3 (K:mA) (a0 a1:lS) (h0:lT):p9 Tryz.prog nM nL K 158 [a0,a1] h0=aeC (mW nM K) a0 a1 h0:=by kernel_rfl
noncomputable def avE (K:mA) (a0 a1 a2:lS) (h0:lT):Option (nT×lT) :=
 (mC (nP 1 h0 a0) fun t0 h1=>mC (nP 6 h1 a1) fun t2 h3=>mC (nP 3 h3 a2) fun t4 h5=>(fun(t7:lS) (h6:lT)=>(mF true 6 h6 t2).bind fun t8=>(mF true 3 h6 t4).bind fun t9=>mR (K 158 [(lS.l_ t8),(lS.l_ t9)] h6) (fun aB aC=>(nO 0 aB).bind fun t12=>(nO 1 aB).bind fun t13=>some (.ret,[t12],aC)) (fun _ _=>none)) (.slice [] (.own (aa5 h5))) (h5++[.front 0 0])).bind fun Qo=>(fun aA aD=>Ex.oA Qo.1 (nZ (aa5 h0) aA aD)) (ac5 Qo.2.1 0 .junk) Qo.2.2
theorem ad6 (K:mA) (a0 a1 a2:lS) (h0:lT):p9 Tryz.prog nM nL K 152 [a0,a1,a2] h0=avE (mW nM K) a0 a1 a2 h0:=by kernel_rfl
end
section
open Go Hk
theorem FI {l:List Ins}(hl:l.length≤2000000):t163 l=some (oK l):=by
 have e:CB=xI:=by funext a b c;simp only [CB,xI]
 have g:t163 l=t131 l:=by unfold t163 t131;rw [e]
 rw [g,NK hl]
section
variable (o:Op) (s:oW)
noncomputable def NJ (A:List mS) (k:Int):List lS×lT:=([.ptr 0 0,.ptr 1 0,.slice [] (.own 2),.int .i64 0,.slice (Rw mS.cells A) (.own 3),.int .i64 k],
 [.cells [.int .i64 o.kind,.int .i64 o.dst,.int .i64 o.a,.int .i64 o.b,.int .i64 o.c,.int .i64 o.imm],.cells [.int .i64 s.elem,.int .i64 s.off,.bool s.inp],.front 0 0,oR 10 A.length])
theorem aiX {k:Int}{A:List mS}{L:List Ins}(hk:k<2) (h132:t132 o s k=some (L,0)) (hL:L.length≤100) (hA:A.length≤1000) :
  vZ KK 4 (NJ o s A k)=some (.normal,NJ o s (A++oK L) (IntKind.wrap .i64 (k+1))):=by
 have k132:=fun h=>sK o s k h
 simp only [h132,pH] at k132
 have k163:=fun h=>s_ L h
 simp only [FI (show L.length≤2000000 by omega),pH] at k163
 have e2:pD 80 A (oK L)=some (A++oK L):=oI (by omega) (by omega) (by simp [oK];omega)
 simp [vZ,NJ,hk,k132,k163,e2]
theorem Zf {k e:Int}{A:List mS}{L:List Ins}(hk:k<2) (h132:t132 o s k=some (L,e)) (he:e≠0) :
  vZ KK 4 (NJ o s A k)=some (.ret,[.ptr 0 0,.ptr 1 0,.slice [] .no,.int .i64 e,.slice (Rw mS.cells A) (.own 3),.int .i64 k],(NJ o s A k).2):=by
 have k132:=fun h=>sK o s k h
 simp only [h132,pH] at k132
 simp [vZ,NJ,hk,k132,he]
theorem apJ {A:List mS}:vZ KK 4 (NJ o s A 2)=some (.exit 0,NJ o s A 2):=by
 simp [vZ,NJ]
theorem aAM:∃L,tA 38 L∧∃e,∀h:lT,KK 158 [.agg [.int .i64 o.kind,.int .i64 o.dst,.int .i64 o.a,.int .i64 o.b,.int .i64 o.c,.int .i64 o.imm],.agg [.int .i64 s.elem,.int .i64 s.off,.bool s.inp]] h =
  some (.ret (.tuple [.slice (Rw mS.cells (oK L)) .no,.int .i64 e]),h):=by
 obtain⟨L0,e0,h0,f0⟩:=SS o s 0
 obtain⟨L1,e1,h1,f1⟩:=SS o s 1
 have w1:IntKind.i64.wrap ((0:Int)+1)=1:=rfl
 have w2:IntKind.i64.wrap ((1:Int)+1)=2:=rfl
 have es:([.ptr 0 0,.ptr 1 0,.slice [] (.own 2),.int .i64 0,.slice [] (.own 3),.int .i64 0],[.cells [.int .i64 o.kind,.int .i64 o.dst,.int .i64 o.a,.int .i64 o.b,.int .i64 o.c,.int .i64 o.imm],.cells [.int .i64 s.elem,.int .i64 s.off,.bool s.inp],.front 0 0,.front 0 0])=NJ o s [] 0:=rfl
 by_cases z0:e0=0
 ·subst z0
  have a0:=aiX o s (A:=[]) (by omega) h0 (by have:=f0.1;omega) (by simp)
  rw [w1,av6] at a0
  by_cases z1:e1=0
  ·subst z1
   have a1:=aiX o s (A:=oK L0) (by omega) h1 (by have:=f1.1;omega) (by have:=f0.1;simp [oK];omega)
   rw [w2] at a1
   have hl:nL (vZ KK 4) (NJ o s [] 0)=some (.exit 0,NJ o s (oK L0++oK L1) 2):=by
    rw [nW,a0];simp only [ak6,Ex.nC]
    rw [nW,a1];simp only [ak6,Ex.nC]
    rw [nW,apJ];rfl
   refine⟨L0++L1,f0.app f1,0,fun h=>nN rfl rfl (oN (M3 _ _ _ _) ?_)⟩
   rw [←es] at hl;simp only [NJ] at hl
   simp [aeC,hl,oK]
  ·have a1:=Zf o s (A:=oK L0) (by omega) h1 z1
   have hl:nL (vZ KK 4) (NJ o s [] 0)=some (.ret,[.ptr 0 0,.ptr 1 0,.slice [] .no,.int .i64 e1,.slice (Rw mS.cells (oK L0)) (.own 3),.int .i64 1],(NJ o s (oK L0) 1).2):=by
    rw [nW,a0];simp only [ak6,Ex.nC]
    rw [nW,a1];rfl
   refine⟨[],.nil,e1,fun h=>nN rfl rfl (oN (M3 _ _ _ _) ?_)⟩
   rw [←es] at hl;simp only [NJ] at hl
   simp [aeC,hl,oK,Rw]
 ·have a0:=Zf o s (A:=[]) (by omega) h0 z0
  have hl:nL (vZ KK 4) (NJ o s [] 0)=some (.ret,[.ptr 0 0,.ptr 1 0,.slice [] .no,.int .i64 e0,.slice (Rw mS.cells []) (.own 3),.int .i64 0],(NJ o s [] 0).2):=by
   rw [nW,a0];rfl
  refine⟨[],.nil,e0,fun h=>nN rfl rfl (oN (M3 _ _ _ _) ?_)⟩
  rw [←es] at hl;simp only [NJ] at hl
  simp [aeC,hl,oK,Rw]
theorem akM (n:Int):∃L,tA 38 L∧∀h:lT,KK 152 [.agg [.int .i64 n],.agg [.int .i64 o.kind,.int .i64 o.dst,.int .i64 o.a,.int .i64 o.b,.int .i64 o.c,.int .i64 o.imm],.agg [.int .i64 s.elem,.int .i64 s.off,.bool s.inp]] h =
  some (.ret (.slice (Rw mS.cells (oK L)) .no),h):=by
 obtain⟨L,f,e,k⟩:=aAM o s
 refine⟨L,f,fun h=>nN rfl rfl (oN (ad6 _ _ _ _ _) ?_)⟩
 simp [avE,k,nE]
end
end
section
open Go Hk
theorem Ll (k:Int):∃x,t164 k=some x:=by
 unfold t164 agA
 exact⟨_,by rw [if_neg (by omega),mN]⟩
theorem JL {x y:List Ins}(hx:x.length≤2000000) (hy:y.length≤2000000):pD 64 x y=some (x++y):=oI (by omega) (by omega) (by omega)
theorem Dz {x y:List mS}(hx:x.length≤2000000) (hy:y.length≤2000000):pD 80 x y=some (x++y):=oI (by omega) (by omega) (by omega)
theorem NN (k:Int):∃E,t157 k=some (oK E)∧tA 10 E:=by
 obtain⟨x,hx⟩:=Ll k
 obtain⟨P,hP,fP⟩:=SV 0 0 (r:=3) (by omega) (by omega)
 obtain⟨Q,hQ,fQ⟩:=SV 0 1 (r:=3) (by omega) (by omega)
 have fw:=rE (r:=3) (n:=x) (by omega) (by omega)
 have w1:IntKind.i64.wrap ((0:Int)+1)=1:=rfl
 have w2:IntKind.i64.wrap ((1:Int)+1)=2:=rfl
 have l1:=fw.1
 have l2:=fP.1
 have l3:=fQ.1
 have e:sG (y_ k) ([],0)=some (.x 0,(p8 3 x++P++p8 3 x++Q,2)):=by
  rw [p5 (s':=(p8 3 x++P,(1:Int))),p5 (s':=(p8 3 x++P++p8 3 x++Q,(2:Int)))]
  ·exact pM (by simp [y_]) (by simp)
  ·simp only [y_,show(1:Int)<2 by omega,decide_true,nV,hx,mN,JB (show(0:Int)≤3 by omega) (show(3:Int)≤7 by omega),hQ,w2]
   rw [JL (by simp;omega) (by omega),mN,JL (by simp;omega) (by omega),mN]
  ·simp only [y_,show(0:Int)<2 by omega,decide_true,nV,hx,mN,JB (show(0:Int)≤3 by omega) (show(3:Int)≤7 by omega),hP,w1]
   rw [JL (by simp) (by omega),mN,JL (by simp;omega) (by omega),mN,av6]
 refine⟨p8 3 x++P++p8 3 x++Q,?_,((fw.app fP).app fw).app fQ⟩
 unfold t157
 rw [e]
 simp only [mN,uW,vA,beq_self_eq_true,cond_true]
 rw [FI (by simp;omega)]
 rfl
theorem aqE (k:Int):∃N,t165 k=some N∧tA 2 N:=by
 unfold t165
 by_cases h:k=0
 ·exact⟨[⟨3,1,0,0,0,0,0,false⟩],by simp [h],(lits (l:=[⟨3,1,0,0,0,0,0,false⟩]) (by rfl)).mono (by simp)⟩
 ·exact⟨p8 1 k,by simp [h,JB],rE (by omega) (by omega)⟩
theorem NO (k c to:Int):∃L,t161 k c to=some (oK L++[wH c to])∧tA 3 L:=by
 obtain⟨N,hN,fN⟩:=aqE k
 have l1:=fN.1
 refine⟨N++[⟨23,0,0,1,0,0,0,false⟩],?_,fN.app ahK⟩
 unfold t161 t166
 rw [hN,mN,JL (by omega) (by simp),mN,FI (by simp;omega),mN,mN,Dz (by simp [oK];omega) (by simp),mN]
 rfl
theorem Zz (a r:Int):∃L,t160 a r=some (oK L)∧tA 3 L:=by
 obtain⟨b,hb⟩:=Cu a
 obtain⟨G,hG,fG⟩:=Jf b r (r:=0) (by omega) (by omega)
 exact⟨G,by unfold t160;rw [hb,mN,hG,mN,FI (by have:=fG.1;omega),mN],fG⟩
section
variable {P:Int→Prop}
theorem NM (k:Int) {h:Int}(hh:P h):∃X,t156 k h=some X∧Good P 20 [k] X:=by
 obtain⟨x,hx⟩:=Ll k
 obtain⟨G,hG,fG⟩:=Jf 0 0 (r:=0) (by omega) (by omega)
 obtain⟨H,hH,fH⟩:=Jf 0 1 (r:=0) (by omega) (by omega)
 obtain⟨C,hC,fC⟩:=NO x 1 h
 have w1:IntKind.i64.wrap ((0:Int)+1)=1:=rfl
 have w2:IntKind.i64.wrap ((1:Int)+1)=2:=rfl
 have l1:=fG.1
 have l2:=fH.1
 have l3:=fC.1
 have e:sG (yZ k h) ([yH k],0)=some (.x 0,([yH k]++oK G++(oK C++[wH 1 h])++oK H++(oK C++[wH 1 h]),2)):=by
  rw [p5 (s':=([yH k]++oK G++(oK C++[wH 1 h]),(1:Int))),p5 (s':=([yH k]++oK G++(oK C++[wH 1 h])++oK H++(oK C++[wH 1 h]),(2:Int)))]
  ·exact pM (by simp [yZ]) (by simp)
  ·simp only [yZ,show(1:Int)<2 by omega,decide_true,nV,hH,mN,hx,hC,w2]
   rw [FI (by omega),mN,Dz (by simp [oK];omega) (by simp [oK];omega),mN,Dz (by simp [oK];omega) (by simp [oK];omega),mN]
  ·simp only [yZ,show(0:Int)<2 by omega,decide_true,nV,hG,mN,hx,hC,w1]
   rw [FI (by omega),mN,Dz (by simp) (by simp [oK];omega),mN,Dz (by simp [oK];omega) (by simp [oK];omega),mN]
 have gc:Good P 4 [] (oK C++[wH 1 h]):=(Good.ins fC).app (Good.when hh)
 have g:=(((((Good.lab (P:=P) (n:=k)).app (Good.ins fG)).app gc).app (Good.ins fH)).app gc)
 refine⟨_,?_,⟨ax9 g.len (by omega),g.ok,g.lb⟩⟩
 unfold t156 t162
 rw [mN,show(⟨1,k,⟨0,0,0,0,0,0,0,false⟩⟩:mS)=yH k from rfl,e]
 rfl
theorem NL (k:Int) {h:Int}(hh:P h) (hk:0≤k→P k):∃X,t153 k h=some X∧Good P 12 [] X:=by
 unfold t153 t159
 by_cases hn:k<0
 ·exact⟨[GL h,GL h],by simp only [hn,decide_true,nV,mN];rfl,((Good.bra hh).cons (Good.bra hh)).mono (by omega)⟩
 ·obtain⟨E,hE,fE⟩:=NN k
  refine⟨oK E++[GL k,GL k],?_,((Good.ins fE).app ((Good.bra (hk (by omega))).cons (Good.bra (hk (by omega)))))⟩
  simp only [hn,decide_false,oJ,hE,mN]
  rw [Dz (by have:=fE.1;simp [oK];omega) (by simp),mN]
  rfl
noncomputable def brB (t:Term):Bool:=decide (t.kind=2)&&(decide (0≤t.a)&&decide (t.a<16383))
theorem aqC (t:Term) {x h:Int}(hh:P h) (hx:brB t=true→P x) (hy:0≤t.yes→P t.yes) (hn:0≤t.no→P t.no) :
  ∃X e,t154 t x h=some (X,e)∧Good P 80 (if brB t=true then [x] else []) X:=by
 unfold t154 EN
 cases hb:brB t
 ·refine⟨[],2,?_,⟨by simp,fun _ h=>(by cases h),rfl⟩⟩
  unfold brB at hb
  by_cases h1:t.kind=2
  ·by_cases h2:t.a<0
   ·simp [h1,h2,yY]
   ·have h3:16383≤t.a:=by simp [h1] at hb;omega
    simp [h1,h2,h3,yY]
  ·simp [h1,yY]
 ·have hx:=hx hb
  unfold brB at hb
  simp only [aq1,decide_eq_true_eq] at hb
  obtain⟨h1,h2,h3⟩:=hb
  have n2:¬t.a<0:=by omega
  have n3:¬16383≤t.a:=by omega
  obtain⟨A,hA,fA⟩:=Zz t.a 0
  obtain⟨B,hB,fB⟩:=Zz t.a 1
  obtain⟨C,hC,fC⟩:=NO 4294967295 0 x
  obtain⟨D,hD,fD⟩:=NO 0 1 h
  obtain⟨F,hF,fF⟩:=NO 4294967295 1 h
  obtain⟨N,hN,gN⟩:=NL (P:=P) t.no hh hn
  obtain⟨Y,hY,gY⟩:=NL (P:=P) t.yes hh hy
  have gC:Good P 4 [] (oK C++[wH 0 x]):=(Good.ins fC).app (Good.when hx)
  have gD:Good P 4 [] (oK D++[wH 1 h]):=(Good.ins fD).app (Good.when hh)
  have gF:Good P 4 [] (oK F++[wH 1 h]):=(Good.ins fF).app (Good.when hh)
  have gA:=Good.ins (P:=P) fA
  have gB:=Good.ins (P:=P) fB
  have g1:=gA.app gC
  have g2:=g1.app gD
  have g3:=g2.app gB
  have g4:=g3.app gD
  have g5:=g4.app gN
  have g6:=g5.app (Good.lab (P:=P) (n:=x))
  have g7:=g6.app gB
  have g8:=g7.app gF
  have g9:=g8.app gY
  refine⟨_,0,?_,⟨ax9 g9.len (by omega),g9.ok,g9.lb⟩⟩
  simp only [h1,n2,n3,decide_true,decide_false,Bool.not_true,oJ,yY,hA,mN,hC,hD,hB,hN,hF,hY,t162]
  have ap:∀{m k:Nat}{u v:List Int}{X Z:List mS},Good P m u X→Good P k v Z→m≤1000→k≤1000→pD 80 X Z=some (X++Z):=fun a b c d=>Dz (by have:=a.len;omega) (by have:=b.len;omega)
  rw [ap gA gC (by omega) (by omega),mN,ap g1 gD (by omega) (by omega),mN,ap g2 gB (by omega) (by omega),mN,ap g3 gD (by omega) (by omega),mN,ap g4 gN (by omega) (by omega),mN,
   show(⟨1,x,⟨0,0,0,0,0,0,0,false⟩⟩:mS)=yH x from rfl,ap g5 (Good.lab (P:=P) (n:=x)) (by omega) (by omega),mN,ap g6 gB (by omega) (by omega),mN,ap g7 gF (by omega) (by omega),mN,ap g8 gY (by omega) (by omega),mN]
noncomputable def Y1 (n k:Int):Int:=IntKind.wrap .i64 (IntKind.wrap .i64 (n+2)+k)
structure azC (P:Int→Prop) (n k:Int) (t:Term):Prop where
 h:P (inc n)
 jump:t.kind=1→0≤t.yes→P t.yes
 halt:t.kind=3→0≤n→P n
 own:t.kind≠1→t.kind≠3→brB t=true→P (Y1 n k)
 bran:t.kind≠1→t.kind≠3→(0≤t.yes→P t.yes)∧(0≤t.no→P t.no)
noncomputable def Vx (n k:Int) (t:Term):List Int:=if t.kind=1 then [] else if t.kind=3 then [] else if brB t=true then [Y1 n k] else []
theorem aqB {n k:Int}{t:Term}(e:azC P n k t):∃X,t149 ⟨⟨n⟩⟩ k t=some X∧Good P 80 (Vx n k t) X:=by
 unfold t149 t14 t155 Vx
 by_cases k1:t.kind=1
 ·obtain⟨X,hX,gX⟩:=NL (P:=P) t.yes e.h (e.jump k1)
  exact⟨X,by simp only [k1,decide_true,nV,mN];rw [show IntKind.wrap .i64 (n+1)=inc n from rfl,hX];rfl,by simp only [k1,if_true];exact gX.mono (by omega)⟩
 by_cases k3:t.kind=3
 ·obtain⟨X,hX,gX⟩:=NL (P:=P) n e.h (e.halt k3)
  exact⟨X,by simp only [k1,k3,decide_false,decide_true,nV,oJ,mN];rw [show IntKind.wrap .i64 (n+1)=inc n from rfl,hX];rfl,by simp only [k1,k3,if_true,if_false];exact gX.mono (by omega)⟩
 ·obtain⟨X,x,hX,gX⟩:=aqC (P:=P) (x:=Y1 n k) t e.h (e.own k1 k3) (e.bran k1 k3).1 (e.bran k1 k3).2
  exact⟨X,by simp only [k1,k3,decide_false,oJ,mN];rw [show IntKind.wrap .i64 (n+1)=inc n from rfl,show IntKind.wrap .i64 (IntKind.wrap .i64 (n+2)+k)=Y1 n k from rfl,hX];rfl,by simp only [k1,k3,if_false];exact gX⟩
end
end
noncomputable section
open Go Hk
noncomputable def Di (own:Int→Term→List Int):Nat→List mU→List Int
 | _,[]=>[]
 | i,b::r=>[(i:Int)]++own i b.term++Di own (i+1) r
noncomputable def CU (l:List mU):Nat:=(l.map fun b=>38*b.ops.length+101).sum
section
variable {P:Int→Prop}{q:IR}{f:uV}{enL:Int→List mS}{opL:Op→oW→Option (List mS)}{enD:Int→Term→Option (List mS)}{own:Int→Term→List Int}
theorem gw0 (hop:∀o s,∃L,opL o s=some (oK L)∧tA 38 L) {b:mU}:∀(d j:Nat) (A:List mS),b.ops.length=j+d→A.length+38*d≤3000000→b.ops.length≤3000000 →
  ∃X,sG (w0 q f b opL) (A,(j:Int))=some (.x 2,(A++X,(b.ops.length:Int)))∧Good P (38*d) [] X:=by
 intro d
 induction d with
 | zero =>
  intro j A hj _ _
  obtain rfl:j=b.ops.length:=by omega
  refine⟨[],pM (s':=(A++[],(b.ops.length:Int))) ?_ (by simp),Good.nil⟩
  simp [w0]
 | succ d ih =>
  intro j A hj hA hl
  have hjl:j<b.ops.length:=by omega
  obtain⟨s,hs⟩:=PX q.arrays f b.ops[j]
  obtain⟨L,hL,fL⟩:=hop b.ops[j] s
  have g:=Good.ins (P:=P) fL
  obtain⟨X,h1,h2⟩:=ih (j+1) (A++oK L) (by omega) (by rw [au9];have:=g.len;omega) hl
  refine⟨oK L++X,?_,(g.app h2).mono (by omega)⟩
  rw [←aw8,←h1]
  refine p5 ?_
  have e1:o8 b.ops (j:Int)=some b.ops[j]:=by rw [pJ,ag8 hjl]
  have hjj:(j:Int)<(b.ops.length:Int):=by omega
  have e2:pD 80 A (oK L)=some (A++oK L):=oI (by omega) (by omega) (by have:=g.len;omega)
  simp only [w0,hjj,decide_true,nV,e1,mN,hs,hL,e2,qL (show j≤4000000 by omega)]
theorem gw1 (hop:∀o s,∃L,opL o s=some (oK L)∧tA 38 L) (hen:∀k,Good P 20 [k] (enL k))
  (hed:∀(i:Nat) b,q.blocks[i]?=some b→∃X,enD i b.term=some X∧Good P 80 (own i b.term) X) (hn:q.blocks.length≤1000000):∀(d i:Nat) (A:List mS),q.blocks.length=i+d→A.length+CU (q.blocks.drop i)≤2000000 →
  ∃X,sG (w1 q f enL opL enD) (A,(i:Int))=some (.x 0,(A++X,(q.blocks.length:Int)))∧Good P (CU (q.blocks.drop i)) (Di own i (q.blocks.drop i)) X:=by
 intro d
 induction d with
 | zero =>
  intro i A hi hA
  obtain rfl:i=q.blocks.length:=by omega
  refine⟨[],pM (s':=(A++[],(q.blocks.length:Int))) ?_ (by simp),?_⟩
  ·simp [w1]
  ·rw [List.drop_length];exact Good.nil.mono (Nat.zero_le _)
 | succ d ih =>
  intro i A hi hA
  have hil:i<q.blocks.length:=by omega
  have hdr:q.blocks.drop i=q.blocks[i]::q.blocks.drop (i+1):=ar7 hil
  have hc:CU (q.blocks.drop i)=(38*q.blocks[i].ops.length+101)+CU (q.blocks.drop (i+1)):=by rw [hdr];rfl
  have ge:=hen (i:Int)
  obtain⟨Y,y1,y2⟩:=gw0 (P:=P) (q:=q) (f:=f) hop (b:=q.blocks[i]) q.blocks[i].ops.length 0 (A++enL i) (by omega) (by rw [au9];have:=ge.len;omega) (by omega)
  obtain⟨Z,z1,z2⟩:=hed i q.blocks[i] (ag8 hil)
  have gx:=ge.app (y2.app z2)
  obtain⟨X,x1,x2⟩:=ih (i+1) (A++(enL i++(Y++Z))) (by omega) (by rw [au9];have:=gx.len;omega)
  refine⟨enL i++(Y++Z)++X,?_,?_⟩
  ·rw [←aw8,←x1]
   refine p5 ?_
   have e0:((0:Nat):Int)=0:=rfl
   rw [e0] at y1
   have e1:o8 q.blocks (i:Int)=some q.blocks[i]:=by rw [pJ,ag8 hil]
   have hii:(i:Int)<(q.blocks.length:Int):=by omega
   have e2:pD 80 A (enL i)=some (A++enL i):=oI (by omega) (by omega) (by have:=ge.len;omega)
   have e3:pD 80 (A++enL i++Y) Z=some (A++enL i++Y++Z):=by
    refine oI (by omega) ?_ ?_
    ·have:=y2.len;have:=ge.len;rw [au9,au9];omega
    ·have:=z2.len;omega
   simp only [w1,hii,decide_true,nV,e1,mN,e2,y1,uW,vA,beq_self_eq_true,cond_true,z1,e3,qL (show i≤4000000 by omega)]
   simp only [aw8]
  ·rw [hc,hdr]
   have g:=gx.app x2
   exact⟨ax9 g.len (by omega),g.ok,g.lb.trans (by simp [Di])⟩
end
section
variable {P:Int→Prop}
theorem O0 {h r:Int}(hh:P h) (hr:t8 ⟨19,2,r,0,0,0,0,false⟩=some true):Good P 3 [] (N5 h r) :=
 (Good.ins (tA.cons (fun _=>hr) (tA.cons (i:=⟨23,0,0,2,0,0,0,false⟩) (fun _=>rfl) (tA.nil (n:=0))))).app (Good.when hh)
noncomputable def Gd (first:Int):Int:=IntKind.wrap .i64 (first+2)
theorem QT {image out h first:Int}(h1:P first) (h2:P (inc first)) (h3:P (Gd first)) (h4:P (inc (Gd first))) (hh:P h):Good P 90 [first,inc first,Gd first,inc (Gd first)] (IC image out true h first):=by
 have x:tA 2 ([⟨3,3,0,0,0,Q8 image,0,false⟩,⟨14,4,1,3,0,0,0,false⟩]:List Ins):=.cons (PK (by omega) (by omega) (Q9 image)) (.cons (fun _=>rfl) .nil)
 have a5:=xS (r:=5) (b:=0x20040000) (f:=4) rfl (by omega) (by omega)
 have a6:=xS (r:=6) (b:=0x20020000) (f:=1) rfl (by omega) (by omega)
 have a7:=xS (r:=7) (b:=0x20080000) (f:=4) rfl (by omega) (by omega)
 have a:tA 10 (Eg image false++[⟨19,0,5,0,0,0,0,false⟩,⟨20,0,6,0,0,0,0,false⟩]) :=
  ((((x.app a5).app (tA.nil (n:=0))).app a6).app (lits (l:=[⟨19,0,5,0,0,0,0,false⟩,⟨20,0,6,0,0,0,0,false⟩]) (by rfl))).mono (by simp)
 have c:tA 12 (Eg image true++[⟨19,0,6,0,0,0,0,false⟩]) :=
  ((((x.app a5).app a7).app a6).app (lits (l:=[⟨19,0,6,0,0,0,0,false⟩]) (by rfl))).mono (by simp)
 have b:tA 7 (p8 5 0x20100000++p8 0 0xc0de600d++[⟨20,0,5,0,0,0,0,false⟩,⟨2,0,0,0,0,0,0,false⟩]++[⟨2,0,0,0,0,0,0,false⟩]) :=
  ((((rE (by omega) (by omega)).app (rE (by omega) (by omega))).app (tA.cons (i:=⟨20,0,5,0,0,0,0,false⟩) (fun _=>rfl) (tA.cons (i:=⟨2,0,0,0,0,0,0,false⟩) (fun h=>absurd rfl h) (tA.nil (n:=0))))).app (tA.cons (i:=⟨2,0,0,0,0,0,0,false⟩) (fun h=>absurd rfl h) (tA.nil (n:=0)))).mono (by omega)
 have g:=((Cg h1 h2 (Good.ins a) (out:=out)).app (Cg h3 h4 (((Good.ins c).app (O0 hh (r:=5) rfl)).app (O0 hh (r:=7) rfl)) (out:=out))).app (Good.ins b)
 exact⟨ax9 g.len (by omega),g.ok,g.lb.trans (by simp)⟩
theorem QU {s:Sz}{h first:Int}(hp:∀x∈pI h first,P x):Good P 161 (pI h first) (CW s true h first):=by
 have e:CW s true h first=CW s false h first++[⟨0,0,⟨2,0,0,0,0,0,0,false⟩⟩]:=by
  simp [CW,oK]
 rw [e]
 have g:=(AE (s:=s) hp).app (Good.ins (P:=P) (tA.cons (i:=⟨2,0,0,0,0,0,0,false⟩) (fun h=>absurd rfl h) (tA.nil (n:=0))))
 exact⟨ax9 g.len (by omega),g.ok,g.lb.trans (by simp)⟩
end
noncomputable def fiX:List mS:=oK (Classical.choose (NN 0))
noncomputable def enX (n k:Int):List mS:=Classical.choose (NM (P:=fun _=>True) k (h:=inc n) trivial)
noncomputable def opX (n:Int) (o:Op) (s:oW):List mS:=oK (Classical.choose (akM o s n))
noncomputable def at3 (n:Int):Wrt 57 n fiX (enX n) (fun o s=>some (opX n o s)) (fun k t=>t149 ⟨⟨n⟩⟩ k t) where
 ff:=151
 fe:=150
 fo:=152
 fd:=149
 hf:=by kernel_rfl
 he:=by kernel_rfl
 ho:=by kernel_rfl
 hd:=by kernel_rfl
 kf:=fun h=>by
  have k:=Ny ⟨⟨n⟩⟩ h
  have e:t151 ⟨⟨n⟩⟩=some fiX:=by unfold t151;rw [(Classical.choose_spec (NN 0)).1];rfl
  rw [e] at k;exact k
 ke:=fun k h=>by
  have kk:=avY ⟨⟨n⟩⟩ k h
  have e:t150 ⟨⟨n⟩⟩ k=some (enX n k):=by unfold t150 t14;rw [mN,show IntKind.wrap .i64 (n+1)=inc n from rfl,(Classical.choose_spec (NM (P:=fun _=>True) k (h:=inc n) trivial)).1];rfl
  rw [e] at kk;exact kk
 ko:=fun o s h=>(Classical.choose_spec (akM o s n)).2 h
 kd:=fun k t h=>Y7 ⟨⟨n⟩⟩ k t h
section
variable {P:Int→Prop}{n:Int}
theorem Xf:Good P 10 [] fiX:=Good.ins (Classical.choose_spec (NN 0)).2
theorem W8 (h:P (inc n)) (k:Int):Good P 20 [k] (enX n k):=by
 obtain⟨X,x1,x2⟩:=NM (P:=P) k h
 have:=(Classical.choose_spec (NM (P:=fun _=>True) k (h:=inc n) trivial)).1
 have e:X=enX n k:=Option.some.inj (x1.symm.trans this)
 rw [←e];exact x2
theorem aeR (o:Op) (s:oW):∃L,some (opX n o s)=some (oK L)∧tA 38 L:=⟨_,rfl,(Classical.choose_spec (akM o s n)).1⟩
end
end
section
open Go Hk
noncomputable def gl (t:Bool) (g:Int):List Int:=if t then [g,inc g,Gd g,inc (Gd g)] else [g,inc g]
noncomputable def Bx (n:Int):Int:=IntKind.wrap .i64 (IntKind.wrap .i64 (2*n)+2)
noncomputable def Iz (n:Int):Int:=IntKind.wrap .i64 (Bx n+4)
noncomputable def zF (t:Bool) (own:Int→Term→List Int) (bs:List mU):List Int :=
 Di own 0 bs++[(bs.length:Int)]++gl t (Bx bs.length)++pI (inc bs.length) (Iz bs.length)
theorem U2 {P:Int→Prop}{t:Bool}{image out h first:Int}(hg:∀x∈gl t first,P x) (hh:P h):Good P 90 (gl t first) (IC image out t h first):=by
 cases t
 ·exact(Dg (hg _ (by simp [gl])) (hg _ (by simp [gl]))).mono (by omega)
 ·exact QT (hg _ (by simp [gl])) (hg _ (by simp [gl])) (hg _ (by simp [gl])) (hg _ (by simp [gl])) hh
theorem U3 {P:Int→Prop}{t:Bool}{s:Sz}{h first:Int}(hp:∀x∈pI h first,P x):Good P 161 (pI h first) (CW s t h first):=by
 cases t
 ·exact(AE hp).mono (by omega)
 ·exact QU hp
theorem axL {P:Int→Prop}{q:IR}{f:uV}{fiL:List mS}{enL:Int→List mS}{opL:Op→oW→Option (List mS)}{enD:Int→Term→Option (List mS)}{own:Int→Term→List Int}{t:Bool}
  (hfi:Good P 10 [] fiL) (hop:∀o s,∃L,opL o s=some (oK L)∧tA 38 L) (hen:∀k,Good P 20 [k] (enL k))
  (hed:∀(i:Nat) b,q.blocks[i]?=some b→∃X,enD i b.term=some X∧Good P 80 (own i b.term) X) (hn:q.blocks.length≤1000000) (hc:CU q.blocks≤1000000)
  (hg:∀x∈gl t (Bx q.blocks.length),P x) (hh:∀x∈pI (inc q.blocks.length) (Iz q.blocks.length),P x) :
  ∃W,wT q f fiL enL opL enD t (q.blocks.length:Int)=some W∧Good P (CU q.blocks+300) (zF t own q.blocks) W:=by
 obtain⟨X,x1,x2⟩:=gw1 (f:=f) hop hen hed hn q.blocks.length 0 fiL (by omega) (by have:=hfi.len;simp;omega)
 have e0:((0:Nat):Int)=0:=rfl
 rw [e0] at x1
 simp only [List.drop_zero] at x1 x2
 have ge:=hen (q.blocks.length:Int)
 have g0:=hfi.app x2
 have g1:=g0.app ge
 have gg:=U2 (image:=f.image) (out:=q.out) hg (hh (inc (q.blocks.length:Int)) (by simp [pI]))
 have g2:=g1.app gg
 have gh:=U3 (s:=⟨q.inn,q.out,f.size⟩) (t:=t) hh
 have g3:=g2.app gh
 refine⟨_,?_,⟨ax9 g3.len (by omega),g3.ok,g3.lb.trans (by simp [zF])⟩⟩
 unfold wT
 rw [x1]
 simp only [mN,uW,vA,beq_self_eq_true,cond_true,t14,t26,t28,t13]
 rw [oI (by omega) (by have:=g0.len;omega) (by have:=ge.len;omega),mN,oI (by omega) (by have:=g1.len;omega) (by have:=gg.len;unfold inc Bx at this;omega),mN,
  oI (by omega) (by have:=g2.len;unfold inc Bx at this;omega) (by have:=gh.len;unfold inc Iz Bx at this;omega)]
 rfl
section
variable {own:Int→Term→List Int}{n:Int}(ho:∀k t,own k t=[]∨own k t=[n+2+k])
include ho
theorem D9:∀(bs:List mU) (i:Nat) (x:Int),x∈Di own i bs→∃k:Nat,i≤k∧k<i+bs.length∧(x=(k:Int)∨x=n+2+(k:Int))
 | [],_,_,h=>by cases h
 | b::r,i,x,h=>by
  unfold Di at h
  rw [au0,au0] at h
  rcases h with (h | h) | h
  ·exact⟨i,Nat.le_refl _,by simp,.inl (List.mem_singleton.1 h)⟩
  ·rcases ho i b.term with e | e
   ·rw [e] at h;cases h
   ·rw [e] at h;exact⟨i,Nat.le_refl _,by simp,.inr (List.mem_singleton.1 h)⟩
  ·obtain⟨k,k1,k2,k3⟩:=D9 r (i+1) x h
   exact⟨k,by omega,by simp only [ar8];omega,k3⟩
theorem II:∀(bs:List mU) (i:Nat),((i+bs.length:Nat):Int)≤n→(Di own i bs).Nodup
 | [],_,_=>List.nodup_nil
 | b::r,i,h=>by
  simp only [ar8] at h
  have ih:=II r (i+1) (by omega)
  have hm:=D9 ho r (i+1)
  unfold Di
  rw [List.nodup_append]
  refine⟨?_,ih,?_⟩
  ·rcases ho i b.term with e | e <;> rw [e] <;> simp
   omega
  ·intro x hx y hy hxy
   subst hxy
   obtain⟨k,k1,k2,k3⟩:=hm x hy
   rw [au0] at hx
   rcases hx with hx | hx
   ·have:=List.mem_singleton.1 hx;omega
   ·rcases ho i b.term with e | e
    ·rw [e] at hx;cases hx
    ·rw [e] at hx;have:=List.mem_singleton.1 hx;omega
end
theorem O6 {own:Int→Term→List Int}:∀(bs:List mU) (i k:Nat),k<bs.length→((i+k:Nat):Int)∈Di own i bs
 | b::r,i,0,_=>by unfold Di;simp
 | b::r,i,k+1,h=>by
  have:=O6 (own:=own) r (i+1) k (by simpa using h)
  unfold Di
  rw [au0]
  right
  rw [show i+(k+1)=i+1+k by omega];exact this
theorem O7 {own:Int→Term→List Int}:∀(bs:List mU) (i k:Nat) (b:mU),bs[k]?=some b→∀x∈own ((i+k:Nat):Int) b.term,x∈Di own i bs
 | b::r,i,0,c,h,x,hx=>by
  simp only [List.getElem?_cons_zero,ah5] at h
  subst h
  unfold Di
  rw [au0,au0]
  exact .inl (.inr hx)
 | b::r,i,k+1,c,h,x,hx=>by
  unfold Di
  rw [au0]
  exact .inr (O7 r (i+1) k c (by simpa using h) x (by rw [show i+1+k=i+(k+1) by omega];exact hx))
noncomputable def Lt (t:Bool) (n:Int):List Int:=[n]++(if t then [2*n+2,2*n+3,2*n+4,2*n+5] else [2*n+2,2*n+3]) ++
 [n+1,2*n+6,2*n+7,2*n+8,2*n+9,2*n+10,2*n+11,2*n+12,2*n+13,2*n+14,2*n+15,2*n+16,2*n+17]
theorem TN {n:Int}(h0:0≤n) (h1:n≤100000):inc n=n+1:=wrap64 (by omega) (by omega)
theorem OW {n:Int}(h0:0≤n) (h1:n≤10000):Bx n=2*n+2:=by
 unfold Bx;rw [wrap64 (n:=2*n) (by omega) (by omega),wrap64 (by omega) (by omega)]
theorem Xi {n:Int}(h0:0≤n) (h1:n≤10000):Iz n=2*n+6:=by
 unfold Iz;rw [OW h0 h1,wrap64 (by omega) (by omega)];omega
theorem Tz {t:Bool}{own:Int→Term→List Int}{bs:List mU}(h1:bs.length≤10000):zF t own bs=Di own 0 bs++Lt t bs.length:=by
 have h0:(0:Int)≤(bs.length:Int):=by omega
 have h2:(bs.length:Int)≤10000:=by omega
 unfold zF
 simp only [aw8]
 congr 1
 generalize (bs.length:Int)=n at h0 h2 ⊢
 have e1:=OW h0 h2
 have e2:=Xi h0 h2
 have e3:=TN h0 (by omega)
 have iv:∀x:Int,0≤x→x≤100000→inc x=x+1:=fun x a b=>TN a b
 have i2:inc (2*n+2)=2*n+3:=by rw [iv _ (by omega) (by omega)];omega
 have g2:Gd (2*n+2)=2*n+4:=by unfold Gd;rw [wrap64 (by omega) (by omega)];omega
 have i4:inc (2*n+4)=2*n+5:=by rw [iv _ (by omega) (by omega)];omega
 have a0:Oc (2*n+6) 0=2*n+6:=by unfold Oc;rw [wrap64 (by omega) (by omega)];omega
 have a2:Oc (2*n+6) 2=2*n+8:=by unfold Oc;rw [wrap64 (by omega) (by omega)];omega
 have a4:Oc (2*n+6) 4=2*n+10:=by unfold Oc;rw [wrap64 (by omega) (by omega)];omega
 have a6:Oc (2*n+6) 6=2*n+12:=by unfold Oc;rw [wrap64 (by omega) (by omega)];omega
 have l0:x4 (2*n+6) 0=2*n+12:=by unfold x4;rw [a6,wrap64 (by omega) (by omega)];omega
 have l2:x4 (2*n+6) 2=2*n+14:=by unfold x4;rw [a6,wrap64 (by omega) (by omega)];omega
 have l4:x4 (2*n+6) 4=2*n+16:=by unfold x4;rw [a6,wrap64 (by omega) (by omega)];omega
 have i6:inc (2*n+6)=2*n+7:=by rw [iv _ (by omega) (by omega)];omega
 have i8:inc (2*n+8)=2*n+9:=by rw [iv _ (by omega) (by omega)];omega
 have i10:inc (2*n+10)=2*n+11:=by rw [iv _ (by omega) (by omega)];omega
 have i12:inc (2*n+12)=2*n+13:=by rw [iv _ (by omega) (by omega)];omega
 have i14:inc (2*n+14)=2*n+15:=by rw [iv _ (by omega) (by omega)];omega
 have i16:inc (2*n+16)=2*n+17:=by rw [iv _ (by omega) (by omega)];omega
 cases t <;> simp only [gl,pI,Lt,e1,e2,e3,i2,g2,i4,a0,a2,a4,l0,l2,l4,i6,i8,i10,i12,i14,i16,if_true,if_false,Bool.false_eq_true,List.cons_append,av6]
theorem SY {t:Bool}{n:Int}(h0:0≤n):(Lt t n).Nodup:=by
 cases t <;> simp [Lt] <;> omega
theorem Qa {t:Bool}{n x:Int}(h0:0≤n) (h:x∈Lt t n):(x=n∨x=n+1∨2*n+2≤x)∧x<2*n+18:=by
 cases t <;> simp [Lt] at h <;> omega
section
variable {t:Bool}{own:Int→Term→List Int}{bs:List mU}(h1:bs.length≤10000) (ho:∀k t,own k t=[]∨own k t=[(bs.length:Int)+2+k])
include h1 ho
theorem H_:(zF t own bs).Nodup:=by
 rw [Tz h1,List.nodup_append]
 refine⟨II ho bs 0 (by omega),SY (by omega),fun x hx y hy hxy=>?_⟩
 subst hxy
 obtain⟨k,k1,k2,k3⟩:=D9 ho bs 0 x hx
 have:=Qa (by omega) hy
 omega
theorem OE {x:Int}(hx:x∈zF t own bs):0≤x∧x<2*(bs.length:Int)+18:=by
 rw [Tz h1,au0] at hx
 rcases hx with hx | hx
 ·obtain⟨k,k1,k2,k3⟩:=D9 ho bs 0 x hx
  omega
 ·have:=Qa (by omega) hx
  omega
end
theorem OD {t:Bool}{own:Int→Term→List Int}{bs:List mU}{x:Int}(h0:0≤x) (hx:x≤(bs.length:Int)):x∈zF t own bs:=by
 unfold zF
 rw [au0,au0,au0]
 by_cases h:x=(bs.length:Int)
 ·exact .inl (.inl (.inr (by simp [h])))
 ·have:=O6 (own:=own) bs 0 x.toNat (by omega)
  have e:((0+x.toNat:Nat):Int)=x:=by omega
  rw [e] at this
  exact .inl (.inl (.inl this))
theorem WL {t:Bool}{own:Int→Term→List Int}{bs:List mU}{k:Nat}{b:mU}(hb:bs[k]?=some b) {x:Int}(hx:x∈own (k:Int) b.term):x∈zF t own bs:=by
 unfold zF
 rw [au0,au0,au0]
 exact .inl (.inl (.inl (O7 bs 0 k b hb x (by rw [Nat.zero_add];exact hx))))
theorem DM {t:Bool}{own:Int→Term→List Int}{bs:List mU}:inc (bs.length:Int)∈zF t own bs:=by
 unfold zF
 rw [au0]
 exact .inr (by simp [pI])
end
noncomputable section
open Go Hk
structure B9 (N:Nat) (W:List mS) (h:Int):Prop where
 len:W.length≤1000000
 nd:(qY W).Nodup
 rng:∀x∈qY W,0≤x∧x<2*(N:Int)+18
 ok:∀x∈W,OkP (fun l=>l∈qY W) x
 h:h∈qY W
theorem KR {p:IR}(h0:pB p=0) {b:mU}(hb:b∈(nB p).blocks):(b.term.kind=1→-1≤b.term.yes∧b.term.yes<((nB p).blocks.length:Int)) ∧
  (b.term.kind≠1→b.term.kind≠3→(-1≤b.term.yes∧b.term.yes<((nB p).blocks.length:Int))∧-1≤b.term.no∧b.term.no<((nB p).blocks.length:Int)):=by
 rcases By p with h | ⟨l,h⟩
 ·rw [h] at hb;cases hb
 ·rw [h] at hb ⊢
  obtain⟨c,hc,rfl⟩:=List.mem_map.1 hb
  have ht:=((uK h0).2.2.2.2 c hc).2
  have e1:(CK l c).term.kind=c.term.kind∧(CK l c).term.yes=c.term.yes∧(CK l c).term.no=c.term.no:=by unfold CK;split <;> exact⟨rfl,rfl,rfl⟩
  obtain⟨k1,k2,k3⟩:=e1
  rw [k1,k2,k3,au7]
  unfold C1 at ht
  refine⟨fun h1=>?_,fun h1 h3=>?_⟩
  ·rw [if_pos h1] at ht
   simp only [nJ,aq1,decide_eq_true_eq] at ht
   omega
  ·rw [if_neg h1] at ht
   split at ht
   ·simp only [nJ,aq1,decide_eq_true_eq] at ht
    omega
   ·have:=of_decide_eq_true ht
    rw [this] at h3;exact absurd rfl h3
theorem Il:∀l:List mU,CU l≤38*uZ l+101*l.length
 | []=>Nat.zero_le _
 | b::r=>by
  have:=Il r
  have e:CU (b::r)=(38*b.ops.length+101)+CU r:=by simp [CU]
  have e2:uZ (b::r)=(19*b.ops.length+21)+uZ r:=by simp [uZ,Ik]
  rw [e,e2];simp only [ar8];omega
section
variable {p:IR}(h0:pB p=0) (hN:(nB p).blocks.length≤150) (hc:uZ (nB p).blocks≤4500) {f:uV}
include h0 hN hc
theorem Y3:∃W,plT (nB p) f=some W∧W.length≤500000∧B9 (nB p).blocks.length W (inc (nB p).blocks.length):=by
 have hcr:=Il (nB p).blocks
 have hinc:=TN (n:=((nB p).blocks.length:Int)) (by omega) (by omega)
 obtain⟨W,hW,g⟩:=axL (P:=fun l=>l∈zF false (fun _ _=>[]) (nB p).blocks) (q:=nB p) (f:=f) (t:=false) (fiL:=[]) (enL:=fun k=>[yH k])
  (opL:=fun o s=>t127 ⟨⟨((nB p).blocks.length:Int)⟩⟩ o s) (enD:=fun k t=>t124 ⟨⟨((nB p).blocks.length:Int)⟩⟩ k t) (own:=fun _ _=>[])
  (Good.nil.mono (by omega)) (fun o s=>by obtain⟨L,a,b⟩:=Zw ⟨⟨((nB p).blocks.length:Int)⟩⟩ o s;exact⟨L,a,b.mono (by omega)⟩) (fun k=>Good.lab.mono (by omega))
  (fun i b hb=>by
   obtain⟨G,a,c⟩:=Zv ⟨⟨((nB p).blocks.length:Int)⟩⟩ (i:Int) b.term
   obtain⟨t1,t2⟩:=KR h0 (aj8 hb)
   have toP:∀x:Int,-1≤x→x≤((nB p).blocks.length:Int)→Up ((nB p).blocks.length:Int) x∈zF false (fun _ _=>[]) (nB p).blocks:=by
    intro x x1 x2
    unfold Up
    split
    ·exact DM
    ·exact OD (by omega) x2
   exact⟨_,a,(OZ ⟨fun h=>toP _ (t1 h).1 (by have:=(t1 h).2;omega),fun _=>toP _ (by omega) (by omega),
    fun a b=>⟨toP _ (t2 a b).1.1 (by have:=(t2 a b).1.2;omega),toP _ (by omega) (by omega),toP _ (t2 a b).2.1 (by have:=(t2 a b).2.2;omega)⟩⟩ c).mono (by omega)⟩)
  (by omega) (by omega) (fun x hx=>by unfold zF;exact au0.2 (.inl (au0.2 (.inr hx)))) (fun x hx=>by unfold zF;exact au0.2 (.inr hx))
 have ho:∀(k:Int) (t:Term),(fun _ _=>[]:Int→Term→List Int) k t=[]∨(fun _ _=>[]:Int→Term→List Int) k t=[((nB p).blocks.length:Int)+2+k]:=fun _ _=>.inl rfl
 refine⟨W,hW,ax9 g.len (by omega),⟨ax9 g.len (by omega),?_,?_,?_,?_⟩⟩
 ·rw [g.lb];exact H_ (by omega) ho
 ·rw [g.lb];exact fun x hx=>OE (by omega) ho hx
 ·rw [g.lb];exact g.ok
 ·rw [g.lb];exact DM
noncomputable def raT (q:IR) (f:uV):Option (List mS):=wT q f fiX (enX q.blocks.length) (fun o s=>some (opX q.blocks.length o s)) (fun k t=>t149 ⟨⟨(q.blocks.length:Int)⟩⟩ k t) true (q.blocks.length:Int)
theorem Zg : ∃ W, raT (nB p) f = some W ∧ B9 (nB p).blocks.length W (inc (nB p).blocks.length) := by
  have hcr := Il (nB p).blocks
  have hinc := TN (n := ((nB p).blocks.length : Int)) (by omega) (by omega)
  obtain ⟨own, hown⟩ : ∃ own : Int → Term → List Int, own = fun k t => if 0 ≤ k ∧ k ≤ 1000 then Vx ((nB p).blocks.length : Int) k t else [] := ⟨_, rfl⟩
  have ownE : ∀ (i : Nat) t, i < (nB p).blocks.length → own (i : Int) t = Vx ((nB p).blocks.length : Int) i t := by
    intro i t hi; subst hown; exact if_pos ⟨by omega, by omega⟩
  have hinL : inc ((nB p).blocks.length : Int) ∈ zF true own (nB p).blocks := DM
  obtain ⟨W, hW, g⟩ := axL (P := fun l => l ∈ zF true own (nB p).blocks) (q := nB p) (f := f) (t := true) (fiL := fiX) (enL := enX (nB p).blocks.length)
    (opL := fun o s => some (opX (nB p).blocks.length o s)) (enD := fun k t => t149 ⟨⟨((nB p).blocks.length : Int)⟩⟩ k t) (own := own)
    Xf (fun o s => aeR o s) (fun k => W8 hinL k)
    (fun i b hb => by
      have hi : i < (nB p).blocks.length := (ag0.1 hb).1
      obtain ⟨t1, t2⟩ := KR h0 (aj8 hb)
      have toP : ∀ x : Int, 0 ≤ x → x ≤ ((nB p).blocks.length : Int) → x ∈ zF true own (nB p).blocks := fun x x1 x2 => OD x1 x2
      rw [ownE i b.term hi]
      exact aqB ⟨hinL, fun h y => toP _ y (by have := (t1 h).2; omega), fun _ y => toP _ y (by omega),
        fun k1 k3 hbr => WL hb (by rw [ownE i b.term hi]; simp [Vx, k1, k3, hbr]),
        fun a b => ⟨fun y => toP _ y (by have := (t2 a b).1.2; omega), fun y => toP _ y (by have := (t2 a b).2.2; omega)⟩⟩)
    (by omega) (by omega) (fun x hx => by unfold zF; exact au0.2 (.inl (au0.2 (.inr hx)))) (fun x hx => by unfold zF; exact au0.2 (.inr hx))
  have ho : ∀ (k : Int) (t : Term), own k t = [] ∨ own k t = [((nB p).blocks.length : Int) + 2 + k] := by
    intro k t
    subst hown
    show (if 0 ≤ k ∧ k ≤ 1000 then _ else _) = _ ∨ (if 0 ≤ k ∧ k ≤ 1000 then _ else _) = _
    split
    · rename_i hk
      unfold Vx
      split; · exact .inl rfl
      split; · exact .inl rfl
      split
      · right
        unfold Y1
        rw [wrap64 (n := ((nB p).blocks.length : Int) + 2) (by omega) (by omega), wrap64 (by omega) (by omega)]
      · exact .inl rfl
    · exact .inl rfl
  refine ⟨W, hW, ⟨ax9 g.len (by omega), ?_, ?_, ?_, ?_⟩⟩
  · rw [g.lb]; exact H_ (by omega) ho
  · rw [g.lb]; exact fun x hx => OE (by omega) ho hx
  · rw [g.lb]; exact g.ok
  · rw [g.lb]; exact DM
end
theorem O5:∀W:List mS,qY (rC W)=qY W
 | []=>rfl
 | x::r=>by
  have ih:=O5 r
  have e:rC (x::r)=CI x++rC r:=rfl
  have e2:qY (CI x++rC r)=qY (CI x)++qY (rC r):=by unfold qY;rw [List.filterMap_append]
  have e3:qY (x::r)=qY [x]++qY r:=by rw [show x::r=[x]++r from rfl];unfold qY;rw [List.filterMap_append]
  rw [e,e2,e3,ih]
  congr 1
  unfold CI
  split
  ·rfl
  ·rename_i h;simp [qY,h]
theorem aeN {W:List mS}{x:mS}(h:x∈rC W):x∈W:=by
 unfold rC at h
 obtain⟨y,h1,h2⟩:=List.mem_flatMap.1 h
 unfold CI at h2
 split at h2 <;> simp at h2 <;> rw [h2] <;> exact h1
theorem akW {N:Nat}{W:List mS}{h:Int}(g:B9 N W h) (hl:W.length≤500000):B9 N (rC W) h:=by
 have hd:=DY W
 refine⟨by omega,?_,?_,?_,?_⟩ <;> rw [O5]
 ·exact g.nd
 ·exact g.rng
 ·exact fun x hx=>g.ok x (aeN hx)
 ·exact g.h
end
section
open Go Hk
theorem aAS {p:IR}(h0:pB p=0) (ht:p.temps≤1000000) {f:uV}(hf:t23 (nB p)=some (f,0)) {W:List mS}(hW:raT (nB p) f=some W) (h:Hk.lT) :
  KK 7 [pA p,.int .i64 2] h=some (.ret (.tuple [.slice (Rw mS.cells W) .no,.agg [.int .i64 (nB p).inn,.int .i64 (nB p).out,.int .i64 f.size],.int .i64 (inc (nB p).blocks.length),.int .i64 0]),h):=by
 refine nN rfl rfl (oN (KT _ _ _ _) ?_)
 have k9:=fun h=>r9 p h
 simp only [t9,Wf,pH] at k9
 have k10:=c10 h0 ht hf
 have k11:=fun hp=>c11 (at3 ((nB p).blocks.length:Int)) (nB p) f true ((nB p).blocks.length:Int) hp
 unfold raT at hW
 simp only [hW,pH] at k11
 have k13:=fun h=>Ud (nB p) f h
 simp only [t13,pH] at k13
 have k14:=fun h=>afE ((nB p).blocks.length:Int) h
 simp only [t14,pH] at k14
 simp [m7,pA,k9,k10,k11,k13,k14,h0,nE,Ct,FU,inc]
theorem akP {p:IR}{m:Int}(hm:¬(0≤m∧m≤2)) (h:Hk.lT):KK 7 [pA p,.int .i64 m] h=some (.ret (.tuple [.slice [] .no,.agg [.int .i64 0,.int .i64 0,.int .i64 0],.int .i64 0,.int .i64 2]),h):=by
 refine nN rfl rfl (oN (KT _ _ _ _) ?_)
 by_cases m1:m<0
 ·simp [m7,pA,m1,nE]
 ·have m2:2<m:=by omega
  simp [m7,pA,m1,m2,nE]
end
noncomputable section
open Go Hk
noncomputable def IP (mm:Nat) (aA:R):Option (nT×lT) :=
 (fun aB aC=>Ex.oA aA.1 (nZ mm aB aC)) (gd aA.2.1 0) aA.2.2
theorem Pd (n:Int) (h:lT):p_ 1 8 [(.int .i64 0)] (.int .i64 n) h=tm (ZD 8 (0:Int) n) fun l=>(.vslice h.length l.length 0 l.length 1,h++[Vc (ci .i64) 1 l]):=vS rfl
theorem Zs (y0:Int) (h:lT) (id tot j:Nat) (xs:List Int):Tg 1 id h (some (Vc (ci .i64) 1 xs)) tot j (.int .i64 y0)=tb (vC tot xs j) fun x=>tm (DG tot xs j y0) fun zs=>h.set id (Vc (ci .i64) 1 zs):=N7 (enc:=(ci .i64)) y0 (fun _=>rfl) rfl rfl
noncomputable def Yh (K:mA) (m:Nat) (t156:lS) (aC:lS) (aE:lS) (aF:lS) (aA:lS) (aB:lS) (aD:lT) (aG:lS):Option R :=
 mH t156 (mK m .ret [(.bool false),aC,aE,aF,aA,aB] aD) (ix 10 aC aB fun t160=>fa 1 t160 fun t162=>ld false 1 aD t162 fun t163=>ix 1 aA t163 fun t164=>ld false 1 aD t164 fun t166=>bo .add t166 (.int .i64 1) fun aI=>ix 1 aA t163 fun aJ=>(mL 1 aD aJ aI).bind fun aH=>mK m .normal [aG,aC,aE,aF,aA,aB] aH)
noncomputable def P2 (aH:Bool) (aJ:(List mS)) (aB:(List Int)) (aK:Int) (aD:(List Int)):Option (Ey×(List Int)) :=
 tc aH (some (.r,aD)) (tb ((o8 aJ aK)) fun aC=>tb ((DF (aa5 aB) aC.label)) fun aE=>tb ((vC (aa5 aB) aD aE)) fun aG=>tb ((DF (aa5 aB) aC.label)) fun aA=>tb ((vC (aa5 aB) aD aA)) fun aI=>tb ((DG (aa5 aB) aD aA (IntKind.wrap .i64 (aG+1)))) fun aF=>some (.n,aF))
theorem aiT (w159:Bool) (w70:(List mS)) (w71:Int) (w73:Int) (l69:(List Int)) (w91:Int) (p0:IR) (w75:Int) (w76:Int) (w77:Int) (w94:(List Int)):(Yh KK 3 (.bool w159) (.slice (Rw mS.cells w70) .no) (.int .i64 w71) (.int .i64 w73) (.vslice 2 (aa5 l69) 0 (aa5 l69) 1) (.int .i64 w91) ([.cells [(.int .i64 p0.temps),(.slice (Rw nH.cells p0.arrays) .no),(.slice (Rw mU.cells p0.blocks) .no),(.int .i64 p0.inn),(.int .i64 p0.out)],.cells [(.int .i64 w75),(.int .i64 w76),(.int .i64 w77)],Vc (ci .i64) 1 w94]:lT) (.bool false))=tm (P2 w159 w70 l69 w91 w94) fun r=>(r.1.ex,[(.bool false),(.slice (Rw mS.cells w70) .no),(.int .i64 w71),(.int .i64 w73),(.vslice 2 (aa5 l69) 0 (aa5 l69) 1),(.int .i64 w91)],([.cells [(.int .i64 p0.temps),(.slice (Rw nH.cells p0.arrays) .no),(.slice (Rw mU.cells p0.blocks) .no),(.int .i64 p0.inn),(.int .i64 p0.out)],.cells [(.int .i64 w75),(.int .i64 w76),(.int .i64 w77)],Vc (ci .i64) 1 r.2]:lT)):=by
 cases w159 <;> simp [-l9,-lV,-lU,-lW,-lZ,-lY,-lX,Yh,P2,Zs]
noncomputable def Yg (K:mA) (m:Nat) (t125:lS) (aA:lS) (aF:lT) (aC:lS) (aB:lS) (aN:lS) (aO:lS) (aM:lS):Option R :=
 gS false t125 (mM aA aF) aF fun t129 aG=>gS false t125 (mM aC aG) aG fun t131 aH=>gS false t125 (mM aB aH) aH fun t133 aI=>gS false t125 (ix 10 t131 t133 fun t135=>mM t135 aI) aI fun t137 aJ=>gS false t125 (fa 1 t137 fun t139=>mM t139 aJ) aJ fun t140 aD=>gS false t125 (ld false 1 aD t140 fun t142=>mM t142 aD) aD fun t143 aK=>gS false t125 (ix 1 t129 t143 fun t145=>mM t145 aK) aK fun t147 aE=>gS false t125 (ld false 1 aE t147 fun t149=>mM t149 aE) aE fun t151 aL=>gS false t125 (bo .gtr t151 (.int .i64 0) fun t153=>mM t153 aL) aL fun t154 aP=>(nA t125 (.bool true) t154).bind fun t156=>Yh K m t156 aC aN aO aA aB aP aM
noncomputable def P0 (aE:Bool) (aA:(List Int)) (aH:(List Int)) (aF:(List mS)) (aG:Int):Option (Ey×(List Int)) :=
 tc aE (P2 true aF aA aG aH) (tb ((o8 aF aG)) fun aC=>tb ((DF (aa5 aA) aC.label)) fun aB=>tb ((vC (aa5 aA) aH aB)) fun aD=>P2 (decide (0<aD)) aF aA aG aH)
theorem av4 (w128:Bool) (l69:(List Int)) (p0:IR) (w75:Int) (w76:Int) (w77:Int) (w94:(List Int)) (w70:(List mS)) (w91:Int) (w71:Int) (w73:Int):(Yg KK 3 (.bool w128) (.vslice 2 (aa5 l69) 0 (aa5 l69) 1) ([.cells [(.int .i64 p0.temps),(.slice (Rw nH.cells p0.arrays) .no),(.slice (Rw mU.cells p0.blocks) .no),(.int .i64 p0.inn),(.int .i64 p0.out)],.cells [(.int .i64 w75),(.int .i64 w76),(.int .i64 w77)],Vc (ci .i64) 1 w94]:lT) (.slice (Rw mS.cells w70) .no) (.int .i64 w91) (.int .i64 w71) (.int .i64 w73) (.bool false))=tm (P0 w128 l69 w94 w70 w91) fun r=>(r.1.ex,[(.bool false),(.slice (Rw mS.cells w70) .no),(.int .i64 w71),(.int .i64 w73),(.vslice 2 (aa5 l69) 0 (aa5 l69) 1),(.int .i64 w91)],([.cells [(.int .i64 p0.temps),(.slice (Rw nH.cells p0.arrays) .no),(.slice (Rw mU.cells p0.blocks) .no),(.int .i64 p0.inn),(.int .i64 p0.out)],.cells [(.int .i64 w75),(.int .i64 w76),(.int .i64 w77)],Vc (ci .i64) 1 r.2]:lT)):=by
 cases w128 <;> simp [-l9,-lV,-lU,-lW,-lZ,-lY,-lX,Yg,P0,Zs,aiT]
noncomputable def Ye (K:mA) (m:Nat) (bD:lS) (aC:lS) (aA:lS) (aN:lT) (aE:lS) (aD:lS) (aG:lS) (aF:lS):Option R :=
 mH bD (ix 10 aC aA fun aP=>fa 1 aP fun aQ=>ld false 1 aN aQ fun aR=>bo .lss aR (.int .i64 0) fun aB=>gS false aB (mM aC aN) aN fun aS aI=>gS false aB (mM aA aI) aI fun aT aJ=>gS false aB (ix 10 aS aT fun aU=>mM aU aJ) aJ fun aV aK=>gS false aB (fa 1 aV fun aW=>mM aW aK) aK fun aX aH=>gS false aB (ld false 1 aH aX fun aY=>mM aY aH) aH fun aZ aL=>gS false aB (mM aE aL) aL fun a_ aM=>gS false aB (bo .geq aZ a_ fun bB=>mM bB aM) aM fun bC aO=>(nA aB (.bool true) bC).bind fun t125=>Yg K m t125 aD aO aC aA aG aE aF) (mK m .normal [aF,aC,aG,aE,aD,aA] aN)
noncomputable def PY (aE:Bool) (aA:(List mS)) (aB:Int) (aF:(List Int)) (aH:Int) (aG:(List Int)):Option (Ey×(List Int)) :=
 tc aE (tb ((o8 aA aB)) fun aC=>tc (decide (aC.label<0)) (P0 true aG aF aA aB) (tb ((o8 aA aB)) fun aD=>P0 (decide (aH≤aD.label)) aG aF aA aB)) (some (.n,aF))
theorem av3 (w100:Bool) (w70:(List mS)) (w91:Int) (p0:IR) (w75:Int) (w76:Int) (w77:Int) (w94:(List Int)) (w73:Int) (l69:(List Int)) (w71:Int):(Ye KK 3 (.bool w100) (.slice (Rw mS.cells w70) .no) (.int .i64 w91) ([.cells [(.int .i64 p0.temps),(.slice (Rw nH.cells p0.arrays) .no),(.slice (Rw mU.cells p0.blocks) .no),(.int .i64 p0.inn),(.int .i64 p0.out)],.cells [(.int .i64 w75),(.int .i64 w76),(.int .i64 w77)],Vc (ci .i64) 1 w94]:lT) (.int .i64 w73) (.vslice 2 (aa5 l69) 0 (aa5 l69) 1) (.int .i64 w71) (.bool false))=tm (PY w100 w70 w91 w94 w73 l69) fun r=>(r.1.ex,[(.bool false),(.slice (Rw mS.cells w70) .no),(.int .i64 w71),(.int .i64 w73),(.vslice 2 (aa5 l69) 0 (aa5 l69) 1),(.int .i64 w91)],([.cells [(.int .i64 p0.temps),(.slice (Rw nH.cells p0.arrays) .no),(.slice (Rw mU.cells p0.blocks) .no),(.int .i64 p0.inn),(.int .i64 p0.out)],.cells [(.int .i64 w75),(.int .i64 w76),(.int .i64 w77)],Vc (ci .i64) 1 r.2]:lT)):=by
 cases w100 <;> simp +contextual [-l9,-lV,-lU,-lW,-lZ,-lY,-lX,Ye,PY,Zs,aiT,av4]
noncomputable def Yd (K:mA) (m:Nat) (aI:lS) (aD:lS) (aP:lT) (aN:lS) (aJ:lS) (aM:lS) (aL:lS):Option R :=
 ix 10 aI aD fun aQ=>fa 0 aQ fun aR=>ld false 1 aP aR fun aS=>bo .eql aS (.int .i64 1) fun aT=>(Ye K (aa5 aP) aT aI aD aP aN aJ aM aL).bind fun aA=>(fun aE aF aG aH aB aC aK=>Ex.nC aA.1 (mK m .normal [aE,aF,aG,aH,aB,aC] aK) (fun aO=>mK m aO [aE,aF,aG,aH,aB,aC] aK)) (gd aA.2.1 0) (gd aA.2.1 1) (gd aA.2.1 2) (gd aA.2.1 3) (gd aA.2.1 4) (gd aA.2.1 5) aA.2.2
noncomputable def Lm (aC:(List mS)) (aD:Int) (aH:(List Int)) (aG:Int) (aE:(List Int)):Option (Ey×(List Int)) :=
 tb ((o8 aC aD)) fun aF=>tb (PY (decide (aF.kind=1)) aC aD aH aG aE) fun aA=>uW aA.1 (some (.n,aA.2)) fun aB=>some (aB,aA.2)
theorem av2 (w70:(List mS)) (w91:Int) (p0:IR) (w75:Int) (w76:Int) (w77:Int) (w94:(List Int)) (w73:Int) (l69:(List Int)) (w71:Int):(Yd KK 3 (.slice (Rw mS.cells w70) .no) (.int .i64 w91) ([.cells [(.int .i64 p0.temps),(.slice (Rw nH.cells p0.arrays) .no),(.slice (Rw mU.cells p0.blocks) .no),(.int .i64 p0.inn),(.int .i64 p0.out)],.cells [(.int .i64 w75),(.int .i64 w76),(.int .i64 w77)],Vc (ci .i64) 1 w94]:lT) (.int .i64 w73) (.vslice 2 (aa5 l69) 0 (aa5 l69) 1) (.int .i64 w71) (.bool false))=tm (Lm w70 w91 w94 w73 l69) fun r=>(r.1.ex,[(.bool false),(.slice (Rw mS.cells w70) .no),(.int .i64 w71),(.int .i64 w73),(.vslice 2 (aa5 l69) 0 (aa5 l69) 1),(.int .i64 w91)],([.cells [(.int .i64 p0.temps),(.slice (Rw nH.cells p0.arrays) .no),(.slice (Rw mU.cells p0.blocks) .no),(.int .i64 p0.inn),(.int .i64 p0.out)],.cells [(.int .i64 w75),(.int .i64 w76),(.int .i64 w77)],Vc (ci .i64) 1 r.2]:lT)):=by
 simp [-l9,-lV,-lU,-lW,-lZ,-lY,-lX,Yd,Lm,av3]
noncomputable def TX (K:mA) (m:Nat) (s:List lS×lT):Option R :=
 (fun aK aH aL aM aE aB aP=>ln aH fun aR=>bo .lss aB aR fun aS=>mH aS ((Yd K (aa5 aP) aH aB aP aM aE aL aK).bind fun aA=>(fun aF aG aI aJ aC aD aN=>Ex.inBlock 1 aA.1 (bo .add aD (.int .i64 1) fun aQ=>mK m .normal [aF,aG,aI,aJ,aC,aQ] aN) (fun aO=>mK m aO [aF,aG,aI,aJ,aC,aD] aN)) (gd aA.2.1 0) (gd aA.2.1 1) (gd aA.2.1 2) (gd aA.2.1 3) (gd aA.2.1 4) (gd aA.2.1 5) aA.2.2) (mK m (.exit 0) [aK,aH,aL,aM,aE,aB] aP)) (gd s.1 0) (gd s.1 1) (gd s.1 2) (gd s.1 3) (gd s.1 4) (gd s.1 5) s.2
noncomputable def Jp (aD:(List mS)) (aF:Int) (aE:(List Int)) (aB:Int×(List Int)):Option (Ey×Int×(List Int)) :=
 tc (decide (aB.1<((aa5 aD:Nat):Int))) (tb (Lm aD aB.1 aB.2 aF aE) fun aA=>vA 1 aA.1 (some (.n,((IntKind.wrap .i64 (aB.1+1)),aA.2))) fun aC=>some (aC,(aB.1,aA.2))) (some ((.x 0),(aB.1,aB.2)))
theorem atU (w70:(List mS)) (w71:Int) (w73:Int) (l69:(List Int)) (p0:IR) (w75:Int) (w76:Int) (w77:Int) (s81:Int×(List Int)):TX KK 3 ([(.bool false),(.slice (Rw mS.cells w70) .no),(.int .i64 w71),(.int .i64 w73),(.vslice 2 (aa5 l69) 0 (aa5 l69) 1),(.int .i64 s81.1)],([.cells [(.int .i64 p0.temps),(.slice (Rw nH.cells p0.arrays) .no),(.slice (Rw mU.cells p0.blocks) .no),(.int .i64 p0.inn),(.int .i64 p0.out)],.cells [(.int .i64 w75),(.int .i64 w76),(.int .i64 w77)],Vc (ci .i64) 1 s81.2]:lT))=tm (Jp w70 w73 l69 s81) fun r=>(r.1.ex,[(.bool false),(.slice (Rw mS.cells w70) .no),(.int .i64 w71),(.int .i64 w73),(.vslice 2 (aa5 l69) 0 (aa5 l69) 1),(.int .i64 r.2.1)],([.cells [(.int .i64 p0.temps),(.slice (Rw nH.cells p0.arrays) .no),(.slice (Rw mU.cells p0.blocks) .no),(.int .i64 p0.inn),(.int .i64 p0.out)],.cells [(.int .i64 w75),(.int .i64 w76),(.int .i64 w77)],Vc (ci .i64) 1 r.2.2]:lT)):=by
 simp [-l9,-lV,-lU,-lW,-lZ,-lY,-lX,TX,Jp,av2]
theorem PB (w70:(List mS)) (w71:Int) (w73:Int) (l69:(List Int)) (p0:IR) (w75:Int) (w76:Int) (w77:Int) (i5:Int) (i8:(List Int)):nL (TX KK 3) ([(.bool false),(.slice (Rw mS.cells w70) .no),(.int .i64 w71),(.int .i64 w73),(.vslice 2 (aa5 l69) 0 (aa5 l69) 1),(.int .i64 i5)],([.cells [(.int .i64 p0.temps),(.slice (Rw nH.cells p0.arrays) .no),(.slice (Rw mU.cells p0.blocks) .no),(.int .i64 p0.inn),(.int .i64 p0.out)],.cells [(.int .i64 w75),(.int .i64 w76),(.int .i64 w77)],Vc (ci .i64) 1 i8]:lT))=tm (sG (Jp w70 w73 l69) (i5,i8)) fun r=>(r.1.ex,[(.bool false),(.slice (Rw mS.cells w70) .no),(.int .i64 w71),(.int .i64 w73),(.vslice 2 (aa5 l69) 0 (aa5 l69) 1),(.int .i64 r.2.1)],([.cells [(.int .i64 p0.temps),(.slice (Rw nH.cells p0.arrays) .no),(.slice (Rw mU.cells p0.blocks) .no),(.int .i64 p0.inn),(.int .i64 p0.out)],.cells [(.int .i64 w75),(.int .i64 w76),(.int .i64 w77)],Vc (ci .i64) 1 r.2.2]:lT)):=by
 exact s7 (enc:=fun s81=>([(.bool false),(.slice (Rw mS.cells w70) .no),(.int .i64 w71),(.int .i64 w73),(.vslice 2 (aa5 l69) 0 (aa5 l69) 1),(.int .i64 s81.1)],([.cells [(.int .i64 p0.temps),(.slice (Rw nH.cells p0.arrays) .no),(.slice (Rw mU.cells p0.blocks) .no),(.int .i64 p0.inn),(.int .i64 p0.out)],.cells [(.int .i64 w75),(.int .i64 w76),(.int .i64 w77)],Vc (ci .i64) 1 s81.2]:lT))) (fun s81=>atU w70 w71 w73 l69 p0 w75 w76 w77 s81) (i5,i8)
noncomputable def RU (K:mA) (m:Nat) (aH:lS) (aC:lS) (aD:lS) (aE:lS) (aA:lS) (aB:lS) (aG:lT) (aF:lS):Option R :=
 mH aH (mK m .ret [(.bool false),aC,aD,aE,aA,aB] aG) (bo .add aB (.int .i64 1) fun aI=>mK m .normal [aF,aC,aD,aE,aA,aI] aG)
noncomputable def FN (aB:Bool) (aA:Int):Option (Ey×Int) :=
 tc aB (some (.r,aA)) (some (.n,(IntKind.wrap .i64 (aA+1))))
theorem SG (w356:Bool) (w203:(List mS)) (w204:Int) (w205:Int) (l69:Nat) (s208:Int) (p0:IR) (w75:Int) (w76:Int) (w77:Int) (w207:(List Int)):(RU KK 3 (.bool w356) (.slice (Rw mS.cells w203) .no) (.int .i64 w204) (.int .i64 w205) (.vslice 2 l69 0 l69 1) (.int .i64 s208) ([.cells [(.int .i64 p0.temps),(.slice (Rw nH.cells p0.arrays) .no),(.slice (Rw mU.cells p0.blocks) .no),(.int .i64 p0.inn),(.int .i64 p0.out)],.cells [(.int .i64 w75),(.int .i64 w76),(.int .i64 w77)],Vc (ci .i64) 1 w207]:lT) (.bool false))=tm (FN w356 s208) fun r=>(r.1.ex,[(.bool false),(.slice (Rw mS.cells w203) .no),(.int .i64 w204),(.int .i64 w205),(.vslice 2 l69 0 l69 1),(.int .i64 r.2)],([.cells [(.int .i64 p0.temps),(.slice (Rw nH.cells p0.arrays) .no),(.slice (Rw mU.cells p0.blocks) .no),(.int .i64 p0.inn),(.int .i64 p0.out)],.cells [(.int .i64 w75),(.int .i64 w76),(.int .i64 w77)],Vc (ci .i64) 1 w207]:lT)):=by
 cases w356 <;> simp [-l9,-lV,-lU,-lW,-lZ,-lY,-lX,RU,FN,r8]
noncomputable def Yj (K:mA) (m:Nat) (aA:lS) (aC:lS) (aI:lT) (aB:lS) (aG:lS) (aH:lS) (aD:lS) (aF:lS):Option R :=
 gS true aA (mM aC aI) aI fun aP aJ=>gS true aA (mM aB aJ) aJ fun aQ aK=>gS true aA (ix 10 aP aQ fun aR=>mM aR aK) aK fun aS aL=>gS true aA (fa 2 aS fun aT=>mM aT aL) aL fun aU aM=>gS true aA (fa 0 aU fun aV=>mM aV aM) aM fun aW aE=>gS true aA (ld false 1 aE aW fun aX=>mM aX aE) aE fun aY aN=>gS true aA (bo .neq aY (.int .i64 2) fun aZ=>mM aZ aN) aN fun a_ aO=>(nA aA a_ (.bool false)).bind fun bB=>RU K m bB aC aG aH aD aB aO aF
noncomputable def Jt (aD:Bool) (aC:(List mS)) (aA:Int):Option (Ey×Int) :=
 tc aD (tb ((o8 aC aA)) fun aB=>FN (!decide (aB.ins.op=2)) aA) (FN false aA)
theorem aiU (w332:Bool) (w203:(List mS)) (p0:IR) (w75:Int) (w76:Int) (w77:Int) (w207:(List Int)) (s208:Int) (w204:Int) (w205:Int) (l69:Nat):(Yj KK 3 (.bool w332) (.slice (Rw mS.cells w203) .no) ([.cells [(.int .i64 p0.temps),(.slice (Rw nH.cells p0.arrays) .no),(.slice (Rw mU.cells p0.blocks) .no),(.int .i64 p0.inn),(.int .i64 p0.out)],.cells [(.int .i64 w75),(.int .i64 w76),(.int .i64 w77)],Vc (ci .i64) 1 w207]:lT) (.int .i64 s208) (.int .i64 w204) (.int .i64 w205) (.vslice 2 l69 0 l69 1) (.bool false))=tm (Jt w332 w203 s208) fun r=>(r.1.ex,[(.bool false),(.slice (Rw mS.cells w203) .no),(.int .i64 w204),(.int .i64 w205),(.vslice 2 l69 0 l69 1),(.int .i64 r.2)],([.cells [(.int .i64 p0.temps),(.slice (Rw nH.cells p0.arrays) .no),(.slice (Rw mU.cells p0.blocks) .no),(.int .i64 p0.inn),(.int .i64 p0.out)],.cells [(.int .i64 w75),(.int .i64 w76),(.int .i64 w77)],Vc (ci .i64) 1 w207]:lT)):=by
 cases w332 <;> simp [-l9,-lV,-lU,-lW,-lZ,-lY,-lX,Yj,Jt,r8,SG]
noncomputable def Yi (K:mA) (m:Nat) (aQ:lS) (aB:lS) (aE:lS) (aF:lS) (aD:lS) (aA:lS) (aG:lT) (aI:lS):Option R :=
 mH aQ (mK m .ret [(.bool false),aB,aE,aF,aD,aA] aG) (ix 10 aB aA fun aR=>fa 0 aR fun aS=>ld false 1 aG aS fun aT=>bo .eql aT (.int .i64 0) fun aC=>gS true aC (mM aB aG) aG fun aU aJ=>gS true aC (mM aA aJ) aJ fun aV aK=>gS true aC (ix 10 aU aV fun aW=>mM aW aK) aK fun aX aL=>gS true aC (fa 2 aX fun aY=>mM aY aL) aL fun aZ aH=>gS true aC (ld true 8 aH aZ fun a_=>mM a_ aH) aH fun bB aM=>gS true aC (cg (K 8 [(lS.l_ bB)] aM) fun bC aO=>mM bC aO) aM fun bD aN=>gS true aC ((yD .not bD).bind fun bE=>mM bE aN) aN fun bF aP=>(nA aC bF (.bool false)).bind fun bG=>Yj K m bG aB aP aA aE aF aD aI)
noncomputable def B4 (aF:Bool) (aB:(List mS)) (aA:Int):Option (Ey×Int) :=
 tc aF (some (.r,aA)) (tb ((o8 aB aA)) fun aD=>tc (decide (aD.kind=0)) (tb ((o8 aB aA)) fun aE=>tb ((t8 aE.ins)) fun aC=>Jt (!aC) aB aA) (Jt false aB aA))
theorem av5 (w299:Bool) (w203:(List mS)) (w204:Int) (w205:Int) (l69:Nat) (s208:Int) (p0:IR) (w75:Int) (w76:Int) (w77:Int) (w207:(List Int)):(Yi KK 3 (.bool w299) (.slice (Rw mS.cells w203) .no) (.int .i64 w204) (.int .i64 w205) (.vslice 2 l69 0 l69 1) (.int .i64 s208) ([.cells [(.int .i64 p0.temps),(.slice (Rw nH.cells p0.arrays) .no),(.slice (Rw mU.cells p0.blocks) .no),(.int .i64 p0.inn),(.int .i64 p0.out)],.cells [(.int .i64 w75),(.int .i64 w76),(.int .i64 w77)],Vc (ci .i64) 1 w207]:lT) (.bool false))=tm (B4 w299 w203 s208) fun r=>(r.1.ex,[(.bool false),(.slice (Rw mS.cells w203) .no),(.int .i64 w204),(.int .i64 w205),(.vslice 2 l69 0 l69 1),(.int .i64 r.2)],([.cells [(.int .i64 p0.temps),(.slice (Rw nH.cells p0.arrays) .no),(.slice (Rw mU.cells p0.blocks) .no),(.int .i64 p0.inn),(.int .i64 p0.out)],.cells [(.int .i64 w75),(.int .i64 w76),(.int .i64 w77)],Vc (ci .i64) 1 w207]:lT)):=by
 cases w299 <;> simp +contextual [-l9,-lV,-lU,-lW,-lZ,-lY,-lX,Yi,B4,r8,SG,aiU]
noncomputable def Nc (K:mA) (m:Nat) (s:List lS×lT):Option R :=
 (fun aH aB aI aG aE aA aJ=>ln aB fun bK=>bo .lss aA bK fun bL=>mH bL (ix 10 aB aA fun bM=>fa 0 bM fun bN=>ld false 1 aJ bN fun bO=>bo .eql bO (.int .i64 2) fun aC=>gS true aC (mM aB aJ) aJ fun bP aO=>gS true aC (mM aA aO) aO fun bQ aP=>gS true aC (ix 10 bP bQ fun bR=>mM bR aP) aP fun bS aQ=>gS true aC (fa 1 bS fun bT=>mM bT aQ) aQ fun bU aK=>gS true aC (ld false 1 aK bU fun bV=>mM bV aK) aK fun bW aR=>gS true aC (bo .lss bW (.int .i64 0) fun bX=>mM bX aR) aR fun bY aS=>gS true aC (mM bY aS) aS fun aF aT=>gS false aF (mM aB aT) aT fun bZ aU=>gS false aF (mM aA aU) aU fun b_ aV=>gS false aF (ix 10 bZ b_ fun cA=>mM cA aV) aV fun cB aW=>gS false aF (fa 1 cB fun cC=>mM cC aW) aW fun cD aL=>gS false aF (ld false 1 aL cD fun cE=>mM cE aL) aL fun cF aX=>gS false aF (mM aG aX) aX fun cG aY=>gS false aF (bo .geq cF cG fun cH=>mM cH aY) aY fun cI aZ=>gS true aC ((nA aF (.bool true) cI).bind fun cJ=>mM cJ aZ) aZ fun cK a_=>gS true aC (mM cK a_) a_ fun aD bB=>gS false aD (mM aE bB) bB fun cL bC=>gS false aD (mM aB bC) bC fun cM bD=>gS false aD (mM aA bD) bD fun cN bE=>gS false aD (ix 10 cM cN fun cO=>mM cO bE) bE fun cP bF=>gS false aD (fa 1 cP fun cQ=>mM cQ bF) bF fun cR aM=>gS false aD (ld false 1 aM cR fun cS=>mM cS aM) aM fun cT bG=>gS false aD (ix 1 cL cT fun cU=>mM cU bG) bG fun cV aN=>gS false aD (ld false 1 aN cV fun cW=>mM cW aN) aN fun cX bH=>gS false aD (bo .neq cX (.int .i64 1) fun cY=>mM cY bH) bH fun cZ bI=>gS true aC ((nA aD (.bool true) cZ).bind fun c7=>mM c7 bI) bI fun c8 bJ=>(nA aC c8 (.bool false)).bind fun c_=>Yi K m c_ aB aI aG aE aA bJ aH) (mK m (.exit 2) [aH,aB,aI,aG,aE,aA] aJ)) (gd s.1 0) (gd s.1 1) (gd s.1 2) (gd s.1 3) (gd s.1 4) (gd s.1 5) s.2
noncomputable def B3 (aB:(List mS)) (aI:Int) (aK:(List Int)) (aJ:(List Int)) (aA:Int):Option (Ey×Int) :=
 tc (decide (aA<((aa5 aB:Nat):Int))) (tb ((o8 aB aA)) fun aD=>tc (decide (aD.kind=2)) (tb ((o8 aB aA)) fun aE=>tc (decide (aE.label<0)) (B4 true aB aA) (tb ((o8 aB aA)) fun aF=>tc (decide (aI≤aF.label)) (B4 true aB aA) (tb ((o8 aB aA)) fun aG=>tb ((DF (aa5 aK) aG.label)) fun aC=>tb ((vC (aa5 aK) aJ aC)) fun aH=>B4 (!decide (aH=1)) aB aA))) (B4 false aB aA)) (some ((.x 2),aA))
set_option maxHeartbeats 4000000 in
theorem aj4 (w203:(List mS)) (w204:Int) (w205:Int) (l69:(List Int)) (p0:IR) (w75:Int) (w76:Int) (w77:Int) (w207:(List Int)) (s208:Int):Nc KK 3 ([(.bool false),(.slice (Rw mS.cells w203) .no),(.int .i64 w204),(.int .i64 w205),(.vslice 2 (aa5 l69) 0 (aa5 l69) 1),(.int .i64 s208)],([.cells [(.int .i64 p0.temps),(.slice (Rw nH.cells p0.arrays) .no),(.slice (Rw mU.cells p0.blocks) .no),(.int .i64 p0.inn),(.int .i64 p0.out)],.cells [(.int .i64 w75),(.int .i64 w76),(.int .i64 w77)],Vc (ci .i64) 1 w207]:lT))=tm (B3 w203 w205 l69 w207 s208) fun r=>(r.1.ex,[(.bool false),(.slice (Rw mS.cells w203) .no),(.int .i64 w204),(.int .i64 w205),(.vslice 2 (aa5 l69) 0 (aa5 l69) 1),(.int .i64 r.2)],([.cells [(.int .i64 p0.temps),(.slice (Rw nH.cells p0.arrays) .no),(.slice (Rw mU.cells p0.blocks) .no),(.int .i64 p0.inn),(.int .i64 p0.out)],.cells [(.int .i64 w75),(.int .i64 w76),(.int .i64 w77)],Vc (ci .i64) 1 w207]:lT)):=by
 simp +contextual -implicitDefEqProofs (maxSteps:=2000000) [-l9,-lV,-lU,-lW,-lZ,-lY,-lX,Nc,B3,r8,SG,aiU,av5]
theorem I7 (w203:(List mS)) (w204:Int) (w205:Int) (l69:(List Int)) (p0:IR) (w75:Int) (w76:Int) (w77:Int) (w207:(List Int)) (i5:Int):nL (Nc KK 3) ([(.bool false),(.slice (Rw mS.cells w203) .no),(.int .i64 w204),(.int .i64 w205),(.vslice 2 (aa5 l69) 0 (aa5 l69) 1),(.int .i64 i5)],([.cells [(.int .i64 p0.temps),(.slice (Rw nH.cells p0.arrays) .no),(.slice (Rw mU.cells p0.blocks) .no),(.int .i64 p0.inn),(.int .i64 p0.out)],.cells [(.int .i64 w75),(.int .i64 w76),(.int .i64 w77)],Vc (ci .i64) 1 w207]:lT))=tm (sG (B3 w203 w205 l69 w207) i5) fun r=>(r.1.ex,[(.bool false),(.slice (Rw mS.cells w203) .no),(.int .i64 w204),(.int .i64 w205),(.vslice 2 (aa5 l69) 0 (aa5 l69) 1),(.int .i64 r.2)],([.cells [(.int .i64 p0.temps),(.slice (Rw nH.cells p0.arrays) .no),(.slice (Rw mU.cells p0.blocks) .no),(.int .i64 p0.inn),(.int .i64 p0.out)],.cells [(.int .i64 w75),(.int .i64 w76),(.int .i64 w77)],Vc (ci .i64) 1 w207]:lT)):=by
 exact s7 (enc:=fun s208=>([(.bool false),(.slice (Rw mS.cells w203) .no),(.int .i64 w204),(.int .i64 w205),(.vslice 2 (aa5 l69) 0 (aa5 l69) 1),(.int .i64 s208)],([.cells [(.int .i64 p0.temps),(.slice (Rw nH.cells p0.arrays) .no),(.slice (Rw mU.cells p0.blocks) .no),(.int .i64 p0.inn),(.int .i64 p0.out)],.cells [(.int .i64 w75),(.int .i64 w76),(.int .i64 w77)],Vc (ci .i64) 1 w207]:lT))) (fun s208=>aj4 w203 w204 w205 l69 p0 w75 w76 w77 w207 s208) i5
noncomputable def Yf (K:mA) (aB:lS) (aA:lT):Option R :=
 some (.ret,[aB],aA)
noncomputable def PZ (aA:Bool):Option (Bool) :=
 some aA
theorem Uj (w52:Bool) (p0:IR) (w57:Int) (w58:Int) (w59:Int):((Yf KK (.bool w52) ([.cells [(.int .i64 p0.temps),(.slice (Rw nH.cells p0.arrays) .no),(.slice (Rw mU.cells p0.blocks) .no),(.int .i64 p0.inn),(.int .i64 p0.out)],.cells [(.int .i64 w57),(.int .i64 w58),(.int .i64 w59)]]:lT))).bind (IP 0)=tm (PZ w52) fun r=>(.ret (.bool r),[]):=by
 cases w52 <;> simp [-l9,-lV,-lU,-lW,-lZ,-lY,-lX,Yf,PZ,r5,r6,Pd,PB,I7,IP]
noncomputable def RX (K:mA) (aB:lS) (aA:lT):Option R :=
 some (.ret,[aB],aA)
noncomputable def Js (aA:Bool):Option (Bool) :=
 some aA
theorem SH (w412:Bool) (p0:IR) (w75:Int) (w76:Int) (w77:Int) (w384:(List Int)):((RX KK (.bool w412) ([.cells [(.int .i64 p0.temps),(.slice (Rw nH.cells p0.arrays) .no),(.slice (Rw mU.cells p0.blocks) .no),(.int .i64 p0.inn),(.int .i64 p0.out)],.cells [(.int .i64 w75),(.int .i64 w76),(.int .i64 w77)],Vc (ci .i64) 1 w384]:lT))).bind (IP 0)=tm (Js w412) fun r=>(.ret (.bool r),[]):=by
 cases w412 <;> simp [-l9,-lV,-lU,-lW,-lZ,-lY,-lX,RX,Js,r5,r6,Pd,PB,I7,IP,Uj]
noncomputable def RW (K:mA) (aB:lS) (aA:lT):Option R :=
 gS true aB (cg (K 6 [] aA) fun aE aC=>mM aE aC) aA fun aF aD=>(nA aB aF (.bool false)).bind fun aG=>RX K aG aD
noncomputable def Jr (aB:Bool):Option (Bool) :=
 tc aB (tb ((t6 )) fun aA=>Js aA) (Js false)
theorem Za (w403:Bool) (p0:IR) (w75:Int) (w76:Int) (w77:Int) (w384:(List Int)):((RW KK (.bool w403) ([.cells [(.int .i64 p0.temps),(.slice (Rw nH.cells p0.arrays) .no),(.slice (Rw mU.cells p0.blocks) .no),(.int .i64 p0.inn),(.int .i64 p0.out)],.cells [(.int .i64 w75),(.int .i64 w76),(.int .i64 w77)],Vc (ci .i64) 1 w384]:lT))).bind (IP 0)=tm (Jr w403) fun r=>(.ret (.bool r),[]):=by
 cases w403 <;> simp [-l9,-lV,-lU,-lW,-lZ,-lY,-lX,RW,Jr,r5,r6,Pd,PB,I7,IP,Uj,SH]
noncomputable def RV (K:mA) (aA:lS) (aB:lS) (aE:lT) (aD:lS):Option R :=
 gS true aA (mM aB aE) aE fun aJ aF=>gS true aA (mM aD aF) aF fun aK aG=>gS true aA (ix 1 aJ aK fun aL=>mM aL aG) aG fun aM aC=>gS true aA (ld false 1 aC aM fun aN=>mM aN aC) aC fun aO aH=>gS true aA (bo .eql aO (.int .i64 1) fun aP=>mM aP aH) aH fun aQ aI=>(nA aA aQ (.bool false)).bind fun aR=>RW K aR aI
noncomputable def Jq (aC:Bool) (aF:(List Int)) (aE:(List Int)) (aD:Int):Option (Bool) :=
 tc aC (tb ((DF (aa5 aF) aD)) fun aA=>tb ((vC (aa5 aF) aE aA)) fun aB=>Jr (decide (aB=1))) (Jr false)
theorem ao7 (w379:Bool) (l69:(List Int)) (p0:IR) (w75:Int) (w76:Int) (w77:Int) (w384:(List Int)) (w381:Int):((RV KK (.bool w379) (.vslice 2 (aa5 l69) 0 (aa5 l69) 1) ([.cells [(.int .i64 p0.temps),(.slice (Rw nH.cells p0.arrays) .no),(.slice (Rw mU.cells p0.blocks) .no),(.int .i64 p0.inn),(.int .i64 p0.out)],.cells [(.int .i64 w75),(.int .i64 w76),(.int .i64 w77)],Vc (ci .i64) 1 w384]:lT) (.int .i64 w381))).bind (IP 0)=tm (Jq w379 l69 w384 w381) fun r=>(.ret (.bool r),[]):=by
 cases w379 <;> simp [-l9,-lV,-lU,-lW,-lZ,-lY,-lX,RV,Jq,r5,r6,Pd,PB,I7,IP,Uj,SH,Za]
noncomputable def m3 (K:mA) (a0 a1:lS) (h0:lT):Option (nT×lT) :=
 (mC (nP 5 h0 a0) fun aZ bG=>ld true 5 bG aZ fun bQ=>ca (K 5 [(lS.l_ bQ)] bG) fun t23 aX=>(yD .not t23).bind fun t26=>mH t26 (ca (K 6 [] aX) fun bR bL=>some (.ret,[bR],bL)) (ld true 5 aX aZ fun t30=>ca (K 7 [(lS.l_ t30),(lS.l_ a1)] aX) fun t31 bM=>(nO 0 t31).bind fun bI=>(nO 1 t31).bind fun bS=>(nO 2 t31).bind fun t36=>(nO 3 t31).bind fun bT=>mC (nP 3 bM (.agg [(.int .i64 0),(.int .i64 0),(.int .i64 0)])) fun bU bN=>(mL 3 bN bU bS).bind fun aQ=>bo .neq bT (.int .i64 0) fun bV=>mH bV (ln bI fun bW=>bo .eql bW (.int .i64 0) fun bJ=>gS true bJ (cg (K 6 [] aQ) fun bX bO=>mM bX bO) aQ fun bY bP=>(nA bJ bY (.bool false)).bind fun bZ=>Yf K bZ bP) (fa 2 aZ fun b_=>ld false 1 aQ b_ fun cA=>ln cA fun cB=>bo .mul (.int .i64 2) cB fun cC=>bo .add cC (.int .i64 18) fun bK=>mC (p_ 1 8 [(.int .i64 0)] bK aQ) fun cD bH=>(nL (TX K (aa5 bH)) ([(.bool false),bI,t36,bK,cD,(.int .i64 0)],bH)).bind fun aA=>(fun aD aK aL aM aF aR aH=>Ex.nC aA.1 none (fun aT=>Ex.inBlock 0 aT ((nL (Nc K (aa5 aH)) ([aD,aK,aL,aM,aF,(.int .i64 0)],aH)).bind fun aB=>(fun aJ bF aC aN aG aS aI=>Ex.nC aB.1 none (fun aV=>Ex.inBlock 2 aV (bo .geq aC (.int .i64 0) fun aE=>gS true aE (mM aC aI) aI fun a_ aO=>gS true aE (mM aN aO) aO fun bB aP=>gS true aE (bo .lss a_ bB fun bC=>mM bC aP) aP fun bD aY=>(nA aE bD (.bool false)).bind fun bE=>RV K bE aG aY aC) (fun aW=>some (aW,[aJ],aI)))) (gd aB.2.1 0) (gd aB.2.1 1) (gd aB.2.1 2) (gd aB.2.1 3) (gd aB.2.1 4) (gd aB.2.1 5) aB.2.2) (fun aU=>some (aU,[aD],aH)))) (gd aA.2.1 0) (gd aA.2.1 1) (gd aA.2.1 2) (gd aA.2.1 3) (gd aA.2.1 4) (gd aA.2.1 5) aA.2.2))).bind (IP (aa5 h0))
theorem aiH (K:mA) (a0 a1:lS) (h0:lT):p9 Tryz.prog nM nL K 3 [a0,a1] h0=m3 (mW nM K) a0 a1 h0:=by kernel_rfl
noncomputable def t3 (A:List mS×Sz×Int×Int) (p0:IR) (p1:Int):Option (Bool) :=
 tb ((t5 p0)) fun aI=>tc (!aI) (tb ((t6 )) fun CX=>some CX) (tb ((some A)) fun aB=>tc (!decide (aB.2.2.2=0)) (tc (decide (((aa5 aB.1:Nat):Int)=0)) (tb ((t6 )) fun aJ=>PZ aJ) (PZ false)) (tb ((ZD 8 (0:Int) (IntKind.wrap .i64 ((IntKind.wrap .i64 (2*((aa5 p0.blocks:Nat):Int)))+18)))) fun aC=>tb (sG (Jp aB.1 (IntKind.wrap .i64 ((IntKind.wrap .i64 (2*((aa5 p0.blocks:Nat):Int)))+18)) aC) (0,aC)) fun aA=>uW aA.1 none fun aD=>vA 0 aD (tb (sG (B3 aB.1 (IntKind.wrap .i64 ((IntKind.wrap .i64 (2*((aa5 p0.blocks:Nat):Int)))+18)) aC aA.2.2) 0) fun aH=>uW aH.1 none fun aF=>vA 2 aF (tc (decide (0≤aB.2.2.1)) (Jq (decide (aB.2.2.1<(IntKind.wrap .i64 ((IntKind.wrap .i64 (2*((aa5 p0.blocks:Nat):Int)))+18)))) aC aA.2.2 aB.2.2.1) (Jq false aC aA.2.2 aB.2.2.1)) fun aG=>Ga aG (some false)) fun aE=>Ga aE (some false)))
theorem b3 (A:List mS×Sz×Int×Int) (p0:IR) (p1:Int) (r7a:∀h,KK 7 [(.agg [(.int .i64 p0.temps),(.slice (Rw nH.cells p0.arrays) .no),(.slice (Rw mU.cells p0.blocks) .no),(.int .i64 p0.inn),(.int .i64 p0.out)]),(.int .i64 p1)] h=some (.ret (.tuple [(.slice (Rw mS.cells A.1) .no),(.agg [(.int .i64 A.2.1.inn),(.int .i64 A.2.1.outt),(.int .i64 A.2.1.rail)]),(.int .i64 A.2.2.1),(.int .i64 A.2.2.2)]),h)):m3 KK (.agg [(.int .i64 p0.temps),(.slice (Rw nH.cells p0.arrays) .no),(.slice (Rw mU.cells p0.blocks) .no),(.int .i64 p0.inn),(.int .i64 p0.out)]) (.int .i64 p1) []=tm (t3 A p0 p1) fun r=>(.ret (.bool r),[]):=by
 simp +contextual [-l9,-lV,-lU,-lW,-lZ,-lY,-lX,m3,t3,r5,r6,r7a,Pd,PB,I7,IP,Uj,SH,Za,ao7]
theorem r3 (A:List mS×Sz×Int×Int) (p0:IR) (p1:Int) (r7a:∀h,KK 7 [(.agg [(.int .i64 p0.temps),(.slice (Rw nH.cells p0.arrays) .no),(.slice (Rw mU.cells p0.blocks) .no),(.int .i64 p0.inn),(.int .i64 p0.out)]),(.int .i64 p1)] h=some (.ret (.tuple [(.slice (Rw mS.cells A.1) .no),(.agg [(.int .i64 A.2.1.inn),(.int .i64 A.2.1.outt),(.int .i64 A.2.1.rail)]),(.int .i64 A.2.2.1),(.int .i64 A.2.2.2)]),h)) (h:lT):KK 3 [(.agg [(.int .i64 p0.temps),(.slice (Rw nH.cells p0.arrays) .no),(.slice (Rw mU.cells p0.blocks) .no),(.int .i64 p0.inn),(.int .i64 p0.out)]),(.int .i64 p1)] h=tm (t3 A p0 p1) fun r=>(.ret (.bool r),h):=oE rfl rfl (aiH ..) (b3 A p0 p1 r7a)
end
section
open Go Hk
theorem uU {α:Type}{c:Bool}{a b:Option α}(h:∃x,a=some x) (g:∃x,b=some x):∃x,tc c a b=some x:=by cases c <;> assumption
theorem Ao {α β:Type}{a:Option α}{f:α→Option β}(h:∃x,a=some x) (g:∀x,∃y,f x=some y):∃y,tb a f=some y:=by
 obtain⟨x,rfl⟩:=h;exact g x
theorem NX (a b c:Int):∃x,t31 a b c=some x:=uU ⟨_,rfl⟩ ⟨_,rfl⟩
theorem aqG (a:Int):∃x,t30 a=some x:=by
 unfold t30 B1 Jn Jo NQ NR NS NT NU NV NW Hl Hm
 repeat' (first | exact⟨_,rfl⟩ | apply uU | refine Ao ?_ fun _=>?_)
theorem NY (a b:Int):∃x,t32 a b=some x:=uU ⟨_,rfl⟩ (Ao (NX ..) fun _=>⟨_,rfl⟩)
theorem aqI (a:Int) (b:Bool):∃x,t70 a b=some x:=by
 unfold t70 NZ N0 N1 N2
 by_cases h1:a=24 <;> by_cases h2:a=25 <;> cases b <;> simp [h1,h2,uW,vA,Ga]
theorem aqF (p:Ins):∃x,t29 p=some x:=by
 unfold t29 Ji Jj Jk FM Jl Jm
 repeat' (first | exact⟨_,rfl⟩ | exact NX .. | exact aqI .. | apply uU | refine Ao ?_ fun _=>?_)
theorem aqD (p:Ins):∃x,t15 p=some x:=by
 have h8:∀w,∃x,zO w=some x:=fun w=>uU ⟨_,rfl⟩ ⟨_,rfl⟩
 have h7:∀w,∃x,A0 w p=some x:=fun w=>uU (h8 _) (uU (Ao (NX ..) fun _=>h8 _) (h8 _))
 have h6:∀w,∃x,AZ w p=some x:=fun w=>uU ⟨_,rfl⟩ (uU (h7 _) (h7 _))
 have h5:∀w a,∃x,AY w p a=some x:=fun w a=>uU (h6 _) (Ao (NY ..) fun _=>h6 _)
 have h4:∀w a b,∃x,AX w p a b=some x:=fun w a b=>uU (h5 _ _) (Ao (NY ..) fun _=>h5 _ _)
 have h3:∀w a b c d,∃x,AW w p a b c d=some x:=fun w a b c d=>uU ⟨_,rfl⟩ (Ao (NY ..) fun _=>uU (h4 _ _ _) (Ao (NY ..) fun _=>h4 _ _ _))
 have h2:∀w a b c d e f,∃x,AV w p a b c d e f=some x:=fun w a b c d e f=>uU (h3 _ _ _ _ _) (Ao (NX ..) fun _=>h3 _ _ _ _ _)
 have h1:∀w a b c d e f,∃x,AU w p a b c d e f=some x:=fun w a b c d e f=>uU (h2 ..) (h2 ..)
 have h0:∀w,∃x,AT w p=some x:=fun w=>uU (Ao (aqF p) fun _=>⟨_,rfl⟩) (Ao (aqG _) fun _=>uU (h1 ..) (h1 ..))
 exact uU (h0 _) (h0 _)
theorem axA (p:Ins):∃x,t8 p=some x:=by
 refine Ao (aqD p) fun _=>uU ⟨_,rfl⟩ ?_
 unfold Gz GA GB JE JF JG Lp Lq Lr Ls FO FP FQ FT JH JI JJ JK
 repeat' (first | exact⟨_,rfl⟩ | apply uU | refine Ao ?_ fun _=>?_)
end
section
open Go Hk
theorem aiO {f:Nat}{args:List lS}{v:lS}(hp:nM.pure f=true) (h:KK f args []=some (.ret v,[])):Iq Tryz.prog nM f args []=some (.ret v,[]):=by
 unfold KK mW at h
 rw [hp] at h
 simp only [cond_true] at h
 cases ha:args.all (lS.sM 0) with
 | false=>rw [ha] at h;cases h
 | true =>
  rw [ha] at h
  simp only [cond_true] at h
  obtain⟨r,h1,h2⟩:=Option.bind_eq_some_iff.1 h
  obtain⟨r1,r2⟩:=r
  cases r2 with
  | nil=>cases h2;exact h1
  | cons a l =>
   simp only [tW] at h2
   revert h2
   cases (nM.out f&&_) <;> intro h2
   ·cases h2
   ·simp at h2
end
section
open Go Hk
noncomputable def wB (M:Nat) (ls:List Int):List Int:=(List.range M).map fun(x:Nat)=>if (x:Int)∈ls then 1 else 0
theorem uJ {M:Nat}{ls:List Int}:(wB M ls).length=M:=by simp [wB]
theorem xJ {M:Nat}{ls:List Int}{x:Int}(h0:0≤x) (h1:x<(M:Int)):(wB M ls)[x.toNat]?=some (if x∈ls then 1 else 0):=by
 unfold wB
 rw [ak4,List.getElem?_range (by omega)]
 simp only [Option.map_some]
 rw [show((x.toNat:Nat):Int)=x by omega]
theorem UM {M:Nat}{ls:List Int}{x:Int}(h0:0≤x):(wB M ls).set x.toNat 1=wB M (ls++[x]):=by
 apply List.ext_getElem?
 intro j
 by_cases hj:j<M
 ·by_cases e:x.toNat=j
  ·rw [←e,List.getElem?_set_self (by rw [uJ];omega),xJ h0 (by omega)]
   simp
  ·rw [List.getElem?_set_ne e]
   have a:=xJ (ls:=ls) (x:=(j:Int)) (by omega) (show(j:Int)<(M:Int) by omega)
   have b:=xJ (ls:=ls++[x]) (x:=(j:Int)) (by omega) (show(j:Int)<(M:Int) by omega)
   simp only [Int.toNat_natCast] at a b
   rw [a,b]
   have:¬(j:Int)=x:=by omega
   simp [this]
 ·rw [List.getElem?_eq_none (by rw [List.length_set,uJ];omega),List.getElem?_eq_none (by rw [uJ];omega)]
theorem IG (X Y:List mS):qY (X++Y)=qY X++qY Y:=by unfold qY;rw [List.filterMap_append]
section
variable {W:List mS}{L0:List Int}{M:Nat}(hM:L0.length=M) (hW:W.length≤1000000)
include hM hW
theorem aBc (hn:(qY W).Nodup) (hr:∀x∈qY W,0≤x∧x<(M:Int)):∀(d i:Nat),W.length=i+d →
  sG (Jp W (M:Int) L0) ((i:Int),wB M (qY (W.take i)))=some (.x 0,((W.length:Int),wB M (qY W))):=by
 intro d
 induction d with
 | zero =>
  intro i hi
  obtain rfl:i=W.length:=by omega
  rw [List.take_length]
  exact pM (by simp [Jp]) (by simp)
 | succ d ih =>
  intro i hi
  have hil:i<W.length:=by omega
  rw [←ih (i+1) (by omega)]
  have e1:o8 W (i:Int)=some W[i]:=by rw [pJ,ag8 hil]
  have e4:qY (W.take (i+1))=qY (W.take i)++qY [W[i]]:=by rw [List.take_succ_eq_append_getElem hil,IG]
  have e5:qY W=qY (W.take i)++(qY [W[i]]++qY (W.drop (i+1))):=by
   have:W=W.take i++([W[i]]++W.drop (i+1)):=by rw [List.singleton_append,←ar7 hil,List.take_append_drop]
   conv=>lhs;rw [this]
   rw [IG,IG]
  have hii:(i:Int)<(W.length:Int):=by omega
  refine p5 ?_
  have hb:Lm W (i:Int) (wB M (qY (W.take i))) (M:Int) L0=some (.n,wB M (qY (W.take (i+1)))):=by
   rw [e4]
   by_cases hk:W[i].kind=1
   ·have el:qY [W[i]]=[W[i].label]:=by simp [qY,hk]
    rw [el] at e5 ⊢
    have hy:=hr W[i].label (by rw [e5];simp)
    have hnot:W[i].label ∉ qY (W.take i):=by
     rw [e5,List.nodup_append] at hn
     exact fun h=>hn.2.2 _ h _ (by simp) rfl
    have l1:¬W[i].label<0:=by omega
    have l2:¬(M:Int)≤W[i].label:=by omega
    have ti:DF (aa5 L0) W[i].label=some W[i].label.toNat:=by unfold DF;rw [hM,if_pos hy]
    have tg:vC (aa5 L0) (wB M (qY (W.take i))) W[i].label.toNat=some 0:=by
     unfold vC;rw [hM,if_pos uJ,xJ hy.1 hy.2,if_neg hnot]
    have ts:DG (aa5 L0) (wB M (qY (W.take i))) W[i].label.toNat 1=some (wB M (qY (W.take i)++[W[i].label])):=by
     unfold DG;rw [hM,if_pos ⟨uJ,by rw [uJ];omega⟩,UM hy.1]
    have w1:IntKind.i64.wrap ((0:Int)+1)=1:=rfl
    simp only [Lm,e1,mN,hk,decide_true,PY,nV,l1,decide_false,oJ,l2,P0,ti,tg,Int.lt_irrefl,P2,w1,ts,uW]
   ·have el:qY [W[i]]=[]:=by simp [qY,hk]
    rw [el,List.append_nil]
    simp only [Lm,e1,mN,hk,decide_false,PY,oJ,uW]
  simp only [Jp,hii,decide_true,nV,hb,mN,Dh,qL (show i≤4000000 by omega)]
theorem avD (hr:∀x∈qY W,0≤x∧x<(M:Int)) (hok:∀x∈W,OkP (fun l=>l∈qY W) x):∀(d i:Nat),W.length=i+d →
  sG (B3 W (M:Int) L0 (wB M (qY W))) (i:Int)=some (.x 2,(W.length:Int)):=by
 intro d
 induction d with
 | zero =>
  intro i hi
  obtain rfl:i=W.length:=by omega
  exact pM (by simp [B3]) (by simp)
 | succ d ih =>
  intro i hi
  have hil:i<W.length:=by omega
  rw [←ih (i+1) (by omega)]
  have e1:o8 W (i:Int)=some W[i]:=by rw [pJ,ag8 hil]
  have hii:(i:Int)<(W.length:Int):=by omega
  obtain⟨o1,o2⟩:=hok _ (List.getElem_mem hil)
  refine p5 ?_
  have s9:Jt false W (i:Int)=some (.n,((i+1:Nat):Int)):=by
   simp only [Jt,oJ,FN,qL (show i≤4000000 by omega)]
  have s8:B4 false W (i:Int)=some (.n,((i+1:Nat):Int)):=by
   by_cases k0:W[i].kind=0
   ·obtain⟨b,hb⟩:=axA W[i].ins
    by_cases h2:W[i].ins.op=2
    ·cases b
     ·simp only [B4,oJ,e1,mN,k0,decide_true,nV,hb,Bool.not_false,Jt,h2,Bool.not_true,FN,qL (show i≤4000000 by omega)]
     ·simp only [B4,oJ,e1,mN,k0,decide_true,nV,hb,Bool.not_true,s9]
    ·have:=o1 k0 h2
     simp only [B4,oJ,e1,mN,k0,decide_true,nV,this,Bool.not_true,s9]
   ·simp only [B4,oJ,e1,mN,k0,decide_false,s9]
  by_cases k2:W[i].kind=2
  ·have hl:=o2 k2
   have hy:=hr _ hl
   have l1:¬W[i].label<0:=by omega
   have l2:¬(M:Int)≤W[i].label:=by omega
   have ti:DF (aa5 L0) W[i].label=some W[i].label.toNat:=by unfold DF;rw [hM,if_pos hy]
   have tg:vC (aa5 L0) (wB M (qY W)) W[i].label.toNat=some 1:=by
    unfold vC;rw [hM,if_pos uJ,xJ hy.1 hy.2,if_pos hl]
   simp only [B3,hii,decide_true,nV,e1,mN,k2,l1,decide_false,oJ,l2,ti,tg,Bool.not_true,s8]
  ·simp only [B3,hii,decide_true,nV,e1,mN,k2,decide_false,oJ,s8]
end
theorem aw7 {p:IR}{m:Int}{W:List mS}{z:Sz}{h:Int}(h5:t5 p=some true) (hb:p.blocks.length≤150) (g:B9 p.blocks.length W h):t3 (W,z,h,0) p m=some true:=by
 obtain⟨M,hM⟩:∃M:Nat,M=2*p.blocks.length+18:=⟨_,rfl⟩
 have hMi:IntKind.wrap .i64 (IntKind.wrap .i64 (2*((aa5 p.blocks:Nat):Int))+18)=(M:Int):=by
  rw [wrap64 (n:=2*((aa5 p.blocks:Nat):Int)) (by omega) (by omega),wrap64 (by omega) (by omega)];omega
 have hmk:ZD 8 (0:Int) (M:Int)=some (ak7 M 0):=by
  unfold ZD;rw [if_pos ⟨by omega,by omega,by omega⟩];simp
 have rng:∀x∈qY W,0≤x∧x<(M:Int):=fun x hx=>by have:=g.rng x hx;omega
 have a:=aBc (L0:=ak7 M 0) (by simp) g.len g.nd rng W.length 0 (by omega)
 have b:=avD (L0:=ak7 M 0) (by simp) g.len rng g.ok W.length 0 (by omega)
 have e0:((0:Nat):Int)=0:=rfl
 have e1:wB M (qY (W.take 0))=ak7 M 0:=by
  show(List.range M).map (fun(x:Nat)=>if (x:Int)∈([]:List Int) then(1:Int) else 0)=_
  simp only [List.not_mem_nil,if_false]
  apply List.ext_getElem
  ·simp
  ·intro j h1 h2;simp
 rw [e0] at a b
 rw [e1] at a
 have hh:=rng h g.h
 have l1:h<(M:Int):=hh.2
 have ti:DF (aa5 (ak7 M (0:Int))) h=some h.toNat:=by unfold DF;rw [List.length_replicate,if_pos hh]
 have tg:vC (aa5 (ak7 M (0:Int))) (wB M (qY W)) h.toNat=some 1:=by
  unfold vC;rw [List.length_replicate,if_pos uJ,xJ hh.1 hh.2,if_pos g.h]
 unfold t3
 simp only [h5,mN,Bool.not_true,oJ,decide_true,hMi,hmk,a,b,uW,vA,beq_self_eq_true,cond_true,hh.1,l1,nV,Jq,ti,tg,Jr,Js]
theorem aqH {p:IR}{m e:Int}{z:Sz}(h5:t5 p=some true) (he:e≠0):t3 ([],z,0,e) p m=some true:=by
 unfold t3
 simp only [h5,mN,Bool.not_true,oJ,he,decide_false,Bool.not_false,nV,List.length_nil,PZ]
 rfl
theorem Xu {p:IR}{f:uV}(hf:t23 (nB p)=some (f,0)):(nB p).blocks.length=p.blocks.length:=by
 rcases By p with h | ⟨l,h⟩
 ·exfalso
  have hc:pB (nB p)≠0:=by
   intro hc
   exact(uK hc).2.2.1 h
  unfold t23 at hf
  simp only [t9,Wf,mN,hc,decide_false,Bool.not_false,nV,ah5,Prod.mk.injEq] at hf
  exact hf.2
 ·rw [h,au7]
theorem c3 (p:IR) (m:Int) (h:lT):KK 3 [pA p,.int .i64 m] h=some (.ret (.bool true),h):=by
 obtain⟨b,h5,hb⟩:=aw9 p
 cases b
 ·refine nN rfl rfl (oN (aiH _ _ _ _) ?_)
  have k5:=fun h=>r5 p h
  simp only [h5,pH] at k5
  simp [m3,IP,pA,k5,c6]
 ·obtain⟨hb1,hb2,hb3⟩:=hb rfl
  have bad:∀e:Int,e≠0→(∀h:lT,KK 7 [pA p,.int .i64 m] h=some (.ret (.tuple [.slice [] .no,.agg [.int .i64 0,.int .i64 0,.int .i64 0],.int .i64 0,.int .i64 e]),h))→KK 3 [pA p,.int .i64 m] h=some (.ret (.bool true),h):=by
   intro e he k
   refine(r3 ([],⟨0,0,0⟩,0,e) p m (fun h=>k h) h).trans ?_
   rw [aqH h5 he];rfl
  by_cases hm:0≤m∧m≤2
  ·by_cases h0:pB p=0
   ·obtain⟨f,e,hf⟩:=ai4 (nB p)
    by_cases he:e=0
    ·subst he
     obtain⟨hc1,hc2⟩:=Im p
     have hl:=Xu hf
     have good:∀W:List mS,B9 (nB p).blocks.length W (inc (nB p).blocks.length)→(∀h:lT,KK 7 [pA p,.int .i64 m] h=some (.ret (.tuple [.slice (Rw mS.cells W) .no,.agg [.int .i64 (nB p).inn,.int .i64 (nB p).out,.int .i64 f.size],.int .i64 (inc (nB p).blocks.length),.int .i64 0]),h))→KK 3 [pA p,.int .i64 m] h=some (.ret (.bool true),h):=by
      intro W g k
      refine(r3 (W,⟨(nB p).inn,(nB p).out,f.size⟩,inc (nB p).blocks.length,0) p m (fun h=>k h) h).trans ?_
      rw [hl] at g
      rw [aw7 h5 hb1 (by rw [hl];exact g)];rfl
     obtain⟨W,hW,hW5,gW⟩:=Y3 h0 (by omega) (by omega) (f:=f)
     rcases (show m=0∨m=1∨m=2 by omega) with rfl | rfl | rfl
     ·exact good W gW fun h=>auG h0 (by omega) hf hW h
     ·exact good (rC W) (akW gW hW5) fun h=>auH h0 (by omega) hf hW (ai3 gW.len) h
     ·obtain⟨V,hV,gV⟩:=Zg h0 (by omega) (by omega) (f:=f)
      exact good V gV fun h=>aAS h0 (by omega) hf hV h
    ·exact bad e he fun h=>QH h0 (by omega) hf he hm h
   ·exact bad _ h0 fun h=>QG h0 hm h
  ·exact bad 2 (by decide) fun h=>akP hm h
theorem aBd (p:IR) (m:Int):Iq Tryz.prog nM 3 [.agg p.cells,.int .i64 m] []=some (.ret (.bool true),[]):=aiO rfl (c3 p m [])
end
end Go.Proofs.YtgllbnabmglcfaaGreatDoor
